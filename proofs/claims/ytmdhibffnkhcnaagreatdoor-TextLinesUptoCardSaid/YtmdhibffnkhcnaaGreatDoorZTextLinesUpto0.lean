/- parts of the proof, written short by a program of ours -/
import Derived.Orders
import Derived.Scope
import Derived.Below
import Derived.Laws.Sem
import Derived.Laws.World
import Derived.Laws.Cells
import Derived.Laws.Small
import Derived.Laws.Entries
import Derived.Laws.Strings
import Derived.Still
import Derived.Tactics
import Derived.Deep.Quiet
import Derived.RangeFuncIn
import Derived.TacticsIn
import Derived.Test.YtmdhibffnkhcnaaGreatDoorProg
import Derived.KernelRfl
import GoSem.Claims
import Derived.Laws.AppendOwnNone
import Derived.RangeFuncOwn
import Derived.RangeFuncLeaves
import Derived.WalkKit
import Derived.Laws.IdiomStrings
import Derived.Lib.AppendZeros
import Derived.MapKept
import Derived.ChangeKeysEq
import Derived.Laws.BytesArg
import Derived.Shelf.GgSortFunc.InsertionK
import Derived.Shelf.SlSortCmp.WholeK
import Derived.Shelf.SlSortCmp.NoneTotal
import Derived.Lib.Zigzag
import Derived.Laws.Cover3
import Derived.ProofKit
import Derived.Lib.SmallJoins
import Derived.Deep.Slices
import Derived.Lib.LaidU8
import Derived.Lib.LaidIn
import Derived.LaidHandle
import Derived.LaidMore
import Derived.MakeChecks
import Derived.OpenShut
import Derived.ShutString
import Derived.ChangeOld
import Derived.ChangeVars
import Derived.JoinedOf
import Derived.JoinedCond
import Derived.Deep.DeepHandedRow
import Derived.SevenTiedAt
set_option linter.unusedSimpArgs false
set_option linter.unusedVariables false
namespace Go.K
open Go
abbrev Env:=Nat->Value
abbrev Cont:=Value->World->Prop
abbrev EQ:=Exit->Env->World->Prop
def EC(n:Nat)(e:Env)(i:Nat)(v:Value):Env:=fun j=>bif Nat.beq j i&&Nat.blt i n then v else e j
def BG(n:Nat)(e:Env)(d:Option Nat)(v:Value):Env:=match d with|some i=>EC n e i v|none=>e
def ev(e:Env)(x:Operand):Value:=match x with
 |.tmp t=>e t | .const v=>v | .global g=>.pointer (some ⟨g,0,none⟩) | .func f=>.func (.func f) #[] #[]
def nth:List Value->Nat->Value
 |vs,0=>vs.headD undef
 |vs,k+1=>nth vs.tail k
structure Fr (ds:List Deferred) (n:Nat) (e:Env) (a:Act):Prop where
 size:a.tmps.size=n
 get:∀t,a.tmps.getD t undef=e t
 defers:a.defers=ds
theorem Fr.eval{ds:List Deferred}{n:Nat}{e:Env}{a:Act}(h:Fr ds n e a):a.eval=ev e:=by
 funext x;cases x with
 |tmp t=>exact h.get t
 |const v=>rfl
 |global g=>rfl
 |func f=>rfl
theorem Fr.put{ds:List Deferred}{n:Nat}{e:Env}{a:Act}(h:Fr ds n e a)(d:Option Nat)(v:Value):Fr ds n (BG n e d v) (a.put d v):=by
 cases d with
 |none=>exact h
 |some i=>
  refine⟨by simp[Act.put,h.size],fun t=>?_,h.defers⟩;have j:=h.get t;simp only[Act.put,BG,EC,Array.getD_eq_getD_getElem?,Array.getElem?_setIfInBounds,h.size];simp only[Array.getD_eq_getD_getElem?] at j;by_cases h1:i=t
  .subst h1;by_cases x:i<n
   .have o:Nat.blt i n=true:=Nat.ble_eq_true_of_le (by omega);simp[x,o]
   .have y:a.tmps[i]?=none:=Array.getElem?_eq_none (by rw[h.size];omega);have o:Nat.blt i n=false:=by
     cases hb:Nat.blt i n with
     |false=>rfl
     |true=>exact absurd (Nat.le_of_ble_eq_true hb) (by omega)
    rw[y] at j;simp[x,o,j]
  .have B:Nat.beq t i=false:=by
    cases hb:Nat.beq t i with
    |false=>rfl
    |true=>exact absurd (Nat.eq_of_beq_eq_true hb).symm h1
   simp[h1,B,j]
def AD(v:Value)(A B:Prop):Prop:=match v with|.bool true=>A|.bool false=>B|_=>False
def Kr(c a b:Value)(K:Value->Prop):Prop:=match c with|.bool true=>K a|.bool false=>K b|_=>False
def AX(k:IntKind)(x y:Value)(K:Value->Prop):Prop:=∃a b,x=.int k a/\y=.int k b/\K (.int k (k.wrap (a+b)))
def BX(k:IntKind)(x y:Value)(K:Value->Prop):Prop:=∃a b,x=.int k a/\y=.int k b/\K (.int k (k.wrap (a-b)))
def Yt(k:IntKind)(x y:Value)(K:Value->Prop):Prop:=∃a b,x=.int k a/\y=.int k b/\K (.int k (k.wrap (a*b)))
def Bc(k:IntKind)(x y:Value)(K:Value->Prop):Prop:=∃a b,x=.int k a/\y=.int k b/\K (.bool (decide (a<b)))
def Qj(k:IntKind)(x y:Value)(K:Value->Prop):Prop:=∃a b,x=.int k a/\y=.int k b/\K (.bool (decide (a<=b)))
def EX(k:IntKind)(x y:Value)(K:Value->Prop):Prop:=∃a b,x=.int k a/\y=.int k b/\K (.bool (decide (b<a)))
def LB(k:IntKind)(x y:Value)(K:Value->Prop):Prop:=∃a b,x=.int k a/\y=.int k b/\K (.bool (decide (b<=a)))
def DI(k:IntKind)(x y:Value)(K:Value->Prop):Prop:=∃a b,x=.int k a/\y=.int k b/\K (.bool (decide (a=b)))
def Dm(k:IntKind)(x y:Value)(K:Value->Prop):Prop:=∃a b,x=.int k a/\y=.int k b/\K (.bool (!decide (a=b)))
def ZI(x y:Value)(K:Value->Prop):Prop:=∃a b,x=.bool a/\y=.bool b/\K (.bool (a==b))
def TI(x y:Value)(K:Value->Prop):Prop:=∃a b,x=.bool a/\y=.bool b/\K (.bool (!(a==b)))
def Y2(x y:Value)(K:Value->Prop):Prop:=∃a b,x=.string a/\y=.string b/\K (.bool (decide (a=b)))
def af(x y:Value)(K:Value->Prop):Prop:=∃a b,x=.string a/\y=.string b/\K (.bool (!decide (a=b)))
def G1(x:Value)(K:Bool->Prop):Prop:=∃a n c,x=.slice a n c/\K (Option.isNone a)
def CX(x:Value)(K:Bool->Prop):Prop:=∃a,x=.pointer a/\K (Option.isNone a)
def Jr(k:IntKind)(x y:Value)(K:Value->Prop):Prop:=∃a b,x=.int k a/\y=.int k b/\K (.int k (if b>a then b else a))
def Jt(k:IntKind)(x y:Value)(K:Value->Prop):Prop:=∃a b,x=.int k a/\y=.int k b/\K (.int k (if b<a then b else a))
def Bt(x:Value)(K:Value->Prop):Prop:=∃a,x=.bool a/\K (.bool (!a))
def Al(x:Value)(K:Value->Prop):Prop:=∃a n c,x=.slice a n c/\K (.int .i64 n)
def Kk(x:Value)(K:Value->Prop):Prop:=∃s,x=.string s/\K (.int .i64 s.size)
def AJ(x:Value)(K:Value->Prop):Prop:=∃a,x=.pointer (some a)/\K x
def AM(off:Nat)(x:Value)(K:Value->Prop):Prop:=∃a,x=.pointer (some a)/\K (.pointer (some (a.add off)))
def Be(size:Nat)(x i:Value)(K:Value->Prop):Prop:=
 ∃a n c k j,x=.slice (some a) n c/\i=.int k j/\0<=j/\j<n/\K (.pointer (some (a.add (j.toNat*size))))
def AK(x:Value)(K:Cont)(w:World):Prop:=∃a v,x=.pointer (some a)/\w.cell? a=some v/\K v w
def Ac(k:Nat)(x:Value)(K:Cont)(w:World):Prop:=
 ∃a vs,x=.pointer (some a)/\List.length vs=k/\(∀j v,vs[j]?=some v->w.cell? (a.add j)=some v)/\K (.agg vs.toArray) w
def BC(x v:Value)(K:World->Prop)(w:World):Prop:=
 ∃a u,x=.pointer (some a)/\v.oneCell'=true/\v.cells=#[v]/\w.cell? a=some u/\w.frozen? a=false/\K (w.setCell a v)
def Du(w:World)(a:Addr):Nat->List Value->World
 |_,[]=>w
 |i,v::vs=>Du (w.setCell (a.add i) v) a (i+1) vs
def AY(k:Nat)(x v:Value)(K:World->Prop)(w:World):Prop:=
 ∃a vs,x=.pointer (some a)/\v=.agg (List.toArray vs)/\vs.length=k/\(∀v∈vs,v.oneCell'=true)/\
  (∀j,j<k->(w.cell? (a.add j)).isSome=true/\w.frozen? (a.add j)=false)/\K (Du w a 0 vs)
def An(t:TypeId)(cs:List Value)(K:Cont)(w:World):Prop:=K (.pointer (some ⟨w.heap.size,0,none⟩)) (w.alloc (.cells cs.toArray t))
def FH(t:TypeId)(x:Value)(K:Cont)(w:World):Prop:=x.cells=#[x]/\An t [x] K w
def Ba(t:TypeId)(x:Value)(K:Cont)(w:World):Prop:=∃vs,x=.agg (List.toArray vs)/\An t vs K w
def Af(places:List (Nat×Nat))(zero:List Value)(j:List (Nat×Value))(K:Value->Prop):Prop:=
 ∃cs,Instr.fill (fun i=>places[i]?) zero.toArray j=some cs/\K (.agg cs)
def Bh(e:TypeId)(size len:Nat)(zero:List Value)(j:List (Nat×Value))(K:Cont)(w:World):Prop:=
 ∃cs,Instr.fill (fun i=>some (i*size,size)) ((Array.range (len*size)).map (zero.toArray[· % zero.toArray.size]!)) j=some cs/\
  K (.slice (some ⟨w.heap.size,0,none⟩) len len) (w.alloc (.cells cs e))
def AO(i:Nat)(x:Value)(K:Value->Prop):Prop:=∃vs v,x=.tuple (List.toArray vs)/\vs[i]?=some v/\K v
def runK(P:Program)(s:Sem Value)(K:Cont)(w:World):Prop:=∃v w',s.run P w=.ok v w'/\K v w'
def AB(P:Program)(g:Nat)(args:List Value)(K:Cont)(w:World):Prop:=
 Calls P g args.toArray w fun e w'=>∃v,e=.returned v/\K v w'
def Ya(P:Program)(g:Nat)(args:List Value)(K:Cont)(w:World):Prop:=∃v w',(callFunc g args.toArray).run P w=.ok (.value v) w'/\K v w'
def BF(P:Program)(ok:Nat->Bool)(f:Value)(args:List Value)(K:Cont)(w:World):Prop:=
 ∃g i j,f=.func (.func g) (List.toArray i) (List.toArray j)/\ok g=true/\AB P g (i++args++j) K w
def Au(R:List Value->World->Prop)(G:(List Value->World->Prop)->Prop):Prop:=∃I:List Value->World->Prop,(∀vs w,I vs w->R vs w)/\G I
def Ay(i:List Value)(F:List Value->(List Value->World->Prop)->World->Prop)(w:World):Prop:=
 ∃(I:List Value->World->Prop) (μ:List Value->World->Nat),I i w/\∀vs w,I vs w->F vs (fun j w'=>I j w'/\μ j w'<μ vs w) w
def Gt(P:Program)(t:TypeId):Option (Bool×Nat):=
 match P.underlying t,P.info? t with
 |some (.struct _),some i=>some (true,i.size)
 |some (.array _ _),some i=>some (true,i.size)
 |some _,some i=>some (false,i.size)
 |_,_=>none
def zeroOf(P:Program)(t:TypeId):Option Value:=match P.info? t with|some i=>i.zero|none=>none
def Mz:Operand->Bool
 |.const (.slice none _ _)=>true
 |_=>false
def Ms:Operand->Bool
 |.const (.pointer none)=>true
 |_=>false
def BZ(op:BinOp)(t:TypeId)(xo yo:Operand)(x y:Value):Sem Value:=do eqGuard op t xo yo x y;binOp op t x y
def Lq(P:Program)(op:BinOp)(t:TypeId)(yo:Operand)(x y:Value)(K:Value->Prop)(F:Prop):Prop:=
 match P.underlying t with
 |some (.int k)=>match op with
  |.add=>AX k x y K | .sub=>BX k x y K | .mul=>Yt k x y K
  |.lss=>Bc k x y K | .leq=>Qj k x y K | .gtr=>EX k x y K | .geq=>LB k x y K
  |.eql=>DI k x y K | .neq=>Dm k x y K
  |_=>F
 |some .bool=>match op with
  |.eql=>ZI x y K | .neq=>TI x y K
  |_=>F
 |some .string=>match op with
  |.eql=>Y2 x y K | .neq=>af x y K
  |_=>F
 |some (.slice _)=>bif Mz yo then match op with
   |.eql=>G1 x fun b=>K (.bool b)
   |.neq=>G1 x fun b=>K (.bool (!b))
   |_=>F
  else F
 |some (.pointer _)=>bif Ms yo then match op with
   |.eql=>CX x fun b=>K (.bool b)
   |.neq=>CX x fun b=>K (.bool (!b))
   |_=>F
  else F
 |_=>F
def placesOf(P:Program)(j:List Field):Option (List (Nat×Nat)):=
 match j with
 |[]=>some []
 |f::r=>match P.info? f.type,placesOf P r with | some i,some l=>some ((f.offset,i.size)::l) | _,_=>none
def EY(P:Program)(ok:Nat->Bool)(o:Oper)(ρ:Operand->Value)(K:Cont)(w:World):Prop:=
 match o.op with
 |.move x=>K (ρ x) w
 |.assign x=>K (ρ x) w
 |.pick c a b=>Kr (ρ c) (ρ a) (ρ b) fun v=>K v w
 |.alloc t=>match zeroOf P t with | some z=>An t z.cells.toList K w | none=>False
 |.box t x=>match Gt P t with | some (false,_)=>FH t (ρ x) K w | some (true,_)=>Ba t (ρ x) K w | none=>False
 |.load t x=>match Gt P t with | some (false,_)=>AK (ρ x) K w | some (true,k)=>Ac k (ρ x) K w | none=>False
 |.store t a x=>match Gt P t with
  |some (false,k)=>bif Nat.beq k 1 then BC (ρ a) (ρ x) (fun w=>K undef w) w else False
  |some (true,k)=>AY k (ρ a) (ρ x) (fun w=>K undef w) w
  |none=>False
 |.nilCheck x=>AJ (ρ x) fun v=>K v w
 |.binOp op t x y _=>Lq P op t y (ρ x) (ρ y) (fun v=>K v w) (runK P (BZ op t x y (ρ x) (ρ y)) K w)
 |.unOp .not _ x=>Bt (ρ x) fun v=>K v w
 |.unOp op _ x=>runK P (Op.unary op (ρ x)) K w
 |.fieldAddr s x f=>match P.underlying s with
  |some (.struct B)=>match B.toList[f]? with
   |some f=>match P.info? f.type with
    |some i=>bif Nat.beq i.size 0 then False else AM f.offset (ρ x) fun v=>K v w
    |none=>False
   |none=>False
  |_=>False
 |.indexAddr t x i=>match P.underlying t with
  |some (.slice e)=>match P.info? e with | some f=>Be f.size (ρ x) (ρ i) fun v=>K v w | none=>False
  |_=>runK P (Instr.indexAt t (ρ x) (ρ i)) K w
 |.build t j=>match P.underlying t,zeroOf P t with
  |some (.struct B),some z=>match placesOf P B.toList with
   |some l=>Af l z.cells.toList (j.toList.map fun p=>(p.1,ρ p.2)) fun v=>K v w
   |none=>False
  |_,_=>runK P (Instr.build t (j.toList.map fun p=>(p.1,ρ p.2)).toArray) K w
 |.buildSlice t len j=>match P.underlying t with
  |some (.slice e)=>match P.info? e with
   |some i=>bif Nat.blt 0 (len*i.size)&&Nat.ble (len*i.size) 1000000 then
     match i.zero with|some z=>Bh e i.size len z.cells.toList (j.toList.map fun p=>(p.1,ρ p.2)) K w|none=>False
    else bif Nat.beq (len*i.size) 0 then Bh e i.size len [] (j.toList.map fun p=>(p.1,ρ p.2)) K w else False
   |none=>False
  |_=>False
 |.extract t i=>AO i (ρ t) fun v=>K v w
 |.makeFunc fn E I=>K (.func fn (E.toList.map ρ).toArray (I.toList.map ρ).toArray) w
 |.convert s d x=>runK P (convert s d (ρ x)) K w
 |.slice t x lo J O=>runK P (Instr.sliceAt t (ρ x) (lo.map ρ) (J.map ρ) (O.map ρ)) K w
 |.field t x f=>runK P (Instr.field t (ρ x) f) K w
 |.index t x i=>runK P (Instr.index t (ρ x) (ρ i)) K w
 |.makeMap t r=>runK P (Instr.makeMap t (r.map ρ)) K w
 |.makeSlice t l c=>runK P (Instr.makeSlice t (ρ l) (ρ c)) K w
 |.makeInterface t x=>runK P (Instr.makeInterface t (ρ x)) K w
 |.lookup t x i b=>runK P (Instr.lookup t (ρ x) (ρ i) b) K w
 |.mapUpdate t m k x=>runK P (do Instr.mapUpdate t (ρ m) (ρ k) (ρ x);pure undef) K w
 |.insert t m k x=>runK P (do Instr.mapUpdate t (ρ m) (ρ k) (ρ x);pure undef) K w
 |.mapEntry t m k=>runK P (Instr.mapEntry t (ρ m) (ρ k)) K w
 |.entryStore t m s x=>runK P (do Instr.entryStore t (ρ m) (ρ s) (ρ x);pure undef) K w
 |.range t x=>runK P (Instr.range t (ρ x)) K w
 |.next it s=>runK P (Instr.next (ρ it) s o.type) K w
 |.entry it=>runK P (Instr.entry (ρ it)) K w
 |.typeAssert x Q at_ b=>runK P (Instr.typeAssert (ρ x) Q at_ b) K w
 |.call c=>match c.callee with
  |.value (.func g)=>bif ok g then AB P g (c.args.toList.map ρ) K w else Ya P g (c.args.toList.map ρ) K w
  |.value f=>BF P ok (ρ f) (c.args.toList.map ρ) K w
  |.builtin .len=>match c.argTypes.toList,c.args.toList with
   |[t],[x]=>match P.underlying t with
    |some (.slice _)=>Al (ρ x) fun v=>K v w
    |some .string=>Kk (ρ x) fun v=>K v w
    |_=>runK P (Builtin.len_ c.argTypes o.type #[ρ x]) K w
   |_,_=>False
  |.builtin .append=>runK P (Builtin.append_ c.argTypes o.type (c.args.toList.map ρ).toArray) K w
  |.builtin .copy=>runK P (Builtin.copy_ c.argTypes o.type (c.args.toList.map ρ).toArray) K w
  |.builtin .cap=>runK P (Builtin.cap_ c.argTypes o.type (c.args.toList.map ρ).toArray) K w
  |.builtin .max=>match P.underlying o.type,c.args.toList with
   |some (.int k),[x,y]=>Jr k (ρ x) (ρ y) fun v=>K v w
   |_,_=>runK P (Builtin.max_ c.argTypes o.type (c.args.toList.map ρ).toArray) K w
  |.builtin .min=>match P.underlying o.type,c.args.toList with
   |some (.int k),[x,y]=>Jt k (ρ x) (ρ y) fun v=>K v w
   |_,_=>runK P (Builtin.min_ c.argTypes o.type (c.args.toList.map ρ).toArray) K w
  |.builtin .clear=>runK P (Builtin.clear_ c.argTypes o.type (c.args.toList.map ρ).toArray) K w
  |.builtin .delete=>runK P (Builtin.delete_ c.argTypes o.type (c.args.toList.map ρ).toArray) K w
  |_=>False
 |_=>False
def CD(P:Program)(ok:Nat->Bool):Prop:=∀g,ok g=true->∀args w,(callFunc g args).run P w=.ok (.enter g args) w
section
variable {P:Program}{ok:Nat->Bool}{K:Cont}{w:World}
theorem D8{t:TypeId}{b:Bool}{k:Nat}(h:Gt P t=some (b,k))(w:World):(isAgg t).run P w=.ok b w/\(sizeOf t).run P w=.ok k w:=by
 unfold Gt at h;unfold isAgg sizeOf underlying typeInfo;simp only[Sem.run_bind,run_program,Result.andThen_ok];revert h
 cases hu:P.underlying t with
 |none=>simp
 |some d=>cases j:P.info? t with
  |none=>cases d<;>simp
  |some i=>cases d<;>simp +contextual [Sem.run_pure]
theorem run_typeInfo{t:TypeId}{i:TypeInfo}(h:P.info? t=some i)(w:World):(typeInfo t).run P w=.ok i w:=by
 simp[typeInfo,h]
theorem run_underlying{t:TypeId}{d:TypeDesc}(h:P.underlying t=some d)(w:World):(underlying t).run P w=.ok d w:=by
 simp[underlying,h]
theorem run_sizeOf{t:TypeId}{i:TypeInfo}(h:P.info? t=some i)(w:World):(sizeOf t).run P w=.ok i.size w:=by
 simp[sizeOf,run_typeInfo h]
theorem Dk{t:TypeId}{z:Value}(h:zeroOf P t=some z)(w:World):(zeroValue t).run P w=.ok z w:=by
 unfold zeroOf at h;cases j:P.info? t with
 |none=>simp[j] at h
 |some i=>simp only[j] at h;simp[zeroValue,run_typeInfo j,h]
theorem QZ{t:TypeId}{k:Nat}{x:Value}(ha:Gt P t=some (false,k))(h:AK x K w):runK P (Instr.loadAt t x) K w:=by
 obtain⟨a,v,rfl,hc,i⟩:=h;exact⟨v,w,by simp[Instr.loadAt,Instr.sureAddr,loadVar,(D8 ha w).1,hc],i⟩
theorem QI{t:TypeId}{k:Nat}{x:Value}(ha:Gt P t=some (true,k))(h:Ac k x K w):runK P (Instr.loadAt t x) K w:=by
 obtain⟨a,vs,rfl,hl,hc,j⟩:=h;refine⟨_,w,?_,j⟩;have i:=run_loadCells_list (P:=P) (w:=w) a vs hc;simp only[Instr.loadAt,Instr.sureAddr,loadVar,Sem.run_bind,Sem.run_pure,Result.andThen_ok,(D8 ha w).1,(D8 ha w).2,if_true];rw[<-hl,i];rfl
theorem Ou(a:Addr):∀(vs:List Value) (i:Nat) (w:World),(∀v∈vs,v.oneCell'=true)->
  (∀j,i<=j->j<i+vs.length->(w.cell? (a.add j)).isSome=true/\w.frozen? (a.add j)=false)->
  (storeCells a vs i).run P w=.ok () (Du w a i vs):=by
 intro vs;induction vs with
 |nil=>intro i w _ _;simp[storeCells,Du]
 |cons v vs I=>
  intro i w h1 y;have B:=y i (Nat.le_refl _) (by simp);obtain⟨u,hu⟩:=Option.isSome_iff_exists.1 B.1;simp only[storeCells,Sem.run_bind,run_store P w _ v .plain (h1 v (by simp)),hu,B.2,Du];simp only[Bool.false_eq_true,if_false,Result.andThen_ok];refine I (i+1) _ (fun v J=>h1 v (by simp[J])) (fun j O o=>?_);have E:=y j (by omega) (by simp at o ⊢;omega);refine⟨?_,by rw[World.frozen?_setCell];exact E.2⟩;obtain⟨Q,x⟩:=Option.isSome_iff_exists.1 E.1;by_cases he:a.add i=a.add j
  .rw[<-he,World.cell?_setCell_same w _ v hu];rfl
  .rw[World.cell?_setCell_other w _ _ v he,x];rfl
end
end Go.K
namespace Go.K
open Go
section
variable {P:Program}{ok:Nat->Bool}{K:Cont}{w:World}
def ZL(P:Program)(s:Sem Unit)(K:World->Prop)(w:World):Prop:=∃w',s.run P w=.ok () w'/\K w'
theorem WR{t:TypeId}{x v:Value}{K:World->Prop}(ha:Gt P t=some (false,1))(h:BC x v K w):ZL P (Instr.storeAt t x v) K w:=by
 obtain⟨a,u,rfl,h1,hc,hu,j,o⟩:=h;refine⟨_,?_,o⟩;have i:v.cells.toList=[v]:=by rw[hc]
 have y:v.cells.size=1:=by rw[hc];rfl
 simp only[Instr.storeAt,Instr.sureAddr,storeVar,Sem.run_bind,Sem.run_pure,Result.andThen_ok,(D8 ha w).2,y];simp only[ne_eq,not_true_eq_false,if_false,Sem.run_bind,Sem.run_pure,i,storeCells,run_store P w _ v .plain h1,Addr.add_zero',hu,j];simp
theorem XY{t:TypeId}{k:Nat}{x v:Value}{K:World->Prop}(ha:Gt P t=some (true,k))(h:AY k x v K w):ZL P (Instr.storeAt t x v) K w:=by
 obtain⟨a,vs,rfl,rfl,hl,h1,hc,i⟩:=h;refine⟨_,?_,i⟩;simp only[Instr.storeAt,Instr.sureAddr,storeVar,Sem.run_bind,Sem.run_pure,Result.andThen_ok,(D8 ha w).2,Value.cells,List.size_toArray,hl];simp only[ne_eq,not_true_eq_false,if_false];exact Ou a vs 0 w h1 (fun j _ o=>hc j (by omega))
theorem Mb{t:TypeId}{cs:List Value}{v:Value}(i:v.cells=cs.toArray)(h:An t cs K w) :
  runK P (do pure (.pointer (some (<- newVar t v)))) K w:=by
 refine⟨_,_,?_,h⟩;simp[newVar,newRow,i]
theorem SA{t:TypeId}{z:Value}(i:zeroOf P t=some z)(h:An t z.cells.toList K w):runK P (Instr.alloc t true (.tuple #[])) K w:=by
 obtain⟨v,w',h1,j⟩:=Mb (P:=P) (v:=z) (by simp) h;refine⟨v,w',?_,j⟩;simp only[Instr.alloc,Sem.run_bind,Dk i,Result.andThen_ok];simpa using h1
theorem U9{t:TypeId}{x:Value}(h:FH t x K w):runK P (Instr.box t x) K w:=Mb (v:=x) (by rw[h.1]) h.2
theorem UC{t:TypeId}{x:Value}(h:Ba t x K w):runK P (Instr.box t x) K w:=by
 obtain⟨vs,rfl,h⟩:=h;exact Mb (v:=.agg vs.toArray) rfl h
theorem Sn{s:TypeId}{x:Value}{f:Nat}{o:Array Field}{j:Field}{i:TypeInfo}(hu:P.underlying s=some (.struct o))(I:o.toList[f]?=some j)
 (J:P.info? j.type=some i)(E:Nat.beq i.size 0=false)(h:AM j.offset x fun v=>K v w):runK P (Instr.fieldAt s x f) K w:=by
 obtain⟨a,rfl,O⟩:=h;refine⟨_,w,?_,O⟩;have y:o[f]?=some j:=by rw[<-Array.getElem?_toList];exact I
 have B:i.size≠0:=by intro e;rw[e] at E;exact absurd E (by decide)
 simp[Instr.fieldAt,run_underlying hu,y,Instr.sureAddr,fieldPlace,run_sizeOf J,B]
theorem T6{t e:TypeId}{x i:Value}{f:TypeInfo}(hu:P.underlying t=some (.slice e))(o:P.info? e=some f)
 (h:Be f.size x i fun v=>K v w):runK P (Instr.indexAt t x i) K w:=by
 obtain⟨a,n,c,k,j,rfl,rfl,h0,h1,y⟩:=h;refine⟨_,w,?_,y⟩;simp[Instr.indexAt,asIntOf,run_underlying hu,h0,h1,run_sizeOf o]
theorem QA:∀(j:List Field) (l:List (Nat×Nat)),placesOf P j=some l->∀w:World,
  (j.mapM (fun f=>Functor.map (Prod.mk f.offset) (sizeOf f.type)):Sem (List (Nat×Nat))).run P w=.ok l w:=by
 intro j;induction j with
 |nil=>intro l h w;simp only[placesOf,Option.some.injEq] at h;subst h;simp
 |cons f r x=>
  intro l h w;simp only[placesOf] at h;cases o:P.info? f.type with
  |none=>simp[o] at h
  |some i=>
   cases hr:placesOf P r with
   |none=>simp[o,hr] at h
   |some y=>
    simp only[o,hr,Option.some.injEq] at h;subst h;simp[List.mapM_cons,run_sizeOf o,x y hr]
theorem Lz{t:TypeId}{o:Array Field}{z:Value}{l:List (Nat×Nat)}{j:List (Nat×Value)}(hu:P.underlying t=some (.struct o))(y:zeroOf P t=some z)
 (hl:placesOf P o.toList=some l)(h:Af l z.cells.toList j fun v=>K v w):runK P (Instr.build t j.toArray) K w:=by
 obtain⟨cs,x,B⟩:=h;refine⟨_,w,?_,B⟩;have hm:(o.mapM (fun f=>do pure (f.offset,<-sizeOf f.type)):Sem (Array (Nat×Nat))).run P w=.ok l.toArray w:=by
  rw[Array.mapM_eq_mapM_toList];have:=QA o.toList l hl w;simp only[Sem.run_map,bind_pure_comp,this];rfl
 simp only[Instr.build,Sem.run_bind,Dk y,Result.andThen_ok,run_underlying hu,hm];simp only[Array.toArray_toList] at x;have E:(fun i:Nat=>l.toArray[i]?)=fun i=>l[i]?:=by funext i;simp
 rw[E,x];rfl
theorem Vv{t e:TypeId}{len:Nat}{i:TypeInfo}{z:Value}{j:List (Nat×Value)}(hu:P.underlying t=some (.slice e))(x:P.info? e=some i)(B:i.zero=some z)
 (hb:(Nat.blt 0 (len*i.size)&&Nat.ble (len*i.size) 1000000)=true)(h:Bh e i.size len z.cells.toList j K w):runK P (Instr.buildSlice t len j.toArray) K w:=by
 obtain⟨cs,y,E⟩:=h;refine⟨_,_,?_,E⟩;simp only[Bool.and_eq_true] at hb;have h1:¬len*i.size>2 ^ 24:=by have:=Nat.le_of_ble_eq_true hb.2;omega
 have I:¬len*i.size=0:=by have:=Nat.le_of_ble_eq_true hb.1;omega
 simp only[Instr.buildSlice,Sem.run_bind,run_underlying hu,run_sizeOf x,Result.andThen_ok,h1,I,if_false,Sem.run_pure];simp only[Array.toArray_toList] at y;have o:zeroOf P e=some z:=by simp[zeroOf,x,B]
 simp only[Dk o,Result.andThen_ok,y];simp[newRow]
theorem T0{t e:TypeId}{len:Nat}{i:TypeInfo}{j:List (Nat×Value)}(hu:P.underlying t=some (.slice e))(y:P.info? e=some i)
 (hb:Nat.beq (len*i.size) 0=true)(h:Bh e i.size len [] j K w):runK P (Instr.buildSlice t len j.toArray) K w:=by
 obtain⟨cs,o,B⟩:=h;refine⟨_,_,?_,B⟩;have x:len*i.size=0:=Nat.eq_of_beq_eq_true hb;have h1:¬len*i.size>2 ^ 24:=by omega
 simp only[x] at o;simp only[Instr.buildSlice,Sem.run_bind,run_underlying hu,run_sizeOf y,Result.andThen_ok,h1,if_false];simp only[x,if_true,Sem.run_bind,Sem.run_pure,Result.andThen_ok,o];simp[newRow]
theorem QT{i:Array TypeId}{ty t e:TypeId}{x:Value}(ht:i.toList=[t])(hu:P.underlying t=some (.slice e))(h:Al x fun v=>K v w):runK P (Builtin.len_ i ty #[x]) K w:=by
 obtain⟨a,n,c,rfl,o⟩:=h;refine⟨_,w,?_,o⟩;have j:i=#[t]:=by rw[<-Array.toArray_toList (xs:=i),ht]
 subst j;simp[Builtin.len_,run_underlying hu,goInt]
theorem Na{i:Array TypeId}{ty t:TypeId}{x:Value}(ht:i.toList=[t])(hu:P.underlying t=some .string)(h:Kk x fun v=>K v w):runK P (Builtin.len_ i ty #[x]) K w:=by
 obtain⟨s,rfl,o⟩:=h;refine⟨_,w,?_,o⟩;have j:i=#[t]:=by rw[<-Array.toArray_toList (xs:=i),ht]
 subst j;simp[Builtin.len_,run_underlying hu,goInt]
theorem RA{x:Value}{i:Nat}(h:AO i x fun v=>K v w):runK P (Instr.extract x i) K w:=by
 obtain⟨vs,v,rfl,j,o⟩:=h;exact⟨v,w,by simp[Instr.extract,j],o⟩
theorem toList_beq(a b:ByteArray):(a.toList==b.toList)=decide (a=b):=by
 by_cases h:a=b
 .subst h;simp
 .have:¬a.toList=b.toList:=by
   intro e;apply h;rw[ByteArray.toList_eq,ByteArray.toList_eq] at e;cases a;cases b;simp at e;simp[e]
  simp[h,this]
theorem JV(d:Nat){t e:TypeId}(hu:P.underlying t=some (.slice e))(a:Option Addr)(n c i j:Nat)(w:World) :
  (Op.equalIn (d+1) t (.slice a n c) (.slice none i j)).run P w=.ok a.isNone w:=by
 cases a<;>simp[Op.equalIn,run_underlying hu]
theorem JM(d:Nat){t e:TypeId}(hu:P.underlying t=some (.pointer e))(a:Option Addr)(w:World) :
  (Op.equalIn (d+1) t (.pointer a) (.pointer none)).run P w=.ok a.isNone w:=by
 cases a<;>simp[Op.equalIn,run_underlying hu]
theorem HC{t e:TypeId}(hu:P.underlying t=some (.slice e))(a:Option Addr)(n c i j:Nat)(w:World) :
  (Op.equal t (.slice a n c) (.slice none i j)).run P w=.ok a.isNone w:=JV 9999 hu a n c i j w
theorem G9{t e:TypeId}(hu:P.underlying t=some (.pointer e))(a:Option Addr)(w:World) :
  (Op.equal t (.pointer a) (.pointer none)).run P w=.ok a.isNone w:=JM 9999 hu a w
theorem NL{op : BinOp}{t : TypeId}{xo yo : Operand}{x y : Value}{F : Prop}(I : ∀v, yo = .const v -> y = v)(h : Lq P op t yo x y (fun v => K v w) F)
   (B : F -> runK P (do eqGuard op t xo yo x y; binOp op t x y) K w) : runK P (do eqGuard op t xo yo x y; binOp op t x y) K w := by
  unfold Lq at h;cases hu : P.underlying t with
  |none => simp only[hu] at h; exact B h
  |some d =>
    simp only[hu] at h;cases d with
    |int k =>
      cases op<;>simp only at h<;>first
        |exact B h
        | (obtain ⟨a, b, rfl, rfl, i⟩ := h
           refine⟨_, w, ?_, i⟩;simp[eqGuard_at_int, binOp, Op.intArith, Op.intCmp]
           done)
        | (obtain ⟨a, b, rfl, rfl, i⟩ := h
           refine ⟨_, w, ?_, i⟩;simp [eqGuard_at_int, binOp, Op.intCmp];first | done | (by_cases E : a = b <;> simp [E]))
    |bool =>
      cases op<;>simp only at h<;>first
        |exact B h
        | (obtain ⟨a, b, rfl, rfl, i⟩ := h
           refine ⟨_, w, ?_, i⟩;simp [eqGuard_at_bool, run_eql_bool w t a b hu, run_neq_bool w t a b hu])
    |string =>
      cases op<;>simp only at h<;>first
        |exact B h
        | (obtain ⟨a, b, rfl, rfl, i⟩ := h
           refine ⟨_, w, ?_, i⟩;simp [eqGuard_at_string, binOp, Op.stringOp, toList_beq])
    |slice e =>
      cases j : Mz yo with
      |false => simp only[j, cond_false] at h; exact B h
      |true =>
        simp only[j, cond_true] at h;have o : ∃n c, y = .slice none n c := by
          unfold Mz at j; split at j
          . exact⟨_, _, I _ rfl⟩
          . cases j
        cases op<;>simp only at h<;>first
          |exact B h
          | (obtain ⟨a, i⟩ := h
             first
               | (obtain ⟨n, c, rfl, i⟩ := i
                  refine⟨_, w, ?_, i⟩;obtain⟨J, O, rfl⟩ := o;simp[eqGuard_at_slice, binOp, HC hu]
                  done)
               | (obtain ⟨rfl, i⟩ := i
                  refine⟨_, w, ?_, i⟩;subst o;simp[eqGuard_at_slice, binOp, HC hu]
                  done))
    |pointer e =>
      cases j : Ms yo with
      |false => simp only[j, cond_false] at h; exact B h
      |true =>
        simp only[j, cond_true] at h;have o : y = .pointer none := by
          unfold Ms at j; split at j
          . exact I _ rfl
          . cases j
        cases op<;>simp only at h<;>first
          |exact B h
          | (obtain ⟨a, i⟩ := h
             first
               | (obtain ⟨n, c, rfl, i⟩ := i
                  refine⟨_, w, ?_, i⟩;obtain⟨J, O, rfl⟩ := o;simp[eqGuard_at_pointer, binOp, G9 hu]
                  done)
               | (obtain ⟨rfl, i⟩ := i
                  refine⟨_, w, ?_, i⟩;subst o;simp[eqGuard_at_pointer, binOp, G9 hu]
                  done))
    |_ => exact B h
end
end Go.K
namespace Go.K
open Go
section
variable {P:Program}{ok:Nat->Bool}{K:Cont}{w:World}
def EL(w0:World)(r:Result Next)(K:Cont)(P:Program):Prop:=
 match r with
 |.ok (.value v) w'=>K v w'
 |.ok .skip w'=>K undef w'
 |.ok (.enter f args) w'=>w'=w0/\Calls P f args w0 fun e i=>∃v,e=.returned v/\K v i
 |_=>False
theorem NI{o:Oper}{a:Act}{next:Act->World->Prop}{Q:Exit->Act->World->Prop}{r:Result Next}
 (h:EL w r K P)(i:∀v w',K v w'->next (a.put o.dst v) w'):o.upon P a next Q r:=by
 match r,h with
 |.ok (.value v) w',h=>exact i _ _ h
 |.ok .skip w',h=>exact i _ _ h
 |.ok (.enter f args) w',h=>
  obtain⟨rfl,h⟩:=h;exact Calls.mono h fun e j ⟨v,he,x⟩=>by subst he;exact i _ _ x
theorem Df{s:Sem Value}(h:runK P s K w):EL w ((do pure (Next.value (<- s)):Sem Next).run P w) K P:=by
 obtain⟨v,w',h1,i⟩:=h;simp only[Sem.run_bind,h1,Result.andThen_ok,Sem.run_pure];exact i
theorem cN{s:Sem Unit}(h:ZL P s (fun w=>K undef w) w):EL w ((do s;pure Next.skip:Sem Next).run P w) K P:=by
 obtain⟨w',h1,i⟩:=h;simp only[Sem.run_bind,h1,Result.andThen_ok,Sem.run_pure];exact i
theorem T9{s:Sem Unit}(h:runK P (do s;pure undef) K w):EL w ((do s;pure Next.skip:Sem Next).run P w) K P:=by
 obtain⟨v,w',h1,i⟩:=h;simp only[Sem.run_bind,Sem.run_pure] at h1 ⊢;revert h1
 cases s.run P w with
 |halt x j=>intro h1;exact absurd h1 (by simp)
 |ok u j=>intro h1;simp at h1;obtain⟨rfl,rfl⟩:=h1;exact i
theorem FE(ρ:Operand->Value)(xs:Array Operand):xs.map ρ=(xs.toList.map ρ).toArray:=by
 apply Array.toList_inj.1;simp
theorem Je(ρ:Operand->Value)(xs:Array (Nat×Operand)):(xs.map fun(i,x)=>(i,ρ x))=(xs.toList.map fun p=>(p.1,ρ p.2)).toArray:=by
 apply Array.toList_inj.1;simp
theorem XN(i:CD P ok){g:Nat}{args:List Value}(j:ok g=true)(h:AB P g args K w) :
  EL w ((callFunc g args.toArray).run P w) K P:=by
 rw[i g j];exact⟨rfl,h⟩
set_option maxHeartbeats 1000000 in
theorem H7(a1:CD P ok){o:Oper}{ρ:Operand->Value}(a6:∀v,ρ (.const v)=v)(V:∀f,ρ (.func f)=.func (.func f) #[] #[])(h:EY P ok o ρ K w) :
  EL w ((execOp ρ o).run P w) K P:=by
 obtain⟨S,op,j,pos,after,guard⟩:=o;cases op with
 |move x=>exact h
 |assign x=>exact h
 |pick c a b=>
  simp only[EY,Kr] at h;simp only[execOp];cases hc:ρ c with
  |bool t=>cases t<;>simp only[hc] at h<;>simpa[asBool,EL] using h
  |_=>simp only[hc] at h
 |alloc t=>
  simp only[EY] at h;split at h
  .rename_i z T;exact Df (SA T h)
  .exact h.elim
 |box t x=>
  simp only[EY] at h;split at h
  .exact Df (U9 h)
  .exact Df (UC h)
  .exact h.elim
 |load t x=>
  simp only[EY] at h;split at h
  .rename_i ha;exact Df (QZ ha h)
  .rename_i ha;exact Df (QI ha h)
  .exact h.elim
 |store t a x=>
  simp only[EY] at h;split at h
  .rename_i k ha;cases hk:Nat.beq k 1 with
   |false=>simp only[hk,cond_false] at h
   |true=>
    simp only[hk,cond_true] at h;rw[Nat.eq_of_beq_eq_true hk] at ha;exact cN (WR ha h)
  .rename_i ha;exact cN (XY ha h)
  .exact h.elim
 |nilCheck x=>
  simp only[EY] at h;obtain⟨a,h1,O⟩:=h;simp only[execOp,h1];rw[h1] at O;exact O
 |binOp op t x y yt=>
  simp only[EY] at h;exact Df (NL (xo:=x) (fun v hv=>by rw[hv,a6]) h (fun hF=>hF))
 |unOp op t x=>
  simp only[EY] at h;cases op with
  |plus=>exact Df h
  |not=>
   obtain⟨a,h1,O⟩:=h;exact Df ⟨_,w,by simp[Op.unary,h1],O⟩
  |neg=>exact Df h
  |xor=>exact Df h
 |fieldAddr s x f=>
  simp only[EY] at h;split at h
  .rename_i fs hu;split at h
   .rename_i fd hf;split at h
    .rename_i i X;cases T:Nat.beq i.size 0 with
     |true=>simp only[T,cond_true] at h
     |false=>
      simp only[T,cond_false] at h;exact Df (Sn hu hf X T h)
    .exact h.elim
   .exact h.elim
  .exact h.elim
 |indexAddr t x i=>
  simp only[EY] at h;split at h
  .rename_i e hu;split at h
   .rename_i f X;exact Df (T6 hu X h)
   .exact h.elim
  .exact Df h
 |build t B=>
  simp only[EY] at h;have e1:(execOp ρ ⟨S,.build t B,j,pos,after,guard⟩)=(do pure (Next.value (<- Instr.build t (B.toList.map fun p=>(p.1,ρ p.2)).toArray)):Sem Next):=by
   simp only[execOp];rw[Je]
  rw[e1];split at h
  .rename_i fs z hu T;split at h
   .rename_i l hl;exact Df (Lz hu T hl h)
   .exact h.elim
  .exact Df h
 |buildSlice t len B=>
  simp only[EY] at h;have e1:(execOp ρ ⟨S,.buildSlice t len B,j,pos,after,guard⟩)=(do pure (Next.value (<- Instr.buildSlice t len (B.toList.map fun p=>(p.1,ρ p.2)).toArray)):Sem Next):=by
   simp only[execOp];rw[Je]
  rw[e1];split at h
  .rename_i e hu;split at h
   .rename_i i X;cases hb:(Nat.blt 0 (len*i.size)&&Nat.ble (len*i.size) 1000000) with
    |true=>
     simp only[hb,cond_true] at h;split at h
     .rename_i z T;exact Df (Vv hu X T hb h)
     .exact h.elim
    |false=>
     simp only[hb,cond_false] at h;cases Y:Nat.beq (len*i.size) 0 with
     |true=>simp only[Y,cond_true] at h;exact Df (T0 hu X Y h)
     |false=>simp only[Y,cond_false] at h
   .exact h.elim
  .exact h.elim
 |extract t i=>exact Df (RA h)
 |makeFunc fn E I=>
  simp only[EY] at h;simp only[execOp,Instr.makeFunc,FE];exact h
 |convert s d x=>exact Df h
 |slice t x lo X mx=>exact Df h
 |field t x f=>exact Df h
 |index t x i=>exact Df h
 |makeMap t r=>exact Df h
 |makeSlice t l c=>exact Df h
 |makeInterface t x=>exact Df h
 |lookup t x i b=>exact Df h
 |mapUpdate t m k x=>exact T9 h
 |insert t m k x=>exact T9 h
 |mapEntry t m k=>exact Df h
 |entryStore t m s x=>exact T9 h
 |range t x=>exact Df h
 |next it s=>exact Df h
 |entry it=>exact Df h
 |typeAssert x xt at_ b=>exact Df h
 |call c=>
  obtain⟨J,args,Q⟩:=c;have hb:∀(b:Builtin) (s:Array Value->Sem Value),J=.builtin b->(∀cs xs,builtin b Q j cs xs=(do pure (Next.value (<- s xs))))->
    runK P (s (args.toList.map ρ).toArray) K w->EL w ((execOp ρ ⟨S,.call ⟨J,args,Q⟩,j,pos,after,guard⟩).run P w) K P:=by
   intro b s hc hs hr;subst hc;simp only[execOp,resolve,pure_bind,invoke,hs,FE];exact Df hr
  cases J with
  |value f=>
   have hv:∀g E I,ρ f=.func (.func g) (List.toArray E) (List.toArray I)->ok g=true->AB P g (E++args.toList.map ρ++I) K w->
     EL w ((execOp ρ ⟨S,.call ⟨.value f,args,Q⟩,j,pos,after,guard⟩).run P w) K P:=by
    intro g E I hf hg hc;simp only[execOp,resolve,hf,Deferred.ofValue,pure_bind,invoke,FE];have:=XN a1 hg hc;simpa using this
   cases f with
   |func g=>
    simp only[EY] at h;cases hg:ok g with
    |false=>
     simp only[hg,cond_false] at h;obtain⟨v,w',h1,O⟩:=h;have e1:(execOp ρ ⟨S,.call ⟨.value (.func g),args,Q⟩,j,pos,after,guard⟩)=callFunc g (args.toList.map ρ).toArray:=by
      simp[execOp,resolve,V,Deferred.ofValue,invoke,FE]
     rw[e1,h1];exact O
    |true=>
     simp only[hg,cond_true] at h;exact hv g [] [] (V g) hg (by simpa using h)
   |tmp t=>obtain⟨g,E,I,h1,O,U⟩:=h;exact hv g E I h1 O U
   |const v=>obtain⟨g,E,I,h1,O,U⟩:=h;exact hv g E I h1 O U
   |global g=>obtain⟨g,E,I,h1,O,U⟩:=h;exact hv g E I h1 O U
  |invoke r m=>exact h.elim
  |builtin b=>
   cases b<;>first
    |exact h.elim
    |exact hb _ _ rfl (fun _ xs=>rfl) h
    |skip
   case max=>
    simp only[EY] at h;split at h
    .rename_i k x y hk hx;obtain⟨p,q,h1,O,U⟩:=h;refine hb .max _ rfl (fun _ xs=>rfl) ⟨_,w,?_,U⟩;rw[hx];simp only[List.map_cons,List.map_nil,h1,O];exact run_max_int2 w Q j k k p q
    .exact hb .max _ rfl (fun _ xs=>rfl) h
   case min=>
    simp only[EY] at h;split at h
    .rename_i k x y hk hx;obtain⟨p,q,h1,O,U⟩:=h;refine hb .min _ rfl (fun _ xs=>rfl) ⟨_,w,?_,U⟩;rw[hx];simp only[List.map_cons,List.map_nil,h1,O];exact run_min_int2 w Q j k k p q
    .exact hb .min _ rfl (fun _ xs=>rfl) h
   simp only[EY] at h;split at h
   .rename_i t x ht hx;have Z:(args.toList.map ρ).toArray=#[ρ x]:=by rw[hx];rfl
    refine hb .len _ rfl (fun _ xs=>rfl) ?_;rw[Z];split at h
    .rename_i hu;exact QT ht hu h
    .rename_i hu;exact Na ht hu h
    .exact h
   .exact h.elim
 |_=>exact h.elim
def GU(P:Program)(op:BinOp)(t:TypeId)(yo:Operand):Bool:=
 match P.underlying t with
 |some (.int _)=>match op with | .add | .sub | .mul | .lss | .leq | .gtr | .geq | .eql | .neq=>true | _=>false
 |some .bool=>match op with | .eql | .neq=>true | _=>false
 |some .string=>match op with | .eql | .neq=>true | _=>false
 |some (.slice _)=>Mz yo&&(match op with | .eql | .neq=>true | _=>false)
 |some (.pointer _)=>Ms yo&&(match op with | .eql | .neq=>true | _=>false)
 |_=>false
def CJ(P:Program)(o:Oper):Bool:=
 match o.op with
 |.move _=>true | .assign _=>true | .pick _ _ _=>true | .nilCheck _=>true | .extract _ _=>true
 |.fieldAddr _ _ _=>true
 |.unOp .not _ _=>true
 |.binOp op t _ y _=>GU P op t y
 |.indexAddr t _ _=>match P.underlying t with | some (.slice _)=>true | _=>false
 |.build t _=>match P.underlying t,zeroOf P t with | some (.struct _),some _=>true | _,_=>false
 |.call c=>match c.callee with
  |.builtin .len=>match c.argTypes.toList,c.args.toList with
   |[t],[_]=>match P.underlying t with | some (.slice _)=>true | some .string=>true | _=>false
   |_,_=>false
  |.builtin .max=>match P.underlying o.type,c.args.toList with | some (.int _),[_,_]=>true | _,_=>false
  |.builtin .min=>match P.underlying o.type,c.args.toList with | some (.int _),[_,_]=>true | _,_=>false
  |_=>false
 |_=>false
theorem FW{op:BinOp}{t:TypeId}{yo:Operand}{x y:Value}{K:Value->Prop}{F:Prop}(hp:GU P op t yo=true)(h:Lq P op t yo x y K F) :
  ∃v,K v/\∀(o:Value->Prop) (F':Prop),o v->Lq P op t yo x y o F':=by
 unfold GU at hp;unfold Lq at h;simp only[Lq];cases hu:P.underlying t with
 |none=>simp[hu] at hp
 |some d=>
  simp only[hu] at hp h;cases d with
  |int k=>cases op<;>simp only at hp h ⊢<;>first
    |(cases hp;done)
    |(obtain⟨a,b,h1,B,j⟩:=h;exact⟨_,j,fun o _ hk=>⟨a,b,h1,B,hk⟩⟩)
  |bool=>cases op<;>simp only at hp h ⊢<;>first
    |(cases hp;done)
    |(obtain⟨a,b,h1,B,j⟩:=h;exact⟨_,j,fun o _ hk=>⟨a,b,h1,B,hk⟩⟩)
  |string=>cases op<;>simp only at hp h ⊢<;>first
    |(cases hp;done)
    |(obtain⟨a,b,h1,B,j⟩:=h;exact⟨_,j,fun o _ hk=>⟨a,b,h1,B,hk⟩⟩)
  |slice e=>
   simp only[Bool.and_eq_true] at hp;simp only[hp.1,cond_true] at h ⊢;have i:=hp.2;cases op<;>simp only at i h ⊢<;>first
    |(cases i;done)
    |(obtain⟨a,n,c,h1,j⟩:=h;exact⟨_,j,fun o _ hk=>⟨a,n,c,h1,hk⟩⟩)
  |pointer e=>
   simp only[Bool.and_eq_true] at hp;simp only[hp.1,cond_true] at h ⊢;have i:=hp.2;cases op<;>simp only at i h ⊢<;>first
    |(cases i;done)
    |(obtain⟨a,h1,j⟩:=h;exact⟨_,j,fun o _ hk=>⟨a,h1,hk⟩⟩)
  |_=>simp at hp
theorem Np{o:Oper}{ρ:Operand->Value}(hp:CJ P o=true)(h:EY P ok o ρ K w):∃v,K v w/\∀(Q:Cont) (w':World),Q v w'->EY P ok o ρ Q w':=by
 obtain⟨V,op,T,pos,after,guard⟩:=o;cases op with
 |move x=>exact⟨_,h,fun _ _ hk=>hk⟩
 |assign x=>exact⟨_,h,fun _ _ hk=>hk⟩
 |pick c a b=>
  simp only[EY,Kr] at h ⊢;cases hc:ρ c with
  |bool t=>cases t<;>simp only[hc] at h ⊢<;>exact⟨_,h,fun _ _ hk=>hk⟩
  |_=>simp only[hc] at h
 |nilCheck x=>obtain⟨a,h1,B⟩:=h;exact⟨_,B,fun _ _ hk=>⟨a,h1,hk⟩⟩
 |extract t i=>obtain⟨vs,v,h1,B,I⟩:=h;exact⟨_,I,fun _ _ hk=>⟨vs,v,h1,B,hk⟩⟩
 |unOp op t x=>
  cases op with
  |not=>obtain⟨a,h1,B⟩:=h;exact⟨_,B,fun _ _ hk=>⟨a,h1,hk⟩⟩
  |_=>simp[CJ] at hp
 |binOp op t x y yt=>
  simp only[CJ] at hp;obtain⟨v,h1,B⟩:=FW hp h;exact⟨v,h1,fun Q w' hk=>B _ _ hk⟩
 |fieldAddr s x f=>
  simp only[EY] at h ⊢;split at h
  .split at h
   .split at h
    .rename_i i _;cases J:Nat.beq i.size 0 with
     |true=>simp only[J,cond_true] at h
     |false=>
      simp only[J,cond_false] at h ⊢;obtain⟨a,h1,B⟩:=h;exact⟨_,B,fun _ _ hk=>⟨a,h1,hk⟩⟩
    .exact h.elim
   .exact h.elim
  .exact h.elim
 |indexAddr t x i=>
  simp only[EY,CJ] at hp h ⊢;cases hu:P.underlying t with
  |none=>simp[hu] at hp
  |some d=>
   simp only[hu] at hp h ⊢;cases d with
   |slice e=>
    simp only at h ⊢;cases U:P.info? e with
    |none=>simp[U] at h
    |some f=>
     simp only[U] at h ⊢;obtain⟨a,n,c,k,j,h1,B,I,X,Y⟩:=h;exact⟨_,Y,fun _ _ hk=>⟨a,n,c,k,j,h1,B,I,X,hk⟩⟩
   |_=>simp at hp
 |build t S=>
  simp only[EY,CJ] at hp h ⊢;cases hu:P.underlying t with
  |none=>simp[hu] at hp
  |some d=>
   cases J:zeroOf P t with
   |none=>simp[hu,J] at hp
   |some z=>
    simp only[hu,J] at hp h ⊢;cases d with
    |struct Z=>
     simp only at h ⊢;cases hl:placesOf P Z.toList with
     |none=>simp[hl] at h
     |some l=>
      simp only[hl] at h ⊢;obtain⟨cs,h1,B⟩:=h;exact⟨_,B,fun _ _ hk=>⟨cs,h1,hk⟩⟩
    |_=>simp at hp
 |call c=>
  obtain⟨E,args,a1⟩:=c;cases E with
  |builtin b=>
   cases b<;>simp only[CJ,EY] at hp h ⊢<;>try (cases hp;done)
   .split at hp
    .rename_i t x ht O;simp only[ht,O] at h ⊢;split at hp
     .rename_i e hu;simp only[hu] at h ⊢;obtain⟨a,n,c,h1,B⟩:=h;exact⟨_,B,fun _ _ hk=>⟨a,n,c,h1,hk⟩⟩
     .rename_i hu;simp only[hu] at h ⊢;obtain⟨s,h1,B⟩:=h;exact⟨_,B,fun _ _ hk=>⟨s,h1,hk⟩⟩
     .cases hp
    .cases hp
   .split at hp
    .rename_i k x y hk O;simp only[hk,O] at h ⊢;obtain⟨a,b,h1,B,I⟩:=h;exact⟨_,I,fun _ _ hk=>⟨a,b,h1,B,hk⟩⟩
    .cases hp
   .split at hp
    .rename_i k x y hk O;simp only[hk,O] at h ⊢;obtain⟨a,b,h1,B,I⟩:=h;exact⟨_,I,fun _ _ hk=>⟨a,b,h1,B,hk⟩⟩
    .cases hp
  |_=>simp[CJ] at hp
 |_=>simp[CJ] at hp
end
end Go.K
namespace Go.K
open Go
structure Mod (M:Nat->Prop) (w w':World):Prop where
 os:w'.os=w.os
 tape:w'.tape=w.tape
 output:w'.output=w.output
 size:w.heap.size<=w'.heap.size
 same:∀b,b<w.heap.size->¬M b->w'.heap[b]?=w.heap[b]?
theorem Mod.refl(M:Nat->Prop)(w:World):Mod M w w:=⟨rfl,rfl,rfl,Nat.le_refl _,fun _ _ _=>rfl⟩
theorem Mod.trans{M:Nat->Prop}{a b c:World}(h:Mod M a b)(k:Mod M b c):Mod M a c:=
 ⟨k.os.trans h.os,k.tape.trans h.tape,k.output.trans h.output,Nat.le_trans h.size k.size,fun i j hm=>(k.same i (Nat.lt_of_lt_of_le j h.size) hm).trans (h.same i j hm)⟩
theorem Mod.mono{M i:Nat->Prop}{w w':World}(h:Mod M w w')(hm:∀b,b<w.heap.size->M b->i b):Mod i w w':=⟨h.os,h.tape,h.output,h.size,fun b hb j=>h.same b hb fun o=>j (hm b hb o)⟩
def CB(l:List Nat)(i:Nat):Bool:=l.any fun x=>Nat.beq x i
def BV:List (List Nat)->Nat->List Nat
 |[],_=>[]
 |a::_,0=>a
 |_::r,i+1=>BV r i
theorem AV{l:List Nat}{i:Nat}:CB l i=true↔i∈l:=by
 simp only[CB,List.any_eq_true];constructor
 .rintro⟨x,j,hb⟩;rw[<-Nat.eq_of_beq_eq_true hb];exact j
 .intro h;exact⟨i,h,by simp⟩
section
variable (P:Program)(ok:Nat->Bool)(n:Nat)
theorem pure_run{P:Program}{ok:Nat->Bool}{o:Oper}{ρ:Operand->Value}{K:Cont}{w:World}(a1:∀v,ρ (.const v)=v)(hp:CJ P o=true)(h:EY P ok o ρ K w):∃v,K v w/\∀w',(execOp ρ o).run P w'=.ok (.value v) w':=by
 obtain⟨v,h1,h2⟩:=Np hp h;refine⟨v,h1,fun w'=>?_⟩;obtain⟨V,a6,E⟩:∃V:Cont,V v w'/\∀v' I,V v' I->v'=v/\I=w':=⟨fun v' I=>v'=v/\I=w',⟨rfl,rfl⟩,fun _ _ h=>h⟩;have j:=h2 V w' a6;have fin:∀s:Sem Value,runK P s V w'->(do pure (Next.value (<- s)):Sem Next).run P w'=.ok (.value v) w':=by
  rintro s ⟨v',I,r1,r2⟩;obtain⟨rfl,rfl⟩:=E _ _ r2;simp[r1]
 clear h h1 h2;obtain⟨Y,op,B,pos,after,guard⟩:=o;cases op with
 |move x=>have T:=(E _ _ j).1;simp[execOp,T]
 |assign x=>have T:=(E _ _ j).1;simp[execOp,T]
 |pick c a b=>
  simp only[EY,Kr] at j;cases hc:ρ c with
  |bool t=>cases t<;>simp only[hc] at j<;>simp[execOp,asBool,hc,(E _ _ j).1]
  |_=>simp only[hc] at j
 |nilCheck x=>obtain⟨a,T,h5⟩:=j;have h6:=(E _ _ h5).1;rw[T] at h6;subst h6;simp[execOp,T]
 |extract t i=>exact fin _ (RA j)
 |unOp op t x=>
  cases op with
  |not=>obtain⟨a,T,h5⟩:=j;have h6:=(E _ _ h5).1;simp[execOp,Op.unary,T,<-h6]
  |_=>simp[CJ] at hp
 |binOp op t x y yt=>
  simp only[CJ] at hp;have:Lq P op t y (ρ x) (ρ y) (fun v'=>V v' w') False:=by
   simp only[EY] at j;obtain⟨u,Z,g2⟩:=FW hp j;exact g2 _ _ Z
  exact fin _ (NL (xo:=x) (fun v hv=>by rw[hv,a1]) this (fun hF=>hF.elim))
 |fieldAddr s x f=>
  simp only[EY] at j;split at j
  .rename_i fs hu;split at j
   .rename_i fd hf;split at j
    .rename_i i hi;cases X:Nat.beq i.size 0 with
     |true=>simp only[X,cond_true] at j
     |false=>simp only[X,cond_false] at j;exact fin _ (Sn hu hf hi X j)
    .exact j.elim
   .exact j.elim
  .exact j.elim
 |indexAddr t x i=>
  simp only[EY,CJ] at hp j;cases hu:P.underlying t with
  |none=>simp[hu] at hp
  |some d=>
   simp only[hu] at hp j;cases d with
   |slice e=>
    simp only at j;cases hi:P.info? e with
    |none=>simp[hi] at j
    |some f=>simp only[hi] at j;exact fin _ (T6 hu hi j)
   |_=>simp at hp
 |build t J=>
  have e1:(execOp ρ ⟨Y,.build t J,B,pos,after,guard⟩)=(do pure (Next.value (<- Instr.build t (J.toList.map fun p=>(p.1,ρ p.2)).toArray)):Sem Next):=by
   simp only[execOp];rw[Je]
  rw[e1];simp only[EY,CJ] at hp j;cases hu:P.underlying t with
  |none=>simp[hu] at hp
  |some d=>
   cases X:zeroOf P t with
   |none=>simp[hu,X] at hp
   |some z=>
    simp only[hu,X] at hp j;cases d with
    |struct fs=>
     simp only at j;cases hl:placesOf P fs.toList with
     |none=>simp[hl] at j
     |some l=>simp only[hl] at j;exact fin _ (Lz hu X hl j)
    |_=>simp at hp
 |call c=>
  obtain⟨Q,args,S⟩:=c;cases Q with
  |builtin b=>
   have hb:∀(s:Array Value->Sem Value),(∀cs xs,builtin b S B cs xs=(do pure (Next.value (<- s xs))))->runK P (s (args.toList.map ρ).toArray) V w'->
     (execOp ρ ⟨Y,.call ⟨.builtin b,args,S⟩,B,pos,after,guard⟩).run P w'=.ok (.value v) w':=by
    intro s hs hr;simp only[execOp,resolve,pure_bind,invoke,hs,FE];exact fin _ hr
   cases b<;>simp only[CJ,EY] at hp j<;>try (cases hp;done)
   .split at hp
    .rename_i t x ht U;have O:(args.toList.map ρ).toArray=#[ρ x]:=by rw[U];rfl
     simp only[ht,U] at j;split at hp
     .rename_i e hu;simp only[hu] at j;exact hb _ (fun _ _=>rfl) (by rw[O];exact QT ht hu j)
     .rename_i hu;simp only[hu] at j;exact hb _ (fun _ _=>rfl) (by rw[O];exact Na ht hu j)
     .cases hp
    .cases hp
   .split at hp
    .rename_i k x y hk U;simp only[hk,U] at j;obtain⟨p,q,Z,g2,g3⟩:=j;refine hb _ (fun _ _=>rfl) ⟨_,w',?_,g3⟩;rw[U];simp only[List.map_cons,List.map_nil,Z,g2];exact run_max_int2 w' S B k k p q
    .cases hp
   .split at hp
    .rename_i k x y hk U;simp only[hk,U] at j;obtain⟨p,q,Z,g2,g3⟩:=j;refine hb _ (fun _ _=>rfl) ⟨_,w',?_,g3⟩;rw[U];simp only[List.map_cons,List.map_nil,Z,g2];exact run_min_int2 w' S B k k p q
    .cases hp
  |_=>simp[CJ] at hp
 |_=>simp[CJ] at hp
def BD(i:Addr->Value->Prop)(x:Value)(k:Value->Prop):Prop:=∃a v,x=.pointer (some a)/\i a v/\k v
def EA(i:Addr->Value->Prop)(m:Nat)(x:Value)(k:Value->Prop):Prop:=∃a vs,x=.pointer (some a)/\List.length vs=m/\(∀j v,vs[j]?=some v->i (a.add j) v)/\k (.agg vs.toArray)
def cW(P:Program)(s:Sem Value)(k:Value->Prop):Prop:=∃v,(∀w,s.run P w=.ok v w)/\k v
def Cb:List (Nat×Option Bool)->Nat->Option (Option Bool)
 |[],_=>none
 |(i,b)::r,j=>bif Nat.beq i j then some b else Cb r j
def Bv:List Oper->Nat->Option Nat
 |[],_=>none
 |o::_,0=>o.dst
 |_::r,j+1=>Bv r j
def KY(a b:Bool):Bool:=match a,b with|true,true=>true|false,false=>true|_,_=>false
def Io(AP:List Nat)(A:Nat->Value->World->Prop)(j:Addr->Value->Prop)(w:World)(o:Oper)(i:Nat)(ρ:Operand->Value)(k:Value->Prop):Prop:=
 bif CB AP i then ∀v,A i v w->k v
 else match o.op with
  |.load t x=>match Gt P t with | some (false,_)=>BD j (ρ x) k | some (true,m)=>EA j m (ρ x) k | none=>False
  |.binOp op t x y _=>bif GU P op t y then Lq P op t y (ρ x) (ρ y) k False else cW P (BZ op t x y (ρ x) (ρ y)) k
  |_=>bif CJ P o then EY P ok o ρ (fun v _=>k v) w else False
def DS(all:List Oper)(AP:List Nat)(A:Nat->Value->World->Prop)(y:Nat->Addr->Value->Prop)(w:World)(x:Nat->Bool)(K:List (Nat×Option Bool)->Env->Prop) :
  List Oper->Nat->List (Nat×Option Bool)->Env->Prop
 |[],_,kn,e=>K kn e
 |o::r,i,kn,e=>
  bif x i then
   match o.guard with
   |none=>Io P ok AP A (y i) w o i (ev e) fun v=>DS all AP A y w x K r (i+1) kn (BG n e o.dst v)
   |some (j,B)=>match Cb kn j with
    |some (some b)=>bif KY b B then Io P ok AP A (y i) w o i (ev e) fun v=>DS all AP A y w x K r (i+1) kn (BG n e o.dst v)
      else DS all AP A y w x K r (i+1) ((i,none)::kn) (BG n e o.dst undef)
    |some none=>DS all AP A y w x K r (i+1) ((i,none)::kn) (BG n e o.dst undef)
    |none=>match Bv all j with
     |some d=>AD (e d)
       (bif B then Io P ok AP A (y i) w o i (ev (EC n e d (.bool true))) fun v=>DS all AP A y w x K r (i+1) ((j,some true) :: kn) (BG n (EC n e d (.bool true)) o.dst v)
        else DS all AP A y w x K r (i+1) ((i,none) :: (j,some true) :: kn) (BG n (EC n e d (.bool true)) o.dst undef))
       (bif B then DS all AP A y w x K r (i+1) ((i,none) :: (j,some false) :: kn) (BG n (EC n e d (.bool false)) o.dst undef)
        else Io P ok AP A (y i) w o i (ev (EC n e d (.bool false))) fun v=>DS all AP A y w x K r (i+1) ((j,some false) :: kn) (BG n (EC n e d (.bool false)) o.dst v))
     |none=>False
  else DS all AP A y w x K r (i+1) kn e
def Up(all:List Oper)(A:Nat->Value->World->Prop)(M:Nat->Nat->Prop)(w:World)(k:Nat)(o:Oper)(kn:List (Nat×Option Bool))(e:Nat->Value):Prop:=
 match o.guard with
 |none=>EY P ok o (ev e) (fun v w'=>Mod (M k) w w'/\A k v w') w
 |some (j,i)=>match Cb kn j with
  |some (some b)=>bif KY b i then EY P ok o (ev e) (fun v w'=>Mod (M k) w w'/\A k v w') w else True
  |some none=>True
  |none=>match Bv all j with
   |some d=>AD (e d)
     (bif i then EY P ok o (ev (EC n e d (.bool true))) (fun v w'=>Mod (M k) w w'/\A k v w') w else True)
     (bif i then True else EY P ok o (ev (EC n e d (.bool false))) (fun v w'=>Mod (M k) w w'/\A k v w') w)
   |none=>False
def Cn(AP a:List Nat):List Nat:=a.filter (CB AP)
def FO(AP:List Nat)(AN:List (List Nat))(E:List Nat)(i:Nat):Bool:=bif CB AP i then CB E i else(BV AN i).all fun j=>bif CB AP j then CB E j else true
end
end Go.K
namespace Go.K
open Go
def Ef(d:Option Nat)(kn:List (Nat×Option Bool))(all:List Oper):Bool:=
 match d with
 |none=>false
 |some t=>kn.any fun p=>match Bv all p.1 with | some u=>Nat.beq u t | none=>false
section
variable {P:Program}{ok:Nat->Bool}{n:Nat}
def bv(v:Value):Option Bool:=match v with|.bool b=>some b|_=>none
def yv(all:List Oper)(e:Env)(j:Nat):Option Bool:=match Bv all j with|some d=>bv (e d)|none=>none
theorem Bs:∀(l:List Oper) (j:Nat),Bv l j=(l[j]?).bind (·.dst):=by
 intro l;induction l with
 |nil=>intro j;simp[Bv]
 |cons o r i=>intro j;cases j<;>simp[Bv,i]
theorem E9{ds:List Deferred}{e:Env}{a:Act}(x:Fr ds n e a){ops:Array Oper}{j:Nat}:yielded ops a.tmps j=yv ops.toList e j:=by
 simp only[yielded,yv,Bs,Array.getElem?_toList];cases h:(ops[j]?).bind (·.dst) with
 |none=>rfl
 |some d=>
  have i:=x.get d;rw[Array.getD_eq_getD_getElem?] at i;simp only[Option.bind_some];cases o:a.tmps[d]? with
  |none=>rw[o] at i;simp only[Option.getD_none] at i;rw[<-i];rfl
  |some v=>rw[o] at i;simp only[Option.getD_some] at i;rw[<-i];cases v<;>rfl
def DH(all:List Oper)(kn:List (Nat×Option Bool))(e:Env):Prop:=∀j b,Cb kn j=some b->yv all e j=b
theorem CS{e:Env}{d:Nat}{v:Value}(h:e d=v):EC n e d v=e:=by
 funext j
 simp only[EC];cases hb:(Nat.beq j d&&Nat.blt d n) with
 |false=>rfl
 |true=>
  simp only[Bool.and_eq_true] at hb;have:=Nat.eq_of_beq_eq_true hb.1;subst this;simp[h]
theorem Gh{e:Env}{d:Option Nat}{j:Nat}{v:Value}(h:d≠some j):BG n e d v j=e j:=by
 cases d with
 |none=>rfl
 |some i=>
  have:Nat.beq j i=false:=by
   cases hb:Nat.beq j i with
   |false=>rfl
   |true=>exact absurd (by rw[Nat.eq_of_beq_eq_true hb]) h
  simp[BG,EC,this]
theorem RD{kn:List (Nat×Option Bool)}{j:Nat}{b:Option Bool}(h:Cb kn j=some b):(j,b)∈kn:=by
 induction kn with
 |nil=>simp[Cb] at h
 |cons p r o=>
  obtain⟨i,c⟩:=p;simp only[Cb] at h;cases hb:Nat.beq i j with
  |true=>rw[hb] at h;simp only[cond_true,Option.some.injEq] at h;have:=Nat.eq_of_beq_eq_true hb;subst this;subst h;simp
  |false=>rw[hb] at h;simp only[cond_false] at h;exact List.mem_cons_of_mem _ (o h)
theorem DH.put{all:List Oper}{kn:List (Nat×Option Bool)}{e:Env}(h:DH all kn e){d:Option Nat}(hc:Ef d kn all=false)(v:Value):DH all kn (BG n e d v):=by
 intro j b hl;have h1:=h j b hl;have o:=RD hl;unfold yv at h1 ⊢;cases i:Bv all j with
 |none=>rw[i] at h1;exact h1
 |some u=>
  rw[i] at h1;rw[<-h1];show bv (BG n e d v u)=bv (e u);rw[Gh];intro x;subst x;simp only[Ef,List.any_eq_false] at hc;have:=hc _ o;simp[i] at this
theorem DH.cons{all:List Oper}{kn:List (Nat×Option Bool)}{e:Env}(h:DH all kn e){i:Nat}{b:Option Bool}(hb:yv all e i=b):DH all ((i,b)::kn) e:=by
 intro j c hl;simp only[Cb] at hl;cases o:Nat.beq i j with
 |true=>rw[o] at hl;simp only[cond_true,Option.some.injEq] at hl;have:=Nat.eq_of_beq_eq_true o;subst this;subst hl;exact hb
 |false=>rw[o] at hl;simp only[cond_false] at hl;exact h j c hl
theorem Dr{v:Value}{A B:Prop}(h:AD v A B):(v=.bool true/\A)\/(v=.bool false/\B):=by
 unfold AD at h;split at h
 .exact .inl ⟨rfl,h⟩
 .exact .inr ⟨rfl,h⟩
 .exact h.elim
theorem GI{a b:Bool}:KY a b=(a==b):=by cases a<;>cases b<;>rfl
end
def Ic(o:Oper):List Nat:=o.op.operands.toList.filterMap fun x=>match x with|.tmp t=>some t|_=>none
def slotsOf(all:List Oper)(o:Oper):List Nat:=(match o.guard with|some (g,_)=>(match Bv all g with|some d=>[d]|none=>[])|none=>[])++Ic o
def Kw(d:Option Nat)(t:Nat):Bool:=match d with|some x=>Nat.beq x t|none=>false
structure Kg (n:Nat) (all:List Oper) (AP:List Nat) (AN:List (List Nat)) (Gs:List (List Nat)):Prop where
 Im:∀(i:Nat) o,all[i]?=some o->∀cs b,o.op≠.select cs b
 back:∀(i:Nat) o,all[i]?=some o->∀e∈o.after,Region.binds .any e=true->e.on<i
 cq:∀(i:Nat) o,all[i]?=some o->∀j∈BV AN i,∃e∈o.after,Region.binds .any e=true/\(e.on=j\/j∈BV AN e.on)
 trans:∀i,∀j∈BV AN i,∀m∈BV AN j,m∈BV AN i
 reads:∀(i:Nat) o,all[i]?=some o->∀t∈slotsOf all o,∀(m:Nat) o',all[m]?=some o'->o'.dst=some t->m≠i->m∈BV AN i\/i∈BV AN m
 guard:∀(i:Nat) o,all[i]?=some o->∀g b,o.guard=some (g,b)->g∈BV AN i/\∃d,Bv all g=some d
 one:∀(i j:Nat) o o',all[i]?=some o->all[j]?=some o'->∀d,o.dst=some d->o'.dst=some d->i=j
 Ug:∀(i:Nat),i<all.length->i∉AP->(∀j∈BV AN i,j∉AP)\/(∀j∈AP,j∈BV AN i)\/∃E∈Gs,∀j∈AP,(j∈BV AN i↔j∈E)
 first:∃k∈AP,k<all.length/\∀j∈BV AN k,j∉AP
 Qz:∀k∈AP,k<all.length
 bound:∀(i:Nat) o,all[i]?=some o->∀d,o.dst=some d->d<n
section
variable {P:Program}{ok:Nat->Bool}{n:Nat}{all:List Oper}{AP:List Nat}{AN:List (List Nat)}{Gs:List (List Nat)}
theorem Kg.lt(h:Kg n all AP AN Gs){i j:Nat}(x:i<all.length)(y:j∈BV AN i):j<i:=by
 induction i using Nat.strongRecOn generalizing j with
 |_ i B=>
  obtain⟨e,he,hb,h1⟩:=h.cq i all[i] (by simp[x]) j y;have o:=h.back i all[i] (by simp[x]) e he hb;rcases h1 with rfl|h1
  .exact o
  .exact Nat.lt_trans (B _ o (by omega) h1) o
noncomputable def BN(all:List Oper)(n:Nat)(e0:Env)(vals:Nat->Value)(S:Nat->Prop):Env:=fun t=>
 open Classical in if h:∃m,S m/\m<all.length/\Bv all m=some t then(if t<n then vals h.choose else e0 t) else e0 t
theorem ML(h:Kg n all AP AN Gs){e0:Env}{vals:Nat->Value}{S:Nat->Prop}{m t:Nat}(hm:S m)(hl:m<all.length)(j:Bv all m=some t)(ht:t<n):BN all n e0 vals S t=vals m:=by
 have i:∃m,S m/\m<all.length/\Bv all m=some t:=⟨m,hm,hl,j⟩;unfold BN;rw[dif_pos i,if_pos ht];have h1:=i.choose_spec;congr 1
 have o:all[i.choose]?=some all[i.choose]:=by simp[h1.2.1]
 have x:all[m]?=some all[m]:=by simp[hl]
 have y:=h1.2.2;rw[Bs,o] at y;rw[Bs,x] at j;exact h.one _ _ _ _ o x t y j
theorem CK{e0:Env}{vals:Nat->Value}{S:Nat->Prop}{t:Nat}(i:∀m,S m->m<all.length->Bv all m≠some t):BN all n e0 vals S t=e0 t:=by
 unfold BN;rw[dif_neg];rintro⟨m,h1,j,o⟩;exact i m h1 j o
theorem I6{e0:Env}{vals:Nat->Value}{S:Nat->Prop}{t:Nat}(ht:¬t<n):BN all n e0 vals S t=e0 t:=by
 unfold BN;by_cases i:∃m,S m/\m<all.length/\Bv all m=some t
 .rw[dif_pos i,if_neg ht]
 .rw[dif_neg i]
theorem Cw(h:Kg n all AP AN Gs){e0:Env}{vals vals':Nat->Value}{S y:Nat->Prop}{t:Nat}(x:∀m,m<all.length->Bv all m=some t->(S m↔y m)/\(S m->vals m=vals' m)):BN all n e0 vals S t=BN all n e0 vals' y t:=by
 by_cases ht:t<n
 .by_cases o:∃m,S m/\m<all.length/\Bv all m=some t
  .obtain⟨m,h1,i,j⟩:=o;rw[ML h h1 i j ht,ML h ((x m i j).1.1 h1) i j ht];exact(x m i j).2 h1
  .rw[CK fun m h1 i j=>o ⟨m,h1,i,j⟩,CK fun m h1 i j=>o ⟨m,(x m i j).1.2 h1,i,j⟩]
 .rw[I6 ht,I6 ht]
theorem Eh(h:Kg n all AP AN Gs){e0:Env}{vals vals':Nat->Value}{S I:Nat->Prop}{i:Nat}{o:Oper}{v:Value}(J:all[i]?=some o)(O:∀m,I m↔S m\/m=i)(T:∀m,S m->m≠i->vals' m=vals m)(B:vals' i=v)(U:¬S i) :
  BG n (BN all n e0 vals S) o.dst v=BN all n e0 vals' I:=by
 have E:i<all.length:=(List.getElem?_eq_some_iff.1 J).1;have x:Bv all i=o.dst:=by rw[Bs,J];rfl
 funext t
 by_cases j:o.dst=some t
 .rw[j];by_cases ht:t<n
  .rw[ML h ((O i).2 (.inr rfl)) E (x.trans j) ht,B];have:Nat.blt t n=true:=Nat.ble_eq_true_of_le (by omega);simp[BG,EC,this]
  .rw[I6 ht];have:Nat.blt t n=false:=by cases hb:Nat.blt t n with|false=>rfl|true=>exact absurd (Nat.le_of_ble_eq_true hb) (by omega)
   simp only[BG,EC,this,Bool.and_false,cond_false];exact I6 ht
 .rw[Gh j];refine Cw h fun m hm Q=>?_;have y:m≠i:=by rintro rfl;rw[x] at Q;exact j Q
  exact⟨by rw[O];simp[y],fun V=>(T m V y).symm⟩
theorem Cr{o:Oper}{e e':Env}(i:∀cs b,o.op≠.select cs b)(h:∀t∈Ic o,e t=e' t):execOp (ev e) o=execOp (ev e') o:=by
 refine execOp_congr o i fun x j=>?_;cases x with
 |tmp t=>exact h t (by simp only[Ic,List.mem_filterMap];exact⟨.tmp t,by simpa using j,rfl⟩)
 |_=>rfl
variable (e0:Env)(w0:World)(A:Nat->Value->World->Prop)(M:Nat->Nat->Prop)
def LN(AP:List Nat)(M:Nat->Nat->Prop):Nat->Prop:=fun b=>∃j∈AP,M j b
def dA(AP:List Nat)(M:Nat->Nat->Prop)(w0:World)(a:Addr)(v:Value):Prop:=w0.cell? a=some v/\∀j∈AP,¬M j a.block
def IX(AP:List Nat)(AN:List (List Nat))(i:Nat):List Nat:=AP.filter fun j=>!CB (BV AN j) i
def Hk(AP:List Nat)(AN:List (List Nat))(M:Nat->Nat->Prop)(w0:World)(i:Nat):Addr->Value->Prop:=dA (IX AP AN i) M w0
noncomputable def view(all:List Oper)(AN:List (List Nat))(n:Nat)(e0:Env)(vals:Nat->Value)(i:Nat):Env:=BN all n e0 vals (·∈BV AN i)
def Aj(all:List Oper)(e:Env)(o:Oper):Prop:=∀g b,o.guard=some (g,b)->yv all e g=some b
def EK(P:Program)(AP:List Nat)(M:Nat->Nat->Prop)(w0:World)(o:Oper)(e:Env)(v:Value):Prop:=∀w',Mod (LN AP M) w0 w'->(execOp (ev e) o).run P w'=.ok (.value v) w'
def Gd(P:Program)(all:List Oper)(AP:List Nat)(AN:List (List Nat))(n:Nat)(e0:Env)(w0:World)(M:Nat->Nat->Prop)(vals:Nat->Value)(i:Nat)(o:Oper):Prop:=
 (Aj all (view all AN n e0 vals i) o->EK P (IX AP AN i) M w0 o (view all AN n e0 vals i) (vals i))/\(¬Aj all (view all AN n e0 vals i) o->vals i=undef)
def Ad(all:List Oper)(AN:List (List Nat))(n:Nat)(e0:Env)(A:Nat->Value->World->Prop)(vals:Nat->Value)(w:World)(i:Nat)(o:Oper):Prop:=
 (Aj all (view all AN n e0 vals i) o->A i (vals i) w)/\(¬Aj all (view all AN n e0 vals i) o->vals i=undef)
variable {e0 w0 A M}
theorem JI{E:List Nat}{w:World}{o:Oper}{i:Nat}{e:Env}{k:Value->Prop}(hi:CB AP i=false)(h:Io P ok AP A (dA E M w0) w o i (ev e) k):∃v,k v/\EK P E M w0 o e v:=by
 unfold Io at h;rw[hi] at h;simp only[cond_false] at h;have I:∀(a:Addr) (v:Value),dA E M w0 a v->∀w',Mod (LN E M) w0 w'->w'.cell? a=some v:=fun a v U w' hm=>
  (World.cell?_of_block (hm.same a.block (World.block_lt_of_cell? w0 a U.1) fun⟨j,hj,hb⟩=>U.2 j hj hb)).trans U.1
 have O:(bif CJ P o then EY P ok o (ev e) (fun v _=>k v) w else False)->∃v,k v/\EK P E M w0 o e v:=by
  intro h;cases hp:CJ P o with
  |false=>rw[hp] at h;exact h.elim
  |true=>
   rw[hp] at h;simp only[cond_true] at h;obtain⟨v,h1,J⟩:=pure_run (ρ:=ev e) (fun _=>rfl) hp h;exact⟨v,h1,fun w' _=>J w'⟩
 obtain⟨a1,op,Z,pos,after,guard⟩:=o;cases op with
 |load t x=>
  simp only at h;split at h
  .rename_i m ha;obtain⟨a,v,h1,J,Q⟩:=h;refine⟨v,Q,fun w' hm=>?_⟩;obtain⟨v',B,r1,S⟩:=QZ (P:=P) (K:=fun v' B=>v'=v/\B=w') (w:=w') ha ⟨a,v,h1,I a v J w' hm,rfl,rfl⟩;obtain⟨rfl,rfl⟩:=S;simp only[execOp,Sem.run_bind,r1,Result.andThen_ok,Sem.run_pure]
  .rename_i m ha;obtain⟨a,vs,h1,hl,J,Q⟩:=h;refine⟨_,Q,fun w' hm=>?_⟩;obtain⟨v',B,r1,S⟩:=QI (P:=P) (K:=fun v' B=>v'=.agg vs.toArray/\B=w') (w:=w') ha ⟨a,vs,h1,hl,fun j v V=>I _ v (J j v V) w' hm,rfl,rfl⟩;obtain⟨rfl,rfl⟩:=S;simp only[execOp,Sem.run_bind,r1,Result.andThen_ok,Sem.run_pure]
  .exact h.elim
 |binOp op t x y yt=>
  simp only at h;cases hp:GU P op t y with
  |true=>
   rw[hp] at h;simp only[cond_true] at h;obtain⟨v,h1,J⟩:=FW hp h;refine⟨v,h1,fun w' _=>?_⟩;obtain⟨T,X,Y⟩:∃T:Cont,T v w'/\∀v' B,T v' B->v'=v/\B=w':=⟨fun v' B=>v'=v/\B=w',⟨rfl,rfl⟩,fun _ _ h=>h⟩;obtain⟨v',B,r1,S⟩:=NL (P:=P) (w:=w') (K:=T) (xo:=x) (yo:=y) (F:=False) (fun v V=>by rw[V];rfl) (J _ _ X) (fun hF=>hF.elim);obtain⟨rfl,rfl⟩:=Y _ _ S;simp only[execOp];rw[Sem.run_bind,r1];rfl
  |false=>
   rw[hp] at h;simp only[cond_false] at h;obtain⟨v,h1,J⟩:=h;refine⟨v,J,fun w' _=>?_⟩;have Q:=h1 w';simp only[BZ] at Q;simp only[execOp];rw[Sem.run_bind,Q];rfl
 |_=>exact O h
theorem EK.dM{o:Oper}{e:Env}{v v':Value}(h:EK P AP M w0 o e v)(j:EK P AP M w0 o e v'):v=v':=by
 have h1:=h w0 (Mod.refl _ _);have i:=j w0 (Mod.refl _ _);rw[h1] at i;cases i;rfl
theorem EK.congr{o:Oper}{e e':Env}{v:Value}(i:∀cs b,o.op≠.select cs b)(h:∀t∈Ic o,e t=e' t)(hr:EK P AP M w0 o e v):EK P AP M w0 o e' v:=by
 intro w' hm;rw[<-Cr i h];exact hr w' hm
theorem EH(x:Kg n all AP AN Gs){vals:Nat->Value}{S:Nat->Prop}{i:Nat}{o:Oper}(J:all[i]?=some o)(h1:∀j∈BV AN i,S j)(Q:∀m,m<all.length->i∈BV AN m->¬S m)(T:¬S i) :
  ∀t∈slotsOf all o,BN all n e0 vals S t=view all AN n e0 vals i t:=by
 have y:i<all.length:=(List.getElem?_eq_some_iff.1 J).1;intro t ht;refine Cw x fun m hm O=>⟨?_,fun _=>rfl⟩;by_cases B:m=i
 .subst B;exact⟨fun h=>(T h).elim,fun h=>absurd (x.lt y h) (by omega)⟩
 .have E:all[m]?=some all[m]:=by simp[hm]
  rw[Bs,E] at O;rcases x.reads i o J t ht m _ E O B with h|h
  .exact⟨fun _=>h,fun _=>h1 m h⟩
  .refine⟨fun U=>(Q m hm h U).elim,fun I=>?_⟩;have:=x.lt y I;have:=x.lt hm h;omega
theorem CR{o:Oper}{t:Nat}(h:t∈Ic o):t∈slotsOf all o:=List.mem_append_right _ h
theorem Bu(y:Kg n all AP AN Gs){i:Nat}{o:Oper}(B:all[i]?=some o){e e':Env}(h:∀t∈slotsOf all o,e t=e' t):Aj all e o↔Aj all e' o:=by
 unfold Aj;refine forall_congr' fun g=>forall_congr' fun b=>imp_congr_right fun j=>?_;obtain⟨d,x⟩:=(y.guard i o B g b j).2;have:d∈slotsOf all o:=by unfold slotsOf;rw[j];simp[x]
 unfold yv;rw[x];simp only[h d this]
theorem CF(o:Kg n all AP AN Gs){vals vals':Nat->Value}{i:Nat}(h:∀j∈BV AN i,vals j=vals' j):view all AN n e0 vals i=view all AN n e0 vals' i:=by
 funext t
 exact Cw o fun m _ _=>⟨Iff.rfl,fun hm=>h m hm⟩
theorem KA(B:Kg n all AP AN Gs){kn:List (Nat×Option Bool)}{i:Nat}{o:Oper}(y:all[i]?=some o)(hk:∀p∈kn,p.1<i):Ef o.dst kn all=false:=by
 unfold Ef;cases E:o.dst with
 |none=>rfl
 |some t=>
  simp only[List.any_eq_false];intro p hp;have I:=hk p hp;have J:i<all.length:=(List.getElem?_eq_some_iff.1 y).1;have j:all[p.1]?=some (all[p.1]'(by omega)):=by simp[show p.1<all.length by omega]
  rw[Bs,j];simp only[Option.bind_some];cases x:(all[p.1]'(by omega)).dst with
  |none=>simp
  |some u=>
   simp only;intro hb;have:=Nat.eq_of_beq_eq_true hb;subst this;have:=B.one _ _ _ _ j y u x E;omega
section
variable {ds:List Deferred}{e0:Env}{w0:World}{A:Nat->Value->World->Prop}{M:Nat->Nat->Prop}
theorem KV{AP:List Nat}{AN:List (List Nat)}{i j:Nat}(o:j∈AP)(h:¬i∈BV AN j):j∈IX AP AN i:=by
 simp only[IX,List.mem_filter,Bool.not_eq_true',o,true_and];cases hb:CB (BV AN j) i with
 |false=>rfl
 |true=>exact(h (AV.1 hb)).elim
def J6(P:Program)(all:List Oper)(AP:List Nat)(AN:List (List Nat))(n:Nat)(e0:Env)(w0:World)(M:Nat->Nat->Prop)(i:Nat->Bool)(L:Nat->Prop)(K:List (Nat×Option Bool)->Env->Prop)(vals0:Nat->Value):Prop:=
 ∃(vals':Nat->Value) (j:List (Nat×Option Bool)),(∀m,L m->vals' m=vals0 m)/\(∀(m:Nat) o,all[m]?=some o->i m=true->m∉AP->Gd P all AP AN n e0 w0 M vals' m o)/\
  DH all j (BN all n e0 vals' (fun m=>i m=true/\m<all.length))/\K j (BN all n e0 vals' (fun m=>i m=true/\m<all.length))
theorem FB(V:Kg n all AP AN Gs){w:World}{E:Nat->Bool}{L:Nat->Prop}{K:List (Nat×Option Bool)->Env->Prop}{vals0:Nat->Value}
 (b4:∀i,i<all.length->E i=true->∀j∈BV AN i,E j=true)(hL:∀i,i<all.length->L i->∀j∈BV AN i,L j)
 (b5:∀(i:Nat) o,all[i]?=some o->L i->i∉AP->Gd P all AP AN n e0 w0 M vals0 i o)
 (hA:∀(k:Nat) o,all[k]?=some o->k∈AP->E k=true->L k/\Ad all AN n e0 A vals0 w k o) :
  ∀(l:List Oper) (i:Nat) (kn:List (Nat×Option Bool)) (vals:Nat->Value) (e:Env),all.drop i=l->(∀m,L m->vals m=vals0 m)->(∀p∈kn,p.1<i)->DH all kn e->
   e=BN all n e0 vals (fun m=>E m=true/\m<i)->(∀(m:Nat) o,all[m]?=some o->E m=true->m<i->m∉AP->Gd P all AP AN n e0 w0 M vals m o)->
   DS P ok n all AP A (Hk AP AN M w0) w E K l i kn e->
   J6 P all AP AN n e0 w0 M E L K vals0:=by
 intro l;induction l with
 |nil=>
  intro i kn vals e hl hv a1 hk he hg h;have hi:all.length<=i:=by simpa using hl
  have b6:e=BN all n e0 vals (fun m=>E m=true/\m<all.length):=by
   rw[he];funext t;exact Cw V fun m hm _=>⟨⟨fun h=>⟨h.1,hm⟩,fun h=>⟨h.1,by omega⟩⟩,fun _=>rfl⟩
  subst b6;exact⟨vals,kn,hv,fun m o hm hs X=>hg m o hm hs (by have:=(List.getElem?_eq_some_iff.1 hm).1;omega) X,hk,h⟩
 |cons o a8 ih=>
  intro i kn vals e hl hv a1 hk he hg h;have y:all[i]?=some o:=by
   have:=congrArg (fun l=>l[0]?) hl;simpa using this
  have ax:i<all.length:=(List.getElem?_eq_some_iff.1 y).1;have b7:all.drop (i+1)=a8:=by
   have:=congrArg List.tail hl;simpa using this
  have bd:Bv all i=o.dst:=by rw[Bs,y];rfl
  unfold DS at h;cases hs:E i with
  |false=>
   rw [hs] at h;simp only [cond_false] at h;refine ih (i+1) kn vals e b7 hv (fun p hp=>by have:=a1 p hp;omega) hk ?_ (fun m o' hm al bk X=>hg m o' hm al (by
    rcases Nat.lt_or_ge m i with h|h
    .exact h
    .have:m=i:=by omega
     subst this;rw [hs] at al;cases al) X) h
   rw[he];funext t;refine Cw V fun m _ _=>⟨⟨fun h=>⟨h.1,by omega⟩,fun h=>⟨h.1,?_⟩⟩,fun _=>rfl⟩;rcases Nat.lt_or_ge m i with h'|h'
   .exact h'
   .have:m=i:=by omega
    subst this;rw[hs] at h;cases h.1
  |true=>
   rw[hs] at h;simp only[cond_true] at h;have b1:∀t∈slotsOf all o,e t=view all AN n e0 vals i t:=by
    rw[he];refine EH V y (fun j hj=>⟨b4 i ax hs j hj,V.lt ax hj⟩) (fun m hm O al=>by have:=V.lt hm O;omega) (fun h=>by omega)
   have S:∀x,(∀p∈x,p.1<i)->Ef o.dst x all=false:=fun x h=>KA V y h;have next:∀(v:Value) (x:List (Nat×Option Bool)),(L i->v=vals0 i)->(∀p∈x,p.1<i+1)->DH all x (BG n e o.dst v)->
     (i∉AP->(Aj all (view all AN n e0 vals i) o->EK P (IX AP AN i) M w0 o (view all AN n e0 vals i) v)/\(¬Aj all (view all AN n e0 vals i) o->v=undef))->
     DS P ok n all AP A (Hk AP AN M w0) w E K a8 (i+1) x (BG n e o.dst v)->
     J6 P all AP AN n e0 w0 M E L K vals0:=by
    intro v x T I an U hw;have b8:∀m,m<i+1->view all AN n e0 (fun q=>if q=i then v else vals q) m=view all AN n e0 vals m:=fun m hm=>
     CF V fun j hj=>by
      have:j<m:=V.lt (by omega) hj;rw[if_neg (by omega)]
    refine ih (i+1) x (fun q=>if q=i then v else vals q) _ b7 (fun m hm=>?_) I an ?_ (fun m o' hm al bk X=>?_) hw
    .by_cases O:m=i
     .subst O;simp[T hm]
     .simp[O,hv m hm]
    .rw [he];exact Eh V y (fun m=>by
      constructor
      .rintro⟨h1,h2⟩;by_cases O:m=i
       .exact .inr O
       .exact .inl ⟨h1,by omega⟩
      .rintro(⟨h1,h2⟩|rfl)
       .exact⟨h1,by omega⟩
       .exact ⟨hs,by omega⟩) (fun m hm O=>by simp [O]) (by simp) (fun h=>by omega)
    .by_cases O:m=i
     .subst O;rw[y] at hm;cases hm;unfold Gd;rw[b8 m (by omega)];simp only[if_true];exact U X
     .have:=hg m o' hm al (by omega) X;unfold Gd at this ⊢;rw[b8 m (by omega)];simpa[O] using this
   have b9:i∈AP->Ad all AN n e0 A vals0 w i o/\L i:=fun hi=>⟨(hA i o y hi hs).2,(hA i o y hi hs).1⟩;have J:L i->view all AN n e0 vals i=view all AN n e0 vals0 i:=fun Q=>CF V fun j hj=>hv j (hL i ax Q j hj);have ay:∀(e':Env) (x:List (Nat×Option Bool)),e'=e->(∀p∈x,p.1<i)->DH all x e->Aj all e o->
     Io P ok AP A (Hk AP AN M w0 i) w o i (ev e') (fun v=>DS P ok n all AP A (Hk AP AN M w0) w E K a8 (i+1) x (BG n e' o.dst v))->J6 P all AP AN n e0 w0 M E L K vals0:=by
    intro e' x b2 I an a6 hx;subst b2;have Y:=(Bu V y b1).1 a6;cases hm:CB AP i with
    |true=>
     have a7:=AV.1 hm;obtain⟨bl,Q⟩:=b9 a7;unfold Io at hx;rw[hm] at hx;simp only[cond_true] at hx;have:=hx (vals0 i) (bl.1 (by rw[<-J Q];exact Y));exact next (vals0 i) x (fun _=>rfl) (fun p hp=>by have:=I p hp;omega) (an.put (S x I) _) (fun X=>(X a7).elim) this
    |false=>
     have a7:i∉AP:=fun h=>by rw[AV.2 h] at hm;cases hm
     obtain⟨v,h1,h2⟩:=JI hm hx;have ba:EK P (IX AP AN i) M w0 o (view all AN n e0 vals i) v:=h2.congr (V.Im i o y) fun t ht=>b1 t (CR ht);refine next v x (fun Q=>?_) (fun p hp=>by have:=I p hp;omega) (an.put (S x I) _) (fun _=>⟨fun _=>ba,fun hn=>(hn Y).elim⟩) h1;have h3:=(b5 i o y Q a7).1 (by rw[<-J Q];exact Y);rw[<-J Q] at h3;exact ba.dM h3
   have skip:∀(e':Env) (x:List (Nat×Option Bool)),e'=e->(∀p∈x,p.1<i)->DH all x e->¬Aj all e o->
     DS P ok n all AP A (Hk AP AN M w0) w E K a8 (i+1) ((i,none)::x) (BG n e' o.dst undef)->J6 P all AP AN n e0 w0 M E L K vals0:=by
    intro e' x b2 I an a6 hx;subst b2;have Y:¬Aj all (view all AN n e0 vals i) o:=fun h=>a6 ((Bu V y b1).2 h);refine next undef ((i,none)::x) (fun Q=>?_) (fun p hp=>?_) ((an.put (S x I) _).cons ?_) (fun _=>⟨fun h=>(Y h).elim,fun _=>rfl⟩) hx
    .rw[J Q] at Y;by_cases a7:i∈AP
     .exact((b9 a7).1.2 Y).symm
     .exact((b5 i o y Q a7).2 Y).symm
    .rcases List.mem_cons.1 hp with rfl|hp
     .simp
     .have:=I p hp;omega
    .unfold yv;rw[bd];cases hd:o.dst with
     |none=>rfl
     |some d=>
      have:=V.bound i o y d hd;have hb:Nat.blt d n=true:=Nat.ble_eq_true_of_le (show d+1<=n from this);simp[BG,EC,hb];rfl
   cases U:o.guard with
   |none=>
    simp only[U] at h;exact ay e kn rfl a1 hk (fun g b av=>by rw[U] at av;cases av) h
   |some gb=>
    obtain⟨g,B⟩:=gb;simp only[U] at h;have bp:g<i:=V.lt ax (V.guard i o y g B U).1;have wt:yv all e g=some B->Aj all e o:=fun Z g' b' av=>by rw[U] at av;cases av;exact Z
    have wf:yv all e g≠some B->¬Aj all e o:=fun Z hw=>Z (hw g B U);cases b3:Cb kn g with
    |some b=>
     have Z:=hk g b b3;simp only[b3] at h;cases b with
     |none=>exact skip e kn rfl a1 hk (wf (by rw[Z];simp)) h
     |some b=>
      simp only[GI] at h;cases b0:(b==B) with
      |true=>
       simp only[b0,cond_true] at h;have:b=B:=by simpa using b0
       exact ay e kn rfl a1 hk (wt (by rw[Z,this])) h
      |false=>
       simp only[b0,cond_false] at h;have:b≠B:=by simpa using b0
       exact skip e kn rfl a1 hk (wf (by rw[Z];simp[this])) h
    |none=>
     simp only[b3] at h;obtain⟨d,hd⟩:=(V.guard i o y g B U).2;simp only[hd] at h;have bc:yv all e g=bv (e d):=by simp[yv,hd]
     have ak:∀b,∀p∈(g,b)::kn,p.1<i:=fun b p hp=>by
      rcases List.mem_cons.1 hp with rfl|hp
      .exact bp
      .exact a1 p hp
     rcases Dr h with⟨T,hb⟩|⟨T,hb⟩
     .have Z:yv all e g=some true:=by rw[bc,T];rfl
      cases B with
      |true=>simp only[cond_true] at hb;exact ay _ _ (CS T) (ak _) (hk.cons Z) (wt Z) hb
      |false=>simp only[cond_false] at hb;exact skip _ _ (CS T) (ak _) (hk.cons Z) (wf (by rw[Z];simp)) hb
     .have Z:yv all e g=some false:=by rw[bc,T];rfl
      cases B with
      |true=>simp only[cond_true] at hb;exact skip _ _ (CS T) (ak _) (hk.cons Z) (wf (by rw[Z];simp)) hb
      |false=>simp only[cond_false] at hb;exact ay _ _ (CS T) (ak _) (hk.cons Z) (wt Z) hb
end
section
variable {ds:List Deferred}{e0:Env}{w0:World}{A:Nat->Value->World->Prop}{M:Nat->Nat->Prop}
def Yv(AP:List Nat)(A:Nat->Value->World->Prop)(M:Nat->Nat->Prop)(w0:World):Prop:=
 ∀j∈AP,∀k∈AP,j≠k->∀v i w2,Mod (LN AP M) w0 i->A j v i->Mod (M k) i w2->A j v w2
def Wu(AP:List Nat)(M:Nat->Nat->Prop)(k:Nat):Nat->Prop:=fun b=>∃j∈AP,j≠k/\M j b
structure S0 (P:Program) (ds:List Deferred) (all:List Oper) (AP:List Nat) (AN:List (List Nat)) (n:Nat) (e0:Env) (w0:World) (A:Nat->Value->World->Prop) (M:Nat->Nat->Prop) (L:Nat->Prop) (vals:Nat->Value) (a:Act) (w:World):Prop where
 fr:Fr ds n (BN all n e0 vals (fun m=>L m/\m<all.length)) a
 mod:Mod (LN AP M) w0 w
 bM:Mod (fun b=>∃j∈AP,L j/\M j b) w0 w
 YT:∀k∈AP,¬L k->Mod (Wu AP M k) w0 w
 closed:∀i,i<all.length->L i->∀j∈BV AN i,L j
 FK:∀(i:Nat) o,all[i]?=some o->L i->i∉AP->Gd P all AP AN n e0 w0 M vals i o
 said:∀(i:Nat) o,all[i]?=some o->L i->i∈AP->Ad all AN n e0 A vals w i o
structure bK (P:Program) (ok:Nat->Bool) (n:Nat) (all:List Oper) (AP:List Nat) (AN:List (List Nat)) (Gs:List (List Nat)) (e0:Env) (w0:World) (A:Nat->Value->World->Prop) (M:Nat->Nat->Prop) (K:Env->World->Prop):Prop where
 dS:Yv AP A M w0
 each:∀k∈AP,∀o,all[k]?=some o->∀w,Mod (Wu AP M k) w0 w->DS P ok n all AP A (Hk AP AN M w0) w (FO AP AN (Cn AP (BV AN k))) (Up P ok n all A M w k o) all 0 [] e0
 group:∀E∈Gs,∀w,Mod (LN AP M) w0 w->DS P ok n all AP A (Hk AP AN M w0) w (FO AP AN E) (fun _ _=>True) all 0 [] e0
 last:∀w,Mod (LN AP M) w0 w->DS P ok n all AP A (Hk AP AN M w0) w (fun _=>true) (fun _ e=>K e w) all 0 [] e0
theorem Gd.Ie(y:Kg n all AP AN Gs){vals vals':Nat->Value}{i:Nat}{o:Oper}(_:i<all.length)(B:∀j∈BV AN i,vals j=vals' j)(x:vals i=vals' i)(h:Gd P all AP AN n e0 w0 M vals i o):Gd P all AP AN n e0 w0 M vals' i o:=by
 unfold Gd at h ⊢;rw[<-CF y B,<-x];exact h
theorem S0.step(hG:Kg n all AP AN Gs){L:Nat->Prop}{vals:Nat->Value}{a:Act}{w w':World}(h:S0 P ds all AP AN n e0 w0 A M L vals a w)(a1:Yv AP A M w0){i:Nat}{o:Oper}(hi:all[i]?=some o)(T:¬L i)(U:∀j∈BV AN i,L j){v:Value}
 (E:if i∈AP then Mod (M i) w w' else w'=w)(hg:i∉AP->(Aj all (view all AN n e0 vals i) o->EK P (IX AP AN i) M w0 o (view all AN n e0 vals i) v)/\(¬Aj all (view all AN n e0 vals i) o->v=undef))
 (hs:i∈AP->(Aj all (view all AN n e0 vals i) o->A i v w')/\(¬Aj all (view all AN n e0 vals i) o->v=undef)) :
  S0 P ds all AP AN n e0 w0 A M (fun m=>L m\/m=i) (fun m=>if m=i then v else vals m) (a.put o.dst v) w':=by
 have a6:i<all.length:=(List.getElem?_eq_some_iff.1 hi).1;have V:Mod (LN AP M) w0 w':=by
  split at E
  .rename_i B;exact h.mod.trans (E.mono fun b _ hb=>⟨i,B,hb⟩)
  .rw[E];exact h.mod
 have X:∀m,m<all.length->(L m\/m=i)->view all AN n e0 (fun q=>if q=i then v else vals q) m=view all AN n e0 vals m:=fun m hm x=>
  CF hG fun j I=>by
   have:j≠i:=by
    rintro rfl;rcases x with x|rfl
    .exact T (h.closed m hm x j I)
    .have:=hG.lt hm I;omega
   rw[if_neg this]
 have J:Mod (fun b=>∃j∈AP,(L j\/j=i)/\M j b) w0 w':=by
  have h1:Mod (fun b=>∃j∈AP,(L j\/j=i)/\M j b) w0 w:=h.bM.mono fun b _ ⟨j,I,hL,hb⟩=>⟨j,I,.inl hL,hb⟩;split at E
  .rename_i B;exact h1.trans (E.mono fun b _ hb=>⟨i,B,.inr rfl,hb⟩)
  .rw[E];exact h1
 refine⟨?_,V,J,fun k hk Y=>?_,?_,?_,?_⟩
 .rw[<-Eh hG (vals:=vals) (S:=fun m=>L m/\m<all.length) (v:=v) hi (fun m=>?_) (fun m _ y=>by simp[y]) (by simp) (fun hh=>T hh.1)]
  .exact h.fr.put o.dst v
  .constructor
   .rintro⟨h1|h1,Q⟩
    .exact .inl ⟨h1,Q⟩
    .exact .inr h1
   .rintro(⟨h1,Q⟩|rfl)
    .exact⟨.inl h1,Q⟩
    .exact⟨.inr rfl,a6⟩
 .have a7:k≠i:=fun e=>Y (.inr e);have h1:=h.YT k hk (fun hh=>Y (.inl hh));split at E
  .rename_i B;exact h1.trans (E.mono fun b _ hb=>⟨i,B,fun e=>a7 e.symm,hb⟩)
  .rw[E];exact h1
 .rintro m hm (x|rfl) j I
  .exact .inl (h.closed m hm x j I)
  .exact .inl (U j I)
 .rintro m o' hm x Z;have O:m<all.length:=(List.getElem?_eq_some_iff.1 hm).1;unfold Gd;rw[X m O x];by_cases y:m=i
  .subst y;rw[hi] at hm;cases hm;simp only[if_true];exact hg Z
  .have:=h.FK m o' hm (x.resolve_right y) Z;unfold Gd at this;simpa[y] using this
 .rintro m o' hm x he;have O:m<all.length:=(List.getElem?_eq_some_iff.1 hm).1;unfold Ad;rw[X m O x];by_cases y:m=i
  .subst y;rw[hi] at hm;cases hm;simp only[if_true];exact hs he
  .have h1:=h.said m o' hm (x.resolve_right y) he;unfold Ad at h1;simp only[y,if_false];refine⟨fun a8=>?_,h1.2⟩;have Q:=h1.1 a8;split at E
   .rename_i B;exact a1 m he i B y _ _ _ h.mod Q E
   .rw[E];exact Q
theorem G3(S:Kg n all AP AN Gs){E:List Nat}(Q:∀k∈E,k∈AP->∀j∈BV AN k,j∈AP->j∈E):∀i,i<all.length->FO AP AN E i=true->∀j∈BV AN i,FO AP AN E j=true:=by
 intro i T x j J;unfold FO at x ⊢;cases y:CB AP j with
 |true=>
  have O:=AV.1 y;simp only[cond_true];cases o:CB AP i with
  |true=>rw[o] at x;simp only[cond_true] at x;exact AV.2 (Q i (AV.1 x) (AV.1 o) j J O)
  |false=>
   rw[o] at x;simp only[cond_false,List.all_eq_true] at x;have:=x j J;rw[y] at this;exact this
 |false=>
  simp only[cond_false,List.all_eq_true];intro m hm;cases B:CB AP m with
  |false=>rfl
  |true=>
   simp only[cond_true];have I:=S.trans i j J m hm;cases o:CB AP i with
   |true=>rw[o] at x;simp only[cond_true] at x;exact AV.2 (Q i (AV.1 x) (AV.1 o) m I (AV.1 B))
   |false=>
    rw[o] at x;simp only[cond_false,List.all_eq_true] at x;have:=x m I;rw[B] at this;exact this
end
section
variable {ds:List Deferred}{e0:Env}{w0:World}{A:Nat->Value->World->Prop}{M:Nat->Nat->Prop}
theorem O5{w:World}{k:Nat}{o:Oper}{kn:List (Nat×Option Bool)}{e:Env}(hk:DH all kn e)(O:Aj all e o)(h:Up P ok n all A M w k o kn e):EY P ok o (ev e) (fun v w'=>Mod (M k) w w'/\A k v w') w:=by
 unfold Up at h;cases E:o.guard with
 |none=>simp only[E] at h;exact h
 |some Q=>
  obtain⟨g,x⟩:=Q;have J:=O g x E;simp only[E] at h;cases y:Cb kn g with
  |some b=>
   have B:=hk g b y;rw[J] at B;subst B;simp only[y,GI] at h;simpa using h
  |none=>
   simp only[y] at h;cases I:Bv all g with
   |none=>simp only[I] at h
   |some d=>
    simp only[I] at h;have j:bv (e d)=some x:=by rw[<-J];simp[yv,I]
    rcases Dr h with⟨i,hb⟩|⟨i,hb⟩
    .rw[i] at j;cases j;simp only[cond_true] at hb;rw[CS i] at hb;exact hb
    .rw[i] at j;cases j;simp only[cond_false] at hb;rw[CS i] at hb;exact hb
theorem Em:∀(l:List Bool) (i:Nat),l[i]?=some false->(l.set i true).count false+1=l.count false:=by
 intro l;induction l with
 |nil=>intro i h;simp at h
 |cons b l j=>
  intro i h;cases i with
  |zero=>simp at h;subst h;simp
  |succ i=>
   have:=j i (by simpa using h);simp only[List.set_cons_succ,List.count_cons];omega
def Ch(ds:List Deferred)(all:List Oper)(n:Nat)(e0:Env)(K:Env->World->Prop):Exit->Act->World->Prop:=fun ex a w=>ex=.normal/\∃e',Fr ds n e' a/\(∀j,(∀o∈all,o.dst≠some j)->e' j=e0 j)/\K e' w
theorem RS(c7:CD P ok)(y:Kg n all AP AN Gs){K:Env->World->Prop}(hq:bK P ok n all AP AN Gs e0 w0 A M K){ops:Array Oper}(ak:ops.toList=all) :
  ∀(fuel:Nat) (x:Array Bool) (a:Act) (w:World) (vals:Nat->Value),x.size=ops.size->x.toList.count false<=fuel->S0 P ds all AP AN n e0 w0 A M (fun m=>x.getD m false=true) vals a w->
   wpAny P .any ops (Ch ds all n e0 K) fuel x a w:=by
 have c8:ops.size=all.length:=by rw[<-ak];simp
 have al:∀i:Nat,ops[i]?=all[i]?:=fun i=>by rw[<-ak];simp
 have bd:∀(x:Array Bool) (i:Nat),i∈Region.ready .any ops x->∃o,all[i]?=some o/\x.getD i true=false/\∀e∈o.after,Region.binds .any e=true->x.getD e.on false=true:=by
  intro x i hi;obtain⟨h1,o,V,h3⟩:=mem_ready.1 hi;exact⟨o,by rw[<-al];exact V,h1,h3⟩
 have fin:∀(x:Array Bool) (a:Act) (w:World) (vals:Nat->Value),x.size=ops.size->S0 P ds all AP AN n e0 w0 A M (fun m=>x.getD m false=true) vals a w->Region.ready .any ops x=[]->Ch ds all n e0 K .normal a w:=by
  intro x a w vals an T hr;have X:∀i,i<all.length->x.getD i false=true:=by
   intro i;induction i using Nat.strongRecOn with
   |_ i ih=>
    intro hi;cases hc:x.getD i false with
    |true=>rfl
    |false=>
     have:i∈Region.ready .any ops x:=by
      refine mem_ready.2 ⟨?_,all[i],by rw[al];simp[hi],fun e he hb=>?_⟩
      .have:i<x.size:=by omega
       simp[this] at hc ⊢;exact hc
      .have:=y.back i all[i] (by simp[hi]) e he hb;exact ih e.on this (by omega)
     rw[hr] at this;cases this
  obtain⟨vals',ay,h1,V,h3,h4⟩:=FB (L:=fun m=>x.getD m false=true) (vals0:=vals) y (fun _ _ _ _ _=>rfl) T.closed T.FK
   (fun k o hk B _=>⟨X k (List.getElem?_eq_some_iff.1 hk).1,T.said k o hk (X k (List.getElem?_eq_some_iff.1 hk).1) B⟩)
   all 0 [] vals e0 rfl (fun _ _=>rfl) (fun p hp=>by cases hp) (fun j b hb=>by simp[Cb] at hb)
   (by funext t;exact(CK fun m hm _=>by omega).symm) (fun m o _ _ av _=>by omega) (hq.last w T.mod)
  have bk:BN all n e0 vals' (fun m=>(fun _=>true) m=true/\m<all.length)=BN all n e0 vals (fun m=>x.getD m false=true/\m<all.length):=by
   funext t
   exact Cw y fun m hm _=>⟨⟨fun h=>⟨X m hm,hm⟩,fun h=>⟨rfl,hm⟩⟩,fun _=>h1 m (X m hm)⟩
  rw[bk] at h4;refine⟨rfl,_,T.fr,fun j O=>CK fun m _ hm hd=>?_,h4⟩;have c9:all[m]?=some all[m]:=by simp[hm]
  rw[Bs,c9] at hd;exact O all[m] (by simp) hd
 intro fuel;induction fuel with
 |zero=>
  intro x a w vals an hc T;have hr:Region.ready .any ops x=[]:=by
   cases hr:Region.ready .any ops x with
   |nil=>rfl
   |cons i r=>
    exfalso;obtain⟨o,h1,V,_⟩:=bd x i (by rw[hr];simp);have a1:i<x.size:=by have:=(List.getElem?_eq_some_iff.1 h1).1;omega
    simp[a1] at V;have:false∈x.toList:=by rw[<-V];simp
    have:=List.count_pos_iff.2 this;omega
  exact⟨hr,fin x a w vals an T hr⟩
 |succ fuel ih=>
  intro x a w vals an hc T;refine⟨fin x a w vals an T,fun i hi=>?_⟩;obtain⟨o,Q,b0,b1⟩:=bd x i hi;have a1:i<all.length:=(List.getElem?_eq_some_iff.1 Q).1;have a8:i<x.size:=by omega
  have ax:¬x.getD i false=true:=by simp[a8] at b0 ⊢;exact b0
  have J:∀j∈BV AN i,x.getD j false=true:=by
   intro j O;obtain⟨e,he,hb,h1⟩:=y.cq i o Q j O;have hL:=b1 e he hb;rcases h1 with rfl|h1
   .exact hL
   .exact T.closed e.on (by have:=y.back i o Q e he hb;omega) hL j h1
  have b6:∀t∈slotsOf all o,BN all n e0 vals (fun m=>x.getD m false=true/\m<all.length) t=view all AN n e0 vals i t:=
   EH y Q (fun j O=>⟨J j O,by have:=y.lt a1 O;omega⟩) (fun m hm a6 ca=>ax (T.closed m hm ca.1 i a6)) (fun h=>ax h.1)
  have bl:=T.fr.eval;have Y:(Region.wanted o (yielded ops a.tmps)=true)↔Aj all (view all AN n e0 vals i) o:=by
   rw[<-Bu y Q b6];unfold Region.wanted Aj;cases hg:o.guard with
   |none=>simp
   |some gb=>
    obtain⟨g,b⟩:=gb;have:=E9 T.fr (ops:=ops) (j:=g);rw[ak] at this;simp only[this,beq_iff_eq];constructor
    .rintro h g' b' heq;cases heq;exact h
    .intro h;exact h g b rfl
  have go:∀(v:Value) (w':World),(if i∈AP then Mod (M i) w w' else w'=w)->
    (i∉AP->(Aj all (view all AN n e0 vals i) o->EK P (IX AP AN i) M w0 o (view all AN n e0 vals i) v)/\(¬Aj all (view all AN n e0 vals i) o->v=undef))->
    (i∈AP->(Aj all (view all AN n e0 vals i) o->A i v w')/\(¬Aj all (view all AN n e0 vals i) o->v=undef))->
    wpAny P .any ops (Ch ds all n e0 K) fuel (x.setIfInBounds i true) (a.put o.dst v) w':=by
   intro v w' h1 V h3;have cc:=T.step y hq.dS Q ax J h1 V h3;have bp:∀m,(x.setIfInBounds i true).getD m false=true↔(x.getD m false=true\/m=i):=by
    intro m;simp only[Array.getD_eq_getD_getElem?,Array.getElem?_setIfInBounds];by_cases a6:i=m
    .subst a6;simp[a8]
    .simp[a6,Ne.symm a6]
   refine ih _ _ _ (fun m=>if m=i then v else vals m) (by simpa using an) ?_ ?_
   .have cx:(x.setIfInBounds i true).toList.count false+1=x.toList.count false:=by
     have hb:x.toList[i]'(by simpa using a8)=false:=by simp[a8] at b0;simpa using b0
     rw[Array.toList_setIfInBounds];exact Em x.toList i (by rw[<-hb];simp)
    omega
   .have:(fun m=>(x.setIfInBounds i true).getD m false=true)=(fun m=>x.getD m false=true\/m=i):=by
     funext m;exact propext (bp m)
    rw[this];exact cc
  unfold wpOp;rw[al i,Q];simp only;by_cases I:i∈AP
  .obtain⟨vals',ay,h1,V,h3,h4⟩:=FB (L:=fun m=>x.getD m false=true) (vals0:=vals) y
    (G3 y (E:=Cn AP (BV AN i)) fun k hk _ j O Z=>by
     simp only [Cn,List.mem_filter,AV] at hk ⊢;exact ⟨y.trans i k hk.1 j O,Z⟩) T.closed T.FK
    (fun k o' hk B S=>by
     unfold FO at S;rw [AV.2 B] at S;simp only [cond_true,AV,Cn,List.mem_filter] at S;exact ⟨J k S.1,T.said k o' hk (J k S.1) B⟩)
    all 0 [] vals e0 rfl (fun _ _=>rfl) (fun p hp=>by cases hp) (fun j b hb=>by simp[Cb] at hb)
    (by funext t;exact(CK fun m hm _=>by omega).symm) (fun m o _ _ av _=>by omega) (hq.each i I o Q w (T.YT i I ax))
   have b7:∀j∈BV AN i,FO AP AN (Cn AP (BV AN i)) j=true:=by
    intro j O;unfold FO;cases Z:CB AP j with
    |true=>simp only[cond_true,AV,Cn,List.mem_filter];exact⟨O,AV.1 Z⟩
    |false=>
     simp only[cond_false,List.all_eq_true];intro m hm;cases b2:CB AP m with
     |false=>rfl
     |true=>simp only[cond_true,AV,Cn,List.mem_filter];exact⟨y.trans i j O m hm,AV.1 b2⟩
   have b8:∀m,m<all.length->i∈BV AN m->¬(FO AP AN (Cn AP (BV AN i)) m=true/\m<all.length):=by
    rintro m hm a6 ⟨hs,_⟩;have av:=y.lt hm a6;unfold FO at hs;cases b2:CB AP m with
    |true=>
     rw[b2] at hs;simp only[cond_true,AV,Cn,List.mem_filter] at hs;have:=y.lt a1 hs.1;omega
    |false=>
     rw[b2] at hs;simp only[cond_false,List.all_eq_true] at hs;have:=hs i a6;rw[AV.2 I] at this;simp only[cond_true,AV,Cn,List.mem_filter] at this;have:=y.lt a1 this.1;omega
   have b9:¬(FO AP AN (Cn AP (BV AN i)) i=true/\i<all.length):=by
    rintro⟨hs,_⟩;unfold FO at hs;rw[AV.2 I] at hs;simp only[cond_true,AV,Cn,List.mem_filter] at hs;have:=y.lt a1 hs.1;omega
   have a7:view all AN n e0 vals' i=view all AN n e0 vals i:=CF y fun j O=>h1 j (J j O);have b4:∀t∈slotsOf all o,BN all n e0 vals' (fun m=>FO AP AN (Cn AP (BV AN i)) m=true/\m<all.length) t=view all AN n e0 vals i t:=fun t ht=>by
    rw[EH y Q (fun j O=>⟨b7 j O,by have:=y.lt a1 O;omega⟩) b8 b9 t ht,a7]
   by_cases U:Aj all (view all AN n e0 vals i) o
   .rw[if_pos (Y.2 U)];left;have cd:=O5 h3 ((Bu y Q b4).2 U) h4;have ch:=H7 c7 (fun _=>rfl) (fun _=>rfl) cd;unfold Oper.wp;rw[bl,Cr (e':=BN all n e0 vals' (fun m=>FO AP AN (Cn AP (BV AN i)) m=true/\m<all.length)) (y.Im i o Q) (fun t ht=>by rw[b6 t (CR ht),b4 t (CR ht)])];exact NI ch fun v w' hv=>go v w' (by rw[if_pos I];exact hv.1) (fun h=>(h I).elim) (fun _=>⟨fun _=>hv.2,fun h=>(h U).elim⟩)
   .rw[if_neg (fun h=>U (Y.1 h))];exact go undef w (by rw[if_pos I];exact Mod.refl _ _) (fun h=>(h I).elim) (fun _=>⟨fun h=>(U h).elim,fun _=>rfl⟩)
  .have key:∃vals':Nat->Value,(∀m,x.getD m false=true->vals' m=vals m)/\Gd P all AP AN n e0 w0 M vals' i o:=by
    rcases y.Ug i a1 I with ba|b5|⟨E,hE,b3⟩
    .obtain⟨k0,cn,bs,bx⟩:=y.first;have c4:∀j,j∉Cn AP (BV AN k0):=fun j O=>by
      simp only[Cn,List.mem_filter,AV] at O;exact bx j O.1 O.2
     obtain⟨vals',ay,h1,V,_,_⟩:=FB (L:=fun m=>x.getD m false=true) (vals0:=vals) y
      (G3 y (E:=Cn AP (BV AN k0)) fun k hk _ _ _ _=>(c4 k hk).elim) T.closed T.FK
      (fun k o' hk B S=>by
       unfold FO at S;rw [AV.2 B] at S;simp only [cond_true,AV] at S;exact (c4 k S).elim)
      all 0 [] vals e0 rfl (fun _ _=>rfl) (fun p hp=>by cases hp) (fun j b hb=>by simp[Cb] at hb)
      (by funext t;exact(CK fun m hm _=>by omega).symm) (fun m o _ _ av _=>by omega) (hq.each k0 cn all[k0] (by simp[bs]) w0 (Mod.refl _ _))
     refine⟨vals',h1,V i o Q ?_ I⟩;unfold FO;cases hm:CB AP i with
     |true=>exact(I (AV.1 hm)).elim
     |false=>
      simp only[cond_false,List.all_eq_true];intro j O;cases Z:CB AP j with
      |true=>exact(ba j O (AV.1 Z)).elim
      |false=>rfl
    .obtain⟨vals',ay,h1,V,_,_⟩:=FB (L:=fun m=>x.getD m false=true) (vals0:=vals) y (fun _ _ _ _ _=>rfl) T.closed T.FK
      (fun k o' hk B _=>⟨J k (b5 k B),T.said k o' hk (J k (b5 k B)) B⟩)
      all 0 [] vals e0 rfl (fun _ _=>rfl) (fun p hp=>by cases hp) (fun j b hb=>by simp[Cb] at hb)
      (by funext t;exact(CK fun m hm _=>by omega).symm) (fun m o _ _ av _=>by omega) (hq.last w T.mod)
     exact⟨vals',h1,V i o Q rfl I⟩
    .obtain⟨vals',ay,h1,V,_,_⟩:=FB (L:=fun m=>x.getD m false=true) (vals0:=vals) y
      (G3 y (E:=E) fun k hk B j O Z=>(b3 j Z).1 (y.trans i k ((b3 k B).2 hk) j O)) T.closed T.FK
      (fun k o' hk B S=>by
       unfold FO at S;rw [AV.2 B] at S;simp only [cond_true,AV] at S;have c6:=(b3 k B).2 S;exact ⟨J k c6,T.said k o' hk (J k c6) B⟩)
      all 0 [] vals e0 rfl (fun _ _=>rfl) (fun p hp=>by cases hp) (fun j b hb=>by simp[Cb] at hb)
      (by funext t;exact(CK fun m hm _=>by omega).symm) (fun m o _ _ av _=>by omega) (hq.group E hE w T.mod)
     refine⟨vals',h1,V i o Q ?_ I⟩;unfold FO;cases hm:CB AP i with
     |true=>exact(I (AV.1 hm)).elim
     |false=>
      simp only[cond_false,List.all_eq_true];intro j O;cases Z:CB AP j with
      |true=>simp only[cond_true,AV];exact(b3 j (AV.1 Z)).1 O
      |false=>rfl
   obtain⟨vals',h1,V⟩:=key;have a7:view all AN n e0 vals' i=view all AN n e0 vals i:=CF y fun j O=>h1 j (J j O);unfold Gd at V;rw[a7] at V;have bc:=go (vals' i) w (by rw[if_neg I]) (fun _=>V) (fun h=>(I h).elim);by_cases U:Aj all (view all AN n e0 vals i) o
   .rw[if_pos (Y.2 U)];left;unfold Oper.wp;rw[bl,Cr (e':=view all AN n e0 vals i) (y.Im i o Q) (fun t ht=>b6 t (CR ht)),V.1 U w (T.bM.mono fun b _ ⟨j,O,hL,hb⟩=>⟨j,KV O fun cv=>ax (T.closed j (y.Qz j O) hL i cv),hb⟩)];exact bc
   .rw[if_neg (fun h=>U (Y.1 h))];have:=V.2 U;rw[this] at bc;exact bc
end
end
def Yo(o:Oper):Bool:=match o.op with|.select _ _=>true|_=>false
def aS(n:Nat)(all:List Oper)(AP:List Nat)(AN:List (List Nat))(Gs:List (List Nat))(i:Nat)(o:Oper):Bool:=
 !Yo o&&o.after.toList.all (fun e=>!(Region.binds .any e)||Nat.blt e.on i)
 && (BV AN i).all (fun j=>o.after.toList.any fun e=>Region.binds .any e&&(Nat.beq e.on j||CB (BV AN e.on) j))
 && (slotsOf all o).all (fun t=>(List.range all.length).all fun m=>!(Kw (Bv all m) t)||Nat.beq m i||CB (BV AN i) m||CB (BV AN m) i)
 && (match o.guard with|none=>true|some (g,_)=>CB (BV AN i) g&&(Bv all g).isSome)
 && (match o.dst with|none=>true|some d=>Nat.blt d n&&(List.range all.length).all fun j=>Nat.beq j i||!(Kw (Bv all j) d))
 && (CB AP i||(BV AN i).all (fun j=>!CB AP j)||AP.all (fun j=>CB (BV AN i) j)||Gs.any (fun E=>AP.all fun j=>CB (BV AN i) j==CB E j))
def Km(n:Nat)(all:List Oper)(AP:List Nat)(AN:List (List Nat))(Gs:List (List Nat)):Bool:=
 Nat.ble AN.length all.length
 && (List.range all.length).all (fun i=>match all[i]? with|some o=>aS n all AP AN Gs i o|none=>true)
 && (List.range AN.length).all (fun i=>(BV AN i).all fun j=>(BV AN j).all fun m=>CB (BV AN i) m)
 && AP.any (fun k=>Nat.blt k all.length&&(BV AN k).all fun j=>!CB AP j)
 && AP.all (fun k=>Nat.blt k all.length)
theorem J8{a b:Nat}:Nat.blt a b=true↔a<b:=⟨fun h=>Nat.le_of_ble_eq_true h,fun h=>Nat.ble_eq_true_of_le (show a+1<=b from h)⟩
theorem beq_iff{a b:Nat}:Nat.beq a b=true↔a=b:=⟨Nat.eq_of_beq_eq_true,fun h=>by subst h;simp⟩
theorem UW{AN:List (List Nat)}:∀{i:Nat},AN.length<=i->BV AN i=[]:=by
 induction AN with
 |nil=>intro i _;rfl
 |cons a r j=>intro i h;cases i with
  |zero=>simp at h
  |succ i=>exact j (by simpa using h)
theorem L1{d:Option Nat}{t:Nat}:Kw d t=true↔d=some t:=by
 cases d with
 |none=>simp[Kw]
 |some x=>simp[Kw]
theorem NB{n:Nat}{all:List Oper}{AP:List Nat}{AN:List (List Nat)}{Gs:List (List Nat)}(h:Km n all AP AN Gs=true):Kg n all AP AN Gs:=by
 simp only[Km,Bool.and_eq_true,List.all_eq_true,List.mem_range] at h;obtain⟨⟨⟨⟨h0,h1⟩,V⟩,U⟩,X⟩:=h;have Y:AN.length<=all.length:=Nat.le_of_ble_eq_true h0;have one:∀(i:Nat) o,all[i]?=some o->aS n all AP AN Gs i o=true:=fun i o y=>by
  have:=h1 i (List.getElem?_eq_some_iff.1 y).1;rw[y] at this;exact this
 have x:=fun(i:Nat) (o:Oper) (y:all[i]?=some o)=>by
  have:=one i o y;unfold aS at this;simp only[Bool.and_eq_true] at this;exact this
 have J:∀(m:Nat) o',all[m]?=some o'->Bv all m=o'.dst:=fun m o' hm=>by rw[Bs,hm];rfl
 refine⟨?_,?_,?_,?_,?_,?_,?_,?_,?_,?_,?_⟩
 .intro i o y cs b heq;have:=(x i o y).1.1.1.1.1.1;rw[Yo,heq] at this;cases this
 .intro i o y e he hb;have:=(x i o y).1.1.1.1.1.2;simp only[List.all_eq_true] at this;have:=this e (by simpa using he);rw[hb] at this;simpa[J8] using this
 .intro i o y j B;have:=(x i o y).1.1.1.1.2;simp only[List.all_eq_true] at this;have:=this j B;simp only[List.any_eq_true,Bool.and_eq_true,Bool.or_eq_true] at this;obtain⟨e,he,hb,hc⟩:=this;refine⟨e,by simpa using he,hb,?_⟩;rcases hc with hc|hc
  .exact .inl (beq_iff.1 hc)
  .exact .inr (AV.1 hc)
 .intro i j B m hm;by_cases y:i<AN.length
  .have:=V i y j B;exact AV.1 (this m hm)
  .rw[UW (by omega)] at B;cases B
 .intro i o y t ht m o' hm O Q;have:=(x i o y).1.1.1.2;simp only[List.all_eq_true,List.mem_range] at this;have:=this t ht m (List.getElem?_eq_some_iff.1 hm).1;have he:Kw (Bv all m) t=true:=L1.2 ((J m o' hm).trans O);simp only[he,Bool.not_true,Bool.false_or,Bool.or_eq_true,AV] at this;rcases this with(h|h)|h
  .exact(Q (beq_iff.1 h)).elim
  .exact .inl h
  .exact .inr h
 .intro i o y g b Z;have:=(x i o y).1.1.2;rw[Z] at this;simp only[Bool.and_eq_true,AV,Option.isSome_iff_exists] at this;exact this
 .intro i j o o' y B d O S;have:=(x i o y).1.2;rw[O] at this;simp only[Bool.and_eq_true,List.all_eq_true,List.mem_range] at this;have:=this.2 j (List.getElem?_eq_some_iff.1 B).1;have he:Kw (Bv all j) d=true:=L1.2 ((J j o' B).trans S);simp only[he,Bool.not_true,Bool.or_false] at this;exact(beq_iff.1 this).symm
 .intro i y T;have:=(x i all[i] (by simp[y])).2;have hm:CB AP i=false:=by cases hm:CB AP i with|false=>rfl|true=>exact(T (AV.1 hm)).elim
  simp only[hm,Bool.false_or,Bool.or_eq_true,List.all_eq_true,List.any_eq_true] at this;rcases this with(h|h)|⟨E,hE,h⟩
  .exact .inl fun j B I=>by have:=h j B;rw[AV.2 I] at this;cases this
  .exact .inr (.inl fun j B=>AV.1 (h j B))
  .refine .inr (.inr ⟨E,hE,fun j B=>?_⟩);have:=h j B;simp only[beq_iff_eq] at this;rw[<-AV,<-AV,this]
 .simp only[List.any_eq_true,Bool.and_eq_true,List.all_eq_true] at U;obtain⟨k,hk,hl,hn⟩:=U;exact⟨k,hk,J8.1 hl,fun j B I=>by have:=hn j B;rw[AV.2 I] at this;cases this⟩
 .exact fun k hk=>J8.1 (X k hk)
 .intro i o y d O;have:=(x i o y).1.2;rw[O] at this;simp only[Bool.and_eq_true] at this;exact J8.1 this.1
def Qh(P:Program)(ok:Nat->Bool)(n:Nat)(all:List Oper)(AP:List Nat)(AN:List (List Nat))(e0:Env)(w0:World)(A:Nat->Value->World->Prop)(M:Nat->Nat->Prop)(j:Nat->Addr->Value->Prop)(i:Prop):List Nat->Prop
 |[]=>i
 | k :: ks=>(match all[k]? with
   |some o=>∀w,Mod (Wu AP M k) w0 w->DS P ok n all AP A j w (FO AP AN (Cn AP (BV AN k))) (Up P ok n all A M w k o) all 0 [] e0
   | none=>False)/\Qh P ok n all AP AN e0 w0 A M j i ks
def MV(P:Program)(ok:Nat->Bool)(n:Nat)(all:List Oper)(AP:List Nat)(AN:List (List Nat))(e0:Env)(w0:World)(A:Nat->Value->World->Prop)(M:Nat->Nat->Prop)(j:Nat->Addr->Value->Prop)(i:Prop):List (List Nat)->Prop
 |[]=>i
 |E::o=>(∀w,Mod (LN AP M) w0 w->DS P ok n all AP A j w (FO AP AN E) (fun _ _=>True) all 0 [] e0)/\MV P ok n all AP AN e0 w0 A M j i o
def YO(AP:List Nat)(AN:List (List Nat))(w0:World)(F:(Nat->Value->World->Prop)->(Nat->Nat->Prop)->(Nat->Addr->Value->Prop)->Prop):Prop:=∃A M,Yv AP A M w0/\F A M (Hk AP AN M w0)
theorem Tl{P:Program}{ok:Nat->Bool}{n:Nat}{all:List Oper}{AP:List Nat}{AN:List (List Nat)}{e0:Env}{w0:World}{A:Nat->Value->World->Prop}{M:Nat->Nat->Prop}{x:Nat->Addr->Value->Prop}{i:Prop} :
  ∀ks,Qh P ok n all AP AN e0 w0 A M x i ks->(∀k∈ks,∀o,all[k]?=some o->∀w,Mod (Wu AP M k) w0 w->DS P ok n all AP A x w (FO AP AN (Cn AP (BV AN k))) (Up P ok n all A M w k o) all 0 [] e0)/\i:=by
 intro ks;induction ks with
 |nil=>intro h;exact⟨fun k hk=>(nomatch hk),h⟩
 |cons k ks B=>
  rintro⟨h1,E⟩;obtain⟨I,J⟩:=B E;refine⟨fun O j o y=>?_,J⟩;rcases List.mem_cons.1 j with rfl|j
  .rw[y] at h1;exact h1
  .exact I O j o y
theorem RG{P:Program}{ok:Nat->Bool}{n:Nat}{all:List Oper}{AP:List Nat}{AN:List (List Nat)}{e0:Env}{w0:World}{A:Nat->Value->World->Prop}{M:Nat->Nat->Prop}{x:Nat->Addr->Value->Prop}{i:Prop} :
  ∀o,MV P ok n all AP AN e0 w0 A M x i o->(∀E∈o,∀w,Mod (LN AP M) w0 w->DS P ok n all AP A x w (FO AP AN E) (fun _ _=>True) all 0 [] e0)/\i:=by
 intro o;induction o with
 |nil=>intro h;exact⟨fun k hk=>(nomatch hk),h⟩
 |cons E o y=>
  rintro⟨h1,B⟩;obtain⟨I,J⟩:=y B;refine⟨fun O j=>?_,J⟩;rcases List.mem_cons.1 j with rfl|j
  .exact h1
  .exact I O j
theorem NS{ds:List Deferred}{P:Program}{ok:Nat->Bool}{n:Nat}{ops:Array Oper}{AP:List Nat}{AN Gs:List (List Nat)}{e0:Env}{w:World}{K:Env->World->Prop}{a:Act}(y:CD P ok)(hm:P.follows .mixedOrders=true)(J:Fr ds n e0 a)
 (O:Km n ops.toList AP AN Gs=true)
 (h:YO AP AN w.drew fun A M B=>Qh P ok n ops.toList AP AN e0 w.drew A M B (MV P ok n ops.toList AP AN e0 w.drew A M B (∀w',Mod (LN AP M) w.drew w'->DS P ok n ops.toList AP A B w' (fun _=>true) (fun _ e=>K e w') ops.toList 0 [] e0) Gs) AP) :
  wpAny P .any ops (Ch ds ops.toList n e0 K) ops.size (Array.replicate ops.size false) a { w with drawn:=w.drawn+1 }:=by
 obtain⟨A,M,E,h⟩:=h;obtain⟨h1,Q⟩:=Tl _ h;obtain⟨S,T⟩:=RG _ Q;have I:=NB O;have j:bK P ok n ops.toList AP AN Gs e0 w.drew A M K:=⟨E,h1,S,T⟩;refine RS y I j rfl ops.size (Array.replicate ops.size false) a _ (fun _=>undef) (by simp) ?_ ?_
 .simp
 .have x:∀m:Nat,¬(Array.replicate ops.size false).getD m false=true:=fun m=>by
   simp only[Array.getD_eq_getD_getElem?,Array.getElem?_replicate];split<;>simp
  refine⟨?_,Mod.refl _ _,Mod.refl _ _,fun _ _ _=>Mod.refl _ _,fun i _ o=>(x i o).elim,fun i _ _ o=>(x i o).elim,fun i _ _ o=>(x i o).elim⟩;have:BN ops.toList n e0 (fun _=>undef) (fun m=>(Array.replicate ops.size false).getD m false=true/\m<ops.toList.length)=e0:=by
   funext t;exact CK fun m hm _=>(x m hm.1).elim
  rw[this];exact J
end Go.K
namespace Go.K
open Go
section
variable (P:Program)(ok:Nat->Bool)(n:Nat)
def Ep(AP:List Nat)(M:Nat->Nat->Prop)(j:Nat->Addr->Value->Prop)(_:World)(o:Oper)(i:Nat)(ρ:Operand->Value)(k:Cont)(w:World):Prop:=
 bif CB AP i then EY P ok o ρ (fun v w'=>Mod (M i) w w'/\k v w') w
 else Io P ok AP (fun _ _ _=>True) (j i) w o i ρ fun v=>k v w
def CV(all:List Oper)(AP:List Nat)(M:Nat->Nat->Prop)(x:Nat->Addr->Value->Prop)(w0:World)(K:Env->World->Prop):List Oper->Nat->List (Nat×Option Bool)->Env->World->Prop
 |[],_,_,e,w=>K e w
 |o::r,i,kn,e,w=>
  match o.guard with
  |none=>Ep P ok AP M x w0 o i (ev e) (fun v w'=>CV all AP M x w0 K r (i+1) kn (BG n e o.dst v) w') w
  |some (j,y)=>match Cb kn j with
   |some (some b)=>bif KY b y then Ep P ok AP M x w0 o i (ev e) (fun v w'=>CV all AP M x w0 K r (i+1) kn (BG n e o.dst v) w') w
     else CV all AP M x w0 K r (i+1) ((i,none)::kn) (BG n e o.dst undef) w
   |some none=>CV all AP M x w0 K r (i+1) ((i,none)::kn) (BG n e o.dst undef) w
   |none=>match Bv all j with
    |some d=>AD (e d)
      (bif y then Ep P ok AP M x w0 o i (ev (EC n e d (.bool true))) (fun v w'=>CV all AP M x w0 K r (i+1) ((j,some true) :: kn) (BG n (EC n e d (.bool true)) o.dst v) w') w
       else CV all AP M x w0 K r (i+1) ((i,none) :: (j,some true) :: kn) (BG n (EC n e d (.bool true)) o.dst undef) w)
      (bif y then CV all AP M x w0 K r (i+1) ((i,none) :: (j,some false) :: kn) (BG n (EC n e d (.bool false)) o.dst undef) w
       else Ep P ok AP M x w0 o i (ev (EC n e d (.bool false))) (fun v w'=>CV all AP M x w0 K r (i+1) ((j,some false) :: kn) (BG n (EC n e d (.bool false)) o.dst v) w') w)
    |none=>False
def Az(AP:List Nat)(AN:List (List Nat))(w0:World)(F:(Nat->Nat->Prop)->(Nat->Addr->Value->Prop)->Prop):Prop:=∃M,F M (Hk AP AN M w0)
def KD(AP:List Nat)(AN:List (List Nat)):Bool:=AP.all fun k=>AP.all fun j=>Nat.ble k j||CB (BV AN k) j
end
section
variable {P:Program}{ds:List Deferred}{ok:Nat->Bool}{n:Nat}{all:List Oper}{AP:List Nat}{AN Gs:List (List Nat)}{e0:Env}{w0:World}{M:Nat->Nat->Prop}{K:Env->World->Prop}
/-- what stands at a place of the text: carried out, or passed over -/
theorem KZ(Y : Kg n all AP AN Gs){o : Oper}{E : List Oper}{i : Nat}{kn : List (Nat×Option Bool)}{e : Env}{w : World}(T : all[i]? = some o)(I : ∀p∈kn, p.1<i)(hk : DH all kn e)
   (h : CV P ok n all AP M (Hk AP AN M w0) w0 K (o::E) i kn e w) :
    ∃Q, (∀p∈Q, p.1<i) /\ DH all Q e /\
      ((Aj all e o /\ Ep P ok AP M (Hk AP AN M w0) w0 o i (ev e) (fun v w' => CV P ok n all AP M (Hk AP AN M w0) w0 K E (i + 1) Q (BG n e o.dst v) w') w) \/
       (¬ Aj all e o /\ CV P ok n all AP M (Hk AP AN M w0) w0 K E (i + 1) ((i, none) :: Q) (BG n e o.dst undef) w)) := by
  have Z : i<all.length := (List.getElem?_eq_some_iff.1 T).1;unfold CV at h;cases y : o.guard with
  |none =>
    simp only[y] at h;exact⟨kn, I, hk, .inl ⟨(fun g b J => by rw[y] at J; cases J), h⟩⟩
  |some gb =>
    obtain⟨g, j⟩ := gb;simp only[y] at h;have a1 : g<i := Y.lt Z (Y.guard i o T g j y).1;have wt : yv all e g = some j -> Aj all e o := fun x g' b' J => by rw[y] at J; cases J; exact x
    have X : yv all e g ≠ some j -> ¬Aj all e o := fun x hw => x (hw g j y);cases U : Cb kn g with
    |some b =>
      have x := hk g b U;simp only[U] at h;cases b with
      |none => exact⟨kn, I, hk, .inr ⟨X (by rw[x]; simp), h⟩⟩
      |some b =>
        simp only[GI] at h;cases S : (b==j) with
        |true =>
          simp only[S, cond_true] at h;have : b = j := by simpa using S
          exact⟨kn, I, hk, .inl ⟨wt (by rw[x, this]), h⟩⟩
        |false =>
          simp only[S, cond_false] at h;have : b ≠ j := by simpa using S
          exact⟨kn, I, hk, .inr ⟨X (by rw[x]; simp[this]), h⟩⟩
    |none =>
      simp only[U] at h;obtain⟨d, hd⟩ := (Y.guard i o T g j y).2;simp only[hd] at h;have V : yv all e g = bv (e d) := by simp[yv, hd]
      have B : ∀b, ∀p∈(g, b)::kn, p.1<i := fun b p hp => by
        rcases List.mem_cons.1 hp with rfl|hp
        . exact a1
        . exact I p hp
      rcases Dr h with⟨O, hb⟩|⟨O, hb⟩
      . have x : yv all e g = some true := by rw[V, O]; rfl
        rw[CS O] at hb;cases j with
        |true => simp only[cond_true] at hb; exact⟨_, B _, hk.cons x, .inl ⟨wt x, hb⟩⟩
        |false => simp only[cond_false] at hb; exact⟨_, B _, hk.cons x, .inr ⟨X (by rw[x]; simp), hb⟩⟩
      . have x : yv all e g = some false := by rw[V, O]; rfl
        rw[CS O] at hb;cases j with
        |true => simp only[cond_true] at hb; exact⟨_, B _, hk.cons x, .inr ⟨X (by rw[x]; simp), hb⟩⟩
        |false => simp only[cond_false] at hb; exact⟨_, B _, hk.cons x, .inl ⟨wt x, hb⟩⟩
theorem Jf{r:Result Next}{w:World}{K:Cont}(h:EL w r K P):∃v w',K v w':=by
 match r,h with
 |.ok (.value v) w',h=>exact⟨_,_,h⟩
 |.ok .skip w',h=>exact⟨_,_,h⟩
 |.ok (.enter f args) w',h=>
  obtain⟨_,hc⟩:=h;obtain⟨e,i,fr,⟨v,_,j⟩,_⟩:=hc [];exact⟨v,i,j⟩
theorem MK(x:Kg n all AP AN Gs){i:Nat}{o:Oper}(j:all[i]?=some o){e:Env}:yv all (BG n e o.dst undef) i=none:=by
 unfold yv;rw[Bs,j];simp only[Option.bind_some];cases y:o.dst with
 |none=>rfl
 |some d=>
  have:=x.bound i o j d y;have hb:Nat.blt d n=true:=Nat.ble_eq_true_of_le (show d+1<=n from this);simp[BG,EC,hb];rfl
theorem H9(b4:CD P ok)(S:Kg n all AP AN Gs){L:Nat->Prop}(hL:∀i,i<all.length->L i->∀j∈BV AN i,L j) :
  ∀(d p:Nat) (kn:List (Nat×Option Bool)) (vals:Nat->Value) (w:World),(∀q∈kn,q.1<p)->DH all kn (BN all n e0 vals (fun m=>m<p))->
   (∀(m:Nat) o,all[m]?=some o->(m<p\/L m)->m∉AP->Gd P all AP AN n e0 w0 M vals m o)->
   p+d<=all.length->(∀j∈AP,p<=j->j<p+d->¬L j)->
   CV P ok n all AP M (Hk AP AN M w0) w0 K (all.drop p) p kn (BN all n e0 vals (fun m=>m<p)) w->
   ∃vals' x w',(∀m,(m<p\/L m)->vals' m=vals m)/\(∀q∈x,q.1<p+d)/\DH all x (BN all n e0 vals' (fun m=>m<p+d))/\
    (∀(m:Nat) o,all[m]?=some o->(m<p+d\/L m)->m∉AP->Gd P all AP AN n e0 w0 M vals' m o)/\((∀j∈AP,p<=j->¬j<p+d)->w'=w)/\
    CV P ok n all AP M (Hk AP AN M w0) w0 K (all.drop (p+d)) (p+d) x (BN all n e0 vals' (fun m=>m<p+d)) w':=by
 intro d;induction d with
 |zero=>intro p kn vals w h1 h2 h3 _ _ h;exact⟨vals,kn,w,fun _ _=>rfl,h1,h2,h3,fun _=>rfl,h⟩
 |succ d ih=>
  intro p kn vals w b5 hk hg bd ak h;have V:p<all.length:=by omega
  have y:all[p]?=some all[p]:=by simp[V]
  generalize all[p]=o at y;have a6:all.drop p=o::all.drop (p+1):=by
   rw[List.drop_eq_getElem_cons V];congr 1
   have:=List.getElem?_eq_getElem V;rw[y] at this;exact(Option.some.inj this).symm
  rw[a6] at h;obtain⟨X,I,Y,h⟩:=KZ S y b5 hk h;have al:∀t∈slotsOf all o,BN all n e0 vals (fun m=>m<p) t=view all AN n e0 vals p t:=
   EH S y (fun j Z=>S.lt V Z) (fun m hm a7 bk=>by have:=S.lt hm a7;omega) (fun h=>by omega)
  have B:=KA S y I;have next:∀(v:Value) (x:List (Nat×Option Bool)) (w1:World),(L p->v=vals p)->(∀q∈x,q.1<p+1)->DH all x (BG n (BN all n e0 vals (fun m=>m<p)) o.dst v)->
    (p∉AP->(Aj all (view all AN n e0 vals p) o->EK P (IX AP AN p) M w0 o (view all AN n e0 vals p) v)/\(¬Aj all (view all AN n e0 vals p) o->v=undef))->
    (p∉AP->w1=w)->CV P ok n all AP M (Hk AP AN M w0) w0 K (all.drop (p+1)) (p+1) x (BG n (BN all n e0 vals (fun m=>m<p)) o.dst v) w1->
    ∃vals' x w',(∀m,(m<p\/L m)->vals' m=vals m)/\(∀q∈x,q.1<p+(d+1))/\DH all x (BN all n e0 vals' (fun m=>m<p+(d+1)))/\
     (∀(m:Nat) o,all[m]?=some o->(m<p+(d+1)\/L m)->m∉AP->Gd P all AP AN n e0 w0 M vals' m o)/\((∀j∈AP,p<=j->¬j<p+(d+1))->w'=w)/\
     CV P ok n all AP M (Hk AP AN M w0) w0 K (all.drop (p+(d+1))) (p+(d+1)) x (BN all n e0 vals' (fun m=>m<p+(d+1))) w':=by
   intro v x w1 an av ax b6 b7 hc;have ay:BG n (BN all n e0 vals (fun m=>m<p)) o.dst v=BN all n e0 (fun q=>if q=p then v else vals q) (fun m=>m<p+1):=
    Eh S y (fun m=>by omega) (fun m _ a7=>by simp[a7]) (by simp) (by omega)
   rw[ay] at ax hc;have b8:∀m,m<all.length->(m<p+1\/L m)->view all AN n e0 (fun q=>if q=p then v else vals q) m=view all AN n e0 vals m:=fun m hm J=>
    CF S fun j Z=>by
     by_cases b0:j=p
     .subst b0;rcases J with J|J
      .have:=S.lt hm Z;omega
      .simp[an (hL m hm J j Z)]
     .simp[b0]
   obtain ⟨vals',b9,w',r1,r2,r3,r4,r5,r6⟩:=ih (p+1) x (fun q=>if q=p then v else vals q) w1 av ax (fun m o' hm J a1=>by
     have ba:m<all.length:=(List.getElem?_eq_some_iff.1 hm).1;unfold Gd;rw[b8 m ba J];by_cases T:m=p
     .subst T;rw[y] at hm;cases hm;simp only[if_true];exact b6 a1
     .have:=hg m o' hm (J.imp (fun h=>by omega) id) a1;unfold Gd at this;simpa [T] using this) (by omega) (fun j Z h1 h2=>ak j Z (by omega) (by omega)) hc
   have e1:p+1+d=p+(d+1):=by omega
   rw[e1] at r2 r3 r4 r5 r6;refine⟨vals',b9,w',fun m hm=>?_,r2,r3,r4,fun b1=>?_,r6⟩
   .rw[r1 m (hm.imp (fun h=>by omega) id)];by_cases T:m=p
    .subst T;rcases hm with hm|hm
     .omega
     .simp[an hm]
    .simp[T]
   .rw[r5 fun j Z h1 h2=>b1 j Z (by omega) h2];exact b7 fun E=>b1 p E (Nat.le_refl _) (by omega)
  have O:=Bu S y al;by_cases E:p∈AP
  .have b2:¬L p:=ak p E (Nat.le_refl _) (by omega);rcases h with⟨hw,Q⟩|⟨hw,Q⟩
   .unfold Ep at Q;rw[AV.2 E] at Q;simp only[cond_true] at Q;obtain⟨v,w1,bl,bc⟩:=Jf (H7 b4 (fun _=>rfl) (fun _=>rfl) Q);exact next v X w1 (fun h=>(b2 h).elim) (fun q U=>by have:=I q U;omega) (Y.put B _) (fun h=>(h E).elim) (fun h=>(h E).elim) bc
   .exact next undef ((p,none) :: X) w (fun h=>(b2 h).elim) (fun q U=>by
     rcases List.mem_cons.1 U with rfl|U
     .simp
     .have:=I q U;omega) ((Y.put B _).cons (MK S y)) (fun h=>(h E).elim) (fun _=>rfl) Q
  .have hm:CB AP p=false:=by cases hm:CB AP p with|false=>rfl|true=>exact(E (AV.1 hm)).elim
   rcases h with⟨hw,Q⟩|⟨hw,Q⟩
   .unfold Ep at Q;rw[hm] at Q;simp only[cond_false] at Q;obtain⟨v,h1,h2⟩:=JI hm Q;have b3:EK P (IX AP AN p) M w0 o (view all AN n e0 vals p) v:=h2.congr (S.Im p o y) fun t ht=>al t (CR ht);refine next v X w (fun a8=>?_) (fun q U=>by have:=I q U;omega) (Y.put B _) (fun _=>⟨fun _=>b3,fun hn=>(hn (O.1 hw)).elim⟩) (fun _=>rfl) h1;exact b3.dM ((hg p o y (.inr a8) E).1 (O.1 hw))
   .refine next undef ((p,none) :: X) w (fun a8=>((hg p o y (.inr a8) E).2 fun h=>hw (O.2 h)).symm) (fun q U=>by
     rcases List.mem_cons.1 U with rfl|U
     .simp
     .have:=I q U;omega) ((Y.put B _).cons (MK S y)) (fun _=>⟨fun h=>(hw (O.2 h)).elim,fun _=>rfl⟩) (fun _=>rfl) Q
structure Si (P:Program) (ds:List Deferred) (ok:Nat->Bool) (n:Nat) (all:List Oper) (AP:List Nat) (AN:List (List Nat)) (e0:Env) (w0:World) (M:Nat->Nat->Prop) (K:Env->World->Prop) (L:Nat->Prop) (a:Act) (w:World):Prop where
 ex:∃(p:Nat) (vals:Nat->Value) (kn:List (Nat×Option Bool)),
  Fr ds n (BN all n e0 vals (fun m=>L m/\m<all.length)) a/\p<=all.length/\(∀q∈kn,q.1<p)/\DH all kn (BN all n e0 vals (fun m=>m<p))/\
  (∀(m:Nat) o,all[m]?=some o->(m<p\/L m)->m∉AP->Gd P all AP AN n e0 w0 M vals m o)/\(∀j∈AP,L j↔j<p)/\
  CV P ok n all AP M (Hk AP AN M w0) w0 K (all.drop p) p kn (BN all n e0 vals (fun m=>m<p)) w
 mod:Mod (fun b=>∃j∈AP,L j/\M j b) w0 w
 closed:∀i,i<all.length->L i->∀j∈BV AN i,L j
theorem Pf(bc:CD P ok)(J:Kg n all AP AN Gs)(cc:KD AP AN=true){ops:Array Oper}(b1:ops.toList=all) :
  ∀(fuel:Nat) (x:Array Bool) (a:Act) (w:World),x.size=ops.size->x.toList.count false<=fuel->Si P ds ok n all AP AN e0 w0 M K (fun m=>x.getD m false=true) a w->
   wpAny P .any ops (Ch ds all n e0 K) fuel x a w:=by
 have dy:ops.size=all.length:=by rw[<-b1];simp
 have b2:∀i:Nat,ops[i]?=all[i]?:=fun i=>by rw[<-b1];simp
 have cd:∀(x:Array Bool) (i:Nat),i∈Region.ready .any ops x->∃o,all[i]?=some o/\x.getD i true=false/\∀e∈o.after,Region.binds .any e=true->x.getD e.on false=true:=by
  intro x i hi;obtain⟨h1,o,h2,h3⟩:=mem_ready.1 hi;exact⟨o,by rw[<-b2];exact h2,h1,h3⟩
 have ak:∀j∈AP,∀k∈AP,j<k->j∈BV AN k:=by
  intro j B k hk e9;simp only[KD,List.all_eq_true] at cc;have:=cc k hk j B;simp only[Bool.or_eq_true,AV] at this;rcases this with h|h
  .have:=Nat.le_of_ble_eq_true h;omega
  .exact h
 have fin:∀(x:Array Bool) (a:Act) (w:World),x.size=ops.size->Si P ds ok n all AP AN e0 w0 M K (fun m=>x.getD m false=true) a w->Region.ready .any ops x=[]->Ch ds all n e0 K .normal a w:=by
  intro x a w b3 X hr;have a7:∀i,i<all.length->x.getD i false=true:=by
   intro i;induction i using Nat.strongRecOn with
   |_ i ih=>
    intro hi;cases hc:x.getD i false with
    |true=>rfl
    |false=>
     have:i∈Region.ready .any ops x:=by
      refine mem_ready.2 ⟨?_,all[i],by rw[b2];simp[hi],fun e he hb=>?_⟩
      .have:i<x.size:=by omega
       simp[this] at hc ⊢;exact hc
      .have:=J.back i all[i] (by simp[hi]) e he hb;exact ih e.on this (by omega)
     rw[hr] at this;cases this
  obtain⟨p,vals,kn,b4,ch,b5,hk,hg,B,hc⟩:=X.ex;have O:∀j∈AP,p<=j->¬j<p+(all.length-p):=fun j I ay b0=>by
   have:=(B j I).1 (a7 j (by omega));omega
  obtain⟨vals',cn,w',r1,r2,r3,r4,r5,r6⟩:=H9 (L:=fun m=>x.getD m false=true) bc J X.closed (all.length-p) p kn vals w b5 hk hg (by omega) (fun j I ay b0=>(O j I ay b0).elim) hc;have e1:p+(all.length-p)=all.length:=by omega
  rw[e1] at r6;rw[List.drop_length] at r6;have hw:w'=w:=r5 O;subst hw;have al:BN all n e0 vals' (fun m=>m<all.length)=BN all n e0 vals (fun m=>x.getD m false=true/\m<all.length):=by
   funext t
   exact Cw J fun m hm _=>⟨⟨fun h=>⟨a7 m hm,hm⟩,fun h=>hm⟩,fun _=>r1 m (.inr (a7 m hm))⟩
  unfold CV at r6;rw[al] at r6;refine⟨rfl,_,b4,fun j B=>CK fun m _ hm hd=>?_,r6⟩;have dz:all[m]?=some all[m]:=by simp[hm]
  rw[Bs,dz] at hd;exact B all[m] (by simp) hd
 intro fuel;induction fuel with
 |zero=>
  intro x a w b3 hc X;have hr:Region.ready .any ops x=[]:=by
   cases hr:Region.ready .any ops x with
   |nil=>rfl
   |cons i r=>
    exfalso;obtain⟨o,h1,h2,_⟩:=cd x i (by rw[hr];simp);have Y:i<x.size:=by have:=(List.getElem?_eq_some_iff.1 h1).1;omega
    simp[Y] at h2;have:false∈x.toList:=by rw[<-h2];simp
    have:=List.count_pos_iff.2 this;omega
  exact⟨hr,fin x a w b3 X hr⟩
 |succ fuel ih=>
  intro x a w b3 hc X;refine⟨fin x a w b3 X,fun i hi=>?_⟩;obtain⟨o,E,bd,bk⟩:=cd x i hi;have Y:i<all.length:=(List.getElem?_eq_some_iff.1 E).1;have an:i<x.size:=by omega
  have Z:¬x.getD i false=true:=by simp[an] at bd ⊢;exact bd
  have a1:∀j∈BV AN i,x.getD j false=true:=by
   intro j B;obtain⟨e,he,hb,h1⟩:=J.cq i o E j B;have hL:=bk e he hb;rcases h1 with rfl|h1
   .exact hL
   .exact X.closed e.on (by have:=J.back i o E e he hb;omega) hL j h1
  obtain⟨p,vals,kn,b4,ch,b5,hk,hg,B,c4⟩:=X.ex;have c6:∀t∈slotsOf all o,BN all n e0 vals (fun m=>x.getD m false=true/\m<all.length) t=view all AN n e0 vals i t:=
   EH J E (fun j B=>⟨a1 j B,by have:=J.lt Y B;omega⟩) (fun m hm y cv=>Z (X.closed m hm cv.1 i y)) (fun h=>Z h.1)
  have cx:=b4.eval;have Q:(Region.wanted o (yielded ops a.tmps)=true)↔Aj all (view all AN n e0 vals i) o:=by
   rw[<-Bu J E c6];unfold Region.wanted Aj;cases hg:o.guard with
   |none=>simp
   |some gb=>
    obtain⟨g,b⟩:=gb;have:=E9 b4 (ops:=ops) (j:=g);rw[b1] at this;simp only[this,beq_iff_eq];constructor
    .rintro h g' b' heq;cases heq;exact h
    .intro h;exact h g b rfl
  have dk:∀m,(x.setIfInBounds i true).getD m false=true↔(x.getD m false=true\/m=i):=by
   intro m;simp only[Array.getD_eq_getD_getElem?,Array.getElem?_setIfInBounds];by_cases y:i=m
   .subst y;simp[an]
   .simp[y,Ne.symm y]
  have du:(x.setIfInBounds i true).toList.count false<=fuel:=by
   have hb:x.toList[i]'(by simpa using an)=false:=by simp[an] at bd;simpa using bd
   have:(x.setIfInBounds i true).toList.count false+1=x.toList.count false:=by
    rw[Array.toList_setIfInBounds];exact Em x.toList i (by rw[<-hb];simp)
   omega
  have bp:∀m,m<all.length->(x.getD m false=true\/m=i)->∀j∈BV AN m,(x.getD j false=true\/j=i):=by
   rintro m hm (dT|rfl) j B
   .exact .inl (X.closed m hm dT j B)
   .exact .inl (a1 j B)
  have put:∀(vals':Nat->Value) (v:Value),(∀m,x.getD m false=true->vals' m=vals m)->vals' i=v->
    Fr ds n (BN all n e0 vals' (fun m=>(x.getD m false=true\/m=i)/\m<all.length)) (a.put o.dst v):=by
   intro vals' v h1 h2;rw[<-Eh J (vals:=vals) (S:=fun m=>x.getD m false=true/\m<all.length) (v:=v) E (fun m=>?_) (fun m hm y=>h1 m hm.1) h2 (fun hh=>Z hh.1)]
   .exact b4.put o.dst v
   .constructor
    .rintro⟨h1|h1,h2⟩
     .exact .inl ⟨h1,h2⟩
     .exact .inr h1
    .rintro(⟨h1,h2⟩|rfl)
     .exact⟨.inl h1,h2⟩
     .exact⟨.inr rfl,Y⟩
  have go:∀(v:Value) (w':World),Si P ds ok n all AP AN e0 w0 M K (fun m=>x.getD m false=true\/m=i) (a.put o.dst v) w'->wpAny P .any ops (Ch ds all n e0 K) fuel (x.setIfInBounds i true) (a.put o.dst v) w':=by
   intro v w' h1;refine ih _ _ _ (by simpa using b3) du ?_;have:(fun m=>(x.setIfInBounds i true).getD m false=true)=(fun m=>x.getD m false=true\/m=i):=by
    funext m;exact propext (dk m)
   rw[this];exact h1
  unfold wpOp;rw[b2 i,E];simp only;have b6:∀(vals':Nat->Value),(∀m,x.getD m false=true->vals' m=vals m)->view all AN n e0 vals' i=view all AN n e0 vals i:=fun vals' h=>CF J fun j B=>h j (a1 j B);by_cases T:i∈AP
  .have e2:p<=i:=by
    rcases Nat.lt_or_ge i p with h|h
    .exact(Z ((B i T).2 h)).elim
    .exact h
   have O:∀j∈AP,p<=j->¬j<p+(i-p):=fun j I ay b0=>by
    have h1:=a1 j (ak j I i T (by omega));have:=(B j I).1 h1;omega
   obtain⟨vals',cn,w',r1,r2,r3,r4,r5,r6⟩:=H9 (L:=fun m=>x.getD m false=true) bc J X.closed (i-p) p kn vals w b5 hk hg (by omega) (fun j I ay b0=>(O j I ay b0).elim) c4;have hw:w'=w:=r5 O;subst hw;have e1:p+(i-p)=i:=by omega
   rw[e1] at r2 r3 r4 r6;have c7:all.drop i=o::all.drop (i+1):=by
    rw[List.drop_eq_getElem_cons Y];congr 1
    have:=List.getElem?_eq_getElem Y;rw[E] at this;exact(Option.some.inj this).symm
   rw[c7] at r6;obtain⟨dv,b7,dw,h6⟩:=KZ J E r2 r3 r6;have hv:=b6 vals' fun m hm=>r1 m (.inr hm);have bs:∀t∈slotsOf all o,BN all n e0 vals' (fun m=>m<i) t=view all AN n e0 vals i t:=fun t ht=>by
    rw[EH J E (fun j B=>J.lt Y B) (fun m hm y cv=>by have:=J.lt hm y;omega) (fun h=>by omega) t ht,hv]
   have av:=KA J E b7;have bx:=Bu J E bs;have ax:∀(v:Value) (w1:World) (b8:List (Nat×Option Bool)),(∀q∈b8,q.1<i+1)->DH all b8 (BG n (BN all n e0 vals' (fun m=>m<i)) o.dst v)->Mod (fun b=>∃j∈AP,(x.getD j false=true\/j=i)/\M j b) w0 w1->
     CV P ok n all AP M (Hk AP AN M w0) w0 K (all.drop (i+1)) (i+1) b8 (BG n (BN all n e0 vals' (fun m=>m<i)) o.dst v) w1->Si P ds ok n all AP AN e0 w0 M K (fun m=>x.getD m false=true\/m=i) (a.put o.dst v) w1:=by
    intro v w1 b8 h1 h2 h3 h4;have dx:BG n (BN all n e0 vals' (fun m=>m<i)) o.dst v=BN all n e0 (fun q=>if q=i then v else vals' q) (fun m=>m<i+1):=
     Eh J E (fun m=>by omega) (fun m _ y=>by simp[y]) (by simp) (by omega)
    rw[dx] at h2 h4;refine⟨⟨i+1,fun q=>if q=i then v else vals' q,b8,put _ v (fun m hm=>?_) (by simp),by omega,h1,h2,?_,?_,h4⟩,h3,bp⟩
    .have:m≠i:=by rintro rfl;exact Z hm
     simp[this,r1 m (.inr hm)]
    .intro m o' hm c8 bl;have a8:m<all.length:=(List.getElem?_eq_some_iff.1 hm).1;have y:m≠i:=by rintro rfl;exact bl T
     have a6:m<i\/x.getD m false=true:=by
      rcases c8 with h|h|h
      .exact .inl (by omega)
      .exact .inr h
      .exact(y h).elim
     refine Gd.Ie J a8 (fun j B=>?_) (by simp[y]) (r4 m o' hm a6 bl);have:j≠i:=by
      rintro rfl;rcases a6 with h|h
      .have:=J.lt a8 B;omega
      .exact Z (X.closed m a8 h j B)
     simp[this]
    .intro j I;rw[B j I];constructor
     .rintro(h|rfl)<;>omega
     .intro h;by_cases b9:j=i
      .exact .inr b9
      .exact .inl ((B j I).1 (a1 j (ak j I i T (by omega))))
   have ba:Mod (fun b=>∃j∈AP,(x.getD j false=true\/j=i)/\M j b) w0 w':=X.mod.mono fun b _ ⟨j,B,hL,hb⟩=>⟨j,B,.inl hL,hb⟩;by_cases U:Aj all (view all AN n e0 vals i) o
   .rw[if_pos (Q.2 U)];left;rcases h6 with⟨_,hx⟩|⟨e3,_⟩
    .unfold Ep at hx;rw[AV.2 T] at hx;simp only[cond_true] at hx;have e4:=H7 bc (fun _=>rfl) (fun _=>rfl) hx;unfold Oper.wp;rw[cx,Cr (e':=BN all n e0 vals' (fun m=>m<i)) (J.Im i o E) (fun t ht=>by rw[c6 t (CR ht),bs t (CR ht)])];exact NI e4 fun v w1 hv=>go v w1 (ax v w1 dv (fun q hq=>by have:=b7 q hq;omega) (dw.put av _) ((ba.trans (hv.1.mono fun b _ hb=>⟨i,T,.inr rfl,hb⟩))) hv.2)
    .exact(e3 (bx.2 U)).elim
   .rw[if_neg (fun h=>U (Q.1 h))];rcases h6 with⟨hw,_⟩|⟨_,hx⟩
    .exact(U (bx.1 hw)).elim
    .exact go undef w' (ax undef w' ((i,none) :: dv) (fun q hq=>by
      rcases List.mem_cons.1 hq with rfl|hq
      .simp
      .have:=b7 q hq;omega) ((dw.put av _).cons (MK J E)) ba hx)
  .have key:∃v:Value,(i<p->v=vals i)/\(Aj all (view all AN n e0 vals i) o->EK P (IX AP AN i) M w0 o (view all AN n e0 vals i) v)/\(¬Aj all (view all AN n e0 vals i) o->v=undef):=by
    rcases Nat.lt_or_ge i p with e5|e2
    .exact⟨vals i,fun _=>rfl,hg i o E (.inl e5) T⟩
    .obtain⟨vals',cn,w',r1,r2,r3,r4,r5,r6⟩:=H9 (L:=fun m=>x.getD m false=true) bc J X.closed (i+1-p) p kn vals w b5 hk hg (by omega) (fun j I ay b0 e6=>by have:=(B j I).1 e6;omega) c4;have hv:=b6 vals' fun m hm=>r1 m (.inr hm);have:=r4 i o E (.inl (by omega)) T;unfold Gd at this;rw[hv] at this;exact⟨vals' i,fun h=>by omega,this⟩
   obtain⟨v,e7,c9⟩:=key;have inv:Si P ds ok n all AP AN e0 w0 M K (fun m=>x.getD m false=true\/m=i) (a.put o.dst v) w:=by
    have V:∀m,(m<p\/x.getD m false=true)->(if m=i then v else vals m)=vals m:=by
     intro m hm;by_cases y:m=i
     .subst y;rcases hm with h|h
      .simp[e7 h]
      .exact(Z h).elim
     .simp[y]
    have al:BN all n e0 (fun m=>if m=i then v else vals m) (fun m=>m<p)=BN all n e0 vals (fun m=>m<p):=by
     funext t
     exact Cw J fun m _ _=>⟨Iff.rfl,fun h=>V m (.inl h)⟩
    refine⟨⟨p,fun m=>if m=i then v else vals m,kn,put _ v (fun m hm=>V m (.inr hm)) (by simp),ch,b5,by rw[al];exact hk,?_,?_,by rw[al];exact c4⟩,X.mod.mono fun b _ ⟨j,B,hL,hb⟩=>⟨j,B,.inl hL,hb⟩,bp⟩
    .intro m o' hm c8 bl;have a8:m<all.length:=(List.getElem?_eq_some_iff.1 hm).1;by_cases y:m=i
     .subst y;rw[E] at hm;cases hm;unfold Gd;rw[CF J (vals':=vals) fun j B=>by have:=J.lt Y B;simp[show j≠m by omega]];simp only[if_true];exact c9
     .have a6:m<p\/x.getD m false=true:=by
       rcases c8 with h|h|h
       .exact .inl h
       .exact .inr h
       .exact(y h).elim
      refine Gd.Ie J a8 (fun j B=>?_) (by simp[y]) (hg m o' hm a6 bl);have e8:j<p\/x.getD j false=true:=by
       rcases a6 with h|h
       .exact .inl (by have:=J.lt a8 B;omega)
       .exact .inr (X.closed m a8 h j B)
      exact(V j e8).symm
    .intro j I;have b9:j≠i:=by rintro rfl;exact T I
     rw[<-B j I];simp[b9]
   have ca:=go v w inv;by_cases U:Aj all (view all AN n e0 vals i) o
   .rw[if_pos (Q.2 U)];left;unfold Oper.wp;rw[cx,Cr (e':=view all AN n e0 vals i) (J.Im i o E) (fun t ht=>c6 t (CR ht)),c9.1 U w (X.mod.mono fun b _ ⟨j,B,hL,hb⟩=>⟨j,KV B fun b9=>Z (X.closed j (J.Qz j B) hL i b9),hb⟩)];exact ca
   .rw[if_neg (fun h=>U (Q.1 h))];have:=c9.2 U;rw[this] at ca;exact ca
theorem Oy{ops:Array Oper}{w:World}{a:Act}(B:CD P ok)(hm:P.follows .mixedOrders=true)(O:Fr ds n e0 a)
 (Q:Km n ops.toList AP AN Gs=true)(E:KD AP AN=true)
 (h:Az AP AN w.drew fun M T=>CV P ok n ops.toList AP M T w.drew K ops.toList 0 [] e0 w.drew) :
  wpAny P .any ops (Ch ds ops.toList n e0 K) ops.size (Array.replicate ops.size false) a { w with drawn:=w.drawn+1 }:=by
 obtain⟨M,h⟩:=h;have I:=NB Q;refine Pf (M:=M) (w0:=w.drew) B I E rfl ops.size (Array.replicate ops.size false) a _ (by simp) ?_ ?_
 .simp
 .have y:∀m:Nat,¬(Array.replicate ops.size false).getD m false=true:=fun m=>by
   simp only[Array.getD_eq_getD_getElem?,Array.getElem?_replicate];split<;>simp
  have x:∀S:Nat->Prop,(∀m,¬S m)->BN ops.toList n e0 (fun _=>undef) S=e0:=fun S U=>by
   funext t;exact CK fun m hm _=>(U m hm).elim
  refine⟨⟨0,fun _=>undef,[],?_,Nat.zero_le _,fun q V=>(nomatch V),fun j b hb=>by simp[Cb] at hb,fun m o _ J _=>?_,fun j _=>?_,?_⟩,Mod.refl _ _,fun i _ X=>(y i X).elim⟩
  .rw[x _ fun m hm=>y m hm.1];exact O
  .rcases J with h|h
   .omega
   .exact(y m h).elim
  .exact⟨fun h=>(y j h).elim,fun h=>by omega⟩
  .rw[x _ fun m hm=>by omega];exact h
end
end Go.K
namespace Go.K
open Go
inductive Ord where
 |nil
 |op (i:Nat) (t:Ord)
 |br (a b:Ord)
section
variable (P:Program)(ok:Nat->Bool)(n:Nat)
def CL(all:List Oper)(AP:List Nat)(M:Nat->Nat->Prop)(x:Nat->Addr->Value->Prop)(w0:World)(K:Env->World->Prop):Ord->List (Nat×Option Bool)->Env->World->Prop
 |.nil,_,e,w=>K e w
 |.br a b,kn,e,w=>CL all AP M x w0 K a kn e w/\CL all AP M x w0 K b kn e w
 |.op i r,kn,e,w=>
  match all[i]? with
  |none=>False
  |some o=>match o.guard with
   |none=>Ep P ok AP M x w0 o i (ev e) (fun v w'=>CL all AP M x w0 K r kn (BG n e o.dst v) w') w
   |some (j,y)=>match Cb kn j with
    |some (some b)=>bif KY b y then Ep P ok AP M x w0 o i (ev e) (fun v w'=>CL all AP M x w0 K r kn (BG n e o.dst v) w') w
      else CL all AP M x w0 K r ((i,none)::kn) (BG n e o.dst undef) w
    |some none=>CL all AP M x w0 K r ((i,none)::kn) (BG n e o.dst undef) w
    |none=>match Bv all j with
     |some d=>AD (e d)
       (bif y then Ep P ok AP M x w0 o i (ev (EC n e d (.bool true))) (fun v w'=>CL all AP M x w0 K r ((j,some true) :: kn) (BG n (EC n e d (.bool true)) o.dst v) w') w
        else CL all AP M x w0 K r ((i,none) :: (j,some true) :: kn) (BG n (EC n e d (.bool true)) o.dst undef) w)
       (bif y then CL all AP M x w0 K r ((i,none) :: (j,some false) :: kn) (BG n (EC n e d (.bool false)) o.dst undef) w
        else Ep P ok AP M x w0 o i (ev (EC n e d (.bool false))) (fun v w'=>CL all AP M x w0 K r ((j,some false) :: kn) (BG n (EC n e d (.bool false)) o.dst v) w') w)
     |none=>False
end
def Yn(AP:List Nat):Ord->Nat->Bool
 |.nil,_=>false
 |.br a b,i=>Yn AP a i||Yn AP b i
 |.op j t,i=>Nat.beq j i||(!CB AP j&&Yn AP t i)
def cG(AP:List Nat)(AN:List (List Nat))(t:Ord)(pre:List Nat):Bool:=AP.all fun i=>CB pre i||!((BV AN i).all fun j=>!CB AP j||CB pre j)||Yn AP t i
def OA(N:Nat)(AP:List Nat)(AN:List (List Nat)):Ord->List Nat->Bool
 |.nil,pre=>(List.range N).all (CB pre)
 |.br a b,pre=>OA N AP AN a pre&&OA N AP AN b pre
 |.op i t,pre=>Nat.blt i N&&!CB pre i&&(BV AN i).all (CB pre)&&(bif CB AP i then cG AP AN t (i::pre) else true)&&OA N AP AN t (i::pre)
def Qo(N:Nat)(AP:List Nat)(AN:List (List Nat))(t:Ord):Bool:=cG AP AN t []&&OA N AP AN t []
inductive Reach:Ord->List Nat->Ord->Prop where
 |refl (t:Ord):Reach t [] t
 |op {i:Nat} {t t':Ord} {A:List Nat}:Reach t A t'->Reach (.op i t) (i::A) t'
 |l {a b t':Ord} {A:List Nat}:Reach a A t'->Reach (.br a b) A t'
 |r {a b t':Ord} {A:List Nat}:Reach b A t'->Reach (.br a b) A t'
theorem E8{l:List Nat}{i:Nat}:CB l i=false↔i∉l:=by
 rw[<-AV];cases CB l i<;>simp
theorem PH{N:Nat}{AP:List Nat}{AN:List (List Nat)}{i:Nat}{t:Ord}{pre:List Nat}(h:OA N AP AN (.op i t) pre=true) :
  i<N/\i∉pre/\(∀j∈BV AN i,j∈pre)/\(i∈AP->cG AP AN t (i::pre)=true)/\OA N AP AN t (i::pre)=true:=by
 simp only[OA,Bool.and_eq_true,List.all_eq_true,Bool.not_eq_true',E8,AV] at h;obtain⟨⟨⟨⟨h1,x⟩,y⟩,o⟩,B⟩:=h;refine⟨Nat.le_of_ble_eq_true h1,x,y,fun E=>?_,B⟩;rw[AV.2 E] at o;exact o
theorem Hd{N:Nat}{AP:List Nat}{AN:List (List Nat)}{t t':Ord}{A:List Nat}(h:Reach t A t'):∀{pre:List Nat},OA N AP AN t pre=true->OA N AP AN t' (A.reverse++pre)=true/\∀j∈A,j∉pre:=by
 induction h with
 |refl t=>intro pre h;exact⟨h,fun j i=>(nomatch i)⟩
 |op _ o=>
  intro pre h;obtain⟨_,x,_,_,y⟩:=PH h;obtain⟨B,E⟩:=o y;refine⟨by simpa using B,fun j i=>?_⟩;rcases List.mem_cons.1 i with rfl|i
  .exact x
  .exact fun hp=>E j i (List.mem_cons_of_mem _ hp)
 |l _ o=>intro pre h;simp only[OA,Bool.and_eq_true] at h;exact o h.1
 |r _ o=>intro pre h;simp only[OA,Bool.and_eq_true] at h;exact o h.2
theorem R8{AP:List Nat}{i:Nat}:∀{t:Ord},Yn AP t i=true->∃A t',Reach t A (.op i t')/\∀j∈A,j∉AP:=by
 intro t;induction t with
 |nil=>intro h;cases h
 |op j t E=>
  intro h;simp only[Yn,Bool.or_eq_true,Bool.and_eq_true,Bool.not_eq_true',E8] at h;rcases h with h|⟨h1,I⟩
  .have:=Nat.eq_of_beq_eq_true h;subst this;exact⟨[],t,.refl _,fun j J=>(nomatch J)⟩
  .obtain⟨A,t',o,x⟩:=E I;refine⟨j::A,t',.op o,fun k hk=>?_⟩;rcases List.mem_cons.1 hk with rfl|hk
   .exact h1
   .exact x k hk
 |br a b y B=>
  intro h;simp only[Yn,Bool.or_eq_true] at h;rcases h with h|h
  .obtain⟨A,t',o,x⟩:=y h;exact⟨A,t',.l o,x⟩
  .obtain⟨A,t',o,x⟩:=B h;exact⟨A,t',.r o,x⟩
theorem MI:∀t:Ord,∃A,Reach t A .nil:=by
 intro t;induction t with
 |nil=>exact⟨[],.refl _⟩
 |op j t o=>obtain⟨A,h⟩:=o;exact⟨_,.op h⟩
 |br a b i _=>obtain⟨A,h⟩:=i;exact⟨A,.l h⟩
theorem N0{t t':Ord}{A:List Nat}(h:Reach t A t'):∀{i:Nat},i∈A->∃B x,Reach t B (.op i x)/\(∀j∈B,j∈A):=by
 induction h with
 |refl t=>intro i o;cases o
 |@op j t t' A h y=>
  intro i o;rcases List.mem_cons.1 o with rfl|o
  .exact⟨[],t,.refl _,fun j I=>(nomatch I)⟩
  .obtain⟨B,x,h1,E⟩:=y o;refine⟨j::B,x,.op h1,fun k hk=>?_⟩;rcases List.mem_cons.1 hk with rfl|hk
   .exact List.mem_cons_self
   .exact List.mem_cons_of_mem _ (E k hk)
 |l _ y=>intro i o;obtain⟨B,x,h1,E⟩:=y o;exact⟨B,x,.l h1,E⟩
 |r _ y=>intro i o;obtain⟨B,x,h1,E⟩:=y o;exact⟨B,x,.r h1,E⟩
section
variable {P:Program}{ds:List Deferred}{ok:Nat->Bool}{n:Nat}{all:List Oper}{AP:List Nat}{AN Gs:List (List Nat)}{e0:Env}{w0:World}{M:Nat->Nat->Prop}{K:Env->World->Prop}
structure K6 (all:List Oper) (AN:List (List Nat)) (pre:List Nat):Prop where
 lt:∀m∈pre,m<all.length
 cl:∀m∈pre,∀j∈BV AN m,j∈pre
theorem K6.cons{pre:List Nat}{i:Nat}(h:K6 all AN pre)(x:i<all.length)(ha:∀j∈BV AN i,j∈pre):K6 all AN (i::pre):=
 ⟨fun m hm=>by rcases List.mem_cons.1 hm with rfl | hm;exact x;exact h.lt m hm,fun m hm j o=>by
  rcases List.mem_cons.1 hm with rfl|hm
  .exact List.mem_cons_of_mem _ (ha j o)
  .exact List.mem_cons_of_mem _ (h.cl m hm j o)⟩
theorem Lt(E:Kg n all AP AN Gs){kn:List (Nat×Option Bool)}{i:Nat}{o:Oper}(I:all[i]?=some o)(hk:∀p∈kn,p.1≠i/\p.1<all.length):Ef o.dst kn all=false:=by
 unfold Ef;cases J:o.dst with
 |none=>rfl
 |some t=>
  simp only[List.any_eq_false];intro p hp;obtain⟨y,j⟩:=hk p hp;have x:all[p.1]?=some (all[p.1]'j):=by simp[j]
  rw[Bs,x];simp only[Option.bind_some];cases B:(all[p.1]'j).dst with
  |none=>simp
  |some u=>
   simp only;intro hb;have:=Nat.eq_of_beq_eq_true hb;subst this;exact y (E.one _ _ _ _ x I u B J)
theorem Lx(hG : Kg n all AP AN Gs){o : Oper}{I : Ord}{i : Nat}{pre : List Nat}{kn : List (Nat×Option Bool)}{e : Env}{w : World}(U : all[i]? = some o)(ha : ∀j∈BV AN i, j∈pre)(J : ∀p∈kn, p.1∈pre)(hk : DH all kn e)
   (h : CL P ok n all AP M (Hk AP AN M w0) w0 K (.op i I) kn e w) :
    ∃S, (∀p∈S, p.1∈pre) /\ DH all S e /\
      ((Aj all e o /\ Ep P ok AP M (Hk AP AN M w0) w0 o i (ev e) (fun v w' => CL P ok n all AP M (Hk AP AN M w0) w0 K I S (BG n e o.dst v) w') w) \/
       (¬ Aj all e o /\ CL P ok n all AP M (Hk AP AN M w0) w0 K I ((i, none) :: S) (BG n e o.dst undef) w)) := by
  unfold CL at h;rw[U] at h;simp only at h;cases B : o.guard with
  |none =>
    simp only[B] at h;exact⟨kn, J, hk, .inl ⟨(fun g b O => by rw[B] at O; cases O), h⟩⟩
  |some gb =>
    obtain⟨g, x⟩ := gb;simp only[B] at h;have Z : g∈pre := ha g (hG.guard i o U g x B).1;have wt : yv all e g = some x -> Aj all e o := fun y g' b' O => by rw[B] at O; cases O; exact y
    have Y : yv all e g ≠ some x -> ¬Aj all e o := fun y hw => y (hw g x B);cases V : Cb kn g with
    |some b =>
      have y := hk g b V;simp only[V] at h;cases b with
      |none => exact⟨kn, J, hk, .inr ⟨Y (by rw[y]; simp), h⟩⟩
      |some b =>
        simp only[GI] at h;cases T : (b==x) with
        |true =>
          simp only[T, cond_true] at h;have : b = x := by simpa using T
          exact⟨kn, J, hk, .inl ⟨wt (by rw[y, this]), h⟩⟩
        |false =>
          simp only[T, cond_false] at h;have : b ≠ x := by simpa using T
          exact⟨kn, J, hk, .inr ⟨Y (by rw[y]; simp[this]), h⟩⟩
    |none =>
      simp only[V] at h;obtain⟨d, hd⟩ := (hG.guard i o U g x B).2;simp only[hd] at h;have X : yv all e g = bv (e d) := by simp[yv, hd]
      have E : ∀b, ∀p∈(g, b)::kn, p.1∈pre := fun b p hp => by
        rcases List.mem_cons.1 hp with rfl|hp
        . exact Z
        . exact J p hp
      rcases Dr h with⟨Q, hb⟩|⟨Q, hb⟩
      . have y : yv all e g = some true := by rw[X, Q]; rfl
        rw[CS Q] at hb;cases x with
        |true => simp only[cond_true] at hb; exact⟨_, E _, hk.cons y, .inl ⟨wt y, hb⟩⟩
        |false => simp only[cond_false] at hb; exact⟨_, E _, hk.cons y, .inr ⟨Y (by rw[y]; simp), hb⟩⟩
      . have y : yv all e g = some false := by rw[X, Q]; rfl
        rw[CS Q] at hb;cases x with
        |true => simp only[cond_true] at hb; exact⟨_, E _, hk.cons y, .inr ⟨Y (by rw[y]; simp), hb⟩⟩
        |false => simp only[cond_false] at hb; exact⟨_, E _, hk.cons y, .inl ⟨wt y, hb⟩⟩
theorem JZ(b5:CD P ok)(V:Kg n all AP AN Gs){L:Nat->Prop}(hL:∀i,i<all.length->L i->∀j∈BV AN i,L j){t t':Ord}{A:List Nat}(hr:Reach t A t') :
  ∀(pre:List Nat) (kn:List (Nat×Option Bool)) (vals:Nat->Value) (w:World),OA all.length AP AN t pre=true->K6 all AN pre->(∀q∈kn,q.1∈pre)->DH all kn (BN all n e0 vals (fun m=>m∈pre))->
   (∀(m:Nat) o,all[m]?=some o->(m∈pre\/L m)->m∉AP->Gd P all AP AN n e0 w0 M vals m o)->(∀j∈AP,j∈A->¬L j)->
   CL P ok n all AP M (Hk AP AN M w0) w0 K t kn (BN all n e0 vals (fun m=>m∈pre)) w->
   ∃vals' x w',(∀m,(m∈pre\/L m)->vals' m=vals m)/\(∀q∈x,q.1∈A.reverse++pre)/\DH all x (BN all n e0 vals' (fun m=>m∈A.reverse++pre))/\
    (∀(m:Nat) o,all[m]?=some o->(m∈A.reverse++pre\/L m)->m∉AP->Gd P all AP AN n e0 w0 M vals' m o)/\((∀j∈AP,j∉A)->w'=w)/\K6 all AN (A.reverse++pre)/\
    CL P ok n all AP M (Hk AP AN M w0) w0 K t' x (BN all n e0 vals' (fun m=>m∈A.reverse++pre)) w':=by
 induction hr with
 |refl t=>intro pre kn vals w Z hp h1 h2 h3 _ h;exact⟨vals,kn,w,fun _ _=>rfl,h1,h2,h3,fun _=>rfl,hp,h⟩
 |l _ ih=>intro pre kn vals w Z hp h1 h2 h3 h4 h;simp only[OA,Bool.and_eq_true] at Z;exact ih pre kn vals w Z.1 hp h1 h2 h3 h4 h.1
 |r _ ih=>intro pre kn vals w Z hp h1 h2 h3 h4 h;simp only[OA,Bool.and_eq_true] at Z;exact ih pre kn vals w Z.2 hp h1 h2 h3 h4 h.2
 |@op p t t' A _ ih=>
  intro pre kn vals w Z hp b6 hk hg a8 h;obtain⟨ak,J,X,_,b7⟩:=PH Z;have y:all[p]?=some all[p]:=by simp[ak]
  generalize all[p]=o at y;obtain⟨O,U,Y,h⟩:=Lx V y X b6 hk h;have al:∀t∈slotsOf all o,BN all n e0 vals (fun m=>m∈pre) t=view all AN n e0 vals p t:=
   EH V y X (fun m hm a6 b8=>J (hp.cl m b8 p a6)) J
  have B:=Lt V y (kn:=O) fun q hq=>⟨fun e=>J (e▸U q hq),hp.lt _ (U q hq)⟩;have b9:=hp.cons ak X;have eA:(p::A).reverse++pre=A.reverse++(p::pre):=by simp
  rw[eA];have next:∀(v:Value) (x:List (Nat×Option Bool)) (w1:World),(L p->v=vals p)->(∀q∈x,q.1∈p::pre)->DH all x (BG n (BN all n e0 vals (fun m=>m∈pre)) o.dst v)->
    (p∉AP->(Aj all (view all AN n e0 vals p) o->EK P (IX AP AN p) M w0 o (view all AN n e0 vals p) v)/\(¬Aj all (view all AN n e0 vals p) o->v=undef))->
    (p∉AP->w1=w)->CL P ok n all AP M (Hk AP AN M w0) w0 K t x (BG n (BN all n e0 vals (fun m=>m∈pre)) o.dst v) w1->
    ∃vals' x w',(∀m,(m∈pre\/L m)->vals' m=vals m)/\(∀q∈x,q.1∈A.reverse++(p::pre))/\DH all x (BN all n e0 vals' (fun m=>m∈A.reverse++(p::pre)))/\
     (∀(m:Nat) o,all[m]?=some o->(m∈A.reverse++(p::pre)\/L m)->m∉AP->Gd P all AP AN n e0 w0 M vals' m o)/\((∀j∈AP,j∉p::A)->w'=w)/\K6 all AN (A.reverse++(p::pre))/\
     CL P ok n all AP M (Hk AP AN M w0) w0 K t' x (BN all n e0 vals' (fun m=>m∈A.reverse++(p::pre))) w':=by
   intro v x w1 an av ax ba bc hc;have ay:BG n (BN all n e0 vals (fun m=>m∈pre)) o.dst v=BN all n e0 (fun q=>if q=p then v else vals q) (fun m=>m∈p::pre):=
    Eh V y (fun m=>by simp[or_comm]) (fun m _ a6=>by simp[a6]) (by simp) J
   rw[ay] at ax hc;have bd:∀m,m<all.length->(m∈p::pre\/L m)->view all AN n e0 (fun q=>if q=p then v else vals q) m=view all AN n e0 vals m:=fun m hm E=>
    CF V fun j hj=>by
     by_cases b0:j=p
     .subst b0;rcases E with E|E
      .rcases List.mem_cons.1 E with rfl|E
       .exact(J (X _ hj)).elim
       .exact(J (hp.cl m E j hj)).elim
      .simp[an (hL m hm E j hj)]
     .simp[b0]
   obtain ⟨vals',bk,w',r1,r2,r3,r4,r5,r7,r6⟩:=ih (p :: pre) x (fun q=>if q=p then v else vals q) w1 b7 b9 av ax (fun m o' hm E a1=>by
     have bl:m<all.length:=(List.getElem?_eq_some_iff.1 hm).1;unfold Gd;rw[bd m bl E];by_cases S:m=p
     .subst S;rw[y] at hm;cases hm;simp only[if_true];exact ba a1
     .have:=hg m o' hm (E.imp (fun h=>(List.mem_cons.1 h).resolve_left S) id) a1;unfold Gd at this;simpa [S] using this) (fun j hj h1=>a8 j hj (List.mem_cons_of_mem _ h1)) hc
   refine⟨vals',bk,w',fun m hm=>?_,r2,r3,r4,fun b1=>?_,r7,r6⟩
   .rw[r1 m (hm.imp (fun h=>List.mem_cons_of_mem _ h) id)];by_cases S:m=p
    .subst S;rcases hm with hm|hm
     .exact(J hm).elim
     .simp[an hm]
    .simp[S]
   .rw[r5 fun j hj h1=>b1 j hj (List.mem_cons_of_mem _ h1)];exact bc fun I=>b1 p I List.mem_cons_self
  have Q:=Bu V y al;have kc:∀q∈O,q.1∈p::pre:=fun q hq=>List.mem_cons_of_mem _ (U q hq);have b2:∀q∈(p,none)::O,q.1∈p::pre:=fun q hq=>by
   rcases List.mem_cons.1 hq with rfl|hq
   .exact List.mem_cons_self
   .exact kc q hq
  by_cases I:p∈AP
  .have b3:¬L p:=a8 p I List.mem_cons_self;rcases h with⟨hw,T⟩|⟨hw,T⟩
   .unfold Ep at T;rw[AV.2 I] at T;simp only[cond_true] at T;obtain⟨v,w1,bs,bp⟩:=Jf (H7 b5 (fun _=>rfl) (fun _=>rfl) T);exact next v O w1 (fun h=>(b3 h).elim) kc (Y.put B _) (fun h=>(h I).elim) (fun h=>(h I).elim) bp
   .exact next undef ((p,none)::O) w (fun h=>(b3 h).elim) b2 ((Y.put B _).cons (MK V y)) (fun h=>(h I).elim) (fun _=>rfl) T
  .have hm:CB AP p=false:=E8.2 I;rcases h with⟨hw,T⟩|⟨hw,T⟩
   .unfold Ep at T;rw[hm] at T;simp only[cond_false] at T;obtain⟨v,h1,h2⟩:=JI hm T;have b4:EK P (IX AP AN p) M w0 o (view all AN n e0 vals p) v:=h2.congr (V.Im p o y) fun t ht=>al t (CR ht);refine next v O w (fun a7=>?_) kc (Y.put B _) (fun _=>⟨fun _=>b4,fun hn=>(hn (Q.1 hw)).elim⟩) (fun _=>rfl) h1;exact b4.dM ((hg p o y (.inr a7) I).1 (Q.1 hw))
   .refine next undef ((p,none)::O) w (fun a7=>((hg p o y (.inr a7) I).2 fun h=>hw (Q.2 h)).symm) b2 ((Y.put B _).cons (MK V y)) (fun _=>⟨fun h=>(hw (Q.2 h)).elim,fun _=>rfl⟩) (fun _=>rfl) T
structure Ss (P:Program) (ds:List Deferred) (ok:Nat->Bool) (n:Nat) (all:List Oper) (AP:List Nat) (AN:List (List Nat)) (e0:Env) (w0:World) (M:Nat->Nat->Prop) (K:Env->World->Prop) (L:Nat->Prop) (a:Act) (w:World):Prop where
 ex:∃(t:Ord) (pre:List Nat) (vals:Nat->Value) (kn:List (Nat×Option Bool)),
  Fr ds n (BN all n e0 vals (fun m=>L m/\m<all.length)) a/\OA all.length AP AN t pre=true/\cG AP AN t pre=true/\K6 all AN pre/\(∀q∈kn,q.1∈pre)/\DH all kn (BN all n e0 vals (fun m=>m∈pre))/\
  (∀(m:Nat) o,all[m]?=some o->(m∈pre\/L m)->m∉AP->Gd P all AP AN n e0 w0 M vals m o)/\(∀j∈AP,L j↔j∈pre)/\
  CL P ok n all AP M (Hk AP AN M w0) w0 K t kn (BN all n e0 vals (fun m=>m∈pre)) w
 mod:Mod (fun b=>∃j∈AP,L j/\M j b) w0 w
 closed:∀i,i<all.length->L i->∀j∈BV AN i,L j
theorem RR(bs:CD P ok)(Q:Kg n all AP AN Gs){ops:Array Oper}(b5:ops.toList=all) :
  ∀(fuel:Nat) (x:Array Bool) (a:Act) (w:World),x.size=ops.size->x.toList.count false<=fuel->Ss P ds ok n all AP AN e0 w0 M K (fun m=>x.getD m false=true) a w->
   wpAny P .any ops (Ch ds all n e0 K) fuel x a w:=by
 have ed:ops.size=all.length:=by rw[<-b5];simp
 have b6:∀i:Nat,ops[i]?=all[i]?:=fun i=>by rw[<-b5];simp
 have e2:∀(x:Array Bool) (i:Nat),i∈Region.ready .any ops x->∃o,all[i]?=some o/\x.getD i true=false/\∀e∈o.after,Region.binds .any e=true->x.getD e.on false=true:=by
  intro x i hi;obtain⟨h1,o,U,h3⟩:=mem_ready.1 hi;exact⟨o,by rw[<-b6];exact U,h1,h3⟩
 have fin:∀(x:Array Bool) (a:Act) (w:World),x.size=ops.size->Ss P ds ok n all AP AN e0 w0 M K (fun m=>x.getD m false=true) a w->Region.ready .any ops x=[]->Ch ds all n e0 K .normal a w:=by
  intro x a w b7 hI hr;have an:∀i,i<all.length->x.getD i false=true:=by
   intro i;induction i using Nat.strongRecOn with
   |_ i ih=>
    intro hi;cases hc:x.getD i false with
    |true=>rfl
    |false=>
     have:i∈Region.ready .any ops x:=by
      refine mem_ready.2 ⟨?_,all[i],by rw[b6];simp[hi],fun e he hb=>?_⟩
      .have:i<x.size:=by omega
       simp[this] at hc ⊢;exact hc
      .have:=Q.back i all[i] (by simp[hi]) e he hb;exact ih e.on this (by omega)
     rw[hr] at this;cases this
  obtain⟨t,pre,vals,kn,b8,ho,_,hp,b9,hk,hg,O,hc⟩:=hI.ex;obtain⟨A,a8⟩:=MI t;obtain⟨bx,c4⟩:=Hd a8 ho;have T:∀j∈AP,j∉A:=fun j y V=>c4 j V ((O j y).1 (an j (Q.Qz j y)));obtain⟨vals',e3,w',r1,r2,r3,r4,r5,r7,r6⟩:=JZ (L:=fun m=>x.getD m false=true) bs Q hI.closed a8 pre kn vals w ho hp b9 hk hg (fun j y V=>(T j y V).elim) hc;have hw:w'=w:=r5 T;subst hw;have av:∀m,m<all.length->m∈A.reverse++pre:=fun m hm=>by
   simp only[OA,List.all_eq_true,AV] at bx;exact bx m (List.mem_range.2 hm)
  have ay:BN all n e0 vals' (fun m=>m∈A.reverse++pre)=BN all n e0 vals (fun m=>x.getD m false=true/\m<all.length):=by
   funext t
   exact Cw Q fun m hm _=>⟨⟨fun h=>⟨an m hm,hm⟩,fun h=>av m hm⟩,fun _=>r1 m (.inr (an m hm))⟩
  unfold CL at r6;rw[ay] at r6;refine⟨rfl,_,b8,fun j O=>CK fun m _ hm hd=>?_,r6⟩;have ee:all[m]?=some all[m]:=by simp[hm]
  rw[Bs,ee] at hd;exact O all[m] (by simp) hd
 intro fuel;induction fuel with
 |zero=>
  intro x a w b7 hc hI;have hr:Region.ready .any ops x=[]:=by
   cases hr:Region.ready .any ops x with
   |nil=>rfl
   |cons i r=>
    exfalso;obtain⟨o,h1,U,_⟩:=e2 x i (by rw[hr];simp);have ax:i<x.size:=by have:=(List.getElem?_eq_some_iff.1 h1).1;omega
    simp[ax] at U;have:false∈x.toList:=by rw[<-U];simp
    have:=List.count_pos_iff.2 this;omega
  exact⟨hr,fin x a w b7 hI hr⟩
 |succ fuel ih=>
  intro x a w b7 hc hI;refine⟨fin x a w b7 hI,fun i hi=>?_⟩;obtain⟨o,I,c6,c7⟩:=e2 x i hi;have ax:i<all.length:=(List.getElem?_eq_some_iff.1 I).1;have b0:i<x.size:=by omega
  have ak:¬x.getD i false=true:=by simp[b0] at c6 ⊢;exact c6
  have b1:∀j∈BV AN i,x.getD j false=true:=by
   intro j O;obtain⟨e,he,hb,h1⟩:=Q.cq i o I j O;have hL:=c7 e he hb;rcases h1 with rfl|h1
   .exact hL
   .exact hI.closed e.on (by have:=Q.back i o I e he hb;omega) hL j h1
  obtain⟨t,pre,vals,kn,b8,b4,ba,hp,b9,hk,hg,O,cv⟩:=hI.ex;have cx:∀t∈slotsOf all o,BN all n e0 vals (fun m=>x.getD m false=true/\m<all.length) t=view all AN n e0 vals i t:=
   EH Q I (fun j O=>⟨b1 j O,by have:=Q.lt ax O;omega⟩) (fun m hm E dk=>ak (hI.closed m hm dk.1 i E)) (fun h=>ak h.1)
  have e4:=b8.eval;have Z:(Region.wanted o (yielded ops a.tmps)=true)↔Aj all (view all AN n e0 vals i) o:=by
   rw[<-Bu Q I cx];unfold Region.wanted Aj;cases hg:o.guard with
   |none=>simp
   |some gb=>
    obtain⟨g,b⟩:=gb;have:=E9 b8 (ops:=ops) (j:=g);rw[b5] at this;simp only[this,beq_iff_eq];constructor
    .rintro h g' b' heq;cases heq;exact h
    .intro h;exact h g b rfl
  have e5:∀m,(x.setIfInBounds i true).getD m false=true↔(x.getD m false=true\/m=i):=by
   intro m;simp only[Array.getD_eq_getD_getElem?,Array.getElem?_setIfInBounds];by_cases E:i=m
   .subst E;simp[b0]
   .simp[E,Ne.symm E]
  have e6:(x.setIfInBounds i true).toList.count false<=fuel:=by
   have hb:x.toList[i]'(by simpa using b0)=false:=by simp[b0] at c6;simpa using c6
   have:(x.setIfInBounds i true).toList.count false+1=x.toList.count false:=by
    rw[Array.toList_setIfInBounds];exact Em x.toList i (by rw[<-hb];simp)
   omega
  have ca:∀m,m<all.length->(x.getD m false=true\/m=i)->∀j∈BV AN m,(x.getD j false=true\/j=i):=by
   rintro m hm (ef|rfl) j O
   .exact .inl (hI.closed m hm ef j O)
   .exact .inl (b1 j O)
  have put:∀(vals':Nat->Value) (v:Value),(∀m,x.getD m false=true->vals' m=vals m)->vals' i=v->
    Fr ds n (BN all n e0 vals' (fun m=>(x.getD m false=true\/m=i)/\m<all.length)) (a.put o.dst v):=by
   intro vals' v h1 U;rw[<-Eh Q (vals:=vals) (S:=fun m=>x.getD m false=true/\m<all.length) (v:=v) I (fun m=>?_) (fun m hm E=>h1 m hm.1) U (fun hh=>ak hh.1)]
   .exact b8.put o.dst v
   .constructor
    .rintro⟨h1|h1,U⟩
     .exact .inl ⟨h1,U⟩
     .exact .inr h1
    .rintro(⟨h1,U⟩|rfl)
     .exact⟨.inl h1,U⟩
     .exact⟨.inr rfl,ax⟩
  have go:∀(v:Value) (w':World),Ss P ds ok n all AP AN e0 w0 M K (fun m=>x.getD m false=true\/m=i) (a.put o.dst v) w'->wpAny P .any ops (Ch ds all n e0 K) fuel (x.setIfInBounds i true) (a.put o.dst v) w':=by
   intro v w' h1;refine ih _ _ _ (by simpa using b7) e6 ?_;have:(fun m=>(x.setIfInBounds i true).getD m false=true)=(fun m=>x.getD m false=true\/m=i):=by
    funext m;exact propext (e5 m)
   rw[this];exact h1
  unfold wpOp;rw[b6 i,I];simp only;have bc:∀(vals':Nat->Value),(∀m,x.getD m false=true->vals' m=vals m)->view all AN n e0 vals' i=view all AN n e0 vals i:=fun vals' h=>CF Q fun j O=>h j (b1 j O);by_cases a1:i∈AP
  .have eg:i∉pre:=fun h=>ak ((O i a1).2 h);have du:Yn AP t i=true:=by
    simp only[cG,List.all_eq_true] at ba;have h1:=ba i a1;rw[E8.2 eg] at h1;have U:((BV AN i).all fun j=>!CB AP j||CB pre j)=true:=by
     simp only[List.all_eq_true,Bool.or_eq_true,Bool.not_eq_true',AV,E8];intro j eh;by_cases y:j∈AP
     .exact .inr ((O j y).1 (b1 j eh))
     .exact .inl y
    simpa[U] using h1
   obtain⟨A,t',a8,ei⟩:=R8 du;obtain⟨bx,c4⟩:=Hd a8 b4;have T:∀j∈AP,j∉A:=fun j y V=>ei j V y;obtain⟨vals',e3,w',r1,r2,r3,r4,r5,r7,r6⟩:=JZ (L:=fun m=>x.getD m false=true) bs Q hI.closed a8 pre kn vals w b4 hp b9 hk hg (fun j y V=>(T j y V).elim) cv;have hw:w'=w:=r5 T;subst hw;obtain⟨_,av,dv,dw,e7⟩:=PH bx;generalize e8:A.reverse++pre=J at *;have ej:∀j∈AP,j∈J↔j∈pre:=fun j y=>by
    rw[<-e8,List.mem_append,List.mem_reverse];exact⟨fun h=>h.resolve_left (T j y),.inr⟩
   obtain⟨c8,bd,e9,h6⟩:=Lx Q I dv r2 r3 r6;have hv:=bc vals' fun m hm=>r1 m (.inr hm);have cc:∀t∈slotsOf all o,BN all n e0 vals' (fun m=>m∈J) t=view all AN n e0 vals i t:=fun t ht=>by
    rw[EH Q I dv (fun m hm E dk=>av (r7.cl m dk i E)) av t ht,hv]
   have b2:=Lt Q I (kn:=c8) fun q hq=>⟨fun e=>av (e▸bd q hq),r7.lt _ (bd q hq)⟩;have cd:=Bu Q I cc;have b3:∀(v:Value) (w1:World) (bk:List (Nat×Option Bool)),(∀q∈bk,q.1∈i::J)->DH all bk (BG n (BN all n e0 vals' (fun m=>m∈J)) o.dst v)->Mod (fun b=>∃j∈AP,(x.getD j false=true\/j=i)/\M j b) w0 w1->
     CL P ok n all AP M (Hk AP AN M w0) w0 K t' bk (BG n (BN all n e0 vals' (fun m=>m∈J)) o.dst v) w1->Ss P ds ok n all AP AN e0 w0 M K (fun m=>x.getD m false=true\/m=i) (a.put o.dst v) w1:=by
    intro v w1 bk h1 U h3 h4;have ea:BG n (BN all n e0 vals' (fun m=>m∈J)) o.dst v=BN all n e0 (fun q=>if q=i then v else vals' q) (fun m=>m∈i::J):=
     Eh Q I (fun m=>by simp[or_comm]) (fun m _ E=>by simp[E]) (by simp) av
    rw[ea] at U h4;refine⟨⟨t',i::J,fun q=>if q=i then v else vals' q,bk,put _ v (fun m hm=>?_) (by simp),e7,dw a1,r7.cons ax dv,h1,U,?_,?_,h4⟩,h3,ca⟩
    .have:m≠i:=by rintro rfl;exact ak hm
     simp[this,r1 m (.inr hm)]
    .intro m o' hm dx c9;have bl:m<all.length:=(List.getElem?_eq_some_iff.1 hm).1;have E:m≠i:=by rintro rfl;exact c9 a1
     have al:m∈J\/x.getD m false=true:=by
      rcases dx with h|h|h
      .exact .inl ((List.mem_cons.1 h).resolve_left E)
      .exact .inr h
      .exact(E h).elim
     refine Gd.Ie Q bl (fun j O=>?_) (by simp[E]) (r4 m o' hm al c9);have:j≠i:=by
      rintro rfl;rcases al with h|h
      .exact av (r7.cl m h j O)
      .exact ak (hI.closed m bl h j O)
     simp[this]
    .intro j y;rw[O j y,List.mem_cons,ej j y];exact or_comm
   have bp:Mod (fun b=>∃j∈AP,(x.getD j false=true\/j=i)/\M j b) w0 w':=hI.mod.mono fun b _ ⟨j,O,hL,hb⟩=>⟨j,O,.inl hL,hb⟩;have kc:∀q∈c8,q.1∈i::J:=fun q hq=>List.mem_cons_of_mem _ (bd q hq);by_cases a6:Aj all (view all AN n e0 vals i) o
   .rw[if_pos (Z.2 a6)];left;rcases h6 with⟨_,hx⟩|⟨ek,_⟩
    .unfold Ep at hx;rw[AV.2 a1] at hx;simp only[cond_true] at hx;have du:=H7 bs (fun _=>rfl) (fun _=>rfl) hx;unfold Oper.wp;rw[e4,Cr (e':=BN all n e0 vals' (fun m=>m∈J)) (Q.Im i o I) (fun t ht=>by rw[cx t (CR ht),cc t (CR ht)])];exact NI du fun v w1 hv=>go v w1 (b3 v w1 c8 kc (e9.put b2 _) ((bp.trans (hv.1.mono fun b _ hb=>⟨i,a1,.inr rfl,hb⟩))) hv.2)
    .exact(ek (cd.2 a6)).elim
   .rw[if_neg (fun h=>a6 (Z.1 h))];rcases h6 with⟨hw,_⟩|⟨_,hx⟩
    .exact(a6 (cd.1 hw)).elim
    .exact go undef w' (b3 undef w' ((i,none) :: c8) (fun q hq=>by
      rcases List.mem_cons.1 hq with rfl|hq
      .exact List.mem_cons_self
      .exact kc q hq) ((e9.put b2 _).cons (MK Q I)) bp hx)
  .have key:∃v:Value,(i∈pre->v=vals i)/\(Aj all (view all AN n e0 vals i) o->EK P (IX AP AN i) M w0 o (view all AN n e0 vals i) v)/\(¬Aj all (view all AN n e0 vals i) o->v=undef):=by
    by_cases dy:i∈pre
    .exact⟨vals i,fun _=>rfl,hg i o I (.inl dy) a1⟩
    .obtain⟨A0,ch⟩:=MI t;obtain⟨cn,_⟩:=Hd ch b4;have en:i∈A0:=by
      simp only[OA,List.all_eq_true,AV] at cn;have:=cn i (List.mem_range.2 ax);rw[List.mem_append,List.mem_reverse] at this;exact this.resolve_right dy
     obtain⟨B,t1,ec,_⟩:=N0 ch en;have a8:Reach t (B++[i]) t1:=by
      have tr:∀{a b c:Ord} {X Y:List Nat},Reach a X b->Reach b Y c->Reach a (X++Y) c:=by
       intro a b c X Y h1 U;induction h1 with
       |refl _=>exact U
       |op _ ih=>exact .op (ih U)
       |l _ ih=>exact .l (ih U)
       |r _ ih=>exact .r (ih U)
      exact tr ec (.op (.refl _))
     obtain⟨_,c4⟩:=Hd a8 b4;obtain⟨vals',e3,w',r1,r2,r3,r4,r5,r7,r6⟩:=JZ (L:=fun m=>x.getD m false=true) bs Q hI.closed a8 pre kn vals w b4 hp b9 hk hg (fun j y V eo=>c4 j V ((O j y).1 eo)) cv;have hv:=bc vals' fun m hm=>r1 m (.inr hm);have:=r4 i o I (.inl (by simp)) a1;unfold Gd at this;rw[hv] at this;exact⟨vals' i,fun h=>(dy h).elim,this⟩
   obtain⟨v,ep,dz⟩:=key;have inv:Ss P ds ok n all AP AN e0 w0 M K (fun m=>x.getD m false=true\/m=i) (a.put o.dst v) w:=by
    have a7:∀m,(m∈pre\/x.getD m false=true)->(if m=i then v else vals m)=vals m:=by
     intro m hm;by_cases E:m=i
     .subst E;rcases hm with h|h
      .simp[ep h]
      .exact(ak h).elim
     .simp[E]
    have ay:BN all n e0 (fun m=>if m=i then v else vals m) (fun m=>m∈pre)=BN all n e0 vals (fun m=>m∈pre):=by
     funext t
     exact Cw Q fun m _ _=>⟨Iff.rfl,fun h=>a7 m (.inl h)⟩
    refine⟨⟨t,pre,fun m=>if m=i then v else vals m,kn,put _ v (fun m hm=>a7 m (.inr hm)) (by simp),b4,ba,hp,b9,by rw[ay];exact hk,?_,?_,by rw[ay];exact cv⟩,hI.mod.mono fun b _ ⟨j,O,hL,hb⟩=>⟨j,O,.inl hL,hb⟩,ca⟩
    .intro m o' hm dx c9;have bl:m<all.length:=(List.getElem?_eq_some_iff.1 hm).1;by_cases E:m=i
     .subst E;rw[I] at hm;cases hm;unfold Gd;rw[CF Q (vals':=vals) fun j O=>by have:=Q.lt ax O;simp[show j≠m by omega]];simp only[if_true];exact dz
     .have al:m∈pre\/x.getD m false=true:=by
       rcases dx with h|h|h
       .exact .inl h
       .exact .inr h
       .exact(E h).elim
      refine Gd.Ie Q bl (fun j O=>?_) (by simp[E]) (hg m o' hm al c9);have er:j∈pre\/x.getD j false=true:=by
       rcases al with h|h
       .exact .inl (hp.cl m h j O)
       .exact .inr (hI.closed m bl h j O)
      exact(a7 j er).symm
    .intro j y;have dT:j≠i:=by rintro rfl;exact a1 y
     rw[<-O j y];simp[dT]
   have e1:=go v w inv;by_cases a6:Aj all (view all AN n e0 vals i) o
   .rw[if_pos (Z.2 a6)];left;unfold Oper.wp;rw[e4,Cr (e':=view all AN n e0 vals i) (Q.Im i o I) (fun t ht=>cx t (CR ht)),dz.1 a6 w (hI.mod.mono fun b _ ⟨j,O,hL,hb⟩=>⟨j,KV O fun dT=>ak (hI.closed j (Q.Qz j O) hL i dT),hb⟩)];exact e1
   .rw[if_neg (fun h=>a6 (Z.1 h))];have:=dz.2 a6;rw[this] at e1;exact e1
theorem OY{ops:Array Oper}{w:World}{a:Act}{t:Ord}(B:CD P ok)(hm:P.follows .mixedOrders=true)(J:Fr ds n e0 a)
 (O:Km n ops.toList AP AN Gs=true)(ht:Qo ops.toList.length AP AN t=true)
 (h:Az AP AN w.drew fun M Q=>CL P ok n ops.toList AP M Q w.drew K t [] e0 w.drew) :
  wpAny P .any ops (Ch ds ops.toList n e0 K) ops.size (Array.replicate ops.size false) a { w with drawn:=w.drawn+1 }:=by
 obtain⟨M,h⟩:=h;have E:=NB O;simp only[Qo,Bool.and_eq_true] at ht;refine RR (M:=M) (w0:=w.drew) B E rfl ops.size (Array.replicate ops.size false) a _ (by simp) ?_ ?_
 .simp
 .have y:∀m:Nat,¬(Array.replicate ops.size false).getD m false=true:=fun m=>by
   simp only[Array.getD_eq_getD_getElem?,Array.getElem?_replicate];split<;>simp
  have x:∀S:Nat->Prop,(∀m,¬S m)->BN ops.toList n e0 (fun _=>undef) S=e0:=fun S T=>by
   funext t;exact CK fun m hm _=>(T m hm).elim
  refine⟨⟨t,[],fun _=>undef,[],?_,ht.2,ht.1,⟨fun m hm=>(nomatch hm),fun m hm=>(nomatch hm)⟩,fun q U=>(nomatch U),fun j b hb=>by simp[Cb] at hb,fun m o _ I _=>?_,fun j _=>?_,?_⟩,Mod.refl _ _,fun i _ V=>(y i V).elim⟩
  .rw[x _ fun m hm=>y m hm.1];exact J
  .rcases I with h|h
   .cases h
   .exact(y m h).elim
  .exact⟨fun h=>(y j h).elim,fun h=>(nomatch h)⟩
  .rw[x _ fun m hm=>(nomatch hm)];exact h
end
end Go.K
