/- parts of the proof, written short by a program of ours -/
import Derived.Orders
import Derived.Scope
import Derived.Below
import Derived.Laws.Sem
import Derived.Laws.World
import Derived.Laws.Cells
import Derived.Laws.Small
import Derived.Laws.Entries
import Derived.Laws.Strings
import Derived.Still
import Derived.Tactics
import Derived.Deep.Quiet
import Derived.RangeFuncIn
import Derived.TacticsIn
import Derived.Test.YtjdgbcdfgnajlaaGreatDoorProg
import Derived.KernelRfl
import GoSem.Claims
import Derived.Laws.AppendOwnNone
import Derived.RangeFuncOwn
import Derived.RangeFuncLeaves
import Derived.WalkKit
import Derived.Laws.IdiomStrings
import Derived.Lib.AppendZeros
import Derived.MapKept
import Derived.ChangeKeysEq
import Derived.Laws.BytesArg
import Derived.Shelf.GgSortFunc.InsertionK
import Derived.Shelf.SlSortCmp.WholeK
import Derived.Shelf.SlSortCmp.NoneTotal
import Derived.Lib.Zigzag
import Derived.Laws.Cover3
import Derived.Lib.AppendZerosOnto
import Derived.Lib.Overlaps
import Derived.ProofKit
import Derived.Lib.SmallJoins
import Derived.Deep.Slices
import Derived.Lib.LaidU8
import Derived.Lib.LaidIn
import Derived.LaidHandle
import Derived.LaidMore
import Derived.MakeChecks
import Derived.Lib.SlBytesConst
import Derived.OpenShut
import Derived.ShutString
import Derived.ChangeOld
import Derived.ChangeVars
import Derived.JoinedOf
import Derived.JoinedCond
import Derived.Deep.DeepHandedRow
import Derived.SevenTiedAt
set_option linter.all false
set_option maxRecDepth 100000
namespace Go
abbrev _root_.Go.U_:=List Value
abbrev _root_.Go.V':=List Int
abbrev _root_.Go.X_:=List Nat
abbrev _root_.Go.Z':=List Deferred
abbrev _root_.Go.b_:=Value
abbrev _root_.Go.c_:=World
abbrev _root_.Go.d_:=Nat->Prop
@[match_pattern] abbrev _root_.Go.e_(b:Nat):Value:=.pointer (some ⟨b,0,none⟩)
@[match_pattern] abbrev _root_.Go.f_(b:Nat):Option Addr:=some ⟨b,0,none⟩
@[match_pattern] abbrev _root_.Go.g_:Value:=.slice none 0 0
def _root_.Go.h_:Nat->Nat->Nat->List Nat|0,_,_=>[]|k+1,i,n=>bif Nat.beq (Nat.mod n 2) 1 then i::h_ k (i+1) (Nat.div n 2) else h_ k (i+1) (Nat.div n 2)
def _root_.Go.i_(m:List Nat):List (List Nat):=m.map (h_ m.length 0)
theorem _root_.Go.j1{P:Prop}(h:P:=by exact λj u hu=>by rw[Addr.add_add];exact hc j u hu):P:=h
theorem _root_.Go.j_{P:Prop}(h:P:=by exact λu hu=>by simp at hu;rcases hu with rfl|rfl<;>rfl):P:=h
theorem _root_.Go.k_{P:Prop}(h:P:=by simp[Tr.idx,e]):P:=h
end Go
namespace Go.Proofs.YtjdgbcdfgnajlaaGreatDoor
open Go Proofs.Tryz
variable {B:Nat}{S S':d_}{w w':c_}{v sv:b_}{cs vs args:U_}{α:Type}{yo xo:Operand}
def Ad:=@List.getElem?_eq_some_iff
def Bp:=@List.length_append
def By:=@if_neg
def DN:=@Nat.le_refl
def HK:=@List.headD_cons
def Hc:=@List.getElem?_eq_getElem
def Ix:=@if_pos
def I3:=@List.length_drop
def K8:=@List.mem_append
def Lc:=@Nat.zero_le
def Mp:=@Nat.lt_of_lt_of_le
def Nn:=@List.length_map
def No:=@List.take_add_one
def Nr:=@List.take_append_drop
def Of:=@List.eq_nil_of_length_eq_zero
def P9:=@Nat.succ_pos
def Q0:=@List.append_assoc
def S4:=@Go.Addr.add_add
def S5:=@List.length_take
def S6:=@List.mem_cons
def S7:=@List.getElem_mem
def S9:=@World.cell?_setCell_other
def Ty:=@Result.andThen_ok
def WJ:=@List.mem_map
def WL:=@List.take_length
def aE:=@Bool.and_eq_true
def aN:=@List.getLast?_singleton
def aO:=@List.append_nil
def aR:=@Sem.run_bind
def cO:=@List.length_cons
def gn:=@Option.some.injEq
def ku:=@List.nodup_append
def lA:=@World.block_lt_of_cell?
def lP:=@Option.isSome_iff_exists
def lp:=@List.getLast?_append
def l9:=@List.eq_nil_or_concat
def nm:=@List.getElem?_append_right
def oy:=@List.mem_of_mem_drop
def py:=@Nat.le_trans
def q8:=@Classical.byContradiction
def r8:=@Go.World.cell?_setCell_other
def r9:=@congrArg
def sY:=@Nat.eq_of_beq_eq_true
def so:=@List.getElem?_drop
def uN:=@List.mem_singleton
def ub:=@decide_eq_true_eq
def u6:=@List.getElem?_append_left
def u7:=@List.map_append
def u9:=@List.pairwise_cons
def vk:=@World.cell?_setCell_same
def ys:=@decide_eq_true
def y8:=@List.drop_eq_getElem_cons
def y9:=@Nat.mul_le_mul_right
def zF:=@List.mem_of_mem_take
def zR:=@DataW.trod_int
def zk:=@decide_eq_false
def aAA:=@Int.toNat_natCast
def aAB:=@List.mem_iff_getElem?
def aAC:=@List.length_set
def aAD:=@Nat.min_eq_left
def aAE:=@List.mem_cons_self
def aAF:=@List.getElem?_set_self
def aAG:=@List.drop_zero
def aAH:=@List.length_pos_iff
def aAI:=@List.map_take
def aAJ:=@List.mem_append_right
def aAK:=@Option.some_or
def aAL:=@Go.World.cell?_setCell_same
def aAM:=@List.getElem?_map
def aAN:=@List.cons_append
def aAO:=@Option.some.inj
def aAP:=@List.nil_append
def aAQ:=@List.drop_succ_cons
def aAR:=@List.map_cons
def aAS:=@List.dropLast_concat
def aAT:=@List.mem_append_left
def aAU:=@List.not_mem_nil
def aAV:=@List.concat_eq_append
def aAW:=@if_false
def aAX:=@List.take_succ_cons
def aAY:=@Sem.run_pure
def aAZ:=@List.take_of_length_le
def aAa:=@Option.map_some
def aAb:=@List.mem_filter
def aAc:=@List.tail_cons
def aAd:=@List.set_append_right
def aAe:=@List.map_drop
def aAf:=@List.all_eq_true
def aAg:=@List.foldl_cons
def aAh:=@if_true
def aAi:=@List.mem_cons_of_mem
def aAj:=@List.foldl_append
def aAk:=@List.mem_of_getElem?
def aAl:=@Nat.le_of_ble_eq_true
def aAm:=@Array.getElem?_eq_some_iff
def aAn:=@Go.World.putObj_heap_other
def aAo:=@List.ext_getElem?
def aAp:=@List.getElem_append_right
def aAq:=@List.pairwise_iff_getElem
def aAr:=@List.getElem?_take
def aAs:=@MapKept.run_getObj_map
def aAu:=@List.length_nil
def aAv:=@List.drop_length
def aAw:=@List.length_singleton
def aAx:=@Array.getD_eq_getD_getElem?
def aAy:=@List.size_toArray
def aAz:=@run_sliceAt_slice
def aA0:=@List.drop_drop
def aA1:=@List.Perm.refl
def aA2:=@List.mem_iff_getElem
def aA3:=@Nat.add_zero
def aA4:=@List.drop_eq_nil_of_le
def aA5:=@List.zipWith_cons_cons
def aA6:=@Nat.mul_le_mul_left
def aA7:=@List.filter_eq_self
def aA8:=@List.take_append_of_le_length
def aA9:=@List.flatMap_cons
def aBA:=@Array.getElem?_toList
def aBB:=@List.length_filter_le
def aBC:=@List.Sublist.count_le
def aBD:=@Go.run_equalIn_int
def aBE:=@wpIn_mono
def aBF:=@decide_eq_false_iff_not
def aBG:=@List.getElem?_cons_succ
def aBH:=@List.flatten_cons
def aBI:=@List.take_take
def aBJ:=@MapKept.run_findKey
def aBK:=@List.getLast?_eq_none_iff
def aBL:=@List.getElem?_eq_none
def aBM:=@List.dropLast_sublist
def aBN:=@List.length_replicate
def aBO:=@cond_false
def aBP:=@cond_true
def aBQ:=@List.getElem_append_left
def aBR:=@List.map_map
def aBS:=@List.take_zero
def aBT:=@Bool.or_eq_true
def aBU:=@List.cons.injEq
def aBV:=@List.flatMap_append
def aBW:=@Array.length_toList
def aBX:=@Option.map_eq_some_iff
def aBY:=@List.filter_eq_nil_iff
def aBZ:=@List.getElem_map
def aBa:=@Bool.false_eq_true
def aBb:=@List.mem_range
def aBc:=@List.singleton_append
def aBd:=@Nat.add_mul
def aBe:=@MapKept.run_checkKey
def aBf:=@List.mem_of_getLast?
def aBg:=@List.getElem_take
def aBh:=@Nat.add_assoc
def aBi:=@List.sum_cons
def aBj:=@List.replicate_append_replicate
def aBk:=@List.map_congr_left
def aBl:=@Go.World.cell?_of_block
def aBm:=@heap_alloc_new
def aBn:=@or_false
def aBo:=@decide_eq_decide
def aBp:=@List.getElem?_cons_zero
def aBq:=@List.nodup_nil
def aBr:=@List.length_eq_zero_iff
def aBs:=@List.pairwise_singleton
def aBt:=@List.getLast?_eq_some_getLast
def aBu:=@Calls.mono
def aBv:=@grownCap_le_maxLen
def aBw:=@MapKept.run_setObj_map
def aBx:=@List.set_cons_zero
def aBy:=@Nat.zero_add
def aBz:=@List.getLast?_drop
def aB0:=@Nat.ble_eq_true_of_le
def aB1:=@List.getElem_set_self
def aB2:=@List.dropLast_eq_take
def aB3:=@Classical.not_not
def aB4:=@DataW.trod_struct
def aB5:=@of_decide_eq_true
def aB6:=@World.cell?_of_block
def aB7:=@Go.Result.andThen_ok
def aB8:=@List.getD_eq_getElem?_getD
def aB9:=@Nat.mul_one
def aCA:=@List.getElem?_set_ne
def aCB:=@Bool.false_and
def aCC:=@Nat.pow_le_pow_right
def aCD:=@List.Pairwise.filter
def aCE:=@Nat.one_mul
def aCF:=@Nat.div_add_mod'
def aCG:=@List.take_append
def aCH:=@List.drop_append
def aCI:=@List.map_nil
def aCJ:=@List.mem_flatMap
def aCK:=@List.mem_of_find?_eq_some
def aCL:=@List.countP_pos_iff
def aCM:=@Go.World.cell?_alloc_new
def aCN:=@trodAll_cons_mk
def aCO:=@run_loadCells_list
def aCP:=@Option.isNone_some
def aCQ:=@MapKept.heap_alloc
def aCR:=@List.mem_replicate
def aCS:=@Int.natCast_nonneg
def aCT:=@Nat.add_sub_cancel_left
def aCU:=@Iff.rfl
def aCV:=@and_true
def aCW:=@Value.slice.injEq
def aCX:=@List.length_eq_one_iff
def aCY:=@List.flatten_replicate_singleton
def aCZ:=@Nat.add_comm
def aCa:=@List.take_sublist
def aCb:=@Nat.sub_self
def aCc:=@List.any_eq_true
def aCd:=@Nat.le_of_not_lt
def aCe:=@List.find?_eq_some_iff_getElem
def aCf:=@Bool.true_and
def aCg:=@List.pairwise_append
def aCh:=@Array.getElem?_setIfInBounds
def aCi:=@run_equalIn_agg
def aCj:=@run_eqGuard_agg
def aCk:=@List.dropLast_concat_getLast
def aCl:=@List.drop_left'
def aCm:=@List.take_left'
def aCn:=@DataW.trod_bool
def aCo:=@List.getElem_set_ne
def aCp:=@List.drop_set_of_lt
def aCq:=@List.takeWhile_cons
def aCr:=@List.dropWhile_cons
def aCs:=@List.replicate_succ
def aCt:=@List.getElem?_range
def aCu:=@Nat.mul_lt_mul_of_pos_right
def aCv:=@Go.RowKit.Below.heap_alloc
def aCw:=@growslice_fits
def aCx:=@size_zeroCells
def aCy:=@List.foldl_nil
def aCz:=@Array.mapM_eq_mapM_toList
def aC0:=@List.mem_or_eq_of_mem_set
def aC1:=@MakeChecks.laidMetH_plain
def aC2:=@setRow_heap
def aC3:=@Array.size_append
def aC4:=@Ne.symm
def aC5:=@List.getElem_drop
def aC6:=@Prod.mk.injEq
def aC7:=@List.length_filterMap_le
def aC8:=@List.getElem?_take_of_lt
def aC9:=@Go.World.alloc_heap_new
def aDA:=@true_and
def aDB:=@List.getElem?_replicate
def aDC:=@World.frozen?_of_block
def aDD:=@not_or
def aDE:=@List.getElem_cons_zero
def aDF:=@getElem!_pos
def aDG:=@Go.Sem.run_bind
def aDH:=@Go.Sem.run_pure
def aDI:=@run_append_grow
def aDJ:=@List.append_inj
def aDK:=@List.find?_some
def aDL:=@List.of_mem_zip
def aDM:=@World.var?_cell
def aDN:=@Array.getElem?_append
def aDO:=@Nat.div_lt_iff_lt_mul
def aDP:=@Go.run_equalIn_string
def aDQ:=@List.set_getElem_self
def aDR:=@grownCap_ge
def aDS:=@run_neq_struct
def aDT:=@run_slice_h
def aDV:=@List.map_id
def aDW:=@UInt8.toNat_lt
def aDZ:=@Option.or_none
def aDb:=@DataW.trod_lt
def aDc:=@Nat.mod_lt
def aDd:=@callsIn_wide
def aDe:=@Nat.zero_mul
def aDf:=@List.set_set
def aDg:=@List.sum_nil
def aDh:=@Bool.not_not
def aDi:=@Nat.lt_or_ge
abbrev zIq(x:Int):b_:=.int .i64 x
def E{P:Prop}(h:P:=by omega):P:=h
def C0{P:Prop}(h:P:=by decide):P:=h
def D_{P:Prop}(h:P:=by kernel_rfl):P:=h
def E_{P:Prop}(h:P:=by simp):P:=h
def B_{P:Prop}(h:P:=by grind):P:=h
def N'{P:Prop}(h:P:=by simp;omega):P:=h
def M'{P:Prop}(h:P:=by simp only[maxLen];omega):P:=h
def F_{P:Prop}(h:P:=by exact λh=>h):P:=h
def M_{P:Prop}(h:P:=by exact λ_ h=>h):P:=h
def C_{P:Prop}(h:P:=by exact λ_ _ h=>h):P:=h
def E'{P:Prop}(h:P:=by exact λ_ _ _ h=>h):P:=h
def Sl{P:Prop}(h:P:=by exact λ_ _ _ _ _ _ h=>h):P:=h
def L_{P:Prop}(h:P:=by exact λ_ h=>h.elim):P:=h
def G_{P:Prop}(h:P:=by exact λ_ _ h=>h.elim):P:=h
def I'{P:Prop}(h:P:=by intros;rfl):P:=h
def K_{P:Prop}(h:P:=by exact λ_ h=>.inl h):P:=h
def Sk{P:Prop}(h:P:=by intro e;cases e):P:=h
abbrev Env:=Nat->b_
abbrev Cont:=b_->c_->Prop
abbrev EQ:=Exit->Env->c_->Prop
def JU(n:Nat)(e:Env)(i:Nat)(v:b_):Env:=λj=>bif Nat.beq j i&&Nat.blt i n then v else e j
def Cw(n:Nat)(e:Env)(d:Option Nat)(v:b_):Env:=match d with|some i=>JU n e i v|none=>e
def ev(e:Env)(x:Operand):b_:=match x with
 |.tmp t=>e t | .const v=>v | .global g=>e_ g | .func f=>.func (.func f) #[] #[]
def Bf:U_->Nat->b_
 |vs,0=>vs.headD undef
 |vs,k+1=>Bf vs.tail k
structure Fr (ds:Z') (n:Nat) (e:Env) (a:Act):Prop where
 size:a.tmps.size=n
 get:∀t,a.tmps.getD t undef=e t
 defers:a.defers=ds
theorem Fr.eval{ds:Z'}{n:Nat}{e:Env}{a:Act}(h:Fr ds n e a):a.eval=ev e:=by
 funext x;cases x with
 |tmp t=>exact h.get t
 |const v=>rfl
 |global g=>rfl
 |func f=>rfl
theorem Fr.put{ds:Z'}{n:Nat}{e:Env}{a:Act}(h:Fr ds n e a)(d:Option Nat)(v:b_):Fr ds n (Cw n e d v) (a.put d v):=by
 cases d with
 |none=>exact h
 |some i=>
  refine⟨by simp[Act.put,h.size],λt=>?_,h.defers⟩;have I:=h.get t;simp only[Act.put,Cw,JU,aAx,aCh,h.size];simp only[aAx] at I;by_cases h1:i=t
  .subst h1;by_cases J:i<n
   .have j:Nat.blt i n=true:=aB0 (by omega);simp[J,j]
   .have N:a.tmps[i]?=none:=Array.getElem?_eq_none (by rw[h.size];omega);have j:Nat.blt i n=false:=by
     cases hb:Nat.blt i n with
     |false=>rfl
     |true=>exact absurd (aAl hb) (by omega)
    grind
  grind[Nat.eq_of_beq_eq_true]
def Af(v:b_)(A B:Prop):Prop:=match v with|.bool true=>A|.bool false=>B|_=>False
def Mm(c a b:b_)(K:b_->Prop):Prop:=match c with|.bool true=>K a|.bool false=>K b|_=>False
def Cl(k:IntKind)(x y:b_)(K:b_->Prop):Prop:=∃a b,x=.int k a/\y=.int k b/\K (.int k (k.wrap (a+b)))
def EO(k:IntKind)(x y:b_)(K:b_->Prop):Prop:=∃a b,x=.int k a/\y=.int k b/\K (.int k (k.wrap (a-b)))
def bH(k:IntKind)(x y:b_)(K:b_->Prop):Prop:=∃a b,x=.int k a/\y=.int k b/\K (.int k (k.wrap (a*b)))
def HZ(k:IntKind)(x y:b_)(K:b_->Prop):Prop:=∃a b,x=.int k a/\y=.int k b/\K (.bool (decide (a<b)))
def fX(k:IntKind)(x y:b_)(K:b_->Prop):Prop:=∃a b,x=.int k a/\y=.int k b/\K (.bool (decide (a<=b)))
def Xq(k:IntKind)(x y:b_)(K:b_->Prop):Prop:=∃a b,x=.int k a/\y=.int k b/\K (.bool (decide (b<a)))
def Xf(k:IntKind)(x y:b_)(K:b_->Prop):Prop:=∃a b,x=.int k a/\y=.int k b/\K (.bool (decide (b<=a)))
def P2(k:IntKind)(x y:b_)(K:b_->Prop):Prop:=∃a b,x=.int k a/\y=.int k b/\K (.bool (decide (a=b)))
def TB(k:IntKind)(x y:b_)(K:b_->Prop):Prop:=∃a b,x=.int k a/\y=.int k b/\K (.bool (!decide (a=b)))
def cB(x y:b_)(K:b_->Prop):Prop:=∃a b,x=.bool a/\y=.bool b/\K (.bool (a==b))
def bV(x y:b_)(K:b_->Prop):Prop:=∃a b,x=.bool a/\y=.bool b/\K (.bool (!(a==b)))
def bR(x y:b_)(K:b_->Prop):Prop:=∃a b,x=.string a/\y=.string b/\K (.bool (decide (a=b)))
def fI(x y:b_)(K:b_->Prop):Prop:=∃a b,x=.string a/\y=.string b/\K (.bool (!decide (a=b)))
def NY(x:b_)(K:Bool->Prop):Prop:=∃a n c,x=.slice a n c/\K (Option.isNone a)
def JI(x:b_)(K:Bool->Prop):Prop:=∃a,x=.pointer a/\K (Option.isNone a)
def P6(k:IntKind)(x y:b_)(K:b_->Prop):Prop:=∃a b,x=.int k a/\y=.int k b/\K (.int k (if b>a then b else a))
def QB(k:IntKind)(x y:b_)(K:b_->Prop):Prop:=∃a b,x=.int k a/\y=.int k b/\K (.int k (if b<a then b else a))
def MU(x:b_)(K:b_->Prop):Prop:=∃a,x=.bool a/\K (.bool (!a))
def Dz(x:b_)(K:b_->Prop):Prop:=∃a n c,x=.slice a n c/\K (zIq n)
def RT(x:b_)(K:b_->Prop):Prop:=∃s,x=.string s/\K (zIq s.size)
def Aw(x:b_)(K:b_->Prop):Prop:=∃a,x=.pointer (some a)/\K x
def BX(off:Nat)(x:b_)(K:b_->Prop):Prop:=∃a,x=.pointer (some a)/\K (.pointer (some (a.add off)))
def KY(size:Nat)(x i:b_)(K:b_->Prop):Prop:=∃a n c k j,x=.slice (some a) n c/\i=.int k j/\0<=j/\j<n/\K (.pointer (some (a.add (j.toNat*size))))
def BR(x:b_)(K:Cont)(w:c_):Prop:=∃a v,x=.pointer (some a)/\w.cell? a=some v/\K v w
def DJ(k:Nat)(x:b_)(K:Cont)(w:c_):Prop:=∃a vs,x=.pointer (some a)/\List.length vs=k/\(∀j v,vs[j]?=some v->w.cell? (a.add j)=some v)/\K (.agg vs.toArray) w
def Cc(x v:b_)(K:c_->Prop)(w:c_):Prop:=∃a u,x=.pointer (some a)/\v.oneCell'=true/\v.cells=#[v]/\w.cell? a=some u/\w.frozen? a=false/\K (w.setCell a v)
def Fj(w:c_)(a:Addr):Nat->U_->c_
 |_,[]=>w
 |i,v::vs=>Fj (w.setCell (a.add i) v) a (i+1) vs
def Bv(k:Nat)(x v:b_)(K:c_->Prop)(w:c_):Prop:=∃a vs,x=.pointer (some a)/\v=.agg (List.toArray vs)/\vs.length=k/\(∀v∈vs,v.oneCell'=true)/\ (∀j,j<k->(w.cell? (a.add j)).isSome=true/\w.frozen? (a.add j)=false)/\K (Fj w a 0 vs)
def Cv(t:TypeId)(cs:U_)(K:Cont)(w:c_):Prop:=K (e_ w.heap.size) (w.alloc (.cells cs.toArray t))
def OD(t:TypeId)(x:b_)(K:Cont)(w:c_):Prop:=x.cells=#[x]/\Cv t [x] K w
def JK(t:TypeId)(x:b_)(K:Cont)(w:c_):Prop:=∃vs,x=.agg (List.toArray vs)/\Cv t vs K w
def DQ(AS:List (Nat×Nat))(zero:U_)(BP:List (Nat×b_))(K:b_->Prop):Prop:=∃cs,Instr.fill (λi=>AS[i]?) zero.toArray BP=some cs/\K (.agg cs)
def EE(e:TypeId)(size len:Nat)(zero:U_)(BP:List (Nat×b_))(K:Cont)(w:c_):Prop:=∃cs,Instr.fill (λi=>some (i*size,size)) ((Array.range (len*size)).map (zero.toArray[· % zero.toArray.size]!)) BP=some cs/\ K (.slice (f_ w.heap.size) len len) (w.alloc (.cells cs e))
def Az(i:Nat)(x:b_)(K:b_->Prop):Prop:=∃vs v,x=.tuple (List.toArray vs)/\vs[i]?=some v/\K v
def runK(P:Program)(s:Sem b_)(K:Cont)(w:c_):Prop:=∃v w',s.run P w=.ok v w'/\K v w'
def AD(P:Program)(g:Nat)(args:U_)(K:Cont)(w:c_):Prop:=
 Calls P g args.toArray w λe w'=>∃v,e=.returned v/\K v w'
abbrev _root_.Go.l_(g:Nat)(l:List Value)(K:Value->World->Prop)(w:World):Prop:=AD prog g l K w
def WN(P:Program)(g:Nat)(args:U_)(K:Cont)(w:c_):Prop:=∃v w',(callFunc g args.toArray).run P w=.ok (.value v) w'/\K v w'
def Bb(P:Program)(ok:Nat->Bool)(f:b_)(args:U_)(K:Cont)(w:c_):Prop:=∃g j cap,f=.func (.func g) (List.toArray j) (List.toArray cap)/\ok g=true/\AD P g (j++args++cap) K w
def Dm(R:U_->c_->Prop)(G:(U_->c_->Prop)->Prop):Prop:=∃I:U_->c_->Prop,(∀vs w,I vs w->R vs w)/\G I
def GM(j:U_)(F:U_->(U_->c_->Prop)->c_->Prop)(w:c_):Prop:=∃(I:U_->c_->Prop) (μ:U_->c_->Nat),I j w/\∀vs w,I vs w->F vs (λJ w'=>I J w'/\μ J w'<μ vs w) w
def Gj(P:Program)(t:TypeId):Option (Bool×Nat):=
 match P.underlying t,P.info? t with
 |some (.struct _),some i=>some (true,i.size)
 |some (.array _ _),some i=>some (true,i.size)
 |some _,some i=>some (false,i.size)
 |_,_=>none
def Hd(P:Program)(t:TypeId):Option b_:=match P.info? t with|some i=>i.zero|none=>none
def R8:Operand->Bool
 |.const (.slice none _ _)=>true
 |_=>false
def Rj:Operand->Bool
 |.const (.pointer none)=>true
 |_=>false
def Di(op:BinOp)(t:TypeId)(xo yo:Operand)(x y:b_):Sem b_:=do eqGuard op t xo yo x y;binOp op t x y
def TH(P:Program)(op:BinOp)(t:TypeId)(yo:Operand)(x y:b_)(K:b_->Prop)(F:Prop):Prop:=
 match P.underlying t with
 |some (.int k)=>match op with
  |.add=>Cl k x y K | .sub=>EO k x y K | .mul=>bH k x y K
  |.lss=>HZ k x y K | .leq=>fX k x y K | .gtr=>Xq k x y K | .geq=>Xf k x y K
  |.eql=>P2 k x y K | .neq=>TB k x y K
  |_=>F
 |some .bool=>match op with
  |.eql=>cB x y K | .neq=>bV x y K
  |_=>F
 |some .string=>match op with
  |.eql=>bR x y K | .neq=>fI x y K
  |_=>F
 |some (.slice _)=>bif R8 yo then match op with
   |.eql=>NY x λb=>K (.bool b)
   |.neq=>NY x λb=>K (.bool (!b))
   |_=>F
  else F
 |some (.pointer _)=>bif Rj yo then match op with
   |.eql=>JI x λb=>K (.bool b)
   |.neq=>JI x λb=>K (.bool (!b))
   |_=>F
  else F
 |_=>F
def Ga(P:Program)(j:List Field):Option (List (Nat×Nat)):=
 match j with
 |[]=>some []
 |f::r=>match P.info? f.type,Ga P r with | some i,some l=>some ((f.offset,i.size)::l) | _,_=>none
def Iv(P:Program)(ok:Nat->Bool)(o:Oper)(ρ:Operand->b_)(K:Cont)(w:c_):Prop:=
 match o.op with
 |.move x=>K (ρ x) w
 |.assign x=>K (ρ x) w
 |.pick c a b=>Mm (ρ c) (ρ a) (ρ b) λv=>K v w
 |.alloc t=>match Hd P t with | some z=>Cv t z.cells.toList K w | none=>False
 |.box t x=>match Gj P t with | some (false,_)=>OD t (ρ x) K w | some (true,_)=>JK t (ρ x) K w | none=>False
 |.load t x=>match Gj P t with | some (false,_)=>BR (ρ x) K w | some (true,k)=>DJ k (ρ x) K w | none=>False
 |.store t a x=>match Gj P t with
  |some (false,k)=>bif Nat.beq k 1 then Cc (ρ a) (ρ x) (λw=>K undef w) w else False
  |some (true,k)=>Bv k (ρ a) (ρ x) (λw=>K undef w) w
  |none=>False
 |.nilCheck x=>Aw (ρ x) λv=>K v w
 |.binOp op t x y _=>TH P op t y (ρ x) (ρ y) (λv=>K v w) (runK P (Di op t x y (ρ x) (ρ y)) K w)
 |.unOp .not _ x=>MU (ρ x) λv=>K v w
 |.unOp op _ x=>runK P (Op.unary op (ρ x)) K w
 |.fieldAddr s x f=>match P.underlying s with
  |some (.struct j)=>match j.toList[f]? with
   |some f=>match P.info? f.type with
    |some i=>bif Nat.beq i.size 0 then False else BX f.offset (ρ x) λv=>K v w
    |none=>False
   |none=>False
  |_=>False
 |.indexAddr t x i=>match P.underlying t with
  |some (.slice e)=>match P.info? e with | some f=>KY f.size (ρ x) (ρ i) λv=>K v w | none=>False
  |_=>runK P (Instr.indexAt t (ρ x) (ρ i)) K w
 |.build t BP=>match P.underlying t,Hd P t with
  |some (.struct j),some z=>match Ga P j.toList with
   |some l=>DQ l z.cells.toList (BP.toList.map λp=>(p.1,ρ p.2)) λv=>K v w
   |none=>False
  |_,_=>runK P (Instr.build t (BP.toList.map λp=>(p.1,ρ p.2)).toArray) K w
 |.buildSlice t len BP=>match P.underlying t with
  |some (.slice e)=>match P.info? e with
   |some i=>bif Nat.blt 0 (len*i.size)&&Nat.ble (len*i.size) 1000000 then
     match i.zero with|some z=>EE e i.size len z.cells.toList (BP.toList.map λp=>(p.1,ρ p.2)) K w|none=>False
    else bif Nat.beq (len*i.size) 0 then EE e i.size len [] (BP.toList.map λp=>(p.1,ρ p.2)) K w else False
   |none=>False
  |_=>False
 |.extract t i=>Az i (ρ t) λv=>K v w
 |.makeFunc fn I cap=>K (.func fn (I.toList.map ρ).toArray (cap.toList.map ρ).toArray) w
 |.convert s d x=>runK P (convert s d (ρ x)) K w
 |.slice t x lo hi mx=>runK P (Instr.sliceAt t (ρ x) (lo.map ρ) (hi.map ρ) (mx.map ρ)) K w
 |.field t x f=>runK P (Instr.field t (ρ x) f) K w
 |.index t x i=>runK P (Instr.index t (ρ x) (ρ i)) K w
 |.makeMap t r=>runK P (Instr.makeMap t (r.map ρ)) K w
 |.makeSlice t l c=>runK P (Instr.makeSlice t (ρ l) (ρ c)) K w
 |.makeInterface t x=>runK P (Instr.makeInterface t (ρ x)) K w
 |.lookup t x i b=>runK P (Instr.lookup t (ρ x) (ρ i) b) K w
 |.mapUpdate t m k x=>runK P (do Instr.mapUpdate t (ρ m) (ρ k) (ρ x);pure undef) K w
 |.insert t m k x=>runK P (do Instr.mapUpdate t (ρ m) (ρ k) (ρ x);pure undef) K w
 |.mapEntry t m k=>runK P (Instr.mapEntry t (ρ m) (ρ k)) K w
 |.entryStore t m s x=>runK P (do Instr.entryStore t (ρ m) (ρ s) (ρ x);pure undef) K w
 |.range t x=>runK P (Instr.range t (ρ x)) K w
 |.next it s=>runK P (Instr.next (ρ it) s o.type) K w
 |.entry it=>runK P (Instr.entry (ρ it)) K w
 |.typeAssert x J nU b=>runK P (Instr.typeAssert (ρ x) J nU b) K w
 |.call c=>match c.callee with
  |.value (.func g)=>bif ok g then AD P g (c.args.toList.map ρ) K w else WN P g (c.args.toList.map ρ) K w
  |.value f=>Bb P ok (ρ f) (c.args.toList.map ρ) K w
  |.builtin .len=>match c.argTypes.toList,c.args.toList with
   |[t],[x]=>match P.underlying t with
    |some (.slice _)=>Dz (ρ x) λv=>K v w
    |some .string=>RT (ρ x) λv=>K v w
    |_=>runK P (Builtin.len_ c.argTypes o.type #[ρ x]) K w
   |_,_=>False
  |.builtin .append=>runK P (Builtin.append_ c.argTypes o.type (c.args.toList.map ρ).toArray) K w
  |.builtin .copy=>runK P (Builtin.copy_ c.argTypes o.type (c.args.toList.map ρ).toArray) K w
  |.builtin .cap=>runK P (Builtin.cap_ c.argTypes o.type (c.args.toList.map ρ).toArray) K w
  |.builtin .max=>match P.underlying o.type,c.args.toList with
   |some (.int k),[x,y]=>P6 k (ρ x) (ρ y) λv=>K v w
   |_,_=>runK P (Builtin.max_ c.argTypes o.type (c.args.toList.map ρ).toArray) K w
  |.builtin .min=>match P.underlying o.type,c.args.toList with
   |some (.int k),[x,y]=>QB k (ρ x) (ρ y) λv=>K v w
   |_,_=>runK P (Builtin.min_ c.argTypes o.type (c.args.toList.map ρ).toArray) K w
  |.builtin .clear=>runK P (Builtin.clear_ c.argTypes o.type (c.args.toList.map ρ).toArray) K w
  |.builtin .delete=>runK P (Builtin.delete_ c.argTypes o.type (c.args.toList.map ρ).toArray) K w
  |_=>False
 |_=>False
def DU(P:Program)(ok:Nat->Bool):Prop:=∀g,ok g=true->∀args w,(callFunc g args).run P w=.ok (.enter g args) w
section
variable {P:Program}{ok:Nat->Bool}{K:Cont}{w:c_}
def GG{t:TypeId}{b:Bool}{k:Nat}(h:Gj P t=some (b,k))(w:c_):(isAgg t).run P w=.ok b w/\(sizeOf t).run P w=.ok k w:=by
 unfold Gj at h;unfold isAgg sizeOf underlying typeInfo;simp only[aR,run_program,Ty];revert h;cases hu:P.underlying t with
 |none=>simp
 |some d=>cases hi:P.info? t with
  |none=>grind
  |some i=>cases d<;>simp +contextual [aAY]
def Nt{t:TypeId}{i:TypeInfo}(h:P.info? t=some i)(w:c_):(typeInfo t).run P w=.ok i w:=by
 simp[typeInfo,h]
def run_underlying{t:TypeId}{d:TypeDesc}(h:P.underlying t=some d)(w:c_):(underlying t).run P w=.ok d w:=by
 simp[underlying,h]
def IY{t:TypeId}{i:TypeInfo}(h:P.info? t=some i)(w:c_):(sizeOf t).run P w=.ok i.size w:=by
 simp[sizeOf,Nt h]
def Fg{t:TypeId}{z:b_}(h:Hd P t=some z)(w:c_):(zeroValue t).run P w=.ok z w:=by
 unfold Hd at h;cases hi:P.info? t with
 |none=>grind
 |some i=>simp only[hi] at h;simp[zeroValue,Nt hi,h]
def Z4{t:TypeId}{k:Nat}{x:b_}(ha:Gj P t=some (false,k))(h:BR x K w):runK P (Instr.loadAt t x) K w:=by
 obtain⟨a,v,rfl,hc,j⟩:=h;exact⟨v,w,by simp[Instr.loadAt,Instr.sureAddr,loadVar,(GG ha w).1,hc],j⟩
def Za{t:TypeId}{k:Nat}{x:b_}(ha:Gj P t=some (true,k))(h:DJ k x K w):runK P (Instr.loadAt t x) K w:=by
 obtain⟨a,vs,rfl,hl,hc,I⟩:=h;refine⟨_,w,?_,I⟩;have j:=aCO (P:=P) (w:=w) a vs hc;simp only[Instr.loadAt,Instr.sureAddr,loadVar,aR,aAY,Ty,(GG ha w).1,(GG ha w).2,aAh];rw[<-hl,j];rfl
theorem SG(a:Addr):∀(vs:U_) (i:Nat) (w:c_),(∀v∈vs,v.oneCell'=true)->(∀j,i<=j->j<i+vs.length->(w.cell? (a.add j)).isSome=true/\w.frozen? (a.add j)=false)->(storeCells a vs i).run P w=.ok () (Fj w a i vs):=by
 intro vs;induction vs with
 |nil=>intro i w _ _;simp[storeCells,Fj]
 |cons v vs J=>
  intro i w h1 N;have I:=N i (DN _) (by simp);obtain⟨u,hu⟩:=lP.1 I.1;simp only[storeCells,aR,run_store P w _ v .plain (h1 v (by simp)),hu,I.2,Fj];simp only[aBa,aAW,Ty];refine J (i+1) _ (by grind) (λj Q O=>?_);grind[Go.World.frozen?_setCell,Option.isSome_iff_exists,World.cell?_setCell_same,World.cell?_setCell_other]
end
section
variable {P:Program}{ok:Nat->Bool}{K:Cont}{w:c_}
def uE(P:Program)(s:Sem Unit)(K:c_->Prop)(w:c_):Prop:=∃w',s.run P w=.ok () w'/\K w'
def pM{t:TypeId}{x v:b_}{K:c_->Prop}(ha:Gj P t=some (false,1))(h:Cc x v K w):uE P (Instr.storeAt t x v) K w:=by
 obtain⟨a,u,rfl,h1,hc,hu,I,J⟩:=h;refine⟨_,?_,J⟩;have j:v.cells.toList=[v]:=by rw[hc]
 have N:v.cells.size=1:=B_;simp only[Instr.storeAt,Instr.sureAddr,storeVar,aR,aAY,Ty,(GG ha w).2,N];simp only[ne_eq,not_true_eq_false,aAW,aR,aAY,j,storeCells,run_store P w _ v .plain h1,Addr.add_zero',hu,I];simp
def qo{t:TypeId}{k:Nat}{x v:b_}{K:c_->Prop}(ha:Gj P t=some (true,k))(h:Bv k x v K w):uE P (Instr.storeAt t x v) K w:=by
 obtain⟨a,vs,rfl,rfl,hl,h1,hc,j⟩:=h;refine⟨_,?_,j⟩;simp only[Instr.storeAt,Instr.sureAddr,storeVar,aR,aAY,Ty,(GG ha w).2,Value.cells,aAy,hl];grind[SG]
def Un{t:TypeId}(j:v.cells=cs.toArray)(h:Cv t cs K w) : runK P (do pure (.pointer (some (<- newVar t v)))) K w:=by
 refine⟨_,_,?_,h⟩;simp[newVar,newRow,j]
def dh{t:TypeId}{z:b_}(j:Hd P t=some z)(h:Cv t z.cells.toList K w):runK P (Instr.alloc t true (.tuple #[])) K w:=by
 obtain⟨v,J,h1,I⟩:=Un (P:=P) (v:=z) E_ h;refine⟨v,J,?_,I⟩;simp only[Instr.alloc,aR,Fg j,Ty];simpa using h1
def mI{t:TypeId}{x:b_}(h:OD t x K w):runK P (Instr.box t x) K w:=Un (v:=x) (by rw[h.1]) h.2
def ju{t:TypeId}{x:b_}(h:JK t x K w):runK P (Instr.box t x) K w:=by
 obtain⟨vs,rfl,h⟩:=h;exact Un (v:=.agg vs.toArray) rfl h
def fp{s:TypeId}{x:b_}{f:Nat}{j:Array Field}{fd:Field}{i:TypeInfo}(hu:P.underlying s=some (.struct j))(Q:j.toList[f]?=some fd) (hi:P.info? fd.type=some i)(N:Nat.beq i.size 0=false)(h:BX fd.offset x λv=>K v w):runK P (Instr.fieldAt s x f) K w:=by
 obtain⟨a,rfl,O⟩:=h;refine⟨_,w,?_,O⟩;have I:j[f]?=some fd:=B_;have J:i.size≠0:=by intro e;rw[e] at N;exact absurd N C0
 simp[Instr.fieldAt,run_underlying hu,I,Instr.sureAddr,fieldPlace,IY hi,J]
def ji{t e:TypeId}{x i:b_}{f:TypeInfo}(hu:P.underlying t=some (.slice e))(hi:P.info? e=some f) (h:KY f.size x i λv=>K v w):runK P (Instr.indexAt t x i) K w:=by
 obtain⟨a,n,c,k,j,rfl,rfl,h0,h1,I⟩:=h;refine⟨_,w,?_,I⟩;simp[Instr.indexAt,asIntOf,run_underlying hu,h0,h1,IY hi]
def ZR:∀(j:List Field) (l:List (Nat×Nat)),Ga P j=some l->∀w:c_,(j.mapM (λf=>Functor.map (Prod.mk f.offset) (sizeOf f.type)):Sem (List (Nat×Nat))).run P w=.ok l w:=by
 intro j;induction j with
 |nil=>intro l h w;simp only[Ga,gn] at h;subst h;simp
 |cons f r I=>
  intro l h w;simp only[Ga] at h;cases hi:P.info? f.type with
  |none=>grind
  |some i=>
   cases hr:Ga P r with
   |none=>grind
   |some J=>
    simp only[hi,hr,gn] at h;subst h;simp[List.mapM_cons,IY hi,I J hr]
theorem TY{t:TypeId}{j:Array Field}{z:b_}{l:List (Nat×Nat)}{BP:List (Nat×b_)}(hu:P.underlying t=some (.struct j))(I:Hd P t=some z) (hl:Ga P j.toList=some l)(h:DQ l z.cells.toList BP λv=>K v w):runK P (Instr.build t BP.toArray) K w:=by
 obtain⟨cs,J,N⟩:=h;refine⟨_,w,?_,N⟩;have hm:(j.mapM (λf=>do pure (f.offset,<-sizeOf f.type)):Sem (Array (Nat×Nat))).run P w=.ok l.toArray w:=by
  rw[aCz];have:=ZR j.toList l hl w;simp only[Sem.run_map,bind_pure_comp,this];rfl
 simp only[Instr.build,aR,Fg I,Ty,run_underlying hu,hm];have O:(λi:Nat=>l.toArray[i]?)=λi=>l[i]?:=by funext i;simp
 rw[O,J];rfl
theorem oK{t e:TypeId}{len:Nat}{i:TypeInfo}{z:b_}{BP:List (Nat×b_)}(hu:P.underlying t=some (.slice e))(hi:P.info? e=some i)(O:i.zero=some z) (hb:(Nat.blt 0 (len*i.size)&&Nat.ble (len*i.size) 1000000)=true)(h:EE e i.size len z.cells.toList BP K w):runK P (Instr.buildSlice t len BP.toArray) K w:=by
 obtain⟨cs,I,J⟩:=h;refine⟨_,_,?_,J⟩;simp only[aE] at hb;have h1:¬len*i.size>2 ^ 24:=by have:=aAl hb.2;omega
 have N:¬len*i.size=0:=by have:=aAl hb.1;omega
 simp only[Instr.buildSlice,aR,run_underlying hu,IY hi,Ty,h1,N,aAW,aAY];have j:Hd P e=some z:=by grind[Hd]
 simp only[Fg j,Ty,I];simp[newRow]
theorem jg{t e:TypeId}{len:Nat}{i:TypeInfo}{BP:List (Nat×b_)}(hu:P.underlying t=some (.slice e))(hi:P.info? e=some i) (hb:Nat.beq (len*i.size) 0=true)(h:EE e i.size len [] BP K w):runK P (Instr.buildSlice t len BP.toArray) K w:=by
 obtain⟨cs,j,J⟩:=h;refine⟨_,_,?_,J⟩;have I:len*i.size=0:=sY hb;have h1:¬len*i.size>2 ^ 24:=E;simp only[I] at j;simp only[Instr.buildSlice,aR,run_underlying hu,IY hi,Ty,h1,aAW];simp only[I,aAh,aR,aAY,Ty,j];simp[newRow]
def Zv{j:Array TypeId}{ty t e:TypeId}{x:b_}(ht:j.toList=[t])(hu:P.underlying t=some (.slice e))(h:Dz x λv=>K v w):runK P (Builtin.len_ j ty #[x]) K w:=by
 obtain⟨a,n,c,rfl,J⟩:=h;refine⟨_,w,?_,J⟩;have I:j=#[t]:=B_;subst I;simp[Builtin.len_,run_underlying hu,goInt]
def Vh{j:Array TypeId}{ty t:TypeId}{x:b_}(ht:j.toList=[t])(hu:P.underlying t=some .string)(h:RT x λv=>K v w):runK P (Builtin.len_ j ty #[x]) K w:=by
 obtain⟨s,rfl,J⟩:=h;refine⟨_,w,?_,J⟩;have I:j=#[t]:=B_;subst I;simp[Builtin.len_,run_underlying hu,goInt]
def bB{x:b_}{i:Nat}(h:Az i x λv=>K v w):runK P (Instr.extract x i) K w:=by
 obtain⟨vs,v,rfl,j,I⟩:=h;exact⟨v,w,by simp[Instr.extract,j],I⟩
def toList_beq(a b:ByteArray):(a.toList==b.toList)=decide (a=b):=by
 by_cases h:a=b;grind;have:¬a.toList=b.toList:=by
  intro e;apply h;rw[ByteArray.toList_eq,ByteArray.toList_eq] at e;cases a;cases b;simp at e;simp[e]
 grind
def O3(d:Nat){t e:TypeId}(hu:P.underlying t=some (.slice e))(a:Option Addr)(n c j I:Nat)(w:c_) : (Op.equalIn (d+1) t (.slice a n c) (.slice none j I)).run P w=.ok a.isNone w:=by
 cases a<;>simp[Op.equalIn,run_underlying hu]
def Oo(d:Nat){t e:TypeId}(hu:P.underlying t=some (.pointer e))(a:Option Addr)(w:c_) : (Op.equalIn (d+1) t (.pointer a) (.pointer none)).run P w=.ok a.isNone w:=by
 cases a<;>simp[Op.equalIn,run_underlying hu]
def Lg{t e:TypeId}(hu:P.underlying t=some (.slice e))(a:Option Addr)(n c j I:Nat)(w:c_) : (Op.equal t (.slice a n c) (.slice none j I)).run P w=.ok a.isNone w:=O3 9999 hu a n c j I w
def LU{t e:TypeId}(hu:P.underlying t=some (.pointer e))(a:Option Addr)(w:c_) : (Op.equal t (.pointer a) (.pointer none)).run P w=.ok a.isNone w:=Oo 9999 hu a w
def VP{op : BinOp}{t : TypeId}{x y : b_}{F : Prop}(U : ∀v, yo = .const v -> y = v)(h : TH P op t yo x y (λv => K v w) F)
   (hF : F -> runK P (do eqGuard op t xo yo x y; binOp op t x y) K w) : runK P (do eqGuard op t xo yo x y; binOp op t x y) K w := by
  unfold TH at h;cases hu : P.underlying t with
  |none => simp only[hu] at h; exact hF h
  |some d =>
    simp only[hu] at h;cases d with
    |int k =>
      cases op<;>simp only at h<;>first
        |exact hF h
        | (obtain ⟨a, b, rfl, rfl, j⟩ := h
           refine⟨_, w, ?_, j⟩;simp[eqGuard_at_int, binOp, Op.intArith, Op.intCmp]
           done)
        | (obtain ⟨a, b, rfl, rfl, j⟩ := h
           refine ⟨_, w, ?_, j⟩;simp [eqGuard_at_int, binOp, Op.intCmp];first | done | (by_cases N : a = b <;> simp [N]))
    |bool =>
      cases op<;>simp only at h<;>first
        |exact hF h
        | (obtain ⟨a, b, rfl, rfl, j⟩ := h
           refine ⟨_, w, ?_, j⟩;simp [eqGuard_at_bool, run_eql_bool w t a b hu, run_neq_bool w t a b hu])
    |string =>
      cases op<;>simp only at h<;>first
        |exact hF h
        | (obtain ⟨a, b, rfl, rfl, j⟩ := h
           refine ⟨_, w, ?_, j⟩;simp [eqGuard_at_string, binOp, Op.stringOp, toList_beq])
    |slice e =>
      cases J : R8 yo with
      |false => simp only[J, aBO] at h; exact hF h
      |true =>
        simp only[J, aBP] at h;have I : ∃n c, y = .slice none n c := by
          unfold R8 at J; grind
        cases op<;>simp only at h<;>first
          |exact hF h
          | (obtain ⟨a, j⟩ := h
             first
               | (obtain ⟨n, c, rfl, j⟩ := j
                  refine⟨_, w, ?_, j⟩;obtain⟨O, Q, rfl⟩ := I;simp[eqGuard_at_slice, binOp, Lg hu]
                  done)
               | (obtain ⟨rfl, j⟩ := j
                  refine⟨_, w, ?_, j⟩;subst I;simp[eqGuard_at_slice, binOp, Lg hu]
                  done))
    |pointer e =>
      cases J : Rj yo with
      |false => simp only[J, aBO] at h; exact hF h
      |true =>
        simp only[J, aBP] at h;have I : y = .pointer none := by
          grind[Rj]
        cases op<;>simp only at h<;>first
          |exact hF h
          | (obtain ⟨a, j⟩ := h
             first
               | (obtain ⟨n, c, rfl, j⟩ := j
                  refine⟨_, w, ?_, j⟩;obtain⟨O, Q, rfl⟩ := I;simp[eqGuard_at_pointer, binOp, LU hu]
                  done)
               | (obtain ⟨rfl, j⟩ := j
                  refine⟨_, w, ?_, j⟩;subst I;simp[eqGuard_at_pointer, binOp, LU hu]
                  done))
    |_ => exact hF h
end
section
variable {P:Program}{ok:Nat->Bool}{K:Cont}{w:c_}
def Gc(w0:c_)(r:Result Next)(K:Cont)(P:Program):Prop:=
 match r with
 |.ok (.value v) w'=>K v w'
 |.ok .skip w'=>K undef w'
 |.ok (.enter f args) w'=>w'=w0/\Calls P f args w0 λe j=>∃v,e=.returned v/\K v j
 |_=>False
def rj{o:Oper}{a:Act}{next:Act->c_->Prop}{Q:Exit->Act->c_->Prop}{r:Result Next} (h:Gc w r K P)(j:∀v w',K v w'->next (a.put o.dst v) w'):o.upon P a next Q r:=by
 match r,h with
 |.ok (.value v) w',h=>exact j _ _ h
 |.ok .skip w',h=>exact j _ _ h
 |.ok (.enter f args) w',h=>
  obtain⟨rfl,h⟩:=h;exact aBu h λe I ⟨v,he,J⟩=>by subst he;exact j _ _ J
theorem GH{s:Sem b_}(h:runK P s K w):Gc w ((do pure (Next.value (<- s)):Sem Next).run P w) K P:=by
 obtain⟨v,I,h1,j⟩:=h;simp only[aR,h1,Ty,aAY];exact j
def xN{s:Sem Unit}(h:uE P s (λw=>K undef w) w):Gc w ((do s;pure Next.skip:Sem Next).run P w) K P:=by
 obtain⟨I,h1,j⟩:=h;simp only[aR,h1,Ty,aAY];exact j
def jm{s:Sem Unit}(h:runK P (do s;pure undef) K w):Gc w ((do s;pure Next.skip:Sem Next).run P w) K P:=by
 obtain⟨v,J,h1,j⟩:=h;simp only[aR,aAY] at h1 ⊢;revert h1;cases s.run P w with
 |halt x I=>intro h1;exact absurd h1 E_
 |ok u I=>intro h1;simp at h1;obtain⟨rfl,rfl⟩:=h1;exact j
def IQ(ρ:Operand->b_)(j:Array Operand):j.map ρ=(j.toList.map ρ).toArray:=by
 grind
def PM(ρ:Operand->b_)(j:Array (Nat×Operand)):(j.map λ(i,x)=>(i,ρ x))=(j.toList.map λp=>(p.1,ρ p.2)).toArray:=by
 grind
theorem qX(j:DU P ok){g:Nat}(I:ok g=true)(h:AD P g args K w) : Gc w ((callFunc g args.toArray).run P w) K P:=by
 rw[j g I];exact⟨rfl,h⟩
set_option maxHeartbeats 1000000 in
def Ui(a1:DU P ok){o:Oper}{ρ:Operand->b_}(a6:∀v,ρ (.const v)=v)(Y:∀f,ρ (.func f)=.func (.func f) #[] #[])(h:Iv P ok o ρ K w) : Gc w ((execOp ρ o).run P w) K P:=by
 obtain⟨N,op,j,DA,after,guard⟩:=o;cases op with
 |move x=>exact h
 |assign x=>exact h
 |pick c a b=>
  simp only[Iv,Mm] at h;simp only[execOp];cases hc:ρ c with
  |bool t=>cases t<;>simp only[hc] at h<;>simpa[asBool,Gc] using h
  |_=>simp only[hc] at h
 |alloc t=>
  simp only[Iv] at h;split at h;rename_i z Z;exact GH (dh Z h);grind
 |box t x=>
  simp only[Iv] at h;split at h;exact GH (mI h);exact GH (ju h);grind
 |load t x=>
  simp only[Iv] at h;split at h;rename_i ha;exact GH (Z4 ha h);rename_i ha;exact GH (Za ha h);grind
 |store t a x=>
  simp only[Iv] at h;split at h;rename_i k ha;cases hk:Nat.beq k 1 with
  |false=>grind
  |true=>
   simp only[hk,aBP] at h;rw[sY hk] at ha;exact xN (pM ha h)
  rename_i ha;exact xN (qo ha h);grind
 |nilCheck x=>
  obtain⟨a,h1,O⟩:=h;simp only[execOp,h1];rw[h1] at O;exact O
 |binOp op t x y yt=>
  exact GH (VP (xo:=x) B_ h F_)
 |unOp op t x=>
  cases op with
  |plus=>exact GH h
  |not=>
   obtain⟨a,h1,O⟩:=h;exact GH ⟨_,w,by simp[Op.unary,h1],O⟩
  |neg=>exact GH h
  |xor=>exact GH h
 |fieldAddr s x f=>
  simp only[Iv] at h;split at h;rename_i fs hu;split at h;rename_i fd hf;split at h;rename_i i hi;cases Z:Nat.beq i.size 0 with
  |true=>grind
  |false=>
   simp only[Z,aBO] at h;exact GH (fp hu hf hi Z h)
  grind;grind;grind
 |indexAddr t x i=>
  simp only[Iv] at h;split at h;rename_i e hu;split at h;rename_i f hi;exact GH (ji hu hi h);grind;exact GH h
 |build t BP=>
  simp only[Iv] at h;have e1:(execOp ρ ⟨N,.build t BP,j,DA,after,guard⟩)=(do pure (Next.value (<- Instr.build t (BP.toList.map λp=>(p.1,ρ p.2)).toArray)):Sem Next):=by
   simp only[execOp];rw[PM]
  grind[GH,TY]
 |buildSlice t len BP=>
  simp only[Iv] at h;have e1:(execOp ρ ⟨N,.buildSlice t len BP,j,DA,after,guard⟩)=(do pure (Next.value (<- Instr.buildSlice t len (BP.toList.map λp=>(p.1,ρ p.2)).toArray)):Sem Next):=by
   simp only[execOp];rw[PM]
  grind[GH,oK,jg]
 |extract t i=>exact GH (bB h)
 |makeFunc fn J cap=>
  simp only[execOp,Instr.makeFunc,IQ];exact h
 |convert s d x=>exact GH h
 |slice t x lo hi mx=>exact GH h
 |field t x f=>exact GH h
 |index t x i=>exact GH h
 |makeMap t r=>exact GH h
 |makeSlice t l c=>exact GH h
 |makeInterface t x=>exact GH h
 |lookup t x i b=>exact GH h
 |mapUpdate t m k x=>exact jm h
 |insert t m k x=>exact jm h
 |mapEntry t m k=>exact GH h
 |entryStore t m s x=>exact jm h
 |range t x=>exact GH h
 |next it s=>exact GH h
 |entry it=>exact GH h
 |typeAssert x xt nU b=>exact GH h
 |call c=>
  obtain⟨I,args,Q⟩:=c;have hb:∀(b:Builtin) (s:Array b_->Sem b_),I=.builtin b->(∀cs U,builtin b Q j cs U=(do pure (Next.value (<- s U))))->
    runK P (s (args.toList.map ρ).toArray) K w->Gc w ((execOp ρ ⟨N,.call ⟨I,args,Q⟩,j,DA,after,guard⟩).run P w) K P:=by
   intro b s hc hs hr;subst hc;simp only[execOp,resolve,pure_bind,invoke,hs,IQ];exact GH hr
  cases I with
  |value f=>
   have hv:∀g J cap,ρ f=.func (.func g) (List.toArray J) (List.toArray cap)->ok g=true->AD P g (J++args.toList.map ρ++cap) K w->
     Gc w ((execOp ρ ⟨N,.call ⟨.value f,args,Q⟩,j,DA,after,guard⟩).run P w) K P:=by
    intro g J cap hf hg hc;simp only[execOp,resolve,hf,Deferred.ofValue,pure_bind,invoke,IQ];grind[qX]
   cases f with
   |func g=>
    simp only[Iv] at h;cases hg:ok g with
    |false=>
     simp only[hg,aBO] at h;obtain⟨v,w',h1,O⟩:=h;have e1:(execOp ρ ⟨N,.call ⟨.value (.func g),args,Q⟩,j,DA,after,guard⟩)=callFunc g (args.toList.map ρ).toArray:=by
      simp[execOp,resolve,Y,Deferred.ofValue,invoke,IQ]
     rw[e1,h1];exact O
    |true=>
     grind
   |tmp t=>obtain⟨g,J,cap,h1,O,X⟩:=h;grind
   |const v=>obtain⟨g,J,cap,h1,O,X⟩:=h;grind
   |global g=>obtain⟨g,J,cap,h1,O,X⟩:=h;grind
  |invoke r m=>exact h.elim
  |builtin b=>
   cases b<;>first
    |exact h.elim
    |exact hb _ _ rfl (λ_ U=>rfl) h
    |skip
   case max=>
    simp only[Iv] at h;split at h;obtain⟨p,q,h1,O,X⟩:=h;refine hb .max _ rfl (λ_ U=>rfl) ⟨_,w,?_,X⟩;grind[Go.run_max_int2];exact hb .max _ rfl (λ_ U=>rfl) h
   case min=>
    simp only[Iv] at h;split at h;obtain⟨p,q,h1,O,X⟩:=h;refine hb .min _ rfl (λ_ U=>rfl) ⟨_,w,?_,X⟩;grind[Go.run_min_int2];exact hb .min _ rfl (λ_ U=>rfl) h
   simp only[Iv] at h;split at h;rename_i t x ht hx;have V:(args.toList.map ρ).toArray=#[ρ x]:=B_;apply hb .len _ rfl (λ_ U=>rfl);rw[V];split at h;rename_i hu;exact Zv ht hu h;rename_i hu;exact Vh ht hu h;exact h;grind
 |_=>exact h.elim
def KD(P:Program)(op:BinOp)(t:TypeId)(yo:Operand):Bool:=
 match P.underlying t with
 |some (.int _)=>match op with | .add | .sub | .mul | .lss | .leq | .gtr | .geq | .eql | .neq=>true | _=>false
 |some .bool=>match op with | .eql | .neq=>true | _=>false
 |some .string=>match op with | .eql | .neq=>true | _=>false
 |some (.slice _)=>R8 yo&&(match op with | .eql | .neq=>true | _=>false)
 |some (.pointer _)=>Rj yo&&(match op with | .eql | .neq=>true | _=>false)
 |_=>false
def Du(P:Program)(o:Oper):Bool:=
 match o.op with
 |.move _=>true | .assign _=>true | .pick _ _ _=>true | .nilCheck _=>true | .extract _ _=>true
 |.fieldAddr _ _ _=>true
 |.unOp .not _ _=>true
 |.binOp op t _ y _=>KD P op t y
 |.indexAddr t _ _=>match P.underlying t with | some (.slice _)=>true | _=>false
 |.build t _=>match P.underlying t,Hd P t with | some (.struct _),some _=>true | _,_=>false
 |.call c=>match c.callee with
  |.builtin .len=>match c.argTypes.toList,c.args.toList with
   |[t],[_]=>match P.underlying t with | some (.slice _)=>true | some .string=>true | _=>false
   |_,_=>false
  |.builtin .max=>match P.underlying o.type,c.args.toList with | some (.int _),[_,_]=>true | _,_=>false
  |.builtin .min=>match P.underlying o.type,c.args.toList with | some (.int _),[_,_]=>true | _,_=>false
  |_=>false
 |_=>false
theorem JD{op:BinOp}{t:TypeId}{x y:b_}{K:b_->Prop}{F:Prop}(hp:KD P op t yo=true)(h:TH P op t yo x y K F) : ∃v,K v/\∀(J:b_->Prop) (F':Prop),J v->TH P op t yo x y J F':=by
 unfold KD at hp;unfold TH at h;simp only[TH];cases hu:P.underlying t with
 |none=>grind
 |some d=>
  simp only[hu] at hp h;cases d with
  |int k=>cases op<;>simp only at hp h ⊢<;>first
    |(cases hp;done)
    |(obtain⟨a,b,h1,N,I⟩:=h;exact⟨_,I,λJ _ hk=>⟨a,b,h1,N,hk⟩⟩)
  |bool=>cases op<;>simp only at hp h ⊢<;>first
    |(cases hp;done)
    |(obtain⟨a,b,h1,N,I⟩:=h;exact⟨_,I,λJ _ hk=>⟨a,b,h1,N,hk⟩⟩)
  |string=>cases op<;>simp only at hp h ⊢<;>first
    |(cases hp;done)
    |(obtain⟨a,b,h1,N,I⟩:=h;exact⟨_,I,λJ _ hk=>⟨a,b,h1,N,hk⟩⟩)
  |slice e=>
   simp only[aE] at hp;simp only[hp.1,aBP] at h ⊢;have j:=hp.2;cases op<;>simp only at j h ⊢<;>first
    |(cases j;done)
    |(obtain⟨a,n,c,h1,I⟩:=h;exact⟨_,I,λJ _ hk=>⟨a,n,c,h1,hk⟩⟩)
  |pointer e=>
   simp only[aE] at hp;simp only[hp.1,aBP] at h ⊢;have j:=hp.2;cases op<;>simp only at j h ⊢<;>first
    |(cases j;done)
    |(obtain⟨a,h1,I⟩:=h;exact⟨_,I,λJ _ hk=>⟨a,h1,hk⟩⟩)
  |_=>simp at hp
theorem Vy{o:Oper}{ρ:Operand->b_}(hp:Du P o=true)(h:Iv P ok o ρ K w):∃v,K v w/\∀(Q:Cont) (w':c_),Q v w'->Iv P ok o ρ Q w':=by
 obtain⟨X,op,V,DA,after,guard⟩:=o;cases op with
 |move x=>exact⟨_,h,C_⟩
 |assign x=>exact⟨_,h,C_⟩
 |pick c a b=>
  simp only[Iv,Mm] at h ⊢;grind
 |nilCheck x=>obtain⟨a,h1,I⟩:=h;exact⟨_,I,λ_ _ hk=>⟨a,h1,hk⟩⟩
 |extract t i=>obtain⟨vs,v,h1,I,N⟩:=h;exact⟨_,N,λ_ _ hk=>⟨vs,v,h1,I,hk⟩⟩
 |unOp op t x=>
  cases op with
  |not=>obtain⟨a,h1,I⟩:=h;exact⟨_,I,λ_ _ hk=>⟨a,h1,hk⟩⟩
  |_=>simp[Du] at hp
 |binOp op t x y yt=>
  obtain⟨v,h1,I⟩:=JD hp h;exact⟨v,h1,λQ w' hk=>I _ _ hk⟩
 |fieldAddr s x f=>
  simp only[Iv] at h ⊢;split at h;split at h;split at h;rename_i i _;cases U:Nat.beq i.size 0 with
  |true=>grind
  |false=>
   simp only[U,aBO] at h ⊢;obtain⟨a,h1,I⟩:=h;exact⟨_,I,λ_ _ hk=>⟨a,h1,hk⟩⟩
  grind;grind;grind
 |indexAddr t x i=>
  simp only[Iv,Du] at hp h ⊢;cases hu:P.underlying t with
  |none=>grind
  |some d=>
   simp only[hu] at hp h ⊢;cases d with
   |slice e=>
    simp only at h ⊢;cases hi:P.info? e with
    |none=>grind
    |some f=>
     simp only[hi] at h ⊢;obtain⟨a,n,c,k,j,h1,I,N,Y,Z⟩:=h;exact⟨_,Z,λ_ _ hk=>⟨a,n,c,k,j,h1,I,N,Y,hk⟩⟩
   |_=>simp at hp
 |build t BP=>
  simp only[Iv,Du] at hp h ⊢;cases hu:P.underlying t with
  |none=>grind
  |some d=>
   cases U:Hd P t with
   |none=>grind
   |some z=>
    simp only[hu,U] at hp h ⊢;cases d with
    |struct fs=>
     simp only at h ⊢;cases hl:Ga P fs.toList with
     |none=>grind
     |some l=>
      simp only[hl] at h ⊢;obtain⟨cs,h1,I⟩:=h;exact⟨_,I,λ_ _ hk=>⟨cs,h1,hk⟩⟩
    |_=>simp at hp
 |call c=>
  obtain⟨J,args,a1⟩:=c;cases J with
  |builtin b=>
   cases b<;>simp only[Du,Iv] at hp h ⊢<;>try (cases hp;done)
   split at hp;rename_i t x ht O;simp only[ht,O] at h ⊢;split at hp;rename_i e hu;simp only[hu] at h ⊢;obtain⟨a,n,c,h1,I⟩:=h;exact⟨_,I,λ_ _ hk=>⟨a,n,c,h1,hk⟩⟩;rename_i hu;simp only[hu] at h ⊢;obtain⟨s,h1,I⟩:=h;exact⟨_,I,λ_ _ hk=>⟨s,h1,hk⟩⟩;grind;grind;split at hp;rename_i k x y hk O;simp only[hk,O] at h ⊢;obtain⟨a,b,h1,I,N⟩:=h;exact⟨_,N,λ_ _ hk=>⟨a,b,h1,I,hk⟩⟩;grind;split at hp;rename_i k x y hk O;simp only[hk,O] at h ⊢;obtain⟨a,b,h1,I,N⟩:=h;exact⟨_,N,λ_ _ hk=>⟨a,b,h1,I,hk⟩⟩;grind
  |_=>simp[Du] at hp
 |_=>simp[Du] at hp
end
structure AF (M:d_) (w w':c_):Prop where
 os:w'.os=w.os
 tape:w'.tape=w.tape
 output:w'.output=w.output
 size:w.heap.size<=w'.heap.size
 Ak:∀b,b<w.heap.size->¬M b->w'.heap[b]?=w.heap[b]?
theorem AF.refl(M:d_)(w:c_):AF M w w:=⟨rfl,rfl,rfl,DN _,I'⟩
theorem _root_.Go.j0{w:World}:AF (λ_=>False) w w:=AF.refl _ _
theorem AF.trans{M:d_}{a b c:c_}(h:AF M a b)(k:AF M b c):AF M a c:=⟨k.os.trans h.os,k.tape.trans h.tape,k.output.trans h.output,py h.size k.size,λi hi hm=>(k.Ak i (Mp hi h.size) hm).trans (h.Ak i hi hm)⟩
theorem AF.mono{M j:d_}{w w':c_}(h:AF M w w')(hm:∀b,b<w.heap.size->M b->j b):AF j w w':=⟨h.os,h.tape,h.output,h.size,(by grind[AF.Ak])⟩
def Ge(l:X_)(i:Nat):Bool:=l.any λx=>Nat.beq x i
def Dn:List X_->Nat->X_
 |[],_=>[]
 |a::_,0=>a
 |_::r,i+1=>Dn r i
theorem DK{l:X_}{i:Nat}:Ge l i=true↔i∈l:=by
 simp only[Ge,aCc];constructor;grind[Nat.eq_of_beq_eq_true];intro h;exact⟨i,h,E_⟩
section
variable (P:Program)(ok:Nat->Bool)(n:Nat)
def jt{P:Program}{ok:Nat->Bool}{o:Oper}{ρ:Operand->b_}{K:Cont}(a1:∀v,ρ (.const v)=v)(hp:Du P o=true)(h:Iv P ok o ρ K w):∃v,K v w/\∀w',(execOp ρ o).run P w'=.ok (.value v) w':=by
 obtain⟨v,h1,h2⟩:=Vy hp h;refine⟨v,h1,λw'=>?_⟩;obtain⟨V,a6,I⟩:∃V:Cont,V v w'/\∀X J,V X J->X=v/\J=w':=⟨λX J=>X=v/\J=w',⟨rfl,rfl⟩,C_⟩;have j:=h2 V w' a6;have HA:∀s:Sem b_,runK P s V w'->(do pure (Next.value (<- s)):Sem Next).run P w'=.ok (.value v) w':=by
  rintro s ⟨X,J,r1,r2⟩;obtain⟨rfl,rfl⟩:=I _ _ r2;simp[r1]
 obtain⟨Y,op,N,DA,after,guard⟩:=o;cases op with
 |move x=>have U:=(I _ _ j).1;simp[execOp,U]
 |assign x=>have U:=(I _ _ j).1;simp[execOp,U]
 |pick c a b=>
  simp only[Iv,Mm] at j;cases hc:ρ c with
  |bool t=>cases t<;>simp only[hc] at j<;>simp[execOp,asBool,hc,(I _ _ j).1]
  |_=>simp only[hc] at j
 |nilCheck x=>obtain⟨a,U,h5⟩:=j;have h6:=(I _ _ h5).1;rw[U] at h6;subst h6;simp[execOp,U]
 |extract t i=>exact HA _ (bB j)
 |unOp op t x=>
  cases op with
  |not=>obtain⟨a,U,h5⟩:=j;have h6:=(I _ _ h5).1;simp[execOp,Op.unary,U,<-h6]
  |_=>simp[Du] at hp
 |binOp op t x y yt=>
  simp only[Du] at hp;have:TH P op t y (ρ x) (ρ y) (λX=>V X w') False:=by
   grind[Iv,JD]
  exact HA _ (VP (xo:=x) (λv hv=>by rw[hv,a1]) this (λhF=>hF.elim))
 |fieldAddr s x f=>
  simp only[Iv] at j;split at j;rename_i fs hu;split at j;rename_i fd hf;split at j;rename_i i hi;cases hz:Nat.beq i.size 0 with
  |true=>grind
  |false=>simp only[hz,aBO] at j;exact HA _ (fp hu hf hi hz j)
  grind;grind;grind
 |indexAddr t x i=>
  simp only[Iv,Du] at hp j;cases hu:P.underlying t with
  |none=>grind
  |some d=>
   simp only[hu] at hp j;cases d with
   |slice e=>
    cases hi:P.info? e with
    |none=>grind
    |some f=>simp only[hi] at j;exact HA _ (ji hu hi j)
   |_=>simp at hp
 |build t BP=>
  have e1:(execOp ρ ⟨Y,.build t BP,N,DA,after,guard⟩)=(do pure (Next.value (<- Instr.build t (BP.toList.map λp=>(p.1,ρ p.2)).toArray)):Sem Next):=by
   simp only[execOp];rw[PM]
  grind[Iv,TY]
 |call c=>
  obtain⟨Q,args,Z⟩:=c;cases Q with
  |builtin b=>
   have hb:∀(s:Array b_->Sem b_),(∀cs xs,builtin b Z N cs xs=(do pure (Next.value (<- s xs))))->runK P (s (args.toList.map ρ).toArray) V w'->
     (execOp ρ ⟨Y,.call ⟨.builtin b,args,Z⟩,N,DA,after,guard⟩).run P w'=.ok (.value v) w':=by
    intro s hs hr;simp only[execOp,resolve,pure_bind,invoke,hs,IQ];grind
   cases b<;>simp only[Du,Iv] at hp j<;>try (cases hp;done)
   split at hp;rename_i t x ht hx;have O:(args.toList.map ρ).toArray=#[ρ x]:=B_;simp only[ht,hx] at j;split at hp;rename_i e hu;simp only[hu] at j;exact hb _ I' (by rw[O];exact Zv ht hu j);rename_i hu;simp only[hu] at j;exact hb _ I' (by rw[O];exact Vh ht hu j);grind;grind;split at hp;rename_i k x y hk hx;simp only[hk,hx] at j;obtain⟨p,q,g1,g2,g3⟩:=j;refine hb _ I' ⟨_,w',?_,g3⟩;grind[Go.run_max_int2];grind;split at hp;rename_i k x y hk hx;simp only[hk,hx] at j;obtain⟨p,q,g1,g2,g3⟩:=j;refine hb _ I' ⟨_,w',?_,g3⟩;grind[Go.run_min_int2];grind
  |_=>simp[Du] at hp
 |_=>simp[Du] at hp
def EV(St:Addr->b_->Prop)(x:b_)(k:b_->Prop):Prop:=∃a v,x=.pointer (some a)/\St a v/\k v
def Ij(St:Addr->b_->Prop)(m:Nat)(x:b_)(k:b_->Prop):Prop:=∃a vs,x=.pointer (some a)/\List.length vs=m/\(∀j v,vs[j]?=some v->St (a.add j) v)/\k (.agg vs.toArray)
def aw(P:Program)(s:Sem b_)(k:b_->Prop):Prop:=∃v,(∀w,s.run P w=.ok v w)/\k v
def Hk:List (Nat×Option Bool)->Nat->Option (Option Bool)
 |[],_=>none
 |(i,b)::r,j=>bif Nat.beq i j then some b else Hk r j
def Dl:List Oper->Nat->Option Nat
 |[],_=>none
 |o::_,0=>o.dst
 |_::r,j+1=>Dl r j
def Pc(a b:Bool):Bool:=match a,b with|true,true=>true|false,false=>true|_,_=>false
def kS(BU:X_)(A:Nat->b_->c_->Prop)(St:Addr->b_->Prop)(w:c_)(o:Oper)(i:Nat)(ρ:Operand->b_)(k:b_->Prop):Prop:=
 bif Ge BU i then ∀v,A i v w->k v
 else match o.op with
  |.load t x=>match Gj P t with | some (false,_)=>EV St (ρ x) k | some (true,m)=>Ij St m (ρ x) k | none=>False
  |.binOp op t x y _=>bif KD P op t y then TH P op t y (ρ x) (ρ y) k False else aw P (Di op t x y (ρ x) (ρ y)) k
  |_=>bif Du P o then Iv P ok o ρ (λv _=>k v) w else False
end
def JH(d:Option Nat)(kn:List (Nat×Option Bool))(all:List Oper):Bool:=
 match d with
 |none=>false
 |some t=>kn.any λp=>match Dl all p.1 with | some u=>Nat.beq u t | none=>false
section
variable {P:Program}{ok:Nat->Bool}{n:Nat}
def bv(v:b_):Option Bool:=match v with|.bool b=>some b|_=>none
def yv(all:List Oper)(e:Env)(j:Nat):Option Bool:=match Dl all j with|some d=>bv (e d)|none=>none
theorem Ei:∀(l:List Oper) (j:Nat),Dl l j=(l[j]?).bind (·.dst):=by
 intro l;induction l with
 |nil=>grind[Dl]
 |cons o r I=>intro j;cases j<;>simp[Dl,I]
theorem NA{ds:Z'}{e:Env}{a:Act}(N:Fr ds n e a){ops:Array Oper}{j:Nat}:yielded ops a.tmps j=yv ops.toList e j:=by
 simp only[yielded,yv,Ei,aBA];cases h:(ops[j]?).bind (·.dst) with
 |none=>rfl
 |some d=>
  have I:=N.get d;rw[aAx] at I;simp only[Option.bind_some];cases J:a.tmps[d]? with
  |none=>rw[J] at I;rw[<-I];rfl
  |some v=>rw[J] at I;rw[<-I];cases v<;>rfl
def HU(all:List Oper)(kn:List (Nat×Option Bool))(e:Env):Prop:=∀j b,Hk kn j=some b->yv all e j=b
def Jo{e:Env}{d:Nat}(h:e d=v):JU n e d v=e:=by
 grind[JU,Nat.eq_of_beq_eq_true]
theorem KZ{e:Env}{d:Option Nat}{j:Nat}(h:d≠some j):Cw n e d v j=e j:=by
 cases d with
 |none=>rfl
 |some i=>
  have:Nat.beq j i=false:=by
   grind[Nat.eq_of_beq_eq_true]
  simp[Cw,JU,this]
def bJ{kn:List (Nat×Option Bool)}{j:Nat}{b:Option Bool}(h:Hk kn j=some b):(j,b)∈kn:=by
 induction kn<;>grind[Hk,Nat.eq_of_beq_eq_true]
theorem HU.put{all:List Oper}{kn:List (Nat×Option Bool)}{e:Env}(h:HU all kn e){d:Option Nat}(hc:JH d kn all=false)(v:b_):HU all kn (Cw n e d v):=by
 intro j b hl;have h1:=h j b hl;unfold yv at h1 ⊢;cases I:Dl all j with
 |none=>grind
 |some u=>
  rw[I] at h1;rw[<-h1];show bv (Cw n e d v u)=bv (e u);rw[KZ];intro J;subst J;simp only[JH,List.any_eq_false] at hc;have:=hc _ (bJ hl);simp[I] at this
theorem HU.cons{all:List Oper}{kn:List (Nat×Option Bool)}{e:Env}(h:HU all kn e){i:Nat}{b:Option Bool}(hb:yv all e i=b):HU all ((i,b)::kn) e:=by
 intro j c hl;simp only[Hk] at hl;cases I:Nat.beq i j with
 |true=>grind[Nat.eq_of_beq_eq_true]
 |false=>rw[I] at hl;exact h j c hl
def KV{A B:Prop}(h:Af v A B):(v=.bool true/\A)\/(v=.bool false/\B):=by
 unfold Af at h;grind
theorem Rf{a b:Bool}:Pc a b=(a==b):=by cases a<;>cases b<;>rfl
end
def Nq(o:Oper):X_:=o.op.operands.toList.filterMap λx=>match x with|.tmp t=>some t|_=>none
def Hy(all:List Oper)(o:Oper):X_:=(match o.guard with|some (g,_)=>(match Dl all g with|some d=>[d]|none=>[])|none=>[])++Nq o
def Rp(d:Option Nat)(t:Nat):Bool:=match d with|some x=>Nat.beq x t|none=>false
structure Se (n:Nat) (all:List Oper) (BU:X_) (AN:List X_) (Gs:List X_):Prop where
 kP:∀(i:Nat) o,all[i]?=some o->∀cs b,o.op≠.select cs b
 KF:∀(i:Nat) o,all[i]?=some o->∀e∈o.after,Region.binds .any e=true->e.on<i
 anc:∀(i:Nat) o,all[i]?=some o->∀j∈Dn AN i,∃e∈o.after,Region.binds .any e=true/\(e.on=j\/j∈Dn AN e.on)
 trans:∀i,∀j∈Dn AN i,∀m∈Dn AN j,m∈Dn AN i
 reads:∀(i:Nat) o,all[i]?=some o->∀t∈Hy all o,∀(m:Nat) o',all[m]?=some o'->o'.dst=some t->m≠i->m∈Dn AN i\/i∈Dn AN m
 guard:∀(i:Nat) o,all[i]?=some o->∀g b,o.guard=some (g,b)->g∈Dn AN i/\∃d,Dl all g=some d
 one:∀(i j:Nat) o o',all[i]?=some o->all[j]?=some o'->∀d,o.dst=some d->o'.dst=some d->i=j
 ko:∀(i:Nat),i<all.length->i∉BU->(∀j∈Dn AN i,j∉BU)\/(∀j∈BU,j∈Dn AN i)\/∃E∈Gs,∀j∈BU,(j∈Dn AN i↔j∈E)
 first:∃k∈BU,k<all.length/\∀j∈Dn AN k,j∉BU
 xO:∀k∈BU,k<all.length
 xG:∀(i:Nat) o,all[i]?=some o->∀d,o.dst=some d->d<n
section
variable {P:Program}{ok:Nat->Bool}{n:Nat}{all:List Oper}{BU:X_}{AN:List X_}{Gs:List X_}
def Se.lt(h:Se n all BU AN Gs){i j:Nat}(hi:i<all.length)(I:j∈Dn AN i):j<i:=by
 induction i using Nat.strongRecOn generalizing j with
 |_ i J=>
  obtain⟨e,he,hb,h1⟩:=h.anc i all[i] (by simp[hi]) j I;have N:=h.KF i all[i] (by simp[hi]) e he hb;grind
noncomputable def EU(all:List Oper)(n:Nat)(e0:Env)(vals:Nat->b_)(S:d_):Env:=λt=>open Classical in if h:∃m,S m/\m<all.length/\Dl all m=some t then(if t<n then vals h.choose else e0 t) else e0 t
theorem Zh(h:Se n all BU AN Gs){e0:Env}{vals:Nat->b_}{m t:Nat}(hm:S m)(hl:m<all.length)(I:Dl all m=some t)(ht:t<n):EU all n e0 vals S t=vals m:=by
 have j:∃m,S m/\m<all.length/\Dl all m=some t:=B_;unfold EU;rw[dif_pos j,Ix ht];congr 1;have J:all[j.choose]?=some all[j.choose]:=by simp[j.choose_spec.2.1]
 grind[Ei,Se.one]
theorem PC{e0:Env}{vals:Nat->b_}{t:Nat}(j:∀m,S m->m<all.length->Dl all m≠some t):EU all n e0 vals S t=e0 t:=by
 grind[EU]
theorem SM{e0:Env}{vals:Nat->b_}{t:Nat}(ht:¬t<n):EU all n e0 vals S t=e0 t:=by
 unfold EU;by_cases j:∃m,S m/\m<all.length/\Dl all m=some t;rw[dif_pos j,By ht];grind
theorem Jn(h:Se n all BU AN Gs){e0:Env}{vals vals':Nat->b_}{t:Nat}(j:∀m,m<all.length->Dl all m=some t->(S m↔S' m)/\(S m->vals m=vals' m)):EU all n e0 vals S t=EU all n e0 vals' S' t:=by
 grind[Zh,PC,SM]
theorem Rr(h:Se n all BU AN Gs){e0:Env}{vals vals':Nat->b_}{i:Nat}{o:Oper}(hi:all[i]?=some o)(O:∀m,S' m↔S m\/m=i)(U:∀m,S m->m≠i->vals' m=vals m)(I:vals' i=v)(Q:¬S i) : Cw n (EU all n e0 vals S) o.dst v=EU all n e0 vals' S':=by
 have J:i<all.length:=(Ad.1 hi).1;have N:Dl all i=o.dst:=by rw[Ei,hi];rfl
 funext t;by_cases j:o.dst=some t;rw[j];by_cases ht:t<n;rw[Zh h ((O i).2 (.inr rfl)) J (N.trans j) ht,I];have:Nat.blt t n=true:=aB0 E;simp[Cw,JU,this];rw[SM ht];have:Nat.blt t n=false:=by cases hb:Nat.blt t n with|false=>rfl|true=>exact absurd (aAl hb) E
 simp only[Cw,JU,this,Bool.and_false,aBO];exact SM ht;grind[KZ,Jn]
def KQ{o:Oper}{e e':Env}(j:∀cs b,o.op≠.select cs b)(h:∀t∈Nq o,e t=e' t):execOp (ev e) o=execOp (ev e') o:=by
 refine execOp_congr o j λx I=>?_;cases x with
 |tmp t=>exact h t (by simp only[Nq,List.mem_filterMap];exact⟨.tmp t,by simpa using I,rfl⟩)
 |_=>rfl
variable (e0:Env)(w0:c_)(A:Nat->b_->c_->Prop)(M:Nat->d_)
def xX(BU:X_)(M:Nat->d_):d_:=λb=>∃j∈BU,M j b
def StM(BU:X_)(M:Nat->d_)(w0:c_)(a:Addr)(v:b_):Prop:=w0.cell? a=some v/\∀j∈BU,¬M j a.block
def YQ(BU:X_)(AN:List X_)(i:Nat):X_:=BU.filter λj=>!Ge (Dn AN j) i
def cF(BU:X_)(AN:List X_)(M:Nat->d_)(w0:c_)(i:Nat):Addr->b_->Prop:=StM (YQ BU AN i) M w0
noncomputable def view(all:List Oper)(AN:List X_)(n:Nat)(e0:Env)(vals:Nat->b_)(i:Nat):Env:=EU all n e0 vals (·∈Dn AN i)
def Dp(all:List Oper)(e:Env)(o:Oper):Prop:=∀g b,o.guard=some (g,b)->yv all e g=some b
def J9(P:Program)(BU:X_)(M:Nat->d_)(w0:c_)(o:Oper)(e:Env)(v:b_):Prop:=∀w',AF (xX BU M) w0 w'->(execOp (ev e) o).run P w'=.ok (.value v) w'
def Gd(P:Program)(all:List Oper)(BU:X_)(AN:List X_)(n:Nat)(e0:Env)(w0:c_)(M:Nat->d_)(vals:Nat->b_)(i:Nat)(o:Oper):Prop:=(Dp all (view all AN n e0 vals i) o->J9 P (YQ BU AN i) M w0 o (view all AN n e0 vals i) (vals i))/\(¬Dp all (view all AN n e0 vals i) o->vals i=undef)
variable {e0 w0 A M}
def cI{N:X_}{o:Oper}{i:Nat}{e:Env}{k:b_->Prop}(hi:Ge BU i=false)(h:kS P ok BU A (StM N M w0) w o i (ev e) k):∃v,k v/\J9 P N M w0 o e v:=by
 unfold kS at h;rw[hi] at h;have Y:∀(a:Addr) (v:b_),StM N M w0 a v->∀J,AF (xX N M) w0 J->J.cell? a=some v:=λa v Z J hm=>
  (aB6 (hm.Ak a.block (lA w0 a Z.1) λ⟨j,hj,hb⟩=>Z.2 j hj hb)).trans Z.1
 have Q:(bif Du P o then Iv P ok o (ev e) (λv _=>k v) w else False)->∃v,k v/\J9 P N M w0 o e v:=by
  intro h;cases hp:Du P o with
  |false=>grind
  |true=>
   rw[hp] at h;simp only[aBP] at h;obtain⟨v,h1,U⟩:=jt (ρ:=ev e) I' hp h;exact⟨v,h1,λJ _=>U J⟩
 obtain⟨a8,op,a7,DA,after,guard⟩:=o;cases op with
 |load t x=>
  simp only at h;split at h;rename_i m ha;obtain⟨a,v,h1,U,V⟩:=h;refine⟨v,V,λJ hm=>?_⟩;obtain⟨O,I,r1,r2⟩:=Z4 (P:=P) (K:=λO I=>O=v/\I=J) (w:=J) ha ⟨a,v,h1,B_,rfl,rfl⟩;obtain⟨rfl,rfl⟩:=r2;simp only[execOp,aR,r1,Ty,aAY];rename_i m ha;obtain⟨a,vs,h1,hl,U,V⟩:=h;refine⟨_,V,λJ hm=>?_⟩;obtain⟨O,I,r1,r2⟩:=Za (P:=P) (K:=λO I=>O=.agg vs.toArray/\I=J) (w:=J) ha ⟨a,vs,h1,hl,B_,rfl,rfl⟩;obtain⟨rfl,rfl⟩:=r2;simp only[execOp,aR,r1,Ty,aAY];grind
 |binOp op t x y yt=>
  simp only at h;cases hp:KD P op t y with
  |true=>
   rw[hp] at h;obtain⟨v,h1,U⟩:=JD hp h;refine⟨v,h1,λJ _=>?_⟩;obtain⟨X,a1,a6⟩:∃X:Cont,X v J/\∀O I,X O I->O=v/\I=J:=⟨λO I=>O=v/\I=J,⟨rfl,rfl⟩,C_⟩;obtain⟨O,I,r1,r2⟩:=VP (P:=P) (w:=J) (K:=X) (xo:=x) (yo:=y) (F:=False) (λv hv=>by rw[hv];rfl) (U _ _ a1) (λhF=>hF.elim);obtain⟨rfl,rfl⟩:=a6 _ _ r2;simp only[execOp];rw[aR,r1];rfl
  |false=>
   rw[hp] at h;obtain⟨v,h1,U⟩:=h;refine⟨v,U,λJ _=>?_⟩;have V:=h1 J;simp only[Di] at V;simp only[execOp];rw[aR,V];rfl
 |_=>exact Q h
def J9.det{o:Oper}{e:Env}(h:J9 P BU M w0 o e v)(h':J9 P BU M w0 o e sv):v=sv:=by
 have h1:=h w0 (AF.refl _ _);have j:=h' w0 (AF.refl _ _);grind
theorem J9.congr{o:Oper}{e e':Env}(j:∀cs b,o.op≠.select cs b)(h:∀t∈Nq o,e t=e' t)(hr:J9 P BU M w0 o e v):J9 P BU M w0 o e' v:=by
 intro I hm;rw[<-KQ j h];exact hr I hm
theorem Rm(I:Se n all BU AN Gs){vals:Nat->b_}{i:Nat}{o:Oper}(hi:all[i]?=some o)(h1:∀j∈Dn AN i,S j)(N:∀m,m<all.length->i∈Dn AN m->¬S m)(O:¬S i) : ∀t∈Hy all o,EU all n e0 vals S t=view all AN n e0 vals i t:=by
 have J:i<all.length:=(Ad.1 hi).1;refine λt ht=>Jn I λm hm Q=>⟨?_,I'⟩;grind[Ei,Se.reads]
theorem MN{o:Oper}{t:Nat}(h:t∈Nq o):t∈Hy all o:=aAJ _ h
def KW(j:Se n all BU AN Gs){i:Nat}{o:Oper}(hi:all[i]?=some o){e e':Env}(h:∀t∈Hy all o,e t=e' t):Dp all e o↔Dp all e' o:=by
 grind[Dp,Hy,yv]
theorem KG(I:Se n all BU AN Gs){vals vals':Nat->b_}{i:Nat}(h:∀j∈Dn AN i,vals j=vals' j):view all AN n e0 vals i=view all AN n e0 vals' i:=by
 funext t;exact Jn I λm _ _=>⟨aCU,h m⟩
section
variable {ds:Z'}{e0:Env}{w0:c_}{A:Nat->b_->c_->Prop}{M:Nat->d_}
theorem jD{BU:X_}{AN:List X_}{i j:Nat}(I:j∈BU)(h:¬i∈Dn AN j):j∈YQ BU AN i:=by
 grind[YQ,DK]
end
section
variable {ds:Z'}{e0:Env}{w0:c_}{A:Nat->b_->c_->Prop}{M:Nat->d_}
def Gd.WH(J:Se n all BU AN Gs){vals vals':Nat->b_}{i:Nat}{o:Oper}(_:i<all.length)(N:∀j∈Dn AN i,vals j=vals' j)(I:vals i=vals' i)(h:Gd P all BU AN n e0 w0 M vals i o):Gd P all BU AN n e0 w0 M vals' i o:=by
 grind[Gd,KG]
end
section
variable {ds:Z'}{e0:Env}{w0:c_}{A:Nat->b_->c_->Prop}{M:Nat->d_}
def fW:∀(l:List Bool) (i:Nat),l[i]?=some false->(l.set i true).count false+1=l.count false:=by
 grind
def Lu(ds:Z')(all:List Oper)(n:Nat)(e0:Env)(K:Env->c_->Prop):Exit->Act->c_->Prop:=λex a w=>ex=.normal/\∃e',Fr ds n e' a/\(∀j,(∀o∈all,o.dst≠some j)->e' j=e0 j)/\K e' w
end
end
def tU(o:Oper):Bool:=match o.op with|.select _ _=>true|_=>false
def vU(n:Nat)(all:List Oper)(BU:X_)(AN:List X_)(Gs:List X_)(i:Nat)(o:Oper):Bool:=
 !tU o&&o.after.toList.all (λe=>!(Region.binds .any e)||Nat.blt e.on i)
 && (Dn AN i).all (λj=>o.after.toList.any λe=>Region.binds .any e&&(Nat.beq e.on j||Ge (Dn AN e.on) j))
 && (Hy all o).all (λt=>(List.range all.length).all λm=>!(Rp (Dl all m) t)||Nat.beq m i||Ge (Dn AN i) m||Ge (Dn AN m) i)
 && (match o.guard with|none=>true|some (g,_)=>Ge (Dn AN i) g&&(Dl all g).isSome)
 && (match o.dst with|none=>true|some d=>Nat.blt d n&&(List.range all.length).all λj=>Nat.beq j i||!(Rp (Dl all j) d))
 && (Ge BU i||(Dn AN i).all (λj=>!Ge BU j)||BU.all (λj=>Ge (Dn AN i) j)||Gs.any (λA_=>BU.all λj=>Ge (Dn AN i) j==Ge A_ j))
def kH(n:Nat)(all:List Oper)(BU:X_)(AN:List X_)(Gs:List X_):Bool:=
 Nat.ble AN.length all.length
 && (List.range all.length).all (λi=>match all[i]? with|some o=>vU n all BU AN Gs i o|none=>true)
 && (List.range AN.length).all (λi=>(Dn AN i).all λj=>(Dn AN j).all λm=>Ge (Dn AN i) m)
 && BU.any (λk=>Nat.blt k all.length&&(Dn AN k).all λj=>!Ge BU j)
 && BU.all (λk=>Nat.blt k all.length)
theorem QZ{a b:Nat}:Nat.blt a b=true↔a<b:=⟨aAl,λh=>aB0 (show a+1<=b from h)⟩
theorem VC{a b:Nat}:Nat.beq a b=true↔a=b:=⟨sY,λh=>by subst h;simp⟩
theorem kV{AN:List X_}:∀{i:Nat},AN.length<=i->Dn AN i=[]:=by
 induction AN with
 |nil=>intro i _;rfl
 |cons a r j=>intro i h;cases i with
  |zero=>simp at h
  |succ i=>exact j (by simpa using h)
theorem Td{d:Option Nat}{t:Nat}:Rp d t=true↔d=some t:=by
 cases d with
 |none=>simp[Rp]
 |some x=>simp[Rp]
def rO{n:Nat}{all:List Oper}{BU:X_}{AN:List X_}{Gs:List X_}(h:kH n all BU AN Gs=true):Se n all BU AN Gs:=by
 simp only[kH,aE,aAf,aBb] at h;obtain⟨⟨⟨⟨h0,h1⟩,h2⟩,U⟩,h4⟩:=h;have V:AN.length<=all.length:=aAl h0;have one:∀(i:Nat) o,all[i]?=some o->vU n all BU AN Gs i o=true:=λi o hi=>by
  grind
 have BP:=λ(i:Nat) (o:Oper) (hi:all[i]?=some o)=>by
  have:=one i o hi;unfold vU at this;simp only[aE] at this;exact this
 have X:∀(m:Nat) J,all[m]?=some J->Dl all m=J.dst:=by grind[Ei]
 refine⟨?_,?_,?_,?_,?_,?_,?_,?_,?_,?_,?_⟩;intro i o hi cs b N;have:=(BP i o hi).1.1.1.1.1.1;rw[tU,N] at this;cases this;intro i o hi e he hb;have:=(BP i o hi).1.1.1.1.1.2;simp only[aAf] at this;grind[QZ];intro i o hi j O;have:=(BP i o hi).1.1.1.1.2;simp only[aAf] at this;have:=this j O;simp only[aCc,aE,aBT] at this;obtain⟨e,he,hb,hc⟩:=this;grind[VC,DK];intro i j O m hm;by_cases hi:i<AN.length;grind[DK];grind[kV];intro i o hi t ht m J hm I Q;have:=(BP i o hi).1.1.1.2;simp only[aAf,aBb] at this;have:=this t ht m (Ad.1 hm).1;have he:Rp (Dl all m) t=true:=Td.2 B_;simp only[he,Bool.not_true,Bool.false_or,aBT,DK] at this;rcases this with(h|h)|h;exact(Q (VC.1 h)).elim;grind;grind;intro i o hi g b Y;have:=(BP i o hi).1.1.2;rw[Y] at this;simp only[aE,DK,lP] at this;exact this;intro i j o J hi O d I Z;have:=(BP i o hi).1.2;rw[I] at this;simp only[aE,aAf,aBb] at this;have he:Rp (Dl all j) d=true:=by grind[Td]
 grind[VC];intro i hi a1;have:=(BP i all[i] (by simp[hi])).2;have hm:Ge BU i=false:=by grind[DK]
 simp only[hm,Bool.false_or,aBT,aAf,aCc] at this;rcases this with(h|h)|⟨A_,hE,h⟩;grind[DK];grind[DK];grind[DK];simp only[aCc,aE,aAf] at U;obtain⟨k,hk,hl,hn⟩:=U;exact⟨k,hk,QZ.1 hl,(by grind[DK])⟩;grind[QZ];intro i o hi d I;have:=(BP i o hi).1.2;rw[I] at this;simp only[aE] at this;exact QZ.1 this.1
section
variable (P:Program)(ok:Nat->Bool)(n:Nat)
def Pb(BU:X_)(M:Nat->d_)(St:Nat->Addr->b_->Prop)(_:c_)(o:Oper)(i:Nat)(ρ:Operand->b_)(k:Cont)(w:c_):Prop:=bif Ge BU i then Iv P ok o ρ (λv w'=>AF (M i) w w'/\k v w') w else kS P ok BU (λ_ _ _=>True) (St i) w o i ρ λv=>k v w
def DP(BU:X_)(AN:List X_)(w0:c_)(F:(Nat->d_)->(Nat->Addr->b_->Prop)->Prop):Prop:=∃M,F M (cF BU AN M w0)
end
section
variable {P:Program}{ds:Z'}{ok:Nat->Bool}{n:Nat}{all:List Oper}{BU:X_}{AN Gs:List X_}{e0:Env}{w0:c_}{M:Nat->d_}{K:Env->c_->Prop}
def Vr{r:Result Next}{K:Cont}(h:Gc w r K P):∃v w',K v w':=by
 match r,h with
 |.ok (.value v) w',h=>exact⟨_,_,h⟩
 |.ok .skip w',h=>exact⟨_,_,h⟩
 |.ok (.enter f args) w',h=>
  obtain⟨_,hc⟩:=h;obtain⟨e,j,fr,⟨v,_,I⟩,_⟩:=hc [];grind
def nG(I:Se n all BU AN Gs){i:Nat}{o:Oper}(j:all[i]?=some o){e:Env}:yv all (Cw n e o.dst undef) i=none:=by
 unfold yv;rw[Ei,j];simp only[Option.bind_some];cases J:o.dst with
 |none=>rfl
 |some d=>
  have:=I.xG i o j d J;have hb:Nat.blt d n=true:=aB0 (show d+1<=n from this);simp[Cw,JU,hb];rfl
end
inductive Ord where
 |nil
 |op (i:Nat) (t:Ord)
 |br (a b:Ord)
section
variable (P:Program)(ok:Nat->Bool)(n:Nat)
def Dc(all:List Oper)(BU:X_)(M:Nat->d_)(St:Nat->Addr->b_->Prop)(w0:c_)(K:Env->c_->Prop):Ord->List (Nat×Option Bool)->Env->c_->Prop
 |.nil,_,e,w=>K e w
 |.br a b,kn,e,w=>Dc all BU M St w0 K a kn e w/\Dc all BU M St w0 K b kn e w
 |.op i r,kn,e,w=>
  match all[i]? with
  |none=>False
  |some o=>match o.guard with
   |none=>Pb P ok BU M St w0 o i (ev e) (λv w'=>Dc all BU M St w0 K r kn (Cw n e o.dst v) w') w
   |some (j,I)=>match Hk kn j with
    |some (some b)=>bif Pc b I then Pb P ok BU M St w0 o i (ev e) (λv w'=>Dc all BU M St w0 K r kn (Cw n e o.dst v) w') w
      else Dc all BU M St w0 K r ((i,none)::kn) (Cw n e o.dst undef) w
    |some none=>Dc all BU M St w0 K r ((i,none)::kn) (Cw n e o.dst undef) w
    |none=>match Dl all j with
     |some d=>Af (e d)
       (bif I then Pb P ok BU M St w0 o i (ev (JU n e d (.bool true))) (λv w'=>Dc all BU M St w0 K r ((j,some true) :: kn) (Cw n (JU n e d (.bool true)) o.dst v) w') w
        else Dc all BU M St w0 K r ((i,none) :: (j,some true) :: kn) (Cw n (JU n e d (.bool true)) o.dst undef) w)
       (bif I then Dc all BU M St w0 K r ((i,none) :: (j,some false) :: kn) (Cw n (JU n e d (.bool false)) o.dst undef) w
        else Pb P ok BU M St w0 o i (ev (JU n e d (.bool false))) (λv w'=>Dc all BU M St w0 K r ((j,some false) :: kn) (Cw n (JU n e d (.bool false)) o.dst v) w') w)
     |none=>False
end
def tN(BU:X_):Ord->Nat->Bool
 |.nil,_=>false
 |.br a b,i=>tN BU a i||tN BU b i
 |.op j t,i=>Nat.beq j i||(!Ge BU j&&tN BU t i)
def xH(BU:X_)(AN:List X_)(t:Ord)(pre:X_):Bool:=BU.all λi=>Ge pre i||!((Dn AN i).all λj=>!Ge BU j||Ge pre j)||tN BU t i
def WO(N:Nat)(BU:X_)(AN:List X_):Ord->X_->Bool
 |.nil,pre=>(List.range N).all (Ge pre)
 |.br a b,pre=>WO N BU AN a pre&&WO N BU AN b pre
 |.op i t,pre=>Nat.blt i N&&!Ge pre i&&(Dn AN i).all (Ge pre)&&(bif Ge BU i then xH BU AN t (i::pre) else true)&&WO N BU AN t (i::pre)
def aK(N:Nat)(BU:X_)(AN:List X_)(t:Ord):Bool:=xH BU AN t []&&WO N BU AN t []
inductive Reach:Ord->X_->Ord->Prop where
 |refl (t:Ord):Reach t [] t
 |op {i:Nat} {t t':Ord} {A:X_}:Reach t A t'->Reach (.op i t) (i::A) t'
 |l {a b t':Ord} {A:X_}:Reach a A t'->Reach (.br a b) A t'
 |r {a b t':Ord} {A:X_}:Reach b A t'->Reach (.br a b) A t'
theorem KI{l:X_}{i:Nat}:Ge l i=false↔i∉l:=by
 grind[DK]
def YE{N:Nat}{BU:X_}{AN:List X_}{i:Nat}{t:Ord}{pre:X_}(h:WO N BU AN (.op i t) pre=true) : i<N/\i∉pre/\(∀j∈Dn AN i,j∈pre)/\(i∈BU->xH BU AN t (i::pre)=true)/\WO N BU AN t (i::pre)=true:=by
 simp only[WO,aE,aAf,Bool.not_eq_true',KI,DK] at h;obtain⟨⟨⟨⟨h1,I⟩,J⟩,Q⟩,O⟩:=h;refine⟨aAl h1,I,J,λhi=>?_,O⟩;grind[DK]
def MQ{N:Nat}{BU:X_}{AN:List X_}{t t':Ord}{A:X_}(h:Reach t A t'):∀{pre:X_},WO N BU AN t pre=true->WO N BU AN t' (A.reverse++pre)=true/\∀j∈A,j∉pre:=by
 induction h with
 |refl t=>grind
 |op _ I=>
  intro pre h;obtain⟨_,J,_,_,O⟩:=YE h;grind
 |l _ I=>grind[WO]
 |r _ I=>grind[WO]
def df{BU:X_}{i:Nat}:∀{t:Ord},tN BU t i=true->∃A t',Reach t A (.op i t')/\∀j∈A,j∉BU:=by
 intro t;induction t with
 |nil=>intro h;cases h
 |op j t Q=>
  intro h;simp only[tN,aBT,aE,Bool.not_eq_true',KI] at h;rcases h with h|⟨h1,U⟩;have:=sY h;subst this;exact⟨[],t,.refl _,B_⟩;obtain⟨A,t',I,J⟩:=Q U;refine⟨j::A,t',.op I,λk hk=>?_⟩;grind
 |br a b N O=>
  intro h;simp only[tN,aBT] at h;rcases h with h|h;obtain⟨A,t',I,J⟩:=N h;exact⟨A,t',.l I,J⟩;obtain⟨A,t',I,J⟩:=O h;exact⟨A,t',.r I,J⟩
def UI:∀t:Ord,∃A,Reach t A .nil:=by
 intro t;induction t with
 |nil=>exact⟨[],.refl _⟩
 |op j t J=>obtain⟨A,h⟩:=J;exact⟨_,.op h⟩
 |br a b I _=>obtain⟨A,h⟩:=I;exact⟨A,.l h⟩
def V9{t t':Ord}{A:X_}(h:Reach t A t'):∀{i:Nat},i∈A->∃B I,Reach t B (.op i I)/\(∀j∈B,j∈A):=by
 induction h with
 |refl t=>grind
 |@op j t t' A h J=>
  intro i hi;rcases S6.1 hi with rfl|hi;exact⟨[],t,.refl _,B_⟩;obtain⟨B,I,h1,N⟩:=J hi;refine⟨j::B,I,.op h1,λk hk=>?_⟩;grind
 |l _ J=>intro i hi;obtain⟨B,I,h1,N⟩:=J hi;exact⟨B,I,.l h1,N⟩
 |r _ J=>intro i hi;obtain⟨B,I,h1,N⟩:=J hi;exact⟨B,I,.r h1,N⟩
section
variable {P:Program}{ds:Z'}{ok:Nat->Bool}{n:Nat}{all:List Oper}{BU:X_}{AN Gs:List X_}{e0:Env}{w0:c_}{M:Nat->d_}{K:Env->c_->Prop}
structure J1 (all:List Oper) (AN:List X_) (pre:X_):Prop where
 lt:∀m∈pre,m<all.length
 cl:∀m∈pre,∀j∈Dn AN m,j∈pre
def J1.cons{pre:X_}{i:Nat}(h:J1 all AN pre)(hi:i<all.length)(ha:∀j∈Dn AN i,j∈pre):J1 all AN (i::pre):=
 ⟨λm hm=>by rcases S6.1 hm with rfl|hm;exact hi;exact h.lt m hm,(by grind[J1.cl])⟩
def TM(j:Se n all BU AN Gs){kn:List (Nat×Option Bool)}{i:Nat}{o:Oper}(hi:all[i]?=some o)(hk:∀p∈kn,p.1≠i/\p.1<all.length):JH o.dst kn all=false:=by
 unfold JH;grind[Ei,Nat.eq_of_beq_eq_true,Se.one]
def TV(hG : Se n all BU AN Gs){o : Oper}{N : Ord}{i : Nat}{pre : X_}{kn : List (Nat×Option Bool)}{e : Env}(Y : all[i]? = some o)(ha : ∀j∈Dn AN i, j∈pre)(a6 : ∀p∈kn, p.1∈pre)(hk : HU all kn e)
   (h : Dc P ok n all BU M (cF BU AN M w0) w0 K (.op i N) kn e w) :
    ∃U, (∀p∈U, p.1∈pre) /\ HU all U e /\
      ((Dp all e o /\ Pb P ok BU M (cF BU AN M w0) w0 o i (ev e) (λv w' => Dc P ok n all BU M (cF BU AN M w0) w0 K N U (Cw n e o.dst v) w') w) \/
       (¬ Dp all e o /\ Dc P ok n all BU M (cF BU AN M w0) w0 K N ((i, none) :: U) (Cw n e o.dst undef) w)) := by
  unfold Dc at h;rw[Y] at h;cases J : o.guard with
  |none =>
    simp only[J] at h;exact⟨kn, a6, hk, .inl ⟨(λg b O => by rw[J] at O; cases O), h⟩⟩
  |some gb =>
    obtain⟨g, I⟩ := gb;simp only[J] at h;have a7 : g∈pre := by grind[Se.guard]
    have wt : yv all e g = some I -> Dp all e o := λV g' b' O => by rw[J] at O; cases O; exact V
    have wf : yv all e g ≠ some I -> ¬Dp all e o := λV hw => V (hw g I J);cases Z : Hk kn g with
    |some b =>
      have V := hk g b Z;grind[Rf]
    |none =>
      simp only[Z] at h;obtain⟨d, hd⟩ := (hG.guard i o Y g I J).2;simp only[hd] at h;have a1 : yv all e g = bv (e d) := by simp[yv, hd]
      have X : ∀b, ∀p∈(g, b)::kn, p.1∈pre := B_;rcases KV h with⟨Q, hb⟩|⟨Q, hb⟩;have V : yv all e g = some true := by rw[a1, Q]; rfl
      rw[Jo Q] at hb;cases I with
      |true => exact⟨_, X _, hk.cons V, B_⟩
      |false => grind[HU.cons]
      have V : yv all e g = some false := by rw[a1, Q]; rfl
      rw[Jo Q] at hb;cases I with
      |true => grind[HU.cons]
      |false => exact⟨_, X _, hk.cons V, B_⟩
def PA(av:DU P ok)(hG:Se n all BU AN Gs){L:d_}(hL:∀i,i<all.length->L i->∀j∈Dn AN i,L j){t t':Ord}{A:X_}(hr:Reach t A t') : ∀(pre:X_) (kn:List (Nat×Option Bool)) (vals:Nat->b_) (w:c_),WO all.length BU AN t pre=true->J1 all AN pre->(∀q∈kn,q.1∈pre)->HU all kn (EU all n e0 vals (λm=>m∈pre))->(∀(m:Nat) o,all[m]?=some o->(m∈pre\/L m)->m∉BU->Gd P all BU AN n e0 w0 M vals m o)->(∀j∈BU,j∈A->¬L j)->Dc P ok n all BU M (cF BU AN M w0) w0 K t kn (EU all n e0 vals (λm=>m∈pre)) w->∃vals' I w',(∀m,(m∈pre\/L m)->vals' m=vals m)/\(∀q∈I,q.1∈A.reverse++pre)/\HU all I (EU all n e0 vals' (λm=>m∈A.reverse++pre))/\ (∀(m:Nat) o,all[m]?=some o->(m∈A.reverse++pre\/L m)->m∉BU->Gd P all BU AN n e0 w0 M vals' m o)/\((∀j∈BU,j∉A)->w'=w)/\J1 all AN (A.reverse++pre)/\ Dc P ok n all BU M (cF BU AN M w0) w0 K t' I (EU all n e0 vals' (λm=>m∈A.reverse++pre)) w':=by
 induction hr with
 |refl t=>grind
 |l _ ih=>intro pre kn vals w Z hp h1 h2 h3 h4 h;simp only[WO,aE] at Z;exact ih pre kn vals w Z.1 hp h1 h2 h3 h4 h.1
 |r _ ih=>intro pre kn vals w Z hp h1 h2 h3 h4 h;simp only[WO,aE] at Z;exact ih pre kn vals w Z.2 hp h1 h2 h3 h4 h.2
 |@op p t t' A _ ih=>
  intro pre kn vals w Z hp ax hk hg ay h;obtain⟨a6,b0,a7,_,b6⟩:=YE Z;have N:all[p]?=some all[p]:=by simp[a6]
  generalize all[p]=o at N;obtain⟨Q,X,V,h⟩:=TV hG N a7 ax hk h;have b7:∀t∈Hy all o,EU all n e0 vals (λm=>m∈pre) t=view all AN n e0 vals p t:=
   (by grind[Rm,J1.cl])
  have J:=TM hG N (kn:=Q) λq hq=>⟨λe=>b0 (e▸X q hq),hp.lt _ (X q hq)⟩;have b8:=hp.cons a6 a7;have eA:(p::A).reverse++pre=A.reverse++(p::pre):=E_;rw[eA];have next:∀(v:b_) (I:List (Nat×Option Bool)) (w1:c_),(L p->v=vals p)->(∀q∈I,q.1∈p::pre)->HU all I (Cw n (EU all n e0 vals (λm=>m∈pre)) o.dst v)->
    (p∉BU->(Dp all (view all AN n e0 vals p) o->J9 P (YQ BU AN p) M w0 o (view all AN n e0 vals p) v)/\(¬Dp all (view all AN n e0 vals p) o->v=undef))->
    (p∉BU->w1=w)->Dc P ok n all BU M (cF BU AN M w0) w0 K t I (Cw n (EU all n e0 vals (λm=>m∈pre)) o.dst v) w1->
    ∃vals' I w',(∀m,(m∈pre\/L m)->vals' m=vals m)/\(∀q∈I,q.1∈A.reverse++(p::pre))/\HU all I (EU all n e0 vals' (λm=>m∈A.reverse++(p::pre)))/\
     (∀(m:Nat) o,all[m]?=some o->(m∈A.reverse++(p::pre)\/L m)->m∉BU->Gd P all BU AN n e0 w0 M vals' m o)/\((∀j∈BU,j∉p::A)->w'=w)/\J1 all AN (A.reverse++(p::pre))/\
     Dc P ok n all BU M (cF BU AN M w0) w0 K t' I (EU all n e0 vals' (λm=>m∈A.reverse++(p::pre))) w':=by
   intro v I w1 bp a8 aa bs bx hc;have ak:Cw n (EU all n e0 vals (λm=>m∈pre)) o.dst v=EU all n e0 (λq=>if q=p then v else vals q) (λm=>m∈p::pre):=
    (by grind[Rr])
   rw[ak] at aa hc;have c4:∀m,m<all.length->(m∈p::pre\/L m)->view all AN n e0 (λq=>if q=p then v else vals q) m=view all AN n e0 vals m:=λm hm b9=>
    KG hG (by grind[J1.cl])
   obtain ⟨vals',ba,w',r1,r2,r3,r4,r5,r7,r6⟩:=ih (p :: pre) I (λq=>if q=p then v else vals q) w1 b6 b8 a8 aa (λm o' hm b9 bl=>by
     have c6:m < all.length:=(Ad.1 hm).1;unfold Gd;grind[Gd]) B_ hc
   refine⟨vals',ba,w',λm hm=>?_,r2,r3,r4,λc7=>?_,r7,r6⟩;grind;grind
  have Y:=KW hG N b7;have kc:∀q∈Q,q.1∈p::pre:=B_;have al:∀q∈(p,none)::Q,q.1∈p::pre:=B_;by_cases O:p∈BU
  .have an:¬L p:=ay p O aAE;rcases h with⟨hw,U⟩|⟨hw,U⟩
   .unfold Pb at U;rw[DK.2 O] at U;simp only[aBP] at U;obtain⟨v,w1,c8,bb⟩:=Vr (Ui av I' I' U);exact next v Q w1 (λh=>(an h).elim) kc (V.put J _) (λh=>(h O).elim) (λh=>(h O).elim) bb
   .exact next undef ((p,none)::Q) w (λh=>(an h).elim) al ((V.put J _).cons (nG hG N)) (λh=>(h O).elim) I' U
  .have hm:Ge BU p=false:=KI.2 O;rcases h with⟨hw,U⟩|⟨hw,U⟩
   .unfold Pb at U;rw[hm] at U;simp only[aBO] at U;obtain⟨v,h1,h2⟩:=cI hm U;have bk:J9 P (YQ BU AN p) M w0 o (view all AN n e0 vals p) v:=by grind[J9.congr,Se.kP,MN]
    refine next v Q w (λa1=>?_) kc (V.put J _) B_ I' h1
    exact bk.det ((hg p o N (.inr a1) O).1 (Y.1 hw))
   .refine next undef ((p,none)::Q) w (λa1=>((hg p o N (.inr a1) O).2 λh=>hw (Y.2 h)).symm) al ((V.put J _).cons (nG hG N)) B_ I' U
structure Qb (P:Program) (ds:Z') (ok:Nat->Bool) (n:Nat) (all:List Oper) (BU:X_) (AN:List X_) (e0:Env) (w0:c_) (M:Nat->d_) (K:Env->c_->Prop) (L:d_) (a:Act) (w:c_):Prop where
 ex:∃(t:Ord) (pre:X_) (vals:Nat->b_) (kn:List (Nat×Option Bool)),
  Fr ds n (EU all n e0 vals (λm=>L m/\m<all.length)) a/\WO all.length BU AN t pre=true/\xH BU AN t pre=true/\J1 all AN pre/\(∀q∈kn,q.1∈pre)/\HU all kn (EU all n e0 vals (λm=>m∈pre))/\
  (∀(m:Nat) o,all[m]?=some o->(m∈pre\/L m)->m∉BU->Gd P all BU AN n e0 w0 M vals m o)/\(∀j∈BU,L j↔j∈pre)/\
  Dc P ok n all BU M (cF BU AN M w0) w0 K t kn (EU all n e0 vals (λm=>m∈pre)) w
 T_:AF (λb=>∃j∈BU,L j/\M j b) w0 w
 Kl:∀i,i<all.length->L i->∀j∈Dn AN i,L j
def bq(ax:DU P ok)(O:Se n all BU AN Gs){ops:Array Oper}(ek:ops.toList=all) : ∀(fuel:Nat) (I:Array Bool) (a:Act) (w:c_),I.size=ops.size->I.toList.count false<=fuel->Qb P ds ok n all BU AN e0 w0 M K (λm=>I.getD m false=true) a w->wpAny P .any ops (Lu ds all n e0 K) fuel I a w:=by
 have ea:ops.size=all.length:=B_;have cc:∀i:Nat,ops[i]?=all[i]?:=B_;have cq:∀(I:Array Bool) (i:Nat),i∈Region.ready .any ops I->∃o,all[i]?=some o/\I.getD i true=false/\∀e∈o.after,Region.binds .any e=true->I.getD e.on false=true:=by
  grind[Go.mem_ready]
 have HA:∀(I:Array Bool) (a:Act) (w:c_),I.size=ops.size->Qb P ds ok n all BU AN e0 w0 M K (λm=>I.getD m false=true) a w->Region.ready .any ops I=[]->Lu ds all n e0 K .normal a w:=by
  intro I a w ay hI hr;have ec:∀i,i<all.length->I.getD i false=true:=by
   intro i;induction i using Nat.strongRecOn with
   |_ i ih=>
    intro hi;cases hc:I.getD i false with
    |true=>rfl
    |false=>
     have:i∈Region.ready .any ops I:=by
      refine mem_ready.2 ⟨?_,all[i],B_,λe he hb=>?_⟩;grind;have:=O.KF i all[i] (by simp[hi]) e he hb;grind
     grind
  obtain⟨t,pre,vals,kn,bs,ho,_,hp,a8,hk,hg,hj,hc⟩:=hI.ex;obtain⟨A,Q⟩:=UI t;obtain⟨bx,cu⟩:=MQ Q ho;have U:∀j∈BU,j∉A:=by grind[Se.xO]
  obtain⟨vals',cx,w',r1,r2,r3,r4,r5,r7,r6⟩:=PA (L:=λm=>I.getD m false=true) ax O hI.Kl Q pre kn vals w ho hp a8 hk hg B_ hc;have hw:w'=w:=r5 U;subst hw;have c4:∀m,m<all.length->m∈A.reverse++pre:=λm hm=>by
   simp only[WO,aAf,DK] at bx;grind
  have b9:EU all n e0 vals' (λm=>m∈A.reverse++pre)=EU all n e0 vals (λm=>I.getD m false=true/\m<all.length):=by
   grind[Jn]
  unfold Dc at r6;rw[b9] at r6;refine⟨rfl,_,bs,λj hj=>PC λm _ hm hd=>?_,r6⟩;grind[Ei]
 intro fuel;induction fuel with
 |zero=>
  intro I a w ay hc hI;have hr:Region.ready .any ops I=[]:=by
   cases hr:Region.ready .any ops I with
   |nil=>rfl
   |cons i r=>
    exfalso;obtain⟨o,h1,h2,_⟩:=cq I i B_;have b0:i<I.size:=B_;simp[b0] at h2;grind[List.count_pos_iff]
  exact⟨hr,HA I a w ay hI hr⟩
 |succ fuel ih=>
  refine λI a w ay hc hI=>⟨B_,λi hi=>?_⟩;obtain⟨o,N,da,e8⟩:=cq I i hi;have b0:i<all.length:=(Ad.1 N).1;have ba:i<I.size:=E;have dk:¬I.getD i false=true:=B_;have en:∀j∈Dn AN i,I.getD j false=true:=by
   grind[Se.anc,Qb.Kl]
  obtain⟨t,pre,vals,kn,bs,a7,aa,hp,a8,hk,hg,hj,dr⟩:=hI.ex;have dz:∀t∈Hy all o,EU all n e0 vals (λm=>I.getD m false=true/\m<all.length) t=view all AN n e0 vals i t:=
   Rm O N B_ (by grind[Qb.Kl]) (λh=>dk h.1)
  have dT:=bs.eval;have V:(Region.wanted o (yielded ops a.tmps)=true)↔Dp all (view all AN n e0 vals i) o:=by
   rw[<-KW O N dz];unfold Region.wanted Dp;grind[NA]
  have eo:∀m,(I.setIfInBounds i true).getD m false=true↔(I.getD m false=true\/m=i):=by
   intro m;simp only[aAx,aCh];grind
  have e1:(I.setIfInBounds i true).toList.count false<=fuel:=by
   have hb:I.toList[i]'(by simpa using ba)=false:=by simp[ba] at da;simpa using da
   grind
  have bb:∀m,m<all.length->(I.getD m false=true\/m=i)->∀j∈Dn AN m,(I.getD j false=true\/j=i):=by
   grind[Qb.Kl]
  have put:∀(vals':Nat->b_) (v:b_),(∀m,I.getD m false=true->vals' m=vals m)->vals' i=v->
    Fr ds n (EU all n e0 vals' (λm=>(I.getD m false=true\/m=i)/\m<all.length)) (a.put o.dst v):=by
   intro vals' v h1 h2;rw[<-Rr O (vals:=vals) (S:=λm=>I.getD m false=true/\m<all.length) (v:=v) N (λm=>?_) B_ h2 (λhh=>dk hh.1)];grind[Fr.put];grind
  have go:∀(v:b_) (w':c_),Qb P ds ok n all BU AN e0 w0 M K (λm=>I.getD m false=true\/m=i) (a.put o.dst v) w'->wpAny P .any ops (Lu ds all n e0 K) fuel (I.setIfInBounds i true) (a.put o.dst v) w':=by
   refine λv w' h1=>ih _ _ _ (by simpa using ay) e1 ?_;have:(λm=>(I.setIfInBounds i true).getD m false=true)=(λm=>I.getD m false=true\/m=i):=by
    funext m;grind
   grind
  unfold wpOp;rw[cc i,N];simp only;have ak:∀(vals':Nat->b_),(∀m,I.getD m false=true->vals' m=vals m)->view all AN n e0 vals' i=view all AN n e0 vals i:=λvals' h=>KG O B_;by_cases b6:i∈BU;have et:i∉pre:=B_;have c6:tN BU t i=true:=by
   simp only[xH,aAf] at aa;have h1:=aa i b6;grind[KI]
  obtain⟨A,t',Q,eu⟩:=df c6;obtain⟨bx,cu⟩:=MQ Q a7;have U:∀j∈BU,j∉A:=B_;obtain⟨vals',cx,w',r1,r2,r3,r4,r5,r7,r6⟩:=PA (L:=λm=>I.getD m false=true) ax O hI.Kl Q pre kn vals w a7 hp a8 hk hg B_ dr;have hw:w'=w:=r5 U;subst hw;obtain⟨_,c4,c7,c8,e2⟩:=YE bx;generalize ep:A.reverse++pre=J at *;have ed:∀j∈BU,j∈J↔j∈pre:=B_;obtain⟨b7,e3,e4,h6⟩:=TV O N c7 r2 r3 r6;have hv:=ak vals' B_;have bk:∀t∈Hy all o,EU all n e0 vals' (λm=>m∈J) t=view all AN n e0 vals i t:=λt ht=>by
   rw[Rm O N c7 (by grind[J1.cl]) c4 t ht,hv]
  have Z:=TM O N (kn:=b7) λq hq=>⟨B_,r7.lt _ (e3 q hq)⟩;have er:=KW O N bk;have a1:∀(v:b_) (w1:c_) (al:List (Nat×Option Bool)),(∀q∈al,q.1∈i::J)->HU all al (Cw n (EU all n e0 vals' (λm=>m∈J)) o.dst v)->AF (λb=>∃j∈BU,(I.getD j false=true\/j=i)/\M j b) w0 w1->
    Dc P ok n all BU M (cF BU AN M w0) w0 K t' al (Cw n (EU all n e0 vals' (λm=>m∈J)) o.dst v) w1->Qb P ds ok n all BU AN e0 w0 M K (λm=>I.getD m false=true\/m=i) (a.put o.dst v) w1:=by
   intro v w1 al h1 h2 h3 h4;have e5:Cw n (EU all n e0 vals' (λm=>m∈J)) o.dst v=EU all n e0 (λq=>if q=i then v else vals' q) (λm=>m∈i::J):=
    Rr O N (λm=>by simp[or_comm]) B_ E_ c4
   rw[e5] at h2 h4;refine⟨⟨t',i::J,λq=>if q=i then v else vals' q,al,put _ v (λm hm=>?_) E_,e2,c8 b6,r7.cons b0 c7,h1,h2,?_,?_,h4⟩,h3,bb⟩;have:m≠i:=B_;grind;intro m o' hm ee c9;have ca:m<all.length:=(Ad.1 hm).1;have b8:m≠i:=B_;have a6:m∈J\/I.getD m false=true:=by
    grind
   refine Gd.WH O ca (λj hj=>?_) (by simp[b8]) (r4 m o' hm a6 c9);have:j≠i:=by
    rintro rfl;rcases a6 with h|h;grind[J1.cl];grind[Qb.Kl]
   simp[this];intro j e6;rw[hj j e6,S6,ed j e6];exact or_comm
  have an:AF (λb=>∃ j ∈ BU,(I.getD j false=true\/j=i)/\M j b) w0 w':=hI.T_.mono λb _ ⟨j,hj,hL,hb⟩=>⟨j,hj,.inl hL,hb⟩;have kc:∀ q ∈ b7,q.1 ∈ i :: J:=B_;by_cases av:Dp all (view all AN n e0 vals i) o;rw [Ix (V.2 av)];left;rcases h6 with ⟨_,hx⟩ | ⟨ew,_⟩;unfold Pb at hx;rw [DK.2 b6] at hx;simp only [aBP] at hx;have c6:=Ui ax I' I' hx;unfold Oper.wp;rw [dT,KQ (e':=EU all n e0 vals' (λm=>m ∈ J)) (O.kP i o N) (λt ht=>by rw [dz t (MN ht),bk t (MN ht)])];exact rj c6 λv w1 hv=>go v w1 (a1 v w1 b7 kc (e4.put Z _) ((an.trans (hv.1.mono B_))) hv.2);grind;rw [By (λh=>av (V.1 h))];rcases h6 with ⟨hw,_⟩ | ⟨_,hx⟩;grind;exact go undef w' (a1 undef w' ((i,none) :: b7) (λq hq=>by
   grind) ((e4.put Z _).cons (nG O N)) an hx)
  .have key:∃v:b_,(i∈pre->v=vals i)/\(Dp all (view all AN n e0 vals i) o->J9 P (YQ BU AN i) M w0 o (view all AN n e0 vals i) v)/\(¬Dp all (view all AN n e0 vals i) o->v=undef):=by
    by_cases ef:i∈pre;exact⟨vals i,I',hg i o N (.inl ef) b6⟩;obtain⟨A0,bl⟩:=UI t;obtain⟨bp,_⟩:=MQ bl a7;have eh:i∈A0:=by
     simp only[WO,aAf,DK] at bp;have:=bp i (aBb.2 b0);grind
    obtain⟨B,t1,e7,_⟩:=V9 bl eh;have Q:Reach t (B++[i]) t1:=by
     have tr:∀{a b c:Ord} {X Y:X_},Reach a X b->Reach b Y c->Reach a (X++Y) c:=by
      intro a b c X Y h1 h2;induction h1 with
      |refl _=>exact h2
      |op _ ih=>exact .op (ih h2)
      |l _ ih=>exact .l (ih h2)
      |r _ ih=>exact .r (ih h2)
     exact tr e7 (.op (.refl _))
    obtain⟨_,cu⟩:=MQ Q a7;obtain⟨vals',cx,w',r1,r2,r3,r4,r5,r7,r6⟩:=PA (L:=λm=>I.getD m false=true) ax O hI.Kl Q pre kn vals w a7 hp a8 hk hg B_ dr;have hv:=ak vals' B_;grind[Gd]
   obtain⟨v,ez,ej⟩:=key;have Pw:Qb P ds ok n all BU AN e0 w0 M K (λm=>I.getD m false=true\/m=i) (a.put o.dst v) w:=by
    have e9:∀m,(m∈pre\/I.getD m false=true)->(if m=i then v else vals m)=vals m:=by
     grind
    have b9:EU all n e0 (λm=>if m=i then v else vals m) (λm=>m∈pre)=EU all n e0 vals (λm=>m∈pre):=by
     funext t;exact Jn O B_
    refine⟨⟨t,pre,λm=>if m=i then v else vals m,kn,put _ v B_ E_,a7,aa,hp,a8,B_,?_,?_,B_⟩,hI.T_.mono B_,bb⟩;intro m o' hm ee c9;have ca:m<all.length:=(Ad.1 hm).1;by_cases b8:m=i;subst b8;rw[N] at hm;cases hm;unfold Gd;rw[KG O (vals':=vals) B_];grind;have a6:m∈pre\/I.getD m false=true:=by
     grind
    refine Gd.WH O ca (λj hj=>?_) (by simp[b8]) (hg m o' hm a6 c9);have eA:j∈pre\/I.getD j false=true:=by
     grind[J1.cl,Qb.Kl]
    grind;grind
   by_cases av:Dp all (view all AN n e0 vals i) o
   .rw[Ix (V.2 av)];left;unfold Oper.wp;rw[dT,KQ (e':=view all AN n e0 vals i) (O.kP i o N) (by grind[MN]),ej.1 av w (hI.T_.mono λb _ ⟨j,hj,hL,hb⟩=>⟨j,(by grind[jD,Qb.Kl]),hb⟩)];exact(go v w Pw)
   grind
def XF{ops:Array Oper}{a:Act}{t:Ord}(J:DU P ok)(hm:P.follows .mixedOrders=true)(Q:Fr ds n e0 a) (N:kH n ops.toList BU AN Gs=true)(ht:aK ops.toList.length BU AN t=true) (h:DP BU AN w.drew λM St=>Dc P ok n ops.toList BU M St w.drew K t [] e0 w.drew) : wpAny P .any ops (Lu ds ops.toList n e0 K) ops.size (Array.replicate ops.size false) a { w with drawn:=w.drawn+1 }:=by
 obtain⟨M,h⟩:=h;simp only[aK,aE] at ht;refine bq (M:=M) (w0:=w.drew) J (rO N) rfl ops.size (Array.replicate ops.size false) a _ E_ ?_ ?_;simp;have U:∀m:Nat,¬(Array.replicate ops.size false).getD m false=true:=λm=>by
  simp only[aAx,Array.getElem?_replicate];grind
 have I:∀S:d_,(∀m,¬S m)->EU ops.toList n e0 (λ_=>undef) S=e0:=by grind[PC]
 refine⟨⟨t,[],λ_=>undef,[],?_,ht.2,ht.1,⟨B_,B_⟩,B_,λj b hb=>by simp[Hk] at hb,λm o _ O _=>?_,λj _=>?_,?_⟩,AF.refl _ _,B_⟩;grind;grind;grind;rw[I _ λm hm=>(nomatch hm)];exact h
end
section
inductive Hp where
 |nil
 |node (L:X_) (W:List (Nat×Nat)) (a b:Hp)
 |cut (L:X_) (W:List (Nat×Nat)) (a b:Hp)
 |Ec
 |dt (BU:X_) (AN Gs:List X_) (t:Ord)
def wZ:Nat->Nat->Ord
 |0,_=>.nil
 |k+1,i=>.op i (wZ k (i+1))
def Hp.dc(BU:X_)(AN Gs:List X_):Hp:=.dt BU AN Gs (wZ AN.length 0)
def wE:List (Nat×Nat)->Nat->Bool
 |[],_=>false
 |(lo,hi)::r,j=>(Nat.ble lo j&&Nat.ble j hi)||wE r j
def lk:X_->U_->Nat->b_->b_
 |[],_,_,d=>d
 |l::L,vs,j,d=>bif Nat.beq l j then vs.headD undef else lk L vs.tail j d
def xj(L:X_)(W:List (Nat×Nat))(vs:U_)(h e:Env):Env:=λj=>lk L vs j (bif wE W j then h j else e j)
def MZ(W:List (Nat×Nat)):Code->Bool
 |.region _ ops _=>ops.toList.all λo=>match o.dst with | some d=>wE W d | none=>true
 |.seq a b=>MZ W a&&MZ W b
 |.cond _ a b=>MZ W a&&MZ W b
 |.block _ a=>MZ W a
 |.loop a=>MZ W a
 |.scope a=>MZ W a
 |.rangeFunc ..=>false
 |_=>true
def Wr:Code->d_
 |.region _ ops _,j=>∃o∈ops.toList,o.dst=some j
 |.seq a b,j=>Wr a j\/Wr b j
 |.cond _ a b,j=>Wr a j\/Wr b j
 |.block _ a,j=>Wr a j
 |.loop a,j=>Wr a j
 |.scope a,j=>Wr a j
 |.rangeFunc ..,_=>True
 |_,_=>False
def FP{W:List (Nat×Nat)}:∀{c:Code},MZ W c=true->∀j,Wr c j->wE W j=true
 |.region _ ops _,h,j,⟨o,J,N⟩=>by
  grind[MZ]
 |.seq a b,h,j,I=>by
  simp only[MZ,aE] at h;exact I.elim (FP h.1 j) (FP h.2 j)
 |.cond _ a b,h,j,I=>by
  simp only[MZ,aE] at h;exact I.elim (FP h.1 j) (FP h.2 j)
 |.block _ a,h,j,I=>FP (c:=a) h j I
 |.loop a,h,j,I=>FP (c:=a) h j I
 |.scope a,h,j,I=>FP (c:=a) h j I
 |.rangeFunc ..,h,_,_=>by simp[MZ] at h
 |.skip,_,_,I=>I.elim
 |.exit _,_,_,I=>I.elim
 |.label _,_,_,I=>I.elim
 |.goto _,_,_,I=>I.elim
 |.ret,_,_,I=>I.elim
 |.refuse _,_,_,I=>I.elim
theorem uY(e:Env)(L:X_)(j:Nat)(d:b_):lk L (L.map e) j d=if j∈L then e j else d:=by
 induction L with
 |nil=>simp[lk]
 |cons l L I=>
  simp only[lk,aAR,HK,aAc,I];cases hb:Nat.beq l j with
  |true=>grind[Nat.eq_of_beq_eq_true]
  |false=>
   have:j≠l:=by intro e;subst e;simp at hb
   simp[this]
def Wc{L:X_}{W:List (Nat×Nat)}{e e':Env}(h:∀j,wE W j=false->e' j=e j):xj L W (L.map e') e' e=e':=by
 grind[xj,uY]
variable (P:Program)(ok:Nat->Bool)(n:Nat)
def Ob(P:Program)(l:Nat)(args:U_)(K:Cont)(w:c_):Prop:=∃f tmps j body,(Instr.yield l args.toArray).run P w=.ok (.round l f tmps j body) w/\RoundIn Fence.wide 0 P l f tmps j body w λe w'=>∃v,e=.returned v/\K v w'
def Co(P:Program)(ok:Nat->Bool)(f:b_)(args:U_)(K:Cont)(w:c_):Prop:=Bb P ok f args K w\/∃l,f=.func (.yield l) #[] #[]/\Ob P l args K w
def wA(o:Oper)(ρ:Operand->b_)(K:Cont)(w:c_):Prop:=
 match o.op with
 |.call c=>match c.callee with
  |.value (.func _)=>Iv P ok o ρ K w
  |.value f=>Co P ok (ρ f) (c.args.toList.map ρ) K w
  |_=>Iv P ok o ρ K w
 |_=>Iv P ok o ρ K w
def OV(all:List Oper)(K:Env->c_->Prop):List Oper->Nat->List (Nat×Option Bool)->Env->c_->Prop
 |[],_,_,e,w=>K e w
 |o::I,i,kn,e,w=>
  bif JH o.dst kn all then False else
  match o.guard with
  |none=>wA P ok o (ev e) (λv w'=>OV all K I (i+1) kn (Cw n e o.dst v) w') w
  |some (j,J)=>match Hk kn j with
   |some (some b)=>bif Pc b J then wA P ok o (ev e) (λv w'=>OV all K I (i+1) kn (Cw n e o.dst v) w') w
     else OV all K I (i+1) ((i,none)::kn) (Cw n e o.dst undef) w
   |some none=>OV all K I (i+1) ((i,none)::kn) (Cw n e o.dst undef) w
   |none=>match Dl all j with
    |some d=>bif JH o.dst ((j,none)::kn) all then False else Af (e d)
      (bif J then wA P ok o (ev (JU n e d (.bool true))) (λv w'=>OV all K I (i+1) ((j,some true) :: kn) (Cw n (JU n e d (.bool true)) o.dst v) w') w
       else OV all K I (i+1) ((i,none) :: (j,some true) :: kn) (Cw n (JU n e d (.bool true)) o.dst undef) w)
      (bif J then OV all K I (i+1) ((i,none) :: (j,some false) :: kn) (Cw n (JU n e d (.bool false)) o.dst undef) w
       else wA P ok o (ev (JU n e d (.bool false))) (λv w'=>OV all K I (i+1) ((j,some false) :: kn) (Cw n (JU n e d (.bool false)) o.dst v) w') w)
    |none=>False
def Ik(C:c_->Prop)(x:b_)(K:b_->Prop):Prop:=∃a v,x=.pointer (some a)/\(∀w,C w->w.cell? a=some v)/\K v
def SN(C:c_->Prop)(k:Nat)(x:b_)(K:b_->Prop):Prop:=∃a vs,x=.pointer (some a)/\List.length vs=k/\(∀w,C w->∀j v,vs[j]?=some v->w.cell? (a.add j)=some v)/\K (.agg vs.toArray)
def Ru(P:Program)(C:c_->Prop)(g:Nat)(args:U_)(K:b_->Prop):Prop:=∃v,(∀w,C w->AD P g args (λv' w'=>v'=v/\C w') w)/\K v
def Lt(P:Program)(C:c_->Prop)(s:Sem b_)(K:b_->Prop):Prop:=∃v,(∀w,C w->s.run P w=.ok v w)/\K v
def Zw(P:Program)(C:c_->Prop)(g:Nat)(args:U_)(K:b_->Prop):Prop:=∃v,(∀w,C w->(callFunc g args.toArray).run P w=.ok (.value v) w)/\K v
def Mj(w:c_)(F:(c_->Prop)->Prop):Prop:=∃C:c_->Prop,C w.drew/\F C
def rU(C:c_->Prop)(o:Oper)(ρ:Operand->b_)(K:b_->Prop)(w:c_):Prop:=
 match o.op with
 |.load t x=>match Gj P t with | some (false,_)=>Ik C (ρ x) K | some (true,k)=>SN C k (ρ x) K | none=>False
 |.binOp op t x y _=>bif KD P op t y then TH P op t y (ρ x) (ρ y) K False
   else Lt P C (Di op t x y (ρ x) (ρ y)) K
 |.call c=>match c.callee with
  |.value (.func g)=>bif ok g then Ru P C g (c.args.toList.map ρ) K else Zw P C g (c.args.toList.map ρ) K
  |_=>bif Du P o then Iv P ok o ρ (λv _=>K v) w else False
 |.convert s d x=>Lt P C (convert s d (ρ x)) K
 |.slice t x lo hi mx=>Lt P C (Instr.sliceAt t (ρ x) (lo.map ρ) (hi.map ρ) (mx.map ρ)) K
 |_=>bif Du P o then Iv P ok o ρ (λv _=>K v) w else False
def Ou(C:c_->Prop)(all:List Oper)(K:Env->Prop)(w:c_):List Oper->Nat->List (Nat×Option Bool)->Env->Prop
 |[],_,_,e=>K e
 |o::I,i,kn,e=>
  bif JH o.dst kn all then False else
  match o.guard with
  |none=>rU P ok C o (ev e) (λv=>Ou C all K w I (i+1) kn (Cw n e o.dst v)) w
  |some (j,J)=>match Hk kn j with
   |some (some b)=>bif Pc b J then rU P ok C o (ev e) (λv=>Ou C all K w I (i+1) kn (Cw n e o.dst v)) w
     else Ou C all K w I (i+1) ((i,none)::kn) (Cw n e o.dst undef)
   |some none=>Ou C all K w I (i+1) ((i,none)::kn) (Cw n e o.dst undef)
   |none=>match Dl all j with
    |some d=>bif JH o.dst ((j,none)::kn) all then False else Af (e d)
      (bif J then rU P ok C o (ev (JU n e d (.bool true))) (λv=>Ou C all K w I (i+1) ((j,some true) :: kn) (Cw n (JU n e d (.bool true)) o.dst v)) w
       else Ou C all K w I (i+1) ((i,none) :: (j,some true) :: kn) (Cw n (JU n e d (.bool true)) o.dst undef))
      (bif J then Ou C all K w I (i+1) ((i,none) :: (j,some false) :: kn) (Cw n (JU n e d (.bool false)) o.dst undef)
       else rU P ok C o (ev (JU n e d (.bool false))) (λv=>Ou C all K w I (i+1) ((j,some false) :: kn) (Cw n (JU n e d (.bool false)) o.dst v)) w)
    |none=>False
def fw(o:Oper):Bool:=match o.op with|.defer _=>false|_=>true
def Qe:Code->Bool
 |.region _ ops Ec=>!Ec||ops.toList.all fw
 |.seq a b=>Qe a&&Qe b
 |.cond _ a b=>Qe a&&Qe b
 |.block _ a=>Qe a
 |.loop a=>Qe a
 |.skip=>true
 |.exit _=>true
 |.ret=>true
 |_=>false
def xR(id:Nat)(Q:EQ):EQ:=λex e w=>match ex with
 |.exit i=>bif Nat.beq i id then Q .normal e w else Q (.exit i) e w
 |.normal=>Q .normal e w | .ret=>Q .ret e w | .goto l=>Q (.goto l) e w | .panic c=>Q (.panic c) e w | .outgrown=>Q .outgrown e w
def gEx(Q:EQ):EQ:=λex e w=>match ex with
 |.goto _=>False
 |.normal=>Q .normal e w | .exit i=>Q (.exit i) e w | .ret=>Q .ret e w | .panic c=>Q (.panic c) e w | .outgrown=>Q .outgrown e w
def vT(N:Env->c_->Prop)(Q:EQ):EQ:=λex e w=>match ex with
 |.normal=>N e w
 |.exit i=>Q (.exit i) e w | .ret=>Q .ret e w | .goto l=>Q (.goto l) e w | .panic c=>Q (.panic c) e w | .outgrown=>Q .outgrown e w
def D:Code->Hp->EQ->Env->c_->Prop
 |.skip,_,Q,e,w=>Q .normal e w
 |.region _ ops Ec,j,Q,e,w=>match Ec with
  |false=>OV P ok n ops.toList (λe w=>Q .normal e w) ops.toList 0 [] e w
  |true=>match j with
   |.Ec=>bif Region.lexB .any ops then Mj w (λC=>Ou P ok n C ops.toList (λe'=>∀w':c_,C w'->Q .normal e' w') w ops.toList 0 [] e) else False
   |.dt BU AN Gs t=>bif kH n ops.toList BU AN Gs&&aK ops.toList.length BU AN t then DP BU AN w.drew λM St=>Dc P ok n ops.toList BU M St w.drew (λe' w'=>Q .normal e' w') t [] e w.drew else False
   |_=>False
 |.seq x y,j,Q,e,w=>match j with
  |.node _ _ a b=>D x a (vT (λe' w'=>D y b Q e' w') Q) e w
  |.cut L W a b=>bif MZ W x then Dm (λvs w'=>∀h:Env,D y b Q (xj L W vs h e) w') (λJ=>D x a (vT (λe' w'=>J (L.map e') w') Q) e w) else False
  |_=>False
 |.cond c x y,j,Q,e,w=>match j with
  |.node _ _ a b=>Af (ev e c) (D x a Q e w) (D y b Q e w)
  |_=>False
 |.block id x,j,Q,e,w=>D x j (xR id Q) e w
 |.loop x,j,Q,e,w=>match j with
  |.node L W a _=>bif MZ W x then GM (L.map e) (λvs I w'=>∀h:Env,D x a (vT (λe' N=>I (L.map e') N) Q) (xj L W vs h e) w') w else False
  |_=>False
 |.exit id,_,Q,e,w=>Q (.exit id) e w
 |.ret,_,Q,e,w=>Q .ret e w
 |.label _,_,Q,e,w=>Q .normal e w
 |.scope x,j,Q,e,w=>D x j (gEx Q) e w
 |_,_,_,_,_=>False
variable {P ok n}
def QD(n:Nat)(ds:Z')(c:Code)(e:Env)(Q:EQ):Exit->Act->c_->Prop:=λex a w=>∃e',Fr ds n e' a/\(∀j,¬Wr c j->e' j=e j)/\Q ex e' w
def JL(ds:Z')(n:Nat)(l:List Oper)(e:Env)(K:Env->c_->Prop):Exit->Act->c_->Prop:=λex a w=>ex=.normal/\∃e',Fr ds n e' a/\(∀j,(∀o∈l,o.dst≠some j)->e' j=e j)/\K e' w
theorem VD{ds:Z'}{l:List Oper}{o:Oper}{e:Env}{K:Env->c_->Prop}{ex:Exit}{a:Act}(h:JL ds n l (Cw n e o.dst v) K ex a w):JL ds n (o::l) e K ex a w:=by
 obtain⟨h0,J,h1,N,I⟩:=h;refine⟨h0,J,h1,λj O=>?_,I⟩;grind[KZ]
abbrev Wd(ro:Option Nat):Fence:={ Fence.wide with round:=ro }
theorem Mr{F:Fence}{m:Nat}{ops:Array Oper}{Q Q':Exit->Act->c_->Prop}(I:∀e a w,Q e a w->Q' e a w):∀(l:List Oper) (a:Act) (w:c_),wpListIn F m P ops Q l a w->wpListIn F m P ops Q' l a w:=by
 have X:LetsOut Q->LetsOut Q':=λ⟨a,w,h⟩=>⟨a,w,I _ _ _ h⟩;intro l;induction l with
 |nil=>intro a w h;exact I _ _ _ h
 |cons o r J=>
  intro a w h;unfold wpListIn at h ⊢;split;rename_i U;rw[Ix U] at h;unfold Oper.wpIn at h ⊢;refine⟨h.1,?_⟩;replace h:=h.2;generalize (o.semAt F.round a.eval).run P w=V at h ⊢;match V,h with
  |.ok (.value v) j,h=>exact J _ _ h
  |.ok .skip j,h=>exact J _ _ h
  |.ok (.defer d) j,h=>exact J _ _ h
  |.ok (.enter f args) j,h=>
   exact⟨h.1,CallsIn.mono h.2 B_⟩
  |.ok (.row row args) j,h=>exact⟨h.1,RowsIn.mono h.2 B_⟩
  |.ok (.round l f N assign O) j,h=>
   exact⟨h.1,RoundIn.mono h.2 B_⟩
  |.halt (.panic v) j,h=>exact I _ _ _ h
  grind
def cU{ro:Option Nat}{m:Nat}{K:Cont}{o:Oper}{a:Act}{next:Act->c_->Prop}{Q:Exit->Act->c_->Prop}{r:Result Next} (h:Gc w r K P)(j:∀v w',K v w'->next (a.put o.dst v) w'):o.uponIn (Wd ro) m P a next Q r:=by
 match r,h with
 |.ok (.value v) w',h=>exact j _ _ h
 |.ok .skip w',h=>exact j _ _ h
 |.ok (.enter f args) w',h=>
  obtain⟨rfl,h⟩:=h;exact⟨(λh=>by cases h),((by grind[Go.callsIn_wide,Go.Calls.mono]):CallsIn Fence.wide _ _ _ _ _ _)⟩
def WQ{o:Oper}{ρ:Operand->b_}{K:Cont}(h:Iv P ok o ρ K w):∀c,o.op≠.defer c:=by
 grind[Iv]
theorem jr(X:DU P ok){ro:Option Nat}{m:Nat}{K:Cont}{o:Oper}{a:Act}{e:Env}{next:Act->c_->Prop}{Q:Exit->Act->c_->Prop}(O:a.eval=ev e) (h:wA P ok o (ev e) K w)(hK:∀v w',K v w'->next (a.put o.dst v) w'):o.wpIn (Wd ro) m P a w next Q:=by
 have JW:Iv P ok o (ev e) K w->o.wpIn (Wd ro) m P a w next Q:=by
  refine λh=>⟨λ_ _=>trivial,?_⟩;rw[Oper.semAt_eq _ _ _ (WQ h),O];exact cU (Ui X I' I' h) hK
 obtain⟨J,op,j,DA,after,guard⟩:=o;cases op with
 |call c=>
  obtain⟨I,args,N⟩:=c;cases I with
  |value f=>
   have Y:Co P ok (ev e f) (args.toList.map (ev e)) K w->(Iv P ok ⟨J,.call ⟨.value f,args,N⟩,j,DA,after,guard⟩ (ev e) K w↔Bb P ok (ev e f) (args.toList.map (ev e)) K w)->Oper.wpIn (Wd ro) m P ⟨J,.call ⟨.value f,args,N⟩,j,DA,after,guard⟩ a w next Q:=by
    rintro(h|⟨l,hf,fn,U,Z,V,h1,h2⟩) a6;grind;refine⟨λ_ _=>trivial,?_⟩;rw[Oper.semAt_eq _ _ _ E_,O];have hr:(execOp (ev e) ⟨J,.call ⟨.value f,args,N⟩,j,DA,after,guard⟩).run P w=.ok (.round l fn U Z V) w:=by
     simp only[execOp,resolve,hf,Deferred.ofValue,pure_bind,invoke,IQ];grind
    rw[hr];have h3:=h2.2;refine⟨(λh=>by cases h),trivial,λc cs _=>?_⟩;obtain⟨en,a1,⟨v,rfl,hv⟩,hs⟩:=h3 c cs (room_wide _);exact⟨.returned v,a1,hK _ _ hv,hs⟩
   cases f with
   |func g=>exact JW h
   |tmp t=>exact Y h aCU
   |const v=>exact Y h aCU
   |global g=>exact Y h aCU
  |invoke r m=>exact JW h
  |builtin b=>exact JW h
 |_=>exact JW h
def ZM{ds:Z'}{ro:Option Nat}{m:Nat}(an:DU P ok){ops:Array Oper}{K:Env->c_->Prop}:∀(l:List Oper) (i:Nat) (kn:List (Nat×Option Bool)) (e:Env) (w:c_) (a:Act),ops.toList.drop i=l->HU ops.toList kn e->Fr ds n e a->OV P ok n ops.toList K l i kn e w->wpListIn (Wd ro) m P ops (JL ds n l e K) l a w:=by
 intro l;induction l with
 |nil=>
  exact λi kn e w a _ _ hf h=>⟨rfl,e,hf,I',h⟩
 |cons o I ih=>
  intro i kn e w a hl O hf h;have aa:Dl ops.toList i=o.dst:=by
   have:ops.toList[i]?=some o:=by
    have:=r9 (λl=>l[0]?) hl;simpa using this
   rw[Ei,this];rfl
  have ak:ops.toList.drop (i+1)=I:=by
   have:=r9 List.tail hl;simpa using this
  have a1:∀(v:b_) (a':Act) (w':c_),wpListIn (Wd ro) m P ops (JL ds n I (Cw n e o.dst v) K) I a' w'->wpListIn (Wd ro) m P ops (JL ds n (o::I) e K) I a' w':=
   (by grind[Mr,VD])
  simp only[OV] at h;cases U:JH o.dst kn ops.toList with
  |true=>grind
  |false=>
   simp only[U,aBO] at h;have UP:∀Q,(∀v,HU ops.toList Q (Cw n e o.dst v))->wA P ok o (ev e) (λv w'=>OV P ok n ops.toList K I (i+1) Q (Cw n e o.dst v) w') w->
     o.wpIn (Wd ro) m P a w (wpListIn (Wd ro) m P ops (JL ds n (o::I) e K) I) (JL ds n (o::I) e K):=by
    grind[jr,Fr.eval,Fr.put]
   have J:∀Q,HU ops.toList Q (Cw n e o.dst undef)->OV P ok n ops.toList K I (i+1) ((i,none)::Q) (Cw n e o.dst undef) w->
     wpListIn (Wd ro) m P ops (JL ds n (o::I) e K) I (a.put o.dst undef) w:=by
    refine λQ hk al=>a1 undef _ _ (ih (i+1) _ _ w _ ak (hk.cons ?_) (hf.put o.dst undef) al);unfold yv;rw[aa];cases hd:o.dst with
    |none=>rfl
    |some d=>
     have:=(hf.put o.dst undef).get d;rw[hd] at this;show bv (Cw n e (some d) undef d)=none;rw[<-this];by_cases a7:d<a.tmps.size;simp[Act.put,a7];rfl;simp[Act.put,a7];rfl
   have hy:=λj=>NA (n:=n) hf (ops:=ops) (j:=j);unfold wpListIn;cases hg:o.guard with
   |none=>
    simp only[hg] at h;rw[Ix (by simp[Region.wanted,hg])];exact(UP kn (O.put U) h)
   |some g=>
    obtain⟨j,N⟩:=g;simp only[hg] at h;have hw:Region.wanted o (yielded ops a.tmps)=(yv ops.toList e j==some N):=by simp only[Region.wanted,hg,hy]
    rw[hw];cases a6:Hk kn j with
    |some b=>
     rw[O j b a6];simp only[a6] at h;cases b with
     |none=>
      rw[By E_];exact⟨λ_ _=>trivial,J kn (O.put U _) h⟩
     |some b=>
      simp only[Rf] at h;cases V:(b==N) with
      |true=>
       simp only[V,aBP] at h;rw[Ix (by simpa using V)];exact(UP kn (O.put U) h)
      |false=>
       simp only[V,aBO] at h;rw[By (by simpa using V)];exact⟨λ_ _=>trivial,J kn (O.put U _) h⟩
    |none=>
     simp only[a6] at h;cases hd:Dl ops.toList j with
     |none=>grind
     |some d=>
      simp only[hd] at h;cases Z:JH o.dst ((j,none)::kn) ops.toList with
      |true=>grind
      |false=>
       simp only[Z,aBO] at h;have a8:yv ops.toList e j=bv (e d):=by simp[yv,hd]
       have X:∀b,bv (e d)=b->∀v,HU ops.toList ((j,b)::kn) (Cw n e o.dst v):=λb hb v=>
        (O.cons (a8.trans hb)).put (d:=o.dst) (by
         simp only [JH] at Z ⊢;grind) v
       rw[a8];rcases KV h with⟨Y,hb⟩|⟨Y,hb⟩;rw[Jo Y] at hb;rw[Y];cases N with
       |true=>
        rw[Ix (by rfl)];exact(UP _ (X _ (by rw[Y];rfl)) hb)
       |false=>
        rw[By (by simp[bv])];exact⟨λ_ _=>trivial,J _ (X _ (by rw[Y];rfl) _) hb⟩
       rw[Jo Y] at hb;rw[Y];cases N with
       |true=>
        rw[By (by simp[bv])];exact⟨λ_ _=>trivial,J _ (X _ (by rw[Y];rfl) _) hb⟩
       |false=>
        rw[Ix (by rfl)];exact(UP _ (X _ (by rw[Y];rfl)) hb)
theorem xQ{C:c_->Prop}{r:Result Next}(_:C w)(h:Gc w r (λv' j=>v'=v/\C j/\(j=w\/∃f args J,r=.ok (.enter f args) J)) P):Oper.quietUpon P C w v r:=by
 match r,h with
 |.ok (.value v') j,h=>
  obtain⟨h1,_,I|⟨f,a,J,I⟩⟩:=h;exact⟨I,h1⟩;grind
 |.ok .skip j,h=>
  obtain⟨h1,_,I|⟨f,a,J,I⟩⟩:=h;exact⟨I,h1.symm⟩;grind
 |.ok (.enter f args) j,h=>exact⟨h.1,aBu h.2 B_⟩
theorem X0{r:Result Next}{K I:Cont}(h:Gc w r K P)(hk:∀v w',K v w'->I v w'):Gc w r I P:=by
 match r,h with
 |.ok (.value J) j,h=>exact hk _ _ h
 |.ok .skip j,h=>exact hk _ _ h
 |.ok (.enter f args) j,h=>exact⟨h.1,aBu h.2 B_⟩
theorem bK{ds:Z'}(V:DU P ok){C:c_->Prop}{o:Oper}{a:Act}{e:Env}{K:b_->Prop}{next:Act->Prop}(hf:Fr ds n e a) (h:rU P ok C o (ev e) K w)(Z:∀v,K v->next (a.put o.dst v)):o.quiet P a C next:=by
 have U:=hf.eval;have conv:∀v,(∀I,C I->Iv P ok o (ev e) (λv' a1=>v'=v/\a1=I) I)->K v->o.quiet P a C next:=by
  refine λv hv hk=>⟨v,λI j=>?_,Z v hk⟩;have:=Ui V I' I' (hv I j);unfold Oper.quietAt;grind[xQ,X0]
 have a6:Du P o=true->Iv P ok o (ev e) (λv _=>K v) w->o.quiet P a C next:=by
  grind[Vy]
 have X:(bif Du P o then Iv P ok o (ev e) (λv _=>K v) w else False)->o.quiet P a C next:=by
  grind
 obtain⟨Y,op,Q,DA,after,guard⟩:=o;cases op with
 |load t x=>
  simp only[rU] at h;split at h;rename_i k ha;obtain⟨p,v,h1,J,N⟩:=h;refine conv v (λI j=>?_) N
  simp only[Iv,ha];exact⟨p,v,h1,J I j,rfl,rfl⟩;rename_i k ha;obtain⟨p,vs,h1,hl,J,N⟩:=h;refine conv _ (λI j=>?_) N
  simp only[Iv,ha];exact⟨p,vs,h1,hl,J I j,rfl,rfl⟩;grind
 |binOp op t x y yt=>
  simp only[rU] at h;cases hp:KD P op t y with
  |true=>
   rw[hp] at h;obtain⟨v,h1,J⟩:=JD hp h;exact conv v (λI _=>J _ _ ⟨rfl,rfl⟩) h1
  |false=>
   rw[hp] at h;obtain⟨v,h1,J⟩:=h;refine⟨v,λI j=>?_,Z v J⟩;unfold Oper.quietAt;rw[U];have:(execOp (ev e) ⟨Y,.binOp op t x y yt,Q,DA,after,guard⟩).run P I=.ok (.value v) I:=by
    have N:=h1 I j;simp only[Di] at N;simp only[execOp];rw[aR,N];rfl
   rw[this];exact⟨rfl,rfl⟩
 |call c=>
  obtain⟨O,args,a7⟩:=c;simp only[rU] at h;cases O with
  |value f=>
   cases f with
   |func g=>
    simp only at h;have N:(execOp (ev e) ⟨Y,.call ⟨.value (.func g),args,a7⟩,Q,DA,after,guard⟩)=callFunc g (args.toList.map (ev e)).toArray:=by
     simp only[execOp,resolve,Deferred.ofValue,ev,pure_bind,invoke,IQ];simp
    cases hg:ok g with
    |false=>
     rw[hg] at h;obtain⟨v,h1,J⟩:=h;refine⟨v,λI j=>?_,Z v J⟩;unfold Oper.quietAt;rw[U,N,h1 I j];exact⟨rfl,rfl⟩
    |true=>
     rw[hg] at h;obtain⟨v,h1,J⟩:=h;refine⟨v,λI j=>?_,Z v J⟩;unfold Oper.quietAt;rw[U,N,V g hg];exact⟨rfl,aBu (h1 I j) B_⟩
   |_=>grind
  |_=>grind
 |convert s d x=>
  obtain⟨v,h1,J⟩:=h;exact conv v (λI j=>⟨v,I,h1 I j,rfl,rfl⟩) J
 |slice t x lo hi mx=>
  obtain⟨v,h1,J⟩:=h;exact conv v (λI j=>⟨v,I,h1 I j,rfl,rfl⟩) J
 |_=>exact X h
def Nl{C:c_->Prop}{ops:Array Oper}{Q Q':Act->Prop}(j:∀a,Q a->Q' a):∀(l:List Oper) (a:Act),wpQuiet P ops C Q l a->wpQuiet P ops C Q' l a:=by
 intro l;induction l with
 |nil=>intro a h;exact j _ h
 |cons o r I=>
  intro a h;unfold wpQuiet at h ⊢;grind[Go.Oper.quiet_mono]
def Lj(ds:Z')(n:Nat)(l:List Oper)(e:Env)(K:Env->Prop):Act->Prop:=λI=>∃e',Fr ds n e' I/\(∀j,(∀o∈l,o.dst≠some j)->e' j=e j)/\K e'
def Yb{ds:Z'}(ax:DU P ok){C:c_->Prop}{ops:Array Oper}{K:Env->Prop}:∀(l:List Oper) (i:Nat) (kn:List (Nat×Option Bool)) (e:Env) (a:Act),ops.toList.drop i=l->HU ops.toList kn e->Fr ds n e a->Ou P ok n C ops.toList K w l i kn e->wpQuiet P ops C (Lj ds n l e K) l a:=by
 intro l;induction l with
 |nil=>
  exact λi kn e a _ _ Z h=>⟨e,Z,I',h⟩
 |cons o I ih=>
  intro i kn e a hl O Z h;have aa:Dl ops.toList i=o.dst:=by
   have:ops.toList[i]?=some o:=by
    have:=r9 (λl=>l[0]?) hl;simpa using this
   rw[Ei,this];rfl
  have ak:ops.toList.drop (i+1)=I:=by
   have:=r9 List.tail hl;simpa using this
  have U:∀(v:b_) (a':Act),wpQuiet P ops C (Lj ds n I (Cw n e o.dst v) K) I a'->wpQuiet P ops C (Lj ds n (o::I) e K) I a':=
   λv a' hh=>Nl (λa ⟨e',h1,h2,h3⟩=>⟨e',h1,λj hj=>by
    rw [h2 j (λo' al=>hj o' (by simp [al]))];exact KZ (hj o E_),h3⟩) I a' hh
  simp only[Ou] at h;cases V:JH o.dst kn ops.toList with
  |true=>grind
  |false=>
   simp only[V,aBO] at h;have UP:∀N,(∀v,HU ops.toList N (Cw n e o.dst v))->rU P ok C o (ev e) (λv=>Ou P ok n C ops.toList K w I (i+1) N (Cw n e o.dst v)) w->
     o.quiet P a C (wpQuiet P ops C (Lj ds n (o::I) e K) I):=by
    grind[bK,Fr.put]
   have an:∀N,HU ops.toList N (Cw n e o.dst undef)->Ou P ok n C ops.toList K w I (i+1) ((i,none)::N) (Cw n e o.dst undef)->
     wpQuiet P ops C (Lj ds n (o::I) e K) I (a.put o.dst undef):=by
    refine λN hk av=>U undef _ (ih (i+1) _ _ _ ak (hk.cons ?_) (Z.put o.dst undef) av);unfold yv;rw[aa];cases hd:o.dst with
    |none=>rfl
    |some d=>
     have:=(Z.put o.dst undef).get d;rw[hd] at this;show bv (Cw n e (some d) undef d)=none;rw[<-this];by_cases a1:d<a.tmps.size;simp[Act.put,a1];rfl;simp[Act.put,a1];rfl
   have hy:=λj=>NA (n:=n) Z (ops:=ops) (j:=j);unfold wpQuiet;cases hg:o.guard with
   |none=>
    simp only[hg] at h;rw[Ix (by simp[Region.wanted,hg])];exact UP kn (O.put V) h
   |some g=>
    obtain⟨j,J⟩:=g;simp only[hg] at h;have hw:Region.wanted o (yielded ops a.tmps)=(yv ops.toList e j==some J):=by simp only[Region.wanted,hg,hy]
    rw[hw];cases X:Hk kn j with
    |some b=>
     rw[O j b X];simp only[X] at h;cases b with
     |none=>
      grind[HU.put]
     |some b=>
      simp only[Rf] at h;cases a6:(b==J) with
      |true=>
       simp only[a6,aBP] at h;rw[Ix (by simpa using a6)];exact UP kn (O.put V) h
      |false=>
       grind[HU.put]
    |none=>
     simp only[X] at h;cases hd:Dl ops.toList j with
     |none=>grind
     |some d=>
      simp only[hd] at h;cases Q:JH o.dst ((j,none)::kn) ops.toList with
      |true=>grind
      |false=>
       simp only[Q,aBO] at h;have a7:yv ops.toList e j=bv (e d):=by simp[yv,hd]
       have a8:∀b,bv (e d)=b->∀v,HU ops.toList ((j,b)::kn) (Cw n e o.dst v):=λb hb v=>
        (O.cons (a7.trans hb)).put (d:=o.dst) (by
         simp only [JH] at Q ⊢;grind) v
       rw[a7];rcases KV h with⟨Y,hb⟩|⟨Y,hb⟩;rw[Jo Y] at hb;rw[Y];cases J with
       |true=>
        rw[Ix (by rfl)];exact UP _ (a8 _ (by rw[Y];rfl)) hb
       |false=>
        grind[bv]
       rw[Jo Y] at hb;rw[Y];cases J with
       |true=>
        grind[bv]
       |false=>
        rw[Ix (by rfl)];exact UP _ (a8 _ (by rw[Y];rfl)) hb
def kK{ro:Option Nat}{m:Nat}{ops:Array Oper}{Q:Exit->Act->c_->Prop}(V:¬LetsOut Q)(O:ro=none\/ops.toList.all fw=true):∀(l:X_) (a:Act) (w:c_),wpOps P ops Q l a w->wpOpsIn (Wd ro) m P ops Q l a w:=by
 intro l;induction l with
 |nil=>intro a w h;exact h
 |cons i U j=>
  intro a w h;simp only[wpOps] at h;simp only[wpOpsIn];cases X:ops[i]? with
  |none=>grind
  |some o=>
   simp only[X] at h ⊢;split;rename_i N;rw[Ix N] at h;replace h:=h.resolve_right λh=>V h.2;refine⟨λ_ _=>trivial,?_⟩;have Y:o.semAt ro a.eval=execOp a.eval o:=by
    rcases O with rfl|O;rfl;grind[Go.Oper.semAt_eq,fw]
   rw[show(Wd ro).round=ro from rfl,Y];unfold Oper.wp at h;generalize (execOp a.eval o).run P w=r at h ⊢;match r,h with
   |.ok (.value v) J,h=>exact j _ _ h
   |.ok .skip J,h=>exact j _ _ h
   |.ok (.defer d) J,h=>exact j _ _ h
   |.ok (.enter f args) J,h=>
    refine⟨(λh=>by cases h),(aDd.2 (aBu h λe I hh=>?_):CallsIn Fence.wide _ _ _ _ _ _)⟩;grind
   |.ok (.row row args) J,h=>
    refine⟨(λh=>by cases h),?_⟩;intro c cs _;obtain⟨v,I,h1,Z⟩:=h c cs;exact⟨v,I,j _ _ h1,(StepsIn.of_steps Z).mono λm _=>fenced_wide P m⟩
   |.halt (.panic v) J,h=>exact h
   rename_i N;rw[By N] at h;exact⟨λ_ _=>trivial,j _ _ h⟩
def Vv{ro:Option Nat}{m:Nat}{id:Nat}{ops:Array Oper}{Q:Exit->Act->c_->Prop}{a:Act}(hm:P.follows .mixedOrders=true)(j:¬LetsOut Q)(I:ro=none\/ops.toList.all fw=true)
 (h:wpAny P .any ops Q ops.size (Array.replicate ops.size false) a { w with drawn:=w.drawn+1 }):(Code.region id ops true).wpIn (Wd ro) m P Q a w:=
 wpIn_region_draw λt=>kK j I _ _ _ (by
  simp only [Region.schedule,hm,Bool.true_or,aAh];exact wpAny_sound ops.size t _ a _ h)
def WG{ds:Z'}{all:List Oper}{e0:Env}{K:Env->c_->Prop}:¬LetsOut (Lu ds all n e0 K):=by
 rintro⟨a,w,h,_⟩;cases h
def Xu{ds:Z'}{L:X_}{e:Env}{a:Act}(j:Fr ds n e a):L.map (λt=>a.tmps.getD t undef)=L.map e:=aBk λt _=>j.get t
def OA{ds:Z'}{ro:Option Nat}{m:Nat}(ax:DU P ok)(hm:P.follows .mixedOrders=true):∀(c:Code) (Y:Hp) (Q:EQ) (e:Env) (w:c_) (a:Act),ro=none\/Qe c=true->Fr ds n e a->D P ok n c Y Q e w->c.wpIn (Wd ro) m P (QD n ds c e Q) a w:=by
 intro c;induction c with
 |skip=>intro Y Q e w a J V h;exact wpIn_skip ⟨e,V,I',h⟩
 |exit id=>intro Y Q e w a J V h;exact wpIn_exit ⟨e,V,I',h⟩
 |ret=>intro Y Q e w a J V h;exact wpIn_ret ⟨e,V,I',h⟩
 |label l=>intro Y Q e w a J V h;exact wpIn_label ⟨e,V,I',h⟩
 |goto l=>intro Y Q e w a J V h;exact h.elim
 |refuse y=>intro Y Q e w a J V h;exact h.elim
 |scope x ih=>
  intro Y Q e w a J V h;obtain rfl:ro=none:=J.resolve_right (by simp[Qe]);refine(wpIn_wide (n:=m)).2 (wp_scope_straight (wp_mono ((wpIn_wide (n:=m)).1 (ih Y (gEx Q) e w a (.inl rfl) V h)) ?_));rintro ex Z X ⟨N,h1,U,O⟩;cases ex with
  |goto l=>exact O.elim
  |normal=>exact⟨N,h1,U,O⟩
  |exit i=>exact⟨N,h1,U,O⟩
  |ret=>exact⟨N,h1,U,O⟩
  |panic c=>exact⟨N,h1,U,O⟩
  |outgrown=>exact⟨N,h1,U,O⟩
 |rangeFunc f ps x y bb bk=>intro Y Q e w a J V h;exact h.elim
 |region id ops Ec=>
  intro Y Q e w a J V h;simp only[D] at h;cases Ec with
  |false=>
   refine wpIn_region_list (Mr ?_ _ _ _ (ZM ax ops.toList 0 [] e w a rfl (λj b hb=>by simp[Hk] at hb) V h));rintro ex Z X ⟨rfl,N,h1,U,O⟩;exact⟨N,h1,λj hj=>U j (λo ho hd=>hj ⟨o,ho,hd⟩),O⟩
  |true=>
   have hD:ro=none\/ops.toList.all fw=true:=by grind[Qe]
   cases Y with
   |Ec=>
    cases hB:Region.lexB .any ops with
    |false=>grind
    |true=>
     rw [hB] at h;obtain ⟨C,hC,h⟩:=h;simp only [Region.lexB,aE] at hB;have:=Yb ax ops.toList 0 [] e a rfl (λj b hb=>by simp [Hk] at hb) V h;refine aBE (Q:=λex Z X=>ex=.normal/\QD n ds (.region id ops true) e Q .normal Z X) (Vv hm (λ⟨_,_,h,_⟩=>by cases h) hD ?_) B_;refine wpAny_of_quiet (Q:=λZ=>∀ X,C X->QD n ds (.region id ops true) e Q .normal Z X) B_ _ _ _ _ hC ?_;have h9:=wpAnyQ_lex (C:=C) (md:=.any) hB.1 ops.toList 0 (Array.replicate ops.size false) a E_ (by simpa using hB.2) (Nl (Q':=λZ=>∀ X,C X->QD n ds (.region id ops true) e Q .normal Z X) (by
      rintro Z ⟨N,h1,U,O⟩ X a8;exact ⟨N,h1,λj hj=>U j (λo ho hd=>hj ⟨o,ho,hd⟩),O X a8⟩) _ _ this)
     simpa using h9
   |dt BU AN Gs t=>
    simp only at h;cases hB:(kH n ops.toList BU AN Gs&&aK ops.toList.length BU AN t) with
    |false=>grind
    |true=>
     rw[hB] at h;simp only[aE] at hB;apply aBE (Vv hm WG hD (XF (K:=λe w=>Q .normal e w) ax hm V hB.1 hB.2 h));rintro ex Z X ⟨rfl,N,h1,U,O⟩;exact⟨N,h1,λj hj=>U j (λo ho hd=>hj ⟨o,ho,hd⟩),O⟩
   |_=>exact h.elim
 |cond c x y ak al=>
  intro Y Q e w a J V h;cases Y with
  |nil=>exact h.elim
  |cut=>exact h.elim
  |Ec=>exact h.elim
  |dt=>exact h.elim
  |node L W a6 a7=>
   have b0:a.eval c=ev e c:=by rw[V.eval]
   rcases KV h with⟨hv,hb⟩|⟨hv,hb⟩;refine wpIn_cond_true (b0.trans hv) (aBE (ak a6 Q e w a (J.imp id λh=>by simp only[Qe,aE] at h;exact h.1) V hb) ?_);rintro ex Z X ⟨N,h1,U,O⟩;exact⟨N,h1,λj hj=>U j (λhw=>hj (.inl hw)),O⟩;refine wpIn_cond_false (b0.trans hv) (aBE (al a7 Q e w a (J.imp id λh=>by simp only[Qe,aE] at h;exact h.2) V hb) ?_);rintro ex Z X ⟨N,h1,U,O⟩;exact⟨N,h1,λj hj=>U j (λhw=>hj (.inr hw)),O⟩
 |block id x ih=>
  refine λY Q e w a J V h=>wpIn_block (aBE (ih Y (xR id Q) e w a J V h) ?_);rintro ex Z X ⟨N,h1,U,O⟩;cases ex with
  |exit i=>
   simp only[xR] at O;simp only[Exit.inBlock];cases hb:Nat.beq i id with
   |true=>rw[hb] at O;rw[Ix (sY hb)];exact⟨N,h1,U,O⟩
   |false=>
    rw[hb] at O;rw[By (by intro e1;subst e1;simp at hb)];exact⟨N,h1,U,O⟩
  |_=>exact⟨N,h1,U,O⟩
 |seq x y ak al=>
  intro Y Q e w a J V h;have av:∀{e1 e2:Env},(∀j,¬Wr x j->e1 j=e j)->(∀j,¬Wr y j->e2 j=e1 j)->∀j,¬Wr (.seq x y) j->e2 j=e j:=λh1 U j hj=>
   (U j λhw=>hj (.inr hw)).trans (h1 j λhw=>hj (.inl hw))
  have aa:∀{e1:Env},(∀j,¬Wr x j->e1 j=e j)->∀j,¬Wr (.seq x y) j->e1 j=e j:=λh1 j hj=>h1 j λhw=>hj (.inl hw);cases Y with
  |nil=>exact h.elim
  |Ec=>exact h.elim
  |dt=>exact h.elim
  |node L W a6 a7=>
   refine wpIn_seq (aBE (ak a6 _ e w a (by grind[Qe]) V h) ?_);rintro ex Z X ⟨N,h1,U,O⟩;cases ex with
   |normal=>
    apply aBE (al a7 Q N X Z (by grind[Qe]) h1 O);rintro ex b7 b8 ⟨ay,h4,h5,h6⟩;exact⟨ay,h4,av U h5,h6⟩
   |_=>exact⟨N,h1,aa U,O⟩
  |cut L W a6 a7=>
   simp only[D] at h;cases hw:MZ W x with
   |false=>grind
   |true=>
    simp only[hw,aBP] at h;obtain⟨I,hI,hG⟩:=h;refine wpIn_seq (aBE (ak a6 _ e w a (J.imp id λh=>by simp only[Qe,aE] at h;exact h.1) V hG) ?_);rintro ex Z X ⟨N,h1,U,O⟩;cases ex with
    |normal=>
     have h4:=hI _ _ O N;rw[Wc (λj hj=>U j λa8=>by rw[FP hw j a8] at hj;cases hj)] at h4;apply aBE (al a7 Q N X Z (J.imp id λh=>by simp only[Qe,aE] at h;exact h.2) h1 h4);rintro ex b7 b8 ⟨ay,h5,h6,h7⟩;exact⟨ay,h5,av U h6,h7⟩
    |_=>exact⟨N,h1,aa U,O⟩
 |loop x ih=>
  intro Y Q e w a J V h;cases Y with
  |nil=>exact h.elim
  |cut=>exact h.elim
  |Ec=>exact h.elim
  |dt=>exact h.elim
  |node L W a6 a7=>
   simp only[D] at h;cases hw:MZ W x with
   |false=>grind
   |true=>
    simp only[hw,aBP] at h;obtain⟨I,μ,h0,hR⟩:=h;refine wpIn_loop (λZ X=>∃N,Fr ds n N Z/\(∀j,¬Wr x j->N j=e j)/\I (L.map N) X) (λZ X=>μ (L.map λt=>Z.tmps.getD t undef) X) B_ ?_;rintro a1 w1 ⟨e1,b6,b9,ba⟩;have h4:=hR _ _ ba e1;rw[Wc (λj hj=>b9 j λa8=>by rw[FP hw j a8] at hj;cases hj)] at h4;apply aBE (ih a6 _ e1 w1 a1 J b6 h4);rintro ex a2 w2 ⟨e2,h5,h6,h7⟩;have h8:∀j,¬Wr x j->e2 j=e j:=B_;cases ex with
    |normal=>
     refine⟨⟨e2,h5,h8,h7.1⟩,?_⟩;rw[Xu h5,Xu b6];exact h7.2
    |_=>exact⟨e2,h5,h8,h7⟩
def P3(P:Program):List ResultVar->Env->c_->(U_->Prop)->Prop
 |[],_,_,K=>K []
 |.tmp t::r,e,w,K=>P3 P r e w λvs=>K (e t::vs)
 |.cell a t::r,e,w,K=>match Gj P t with
  |some (false,_)=>BR (e a) (λv w'=>P3 P r e w' λvs=>K (v::vs)) w
  |some (true,k)=>DJ k (e a) (λv w'=>P3 P r e w' λvs=>K (v::vs)) w
  |none=>False
def Ye:U_->b_
 |[v]=>v
 |vs=>.tuple vs.toArray
def Kg(P:Program)(rs:List ResultVar)(K:Cont):EQ:=λex e w=>match ex with
 |.normal=>P3 P rs e w λvs=>K (Ye vs) w
 |.ret=>P3 P rs e w λvs=>K (Ye vs) w
 |_=>False
def Br(f:Func):Code:=match f.body with|some c=>c|none=>.skip
def jx{ds:Z'}{e:Env}{a:Act}(N:Fr ds n e a)(f:ResultVar->Sem b_)(Q:∀t,f (.tmp t)=pure (a.tmps.getD t undef))(U:∀x t,f (.cell x t)=(do loadVar t (<- asAddr (a.tmps.getD x undef)))):∀(rs:List ResultVar) (K:U_->Prop),P3 P rs e w K->∃vs,(rs.mapM f:Sem U_).run P w=.ok vs w/\K vs:=by
 intro rs;induction rs with
 |nil=>intro K h;exact⟨[],E_,h⟩
 |cons r rs O=>
  intro K h;cases r with
  |tmp t=>
   obtain⟨vs,h1,I⟩:=O _ h;grind[Sem.run_bind,Sem.run_pure,Result.andThen_ok,Fr.get]
  |cell x t=>
   simp only[P3] at h;have key:∀v,(loadVar t ·:Addr->Sem b_)=(loadVar t ·)->P3 P rs e w (λvs=>K (v::vs))->(do loadVar t (<- asAddr (a.tmps.getD x undef)):Sem b_).run P w=.ok v w->
     ∃vs,((ResultVar.cell x t::rs).mapM f:Sem U_).run P w=.ok vs w/\K vs:=by
    intro v _ J V;obtain⟨vs,h1,I⟩:=O _ J;grind[Sem.run_bind,Result.andThen_ok,Sem.run_pure]
   split at h;rename_i k ha;obtain⟨p,v,h1,I,J⟩:=h;apply key v rfl J;have j:a.tmps.getD x undef=.pointer (some p):=(N.get x).trans h1;rw[aR,j];simp only[asAddr,aAY,Ty];simp[loadVar,(GG ha w).1,I]
   .rename_i k ha;obtain⟨p,vs,h1,hl,I,J⟩:=h;apply key _ rfl J;have j:a.tmps.getD x undef=.pointer (some p):=(N.get x).trans h1;rw[aR,j];simp only[asAddr,aAY,Ty];simp only[loadVar,aR,(GG ha w).1,(GG ha w).2,Ty,aAh];rw[<-hl,aCO (P:=P) (w:=w) p vs I];rfl
   grind
def JM{ds:Z'}{fn:Func}{e:Env}{a:Act}{K:Cont}(j:Fr ds n e a)(h:P3 P fn.results.toList e w λvs=>K (Ye vs) w) : ∃v,(results fn a.tmps).run P w=.ok v w/\K v w:=by
 obtain⟨vs,h1,I⟩:=jx j (λx=>match x with|.tmp t=>pure (a.tmps.getD t undef)|.cell y t=>do loadVar t (<- asAddr (a.tmps.getD y undef))) I' I' _ _ h;refine⟨_,?_,I⟩;unfold results;rw[aR,aCz,Sem.run_map];erw [h1];simp only[Ty,aAY];congr 1;match vs with
 |[]=>rfl
 |[v]=>rfl
 |v::u::r=>simp[Ye]
def Zf{m:Nat}(I:args.length<=m):Fr [] m (Bf args) { tmps:=args.toArray++Array.replicate (m-args.toArray.size) undef,defers:=[] }:=by
 have j:∀(l:U_) (t:Nat),Bf l t=l.getD t undef:=by
  intro l;induction l with
  |nil=>
   intro t;induction t<;>grind[Bf]
  |cons v l J=>intro t;cases t<;>grind[Bf]
 refine⟨B_,λt=>?_,rfl⟩;rw[j];simp only[aAx,aDN,aAy,List.getElem?_toArray,aB8];grind
def iU{g:Nat}{fn:Func}{c:Code}{rs:List ResultVar}{K:Cont}{U:Hp}(j:DU P ok)(hm:P.follows .mixedOrders=true)(V:P.funcs[g]?=some fn) (hb:fn.body=some c)(X:fn.ntmps=n)(I:fn.results.toList=rs)(hl:Nat.ble args.length n=true)(h:D P ok n c U (Kg P rs K) (Bf args) w):AD P g args K w:=by
 apply calls_of_wp V hb;subst X;have J:=Zf (aAl hl);apply wp_mono ((wpIn_wide (n:=0)).1 (OA (ds:=[]) (ro:=none) (m:=0) j hm c U _ _ w _ (.inl rfl) J h));rintro ex Y Z ⟨e',h1,_,N⟩;subst I;cases ex with
 |normal=>
  obtain⟨v,O,Q⟩:=JM h1 N;exact⟨h1.defers,v,O,v,rfl,Q⟩
 |ret=>
  obtain⟨v,O,Q⟩:=JM h1 N;exact⟨h1.defers,v,O,v,rfl,Q⟩
 |_=>exact N.elim
attribute [irreducible] D
end
def wF:X_:=[2,3,4,5,6,7,8,9,10,11,12,13,14,15,16,17,18,19,20,21,22,23,24,25,26,27,28,29,30,31,32,33,34,35,36,37,38,39,40,41,42,43,44,45,46,47,48,49,50,51,52,53,54,55,56,57,58,59,60,61,62,63,64,65,66,67,68,69,70,71,72,73,74,75,76,77,78,79,80,81,82,83,84,85,86,87,88,89,90,91,92,93,94,95,96,97,98,99,100,101,102,103,104,105,106,107,108,109,110,111,112,113,114,115,116,117,118,119,120,121,122,123,124,125,126,127,128,129,130,131,132,133,134,135,136,137,138,139,140,141,142,143,144,145,146,147,148,149,150,151,152,153,154,155,156,157,158,159,160,161,162,163,164,165,166,167,168,169,170,171,172,173,174,175,176,177,178,179,180,181,182,183,184,185,186,187,188,189,190,191,192,193,194,195,196,197,198,199,200,201,202,203,204,205,206,207,208,209,211,212,213,214,215,217,218,219,220,221,222,223,224,225,226,227,228,229,230,231,232,233,234,235,236,237,238,239,240,241,242,243,244,245,246,247,248,249,250,251,252,253,254,255,256,257,258,259,260,261,262,263,264,265,266,267,268,269,270,271,272,273,274,275,276,277,278,279,280,281,282,283,284,285,286,287,288,289,290,291,292,293,294,295,296,297,298,299,300,301,302,303,305,306,307,308,309,310,311,312,313,314,315,316,317,318,319,320,321,322,323,324,325,326,327,328,329,330,331,332,333,334,336,337,338,339,340,341,342,343,344,345,346,347,348,349,350,351,352,353,354,355,356,357,358,359,360,361,362,363,364,365,366,367,368,369,370,371,372,373,374,375,376,377,378,379,380,381,382,383,384,385,423]
def okN:Nat->X_->Nat
 |a,[]=>a
 |a,i::r=>okN (Nat.lor a (Nat.shiftLeft 1 i)) r
def gK:∀(l:X_) (a j:Nat),(okN a l).testBit j=true->a.testBit j=true\/j∈l
 |[],_,_,h=>.inl h
 |i::r,a,j,h=>by
  rcases gK r _ j h with h|h
  .have e:(Nat.lor a (Nat.shiftLeft 1 i)).testBit j=(a.testBit j||(Nat.shiftLeft 1 i).testBit j):=Nat.testBit_or a _ j;have I:Nat.shiftLeft 1 i=2 ^ i:=Nat.one_shiftLeft i;rw[e,I,Nat.testBit_two_pow,aBT,ub] at h;rcases h with h|h
   .exact .inl h
   .exact .inr (by rw[h];exact aAE)
  .exact .inr (aAi _ h)
def EP(g:Nat):Bool:=Nat.beq (Nat.land (Nat.shiftRight 21661481985476474115241938660474934367848781905322037302542218697414253549563748062733152608609721530977446892650691835543420924 g) 1) 1
def qW{g:Nat}(h:EP g=true):g∈wF:=by
 have e:okN 0 wF=21661481985476474115241938660474934367848781905322037302542218697414253549563748062733152608609721530977446892650691835543420924:=by kernel_rfl
 have j:=sY h;have I:(okN 0 wF).testBit g=true:=by
  rw[e,Nat.testBit_eq_decide_div_mod_eq,ub,<-Nat.shiftRight_eq_div_pow,<-Nat.and_one_is_mod];exact j
 rcases gK wF 0 g I with h|h
 .rw[Nat.zero_testBit] at h;cases h
 .exact h
def mixed:prog.follows .mixedOrders=true:=by kernel_rfl
def xB:∀g∈wF,∀args w,(callFunc g args).run prog w=.ok (.enter g args) w:=by
 unfold wF;simp only[List.forall_mem_cons];exact⟨call2,call3,call4,call5,call6,call7,call8,call9,call10,call11,call12,call13,call14,call15,call16,call17,call18,call19,call20,call21,call22,call23,call24,call25,call26,call27,call28,call29,call30,call31,call32,call33,call34,call35,call36,call37,call38,call39,call40,call41,call42,call43,call44,call45,call46,call47,call48,call49,call50,call51,call52,call53,call54,call55,call56,call57,call58,call59,call60,call61,call62,call63,call64,call65,call66,call67,call68,call69,call70,call71,call72,call73,call74,call75,call76,call77,call78,call79,call80,call81,call82,call83,call84,call85,call86,call87,call88,call89,call90,call91,call92,call93,call94,call95,call96,call97,call98,call99,call100,call101,call102,call103,call104,call105,call106,call107,call108,call109,call110,call111,call112,call113,call114,call115,call116,call117,call118,call119,call120,call121,call122,call123,call124,call125,call126,call127,call128,call129,call130,call131,call132,call133,call134,call135,call136,call137,call138,call139,call140,call141,call142,call143,call144,call145,call146,call147,call148,call149,call150,call151,call152,call153,call154,call155,call156,call157,call158,call159,call160,call161,call162,call163,call164,call165,call166,call167,call168,call169,call170,call171,call172,call173,call174,call175,call176,call177,call178,call179,call180,call181,call182,call183,call184,call185,call186,call187,call188,call189,call190,call191,call192,call193,call194,call195,call196,call197,call198,call199,call200,call201,call202,call203,call204,call205,call206,call207,call208,call209,call211,call212,call213,call214,call215,call217,call218,call219,call220,call221,call222,call223,call224,call225,call226,call227,call228,call229,call230,call231,call232,call233,call234,call235,call236,call237,call238,call239,call240,call241,call242,call243,call244,call245,call246,call247,call248,call249,call250,call251,call252,call253,call254,call255,call256,call257,call258,call259,call260,call261,call262,call263,call264,call265,call266,call267,call268,call269,call270,call271,call272,call273,call274,call275,call276,call277,call278,call279,call280,call281,call282,call283,call284,call285,call286,call287,call288,call289,call290,call291,call292,call293,call294,call295,call296,call297,call298,call299,call300,call301,call302,call303,call305,call306,call307,call308,call309,call310,call311,call312,call313,call314,call315,call316,call317,call318,call319,call320,call321,call322,call323,call324,call325,call326,call327,call328,call329,call330,call331,call332,call333,call334,call336,call337,call338,call339,call340,call341,call342,call343,call344,call345,call346,call347,call348,call349,call350,call351,call352,call353,call354,call355,call356,call357,call358,call359,call360,call361,call362,call363,call364,call365,call366,call367,call368,call369,call370,call371,call372,call373,call374,call375,call376,call377,call378,call379,call380,call381,call382,call383,call384,call385,call423,λg j=>nomatch j⟩
theorem Eo:DU prog EP:=by
 intro g j;exact xB g (qW j)
section
variable {P:Program}{ok:Nat->Bool}{K:Cont}{k:b_->Prop}{w:c_}
theorem HC(b:Bool)(A B:Prop):Af (.bool b) A B=if b=true then A else B:=by grind[Af]
def qE(p:Prop)[Decidable p](A B:Prop):Af (.bool (decide p)) A B=if p then A else B:=by
 grind[HC]
def nZ(b:Bool)(x y:b_):Mm (.bool b) x y k=k (if b=true then x else y):=by grind[Mm]
def AQ(q:IntKind)(a b:Int):Cl q (.int q a) (.int q b) k=k (.int q (q.wrap (a+b))):=propext ⟨λ⟨_,_,h1,j,h⟩=>B_,λh=>⟨_,_,rfl,rfl,h⟩⟩
theorem A6(q:IntKind)(a b:Int):EO q (.int q a) (.int q b) k=k (.int q (q.wrap (a-b))):=propext ⟨λ⟨_,_,h1,j,h⟩=>B_,λh=>⟨_,_,rfl,rfl,h⟩⟩
def ZK(q:IntKind)(a b:Int):bH q (.int q a) (.int q b) k=k (.int q (q.wrap (a*b))):=propext ⟨λ⟨_,_,h1,j,h⟩=>B_,λh=>⟨_,_,rfl,rfl,h⟩⟩
theorem DX(q:IntKind)(a b:Int):HZ q (.int q a) (.int q b) k=k (.bool (decide (a<b))):=propext ⟨λ⟨_,_,h1,j,h⟩=>B_,λh=>⟨_,_,rfl,rfl,h⟩⟩
theorem Py(q:IntKind)(a b:Int):fX q (.int q a) (.int q b) k=k (.bool (decide (a<=b))):=propext ⟨λ⟨_,_,h1,j,h⟩=>B_,λh=>⟨_,_,rfl,rfl,h⟩⟩
theorem Hj(q:IntKind)(a b:Int):Xq q (.int q a) (.int q b) k=k (.bool (decide (b<a))):=propext ⟨λ⟨_,_,h1,j,h⟩=>B_,λh=>⟨_,_,rfl,rfl,h⟩⟩
theorem JP(q:IntKind)(a b:Int):Xf q (.int q a) (.int q b) k=k (.bool (decide (b<=a))):=propext ⟨λ⟨_,_,h1,j,h⟩=>B_,λh=>⟨_,_,rfl,rfl,h⟩⟩
def CI(q:IntKind)(a b:Int):P2 q (.int q a) (.int q b) k=k (.bool (decide (a=b))):=propext ⟨λ⟨_,_,h1,j,h⟩=>B_,λh=>⟨_,_,rfl,rfl,h⟩⟩
theorem FQ(q:IntKind)(a b:Int):TB q (.int q a) (.int q b) k=k (.bool (!decide (a=b))):=propext ⟨λ⟨_,_,h1,j,h⟩=>B_,λh=>⟨_,_,rfl,rfl,h⟩⟩
def Hi(q:IntKind)(a b:Int):P6 q (.int q a) (.int q b) k=k (.int q (if b>a then b else a)):=propext ⟨λ⟨_,_,h1,j,h⟩=>B_,λh=>⟨_,_,rfl,rfl,h⟩⟩
def Hh(q:IntKind)(a b:Int):QB q (.int q a) (.int q b) k=k (.int q (if b<a then b else a)):=propext ⟨λ⟨_,_,h1,j,h⟩=>B_,λh=>⟨_,_,rfl,rfl,h⟩⟩
def uH(a b:Bool):cB (.bool a) (.bool b) k=k (.bool (a==b)):=propext ⟨λ⟨_,_,h1,j,h⟩=>B_,λh=>⟨_,_,rfl,rfl,h⟩⟩
def YF(a b:Bool):bV (.bool a) (.bool b) k=k (.bool (!(a==b))):=propext ⟨λ⟨_,_,h1,j,h⟩=>B_,λh=>⟨_,_,rfl,rfl,h⟩⟩
def vB(a b:ByteArray):bR (.string a) (.string b) k=k (.bool (decide (a=b))):=propext ⟨λ⟨_,_,h1,j,h⟩=>B_,λh=>⟨_,_,rfl,rfl,h⟩⟩
def uZ(a b:ByteArray):fI (.string a) (.string b) k=k (.bool (!decide (a=b))):=propext ⟨λ⟨_,_,h1,j,h⟩=>B_,λh=>⟨_,_,rfl,rfl,h⟩⟩
def aX(a:Option Addr)(n c:Nat)(k:Bool->Prop):NY (.slice a n c) k=k a.isNone:=propext ⟨λ⟨_,_,_,h1,h⟩=>B_,λh=>⟨_,_,_,rfl,h⟩⟩
def NX(a:Option Addr)(k:Bool->Prop):JI (.pointer a) k=k a.isNone:=propext ⟨λ⟨_,h1,h⟩=>B_,λh=>⟨_,rfl,h⟩⟩
def Aj(a:Bool):MU (.bool a) k=k (.bool (!a)):=propext ⟨λ⟨_,h1,h⟩=>B_,λh=>⟨_,rfl,h⟩⟩
def AO(a:Option Addr)(n c:Nat):Dz (.slice a n c) k=k (zIq n):=propext ⟨λ⟨_,_,_,h1,h⟩=>B_,λh=>⟨_,_,_,rfl,h⟩⟩
def QN(s:ByteArray):RT (.string s) k=k (zIq s.size):=propext ⟨λ⟨_,h1,h⟩=>B_,λh=>⟨_,rfl,h⟩⟩
def CA(a:Addr):Aw (.pointer (some a)) k=k (.pointer (some a)):=propext ⟨λ⟨_,h1,h⟩=>E,λh=>⟨_,rfl,h⟩⟩
theorem AE(off:Nat)(a:Addr):BX off (.pointer (some a)) k=k (.pointer (some (a.add off))):=propext ⟨λ⟨_,h1,h⟩=>B_,λh=>⟨_,rfl,h⟩⟩
def Bh(vs:U_):Bf vs 0=vs.headD undef:=rfl
def XC(vs:U_)(k:Nat):Bf vs (k+1)=Bf vs.tail k:=rfl
theorem Addr.add_add(a:Addr)(x y:Nat):(a.add x).add y=a.add (x+y):=by
 unfold Addr.add;grind
def AV{s:Nat}{a:Addr}{n c:Nat}{q:IntKind}{j:Nat}(h1:j<n)(h:k (.pointer (some (a.add (j*s))))):KY s (.slice (some a) n c) (.int q (j:Int)) k:=
 ⟨_,_,_,_,_,rfl,rfl,E,E,by simpa using h⟩
theorem AI{a:Addr}(hc:w.cell? a=some v)(h:K v w):BR (.pointer (some a)) K w:=⟨a,v,rfl,hc,h⟩
def AX{n:Nat}{a:Addr}(hl:vs.length=n)(hc:∀j v,vs[j]?=some v->w.cell? (a.add j)=some v)(h:K (.agg vs.toArray) w):DJ n (.pointer (some a)) K w:=⟨a,vs,rfl,hl,hc,h⟩
def BC{C:c_->Prop}{a:Addr}(hc:∀w,C w->w.cell? a=some v)(h:k v):Ik C (.pointer (some a)) k:=⟨a,v,rfl,hc,h⟩
def Ki{C:c_->Prop}{n:Nat}{a:Addr}(hl:vs.length=n)(hc:∀w,C w->∀j v,vs[j]?=some v->w.cell? (a.add j)=some v)(h:k (.agg vs.toArray)):SN C n (.pointer (some a)) k:=⟨a,vs,rfl,hl,hc,h⟩
theorem O6{a:Addr}{v u:b_}{K:c_->Prop}(h1:v.oneCell'=true)(j:v.cells=#[v])(hc:w.cell? a=some u)(I:w.frozen? a=false)(h:K (w.setCell a v)):Cc (.pointer (some a)) v K w:=⟨a,u,rfl,h1,j,hc,I,h⟩
def Bt{i:Nat}(j:vs[i]?=some v)(h:k v):Az i (.tuple vs.toArray) k:=⟨vs,v,rfl,j,h⟩
def AT{R:U_->c_->Prop}{G:(U_->c_->Prop)->Prop}(I:U_->c_->Prop)(h1:∀vs w,I vs w->R vs w)(j:G I):Dm R G:=⟨I,h1,j⟩
def Aa{j:U_}{F:U_->(U_->c_->Prop)->c_->Prop}(I:U_->c_->Prop)(μ:U_->c_->Nat)(h0:I j w)(h:∀vs w,I vs w->F vs (λJ w'=>I J w'/\μ J w'<μ vs w) w):GM j F w:=⟨I,μ,h0,h⟩
theorem AA{g:Nat}{j:Cont}(h:AD P g args K w)(hk:∀v w',K v w'->j v w'):AD P g args j w:=aBu h B_
theorem AY{s:Sem b_}(h1:s.run P w=.ok v w')(h:K v w'):runK P s K w:=⟨v,w',h1,h⟩
def YG{t:TypeId}(h:K (e_ w.heap.size) (w.alloc (.cells cs.toArray t))):Cv t cs K w:=h
theorem wrap64{x:Int}(h0:-9223372036854775808<=x)(h1:x<=9223372036854775807):IntKind.i64.wrap x=x:=by
 have j:(2:Int) ^ IntKind.i64.bits=18446744073709551616:=C0;have I:(2:Int) ^ (IntKind.i64.bits-1)=9223372036854775808:=C0;simp only[IntKind.wrap,j,I,IntKind.signed,aCf,ub];omega
def iX(w:c_)(t:TypeId):∀(vs done j:U_),j.length=vs.length->Fj (w.alloc (.cells (done++j).toArray t)) ⟨w.heap.size,0,none⟩ done.length vs=w.alloc (.cells (done++vs).toArray t):=by
 intro vs;induction vs with
 |nil=>intro done j hl;have:j=[]:=Of hl;subst this;rfl
 |cons v vs J=>
  intro done j hl;cases j with
  |nil=>grind
  |cons z j=>
   simp only[Fj];have h1:(w.alloc (.cells (done++z::j).toArray t)).setCell ((⟨w.heap.size,0,none⟩:Addr).add done.length) v=w.alloc (.cells ((done++[v])++j).toArray t):=by
    have I:(⟨w.heap.size,0,none⟩:Addr).add done.length=⟨w.heap.size,done.length,none⟩:=by unfold Addr.add;grind
    rw[I];simp only[World.setCell,World.alloc];congr 1;grind
   grind
def xL{t:TypeId}{K:c_->Prop}(hl:cs.length=vs.length)(h1:∀v∈vs,v.oneCell'=true)(h:K (w.alloc (.cells vs.toArray t))) : Bv vs.length (e_ w.heap.size) (.agg vs.toArray) K (w.alloc (.cells cs.toArray t)):=by
 refine⟨_,vs,rfl,rfl,rfl,h1,λj N=>?_,?_⟩;have J:(⟨w.heap.size,0,none⟩:Addr).add j=⟨w.heap.size,j,none⟩:=by unfold Addr.add;grind
 grind[World.cell?_alloc_new,Go.World.frozen?_alloc_new];have:=iX w t vs [] cs hl;grind
end
def KS :
  (∀(b:Bool) (A B:Prop),Af (.bool b) A B=if b=true then A else B)/\
  (∀{p:Prop} [Decidable p],(decide p=true)=p)/\
  (∀{a b:Bool},((!a)=b)↔(a=!b))/\
  ((!true)=false)/\
  (∀{p:Prop} [Decidable p],decide p=false↔¬p)/\
  (∀{k:b_->Prop} (b:Bool) (x y:b_),Mm (.bool b) x y k=k (if b=true then x else y))/\
  (∀{k:b_->Prop} (q:IntKind) (a b:Int),Cl q (.int q a) (.int q b) k=k (.int q (q.wrap (a+b))))/\
  (∀{k:b_->Prop} (q:IntKind) (a b:Int),EO q (.int q a) (.int q b) k=k (.int q (q.wrap (a-b))))/\
  (∀{k:b_->Prop} (q:IntKind) (a b:Int),bH q (.int q a) (.int q b) k=k (.int q (q.wrap (a*b))))/\
  (∀{k:b_->Prop} (q:IntKind) (a b:Int),HZ q (.int q a) (.int q b) k=k (.bool (decide (a<b))))/\
  (∀{k:b_->Prop} (q:IntKind) (a b:Int),fX q (.int q a) (.int q b) k=k (.bool (decide (a<=b))))/\
  (∀{k:b_->Prop} (q:IntKind) (a b:Int),Xq q (.int q a) (.int q b) k=k (.bool (decide (b<a))))/\
  (∀{k:b_->Prop} (q:IntKind) (a b:Int),Xf q (.int q a) (.int q b) k=k (.bool (decide (b<=a))))/\
  (∀{k:b_->Prop} (q:IntKind) (a b:Int),P2 q (.int q a) (.int q b) k=k (.bool (decide (a=b))))/\
  (∀{k:b_->Prop} (q:IntKind) (a b:Int),TB q (.int q a) (.int q b) k=k (.bool (!decide (a=b))))/\
  (∀{k:b_->Prop} (q:IntKind) (a b:Int),P6 q (.int q a) (.int q b) k=k (.int q (if b>a then b else a)))/\
  (∀{k:b_->Prop} (q:IntKind) (a b:Int),QB q (.int q a) (.int q b) k=k (.int q (if b<a then b else a)))/\
  (∀{k:b_->Prop} (a b:Bool),cB (.bool a) (.bool b) k=k (.bool (a==b)))/\
  (∀{k:b_->Prop} (a b:Bool),bV (.bool a) (.bool b) k=k (.bool (!(a==b))))/\
  (∀{k:b_->Prop} (a b:ByteArray),bR (.string a) (.string b) k=k (.bool (decide (a=b))))/\
  (∀{k:b_->Prop} (a b:ByteArray),fI (.string a) (.string b) k=k (.bool (!decide (a=b))))/\
  (∀(a:Option Addr) (n c:Nat) (k:Bool->Prop),NY (.slice a n c) k=k a.isNone)/\
  (∀(a:Option Addr) (k:Bool->Prop),JI (.pointer a) k=k a.isNone)/\
  (∀{k:b_->Prop} (a:Bool),MU (.bool a) k=k (.bool (!a)))/\
  (∀{k:b_->Prop} (a:Option Addr) (n c:Nat),Dz (.slice a n c) k=k (zIq n))/\
  (∀{k:b_->Prop} (s:ByteArray),RT (.string s) k=k (zIq s.size))/\
  (∀{k:b_->Prop} (a:Addr),Aw (.pointer (some a)) k=k (.pointer (some a)))/\
  (∀{k:b_->Prop} (off:Nat) (a:Addr),BX off (.pointer (some a)) k=k (.pointer (some (a.add off))))/\
  (∀(a:Addr) (x y:Nat),(a.add x).add y=a.add (x+y))/\
  (∀(vs:U_),Bf vs 0=vs.headD undef)/\
  (∀(vs:U_) (k:Nat),Bf vs (k+1)=Bf vs.tail k)/\
  (∀{a d:b_} {l:U_},(a::l).headD d=a)/\
  (∀{a:b_} {l:U_},(a::l).tail=l)/\
  ((none:Option Addr).isNone=true)/\
  (∀{a:Addr},(some a).isNone=false)/\
  ((false=true)=False)/\
  (∀{α:Type} {h:Decidable True} (t e:α),(@ite α True h t e)=t)/\
  (∀{α:Type} {h:Decidable False} (t e:α),(@ite α False h t e)=e):=
 ⟨@HC,E_,by intro a b;cases a<;>cases b<;>simp,E_,E_,@nZ,@AQ,@A6,@ZK,@DX,@Py,@Hj,@JP,@CI,@FQ,@Hi,@Hh,@uH,@YF,@vB,@uZ,@aX,@NX,@Aj,@AO,@QN,@CA,@AE,@Addr.add_add,@Bh,@XC,E_,E_,E_,E_,E_,E_,E_⟩
abbrev AG(w w':c_):Prop:=AF (λ_=>False) w w'
theorem AG.T_{M:d_}(h:AG w w'):AF M w w':=by grind[AF.mono]
def AF.below{M:d_}(h:AF M w w')(j:B<=w.heap.size)(hm:∀b,M b->B<=b):RowKit.Below B w w':=
 ⟨h.os,h.tape,h.output,h.size,(by grind[AF.Ak])⟩
def AF.drew(M:d_)(w:c_):AF M w w.drew:=⟨rfl,rfl,rfl,DN _,I'⟩
def AF.alloc(M:d_)(w:c_)(o:Obj):AF M w (w.alloc o):=⟨rfl,rfl,rfl,E_,(by grind[RowKit.Below.heap_alloc])⟩
theorem AF.setCell{M:d_}(w:c_)(a:Addr)(v:b_)(h:M a.block):AF M w (w.setCell a v):=⟨rfl,rfl,rfl,E_,(by grind[Go.RowKit.Below.heap_setCell])⟩
theorem AF.BO{row:Option Nat}(h:w.grownBy w' row):AF (λb=>row=some b) w w':=⟨h.os,h.tape,h.output,h.size,(by grind[Go.World.grownBy.block])⟩
theorem AF.cell{M:d_}{w w':c_}(h:AF M w w'){a:Addr}{v:b_}(hc:w.cell? a=some v)(hm:¬M a.block):w'.cell? a=some v:=(aB6 (h.Ak a.block (lA w a hc) hm)).trans hc
def AF.X9{M:d_}(h:AF M w w'){a:Addr}(hb:a.block<w.heap.size)(hm:¬M a.block):w'.frozen? a=w.frozen? a:=aDC (h.Ak a.block hb hm)
def Al{α:Type}(S:d_)(k:Nat)(R:c_->U_->α->Prop)(w:c_)(v:b_)(l:List α):Prop:=∃a c,v=.slice a l.length c/\l.length<=c/\c<=maxLen/\∀i x,l[i]?=some x->∃p r,a=some p/\S p.block/\r.length=k/\(∀j u,r[j]?=some u->w.cell? (p.add (i*k+j))=some u)/\R w r x
theorem Al.mono{α:Type}{S S':d_}{k:Nat}{R R':c_->U_->α->Prop}{w w':c_}{v:b_}{l:List α}(h:Al S k R w v l) (J:∀b,b<w.heap.size->S b->S' b)(hb:∀b,b<w.heap.size->S b->w'.heap[b]?=w.heap[b]?)(hk:0<k)(N:∀r x,R w r x->R' w' r x):Al S' k R' w' v l:=by
 obtain⟨a,c,h1,O,Q,U⟩:=h;refine⟨a,c,h1,O,Q,λi x V=>?_⟩;obtain⟨p,r,X,Y,Z,e4,e5⟩:=U i x V;have I:p.block<w.heap.size:=by
  cases r with
  |nil=>grind
  |cons u r=>
   have:=lA w _ (e4 0 u rfl);have e:(p.add (i*k+0)).block=p.block:=by unfold Addr.add;grind
   omega
 refine⟨p,r,X,J _ I Y,Z,λj u hu=>?_,N _ _ e5⟩;have e:(p.add (i*k+j)).block=p.block:=by unfold Addr.add;grind
 grind[World.cell?_of_block]
theorem Al.nil{k:Nat}{R:c_->U_->α->Prop}:Al S k R w g_ []:=
 ⟨none,0,rfl,DN _,by simp[maxLen],B_⟩
def Da(vs:U_)(j:Nat):Nat:=match Bf vs j with|.int _ n=>n.toNat|_=>0
def Al.get{k:Nat}{R:c_->U_->α->Prop}{a:Option Addr}{n c:Nat}{l:List α}(h:Al S k R w (.slice a n c) l){i:Nat}(hi:i<l.length) : ∃p r,a=some p/\S p.block/\r.length=k/\(∀j u,r[j]?=some u->w.cell? (p.add (i*k+j))=some u)/\R w r l[i]:=by
 obtain⟨J,N,h1,O,Q,I⟩:=h;cases h1;exact I i l[i] (by simp[hi])
theorem Al.AK{k:Nat}{R:c_->U_->α->Prop}{l:List α}(h:Al S k R w v l):∃a c,v=.slice a l.length c/\l.length<=maxLen:=by
 obtain⟨j,I,h1,J,N,O⟩:=h;grind
def AB{α:Type}(B e k:Nat)(R:c_->U_->α->Prop)(w:c_)(v:b_)(l:List α):Prop:=∃Ao:List U_,w.ownsRow B e k v l.length Ao.flatten/\Ao.length=l.length/\(∀r∈Ao,r.length=k/\∀u∈r,u.oneCell'=true)/\∀(i:Nat) (r:U_) (x:α),Ao[i]?=some r->l[i]?=some x->R w r x
theorem Eb{k:Nat}:∀(Ao:List U_),(∀r∈Ao,r.length=k)->Ao.flatten.length=Ao.length*k:=by
 intro Ao;induction Ao<;>grind
theorem LK{k:Nat}:∀(Ao:List U_) (i j:Nat) (r:U_),(∀r∈Ao,r.length=k)->Ao[i]?=some r->j<k->Ao.flatten[i*k+j]?=r[j]?:=by
 intro Ao;induction Ao with
 |nil=>grind
 |cons I rs J=>
  intro i j r h hi N;have h0:=h I E_;cases i with
  |zero=>grind
  |succ i=>
   have:=J i j r (λr hr=>h r (by simp[hr])) (by simpa using hi) N;rw[aBH,nm B_];rw[<-this];congr 1;grind
theorem LG{k:Nat}(hk:0<k):∀(Ao:List U_),(∀r∈Ao,r.length=k)->∀(q:Nat) (u:b_),Ao.flatten[q]?=some u->∃r,Ao[q/k]?=some r/\r[q%k]?=some u:=by
 intro Ao h q u hu;have j:q<Ao.flatten.length:=(Ad.1 hu).1;have h1:q/k<Ao.length:=by rw[(Eb Ao h)] at j;exact(aDO hk).2 j
 refine⟨Ao[q/k],by simp[h1],?_⟩;grind[LK,Nat.mod_lt,Nat.div_add_mod']
theorem AB.nil{B e k:Nat}{R:c_->U_->α->Prop}:AB B e k R w g_ []:=⟨[],World.ownsRow_nil w B e k,rfl,E_,E_⟩
def AB.Rz{B e k:Nat}{R:c_->U_->α->Prop}(j:B<=w.heap.size):AB B e k R (w.alloc (.cells #[] e)) (.slice (f_ w.heap.size) 0 0) ([]:List α):=
 ⟨[],(by grind[Go.World.ownsRow_made]),rfl,E_,E_⟩
def AB.AK{B e k:Nat}{R:c_->U_->α->Prop}{l:List α}(h:AB B e k R w v l) : ∃a c,v=.slice a l.length c/\l.length<=c/\c<=maxLen/\(∀p,a=some p->∃g,p=⟨g,0,none⟩/\B<=g/\g<w.heap.size/\v.ownBlock=some g)/\(a=none->l=[]):=by
 obtain⟨Ao,h1,O,Q,U⟩:=h;rcases h1.2 with⟨rfl,j⟩|⟨g,cap,I,rfl,J,N,j,hm,_⟩;grind;exact⟨f_ g,cap,rfl,j,hm,(λp hp=>by cases hp;exact⟨g,rfl,J,(aAm.1 N).1,rfl⟩),(λh=>nomatch h)⟩
theorem AB.sl{B e k:Nat}{R:c_->U_->α->Prop}{l:List α}(h:AB B e k R w v l):Al (λb=>B<=b/\v.ownBlock=some b) k R w v l:=by
 obtain⟨a,c,N,hc,hm,hp,V⟩:=h.AK;obtain⟨Ao,h1,X,Y,Z⟩:=h;refine⟨a,c,N,hc,hm,λi x O=>?_⟩;have hi:i<l.length:=(Ad.1 O).1;cases a with
 |none=>grind
 |some p=>
  obtain⟨g,rfl,Q,U,I⟩:=hp p rfl;have hr:i<Ao.length:=E;have J:∀r∈Ao,r.length=k:=B_;refine⟨_,Ao[i],rfl,⟨Q,I⟩,J _ E_,λj u hu=>?_,B_⟩;grind[Go.World.ownsRow.cells,LK]
theorem AB.T_{B e k:Nat}{R R':c_->U_->α->Prop}{l:List α}{M:d_}(h:AB B e k R w v l)(hm:AF M w w')(N:∀g,v.ownBlock=some g->¬M g) (U:∀r x,x∈l->R w r x->R' w' r x):AB B e k R' w' v l:=by
 obtain⟨Ao,h1,O,Q,V⟩:=h;refine⟨Ao,⟨h1.1,?_⟩,O,Q,B_⟩;rcases h1.2 with X|⟨g,cap,J,rfl,hb,j,I⟩;grind;refine .inr ⟨g,cap,J,rfl,hb,?_,I⟩;rw[hm.Ak g (aAm.1 j).1 (N g rfl)];exact j
def DD(P:Program)(t e size bytes:Nat):Prop:=∃i z,P.underlying t=some (.slice e)/\P.info? e=some i/\i.zero=some z/\i.size=size/\i.bytes=bytes/\z.cells.size=size/\0<size
def Mg{P:Program}{t ty B e k bytes:Nat}{n:Nat}(hE:DD P t e k bytes)(J:w.ownsRow B e k v n cs)(a:Option Addr)(m c:Nat)(I:U_) (hl:I.length=m*k)(ha:a=none->m=0)(V:∀p,a=some p->∀j u,I[j]?=some u->w.cell? (p.add j)=some u)(h1:∀u∈I,u.oneCell'=true)(X:n+m<=maxLen)(O:(n+m)*bytes<=140737488355328)(hB:B<=w.heap.size) : ∃v' w',(Builtin.append_ #[t,t] ty #[v,.slice a m c]).run P w=.ok v' w'/\w'.ownsRow B e k v' (n+m) (cs++I)/\w.grownBy w' v.ownBlock/\(∀g,v'.ownBlock=some g->v.ownBlock=some g\/w.heap.size<=g):=by
 obtain⟨i,z,ht,hi,hz,rfl,rfl,a1,hk⟩:=hE;cases a with
 |none=>
  have hm:=ha rfl;subst hm;have:I=[]:=B_;subst this;have a7:∃b s q,v=.slice b s q/\s<=q:=by
   rcases J.2 with⟨rfl,_⟩|⟨g,cap,Q,rfl,_,_,h,_⟩<;>grind
  refine⟨v,w,?_,by simpa using J,⟨rfl,rfl,rfl,DN _,I'⟩,λg hg=>.inl hg⟩;obtain⟨b,s,q,rfl,hq⟩:=a7;cases b<;>simp[Builtin.append_,run_underlying ht,sizeOf,typeInfo,hi,Builtin.lenOf,Builtin.firstCells,hq,storeCells]
 |some p=>
  have hn:=V p rfl;have a8:((n+m:Nat):Int)<=9223372036854775807:=by simp only[maxLen] at X;omega
  rcases J.2 with⟨rfl,rfl⟩|⟨g,cap,Q,rfl,aa,hg,ax,ak,al,an⟩;have Y:w.ownsRow w.heap.size e i.size g_ 0 cs:=⟨J.1,B_⟩;obtain⟨v',w',r1,r2,r3,_⟩:=run_append_own (P:=P) w w.heap.size t ty e i z i.size i.bytes ht hi hz rfl rfl a1 hk _ 0 cs Y p m c I hl hn h1 X O (DN _);refine⟨v',w',r1,⟨r2.1,?_⟩,r3,λg hg=>.inr (r2.lt g hg).1⟩;rcases r2.2 with h|⟨g,cap,Q,q1,q2,q3⟩;grind;exact .inr ⟨g,cap,Q,q1,py hB q2,q3⟩
  .by_cases N:n+m<=cap
   .have a6:n*i.size+I.length<=Q.size:=by rw[hl,al,<-aBd];exact y9 _ N
    have hx:cs.length=n*i.size:=J.1;refine⟨_,_,run_append_room (P:=P) w t ty e i ht hi g n cap Q hg p m c I hl hn h1 N a6,⟨B_,.inr ⟨g,cap,_,rfl,aa,aC2 w g Q _ e _ hg,N,ak,?_,?_⟩⟩,⟨rfl,rfl,rfl,?_,λb _ hb=>setRow_other w g b _ (λe=>hb (by simp[Value.ownBlock,e]))⟩,λg' Z=>.inl Z⟩;grind;grind[Nat.add_mul];simp[World.setRow]
   have holds:∀j u,cs[j]?=some u->w.cell? ((⟨g,0,none⟩:Addr).add j)=some u:=J.cells (g:=g) rfl;have hr:=aDI (P:=P) w t ty e i z ht hi hz ⟨g,0,none⟩ n cap cs J.1 holds p m c I hl hn E a8 (aCw E O);have av:=aDR w (n+m) cap e;have hx:cs.length=n*i.size:=J.1;refine⟨_,_,hr,⟨B_,.inr ⟨w.heap.size,_,_,rfl,hB,aBm w.drew _,av,aBv w (n+m) cap e X,?_,?_⟩⟩,⟨rfl,rfl,rfl,E_,λb hb _=>RowKit.Below.heap_alloc w.drew _ b hb⟩,λg' Z=>.inr (by cases Z;grind)⟩;simp only[aC3,aAy,aCx,a1,hx,hl,<-aBd];grind;grind[Nat.add_mul]
def AB.append{P:Program}{t ty B e k bytes:Nat}{R:c_->U_->α->Prop}{v x:b_}{l m:List α}(hE:DD P t e k bytes)(h:AB B e k R w v l)(V:Al S k R w x m) (X:∀r y,R w r y->∀u∈r,u.oneCell'=true)(O:(l.length+m.length)*bytes<=140737488355328)(hB:B<=w.heap.size)(Q:l.length+m.length<=maxLen) (hR:∀w',w.grownBy w' v.ownBlock->∀r y,R w r y->R w' r y) : runK P (Builtin.append_ #[t,t] ty [v,x].toArray) (λv' w'=>AB B e k R w' v' (l++m)/\w.grownBy w' v.ownBlock/\(∀g,v'.ownBlock=some g->v.ownBlock=some g\/w.heap.size<=g)) w:=by
 obtain⟨i,z,ht,hi,hz,hs,hb,U,hk⟩:=hE;have a1:=V.AK;obtain⟨Ao,h1,h2,h3,h4⟩:=h;obtain⟨a,c,rfl,hc,a6,N⟩:=V;have HA:∀(I:List U_),I.length=m.length->(∀r∈I,r.length=k/\∀u∈r,u.oneCell'=true)->(∀(i:Nat) (r:U_) (y:α),I[i]?=some r->m[i]?=some y->R w r y)->
   (∃v' w',(Builtin.append_ #[t,t] ty [v,.slice a m.length c].toArray).run P w=.ok v' w'/\w'.ownsRow B e k v' (l.length+m.length) (Ao.flatten++I.flatten)/\w.grownBy w' v.ownBlock/\(∀g,v'.ownBlock=some g->v.ownBlock=some g\/w.heap.size<=g))->
   runK P (Builtin.append_ #[t,t] ty [v,.slice a m.length c].toArray) (λv' w'=>AB B e k R w' v' (l++m)/\w.grownBy w' v.ownBlock/\(∀g,v'.ownBlock=some g->v.ownBlock=some g\/w.heap.size<=g)) w:=by
  rintro I Y e2 e3 ⟨v',w',r1,r2,r3,r4⟩;refine⟨v',w',r1,⟨Ao++I,B_,B_,?_,?_⟩,r3,r4⟩;grind;grind
 have J:∃I:List U_,I.length=m.length/\(∀(i:Nat) (r:U_),I[i]?=some r->r.length=k/\(∀u∈r,u.oneCell'=true)/\(∃p,a=some p/\∀j u,r[j]?=some u->w.cell? (p.add (i*k+j))=some u)/\∃y,m[i]?=some y/\R w r y):=by
  have gen:∀q,q<=m.length->∃I:List U_,I.length=q/\(∀(i:Nat) (r:U_),I[i]?=some r->r.length=k/\(∀u∈r,u.oneCell'=true)/\(∃p,a=some p/\∀j u,r[j]?=some u->w.cell? (p.add (i*k+j))=some u)/\∃y,m[i]?=some y/\R w r y):=by
   intro q;induction q with
   |zero=>exact λ_=>⟨[],rfl,B_⟩
   |succ q ih=>
    intro hq;obtain⟨rs,Y,e2⟩:=ih E;obtain⟨p,r,f1,f2,f3,f4,f5⟩:=N q m[q] B_;refine⟨rs++[r],by simp[Y],λi r' a7=>?_⟩;grind
  exact gen m.length (DN _)
 obtain⟨I,g1,g2⟩:=J;have Z:∀r∈I,r.length=k:=by grind[List.mem_iff_getElem?]
 refine HA I g1 (by grind[List.mem_iff_getElem?]) (λj r y hr hy=>?_) ?_;grind;refine Mg ⟨i,z,ht,hi,hz,hs,hb,U,hk⟩ h1 a m.length c I.flatten (by grind[Eb]) ?_ ?_ ?_ Q O hB;intro ha;by_cases a8:m.length=0;omega;obtain⟨p,r,f1,_⟩:=N 0 m[0] B_;grind;grind[LG,Nat.div_add_mod'];grind[List.mem_flatten,List.mem_iff_getElem?]
theorem AF.next{M I:d_}{w J w2:c_}(h1:AF I w J)(j:AF M J w2)(O:∀b,b<w.heap.size->M b->I b):AF I w w2:=⟨j.os.trans h1.os,j.tape.trans h1.tape,j.output.trans h1.output,py h1.size j.size,λb hb N=>(j.Ak b (Mp hb h1.size) λh=>N (O b hb h)).trans (h1.Ak b hb N)⟩
theorem Al.S_{k:Nat}{R:c_->U_->α->Prop}{l:List α}(h:Al S k R w v l)(I:AG w w')(hk:0<k)(j:∀r x,R w r x->R w' r x):Al S k R w' v l:=
 h.mono C_ (by grind[AF.Ak]) hk j
theorem Al.T_{S M:d_}{k:Nat}{R:c_->U_->α->Prop}{l:List α}(h:Al S k R w v l)(I:AF M w w')(J:∀b,b<w.heap.size->S b->¬M b)(hk:0<k)(j:∀r x,R w r x->R w' r x):Al S k R w' v l:=
 h.mono C_ (by grind[AF.Ak]) hk j
def Al.sub{k:Nat}{R R':c_->U_->α->Prop}{l:List α}(h:Al S k R w v l)(j:∀b,b<w.heap.size->S b->S' b)(hk:0<k)(I:∀r x,R w r x->R' w r x):Al S' k R' w v l:=h.mono j I' hk I
theorem AB.BY{B J e k:Nat}{R:c_->U_->α->Prop}{l:List α}(h:AB B e k R w v l)(hb:∀g,v.ownBlock=some g->J<=g):AB J e k R w v l:=by
 obtain⟨Ao,h1,N,O,Q⟩:=h;refine⟨Ao,⟨h1.1,?_⟩,N,O,Q⟩;rcases h1.2 with V|⟨g,cap,I,rfl,U,j⟩;grind;exact .inr ⟨g,cap,I,rfl,hb g rfl,j⟩
def EW{e k:Nat}{K:Cont}(h:K (.slice (f_ w.heap.size) 0 0) (w.alloc (.cells #[] e))):EE e k 0 [] [] K w:=by
 refine⟨#[],?_,h⟩;simp[Instr.fill,Array.range_zero']
theorem ff{k:Nat}:∀(Ao:List U_) (i j:Nat) (r:U_) (u:b_),(∀r∈Ao,r.length=k)->Ao[i]?=some r->j<k->Ao.flatten.set (i*k+j) u=(Ao.set i (r.set j u)).flatten:=by
 intro Ao;induction Ao with
 |nil=>grind
 |cons I rs J=>
  intro i j r u h hi N;have h0:=h I E_;cases i<;>grind
def AB.store{B e k:Nat}{R R':c_->U_->α->Prop}{a:Addr}{n c:Nat}{l:List α}(h:AB B e k R w (.slice (some a) n c) l){i j:Nat}{u:b_}{x':α}(hi:i<l.length)(hj:j<k) (hu:u.oneCell'=true)(U:∀r y,y∈l->R w r y->R' (w.setCell (a.add (i*k+j)) u) r y)(V:∀r,R w r l[i]->R' (w.setCell (a.add (i*k+j)) u) (r.set j u) x') : (∃v,w.cell? (a.add (i*k+j))=some v)/\w.frozen? (a.add (i*k+j))=false/\AB B e k R' (w.setCell (a.add (i*k+j)) u) (.slice (some a) n c) (l.set i x')/\AF (λb=>b=a.block) w (w.setCell (a.add (i*k+j)) u):=by
 obtain⟨Ao,h1,X,h3,h4⟩:=h;have Y:∀r∈Ao,r.length=k:=B_;have J:i<Ao.length:=E;have N:∃g,a=⟨g,0,none⟩/\n=l.length:=by
  rcases h1.2 with⟨h',_⟩|⟨g',Q,Z,h',_⟩<;>grind
 obtain⟨g,rfl,rfl⟩:=N;have I:(⟨g,0,none⟩:Addr).add (i*k+j)=⟨g,i*k+j,none⟩:=by unfold Addr.add;grind
 rw[I] at U V ⊢;have O:i*k+j<l.length*k:=by
  have:(i+1)*k<=l.length*k:=y9 _ hi;grind
 obtain⟨s1,s2⟩:=h1.stored (i*k+j) u;have a1:Ao[i]?=some Ao[i]:=by simp[J]
 refine⟨?_,h1.frozenAt _,?_,?_⟩;refine⟨(Ao.flatten)[i*k+j]'(by grind[Eb]),?_⟩;rw[h1.cellAt _ O];grind;refine⟨Ao.set i (Ao[i].set j u),?_,by simp[X],?_,?_⟩;grind[ff];grind;grind;grind[AF.setCell]
section
variable {w:c_}{K:Cont}{q:IntKind}{a b:Int}{A B:Prop}{x y z v:b_}{i n:Nat}
def fl_i(hc:w.cell? ⟨i,n,none⟩=some v)(h:K v w):BX n (e_ i) λt=>BR t K w:=⟨_,rfl,_,_,rfl,by rw[show(⟨i,0,none⟩:Addr).add n=⟨i,n,none⟩ by unfold Addr.add;grind];exact hc,h⟩
def nfl_i(hc:w.cell? ⟨i,n,none⟩=some v)(h:K v w):Aw (e_ i) λt=>BX n t λt=>BR t K w:=⟨_,rfl,fl_i hc h⟩
def BD{k:b_->b_->Prop}(h:k x y):Az 0 (.tuple #[x,y]) λu=>Az 1 (.tuple #[x,y]) λv=>k u v:=⟨[x,y],_,rfl,rfl,[x,y],_,rfl,rfl,h⟩
def Hz{k:b_->b_->b_->Prop}(h:k x y z):Az 0 (.tuple #[x,y,z]) λu=>Az 1 (.tuple #[x,y,z]) λv=>Az 2 (.tuple #[x,y,z]) λr=>k u v r:=⟨[x,y,z],_,rfl,rfl,[x,y,z],_,rfl,rfl,[x,y,z],_,rfl,rfl,h⟩
def cnd_p{p:Prop}[Decidable p](h1:p->A)(j:¬p->B):Af (.bool (decide p)) A B:=by by_cases h:p<;>simp[h,Af,h1,j]
def Cn(h1:a<b->A)(j:¬a<b->B):HZ q (.int q a) (.int q b) λt=>Af t A B:=⟨_,_,rfl,rfl,cnd_p h1 j⟩
def leP(h1:a<=b->A)(j:¬a<=b->B):fX q (.int q a) (.int q b) λt=>Af t A B:=⟨_,_,rfl,rfl,cnd_p h1 j⟩
def gtP(h1:b<a->A)(j:¬b<a->B):Xq q (.int q a) (.int q b) λt=>Af t A B:=⟨_,_,rfl,rfl,cnd_p h1 j⟩
def geP(h1:b<=a->A)(j:¬b<=a->B):Xf q (.int q a) (.int q b) λt=>Af t A B:=⟨_,_,rfl,rfl,cnd_p h1 j⟩
def eqP(h1:a=b->A)(j:¬a=b->B):P2 q (.int q a) (.int q b) λt=>Af t A B:=⟨_,_,rfl,rfl,cnd_p h1 j⟩
def neP(h1:a=b->B)(j:¬a=b->A):TB q (.int q a) (.int q b) λt=>Af t A B:=⟨_,_,rfl,rfl,by by_cases h:a=b<;>simp[h,Af,h1,j]⟩
def gdr(w:c_):AF (λ_=>False) w w.drew:=⟨rfl,rfl,rfl,DN _,λ_ _ _=>rfl⟩
end
end Go.Proofs.YtjdgbcdfgnajlaaGreatDoor
