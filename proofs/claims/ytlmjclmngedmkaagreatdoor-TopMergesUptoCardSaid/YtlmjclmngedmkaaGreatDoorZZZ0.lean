/- parts of the proof -/
import Derived.Orders
import Derived.Scope
import Derived.Below
import Derived.Laws.Sem
import Derived.Laws.World
import Derived.Laws.Cells
import Derived.Laws.Small
import Derived.Laws.Entries
import Derived.Laws.Strings
import Derived.Still
import Derived.Tactics
import Derived.Deep.Quiet
import Derived.RangeFuncIn
import Derived.TacticsIn
import Derived.Test.YtlmjclmngedmkaaGreatDoorProg
import Derived.KernelRfl
import GoSem.Claims
import Derived.Laws.AppendOwnNone
import Derived.RangeFuncOwn
import Derived.RangeFuncLeaves
import Derived.WalkKit
import Derived.Laws.IdiomStrings
import Derived.Lib.AppendZeros
import Derived.MapKept
import Derived.ChangeKeysEq
import Derived.Laws.BytesArg
import Derived.Shelf.GgSortFunc.InsertionK
import Derived.Shelf.SlSortCmp.WholeK
import Derived.Shelf.SlSortCmp.NoneTotal
import Derived.Lib.Zigzag
import Derived.Laws.Cover3
import Derived.Lib.SlBytesConst
import Derived.Deep.OwnRows
import Derived.ProofKit
import Derived.Lib.SmallJoins
import Derived.Deep.Slices
import Derived.Lib.LaidU8
import Derived.Lib.LaidIn
import Derived.LaidHandle
import Derived.LaidMore
import Derived.MakeChecks
import Derived.OpenShut
import Derived.ShutString
import Derived.ChangeOld
import Derived.ChangeVars
import Derived.JoinedOf
import Derived.JoinedCond
import Derived.Deep.DeepHandedRow
import Derived.SevenTiedAt
set_option linter.all false
set_option maxRecDepth 100000
namespace Go
abbrev _root_.Go.V_:=List Value
abbrev _root_.Go.X_:=List Int
abbrev _root_.Go.X':=List Nat
abbrev _root_.Go.a_:=List Deferred
abbrev _root_.Go.d_:=Value
abbrev _root_.Go.e_:=World
abbrev _root_.Go.f_:=Nat->Prop
@[match_pattern] abbrev _root_.Go.g_(b:Nat):Value:=.pointer (some ⟨b,0,none⟩)
@[match_pattern] abbrev _root_.Go.h_(b:Nat):Option Addr:=some ⟨b,0,none⟩
@[match_pattern] abbrev _root_.Go.i_:Value:=.slice none 0 0
def _root_.Go.j_:Nat->Nat->Nat->List Nat|0,_,_=>[]|k+1,i,n=>bif Nat.beq (Nat.mod n 2) 1 then i::j_ k (i+1) (Nat.div n 2) else j_ k (i+1) (Nat.div n 2)
def _root_.Go.k_(m:List Nat):List (List Nat):=m.map (j_ m.length 0)
theorem _root_.Go.m_{P:Prop}(h:P:=by exact λj u hu=>by rw[Addr.add_add];exact hc j u hu):P:=h
theorem _root_.Go.n_{P:Prop}(h:P:=by exact λu hu=>by simp at hu;rcases hu with rfl|rfl<;>rfl):P:=h
theorem _root_.Go.n'{P:Prop}(h:P:=by simp[Tr.idx,e]):P:=h
end Go
namespace Go.Proofs.YtlmjclmngedmkaaGreatDoor
open Go Proofs.Tryz
variable {j c B N:Nat}{w W W' w':e_}{S S':f_}{v sv:d_}{cs vs args:V_}{α:Type}{yo xo:Operand}
def Ad:=@List.length_append
def Bp:=@if_neg
def Bq:=@List.getElem?_eq_some_iff
def By:=@List.getElem?_eq_getElem
def Cx:=@if_pos
def DN:=@List.mem_append
def FA:=@List.length_map
def FB:=@List.length_drop
def HK:=@Nat.le_refl
def Hn:=@List.length_cons
def Hw:=@Nat.zero_le
def I3:=@List.mem_cons
def JS:=@List.headD_cons
def Kx:=@List.eq_nil_of_length_eq_zero
def K8:=@List.length_take
def Lc:=@List.take_add_one
def Mp:=@List.append_assoc
def Nn:=@Nat.lt_of_lt_of_le
def No:=@List.cons_append
def Nr:=@List.take_length
def Of:=@World.cell?_setCell_other
def PF:=@List.getElem?_append_left
def P9:=@Nat.succ_pos
def QC:=@List.take_append_drop
def Q0:=@List.getElem_mem
def R0:=@List.getLast?_append
def S4:=@List.map_cons
def S5:=@Option.some.injEq
def S6:=@Result.andThen_ok
def S7:=@List.map_append
def S9:=@decide_eq_true_eq
def TC:=@decide_eq_true
def Ty:=@List.append_nil
def WJ:=@List.getLast?_singleton
def WL:=@decide_eq_false
def aE:=@Bool.and_eq_true
def aN:=@List.mem_cons_of_mem
def aO:=@List.mem_of_mem_take
def aR:=@List.mem_of_mem_drop
def cO:=@World.cell?_setCell_same
def gC:=@List.length_nil
def i6:=@List.getElem?_eq_none
def i7:=@List.mem_map
def oJ:=@List.mem_append_left
def pj:=@Option.isSome_iff_exists
def py:=@List.mem_append_right
def qz:=@List.getElem?_append_right
def q7:=@List.length_set
def q8:=@World.block_lt_of_cell?
def rT:=@Classical.byContradiction
def r8:=@List.nodup_append
def r9:=@Option.some.inj
def sT:=@List.getElem?_set_self
def so:=@List.mem_singleton
def tG:=@List.eq_nil_or_concat
def tZ:=@congrArg
def td:=@Sem.run_bind
def ua:=@Nat.add_zero
def ub:=@List.mem_cons_self
def u6:=@Nat.min_eq_left
def u7:=@List.nil_append
def u9:=@List.flatMap_append
def vq:=@List.concat_eq_append
def vr:=@List.flatMap_cons
def vu:=@List.getElem?_set_ne
def vw:=@Nat.eq_of_beq_eq_true
def vx:=@Nat.le_trans
def vy:=@List.getElem?_map
def vz:=@Option.some_or
def wA:=@List.not_mem_nil
def wB:=@List.replicate_succ
def wC:=@List.getD_eq_getElem?_getD
def wD:=@List.mem_of_getElem?
def wE:=@List.mem_iff_getElem?
def wF:=@Nat.add_mul
def wG:=@List.foldl_append
def wH:=@List.getElem?_drop
def wI:=@Int.toNat_natCast
def wJ:=@List.sum_cons
def wK:=@List.dropLast_concat
def wL:=@List.tail_cons
def wM:=@List.take_of_length_le
def wN:=@List.length_pos_iff
def wO:=@List.mem_filter
def wP:=@List.foldl_cons
def wQ:=@decide_eq_false_iff_not
def wR:=@List.map_take
def wS:=@Nat.zero_add
def wT:=@List.drop_eq_getElem_cons
def wU:=@Array.getElem?_toList
def wV:=@List.set_append_right
def wW:=@List.all_eq_true
def wX:=@List.take_succ_cons
def wY:=@List.getElem?_take
def wZ:=@List.cons.injEq
def we:=@List.pairwise_cons
def wg:=@DataW.trod_int
def wh:=@List.map_nil
def wj:=@Nat.mul_le_mul_right
def wk:=@List.map_drop
def wm:=@List.ext_getElem?
def wo:=@Array.getElem?_eq_some_iff
def wu:=@List.length_replicate
def wx:=@Nat.add_assoc
def wy:=@List.filter_eq_self
def wz:=@List.getElem_map
def xA:=@World.cell?_of_block
def xB:=@List.drop_eq_nil_of_le
def xC:=@BitVec.toNat_ofInt
def xD:=@List.length_singleton
def xE:=@Option.map_some
def xF:=@if_false
def xG:=@World.putObj_heap_other
def xH:=@List.take_take
def xI:=@List.mem_of_getLast?
def xJ:=@List.getLast?_eq_some_getLast
def xK:=@List.getLast?_eq_none_iff
def xL:=@List.getElem_append_right
def xM:=@List.pairwise_iff_getElem
def xN:=@cond_false
def xO:=@MapKept.run_getObj_map
def xP:=@List.drop_zero
def xQ:=@List.Perm.refl
def xR:=@cond_true
def xS:=@Nat.le_of_ble_eq_true
def xT:=@List.length_filter_le
def xU:=@Array.getD_eq_getD_getElem?
def xV:=@Sem.run_pure
def xW:=@Int.fdiv_eq_ediv_of_nonneg
def xX:=@decide_eq_decide
def xY:=@List.filter_eq_nil_iff
def xZ:=@List.take_append_of_le_length
def xb:=@run_sliceAt_slice
def xd:=@Nat.mul_one
def xe:=@Int.emod_eq_of_lt
def xf:=@of_decide_eq_true
def xg:=@List.Sublist.count_le
def xh:=@List.mem_range
def xi:=@List.getElem_append_left
def xj:=@List.take_zero
def xk:=@Bool.eq_iff_iff
def xm:=@List.sum_nil
def xn:=@List.map_map
def xp:=@wpIn_mono
def xq:=@List.drop_length
def xu:=@List.mem_flatMap
def xw:=@List.size_toArray
def xx:=@or_false
def xy:=@List.getElem?_set
def xz:=@MapKept.run_findKey
def yA:=@List.drop_succ_cons
def yB:=@Bool.or_eq_true
def yC:=@run_equalIn_int
def yD:=@Nat.add_sub_cancel
def yE:=@if_true
def yF:=@List.getElem?_append
def yG:=@List.drop_drop
def yH:=@Ne.symm
def yI:=@Value.slice.injEq
def yJ:=@Nat.add_sub_cancel_left
def yK:=@List.take_sublist
def yL:=@List.getElem?_replicate
def yM:=@Classical.not_not
def yN:=@Array.length_toList
def yO:=@List.any_eq_true
def yP:=@List.take_append
def yQ:=@List.drop_append
def yR:=@Bool.false_eq_true
def yS:=@List.filter_append
def yT:=@List.getElem_set_self
def yU:=@Array.getElem?_eq_getElem
def yV:=@List.sum_append
def yW:=@List.drop_left'
def yX:=@List.any_eq_false
def yY:=@Iff.rfl
def yZ:=@List.flatten_cons
def ya:=@MapKept.run_checkKey
def yb:=@List.count_append
def yc:=@List.getElem_take
def yd:=@Nat.div_lt_of_lt_mul
def ye:=@Nat.le_of_eq
def yf:=@Nat.add_comm
def yg:=@List.mem_iff_getElem
def yh:=@Calls.mono
def yi:=@List.replicate_append_replicate
def yj:=@List.map_congr_left
def yk:=@List.map_eq_nil_iff
def ym:=@Nat.mul_le_mul_left
def yn:=@List.foldl_nil
def yp:=@List.flatMap_nil
def yr:=@List.nodup_nil
def ys:=@List.length_eq_zero_iff
def yu:=@grownCap_le_maxLen
def yw:=@List.set_cons_zero
def yx:=@Nat.zero_mul
def yy:=@MapKept.run_setObj_map
def yz:=@Option.toList_some
def y0:=@Option.map_eq_some_iff
def y5:=@List.mem_replicate
def y7:=@List.getLast?_drop
def y8:=@Int.sub_self
def y9:=@List.take_left'
def zC:=@Bool.true_and
def zD:=@Nat.ble_eq_true_of_le
def zF:=@World.cell?_alloc_new
def zG:=@List.dropLast_eq_take
def zH:=@Bool.not_eq_true'
def zJ:=@Array.toArray_toList
def zK:=@and_true
def zL:=@Bool.false_and
def zM:=@List.Pairwise.filter
def zO:=@Option.getD_some
def zQ:=@Nat.div_add_mod'
def zR:=@List.countP_cons
def zS:=@getElem!_pos
def zT:=@Nat.lt_or_ge
def zU:=@List.mem_of_find?_eq_some
def zV:=@List.length_filterMap_le
def zX:=@Sort.size_flatK
def zY:=@trodAll_cons_mk
def zZ:=@beq_iff_eq
def zb:=@Option.isNone_some
def ze:=@Value.string.injEq
def zf:=@Nat.lt_of_le_of_lt
def zh:=@List.countP_append
def zi:=@World.frozen?_alloc_new
def zj:=@RowKit.Below.heap_alloc
def zk:=@List.pairwise_singleton
def zl:=@true_and
def zo:=@Nat.testBit_eq_decide_div_mod_eq
def zt:=@Array.toList_push
def zu:=@heap_alloc_new
def zw:=@Array.size_append
def zx:=@List.length_pos_of_mem
def zy:=@List.getElem_cons_zero
def zz:=@Nat.sub_self
def aAA:=@List.zipWith_cons_cons
def aAB:=@DataW.trod_struct
def aAC:=@Array.getElem?_append
def aAD:=@List.dropLast_sublist
def aAE:=@Array.toList_inj
def aAF:=@Nat.mod_lt
def aAG:=@World.size_alloc
def aAH:=@MapKept.heap_set
def aAI:=@Int.mul_le_mul_of_nonneg_right
def aAJ:=@Nat.le_of_not_lt
def aAK:=@Nat.lt_irrefl
def aAL:=@Int.le_refl
def aAM:=@List.pairwise_append
def aAN:=@And.left
def aAO:=@Array.getElem?_setIfInBounds
def aAP:=@run_equalIn_agg
def aAQ:=@run_eqGuard_agg
def aAR:=@List.dropLast_concat_getLast
def aAS:=@List.find?_some
def aAT:=@List.head?_drop
def aAU:=@DataW.trod_bool
def aAV:=@List.flatten_append
def aAW:=@List.getElem_set_ne
def aAX:=@List.drop_set_of_lt
def aAY:=@Nat.add_lt_add_left
def aAZ:=@List.countP_pos_iff
def aAa:=@Nat.mul_lt_mul_of_pos_right
def aAb:=@Int.le_trans
def aAc:=@List.mem_filterMap
def aAd:=@List.set_cons_succ
def aAe:=@Nat.lt_or_gt_of_ne
def aAf:=@World.size_setCell
def aAg:=@Array.getElem?_append_left
def aAh:=@List.find?_eq_none
def aAi:=@List.count_eq_zero
def aAj:=@Array.mapM_eq_mapM_toList
def aAk:=@List.mem_or_eq_of_mem_set
def aAl:=@List.getLast?_eq_getElem?
def aAm:=@List.getLast?_eq_some_iff
def aAn:=@MakeChecks.laidMetH_plain
def aAo:=@grownCap_ge
def aAp:=@List.getLast?_nil
def aAq:=@Nat.sub_sub
def aAr:=@Array.getElem?_replicate
def aAs:=@List.length_erase_of_mem
def aAu:=@not_or
def aAv:=@Int.add_assoc
def aAw:=@not_not_intro
def aAx:=@DataW.trod_lt
def aAy:=@Option.bind_some
def aAz:=@and_self
def aA0:=@List.getLast_eq_getElem
def aA1:=@List.getLast?_cons_cons
def aA2:=@BitVec.toNat_and
def aA3:=@callsIn_wide
def aA4:=@World.frozen?_of_block
def aA5:=@World.putObj_heap_same
def aA6:=@Nat.pow_succ
def aA7:=@List.length_eq_one_iff
def aA8:=@Bool.not_not
def aA9:=@run_append_grow
def aBA:=@List.nodup_cons
def aBB:=@List.find?_cons
def aBC:=@Nat.not_lt_zero
def aBD:=@BitVec.toNat_or
def aBE:=@Bool.toNat_true
def aBF:=@World.var?_cell
def aBG:=@World.frozen?_setCell
def aBH:=@Array.mem_of_getElem?
def aBI:=@Nat.div_lt_iff_lt_mul
def aBJ:=@List.set_getElem_self
def aBK:=@Array.getElem?_modify
def aBL:=@List.mapM_cons
def aBM:=@Nat.testBit_or
def aBN:=@growslice_fits
def aBO:=@size_zeroCells
def aBQ:=@run_neq_struct
def aBR:=@run_slice_h
def aBT:=@Nat.le_succ
def aBZ:=@Option.or_none
def aBb:=@false_iff
def aBc:=@forall_congr'
def aBd:=@Bool.false_or
def aBe:=@Oper.semAt_eq
def aBf:=@List.any_cons
def aBg:=@dif_pos
def aBh:=@Bool.true_or
def aBi:=@and_iff_left
def aBj:=@Int.add_zero
def aBk:=@List.set_set
abbrev zI(x:Int):d_:=.int .i64 x
def E{P:Prop}(h:P:=by omega):P:=h
def B_{P:Prop}(h:P:=by decide):P:=h
def C_{P:Prop}(h:P:=by kernel_rfl):P:=h
def D_{P:Prop}(h:P:=by simp):P:=h
def O'{P:Prop}(h:P:=by simp;omega):P:=h
def L_{P:Prop}(h:P:=by simp only[maxLen];omega):P:=h
def E_{P:Prop}(h:P:=by exact λh=>h):P:=h
def M_{P:Prop}(h:P:=by exact λ_ h=>h):P:=h
def C0{P:Prop}(h:P:=by exact λ_ _ h=>h):P:=h
def F_{P:Prop}(h:P:=by exact λ_ _ _ h=>h):P:=h
def N_{P:Prop}(h:P:=by exact λ_ _ _ _ _ _ h=>h):P:=h
def K_{P:Prop}(h:P:=by exact λ_ h=>h.elim):P:=h
def E'{P:Prop}(h:P:=by exact λ_ _ h=>h.elim):P:=h
def I_{P:Prop}(h:P:=by intros;rfl):P:=h
def J_{P:Prop}(h:P:=by exact λ_ h=>.inl h):P:=h
def M'{P:Prop}(h:P:=by intro e;cases e):P:=h
abbrev Env:=Nat->d_
abbrev Cont:=d_->e_->Prop
abbrev EQ:=Exit->Env->e_->Prop
def IB(n:Nat)(e:Env)(i:Nat)(v:d_):Env:=λj=>bif Nat.beq j i&&Nat.blt i n then v else e j
def Cn(n:Nat)(e:Env)(d:Option Nat)(v:d_):Env:=match d with|some i=>IB n e i v|none=>e
def ev(e:Env)(x:Operand):d_:=match x with
 |.tmp t=>e t | .const v=>v | .global g=>g_ g | .func f=>.func (.func f) #[] #[]
def Bm:V_->Nat->d_
 |vs,0=>vs.headD undef
 |vs,k+1=>Bm vs.tail k
structure Fr (ds:a_) (n:Nat) (e:Env) (a:Act):Prop where
 size:a.tmps.size=n
 get:∀t,a.tmps.getD t undef=e t
 defers:a.defers=ds
def Fr.eval{ds:a_}{n:Nat}{e:Env}{a:Act}(h:Fr ds n e a):a.eval=ev e:=by
 funext x;cases x with
 |tmp t=>exact h.get t
 |const v=>rfl
 |global g=>rfl
 |func f=>rfl
def Fr.put{ds:a_}{n:Nat}{e:Env}{a:Act}(h:Fr ds n e a)(d:Option Nat)(v:d_):Fr ds n (Cn n e d v) (a.put d v):=by
 cases d with
 |none=>exact h
 |some i=>
  refine⟨by simp[Act.put,h.size],λt=>?_,h.defers⟩;have j:=h.get t;simp[Act.put,Cn,IB,xU,aAO,h.size];simp[xU] at j;by_cases h1:i=t;subst h1;by_cases B:i<n;have o:Nat.blt i n=true:=zD E;simp[B,o];have I:a.tmps[i]?=none:=Array.getElem?_eq_none (by rw[h.size];omega);have o:Nat.blt i n=false:=by
   cases hb:Nat.blt i n with
   |false=>rfl
   |true=>exact absurd (xS hb) E
  rw[I] at j;simp[B,o,j];have J:Nat.beq t i=false:=by
   cases hb:Nat.beq t i with
   |false=>rfl
   |true=>exact absurd (vw hb).symm h1
  simp[h1,J,j]
def Al(v:d_)(A B:Prop):Prop:=match v with|.bool true=>A|.bool false=>B|_=>False
def Ly(c a b:d_)(K:d_->Prop):Prop:=match c with|.bool true=>K a|.bool false=>K b|_=>False
def DX(k:IntKind)(x y:d_)(K:d_->Prop):Prop:=∃a b,x=.int k a/\y=.int k b/\K (.int k (k.wrap (a+b)))
def Ec(k:IntKind)(x y:d_)(K:d_->Prop):Prop:=∃a b,x=.int k a/\y=.int k b/\K (.int k (k.wrap (a-b)))
def ZJ(k:IntKind)(x y:d_)(K:d_->Prop):Prop:=∃a b,x=.int k a/\y=.int k b/\K (.int k (k.wrap (a*b)))
def Hm(k:IntKind)(x y:d_)(K:d_->Prop):Prop:=∃a b,x=.int k a/\y=.int k b/\K (.bool (decide (a<b)))
def cI(k:IntKind)(x y:d_)(K:d_->Prop):Prop:=∃a b,x=.int k a/\y=.int k b/\K (.bool (decide (a<=b)))
def ZA(k:IntKind)(x y:d_)(K:d_->Prop):Prop:=∃a b,x=.int k a/\y=.int k b/\K (.bool (decide (b<a)))
def WO(k:IntKind)(x y:d_)(K:d_->Prop):Prop:=∃a b,x=.int k a/\y=.int k b/\K (.bool (decide (b<=a)))
def Ru(k:IntKind)(x y:d_)(K:d_->Prop):Prop:=∃a b,x=.int k a/\y=.int k b/\K (.bool (decide (a=b)))
def T0(k:IntKind)(x y:d_)(K:d_->Prop):Prop:=∃a b,x=.int k a/\y=.int k b/\K (.bool (!decide (a=b)))
def Zk(x y:d_)(K:d_->Prop):Prop:=∃a b,x=.bool a/\y=.bool b/\K (.bool (a==b))
def ZW(x y:d_)(K:d_->Prop):Prop:=∃a b,x=.bool a/\y=.bool b/\K (.bool (!(a==b)))
def ZT(x y:d_)(K:d_->Prop):Prop:=∃a b,x=.string a/\y=.string b/\K (.bool (decide (a=b)))
def bq(x y:d_)(K:d_->Prop):Prop:=∃a b,x=.string a/\y=.string b/\K (.bool (!decide (a=b)))
def Mc(x:d_)(K:Bool->Prop):Prop:=∃a n c,x=.slice a n c/\K (Option.isNone a)
def IU(x:d_)(K:Bool->Prop):Prop:=∃a,x=.pointer a/\K (Option.isNone a)
def O5(k:IntKind)(x y:d_)(K:d_->Prop):Prop:=∃a b,x=.int k a/\y=.int k b/\K (.int k (if b>a then b else a))
def QO(k:IntKind)(x y:d_)(K:d_->Prop):Prop:=∃a b,x=.int k a/\y=.int k b/\K (.int k (if b<a then b else a))
def Nj(x:d_)(K:d_->Prop):Prop:=∃a,x=.bool a/\K (.bool (!a))
def E3(x:d_)(K:d_->Prop):Prop:=∃a n c,x=.slice a n c/\K (zI n)
def Qf(x:d_)(K:d_->Prop):Prop:=∃s,x=.string s/\K (zI s.size)
def Ar(x:d_)(K:d_->Prop):Prop:=∃a,x=.pointer (some a)/\K x
def BZ(off:Nat)(x:d_)(K:d_->Prop):Prop:=∃a,x=.pointer (some a)/\K (.pointer (some (a.add off)))
def Lb(size:Nat)(x i:d_)(K:d_->Prop):Prop:=∃a n c k j,x=.slice (some a) n c/\i=.int k j/\0<=j/\j<n/\K (.pointer (some (a.add (j.toNat*size))))
def BV(x:d_)(K:Cont)(w:e_):Prop:=∃a v,x=.pointer (some a)/\w.cell? a=some v/\K v w
def DT(k:Nat)(x:d_)(K:Cont)(w:e_):Prop:=∃a vs,x=.pointer (some a)/\List.length vs=k/\(∀j v,vs[j]?=some v->w.cell? (a.add j)=some v)/\K (.agg vs.toArray) w
def Cu(x v:d_)(K:e_->Prop)(w:e_):Prop:=∃a u,x=.pointer (some a)/\v.oneCell'=true/\v.cells=#[v]/\w.cell? a=some u/\w.frozen? a=false/\K (w.setCell a v)
def FE(w:e_)(a:Addr):Nat->V_->e_
 |_,[]=>w
 |i,v::vs=>FE (w.setCell (a.add i) v) a (i+1) vs
def Bu(k:Nat)(x v:d_)(K:e_->Prop)(w:e_):Prop:=∃a vs,x=.pointer (some a)/\v=.agg (List.toArray vs)/\vs.length=k/\(∀v∈vs,v.oneCell'=true)/\ (∀j,j<k->(w.cell? (a.add j)).isSome=true/\w.frozen? (a.add j)=false)/\K (FE w a 0 vs)
def Cl(t:TypeId)(cs:V_)(K:Cont)(w:e_):Prop:=K (g_ w.heap.size) (w.alloc (.cells cs.toArray t))
def Lz(t:TypeId)(x:d_)(K:Cont)(w:e_):Prop:=x.cells=#[x]/\Cl t [x] K w
def IW(t:TypeId)(x:d_)(K:Cont)(w:e_):Prop:=∃vs,x=.agg (List.toArray vs)/\Cl t vs K w
def DW(AQ:List (Nat×Nat))(zero:V_)(BK:List (Nat×d_))(K:d_->Prop):Prop:=∃cs,Instr.fill (λi=>AQ[i]?) zero.toArray BK=some cs/\K (.agg cs)
def Eb(e:TypeId)(size len:Nat)(zero:V_)(BK:List (Nat×d_))(K:Cont)(w:e_):Prop:=∃cs,Instr.fill (λi=>some (i*size,size)) ((Array.range (len*size)).map (zero.toArray[· % zero.toArray.size]!)) BK=some cs/\ K (.slice (h_ w.heap.size) len len) (w.alloc (.cells cs e))
def Ay(i:Nat)(x:d_)(K:d_->Prop):Prop:=∃vs v,x=.tuple (List.toArray vs)/\vs[i]?=some v/\K v
def runK(P:Program)(s:Sem d_)(K:Cont)(w:e_):Prop:=∃v w',s.run P w=.ok v w'/\K v w'
def AF(P:Program)(g:Nat)(args:V_)(K:Cont)(w:e_):Prop:=Calls P g args.toArray w λe w'=>∃v,e=.returned v/\K v w'
def Yk(P:Program)(g:Nat)(args:V_)(K:Cont)(w:e_):Prop:=∃v w',(callFunc g args.toArray).run P w=.ok (.value v) w'/\K v w'
def Be(P:Program)(ok:Nat->Bool)(f:d_)(args:V_)(K:Cont)(w:e_):Prop:=∃g i cap,f=.func (.func g) (List.toArray i) (List.toArray cap)/\ok g=true/\AF P g (i++args++cap) K w
def D3(R:V_->e_->Prop)(G:(V_->e_->Prop)->Prop):Prop:=∃I:V_->e_->Prop,(∀vs w,I vs w->R vs w)/\G I
def G8(i:V_)(F:V_->(V_->e_->Prop)->e_->Prop)(w:e_):Prop:=∃(I:V_->e_->Prop) (μ:V_->e_->Nat),I i w/\∀vs w,I vs w->F vs (λj w'=>I j w'/\μ j w'<μ vs w) w
def Gk(P:Program)(t:TypeId):Option (Bool×Nat):=
 match P.underlying t,P.info? t with
 |some (.struct _),some i=>some (true,i.size)
 |some (.array _ _),some i=>some (true,i.size)
 |some _,some i=>some (false,i.size)
 |_,_=>none
def Gu(P:Program)(t:TypeId):Option d_:=match P.info? t with|some i=>i.zero|none=>none
def Q9:Operand->Bool
 |.const (.slice none _ _)=>true
 |_=>false
def Qo:Operand->Bool
 |.const (.pointer none)=>true
 |_=>false
def ET(op:BinOp)(t:TypeId)(xo yo:Operand)(x y:d_):Sem d_:=do eqGuard op t xo yo x y;binOp op t x y
def Rt(P:Program)(op:BinOp)(t:TypeId)(yo:Operand)(x y:d_)(K:d_->Prop)(F:Prop):Prop:=
 match P.underlying t with
 |some (.int k)=>match op with
  |.add=>DX k x y K | .sub=>Ec k x y K | .mul=>ZJ k x y K
  |.lss=>Hm k x y K | .leq=>cI k x y K | .gtr=>ZA k x y K | .geq=>WO k x y K
  |.eql=>Ru k x y K | .neq=>T0 k x y K
  |_=>F
 |some .bool=>match op with
  |.eql=>Zk x y K | .neq=>ZW x y K
  |_=>F
 |some .string=>match op with
  |.eql=>ZT x y K | .neq=>bq x y K
  |_=>F
 |some (.slice _)=>bif Q9 yo then match op with
   |.eql=>Mc x λb=>K (.bool b)
   |.neq=>Mc x λb=>K (.bool (!b))
   |_=>F
  else F
 |some (.pointer _)=>bif Qo yo then match op with
   |.eql=>IU x λb=>K (.bool b)
   |.neq=>IU x λb=>K (.bool (!b))
   |_=>F
  else F
 |_=>F
def Fk(P:Program)(j:List Field):Option (List (Nat×Nat)):=
 match j with
 |[]=>some []
 |f::r=>match P.info? f.type,Fk P r with | some i,some l=>some ((f.offset,i.size)::l) | _,_=>none
def HW(P:Program)(ok:Nat->Bool)(o:Oper)(ρ:Operand->d_)(K:Cont)(w:e_):Prop:=
 match o.op with
 |.move x=>K (ρ x) w
 |.assign x=>K (ρ x) w
 |.pick c a b=>Ly (ρ c) (ρ a) (ρ b) λv=>K v w
 |.alloc t=>match Gu P t with | some z=>Cl t z.cells.toList K w | none=>False
 |.box t x=>match Gk P t with | some (false,_)=>Lz t (ρ x) K w | some (true,_)=>IW t (ρ x) K w | none=>False
 |.load t x=>match Gk P t with | some (false,_)=>BV (ρ x) K w | some (true,k)=>DT k (ρ x) K w | none=>False
 |.store t a x=>match Gk P t with
  |some (false,k)=>bif Nat.beq k 1 then Cu (ρ a) (ρ x) (λw=>K undef w) w else False
  |some (true,k)=>Bu k (ρ a) (ρ x) (λw=>K undef w) w
  |none=>False
 |.nilCheck x=>Ar (ρ x) λv=>K v w
 |.binOp op t x y _=>Rt P op t y (ρ x) (ρ y) (λv=>K v w) (runK P (ET op t x y (ρ x) (ρ y)) K w)
 |.unOp .not _ x=>Nj (ρ x) λv=>K v w
 |.unOp op _ x=>runK P (Op.unary op (ρ x)) K w
 |.fieldAddr s x f=>match P.underlying s with
  |some (.struct j)=>match j.toList[f]? with
   |some f=>match P.info? f.type with
    |some i=>bif Nat.beq i.size 0 then False else BZ f.offset (ρ x) λv=>K v w
    |none=>False
   |none=>False
  |_=>False
 |.indexAddr t x i=>match P.underlying t with
  |some (.slice e)=>match P.info? e with | some f=>Lb f.size (ρ x) (ρ i) λv=>K v w | none=>False
  |_=>runK P (Instr.indexAt t (ρ x) (ρ i)) K w
 |.build t BK=>match P.underlying t,Gu P t with
  |some (.struct j),some z=>match Fk P j.toList with
   |some l=>DW l z.cells.toList (BK.toList.map λp=>(p.1,ρ p.2)) λv=>K v w
   |none=>False
  |_,_=>runK P (Instr.build t (BK.toList.map λp=>(p.1,ρ p.2)).toArray) K w
 |.buildSlice t len BK=>match P.underlying t with
  |some (.slice e)=>match P.info? e with
   |some i=>bif Nat.blt 0 (len*i.size)&&Nat.ble (len*i.size) 1000000 then
     match i.zero with|some z=>Eb e i.size len z.cells.toList (BK.toList.map λp=>(p.1,ρ p.2)) K w|none=>False
    else bif Nat.beq (len*i.size) 0 then Eb e i.size len [] (BK.toList.map λp=>(p.1,ρ p.2)) K w else False
   |none=>False
  |_=>False
 |.extract t i=>Ay i (ρ t) λv=>K v w
 |.makeFunc fn B cap=>K (.func fn (B.toList.map ρ).toArray (cap.toList.map ρ).toArray) w
 |.convert s d x=>runK P (convert s d (ρ x)) K w
 |.slice t x lo hi mx=>runK P (Instr.sliceAt t (ρ x) (lo.map ρ) (hi.map ρ) (mx.map ρ)) K w
 |.field t x f=>runK P (Instr.field t (ρ x) f) K w
 |.index t x i=>runK P (Instr.index t (ρ x) (ρ i)) K w
 |.makeMap t r=>runK P (Instr.makeMap t (r.map ρ)) K w
 |.makeSlice t l c=>runK P (Instr.makeSlice t (ρ l) (ρ c)) K w
 |.makeInterface t x=>runK P (Instr.makeInterface t (ρ x)) K w
 |.lookup t x i b=>runK P (Instr.lookup t (ρ x) (ρ i) b) K w
 |.mapUpdate t m k x=>runK P (do Instr.mapUpdate t (ρ m) (ρ k) (ρ x);pure undef) K w
 |.insert t m k x=>runK P (do Instr.mapUpdate t (ρ m) (ρ k) (ρ x);pure undef) K w
 |.mapEntry t m k=>runK P (Instr.mapEntry t (ρ m) (ρ k)) K w
 |.entryStore t m s x=>runK P (do Instr.entryStore t (ρ m) (ρ s) (ρ x);pure undef) K w
 |.range t x=>runK P (Instr.range t (ρ x)) K w
 |.next it s=>runK P (Instr.next (ρ it) s o.type) K w
 |.entry it=>runK P (Instr.entry (ρ it)) K w
 |.typeAssert x I jz b=>runK P (Instr.typeAssert (ρ x) I jz b) K w
 |.call c=>match c.callee with
  |.value (.func g)=>bif ok g then AF P g (c.args.toList.map ρ) K w else Yk P g (c.args.toList.map ρ) K w
  |.value f=>Be P ok (ρ f) (c.args.toList.map ρ) K w
  |.builtin .len=>match c.argTypes.toList,c.args.toList with
   |[t],[x]=>match P.underlying t with
    |some (.slice _)=>E3 (ρ x) λv=>K v w
    |some .string=>Qf (ρ x) λv=>K v w
    |_=>runK P (Builtin.len_ c.argTypes o.type #[ρ x]) K w
   |_,_=>False
  |.builtin .append=>runK P (Builtin.append_ c.argTypes o.type (c.args.toList.map ρ).toArray) K w
  |.builtin .copy=>runK P (Builtin.copy_ c.argTypes o.type (c.args.toList.map ρ).toArray) K w
  |.builtin .cap=>runK P (Builtin.cap_ c.argTypes o.type (c.args.toList.map ρ).toArray) K w
  |.builtin .max=>match P.underlying o.type,c.args.toList with
   |some (.int k),[x,y]=>O5 k (ρ x) (ρ y) λv=>K v w
   |_,_=>runK P (Builtin.max_ c.argTypes o.type (c.args.toList.map ρ).toArray) K w
  |.builtin .min=>match P.underlying o.type,c.args.toList with
   |some (.int k),[x,y]=>QO k (ρ x) (ρ y) λv=>K v w
   |_,_=>runK P (Builtin.min_ c.argTypes o.type (c.args.toList.map ρ).toArray) K w
  |.builtin .clear=>runK P (Builtin.clear_ c.argTypes o.type (c.args.toList.map ρ).toArray) K w
  |.builtin .delete=>runK P (Builtin.delete_ c.argTypes o.type (c.args.toList.map ρ).toArray) K w
  |_=>False
 |_=>False
def DP(P:Program)(ok:Nat->Bool):Prop:=∀g,ok g=true->∀args w,(callFunc g args).run P w=.ok (.enter g args) w
section
variable {P:Program}{ok:Nat->Bool}{K:Cont}{w:e_}
def GJ{t:TypeId}{b:Bool}{k:Nat}(h:Gk P t=some (b,k))(w:e_):(isAgg t).run P w=.ok b w/\(sizeOf t).run P w=.ok k w:=by
 unfold Gk at h;unfold isAgg sizeOf underlying typeInfo;simp[td,run_program,S6];revert h;cases hu:P.underlying t with
 |none=>simp
 |some d=>cases hi:P.info? t with
  |none=>cases d<;>simp
  |some i=>cases d<;>simp +contextual [xV]
def Mu{t:TypeId}{i:TypeInfo}(h:P.info? t=some i)(w:e_):(typeInfo t).run P w=.ok i w:=by
 simp[typeInfo,h]
def run_underlying{t:TypeId}{d:TypeDesc}(h:P.underlying t=some d)(w:e_):(underlying t).run P w=.ok d w:=by
 simp[underlying,h]
def Hv{t:TypeId}{i:TypeInfo}(h:P.info? t=some i)(w:e_):(sizeOf t).run P w=.ok i.size w:=by
 simp[sizeOf,Mu h]
def Fj{t:TypeId}{z:d_}(h:Gu P t=some z)(w:e_):(zeroValue t).run P w=.ok z w:=by
 unfold Gu at h;cases hi:P.info? t with
 |none=>simp[hi] at h
 |some i=>simp[hi] at h;simp[zeroValue,Mu hi,h]
def Yc{t:TypeId}{k:Nat}{x:d_}(ha:Gk P t=some (false,k))(h:BV x K w):runK P (Instr.loadAt t x) K w:=by
 obtain⟨a,v,rfl,hc,i⟩:=h;exact⟨v,w,by simp[Instr.loadAt,Instr.sureAddr,loadVar,(GJ ha w).1,hc],i⟩
def YH{t:TypeId}{k:Nat}{x:d_}(ha:Gk P t=some (true,k))(h:DT k x K w):runK P (Instr.loadAt t x) K w:=by
 obtain⟨a,vs,rfl,hl,hc,i⟩:=h;refine⟨_,w,?_,i⟩;simp[Instr.loadAt,Instr.sureAddr,loadVar,td,S6,(GJ ha w).1,(GJ ha w).2];rw[<-hl,run_loadCells_list (P:=P) (w:=w) a vs hc];rfl
def RH(a:Addr):∀(vs:V_) (i:Nat) (w:e_),(∀v∈vs,v.oneCell'=true)->(∀j,i<=j->j<i+vs.length->(w.cell? (a.add j)).isSome=true/\w.frozen? (a.add j)=false)->(storeCells a vs i).run P w=.ok () (FE w a i vs):=by
 intro vs;induction vs with
 |nil=>intro i w _ _;simp[storeCells,FE]
 |cons v vs Q=>
  intro i w h1 I;have J:=I i (HK _) D_;obtain⟨u,hu⟩:=pj.1 J.1;simp only[storeCells,td,run_store P w _ v .plain (h1 v D_),hu,J.2,FE];simp only[yR,xF,S6];refine Q (i+1) _ (λv U=>h1 v (by simp[U])) (λj V o=>?_);have O:=I j E (by simp at o ⊢;omega);refine⟨?_,by rw[aBG];exact O.2⟩;obtain⟨X,B⟩:=pj.1 O.1;by_cases he:a.add i=a.add j;rw[<-he,cO w _ v hu];rfl;rw[Of w _ _ v he,B];rfl
end
section
variable {P:Program}{ok:Nat->Bool}{K:Cont}{w:e_}
def pd(P:Program)(s:Sem Unit)(K:e_->Prop)(w:e_):Prop:=∃w',s.run P w=.ok () w'/\K w'
def lH{t:TypeId}{x v:d_}{K:e_->Prop}(ha:Gk P t=some (false,1))(h:Cu x v K w):pd P (Instr.storeAt t x v) K w:=by
 obtain⟨a,u,rfl,h1,hc,hu,j,o⟩:=h;refine⟨_,?_,o⟩;have i:v.cells.toList=[v]:=by rw[hc]
 have B:v.cells.size=1:=by rw[hc];rfl
 simp[Instr.storeAt,Instr.sureAddr,storeVar,td,S6,(GJ ha w).2,B];simp only[td,xV,i,storeCells,run_store P w _ v .plain h1,Addr.add_zero',hu,j];simp
def mU{t:TypeId}{k:Nat}{x v:d_}{K:e_->Prop}(ha:Gk P t=some (true,k))(h:Bu k x v K w):pd P (Instr.storeAt t x v) K w:=by
 obtain⟨a,vs,rfl,rfl,hl,h1,hc,i⟩:=h;refine⟨_,?_,i⟩;simp only[Instr.storeAt,Instr.sureAddr,storeVar,td,xV,S6,(GJ ha w).2,Value.cells,xw,hl];simp only[ne_eq,not_true_eq_false,xF];exact RH a vs 0 w h1 (λj _ o=>hc j E)
def Tf{t:TypeId}(i:v.cells=cs.toArray)(h:Cl t cs K w) : runK P (do pure (.pointer (some (<- newVar t v)))) K w:=by
 refine⟨_,_,?_,h⟩;simp[newVar,newRow,i]
def aj{t:TypeId}{z:d_}(i:Gu P t=some z)(h:Cl t z.cells.toList K w):runK P (Instr.alloc t true (.tuple #[])) K w:=by
 obtain⟨v,o,h1,j⟩:=Tf (P:=P) (v:=z) D_ h;refine⟨v,o,?_,j⟩;simp[Instr.alloc,td,Fj i,S6];simpa using h1
def jN{t:TypeId}{x:d_}(h:Lz t x K w):runK P (Instr.box t x) K w:=Tf (v:=x) (by rw[h.1]) h.2
def fh{t:TypeId}{x:d_}(h:IW t x K w):runK P (Instr.box t x) K w:=by
 obtain⟨vs,rfl,h⟩:=h;exact Tf (v:=.agg vs.toArray) rfl h
def cX{s:TypeId}{x:d_}{f:Nat}{o:Array Field}{j:Field}{i:TypeInfo}(hu:P.underlying s=some (.struct o))(O:o.toList[f]?=some j) (hi:P.info? j.type=some i)(J:Nat.beq i.size 0=false)(h:BZ j.offset x λv=>K v w):runK P (Instr.fieldAt s x f) K w:=by
 obtain⟨a,rfl,Q⟩:=h;refine⟨_,w,?_,Q⟩;have B:o[f]?=some j:=by rw[<-wU];exact O
 have I:i.size≠0:=by intro e;rw[e] at J;exact absurd J B_
 simp[Instr.fieldAt,run_underlying hu,B,Instr.sureAddr,fieldPlace,Hv hi,I]
def fV{t e:TypeId}{x i:d_}{f:TypeInfo}(hu:P.underlying t=some (.slice e))(hi:P.info? e=some f) (h:Lb f.size x i λv=>K v w):runK P (Instr.indexAt t x i) K w:=by
 obtain⟨a,n,c,k,j,rfl,rfl,h0,h1,o⟩:=h;refine⟨_,w,?_,o⟩;simp[Instr.indexAt,asIntOf,run_underlying hu,h0,h1,Hv hi]
def X4:∀(j:List Field) (l:List (Nat×Nat)),Fk P j=some l->∀w:e_,(j.mapM (λf=>Functor.map (Prod.mk f.offset) (sizeOf f.type)):Sem (List (Nat×Nat))).run P w=.ok l w:=by
 intro j;induction j with
 |nil=>intro l h w;simp[Fk,S5] at h;subst h;simp
 |cons f r o=>
  intro l h w;simp[Fk] at h;cases hi:P.info? f.type with
  |none=>simp[hi] at h
  |some i=>
   cases hr:Fk P r with
   |none=>simp[hi,hr] at h
   |some B=>
    simp[hi,hr,S5] at h;subst h;simp[aBL,Hv hi,o B hr]
def SI{t:TypeId}{j:Array Field}{z:d_}{l:List (Nat×Nat)}{BK:List (Nat×d_)}(hu:P.underlying t=some (.struct j))(B:Gu P t=some z) (hl:Fk P j.toList=some l)(h:DW l z.cells.toList BK λv=>K v w):runK P (Instr.build t BK.toArray) K w:=by
 obtain⟨cs,o,I⟩:=h;refine⟨_,w,?_,I⟩;have hm:(j.mapM (λf=>do pure (f.offset,<-sizeOf f.type)):Sem (Array (Nat×Nat))).run P w=.ok l.toArray w:=by
  rw[aAj];have:=X4 j.toList l hl w;simp only[Sem.run_map,bind_pure_comp,this];rfl
 simp only[Instr.build,td,Fj B,S6,run_underlying hu,hm];simp only[zJ] at o;have J:(λi:Nat=>l.toArray[i]?)=λi=>l[i]?:=by funext i;simp
 rw[J,o];rfl
def kV{t e:TypeId}{len:Nat}{i:TypeInfo}{z:d_}{BK:List (Nat×d_)}(hu:P.underlying t=some (.slice e))(hi:P.info? e=some i)(B:i.zero=some z) (hb:(Nat.blt 0 (len*i.size)&&Nat.ble (len*i.size) 1000000)=true)(h:Eb e i.size len z.cells.toList BK K w):runK P (Instr.buildSlice t len BK.toArray) K w:=by
 obtain⟨cs,o,I⟩:=h;refine⟨_,_,?_,I⟩;simp only[aE] at hb;have h1:¬len*i.size>2 ^ 24:=by have:=xS hb.2;omega
 have J:¬len*i.size=0:=by have:=xS hb.1;omega
 simp[Instr.buildSlice,td,run_underlying hu,Hv hi,S6,h1,J,xV];simp[zJ] at o;have j:Gu P e=some z:=by simp[Gu,hi,B]
 simp[Fj j,S6,o];simp[newRow]
def fT{t e:TypeId}{len:Nat}{i:TypeInfo}{BK:List (Nat×d_)}(hu:P.underlying t=some (.slice e))(hi:P.info? e=some i) (hb:Nat.beq (len*i.size) 0=true)(h:Eb e i.size len [] BK K w):runK P (Instr.buildSlice t len BK.toArray) K w:=by
 obtain⟨cs,j,B⟩:=h;refine⟨_,_,?_,B⟩;have o:=vw hb;have h1:¬len*i.size>2 ^ 24:=E;simp[o] at j;simp[Instr.buildSlice,td,run_underlying hu,Hv hi,S6,h1];simp[o,j];simp[newRow]
def YW{i:Array TypeId}{ty t e:TypeId}{x:d_}(ht:i.toList=[t])(hu:P.underlying t=some (.slice e))(h:E3 x λv=>K v w):runK P (Builtin.len_ i ty #[x]) K w:=by
 obtain⟨a,n,c,rfl,o⟩:=h;refine⟨_,w,?_,o⟩;have j:i=#[t]:=by rw[<-zJ (xs:=i),ht]
 subst j;simp[Builtin.len_,run_underlying hu,goInt]
def UY{i:Array TypeId}{ty t:TypeId}{x:d_}(ht:i.toList=[t])(hu:P.underlying t=some .string)(h:Qf x λv=>K v w):runK P (Builtin.len_ i ty #[x]) K w:=by
 obtain⟨s,rfl,o⟩:=h;refine⟨_,w,?_,o⟩;have j:i=#[t]:=by rw[<-zJ (xs:=i),ht]
 subst j;simp[Builtin.len_,run_underlying hu,goInt]
def ZF{x:d_}{i:Nat}(h:Ay i x λv=>K v w):runK P (Instr.extract x i) K w:=by
 obtain⟨vs,v,rfl,j,o⟩:=h;exact⟨v,w,by simp[Instr.extract,j],o⟩
def toList_beq(a b:ByteArray):(a.toList==b.toList)=decide (a=b):=by
 by_cases h:a=b;subst h;simp;have:¬a.toList=b.toList:=by
  intro e;apply h;rw[ByteArray.toList_eq,ByteArray.toList_eq] at e;cases a;cases b;simp at e;simp[e]
 simp[h,this]
def OC(d:Nat){t e:TypeId}(hu:P.underlying t=some (.slice e))(a:Option Addr)(n c i j:Nat)(w:e_) : (Op.equalIn (d+1) t (.slice a n c) (.slice none i j)).run P w=.ok a.isNone w:=by
 cases a<;>simp[Op.equalIn,run_underlying hu]
def N0(d:Nat){t e:TypeId}(hu:P.underlying t=some (.pointer e))(a:Option Addr)(w:e_) : (Op.equalIn (d+1) t (.pointer a) (.pointer none)).run P w=.ok a.isNone w:=by
 cases a<;>simp[Op.equalIn,run_underlying hu]
def Kn{t e:TypeId}(hu:P.underlying t=some (.slice e))(a:Option Addr)(n c i j:Nat)(w:e_) : (Op.equal t (.slice a n c) (.slice none i j)).run P w=.ok a.isNone w:=OC 9999 hu a n c i j w
def Kk{t e:TypeId}(hu:P.underlying t=some (.pointer e))(a:Option Addr)(w:e_) : (Op.equal t (.pointer a) (.pointer none)).run P w=.ok a.isNone w:=N0 9999 hu a w
def UG{op : BinOp}{t : TypeId}{x y : d_}{F : Prop}(I : ∀v, yo = .const v -> y = v)(h : Rt P op t yo x y (λv => K v w) F)
   (hF : F -> runK P (do eqGuard op t xo yo x y; binOp op t x y) K w) : runK P (do eqGuard op t xo yo x y; binOp op t x y) K w := by
  unfold Rt at h;cases hu : P.underlying t with
  |none => simp[hu] at h; exact hF h
  |some d =>
    simp[hu] at h;cases d with
    |int k =>
      cases op<;>simp only at h<;>first
        |exact hF h
        | (obtain ⟨a, b, rfl, rfl, i⟩ := h
           refine⟨_, w, ?_, i⟩;simp[eqGuard_at_int, binOp, Op.intArith, Op.intCmp]
           done)
        | (obtain ⟨a, b, rfl, rfl, i⟩ := h
           refine ⟨_, w, ?_, i⟩;simp [eqGuard_at_int, binOp, Op.intCmp];first | done | (by_cases B : a = b <;> simp [B]))
    |bool =>
      cases op<;>simp only at h<;>first
        |exact hF h
        | (obtain ⟨a, b, rfl, rfl, i⟩ := h
           refine ⟨_, w, ?_, i⟩;simp [eqGuard_at_bool, run_eql_bool w t a b hu, run_neq_bool w t a b hu])
    |string =>
      cases op<;>simp only at h<;>first
        |exact hF h
        | (obtain ⟨a, b, rfl, rfl, i⟩ := h
           refine ⟨_, w, ?_, i⟩;simp [eqGuard_at_string, binOp, Op.stringOp, toList_beq])
    |slice e =>
      cases j : Q9 yo with
      |false => simp[j, xN] at h; exact hF h
      |true =>
        simp[j, xR] at h;have o : ∃n c, y = .slice none n c := by
          unfold Q9 at j; split at j;exact⟨_, _, I _ rfl⟩;cases j
        cases op<;>simp only at h<;>first
          |exact hF h
          | (obtain ⟨a, i⟩ := h
             first
               | (obtain ⟨n, c, rfl, i⟩ := i
                  refine⟨_, w, ?_, i⟩;obtain⟨J, O, rfl⟩ := o;simp[eqGuard_at_slice, binOp, Kn hu]
                  done)
               | (obtain ⟨rfl, i⟩ := i
                  refine⟨_, w, ?_, i⟩;subst o;simp[eqGuard_at_slice, binOp, Kn hu]
                  done))
    |pointer e =>
      cases j : Qo yo with
      |false => simp[j, xN] at h; exact hF h
      |true =>
        simp[j, xR] at h;have o : y = .pointer none := by
          unfold Qo at j; split at j;exact I _ rfl;cases j
        cases op<;>simp only at h<;>first
          |exact hF h
          | (obtain ⟨a, i⟩ := h
             first
               | (obtain ⟨n, c, rfl, i⟩ := i
                  refine⟨_, w, ?_, i⟩;obtain⟨J, O, rfl⟩ := o;simp[eqGuard_at_pointer, binOp, Kk hu]
                  done)
               | (obtain ⟨rfl, i⟩ := i
                  refine⟨_, w, ?_, i⟩;subst o;simp[eqGuard_at_pointer, binOp, Kk hu]
                  done))
    |_ => exact hF h
end
section
variable {P:Program}{ok:Nat->Bool}{K:Cont}{w:e_}
def Ge(w0:e_)(r:Result Next)(K:Cont)(P:Program):Prop:=
 match r with
 |.ok (.value v) w'=>K v w'
 |.ok .skip w'=>K undef w'
 |.ok (.enter f args) w'=>w'=w0/\Calls P f args w0 λe i=>∃v,e=.returned v/\K v i
 |_=>False
def nU{o:Oper}{a:Act}{next:Act->e_->Prop}{Q:Exit->Act->e_->Prop}{r:Result Next} (h:Ge w r K P)(i:∀v w',K v w'->next (a.put o.dst v) w'):o.upon P a next Q r:=by
 match r,h with
 |.ok (.value v) w',h=>exact i _ _ h
 |.ok .skip w',h=>exact i _ _ h
 |.ok (.enter f args) w',h=>
  obtain⟨rfl,h⟩:=h;exact yh h λe j ⟨v,he,B⟩=>by subst he;exact i _ _ B
def FR{s:Sem d_}(h:runK P s K w):Ge w ((do pure (Next.value (<- s)):Sem Next).run P w) K P:=by
 obtain⟨v,j,h1,i⟩:=h;simp[h1,S6];exact i
def sn{s:Sem Unit}(h:pd P s (λw=>K undef w) w):Ge w ((do s;pure Next.skip:Sem Next).run P w) K P:=by
 obtain⟨j,h1,i⟩:=h;simp[h1,S6];exact i
def fZ{s:Sem Unit}(h:runK P (do s;pure undef) K w):Ge w ((do s;pure Next.skip:Sem Next).run P w) K P:=by
 obtain⟨v,o,h1,i⟩:=h;simp[xV] at h1 ⊢;revert h1;cases s.run P w with
 |halt x j=>intro h1;exact absurd h1 D_
 |ok u j=>intro h1;simp at h1;obtain⟨rfl,rfl⟩:=h1;exact i
def Hr(ρ:Operand->d_)(xs:Array Operand):xs.map ρ=(xs.toList.map ρ).toArray:=by
 apply aAE.1;simp
def OQ(ρ:Operand->d_)(xs:Array (Nat×Operand)):(xs.map λ(i,x)=>(i,ρ x))=(xs.toList.map λp=>(p.1,ρ p.2)).toArray:=by
 apply aAE.1;simp
def mK(i:DP P ok){g:Nat}(j:ok g=true)(h:AF P g args K w) : Ge w ((callFunc g args.toArray).run P w) K P:=by
 rw[i g j];exact⟨rfl,h⟩
set_option maxHeartbeats 1000000 in
def Tb(a6:DP P ok){o:Oper}{ρ:Operand->d_}(a7:∀v,ρ (.const v)=v)(X:∀f,ρ (.func f)=.func (.func f) #[] #[])(h:HW P ok o ρ K w) : Ge w ((execOp ρ o).run P w) K P:=by
 obtain⟨Q,op,j,Ct,after,guard⟩:=o;cases op with
 |move x=>exact h
 |assign x=>exact h
 |pick c a b=>
  simp[HW,Ly] at h;simp[execOp];cases hc:ρ c with
  |bool t=>cases t<;>simp[hc] at h<;>simpa[asBool,Ge] using h
  |_=>simp[hc] at h
 |alloc t=>
  simp[HW] at h;split at h;rename_i z U;exact FR (aj U h);exact h.elim
 |box t x=>
  simp[HW] at h;split at h;exact FR (jN h);exact FR (fh h);exact h.elim
 |load t x=>
  simp[HW] at h;split at h;rename_i ha;exact FR (Yc ha h);rename_i ha;exact FR (YH ha h);exact h.elim
 |store t a x=>
  simp only[HW] at h;split at h;rename_i k ha;cases hk:Nat.beq k 1 with
  |false=>simp only[hk,xN] at h
  |true=>
   simp only[hk,xR] at h;rw[vw hk] at ha;exact sn (lH ha h)
  rename_i ha;exact sn (mU ha h);exact h.elim
 |nilCheck x=>
  simp[HW] at h;obtain⟨a,h1,J⟩:=h;simp[execOp,h1];rw[h1] at J;exact J
 |binOp op t x y yt=>
  simp[HW] at h;exact FR (UG (xo:=x) (λv hv=>by rw[hv,a7]) h E_)
 |unOp op t x=>
  simp[HW] at h;cases op with
  |plus=>exact FR h
  |not=>
   obtain⟨a,h1,J⟩:=h;exact FR ⟨_,w,by simp[Op.unary,h1],J⟩
  |neg=>exact FR h
  |xor=>exact FR h
 |fieldAddr s x f=>
  simp only[HW] at h;split at h;rename_i fs hu;split at h;rename_i fd hf;split at h;rename_i i hi;cases U:Nat.beq i.size 0 with
  |true=>simp only[U,xR] at h
  |false=>
   simp only[U,xN] at h;exact FR (cX hu hf hi U h)
  exact h.elim;exact h.elim;exact h.elim
 |indexAddr t x i=>
  simp[HW] at h;split at h;rename_i e hu;split at h;rename_i f hi;exact FR (fV hu hi h);exact h.elim;exact FR h
 |build t BK=>
  simp[HW] at h;have e1:(execOp ρ ⟨Q,.build t BK,j,Ct,after,guard⟩)=(do pure (Next.value (<- Instr.build t (BK.toList.map λp=>(p.1,ρ p.2)).toArray)):Sem Next):=by
   simp[execOp];rw[OQ]
  rw[e1];split at h;rename_i fs z hu U;split at h;rename_i l hl;exact FR (SI hu U hl h);exact h.elim;exact FR h
 |buildSlice t len BK=>
  simp only[HW] at h;have e1:(execOp ρ ⟨Q,.buildSlice t len BK,j,Ct,after,guard⟩)=(do pure (Next.value (<- Instr.buildSlice t len (BK.toList.map λp=>(p.1,ρ p.2)).toArray)):Sem Next):=by
   simp only[execOp];rw[OQ]
  rw[e1];split at h;rename_i e hu;split at h;rename_i i hi;cases hb:(Nat.blt 0 (len*i.size)&&Nat.ble (len*i.size) 1000000) with
  |true=>
   simp only[hb,xR] at h;split at h;rename_i z U;exact FR (kV hu hi U hb h);exact h.elim
  |false=>
   simp only[hb,xN] at h;cases Z:Nat.beq (len*i.size) 0 with
   |true=>simp[Z,xR] at h;exact FR (fT hu hi Z h)
   |false=>simp[Z,xN] at h
  exact h.elim;exact h.elim
 |extract t i=>exact FR (ZF h)
 |makeFunc fn B cap=>
  simp[HW] at h;simp[execOp,Instr.makeFunc,Hr];exact h
 |convert s d x=>exact FR h
 |slice t x lo hi mx=>exact FR h
 |field t x f=>exact FR h
 |index t x i=>exact FR h
 |makeMap t r=>exact FR h
 |makeSlice t l c=>exact FR h
 |makeInterface t x=>exact FR h
 |lookup t x i b=>exact FR h
 |mapUpdate t m k x=>exact fZ h
 |insert t m k x=>exact fZ h
 |mapEntry t m k=>exact FR h
 |entryStore t m s x=>exact fZ h
 |range t x=>exact FR h
 |next it s=>exact FR h
 |entry it=>exact FR h
 |typeAssert x xt jz b=>exact FR h
 |call c=>
  obtain⟨I,args,O⟩:=c;have hb:∀(b:Builtin) (s:Array d_->Sem d_),I=.builtin b->(∀cs Y,builtin b O j cs Y=(do pure (Next.value (<- s Y))))->
    runK P (s (args.toList.map ρ).toArray) K w->Ge w ((execOp ρ ⟨Q,.call ⟨I,args,O⟩,j,Ct,after,guard⟩).run P w) K P:=by
   intro b s hc hs hr;subst hc;simp only[execOp,resolve,pure_bind,invoke,hs,Hr];exact FR hr
  cases I with
  |value f=>
   have hv:∀g B cap,ρ f=.func (.func g) (List.toArray B) (List.toArray cap)->ok g=true->AF P g (B++args.toList.map ρ++cap) K w->
     Ge w ((execOp ρ ⟨Q,.call ⟨.value f,args,O⟩,j,Ct,after,guard⟩).run P w) K P:=by
    intro g B cap hf hg hc;simp[execOp,resolve,hf,Deferred.ofValue,pure_bind,invoke,Hr];have:=mK a6 hg hc;simpa using this
   cases f with
   |func g=>
    simp[HW] at h;cases hg:ok g with
    |false=>
     simp[hg] at h;obtain⟨v,w',h1,J⟩:=h;have e1:(execOp ρ ⟨Q,.call ⟨.value (.func g),args,O⟩,j,Ct,after,guard⟩)=callFunc g (args.toList.map ρ).toArray:=by
      simp[execOp,resolve,X,Deferred.ofValue,invoke,Hr]
     rw[e1,h1];exact J
    |true=>
     simp[hg] at h;exact hv g [] [] (X g) hg (by simpa using h)
   |tmp t=>obtain⟨g,B,cap,h1,J,V⟩:=h;exact hv g B cap h1 J V
   |const v=>obtain⟨g,B,cap,h1,J,V⟩:=h;exact hv g B cap h1 J V
   |global g=>obtain⟨g,B,cap,h1,J,V⟩:=h;exact hv g B cap h1 J V
  |invoke r m=>exact h.elim
  |builtin b=>
   cases b<;>first
    |exact h.elim
    |exact hb _ _ rfl (λ_ Y=>rfl) h
    |skip
   case max=>
    simp[HW] at h;split at h;rename_i k x y hk hx;obtain⟨p,q,h1,J,V⟩:=h;refine hb .max _ rfl (λ_ Y=>rfl) ⟨_,w,?_,V⟩;rw[hx];simp[S4,wh,h1,J];exact run_max_int2 w O j k k p q;exact hb .max _ rfl (λ_ Y=>rfl) h
   case min=>
    simp[HW] at h;split at h;rename_i k x y hk hx;obtain⟨p,q,h1,J,V⟩:=h;refine hb .min _ rfl (λ_ Y=>rfl) ⟨_,w,?_,V⟩;rw[hx];simp[S4,wh,h1,J];exact run_min_int2 w O j k k p q;exact hb .min _ rfl (λ_ Y=>rfl) h
   simp[HW] at h;split at h;rename_i t x ht hx;have a1:(args.toList.map ρ).toArray=#[ρ x]:=by rw[hx];rfl
   apply hb .len _ rfl (λ_ Y=>rfl);rw[a1];split at h;rename_i hu;exact YW ht hu h;rename_i hu;exact UY ht hu h;exact h;exact h.elim
 |_=>exact h.elim
def Jg(P:Program)(op:BinOp)(t:TypeId)(yo:Operand):Bool:=
 match P.underlying t with
 |some (.int _)=>match op with | .add | .sub | .mul | .lss | .leq | .gtr | .geq | .eql | .neq=>true | _=>false
 |some .bool=>match op with | .eql | .neq=>true | _=>false
 |some .string=>match op with | .eql | .neq=>true | _=>false
 |some (.slice _)=>Q9 yo&&(match op with | .eql | .neq=>true | _=>false)
 |some (.pointer _)=>Qo yo&&(match op with | .eql | .neq=>true | _=>false)
 |_=>false
def DL(P:Program)(o:Oper):Bool:=
 match o.op with
 |.move _=>true | .assign _=>true | .pick _ _ _=>true | .nilCheck _=>true | .extract _ _=>true
 |.fieldAddr _ _ _=>true
 |.unOp .not _ _=>true
 |.binOp op t _ y _=>Jg P op t y
 |.indexAddr t _ _=>match P.underlying t with | some (.slice _)=>true | _=>false
 |.build t _=>match P.underlying t,Gu P t with | some (.struct _),some _=>true | _,_=>false
 |.call c=>match c.callee with
  |.builtin .len=>match c.argTypes.toList,c.args.toList with
   |[t],[_]=>match P.underlying t with | some (.slice _)=>true | some .string=>true | _=>false
   |_,_=>false
  |.builtin .max=>match P.underlying o.type,c.args.toList with | some (.int _),[_,_]=>true | _,_=>false
  |.builtin .min=>match P.underlying o.type,c.args.toList with | some (.int _),[_,_]=>true | _,_=>false
  |_=>false
 |_=>false
def IN{op:BinOp}{t:TypeId}{x y:d_}{K:d_->Prop}{F:Prop}(hp:Jg P op t yo=true)(h:Rt P op t yo x y K F) : ∃v,K v/\∀(K':d_->Prop) (F':Prop),K' v->Rt P op t yo x y K' F':=by
 unfold Jg at hp;unfold Rt at h;simp[Rt];cases hu:P.underlying t with
 |none=>simp[hu] at hp
 |some d=>
  simp[hu] at hp h;cases d with
  |int k=>cases op<;>simp only at hp h ⊢<;>first
    |(cases hp;done)
    |(obtain⟨a,b,h1,o,j⟩:=h;exact⟨_,j,λK' _ hk=>⟨a,b,h1,o,hk⟩⟩)
  |bool=>cases op<;>simp only at hp h ⊢<;>first
    |(cases hp;done)
    |(obtain⟨a,b,h1,o,j⟩:=h;exact⟨_,j,λK' _ hk=>⟨a,b,h1,o,hk⟩⟩)
  |string=>cases op<;>simp only at hp h ⊢<;>first
    |(cases hp;done)
    |(obtain⟨a,b,h1,o,j⟩:=h;exact⟨_,j,λK' _ hk=>⟨a,b,h1,o,hk⟩⟩)
  |slice e=>
   simp[aE] at hp;simp[hp.1] at h ⊢;have i:=hp.2;cases op<;>simp only at i h ⊢<;>first
    |(cases i;done)
    |(obtain⟨a,n,c,h1,j⟩:=h;exact⟨_,j,λK' _ hk=>⟨a,n,c,h1,hk⟩⟩)
  |pointer e=>
   simp[aE] at hp;simp[hp.1] at h ⊢;have i:=hp.2;cases op<;>simp only at i h ⊢<;>first
    |(cases i;done)
    |(obtain⟨a,h1,j⟩:=h;exact⟨_,j,λK' _ hk=>⟨a,h1,hk⟩⟩)
  |_=>simp at hp
def Ul{o:Oper}{ρ:Operand->d_}(hp:DL P o=true)(h:HW P ok o ρ K w):∃v,K v w/\∀(K':Cont) (w':e_),K' v w'->HW P ok o ρ K' w':=by
 obtain⟨V,op,U,Ct,after,guard⟩:=o;cases op with
 |move x=>exact⟨_,h,C0⟩
 |assign x=>exact⟨_,h,C0⟩
 |pick c a b=>
  simp[HW,Ly] at h ⊢;cases hc:ρ c with
  |bool t=>cases t<;>simp[hc] at h ⊢<;>exact⟨_,h,C0⟩
  |_=>simp[hc] at h
 |nilCheck x=>obtain⟨a,h1,B⟩:=h;exact⟨_,B,λ_ _ hk=>⟨a,h1,hk⟩⟩
 |extract t i=>obtain⟨vs,v,h1,B,J⟩:=h;exact⟨_,J,λ_ _ hk=>⟨vs,v,h1,B,hk⟩⟩
 |unOp op t x=>
  cases op with
  |not=>obtain⟨a,h1,B⟩:=h;exact⟨_,B,λ_ _ hk=>⟨a,h1,hk⟩⟩
  |_=>simp[DL] at hp
 |binOp op t x y yt=>
  simp[DL] at hp;obtain⟨v,h1,B⟩:=IN hp h;exact⟨v,h1,λK' w' hk=>B _ _ hk⟩
 |fieldAddr s x f=>
  simp only[HW] at h ⊢;split at h;split at h;split at h;rename_i i _;cases O:Nat.beq i.size 0 with
  |true=>simp only[O,xR] at h
  |false=>
   simp only[O,xN] at h ⊢;obtain⟨a,h1,B⟩:=h;exact⟨_,B,λ_ _ hk=>⟨a,h1,hk⟩⟩
  exact h.elim;exact h.elim;exact h.elim
 |indexAddr t x i=>
  simp[HW,DL] at hp h ⊢;cases hu:P.underlying t with
  |none=>simp[hu] at hp
  |some d=>
   simp[hu] at hp h ⊢;cases d with
   |slice e=>
    simp only at h ⊢;cases hi:P.info? e with
    |none=>simp[hi] at h
    |some f=>
     simp[hi] at h ⊢;obtain⟨a,n,c,k,j,h1,B,J,X,Y⟩:=h;exact⟨_,Y,λ_ _ hk=>⟨a,n,c,k,j,h1,B,J,X,hk⟩⟩
   |_=>simp at hp
 |build t BK=>
  simp[HW,DL] at hp h ⊢;cases hu:P.underlying t with
  |none=>simp[hu] at hp
  |some d=>
   cases O:Gu P t with
   |none=>simp[hu,O] at hp
   |some z=>
    simp[hu,O] at hp h ⊢;cases d with
    |struct Z=>
     simp only at h ⊢;cases hl:Fk P Z.toList with
     |none=>simp[hl] at h
     |some l=>
      simp[hl] at h ⊢;obtain⟨cs,h1,B⟩:=h;exact⟨_,B,λ_ _ hk=>⟨cs,h1,hk⟩⟩
    |_=>simp at hp
 |call c=>
  obtain⟨I,args,a1⟩:=c;cases I with
  |builtin b=>
   cases b<;>simp[DL,HW] at hp h ⊢<;>try (cases hp;done)
   split at hp;rename_i t x ht Q;simp[ht,Q] at h ⊢;split at hp;rename_i e hu;simp[hu] at h ⊢;obtain⟨a,n,c,h1,B⟩:=h;exact⟨_,B,λ_ _ hk=>⟨a,n,c,h1,hk⟩⟩;rename_i hu;simp[hu] at h ⊢;obtain⟨s,h1,B⟩:=h;exact⟨_,B,λ_ _ hk=>⟨s,h1,hk⟩⟩;cases hp;cases hp;split at hp;rename_i k x y hk Q;simp[hk,Q] at h ⊢;obtain⟨a,b,h1,B,J⟩:=h;exact⟨_,J,λ_ _ hk=>⟨a,b,h1,B,hk⟩⟩;cases hp;split at hp;rename_i k x y hk Q;simp[hk,Q] at h ⊢;obtain⟨a,b,h1,B,J⟩:=h;exact⟨_,J,λ_ _ hk=>⟨a,b,h1,B,hk⟩⟩;cases hp
  |_=>simp[DL] at hp
 |_=>simp[DL] at hp
end
structure AK (M:f_) (w w':e_):Prop where
 os:w'.os=w.os
 tape:w'.tape=w.tape
 output:w'.output=w.output
 size:w.heap.size<=w'.heap.size
 Ap:∀b,b<w.heap.size->¬M b->w'.heap[b]?=w.heap[b]?
def AK.refl(M:f_)(w:e_):AK M w w:=⟨rfl,rfl,rfl,HK _,I_⟩
theorem _root_.Go.l_{w:World}:AK (λ_=>False) w w:=AK.refl _ _
def AK.trans{M:f_}{a b c:e_}(h:AK M a b)(k:AK M b c):AK M a c:=⟨k.os.trans h.os,k.tape.trans h.tape,k.output.trans h.output,vx h.size k.size,λi hi hm=>(k.Ap i (Nn hi h.size) hm).trans (h.Ap i hi hm)⟩
def AK.mono{M i:f_}{w w':e_}(h:AK M w w')(hm:∀b,b<w.heap.size->M b->i b):AK i w w':=⟨h.os,h.tape,h.output,h.size,λb hb j=>h.Ap b hb λh'=>j (hm b hb h')⟩
def FO(l:X')(i:Nat):Bool:=l.any λx=>Nat.beq x i
def DZ:List X'->Nat->X'
 |[],_=>[]
 |a::_,0=>a
 |_::r,i+1=>DZ r i
def Cj{l:X'}{i:Nat}:FO l i=true↔i∈l:=by
 simp only[FO,yO];constructor;rintro⟨x,j,hb⟩;rw[<-vw hb];exact j;intro h;exact⟨i,h,D_⟩
section
variable (P:Program)(ok:Nat->Bool)(n:Nat)
def fg{P:Program}{ok:Nat->Bool}{o:Oper}{ρ:Operand->d_}{K:Cont}(a6:∀v,ρ (.const v)=v)(hp:DL P o=true)(h:HW P ok o ρ K w):∃v,K v w/\∀w',(execOp ρ o).run P w'=.ok (.value v) w':=by
 obtain⟨v,h1,h2⟩:=Ul hp h;refine⟨v,h1,λw'=>?_⟩;obtain⟨Z,a7,I⟩:∃Z:Cont,Z v w'/\∀v' J,Z v' J->v'=v/\J=w':=⟨λv' J=>v'=v/\J=w',⟨rfl,rfl⟩,C0⟩;have j:=h2 Z w' a7;have EU:∀s:Sem d_,runK P s Z w'->(do pure (Next.value (<- s)):Sem Next).run P w'=.ok (.value v) w':=by
  rintro s ⟨v',J,r1,r2⟩;obtain⟨rfl,rfl⟩:=I _ _ r2;simp[r1]
 clear h h1 h2;obtain⟨a1,op,B,Ct,after,guard⟩:=o;cases op with
 |move x=>have V:=(I _ _ j).1;simp[execOp,V]
 |assign x=>have V:=(I _ _ j).1;simp[execOp,V]
 |pick c a b=>
  simp[HW,Ly] at j;cases hc:ρ c with
  |bool t=>cases t<;>simp[hc] at j<;>simp[execOp,asBool,hc,(I _ _ j).1]
  |_=>simp[hc] at j
 |nilCheck x=>obtain⟨a,V,h5⟩:=j;have h6:=(I _ _ h5).1;rw[V] at h6;subst h6;simp[execOp,V]
 |extract t i=>exact EU _ (ZF j)
 |unOp op t x=>
  cases op with
  |not=>obtain⟨a,V,h5⟩:=j;have h6:=(I _ _ h5).1;simp[execOp,Op.unary,V,<-h6]
  |_=>simp[DL] at hp
 |binOp op t x y yt=>
  simp[DL] at hp;have:Rt P op t y (ρ x) (ρ y) (λv'=>Z v' w') False:=by
   simp[HW] at j;obtain⟨u,g1,g2⟩:=IN hp j;exact g2 _ _ g1
  exact EU _ (UG (xo:=x) (λv hv=>by rw[hv,a6]) this (λhF=>hF.elim))
 |fieldAddr s x f=>
  simp only[HW] at j;split at j;rename_i fs hu;split at j;rename_i fd hf;split at j;rename_i i hi;cases Y:Nat.beq i.size 0 with
  |true=>simp only[Y,xR] at j
  |false=>simp only[Y,xN] at j;exact EU _ (cX hu hf hi Y j)
  exact j.elim;exact j.elim;exact j.elim
 |indexAddr t x i=>
  simp[HW,DL] at hp j;cases hu:P.underlying t with
  |none=>simp[hu] at hp
  |some d=>
   simp[hu] at hp j;cases d with
   |slice e=>
    simp only at j;cases hi:P.info? e with
    |none=>simp[hi] at j
    |some f=>simp[hi] at j;exact EU _ (fV hu hi j)
   |_=>simp at hp
 |build t BK=>
  have e1:(execOp ρ ⟨a1,.build t BK,B,Ct,after,guard⟩)=(do pure (Next.value (<- Instr.build t (BK.toList.map λp=>(p.1,ρ p.2)).toArray)):Sem Next):=by
   simp[execOp];rw[OQ]
  rw[e1];simp[HW,DL] at hp j;cases hu:P.underlying t with
  |none=>simp[hu] at hp
  |some d=>
   cases Y:Gu P t with
   |none=>simp[hu,Y] at hp
   |some z=>
    simp[hu,Y] at hp j;cases d with
    |struct fs=>
     simp only at j;cases hl:Fk P fs.toList with
     |none=>simp[hl] at j
     |some l=>simp[hl] at j;exact EU _ (SI hu Y hl j)
    |_=>simp at hp
 |call c=>
  obtain⟨Q,args,U⟩:=c;cases Q with
  |builtin b=>
   have hb:∀(s:Array d_->Sem d_),(∀cs xs,builtin b U B cs xs=(do pure (Next.value (<- s xs))))->runK P (s (args.toList.map ρ).toArray) Z w'->
     (execOp ρ ⟨a1,.call ⟨.builtin b,args,U⟩,B,Ct,after,guard⟩).run P w'=.ok (.value v) w':=by
    intro s hs hr;simp only[execOp,resolve,pure_bind,invoke,hs,Hr];exact EU _ hr
   cases b<;>simp[DL,HW] at hp j<;>try (cases hp;done)
   split at hp;rename_i t x ht X;have O:(args.toList.map ρ).toArray=#[ρ x]:=by rw[X];rfl
   simp[ht,X] at j;split at hp;rename_i e hu;simp[hu] at j;exact hb _ I_ (by rw[O];exact YW ht hu j);rename_i hu;simp[hu] at j;exact hb _ I_ (by rw[O];exact UY ht hu j);cases hp;cases hp;split at hp;rename_i k x y hk X;simp[hk,X] at j;obtain⟨p,q,g1,g2,g3⟩:=j;refine hb _ I_ ⟨_,w',?_,g3⟩;rw[X];simp[S4,wh,g1,g2];exact run_max_int2 w' U B k k p q;cases hp;split at hp;rename_i k x y hk X;simp[hk,X] at j;obtain⟨p,q,g1,g2,g3⟩:=j;refine hb _ I_ ⟨_,w',?_,g3⟩;rw[X];simp[S4,wh,g1,g2];exact run_min_int2 w' U B k k p q;cases hp
  |_=>simp[DL] at hp
 |_=>simp[DL] at hp
def Ea(i:Addr->d_->Prop)(x:d_)(k:d_->Prop):Prop:=∃a v,x=.pointer (some a)/\i a v/\k v
def Hz(i:Addr->d_->Prop)(m:Nat)(x:d_)(k:d_->Prop):Prop:=∃a vs,x=.pointer (some a)/\List.length vs=m/\(∀j v,vs[j]?=some v->i (a.add j) v)/\k (.agg vs.toArray)
def ZB(P:Program)(s:Sem d_)(k:d_->Prop):Prop:=∃v,(∀w,s.run P w=.ok v w)/\k v
def G6:List (Nat×Option Bool)->Nat->Option (Option Bool)
 |[],_=>none
 |(i,b)::r,j=>bif Nat.beq i j then some b else G6 r j
def Dz:List Oper->Nat->Option Nat
 |[],_=>none
 |o::_,0=>o.dst
 |_::r,j+1=>Dz r j
def Oc(a b:Bool):Bool:=match a,b with|true,true=>true|false,false=>true|_,_=>false
def gZ(BU:X')(A:Nat->d_->e_->Prop)(j:Addr->d_->Prop)(w:e_)(o:Oper)(i:Nat)(ρ:Operand->d_)(k:d_->Prop):Prop:=
 bif FO BU i then ∀v,A i v w->k v
 else match o.op with
  |.load t x=>match Gk P t with | some (false,_)=>Ea j (ρ x) k | some (true,m)=>Hz j m (ρ x) k | none=>False
  |.binOp op t x y _=>bif Jg P op t y then Rt P op t y (ρ x) (ρ y) k False else ZB P (ET op t x y (ρ x) (ρ y)) k
  |_=>bif DL P o then HW P ok o ρ (λv _=>k v) w else False
end
def IT(d:Option Nat)(kn:List (Nat×Option Bool))(all:List Oper):Bool:=
 match d with
 |none=>false
 |some t=>kn.any λp=>match Dz all p.1 with | some u=>Nat.beq u t | none=>false
section
variable {P:Program}{ok:Nat->Bool}{n:Nat}
def bv(v:d_):Option Bool:=match v with|.bool b=>some b|_=>none
def yv(all:List Oper)(e:Env)(j:Nat):Option Bool:=match Dz all j with|some d=>bv (e d)|none=>none
def EH:∀(l:List Oper) (j:Nat),Dz l j=(l[j]?).bind (·.dst):=by
 intro l;induction l with
 |nil=>intro j;simp[Dz]
 |cons o r i=>intro j;cases j<;>simp[Dz,i]
def MB{ds:a_}{e:Env}{a:Act}(B:Fr ds n e a){ops:Array Oper}:yielded ops a.tmps j=yv ops.toList e j:=by
 simp[yielded,yv,EH,wU];cases h:(ops[j]?).bind (·.dst) with
 |none=>rfl
 |some d=>
  have i:=B.get d;rw[xU] at i;simp[aAy];cases o:a.tmps[d]? with
  |none=>rw[o] at i;simp[Option.getD_none] at i;rw[<-i];rfl
  |some v=>rw[o] at i;simp[zO] at i;rw[<-i];cases v<;>rfl
def IG(all:List Oper)(kn:List (Nat×Option Bool))(e:Env):Prop:=∀j b,G6 kn j=some b->yv all e j=b
def JJ{e:Env}{d:Nat}(h:e d=v):IB n e d v=e:=by
 funext j;simp[IB];cases hb:(Nat.beq j d&&Nat.blt d n) with
 |false=>rfl
 |true=>
  simp only[aE] at hb;have:=vw hb.1;subst this;simp[h]
def Jy{e:Env}{d:Option Nat}(h:d≠some j):Cn n e d v j=e j:=by
 cases d with
 |none=>rfl
 |some i=>
  have:Nat.beq j i=false:=by
   cases hb:Nat.beq j i with
   |false=>rfl
   |true=>exact absurd (by rw[vw hb]) h
  simp[Cn,IB,this]
def ZL{kn:List (Nat×Option Bool)}{b:Option Bool}(h:G6 kn j=some b):(j,b)∈kn:=by
 induction kn with
 |nil=>simp[G6] at h
 |cons p r o=>
  obtain⟨i,c⟩:=p;simp[G6] at h;cases hb:Nat.beq i j with
  |true=>rw[hb] at h;simp[xR,S5] at h;have:=vw hb;subst this;subst h;simp
  |false=>rw[hb] at h;simp[xN] at h;exact aN _ (o h)
def IG.put{all:List Oper}{kn:List (Nat×Option Bool)}{e:Env}(h:IG all kn e){d:Option Nat}(hc:IT d kn all=false)(v:d_):IG all kn (Cn n e d v):=by
 intro j b hl;have h1:=h j b hl;unfold yv at h1 ⊢;cases i:Dz all j with
 |none=>rw[i] at h1;exact h1
 |some u=>
  rw[i] at h1;rw[<-h1];show bv (Cn n e d v u)=bv (e u);rw[Jy];intro o;subst o;simp only[IT,yX] at hc;have:=hc _ (ZL hl);simp[i] at this
def IG.cons{all:List Oper}{kn:List (Nat×Option Bool)}{e:Env}(h:IG all kn e){i:Nat}{b:Option Bool}(hb:yv all e i=b):IG all ((i,b)::kn) e:=by
 intro j c hl;simp[G6] at hl;cases o:Nat.beq i j with
 |true=>rw[o] at hl;simp[xR,S5] at hl;have:=vw o;subst this;subst hl;exact hb
 |false=>rw[o] at hl;simp[xN] at hl;exact h j c hl
def Ju{A B:Prop}(h:Al v A B):(v=.bool true/\A)\/(v=.bool false/\B):=by
 unfold Al at h;split at h;exact .inl ⟨rfl,h⟩;exact .inr ⟨rfl,h⟩;exact h.elim
def Ql{a b:Bool}:Oc a b=(a==b):=by cases a<;>cases b<;>rfl
end
def Ms(o:Oper):X':=o.op.operands.toList.filterMap λx=>match x with|.tmp t=>some t|_=>none
def G4(all:List Oper)(o:Oper):X':=(match o.guard with|some (g,_)=>(match Dz all g with|some d=>[d]|none=>[])|none=>[])++Ms o
def Va(d:Option Nat)(t:Nat):Bool:=match d with|some x=>Nat.beq x t|none=>false
structure XX (n:Nat) (all:List Oper) (BU:X') (AN:List X') (Gs:List X'):Prop where
 gX:∀(i:Nat) o,all[i]?=some o->∀cs b,o.op≠.select cs b
 H9:∀(i:Nat) o,all[i]?=some o->∀e∈o.after,Region.binds .any e=true->e.on<i
 vI:∀(i:Nat) o,all[i]?=some o->∀j∈DZ AN i,∃e∈o.after,Region.binds .any e=true/\(e.on=j\/j∈DZ AN e.on)
 trans:∀i,∀j∈DZ AN i,∀m∈DZ AN j,m∈DZ AN i
 reads:∀(i:Nat) o,all[i]?=some o->∀t∈G4 all o,∀(m:Nat) o',all[m]?=some o'->o'.dst=some t->m≠i->m∈DZ AN i\/i∈DZ AN m
 guard:∀(i:Nat) o,all[i]?=some o->∀g b,o.guard=some (g,b)->g∈DZ AN i/\∃d,Dz all g=some d
 one:∀(i j:Nat) o o',all[i]?=some o->all[j]?=some o'->∀d,o.dst=some d->o'.dst=some d->i=j
 qU:∀(i:Nat),i<all.length->i∉BU->(∀j∈DZ AN i,j∉BU)\/(∀j∈BU,j∈DZ AN i)\/∃E∈Gs,∀j∈BU,(j∈DZ AN i↔j∈E)
 first:∃k∈BU,k<all.length/\∀j∈DZ AN k,j∉BU
 oy:∀k∈BU,k<all.length
 sZ:∀(i:Nat) o,all[i]?=some o->∀d,o.dst=some d->d<n
section
variable {P:Program}{ok:Nat->Bool}{n:Nat}{all:List Oper}{BU:X'}{AN:List X'}{Gs:List X'}
def XX.lt(h:XX n all BU AN Gs){i j:Nat}(hi:i<all.length)(B:j∈DZ AN i):j<i:=by
 induction i using Nat.strongRecOn generalizing j with
 |_ i I=>
  obtain⟨e,he,hb,h1⟩:=h.vI i all[i] (by simp[hi]) j B;have o:=h.H9 i all[i] (by simp[hi]) e he hb;rcases h1 with rfl|h1;exact o;exact Nat.lt_trans (I _ o E h1) o
noncomputable def EZ(all:List Oper)(n:Nat)(e0:Env)(vals:Nat->d_)(S:f_):Env:=λt=>open Classical in if h:∃m,S m/\m<all.length/\Dz all m=some t then(if t<n then vals h.choose else e0 t) else e0 t
def TN(h:XX n all BU AN Gs){e0:Env}{vals:Nat->d_}{m t:Nat}(hm:S m)(hl:m<all.length)(j:Dz all m=some t)(ht:t<n):EZ all n e0 vals S t=vals m:=by
 have i:∃m,S m/\m<all.length/\Dz all m=some t:=⟨m,hm,hl,j⟩;unfold EZ;rw[aBg i,Cx ht];have h1:=i.choose_spec;congr 1;have o:all[i.choose]?=some all[i.choose]:=by simp[h1.2.1]
 have B:all[m]?=some all[m]:=by simp[hl]
 have I:=h1.2.2;rw[EH,o] at I;rw[EH,B] at j;exact h.one _ _ _ _ o B t I j
def Lj{e0:Env}{vals:Nat->d_}{t:Nat}(i:∀m,S m->m<all.length->Dz all m≠some t):EZ all n e0 vals S t=e0 t:=by
 unfold EZ;rw[dif_neg];rintro⟨m,h1,j,o⟩;exact i m h1 j o
def NW{e0:Env}{vals:Nat->d_}{t:Nat}(ht:¬t<n):EZ all n e0 vals S t=e0 t:=by
 unfold EZ;by_cases i:∃m,S m/\m<all.length/\Dz all m=some t;rw[aBg i,Bp ht];rw[dif_neg i]
def JH(h:XX n all BU AN Gs){e0:Env}{vals vals':Nat->d_}{t:Nat}(B:∀m,m<all.length->Dz all m=some t->(S m↔S' m)/\(S m->vals m=vals' m)):EZ all n e0 vals S t=EZ all n e0 vals' S' t:=by
 by_cases ht:t<n;by_cases o:∃m,S m/\m<all.length/\Dz all m=some t;obtain⟨m,h1,i,j⟩:=o;rw[TN h h1 i j ht,TN h ((B m i j).1.1 h1) i j ht];exact(B m i j).2 h1;rw[Lj λm h1 i j=>o ⟨m,h1,i,j⟩,Lj λm h1 i j=>o ⟨m,(B m i j).1.2 h1,i,j⟩];rw[NW ht,NW ht]
def Qx(h:XX n all BU AN Gs){e0:Env}{vals vals':Nat->d_}{i:Nat}{o:Oper}(hi:all[i]?=some o)(O:∀m,S' m↔S m\/m=i)(U:∀m,S m->m≠i->vals' m=vals m)(J:vals' i=v)(V:¬S i) : Cn n (EZ all n e0 vals S) o.dst v=EZ all n e0 vals' S':=by
 have B:Dz all i=o.dst:=by rw[EH,hi];rfl
 funext t;by_cases j:o.dst=some t;rw[j];by_cases ht:t<n;rw[TN h ((O i).2 (.inr rfl)) ((Bq.1 hi).1) (B.trans j) ht,J];have:Nat.blt t n=true:=zD E;simp[Cn,IB,this];rw[NW ht];have:Nat.blt t n=false:=by cases hb:Nat.blt t n with|false=>rfl|true=>exact absurd (xS hb) E
 simp[Cn,IB,this,Bool.and_false,xN];exact NW ht;rw[Jy j];refine JH h λm hm Q=>?_;have I:m≠i:=by rintro rfl;rw[B] at Q;exact j Q
 exact⟨by rw[O];simp[I],λX=>(U m X I).symm⟩
def Js{o:Oper}{e e':Env}(i:∀cs b,o.op≠.select cs b)(h:∀t∈Ms o,e t=e' t):execOp (ev e) o=execOp (ev e') o:=by
 refine execOp_congr o i λx j=>?_;cases x with
 |tmp t=>exact h t (by simp[Ms,aAc];exact⟨.tmp t,by simpa using j,rfl⟩)
 |_=>rfl
variable (e0:Env)(w0:e_)(A:Nat->d_->e_->Prop)(M:Nat->f_)
def tJ(BU:X')(M:Nat->f_):f_:=λb=>∃j∈BU,M j b
def uH(BU:X')(M:Nat->f_)(w0:e_)(a:Addr)(v:d_):Prop:=w0.cell? a=some v/\∀j∈BU,¬M j a.block
def Zn(BU:X')(AN:List X')(i:Nat):X':=BU.filter λj=>!FO (DZ AN j) i
def Zp(BU:X')(AN:List X')(M:Nat->f_)(w0:e_)(i:Nat):Addr->d_->Prop:=uH (Zn BU AN i) M w0
noncomputable def view(all:List Oper)(AN:List X')(n:Nat)(e0:Env)(vals:Nat->d_)(i:Nat):Env:=EZ all n e0 vals (·∈DZ AN i)
def Dm(all:List Oper)(e:Env)(o:Oper):Prop:=∀g b,o.guard=some (g,b)->yv all e g=some b
def K5(P:Program)(BU:X')(M:Nat->f_)(w0:e_)(o:Oper)(e:Env)(v:d_):Prop:=∀w',AK (tJ BU M) w0 w'->(execOp (ev e) o).run P w'=.ok (.value v) w'
def Gd(P:Program)(all:List Oper)(BU:X')(AN:List X')(n:Nat)(e0:Env)(w0:e_)(M:Nat->f_)(vals:Nat->d_)(i:Nat)(o:Oper):Prop:=(Dm all (view all AN n e0 vals i) o->K5 P (Zn BU AN i) M w0 o (view all AN n e0 vals i) (vals i))/\(¬Dm all (view all AN n e0 vals i) o->vals i=undef)
variable {e0 w0 A M}
def Zr{J:X'}{o:Oper}{i:Nat}{e:Env}{k:d_->Prop}(hi:FO BU i=false)(h:gZ P ok BU A (uH J M w0) w o i (ev e) k):∃v,k v/\K5 P J M w0 o e v:=by
 unfold gZ at h;rw[hi] at h;simp only[xN] at h;have O:∀(a:Addr) (v:d_),uH J M w0 a v->∀I,AK (tJ J M) w0 I->I.cell? a=some v:=λa v hs I hm=>
  (xA (hm.Ap a.block (q8 w0 a hs.1) λ⟨j,hj,hb⟩=>hs.2 j hj hb)).trans hs.1
 have V:(bif DL P o then HW P ok o (ev e) (λv _=>k v) w else False)->∃v,k v/\K5 P J M w0 o e v:=by
  intro h;cases hp:DL P o with
  |false=>rw[hp] at h;exact h.elim
  |true=>
   rw[hp] at h;simp only[xR] at h;obtain⟨v,h1,U⟩:=fg (ρ:=ev e) I_ hp h;exact⟨v,h1,λI _=>U I⟩
 obtain⟨a8,op,a7,Ct,after,guard⟩:=o;cases op with
 |load t x=>
  simp only at h;split at h;rename_i m ha;obtain⟨a,v,h1,U,X⟩:=h;refine⟨v,X,λI hm=>?_⟩;obtain⟨Q,B,r1,Y⟩:=Yc (P:=P) (K:=λQ B=>Q=v/\B=I) (w:=I) ha ⟨a,v,h1,O a v U I hm,rfl,rfl⟩;obtain⟨rfl,rfl⟩:=Y;simp only[execOp,td,r1,S6,xV];rename_i m ha;obtain⟨a,vs,h1,hl,U,X⟩:=h;refine⟨_,X,λI hm=>?_⟩;obtain⟨Q,B,r1,Y⟩:=YH (P:=P) (K:=λQ B=>Q=.agg vs.toArray/\B=I) (w:=I) ha ⟨a,vs,h1,hl,λj v hv=>O _ v (U j v hv) I hm,rfl,rfl⟩;obtain⟨rfl,rfl⟩:=Y;simp only[execOp,td,r1,S6,xV];exact h.elim
 |binOp op t x y yt=>
  simp only at h;cases hp:Jg P op t y with
  |true=>
   rw[hp] at h;simp only[xR] at h;obtain⟨v,h1,U⟩:=IN hp h;refine⟨v,h1,λI _=>?_⟩;obtain⟨Z,a1,a6⟩:∃Z:Cont,Z v I/\∀Q B,Z Q B->Q=v/\B=I:=⟨λQ B=>Q=v/\B=I,⟨rfl,rfl⟩,C0⟩;obtain⟨Q,B,r1,Y⟩:=UG (P:=P) (w:=I) (K:=Z) (xo:=x) (yo:=y) (F:=False) (λv hv=>by rw[hv];rfl) (U _ _ a1) (λhF=>hF.elim);obtain⟨rfl,rfl⟩:=a6 _ _ Y;simp only[execOp];rw[td,r1];rfl
  |false=>
   rw[hp] at h;simp only[xN] at h;obtain⟨v,h1,U⟩:=h;refine⟨v,U,λI _=>?_⟩;have X:=h1 I;simp only[ET] at X;simp only[execOp];rw[td,X];rfl
 |_=>exact V h
def K5.vh{o:Oper}{e:Env}(h:K5 P BU M w0 o e v)(h':K5 P BU M w0 o e sv):v=sv:=by
 have i:=h' w0 (AK.refl _ _);rw[h w0 (AK.refl _ _)] at i;cases i;rfl
def K5.congr{o:Oper}{e e':Env}(i:∀cs b,o.op≠.select cs b)(h:∀t∈Ms o,e t=e' t)(hr:K5 P BU M w0 o e v):K5 P BU M w0 o e' v:=by
 intro j hm;rw[<-Js i h];exact hr j hm
def Qt(B:XX n all BU AN Gs){vals:Nat->d_}{i:Nat}{o:Oper}(hi:all[i]?=some o)(h1:∀j∈DZ AN i,S j)(V:∀m,m<all.length->i∈DZ AN m->¬S m)(X:¬S i) : ∀t∈G4 all o,EZ all n e0 vals S t=view all AN n e0 vals i t:=by
 have I:=(Bq.1 hi).1;intro t ht;refine JH B λm hm U=>⟨?_,I_⟩;by_cases J:m=i;subst J;exact⟨λh=>(X h).elim,λh=>absurd (B.lt I h) E⟩;have O:all[m]?=some all[m]:=by simp[hm]
 rw[EH,O] at U;rcases B.reads i o hi t ht m _ O U J with h|h;exact⟨λ_=>h,λ_=>h1 m h⟩;refine⟨λY=>(V m hm h Y).elim,λQ=>?_⟩;have:=B.lt I Q;have:=B.lt hm h;omega
def Lf{o:Oper}{t:Nat}(h:t∈Ms o):t∈G4 all o:=py _ h
def Jv(I:XX n all BU AN Gs){i:Nat}{o:Oper}(hi:all[i]?=some o){e e':Env}(h:∀t∈G4 all o,e t=e' t):Dm all e o↔Dm all e' o:=by
 unfold Dm;refine aBc λg=>aBc λb=>imp_congr_right λj=>?_;obtain⟨d,B⟩:=(I.guard i o hi g b j).2;have:d∈G4 all o:=by unfold G4;rw[j];simp[B]
 unfold yv;rw[B];simp[h d this]
def Jj(o:XX n all BU AN Gs){vals vals':Nat->d_}{i:Nat}(h:∀j∈DZ AN i,vals j=vals' j):view all AN n e0 vals i=view all AN n e0 vals' i:=by
 funext t;exact JH o λm _ _=>⟨yY,λhm=>h m hm⟩
section
variable {ds:a_}{e0:Env}{w0:e_}{A:Nat->d_->e_->Prop}{M:Nat->f_}
def eQ{BU:X'}{AN:List X'}{i j:Nat}(o:j∈BU)(h:¬i∈DZ AN j):j∈Zn BU AN i:=by
 simp[Zn,wO,o,zl];cases hb:FO (DZ AN j) i with
 |false=>rfl
 |true=>exact(h (Cj.1 hb)).elim
end
section
variable {ds:a_}{e0:Env}{w0:e_}{A:Nat->d_->e_->Prop}{M:Nat->f_}
def Gd.U1(I:XX n all BU AN Gs){vals vals':Nat->d_}{i:Nat}{o:Oper}(_:i<all.length)(J:∀j∈DZ AN i,vals j=vals' j)(B:vals i=vals' i)(h:Gd P all BU AN n e0 w0 M vals i o):Gd P all BU AN n e0 w0 M vals' i o:=by
 unfold Gd at h ⊢;rw[<-Jj I J,<-B];exact h
end
section
variable {ds:a_}{e0:Env}{w0:e_}{A:Nat->d_->e_->Prop}{M:Nat->f_}
def O4:∀(l:List Bool) (i:Nat),l[i]?=some false->(l.set i true).count false+1=l.count false:=by
 intro l;induction l with
 |nil=>intro i h;simp at h
 |cons b l j=>
  intro i h;cases i with
  |zero=>simp at h;subst h;simp
  |succ i=>
   have:=j i (by simpa using h);simp[aAd,List.count_cons];omega
def LB(ds:a_)(all:List Oper)(n:Nat)(e0:Env)(K:Env->e_->Prop):Exit->Act->e_->Prop:=λex a w=>ex=.normal/\∃e',Fr ds n e' a/\(∀j,(∀o∈all,o.dst≠some j)->e' j=e0 j)/\K e' w
end
end
def pH(o:Oper):Bool:=match o.op with|.select _ _=>true|_=>false
def qp(n:Nat)(all:List Oper)(BU:X')(AN:List X')(Gs:List X')(i:Nat)(o:Oper):Bool:=
 !pH o&&o.after.toList.all (λe=>!(Region.binds .any e)||Nat.blt e.on i)
 && (DZ AN i).all (λj=>o.after.toList.any λe=>Region.binds .any e&&(Nat.beq e.on j||FO (DZ AN e.on) j))
 && (G4 all o).all (λt=>(List.range all.length).all λm=>!(Va (Dz all m) t)||Nat.beq m i||FO (DZ AN i) m||FO (DZ AN m) i)
 && (match o.guard with|none=>true|some (g,_)=>FO (DZ AN i) g&&(Dz all g).isSome)
 && (match o.dst with|none=>true|some d=>Nat.blt d n&&(List.range all.length).all λj=>Nat.beq j i||!(Va (Dz all j) d))
 && (FO BU i||(DZ AN i).all (λj=>!FO BU j)||BU.all (λj=>FO (DZ AN i) j)||Gs.any (λA_=>BU.all λj=>FO (DZ AN i) j==FO A_ j))
def gJ(n:Nat)(all:List Oper)(BU:X')(AN:List X')(Gs:List X'):Bool:=
 Nat.ble AN.length all.length
 && (List.range all.length).all (λi=>match all[i]? with|some o=>qp n all BU AN Gs i o|none=>true)
 && (List.range AN.length).all (λi=>(DZ AN i).all λj=>(DZ AN j).all λm=>FO (DZ AN i) m)
 && BU.any (λk=>Nat.blt k all.length&&(DZ AN k).all λj=>!FO BU j)
 && BU.all (λk=>Nat.blt k all.length)
def Pf{a b:Nat}:Nat.blt a b=true↔a<b:=⟨λh=>xS h,λh=>zD (show a+1<=b from h)⟩
def T4{a b:Nat}:Nat.beq a b=true↔a=b:=⟨vw,λh=>by subst h;simp⟩
def gj{AN:List X'}:∀{i:Nat},AN.length<=i->DZ AN i=[]:=by
 induction AN with
 |nil=>intro i _;rfl
 |cons a r j=>intro i h;cases i with
  |zero=>simp at h
  |succ i=>exact j (by simpa using h)
def SQ{d:Option Nat}{t:Nat}:Va d t=true↔d=some t:=by
 cases d with
 |none=>simp[Va]
 |some x=>simp[Va]
def nH{n:Nat}{all:List Oper}{BU:X'}{AN:List X'}{Gs:List X'}(h:gJ n all BU AN Gs=true):XX n all BU AN Gs:=by
 simp only[gJ,aE,wW,xh] at h;obtain⟨⟨⟨⟨h0,h1⟩,h2⟩,Z⟩,h4⟩:=h;have one:∀(i:Nat) o,all[i]?=some o->qp n all BU AN Gs i o=true:=λi o hi=>by
  have:=h1 i (Bq.1 hi).1;rw[hi] at this;exact this
 have BK:=λ(i:Nat) (o:Oper) (hi:all[i]?=some o)=>by
  have:=one i o hi;unfold qp at this;simp only[aE] at this;exact this
 have O:∀(m:Nat) J,all[m]?=some J->Dz all m=J.dst:=λm J hm=>by rw[EH,hm];rfl
 refine⟨?_,?_,?_,?_,?_,?_,?_,?_,?_,?_,?_⟩;intro i o hi cs b U;have:=(BK i o hi).1.1.1.1.1.1;rw[pH,U] at this;cases this;intro i o hi e he hb;have:=(BK i o hi).1.1.1.1.1.2;simp only[wW] at this;have:=this e (by simpa using he);rw[hb] at this;simpa[Pf] using this;intro i o hi j B;have:=(BK i o hi).1.1.1.1.2;simp only[wW] at this;have:=this j B;simp only[yO,aE,yB] at this;obtain⟨e,he,hb,hc⟩:=this;refine⟨e,by simpa using he,hb,?_⟩;rcases hc with hc|hc;exact .inl (T4.1 hc);exact .inr (Cj.1 hc);intro i j B m hm;by_cases hi:i<AN.length;have:=h2 i hi j B;exact Cj.1 (this m hm);rw[gj E] at B;cases B;intro i o hi t ht m J hm Q V;have:=(BK i o hi).1.1.1.2;simp only[wW,xh] at this;have:=this t ht m (Bq.1 hm).1;simp only[SQ.2 ((O m J hm).trans Q),Bool.not_true,aBd,yB,Cj] at this;rcases this with(h|h)|h;exact(V (T4.1 h)).elim;exact .inl h;exact .inr h;intro i o hi g b hg;have:=(BK i o hi).1.1.2;rw[hg] at this;simp only[aE,Cj,pj] at this;exact this;intro i j o J hi B d Q X;have:=(BK i o hi).1.2;rw[Q] at this;simp only[aE,wW,xh] at this;have:=this.2 j (Bq.1 B).1;simp only[SQ.2 ((O j J B).trans X),Bool.not_true,Bool.or_false] at this;exact(T4.1 this).symm;intro i hi Y;have:=(BK i all[i] (by simp[hi])).2;have hm:FO BU i=false:=by cases hm:FO BU i with|false=>rfl|true=>exact(Y (Cj.1 hm)).elim
 simp only[hm,aBd,yB,wW,yO] at this;rcases this with(h|h)|⟨A_,hE,h⟩;exact .inl λj B I=>by have:=h j B;rw[Cj.2 I] at this;cases this
 exact .inr (.inl λj B=>Cj.1 (h j B));refine .inr (.inr ⟨A_,hE,λj B=>?_⟩);have:=h j B;simp only[zZ] at this;rw[<-Cj,<-Cj,this];simp only[yO,aE,wW] at Z;obtain⟨k,hk,hl,hn⟩:=Z;exact⟨k,hk,Pf.1 hl,λj B I=>by have:=hn j B;rw[Cj.2 I] at this;cases this⟩;exact λk hk=>Pf.1 (h4 k hk);intro i o hi d Q;have:=(BK i o hi).1.2;rw[Q] at this;simp only[aE] at this;exact Pf.1 this.1
section
variable (P:Program)(ok:Nat->Bool)(n:Nat)
def Ob(BU:X')(M:Nat->f_)(j:Nat->Addr->d_->Prop)(_:e_)(o:Oper)(i:Nat)(ρ:Operand->d_)(k:Cont)(w:e_):Prop:=bif FO BU i then HW P ok o ρ (λv w'=>AK (M i) w w'/\k v w') w else gZ P ok BU (λ_ _ _=>True) (j i) w o i ρ λv=>k v w
def DK(BU:X')(AN:List X')(w0:e_)(F:(Nat->f_)->(Nat->Addr->d_->Prop)->Prop):Prop:=∃M,F M (Zp BU AN M w0)
end
section
variable {P:Program}{ds:a_}{ok:Nat->Bool}{n:Nat}{all:List Oper}{BU:X'}{AN Gs:List X'}{e0:Env}{w0:e_}{M:Nat->f_}{K:Env->e_->Prop}
def Ue{r:Result Next}{K:Cont}(h:Ge w r K P):∃v w',K v w':=by
 match r,h with
 |.ok (.value v) w',h=>exact⟨_,_,h⟩
 |.ok .skip w',h=>exact⟨_,_,h⟩
 |.ok (.enter f args) w',h=>
  obtain⟨_,hc⟩:=h;obtain⟨e,i,fr,⟨v,_,j⟩,_⟩:=hc [];exact⟨v,i,j⟩
def jq(B:XX n all BU AN Gs){i:Nat}{o:Oper}(j:all[i]?=some o){e:Env}:yv all (Cn n e o.dst undef) i=none:=by
 unfold yv;rw[EH,j];simp[aAy];cases I:o.dst with
 |none=>rfl
 |some d=>
  have:=B.sZ i o j d I;have hb:Nat.blt d n=true:=zD (show d+1<=n from this);simp[Cn,IB,hb];rfl
end
inductive Ord where
 |nil
 |op (i:Nat) (t:Ord)
 |br (a b:Ord)
section
variable (P:Program)(ok:Nat->Bool)(n:Nat)
def DU(all:List Oper)(BU:X')(M:Nat->f_)(B:Nat->Addr->d_->Prop)(w0:e_)(K:Env->e_->Prop):Ord->List (Nat×Option Bool)->Env->e_->Prop
 |.nil,_,e,w=>K e w
 |.br a b,kn,e,w=>DU all BU M B w0 K a kn e w/\DU all BU M B w0 K b kn e w
 |.op i r,kn,e,w=>
  match all[i]? with
  |none=>False
  |some o=>match o.guard with
   |none=>Ob P ok BU M B w0 o i (ev e) (λv w'=>DU all BU M B w0 K r kn (Cn n e o.dst v) w') w
   |some (j,I)=>match G6 kn j with
    |some (some b)=>bif Oc b I then Ob P ok BU M B w0 o i (ev e) (λv w'=>DU all BU M B w0 K r kn (Cn n e o.dst v) w') w
      else DU all BU M B w0 K r ((i,none)::kn) (Cn n e o.dst undef) w
    |some none=>DU all BU M B w0 K r ((i,none)::kn) (Cn n e o.dst undef) w
    |none=>match Dz all j with
     |some d=>Al (e d)
       (bif I then Ob P ok BU M B w0 o i (ev (IB n e d (.bool true))) (λv w'=>DU all BU M B w0 K r ((j,some true) :: kn) (Cn n (IB n e d (.bool true)) o.dst v) w') w
        else DU all BU M B w0 K r ((i,none) :: (j,some true) :: kn) (Cn n (IB n e d (.bool true)) o.dst undef) w)
       (bif I then DU all BU M B w0 K r ((i,none) :: (j,some false) :: kn) (Cn n (IB n e d (.bool false)) o.dst undef) w
        else Ob P ok BU M B w0 o i (ev (IB n e d (.bool false))) (λv w'=>DU all BU M B w0 K r ((j,some false) :: kn) (Cn n (IB n e d (.bool false)) o.dst v) w') w)
     |none=>False
end
def pC(BU:X'):Ord->Nat->Bool
 |.nil,_=>false
 |.br a b,i=>pC BU a i||pC BU b i
 |.op j t,i=>Nat.beq j i||(!FO BU j&&pC BU t i)
def sb(BU:X')(AN:List X')(t:Ord)(pre:X'):Bool:=BU.all λi=>FO pre i||!((DZ AN i).all λj=>!FO BU j||FO pre j)||pC BU t i
def U7(N:Nat)(BU:X')(AN:List X'):Ord->X'->Bool
 |.nil,pre=>(List.range N).all (FO pre)
 |.br a b,pre=>U7 N BU AN a pre&&U7 N BU AN b pre
 |.op i t,pre=>Nat.blt i N&&!FO pre i&&(DZ AN i).all (FO pre)&&(bif FO BU i then sb BU AN t (i::pre) else true)&&U7 N BU AN t (i::pre)
def Ys(N:Nat)(BU:X')(AN:List X')(t:Ord):Bool:=sb BU AN t []&&U7 N BU AN t []
inductive Reach:Ord->X'->Ord->Prop where
 |refl (t:Ord):Reach t [] t
 |op {i:Nat} {t t':Ord} {A:X'}:Reach t A t'->Reach (.op i t) (i::A) t'
 |l {a b t':Ord} {A:X'}:Reach a A t'->Reach (.br a b) A t'
 |r {a b t':Ord} {A:X'}:Reach b A t'->Reach (.br a b) A t'
def Hl{l:X'}{i:Nat}:FO l i=false↔i∉l:=by
 rw[<-Cj];cases FO l i<;>simp
def WW{BU:X'}{AN:List X'}{i:Nat}{t:Ord}{pre:X'}(h:U7 N BU AN (.op i t) pre=true) : i<N/\i∉pre/\(∀j∈DZ AN i,j∈pre)/\(i∈BU->sb BU AN t (i::pre)=true)/\U7 N BU AN t (i::pre)=true:=by
 simp only[U7,aE,wW,zH,Hl,Cj] at h;obtain⟨⟨⟨⟨h1,B⟩,I⟩,o⟩,J⟩:=h;refine⟨xS h1,B,I,λhi=>?_,J⟩;rw[Cj.2 hi] at o;exact o
def Lk{BU:X'}{AN:List X'}{t t':Ord}{A:X'}(h:Reach t A t'):∀{pre:X'},U7 N BU AN t pre=true->U7 N BU AN t' (A.reverse++pre)=true/\∀j∈A,j∉pre:=by
 induction h with
 |refl t=>intro pre h;exact⟨h,λj i=>(nomatch i)⟩
 |op _ o=>
  intro pre h;obtain⟨_,B,_,_,I⟩:=WW h;obtain⟨J,O⟩:=o I;refine⟨by simpa using J,λj i=>?_⟩;rcases I3.1 i with rfl|i;exact B;exact λhp=>O j i (aN _ hp)
 |l _ o=>intro pre h;simp[U7,aE] at h;exact o h.1
 |r _ o=>intro pre h;simp[U7,aE] at h;exact o h.2
def ah{BU:X'}{i:Nat}:∀{t:Ord},pC BU t i=true->∃A t',Reach t A (.op i t')/\∀j∈A,j∉BU:=by
 intro t;induction t with
 |nil=>intro h;cases h
 |op j t O=>
  intro h;simp only[pC,yB,aE,zH,Hl] at h;rcases h with h|⟨h1,Q⟩;have:=vw h;subst this;exact⟨[],t,.refl _,λj U=>(nomatch U)⟩;obtain⟨A,t',o,B⟩:=O Q;refine⟨j::A,t',.op o,λk hk=>?_⟩;rcases I3.1 hk with rfl|hk;exact h1;exact B k hk
 |br a b I J=>
  intro h;simp[pC,yB] at h;rcases h with h|h;obtain⟨A,t',o,B⟩:=I h;exact⟨A,t',.l o,B⟩;obtain⟨A,t',o,B⟩:=J h;exact⟨A,t',.r o,B⟩
def TH:∀t:Ord,∃A,Reach t A .nil:=by
 intro t;induction t with
 |nil=>exact⟨[],.refl _⟩
 |op j t o=>obtain⟨A,h⟩:=o;exact⟨_,.op h⟩
 |br a b i _=>obtain⟨A,h⟩:=i;exact⟨A,.l h⟩
def Uu{t t':Ord}{A:X'}(h:Reach t A t'):∀{i:Nat},i∈A->∃B o,Reach t B (.op i o)/\(∀j∈B,j∈A):=by
 induction h with
 |refl t=>intro i hi;cases hi
 |@op j t t' A h I=>
  intro i hi;rcases I3.1 hi with rfl|hi;exact⟨[],t,.refl _,λj O=>(nomatch O)⟩;obtain⟨B,o,h1,J⟩:=I hi;refine⟨j::B,o,.op h1,λk hk=>?_⟩;rcases I3.1 hk with rfl|hk;exact ub;exact aN _ (J k hk)
 |l _ I=>intro i hi;obtain⟨B,o,h1,J⟩:=I hi;exact⟨B,o,.l h1,J⟩
 |r _ I=>intro i hi;obtain⟨B,o,h1,J⟩:=I hi;exact⟨B,o,.r h1,J⟩
section
variable {P:Program}{ds:a_}{ok:Nat->Bool}{n:Nat}{all:List Oper}{BU:X'}{AN Gs:List X'}{e0:Env}{w0:e_}{M:Nat->f_}{K:Env->e_->Prop}
structure RD (all:List Oper) (AN:List X') (pre:X'):Prop where
 lt:∀m∈pre,m<all.length
 cl:∀m∈pre,∀j∈DZ AN m,j∈pre
def RD.cons{pre:X'}{i:Nat}(h:RD all AN pre)(hi:i<all.length)(ha:∀j∈DZ AN i,j∈pre):RD all AN (i::pre):=
 ⟨λm hm=>by rcases I3.1 hm with rfl | hm;exact hi;exact h.lt m hm,λm hm j o=>by
  rcases I3.1 hm with rfl | hm;exact aN _ (ha j o);exact aN _ (h.cl m hm j o)⟩
def Rx(O:XX n all BU AN Gs){kn:List (Nat×Option Bool)}{i:Nat}{o:Oper}(hi:all[i]?=some o)(hk:∀p∈kn,p.1≠i/\p.1<all.length):IT o.dst kn all=false:=by
 unfold IT;cases Q:o.dst with
 |none=>rfl
 |some t=>
  simp only[yX];intro p hp;obtain⟨I,j⟩:=hk p hp;have B:all[p.1]?=some (all[p.1]'j):=by simp[j]
  rw[EH,B];simp only[aAy];cases J:(all[p.1]'j).dst with
  |none=>simp
  |some u=>
   simp only;intro hb;have:=vw hb;subst this;exact I (O.one _ _ _ _ B hi u J Q)
def SD(hG : XX n all BU AN Gs){o : Oper}{Q : Ord}{i : Nat}{pre : X'}{kn : List (Nat×Option Bool)}{e : Env}(a1 : all[i]? = some o)(ha : ∀j∈DZ AN i, j∈pre)(U : ∀p∈kn, p.1∈pre)(hk : IG all kn e)
   (h : DU P ok n all BU M (Zp BU AN M w0) w0 K (.op i Q) kn e w) :
    ∃Y, (∀p∈Y, p.1∈pre) /\ IG all Y e /\
      ((Dm all e o /\ Ob P ok BU M (Zp BU AN M w0) w0 o i (ev e) (λv w' => DU P ok n all BU M (Zp BU AN M w0) w0 K Q Y (Cn n e o.dst v) w') w) \/
       (¬ Dm all e o /\ DU P ok n all BU M (Zp BU AN M w0) w0 K Q ((i, none) :: Y) (Cn n e o.dst undef) w)) := by
  unfold DU at h;rw[a1] at h;simp only at h;cases J : o.guard with
  |none =>
    simp[J] at h;exact⟨kn, U, hk, .inl ⟨(λg b V => by rw[J] at V; cases V), h⟩⟩
  |some gb =>
    obtain⟨g, B⟩ := gb;simp[J] at h;have a8 : g∈pre := ha g (hG.guard i o a1 g B J).1;have wt : yv all e g = some B -> Dm all e o := λI g' b' V => by rw[J] at V; cases V; exact I
    have wf : yv all e g ≠ some B -> ¬Dm all e o := λI hw => I (hw g B J);cases a6 : G6 kn g with
    |some b =>
      have I := hk g b a6;simp[a6] at h;cases b with
      |none => exact⟨kn, U, hk, .inr ⟨wf (by rw[I]; simp), h⟩⟩
      |some b =>
        simp only[Ql] at h;cases Z : (b==B) with
        |true =>
          simp only[Z, xR] at h;have := by simpa using Z
          exact⟨kn, U, hk, .inl ⟨wt (by rw[I, this]), h⟩⟩
        |false =>
          simp only[Z, xN] at h;have := by simpa using Z
          exact⟨kn, U, hk, .inr ⟨wf (by rw[I]; simp[this]), h⟩⟩
    |none =>
      simp[a6] at h;obtain⟨d, hd⟩ := (hG.guard i o a1 g B J).2;simp[hd] at h;have a7 : yv all e g = bv (e d) := by simp[yv, hd]
      have O : ∀b, ∀p∈(g, b)::kn, p.1∈pre := λb p hp => by
        rcases I3.1 hp with rfl|hp
        . exact a8
        . exact U p hp
      rcases Ju h with⟨X, hb⟩|⟨X, hb⟩
      . have I : yv all e g = some true := by rw[a7, X]; rfl
        rw[JJ X] at hb;cases B with
        |true => simp at hb; exact⟨_, O _, hk.cons I, .inl ⟨wt I, hb⟩⟩
        |false => simp at hb; exact⟨_, O _, hk.cons I, .inr ⟨wf (by rw[I]; simp), hb⟩⟩
      . have I : yv all e g = some false := by rw[a7, X]; rfl
        rw[JJ X] at hb;cases B with
        |true => simp at hb; exact⟨_, O _, hk.cons I, .inr ⟨wf (by rw[I]; simp), hb⟩⟩
        |false => simp at hb; exact⟨_, O _, hk.cons I, .inl ⟨wt I, hb⟩⟩
def OK(bk:DP P ok)(hG:XX n all BU AN Gs){L:f_}(hL:∀i,i<all.length->L i->∀j∈DZ AN i,L j){t t':Ord}{A:X'}(hr:Reach t A t') : ∀(pre:X') (kn:List (Nat×Option Bool)) (vals:Nat->d_) (w:e_),U7 all.length BU AN t pre=true->RD all AN pre->(∀q∈kn,q.1∈pre)->IG all kn (EZ all n e0 vals (λm=>m∈pre))->(∀(m:Nat) o,all[m]?=some o->(m∈pre\/L m)->m∉BU->Gd P all BU AN n e0 w0 M vals m o)->(∀j∈BU,j∈A->¬L j)->DU P ok n all BU M (Zp BU AN M w0) w0 K t kn (EZ all n e0 vals (λm=>m∈pre)) w->∃vals' B w',(∀m,(m∈pre\/L m)->vals' m=vals m)/\(∀q∈B,q.1∈A.reverse++pre)/\IG all B (EZ all n e0 vals' (λm=>m∈A.reverse++pre))/\ (∀(m:Nat) o,all[m]?=some o->(m∈A.reverse++pre\/L m)->m∉BU->Gd P all BU AN n e0 w0 M vals' m o)/\((∀j∈BU,j∉A)->w'=w)/\RD all AN (A.reverse++pre)/\ DU P ok n all BU M (Zp BU AN M w0) w0 K t' B (EZ all n e0 vals' (λm=>m∈A.reverse++pre)) w':=by
 induction hr with
 |refl t=>intro pre kn vals w ho hp h1 h2 h3 _ h;exact⟨vals,kn,w,I_,h1,h2,h3,I_,hp,h⟩
 |l _ ih=>intro pre kn vals w ho hp h1 h2 h3 h4 h;simp[U7,aE] at ho;exact ih pre kn vals w ho.1 hp h1 h2 h3 h4 h.1
 |r _ ih=>intro pre kn vals w ho hp h1 h2 h3 h4 h;simp[U7,aE] at ho;exact ih pre kn vals w ho.2 hp h1 h2 h3 h4 h.2
 |@op p t t' A _ ih=>
  intro pre kn vals w ho hp bl hk hg al h;obtain⟨an,U,a6,_,bp⟩:=WW ho;have I:all[p]?=some all[p]:=by simp[an]
  generalize all[p]=o at I;obtain⟨V,a1,a7,h⟩:=SD hG I a6 bl hk h;have av:∀t∈G4 all o,EZ all n e0 vals (λm=>m∈pre) t=view all AN n e0 vals p t:=
   Qt hG I a6 (λm hm aa bs=>U (hp.cl m bs p aa)) U
  have J:=Rx hG I (kn:=V) λq hq=>⟨λe=>U (e▸a1 q hq),hp.lt _ (a1 q hq)⟩;have eA:(p::A).reverse++pre=A.reverse++(p::pre):=D_;rw[eA];have next:∀(v:d_) (B:List (Nat×Option Bool)) (w1:e_),(L p->v=vals p)->(∀q∈B,q.1∈p::pre)->IG all B (Cn n (EZ all n e0 vals (λm=>m∈pre)) o.dst v)->
    (p∉BU->(Dm all (view all AN n e0 vals p) o->K5 P (Zn BU AN p) M w0 o (view all AN n e0 vals p) v)/\(¬Dm all (view all AN n e0 vals p) o->v=undef))->
    (p∉BU->w1=w)->DU P ok n all BU M (Zp BU AN M w0) w0 K t B (Cn n (EZ all n e0 vals (λm=>m∈pre)) o.dst v) w1->
    ∃vals' B w',(∀m,(m∈pre\/L m)->vals' m=vals m)/\(∀q∈B,q.1∈A.reverse++(p::pre))/\IG all B (EZ all n e0 vals' (λm=>m∈A.reverse++(p::pre)))/\
     (∀(m:Nat) o,all[m]?=some o->(m∈A.reverse++(p::pre)\/L m)->m∉BU->Gd P all BU AN n e0 w0 M vals' m o)/\((∀j∈BU,j∉p::A)->w'=w)/\RD all AN (A.reverse++(p::pre))/\
     DU P ok n all BU M (Zp BU AN M w0) w0 K t' B (EZ all n e0 vals' (λm=>m∈A.reverse++(p::pre))) w':=by
   intro v B w1 ax ay b0 c4 c6 hc;have b6:Cn n (EZ all n e0 vals (λm=>m∈pre)) o.dst v=EZ all n e0 (λq=>if q=p then v else vals q) (λm=>m∈p::pre):=
    Qx hG I (λm=>by simp[or_comm]) (λm _ aa=>by simp[aa]) D_ U
   rw[b6] at b0 hc;have c7:∀m,m<all.length->(m∈p::pre\/L m)->view all AN n e0 (λq=>if q=p then v else vals q) m=view all AN n e0 vals m:=λm hm O=>
    Jj hG λj hj=>by
     by_cases b7:j=p;subst b7;rcases O with O|O;rcases I3.1 O with rfl|O;exact(U (a6 _ hj)).elim;exact(U (hp.cl m O j hj)).elim;simp[ax (hL m hm O j hj)];simp[b7]
   obtain ⟨vals',c8,w',r1,r2,r3,r4,r5,r7,r6⟩:=ih (p :: pre) B (λq=>if q=p then v else vals q) w1 bp (hp.cons an a6) ay b0 (λm o' hm O a8=>by
     unfold Gd;rw [c7 m ((Bq.1 hm).1) O];by_cases Y:m=p;subst Y;rw [I] at hm;cases hm;simp;exact c4 a8;have:=hg m o' hm (O.imp (λh=>(I3.1 h).resolve_left Y) id) a8;unfold Gd at this;simpa [Y] using this) (λj hj h1=>al j hj (aN _ h1)) hc
   refine⟨vals',c8,w',λm hm=>?_,r2,r3,r4,λb8=>?_,r7,r6⟩;rw[r1 m (hm.imp (λh=>aN _ h) id)];by_cases Y:m=p;subst Y;rcases hm with hm|hm;exact(U hm).elim;simp[ax hm];simp[Y];rw[r5 λj hj h1=>b8 j hj (aN _ h1)];exact c6 λQ=>b8 p Q ub
  have X:=Jv hG I av;have kc:∀q∈V,q.1∈p::pre:=λq hq=>aN _ (a1 q hq);have b9:∀q∈(p,none)::V,q.1∈p::pre:=λq hq=>by
   rcases I3.1 hq with rfl|hq;exact ub;exact kc q hq
  by_cases Q:p∈BU;have ba:=al p Q ub;rcases h with⟨hw,Z⟩|⟨hw,Z⟩
  .unfold Ob at Z;rw[Cj.2 Q] at Z;simp[xR] at Z;obtain⟨v,w1,ca,c9⟩:=Ue (Tb bk I_ I_ Z);exact next v V w1 (λh=>(ba h).elim) kc (a7.put J _) (λh=>(h Q).elim) (λh=>(h Q).elim) c9
  .exact next undef ((p,none)::V) w (λh=>(ba h).elim) b9 ((a7.put J _).cons (jq hG I)) (λh=>(h Q).elim) I_ Z
  have hm:=Hl.2 Q;rcases h with⟨hw,Z⟩|⟨hw,Z⟩
  .unfold Ob at Z;rw[hm] at Z;simp[xN] at Z;obtain⟨v,h1,h2⟩:=Zr hm Z;have bb:=h2.congr (hG.gX p o I) λt ht=>av t (Lf ht);refine next v V w (λak=>?_) kc (a7.put J _) (λ_=>⟨λ_=>bb,λhn=>(hn (X.1 hw)).elim⟩) I_ h1
   exact bb.vh ((hg p o I (.inr ak) Q).1 (X.1 hw))
  .refine next undef ((p,none)::V) w (λak=>((hg p o I (.inr ak) Q).2 λh=>hw (X.2 h)).symm) b9 ((a7.put J _).cons (jq hG I)) (λ_=>⟨λh=>(hw (X.2 h)).elim,I_⟩) I_ Z
structure cq (P:Program) (ds:a_) (ok:Nat->Bool) (n:Nat) (all:List Oper) (BU:X') (AN:List X') (e0:Env) (w0:e_) (M:Nat->f_) (K:Env->e_->Prop) (L:f_) (a:Act) (w:e_):Prop where
 ex:∃(t:Ord) (pre:X') (vals:Nat->d_) (kn:List (Nat×Option Bool)),
  Fr ds n (EZ all n e0 vals (λm=>L m/\m<all.length)) a/\U7 all.length BU AN t pre=true/\sb BU AN t pre=true/\RD all AN pre/\(∀q∈kn,q.1∈pre)/\IG all kn (EZ all n e0 vals (λm=>m∈pre))/\
  (∀(m:Nat) o,all[m]?=some o->(m∈pre\/L m)->m∉BU->Gd P all BU AN n e0 w0 M vals m o)/\(∀j∈BU,L j↔j∈pre)/\
  DU P ok n all BU M (Zp BU AN M w0) w0 K t kn (EZ all n e0 vals (λm=>m∈pre)) w
 U':AK (λb=>∃j∈BU,L j/\M j b) w0 w
 KE:∀i,i<all.length->L i->∀j∈DZ AN i,L j
def Zg(ch:DP P ok)(Z:XX n all BU AN Gs){ops:Array Oper}(bk:ops.toList=all) : ∀(fuel:Nat) (I:Array Bool) (a:Act) (w:e_),I.size=ops.size->I.toList.count false<=fuel->cq P ds ok n all BU AN e0 w0 M K (λm=>I.getD m false=true) a w->wpAny P .any ops (LB ds all n e0 K) fuel I a w:=by
 have ey:ops.size=all.length:=by rw[<-bk];simp
 have bl:∀i:Nat,ops[i]?=all[i]?:=λi=>by rw[<-bk];simp
 have ei:∀(I:Array Bool) (i:Nat),i∈Region.ready .any ops I->∃o,all[i]?=some o/\I.getD i true=false/\∀e∈o.after,Region.binds .any e=true->I.getD e.on false=true:=by
  intro I i hi;obtain⟨h1,o,h2,h3⟩:=mem_ready.1 hi;exact⟨o,by rw[<-bl];exact h2,h1,h3⟩
 have EU:∀(I:Array Bool) (a:Act) (w:e_),I.size=ops.size->cq P ds ok n all BU AN e0 w0 M K (λm=>I.getD m false=true) a w->Region.ready .any ops I=[]->LB ds all n e0 K .normal a w:=by
  intro I a w bp hI hr;have ax:∀i,i<all.length->I.getD i false=true:=by
   intro i;induction i using Nat.strongRecOn with
   |_ i ih=>
    intro hi;cases hc:I.getD i false with
    |true=>rfl
    |false=>
     have:i∈Region.ready .any ops I:=by
      refine mem_ready.2 ⟨?_,all[i],by rw[bl];simp[hi],λe he hb=>?_⟩;have:i<I.size:=E;simp[this] at hc ⊢;exact hc;have:=Z.H9 i all[i] (by simp[hi]) e he hb;exact ih e.on this E
     rw[hr] at this;cases this
  obtain⟨t,pre,vals,kn,bs,ho,_,hp,c4,hk,hg,V,hc⟩:=hI.ex;obtain⟨A,al⟩:=TH t;obtain⟨cu,cx⟩:=Lk al ho;have a1:∀j∈BU,j∉A:=λj J a6=>cx j a6 ((V j J).1 (ax j (Z.oy j J)));obtain⟨vals',ej,w',r1,r2,r3,r4,r5,r7,r6⟩:=OK (L:=λm=>I.getD m false=true) ch Z hI.KE al pre kn vals w ho hp c4 hk hg (λj J a6=>(a1 j J a6).elim) hc;have hw:=r5 a1;subst hw;have ay:∀m,m<all.length->m∈A.reverse++pre:=λm hm=>by
   simp only[U7,wW,Cj] at cu;exact cu m (xh.2 hm)
  have b6:EZ all n e0 vals' (λm=>m∈A.reverse++pre)=EZ all n e0 vals (λm=>I.getD m false=true/\m<all.length):=by
   funext t;exact JH Z λm hm _=>⟨⟨λh=>⟨ax m hm,hm⟩,λh=>ay m hm⟩,λ_=>r1 m (.inr (ax m hm))⟩
  unfold DU at r6;rw[b6] at r6;refine⟨rfl,_,bs,λj V=>Lj λm _ hm hd=>?_,r6⟩;have ez:all[m]?=some all[m]:=by simp[hm]
  rw[EH,ez] at hd;exact V all[m] D_ hd
 intro fuel;induction fuel with
 |zero=>
  intro I a w bp hc hI;have hr:Region.ready .any ops I=[]:=by
   cases hr:Region.ready .any ops I with
   |nil=>rfl
   |cons i r=>
    exfalso;obtain⟨o,h1,h2,_⟩:=ei I i (by rw[hr];simp);have b0:i<I.size:=by have:=(Bq.1 h1).1;omega
    simp[b0] at h2;have:false∈I.toList:=by rw[<-h2];simp
    have:=List.count_pos_iff.2 this;omega
  exact⟨hr,EU I a w bp hI hr⟩
 |succ fuel ih=>
  intro I a w bp hc hI;refine⟨EU I a w bp hI,λi hi=>?_⟩;obtain⟨o,Q,dj,dk⟩:=ei I i hi;have b0:=(Bq.1 Q).1;have b7:i<I.size:=E;have an:¬I.getD i false=true:=by simp[b7] at dj ⊢;exact dj
  have b8:∀j∈DZ AN i,I.getD j false=true:=by
   intro j V;obtain⟨e,he,hb,h1⟩:=Z.vI i o Q j V;have hL:=dk e he hb;rcases h1 with rfl|h1;exact hL;exact hI.KE e.on (by have:=Z.H9 i o Q e he hb;omega) hL j h1
  obtain⟨t,pre,vals,kn,bs,bb,c6,hp,c4,hk,hg,V,e6⟩:=hI.ex;have e7:∀t∈G4 all o,EZ all n e0 vals (λm=>I.getD m false=true/\m<all.length) t=view all AN n e0 vals i t:=
   Qt Z Q (λj V=>⟨b8 j V,by have:=Z.lt b0 V;omega⟩) (λm hm O e8=>an (hI.KE m hm e8.1 i O)) (λh=>an h.1)
  have ek:=bs.eval;have a7:(Region.wanted o (yielded ops a.tmps)=true)↔Dm all (view all AN n e0 vals i) o:=by
   rw[<-Jv Z Q e7];unfold Region.wanted Dm;cases hg:o.guard with
   |none=>simp
   |some gb=>
    obtain⟨g,b⟩:=gb;have:=MB bs (ops:=ops) (j:=g);rw[bk] at this;simp only[this,zZ];constructor;rintro h g' b' eA;cases eA;exact h;intro h;exact h g b rfl
  have en:∀m,(I.setIfInBounds i true).getD m false=true↔(I.getD m false=true\/m=i):=by
   intro m;simp[xU,aAO];by_cases O:i=m;subst O;simp[b7];simp[O,yH O]
  have eo:(I.setIfInBounds i true).toList.count false<=fuel:=by
   have hb:I.toList[i]'(by simpa using b7)=false:=by simp[b7] at dj;simpa using dj
   have:(I.setIfInBounds i true).toList.count false+1=I.toList.count false:=by
    rw[Array.toList_setIfInBounds];exact O4 I.toList i (by rw[<-hb];simp)
   omega
  have e1:∀m,m<all.length->(I.getD m false=true\/m=i)->∀j∈DZ AN m,(I.getD j false=true\/j=i):=by
   rintro m hm (eB|rfl) j V;exact .inl (hI.KE m hm eB j V);exact .inl (b8 j V)
  have put:∀(vals':Nat->d_) (v:d_),(∀m,I.getD m false=true->vals' m=vals m)->vals' i=v->
    Fr ds n (EZ all n e0 vals' (λm=>(I.getD m false=true\/m=i)/\m<all.length)) (a.put o.dst v):=by
   intro vals' v h1 h2;rw[<-Qx Z (vals:=vals) (S:=λm=>I.getD m false=true/\m<all.length) (v:=v) Q (λm=>?_) (λm hm O=>h1 m hm.1) h2 (λhh=>an hh.1)];exact bs.put o.dst v;constructor;rintro⟨h1|h1,h2⟩;exact .inl ⟨h1,h2⟩;exact .inr h1;rintro(⟨h1,h2⟩|rfl);exact⟨.inl h1,h2⟩;exact⟨.inr rfl,b0⟩
  have go:∀(v:d_) (w':e_),cq P ds ok n all BU AN e0 w0 M K (λm=>I.getD m false=true\/m=i) (a.put o.dst v) w'->wpAny P .any ops (LB ds all n e0 K) fuel (I.setIfInBounds i true) (a.put o.dst v) w':=by
   intro v w' h1;apply ih _ _ _ (by simpa using bp) eo;have:(λm=>(I.setIfInBounds i true).getD m false=true)=(λm=>I.getD m false=true\/m=i):=by
    funext m;exact propext (en m)
   rw[this];exact h1
  unfold wpOp;rw[bl i,Q];simp only;have c7:∀(vals':Nat->d_),(∀m,I.getD m false=true->vals' m=vals m)->view all AN n e0 vals' i=view all AN n e0 vals i:=λvals' h=>Jj Z λj V=>h j (b8 j V);by_cases a8:i∈BU;have eC:i∉pre:=λh=>an ((V i a8).2 h);have eI:pC BU t i=true:=by
   simp only[sb,wW] at c6;have h1:=c6 i a8;rw[Hl.2 eC] at h1;have h2:((DZ AN i).all λj=>!FO BU j||FO pre j)=true:=by
    simp only[wW,yB,zH,Cj,Hl];intro j eL;by_cases J:j∈BU;exact .inr ((V j J).1 (b8 j eL));exact .inl J
   simpa[h2] using h1
  obtain⟨A,t',al,eN⟩:=ah eI;obtain⟨cu,cx⟩:=Lk al bb;have a1:∀j∈BU,j∉A:=λj J a6=>eN j a6 J;obtain⟨vals',ej,w',r1,r2,r3,r4,r5,r7,r6⟩:=OK (L:=λm=>I.getD m false=true) ch Z hI.KE al pre kn vals w bb hp c4 hk hg (λj J a6=>(a1 j J a6).elim) e6;have hw:=r5 a1;subst hw;obtain⟨_,ay,e9,ea,ep⟩:=WW cu;generalize er:A.reverse++pre=U at *;have eR:∀j∈BU,j∈U↔j∈pre:=λj J=>by
   rw[<-er,DN,List.mem_reverse];exact⟨λh=>h.resolve_left (a1 j J),.inr⟩
  obtain⟨dr,c8,et,h6⟩:=SD Z Q e9 r2 r3 r6;have hv:=c7 vals' λm hm=>r1 m (.inr hm);have e2:∀t∈G4 all o,EZ all n e0 vals' (λm=>m∈U) t=view all AN n e0 vals i t:=λt ht=>by
   rw[Qt Z Q e9 (λm hm O e8=>ay (r7.cl m e8 i O)) ay t ht,hv]
  have b9:=Rx Z Q (kn:=dr) λq hq=>⟨λe=>ay (e▸c8 q hq),r7.lt _ (c8 q hq)⟩;have e3:=Jv Z Q e2;have ba:∀(v:d_) (w1:e_) (c9:List (Nat×Option Bool)),(∀q∈c9,q.1∈i::U)->IG all c9 (Cn n (EZ all n e0 vals' (λm=>m∈U)) o.dst v)->AK (λb=>∃j∈BU,(I.getD j false=true\/j=i)/\M j b) w0 w1->
    DU P ok n all BU M (Zp BU AN M w0) w0 K t' c9 (Cn n (EZ all n e0 vals' (λm=>m∈U)) o.dst v) w1->cq P ds ok n all BU AN e0 w0 M K (λm=>I.getD m false=true\/m=i) (a.put o.dst v) w1:=by
   intro v w1 c9 h1 h2 h3 h4;have eu:Cn n (EZ all n e0 vals' (λm=>m∈U)) o.dst v=EZ all n e0 (λq=>if q=i then v else vals' q) (λm=>m∈i::U):=
    Qx Z Q (λm=>by simp[or_comm]) (λm _ O=>by simp[O]) D_ ay
   rw[eu] at h2 h4;refine⟨⟨t',i::U,λq=>if q=i then v else vals' q,c9,put _ v (λm hm=>?_) D_,ep,ea a8,r7.cons b0 e9,h1,h2,?_,?_,h4⟩,h3,e1⟩;have:m≠i:=by rintro rfl;exact an hm
   simp[this,r1 m (.inr hm)];intro m o' hm ec dT;have ca:=(Bq.1 hm).1;have O:m≠i:=by rintro rfl;exact dT a8
   have av:m∈U\/I.getD m false=true:=by
    rcases ec with h|h|h;exact .inl ((I3.1 h).resolve_left O);exact .inr h;exact(O h).elim
   refine Gd.U1 Z ca (λj V=>?_) (by simp[O]) (r4 m o' hm av dT);have:j≠i:=by
    rintro rfl;rcases av with h|h;exact ay (r7.cl m h j V);exact an (hI.KE m ca h j V)
   simp[this];intro j J;rw[V j J,I3,eR j J];exact or_comm
  have cc:AK (λb=>∃ j ∈ BU,(I.getD j false=true\/j=i)/\M j b) w0 w':=hI.U'.mono λb _ ⟨j,V,hL,hb⟩=>⟨j,V,.inl hL,hb⟩;have kc:∀ q ∈ dr,q.1 ∈ i :: U:=λq hq=>aN _ (c8 q hq);by_cases aa:Dm all (view all AN n e0 vals i) o;rw [Cx (a7.2 aa)];left;rcases h6 with ⟨_,hx⟩ | ⟨eV,_⟩;unfold Ob at hx;rw [Cj.2 a8] at hx;simp [xR] at hx;unfold Oper.wp;rw [ek,Js (e':=EZ all n e0 vals' (λm=>m ∈ U)) (Z.gX i o Q) (λt ht=>by rw [e7 t (Lf ht),e2 t (Lf ht)])];exact nU (Tb ch I_ I_ hx) λv w1 hv=>go v w1 (ba v w1 dr kc (et.put b9 _) ((cc.trans (hv.1.mono λb _ hb=>⟨i,a8,.inr rfl,hb⟩))) hv.2);exact (eV (e3.2 aa)).elim;rw [Bp (λh=>aa (a7.1 h))];rcases h6 with ⟨hw,_⟩ | ⟨_,hx⟩;exact (aa (e3.1 hw)).elim;exact go undef w' (ba undef w' ((i,none) :: dr) (λq hq=>by
   rcases I3.1 hq with rfl | hq;exact ub;exact kc q hq) ((et.put b9 _).cons (jq Z Q)) cc hx)
  have key:∃v:d_,(i∈pre->v=vals i)/\(Dm all (view all AN n e0 vals i) o->K5 P (Zn BU AN i) M w0 o (view all AN n e0 vals i) v)/\(¬Dm all (view all AN n e0 vals i) o->v=undef):=by
   by_cases ed:i∈pre;exact⟨vals i,I_,hg i o Q (.inl ed) a8⟩;obtain⟨A0,e4⟩:=TH t;obtain⟨e5,_⟩:=Lk e4 bb;have eX:i∈A0:=by
    simp only[U7,wW,Cj] at e5;have:=e5 i (xh.2 b0);rw[DN,List.mem_reverse] at this;exact this.resolve_right ed
   obtain⟨B,t1,ew,_⟩:=Uu e4 eX;have al:Reach t (B++[i]) t1:=by
    have tr:∀{a b c:Ord} {X Y:X'},Reach a X b->Reach b Y c->Reach a (X++Y) c:=by
     intro a b c X Y h1 h2;induction h1 with
     |refl _=>exact h2
     |op _ ih=>exact .op (ih h2)
     |l _ ih=>exact .l (ih h2)
     |r _ ih=>exact .r (ih h2)
    exact tr ew (.op (.refl _))
   obtain⟨_,cx⟩:=Lk al bb;obtain⟨vals',ej,w',r1,r2,r3,r4,r5,r7,r6⟩:=OK (L:=λm=>I.getD m false=true) ch Z hI.KE al pre kn vals w bb hp c4 hk hg (λj J a6 fo=>cx j a6 ((V j J).1 fo)) e6;have:=r4 i o Q (.inl D_) a8;unfold Gd at this;rw[c7 vals' λm hm=>r1 m (.inr hm)] at this;exact⟨vals' i,λh=>(ed h).elim,this⟩
  obtain⟨v,fs,ee⟩:=key;have Rq:cq P ds ok n all BU AN e0 w0 M K (λm=>I.getD m false=true\/m=i) (a.put o.dst v) w:=by
   have ak:∀m,(m∈pre\/I.getD m false=true)->(if m=i then v else vals m)=vals m:=by
    intro m hm;by_cases O:m=i;subst O;rcases hm with h|h;simp[fs h];exact(an h).elim;simp[O]
   have b6:EZ all n e0 (λm=>if m=i then v else vals m) (λm=>m∈pre)=EZ all n e0 vals (λm=>m∈pre):=by
    funext t;exact JH Z λm _ _=>⟨yY,λh=>ak m (.inl h)⟩
   refine⟨⟨t,pre,λm=>if m=i then v else vals m,kn,put _ v (λm hm=>ak m (.inr hm)) D_,bb,c6,hp,c4,by rw[b6];exact hk,?_,?_,by rw[b6];exact e6⟩,hI.U'.mono λb _ ⟨j,V,hL,hb⟩=>⟨j,V,.inl hL,hb⟩,e1⟩;intro m o' hm ec dT;have ca:=(Bq.1 hm).1;by_cases O:m=i;subst O;rw[Q] at hm;cases hm;unfold Gd;rw[Jj Z (vals':=vals) λj V=>by have:=Z.lt b0 V;simp[(E:j≠m)]];simp;exact ee;have av:m∈pre\/I.getD m false=true:=by
    rcases ec with h|h|h;exact .inl h;exact .inr h;exact(O h).elim
   refine Gd.U1 Z ca (λj V=>?_) (by simp[O]) (hg m o' hm av dT);have fv:j∈pre\/I.getD j false=true:=by
    rcases av with h|h;exact .inl (hp.cl m h j V);exact .inr (hI.KE m ca h j V)
   exact(ak j fv).symm;intro j J;have ef:j≠i:=by rintro rfl;exact a8 J
   rw[<-V j J];simp[ef]
  have eh:=go v w Rq;by_cases aa:Dm all (view all AN n e0 vals i) o;rw[Cx (a7.2 aa)];left;unfold Oper.wp;rw[ek,Js (e':=view all AN n e0 vals i) (Z.gX i o Q) (λt ht=>e7 t (Lf ht)),ee.1 aa w (hI.U'.mono λb _ ⟨j,V,hL,hb⟩=>⟨j,eQ V λef=>an (hI.KE j (Z.oy j V) hL i ef),hb⟩)];exact eh;rw[Bp (λh=>aa (a7.1 h))];have:=ee.2 aa;rw[this] at eh;exact eh
def Vf{ops:Array Oper}{a:Act}{t:Ord}(J:DP P ok)(hm:P.follows .mixedOrders=true)(Q:Fr ds n e0 a) (U:gJ n ops.toList BU AN Gs=true)(ht:Ys ops.toList.length BU AN t=true) (h:DK BU AN w.drew λM V=>DU P ok n ops.toList BU M V w.drew K t [] e0 w.drew) : wpAny P .any ops (LB ds ops.toList n e0 K) ops.size (Array.replicate ops.size false) a { w with drawn:=w.drawn+1 }:=by
 obtain⟨M,h⟩:=h;simp[Ys,aE] at ht;refine Zg (M:=M) (w0:=w.drew) J (nH U) rfl ops.size (Array.replicate ops.size false) a _ D_ ?_ ?_;simp;have I:∀m:Nat,¬(Array.replicate ops.size false).getD m false=true:=λm=>by
  simp[xU,aAr];split<;>simp
 have B:∀S:f_,(∀m,¬S m)->EZ ops.toList n e0 (λ_=>undef) S=e0:=λS X=>by
  funext t;exact Lj λm hm _=>(X m hm).elim
 refine⟨⟨t,[],λ_=>undef,[],?_,ht.2,ht.1,⟨λm hm=>(nomatch hm),λm hm=>(nomatch hm)⟩,λq Y=>(nomatch Y),λj b hb=>by simp[G6] at hb,λm o _ O _=>?_,λj _=>?_,?_⟩,AK.refl _ _,λi _ hi=>(I i hi).elim⟩;rw[B _ λm hm=>I m hm.1];exact Q;rcases O with h|h;cases h;exact(I m h).elim;exact⟨λh=>(I j h).elim,λh=>(nomatch h)⟩;rw[B _ λm hm=>(nomatch hm)];exact h
end
section
inductive HY where
 |nil
 |node (L:X') (W:List (Nat×Nat)) (a b:HY)
 |cut (L:X') (W:List (Nat×Nat)) (a b:HY)
 |D8
 |dt (BU:X') (AN Gs:List X') (t:Ord)
def sD:Nat->Nat->Ord
 |0,_=>.nil
 |k+1,i=>.op i (sD k (i+1))
def HY.dc(BU:X')(AN Gs:List X'):HY:=.dt BU AN Gs (sD AN.length 0)
def qf:List (Nat×Nat)->Nat->Bool
 |[],_=>false
 |(lo,hi)::r,j=>(Nat.ble lo j&&Nat.ble j hi)||qf r j
def lk:X'->V_->Nat->d_->d_
 |[],_,_,d=>d
 |l::L,vs,j,d=>bif Nat.beq l j then vs.headD undef else lk L vs.tail j d
def tM(L:X')(W:List (Nat×Nat))(vs:V_)(h e:Env):Env:=λj=>lk L vs j (bif qf W j then h j else e j)
def Lq(W:List (Nat×Nat)):Code->Bool
 |.region _ ops _=>ops.toList.all λo=>match o.dst with | some d=>qf W d | none=>true
 |.seq a b=>Lq W a&&Lq W b
 |.cond _ a b=>Lq W a&&Lq W b
 |.block _ a=>Lq W a
 |.loop a=>Lq W a
 |.scope a=>Lq W a
 |.rangeFunc ..=>false
 |_=>true
def Wr:Code->f_
 |.region _ ops _,j=>∃o∈ops.toList,o.dst=some j
 |.seq a b,j=>Wr a j\/Wr b j
 |.cond _ a b,j=>Wr a j\/Wr b j
 |.block _ a,j=>Wr a j
 |.loop a,j=>Wr a j
 |.scope a,j=>Wr a j
 |.rangeFunc ..,_=>True
 |_,_=>False
def FG{W:List (Nat×Nat)}:∀{c:Code},Lq W c=true->∀j,Wr c j->qf W j=true
 |.region _ ops _,h,j,⟨o,B,I⟩=>by
  simp only[Lq,wW] at h;have:=h o B;rw[I] at this;exact this
 |.seq a b,h,j,i=>by
  simp[Lq,aE] at h;exact i.elim (FG h.1 j) (FG h.2 j)
 |.cond _ a b,h,j,i=>by
  simp[Lq,aE] at h;exact i.elim (FG h.1 j) (FG h.2 j)
 |.block _ a,h,j,i=>FG (c:=a) h j i
 |.loop a,h,j,i=>FG (c:=a) h j i
 |.scope a,h,j,i=>FG (c:=a) h j i
 |.rangeFunc ..,h,_,_=>by simp[Lq] at h
 |.skip,_,_,i=>i.elim
 |.exit _,_,_,i=>i.elim
 |.label _,_,_,i=>i.elim
 |.goto _,_,_,i=>i.elim
 |.ret,_,_,i=>i.elim
 |.refuse _,_,_,i=>i.elim
def qD(e:Env)(L:X')(j:Nat)(d:d_):lk L (L.map e) j d=if j∈L then e j else d:=by
 induction L with
 |nil=>simp[lk]
 |cons l L i=>
  simp only[lk,S4,JS,wL,i];cases hb:Nat.beq l j with
  |true=>have:=vw hb;subst this;simp
  |false=>
   have:j≠l:=by intro e;subst e;simp at hb
   simp[this]
def VI{L:X'}{W:List (Nat×Nat)}{e e':Env}(h:∀j,qf W j=false->e' j=e j):tM L W (L.map e') e' e=e':=by
 funext j;simp only[tM,qD];split;rfl;cases i:qf W j with
 |true=>simp
 |false=>simp[h j i]
variable (P:Program)(ok:Nat->Bool)(n:Nat)
def Nk(P:Program)(l:Nat)(args:V_)(K:Cont)(w:e_):Prop:=∃f tmps i body,(Instr.yield l args.toArray).run P w=.ok (.round l f tmps i body) w/\RoundIn Fence.wide 0 P l f tmps i body w λe w'=>∃v,e=.returned v/\K v w'
def DD(P:Program)(ok:Nat->Bool)(f:d_)(args:V_)(K:Cont)(w:e_):Prop:=Be P ok f args K w\/∃l,f=.func (.yield l) #[] #[]/\Nk P l args K w
def rM(o:Oper)(ρ:Operand->d_)(K:Cont)(w:e_):Prop:=
 match o.op with
 |.call c=>match c.callee with
  |.value (.func _)=>HW P ok o ρ K w
  |.value f=>DD P ok (ρ f) (c.args.toList.map ρ) K w
  |_=>HW P ok o ρ K w
 |_=>HW P ok o ρ K w
def Na(all:List Oper)(K:Env->e_->Prop):List Oper->Nat->List (Nat×Option Bool)->Env->e_->Prop
 |[],_,_,e,w=>K e w
 |o::B,i,kn,e,w=>
  bif IT o.dst kn all then False else
  match o.guard with
  |none=>rM P ok o (ev e) (λv w'=>Na all K B (i+1) kn (Cn n e o.dst v) w') w
  |some (j,I)=>match G6 kn j with
   |some (some b)=>bif Oc b I then rM P ok o (ev e) (λv w'=>Na all K B (i+1) kn (Cn n e o.dst v) w') w
     else Na all K B (i+1) ((i,none)::kn) (Cn n e o.dst undef) w
   |some none=>Na all K B (i+1) ((i,none)::kn) (Cn n e o.dst undef) w
   |none=>match Dz all j with
    |some d=>bif IT o.dst ((j,none)::kn) all then False else Al (e d)
      (bif I then rM P ok o (ev (IB n e d (.bool true))) (λv w'=>Na all K B (i+1) ((j,some true) :: kn) (Cn n (IB n e d (.bool true)) o.dst v) w') w
       else Na all K B (i+1) ((i,none) :: (j,some true) :: kn) (Cn n (IB n e d (.bool true)) o.dst undef) w)
      (bif I then Na all K B (i+1) ((i,none) :: (j,some false) :: kn) (Cn n (IB n e d (.bool false)) o.dst undef) w
       else rM P ok o (ev (IB n e d (.bool false))) (λv w'=>Na all K B (i+1) ((j,some false) :: kn) (Cn n (IB n e d (.bool false)) o.dst v) w') w)
    |none=>False
def JZ(C:e_->Prop)(x:d_)(K:d_->Prop):Prop:=∃a v,x=.pointer (some a)/\(∀w,C w->w.cell? a=some v)/\K v
def RL(C:e_->Prop)(k:Nat)(x:d_)(K:d_->Prop):Prop:=∃a vs,x=.pointer (some a)/\List.length vs=k/\(∀w,C w->∀j v,vs[j]?=some v->w.cell? (a.add j)=some v)/\K (.agg vs.toArray)
def Qy(P:Program)(C:e_->Prop)(g:Nat)(args:V_)(K:d_->Prop):Prop:=∃v,(∀w,C w->AF P g args (λv' w'=>v'=v/\C w') w)/\K v
def K6(P:Program)(C:e_->Prop)(s:Sem d_)(K:d_->Prop):Prop:=∃v,(∀w,C w->s.run P w=.ok v w)/\K v
def YX(P:Program)(C:e_->Prop)(g:Nat)(args:V_)(K:d_->Prop):Prop:=∃v,(∀w,C w->(callFunc g args.toArray).run P w=.ok (.value v) w)/\K v
def Mx(w:e_)(F:(e_->Prop)->Prop):Prop:=∃C:e_->Prop,C w.drew/\F C
def nL(C:e_->Prop)(o:Oper)(ρ:Operand->d_)(K:d_->Prop)(w:e_):Prop:=
 match o.op with
 |.load t x=>match Gk P t with | some (false,_)=>JZ C (ρ x) K | some (true,k)=>RL C k (ρ x) K | none=>False
 |.binOp op t x y _=>bif Jg P op t y then Rt P op t y (ρ x) (ρ y) K False
   else K6 P C (ET op t x y (ρ x) (ρ y)) K
 |.call c=>match c.callee with
  |.value (.func g)=>bif ok g then Qy P C g (c.args.toList.map ρ) K else YX P C g (c.args.toList.map ρ) K
  |_=>bif DL P o then HW P ok o ρ (λv _=>K v) w else False
 |.convert s d x=>K6 P C (convert s d (ρ x)) K
 |.slice t x lo hi mx=>K6 P C (Instr.sliceAt t (ρ x) (lo.map ρ) (hi.map ρ) (mx.map ρ)) K
 |_=>bif DL P o then HW P ok o ρ (λv _=>K v) w else False
def N7(C:e_->Prop)(all:List Oper)(K:Env->Prop)(w:e_):List Oper->Nat->List (Nat×Option Bool)->Env->Prop
 |[],_,_,e=>K e
 |o::B,i,kn,e=>
  bif IT o.dst kn all then False else
  match o.guard with
  |none=>nL P ok C o (ev e) (λv=>N7 C all K w B (i+1) kn (Cn n e o.dst v)) w
  |some (j,I)=>match G6 kn j with
   |some (some b)=>bif Oc b I then nL P ok C o (ev e) (λv=>N7 C all K w B (i+1) kn (Cn n e o.dst v)) w
     else N7 C all K w B (i+1) ((i,none)::kn) (Cn n e o.dst undef)
   |some none=>N7 C all K w B (i+1) ((i,none)::kn) (Cn n e o.dst undef)
   |none=>match Dz all j with
    |some d=>bif IT o.dst ((j,none)::kn) all then False else Al (e d)
      (bif I then nL P ok C o (ev (IB n e d (.bool true))) (λv=>N7 C all K w B (i+1) ((j,some true) :: kn) (Cn n (IB n e d (.bool true)) o.dst v)) w
       else N7 C all K w B (i+1) ((i,none) :: (j,some true) :: kn) (Cn n (IB n e d (.bool true)) o.dst undef))
      (bif I then N7 C all K w B (i+1) ((i,none) :: (j,some false) :: kn) (Cn n (IB n e d (.bool false)) o.dst undef)
       else nL P ok C o (ev (IB n e d (.bool false))) (λv=>N7 C all K w B (i+1) ((j,some false) :: kn) (Cn n (IB n e d (.bool false)) o.dst v)) w)
    |none=>False
def cZ(o:Oper):Bool:=match o.op with|.defer _=>false|_=>true
def Pj:Code->Bool
 |.region _ ops D8=>!D8||ops.toList.all cZ
 |.seq a b=>Pj a&&Pj b
 |.cond _ a b=>Pj a&&Pj b
 |.block _ a=>Pj a
 |.loop a=>Pj a
 |.skip=>true
 |.exit _=>true
 |.ret=>true
 |_=>false
def sy(id:Nat)(Q:EQ):EQ:=λex e w=>match ex with
 |.exit i=>bif Nat.beq i id then Q .normal e w else Q (.exit i) e w
 |.normal=>Q .normal e w | .ret=>Q .ret e w | .goto l=>Q (.goto l) e w | .panic c=>Q (.panic c) e w | .outgrown=>Q .outgrown e w
def uj(Q:EQ):EQ:=λex e w=>match ex with
 |.goto _=>False
 |.normal=>Q .normal e w | .exit i=>Q (.exit i) e w | .ret=>Q .ret e w | .panic c=>Q (.panic c) e w | .outgrown=>Q .outgrown e w
def qo(N:Env->e_->Prop)(Q:EQ):EQ:=λex e w=>match ex with
 |.normal=>N e w
 |.exit i=>Q (.exit i) e w | .ret=>Q .ret e w | .goto l=>Q (.goto l) e w | .panic c=>Q (.panic c) e w | .outgrown=>Q .outgrown e w
def D:Code->HY->EQ->Env->e_->Prop
 |.skip,_,Q,e,w=>Q .normal e w
 |.region _ ops D8,i,Q,e,w=>match D8 with
  |false=>Na P ok n ops.toList (λe w=>Q .normal e w) ops.toList 0 [] e w
  |true=>match i with
   |.D8=>bif Region.lexB .any ops then Mx w (λC=>N7 P ok n C ops.toList (λe'=>∀w':e_,C w'->Q .normal e' w') w ops.toList 0 [] e) else False
   |.dt BU AN Gs t=>bif gJ n ops.toList BU AN Gs&&Ys ops.toList.length BU AN t then DK BU AN w.drew λM B=>DU P ok n ops.toList BU M B w.drew (λe' w'=>Q .normal e' w') t [] e w.drew else False
   |_=>False
 |.seq x y,i,Q,e,w=>match i with
  |.node _ _ a b=>D x a (qo (λe' w'=>D y b Q e' w') Q) e w
  |.cut L W a b=>bif Lq W x then D3 (λvs w'=>∀h:Env,D y b Q (tM L W vs h e) w') (λJ=>D x a (qo (λe' w'=>J (L.map e') w') Q) e w) else False
  |_=>False
 |.cond c x y,i,Q,e,w=>match i with
  |.node _ _ a b=>Al (ev e c) (D x a Q e w) (D y b Q e w)
  |_=>False
 |.block id x,i,Q,e,w=>D x i (sy id Q) e w
 |.loop x,i,Q,e,w=>match i with
  |.node L W a _=>bif Lq W x then G8 (L.map e) (λvs j w'=>∀h:Env,D x a (qo (λe' o=>j (L.map e') o) Q) (tM L W vs h e) w') w else False
  |_=>False
 |.exit id,_,Q,e,w=>Q (.exit id) e w
 |.ret,_,Q,e,w=>Q .ret e w
 |.label _,_,Q,e,w=>Q .normal e w
 |.scope x,i,Q,e,w=>D x i (uj Q) e w
 |_,_,_,_,_=>False
variable {P ok n}
def PH(n:Nat)(ds:a_)(c:Code)(e:Env)(Q:EQ):Exit->Act->e_->Prop:=λex a w=>∃e',Fr ds n e' a/\(∀j,¬Wr c j->e' j=e j)/\Q ex e' w
def Ie(ds:a_)(n:Nat)(l:List Oper)(e:Env)(K:Env->e_->Prop):Exit->Act->e_->Prop:=λex a w=>ex=.normal/\∃e',Fr ds n e' a/\(∀j,(∀o∈l,o.dst≠some j)->e' j=e j)/\K e' w
def T5{ds:a_}{l:List Oper}{o:Oper}{e:Env}{K:Env->e_->Prop}{ex:Exit}{a:Act}(h:Ie ds n l (Cn n e o.dst v) K ex a w):Ie ds n (o::l) e K ex a w:=by
 obtain⟨h0,O,h1,I,J⟩:=h;refine⟨h0,O,h1,λj B=>?_,J⟩;rw[I j (λQ i=>B Q (by simp[i]))];exact Jy (B o D_)
abbrev Wd(ro:Option Nat):Fence:={ Fence.wide with round:=ro }
def L3{F:Fence}{m:Nat}{ops:Array Oper}{Q Q':Exit->Act->e_->Prop}(I:∀e a w,Q e a w->Q' e a w):∀(l:List Oper) (a:Act) (w:e_),wpListIn F m P ops Q l a w->wpListIn F m P ops Q' l a w:=by
 have V:LetsOut Q->LetsOut Q':=λ⟨a,w,h⟩=>⟨a,w,I _ _ _ h⟩;intro l;induction l with
 |nil=>intro a w h;exact I _ _ _ h
 |cons o r j=>
  intro a w h;unfold wpListIn at h ⊢;split;rename_i O;rw[Cx O] at h;unfold Oper.wpIn at h ⊢;refine⟨h.1,?_⟩;replace h:=h.2;generalize (o.semAt F.round a.eval).run P w=Z at h ⊢;match Z,h with
  |.ok (.value v) B,h=>exact j _ _ h
  |.ok .skip B,h=>exact j _ _ h
  |.ok (.defer d) B,h=>exact j _ _ h
  |.ok (.enter f args) B,h=>
   exact ⟨h.1,CallsIn.mono h.2 λU J i=>by
    cases U with
    |returned v=>exact j _ _ i
    |panicked ch=>exact I _ _ _ i
    | outgrown=>exact V i⟩
  |.ok (.row row args) B,h=>exact⟨h.1,RowsIn.mono h.2 λv J i=>j _ _ i⟩
  |.ok (.round l f X assign Y) B,h=>
   exact ⟨h.1,RoundIn.mono h.2 λU J i=>by
    cases U with
    |returned v=>exact j _ _ i
    |panicked ch=>exact I _ _ _ i
    | outgrown=>exact V i⟩
  |.halt (.panic v) B,h=>exact I _ _ _ h
  rename_i O;rw[Bp O] at h;exact⟨h.1,j _ _ h.2⟩
def Zy{ro:Option Nat}{m:Nat}{K:Cont}{o:Oper}{a:Act}{next:Act->e_->Prop}{Q:Exit->Act->e_->Prop}{r:Result Next} (h:Ge w r K P)(i:∀v w',K v w'->next (a.put o.dst v) w'):o.uponIn (Wd ro) m P a next Q r:=by
 match r,h with
 |.ok (.value v) w',h=>exact i _ _ h
 |.ok .skip w',h=>exact i _ _ h
 |.ok (.enter f args) w',h=>
  obtain⟨rfl,h⟩:=h;exact⟨M',(aA3.2 (yh h λe j ⟨v,he,B⟩=>by subst he;exact i _ _ B):CallsIn Fence.wide _ _ _ _ _ _)⟩
def U8{o:Oper}{ρ:Operand->d_}{K:Cont}(h:HW P ok o ρ K w):∀c,o.op≠.defer c:=by
 intro c hc;simp[HW,hc] at h
def ff(X:DP P ok){ro:Option Nat}{m:Nat}{K:Cont}{o:Oper}{a:Act}{e:Env}{next:Act->e_->Prop}{Q:Exit->Act->e_->Prop}(J:a.eval=ev e) (h:rM P ok o (ev e) K w)(hK:∀v w',K v w'->next (a.put o.dst v) w'):o.wpIn (Wd ro) m P a w next Q:=by
 have JR:HW P ok o (ev e) K w->o.wpIn (Wd ro) m P a w next Q:=by
  intro h;refine⟨λ_ _=>trivial,?_⟩;rw[aBe _ _ _ (U8 h),J];exact Zy (Tb X I_ I_ h) hK
 obtain⟨B,op,i,Ct,after,guard⟩:=o;cases op with
 |call c=>
  obtain⟨j,args,I⟩:=c;cases j with
  |value f=>
   have Y:DD P ok (ev e f) (args.toList.map (ev e)) K w->(HW P ok ⟨B,.call ⟨.value f,args,I⟩,i,Ct,after,guard⟩ (ev e) K w↔Be P ok (ev e f) (args.toList.map (ev e)) K w)->Oper.wpIn (Wd ro) m P ⟨B,.call ⟨.value f,args,I⟩,i,Ct,after,guard⟩ a w next Q:=by
    rintro(h|⟨l,hf,fn,U,Z,V,h1,h2⟩) O;exact JR (O.2 h);refine⟨λ_ _=>trivial,?_⟩;rw[aBe _ _ _ D_,J];have hr:(execOp (ev e) ⟨B,.call ⟨.value f,args,I⟩,i,Ct,after,guard⟩).run P w=.ok (.round l fn U Z V) w:=by
     simp[execOp,resolve,hf,Deferred.ofValue,pure_bind,invoke,Hr];simpa[callFunc] using h1
    rw[hr];have h3:=h2.2;refine⟨M',trivial,λc cs _=>?_⟩;obtain⟨en,a1,⟨v,rfl,hv⟩,hs⟩:=h3 c cs (room_wide _);exact⟨.returned v,a1,hK _ _ hv,hs⟩
   cases f with
   |func g=>exact JR h
   |tmp t=>exact Y h yY
   |const v=>exact Y h yY
   |global g=>exact Y h yY
  |invoke r m=>exact JR h
  |builtin b=>exact JR h
 |_=>exact JR h
def Xz{ds:a_}{ro:Option Nat}{m:Nat}(al:DP P ok){ops:Array Oper}{K:Env->e_->Prop}:∀(l:List Oper) (i:Nat) (kn:List (Nat×Option Bool)) (e:Env) (w:e_) (a:Act),ops.toList.drop i=l->IG ops.toList kn e->Fr ds n e a->Na P ok n ops.toList K l i kn e w->wpListIn (Wd ro) m P ops (Ie ds n l e K) l a w:=by
 intro l;induction l with
 |nil=>
  intro i kn e w a _ _ hf h;exact⟨rfl,e,hf,I_,h⟩
 |cons o B ih=>
  intro i kn e w a hl U hf h;have an:Dz ops.toList i=o.dst:=by
   have:ops.toList[i]?=some o:=by
    have:=tZ (λl=>l[0]?) hl;simpa using this
   rw[EH,this];rfl
  have a8:ops.toList.drop (i+1)=B:=by
   have:=tZ List.tail hl;simpa using this
  have X:∀(v:d_) (a':Act) (w':e_),wpListIn (Wd ro) m P ops (Ie ds n B (Cn n e o.dst v) K) B a' w'->wpListIn (Wd ro) m P ops (Ie ds n (o::B) e K) B a' w':=
   λv a' w' hh=>L3 (λex a w=>T5) B a' w' hh
  simp[Na] at h;cases V:IT o.dst kn ops.toList with
  |true=>simp[V] at h
  |false=>
   simp[V] at h;have TM:∀J,(∀v,IG ops.toList J (Cn n e o.dst v))->rM P ok o (ev e) (λv w'=>Na P ok n ops.toList K B (i+1) J (Cn n e o.dst v) w') w->
     o.wpIn (Wd ro) m P a w (wpListIn (Wd ro) m P ops (Ie ds n (o::B) e K) B) (Ie ds n (o::B) e K):=by
    intro J hk a6;refine ff al hf.eval a6 λv w' Y=>?_;exact X v _ _ (ih (i+1) J _ w' _ a8 (hk v) (hf.put o.dst v) Y)
   have I:∀J,IG ops.toList J (Cn n e o.dst undef)->Na P ok n ops.toList K B (i+1) ((i,none)::J) (Cn n e o.dst undef) w->
     wpListIn (Wd ro) m P ops (Ie ds n (o::B) e K) B (a.put o.dst undef) w:=by
    intro J hk a6;refine X undef _ _ (ih (i+1) _ _ w _ a8 (hk.cons ?_) (hf.put o.dst undef) a6);unfold yv;rw[an];cases hd:o.dst with
    |none=>rfl
    |some d=>
     have:=(hf.put o.dst undef).get d;rw[hd] at this;show bv (Cn n e (some d) undef d)=none;rw[<-this];by_cases aa:d<a.tmps.size;simp[Act.put,aa];rfl;simp[Act.put,aa];rfl
   have hy:=λj=>MB (n:=n) hf (ops:=ops) (j:=j);unfold wpListIn;cases hg:o.guard with
   |none=>
    simp[hg] at h;rw[Cx (by simp[Region.wanted,hg])];exact(TM kn (λv=>U.put V v) h)
   |some g=>
    obtain⟨j,Q⟩:=g;simp[hg] at h;have hw:Region.wanted o (yielded ops a.tmps)=(yv ops.toList e j==some Q):=by simp[Region.wanted,hg,hy]
    rw[hw];cases a7:G6 kn j with
    |some b=>
     rw[U j b a7];simp[a7] at h;cases b with
     |none=>
      simp only at h;rw[Bp D_];exact⟨λ_ _=>trivial,I kn (U.put V _) h⟩
     |some b=>
      simp only[Ql] at h;cases Z:(b==Q) with
      |true=>
       simp only[Z] at h;rw[Cx (by simpa using Z)];exact(TM kn (λv=>U.put V v) h)
      |false=>
       simp only[Z] at h;rw[Bp (by simpa using Z)];exact⟨λ_ _=>trivial,I kn (U.put V _) h⟩
    |none=>
     simp[a7] at h;cases hd:Dz ops.toList j with
     |none=>simp[hd] at h
     |some d=>
      simp[hd] at h;cases O:IT o.dst ((j,none)::kn) ops.toList with
      |true=>simp[O] at h
      |false=>
       simp[O] at h;have ak:yv ops.toList e j=bv (e d):=by simp[yv,hd]
       have a1:∀b,bv (e d)=b->∀v,IG ops.toList ((j,b)::kn) (Cn n e o.dst v):=λb hb v=>
        (U.cons (ak.trans hb)).put (d:=o.dst) (by
         simp[IT] at O ⊢;cases av:o.dst with
         |none=>rfl
         | some t=>rw [av] at O;simpa [aBf] using O) v
       rw[ak];rcases Ju h with⟨Y,hb⟩|⟨Y,hb⟩;rw[JJ Y] at hb;rw[Y];cases Q with
       |true=>
        simp at hb;rw[Cx (by rfl)];exact(TM _ (a1 _ (by rw[Y];rfl)) hb)
       |false=>
        simp at hb;rw[Bp (by simp[bv])];exact⟨λ_ _=>trivial,I _ (a1 _ (by rw[Y];rfl) _) hb⟩
       rw[JJ Y] at hb;rw[Y];cases Q with
       |true=>
        simp at hb;rw[Bp (by simp[bv])];exact⟨λ_ _=>trivial,I _ (a1 _ (by rw[Y];rfl) _) hb⟩
       |false=>
        simp at hb;rw[Cx (by rfl)];exact(TM _ (a1 _ (by rw[Y];rfl)) hb)
def sx{C:e_->Prop}{r:Result Next}(_:C w)(h:Ge w r (λv' i=>v'=v/\C i/\(i=w\/∃f args o,r=.ok (.enter f args) o)) P):Oper.quietUpon P C w v r:=by
 match r,h with
 |.ok (.value v') i,h=>
  obtain⟨h1,_,j|⟨f,a,o,j⟩⟩:=h;exact⟨j,h1⟩;cases j
 |.ok .skip i,h=>
  obtain⟨h1,_,j|⟨f,a,o,j⟩⟩:=h;exact⟨j,h1.symm⟩;cases j
 |.ok (.enter f args) i,h=>exact⟨h.1,yh h.2 λe o ⟨v',h1,j,B,_⟩=>⟨by rw[h1,j],B⟩⟩
def WK{r:Result Next}{K K':Cont}(h:Ge w r K P)(hk:∀v w',K v w'->K' v w'):Ge w r K' P:=by
 match r,h with
 |.ok (.value j) i,h=>exact hk _ _ h
 |.ok .skip i,h=>exact hk _ _ h
 |.ok (.enter f args) i,h=>exact⟨h.1,yh h.2 λe B ⟨j,h1,o⟩=>⟨j,h1,hk _ _ o⟩⟩
def ZN{ds:a_}(Y:DP P ok){C:e_->Prop}{o:Oper}{a:Act}{e:Env}{K:d_->Prop}{next:Act->Prop}(hf:Fr ds n e a) (h:nL P ok C o (ev e) K w)(hn:∀v,K v->next (a.put o.dst v)):o.quiet P a C next:=by
 have J:=hf.eval;have conv:∀v,(∀j,C j->HW P ok o (ev e) (λv' Z=>v'=v/\Z=j) j)->K v->o.quiet P a C next:=by
  intro v hv hk;refine⟨v,λj i=>?_,hn v hk⟩;have:=Tb Y I_ I_ (hv j i);unfold Oper.quietAt;rw[J];exact sx i (WK this λv' Z ⟨h1,B⟩=>⟨h1,B▸i,.inl B⟩)
 have V:DL P o=true->HW P ok o (ev e) (λv _=>K v) w->o.quiet P a C next:=by
  intro hp X;obtain⟨v,h1,B⟩:=Ul hp X;exact conv v (λj _=>B _ j ⟨rfl,rfl⟩) h1
 have I:(bif DL P o then HW P ok o (ev e) (λv _=>K v) w else False)->o.quiet P a C next:=by
  intro X;cases hp:DL P o with
  |true=>rw[hp] at X;exact V hp X
  |false=>rw[hp] at X;exact X.elim
 obtain⟨a1,op,U,Ct,after,guard⟩:=o;cases op with
 |load t x=>
  simp[nL] at h;split at h;rename_i k ha;obtain⟨p,v,h1,B,O⟩:=h;refine conv v (λj i=>?_) O
  simp[HW,ha];exact⟨p,v,h1,B j i,rfl,rfl⟩;rename_i k ha;obtain⟨p,vs,h1,hl,B,O⟩:=h;refine conv _ (λj i=>?_) O
  simp[HW,ha];exact⟨p,vs,h1,hl,B j i,rfl,rfl⟩;exact h.elim
 |binOp op t x y yt=>
  simp[nL] at h;cases hp:Jg P op t y with
  |true=>
   rw[hp] at h;simp at h;obtain⟨v,h1,B⟩:=IN hp h;exact conv v (λj _=>B _ _ ⟨rfl,rfl⟩) h1
  |false=>
   rw[hp] at h;simp at h;obtain⟨v,h1,B⟩:=h;refine⟨v,λj i=>?_,hn v B⟩;unfold Oper.quietAt;rw[J];have:(execOp (ev e) ⟨a1,.binOp op t x y yt,U,Ct,after,guard⟩).run P j=.ok (.value v) j:=by
    have O:=h1 j i;simp only[ET] at O;simp only[execOp];rw[td,O];rfl
   rw[this];exact⟨rfl,rfl⟩
 |call c=>
  obtain⟨Q,args,a6⟩:=c;simp only[nL] at h;cases Q with
  |value f=>
   cases f with
   |func g=>
    simp only at h;have O:(execOp (ev e) ⟨a1,.call ⟨.value (.func g),args,a6⟩,U,Ct,after,guard⟩)=callFunc g (args.toList.map (ev e)).toArray:=by
     simp only[execOp,resolve,Deferred.ofValue,ev,pure_bind,invoke,Hr];simp
    cases hg:ok g with
    |false=>
     rw[hg] at h;simp only[xN] at h;obtain⟨v,h1,B⟩:=h;refine⟨v,λj i=>?_,hn v B⟩;unfold Oper.quietAt;rw[J,O,h1 j i];exact⟨rfl,rfl⟩
    |true=>
     rw[hg] at h;simp only[xR] at h;obtain⟨v,h1,B⟩:=h;refine⟨v,λj i=>?_,hn v B⟩;unfold Oper.quietAt;rw[J,O,Y g hg];exact⟨rfl,yh (h1 j i) λen w3 ⟨v',q1,q2,q3⟩=>⟨by rw[q1,q2],q3⟩⟩
   |_=>exact I h
  |_=>exact I h
 |convert s d x=>
  obtain⟨v,h1,B⟩:=h;exact conv v (λj i=>⟨v,j,h1 j i,rfl,rfl⟩) B
 |slice t x lo hi mx=>
  obtain⟨v,h1,B⟩:=h;exact conv v (λj i=>⟨v,j,h1 j i,rfl,rfl⟩) B
 |_=>exact I h
def Ml{C:e_->Prop}{ops:Array Oper}{Q Q':Act->Prop}(B:∀a,Q a->Q' a):∀(l:List Oper) (a:Act),wpQuiet P ops C Q l a->wpQuiet P ops C Q' l a:=by
 intro l;induction l with
 |nil=>intro a h;exact B _ h
 |cons o r j=>
  intro a h;unfold wpQuiet at h ⊢;split;rename_i i;rw[Cx i] at h;exact Oper.quiet_mono j h;rename_i i;rw[Bp i] at h;exact j _ h
def Kr(ds:a_)(n:Nat)(l:List Oper)(e:Env)(K:Env->Prop):Act->Prop:=λi=>∃e',Fr ds n e' i/\(∀j,(∀o∈l,o.dst≠some j)->e' j=e j)/\K e'
def XH{ds:a_}(al:DP P ok){C:e_->Prop}{ops:Array Oper}{K:Env->Prop}:∀(l:List Oper) (i:Nat) (kn:List (Nat×Option Bool)) (e:Env) (a:Act),ops.toList.drop i=l->IG ops.toList kn e->Fr ds n e a->N7 P ok n C ops.toList K w l i kn e->wpQuiet P ops C (Kr ds n l e K) l a:=by
 intro l;induction l with
 |nil=>
  intro i kn e a _ _ hf h;exact⟨e,hf,I_,h⟩
 |cons o B ih=>
  intro i kn e a hl U hf h;have an:Dz ops.toList i=o.dst:=by
   have:ops.toList[i]?=some o:=by
    have:=tZ (λl=>l[0]?) hl;simpa using this
   rw[EH,this];rfl
  have a8:ops.toList.drop (i+1)=B:=by
   have:=tZ List.tail hl;simpa using this
  have X:∀(v:d_) (a':Act),wpQuiet P ops C (Kr ds n B (Cn n e o.dst v) K) B a'->wpQuiet P ops C (Kr ds n (o::B) e K) B a':=
   λv a' hh=>Ml (λa ⟨e',h1,h2,h3⟩=>⟨e',h1,λj hj=>by
    rw [h2 j (λo' av=>hj o' (by simp [av]))];exact Jy (hj o D_),h3⟩) B a' hh
  simp[N7] at h;cases V:IT o.dst kn ops.toList with
  |true=>simp[V] at h
  |false=>
   simp[V] at h;have TM:∀J,(∀v,IG ops.toList J (Cn n e o.dst v))->nL P ok C o (ev e) (λv=>N7 P ok n C ops.toList K w B (i+1) J (Cn n e o.dst v)) w->
     o.quiet P a C (wpQuiet P ops C (Kr ds n (o::B) e K) B):=by
    intro J hk a6;exact ZN al hf a6 λv Y=>X v _ (ih (i+1) J _ _ a8 (hk v) (hf.put o.dst v) Y)
   have I:∀J,IG ops.toList J (Cn n e o.dst undef)->N7 P ok n C ops.toList K w B (i+1) ((i,none)::J) (Cn n e o.dst undef)->
     wpQuiet P ops C (Kr ds n (o::B) e K) B (a.put o.dst undef):=by
    intro J hk a6;refine X undef _ (ih (i+1) _ _ _ a8 (hk.cons ?_) (hf.put o.dst undef) a6);unfold yv;rw[an];cases hd:o.dst with
    |none=>rfl
    |some d=>
     have:=(hf.put o.dst undef).get d;rw[hd] at this;show bv (Cn n e (some d) undef d)=none;rw[<-this];by_cases aa:d<a.tmps.size;simp[Act.put,aa];rfl;simp[Act.put,aa];rfl
   have hy:=λj=>MB (n:=n) hf (ops:=ops) (j:=j);unfold wpQuiet;cases hg:o.guard with
   |none=>
    simp[hg] at h;rw[Cx (by simp[Region.wanted,hg])];exact TM kn (λv=>U.put V v) h
   |some g=>
    obtain⟨j,Q⟩:=g;simp[hg] at h;have hw:Region.wanted o (yielded ops a.tmps)=(yv ops.toList e j==some Q):=by simp[Region.wanted,hg,hy]
    rw[hw];cases a7:G6 kn j with
    |some b=>
     rw[U j b a7];simp[a7] at h;cases b with
     |none=>
      simp only at h;rw[Bp D_];exact I kn (U.put V _) h
     |some b=>
      simp only[Ql] at h;cases Z:(b==Q) with
      |true=>
       simp only[Z] at h;rw[Cx (by simpa using Z)];exact TM kn (λv=>U.put V v) h
      |false=>
       simp only[Z] at h;rw[Bp (by simpa using Z)];exact I kn (U.put V _) h
    |none=>
     simp[a7] at h;cases hd:Dz ops.toList j with
     |none=>simp[hd] at h
     |some d=>
      simp[hd] at h;cases O:IT o.dst ((j,none)::kn) ops.toList with
      |true=>simp[O] at h
      |false=>
       simp[O] at h;have ak:yv ops.toList e j=bv (e d):=by simp[yv,hd]
       have a1:∀b,bv (e d)=b->∀v,IG ops.toList ((j,b)::kn) (Cn n e o.dst v):=λb hb v=>
        (U.cons (ak.trans hb)).put (d:=o.dst) (by
         simp[IT] at O ⊢;cases ax:o.dst with
         |none=>rfl
         | some t=>rw [ax] at O;simpa [aBf] using O) v
       rw[ak];rcases Ju h with⟨Y,hb⟩|⟨Y,hb⟩;rw[JJ Y] at hb;rw[Y];cases Q with
       |true=>
        simp at hb;rw[Cx (by rfl)];exact TM _ (a1 _ (by rw[Y];rfl)) hb
       |false=>
        simp at hb;rw[Bp (by simp[bv])];exact I _ (a1 _ (by rw[Y];rfl) _) hb
       rw[JJ Y] at hb;rw[Y];cases Q with
       |true=>
        simp at hb;rw[Bp (by simp[bv])];exact I _ (a1 _ (by rw[Y];rfl) _) hb
       |false=>
        simp at hb;rw[Cx (by rfl)];exact TM _ (a1 _ (by rw[Y];rfl)) hb
def gM{ro:Option Nat}{m:Nat}{ops:Array Oper}{Q:Exit->Act->e_->Prop}(Y:¬LetsOut Q)(J:ro=none\/ops.toList.all cZ=true):∀(l:X') (a:Act) (w:e_),wpOps P ops Q l a w->wpOpsIn (Wd ro) m P ops Q l a w:=by
 intro l;induction l with
 |nil=>intro a w h;exact h
 |cons i X j=>
  intro a w h;simp[wpOps] at h;simp[wpOpsIn];cases O:ops[i]? with
  |none=>simp[O] at h ⊢;exact j _ _ h
  |some o=>
   simp[O] at h ⊢;split;rename_i U;rw[Cx U] at h;replace h:=h.resolve_right λh=>Y h.2;refine⟨λ_ _=>trivial,?_⟩;have Z:o.semAt ro a.eval=execOp a.eval o:=by
    rcases J with rfl|J;rfl;refine aBe _ _ _ λc hc=>?_;have:=wW.1 J o (by rw[Array.mem_toList_iff];exact aBH O);simp[cZ,hc] at this
   rw[show(Wd ro).round=ro from rfl,Z];unfold Oper.wp at h;generalize (execOp a.eval o).run P w=r at h ⊢;match r,h with
   |.ok (.value v) I,h=>exact j _ _ h
   |.ok .skip I,h=>exact j _ _ h
   |.ok (.defer d) I,h=>exact j _ _ h
   |.ok (.enter f args) I,h=>
    refine⟨M',(aA3.2 (yh h λe B V=>?_):CallsIn Fence.wide _ _ _ _ _ _)⟩;cases e with
    |returned v=>exact j _ _ V
    |panicked ch=>exact V
    |outgrown=>exact V
   |.ok (.row row args) I,h=>
    refine⟨M',?_⟩;intro c cs _;obtain⟨v,B,h1,h2⟩:=h c cs;exact⟨v,B,j _ _ h1,(StepsIn.of_steps h2).mono λm _=>fenced_wide P m⟩
   |.halt (.panic v) I,h=>exact h
   rename_i U;rw[Bp U] at h;exact⟨λ_ _=>trivial,j _ _ h⟩
def Uj{ro:Option Nat}{m:Nat}{id:Nat}{ops:Array Oper}{Q:Exit->Act->e_->Prop}{a:Act}(hm:P.follows .mixedOrders=true)(i:¬LetsOut Q)(j:ro=none\/ops.toList.all cZ=true)
 (h:wpAny P .any ops Q ops.size (Array.replicate ops.size false) a { w with drawn:=w.drawn+1 }):(Code.region id ops true).wpIn (Wd ro) m P Q a w:=
 wpIn_region_draw λt=>gM i j _ _ _ (by
  simp [Region.schedule,hm,aBh];exact wpAny_sound ops.size t _ a _ h)
def U0{ds:a_}{all:List Oper}{e0:Env}{K:Env->e_->Prop}:¬LetsOut (LB ds all n e0 K):=by
 rintro⟨a,w,h,_⟩;cases h
def WD{ds:a_}{L:X'}{e:Env}{a:Act}(i:Fr ds n e a):L.map (λt=>a.tmps.getD t undef)=L.map e:=yj λt _=>i.get t
def NO{ds:a_}{ro:Option Nat}{m:Nat}(ax:DP P ok)(hm:P.follows .mixedOrders=true):∀(c:Code) (an:HY) (Q:EQ) (e:Env) (w:e_) (a:Act),ro=none\/Pj c=true->Fr ds n e a->D P ok n c an Q e w->c.wpIn (Wd ro) m P (PH n ds c e Q) a w:=by
 intro c;induction c with
 |skip=>intro an Q e w a B X h;exact wpIn_skip ⟨e,X,λ_ _=>rfl,h⟩
 |exit id=>intro an Q e w a B X h;exact wpIn_exit ⟨e,X,λ_ _=>rfl,h⟩
 |ret=>intro an Q e w a B X h;exact wpIn_ret ⟨e,X,λ_ _=>rfl,h⟩
 |label l=>intro an Q e w a B X h;exact wpIn_label ⟨e,X,λ_ _=>rfl,h⟩
 |goto l=>intro an Q e w a B X h;exact h.elim
 |refuse y=>intro an Q e w a B X h;exact h.elim
 |scope x ih=>
  intro an Q e w a B X h;obtain rfl:ro=none:=B.resolve_right (by simp[Pj]);refine(wpIn_wide (n:=m)).2 (wp_scope_straight (wp_mono ((wpIn_wide (n:=m)).1 (ih an (uj Q) e w a (.inl rfl) X h)) ?_));rintro ex Z Y ⟨O,h1,V,U⟩;cases ex with
  |goto l=>exact U.elim
  |normal=>exact⟨O,h1,λj J=>V j J,U⟩
  |exit i=>exact⟨O,h1,λj J=>V j J,U⟩
  |ret=>exact⟨O,h1,λj J=>V j J,U⟩
  |panic c=>exact⟨O,h1,λj J=>V j J,U⟩
  |outgrown=>exact⟨O,h1,λj J=>V j J,U⟩
 |rangeFunc f ps x y bb bk=>intro an Q e w a B X h;exact h.elim
 |region id ops D8=>
  intro an Q e w a B X h;simp only[D] at h;cases D8 with
  |false=>
   refine wpIn_region_list (L3 ?_ _ _ _ (Xz ax ops.toList 0 [] e w a rfl (λj b hb=>by simp[G6] at hb) X h));rintro ex Z Y ⟨rfl,O,h1,V,U⟩;exact⟨O,h1,λj J=>V j (λo ho hd=>J ⟨o,ho,hd⟩),U⟩
  |true=>
   simp only at h;have hD:ro=none\/ops.toList.all cZ=true:=B.imp (λh=>h) λh=>by simpa[Pj] using h
   cases an with
   |D8=>
    simp only at h;cases hB:Region.lexB .any ops with
    |false=>rw[hB] at h;exact h.elim
    |true=>
     rw [hB] at h;simp only [xR] at h;obtain ⟨C,hC,h⟩:=h;simp only [Region.lexB,aE] at hB;have:=XH ax ops.toList 0 [] e a rfl (λj b hb=>by simp [G6] at hb) X h;refine xp (Q:=λex Z Y=>ex=.normal/\PH n ds (.region id ops true) e Q .normal Z Y) (Uj hm (λ⟨_,_,h,_⟩=>by cases h) hD ?_) (by rintro ex Z Y ⟨rfl,h⟩;exact h);refine wpAny_of_quiet (Q:=λZ=>∀ Y,C Y->PH n ds (.region id ops true) e Q .normal Z Y) (λ_ Y a6 h=>⟨rfl,h Y a6⟩) _ _ _ _ hC ?_;have h9:=wpAnyQ_lex (C:=C) (md:=.any) hB.1 ops.toList 0 (Array.replicate ops.size false) a (by simp) (by simpa using hB.2) (Ml (Q':=λZ=>∀ Y,C Y->PH n ds (.region id ops true) e Q .normal Z Y) (by
      rintro Z ⟨O,h1,V,U⟩ Y a6;exact ⟨O,h1,λj J=>V j (λo ho hd=>J ⟨o,ho,hd⟩),U Y a6⟩) _ _ this)
     simpa using h9
   |dt BU AN Gs t=>
    simp only at h;cases hB:(gJ n ops.toList BU AN Gs&&Ys ops.toList.length BU AN t) with
    |false=>rw[hB] at h;exact h.elim
    |true=>
     rw[hB] at h;simp only[xR] at h;simp only[aE] at hB;refine xp (Uj hm U0 hD (Vf (K:=λe w=>Q .normal e w) ax hm X hB.1 hB.2 h)) ?_;rintro ex Z Y ⟨rfl,O,h1,V,U⟩;exact⟨O,h1,λj J=>V j (λo ho hd=>J ⟨o,ho,hd⟩),U⟩
   |_=>exact h.elim
 |cond c x y ak al=>
  intro an Q e w a B X h;cases an with
  |nil=>exact h.elim
  |cut=>exact h.elim
  |D8=>exact h.elim
  |dt=>exact h.elim
  |node L W a7 a8=>
   have b0:a.eval c=ev e c:=by rw[X.eval]
   rcases Ju h with⟨hv,hb⟩|⟨hv,hb⟩
   .refine wpIn_cond_true (b0.trans hv) (xp (ak a7 Q e w a (B.imp id λh=>by simp only[Pj,aE] at h;exact h.1) X hb) ?_);rintro ex Z Y ⟨O,h1,V,U⟩;exact⟨O,h1,λj J=>V j (λhw=>J (.inl hw)),U⟩
   .refine wpIn_cond_false (b0.trans hv) (xp (al a8 Q e w a (B.imp id λh=>by simp only[Pj,aE] at h;exact h.2) X hb) ?_);rintro ex Z Y ⟨O,h1,V,U⟩;exact⟨O,h1,λj J=>V j (λhw=>J (.inr hw)),U⟩
 |block id x ih=>
  intro an Q e w a B X h;refine wpIn_block (xp (ih an (sy id Q) e w a B X h) ?_);rintro ex Z Y ⟨O,h1,V,U⟩;cases ex with
  |exit i=>
   simp only[sy] at U;simp only[Exit.inBlock];cases hb:Nat.beq i id with
   |true=>rw[hb] at U;rw[Cx (vw hb)];exact⟨O,h1,V,U⟩
   |false=>
    rw[hb] at U;rw[Bp (by intro e1;subst e1;simp at hb)];exact⟨O,h1,V,U⟩
  |_=>exact⟨O,h1,V,U⟩
 |seq x y ak al=>
  intro an Q e w a B X h;have av:∀{e1 e2:Env},(∀j,¬Wr x j->e1 j=e j)->(∀j,¬Wr y j->e2 j=e1 j)->∀j,¬Wr (.seq x y) j->e2 j=e j:=λh1 V j J=>
   (V j λhw=>J (.inr hw)).trans (h1 j λhw=>J (.inl hw))
  have aa:∀{e1:Env},(∀j,¬Wr x j->e1 j=e j)->∀j,¬Wr (.seq x y) j->e1 j=e j:=λh1 j J=>h1 j λhw=>J (.inl hw);cases an with
  |nil=>exact h.elim
  |D8=>exact h.elim
  |dt=>exact h.elim
  |node L W a7 a8=>
   refine wpIn_seq (xp (ak a7 _ e w a (B.imp id λh=>by simp only[Pj,aE] at h;exact h.1) X h) ?_);rintro ex Z Y ⟨O,h1,V,U⟩;cases ex with
   |normal=>
    refine xp (al a8 Q O Y Z (B.imp id λh=>by simp only[Pj,aE] at h;exact h.2) h1 U) ?_;rintro ex b8 b9 ⟨ay,h4,h5,h6⟩;exact⟨ay,h4,av V h5,h6⟩
   |_=>exact⟨O,h1,aa V,U⟩
  |cut L W a7 a8=>
   simp only[D] at h;cases hw:Lq W x with
   |false=>simp only[hw,xN] at h
   |true=>
    simp only[hw,xR] at h;obtain⟨I,hI,hG⟩:=h;refine wpIn_seq (xp (ak a7 _ e w a (B.imp id λh=>by simp only[Pj,aE] at h;exact h.1) X hG) ?_);rintro ex Z Y ⟨O,h1,V,U⟩;cases ex with
    |normal=>
     have h4:=hI _ _ U O;rw[VI (λj J=>V j λa6=>by rw[FG hw j a6] at J;cases J)] at h4;refine xp (al a8 Q O Y Z (B.imp id λh=>by simp only[Pj,aE] at h;exact h.2) h1 h4) ?_;rintro ex b8 b9 ⟨ay,h5,h6,h7⟩;exact⟨ay,h5,av V h6,h7⟩
    |_=>exact⟨O,h1,aa V,U⟩
 |loop x ih=>
  intro an Q e w a B X h;cases an with
  |nil=>exact h.elim
  |cut=>exact h.elim
  |D8=>exact h.elim
  |dt=>exact h.elim
  |node L W a7 a8=>
   simp only[D] at h;cases hw:Lq W x with
   |false=>simp only[hw,xN] at h
   |true=>
    simp only[hw,xR] at h;obtain⟨I,μ,h0,hR⟩:=h;refine wpIn_loop (λZ Y=>∃O,Fr ds n O Z/\(∀j,¬Wr x j->O j=e j)/\I (L.map O) Y) (λZ Y=>μ (L.map λt=>Z.tmps.getD t undef) Y) ⟨e,X,λ_ _=>rfl,h0⟩ ?_;rintro a1 w1 ⟨e1,b6,b7,ba⟩;have h4:=hR _ _ ba e1;rw[VI (λj J=>b7 j λa6=>by rw[FG hw j a6] at J;cases J)] at h4;refine xp (ih a7 _ e1 w1 a1 B b6 h4) ?_;rintro ex a2 w2 ⟨e2,h5,h6,h7⟩;have h8:∀j,¬Wr x j->e2 j=e j:=λj J=>(h6 j J).trans (b7 j J);cases ex with
    |normal=>
     refine⟨⟨e2,h5,h8,h7.1⟩,?_⟩;rw[WD h5,WD b6];exact h7.2
    |_=>exact⟨e2,h5,h8,h7⟩
def O3(P:Program):List ResultVar->Env->e_->(V_->Prop)->Prop
 |[],_,_,K=>K []
 |.tmp t::r,e,w,K=>O3 P r e w λvs=>K (e t::vs)
 |.cell a t::r,e,w,K=>match Gk P t with
  |some (false,_)=>BV (e a) (λv w'=>O3 P r e w' λvs=>K (v::vs)) w
  |some (true,k)=>DT k (e a) (λv w'=>O3 P r e w' λvs=>K (v::vs)) w
  |none=>False
def XL:V_->d_
 |[v]=>v
 |vs=>.tuple vs.toArray
def KR(P:Program)(rs:List ResultVar)(K:Cont):EQ:=λex e w=>match ex with
 |.normal=>O3 P rs e w λvs=>K (XL vs) w
 |.ret=>O3 P rs e w λvs=>K (XL vs) w
 |_=>False
def CB(f:Func):Code:=match f.body with|some c=>c|none=>.skip
def fi{ds:a_}{e:Env}{a:Act}(o:Fr ds n e a)(f:ResultVar->Sem d_)(B:∀t,f (.tmp t)=pure (a.tmps.getD t undef))(I:∀x t,f (.cell x t)=(do loadVar t (<- asAddr (a.tmps.getD x undef)))):∀(rs:List ResultVar) (K:V_->Prop),O3 P rs e w K->∃vs,(rs.mapM f:Sem V_).run P w=.ok vs w/\K vs:=by
 intro rs;induction rs with
 |nil=>intro K h;exact⟨[],D_,h⟩
 |cons r rs J=>
  intro K h;cases r with
  |tmp t=>
   obtain⟨vs,h1,i⟩:=J _ h;refine⟨_,?_,i⟩;rw[aBL,td,B];simp only[xV,S6];rw[td,h1];simp[S6,xV,o.get]
  |cell x t=>
   simp[O3] at h;have key:∀v,(loadVar t ·:Addr->Sem d_)=(loadVar t ·)->O3 P rs e w (λvs=>K (v::vs))->(do loadVar t (<- asAddr (a.tmps.getD x undef)):Sem d_).run P w=.ok v w->
     ∃vs,((ResultVar.cell x t::rs).mapM f:Sem V_).run P w=.ok vs w/\K vs:=by
    intro v _ j O;obtain⟨vs,h1,i⟩:=J _ j;refine⟨_,?_,i⟩;rw[aBL,td,I,O];simp only[S6];rw[td,h1];simp[S6,xV]
   split at h;rename_i k ha;obtain⟨p,v,h1,i,j⟩:=h;apply key v rfl j;rw[td,(o.get x).trans h1];simp[asAddr,xV,S6];simp[loadVar,(GJ ha w).1,i];rename_i k ha;obtain⟨p,vs,h1,hl,i,j⟩:=h;apply key _ rfl j;rw[td,(o.get x).trans h1];simp[asAddr,xV,S6];simp[loadVar,td,(GJ ha w).1,(GJ ha w).2,S6];rw[<-hl,run_loadCells_list (P:=P) (w:=w) p vs i];rfl;exact h.elim
def Ig{ds:a_}{fn:Func}{e:Env}{a:Act}{K:Cont}(i:Fr ds n e a)(h:O3 P fn.results.toList e w λvs=>K (XL vs) w) : ∃v,(results fn a.tmps).run P w=.ok v w/\K v w:=by
 obtain⟨vs,h1,j⟩:=fi i (λx=>match x with|.tmp t=>pure (a.tmps.getD t undef)|.cell y t=>do loadVar t (<- asAddr (a.tmps.getD y undef))) I_ I_ _ _ h;refine⟨_,?_,j⟩;unfold results;rw[td,aAj,Sem.run_map];erw [h1];simp[S6,xV];congr 1;match vs with
 |[]=>rfl
 |[v]=>rfl
 |v::u::r=>simp[XL]
def YK{m:Nat}(B:args.length<=m):Fr [] m (Bm args) { tmps:=args.toArray++Array.replicate (m-args.toArray.size) undef,defers:=[] }:=by
 have i:∀(l:V_) (t:Nat),Bm l t=l.getD t undef:=by
  intro l;induction l with
  |nil=>
   intro t;induction t with
   |zero=>rfl
   |succ t o=>simpa[Bm] using o
  |cons v l o=>intro t;cases t with
   |zero=>simp[Bm]
   |succ t=>simp[Bm,o]
 refine⟨by simp;omega,λt=>?_,rfl⟩;rw[i];simp[xU,aAC,xw,List.getElem?_toArray,wC];split;rfl;rename_i I;rw[i6 E];cases j:(Array.replicate (m-args.length) undef)[t-args.length]? with
 |none=>rfl
 |some v=>
  rw[aAr] at j;split at j;cases j;rfl;cases j
def dq{g:Nat}{fn:Func}{c:Code}{rs:List ResultVar}{K:Cont}{J:HY}(i:DP P ok)(hm:P.follows .mixedOrders=true)(O:P.funcs[g]?=some fn) (hb:fn.body=some c)(Q:fn.ntmps=n)(j:fn.results.toList=rs)(hl:Nat.ble args.length n=true)(h:D P ok n c J (KR P rs K) (Bm args) w):AF P g args K w:=by
 apply calls_of_wp O hb;subst Q;apply wp_mono ((wpIn_wide (n:=0)).1 (NO (ds:=[]) (ro:=none) (m:=0) i hm c J _ _ w _ (.inl rfl) (YK (xS hl)) h));rintro ex U V ⟨X,h1,_,o⟩;subst j;cases ex with
 |normal=>
  obtain⟨v,B,I⟩:=Ig h1 o;exact⟨h1.defers,v,B,v,rfl,I⟩
 |ret=>
  obtain⟨v,B,I⟩:=Ig h1 o;exact⟨h1.defers,v,B,v,rfl,I⟩
 |_=>exact o.elim
attribute [irreducible] D
end
def rO:X':=[2,3,4,5,6,7,8,9,10,11,12,13,14,15,16,17,18,19,20,21,22,23,24,25,26,27,28,29,30,31,32,33,34,35,36,37,38,39,40,41,42,43,44,45,46,47,48,49,50,51,52,53,54,55,56,57,58,59,60,61,62,63,64,65,66,67,68,69,70,71,72,73,74,75,76,77,78,79,80,81,82,83,84,85,86,87,88,89,90,91,92,93,94,95,96,97,98,99,100,101,102,103,104,105,106,107,108,109,110,111,112,113,114,115,116,117,118,119,120,121,122,123,124,125,126,127,128,129,130,131,132,133,134,135,136,137,138,139,140,141,142,143,144,145,146,147,148,149,150,151,152,153,155,156,157,158,159,160,161,162,163,164,165,166,167,168,169,170,171,172,173,174,175,176,177,178,179,180,181,182,183,184,185,186,187,188,189,190,191,192,193,194,195,196,197,198,199,200,201,202,203,204,205,206,207,208,209,210,211,212,213,214,215,216,217,218,219,221,222,223,224,225,226,227,228,229,230,231,232,233,234,235,236,237,238,239,240,241,242,243,244,245,246,247,248,249,250,251,252,253,254,255,256,257,258,259,260,261,262,263,264,265,266,267,268,269,270,271,272,273,274,275,276,277,278,279,280,281,282,283,284,285,286,287,288,289,290,291,292,293,294,295,296,297,298,299,300,301,302,303,304,305,306,307,308,309,310,311,312,313,314,315,316,317,318,319,320,321,322,323,324,326,327,328,329,330,331,332,333,334,335,336,337,338,339,340,341,342,343,344,345,346,347,348,349,350,351,352,353,354,355,356,357,358,359,360,361,362,363,364,365,366,367,406]
def okN:Nat->X'->Nat
 |a,[]=>a
 |a,i::r=>okN (Nat.lor a (Nat.shiftLeft 1 i)) r
def dD:∀(l:X') (a j:Nat),(okN a l).testBit j=true->a.testBit j=true\/j∈l
 |[],_,_,h=>.inl h
 |i::r,a,j,h=>by
  rcases dD r _ j h with h|h;have e:(Nat.lor a (Nat.shiftLeft 1 i)).testBit j=(a.testBit j||(Nat.shiftLeft 1 i).testBit j):=aBM a _ j;have o:Nat.shiftLeft 1 i=2 ^ i:=Nat.one_shiftLeft i;rw[e,o,Nat.testBit_two_pow,yB,S9] at h;rcases h with h|h;exact .inl h;exact .inr (by rw[h];exact ub);exact .inr (aN _ h)
def En(g:Nat):Bool:=Nat.beq (Nat.land (Nat.shiftRight 165263992198163376639168859962947317520756604379383882126330064752260883897711919255373169785225049073066725357194133372924 g) 1) 1
def mJ{g:Nat}(h:En g=true):g∈rO:=by
 have e:okN 0 rO=165263992198163376639168859962947317520756604379383882126330064752260883897711919255373169785225049073066725357194133372924:=C_;have i:(okN 0 rO).testBit g=true:=by
  rw[e,zo,S9,<-Nat.shiftRight_eq_div_pow,<-Nat.and_one_is_mod];exact(vw h)
 rcases dD rO 0 g i with h|h;rw[Nat.zero_testBit] at h;cases h;exact h
def mixed:prog.follows .mixedOrders=true:=C_
def sU:∀g∈rO,∀args w,(callFunc g args).run prog w=.ok (.enter g args) w:=by
 unfold rO;simp only[List.forall_mem_cons];exact⟨call2,call3,call4,call5,call6,call7,call8,call9,call10,call11,call12,call13,call14,call15,call16,call17,call18,call19,call20,call21,call22,call23,call24,call25,call26,call27,call28,call29,call30,call31,call32,call33,call34,call35,call36,call37,call38,call39,call40,call41,call42,call43,call44,call45,call46,call47,call48,call49,call50,call51,call52,call53,call54,call55,call56,call57,call58,call59,call60,call61,call62,call63,call64,call65,call66,call67,call68,call69,call70,call71,call72,call73,call74,call75,call76,call77,call78,call79,call80,call81,call82,call83,call84,call85,call86,call87,call88,call89,call90,call91,call92,call93,call94,call95,call96,call97,call98,call99,call100,call101,call102,call103,call104,call105,call106,call107,call108,call109,call110,call111,call112,call113,call114,call115,call116,call117,call118,call119,call120,call121,call122,call123,call124,call125,call126,call127,call128,call129,call130,call131,call132,call133,call134,call135,call136,call137,call138,call139,call140,call141,call142,call143,call144,call145,call146,call147,call148,call149,call150,call151,call152,call153,call155,call156,call157,call158,call159,call160,call161,call162,call163,call164,call165,call166,call167,call168,call169,call170,call171,call172,call173,call174,call175,call176,call177,call178,call179,call180,call181,call182,call183,call184,call185,call186,call187,call188,call189,call190,call191,call192,call193,call194,call195,call196,call197,call198,call199,call200,call201,call202,call203,call204,call205,call206,call207,call208,call209,call210,call211,call212,call213,call214,call215,call216,call217,call218,call219,call221,call222,call223,call224,call225,call226,call227,call228,call229,call230,call231,call232,call233,call234,call235,call236,call237,call238,call239,call240,call241,call242,call243,call244,call245,call246,call247,call248,call249,call250,call251,call252,call253,call254,call255,call256,call257,call258,call259,call260,call261,call262,call263,call264,call265,call266,call267,call268,call269,call270,call271,call272,call273,call274,call275,call276,call277,call278,call279,call280,call281,call282,call283,call284,call285,call286,call287,call288,call289,call290,call291,call292,call293,call294,call295,call296,call297,call298,call299,call300,call301,call302,call303,call304,call305,call306,call307,call308,call309,call310,call311,call312,call313,call314,call315,call316,call317,call318,call319,call320,call321,call322,call323,call324,call326,call327,call328,call329,call330,call331,call332,call333,call334,call335,call336,call337,call338,call339,call340,call341,call342,call343,call344,call345,call346,call347,call348,call349,call350,call351,call352,call353,call354,call355,call356,call357,call358,call359,call360,call361,call362,call363,call364,call365,call366,call367,call406,λg i=>nomatch i⟩
def Cs:DP prog En:=by
 intro g i;exact sU g (mJ i)
section
variable {P:Program}{ok:Nat->Bool}{K:Cont}{k:d_->Prop}{w:e_}
def G2(b:Bool)(A B:Prop):Al (.bool b) A B=if b=true then A else B:=by cases b<;>simp[Al]
def lg(p:Prop)[Decidable p](A B:Prop):Al (.bool (decide p)) A B=if p then A else B:=by
 rw[G2];by_cases h:p<;>simp[h]
def kE(b:Bool)(x y:d_):Ly (.bool b) x y k=k (if b=true then x else y):=by cases b<;>simp[Ly]
def AR(q:IntKind)(a b:Int):DX q (.int q a) (.int q b) k=k (.int q (q.wrap (a+b))):=propext ⟨λ⟨_,_,h1,i,h⟩=>by cases h1;cases i;exact h,λh=>⟨_,_,rfl,rfl,h⟩⟩
def A6(q:IntKind)(a b:Int):Ec q (.int q a) (.int q b) k=k (.int q (q.wrap (a-b))):=propext ⟨λ⟨_,_,h1,i,h⟩=>by cases h1;cases i;exact h,λh=>⟨_,_,rfl,rfl,h⟩⟩
def qs(q:IntKind)(a b:Int):ZJ q (.int q a) (.int q b) k=k (.int q (q.wrap (a*b))):=propext ⟨λ⟨_,_,h1,i,h⟩=>by cases h1;cases i;exact h,λh=>⟨_,_,rfl,rfl,h⟩⟩
def As(q:IntKind)(a b:Int):Hm q (.int q a) (.int q b) k=k (.bool (decide (a<b))):=propext ⟨λ⟨_,_,h1,i,h⟩=>by cases h1;cases i;exact h,λh=>⟨_,_,rfl,rfl,h⟩⟩
def GI(q:IntKind)(a b:Int):cI q (.int q a) (.int q b) k=k (.bool (decide (a<=b))):=propext ⟨λ⟨_,_,h1,i,h⟩=>by cases h1;cases i;exact h,λh=>⟨_,_,rfl,rfl,h⟩⟩
def BM(q:IntKind)(a b:Int):ZA q (.int q a) (.int q b) k=k (.bool (decide (b<a))):=propext ⟨λ⟨_,_,h1,i,h⟩=>by cases h1;cases i;exact h,λh=>⟨_,_,rfl,rfl,h⟩⟩
def DR(q:IntKind)(a b:Int):WO q (.int q a) (.int q b) k=k (.bool (decide (b<=a))):=propext ⟨λ⟨_,_,h1,i,h⟩=>by cases h1;cases i;exact h,λh=>⟨_,_,rfl,rfl,h⟩⟩
def Aj(q:IntKind)(a b:Int):Ru q (.int q a) (.int q b) k=k (.bool (decide (a=b))):=propext ⟨λ⟨_,_,h1,i,h⟩=>by cases h1;cases i;exact h,λh=>⟨_,_,rfl,rfl,h⟩⟩
def BH(q:IntKind)(a b:Int):T0 q (.int q a) (.int q b) k=k (.bool (!decide (a=b))):=propext ⟨λ⟨_,_,h1,i,h⟩=>by cases h1;cases i;exact h,λh=>⟨_,_,rfl,rfl,h⟩⟩
def HS(q:IntKind)(a b:Int):O5 q (.int q a) (.int q b) k=k (.int q (if b>a then b else a)):=propext ⟨λ⟨_,_,h1,i,h⟩=>by cases h1;cases i;exact h,λh=>⟨_,_,rfl,rfl,h⟩⟩
def Iv(q:IntKind)(a b:Int):QO q (.int q a) (.int q b) k=k (.int q (if b<a then b else a)):=propext ⟨λ⟨_,_,h1,i,h⟩=>by cases h1;cases i;exact h,λh=>⟨_,_,rfl,rfl,h⟩⟩
def pg(a b:Bool):Zk (.bool a) (.bool b) k=k (.bool (a==b)):=propext ⟨λ⟨_,_,h1,i,h⟩=>by cases h1;cases i;exact h,λh=>⟨_,_,rfl,rfl,h⟩⟩
def WX(a b:Bool):ZW (.bool a) (.bool b) k=k (.bool (!(a==b))):=propext ⟨λ⟨_,_,h1,i,h⟩=>by cases h1;cases i;exact h,λh=>⟨_,_,rfl,rfl,h⟩⟩
def qW(a b:ByteArray):ZT (.string a) (.string b) k=k (.bool (decide (a=b))):=propext ⟨λ⟨_,_,h1,i,h⟩=>by cases h1;cases i;exact h,λh=>⟨_,_,rfl,rfl,h⟩⟩
def fk(a b:ByteArray):bq (.string a) (.string b) k=k (.bool (!decide (a=b))):=propext ⟨λ⟨_,_,h1,i,h⟩=>by cases h1;cases i;exact h,λh=>⟨_,_,rfl,rfl,h⟩⟩
def Y1(a:Option Addr)(n c:Nat)(k:Bool->Prop):Mc (.slice a n c) k=k a.isNone:=propext ⟨λ⟨_,_,_,h1,h⟩=>by cases h1;exact h,λh=>⟨_,_,_,rfl,h⟩⟩
def Mb(a:Option Addr)(k:Bool->Prop):IU (.pointer a) k=k a.isNone:=propext ⟨λ⟨_,h1,h⟩=>by cases h1;exact h,λh=>⟨_,rfl,h⟩⟩
def Aq(a:Bool):Nj (.bool a) k=k (.bool (!a)):=propext ⟨λ⟨_,h1,h⟩=>by cases h1;exact h,λh=>⟨_,rfl,h⟩⟩
def AP(a:Option Addr)(n c:Nat):E3 (.slice a n c) k=k (zI n):=propext ⟨λ⟨_,_,_,h1,h⟩=>by cases h1;exact h,λh=>⟨_,_,_,rfl,h⟩⟩
def PU(s:ByteArray):Qf (.string s) k=k (zI s.size):=propext ⟨λ⟨_,h1,h⟩=>by cases h1;exact h,λh=>⟨_,rfl,h⟩⟩
def CG(a:Addr):Ar (.pointer (some a)) k=k (.pointer (some a)):=propext ⟨λ⟨_,h1,h⟩=>by cases h1;exact h,λh=>⟨_,rfl,h⟩⟩
def AB(off:Nat)(a:Addr):BZ off (.pointer (some a)) k=k (.pointer (some (a.add off))):=propext ⟨λ⟨_,h1,h⟩=>by cases h1;exact h,λh=>⟨_,rfl,h⟩⟩
def Bh(vs:V_):Bm vs 0=vs.headD undef:=rfl
def Yv(vs:V_)(k:Nat):Bm vs (k+1)=Bm vs.tail k:=rfl
def Addr.add_add(a:Addr)(x y:Nat):(a.add x).add y=a.add (x+y):=by
 unfold Addr.add;split<;>split<;>simp_all<;>omega
def AW{s:Nat}{a:Addr}{n c:Nat}{q:IntKind}(h1:j<n)(h:k (.pointer (some (a.add (j*s))))):Lb s (.slice (some a) n c) (.int q (j:Int)) k:=
 ⟨_,_,_,_,_,rfl,rfl,E,E,by simpa using h⟩
def AD{a:Addr}(hc:w.cell? a=some v)(h:K v w):BV (.pointer (some a)) K w:=⟨a,v,rfl,hc,h⟩
def Ab{n:Nat}{a:Addr}(hl:vs.length=n)(hc:∀j v,vs[j]?=some v->w.cell? (a.add j)=some v)(h:K (.agg vs.toArray) w):DT n (.pointer (some a)) K w:=⟨a,vs,rfl,hl,hc,h⟩
def BR{C:e_->Prop}{a:Addr}(hc:∀w,C w->w.cell? a=some v)(h:k v):JZ C (.pointer (some a)) k:=⟨a,v,rfl,hc,h⟩
def J8{C:e_->Prop}{n:Nat}{a:Addr}(hl:vs.length=n)(hc:∀w,C w->∀j v,vs[j]?=some v->w.cell? (a.add j)=some v)(h:k (.agg vs.toArray)):RL C n (.pointer (some a)) k:=⟨a,vs,rfl,hl,hc,h⟩
def OE{a:Addr}{v u:d_}{K:e_->Prop}(h1:v.oneCell'=true)(i:v.cells=#[v])(hc:w.cell? a=some u)(j:w.frozen? a=false)(h:K (w.setCell a v)):Cu (.pointer (some a)) v K w:=⟨a,u,rfl,h1,i,hc,j,h⟩
def Af{i:Nat}(j:vs[i]?=some v)(h:k v):Ay i (.tuple vs.toArray) k:=⟨vs,v,rfl,j,h⟩
def AV{R:V_->e_->Prop}{G:(V_->e_->Prop)->Prop}(I:V_->e_->Prop)(h1:∀vs w,I vs w->R vs w)(i:G I):D3 R G:=⟨I,h1,i⟩
def AX{i:V_}{F:V_->(V_->e_->Prop)->e_->Prop}(I:V_->e_->Prop)(μ:V_->e_->Nat)(h0:I i w)(h:∀vs w,I vs w->F vs (λj w'=>I j w'/\μ j w'<μ vs w) w):G8 i F w:=⟨I,μ,h0,h⟩
def AA{g:Nat}{K':Cont}(h:AF P g args K w)(hk:∀v w',K v w'->K' v w'):AF P g args K' w:=yh h λ_ _ ⟨v,h1,i⟩=>⟨v,h1,hk _ _ i⟩
def AZ{s:Sem d_}(h1:s.run P w=.ok v w')(h:K v w'):runK P s K w:=⟨v,w',h1,h⟩
def WY{t:TypeId}(h:K (g_ w.heap.size) (w.alloc (.cells cs.toArray t))):Cl t cs K w:=h
def wrap64{x:Int}(h0:-9223372036854775808<=x)(h1:x<=9223372036854775807):IntKind.i64.wrap x=x:=by
 have i:(2:Int) ^ IntKind.i64.bits=18446744073709551616:=B_;have j:(2:Int) ^ (IntKind.i64.bits-1)=9223372036854775808:=B_;simp[IntKind.wrap,i,j,IntKind.signed,zC,S9];split<;>omega
def dx(w:e_)(t:TypeId):∀(vs done j:V_),j.length=vs.length->FE (w.alloc (.cells (done++j).toArray t)) ⟨w.heap.size,0,none⟩ done.length vs=w.alloc (.cells (done++vs).toArray t):=by
 intro vs;induction vs with
 |nil=>intro done j hl;have:j=[]:=Kx hl;subst this;rfl
 |cons v vs J=>
  intro done j hl;cases j with
  |nil=>simp at hl
  |cons z j=>
   simp[FE];have h1:(w.alloc (.cells (done++z::j).toArray t)).setCell ((⟨w.heap.size,0,none⟩:Addr).add done.length) v=w.alloc (.cells ((done++[v])++j).toArray t):=by
    have o:(⟨w.heap.size,0,none⟩:Addr).add done.length=⟨w.heap.size,done.length,none⟩:=by unfold Addr.add;split<;>simp_all
    rw[o];simp only[World.setCell,World.alloc];congr 1;rw[<-aAE,Array.toList_modify];simp only[zt];apply wm;intro i;rw[List.getElem?_modify];by_cases hi:w.heap.size=i;subst hi;simp[List.setIfInBounds_toArray];rcases aAe hi with O|B;have Q:¬i<w.heap.size:=E;have I:¬i-w.heap.size=0:=E;simp[hi,yF,Q,I];simp[hi,yF,B]
   rw[h1];have:=J (done++[v]) j (by simpa using hl);simpa using this
def sk{t:TypeId}{o vs:V_}{K:e_->Prop}(hl:o.length=vs.length)(h1:∀v∈vs,v.oneCell'=true)(h:K (w.alloc (.cells vs.toArray t))) : Bu vs.length (g_ w.heap.size) (.agg vs.toArray) K (w.alloc (.cells o.toArray t)):=by
 refine⟨_,vs,rfl,rfl,rfl,h1,λj B=>?_,?_⟩;have i:(⟨w.heap.size,0,none⟩:Addr).add j=⟨w.heap.size,j,none⟩:=by unfold Addr.add;split<;>simp_all
 rw[i,zF,zi];refine⟨?_,rfl⟩;have:j<o.length:=E;simp[this];have:=dx w t vs [] o hl;simp[u7,gC] at this;rw[this];exact h
end
def KS :
  (∀(b:Bool) (A B:Prop),Al (.bool b) A B=if b=true then A else B)/\
  (∀{p:Prop} [Decidable p],(decide p=true)=p)/\
  (∀{a b:Bool},((!a)=b)↔(a=!b))/\
  ((!true)=false)/\
  (∀{p:Prop} [Decidable p],decide p=false↔¬p)/\
  (∀{k:d_->Prop} (b:Bool) (x y:d_),Ly (.bool b) x y k=k (if b=true then x else y))/\
  (∀{k:d_->Prop} (q:IntKind) (a b:Int),DX q (.int q a) (.int q b) k=k (.int q (q.wrap (a+b))))/\
  (∀{k:d_->Prop} (q:IntKind) (a b:Int),Ec q (.int q a) (.int q b) k=k (.int q (q.wrap (a-b))))/\
  (∀{k:d_->Prop} (q:IntKind) (a b:Int),ZJ q (.int q a) (.int q b) k=k (.int q (q.wrap (a*b))))/\
  (∀{k:d_->Prop} (q:IntKind) (a b:Int),Hm q (.int q a) (.int q b) k=k (.bool (decide (a<b))))/\
  (∀{k:d_->Prop} (q:IntKind) (a b:Int),cI q (.int q a) (.int q b) k=k (.bool (decide (a<=b))))/\
  (∀{k:d_->Prop} (q:IntKind) (a b:Int),ZA q (.int q a) (.int q b) k=k (.bool (decide (b<a))))/\
  (∀{k:d_->Prop} (q:IntKind) (a b:Int),WO q (.int q a) (.int q b) k=k (.bool (decide (b<=a))))/\
  (∀{k:d_->Prop} (q:IntKind) (a b:Int),Ru q (.int q a) (.int q b) k=k (.bool (decide (a=b))))/\
  (∀{k:d_->Prop} (q:IntKind) (a b:Int),T0 q (.int q a) (.int q b) k=k (.bool (!decide (a=b))))/\
  (∀{k:d_->Prop} (q:IntKind) (a b:Int),O5 q (.int q a) (.int q b) k=k (.int q (if b>a then b else a)))/\
  (∀{k:d_->Prop} (q:IntKind) (a b:Int),QO q (.int q a) (.int q b) k=k (.int q (if b<a then b else a)))/\
  (∀{k:d_->Prop} (a b:Bool),Zk (.bool a) (.bool b) k=k (.bool (a==b)))/\
  (∀{k:d_->Prop} (a b:Bool),ZW (.bool a) (.bool b) k=k (.bool (!(a==b))))/\
  (∀{k:d_->Prop} (a b:ByteArray),ZT (.string a) (.string b) k=k (.bool (decide (a=b))))/\
  (∀{k:d_->Prop} (a b:ByteArray),bq (.string a) (.string b) k=k (.bool (!decide (a=b))))/\
  (∀(a:Option Addr) (n c:Nat) (k:Bool->Prop),Mc (.slice a n c) k=k a.isNone)/\
  (∀(a:Option Addr) (k:Bool->Prop),IU (.pointer a) k=k a.isNone)/\
  (∀{k:d_->Prop} (a:Bool),Nj (.bool a) k=k (.bool (!a)))/\
  (∀{k:d_->Prop} (a:Option Addr) (n c:Nat),E3 (.slice a n c) k=k (zI n))/\
  (∀{k:d_->Prop} (s:ByteArray),Qf (.string s) k=k (zI s.size))/\
  (∀{k:d_->Prop} (a:Addr),Ar (.pointer (some a)) k=k (.pointer (some a)))/\
  (∀{k:d_->Prop} (off:Nat) (a:Addr),BZ off (.pointer (some a)) k=k (.pointer (some (a.add off))))/\
  (∀(a:Addr) (x y:Nat),(a.add x).add y=a.add (x+y))/\
  (∀(vs:V_),Bm vs 0=vs.headD undef)/\
  (∀(vs:V_) (k:Nat),Bm vs (k+1)=Bm vs.tail k)/\
  (∀{a d:d_} {l:V_},(a::l).headD d=a)/\
  (∀{a:d_} {l:V_},(a::l).tail=l)/\
  ((none:Option Addr).isNone=true)/\
  (∀{a:Addr},(some a).isNone=false)/\
  ((false=true)=False)/\
  (∀{α:Type} {h:Decidable True} (t e:α),(@ite α True h t e)=t)/\
  (∀{α:Type} {h:Decidable False} (t e:α),(@ite α False h t e)=e):=
 ⟨@G2,D_,by intro a b;cases a<;>cases b<;>simp,D_,D_,@kE,@AR,@A6,@qs,@As,@GI,@BM,@DR,@Aj,@BH,@HS,@Iv,@pg,@WX,@qW,@fk,@Y1,@Mb,@Aq,@AP,@PU,@CG,@AB,@Addr.add_add,@Bh,@Yv,D_,D_,D_,D_,D_,D_,D_⟩
abbrev AI(w w':e_):Prop:=AK (λ_=>False) w w'
def AI.U'{M:f_}(h:AI w w'):AK M w w':=AK.mono h E'
def AK.below{M:f_}(h:AK M w w')(i:B<=w.heap.size)(hm:∀b,M b->B<=b):RowKit.Below B w w':=
 ⟨h.os,h.tape,h.output,h.size,λb hb=>h.Ap b E λh'=>by have:=hm b h';omega⟩
def AK.drew(M:f_)(w:e_):AK M w w.drew:=⟨rfl,rfl,rfl,HK _,I_⟩
def AK.alloc(M:f_)(w:e_)(o:Obj):AK M w (w.alloc o):=⟨rfl,rfl,rfl,D_,λb hb _=>zj w o b hb⟩
def AK.setCell{M:f_}(w:e_)(a:Addr)(v:d_)(h:M a.block):AK M w (w.setCell a v):=⟨rfl,rfl,rfl,D_,λb _ i=>RowKit.Below.heap_setCell w a v b λe=>i (e▸h)⟩
def AK.BQ{row:Option Nat}(h:w.grownBy w' row):AK (λb=>row=some b) w w':=⟨h.os,h.tape,h.output,h.size,λb hb i=>h.block b hb λe=>i e.symm⟩
def AK.cell{M:f_}{w w':e_}(h:AK M w w'){a:Addr}{v:d_}(hc:w.cell? a=some v)(hm:¬M a.block):w'.cell? a=some v:=(xA (h.Ap a.block (q8 w a hc) hm)).trans hc
def AK.WS{M:f_}(h:AK M w w'){a:Addr}(hb:a.block<w.heap.size)(hm:¬M a.block):w'.frozen? a=w.frozen? a:=aA4 (h.Ap a.block hb hm)
def BC{α:Type}(S:f_)(k:Nat)(R:e_->V_->α->Prop)(w:e_)(v:d_)(l:List α):Prop:=∃a c,v=.slice a l.length c/\l.length<=c/\c<=maxLen/\∀i x,l[i]?=some x->∃p r,a=some p/\S p.block/\r.length=k/\(∀j u,r[j]?=some u->w.cell? (p.add (i*k+j))=some u)/\R w r x
def BC.mono{α:Type}{S S':f_}{k:Nat}{R R':e_->V_->α->Prop}{w w':e_}{v:d_}{l:List α}(h:BC S k R w v l) (O:∀b,b<w.heap.size->S b->S' b)(hb:∀b,b<w.heap.size->S b->w'.heap[b]?=w.heap[b]?)(hk:0<k)(Q:∀r x,R w r x->R' w' r x):BC S' k R' w' v l:=by
 obtain⟨a,c,h1,U,V,X⟩:=h;refine⟨a,c,h1,U,V,λi x Y=>?_⟩;obtain⟨p,r,Z,B,I,J,e5⟩:=X i x Y;have o:p.block<w.heap.size:=by
  cases r with
  |nil=>simp at I;omega
  |cons u r=>
   have:=q8 w _ (J 0 u rfl);have e:(p.add (i*k+0)).block=p.block:=by unfold Addr.add;split<;>rfl
   rwa [e] at this
 refine⟨p,r,Z,O _ o B,I,λj u hu=>?_,Q _ _ e5⟩;have e:(p.add (i*k+j)).block=p.block:=by unfold Addr.add;split<;>rfl
 rw[xA (w:=w) (by rw[e];exact hb _ o B)];exact J j u hu
def BC.nil{k:Nat}{R:e_->V_->α->Prop}:BC S k R w i_ []:=
 ⟨none,0,rfl,HK _,by simp[maxLen],λi x j=>by simp at j⟩
def Di(vs:V_)(j:Nat):Nat:=match Bm vs j with|.int _ n=>n.toNat|_=>0
def BC.get{k:Nat}{R:e_->V_->α->Prop}{a:Option Addr}{n c:Nat}{l:List α}(h:BC S k R w (.slice a n c) l){i:Nat}(hi:i<l.length) : ∃p r,a=some p/\S p.block/\r.length=k/\(∀j u,r[j]?=some u->w.cell? (p.add (i*k+j))=some u)/\R w r l[i]:=by
 obtain⟨B,I,h1,J,O,o⟩:=h;cases h1;exact o i l[i] (by simp[hi])
def BC.AO{k:Nat}{R:e_->V_->α->Prop}{l:List α}(h:BC S k R w v l):∃a c,v=.slice a l.length c/\l.length<=maxLen:=by
 obtain⟨i,j,h1,o,B,I⟩:=h;exact⟨i,j,h1,vx o B⟩
def AG{α:Type}(B e k:Nat)(R:e_->V_->α->Prop)(w:e_)(v:d_)(l:List α):Prop:=∃An:List V_,w.ownsRow B e k v l.length An.flatten/\An.length=l.length/\(∀r∈An,r.length=k/\∀u∈r,u.oneCell'=true)/\∀(i:Nat) (r:V_) (x:α),An[i]?=some r->l[i]?=some x->R w r x
def ED{k:Nat}:∀(An:List V_),(∀r∈An,r.length=k)->An.flatten.length=An.length*k:=by
 intro An;induction An with
 |nil=>intro _;simp
 |cons r rs i=>intro h;simp[i (λr hr=>h r (by simp[hr])),h r D_,wF];omega
def Ke{k:Nat}:∀(An:List V_) (i j:Nat) (r:V_),(∀r∈An,r.length=k)->An[i]?=some r->j<k->An.flatten[i*k+j]?=r[j]?:=by
 intro An;induction An with
 |nil=>intro i j r _ h;simp at h
 |cons B rs I=>
  intro i j r h hi o;have h0:=h B D_;cases i with
  |zero=>simp at hi;subst hi;simp[yF,h0,o]
  |succ i=>
   have:=I i j r (λr hr=>h r (by simp[hr])) (by simpa using hi) o;rw[yZ,qz (by rw[h0,wF];omega)];rw[<-this];congr 1;rw[h0,wF];omega
def Kb{k:Nat}(hk:0<k):∀(An:List V_),(∀r∈An,r.length=k)->∀(q:Nat) (u:d_),An.flatten[q]?=some u->∃r,An[q/k]?=some r/\r[q%k]?=some u:=by
 intro An h q u hu;have i:=(Bq.1 hu).1;have h1:q/k<An.length:=by rw[ED An h] at i;exact(aBI hk).2 i
 refine⟨An[q/k],by simp[h1],?_⟩;rw[<-Ke An (q/k) (q%k) _ h (by simp[h1]) (aAF _ hk)];rw[zQ q k];exact hu
def AG.nil{B e k:Nat}{R:e_->V_->α->Prop}:AG B e k R w i_ []:=⟨[],World.ownsRow_nil w B e k,rfl,D_,D_⟩
def AG.Xn{B e k:Nat}{R:e_->V_->α->Prop}(i:B<=w.heap.size):AG B e k R (w.alloc (.cells #[] e)) (.slice (h_ w.heap.size) 0 0) ([]:List α):=
 ⟨[],World.ownsRow_made w #[] 0 i (by simp[maxLen]) D_,rfl,D_,D_⟩
def AG.AO{B e k:Nat}{R:e_->V_->α->Prop}{l:List α}(h:AG B e k R w v l) : ∃a c,v=.slice a l.length c/\l.length<=c/\c<=maxLen/\(∀p,a=some p->∃g,p=⟨g,0,none⟩/\B<=g/\g<w.heap.size/\v.ownBlock=some g)/\(a=none->l=[]):=by
 obtain⟨An,h1,J,O,Q⟩:=h;rcases h1.2 with⟨rfl,i⟩|⟨g,cap,j,rfl,o,I,i,hm,_⟩;exact⟨none,0,by rw[i],E,by simp[maxLen],(λp hp=>nomatch hp),λ_=>Kx i⟩;exact⟨h_ g,cap,rfl,i,hm,(λp hp=>by cases hp;exact⟨g,rfl,o,(wo.1 I).1,rfl⟩),(λh=>nomatch h)⟩
def AG.sl{B e k:Nat}{R:e_->V_->α->Prop}{l:List α}(h:AG B e k R w v l):BC (λb=>B<=b/\v.ownBlock=some b) k R w v l:=by
 obtain⟨a,c,O,hc,hm,hp,Q⟩:=h.AO;obtain⟨An,h1,h2,U,V⟩:=h;refine⟨a,c,O,hc,hm,λi x J=>?_⟩;have hi:=(Bq.1 J).1;cases a with
 |none=>rw[Q rfl] at hi;simp at hi
 |some p=>
  obtain⟨g,rfl,X,Y,I⟩:=hp p rfl;have hr:i<An.length:=E;have o:∀r∈An,r.length=k:=λr hr=>(U r hr).1;refine⟨_,An[i],rfl,⟨X,I⟩,o _ D_,λj u hu=>?_,V i _ x (by simp[hr]) J⟩;have Z:j<k:=by rw[<-o An[i] D_];exact(Bq.1 hu).1
  apply h1.cells I _ u;rw[Ke An i j An[i] o (by simp[hr]) Z];exact hu
def AG.U'{B e k:Nat}{R R':e_->V_->α->Prop}{l:List α}{M:f_}(h:AG B e k R w v l)(hm:AK M w w')(O:∀g,v.ownBlock=some g->¬M g) (Q:∀r x,x∈l->R w r x->R' w' r x):AG B e k R' w' v l:=by
 obtain⟨An,h1,U,V,X⟩:=h;refine⟨An,⟨h1.1,?_⟩,U,V,λi r x hr J=>Q r x (wD J) (X i r x hr J)⟩;rcases h1.2 with Y|⟨g,cap,I,rfl,hb,j,o⟩;exact .inl Y;refine .inr ⟨g,cap,I,rfl,hb,?_,o⟩;rw[hm.Ap g (wo.1 j).1 (O g rfl)];exact j
def Dg(P:Program)(t e size bytes:Nat):Prop:=∃i z,P.underlying t=some (.slice e)/\P.info? e=some i/\i.zero=some z/\i.size=size/\i.bytes=bytes/\z.cells.size=size/\0<size
def RW{P:Program}{t ty B e k bytes:Nat}{n:Nat}{xs:V_}(hE:Dg P t e k bytes)(I:w.ownsRow B e k v n xs)(a:Option Addr)(m c:Nat)(o:V_) (hl:o.length=m*k)(ha:a=none->m=0)(U:∀p,a=some p->∀j u,o[j]?=some u->w.cell? (p.add j)=some u)(h1:∀u∈o,u.oneCell'=true)(V:n+m<=maxLen)(Q:(n+m)*bytes<=140737488355328)(hB:B<=w.heap.size) : ∃v' w',(Builtin.append_ #[t,t] ty #[v,.slice a m c]).run P w=.ok v' w'/\w'.ownsRow B e k v' (n+m) (xs++o)/\w.grownBy w' v.ownBlock/\(∀g,v'.ownBlock=some g->v.ownBlock=some g\/w.heap.size<=g):=by
 obtain⟨i,z,ht,hi,hz,rfl,rfl,a1,hk⟩:=hE;cases a with
 |none=>
  have hm:=ha rfl;subst hm;have:o=[]:=Kx (by simpa using hl);subst this;have a8:∃b s q,v=.slice b s q/\s<=q:=by
   rcases I.2 with⟨rfl,_⟩|⟨g,cap,O,rfl,_,_,h,_⟩;exact⟨_,_,_,rfl,HK _⟩;exact⟨_,_,_,rfl,h⟩
  refine⟨v,w,?_,by simpa using I,⟨rfl,rfl,rfl,HK _,I_⟩,λg hg=>.inl hg⟩;obtain⟨b,s,q,rfl,hq⟩:=a8;cases b<;>simp[Builtin.append_,run_underlying ht,sizeOf,typeInfo,hi,Builtin.lenOf,Builtin.firstCells,hq,storeCells]
 |some p=>
  have hn:=U p rfl;have aa:((n+m:Nat):Int)<=9223372036854775807:=by simp[maxLen] at V;omega
  rcases I.2 with⟨rfl,rfl⟩|⟨g,cap,O,rfl,ak,hg,av,al,a6,X⟩;have Y:w.ownsRow w.heap.size e i.size i_ 0 xs:=⟨I.1,.inl ⟨rfl,rfl⟩⟩;obtain⟨v',w',r1,r2,r3,_⟩:=run_append_own (P:=P) w w.heap.size t ty e i z i.size i.bytes ht hi hz rfl rfl a1 hk _ 0 xs Y p m c o hl hn h1 V Q (HK _);refine⟨v',w',r1,⟨r2.1,?_⟩,r3,λg hg=>.inr (r2.lt g hg).1⟩;rcases r2.2 with h|⟨g,cap,O,q1,q2,q3⟩;exact .inl h;exact .inr ⟨g,cap,O,q1,vx hB q2,q3⟩;by_cases J:n+m<=cap;have a7:n*i.size+o.length<=O.size:=by rw[hl,a6,<-wF];exact wj _ J
  have hx:=I.1;refine⟨_,_,run_append_room (P:=P) w t ty e i ht hi g n cap O hg p m c o hl hn h1 J a7,⟨by rw[Ad,hx,hl,wF],.inr ⟨g,cap,_,rfl,ak,setRow_heap w g O _ e _ hg,J,al,?_,?_⟩⟩,⟨rfl,rfl,rfl,?_,λb _ hb=>setRow_other w g b _ (λe=>hb (by simp[Value.ownBlock,e]))⟩,λg' Z=>.inl Z⟩;have h0:O.toList.length=cap*i.size:=by rw[yN,a6]
  have h2:n*i.size+m*i.size<=cap*i.size:=by rw[<-wF];exact wj _ J
  simp only[xw,Ad,K8,FB,h0,hl];omega;rw[X,wF,<-hx,<-hl,<-Ad];exact List.take_left;simp[World.setRow];have holds:∀j u,xs[j]?=some u->w.cell? ((⟨g,0,none⟩:Addr).add j)=some u:=I.cells (g:=g) rfl;have an:=aAo w (n+m) cap e;have hx:=I.1;refine⟨_,_,aA9 (P:=P) w t ty e i z ht hi hz ⟨g,0,none⟩ n cap xs I.1 holds p m c o hl hn E aa (aBN E Q),⟨by rw[Ad,hx,hl,wF],.inr ⟨w.heap.size,_,_,rfl,hB,zu w.drew _,an,yu w (n+m) cap e V,?_,?_⟩⟩,⟨rfl,rfl,rfl,D_,λb hb _=>zj w.drew _ b hb⟩,λg' Z=>.inr (by cases Z;exact HK _)⟩;simp[zw,xw,aBO,a1,hx,hl,<-wF];congr 1;omega;simp only[Array.toList_append];have h3:(n+m)*i.size=(xs++o).length:=by rw[Ad,hx,hl,wF]
  rw[h3,xZ (HK _),Nr]
def AG.append{P:Program}{t ty B e k bytes:Nat}{R:e_->V_->α->Prop}{v x:d_}{l m:List α}(hE:Dg P t e k bytes)(h:AG B e k R w v l)(hx:BC S k R w x m) (X:∀r y,R w r y->∀u∈r,u.oneCell'=true)(Y:(l.length+m.length)*bytes<=140737488355328)(hB:B<=w.heap.size)(Z:l.length+m.length<=maxLen) (hR:∀w',w.grownBy w' v.ownBlock->∀r y,R w r y->R w' r y) : runK P (Builtin.append_ #[t,t] ty [v,x].toArray) (λv' w'=>AG B e k R w' v' (l++m)/\w.grownBy w' v.ownBlock/\(∀g,v'.ownBlock=some g->v.ownBlock=some g\/w.heap.size<=g)) w:=by
 obtain⟨i,z,ht,hi,hz,hs,hb,a8,hk⟩:=hE;have aa:=hx.AO;obtain⟨An,h1,h2,h3,h4⟩:=h;obtain⟨a,c,rfl,hc,ak,a1⟩:=hx;have EU:∀(o:List V_),o.length=m.length->(∀r∈o,r.length=k/\∀u∈r,u.oneCell'=true)->(∀(i:Nat) (r:V_) (y:α),o[i]?=some r->m[i]?=some y->R w r y)->
   (∃v' w',(Builtin.append_ #[t,t] ty [v,.slice a m.length c].toArray).run P w=.ok v' w'/\w'.ownsRow B e k v' (l.length+m.length) (An.flatten++o.flatten)/\w.grownBy w' v.ownBlock/\(∀g,v'.ownBlock=some g->v.ownBlock=some g\/w.heap.size<=g))->
   runK P (Builtin.append_ #[t,t] ty [v,.slice a m.length c].toArray) (λv' w'=>AG B e k R w' v' (l++m)/\w.grownBy w' v.ownBlock/\(∀g,v'.ownBlock=some g->v.ownBlock=some g\/w.heap.size<=g)) w:=by
  rintro o e1 e2 e3 ⟨v',w',r1,r2,r3,r4⟩;refine⟨v',w',r1,⟨An++o,by rw[aAV,Ad];exact r2,by simp[h2,e1],?_,?_⟩,r3,r4⟩;intro r hr;rcases DN.1 hr with hr|hr
  exact h3 r hr;exact e2 r hr;intro j r y hr U;apply hR w' r3 r y;by_cases J:j<l.length;rw[PF E] at hr;rw[PF J] at U;exact h4 j r y hr U;rw[qz E] at hr;rw[qz E] at U;rw[h2] at hr;exact e3 _ r y hr U
 have Q:∃o:List V_,o.length=m.length/\(∀(i:Nat) (r:V_),o[i]?=some r->r.length=k/\(∀u∈r,u.oneCell'=true)/\(∃p,a=some p/\∀j u,r[j]?=some u->w.cell? (p.add (i*k+j))=some u)/\∃y,m[i]?=some y/\R w r y):=by
  clear EU h4 h3 h2 h1 Y Z hR ak aa;have gen:∀q,q<=m.length->∃o:List V_,o.length=q/\(∀(i:Nat) (r:V_),o[i]?=some r->r.length=k/\(∀u∈r,u.oneCell'=true)/\(∃p,a=some p/\∀j u,r[j]?=some u->w.cell? (p.add (i*k+j))=some u)/\∃y,m[i]?=some y/\R w r y):=by
   intro q;induction q with
   |zero=>exact λ_=>⟨[],rfl,λi r h=>by simp at h⟩
   |succ q ih=>
    intro hq;obtain⟨rs,e1,e2⟩:=ih E;obtain⟨p,r,f1,f2,f3,f4,f5⟩:=a1 q m[q] (by simp[(E:q<m.length)]);refine⟨rs++[r],by simp[e1],λi r' I=>?_⟩;by_cases hi:i<q;rw[PF E] at I;exact e2 i r' I;have:i=q:=by have:=(Bq.1 I).1;simp[e1] at this;omega
    subst this;rw[qz E] at I;simp[e1] at I;subst I;exact⟨f3,X _ _ f5,⟨p,f1,f4⟩,m[i],by simp[(E:i<m.length)],f5⟩
  exact gen m.length (HK _)
 obtain⟨o,g1,V⟩:=Q;have O:∀r∈o,r.length=k:=λr hr=>by obtain⟨j,J⟩:=wE.1 hr;exact(V j r J).1
 refine EU o g1 (λr hr=>by obtain⟨j,J⟩:=wE.1 hr;exact⟨(V j r J).1,(V j r J).2.1⟩) (λj r y hr U=>?_) ?_;obtain⟨_,_,_,y',a6,al⟩:=V j r hr;rw[U] at a6;cases a6;exact al;refine RW ⟨i,z,ht,hi,hz,hs,hb,a8,hk⟩ h1 a m.length c o.flatten (by rw[ED o O,g1]) ?_ ?_ ?_ Z Y hB;intro ha;by_cases an:m.length=0;exact an;obtain⟨p,r,f1,_⟩:=a1 0 m[0] (by simp[(E:0<m.length)]);rw[ha] at f1;cases f1;intro p hp q u hu;obtain⟨r,hr,av⟩:=Kb hk o O q u hu;obtain⟨_,_,⟨p',a7,ax⟩,_⟩:=V _ r hr;rw[hp] at a7;cases a7;have:=ax _ u av;rwa [zQ] at this;intro u hu;obtain⟨r,hr,ay⟩:=List.mem_flatten.1 hu;obtain⟨j,J⟩:=wE.1 hr;exact(V j r J).2.1 u ay
def AK.next{M j:f_}{w o w2:e_}(h1:AK j w o)(i:AK M o w2)(I:∀b,b<w.heap.size->M b->j b):AK j w w2:=⟨i.os.trans h1.os,i.tape.trans h1.tape,i.output.trans h1.output,vx h1.size i.size,λb hb B=>(i.Ap b (Nn hb h1.size) λh=>B (I b hb h)).trans (h1.Ap b hb B)⟩
def BC.U_{k:Nat}{R:e_->V_->α->Prop}{l:List α}(h:BC S k R w v l)(i:AI w w')(hk:0<k)(j:∀r x,R w r x->R w' r x):BC S k R w' v l:=h.mono C0 (λb hb _=>i.Ap b hb E_) hk j
def BC.U'{S M:f_}{k:Nat}{R:e_->V_->α->Prop}{l:List α}(h:BC S k R w v l)(i:AK M w w')(j:∀b,b<w.heap.size->S b->¬M b)(hk:0<k)(o:∀r x,R w r x->R w' r x):BC S k R w' v l:=h.mono C0 (λb hb B=>i.Ap b hb (j b hb B)) hk o
def BC.sub{k:Nat}{R R':e_->V_->α->Prop}{l:List α}(h:BC S k R w v l)(i:∀b,b<w.heap.size->S b->S' b)(hk:0<k)(j:∀r x,R w r x->R' w r x):BC S' k R' w v l:=h.mono i I_ hk j
def AG.Bk{B o e k:Nat}{R:e_->V_->α->Prop}{l:List α}(h:AG B e k R w v l)(hb:∀g,v.ownBlock=some g->o<=g):AG o e k R w v l:=by
 obtain⟨An,h1,I,J,O⟩:=h;refine⟨An,⟨h1.1,?_⟩,I,J,O⟩;rcases h1.2 with Q|⟨g,cap,j,rfl,U,i⟩;exact .inl Q;exact .inr ⟨g,cap,j,rfl,hb g rfl,i⟩
def Jz{e k:Nat}{K:Cont}(h:K (.slice (h_ w.heap.size) 0 0) (w.alloc (.cells #[] e))):Eb e k 0 [] [] K w:=by
 refine⟨#[],?_,h⟩;simp[Instr.fill,Array.range_zero']
def cM{k:Nat}:∀(An:List V_) (i j:Nat) (r:V_) (u:d_),(∀r∈An,r.length=k)->An[i]?=some r->j<k->An.flatten.set (i*k+j) u=(An.set i (r.set j u)).flatten:=by
 intro An;induction An with
 |nil=>intro i j r u _ h;simp at h
 |cons o rs B=>
  intro i j r u h hi I;have h0:=h o D_;cases i with
  |zero=>
   simp at hi;subst hi;simp[yZ,yw,yx,wS];rw[List.set_append_left _ _ E]
  |succ i=>
   have:=B i j r u (λr hr=>h r (by simp[hr])) (by simpa using hi) I;simp[yZ,aAd];rw[wV _ _ (by rw[h0,wF];omega),<-this];congr 2;rw[h0,wF];omega
def AG.store{B e k:Nat}{R R':e_->V_->α->Prop}{a:Addr}{n c:Nat}{l:List α}(h:AG B e k R w (.slice (some a) n c) l){i j:Nat}{u:d_}{x':α}(hi:i<l.length)(hj:j<k) (hu:u.oneCell'=true)(hR:∀r y,y∈l->R w r y->R' (w.setCell (a.add (i*k+j)) u) r y)(hx:∀r,R w r l[i]->R' (w.setCell (a.add (i*k+j)) u) (r.set j u) x') : (∃v,w.cell? (a.add (i*k+j))=some v)/\w.frozen? (a.add (i*k+j))=false/\AG B e k R' (w.setCell (a.add (i*k+j)) u) (.slice (some a) n c) (l.set i x')/\AK (λb=>b=a.block) w (w.setCell (a.add (i*k+j)) u):=by
 obtain⟨An,h1,X,Y,h4⟩:=h;have o:∀r∈An,r.length=k:=λr hr=>(Y r hr).1;have O:i<An.length:=E;have Z:∃g,a=⟨g,0,none⟩/\n=l.length:=by
  rcases h1.2 with⟨V,_⟩|⟨g',a1,a6,V,_⟩;simp at V;simp[yI,S5] at V;exact⟨g',V.1,V.2.1⟩
 obtain⟨g,rfl,rfl⟩:=Z;have Q:(⟨g,0,none⟩:Addr).add (i*k+j)=⟨g,i*k+j,none⟩:=by unfold Addr.add;split<;>simp_all
 rw[Q] at hR hx ⊢;have J:i*k+j<l.length*k:=by
  have:(i+1)*k<=l.length*k:=wj _ hi;rw[wF] at this;omega
 obtain⟨s1,s2⟩:=h1.stored (i*k+j) u;have U:An[i]?=some An[i]:=by simp[O]
 refine⟨?_,h1.frozenAt _,?_,?_⟩;refine⟨(An.flatten)[i*k+j]'(by rw[ED An o,X];exact J),?_⟩;rw[h1.cellAt _ J];simp[ED An o,X,J];refine⟨An.set i (An[i].set j u),?_,by simp[X],?_,?_⟩;rw[q7,<-cM An i j An[i] u o U hj];exact s1;intro r hr;rcases aAk hr with hr|rfl;exact Y r hr;refine⟨by rw[q7];exact o _ D_,λy I=>?_⟩;rcases aAk I with I|rfl;exact(Y An[i] D_).2 y I;exact hu;intro q r y hr I;by_cases hq:i=q;subst hq;simp[sT O,sT hi,S5] at hr I;subst hr;subst I;exact hx _ (h4 i _ _ U (by simp[hi]));rw[vu hq] at hr I;exact hR r y (wD I) (h4 q r y hr I);exact AK.setCell _ _ _ rfl
section
def jX(n:Nat)(e:Env):X'->V_->Env
 |[],_=>e
 |p::ps,vs=>jX n (IB n e p (vs.headD undef)) ps vs.tail
def Quiet(W W':e_):Prop:=W'.os=W.os/\W'.tape=W.tape/\W'.output=W.output
def Quiet.trans{a b c:e_}(h:Quiet a b)(k:Quiet b c):Quiet a c:=⟨k.1.trans h.1,k.2.1.trans h.2.1,k.2.2.trans h.2.2⟩
def PL(st:Prop)(P:Program)(O:Nat)(cap:V_)(o:Nat->V_)(N:Nat)(Rd:f_)(w:e_):Prop:=∀(l:Nat) (J:Nat->(f_)->e_->Prop) (B:(f_)->e_->Prop) (I:e_),AK (λ_=>False) w I->J 0 (λ_=>False) I->(∀k i j W W',J k i W->AK (λb=>¬st/\i b) W W'->(∀b,j b->(i b\/W.heap.size<=b)/\b<W'.heap.size)->J k j W')->(∀i j W W',B i W->AK (λb=>¬st/\i b) W W'->(∀b,j b->(i b\/W.heap.size<=b)/\b<W'.heap.size)->B j W')->(∀k i W,J k i W->∀b,b<w.heap.size->Rd b->W.heap[b]?=w.heap[b]?)->(∀k i W,k<N->J k i W->Nk P l (o k) (λv W'=>W.heap.size<=W'.heap.size/\(∀b,i b->W'.heap[b]?=W.heap[b]?)/\Quiet W W'/\((v=.bool true/\J (k+1) i W')\/(v=.bool false/\B i W'))) W)->AF P O (.func (.yield l) #[] #[]::cap) (λ_ W'=>∃i,J N i W'\/B i W') I
def nQ(O:f_)(I:f_)(P:Program)(Q:Nat)(cap:V_)(A_:Nat->(f_)->e_->V_->Prop)(N:Nat)(Rd:f_)(w:e_):Prop:=∀(l:Nat) (J:Nat->(f_)->e_->Prop) (o:(f_)->e_->Prop) (B:e_),AK (λ_=>False) w B->J 0 O B->(∀k i j W W',J k i W->AK (λb=>I b/\i b) W W'->(∀b,j b->(i b\/W.heap.size<=b)/\b<W'.heap.size)->J k j W')->(∀i j W W',o i W->AK (λb=>I b/\i b) W W'->(∀b,j b->(i b\/W.heap.size<=b)/\b<W'.heap.size)->o j W')->(∀k i W,J k i W->∀b,b<w.heap.size->Rd b->W.heap[b]?=w.heap[b]?)->(∀k i W args,k<N->J k i W->A_ k i W args->Nk P l args (λv W'=>W.heap.size<=W'.heap.size/\(∀b,i b->W'.heap[b]?=W.heap[b]?)/\Quiet W W'/\((v=.bool true/\J (k+1) i W')\/(v=.bool false/\o i W'))) W)->AF P Q (.func (.yield l) #[] #[]::cap) (λ_ W'=>∃i,J N i W'\/o i W') B
def PL.i{st:Prop}{P:Program}{o N:Nat}{j:Nat->V_}{Rd:f_}(h:PL st P o cs j N Rd w):nQ (λ_=>False) (λ_=>¬st) P o cs (λk _ _ a=>a=j k) N Rd w:=λl J B I g h0 hJ UF MU hr=>h l J B I g h0 hJ UF MU λk O W hk Q=>hr k O W _ hk Q rfl
def tw(i:f_)(w W W':e_):Prop:=W.heap.size<=W'.heap.size/\(∀b,i b\/b=w.heap.size\/b=w.heap.size+1->W'.heap[b]?=W.heap[b]?)/\Quiet W W'
def dn(o:f_)(w W:e_)(J:e_->Prop)(j:Exit->e_->Prop):Exit->e_->Prop:=λx W'=>tw o w W W'/\match x with
 |.normal=>J W' | .ret=>j .ret W' | .exit i=>j (.exit i) W' | _=>False
def aU(j:f_)(w W:e_)(J:e_->Prop)(B:Exit->e_->Prop)(F:(Exit->e_->Prop)->e_->Prop)(o:e_):Prop:=tw j w W o/\∀i,AK (λb=>b=w.heap.size+1) o i->F (dn j w i J B) i
def nX(i:f_)(w W:e_):Prop:=∀b,i b->b<W.heap.size/\w.heap.size+2<=b
def Tx(i:f_)(w W:e_):Prop:=∀b,i b->b<W.heap.size/\b≠w.heap.size/\b≠w.heap.size+1
def Nf(P:Program)(ok:Nat->Bool)(f:d_)(Q:Nat)(mH:V_->(((Exit->e_->Prop)->e_->Prop)->e_->Prop)->e_->Prop)(N:Exit->e_->Prop)(w:e_):Prop:=∃B I O cap A_ n Rd,f=.func (.func O) #[] (List.toArray cap)/\ok O=true/\nQ B I P O cap A_ n Rd w/\(∀k i W args,k<n->A_ k i W args->args.length=Q)/\(∀b,B b->b<w.heap.size)/\ ∃(J:Nat->(f_)->e_->Prop) (o:Exit->(f_)->e_->Prop),J 0 B w/\ (∀k i j W W',J k i W->AK (λb=>(I b/\i b)\/b=w.heap.size\/b=w.heap.size+1) W W'->(∀b,j b->(i b\/W.heap.size<=b)/\b<W'.heap.size/\b≠w.heap.size/\b≠w.heap.size+1)->J k j W')/\ (∀x i j W W',o x i W->AK (λb=>(I b/\i b)\/b=w.heap.size\/b=w.heap.size+1) W W'->(∀b,j b->(i b\/W.heap.size<=b)/\b<W'.heap.size/\b≠w.heap.size/\b≠w.heap.size+1)->o x j W')/\ (∀k i W,J k i W->∀b,b<w.heap.size->Rd b->W.heap[b]?=w.heap[b]?)/\ (∀k i W args,k<n->A_ k i W args->J k i W->w.heap.size+2<=W.heap.size->Tx i w W->mH args (aU i w W (J (k+1) i) (λx=>o x i)) W)/\ (∀i W,J n i W->Tx i w W->w.heap.size+2<=W.heap.size->W.heap[w.heap.size]?=some (.deferred (some []))->N .normal W)/\ (∀x i W,o x i W->Tx i w W->w.heap.size+2<=W.heap.size->W.heap[w.heap.size]?=some (.deferred (some []))->N x W)
def Md{P:Program}{ok:Nat->Bool}{f:d_}{mH:V_->(((Exit->e_->Prop)->e_->Prop)->e_->Prop)->e_->Prop}{N:Exit->e_->Prop} (h:∃ st U cap I n Rd,f=.func (.func U) #[] (List.toArray cap)/\ok U=true/\PL st P U cap I n Rd w/\(∀ k,k < n->(I k).length=c)/\ ∃(J:Nat->(f_)->e_->Prop) (O:Exit->(f_)->e_->Prop),J 0 (λ_=>False) w/\ (∀k j o W W',J k j W->AK (λb=>(¬st/\j b)\/b=w.heap.size\/b=w.heap.size+1) W W'->(∀b,o b->(j b\/W.heap.size<=b)/\b<W'.heap.size/\w.heap.size+2<=b)->J k o W')/\ (∀x j o W W',O x j W->AK (λb=>(¬st/\j b)\/b=w.heap.size\/b=w.heap.size+1) W W'->(∀b,o b->(j b\/W.heap.size<=b)/\b<W'.heap.size/\w.heap.size+2<=b)->O x o W')/\ (∀k j W,J k j W->∀b,b<w.heap.size->Rd b->W.heap[b]?=w.heap[b]?)/\ (∀k j W,k<n->J k j W->w.heap.size+2<=W.heap.size->nX j w W->mH (I k) (aU j w W (J (k+1) j) (λx=>O x j)) W)/\ (∀j W,J n j W->nX j w W->w.heap.size+2<=W.heap.size->W.heap[w.heap.size]?=some (.deferred (some []))->N .normal W)/\ (∀ x j W,O x j W->nX j w W->w.heap.size+2<=W.heap.size->W.heap[w.heap.size]?=some (.deferred (some []))->N x W)):Nf P ok f c mH N w:=by
 obtain ⟨st,U,cap,I,n,Rd,h1,h2,h3,h4,J,O,h5,hJ,hX,h6,h7,h8,h9⟩:=h;have up:∀ {j o:f_} {W W':e_},(w.heap.size<=W.heap.size/\∀ b,j b->w.heap.size+2<=b)->W.heap.size<=W'.heap.size->(∀ b,o b->(j b\/W.heap.size<=b)/\b < W'.heap.size/\b≠w.heap.size/\b≠w.heap.size+1)->(w.heap.size<=W'.heap.size/\∀ b,o b->w.heap.size+2<=b):=λh hz B=>⟨E,λb hb=>by
  obtain ⟨q1 | q1,q2,q3,q4⟩:=B b hb;exact h.2 b q1;omega⟩
 have ok:∀{j:f_} {W:e_},(∀b,j b->w.heap.size+2<=b)->Tx j w W->nX j w W:=λh B b hb=>⟨(B b hb).1,h b hb⟩;refine⟨_,λ_=>¬st,U,cap,_,n,Rd,h1,h2,h3.i,λk _ _ args hk e=>by rw[e];exact h4 k hk,K_,λk j W=>J k j W/\w.heap.size<=W.heap.size/\∀b,j b->w.heap.size+2<=b,λx j W=>O x j W/\w.heap.size<=W.heap.size/\∀b,j b->w.heap.size+2<=b,⟨h5,HK _,K_⟩,?_,?_,λk j W h=>h6 k j W h.1,?_,λj W h B=>h8 j W h.1 (ok h.2.2 B),λx j W h B=>h9 x j W h.1 (ok h.2.2 B)⟩;intro k j o W W' h hm B;have u:=up h.2 hm.size B;exact⟨hJ k j o W W' h.1 hm λb hb=>⟨(B b hb).1,(B b hb).2.1,u.2 b hb⟩,u⟩;intro k j o W W' h hm B;have u:=up h.2 hm.size B;exact⟨hX k j o W W' h.1 hm λb hb=>⟨(B b hb).1,(B b hb).2.1,u.2 b hb⟩,u⟩;rintro k j W _ hk rfl h hz B;have e:aU j w W (λW=>J (k+1) j W/\w.heap.size<=W.heap.size/\∀b,j b->w.heap.size+2<=b) (λx W=>O x j W/\w.heap.size<=W.heap.size/\∀b,j b->w.heap.size+2<=b)=aU j w W (J (k+1) j) λx=>O x j:=by
  funext F W1;unfold aU;refine propext (and_congr_right λV=>aBc λX=>imp_congr_right λhm=>?_);have a1:w.heap.size<=X.heap.size:=by have:=V.1;have:=hm.size;omega
  have e2:dn j w X (λW=>J (k+1) j W/\w.heap.size<=W.heap.size/\∀b,j b->w.heap.size+2<=b) (λx W=>O x j W/\w.heap.size<=W.heap.size/\∀b,j b->w.heap.size+2<=b)=dn j w X (J (k+1) j) λx=>O x j:=by
   funext x W3;unfold dn;refine propext (and_congr_right λY=>?_);have Q:w.heap.size<=W3.heap.size:=by have:=Y.1;omega
   cases x with
   |normal=>exact aBi ⟨Q,h.2.2⟩
   |ret=>exact aBi ⟨Q,h.2.2⟩
   |exit i=>exact aBi ⟨Q,h.2.2⟩
   |_=>exact yY
  rw[e2]
 rw[e];exact h7 k j W hk h.1 hz (ok h.2.2 B)
variable {P:Program}{ok:Nat->Bool}{n:Nat}
def HD{l:Nat}{K K':Cont}(h:Nk P l args K w)(hk:∀v w',K v w'->K' v w'):Nk P l args K' w:=by
 obtain⟨f,i,o,j,h1,B⟩:=h;exact⟨f,i,o,j,h1,RoundIn.mono B λe w' ⟨v,I,J⟩=>⟨v,I,hk _ _ J⟩⟩
def Fr.fill{ds:a_}{a:Act}:∀(ps:X') (vs:V_) (e:Env) (a:Act),vs.length=ps.length->Fr ds n e a->Fr ds n (jX n e ps vs) { a with tmps:=(ps.zip vs).foldl (λt x=>t.setIfInBounds x.1 x.2) a.tmps }:=by
 intro ps;induction ps with
 |nil=>intro vs e a _ h;exact h
 |cons p ps i=>
  intro vs e a hl h;cases vs with
  |nil=>simp at hl
  |cons v vs=>
   have:=i vs (IB n e p v) (a.put (some p) v) (by simpa using hl) (h.put (some p) v);exact this
def rB:Exit->Option Code
 |.ret=>some .ret
 |.exit i=>some (.exit i)
 |_=>none
def Tz{ds:a_}(av:DP P ok)(hm:P.follows .mixedOrders=true){g:Operand}{ps:Array Tmp}{x y:Code}{ax ay:HY}{e:Env}{a:Act}{N:Exit->e_->Prop}(hf:Fr ds n e a) (hx:Pj x=true)(hy:Pj y=true) (h:Nf P ok (ev e g) ps.size (λargs c4 W=>D P ok n x ax (qo (λe' W1=>c4 (λpost W2=>D P ok n y ay (λex _ Z=>post ex Z) e' W2) W1) (λ_ _ _=>False)) (jX n e ps.toList args) W) N w) : (Code.rangeFunc g ps x y).wpIn (Wd none) 0 P (λex a' w'=>Fr ({ target:=.collected w.heap.size,args:=#[] }::ds) n e a'/\N ex w') a w:=by
 obtain⟨I0,Mv,gf,cap,A_,nn,Rd,c6,c7,bk,an,bl,J,Jx,h0,hJ,UF,MU,ak,b0,b6⟩:=h;apply wpIn_rangeFunc;intro fn _;have c8:a.eval g=.func (.func gf) #[] cap.toArray:=by rw[hf.eval];exact c6
 obtain⟨rec,I⟩:∃rec:LoopState->Option Code->Loop,rec=λst pe=>{ state:=st,pending:=pe,fn,tmps:=a.tmps,params:=ps,assign:=x,body:=y,defers:=w.heap.size }:=⟨_,rfl⟩;obtain⟨W1,a7⟩:∃W1,(w.alloc (.deferred (some []))).alloc (.loop (rec .ready none))=W1:=⟨_,rfl⟩;have bp:AK (λ_=>False) w W1:=by rw[<-a7];exact(AK.alloc _ _ _).trans (AK.alloc _ _ _)
 have e2:W1.heap.size=w.heap.size+2:=by rw[<-a7];simp
 have c9:W1.heap[w.heap.size+1]?=some (.loop (rec .ready none)):=by
  rw[<-a7];have:=World.alloc_heap_new (w.alloc (.deferred (some []))) (.loop (rec .ready none));rwa [aAG] at this
 have ca:W1.heap[w.heap.size]?=some (.deferred (some [])):=by
  rw[<-a7];exact(zj _ _ _ D_).trans (World.alloc_heap_new w _)
 refine ⟨w.heap.size+1,[{ target:=.collected w.heap.size,args:=#[] }],W1,{ target:=.fn (.func gf) cap.toArray,args:=#[.func (.yield (w.heap.size+1)) #[] #[]] },W1,gf,
  (.func (.yield (w.heap.size+1)) #[] #[] :: cap).toArray,W1,?_,?_,λ_ _=>trivial,?_,M',?_⟩
 rw[<-a7,I];exact run_enterLoop_outer _ _ _ _ _;simp[resolve,c8];simp[go_sem];have:=av gf c7;simp[invoke,go_sem];exact this _ _;have X:∀(M:f_) (W:e_) (b:Nat) (o:Obj),M b->AK M W (W.putObj b o):=λM W b o hb=>
  ⟨rfl,rfl,rfl,D_,λk _ hk=>xG λe=>hk (e▸hb)⟩
 let J':Nat->(f_)->e_->Prop:=λk j W=>J k j W/\Tx j w W/\w.heap.size+2<=W.heap.size/\W.heap[w.heap.size+1]?=some (.loop (rec .ready none))/\W.heap[w.heap.size]?=some (.deferred (some []))
 let cc:(f_)->e_->Prop:=λj W=>∃ex c,rB ex=some c/\Jx ex j W/\Tx j w W/\w.heap.size+2<=W.heap.size/\W.heap[w.heap.size+1]?=some (.loop (rec .done (some c)))/\W.heap[w.heap.size]?=some (.deferred (some []))
 have al:∀(j U:f_) (W W':e_),Tx j w W->w.heap.size+2<=W.heap.size->(∀b,U b->(j b\/W.heap.size<=b)/\b<W'.heap.size)->Tx U w W':=λj U W W' h1 Ln h2 b hb=>by
  obtain⟨h3|h3,h4⟩:=h2 b hb;exact⟨h4,(h1 b h3).2⟩;exact⟨h4,E,E⟩
 have b7:=bk (w.heap.size+1) J' cc W1 bp ⟨hJ 0 I0 I0 w W1 h0 (AI.U' bp) (λb hb=>⟨.inl hb,by have:=bl b hb;omega⟩),λb hb=>by have:=bl b hb;omega,E,c9,ca⟩
  (λk j U W W' ⟨q1,Q,q3,q4,q5⟩ O Y=>⟨hJ k j U W W' q1 (O.mono λb _ hb=>.inl hb) (λb hb=>⟨(Y b hb).1,(Y b hb).2,(al j U W W' Q q3 Y b hb).2⟩),al j U W W' Q q3 Y,by have:=O.size;omega,
   (O.Ap _ E λhb=>by have:=(Q _ hb.2).2;omega).trans q4,(O.Ap _ (by omega) λhb=>by have:=(Q _ hb.2).2;omega).trans q5⟩)
  (λj U W W' ⟨ex,c,hc,q1,Q,q3,q4,q5⟩ O Y=>⟨ex,c,hc,UF ex j U W W' q1 (O.mono λb _ hb=>.inl hb) (λb hb=>⟨(Y b hb).1,(Y b hb).2,(al j U W W' Q q3 Y b hb).2⟩),al j U W W' Q q3 Y,by have:=O.size;omega,
   (O.Ap _ (by omega) λhb=>by have:=(Q _ hb.2).2;omega).trans q4,(O.Ap _ (by omega) λhb=>by have:=(Q _ hb.2).2;omega).trans q5⟩)
  (λk j W ⟨q1,_⟩ b hb hr=>MU k j W q1 b hb hr)
  ?_
 refine(aA3.2 (yh b7 ?_):CallsIn Fence.wide _ _ _ _ _ _);rintro en W2 ⟨v,rfl,j,hh⟩;have a8:Fr ({ target:=.collected w.heap.size,args:=#[] }::ds) n e { a with defers:=[{ target:=.collected w.heap.size,args:=#[] }]++a.defers }:=⟨hf.size,hf.get,by simp[hf.defers]⟩;have V:∀o,AK (λb=>(Mv b/\j b)\/b=w.heap.size\/b=w.heap.size+1) W2 (W2.putObj (w.heap.size+1) o):=λo=>X _ _ _ _ (.inr (.inr rfl));rcases hh with⟨q1,Q,q3,q4,q5⟩|⟨ex,c,hc,q1,Q,q3,q4,q5⟩;obtain⟨o,ho⟩:∃o,(Instr.endLoop (w.heap.size+1)).run P W2=.ok none (W2.putObj (w.heap.size+1) o):=⟨_,by have:=run_endLoop (P:=P) q4 (by rw[I];simp);rw[I] at this;exact this⟩;refine⟨none,_,ho,a8,?_⟩;refine b0 j _ (hJ nn j j _ _ q1 (V _) λb hb=>⟨.inl hb,by simpa using(Q b hb).1,(Q b hb).2⟩) (λb hb=>⟨by simpa using(Q b hb).1,(Q b hb).2⟩) (by simpa using q3) ((xG (by omega)).trans q5);obtain⟨o,ho⟩:∃o,(Instr.endLoop (w.heap.size+1)).run P W2=.ok (some c) (W2.putObj (w.heap.size+1) o):=⟨_,by have:=run_endLoop (P:=P) q4 (by rw[I];simp);rw[I] at this;exact this⟩;have key:N ex (W2.putObj (w.heap.size+1) o):=
  b6 ex j _ (UF ex j j _ _ q1 (V _) λb hb=>⟨.inl hb,by simpa using(Q b hb).1,(Q b hb).2⟩) (λb hb=>⟨by simpa using(Q b hb).1,(Q b hb).2⟩) (by simpa using q3) ((xG (by omega)).trans q5)
 refine⟨some c,_,ho,?_⟩;cases ex with
 |ret=>cases hc;exact wpIn_ret ⟨a8,key⟩
 |exit i=>cases hc;exact wpIn_exit ⟨a8,key⟩
 |_=>cases hc
 rintro k j W args hk ⟨q1,Q,q3,q4,q5⟩ hE;have bs:=run_yield (P:=P) (args:=args.toArray) q4 (by rw[I];simpa using an k _ _ args hk hE);rw[I] at bs;refine⟨fn,_,x,y,bs,?_⟩;have a8:Fr [] n (jX n e ps.toList args) { tmps:=(ps.zip args.toArray).foldl (λt x=>t.setIfInBounds x.1 x.2) a.tmps,defers:=[] }:=by
  have:=Fr.fill (ds:=[]) (a:=a) ps.toList args e { a with defers:=[] } (by simpa using an k _ _ args hk hE) ⟨hf.size,hf.get,rfl⟩;have e1:(ps.zip args.toArray).foldl (λt x=>t.setIfInBounds x.1 x.2) a.tmps=(ps.toList.zip args).foldl (λt x=>t.setIfInBounds x.1 x.2) a.tmps:=by
   rw[<-Array.foldl_toList];simp
  rw[e1];exact this
 apply roundIn_of_wpIn (F:=Fence.wide) trivial;apply xp (NO (ds:=[]) (ro:=some (w.heap.size+1)) (m:=0) av hm x ax _ _ W _ (.inr hx) a8 (ak k j W args hk hE q1 q3 Q));rintro ex a1 Wa ⟨e1,ch,_,hb⟩;cases ex with
 |normal=>
  obtain⟨⟨dT,aa,cu⟩,b8⟩:=hb;refine⟨_,run_beginRound ((aa (w.heap.size+1) (.inr (.inr rfl))).trans q4) (by rw[I]),?_⟩;have cx:(Wa.putObj (w.heap.size+1) (.loop { rec .ready none with state:=.busy })).heap[w.heap.size+1]?=some (.loop { rec .ready none with state:=.busy }):=aA5 E;have dj:(Wa.putObj (w.heap.size+1) (.loop { rec .ready none with state:=.busy })).heap[w.heap.size]?=some (.deferred (some [])):=(xG (by omega)).trans ((aa w.heap.size (.inr (.inl rfl))).trans q5);apply xp (NO (ds:=[]) (ro:=some (w.heap.size+1)) (m:=0) av hm y ay _ e1 _ _ (.inr hy) ch (b8 (Wa.putObj (w.heap.size+1) (.loop { rec .ready none with state:=.busy })) (X _ _ _ _ rfl)));rintro ex a3 Z ⟨e3,e4,_,⟨dk,b9,dr⟩,hp⟩;have Ln:Wa.heap.size<=Z.heap.size:=by simpa using dk
  have EU:∀(B:Option Code),(Instr.endRound (w.heap.size+1) B).run P Z=.ok (.bool B.isNone) (Z.putObj (w.heap.size+1) (.loop (rec (if B.isNone then .ready else .done) B)))/\
    (Z.putObj (w.heap.size+1) (.loop (rec (if B.isNone then .ready else .done) B))).heap[w.heap.size+1]?=some (.loop (rec (if B.isNone then .ready else .done) B))/\
    (Z.putObj (w.heap.size+1) (.loop (rec (if B.isNone then .ready else .done) B))).heap[w.heap.size]?=some (.deferred (some [])):=λB=>by
   have:=run_endRound (P:=P) B ((b9 (w.heap.size+1) (.inr (.inr rfl))).trans cx);rw[I] at this ⊢;exact⟨this,aA5 (by omega),(xG (by omega)).trans ((b9 w.heap.size (.inr (.inl rfl))).trans dj)⟩
  have ba:∀(o:Obj) b,j b->(Z.putObj (w.heap.size+1) o).heap[b]?=W.heap[b]?:=λo b hb=>by
   have h2:=(Q b hb).2;rw[xG (by omega),b9 b (.inl hb),xG (by omega),aa b (.inl hb)]
  have qt:∀(o:Obj),Quiet W (Z.putObj (w.heap.size+1) o):=λo=>cu.trans dr;have a6:∀(o:Obj),Tx j w (Z.putObj (w.heap.size+1) o):=λo b hb=>⟨by have:=(Q b hb).1;simp;omega,(Q b hb).2⟩;have bb:∀(o:Obj) b,j b->(j b\/Z.heap.size<=b)/\b<(Z.putObj (w.heap.size+1) o).heap.size/\b≠w.heap.size/\b≠w.heap.size+1:=λo b hb=>⟨.inl hb,(a6 o b hb).1,(Q b hb).2⟩;have V:∀o,AK (λb=>(Mv b/\j b)\/b=w.heap.size\/b=w.heap.size+1) Z (Z.putObj (w.heap.size+1) o):=λo=>X _ _ _ _ (.inr (.inr rfl));cases ex with
  |normal=>
   obtain⟨f1,f2,f3⟩:=EU none;exact⟨_,_,f1,_,rfl,by simp;omega,ba _,qt _,.inl ⟨rfl,hJ _ j j _ _ hp (V _) (bb _),a6 _,by simp;omega,f2,f3⟩⟩
  |ret=>
   obtain⟨f1,f2,f3⟩:=EU (some .ret);exact⟨_,_,f1,_,rfl,by simp;omega,ba _,qt _,.inr ⟨rfl,.ret,.ret,rfl,UF .ret j j _ _ hp (V _) (bb _),a6 _,by simp;omega,f2,f3⟩⟩
  |exit i=>
   obtain⟨f1,f2,f3⟩:=EU (some (.exit i));exact⟨_,_,f1,_,rfl,by simp;omega,ba _,qt _,.inr ⟨rfl,.exit i,.exit i,rfl,UF (.exit i) j j _ _ hp (V _) (bb _),a6 _,by simp;omega,f2,f3⟩⟩
  |_=>exact hp.elim
 |_=>exact hb.elim
def Y3:List (Nat×(e_->Prop))->Nat->e_->Prop
 |[],_,_=>False
 |(j,N)::r,i,w=>bif Nat.beq i j then N w else Y3 r i w
def tP(j o:e_->Prop)(L:List (Nat×(e_->Prop)))(x:Exit)(w:e_):Prop:=match x with
 |.normal=>j w | .ret=>o w | .exit i=>Y3 L i w | _=>False
def bH{Q:Nat->e_->Prop}{i:Nat}:∀{L:X'},Y3 (L.map λi=>(i,Q i)) i w->Q i w:=by
 intro L;induction L with
 |nil=>intro h;exact h.elim
 |cons j L o=>
  intro h;simp only[S4,Y3] at h;cases hb:Nat.beq i j with
  |true=>rw[hb] at h;have:=vw hb;subst this;exact h
  |false=>rw[hb] at h;exact o h
def Ss:Code->Bool
 |.rangeFunc ..=>true
 |.seq a b=>Ss a||Ss b
 |.block _ a=>Ss a
 |_=>false
def bX(id:Nat)(Q:EQ):EQ:=λex e w=>match ex with
 |.exit i=>bif Nat.beq i id then False else Q (.exit i) e w
 |.normal=>Q .normal e w | .ret=>Q .ret e w | .goto l=>Q (.goto l) e w | .panic c=>Q (.panic c) e w | .outgrown=>Q .outgrown e w
variable (P ok n)
def DM:Code->HY->(Nat->EQ)->EQ->Env->e_->Prop
 |.seq x y,j,Q,o,e,w=>match j with
  |.node _ _ a b=>bif Ss x then(bif Pj y then DM x a (λm=>qo (λe' w'=>D P ok n y b (Q m) e' w') (Q m)) o e w else False)
    else D P ok n x a (qo (λe' w'=>DM y b Q o e' w') o) e w
  |_=>False
 |.block id x,j,Q,o,e,w=>DM x j (λm=>sy id (Q m)) (bX id o) e w
 |.rangeFunc g ps x y,j,Q,_,e,w=>match j with
  |.node L _ I J=>bif Pj x&&Pj y then Nf P ok (ev e g) ps.size (λargs B W=>D P ok n x I (qo (λe' O=>B (λpost U=>D P ok n y J (λex _ V=>post ex V) e' U) O) (λ_ _ _=>False)) (jX n e ps.toList args) W) (tP (λW=>Q w.heap.size .normal e W) (λW=>Q w.heap.size .ret e W) (L.map λi=>(i,λW=>Q w.heap.size (.exit i) e W))) w else False
  |_=>False
 |_,_,_,_,_,_=>False
variable {P ok n}
def YO(n:Nat)(Q:Nat->EQ)(i:EQ):Exit->Act->e_->Prop:=λex a w=>(ex≠.normal/\∃e,Fr [] n e a/\i ex e w)\/∃m e,Fr [{ target:=.collected m,args:=#[] }] n e a/\Q m ex e w
def fY(J:DP P ok)(hm:P.follows .mixedOrders=true):∀(c:Code) (I:HY) (Q:Nat->EQ) (O:EQ) (e:Env) (w:e_) (a:Act),Fr [] n e a->DM P ok n c I Q O e w->c.wpIn (Wd none) 0 P (YO n Q O) a w:=by
 intro c;induction c with
 |seq x y Y Z=>
  intro I Q O e w a U h;cases I with
  |node L W a1 a2=>
   simp[DM] at h;cases hr:Ss x with
   |true=>
    simp[hr] at h;cases hy:Pj y with
    |false=>simp[hy] at h
    |true=>
     simp[hy] at h;refine wpIn_seq (xp (Y a1 _ _ e w a U h) ?_);rintro ex V X (⟨B,o,h1,j⟩|⟨m,o,h1,j⟩);cases ex with
     |normal=>exact absurd rfl B
     |_=>exact .inl ⟨B,o,h1,j⟩
     cases ex with
     |normal=>
      apply xp (NO (ro:=none) (m:=0) J hm y a2 _ o X V (.inr hy) h1 j);rintro ex a7 a8 ⟨a6,h4,_,h6⟩;exact .inr ⟨m,a6,h4,h6⟩
     |_=>exact .inr ⟨m,o,h1,j⟩
   |false=>
    simp[hr] at h;refine wpIn_seq (xp (NO (ds:=[]) (ro:=none) (m:=0) J hm x a1 _ e w a (.inl rfl) U h) ?_);rintro ex V X ⟨o,h1,_,j⟩;cases ex with
    |normal=>exact Z a2 Q O o X V h1 j
    |_=>exact .inl ⟨D_,o,h1,j⟩
  |_=>exact h.elim
 |block id x ih=>
  intro I Q O e w a U h;simp[DM] at h;refine wpIn_block (xp (ih I _ _ e w a U h) ?_);rintro ex V X (⟨B,o,h1,j⟩|⟨m,o,h1,j⟩);cases ex with
  |exit i=>
   simp only[bX] at j;simp only[Exit.inBlock];cases hb:Nat.beq i id with
   |true=>rw[hb] at j;exact j.elim
   |false=>
    rw[hb] at j;rw[Bp (by intro e1;subst e1;simp at hb)];exact .inl ⟨D_,o,h1,j⟩
  |normal=>exact absurd rfl B
  |_=>exact .inl ⟨D_,o,h1,j⟩
  cases ex with
  |exit i=>
   simp only[sy] at j;simp only[Exit.inBlock];cases hb:Nat.beq i id with
   |true=>rw[hb] at j;rw[Cx (vw hb)];exact .inr ⟨m,o,h1,j⟩
   |false=>
    rw[hb] at j;rw[Bp (by intro e1;subst e1;simp at hb)];exact .inr ⟨m,o,h1,j⟩
  |_=>exact .inr ⟨m,o,h1,j⟩
 |rangeFunc g ps x y _ _=>
  intro I Q O e w a U h;cases I with
  |node L W a1 a2=>
   simp only[DM] at h;cases hb:(Pj x&&Pj y) with
   |false=>simp only[hb,xN] at h
   |true=>
    simp only[hb,xR] at h;simp[aE] at hb;apply xp (Tz J hm U hb.1 hb.2 h);rintro ex V X ⟨h1,j⟩;refine .inr ⟨_,e,h1,?_⟩;cases ex with
    |normal=>exact j
    |ret=>exact j
    |exit i=>exact bH (Q:=λi W=>Q w.heap.size (.exit i) e W) j
    |_=>exact j.elim
  |_=>exact h.elim
 |_=>intro I Q O e w a U h;exact h.elim
end
section
variable {P:Program}{ok:Nat->Bool}{n:Nat}
def Pg(m:Nat)(K:e_->Prop)(w:e_):Prop:=w.heap[m]?=some (.deferred (some []))/\K (w.putObj m (.deferred none))
def Qq(P:Program)(m:Nat)(rs:List ResultVar)(K:Cont):EQ:=λex e w=>match ex with
 |.normal=>Pg m (λw=>O3 P rs e w λvs=>K (XL vs) w) w
 |.ret=>Pg m (λw=>O3 P rs e w λvs=>K (XL vs) w) w
 |_=>False
def Zt{g:Nat}{fn:Func}{c:Code}{rs:List ResultVar}{K:Cont}{Q:HY}(o:DP P ok)(hm:P.follows .mixedOrders=true)(V:P.funcs[g]?=some fn) (hb:fn.body=some c)(X:fn.ntmps=n)(B:fn.results.toList=rs)(hl:Nat.ble args.length n=true)(h:DM P ok n c Q (λm=>Qq P m rs K) (KR P rs K) (Bm args) w):AF P g args K w:=by
 refine aA3.1 (callsIn_of_wp_marks (F:=Fence.wide) (n:=0) V hb trivial ?_);subst X B;apply xp (fY o hm c Q _ _ _ w _ (YK (xS hl)) h);rintro ex U j (⟨I,e,h1,i⟩|⟨m,e,h1,i⟩);cases ex with
 |normal=>exact absurd rfl I
 |ret=>
  obtain⟨v,J,O⟩:=Ig h1 i;show LeavesInM _ _ _ _ _ _ _ _ _;rw[h1.defers];exact⟨v,J,v,rfl,O⟩
 |_=>exact i.elim
 have key:∀(i:Pg m (λw=>O3 P fn.results.toList e w λvs=>K (XL vs) w) j),LeavesInM Fence.wide 0 P fn U.tmps (λe j=>∃v,e=.returned v/\K v j) U.defers .returning j:=by
  rintro⟨Y,J⟩;obtain⟨v,O,Z⟩:=Ig h1 J;rw[h1.defers];exact⟨D_,.inl ⟨_,_,rfl,run_takeDeferred Y,v,O,v,rfl,Z⟩⟩
 cases ex with
 |normal=>exact key i
 |ret=>exact key i
 |_=>exact i.elim
end
section
def MG:Code->Bool
 |.rangeFunc ..=>true
 |.seq a b=>MG a||MG b
 |.cond _ a b=>MG a||MG b
 |.block _ a=>MG a
 |.loop a=>MG a
 |.scope a=>MG a
 |_=>false
def pI(i:V_)(o:X')(F:V_->X'->(V_->X'->e_->Prop)->e_->Prop)(w:e_):Prop:=∃(I:V_->X'->e_->Prop) (μ:V_->e_->Nat),I i o w/\∀vs o w,I vs o w->F vs o (λj B w'=>I j B w'/\μ j w'<μ vs w) w
section
variable (P:Program)(ok:Nat->Bool)(n:Nat)
end
variable {P:Program}{ok:Nat->Bool}{n:Nat}
def Xe:X'->(e_->Prop)->e_->Prop
 |[],K,w=>K w
 |m::i,K,w=>w.heap[m]?=some (.deferred (some []))/\Xe i K (w.putObj m (.deferred none))
end
structure AvK where
 E:Nat
 one:Bool
 zE:V_
 te:Nat
 tn:Nat
 ts:Nat
 tp:Nat
 tps:Nat
 tt:Nat
 tT:Nat
 tk:Nat
 tA:Nat
 fat:Nat
 ftotals:Nat
 fset:Nat
 flift:Nat
 flean:Nat
 fbalance:Nat
 fjoin:Nat
 ffirst:Nat
 flast:Nat
 fconcat:Nat
 fsplit:Nat
 fdrop:Nat
 fpick:Nat
 fmelded:Nat
 fReplace:Nat
 fover:Nat
 fOver:Nat
 fOverf:Nat
 fSize:Nat
 fNew:Nat
 aTake:Nat
 aasked:Nat
 aFree:Nat
 aAt:Nat
 aPut:Nat
 aNew:Nat
 vm:d_
 vc:d_
 vd:d_
def AvK.zN(g:AvK):V_:=g.zE++[zI 0,zI 0,zI 0,zI 0,zI 0]
def AvK.zP(g:AvK):V_:=g.zE++[zI 0,zI 0,zI 0,zI 0,zI 0,.bool false]
def TS(g:AvK)(i:Addr->d_->Prop)(x:d_)(k:d_->Prop):Prop:=bif g.one then Ea i x k else Hz i g.E x k
def uX(g:AvK)(v0 v1:d_)(K:Cont)(w:e_):Prop:=Cl g.tn g.zN (λt4 J=>Ar v0 λt9=>BZ 3 t9 λj=>BV j (λo w2=>AF prog g.aAt [o,v1] (λi O=>Ay 0 i λB=>Ay 1 i λ_t15=>Cl g.tn g.zN (λt5 w4=>Bu (g.E+5) t5 B (λQ=>DT (g.E+5) t5 (λI U=>Bu (g.E+5) t4 I (λV=>DT (g.E+5) t4 (λX Y=>K X Y) V) U) Q) w4) O) w2) J) w
def Ya(g:AvK)(v0 v1:d_)(K:Cont)(w:e_):Prop:=Ru .i64 v1 (zI (-1)) λt9=>Al t9 (K (.tuple #[(zI 0),(zI 0),(zI 0)]) w) (AF prog g.fat [v0,v1] (λj U=>Cl g.tn g.zN (λi w2=>Bu (g.E+5) i j (λV=>Mx V (λC=>BZ (g.E+2) i λo=>JZ C o λB=>BZ (g.E+3) i λI=>JZ C I λJ=>BZ (g.E+4) i λO=>JZ C O λQ=>∀w4:e_,C w4->K (.tuple #[B,J,Q]) w4)) w2) U) w)
def ri(g:AvK)(v0 v1 v2:d_)(K:Cont)(w:e_):Prop:=IW g.tn v2 (λt5 w1=>BZ g.E t5 λJ=>BV J (λO w2=>AF prog g.ftotals [v0,O] (λj w3=>Ay 0 j λQ=>Ay 1 j λU=>Ay 2 j λV=>BZ (g.E+1) t5 λX=>BV X (λt25 w4=>AF prog g.ftotals [v0,t25] (λo Y=>Ay 0 o λZ=>Ay 1 o λa1=>Ay 2 o λa6=>DK [7] (k_ [0,1,3,7,15,0,32,127,255,511,511,1023,4095]) Y.drew (λM St=>Ar v0 λa7=>BZ 0 a7 λa8=>BZ 0 a8 λaa=>Ea (St 4) aa λak=>BZ 0 t5 λal=>TS g (St 6) al λan=>Be prog En ak [an] (λB w6=>AK (M 7) Y.drew w6/\ Ay 0 B λt39=>Ay 1 B λav=>O5 .i64 Q Z λax=>DX .i64 (zI 1) ax λay=>DX .i64 U a1 λb0=>DX .i64 b0 t39 λb6=>DX .i64 V a6 λb7=>DX .i64 b7 av λb8=>BZ (g.E+2) t5 λt55=>Cu t55 ay (λw7=>BZ (g.E+3) t5 λb9=>Cu b9 b6 (λw8=>BZ (g.E+4) t5 λba=>Cu ba b8 (λw9=>DK [6] (k_ [0,1,3,7,0,0,63]) w9.drew (λbb i=>Ar v0 λbk=>BZ 3 bk λbl=>Ea (i 3) bl λbp=>Hz (i 5) (g.E+5) t5 λbs=>AF prog g.aPut [bp,v1,bs] (λ_t64 I=>AK (bb 6) w9.drew I/\ K (.tuple #[]) I) w9.drew)) w8) w7) w6) Y.drew)) w4) w3) w2) w1) w
def iU(g:AvK)(v0 v1 v2:d_)(K:Cont)(w:e_):Prop:=AF prog g.fat [v0,v1] (λI w1=>Cl g.tn g.zN (λj w2=>Bu (g.E+5) j I (λw3=>Al v2 (BZ g.E j λJ=>BV J (λo w4=>AF prog g.fat [v0,o] (λO w5=>Cl g.tn g.zN (λt9 w6=>Bu (g.E+5) t9 O (λw7=>BZ (g.E+1) t9 λQ=>BV Q (λU w8=>BZ g.E j λt22=>Cu t22 U (λw9=>DT (g.E+5) j (λt25 V=>AF prog g.fset [v0,v1,t25] (λ_t26 X=>BZ (g.E+1) t9 λY=>Cu Y v1 (λZ=>DT (g.E+5) t9 (λa1 a6=>AF prog g.fset [v0,o,a1] (λ_t32 a7=>K o a7) a6) Z) X) V) w9) w8) w7) w6) w5) w4) w3) (BZ (g.E+1) j λa8=>BV a8 (λB aa=>AF prog g.fat [v0,B] (λak al=>Cl g.tn g.zN (λi an=>Bu (g.E+5) i ak (λav=>BZ g.E i λax=>BV ax (λt39 ay=>BZ (g.E+1) j λb0=>Cu b0 t39 (λb6=>DT (g.E+5) j (λb7 b8=>AF prog g.fset [v0,v1,b7] (λ_t44 b9=>BZ g.E i λt46=>Cu t46 v1 (λba=>DT (g.E+5) i (λbb bk=>AF prog g.fset [v0,B,bb] (λ_t50 bl=>K B bl) bk) ba) b9) b8) b6) ay) av) an) al) aa) w3)) w2) w1) w
def og(g:AvK)(v0 v1:d_)(K:Cont)(w:e_):Prop:=AF prog g.fat [v0,v1] (λo V=>Cl g.tn g.zN (λt5 w2=>Bu (g.E+5) t5 o (λX=>BZ g.E t5 λB=>BV B (λI w4=>AF prog g.ftotals [v0,I] (λi Y=>Ay 0 i λJ=>Ay 1 i λ_t21=>Ay 2 i λ_t22=>BZ (g.E+1) t5 λt25=>BV t25 (λO Z=>AF prog g.ftotals [v0,O] (λj w7=>Ay 0 j λQ=>Ay 1 j λ_t29=>Ay 2 j λ_t30=>Ec .i64 J Q λU=>K U w7) Z) Y) w4) X) w2) V) w
def UQ(g:AvK)(v0 v1 v2:d_)(K:Cont)(w:e_):Prop:=IW g.tn v2 (λt5 w1=>DT (g.E+5) t5 (λI w2=>AF prog g.fset [v0,v1,I] (λ_t11 w3=>AF prog g.flean [v0,v1] (λo w4=>ZA .i64 o (zI 1) λJ=>Al J (BZ g.E t5 λO=>BV O (λQ w5=>AF prog g.flean [v0,Q] (λU w6=>Hm .i64 U (zI 0) λt22=>Al t22 (BZ g.E t5 λV=>BV V (λt25 w7=>AF prog g.flift [v0,t25,(.bool false)] (λX w8=>BZ g.E t5 λY=>Cu Y X (λw9=>DT (g.E+5) t5 (λZ a1=>AF prog g.fset [v0,v1,Z] (λ_t31 a6=>AF prog g.flift [v0,v1,(.bool true)] (λa7 a8=>K a7 a8) a6) a1) w9) w8) w7) w6) (AF prog g.flift [v0,v1,(.bool true)] (λi aa=>K i aa) w6)) w5) w4) (Hm .i64 o (zI (-1)) λak=>Al ak (BZ (g.E+1) t5 λt39=>BV t39 (λal an=>AF prog g.flean [v0,al] (λav B=>ZA .i64 av (zI 0) λax=>Al ax (BZ (g.E+1) t5 λay=>BV ay (λt45 b0=>AF prog g.flift [v0,t45,(.bool true)] (λt46 b6=>BZ (g.E+1) t5 λb7=>Cu b7 t46 (λb8=>DT (g.E+5) t5 (λt50 b9=>AF prog g.fset [v0,v1,t50] (λ_t51 ba=>AF prog g.flift [v0,v1,(.bool false)] (λbb bk=>K bb bk) ba) b9) b8) b6) b0) B) (AF prog g.flift [v0,v1,(.bool false)] (λj bl=>K j bl) B)) an) w4) (K v1 w4))) w3) w2) w1) w
def oE(g:AvK)(v0 v1 v2 v3:d_)(K:Cont)(w:e_):Prop:=AF prog g.ftotals [v0,v1] (λB w1=>Ay 0 B λt22=>Ay 1 B λ_t23=>Ay 2 B λ_t24=>AF prog g.ftotals [v0,v3] (λI w2=>Ay 0 I λJ=>Ay 1 I λ_t30=>Ay 2 I λ_t31=>DX .i64 J (zI 1) λO=>ZA .i64 t22 O λQ=>Al Q (AF prog g.fat [v0,v1] (λt39 w3=>Cl g.tn g.zN (λi w4=>Bu (g.E+5) i t39 (λw5=>BZ (g.E+1) i λU=>BV U (λV w6=>AF prog g.fjoin [v0,V,v2,v3] (λt45 w7=>BZ (g.E+1) i λt46=>Cu t46 t45 (λw8=>DT (g.E+5) i (λX w9=>AF prog g.fbalance [v0,v1,X] (λt50 Y=>K t50 Y) w9) w8) w7) w6) w5) w4) w3) w2) (DX .i64 t22 (zI 1) λZ=>ZA .i64 J Z λt55=>Al t55 (AF prog g.fat [v0,v3] (λa1 a6=>Cl g.tn g.zN (λj a7=>Bu (g.E+5) j a1 (λa8=>BZ g.E j λaa=>BV aa (λak al=>AF prog g.fjoin [v0,v1,v2,ak] (λan av=>BZ g.E j λax=>Cu ax an (λay=>DT (g.E+5) j (λb0 b6=>AF prog g.fbalance [v0,v3,b0] (λb7 b8=>K b7 b8) b6) ay) av) al) a8) a7) a6) w2) (AF prog g.fat [v0,v2] (λb9 ba=>Cl g.tn g.zN (λo bb=>Bu (g.E+5) o b9 (λbk=>BZ g.E o λbl=>Cu bl v1 (λbp=>BZ (g.E+1) o λt76=>Cu t76 v3 (λbs=>DT (g.E+5) o (λc4 c6=>AF prog g.fset [v0,v2,c4] (λ_t80 c7=>K v2 c7) c6) bs) bp) bk) bb) ba) w2))) w1) w
def fN(g:AvK)(v0 v1:d_)(K:Cont)(w:e_):Prop:=AF prog g.fat [v0,v1] (λt9 w1=>Cl g.tn g.zN (λi w2=>Bu (g.E+5) i t9 (λw3=>BZ g.E i λo=>BV o (λB w4=>Ru .i64 B (zI (-1)) λI=>Al I (BZ (g.E+1) i λJ=>BV J (λO w5=>K (.tuple #[O,v1]) w5) w4) (BZ g.E i λQ=>BV Q (λU w6=>AF prog g.ffirst [v0,U] (λj w7=>Ay 0 j λV=>Ay 1 j λt22=>BZ g.E i λX=>Cu X V (λw8=>DT (g.E+5) i (λY w9=>AF prog g.fbalance [v0,v1,Y] (λZ a1=>K (.tuple #[Z,t22]) a1) w9) w8) w7) w6) w4)) w3) w2) w1) w
def oi(g:AvK)(v0 v1:d_)(K:Cont)(w:e_):Prop:=AF prog g.fat [v0,v1] (λt9 w1=>Cl g.tn g.zN (λi w2=>Bu (g.E+5) i t9 (λw3=>BZ (g.E+1) i λo=>BV o (λB w4=>Ru .i64 B (zI (-1)) λI=>Al I (BZ g.E i λJ=>BV J (λO w5=>K (.tuple #[O,v1]) w5) w4) (BZ (g.E+1) i λQ=>BV Q (λU w6=>AF prog g.flast [v0,U] (λj w7=>Ay 0 j λV=>Ay 1 j λt22=>BZ (g.E+1) i λX=>Cu X V (λw8=>DT (g.E+5) i (λY w9=>AF prog g.fbalance [v0,v1,Y] (λZ a1=>K (.tuple #[Z,t22]) a1) w9) w8) w7) w6) w4)) w3) w2) w1) w
def Yu(g:AvK)(v0 v1 v2:d_)(K:Cont)(w:e_):Prop:=Ru .i64 v1 (zI (-1)) λj=>Al j (K v2 w) (AF prog g.flast [v0,v1] (λi I=>Ay 0 i λo=>Ay 1 i λB=>AF prog g.fjoin [v0,o,B,v2] (λt22 w2=>K t22 w2) I) w)
def XI(g:AvK)(v0 v1 v2:d_)(K:Cont)(w:e_):Prop:=Ru .i64 v1 (zI (-1)) λgb=>Al gb (K (.tuple #[(zI (-1)),(zI (-1))]) w) (AF prog g.fat [v0,v1] (λt22 w1=>Cl g.tn g.zN (λB w2=>Bu (g.E+5) B t22 (λw3=>BZ g.E B λt25=>BV t25 (λgd w4=>AF prog g.ftotals [v0,gd] (λb7 w5=>Ay 0 b7 λ_t28=>Ay 1 b7 λav=>Ay 2 b7 λ_t30=>DK [7] (k_ [0,1,3,7,15,0,32,127,255,511,511,1023,4095]) w5.drew (λM St=>Ar v0 λgf=>BZ 0 gf λgg=>BZ 0 gg λgl=>Ea (St 4) gl λgm=>BZ 0 B λgp=>TS g (St 6) gp λgq=>Be prog En gm [gq] (λt39 w6=>AK (M 7) w5.drew w6/\ Ay 0 t39 λe9=>Ay 1 t39 λ_t41=>cI .i64 v2 av λt45=>Al t45 (BZ g.E B λgr=>BV gr (λgu w7=>AF prog g.fsplit [v0,gu,v2] (λea w8=>Ay 0 ea λgv=>Ay 1 ea λt53=>BZ (g.E+1) B λgw=>BV gw (λgx w9=>AF prog g.fjoin [v0,t53,v1,gx] (λgy gA=>K (.tuple #[gv,gy]) gA) w9) w8) w7) w6) (DX .i64 av e9 λgB=>WO .i64 v2 gB λt66=>Al t66 (BZ (g.E+1) B λgW=>BV gW (λt70 h0=>Ec .i64 v2 av λh2=>Ec .i64 h2 e9 λh3=>AF prog g.fsplit [v0,t70,h3] (λt76 h4=>Ay 0 t76 λt77=>Ay 1 t76 λh5=>BZ g.E B λh6=>BV h6 (λh7 h8=>AF prog g.fjoin [v0,h7,v1,t77] (λh9 hd=>K (.tuple #[h9,h5]) hd) h8) h4) h0) w6) (D3 (λvs hf=>∀_:Env,Mx hf (λC=>BZ g.E B λec=>JZ C ec λed=>BZ (g.E+1) B λee=>JZ C ee λef=>∀eh:e_,C eh->DT g.E (Bm vs 0) (λei hg=>BZ 0 B λej=>Bu g.E ej ei (λb8=>DK [6] (k_ [0,1,3,7,0,0,63]) b8.drew (λhh ay=>Ar v0 λek=>BZ 3 ek λen=>Ea (ay 3) en λeo=>Hz (ay 5) (g.E+5) B λep=>AF prog g.aPut [eo,v1,ep] (λ_t112 ax=>AK (hh 6) b8.drew ax/\ DK [3,11,13] (k_ [0,0,0,7,0,0,32,96,224,0,512,2031,0,8191,16383,32767]) ax.drew (λb9 b0=>AF prog g.fjoin [v0,ed,v1,(zI (-1))] (λer ba=>AK (b9 3) ax.drew ba/\ Ar v0 λet=>BZ 3 et λeu=>Ea (b0 8) eu λew=>Hz (b0 9) g.E (Bm vs 1) λey=>DW [(0,g.E),(g.E,1),(g.E+1,1),(g.E+2,1),(g.E+3,1),(g.E+4,1)] g.zN [(0,ey)] λez=>AF prog g.aTake [ew,ez] (λeA bb=>AK (b9 11) ba bb/\ AF prog g.fjoin [v0,(zI (-1)),eA,ef] (λeB eC=>AK (b9 13) bb eC/\ K (.tuple #[er,eB]) eC) bb) ba) ax.drew)) b8.drew)) hg) eh)) (λJ=>DK [10,14,15,16,17] (k_ [0,1,3,7,15,0,32,0,0,384,1023,2047,4095,4095,0,0,57343,131071]) w6.drew (λi b6=>Ar v0 λhj=>BZ 0 hj λhn=>BZ 1 hn λho=>Ea (b6 4) ho λI=>BZ 0 B λhq=>Hz (b6 6) g.E hq λO=>Ec .i64 v2 av λQ=>(Be prog En I [O,Q] (λeI U=>AK (i 10) w6.drew U/\ Ay 0 eI λeL=>Ay 1 eI λeN=>(Cl g.te g.zE (λeR bk=>AK (i 14) U bk/\ Cl g.te g.zE (λeV bl=>AK (i 15) bk bl/\ Bu g.E eR eL (λbp=>AK (i 16) bl bp/\ Bu g.E eV eN (λeX=>AK (i 17) bp eX/\ J [eR,eV] eX) bp) bl) bk) U)/\ (Cl g.te g.zE (λV bs=>AK (i 15) U bs/\ Cl g.te g.zE (λX c4=>AK (i 14) bs c4/\ Bu g.E X eL (λc6=>AK (i 16) c4 c6/\ Bu g.E V eN (λfo=>AK (i 17) c6 fo/\ J [X,V] fo) c6) c4) bs) U)) w6.drew)/\ ((Cl g.te g.zE (λj Y=>AK (i 14) w6.drew Y/\ (Be prog En I [O,Q] (λZ c7=>AK (i 10) Y c7/\ Ay 0 Z λc8=>Ay 1 Z λc9=>Cl g.te g.zE (λa1 ca=>AK (i 15) c7 ca/\ Bu g.E j c8 (λcc=>AK (i 16) ca cc/\ Bu g.E a1 c9 (λfs=>AK (i 17) cc fs/\ J [j,a1] fs) cc) ca) c7) Y)/\ (Cl g.te g.zE (λa6 ch=>AK (i 15) Y ch/\ Be prog En I [O,Q] (λa7 cu=>AK (i 10) ch cu/\ Ay 0 a7 λcx=>Ay 1 a7 λdj=>Bu g.E j cx (λdk=>AK (i 16) cu dk/\ Bu g.E a6 dj (λfv=>AK (i 17) dk fv/\ J [j,a6] fv) dk) cu) ch) Y)) w6.drew)/\ (Cl g.te g.zE (λo a8=>AK (i 15) w6.drew a8/\ (Be prog En I [O,Q] (λaa dr=>AK (i 10) a8 dr/\ Ay 0 aa λdT=>Ay 1 aa λe1=>Cl g.te g.zE (λak e2=>AK (i 14) dr e2/\ Bu g.E ak dT (λe3=>AK (i 16) e2 e3/\ Bu g.E o e1 (λfx=>AK (i 17) e3 fx/\ J [ak,o] fx) e3) e2) dr) a8)/\ (Cl g.te g.zE (λal e4=>AK (i 14) a8 e4/\ Be prog En I [O,Q] (λan e5=>AK (i 10) e4 e5/\ Ay 0 an λe6=>Ay 1 an λe7=>Bu g.E al e6 (λe8=>AK (i 16) e5 e8/\ Bu g.E o e7 (λga=>AK (i 17) e8 ga/\ J [al,o] ga) e8) e5) e4) a8)) w6.drew))))))) w5.drew)) w4) w3) w2) w1) w)
def jj(g:AvK)(v0 v1:d_)(K:Cont)(w:e_):Prop:=Ru .i64 v1 (zI (-1)) λQ=>Al Q (K (.tuple #[]) w) (AF prog g.fat [v0,v1] (λt9 U=>Cl g.tn g.zN (λt4 w2=>Bu (g.E+5) t4 t9 (λV=>BZ g.E t4 λi=>BV i (λj w4=>AF prog g.fdrop [v0,j] (λ_t13 X=>BZ (g.E+1) t4 λo=>BV o (λB Y=>AF prog g.fdrop [v0,B] (λ_t17 Z=>Ar v0 λI=>BZ 3 I λJ=>BV J (λO w8=>AF prog g.aFree [O,v1] (λ_t23 w9=>K (.tuple #[]) w9) w8) Z) Y) X) w4) V) w2) U) w)
def ow(g:AvK)(v0 v1:d_)(K:Cont)(w:e_):Prop:=Cl g.te g.zE (λt4 J=>AF prog g.fat [v0,v1] (λO w2=>runK prog (Instr.field g.tn O 0) (λt9 Q=>Cl g.te g.zE (λt5 w4=>Bu g.E t5 t9 (λU=>Ar v0 λi=>BZ 3 i λj=>BV j (λo V=>AF prog g.aFree [o,v1] (λ_t15 X=>DT g.E t5 (λB Y=>Bu g.E t4 B (λZ=>DT g.E t4 (λr0 I=>K r0 I) Z) Y) X) V) U) w4) Q) w2) J) w
def ZG(g:AvK)(v0 v1:d_)(K:Cont)(w:e_):Prop:=E3 v1 λb0=>G8 [i_,(zI 0)] (λvs i w1=>∀_:Env,Hm .i64 (Bm vs 1) b0 λb6=>Al b6 (Lb g.E v1 (Bm vs 1) λb7=>DT g.E b7 (λb8 w2=>Cl g.te g.zE (λt6 w3=>Bu g.E t6 b8 (λw4=>DK [6] (k_ [0,1,3,7,15,0,63,127,255,255,511,2047]) w4.drew (λM St=>Ar v0 λb9=>BZ 0 b9 λba=>BZ 0 ba λt22=>Ea (St 4) t22 λbb=>Hz (St 5) g.E t6 λbk=>Be prog En bb [bk] (λt25 O=>AK (M 6) w4.drew O/\ Ay 0 t25 λbl=>Ay 1 t25 λ_t27=>Ru .i64 bl (zI 0) λbp=>Al bp (DX .i64 (Bm vs 1) (zI 1) λbs=>i [(Bm vs 0),bs] O) (D3 (λ_vs_1 w6=>∀_:Env,DT g.E t6 (λt55 w7=>Eb g.te g.E 1 g.zE [(0,t55)] (λc4 w8=>runK prog (Builtin.append_ #[g.ts,g.ts] g.ts [(Bm vs 0),c4].toArray) (λc6 w9=>DX .i64 (Bm vs 1) (zI 1) λU=>i [c6,U] w9) w8) w7) w6) (λJ=>E3 (Bm vs 0) λc7=>Ec .i64 c7 (zI 1) λV=>WO .i64 V (zI 0) λc8=>Al c8 (D3 (λQ aa=>∀_:Env,Al (Bm Q 1) (DT g.E (Bm Q 0) (λc9 ca=>Lb g.E (Bm vs 0) V λt53=>Bu g.E t53 c9 (λcc=>DX .i64 (Bm vs 1) (zI 1) λX=>i [(Bm vs 0),X] cc) ca) aa) (J [] aa)) (λak=>DK [10,14,15] (k_ [0,1,3,7,15,0,0,96,224,0,1023,2047,4095,4095,0,24575,65535]) O.drew (λj o=>Ar v0 λch=>BZ 0 ch λcu=>BZ 2 cu λt39=>Ea (o 4) t39 λal=>Lb g.E (Bm vs 0) V λcx=>Hz (o 8) g.E cx λan=>Hz (o 9) g.E t6 λt45=>(Be prog En al [an,t45] (λt46 Y=>AK (j 10) O.drew Y/\ Ay 0 t46 λdj=>Ay 1 t46 λdk=>Cl g.te g.zE (λav Z=>AK (j 14) Y Z/\ Bu g.E av dj (λax=>AK (j 15) Z ax/\ ak [av,dk] ax) Z) Y) O.drew)/\ (Cl g.te g.zE (λB a1=>AK (j 14) O.drew a1/\ Be prog En al [an,t45] (λI a6=>AK (j 10) a1 a6/\ Ay 0 I λa7=>Ay 1 I λa8=>Bu g.E B a7 (λay=>AK (j 15) a6 ay/\ ak [B,a8] ay) a6) a1) O.drew)))) (J [] O)))) w4.drew)) w3) w2) w1) (K (Bm vs 0) w1)) w
def Vx(g:AvK)(v0 v1 v2 v3:d_)(K:Cont)(w:e_):Prop:=Ar v0 λt22=>BZ 4 t22 λa7=>BV a7 (λa8 w1=>AF prog g.fsplit [v0,a8,v1] (λU w2=>Ay 0 U λo=>Ay 1 U λaa=>Ec .i64 v2 v1 λak=>AF prog g.fsplit [v0,aa,ak] (λV w3=>Ay 0 V λal=>Ay 1 V λB=>AF prog g.fdrop [v0,al] (λ_t40 w4=>D3 (λvs w5=>∀_:Env,runK prog (Builtin.append_ #[g.ts,g.ts] g.ts [(Bm vs 1),v3].toArray) (λX w6=>D3 (λj w7=>∀_:Env,AF prog g.fmelded [v0,(Bm j 1)] (λt76 w8=>E3 t76 λt77=>G8 [(Bm vs 0),(zI 0)] (λi I w9=>∀_:Env,Hm .i64 (Bm i 1) t77 λan=>Al an (Lb g.E t76 (Bm i 1) λav=>DT g.E av (λax ay=>Cl g.te g.zE (λY b0=>Bu g.E Y ax (λO=>DK [8,9] (k_ [0,0,0,4,12,28,0,64,252,511,1023]) O.drew (λM St=>Ar v0 λb6=>BZ 3 b6 λb7=>Ea (St 5) b7 λb8=>Hz (St 6) g.E Y λb9=>DW [(0,g.E),(g.E,1),(g.E+1,1),(g.E+2,1),(g.E+3,1),(g.E+4,1)] g.zN [(0,b9)] λba=>AF prog g.aTake [b8,ba] (λbb Q=>AK (M 8) O.drew Q/\ AF prog g.fjoin [v0,(Bm i 0),bb,(zI (-1))] (λbk Z=>AK (M 9) Q Z/\ DX .i64 (Bm i 1) (zI 1) λbl=>I [bk,bl] Z) Q) O.drew)) b0) ay) w9) (AF prog g.fconcat [v0,(Bm i 0),(Bm j 0)] (λbp bs=>Ar v0 λc4=>BZ 4 c4 λc6=>Cu c6 bp (λc7=>K (.tuple #[]) c7) bs) w9)) w8) w7) (λa1=>T0 .i64 B (zI (-1)) λc8=>Al c8 (AF prog g.ffirst [v0,B] (λa6 c9=>Ay 0 a6 λca=>Ay 1 a6 λt66=>AF prog g.fpick [v0,t66] (λcc ch=>Eb g.te g.E 1 g.zE [(0,cc)] (λcu cx=>runK prog (Builtin.append_ #[g.ts,g.ts] g.ts [X,cu].toArray) (λdj dk=>a1 [ca,dj] dk) cx) ch) c9) w6) (a1 [B,X] w6))) w5) (λJ=>T0 .i64 o (zI (-1)) λdr=>Al dr (AF prog g.flast [v0,o] (λt46 dT=>Ay 0 t46 λe1=>Ay 1 t46 λe2=>AF prog g.fpick [v0,e2] (λt53 e3=>Eb g.te g.E 1 g.zE [(0,t53)] (λe4 e5=>runK prog (Builtin.append_ #[g.ts,g.ts] g.ts [i_,e4].toArray) (λt55 e6=>J [e1,t55] e6) e5) e3) dT) w4) (J [o,i_] w4))) w3) w2) w1) w
def dQ(g:AvK)(v0 v1 v2 v3 v4:d_)(K:Cont)(w:e_):Prop:=D3 (λ_vs w1=>∀_:Env,AF prog g.fat [v0,v1] (λcc w2=>Cl g.tn g.zN (λj w3=>Bu (g.E+5) j cc (λw4=>BZ g.E j λch=>BV ch (λcu w5=>AF prog g.ftotals [v0,cu] (λX w6=>Ay 0 X λ_t35=>Ay 1 X λi=>Ay 2 X λ_t37=>DK [7] (k_ [0,1,3,7,15,0,32,127,255,511,511,1023,4095]) w6.drew (λM St=>Ar v0 λcx=>BZ 0 cx λdj=>BZ 0 dj λdk=>Ea (St 4) dk λdr=>BZ 0 j λdT=>TS g (St 6) dT λt45=>Be prog En dr [t45] (λt46 w7=>AK (M 7) w6.drew w7/\ Ay 0 t46 λB=>Ay 1 t46 λ_t48=>D3 (λ_vs_1 w8=>∀_:Env,Ec .i64 v2 i λt66=>O5 .i64 t66 (zI 0) λY=>Ec .i64 v3 i λt70=>QO .i64 t70 B λZ=>D3 (λ_vs_2 w9=>∀_:Env,DX .i64 i B λa7=>cI .i64 v3 a7 λa8=>Al a8 (K (.bool true) w9) (BZ (g.E+1) j λaa=>BV aa (λak e1=>Ec .i64 v2 i λal=>Ec .i64 al B λan=>O5 .i64 an (zI 0) λav=>Ec .i64 v3 i λax=>Ec .i64 ax B λay=>AF prog g.fover [v0,ak,av,ay,v4] (λb0 e2=>K b0 e2) e1) w9)) (λb6=>Hm .i64 Y Z λe3=>Al e3 (BZ 0 j λt76=>DT g.E t76 (λt77 e4=>Cl g.te g.zE (λo e5=>Bu g.E o t77 (λI=>D3 (λ_vs_3 O=>∀_:Env,D3 (λ_vs_4 e6=>∀_:Env,DT g.E o (λb7 e7=>DD prog En v4 [b7] (λb8 b9=>Nj b8 λba=>Al ba (K (.bool false) b9) (b6 [] b9)) e7) e6) (λbb=>ZA .i64 Y (zI 0) λe8=>Al e8 (DK [7,11] (k_ [0,1,3,7,15,0,0,127,255,511,511,2047]) O.drew (λbk Q=>Ar v0 λe9=>BZ 0 e9 λea=>BZ 1 ea λec=>Ea (Q 4) ec λed=>Hz (Q 5) g.E o λbl=>Be prog En ed [bl,Y] (λU a1=>AK (bk 7) O.drew a1/\ Ay 0 U λ_t103=>Ay 1 U λbp=>Bu g.E o bp (λbs=>AK (bk 11) a1 bs/\ bb [] bs) a1) O.drew)) (bb [] O))) (λc4=>Hm .i64 Z B λee=>Al ee (DK [7,11] (k_ [0,1,3,7,15,0,0,127,255,511,511,1023]) I.drew (λc6 V=>Ar v0 λef=>BZ 0 ef λeh=>BZ 1 eh λei=>Ea (V 4) ei λej=>Hz (V 5) g.E o λek=>Be prog En ej [ek,Z] (λc7 a6=>AK (c6 7) I.drew a6/\ Ay 0 c7 λen=>Ay 1 c7 λ_t91=>Bu g.E o en (λc8=>AK (c6 11) a6 c8/\ c4 [] c8) a6) I.drew)) (c4 [] I))) e5) e4) w8) (b6 [] w8))) (λc9=>Hm .i64 v2 i λeo=>Al eo (BZ g.E j λep=>BV ep (λt55 er=>QO .i64 v3 i λet=>AF prog g.fover [v0,t55,v2,et,v4] (λeu ca=>Nj eu λew=>Al ew (K (.bool false) ca) (c9 [] ca)) er) w7) (c9 [] w7))) w6.drew)) w5) w4) w3) w2) w1) (λJ=>Ru .i64 v1 (zI (-1)) λey=>Al ey (K (.bool true) w) (WO .i64 v2 v3 λt25=>Al t25 (K (.bool true) w) (J [] w)))
def gk(g:AvK)(v0 v1 v2:d_)(K:Cont)(w:e_):Prop:=Lz g.tt v0 (λt3 i=>Lz 3 v1 (λt4 w2=>Lz 3 v2 (λt5 j=>K (.func (.func g.fOverf) #[] #[t3,t4,t5]) j) w2) i) w
def dW(g:AvK)(v0 v1 v2 v3:d_)(K:Cont)(w:e_):Prop:=DK [8] (k_ [0,0,2,6,14,0,0,0,255]) w.drew (λM i=>Ea (i 0) v1 λt5=>Ea (i 1) v1 λI=>Ar I λJ=>BZ 4 J λO=>Ea (i 4) O λt9=>Ea (i 5) v2 λj=>Ea (i 6) v3 λo=>AF prog g.fover [t5,t9,j,o,v0] (λ_t13 B=>AK (M 8) w.drew B/\ K (.tuple #[]) B) w.drew)
def nz(g:AvK)(v0:d_)(K:Cont)(w:e_):Prop:=Ar v0 λt9=>BZ 4 t9 λj=>BV j (λo I=>AF prog g.ftotals [v0,o] (λi w2=>Ay 0 i λ_t13=>Ay 1 i λB=>Ay 2 i λ_t15=>K B w2) I) w
def dV(g:AvK)(v0 v1:d_)(K:Cont)(w:e_):Prop:=IW g.tn v1 (λt3 w1=>IU v0 λb8=>Al (.bool b8) (K (zI (-1)) w1) (Ar v0 λO=>BZ 1 O λQ=>BV Q (λU w2=>E3 U λV=>Ec .i64 V (zI 1) λj=>WO .i64 j (zI 0) λX=>Al X (Ar v0 λY=>BZ 1 Y λZ=>BV Z (λa1 w3=>Lb 1 a1 j λt22=>BV t22 (λI w4=>Ar v0 λa6=>BZ 1 a6 λa7=>BV a7 (λa8 w5=>runK prog (Instr.sliceAt 44 a8 none (some j) none) (λaa w6=>Ar v0 λak=>BZ 1 ak λal=>Cu al aa (λw7=>DK [8] (k_ [0,1,3,7,0,0,32,127,255]) w7.drew (λM St=>Ar v0 λan=>BZ 0 an λav=>Ea (St 3) av λax=>Hz (St 5) (g.E+5) t3 λay=>DW [(0,g.E+5),(g.E+5,1)] g.zP [(0,ay),(1,(.bool true))] λt39=>Lb (g.E+6) ax I λb0=>Bu (g.E+6) b0 t39 (λw8=>AK (M 8) w7.drew w8/\ K I w8) w7.drew)) w6) w5) w4) w3) w2) (DK [7,8,11] (k_ [0,0,2,6,14,0,32,96,254,511,1023,2047]) w2.drew (λo i=>Ar v0 λb6=>BZ 0 b6 λt45=>Ea (i 4) t45 λt46=>Hz (i 5) (g.E+5) t3 λb7=>DW [(0,g.E+5),(g.E+5,1)] g.zP [(0,b7),(1,(.bool true))] λb9=>Eb g.tp (g.E+6) 1 g.zP [(0,b9)] (λba w9=>AK (o 7) w2.drew w9/\ runK prog (Builtin.append_ #[g.tps,g.tps] g.tps [t46,ba].toArray) (λt50 B=>AK (o 8) w9 B/\ Ar v0 λbb=>BZ 0 bb λbk=>Cu bk t50 (λJ=>AK (o 11) B J/\ Ar v0 λbl=>BZ 0 bl λt55=>BV t55 (λbp bs=>E3 bp λc4=>Ec .i64 c4 (zI 1) λc6=>K c6 bs) J) B) w9) w2.drew))) w1)) w
def Y4(g:AvK)(v0 v1:d_)(K:Cont)(w:e_):Prop:=IU v0 λb7=>Al (.bool b7) (K (zI 1) w) (Hm .i64 v1 (zI 0) λi=>Al i (K (zI 5) w) (Ar v0 λj=>BZ 0 j λo=>BV o (λB Z=>E3 B λI=>WO .i64 v1 I λJ=>Al J (K (zI 5) Z) (Ar v0 λt22=>BZ 0 t22 λO=>BV O (λQ w2=>Lb (g.E+6) Q v1 λU=>BZ (g.E+5) U λV=>BV V (λX w3=>Nj X λY=>Al Y (K (zI 5) w3) (K (zI 0) w3)) w2) Z)) w))
def eW(g:AvK)(v0 v1:d_)(K:Cont)(w:e_):Prop:=AF prog g.aasked [v0,v1] (λY Z=>T0 .i64 Y (zI 0) λi=>Al i (K Y Z) (Ar v0 λj=>BZ 0 j λo=>BV o (λB w2=>DW [(0,g.E+5),(g.E+5,1)] g.zP [] λI=>Lb (g.E+6) B v1 λJ=>Bu (g.E+6) J I (λw3=>Ar v0 λO=>BZ 1 O λt22=>BV t22 (λQ w4=>Eb 3 1 1 [(zI 0)] [(0,v1)] (λt25 w5=>runK prog (Builtin.append_ #[44,44] 44 [Q,t25].toArray) (λU w6=>Ar v0 λV=>BZ 1 V λX=>Cu X U (λw7=>K (zI 0) w7) w6) w5) w4) w3) w2) Z)) w
def tH(g:AvK)(v0 v1:d_)(K:Cont)(w:e_):Prop:=Cl g.tn g.zN (λt4 X=>AF prog g.aasked [v0,v1] (λi w2=>T0 .i64 i (zI 0) λo=>Al o (Cl g.tn g.zN (λY Z=>DT (g.E+5) Y (λB w4=>Bu (g.E+5) t4 B (λw5=>DT (g.E+5) t4 (λr0 w6=>K (.tuple #[r0,i]) w6) w5) w4) Z) w2) (Ar v0 λI=>BZ 0 I λJ=>BV J (λO w7=>Lb (g.E+6) O v1 λQ=>BZ 0 Q λU=>DT (g.E+5) U (λt22 w8=>Bu (g.E+5) t4 t22 (λw9=>DT (g.E+5) t4 (λj V=>K (.tuple #[j,(zI 0)]) V) w9) w8) w7) w2)) X) w
def oU(g:AvK)(v0 v1 v2:d_)(K:Cont)(w:e_):Prop:=IW g.tn v2 (λt5 X=>AF prog g.aasked [v0,v1] (λi w2=>T0 .i64 i (zI 0) λj=>Al j (K i w2) (DK [8] (k_ [0,1,3,7,0,0,63,127,255]) w2.drew (λM U=>Ar v0 λo=>BZ 0 o λB=>Ea (U 3) B λI=>Hz (U 5) (g.E+5) t5 λJ=>Lb (g.E+6) I v1 λO=>BZ 0 O λQ=>Bu (g.E+5) Q J (λV=>AK (M 8) w2.drew V/\ K (zI 0) V) w2.drew))) X) w
def oD(g:AvK)(v0:d_)(K:Cont)(w:e_):Prop:=IW g.tk v0 (λo i=>DK [1,3] (k_ [0,0,3,7,15]) i.drew (λM B=>Hz (B 0) 3 o λt3=>AF prog g.aNew [] (λt4 w2=>AK (M 1) i.drew w2/\ DW [(0,3),(3,1),(4,1)] [.nilFunc,.nilFunc,.nilFunc,(.pointer none),(zI 0)] [(0,t3),(1,t4),(2,(zI (-1)))] λt5=>IW g.tT t5 (λI j=>AK (M 3) w2 j/\ K I j) w2) i.drew)) w
def pB(g:AvK)(K:Cont)(w:e_):Prop:=DW [(0,1),(1,1)] [i_,i_] [] λi=>IW g.tA i (λj o=>K j o) w
def dh(g:AvK)(v0:d_)(K:Cont)(w:e_):Prop:=Ar v0 λt9=>BZ 4 t9 λj=>BV j (λo I=>AF prog g.ftotals [v0,o] (λi w2=>Ay 0 i λ_t13=>Ay 1 i λ_t14=>Ay 2 i λB=>K B w2) I) w
def ck(g:AvK)(v0 v1 v2:d_)(K:Cont)(w:e_):Prop:=Ar v0 λQ=>BZ 4 Q λU=>BV U (λV w1=>G8 [v1,(zI 0),V] (λvs i w2=>∀_:Env,T0 .i64 (Bm vs 2) (zI (-1)) λX=>Al X (AF prog g.fat [v0,(Bm vs 2)] (λt22 w3=>Cl g.tn g.zN (λB w4=>Bu (g.E+5) B t22 (λw5=>BZ g.E B λt25=>BV t25 (λY w6=>AF prog g.ftotals [v0,Y] (λo Z=>Ay 0 o λ_t28=>Ay 1 o λj=>Ay 2 o λI=>DK [7] (k_ [0,1,3,7,15,0,32,127,255,511,511,1023,4095]) Z.drew (λM St=>Ar v0 λa1=>BZ 0 a1 λa6=>BZ 0 a6 λa7=>Ea (St 4) a7 λa8=>BZ 0 B λaa=>TS g (St 6) aa λak=>Be prog En a8 [ak] (λt39 O=>AK (M 7) Z.drew O/\ Ay 0 t39 λJ=>Ay 1 t39 λal=>cI .i64 (Bm vs 0) j λan=>Al an (BZ g.E B λav=>BV av (λax w9=>i [(Bm vs 0),(Bm vs 1),ax] w9) O) (DX .i64 j J λay=>Hm .i64 (Bm vs 0) ay λb0=>Al b0 (DX .i64 (Bm vs 1) I λb6=>BZ 0 B λt70=>DT g.E t70 (λb7 b8=>Ec .i64 (Bm vs 0) j λb9=>DD prog En v2 [b7,b9] (λba bb=>DX .i64 b6 ba λt76=>K t76 bb) b8) O) (DX .i64 I al λt45=>DX .i64 (Bm vs 1) t45 λt46=>DX .i64 j J λt50=>Ec .i64 (Bm vs 0) t50 λbk=>BZ (g.E+1) B λbl=>BV bl (λt53 bp=>i [bk,t46,t53] bp) O))) Z.drew)) w6) w5) w4) w3) w2) (K (Bm vs 1) w2)) w1) w
def oY(g:AvK)(v0 v1 v2:d_)(K:Cont)(w:e_):Prop:=Ar v0 λQ=>BZ 4 Q λU=>BV U (λV w1=>G8 [v1,(zI 0),V] (λvs i w2=>∀_:Env,D3 (λ_vs_1 w3=>∀_:Env,AF prog g.fat [v0,(Bm vs 2)] (λX w4=>Cl g.tn g.zN (λt9 w5=>Bu (g.E+5) t9 X (λw6=>BZ g.E t9 λY=>BV Y (λZ w7=>AF prog g.ftotals [v0,Z] (λo w8=>Ay 0 o λ_t33=>Ay 1 o λB=>Ay 2 o λj=>DK [7] (k_ [0,1,3,7,15,0,32,127,255,511,511,1023,4095]) w8.drew (λM St=>Ar v0 λa1=>BZ 0 a1 λt39=>BZ 0 t39 λa6=>Ea (St 4) a6 λa7=>BZ 0 t9 λa8=>TS g (St 6) a8 λaa=>Be prog En a7 [aa] (λI O=>AK (M 7) w8.drew O/\ Ay 0 I λt45=>Ay 1 I λt46=>Hm .i64 (Bm vs 0) j λak=>Al ak (BZ g.E t9 λal=>BV al (λan av=>i [(Bm vs 0),(Bm vs 1),an] av) O) (DX .i64 j t46 λax=>Hm .i64 (Bm vs 0) ax λt70=>Al t70 (DX .i64 (Bm vs 1) B λay=>BZ 0 t9 λb0=>DT g.E b0 (λt76 b6=>Ec .i64 (Bm vs 0) j λb7=>DD prog En v2 [t76,b7] (λb8 b9=>DX .i64 ay b8 λba=>K (.tuple #[ba,(.bool true)]) b9) b6) O) (DX .i64 B t45 λt50=>DX .i64 (Bm vs 1) t50 λbb=>DX .i64 j t46 λt55=>Ec .i64 (Bm vs 0) t55 λbk=>BZ (g.E+1) t9 λbl=>BV bl (λbp bs=>i [bk,bb,bp] bs) O))) w8.drew)) w7) w6) w5) w4) w3) (λJ=>WO .i64 (Bm vs 0) (zI 0) λc4=>Al c4 (T0 .i64 (Bm vs 2) (zI (-1)) λc6=>Al c6 (J [] w2) (K (.tuple #[(zI 0),(.bool false)]) w2)) (K (.tuple #[(zI 0),(.bool false)]) w2))) w1) w
def UM(g:AvK)(v0 v1 v2:d_)(K:Cont)(w:e_):Prop:=Ru .i64 v1 (zI (-1)) λbs=>Al bs (K (.tuple #[(zI (-1)),(zI (-1))]) w) (AF prog g.fat [v0,v1] (λt22 w1=>Cl g.tn g.zN (λi w2=>Bu (g.E+5) i t22 (λw3=>BZ g.E i λt25=>BV t25 (λc4 w4=>AF prog g.ftotals [v0,c4] (λJ w5=>Ay 0 J λ_t28=>Ay 1 J λj=>Ay 2 J λ_t30=>DK [7] (k_ [0,1,3,7,15,0,32,127,255,511,511,1023,4095]) w5.drew (λM St=>Ar v0 λc6=>BZ 0 c6 λc7=>BZ 0 c7 λc8=>Ea (St 4) c8 λc9=>BZ 0 i λca=>TS g (St 6) ca λcc=>Be prog En c9 [cc] (λt39 X=>AK (M 7) w5.drew X/\ Ay 0 t39 λY=>Ay 1 t39 λ_t41=>cI .i64 v2 j λt45=>Al t45 (BZ g.E i λch=>BV ch (λcu w7=>AF prog g.fsplit [v0,cu,v2] (λZ w8=>Ay 0 Z λcx=>Ay 1 Z λt53=>BZ (g.E+1) i λdj=>BV dj (λdk w9=>AF prog g.fjoin [v0,t53,v1,dk] (λdr dT=>K (.tuple #[cx,dr]) dT) w9) w8) w7) X) (DX .i64 j Y λe1=>WO .i64 v2 e1 λt66=>Al t66 (BZ (g.E+1) i λe2=>BV e2 (λt70 e3=>Ec .i64 v2 j λe4=>Ec .i64 e4 Y λe5=>AF prog g.fsplit [v0,t70,e5] (λt76 e6=>Ay 0 t76 λt77=>Ay 1 t76 λe7=>BZ g.E i λe8=>BV e8 (λe9 ea=>AF prog g.fjoin [v0,e9,v1,t77] (λec ed=>K (.tuple #[ec,e7]) ed) ea) e6) e3) X) (DK [10] (k_ [0,1,3,7,15,0,32,0,0,384,1023,2047,4095,4095,8191,32767]) X.drew (λee B=>Ar v0 λef=>BZ 0 ef λeh=>BZ 1 eh λei=>Ea (B 4) ei λej=>BZ 0 i λek=>Ea (B 6) ek λen=>Ec .i64 v2 j λeo=>Be prog En ej [en,eo] (λa1 a6=>AK (ee 10) X.drew a6/\ Ay 0 a1 λep=>Ay 1 a1 λer=>Mx a6 (λC=>BZ g.E i λa7=>JZ C a7 λa8=>BZ (g.E+1) i λaa=>JZ C aa λak=>∀al:e_,C al->BZ 0 i λan=>Cu an ep (λO=>DK [6] (k_ [0,1,3,7,0,0,63]) O.drew (λet I=>Ar v0 λav=>BZ 3 av λax=>Ea (I 3) ax λay=>Hz (I 5) (g.E+5) i λb0=>AF prog g.aPut [ay,v1,b0] (λ_t112 o=>AK (et 6) O.drew o/\ DK [3,11,13] (k_ [0,0,0,7,0,0,32,96,224,0,512,2031,0,8191,16383,32767]) o.drew (λQ b6=>AF prog g.fjoin [v0,a8,v1,(zI (-1))] (λb7 U=>AK (Q 3) o.drew U/\ Ar v0 λb8=>BZ 3 b8 λb9=>Ea (b6 8) b9 λba=>DW [(0,g.E),(g.E,1),(g.E+1,1),(g.E+2,1),(g.E+3,1),(g.E+4,1)] g.zN [(0,er)] λbb=>AF prog g.aTake [ba,bb] (λbk V=>AK (Q 11) U V/\ AF prog g.fjoin [v0,(zI (-1)),bk,ak] (λbl bp=>AK (Q 13) V bp/\ K (.tuple #[b7,bl]) bp) V) U) o.drew)) O.drew)) al)) X.drew)))) w5.drew)) w4) w3) w2) w1) w)
def jM(g:AvK)(v0 v1:d_)(K:Cont)(w:e_):Prop:=AF prog g.fat [v0,v1] (λB I=>runK prog (Instr.field g.tn B 0) (λt9 w2=>Ar v0 λi=>BZ 3 i λj=>BV j (λo J=>AF prog g.aFree [o,v1] (λ_t15 w4=>K t9 w4) J) w2) I) w
def VM(g:AvK)(v0 v1:d_)(K:Cont)(w:e_):Prop:=E3 v1 λO=>G8 [i_,(zI 0)] (λvs i w1=>∀_:Env,Hm .i64 (Bm vs 1) O λQ=>Al Q (Lb g.E v1 (Bm vs 1) λU=>BV U (λj w2=>Ar v0 λV=>BZ 0 V λX=>BZ 0 X λt22=>BV t22 (λY w3=>DD prog En Y [j] (λt25 w4=>Ay 0 t25 λZ=>Ay 1 t25 λ_t27=>Ru .i64 Z (zI 0) λa1=>Al a1 (DX .i64 (Bm vs 1) (zI 1) λa6=>i [(Bm vs 0),a6] w4) (D3 (λ_vs_1 w5=>∀_:Env,Eb g.te g.E 1 g.zE [(0,j)] (λa7 w6=>runK prog (Builtin.append_ #[g.ts,g.ts] g.ts [(Bm vs 0),a7].toArray) (λa8 w7=>DX .i64 (Bm vs 1) (zI 1) λo=>i [a8,o] w7) w6) w5) (λJ=>E3 (Bm vs 0) λaa=>Ec .i64 aa (zI 1) λB=>WO .i64 B (zI 0) λak=>Al ak (DK [10] (k_ [0,1,3,7,15,0,0,96,224,0,1023,2047,4095,4095,8191,32767]) w4.drew (λM St=>Ar v0 λal=>BZ 0 al λan=>BZ 2 an λt39=>Ea (St 4) t39 λav=>Lb g.E (Bm vs 0) B λax=>Ea (St 8) ax λay=>Be prog En av [ay,j] (λt46 w8=>AK (M 10) w4.drew w8/\ Ay 0 t46 λb0=>Ay 1 t46 λb6=>Al b6 (Lb g.E (Bm vs 0) B λt53=>Cu t53 b0 (λw9=>DX .i64 (Bm vs 1) (zI 1) λI=>i [(Bm vs 0),I] w9) w8) (J [] w8)) w4.drew)) (J [] w4)))) w3) w2) w1) (K (Bm vs 0) w1)) w
def TJ(g:AvK)(v0 v1 v2 v3:d_)(K:Cont)(w:e_):Prop:=Ar v0 λt22=>BZ 4 t22 λY=>BV Y (λZ w1=>AF prog g.fsplit [v0,Z,v1] (λO w2=>Ay 0 O λo=>Ay 1 O λa1=>Ec .i64 v2 v1 λa6=>AF prog g.fsplit [v0,a1,a6] (λQ w3=>Ay 0 Q λa7=>Ay 1 Q λB=>AF prog g.fdrop [v0,a7] (λ_t40 w4=>D3 (λvs w5=>∀_:Env,runK prog (Builtin.append_ #[g.ts,g.ts] g.ts [(Bm vs 1),v3].toArray) (λU w6=>D3 (λj w7=>∀_:Env,AF prog g.fmelded [v0,(Bm j 1)] (λt76 w8=>E3 t76 λt77=>G8 [(Bm vs 0),(zI 0)] (λi I w9=>∀_:Env,Hm .i64 (Bm i 1) t77 λa8=>Al a8 (Lb g.E t76 (Bm i 1) λaa=>BV aa (λak al=>Ar v0 λan=>BZ 3 an λav=>BV av (λax ay=>DW [(0,g.E),(g.E,1),(g.E+1,1),(g.E+2,1),(g.E+3,1),(g.E+4,1)] g.zN [(0,ak)] λb0=>AF prog g.aTake [ax,b0] (λb6 b7=>AF prog g.fjoin [v0,(Bm i 0),b6,(zI (-1))] (λb8 b9=>DX .i64 (Bm i 1) (zI 1) λba=>I [b8,ba] b9) b7) ay) al) w9) (AF prog g.fconcat [v0,(Bm i 0),(Bm j 0)] (λbb bk=>Ar v0 λbl=>BZ 4 bl λbp=>Cu bp bb (λbs=>K (.tuple #[]) bs) bk) w9)) w8) w7) (λV=>T0 .i64 B (zI (-1)) λc4=>Al c4 (AF prog g.ffirst [v0,B] (λX c6=>Ay 0 X λc7=>Ay 1 X λt66=>AF prog g.fpick [v0,t66] (λc8 c9=>Eb g.te g.E 1 g.zE [(0,c8)] (λca cc=>runK prog (Builtin.append_ #[g.ts,g.ts] g.ts [U,ca].toArray) (λch cu=>V [c7,ch] cu) cc) c9) c6) w6) (V [B,U] w6))) w5) (λJ=>T0 .i64 o (zI (-1)) λcx=>Al cx (AF prog g.flast [v0,o] (λt46 dj=>Ay 0 t46 λdk=>Ay 1 t46 λdr=>AF prog g.fpick [v0,dr] (λt53 dT=>Eb g.te g.E 1 g.zE [(0,t53)] (λe1 e2=>runK prog (Builtin.append_ #[g.ts,g.ts] g.ts [i_,e1].toArray) (λt55 e3=>J [dk,t55] e3) e2) dT) dj) w4) (J [o,i_] w4))) w3) w2) w1) w
def X5(g:AvK)(v0 v1 v2 v3 v4:d_)(K:Cont)(w:e_):Prop:=D3 (λ_vs w1=>∀_:Env,AF prog g.fat [v0,v1] (λbl w2=>Cl g.tn g.zN (λj w3=>Bu (g.E+5) j bl (λw4=>BZ g.E j λbp=>BV bp (λbs w5=>AF prog g.ftotals [v0,bs] (λO w6=>Ay 0 O λ_t35=>Ay 1 O λi=>Ay 2 O λ_t37=>DK [7] (k_ [0,1,3,7,15,0,32,127,255,511,511,1023,4095]) w6.drew (λM St=>Ar v0 λc4=>BZ 0 c4 λc6=>BZ 0 c6 λc7=>Ea (St 4) c7 λc8=>BZ 0 j λc9=>TS g (St 6) c9 λt45=>Be prog En c8 [t45] (λt46 w7=>AK (M 7) w6.drew w7/\ Ay 0 t46 λo=>Ay 1 t46 λ_t48=>D3 (λ_vs_1 w8=>∀_:Env,Ec .i64 v2 i λt66=>O5 .i64 t66 (zI 0) λQ=>Ec .i64 v3 i λt70=>QO .i64 t70 o λU=>D3 (λ_vs_2 w9=>∀_:Env,DX .i64 i o λV=>cI .i64 v3 V λX=>Al X (K (.bool true) w9) (BZ (g.E+1) j λY=>BV Y (λZ ca=>Ec .i64 v2 i λa1=>Ec .i64 a1 o λa6=>O5 .i64 a6 (zI 0) λa7=>Ec .i64 v3 i λa8=>Ec .i64 a8 o λaa=>AF prog g.fover [v0,Z,a7,aa,v4] (λak cc=>K ak cc) ca) w9)) (λal=>Hm .i64 Q U λch=>Al ch (BZ 0 j λt76=>BV t76 (λt77 an=>D3 (λB av=>∀_:Env,D3 (λax cu=>∀_:Env,DD prog En v4 [(Bm ax 0)] (λay b0=>Nj ay λb6=>Al b6 (K (.bool false) b0) (al [] b0)) cu) (λb7=>ZA .i64 Q (zI 0) λcx=>Al cx (Ar v0 λdj=>BZ 0 dj λdk=>BZ 1 dk λdr=>BV dr (λdT e1=>DD prog En dT [(Bm B 0),Q] (λI e2=>Ay 0 I λ_t103=>Ay 1 I λb8=>b7 [b8] e2) e1) av) (b7 [(Bm B 0)] av))) (λb9=>Hm .i64 U o λe3=>Al e3 (Ar v0 λe4=>BZ 0 e4 λe5=>BZ 1 e5 λe6=>BV e6 (λe7 e8=>DD prog En e7 [t77,U] (λba e9=>Ay 0 ba λea=>Ay 1 ba λ_t91=>b9 [ea] e9) e8) an) (b9 [t77] an))) w8) (al [] w8))) (λbb=>Hm .i64 v2 i λec=>Al ec (BZ g.E j λed=>BV ed (λt55 ee=>QO .i64 v3 i λef=>AF prog g.fover [v0,t55,v2,ef,v4] (λeh bk=>Nj eh λei=>Al ei (K (.bool false) bk) (bb [] bk)) ee) w7) (bb [] w7))) w6.drew)) w5) w4) w3) w2) w1) (λJ=>Ru .i64 v1 (zI (-1)) λej=>Al ej (K (.bool true) w) (WO .i64 v2 v3 λt25=>Al t25 (K (.bool true) w) (J [] w)))
structure BF where
 kind:Int
 n:Int
 f:Int
 s:ByteArray
 deriving DecidableEq
structure Attr where
 key:Int
 val:BF
 deriving DecidableEq
abbrev _root_.Go.W_:=List Attr
def BF.cells(v:BF):V_:=[.int .u8 v.kind,zI v.n,.int .u64 v.f,.string v.s]
def Attr.cells(a:Attr):V_:=zI a.key::a.val.cells
abbrev Ch:e_->V_->Attr->Prop:=λ_ r x=>r=x.cells
abbrev CI(S:f_)(w:e_)(v:d_)(l:W_):Prop:=BC S 5 Ch w v l
def aB(a b:Attr)(w:e_) : (Op.equalIn 10000 116 (.agg a.cells.toArray) (.agg b.cells.toArray)).run prog w=.ok (decide (a=b)) w:=by
 have B:prog.underlying 116=some (.struct (prog.fieldsOf 116)):=C_;have I:prog.underlying 61=some (.struct (prog.fieldsOf 61)):=C_;have u1:=underlying3;have J:=underlying59;have O:=underlying9;rw[show(10000:Nat)=9999+1 from rfl,aAP w 9999 _ _ _ B Tryz.stoodInHeld116];simp[Program.fieldsOf,underlying116,Attr.cells,BF.cells];have Q:=Tryz.isAgg3;have U:=Tryz.isAgg61;have V:∀w,(sizeOf 61).run prog w=.ok 4 w:=λw=>by simp[sizeOf,Tryz.typeInfo61,S6];rfl
 have a3:=Tryz.isAgg5;have a4:=Tryz.isAgg2;have a5:=Tryz.isAgg59;have X:∀(x y:BF) (w:e_),(Op.equalIn 9999 61 (.agg #[.int .u8 x.kind,zI x.n,.int .u64 x.f,.string x.s]) (.agg #[.int .u8 y.kind,zI y.n,.int .u64 y.f,.string y.s])).run prog w=.ok (decide (x=y)) w:=by
  intro x y w;rw[show(9999:Nat)=9998+1 from rfl,aAP w 9998 _ _ _ I Tryz.stoodInHeld61];simp[Program.fieldsOf,underlying61];have i:∀a b:Int,(Op.equalIn 9998 5 (.int .u8 a) (.int .u8 b)).run prog w=.ok (a==b) w:=λa b=>yC w 9997 _ _ _ a b underlying5;have j:∀a b:Int,(Op.equalIn 9998 2 (zI a) (zI b)).run prog w=.ok (a==b) w:=λa b=>yC w 9997 _ _ _ a b underlying2;have Y:∀a b:Int,(Op.equalIn 9998 59 (.int .u64 a) (.int .u64 b)).run prog w=.ok (a==b) w:=λa b=>yC w 9997 _ _ _ a b J;have Z:∀a b:ByteArray,(Op.equalIn 9998 9 (.string a) (.string b)).run prog w=.ok (a.toList==b.toList) w:=λa b=>run_equalIn_string w 9997 _ a b O;have q:decide (x=y)=(x.kind==y.kind&&(x.n==y.n&&(x.f==y.f&&decide (x.s=y.s)))):=by
   cases x;cases y;rw[xk];simp[BF.mk.injEq]
  rw[q];simp[Op.eqFields,part,a3,a4,a5,Tryz.isAgg9,i,j,Y,Z,toList_beq];by_cases h1:x.kind=y.kind<;>by_cases o:x.n=y.n<;>by_cases h3:x.f=y.f<;>by_cases h4:x.s=y.s<;>simp[h1,o,h3,h4]
 have i:∀a b:Int,(Op.equalIn 9999 3 (zI a) (zI b)).run prog w=.ok (a==b) w:=λa b=>yC w 9998 _ _ _ a b u1;have j:∀(x y:BF) (w:e_),(Op.equalIn 9999 61 (.agg #[.int .u8 x.kind,zI x.n,.int .u64 x.f,.string x.s]) (.agg #[.int .u8 y.kind,zI y.n,.int .u64 y.f,.string y.s])).run prog w=.ok (decide (x=y)) w:=X;have x1:∀k q r s t:d_,(#[k,q,r,s,t]:Array d_).extract 1 5=#[q,r,s,t]:=I_;have q:decide (a=b)=(a.key==b.key&&decide (a.val=b.val)):=by
  cases a;cases b;rw[xk];simp[Attr.mk.injEq]
 rw[q];simp[Op.eqFields,part,Q,U,V,i,j a.val b.val w];by_cases h1:a.key=b.key<;>by_cases o:a.val=b.val<;>simp[h1,o]
def VE(xo yo:Operand)(a b:Attr)(w:e_) : (ET .neq 116 xo yo (.agg a.cells.toArray) (.agg b.cells.toArray)).run prog w=.ok (.bool (!decide (a=b))) w:=by
 simp[ET,td,aAQ w .neq _ xo yo _ _ Tryz.eqGuardType116,S6];rw[aBQ,aB];rfl
def JI:Dg prog 47 116 5 48:=⟨Tryz.t116,.agg #[zI 0,.int .u8 0,zI 0,.int .u64 0,.string ⟨#[]⟩],C_,C_,C_,C_,C_,by rfl,B_⟩
def Ch.one{r:V_}{x:Attr}(h:Ch w r x):∀u∈r,u.oneCell'=true:=by
 intro u hu;subst h;simp[Attr.cells,BF.cells,I3,wA,xx] at hu;rcases hu with rfl|rfl|rfl|rfl|rfl<;>rfl
abbrev J7(B:Nat)(w:e_)(v:d_)(l:W_):Prop:=AG B 116 5 Ch w v l
structure vo where
 n:Int
 set:W_
 deriving DecidableEq
structure Pr (T:Type) where
 Lu:T
 uW:T->T->T
 rS:(Env->T)->T
 uc:(e_->Prop)->(e_->T)->T
 tq:(Nat->f_)->Nat->e_->e_->T->T
 vG:e_->e_
 Ln:e_->Nat
 un:d_
 c:{i1:d_}->d_
 ci:IntKind->Nat->d_
 cn:IntKind->Nat->d_
 tI:V_->Array d_
 sR:Bool->Bool
 nt:V_->Nat->d_
 Al:d_->T->T->T
 Ly:d_->d_->d_->(d_->T)->T
 Cl:TypeId->V_->(d_->e_->T)->e_->T
 Lz:TypeId->d_->(d_->e_->T)->e_->T
 IW:TypeId->d_->(d_->e_->T)->e_->T
 BV:d_->(d_->e_->T)->e_->T
 DT:Nat->d_->(d_->e_->T)->e_->T
 Cu:d_->d_->(e_->T)->e_->T
 Bu:Nat->d_->d_->(e_->T)->e_->T
 Ar:d_->(d_->T)->T
 DX:IntKind->d_->d_->(d_->T)->T
 Ec:IntKind->d_->d_->(d_->T)->T
 ZJ:IntKind->d_->d_->(d_->T)->T
 Hm:IntKind->d_->d_->(d_->T)->T
 cI:IntKind->d_->d_->(d_->T)->T
 ZA:IntKind->d_->d_->(d_->T)->T
 WO:IntKind->d_->d_->(d_->T)->T
 Ru:IntKind->d_->d_->(d_->T)->T
 T0:IntKind->d_->d_->(d_->T)->T
 O5:IntKind->d_->d_->(d_->T)->T
 QO:IntKind->d_->d_->(d_->T)->T
 Zk:d_->d_->(d_->T)->T
 ZW:d_->d_->(d_->T)->T
 ZT:d_->d_->(d_->T)->T
 bq:d_->d_->(d_->T)->T
 Mc:d_->(Bool->T)->T
 IU:d_->(Bool->T)->T
 Nj:d_->(d_->T)->T
 BZ:Nat->d_->(d_->T)->T
 Lb:Nat->d_->d_->(d_->T)->T
 DW:List (Nat×Nat)->V_->List (Nat×d_)->(d_->T)->T
 Eb:TypeId->Nat->Nat->V_->List (Nat×d_)->(d_->e_->T)->e_->T
 Ay:Nat->d_->(d_->T)->T
 E3:d_->(d_->T)->T
 Qf:d_->(d_->T)->T
 AF:Nat->V_->(d_->e_->T)->e_->T
 Yk:Nat->V_->(d_->e_->T)->e_->T
 Be:d_->V_->(d_->e_->T)->e_->T
 DD:d_->V_->(d_->e_->T)->e_->T
 runK:Sem d_->(d_->e_->T)->e_->T
 ZB:Sem d_->(d_->T)->T
 Ea:(Addr->d_->Prop)->d_->(d_->T)->T
 Hz:(Addr->d_->Prop)->Nat->d_->(d_->T)->T
 JZ:(e_->Prop)->d_->(d_->T)->T
 RL:(e_->Prop)->Nat->d_->(d_->T)->T
 Qy:(e_->Prop)->Nat->V_->(d_->T)->T
 YX:(e_->Prop)->Nat->V_->(d_->T)->T
 K6:(e_->Prop)->Sem d_->(d_->T)->T
 Mx:e_->((e_->Prop)->T)->T
 DK:X'->List X'->e_->((Nat->f_)->(Nat->Addr->d_->Prop)->T)->T
 G8:V_->(V_->(V_->e_->T)->e_->T)->e_->T
 D3:(V_->e_->T)->((V_->e_->T)->T)->T
 pI:V_->X'->(V_->X'->(V_->X'->e_->T)->e_->T)->e_->T
 Nf:d_->Nat->(V_->(((Exit->e_->T)->e_->T)->e_->T)->e_->T)->(Exit->e_->T)->e_->T
 tP:(e_->T)->(e_->T)->List (Nat×(e_->T))->Exit->e_->T
 Pg:Nat->(e_->T)->e_->T
 Xe:X'->(e_->T)->e_->T
 qH:{i1:BinOp}->{i2:TypeId}->{i3 i4:Operand}->d_->d_->Sem d_
 vP:{i1:UnOp}->d_->Sem d_
 vM:{i1:TypeId}->d_->d_->Sem d_
 qg:{i1:TypeId}->List (Nat×d_)->Sem d_
 pE:{i1 i2:TypeId}->d_->Sem d_
 jW:{i1:TypeId}->d_->Option d_->Option d_->Option d_->Sem d_
 qA:{i1:TypeId}->{i2:Nat}->d_->Sem d_
 pT:{i1:TypeId}->d_->d_->Sem d_
 qm:{i1:TypeId}->Option d_->Sem d_
 tL:{i1:TypeId}->d_->d_->Sem d_
 sM:{i1:TypeId}->d_->Sem d_
 sN:{i1:TypeId}->{i2:Bool}->d_->d_->Sem d_
 fu:{i1:TypeId}->d_->d_->d_->Sem d_
 lU:{i1:TypeId}->d_->d_->Sem d_
 pf:{i1:TypeId}->d_->d_->d_->Sem d_
 pJ:{i1:TypeId}->d_->Sem d_
 sA:{i1:Bool}->{i2:TypeId}->d_->Sem d_
 pk:d_->Sem d_
 sV:{i1 i2:TypeId}->{i3:Bool}->d_->Sem d_
 uI:{i1:Array TypeId}->{i2:TypeId}->d_->Sem d_
 mY:{i1:Array TypeId}->{i2:TypeId}->V_->Sem d_
 sI:{i1:Array TypeId}->{i2:TypeId}->V_->Sem d_
 uZ:{i1:Array TypeId}->{i2:TypeId}->V_->Sem d_
 uY:{i1:Array TypeId}->{i2:TypeId}->V_->Sem d_
 uB:{i1:Array TypeId}->{i2:TypeId}->V_->Sem d_
 qX:{i1:Array TypeId}->{i2:TypeId}->V_->Sem d_
 mB:{i1:Array TypeId}->{i2:TypeId}->V_->Sem d_
def rG(n:Nat):Int:=n
def G5(n:Nat):rG (no_index (OfNat.ofNat n))=(OfNat.ofNat n:Int):=rfl
inductive Tg where
 |b (x:Bool)
 |v (x:d_)
abbrev TE:=Nat->Tg
abbrev KN:=List (Nat×Option Bool)
def Tg.val:Tg->d_|.b x=>.bool x|.v x=>x
section
variable {T:Type}(p:Pr T)(P:Program)(ok:Nat->Bool)
def vD(v:d_):Tg:=match v with
 |.bool b=>.b b
 |.int k i=>match i with | .ofNat n=>.v (p.ci k n) | .negSucc n=>.v (p.cn k (n+1))
 |w=>.v (p.c (i1:=w))
def cH(e:TE)(x:Operand):Tg:=match x with
 |.tmp t=>e t
 |.const v=>vD p v
 |.global g=>.v (g_ g)
 |.func g=>.v (.func (.func g) (p.tI []) (p.tI []))
def Lp(e:TE)(d:Option Nat)(v:Tg):TE:=match d with|some i=>λj=>bif Nat.beq j i then v else e j|none=>e
def Xq:List Oper->Nat->Nat
 |o::_,0=>match o.dst with | some d=>d | none=>0
 |_::r,j+1=>Xq r j
 |[],_=>0
def uw:List Oper->Nat->Option Oper
 |o::_,0=>some o
 |_::r,j+1=>uw r j
 |[],_=>none
def uE(z:d_):V_:=z.cells.toList.map λv=>(vD p v).val
def qJ(op:BinOp)(t:TypeId)(yo:Operand)(x y:d_)(K:d_->T)(F:T):T:=
 match P.underlying t with
 |some (.int k)=>match op with
  |.add=>p.DX k x y K | .sub=>p.Ec k x y K | .mul=>p.ZJ k x y K
  |.lss=>p.Hm k x y K | .leq=>p.cI k x y K | .gtr=>p.ZA k x y K | .geq=>p.WO k x y K
  |.eql=>p.Ru k x y K | .neq=>p.T0 k x y K
  |_=>F
 |some .bool=>match op with
  |.eql=>p.Zk x y K | .neq=>p.ZW x y K
  |_=>F
 |some .string=>match op with
  |.eql=>p.ZT x y K | .neq=>p.bq x y K
  |_=>F
 |some (.slice _)=>bif Q9 yo then match op with
   |.eql=>p.Mc x λb=>K (.bool b)
   |.neq=>p.Mc x λb=>K (.bool (p.sR b))
   |_=>F
  else F
 |some (.pointer _)=>bif Qo yo then match op with
   |.eql=>p.IU x λb=>K (.bool b)
   |.neq=>p.IU x λb=>K (.bool (p.sR b))
   |_=>F
  else F
 |_=>F
def rY(I:Bool)(o:Oper)(ρ:Operand->Tg)(K:Tg->e_->T)(w:e_):T:=
 match o.op with
 |.move x=>K (ρ x) w
 |.assign x=>K (ρ x) w
 |.pick c a b=>match ρ c with
  |.b true=>K (ρ a) w
  |.b false=>K (ρ b) w
  |.v x=>p.Ly x (ρ a).val (ρ b).val λv=>K (.v v) w
 |.alloc t=>match Gu P t with | some z=>p.Cl t (uE p z) (λv w=>K (.v v) w) w | none=>p.Lu
 |.box t x=>match Gk P t with | some (false,_)=>p.Lz t (ρ x).val (λv w=>K (.v v) w) w | some (true,_)=>p.IW t (ρ x).val (λv w=>K (.v v) w) w | none=>p.Lu
 |.load t x=>match Gk P t with | some (false,_)=>p.BV (ρ x).val (λv w=>K (.v v) w) w | some (true,k)=>p.DT k (ρ x).val (λv w=>K (.v v) w) w | none=>p.Lu
 |.store t a x=>match Gk P t with
  |some (false,_)=>p.Cu (ρ a).val (ρ x).val (λw=>K (.v p.un) w) w
  |some (true,k)=>p.Bu k (ρ a).val (ρ x).val (λw=>K (.v p.un) w) w
  |none=>p.Lu
 |.nilCheck x=>p.Ar (ρ x).val λv=>K (.v v) w
 |.binOp op t x y _=>qJ p P op t y (ρ x).val (ρ y).val (λv=>K (.v v) w) (p.runK (p.qH (i1:=op) (i2:=t) (i3:=x) (i4:=y) (ρ x).val (ρ y).val) (λv w=>K (.v v) w) w)
 |.unOp op _ x=>match op with
  |.not=>p.Nj (ρ x).val λv=>K (.v v) w
  |o=>p.runK (p.vP (i1:=o) (ρ x).val) (λv w=>K (.v v) w) w
 |.fieldAddr s x f=>match P.underlying s with
  |some (.struct j)=>match j.toList[f]? with
   |some f=>p.BZ f.offset (ρ x).val λv=>K (.v v) w
   |none=>p.Lu
  |_=>p.Lu
 |.indexAddr t x i=>match P.underlying t with
  |some (.slice e)=>match P.info? e with | some f=>p.Lb f.size (ρ x).val (ρ i).val λv=>K (.v v) w | none=>p.Lu
  |_=>p.runK (p.vM (i1:=t) (ρ x).val (ρ i).val) (λv w=>K (.v v) w) w
 |.build t BK=>match P.underlying t with
  |some (.struct j)=>match Gu P t with
   |some z=>match Fk P j.toList with
    |some l=>p.DW l (uE p z) (BK.toList.map λq=>(q.1,(ρ q.2).val)) λv=>K (.v v) w
    |none=>p.Lu
   |none=>p.Lu
  |_=>p.runK (p.qg (i1:=t) (BK.toList.map λq=>(q.1,(ρ q.2).val))) (λv w=>K (.v v) w) w
 |.buildSlice t len BK=>match P.underlying t with
  |some (.slice e)=>match P.info? e with
   |some i=>bif Nat.blt 0 (len*i.size) then
     match i.zero with|some z=>p.Eb e i.size len (uE p z) (BK.toList.map λq=>(q.1,(ρ q.2).val)) (λv w=>K (.v v) w) w|none=>p.Lu
    else p.Eb e i.size len [] (BK.toList.map λq=>(q.1,(ρ q.2).val)) (λv w=>K (.v v) w) w
   |none=>p.Lu
  |_=>p.Lu
 |.extract t i=>p.Ay i (ρ t).val λv=>K (.v v) w
 |.makeFunc fn B cap=>K (.v (.func fn (p.tI (B.toList.map λx=>(ρ x).val)) (p.tI (cap.toList.map λx=>(ρ x).val)))) w
 |.convert s d x=>p.runK (p.pE (i1:=s) (i2:=d) (ρ x).val) (λv w=>K (.v v) w) w
 |.slice t x lo hi mx=>p.runK (p.jW (i1:=t) (ρ x).val (lo.map λx=>(ρ x).val) (hi.map λx=>(ρ x).val) (mx.map λx=>(ρ x).val)) (λv w=>K (.v v) w) w
 |.field t x f=>p.runK (p.qA (i1:=t) (i2:=f) (ρ x).val) (λv w=>K (.v v) w) w
 |.index t x i=>p.runK (p.pT (i1:=t) (ρ x).val (ρ i).val) (λv w=>K (.v v) w) w
 |.makeMap t r=>p.runK (p.qm (i1:=t) (r.map λx=>(ρ x).val)) (λv w=>K (.v v) w) w
 |.makeSlice t l c=>p.runK (p.tL (i1:=t) (ρ l).val (ρ c).val) (λv w=>K (.v v) w) w
 |.makeInterface t x=>p.runK (p.sM (i1:=t) (ρ x).val) (λv w=>K (.v v) w) w
 |.lookup t x i b=>p.runK (p.sN (i1:=t) (i2:=b) (ρ x).val (ρ i).val) (λv w=>K (.v v) w) w
 |.mapUpdate t m k x=>p.runK (p.fu (i1:=t) (ρ m).val (ρ k).val (ρ x).val) (λv w=>K (.v v) w) w
 |.insert t m k x=>p.runK (p.fu (i1:=t) (ρ m).val (ρ k).val (ρ x).val) (λv w=>K (.v v) w) w
 |.mapEntry t m k=>p.runK (p.lU (i1:=t) (ρ m).val (ρ k).val) (λv w=>K (.v v) w) w
 |.entryStore t m s x=>p.runK (p.pf (i1:=t) (ρ m).val (ρ s).val (ρ x).val) (λv w=>K (.v v) w) w
 |.range t x=>p.runK (p.pJ (i1:=t) (ρ x).val) (λv w=>K (.v v) w) w
 |.next it s=>p.runK (p.sA (i1:=s) (i2:=o.type) (ρ it).val) (λv w=>K (.v v) w) w
 |.entry it=>p.runK (p.pk (ρ it).val) (λv w=>K (.v v) w) w
 |.typeAssert x J jz b=>p.runK (p.sV (i1:=J) (i2:=jz) (i3:=b) (ρ x).val) (λv w=>K (.v v) w) w
 |.call c=>match c.callee with
  |.value f=>match f with
   |.func g=>bif ok g then p.AF g (c.args.toList.map λx=>(ρ x).val) (λv w=>K (.v v) w) w else p.Yk g (c.args.toList.map λx=>(ρ x).val) (λv w=>K (.v v) w) w
   |f=>bif I then p.Be (ρ f).val (c.args.toList.map λx=>(ρ x).val) (λv w=>K (.v v) w) w else p.DD (ρ f).val (c.args.toList.map λx=>(ρ x).val) (λv w=>K (.v v) w) w
  |.builtin b=>match b with
   |.len=>match c.argTypes.toList,c.args.toList with
    |[t],[x]=>match P.underlying t with
     |some (.slice _)=>p.E3 (ρ x).val λv=>K (.v v) w
     |some .string=>p.Qf (ρ x).val λv=>K (.v v) w
     |_=>p.runK (p.uI (i1:=c.argTypes) (i2:=o.type) (ρ x).val) (λv w=>K (.v v) w) w
    |_,_=>p.Lu
   |.append=>p.runK (p.mY (i1:=c.argTypes) (i2:=o.type) (c.args.toList.map λx=>(ρ x).val)) (λv w=>K (.v v) w) w
   |.copy=>p.runK (p.sI (i1:=c.argTypes) (i2:=o.type) (c.args.toList.map λx=>(ρ x).val)) (λv w=>K (.v v) w) w
   |.cap=>p.runK (p.uZ (i1:=c.argTypes) (i2:=o.type) (c.args.toList.map λx=>(ρ x).val)) (λv w=>K (.v v) w) w
   |.max=>match P.underlying o.type,c.args.toList with
    |some (.int k),[x,y]=>p.O5 k (ρ x).val (ρ y).val λv=>K (.v v) w
    |_,_=>p.runK (p.uY (i1:=c.argTypes) (i2:=o.type) (c.args.toList.map λx=>(ρ x).val)) (λv w=>K (.v v) w) w
   |.min=>match P.underlying o.type,c.args.toList with
    |some (.int k),[x,y]=>p.QO k (ρ x).val (ρ y).val λv=>K (.v v) w
    |_,_=>p.runK (p.uB (i1:=c.argTypes) (i2:=o.type) (c.args.toList.map λx=>(ρ x).val)) (λv w=>K (.v v) w) w
   |.clear=>p.runK (p.qX (i1:=c.argTypes) (i2:=o.type) (c.args.toList.map λx=>(ρ x).val)) (λv w=>K (.v v) w) w
   |.delete=>p.runK (p.mB (i1:=c.argTypes) (i2:=o.type) (c.args.toList.map λx=>(ρ x).val)) (λv w=>K (.v v) w) w
   |_=>p.Lu
  |_=>p.Lu
 |_=>p.Lu
def uL(C:e_->Prop)(o:Oper)(ρ:Operand->Tg)(K:Tg->e_->T)(w:e_):T:=
 match o.op with
 |.load t x=>match Gk P t with | some (false,_)=>p.JZ C (ρ x).val λv=>K (.v v) w | some (true,k)=>p.RL C k (ρ x).val λv=>K (.v v) w | none=>p.Lu
 |.binOp op t x y _=>qJ p P op t y (ρ x).val (ρ y).val (λv=>K (.v v) w) (p.K6 C (p.qH (i1:=op) (i2:=t) (i3:=x) (i4:=y) (ρ x).val (ρ y).val) (λv=>K (.v v) w))
 |.convert s d x=>p.K6 C (p.pE (i1:=s) (i2:=d) (ρ x).val) (λv=>K (.v v) w)
 |.slice t x lo hi mx=>p.K6 C (p.jW (i1:=t) (ρ x).val (lo.map λx=>(ρ x).val) (hi.map λx=>(ρ x).val) (mx.map λx=>(ρ x).val)) (λv=>K (.v v) w)
 |.call c=>match c.callee with
  |.value f=>match f with
   |.func g=>bif ok g then p.Qy C g (c.args.toList.map λx=>(ρ x).val) (λv=>K (.v v) w) else p.YX C g (c.args.toList.map λx=>(ρ x).val) (λv=>K (.v v) w)
   |_=>p.Lu
  |_=>rY p P ok true o ρ K w
 |_=>rY p P ok true o ρ K w
def tg(BU:X')(M:Nat->f_)(j:Nat->Addr->d_->Prop)(i:Nat)(o:Oper)(ρ:Operand->Tg)(K:Tg->e_->T)(w:e_):T:=
 bif FO BU i then rY p P ok true o ρ (λv B=>p.tq M i w B (K v B)) w
 else match o.op with
 |.load t x=>match Gk P t with | some (false,_)=>p.Ea (j i) (ρ x).val λv=>K (.v v) w | some (true,k)=>p.Hz (j i) k (ρ x).val λv=>K (.v v) w | none=>p.Lu
 |.binOp op t x y _=>qJ p P op t y (ρ x).val (ρ y).val (λv=>K (.v v) w) (p.ZB (p.qH (i1:=op) (i2:=t) (i3:=x) (i4:=y) (ρ x).val (ρ y).val) (λv=>K (.v v) w))
 |_=>rY p P ok true o ρ K w
def cK(X:Oper->(Operand->Tg)->(Tg->e_->T)->e_->T)(all:List Oper)(K:TE->e_->T):List Oper->Nat->KN->TE->e_->T
 |[],_,_,e,w=>K e w
 |o::r,i,kn,e,w=>match o.guard with
  |none=>X o (cH p e) (λv w=>cK X all K r (i+1) kn (Lp e o.dst v) w) w
  |some (j,B)=>match G6 kn j with
   |some (some b)=>bif Oc b B then X o (cH p e) (λv w=>cK X all K r (i+1) kn (Lp e o.dst v) w) w
     else cK X all K r (i+1) ((i,none)::kn) (Lp e o.dst (.v p.un)) w
   |some none=>cK X all K r (i+1) ((i,none)::kn) (Lp e o.dst (.v p.un)) w
   |none=>match e (Xq all j) with
    |.b b=>bif Oc b B then X o (cH p e) (λv w=>cK X all K r (i+1) ((j,some b)::kn) (Lp e o.dst v) w) w
      else cK X all K r (i+1) ((i,none)::(j,some b)::kn) (Lp e o.dst (.v p.un)) w
    |.v v=>p.Al v
      (bif B then X o (cH p (Lp e (some (Xq all j)) (.b true))) (λv w=>cK X all K r (i+1) ((j,some true) :: kn) (Lp (Lp e (some (Xq all j)) (.b true)) o.dst v) w) w
       else cK X all K r (i+1) ((i,none) :: (j,some true) :: kn) (Lp (Lp e (some (Xq all j)) (.b true)) o.dst (.v p.un)) w)
      (bif B then cK X all K r (i+1) ((i,none) :: (j,some false) :: kn) (Lp (Lp e (some (Xq all j)) (.b false)) o.dst (.v p.un)) w
       else X o (cH p (Lp e (some (Xq all j)) (.b false))) (λv w=>cK X all K r (i+1) ((j,some false) :: kn) (Lp (Lp e (some (Xq all j)) (.b false)) o.dst v) w) w)
def ao(X:Nat->Oper->(Operand->Tg)->(Tg->e_->T)->e_->T)(all:List Oper)(K:TE->e_->T):Ord->KN->TE->e_->T
 |.nil,_,e,w=>K e w
 |.br a b,kn,e,w=>p.uW (ao X all K a kn e w) (ao X all K b kn e w)
 |.op i r,kn,e,w=>match uw all i with
  |none=>p.Lu
  |some o=>match o.guard with
  |none=>X i o (cH p e) (λv w=>ao X all K r kn (Lp e o.dst v) w) w
  |some (j,B)=>match G6 kn j with
   |some (some b)=>bif Oc b B then X i o (cH p e) (λv w=>ao X all K r kn (Lp e o.dst v) w) w
     else ao X all K r ((i,none)::kn) (Lp e o.dst (.v p.un)) w
   |some none=>ao X all K r ((i,none)::kn) (Lp e o.dst (.v p.un)) w
   |none=>match e (Xq all j) with
    |.b b=>bif Oc b B then X i o (cH p e) (λv w=>ao X all K r ((j,some b)::kn) (Lp e o.dst v) w) w
      else ao X all K r ((i,none)::(j,some b)::kn) (Lp e o.dst (.v p.un)) w
    |.v v=>p.Al v
      (bif B then X i o (cH p (Lp e (some (Xq all j)) (.b true))) (λv w=>ao X all K r ((j,some true) :: kn) (Lp (Lp e (some (Xq all j)) (.b true)) o.dst v) w) w
       else ao X all K r ((i,none) :: (j,some true) :: kn) (Lp (Lp e (some (Xq all j)) (.b true)) o.dst (.v p.un)) w)
      (bif B then ao X all K r ((i,none) :: (j,some false) :: kn) (Lp (Lp e (some (Xq all j)) (.b false)) o.dst (.v p.un)) w
       else X i o (cH p (Lp e (some (Xq all j)) (.b false))) (λv w=>ao X all K r ((j,some false) :: kn) (Lp (Lp e (some (Xq all j)) (.b false)) o.dst v) w) w)
def vB:X'->Nat->V_->Nat->Tg->Tg
 |[],_,_,_,d=>d
 |l::L,k,vs,j,d=>bif Nat.beq l j then .v (p.nt vs k) else vB L (k+1) vs j d
def vC(L:X')(W:List (Nat×Nat))(vs:V_)(h:Env)(e:TE):TE:=λj=>vB p L 0 vs j (bif qf W j then .v (h j) else e j)
abbrev PQ(T:Type):=Exit->TE->e_->T
def rP(N:TE->e_->T)(Q:PQ T):PQ T:=λex e w=>match ex with|.normal=>N e w|x=>Q x e w
def ux(id:Nat)(Q:PQ T):PQ T:=λex e w=>match ex with|.exit i=>bif Nat.beq i id then Q .normal e w else Q (.exit i) e w|x=>Q x e w
def pD:Code->HY->PQ T->TE->e_->T
 |.skip,_,Q,e,w=>Q .normal e w
 |.region _ ops D8,B,Q,e,w=>match D8 with
  |false=>cK p (λo=>rY p P ok false o) ops.toList (λe w=>Q .normal e w) ops.toList 0 [] e w
  |true=>match B with
   |.D8=>p.Mx w λC=>cK p (λo=>uL p P ok C o) ops.toList (λe _=>p.uc C λw=>Q .normal e w) ops.toList 0 [] e w
   |.dt BU AN _ t=>p.DK BU AN (p.vG w) λM O=>ao p (λi o=>tg p P ok BU M O i o) ops.toList (λe w=>Q .normal e w) t [] e (p.vG w)
   |_=>p.Lu
 |.seq x y,B,Q,e,w=>match B with
  |.node _ _ a b=>pD x a (rP (λe w=>pD y b Q e w) Q) e w
  |.cut L W a b=>p.D3 (λvs w=>p.rS λh=>pD y b Q (vC p L W vs h e) w) (λJ=>pD x a (rP (λe w=>J (L.map λj=>(e j).val) w) Q) e w)
  |_=>p.Lu
 |.cond c x y,B,Q,e,w=>match B with
  |.node _ _ a b=>match cH p e c with
   |.b true=>pD x a Q e w
   |.b false=>pD y b Q e w
   |.v v=>p.Al v (pD x a Q e w) (pD y b Q e w)
  |_=>p.Lu
 |.block id x,B,Q,e,w=>pD x B (ux id Q) e w
 |.loop x,B,Q,e,w=>match B with
  |.node L W a _=>p.G8 (L.map λj=>(e j).val) (λvs I w=>p.rS λh=>pD x a (rP (λe w=>I (L.map λj=>(e j).val) w) Q) (vC p L W vs h e) w) w
  |_=>p.Lu
 |.exit id,_,Q,e,w=>Q (.exit id) e w
 |.ret,_,Q,e,w=>Q .ret e w
 |.label _,_,Q,e,w=>Q .normal e w
 |.scope x,B,Q,e,w=>pD x B Q e w
 |_,_,_,_,_=>p.Lu
def um:TE->Nat->X'->V_->TE
 |e,_,[],_=>e
 |e,k,j::r,vs=>um (Lp e (some j) (.v (p.nt vs k))) (k+1) r vs
def vO(rd:Nat->PQ T)(g:Operand)(ps:X')(x y:Code)(L:X')(B I:HY)(e:TE)(w:e_):T:=p.Nf (cH p e g).val ps.length (λargs o w=>pD p P ok x B (rP (λe w=>o (λpost w=>pD p P ok y I (λex _ w=>post ex w) e w) w) (λ_ _ _=>p.Lu)) (um p e 0 ps args) w) (p.tP (λj=>rd (p.Ln w) .normal e j) (λj=>rd (p.Ln w) .ret e j) (L.map λi=>(i,λj=>rd (p.Ln w) (.exit i) e j))) w
def tN:Code->HY->(Nat->PQ T)->PQ T->TE->e_->T
 |.seq x y,o,Q,j,e,w=>match o with
  |.node _ _ a b=>bif Ss x then tN x a (λm=>rP (λe w=>pD p P ok y b (Q m) e w) (Q m)) j e w
    else pD p P ok x a (rP (λe w=>tN y b Q j e w) j) e w
  |_=>p.Lu
 |.block id x,o,Q,j,e,w=>tN x o (λm=>ux id (Q m)) (λex e w=>match ex with | .exit i=>bif Nat.beq i id then p.Lu else j (.exit i) e w | x=>j x e w) e w
 |.rangeFunc g ps x y,o,Q,_,e,w=>match o with
  |.node L _ B I=>vO p P ok Q g ps.toList x y L B I e w
  |_=>p.Lu
 |_,_,_,_,_,_=>p.Lu
def TU(rs:List ResultVar)(e:TE)(w:e_)(K:V_->e_->T):T:=match rs with
 |[]=>K [] w
 |.tmp t::r=>TU r e w λvs w=>K ((e t).val::vs) w
 |.cell a t::r=>match Gk P t with
  |some (false,_)=>p.BV (e a).val (λv w=>TU r e w λvs w=>K (v::vs) w) w
  |some (true,k)=>p.DT k (e a).val (λv w=>TU r e w λvs w=>K (v::vs) w) w
  |none=>p.Lu
def uz:V_->d_
 |[v]=>v
 |vs=>.tuple (p.tI vs)
def tV(rs:List ResultVar)(K:d_->e_->T):PQ T:=λex e w=>match ex with
 |.normal=>TU p P rs e w λvs w=>K (uz p vs) w
 |.ret=>TU p P rs e w λvs w=>K (uz p vs) w
 |_=>p.Lu
def uV:V_->Nat->Tg
 |[],_=>.v p.un
 |v::_,0=>.v v
 |_::r,j+1=>uV r j
def pF(f:Func)(i:HY)(args:V_)(K:d_->e_->T)(w:e_):T:=pD p P ok (CB f) i (tV p P f.results.toList K) (uV p args) w
def vW(f:Func)(i:HY)(args:V_)(K:d_->e_->T)(w:e_):T:=
 tN p P ok (CB f) i (λm ex e w=>match ex with|.normal=>p.Pg m (λw=>tV p P f.results.toList K .normal e w) w|.ret=>p.Pg m (λw=>tV p P f.results.toList K .ret e w) w|_=>p.Lu) (tV p P f.results.toList K) (uV p args) w
end
abbrev PB:=(T:Type)->(d_->e_->T)->(T)->(T->T->T)->((Env->T)->T)->((e_->Prop)->(e_->T)->T)->((Nat->f_)->Nat->e_->e_->T->T)->(e_->e_)->(e_->Nat)->(d_)->({i1:d_}->d_)->(IntKind->Nat->d_)->(IntKind->Nat->d_)->(V_->Array d_)->(Bool->Bool)->(V_->Nat->d_)->(d_->T->T->T)->(d_->d_->d_->(d_->T)->T)->(TypeId->V_->(d_->e_->T)->e_->T)->(TypeId->d_->(d_->e_->T)->e_->T)->(TypeId->d_->(d_->e_->T)->e_->T)->(d_->(d_->e_->T)->e_->T)->(Nat->d_->(d_->e_->T)->e_->T)->(d_->d_->(e_->T)->e_->T)->(Nat->d_->d_->(e_->T)->e_->T)->(d_->(d_->T)->T)->(IntKind->d_->d_->(d_->T)->T)->(IntKind->d_->d_->(d_->T)->T)->(IntKind->d_->d_->(d_->T)->T)->(IntKind->d_->d_->(d_->T)->T)->(IntKind->d_->d_->(d_->T)->T)->(IntKind->d_->d_->(d_->T)->T)->(IntKind->d_->d_->(d_->T)->T)->(IntKind->d_->d_->(d_->T)->T)->(IntKind->d_->d_->(d_->T)->T)->(IntKind->d_->d_->(d_->T)->T)->(IntKind->d_->d_->(d_->T)->T)->(d_->d_->(d_->T)->T)->(d_->d_->(d_->T)->T)->(d_->d_->(d_->T)->T)->(d_->d_->(d_->T)->T)->(d_->(Bool->T)->T)->(d_->(Bool->T)->T)->(d_->(d_->T)->T)->(Nat->d_->(d_->T)->T)->(Nat->d_->d_->(d_->T)->T)->(List (Nat×Nat)->V_->List (Nat×d_)->(d_->T)->T)->(TypeId->Nat->Nat->V_->List (Nat×d_)->(d_->e_->T)->e_->T)->(Nat->d_->(d_->T)->T)->(d_->(d_->T)->T)->(d_->(d_->T)->T)->(Nat->V_->(d_->e_->T)->e_->T)->(Nat->V_->(d_->e_->T)->e_->T)->(d_->V_->(d_->e_->T)->e_->T)->(d_->V_->(d_->e_->T)->e_->T)->(Sem d_->(d_->e_->T)->e_->T)->(Sem d_->(d_->T)->T)->((Addr->d_->Prop)->d_->(d_->T)->T)->((Addr->d_->Prop)->Nat->d_->(d_->T)->T)->((e_->Prop)->d_->(d_->T)->T)->((e_->Prop)->Nat->d_->(d_->T)->T)->((e_->Prop)->Nat->V_->(d_->T)->T)->((e_->Prop)->Nat->V_->(d_->T)->T)->((e_->Prop)->Sem d_->(d_->T)->T)->(e_->((e_->Prop)->T)->T)->(X'->List X'->e_->((Nat->f_)->(Nat->Addr->d_->Prop)->T)->T)->(V_->(V_->(V_->e_->T)->e_->T)->e_->T)->((V_->e_->T)->((V_->e_->T)->T)->T)->(V_->X'->(V_->X'->(V_->X'->e_->T)->e_->T)->e_->T)->(d_->Nat->(V_->(((Exit->e_->T)->e_->T)->e_->T)->e_->T)->(Exit->e_->T)->e_->T)->((e_->T)->(e_->T)->List (Nat×(e_->T))->Exit->e_->T)->(Nat->(e_->T)->e_->T)->(X'->(e_->T)->e_->T)->({i1:BinOp}->{i2:TypeId}->{i3 i4:Operand}->d_->d_->Sem d_)->({i1:UnOp}->d_->Sem d_)->({i1:TypeId}->d_->d_->Sem d_)->({i1:TypeId}->List (Nat×d_)->Sem d_)->({i1 i2:TypeId}->d_->Sem d_)->({i1:TypeId}->d_->Option d_->Option d_->Option d_->Sem d_)->({i1:TypeId}->{i2:Nat}->d_->Sem d_)->({i1:TypeId}->d_->d_->Sem d_)->({i1:TypeId}->Option d_->Sem d_)->({i1:TypeId}->d_->d_->Sem d_)->({i1:TypeId}->d_->Sem d_)->({i1:TypeId}->{i2:Bool}->d_->d_->Sem d_)->({i1:TypeId}->d_->d_->d_->Sem d_)->({i1:TypeId}->d_->d_->Sem d_)->({i1:TypeId}->d_->d_->d_->Sem d_)->({i1:TypeId}->d_->Sem d_)->({i1:Bool}->{i2:TypeId}->d_->Sem d_)->(d_->Sem d_)->({i1 i2:TypeId}->{i3:Bool}->d_->Sem d_)->({i1:Array TypeId}->{i2:TypeId}->d_->Sem d_)->({i1:Array TypeId}->{i2:TypeId}->V_->Sem d_)->({i1:Array TypeId}->{i2:TypeId}->V_->Sem d_)->({i1:Array TypeId}->{i2:TypeId}->V_->Sem d_)->({i1:Array TypeId}->{i2:TypeId}->V_->Sem d_)->({i1:Array TypeId}->{i2:TypeId}->V_->Sem d_)->({i1:Array TypeId}->{i2:TypeId}->V_->Sem d_)->({i1:Array TypeId}->{i2:TypeId}->V_->Sem d_)->T
abbrev PE(F:(T:Type)->Pr T->(d_->e_->T)->T)(B:PB):Prop:=∀(T:Type) (K:d_->e_->T) (x0:T) (x1:T->T->T) (x2:(Env->T)->T) (x3:(e_->Prop)->(e_->T)->T) (x4:(Nat->f_)->Nat->e_->e_->T->T) (x5:e_->e_) (x6:e_->Nat) (x7:d_) (x8:{i1:d_}->d_) (x9:IntKind->Nat->d_) (i:IntKind->Nat->d_) (j:V_->Array d_) (o:Bool->Bool) (I:V_->Nat->d_) (J:d_->T->T->T) (O:d_->d_->d_->(d_->T)->T) (Q:TypeId->V_->(d_->e_->T)->e_->T) (U:TypeId->d_->(d_->e_->T)->e_->T) (V:TypeId->d_->(d_->e_->T)->e_->T) (X:d_->(d_->e_->T)->e_->T) (Y:Nat->d_->(d_->e_->T)->e_->T) (Z:d_->d_->(e_->T)->e_->T) (a1:Nat->d_->d_->(e_->T)->e_->T) (a6:d_->(d_->T)->T) (a7:IntKind->d_->d_->(d_->T)->T) (a8:IntKind->d_->d_->(d_->T)->T) (aa:IntKind->d_->d_->(d_->T)->T) (ak:IntKind->d_->d_->(d_->T)->T) (al:IntKind->d_->d_->(d_->T)->T) (an:IntKind->d_->d_->(d_->T)->T) (av:IntKind->d_->d_->(d_->T)->T) (ax:IntKind->d_->d_->(d_->T)->T) (ay:IntKind->d_->d_->(d_->T)->T) (b0:IntKind->d_->d_->(d_->T)->T) (b6:IntKind->d_->d_->(d_->T)->T) (b7:d_->d_->(d_->T)->T) (b8:d_->d_->(d_->T)->T) (b9:d_->d_->(d_->T)->T) (ba:d_->d_->(d_->T)->T) (bb:d_->(Bool->T)->T) (bk:d_->(Bool->T)->T) (bl:d_->(d_->T)->T) (bp:Nat->d_->(d_->T)->T) (bs:Nat->d_->d_->(d_->T)->T) (c4:List (Nat×Nat)->V_->List (Nat×d_)->(d_->T)->T) (c6:TypeId->Nat->Nat->V_->List (Nat×d_)->(d_->e_->T)->e_->T) (c7:Nat->d_->(d_->T)->T) (c8:d_->(d_->T)->T) (c9:d_->(d_->T)->T) (ca:Nat->V_->(d_->e_->T)->e_->T) (cc:Nat->V_->(d_->e_->T)->e_->T) (ch:d_->V_->(d_->e_->T)->e_->T) (cu:d_->V_->(d_->e_->T)->e_->T) (cx:Sem d_->(d_->e_->T)->e_->T) (dj:Sem d_->(d_->T)->T) (dk:(Addr->d_->Prop)->d_->(d_->T)->T) (dr:(Addr->d_->Prop)->Nat->d_->(d_->T)->T) (dT:(e_->Prop)->d_->(d_->T)->T) (e1:(e_->Prop)->Nat->d_->(d_->T)->T) (e2:(e_->Prop)->Nat->V_->(d_->T)->T) (e3:(e_->Prop)->Nat->V_->(d_->T)->T) (e4:(e_->Prop)->Sem d_->(d_->T)->T) (e5:e_->((e_->Prop)->T)->T) (e6:X'->List X'->e_->((Nat->f_)->(Nat->Addr->d_->Prop)->T)->T) (e7:V_->(V_->(V_->e_->T)->e_->T)->e_->T) (e8:(V_->e_->T)->((V_->e_->T)->T)->T) (e9:V_->X'->(V_->X'->(V_->X'->e_->T)->e_->T)->e_->T) (ea:d_->Nat->(V_->(((Exit->e_->T)->e_->T)->e_->T)->e_->T)->(Exit->e_->T)->e_->T) (ec:(e_->T)->(e_->T)->List (Nat×(e_->T))->Exit->e_->T) (ed:Nat->(e_->T)->e_->T) (ee:X'->(e_->T)->e_->T) (ef:{i1:BinOp}->{i2:TypeId}->{i3 i4:Operand}->d_->d_->Sem d_) (eh:{i1:UnOp}->d_->Sem d_) (ei:{i1:TypeId}->d_->d_->Sem d_) (ej:{i1:TypeId}->List (Nat×d_)->Sem d_) (ek:{i1 i2:TypeId}->d_->Sem d_) (en:{i1:TypeId}->d_->Option d_->Option d_->Option d_->Sem d_) (eo:{i1:TypeId}->{i2:Nat}->d_->Sem d_) (ep:{i1:TypeId}->d_->d_->Sem d_) (er:{i1:TypeId}->Option d_->Sem d_) (et:{i1:TypeId}->d_->d_->Sem d_) (eu:{i1:TypeId}->d_->Sem d_) (ew:{i1:TypeId}->{i2:Bool}->d_->d_->Sem d_) (ey:{i1:TypeId}->d_->d_->d_->Sem d_) (ez:{i1:TypeId}->d_->d_->Sem d_) (eA:{i1:TypeId}->d_->d_->d_->Sem d_) (eB:{i1:TypeId}->d_->Sem d_) (eC:{i1:Bool}->{i2:TypeId}->d_->Sem d_) (eI:d_->Sem d_) (eL:{i1 i2:TypeId}->{i3:Bool}->d_->Sem d_) (eN:{i1:Array TypeId}->{i2:TypeId}->d_->Sem d_) (eR:{i1:Array TypeId}->{i2:TypeId}->V_->Sem d_) (eV:{i1:Array TypeId}->{i2:TypeId}->V_->Sem d_) (eX:{i1:Array TypeId}->{i2:TypeId}->V_->Sem d_) (fo:{i1:Array TypeId}->{i2:TypeId}->V_->Sem d_) (fs:{i1:Array TypeId}->{i2:TypeId}->V_->Sem d_) (fv:{i1:Array TypeId}->{i2:TypeId}->V_->Sem d_) (fx:{i1:Array TypeId}->{i2:TypeId}->V_->Sem d_),F T (Pr.mk x0 x1 x2 x3 x4 x5 x6 x7 @x8 x9 i j o I J O Q U V X Y Z a1 a6 a7 a8 aa ak al an av ax ay b0 b6 b7 b8 b9 ba bb bk bl bp bs c4 c6 c7 c8 c9 ca cc ch cu cx dj dk dr dT e1 e2 e3 e4 e5 e6 e7 e8 e9 ea ec ed ee @ef @eh @ei @ej @ek @en @eo @ep @er @et @eu @ew @ey @ez @eA @eB @eC eI @eL @eN @eR @eV @eX @fo @fs @fv @fx) K=B T K x0 x1 x2 x3 x4 x5 x6 x7 @x8 x9 i j o I J O Q U V X Y Z a1 a6 a7 a8 aa ak al an av ax ay b0 b6 b7 b8 b9 ba bb bk bl bp bs c4 c6 c7 c8 c9 ca cc ch cu cx dj dk dr dT e1 e2 e3 e4 e5 e6 e7 e8 e9 ea ec ed ee @ef @eh @ei @ej @ek @en @eo @ep @er @et @eu @ew @ey @ez @eA @eB @eC eI @eL @eN @eR @eV @eX @fo @fs @fv @fx
abbrev PI(P:Program)(ok:Nat->Bool)(K:Cont)(B:PB):Prop:=B Prop K False And (λF=>∀h:Env,F h) (λC F=>∀w:e_,C w->F w) (λM i w j A=>AK (M i) w j/\A) World.drew (λw=>w.heap.size) undef (λ{v}=>v) (λk n=>Value.int k (rG n)) (λk n=>Value.int k (-rG n)) List.toArray not Bm Al Ly Cl Lz IW BV DT Cu Bu Ar DX Ec ZJ Hm cI ZA WO Ru T0 O5 QO Zk ZW ZT bq Mc IU Nj BZ Lb DW Eb Ay E3 Qf (AF P) (Yk P) (Be P ok) (DD P ok) (runK P) (ZB P) Ea Hz JZ RL (Qy P) (YX P) (K6 P) Mx DK G8 D3 pI (Nf P ok) tP Pg Xe (λ{o t x y} a b=>ET o t x y a b) (λ{o} a=>Op.unary o a) (λ{t} a b=>Instr.indexAt t a b) (λ{t} l=>Instr.build t l.toArray) (λ{s d} a=>convert s d a) (λ{t} a b c d=>Instr.sliceAt t a b c d) (λ{t f} a=>Instr.field t a f) (λ{t} a b=>Instr.index t a b) (λ{t} a=>Instr.makeMap t a) (λ{t} a b=>Instr.makeSlice t a b) (λ{t} a=>Instr.makeInterface t a) (λ{t b} x i=>Instr.lookup t x i b) (λ{t} m k x=>do Instr.mapUpdate t m k x;pure undef) (λ{t} m k=>Instr.mapEntry t m k) (λ{t} m s x=>do Instr.entryStore t m s x;pure undef) (λ{t} x=>Instr.range t x) (λ{s t} x=>Instr.next x s t) Instr.entry (λ{I t b} x=>Instr.typeAssert x I t b) (λ{a t} x=>Builtin.len_ a t #[x]) (λ{a t} l=>Builtin.append_ a t l.toArray) (λ{a t} l=>Builtin.copy_ a t l.toArray) (λ{a t} l=>Builtin.cap_ a t l.toArray) (λ{a t} l=>Builtin.max_ a t l.toArray) (λ{a t} l=>Builtin.min_ a t l.toArray) (λ{a t} l=>Builtin.clear_ a t l.toArray) (λ{a t} l=>Builtin.delete_ a t l.toArray)
abbrev PG(P:Program)(ok:Nat->Bool)(f:Func)(i:HY)(l:V_)(w:e_):(T:Type)->Pr T->(d_->e_->T)->T:=λ_ p K=>pF p P ok f i l K w
abbrev vj(P:Program)(ok:Nat->Bool)(f:Func)(i:HY)(l:V_)(w:e_):(T:Type)->Pr T->(d_->e_->T)->T:=λ_ p K=>vW p P ok f i l K w
abbrev PX(P:Program)(ok:Nat->Bool)(K:Cont)(F:(T:Type)->Pr T->(d_->e_->T)->T)(B:PB)(R:Prop):Prop:=PE F B/\PI P ok K B=R
section
variable {P:Program}{ok:Nat->Bool}{g:Nat}{fn:Func}{l:V_}{K:Cont}{w:e_}{S:Prop}
def tW(h:(fn.body.isSome&&Nat.ble l.length fn.ntmps)=true):fn.body=some (CB fn)/\Nat.ble l.length fn.ntmps=true:=by
 simp only[aE] at h;refine⟨?_,h.2⟩;unfold CB;cases hb:fn.body with
 |none=>rw[hb] at h;exact absurd h.1 B_
 |some c=>rfl
def vT(j:HY)(i:DP P ok)(hm:P.follows .mixedOrders=true)(o:P.funcs[g]?=some fn)(hc:(fn.body.isSome&&Nat.ble l.length fn.ntmps)=true)(h:S)(e:S=D P ok fn.ntmps (CB fn) j (KR P fn.results.toList K) (Bm l) w):AF P g l K w:=dq (n:=fn.ntmps) i hm o (tW hc).1 rfl rfl (tW hc).2 (Eq.mp e h)
def vR(j:HY)(i:DP P ok)(hm:P.follows .mixedOrders=true)(o:P.funcs[g]?=some fn)(hc:(fn.body.isSome&&Nat.ble l.length fn.ntmps)=true)(h:S)(e:S=DM P ok fn.ntmps (CB fn) j (λm=>Qq P m fn.results.toList K) (KR P fn.results.toList K) (Bm l) w):AF P g l K w:=Zt (n:=fn.ntmps) i hm o (tW hc).1 rfl rfl (tW hc).2 (Eq.mp e h)
def C8:Code->HY->HY
 |.seq x y,i=>match i with
  |.node L W a b=>.node L W (C8 x a) (C8 y b)
  |.cut L W a b=>.cut L W (C8 x a) (C8 y b)
  |_=>.node [] [] (C8 x .nil) (C8 y .nil)
 |.cond _ x y,i=>match i with
  |.node L W a b=>.node L W (C8 x a) (C8 y b)
  |_=>.node [] [] (C8 x .nil) (C8 y .nil)
 |.rangeFunc _ _ x y,i=>match i with
  |.node L W a b=>.node L W (C8 x a) (C8 y b)
  |_=>.node [] [] (C8 x .nil) (C8 y .nil)
 |.loop x,i=>match i with
  |.node L W a _=>.node L W (C8 x a) .nil
  |_=>.node [] [] (C8 x .nil) .nil
 |.block _ x,i=>C8 x i
 |.scope x,i=>C8 x i
 |_,i=>i
def dd:Nat->Nat->Nat->X'
 |0,_,_=>[]
 |k+1,i,n=>bif Nat.beq (Nat.mod n 2) 1 then i::dd k (i+1) (Nat.div n 2) else dd k (i+1) (Nat.div n 2)
def HY.dm(BU m:X'):HY:=.dc BU (m.map (dd m.length 0)) []
def HY.y(b:HY):HY:=.node [] [] .nil b
def HY.x(a:HY):HY:=.node [] [] a .nil
def HY.z(a b:HY):HY:=.node [] [] a b
def WN(fn:Func)(l:V_)(X:Prop):Prop:=bif fn.body.isSome&&Nat.ble l.length fn.ntmps then X else False
def UJ{X:Prop}(h:WN fn l X):(fn.body.isSome&&Nat.ble l.length fn.ntmps)=true/\X:=by
 unfold WN at h;cases hb:(fn.body.isSome&&Nat.ble l.length fn.ntmps) with
 |false=>rw[hb] at h;exact h.elim
 |true=>rw[hb] at h;exact⟨rfl,h⟩
def vX(j:HY)(i:DP P ok)(hm:P.follows .mixedOrders=true)(o:P.funcs[g]?=some fn)(h:S)(e:S=WN fn l (D P ok fn.ntmps (CB fn) (C8 (CB fn) j) (KR P fn.results.toList K) (Bm l) w)):AF P g l K w:=vT _ i hm o (UJ (Eq.mp e h)).1 (UJ (Eq.mp e h)).2 rfl
def uG(j:HY)(i:DP P ok)(hm:P.follows .mixedOrders=true)(o:P.funcs[g]?=some fn)(h:S)(e:S=WN fn l (DM P ok fn.ntmps (CB fn) (C8 (CB fn) j) (λm=>Qq P m fn.results.toList K) (KR P fn.results.toList K) (Bm l) w)):AF P g l K w:=vR _ i hm o (UJ (Eq.mp e h)).1 (UJ (Eq.mp e h)).2 rfl
end
section
abbrev ZX(K:Cont)(f:Func)(i:HY)(l:V_)(w:e_)(B:PB)(R:Prop):Prop:=PX prog En K (PG prog En f (C8 (CB f) i) l w) B R
abbrev uP(K:Cont)(f:Func)(i:HY)(l:V_)(w:e_)(B:PB)(R:Prop):Prop:=PX prog En K (vj prog En f (C8 (CB f) i) l w) B R
variable {g:Nat}{fn:Func}{l:V_}{K:Cont}{w:e_}{S:Prop}
def oZ(i:HY)(j:prog.funcs[g]?=some fn)(h:S)(e:S=WN fn l (D prog En fn.ntmps (CB fn) (C8 (CB fn) i) (KR prog fn.results.toList K) (Bm l) w)):AF prog g l K w:=vX i Cs mixed j h e
def uT(i:HY)(j:prog.funcs[g]?=some fn)(h:S)(e:S=WN fn l (DM prog En fn.ntmps (CB fn) (C8 (CB fn) i) (λm=>Qq prog m fn.results.toList K) (KR prog fn.results.toList K) (Bm l) w)):AF prog g l K w:=uG i Cs mixed j h e
variable {v0 v1 v2 v3 v4 v5:d_}
def P_{R:Cont->e_->Prop}{B:Cont->e_->PB}(j:prog.funcs[g]?=some fn)(h:R K w)(i:HY:=.nil)(_p:∀K w,ZX K fn i [] w (B K w) (R K w):=by exact λ_ _=>⟨λ_=>by intros;conv=>lhs;reduce,by dsimp only[PI,G5]⟩)(e:∀K w,R K w=WN fn [] (D prog En fn.ntmps (CB fn) (C8 (CB fn) i) (KR prog fn.results.toList K) (Bm []) w):=by intros;kernel_rfl):AF prog g [] K w:=oZ i j h (e _ _)
def H_{R:d_->Cont->e_->Prop}{B:d_->Cont->e_->PB}(j:prog.funcs[g]?=some fn)(h:R v0 K w)(i:HY:=.nil)(_p:∀v0 K w,ZX K fn i [v0] w (B v0 K w) (R v0 K w):=by exact λ_ _ _=>⟨λ_=>by intros;conv=>lhs;reduce,by dsimp only[PI,G5]⟩)(e:∀v0 K w,R v0 K w=WN fn [v0] (D prog En fn.ntmps (CB fn) (C8 (CB fn) i) (KR prog fn.results.toList K) (Bm [v0]) w):=by intros;kernel_rfl):AF prog g [v0] K w:=oZ i j h (e _ _ _)
def G_{R:d_->d_->Cont->e_->Prop}{B:d_->d_->Cont->e_->PB}(j:prog.funcs[g]?=some fn)(h:R v0 v1 K w)(i:HY:=.nil)(_p:∀v0 v1 K w,ZX K fn i [v0,v1] w (B v0 v1 K w) (R v0 v1 K w):=by exact λ_ _ _ _=>⟨λ_=>by intros;conv=>lhs;reduce,by dsimp only[PI,G5]⟩)(e:∀v0 v1 K w,R v0 v1 K w=WN fn [v0,v1] (D prog En fn.ntmps (CB fn) (C8 (CB fn) i) (KR prog fn.results.toList K) (Bm [v0,v1]) w):=by intros;kernel_rfl):AF prog g [v0,v1] K w:=oZ i j h (e _ _ _ _)
def I'{R:d_->d_->d_->Cont->e_->Prop}{B:d_->d_->d_->Cont->e_->PB}(j:prog.funcs[g]?=some fn)(h:R v0 v1 v2 K w)(i:HY:=.nil)(_p:∀v0 v1 v2 K w,ZX K fn i [v0,v1,v2] w (B v0 v1 v2 K w) (R v0 v1 v2 K w):=by exact λ_ _ _ _ _=>⟨λ_=>by intros;conv=>lhs;reduce,by dsimp only[PI,G5]⟩)(e:∀v0 v1 v2 K w,R v0 v1 v2 K w=WN fn [v0,v1,v2] (D prog En fn.ntmps (CB fn) (C8 (CB fn) i) (KR prog fn.results.toList K) (Bm [v0,v1,v2]) w):=by intros;kernel_rfl):AF prog g [v0,v1,v2] K w:=oZ i j h (e _ _ _ _ _)
def O_{R:d_->d_->d_->d_->Cont->e_->Prop}{B:d_->d_->d_->d_->Cont->e_->PB}(j:prog.funcs[g]?=some fn)(h:R v0 v1 v2 v3 K w)(i:HY:=.nil)(_p:∀v0 v1 v2 v3 K w,ZX K fn i [v0,v1,v2,v3] w (B v0 v1 v2 v3 K w) (R v0 v1 v2 v3 K w):=by exact λ_ _ _ _ _ _=>⟨λ_=>by intros;conv=>lhs;reduce,by dsimp only[PI,G5]⟩)(e:∀v0 v1 v2 v3 K w,R v0 v1 v2 v3 K w=WN fn [v0,v1,v2,v3] (D prog En fn.ntmps (CB fn) (C8 (CB fn) i) (KR prog fn.results.toList K) (Bm [v0,v1,v2,v3]) w):=by intros;kernel_rfl):AF prog g [v0,v1,v2,v3] K w:=oZ i j h (e _ _ _ _ _ _)
def R_{R:d_->d_->d_->d_->d_->Cont->e_->Prop}{B:d_->d_->d_->d_->d_->Cont->e_->PB}(j:prog.funcs[g]?=some fn)(h:R v0 v1 v2 v3 v4 K w)(i:HY:=.nil)(_p:∀v0 v1 v2 v3 v4 K w,ZX K fn i [v0,v1,v2,v3,v4] w (B v0 v1 v2 v3 v4 K w) (R v0 v1 v2 v3 v4 K w):=by exact λ_ _ _ _ _ _ _=>⟨λ_=>by intros;conv=>lhs;reduce,by dsimp only[PI,G5]⟩)(e:∀v0 v1 v2 v3 v4 K w,R v0 v1 v2 v3 v4 K w=WN fn [v0,v1,v2,v3,v4] (D prog En fn.ntmps (CB fn) (C8 (CB fn) i) (KR prog fn.results.toList K) (Bm [v0,v1,v2,v3,v4]) w):=by intros;kernel_rfl):AF prog g [v0,v1,v2,v3,v4] K w:=oZ i j h (e _ _ _ _ _ _ _)
def T_{R:d_->d_->d_->d_->d_->d_->Cont->e_->Prop}{B:d_->d_->d_->d_->d_->d_->Cont->e_->PB}(j:prog.funcs[g]?=some fn)(h:R v0 v1 v2 v3 v4 v5 K w)(i:HY:=.nil)(_p:∀v0 v1 v2 v3 v4 v5 K w,ZX K fn i [v0,v1,v2,v3,v4,v5] w (B v0 v1 v2 v3 v4 v5 K w) (R v0 v1 v2 v3 v4 v5 K w):=by exact λ_ _ _ _ _ _ _ _=>⟨λ_=>by intros;conv=>lhs;reduce,by dsimp only[PI,G5]⟩)(e:∀v0 v1 v2 v3 v4 v5 K w,R v0 v1 v2 v3 v4 v5 K w=WN fn [v0,v1,v2,v3,v4,v5] (D prog En fn.ntmps (CB fn) (C8 (CB fn) i) (KR prog fn.results.toList K) (Bm [v0,v1,v2,v3,v4,v5]) w):=by intros;kernel_rfl):AF prog g [v0,v1,v2,v3,v4,v5] K w:=oZ i j h (e _ _ _ _ _ _ _ _)
def Q_{R:d_->d_->Cont->e_->Prop}{B:d_->d_->Cont->e_->PB}(j:prog.funcs[g]?=some fn)(h:R v0 v1 K w)(i:HY:=.nil)(_p:∀v0 v1 K w,uP K fn i [v0,v1] w (B v0 v1 K w) (R v0 v1 K w):=by exact λ_ _ _ _=>⟨λ_=>by intros;conv=>lhs;reduce,by dsimp only[PI,G5]⟩)(e:∀v0 v1 K w,R v0 v1 K w=WN fn [v0,v1] (DM prog En fn.ntmps (CB fn) (C8 (CB fn) i) (λm=>Qq prog m fn.results.toList K) (KR prog fn.results.toList K) (Bm [v0,v1]) w):=by intros;kernel_rfl):AF prog g [v0,v1] K w:=uT i j h (e _ _ _ _)
def P'{R:d_->d_->d_->Cont->e_->Prop}{B:d_->d_->d_->Cont->e_->PB}(j:prog.funcs[g]?=some fn)(h:R v0 v1 v2 K w)(i:HY:=.nil)(_p:∀v0 v1 v2 K w,uP K fn i [v0,v1,v2] w (B v0 v1 v2 K w) (R v0 v1 v2 K w):=by exact λ_ _ _ _ _=>⟨λ_=>by intros;conv=>lhs;reduce,by dsimp only[PI,G5]⟩)(e:∀v0 v1 v2 K w,R v0 v1 v2 K w=WN fn [v0,v1,v2] (DM prog En fn.ntmps (CB fn) (C8 (CB fn) i) (λm=>Qq prog m fn.results.toList K) (KR prog fn.results.toList K) (Bm [v0,v1,v2]) w):=by intros;kernel_rfl):AF prog g [v0,v1,v2] K w:=uT i j h (e _ _ _ _ _)
def S_{R:d_->d_->d_->d_->Cont->e_->Prop}{B:d_->d_->d_->d_->Cont->e_->PB}(j:prog.funcs[g]?=some fn)(h:R v0 v1 v2 v3 K w)(i:HY:=.nil)(_p:∀v0 v1 v2 v3 K w,uP K fn i [v0,v1,v2,v3] w (B v0 v1 v2 v3 K w) (R v0 v1 v2 v3 K w):=by exact λ_ _ _ _ _ _=>⟨λ_=>by intros;conv=>lhs;reduce,by dsimp only[PI,G5]⟩)(e:∀v0 v1 v2 v3 K w,R v0 v1 v2 v3 K w=WN fn [v0,v1,v2,v3] (DM prog En fn.ntmps (CB fn) (C8 (CB fn) i) (λm=>Qq prog m fn.results.toList K) (KR prog fn.results.toList K) (Bm [v0,v1,v2,v3]) w):=by intros;kernel_rfl):AF prog g [v0,v1,v2,v3] K w:=uT i j h (e _ _ _ _ _ _)
end
def px{a b:d_}{l m:W_}(ha:CI S w a l)(hb:CI S' w b m) : AF prog 119 [a,b] (λv w'=>v=.bool (decide (l=m))/\AI w w') w:=by
 refine G_ func119 ?_ (.y (.y (.x (.y (.node [13] [(4,5),(13,25)] (.y (.y (.x (.y (.x .D8))))) .nil)))));obtain⟨pa,ca,rfl,O⟩:=ha.AO;obtain⟨pb,cb,rfl,Q⟩:=hb.AO;simp only[KS];simp only[maxLen] at O Q;by_cases i:l.length=m.length;rw[Bp (E:¬¬(l.length:Int)=m.length)];refine⟨λvs w'=>∃k:Nat,k<=l.length/\vs=[zI k]/\AI w w'/\l.take k=m.take k,λvs _=>l.length-Di vs 0,⟨0,Hw _,rfl,AK.refl _ _,rfl⟩,?_⟩;rintro vs Y ⟨k,hk,rfl,J,ht⟩ h;simp only[KS];by_cases o:k<l.length;rw[Cx (E:(k:Int)<l.length)];refine⟨λI=>AI Y I,AK.drew _ _,?_⟩;obtain⟨p,r,rfl,_,hr,hc,Z⟩:=ha.get o;obtain⟨q,r',rfl,_,U,V,X⟩:=hb.get (E:k<m.length);refine AW o (J8 hr (λI B j u hu=>?_) ?_);rw[Addr.add_add];exact B.cell (J.cell (hc j u hu) E_) E_;refine AW E (J8 U (λI B j u hu=>?_) ?_);rw[Addr.add_add];exact B.cell (J.cell (V j u hu) E_) E_;subst Z;subst X;refine⟨_,λI _=>VE _ _ _ _ I,λI B=>?_⟩;simp only[KS];by_cases he:l[k]=m[k];rw[Bp (λh=>h he)];refine⟨⟨k+1,E,by rw[wrap64 E E];rfl,J.trans B,?_⟩,?_⟩;rw[Lc,Lc,ht];simp[o,(E:k<m.length),he];simp only[Di,Bm,JS];rw[wrap64 E E];omega;rw[Cx he];refine⟨?_,J.trans B⟩;congr 1;symm;rw[wQ];intro e;subst e;exact he rfl;rw[Bp (E:¬(k:Int)<l.length)];refine⟨?_,J⟩;congr 1;symm;rw[S9];have:k=l.length:=E;subst this;rw[Nr] at ht;rw[ht,i,Nr];rw[Cx (E:¬(l.length:Int)=m.length)];refine⟨?_,AK.refl _ _⟩;congr 1;symm;rw[wQ];intro e;exact i (by rw[e])
def Vz{a b:d_}{l m:W_}(ha:CI S w a l)(hb:CI S' w b m) : AF prog 61 [a,b] (λv w'=>v=.bool (decide (l=m))/\AI w w') w:=by
 apply G_ func61;exact px ha hb
def Se{l:W_}(h:CI S w v l)(hl:l.length*48<=140737488355328) : AF prog 89 [v] (λv' w'=>J7 w.heap.size w' v' l/\AI w w') w:=by
 apply H_ func89;obtain⟨a,c,rfl,hm⟩:=h.AO;cases a with
 |none=>
  simp[KS];have:l=[]:=by
   cases l with
   |nil=>rfl
   |cons x l=>obtain⟨p,r,e,_⟩:=h.get (i:=0) D_;cases e
  subst this;exact⟨AG.nil,AK.refl _ _⟩
 |some p=>
  simp[KS];apply Jz;have o:AI w (w.alloc (.cells #[] 116)):=AK.alloc _ _ _;have B:J7 w.heap.size (w.alloc (.cells #[] 116)) (.slice (h_ w.heap.size) 0 0) []:=AG.Xn (HK _);obtain⟨v',w',h1,I,J,O⟩:=AG.append (ty:=47) JI B (h.U_ o B_ C0) (λ_ _=>Ch.one) (by simpa using hl) D_ (by simpa using hm) (λ_ _ _ _ h=>h);refine AZ h1 ⟨?_,o.next (AK.BQ J) ?_⟩;refine I.Bk λg j=>?_;rcases O g j with h|h;cases h;exact HK _;simp[aAG] at h;omega;intro b hb e;simp[Value.ownBlock,S5] at e;omega
def GP{l:W_}(h:CI S w v l)(hl:l.length*48<=140737488355328) : AF prog 102 [v] (λv' w'=>J7 w.heap.size w' v' l/\AI w w') w:=by
 apply H_ func102;exact Se h hl
def Fi{t:TypeId}(h:vs[j]?=some v):(w.alloc (.cells vs.toArray t)).cell? ((⟨w.heap.size,0,none⟩:Addr).add j)=some v:=by
 have i:(⟨w.heap.size,0,none⟩:Addr).add j=⟨w.heap.size,j,none⟩:=by unfold Addr.add;split<;>simp_all
 rw[i,zF];simpa using h
def AG.Az{B e k:Nat}{R:e_->V_->α->Prop}{l:List α}(h:AG B e k R w v l):∀g,v.ownBlock=some g->B<=g/\g<w.heap.size:=by
 obtain⟨a,c,rfl,_,_,hp,_⟩:=AG.AO h;intro g i;cases a with
 |none=>cases i
 |some p=>obtain⟨I,rfl,h1,o,j⟩:=hp p rfl;rw[i] at j;cases j;exact⟨h1,o⟩
def BC.JR{k:Nat}{R:e_->V_->α->Prop}{l:List α}(h:BC S k R w v l)(hk:0<k):BC (λb=>S b/\b<w.heap.size) k R w v l:=h.sub (λb hb i=>⟨i,hb⟩) hk C0
structure Cel where
 r:Int
 set:W_
 deriving DecidableEq
abbrev _root_.Go.Y_:=List Cel
def Hp(D:f_)(w:e_)(r:V_)(c:Cel):Prop:=∃sv,r=[.int .i32 c.r,sv]/\CI D w sv c.set
def Hp.one{D:f_}{r:V_}{b:Cel}(h:Hp D w r b):∀u∈r,u.oneCell'=true:=by
 obtain⟨sv,rfl,i⟩:=h;obtain⟨a,c,rfl,_⟩:=i.AO;intro u hu;simp[I3,wA,xx] at hu;rcases hu with rfl|rfl<;>rfl
def Hp.U'{D D' M:f_}{r:V_}{b:Cel}(h:Hp D w r b)(hm:AK M w w')(j:∀b,b<w.heap.size->D b->¬M b)(i:∀b,b<w.heap.size->D b->D' b):Hp D' w' r b:=by
 obtain⟨sv,rfl,o⟩:=h;exact⟨sv,rfl,o.mono i (λb hb B=>hm.Ap b hb (j b hb B)) B_ C0⟩
def VN:Dg prog 23 69 2 32:=⟨Tryz.t69,.agg #[.int .i32 0,i_],C_,C_,C_,C_,C_,by rfl,B_⟩
abbrev BS(S D:f_)(w:e_)(v:d_)(l:Y_):Prop:=BC S 2 (Hp D) w v l
def Av(a:Addr)(x:Nat):(a.add x).block=a.block:=by unfold Addr.add;split<;>rfl
def AK.putObj{M:f_}(w:e_)(b:Nat)(o:Obj)(h:M b):AK M w (w.putObj b o):=⟨rfl,rfl,rfl,D_,λk _ hk=>xG λe=>hk (e▸h)⟩
def Nz{o:f_}{J:e_->Prop}{U:Exit->e_->Prop}{F:(Exit->e_->Prop)->e_->Prop}{B:e_}{M Q:f_}(hm:AK M W B)(V:w.heap.size+2<=W.heap.size)(j:∀b,o b->b<W.heap.size/\Q b) (I:∀b,b<W.heap.size->M b->¬o b/\b≠w.heap.size/\b≠w.heap.size+1)(h:∀O,AK (λb=>b=w.heap.size+1) B O->F (dn o w O J U) O):aU o w W J U F B:=by
 refine⟨⟨hm.size,λb hb=>hm.Ap b ?_ λi=>?_,hm.os,hm.tape,hm.output⟩,h⟩;rcases hb with hb|rfl|rfl;exact(j b hb).1;omega;omega;rcases hb with hb|rfl|rfl;exact(I _ (j b hb).1 i).1 hb;exact(I _ E i).2.1 rfl;exact(I _ E i).2.2 rfl
def SK{o:f_}{M:f_}(hm:AK M W W')(I:w.heap.size+2<=W.heap.size)(j:∀b,o b->b<W.heap.size) (B:∀b,b<W.heap.size->M b->¬o b/\b≠w.heap.size/\b≠w.heap.size+1):tw o w W W':=by
 refine⟨hm.size,λb hb=>hm.Ap b ?_ λi=>?_,hm.os,hm.tape,hm.output⟩;rcases hb with hb|rfl|rfl;exact j b hb;omega;omega;rcases hb with hb|rfl|rfl;exact(B _ (j b hb) i).1 hb;exact(B _ E i).2.1 rfl;exact(B _ E i).2.2 rfl
def AG.one{B e k:Nat}{R:e_->V_->α->Prop}{l:List α}(h:AG B e k R w v l):v.oneCell'=true/\v.cells=#[v]:=by
 obtain⟨a,c,rfl,_⟩:=AG.AO h;exact⟨rfl,rfl⟩
def MS(a b:Int):Int:=if b>a then b else a
def BC.Xn{k:Nat}{R:e_->V_->α->Prop}{t:TypeId}{l:List α}(An:List V_)(hr:∀r∈An,r.length=k)(hl:An.length=l.length)(o:l.length<=maxLen) (I:∀(i:Nat) (r:V_) (x:α),An[i]?=some r->l[i]?=some x->R (w.alloc (.cells An.flatten.toArray t)) r x):BC (λb=>b=w.heap.size) k R (w.alloc (.cells An.flatten.toArray t)) (.slice (h_ w.heap.size) l.length l.length) l:=by
 refine⟨_,_,rfl,HK _,o,λi x B=>?_⟩;have hi:i<An.length:=by rw[hl];exact(Bq.1 B).1
 refine⟨_,An[i],rfl,rfl,hr _ D_,λj u hu=>?_,I i _ x (by simp[hi]) B⟩;have J:j<k:=by rw[<-hr An[i] D_];exact(Bq.1 hu).1
 apply Fi;rw[Ke An i j An[i] hr (by simp[hi]) J];exact hu
def Gt(l:List α):l=[]\/∃i b,l=i++[b]:=by
 rcases tG l with h|⟨i,b,h⟩;exact .inl h;exact .inr ⟨i,b,by simpa using h⟩
def LW{p:List α->Prop}(h0:p [])(h1:∀l a,p l->p (l++[a])):∀l,p l:=by
 intro l;have:∀n,∀l:List α,l.length=n->p l:=by
  intro n;induction n with
  |zero=>intro l hl;rw[Kx hl];exact h0
  |succ n j=>
   intro l hl;rcases Gt l with rfl|⟨i,b,rfl⟩;simp at hl;exact h1 i b (j i (by simp at hl;omega))
 exact this _ l rfl
def BS.U_{S D:f_}{l:Y_}(h:BS S D w v l)(i:AI w w'):BS S D w' v l:=BC.U_ h i B_ λ_ _ j=>j.U' i F_ C0
def YE(n:Int)(s:W_):List W_:=List.replicate n.toNat s
def pl(l:List vo):List W_:=l.flatMap λb=>YE b.n b.set
def AE{p:Prop}[Decidable p]{A B:Prop}(h1:p->A)(i:¬p->B):Al (.bool (decide p)) A B:=by
 rw[lg];split;exact h1 (by assumption);exact i (by assumption)
def KU{q:IntKind}{a:Int}{A B:Prop}(h:B):T0 q (.int q a) (.int q a) λt=>Al t A B:=by
 rw[BH,TC rfl];exact h
def Bv{a b:d_}{k:d_->d_->Prop}(h:k a b):Ay 0 (.tuple #[a,b]) λx=>Ay 1 (.tuple #[a,b]) λy=>k x y:=Af (vs:=[_,_]) (by rfl) (Af (vs:=[_,_]) (by rfl) h)
def OI{a b c:d_}{k:d_->d_->d_->Prop}(h:k a b c):Ay 0 (.tuple #[a,b,c]) λx=>Ay 1 (.tuple #[a,b,c]) λy=>Ay 2 (.tuple #[a,b,c]) λz=>k x y z:=Af (vs:=[_,_,_]) (by rfl) (Af (vs:=[_,_,_]) (by rfl) (Af (vs:=[_,_,_]) (by rfl) h))
def Iu:(∀(l:V_) k,Bm l (k+1)=Bm l.tail k)/\(∀l:V_,Bm l 0=l.headD undef)/\(∀(a:d_) l d,(a::l).headD d=a)/\∀(a:d_) l,(a::l).tail=l:=⟨Yv,Bh,λ_ _ _=>rfl,λ_ _=>rfl⟩
def HP{q:IntKind}{a b:Int}{A B:Prop}(h1:a<b->A)(i:¬a<b->B):Hm q (.int q a) (.int q b) λt=>Al t A B:=by
 rw[As];exact AE h1 i
def AH(g x:Nat):(⟨g,0,none⟩:Addr).add x=⟨g,x,none⟩:=by unfold Addr.add;split<;>simp_all
def Iw{b q:Nat}{K:d_->e_->Prop}(hc:w.cell? ⟨b,q,none⟩=some v)(h:K v w):BZ q (g_ b) λt=>BV t K w:=by
 rw[AB,AH];exact AD hc h
def Cv(w:e_)(a:Addr):Prop:=(w.cell? a).isSome=true/\w.frozen? a=false
def Cv.set{a:Addr}(h:Cv w a)(b:Addr)(u:d_):Cv (w.setCell b u) a:=by
 refine⟨?_,by rw[aBG];exact h.2⟩;obtain⟨v,i⟩:=pj.1 h.1;by_cases e:b=a;subst e;rw[cO w _ u i];rfl;rw[Of w _ _ u e,i];rfl
def Cv.U'{M:f_}{a:Addr}(h:Cv w a)(hm:AK M w w')(i:¬M a.block):Cv w' a:=by
 obtain⟨v,j⟩:=pj.1 h.1;exact⟨by rw[hm.cell j i];rfl,(hm.WS (q8 w a j) i).trans h.2⟩
def Cv.st{a:Addr}{u:d_}{K:e_->Prop}(h:Cv w a)(h1:u.oneCell'=true)(i:u.cells=#[u])(j:K (w.setCell a u)):Cu (.pointer (some a)) u K w:=by
 obtain⟨v,o⟩:=pj.1 h.1;exact OE h1 i o h.2 j
def AG.Cb{B e k:Nat}{R:e_->V_->α->Prop}{a:Option Addr}{n c:Nat}{l:List α}(h:AG B e k R w (.slice a n c) l){i j:Nat}(hi:i<l.length)(hj:j<k) : ∃g,a=h_ g/\n=l.length/\Cv w ((⟨g,0,none⟩:Addr).add (i*k+j)):=by
 obtain⟨An,h1,V,X,h4⟩:=h;have O:∀r∈An,r.length=k:=λr hr=>(X r hr).1;have Q:∃g,a=h_ g/\n=l.length:=by
  rcases h1.2 with⟨J,hn⟩|⟨Z,U,Y,J,_⟩;omega;simp[yI] at J;exact⟨Z,J.1,J.2.1⟩
 obtain⟨g,rfl,rfl⟩:=Q;refine⟨g,rfl,rfl,?_⟩;have o:(⟨g,0,none⟩:Addr).add (i*k+j)=⟨g,i*k+j,none⟩:=by unfold Addr.add;split<;>simp_all
 have I:i*k+j<l.length*k:=by
  have:(i+1)*k<=l.length*k:=wj _ hi;rw[wF] at this;omega
 rw[o];refine⟨?_,h1.frozenAt _⟩;rw[h1.cellAt _ I];simp[ED An O,V,I]
structure Chg where
 key:Int
 Ak:Bool
 val:BF
 deriving DecidableEq
abbrev _root_.Go.Z_:=List Chg
def Chg.cells(a:Chg):V_:=zI a.key::.bool a.Ak::a.val.cells
abbrev EA:e_->V_->Chg->Prop:=λ_ r x=>r=x.cells
abbrev CM:e_->V_->Int->Prop:=λ_ r x=>r=[.int .i32 x]
abbrev Jl(S:f_)(w:e_)(v:d_)(l:X_):Prop:=BC S 1 CM w v l
abbrev Eg(S:f_)(w:e_)(v:d_)(l:Z_):Prop:=BC S 6 EA w v l
def CM.one{r:V_}{x:Int}(h:CM w r x):∀u∈r,u.oneCell'=true:=by
 subst h;intro u hu;simp at hu;subst hu;rfl
def EA.one{r:V_}{x:Chg}(h:EA w r x):∀u∈r,u.oneCell'=true:=by
 intro u hu;subst h;simp[Chg.cells,BF.cells,I3,wA,xx] at hu;rcases hu with rfl|rfl|rfl|rfl|rfl|rfl<;>rfl
def Lg:Dg prog 46 21 1 4:=⟨Tryz.t21,.int .i32 0,C_,C_,C_,C_,C_,by rfl,B_⟩
def QQ:Dg prog 48 63 6 56:=⟨Tryz.t63,.agg #[zI 0,.bool false,.int .u8 0,zI 0,.int .u64 0,.string ⟨#[]⟩],C_,C_,C_,C_,C_,by rfl,B_⟩
def Qc(n:Nat)(x y:BF)(w:e_) : (Op.equalIn (n+2) 61 (.agg x.cells.toArray) (.agg y.cells.toArray)).run prog w=.ok (decide (x=y)) w:=by
 have i:prog.underlying 61=some (.struct (prog.fieldsOf 61)):=C_;have j:=underlying9;have X:=Tryz.isAgg5;have Y:=Tryz.isAgg2;have Z:=Tryz.isAgg59;have o:=Tryz.isAgg9;rw[aAP w (n+1) _ _ _ i Tryz.stoodInHeld61];simp[Program.fieldsOf,underlying61,BF.cells];have B:∀a b:Int,(Op.equalIn (n+1) 5 (.int .u8 a) (.int .u8 b)).run prog w=.ok (a==b) w:=λa b=>yC w n _ _ _ a b underlying5;have I:∀a b:Int,(Op.equalIn (n+1) 2 (zI a) (zI b)).run prog w=.ok (a==b) w:=λa b=>yC w n _ _ _ a b underlying2;have J:∀a b:Int,(Op.equalIn (n+1) 59 (.int .u64 a) (.int .u64 b)).run prog w=.ok (a==b) w:=λa b=>yC w n _ _ _ a b underlying59;have O:∀a b:ByteArray,(Op.equalIn (n+1) 9 (.string a) (.string b)).run prog w=.ok (a.toList==b.toList) w:=λa b=>run_equalIn_string w n _ a b j;have q:decide (x=y)=(x.kind==y.kind&&(x.n==y.n&&(x.f==y.f&&decide (x.s=y.s)))):=by
  cases x;cases y;rw[xk];simp[BF.mk.injEq]
 rw[q];simp[Op.eqFields,part,X,Y,Z,o,B,I,J,O,toList_beq];by_cases h1:x.kind=y.kind<;>by_cases Q:x.n=y.n<;>by_cases U:x.f=y.f<;>by_cases V:x.s=y.s<;>simp[h1,Q,U,V]
def cg(a b:Chg)(w:e_) : (Op.equalIn 10000 63 (.agg a.cells.toArray) (.agg b.cells.toArray)).run prog w=.ok (decide (a=b)) w:=by
 have i:prog.underlying 63=some (.struct (prog.fieldsOf 63)):=C_;rw[show(10000:Nat)=9999+1 from rfl,aAP w 9999 _ _ _ i Tryz.stoodInHeld63];simp[Program.fieldsOf,underlying63,Chg.cells,BF.cells];have j:∀w,(sizeOf 61).run prog w=.ok 4 w:=λw=>by simp[sizeOf,Tryz.typeInfo61,S6];rfl
 have o:∀a b:Int,(Op.equalIn 9999 3 (zI a) (zI b)).run prog w=.ok (a==b) w:=λa b=>yC w 9998 _ _ _ a b underlying3;have B:∀a b:Bool,(Op.equalIn 9999 4 (.bool a) (.bool b)).run prog w=.ok (a==b) w:=λa b=>run_equalIn_bool w 9998 _ a b underlying4;have I:(Op.equalIn 9999 61 (.agg #[.int .u8 a.val.kind,zI a.val.n,.int .u64 a.val.f,.string a.val.s]) (.agg #[.int .u8 b.val.kind,zI b.val.n,.int .u64 b.val.f,.string b.val.s])).run prog w=.ok (decide (a.val=b.val)) w:=Qc 9997 a.val b.val w;have x1:∀k l q r s t:d_,(#[k,l,q,r,s,t]:Array d_).extract 2 6=#[q,r,s,t]:=I_;have q:decide (a=b)=(a.key==b.key&&(a.Ak==b.Ak&&decide (a.val=b.val))):=by
  cases a;cases b;rw[xk];simp[Chg.mk.injEq]
 rw[q];simp[Op.eqFields,part,Tryz.isAgg3,Tryz.isAgg61,Tryz.isAgg4,j,o,B,I];by_cases h1:a.key=b.key<;>by_cases J:a.Ak=b.Ak<;>by_cases O:a.val=b.val<;>simp[h1,J,O]
def Ww(xo yo:Operand)(a b:Chg)(w:e_) : (ET .neq 63 xo yo (.agg a.cells.toArray) (.agg b.cells.toArray)).run prog w=.ok (.bool (!decide (a=b))) w:=by
 simp[ET,td,aAQ w .neq _ xo yo _ _ Tryz.eqGuardType63,S6];rw[aBQ,cg];rfl
def J1(xo yo:Operand)(a b:BF)(w:e_) : (ET .eql 61 xo yo (.agg a.cells.toArray) (.agg b.cells.toArray)).run prog w=.ok (.bool (decide (a=b))) w:=by
 simp[ET,td,aAQ w .eql _ xo yo _ _ Tryz.eqGuardType61,S6];rw[run_eql_struct,Qc 9998];rfl
def QI(xo yo:Operand)(a b:BF)(w:e_) : (ET .neq 61 xo yo (.agg a.cells.toArray) (.agg b.cells.toArray)).run prog w=.ok (.bool (!decide (a=b))) w:=by
 simp[ET,td,aAQ w .neq _ xo yo _ _ Tryz.eqGuardType61,S6];rw[aBQ,Qc 9998];rfl
structure Dop where
 kind:Int
 n:Int
 AY:X_
 set:W_
 patch:Z_
 deriving DecidableEq
abbrev _root_.Go.V':=List Dop
def CW(D:f_)(w:e_)(r:V_)(o:Dop):Prop:=∃rv sv i,r=[.int .u8 o.kind,zI o.n,rv,sv,i]/\Jl D w rv o.AY/\CI D w sv o.set/\Eg D w i o.patch
def CW.one{D:f_}{r:V_}{o:Dop}(h:CW D w r o):∀u∈r,u.oneCell'=true:=by
 obtain⟨Q,sv,B,rfl,h1,i,j⟩:=h;obtain⟨I,c1,rfl,_⟩:=h1.AO;obtain⟨J,c2,rfl,_⟩:=i.AO;obtain⟨U,O,rfl,_⟩:=j.AO;intro u hu;simp[I3,wA,xx] at hu;rcases hu with rfl|rfl|rfl|rfl|rfl<;>rfl
def CW.U'{D D' M:f_}{r:V_}{o:Dop}(h:CW D w r o)(hm:AK M w w')(B:∀b,b<w.heap.size->D b->¬M b)(i:∀b,b<w.heap.size->D b->D' b):CW D' w' r o:=by
 obtain⟨Q,sv,I,rfl,h1,J,O⟩:=h;exact⟨Q,sv,I,rfl,h1.mono i (λb hb j=>hm.Ap b hb (B b hb j)) B_ C0,J.mono i (λb hb j=>hm.Ap b hb (B b hb j)) B_ C0,O.mono i (λb hb j=>hm.Ap b hb (B b hb j)) B_ C0⟩
def HC:Dg prog 24 50 5 88:=⟨Tryz.t50,.agg #[.int .u8 0,zI 0,i_,i_,i_],C_,C_,C_,C_,C_,by rfl,B_⟩
abbrev Ae(S D:f_)(w:e_)(v:d_)(l:V'):Prop:=BC S 5 (CW D) w v l
def Ae.U_{S D:f_}{l:V'}(h:Ae S D w v l)(i:AI w w'):Ae S D w' v l:=BC.U_ h i B_ λ_ _ j=>j.U' i F_ C0
def Ae.U'{S D M:f_}{l:V'}(h:Ae S D w v l)(hm:AK M w w')(i:∀b,b<w.heap.size->S b->¬M b)(j:∀b,b<w.heap.size->D b->¬M b):Ae S D w' v l:=BC.mono h C0 (λb hb o=>hm.Ap b hb (i b hb o)) B_ λ_ _ B=>B.U' hm j C0
def UW(D:f_)(w:e_)(r:V_)(o:Dop):Prop:=∃rv sv i,r=[.int .u8 o.kind,zI o.n,rv,sv,i]/\ (AG 0 21 1 CM w rv o.AY/\∀g,rv.ownBlock=some g->D g)/\(J7 0 w sv o.set/\∀g,sv.ownBlock=some g->D g)/\(AG 0 63 6 EA w i o.patch/\∀g,i.ownBlock=some g->D g)
def QK{e k:Nat}{R:e_->V_->α->Prop}{D:f_}{l:List α}(hk:0<k)(h:AG 0 e k R w v l/\∀g,v.ownBlock=some g->D g):BC D k R w v l:=BC.sub (AG.sl h.1) (λg _ i=>h.2 g i.2) hk C0
def LV{e k:Nat}{R:e_->V_->α->Prop}{D D' M:f_}{l:List α}(h:AG 0 e k R w v l/\∀g,v.ownBlock=some g->D g)(hm:AK M w w')(o:∀b,b<w.heap.size->D b->¬M b)(j:∀b,b<w.heap.size->D b->D' b) (B:∀r x,R w r x->R w' r x):AG 0 e k R w' v l/\∀g,v.ownBlock=some g->D' g:=⟨AG.U' h.1 hm (λg i=>o g (AG.Az h.1 g i).2 (h.2 g i)) λr x _ I=>B r x I,λg i=>j g (AG.Az h.1 g i).2 (h.2 g i)⟩
def UW.rd{D:f_}{r:V_}{o:Dop}(h:UW D w r o):CW D w r o:=by
 obtain⟨I,sv,i,rfl,h1,j,B⟩:=h;exact⟨I,sv,i,rfl,QK B_ h1,QK B_ j,QK B_ B⟩
def UW.U'{D D' M:f_}{r:V_}{o:Dop}(h:UW D w r o)(hm:AK M w w')(j:∀b,b<w.heap.size->D b->¬M b)(i:∀b,b<w.heap.size->D b->D' b):UW D' w' r o:=by
 obtain⟨O,sv,B,rfl,h1,I,J⟩:=h;exact⟨O,sv,B,rfl,LV h1 hm j i C0,LV I hm j i C0,LV J hm j i C0⟩
def CZ(B:Nat)(w:e_)(v:d_)(l:V'):Prop:=AG B 50 5 (UW λb=>B<=b/\v.ownBlock≠some b) w v l
def CZ.sl{l:V'}(h:CZ B w v l):Ae (λb=>B<=b/\v.ownBlock=some b) (λb=>B<=b/\v.ownBlock≠some b) w v l:=BC.sub (AG.sl h) C0 B_ λ_ _ h=>h.rd
def CZ.U_{l:V'}{M:f_}(h:CZ B w v l)(hm:AK M w w')(i:∀b,b<w.heap.size->B<=b->¬M b):CZ B w' v l:=AG.U' h hm (λg j=>i g (AG.Az h g j).2 (AG.Az h g j).1) λr x _ o=>o.U' hm (λb hb I=>i b hb I.1) C0
def CZ.reads{l:V'}(h:CZ B w v l):Ae (λb=>B<=b/\b<w.heap.size) (λb=>B<=b/\b<w.heap.size) w v l:=BC.sub (CZ.sl h) (λb hb h=>⟨h.1,hb⟩) B_ λr x i=>i.U' l_ F_ λb hb h=>⟨h.1,hb⟩
structure DKey where
 id:Int
 block:Bool
 kind:Int
 after:Bool
 J3:Bool
 Yf:Int
 deriving DecidableEq
abbrev _root_.Go.Y':=List DKey
def DKey.cells(k:DKey):V_:=[zI k.id,.bool k.block,.int .u8 k.kind,.bool k.after,.bool k.J3,zI k.Yf]
abbrev IC:e_->V_->DKey->Prop:=λ_ r x=>r=x.cells
abbrev Mh(S:f_)(w:e_)(v:d_)(l:Y'):Prop:=BC S 6 IC w v l
def IC.one{r:V_}{x:DKey}(h:IC w r x):∀u∈r,u.oneCell'=true:=by
 intro u hu;subst h;simp[DKey.cells,I3,wA,xx] at hu;rcases hu with rfl|rfl|rfl|rfl|rfl|rfl<;>rfl
def Gl(a:Attr):Nat:=a.val.s.size+1
def KO(a:Chg):Nat:=a.val.s.size+1
def Eo(l:W_):Nat:=(l.map Gl).sum
def FK(l:Z_):Nat:=(l.map KO).sum
def Co(o:Dop):Nat:=1+o.AY.length+Eo o.set+FK o.patch
def Aa(l:V'):Nat:=(l.map Co).sum
end Go.Proofs.YtlmjclmngedmkaaGreatDoor
