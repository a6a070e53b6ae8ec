/- parts of the proof, written short by a program of ours -/
import Derived.Orders
import Derived.Scope
import Derived.Below
import Derived.Laws.Sem
import Derived.Laws.World
import Derived.Laws.Cells
import Derived.Laws.Small
import Derived.Laws.Entries
import Derived.Laws.Strings
import Derived.Still
import Derived.Tactics
import Derived.Deep.Quiet
import Derived.RangeFuncIn
import Derived.TacticsIn
import Derived.Test.YtmdhibffnkhcnaaGreatDoorProg
import Derived.KernelRfl
import GoSem.Claims
import Derived.Laws.AppendOwnNone
import Derived.RangeFuncOwn
import Derived.RangeFuncLeaves
import Derived.WalkKit
import Derived.Laws.IdiomStrings
import Derived.Lib.AppendZeros
import Derived.MapKept
import Derived.ChangeKeysEq
import Derived.Laws.BytesArg
import Derived.Shelf.GgSortFunc.InsertionK
import Derived.Shelf.SlSortCmp.WholeK
import Derived.Shelf.SlSortCmp.NoneTotal
import Derived.Lib.Zigzag
import Derived.Laws.Cover3
import Derived.ProofKit
import Derived.Lib.SmallJoins
import Derived.Deep.Slices
import Derived.Lib.LaidU8
import Derived.Lib.LaidIn
import Derived.LaidHandle
import Derived.LaidMore
import Derived.MakeChecks
import Derived.OpenShut
import Derived.ShutString
import Derived.ChangeOld
import Derived.ChangeVars
import Derived.JoinedOf
import Derived.JoinedCond
import Derived.Deep.DeepHandedRow
import Derived.SevenTiedAt
set_option linter.unusedSimpArgs false
set_option linter.unusedVariables false
set_option linter.defProp false
namespace Go.Proofs.YtmdhibffnkhcnaaGreatDoor
open Go Proofs.Tryz
variable {j N:Nat}{w:World}{F S:Nat->Prop}{v fr:Value}{cs args:List Value}{yo xo:Operand}
def Ad:=@List.getElem?_eq_some_iff
def Bp:=@List.length_append
def Bq:=@if_neg
def By:=@List.getElem?_eq_getElem
def C3:=@List.mem_append
def DN:=@if_pos
def Iq:=@List.length_map
def I3:=@List.length_drop
def K8:=@List.mem_cons
def Lc:=@List.length_take
def Mp:=@Nat.le_refl
def Nn:=@Nat.zero_le
def No:=@List.take_add_one
def Nr:=@List.headD_cons
def Of:=@List.append_assoc
def PF:=@List.take_length
def P9:=@List.mem_singleton
def QC:=@List.eq_nil_of_length_eq_zero
def Q0:=@List.getElem?_append_left
def S3:=@Nat.succ_pos
def S4:=@World.cell?_setCell_other
def S5:=@List.length_cons
def S6:=@List.take_append_drop
def S7:=@List.cons_append
def S9:=@Result.andThen_ok
def TC:=@decide_eq_true_eq
def Ty:=@List.map_append
def WJ:=@List.getElem_mem
def WL:=@List.getLast?_append
def X8:=@Nat.lt_of_lt_of_le
def cL:=@Bool.and_eq_true
def gC:=@List.getLast?_singleton
def gi:=@List.mem_cons_of_mem
def iV:=@List.mem_of_mem_drop
def i6:=@Option.some.injEq
def i7:=@List.mem_of_mem_take
def jS:=@List.mem_append_left
def kH:=@Option.isSome_iff_exists
def kI:=@List.mem_append_right
def kJ:=@List.length_set
def kK:=@List.append_nil
def kL:=@Sem.run_bind
def kM:=@List.nodup_append
def kN:=@List.map_cons
def kO:=@List.getElem?_append_right
def kP:=@List.getElem?_set_self
def kQ:=@World.cell?_setCell_same
def kS:=@Classical.byContradiction
def kT:=@List.mem_map
def kU:=@List.not_mem_nil
def kV:=@decide_eq_false_iff_not
def kW:=@Option.some.inj
def kX:=@decide_eq_false
def kY:=@List.getElem?_eq_none
def kZ:=@congrArg
def ky:=@List.nil_append
def lA:=@Nat.min_eq_left
def lC:=@List.mem_cons_self
def lD:=@Nat.add_zero
def lE:=@if_false
def lF:=@World.block_lt_of_cell?
def lG:=@List.length_nil
def lH:=@decide_eq_true
def lI:=@List.getElem?_set_ne
def lJ:=@Nat.eq_of_beq_eq_true
def lK:=@List.eq_nil_or_concat
def lL:=@cond_false
def lM:=@Option.some_or
def lN:=@cond_true
def lO:=@Nat.add_mul
def lP:=@List.getElem?_map
def lQ:=@List.flatMap_cons
def lS:=@List.mem_of_getElem?
def lT:=@if_true
def lU:=@Sem.run_pure
def lV:=@Nat.le_trans
def lW:=@Nat.mul_le_mul_right
def lX:=@List.drop_eq_getElem_cons
def lY:=@List.set_append_right
def lZ:=@List.length_replicate
def lb:=@List.concat_eq_append
def lf:=@Int.toNat_natCast
def lg:=@List.all_eq_true
def lh:=@List.length_pos_iff
def lj:=@List.getD_eq_getElem?_getD
def ln:=@DataW.trod_int
def lp:=@List.map_nil
def lq:=@Array.getElem?_toList
def lu:=@List.map_take
def lx:=@List.mem_filter
def ly:=@List.getElem?_drop
def lz:=@World.cell?_of_block
def l9:=@List.dropLast_concat
def mB:=@List.map_drop
def mC:=@List.foldl_append
def mE:=@List.getElem?_take
def mF:=@List.pairwise_cons
def mG:=@Nat.zero_add
def mH:=@List.flatMap_append
def mI:=@List.ext_getElem?
def mJ:=@List.take_of_length_le
def mK:=@List.drop_zero
def mL:=@Nat.add_assoc
def mM:=@List.sum_cons
def mN:=@Nat.le_of_ble_eq_true
def mO:=@List.mem_iff_getElem?
def mP:=@List.drop_succ_cons
def mQ:=@Array.getElem?_eq_some_iff
def mR:=@World.putObj_heap_other
def mS:=@List.getElem_map
def mT:=@List.getLast?_eq_some_getLast
def mU:=@List.getElem_append_right
def mV:=@List.pairwise_iff_getElem
def mW:=@List.drop_eq_nil_of_le
def mX:=@MapKept.run_getObj_map
def mY:=@BitVec.toNat_ofInt
def mZ:=@List.mem_range
def mb:=@or_false
def me:=@List.foldl_cons
def mf:=@List.take_take
def mg:=@List.Perm.refl
def mh:=@List.take_succ_cons
def mi:=@Array.getD_eq_getD_getElem?
def mj:=@List.mem_of_getLast?
def mn:=@List.cons.injEq
def mo:=@Option.map_some
def mq:=@List.filter_eq_self
def mr:=@List.Sublist.count_le
def mw:=@List.getElem_append_left
def my:=@List.sum_nil
def mz:=@List.map_map
def nA:=@Bool.false_eq_true
def nB:=@wpIn_mono
def nD:=@List.drop_length
def nE:=@Int.emod_eq_of_lt
def nG:=@List.take_zero
def nH:=@Array.length_toList
def nJ:=@MapKept.run_findKey
def nK:=@run_equalIn_int
def nL:=@List.getLast?_eq_none_iff
def nN:=@List.length_filter_le
def nO:=@List.mem_iff_getElem
def nP:=@List.size_toArray
def nQ:=@Value.slice.injEq
def nR:=@List.getElem?_replicate
def nS:=@run_sliceAt_slice
def nT:=@Nat.add_sub_cancel_left
def nU:=@List.take_sublist
def nV:=@Bool.or_eq_true
def nW:=@Bool.eq_iff_iff
def nX:=@List.map_congr_left
def nY:=@Ne.symm
def nZ:=@List.filter_eq_nil_iff
def nd:=@List.take_append
def nf:=@List.nodup_nil
def nh:=@Int.fdiv_eq_ediv_of_nonneg
def ni:=@List.length_singleton
def nj:=@List.getElem_set_self
def nk:=@List.sum_append
def nm:=@Bool.not_eq_true'
def np:=@List.getElem?_append
def ns:=@Nat.mul_one
def nu:=@List.getElem?_set
def nw:=@MapKept.run_checkKey
def nx:=@List.count_append
def ny:=@List.getElem_take
def nz:=@Calls.mono
def oB:=@List.replicate_append_replicate
def oD:=@List.map_eq_nil_iff
def oE:=@Nat.mul_le_mul_left
def oF:=@List.getElem?_cons_succ
def oG:=@List.getElem?_cons_zero
def oH:=@List.drop_append
def oI:=@List.flatMap_nil
def oJ:=@List.drop_drop
def oK:=@List.take_append_of_le_length
def oO:=@MapKept.run_setObj_map
def oQ:=@Nat.le_of_eq
def oT:=@Option.map_eq_some_iff
def oU:=@List.filter_append
def oV:=@List.getLast?_drop
def oX:=@List.take_left'
def oY:=@List.drop_left'
def oZ:=@Bool.true_and
def ob:=@Nat.ble_eq_true_of_le
def od:=@List.dropLast_eq_take
def oe:=@Iff.rfl
def og:=@List.flatten_cons
def oh:=@DataW.trod_struct
def oi:=@Array.toArray_toList
def oj:=@List.foldl_nil
def om:=@Nat.div_lt_of_lt_mul
def oo:=@List.any_eq_true
def oq:=@Option.getD_some
def ot:=@Nat.sub_self
def ou:=@List.countP_cons
def ow:=@getElem!_pos
def oy:=@Array.getElem?_eq_getElem
def oz:=@List.mem_of_find?_eq_some
def o0:=@List.countP_pos_iff
def pA:=@List.length_filterMap_le
def pB:=@Sort.size_flatK
def pC:=@beq_iff_eq
def pD:=@Option.isNone_some
def pE:=@Value.string.injEq
def pG:=@Nat.lt_of_le_of_lt
def pH:=@Nat.add_sub_cancel
def pI:=@List.countP_append
def pJ:=@RowKit.Below.heap_alloc
def pK:=@List.getLast?_cons_cons
def pL:=@List.length_eq_zero_iff
def pM:=@true_and
def pN:=@Array.toList_push
def pO:=@List.length_pos_of_mem
def pP:=@Bool.false_and
def pQ:=@Nat.add_comm
def pR:=@List.zipWith_cons_cons
def pS:=@Classical.not_not
def pT:=@of_decide_eq_true
def pU:=@World.cell?_alloc_new
def pV:=@List.dropLast_sublist
def pW:=@Array.toList_inj
def pX:=@World.size_alloc
def pY:=@MapKept.heap_set
def pZ:=@Int.mul_le_mul_of_nonneg_right
def pd:=@decide_eq_decide
def pf:=@Nat.le_of_not_lt
def pg:=@Int.toNat_one
def ph:=@Nat.lt_irrefl
def pj:=@List.pairwise_append
def pk:=@List.Pairwise.filter
def pn:=@Array.getElem?_setIfInBounds
def po:=@run_equalIn_agg
def pr:=@run_eqGuard_agg
def pt:=@List.head?_cons
def px:=@List.nodup_cons
def py:=@List.dropLast_concat_getLast
def pz:=@List.find?_some
def p4:=@List.head?_drop
def p5:=@DataW.trod_bool
def qA:=@List.getElem_set_ne
def qB:=@List.drop_set_of_lt
def qC:=@Nat.add_lt_add_left
def qD:=@Nat.mul_lt_mul_of_pos_right
def qE:=@Int.sub_self
def qF:=@List.mem_filterMap
def qG:=@List.set_cons_succ
def qH:=@Nat.lt_or_gt_of_ne
def qI:=@Nat.mod_lt
def qJ:=@heap_alloc_new
def qK:=@grownCap_le_maxLen
def qL:=@List.set_cons_zero
def qM:=@Array.getElem?_append_left
def qN:=@List.find?_eq_none
def qO:=@List.perm_ext_iff_of_nodup
def qP:=@List.count_eq_zero
def qQ:=@Array.mapM_eq_mapM_toList
def qR:=@List.mem_or_eq_of_mem_set
def qS:=@List.getLast?_eq_getElem?
def qT:=@MakeChecks.laidMetH_plain
def qU:=@Array.size_append
def qV:=@List.getLast?_nil
def qW:=@Nat.one_mul
def qX:=@Nat.sub_sub
def qY:=@Array.getElem?_replicate
def qZ:=@List.length_erase_of_mem
def qb:=@not_not_intro
def qd:=@Option.bind_some
def qe:=@World.frozen?_alloc_new
def qf:=@Nat.div_add_mod'
def qg:=@and_true
def qh:=@List.getLast_eq_getElem
def qi:=@List.mem_flatMap
def qj:=@And.left
def qk:=@callsIn_wide
def ql:=@World.frozen?_of_block
def qm:=@Nat.zero_mul
def qn:=@World.putObj_heap_same
def qo:=@not_or
def qp:=@List.getElem_cons_zero
def qq:=@Int.le_trans
def qs:=@Bool.not_not
def qu:=@Nat.lt_or_ge
def qv:=@List.find?_cons
def qw:=@World.var?_cell
def qx:=@trodAll_cons_mk
def qy:=@World.frozen?_setCell
def qz:=@Array.mem_of_getElem?
def q7:=@Array.getElem?_append
def q8:=@Nat.div_lt_iff_lt_mul
def q9:=@List.set_getElem_self
def rA:=@List.singleton_append
def rB:=@Array.getElem?_modify
def rC:=@List.mapM_cons
def rD:=@size_zeroCells
def rE:=@World.alloc_heap_new
def rF:=@run_neq_struct
def rG:=@List.mem_erase_of_ne
def rH:=@Nat.le_succ
def rI:=@List.count_le_length
def rJ:=@Nat.pow_le_pow_right
def rK:=@Int.le_refl
def rL:=@List.replicate_succ'
def rM:=@Option.or_none
def rN:=@false_iff
def rO:=@forall_congr'
def rP:=@Oper.semAt_eq
def rQ:=@dif_pos
def rR:=@and_iff_left
def rS:=@Int.add_zero
def rT:=@List.set_set
def rU:=@Nat.pow_succ
abbrev zI(x:Int):Value:=.int .i64 x
abbrev Env:=Nat->Value
abbrev Cont:=Value->World->Prop
abbrev EQ:=Exit->Env->World->Prop
def GK(n:Nat)(e:Env)(i:Nat)(v:Value):Env:=fun j=>bif Nat.beq j i&&Nat.blt i n then v else e j
def CG(n:Nat)(e:Env)(d:Option Nat)(v:Value):Env:=match d with|some i=>GK n e i v|none=>e
def ev(e:Env)(x:Operand):Value:=match x with
 |.tmp t=>e t | .const v=>v | .global g=>.pointer (some ⟨g,0,none⟩) | .func f=>.func (.func f) #[] #[]
def nth:List Value->Nat->Value
 |vs,0=>vs.headD undef
 |vs,k+1=>nth vs.tail k
structure Fr (ds:List Deferred) (n:Nat) (e:Env) (a:Act):Prop where
 size:a.tmps.size=n
 get:∀t,a.tmps.getD t undef=e t
 defers:a.defers=ds
def Fr.eval{ds:List Deferred}{n:Nat}{e:Env}{a:Act}(h:Fr ds n e a):a.eval=ev e:=by
 funext x;cases x with
 |tmp t=>exact h.get t
 |const v=>rfl
 |global g=>rfl
 |func f=>rfl
def Fr.put{ds:List Deferred}{n:Nat}{e:Env}{a:Act}(h:Fr ds n e a)(d:Option Nat)(v:Value):Fr ds n (CG n e d v) (a.put d v):=by
 cases d with
 |none=>exact h
 |some i=>
  refine⟨by simp[Act.put,h.size],fun t=>?_,h.defers⟩;have j:=h.get t;simp only[Act.put,CG,GK,mi,pn,h.size];simp only[mi] at j;by_cases h1:i=t
  .subst h1;by_cases o:i<n
   .have m:Nat.blt i n=true:=ob (by omega);simp[o,m]
   .have q:a.tmps[i]?=none:=Array.getElem?_eq_none (by rw[h.size];omega);have m:Nat.blt i n=false:=by
     cases hb:Nat.blt i n with
     |false=>rfl
     |true=>exact absurd (mN hb) (by omega)
    rw[q] at j;simp[o,m,j]
  .have B:Nat.beq t i=false:=by
    cases hb:Nat.beq t i with
    |false=>rfl
    |true=>exact absurd (lJ hb).symm h1
   simp[h1,B,j]
def AD(v:Value)(A B:Prop):Prop:=match v with|.bool true=>A|.bool false=>B|_=>False
def MF(c a b:Value)(K:Value->Prop):Prop:=match c with|.bool true=>K a|.bool false=>K b|_=>False
def AW(k:IntKind)(x y:Value)(K:Value->Prop):Prop:=∃a b,x=.int k a/\y=.int k b/\K (.int k (k.wrap (a+b)))
def BR(k:IntKind)(x y:Value)(K:Value->Prop):Prop:=∃a b,x=.int k a/\y=.int k b/\K (.int k (k.wrap (a-b)))
def dG(k:IntKind)(x y:Value)(K:Value->Prop):Prop:=∃a b,x=.int k a/\y=.int k b/\K (.int k (k.wrap (a*b)))
def BU(k:IntKind)(x y:Value)(K:Value->Prop):Prop:=∃a b,x=.int k a/\y=.int k b/\K (.bool (decide (a<b)))
def SZ(k:IntKind)(x y:Value)(K:Value->Prop):Prop:=∃a b,x=.int k a/\y=.int k b/\K (.bool (decide (a<=b)))
def Eo(k:IntKind)(x y:Value)(K:Value->Prop):Prop:=∃a b,x=.int k a/\y=.int k b/\K (.bool (decide (b<a)))
def Km(k:IntKind)(x y:Value)(K:Value->Prop):Prop:=∃a b,x=.int k a/\y=.int k b/\K (.bool (decide (b<=a)))
def Cu(k:IntKind)(x y:Value)(K:Value->Prop):Prop:=∃a b,x=.int k a/\y=.int k b/\K (.bool (decide (a=b)))
def Dp(k:IntKind)(x y:Value)(K:Value->Prop):Prop:=∃a b,x=.int k a/\y=.int k b/\K (.bool (!decide (a=b)))
def dm(x y:Value)(K:Value->Prop):Prop:=∃a b,x=.bool a/\y=.bool b/\K (.bool (a==b))
def VH(x y:Value)(K:Value->Prop):Prop:=∃a b,x=.bool a/\y=.bool b/\K (.bool (!(a==b)))
def dP(x y:Value)(K:Value->Prop):Prop:=∃a b,x=.string a/\y=.string b/\K (.bool (decide (a=b)))
def gn(x y:Value)(K:Value->Prop):Prop:=∃a b,x=.string a/\y=.string b/\K (.bool (!decide (a=b)))
def Gl(x:Value)(K:Bool->Prop):Prop:=∃a n c,x=.slice a n c/\K (Option.isNone a)
def CY(x:Value)(K:Bool->Prop):Prop:=∃a,x=.pointer a/\K (Option.isNone a)
def KM(k:IntKind)(x y:Value)(K:Value->Prop):Prop:=∃a b,x=.int k a/\y=.int k b/\K (.int k (if b>a then b else a))
def LJ(k:IntKind)(x y:Value)(K:Value->Prop):Prop:=∃a b,x=.int k a/\y=.int k b/\K (.int k (if b<a then b else a))
def CA(x:Value)(K:Value->Prop):Prop:=∃a,x=.bool a/\K (.bool (!a))
def Ac(x:Value)(K:Value->Prop):Prop:=∃a n c,x=.slice a n c/\K (zI n)
def L9(x:Value)(K:Value->Prop):Prop:=∃s,x=.string s/\K (zI s.size)
def AK(x:Value)(K:Value->Prop):Prop:=∃a,x=.pointer (some a)/\K x
def AM(off:Nat)(x:Value)(K:Value->Prop):Prop:=∃a,x=.pointer (some a)/\K (.pointer (some (a.add off)))
def BM(size:Nat)(x i:Value)(K:Value->Prop):Prop:=
 ∃a n c k j,x=.slice (some a) n c/\i=.int k j/\0<=j/\j<n/\K (.pointer (some (a.add (j.toNat*size))))
def AJ(x:Value)(K:Cont)(w:World):Prop:=∃a v,x=.pointer (some a)/\w.cell? a=some v/\K v w
def Aa(k:Nat)(x:Value)(K:Cont)(w:World):Prop:=
 ∃a vs,x=.pointer (some a)/\List.length vs=k/\(∀j v,vs[j]?=some v->w.cell? (a.add j)=some v)/\K (.agg vs.toArray) w
def Av(x v:Value)(K:World->Prop)(w:World):Prop:=
 ∃a u,x=.pointer (some a)/\v.oneCell'=true/\v.cells=#[v]/\w.cell? a=some u/\w.frozen? a=false/\K (w.setCell a v)
def EW(w:World)(a:Addr):Nat->List Value->World
 |_,[]=>w
 |i,v::vs=>EW (w.setCell (a.add i) v) a (i+1) vs
def Ab(k:Nat)(x v:Value)(K:World->Prop)(w:World):Prop:=
 ∃a vs,x=.pointer (some a)/\v=.agg (List.toArray vs)/\vs.length=k/\(∀v∈vs,v.oneCell'=true)/\
  (∀j,j<k->(w.cell? (a.add j)).isSome=true/\w.frozen? (a.add j)=false)/\K (EW w a 0 vs)
def Al(t:TypeId)(cs:List Value)(K:Cont)(w:World):Prop:=K (.pointer (some ⟨w.heap.size,0,none⟩)) (w.alloc (.cells cs.toArray t))
def Ec(t:TypeId)(x:Value)(K:Cont)(w:World):Prop:=x.cells=#[x]/\Al t [x] K w
def BP(t:TypeId)(x:Value)(K:Cont)(w:World):Prop:=∃vs,x=.agg (List.toArray vs)/\Al t vs K w
def Ai(places:List (Nat×Nat))(zero:List Value)(j:List (Nat×Value))(K:Value->Prop):Prop:=
 ∃cs,Instr.fill (fun i=>places[i]?) zero.toArray j=some cs/\K (.agg cs)
def Ba(e:TypeId)(size len:Nat)(zero:List Value)(j:List (Nat×Value))(K:Cont)(w:World):Prop:=
 ∃cs,Instr.fill (fun i=>some (i*size,size)) ((Array.range (len*size)).map (zero.toArray[· % zero.toArray.size]!)) j=some cs/\
  K (.slice (some ⟨w.heap.size,0,none⟩) len len) (w.alloc (.cells cs e))
def AR(i:Nat)(x:Value)(K:Value->Prop):Prop:=∃vs v,x=.tuple (List.toArray vs)/\vs[i]?=some v/\K v
def runK(P:Program)(s:Sem Value)(K:Cont)(w:World):Prop:=∃v w',s.run P w=.ok v w'/\K v w'
def AB(P:Program)(g:Nat)(args:List Value)(K:Cont)(w:World):Prop:=
 Calls P g args.toArray w fun e w'=>∃v,e=.returned v/\K v w'
def cQ(P:Program)(g:Nat)(args:List Value)(K:Cont)(w:World):Prop:=∃v w',(callFunc g args.toArray).run P w=.ok (.value v) w'/\K v w'
def BK(P:Program)(ok:Nat->Bool)(f:Value)(args:List Value)(K:Cont)(w:World):Prop:=
 ∃g i j,f=.func (.func g) (List.toArray i) (List.toArray j)/\ok g=true/\AB P g (i++args++j) K w
def Ao(R:List Value->World->Prop)(G:(List Value->World->Prop)->Prop):Prop:=∃I:List Value->World->Prop,(∀vs w,I vs w->R vs w)/\G I
def Ap(i:List Value)(F:List Value->(List Value->World->Prop)->World->Prop)(w:World):Prop:=
 ∃(I:List Value->World->Prop) (μ:List Value->World->Nat),I i w/\∀vs w,I vs w->F vs (fun j w'=>I j w'/\μ j w'<μ vs w) w
def Hc(P:Program)(t:TypeId):Option (Bool×Nat):=
 match P.underlying t,P.info? t with
 |some (.struct _),some i=>some (true,i.size)
 |some (.array _ _),some i=>some (true,i.size)
 |some _,some i=>some (false,i.size)
 |_,_=>none
def zeroOf(P:Program)(t:TypeId):Option Value:=match P.info? t with|some i=>i.zero|none=>none
def Om:Operand->Bool
 |.const (.slice none _ _)=>true
 |_=>false
def Oe:Operand->Bool
 |.const (.pointer none)=>true
 |_=>false
def BS(op:BinOp)(t:TypeId)(xo yo:Operand)(x y:Value):Sem Value:=do eqGuard op t xo yo x y;binOp op t x y
def NO(P:Program)(op:BinOp)(t:TypeId)(yo:Operand)(x y:Value)(K:Value->Prop)(F:Prop):Prop:=
 match P.underlying t with
 |some (.int k)=>match op with
  |.add=>AW k x y K | .sub=>BR k x y K | .mul=>dG k x y K
  |.lss=>BU k x y K | .leq=>SZ k x y K | .gtr=>Eo k x y K | .geq=>Km k x y K
  |.eql=>Cu k x y K | .neq=>Dp k x y K
  |_=>F
 |some .bool=>match op with
  |.eql=>dm x y K | .neq=>VH x y K
  |_=>F
 |some .string=>match op with
  |.eql=>dP x y K | .neq=>gn x y K
  |_=>F
 |some (.slice _)=>bif Om yo then match op with
   |.eql=>Gl x fun b=>K (.bool b)
   |.neq=>Gl x fun b=>K (.bool (!b))
   |_=>F
  else F
 |some (.pointer _)=>bif Oe yo then match op with
   |.eql=>CY x fun b=>K (.bool b)
   |.neq=>CY x fun b=>K (.bool (!b))
   |_=>F
  else F
 |_=>F
def placesOf(P:Program)(j:List Field):Option (List (Nat×Nat)):=
 match j with
 |[]=>some []
 |f::r=>match P.info? f.type,placesOf P r with | some i,some l=>some ((f.offset,i.size)::l) | _,_=>none
def FW(P:Program)(ok:Nat->Bool)(o:Oper)(ρ:Operand->Value)(K:Cont)(w:World):Prop:=
 match o.op with
 |.move x=>K (ρ x) w
 |.assign x=>K (ρ x) w
 |.pick c a b=>MF (ρ c) (ρ a) (ρ b) fun v=>K v w
 |.alloc t=>match zeroOf P t with | some z=>Al t z.cells.toList K w | none=>False
 |.box t x=>match Hc P t with | some (false,_)=>Ec t (ρ x) K w | some (true,_)=>BP t (ρ x) K w | none=>False
 |.load t x=>match Hc P t with | some (false,_)=>AJ (ρ x) K w | some (true,k)=>Aa k (ρ x) K w | none=>False
 |.store t a x=>match Hc P t with
  |some (false,k)=>bif Nat.beq k 1 then Av (ρ a) (ρ x) (fun w=>K undef w) w else False
  |some (true,k)=>Ab k (ρ a) (ρ x) (fun w=>K undef w) w
  |none=>False
 |.nilCheck x=>AK (ρ x) fun v=>K v w
 |.binOp op t x y _=>NO P op t y (ρ x) (ρ y) (fun v=>K v w) (runK P (BS op t x y (ρ x) (ρ y)) K w)
 |.unOp .not _ x=>CA (ρ x) fun v=>K v w
 |.unOp op _ x=>runK P (Op.unary op (ρ x)) K w
 |.fieldAddr s x f=>match P.underlying s with
  |some (.struct q)=>match q.toList[f]? with
   |some f=>match P.info? f.type with
    |some i=>bif Nat.beq i.size 0 then False else AM f.offset (ρ x) fun v=>K v w
    |none=>False
   |none=>False
  |_=>False
 |.indexAddr t x i=>match P.underlying t with
  |some (.slice e)=>match P.info? e with | some f=>BM f.size (ρ x) (ρ i) fun v=>K v w | none=>False
  |_=>runK P (Instr.indexAt t (ρ x) (ρ i)) K w
 |.build t j=>match P.underlying t,zeroOf P t with
  |some (.struct q),some z=>match placesOf P q.toList with
   |some l=>Ai l z.cells.toList (j.toList.map fun p=>(p.1,ρ p.2)) fun v=>K v w
   |none=>False
  |_,_=>runK P (Instr.build t (j.toList.map fun p=>(p.1,ρ p.2)).toArray) K w
 |.buildSlice t len j=>match P.underlying t with
  |some (.slice e)=>match P.info? e with
   |some i=>bif Nat.blt 0 (len*i.size)&&Nat.ble (len*i.size) 1000000 then
     match i.zero with|some z=>Ba e i.size len z.cells.toList (j.toList.map fun p=>(p.1,ρ p.2)) K w|none=>False
    else bif Nat.beq (len*i.size) 0 then Ba e i.size len [] (j.toList.map fun p=>(p.1,ρ p.2)) K w else False
   |none=>False
  |_=>False
 |.extract t i=>AR i (ρ t) fun v=>K v w
 |.makeFunc fn B I=>K (.func fn (B.toList.map ρ).toArray (I.toList.map ρ).toArray) w
 |.convert s d x=>runK P (convert s d (ρ x)) K w
 |.slice t x lo hi J=>runK P (Instr.sliceAt t (ρ x) (lo.map ρ) (hi.map ρ) (J.map ρ)) K w
 |.field t x f=>runK P (Instr.field t (ρ x) f) K w
 |.index t x i=>runK P (Instr.index t (ρ x) (ρ i)) K w
 |.makeMap t r=>runK P (Instr.makeMap t (r.map ρ)) K w
 |.makeSlice t l c=>runK P (Instr.makeSlice t (ρ l) (ρ c)) K w
 |.makeInterface t x=>runK P (Instr.makeInterface t (ρ x)) K w
 |.lookup t x i b=>runK P (Instr.lookup t (ρ x) (ρ i) b) K w
 |.mapUpdate t m k x=>runK P (do Instr.mapUpdate t (ρ m) (ρ k) (ρ x);pure undef) K w
 |.insert t m k x=>runK P (do Instr.mapUpdate t (ρ m) (ρ k) (ρ x);pure undef) K w
 |.mapEntry t m k=>runK P (Instr.mapEntry t (ρ m) (ρ k)) K w
 |.entryStore t m s x=>runK P (do Instr.entryStore t (ρ m) (ρ s) (ρ x);pure undef) K w
 |.range t x=>runK P (Instr.range t (ρ x)) K w
 |.next it s=>runK P (Instr.next (ρ it) s o.type) K w
 |.entry it=>runK P (Instr.entry (ρ it)) K w
 |.typeAssert x O at_ b=>runK P (Instr.typeAssert (ρ x) O at_ b) K w
 |.call c=>match c.callee with
  |.value (.func g)=>bif ok g then AB P g (c.args.toList.map ρ) K w else cQ P g (c.args.toList.map ρ) K w
  |.value f=>BK P ok (ρ f) (c.args.toList.map ρ) K w
  |.builtin .len=>match c.argTypes.toList,c.args.toList with
   |[t],[x]=>match P.underlying t with
    |some (.slice _)=>Ac (ρ x) fun v=>K v w
    |some .string=>L9 (ρ x) fun v=>K v w
    |_=>runK P (Builtin.len_ c.argTypes o.type #[ρ x]) K w
   |_,_=>False
  |.builtin .append=>runK P (Builtin.append_ c.argTypes o.type (c.args.toList.map ρ).toArray) K w
  |.builtin .copy=>runK P (Builtin.copy_ c.argTypes o.type (c.args.toList.map ρ).toArray) K w
  |.builtin .cap=>runK P (Builtin.cap_ c.argTypes o.type (c.args.toList.map ρ).toArray) K w
  |.builtin .max=>match P.underlying o.type,c.args.toList with
   |some (.int k),[x,y]=>KM k (ρ x) (ρ y) fun v=>K v w
   |_,_=>runK P (Builtin.max_ c.argTypes o.type (c.args.toList.map ρ).toArray) K w
  |.builtin .min=>match P.underlying o.type,c.args.toList with
   |some (.int k),[x,y]=>LJ k (ρ x) (ρ y) fun v=>K v w
   |_,_=>runK P (Builtin.min_ c.argTypes o.type (c.args.toList.map ρ).toArray) K w
  |.builtin .clear=>runK P (Builtin.clear_ c.argTypes o.type (c.args.toList.map ρ).toArray) K w
  |.builtin .delete=>runK P (Builtin.delete_ c.argTypes o.type (c.args.toList.map ρ).toArray) K w
  |_=>False
 |_=>False
def DR(P:Program)(ok:Nat->Bool):Prop:=∀g,ok g=true->∀args w,(callFunc g args).run P w=.ok (.enter g args) w
section
variable {P:Program}{ok:Nat->Bool}{K:Cont}{w:World}
def Ed{t:TypeId}{b:Bool}{k:Nat}(h:Hc P t=some (b,k))(w:World):(isAgg t).run P w=.ok b w/\(sizeOf t).run P w=.ok k w:=by
 unfold Hc at h;unfold isAgg sizeOf underlying typeInfo;simp only[kL,run_program,S9];revert h
 cases hu:P.underlying t with
 |none=>simp
 |some d=>cases hi:P.info? t with
  |none=>cases d<;>simp
  |some i=>cases d<;>simp +contextual [lU]
def run_typeInfo{t:TypeId}{i:TypeInfo}(h:P.info? t=some i)(w:World):(typeInfo t).run P w=.ok i w:=by
 simp[typeInfo,h]
def run_underlying{t:TypeId}{d:TypeDesc}(h:P.underlying t=some d)(w:World):(underlying t).run P w=.ok d w:=by
 simp[underlying,h]
def run_sizeOf{t:TypeId}{i:TypeInfo}(h:P.info? t=some i)(w:World):(sizeOf t).run P w=.ok i.size w:=by
 simp[sizeOf,run_typeInfo h]
def EO{t:TypeId}{z:Value}(h:zeroOf P t=some z)(w:World):(zeroValue t).run P w=.ok z w:=by
 unfold zeroOf at h;cases hi:P.info? t with
 |none=>simp[hi] at h
 |some i=>simp only[hi] at h;simp[zeroValue,run_typeInfo hi,h]
def SQ{t:TypeId}{k:Nat}{x:Value}(ha:Hc P t=some (false,k))(h:AJ x K w):runK P (Instr.loadAt t x) K w:=by
 obtain⟨a,v,rfl,hc,i⟩:=h;exact⟨v,w,by simp[Instr.loadAt,Instr.sureAddr,loadVar,(Ed ha w).1,hc],i⟩
def R2{t:TypeId}{k:Nat}{x:Value}(ha:Hc P t=some (true,k))(h:Aa k x K w):runK P (Instr.loadAt t x) K w:=by
 obtain⟨a,vs,rfl,hl,hc,j⟩:=h;refine⟨_,w,?_,j⟩;have i:=run_loadCells_list (P:=P) (w:=w) a vs hc;simp only[Instr.loadAt,Instr.sureAddr,loadVar,kL,lU,S9,(Ed ha w).1,(Ed ha w).2,lT];rw[<-hl,i];rfl
def Qa(a:Addr):∀(vs:List Value) (i:Nat) (w:World),(∀v∈vs,v.oneCell'=true)->
  (∀j,i<=j->j<i+vs.length->(w.cell? (a.add j)).isSome=true/\w.frozen? (a.add j)=false)->
  (storeCells a vs i).run P w=.ok () (EW w a i vs):=by
 intro vs;induction vs with
 |nil=>intro i w _ _;simp[storeCells,EW]
 |cons v vs J=>
  intro i w h1 q;have B:=q i (Mp _) (by simp);obtain⟨u,hu⟩:=kH.1 B.1;simp only[storeCells,kL,run_store P w _ v .plain (h1 v (by simp)),hu,B.2,EW];simp only[nA,lE,S9];refine J (i+1) _ (fun v O=>h1 v (by simp[O])) (fun j Q m=>?_);have I:=q j (by omega) (by simp at m ⊢;omega);refine⟨?_,by rw[qy];exact I.2⟩;obtain⟨T,o⟩:=kH.1 I.1;by_cases he:a.add i=a.add j
  .rw[<-he,kQ w _ v hu];rfl
  .rw[S4 w _ _ v he,o];rfl
end
section
variable {P:Program}{ok:Nat->Bool}{K:Cont}{w:World}
def du(P:Program)(s:Sem Unit)(K:World->Prop)(w:World):Prop:=∃w',s.run P w=.ok () w'/\K w'
def Y8{t:TypeId}{x v:Value}{K:World->Prop}(ha:Hc P t=some (false,1))(h:Av x v K w):du P (Instr.storeAt t x v) K w:=by
 obtain⟨a,u,rfl,h1,hc,hu,j,m⟩:=h;refine⟨_,?_,m⟩;have i:v.cells.toList=[v]:=by rw[hc]
 have o:v.cells.size=1:=by rw[hc];rfl
 simp only[Instr.storeAt,Instr.sureAddr,storeVar,kL,lU,S9,(Ed ha w).2,o];simp only[ne_eq,not_true_eq_false,lE,kL,lU,i,storeCells,run_store P w _ v .plain h1,Addr.add_zero',hu,j];simp
def aT{t:TypeId}{k:Nat}{x v:Value}{K:World->Prop}(ha:Hc P t=some (true,k))(h:Ab k x v K w):du P (Instr.storeAt t x v) K w:=by
 obtain⟨a,vs,rfl,rfl,hl,h1,hc,i⟩:=h;refine⟨_,?_,i⟩;simp only[Instr.storeAt,Instr.sureAddr,storeVar,kL,lU,S9,(Ed ha w).2,Value.cells,nP,hl];simp only[ne_eq,not_true_eq_false,lE];exact Qa a vs 0 w h1 (fun j _ m=>hc j (by omega))
def OP{t:TypeId}(i:v.cells=cs.toArray)(h:Al t cs K w) :
  runK P (do pure (.pointer (some (<- newVar t v)))) K w:=by
 refine⟨_,_,?_,h⟩;simp[newVar,newRow,i]
def UE{t:TypeId}{z:Value}(i:zeroOf P t=some z)(h:Al t z.cells.toList K w):runK P (Instr.alloc t true (.tuple #[])) K w:=by
 obtain⟨v,w',h1,j⟩:=OP (P:=P) (v:=z) (by simp) h;refine⟨v,w',?_,j⟩;simp only[Instr.alloc,kL,EO i,S9];simpa using h1
def XW{t:TypeId}{x:Value}(h:Ec t x K w):runK P (Instr.box t x) K w:=OP (v:=x) (by rw[h.1]) h.2
def WB{t:TypeId}{x:Value}(h:BP t x K w):runK P (Instr.box t x) K w:=by
 obtain⟨vs,rfl,h⟩:=h;exact OP (v:=.agg vs.toArray) rfl h
def Uw{s:TypeId}{x:Value}{f:Nat}{m:Array Field}{j:Field}{i:TypeInfo}(hu:P.underlying s=some (.struct m))(I:m.toList[f]?=some j)
 (hi:P.info? j.type=some i)(B:Nat.beq i.size 0=false)(h:AM j.offset x fun v=>K v w):runK P (Instr.fieldAt s x f) K w:=by
 obtain⟨a,rfl,J⟩:=h;refine⟨_,w,?_,J⟩;have o:m[f]?=some j:=by rw[<-lq];exact I
 have q:i.size≠0:=by intro e;rw[e] at B;exact absurd B (by decide)
 simp[Instr.fieldAt,run_underlying hu,o,Instr.sureAddr,fieldPlace,run_sizeOf hi,q]
def V4{t e:TypeId}{x i:Value}{f:TypeInfo}(hu:P.underlying t=some (.slice e))(hi:P.info? e=some f)
 (h:BM f.size x i fun v=>K v w):runK P (Instr.indexAt t x i) K w:=by
 obtain⟨a,n,c,k,j,rfl,rfl,h0,h1,m⟩:=h;refine⟨_,w,?_,m⟩;simp[Instr.indexAt,asIntOf,run_underlying hu,h0,h1,run_sizeOf hi]
def Rt:∀(j:List Field) (l:List (Nat×Nat)),placesOf P j=some l->∀w:World,
  (j.mapM (fun f=>Functor.map (Prod.mk f.offset) (sizeOf f.type)):Sem (List (Nat×Nat))).run P w=.ok l w:=by
 intro j;induction j with
 |nil=>intro l h w;simp only[placesOf,i6] at h;subst h;simp
 |cons f r m=>
  intro l h w;simp only[placesOf] at h;cases hi:P.info? f.type with
  |none=>simp[hi] at h
  |some i=>
   cases hr:placesOf P r with
   |none=>simp[hi,hr] at h
   |some o=>
    simp only[hi,hr,i6] at h;subst h;simp[rC,run_sizeOf hi,m o hr]
def NY{t:TypeId}{m:Array Field}{z:Value}{l:List (Nat×Nat)}{j:List (Nat×Value)}(hu:P.underlying t=some (.struct m))(q:zeroOf P t=some z)
 (hl:placesOf P m.toList=some l)(h:Ai l z.cells.toList j fun v=>K v w):runK P (Instr.build t j.toArray) K w:=by
 obtain⟨cs,o,B⟩:=h;refine⟨_,w,?_,B⟩;have hm:(m.mapM (fun f=>do pure (f.offset,<-sizeOf f.type)):Sem (Array (Nat×Nat))).run P w=.ok l.toArray w:=by
  rw[qQ];have:=Rt m.toList l hl w;simp only[Sem.run_map,bind_pure_comp,this];rfl
 simp only[Instr.build,kL,EO q,S9,run_underlying hu,hm];simp only[oi] at o;have I:(fun i:Nat=>l.toArray[i]?)=fun i=>l[i]?:=by funext i;simp
 rw[I,o];rfl
def YW{t e:TypeId}{len:Nat}{i:TypeInfo}{z:Value}{j:List (Nat×Value)}(hu:P.underlying t=some (.slice e))(hi:P.info? e=some i)(q:i.zero=some z)
 (hb:(Nat.blt 0 (len*i.size)&&Nat.ble (len*i.size) 1000000)=true)(h:Ba e i.size len z.cells.toList j K w):runK P (Instr.buildSlice t len j.toArray) K w:=by
 obtain⟨cs,o,B⟩:=h;refine⟨_,_,?_,B⟩;simp only[cL] at hb;have h1:¬len*i.size>2 ^ 24:=by have:=mN hb.2;omega
 have I:¬len*i.size=0:=by have:=mN hb.1;omega
 simp only[Instr.buildSlice,kL,run_underlying hu,run_sizeOf hi,S9,h1,I,lE,lU];simp only[oi] at o;have m:zeroOf P e=some z:=by simp[zeroOf,hi,q]
 simp only[EO m,S9,o];simp[newRow]
def V2{t e:TypeId}{len:Nat}{i:TypeInfo}{j:List (Nat×Value)}(hu:P.underlying t=some (.slice e))(hi:P.info? e=some i)
 (hb:Nat.beq (len*i.size) 0=true)(h:Ba e i.size len [] j K w):runK P (Instr.buildSlice t len j.toArray) K w:=by
 obtain⟨cs,m,q⟩:=h;refine⟨_,_,?_,q⟩;have o:len*i.size=0:=lJ hb;have h1:¬len*i.size>2 ^ 24:=by omega
 simp only[o] at m;simp only[Instr.buildSlice,kL,run_underlying hu,run_sizeOf hi,S9,h1,lE];simp only[o,lT,kL,lU,S9,m];simp[newRow]
def SJ{i:Array TypeId}{ty t e:TypeId}{x:Value}(ht:i.toList=[t])(hu:P.underlying t=some (.slice e))(h:Ac x fun v=>K v w):runK P (Builtin.len_ i ty #[x]) K w:=by
 obtain⟨a,n,c,rfl,m⟩:=h;refine⟨_,w,?_,m⟩;have j:i=#[t]:=by rw[<-oi (xs:=i),ht]
 subst j;simp[Builtin.len_,run_underlying hu,goInt]
def PJ{i:Array TypeId}{ty t:TypeId}{x:Value}(ht:i.toList=[t])(hu:P.underlying t=some .string)(h:L9 x fun v=>K v w):runK P (Builtin.len_ i ty #[x]) K w:=by
 obtain⟨s,rfl,m⟩:=h;refine⟨_,w,?_,m⟩;have j:i=#[t]:=by rw[<-oi (xs:=i),ht]
 subst j;simp[Builtin.len_,run_underlying hu,goInt]
def TA{x:Value}{i:Nat}(h:AR i x fun v=>K v w):runK P (Instr.extract x i) K w:=by
 obtain⟨vs,v,rfl,j,m⟩:=h;exact⟨v,w,by simp[Instr.extract,j],m⟩
def toList_beq(a b:ByteArray):(a.toList==b.toList)=decide (a=b):=by
 by_cases h:a=b
 .subst h;simp
 .have:¬a.toList=b.toList:=by
   intro e;apply h;rw[ByteArray.toList_eq,ByteArray.toList_eq] at e;cases a;cases b;simp at e;simp[e]
  simp[h,this]
def Kf(d:Nat){t e:TypeId}(hu:P.underlying t=some (.slice e))(a:Option Addr)(n c i j:Nat)(w:World) :
  (Op.equalIn (d+1) t (.slice a n c) (.slice none i j)).run P w=.ok a.isNone w:=by
 cases a<;>simp[Op.equalIn,run_underlying hu]
def KW(d:Nat){t e:TypeId}(hu:P.underlying t=some (.pointer e))(a:Option Addr)(w:World) :
  (Op.equalIn (d+1) t (.pointer a) (.pointer none)).run P w=.ok a.isNone w:=by
 cases a<;>simp[Op.equalIn,run_underlying hu]
def H7{t e:TypeId}(hu:P.underlying t=some (.slice e))(a:Option Addr)(n c i j:Nat)(w:World) :
  (Op.equal t (.slice a n c) (.slice none i j)).run P w=.ok a.isNone w:=Kf 9999 hu a n c i j w
def Hz{t e:TypeId}(hu:P.underlying t=some (.pointer e))(a:Option Addr)(w:World) :
  (Op.equal t (.pointer a) (.pointer none)).run P w=.ok a.isNone w:=KW 9999 hu a w
def O1{op : BinOp}{t : TypeId}{x y : Value}{F : Prop}(B : ∀v, yo = .const v -> y = v)(h : NO P op t yo x y (fun v => K v w) F)
   (o : F -> runK P (do eqGuard op t xo yo x y; binOp op t x y) K w) : runK P (do eqGuard op t xo yo x y; binOp op t x y) K w := by
  unfold NO at h;cases hu : P.underlying t with
  |none => simp only[hu] at h; exact o h
  |some d =>
    simp only[hu] at h;cases d with
    |int k =>
      cases op<;>simp only at h<;>first
        |exact o h
        | (obtain ⟨a, b, rfl, rfl, i⟩ := h
           refine⟨_, w, ?_, i⟩;simp[eqGuard_at_int, binOp, Op.intArith, Op.intCmp]
           done)
        | (obtain ⟨a, b, rfl, rfl, i⟩ := h
           refine ⟨_, w, ?_, i⟩;simp [eqGuard_at_int, binOp, Op.intCmp];first | done | (by_cases q : a = b <;> simp [q]))
    |bool =>
      cases op<;>simp only at h<;>first
        |exact o h
        | (obtain ⟨a, b, rfl, rfl, i⟩ := h
           refine ⟨_, w, ?_, i⟩;simp [eqGuard_at_bool, run_eql_bool w t a b hu, run_neq_bool w t a b hu])
    |string =>
      cases op<;>simp only at h<;>first
        |exact o h
        | (obtain ⟨a, b, rfl, rfl, i⟩ := h
           refine ⟨_, w, ?_, i⟩;simp [eqGuard_at_string, binOp, Op.stringOp, toList_beq])
    |slice e =>
      cases j : Om yo with
      |false => simp only[j, lL] at h; exact o h
      |true =>
        simp only[j, lN] at h;have m : ∃n c, y = .slice none n c := by
          unfold Om at j; split at j
          . exact⟨_, _, B _ rfl⟩
          . cases j
        cases op<;>simp only at h<;>first
          |exact o h
          | (obtain ⟨a, i⟩ := h
             first
               | (obtain ⟨n, c, rfl, i⟩ := i
                  refine⟨_, w, ?_, i⟩;obtain⟨I, J, rfl⟩ := m;simp[eqGuard_at_slice, binOp, H7 hu]
                  done)
               | (obtain ⟨rfl, i⟩ := i
                  refine⟨_, w, ?_, i⟩;subst m;simp[eqGuard_at_slice, binOp, H7 hu]
                  done))
    |pointer e =>
      cases j : Oe yo with
      |false => simp only[j, lL] at h; exact o h
      |true =>
        simp only[j, lN] at h;have m : y = .pointer none := by
          unfold Oe at j; split at j
          . exact B _ rfl
          . cases j
        cases op<;>simp only at h<;>first
          |exact o h
          | (obtain ⟨a, i⟩ := h
             first
               | (obtain ⟨n, c, rfl, i⟩ := i
                  refine⟨_, w, ?_, i⟩;obtain⟨I, J, rfl⟩ := m;simp[eqGuard_at_pointer, binOp, Hz hu]
                  done)
               | (obtain ⟨rfl, i⟩ := i
                  refine⟨_, w, ?_, i⟩;subst m;simp[eqGuard_at_pointer, binOp, Hz hu]
                  done))
    |_ => exact o h
end
section
variable {P:Program}{ok:Nat->Bool}{K:Cont}{w:World}
def Ep(w0:World)(r:Result Next)(K:Cont)(P:Program):Prop:=
 match r with
 |.ok (.value v) w'=>K v w'
 |.ok .skip w'=>K undef w'
 |.ok (.enter f args) w'=>w'=w0/\Calls P f args w0 fun e i=>∃v,e=.returned v/\K v i
 |_=>False
def bR{o:Oper}{a:Act}{next:Act->World->Prop}{Q:Exit->Act->World->Prop}{r:Result Next}
 (h:Ep w r K P)(i:∀v w',K v w'->next (a.put o.dst v) w'):o.upon P a next Q r:=by
 match r,h with
 |.ok (.value v) w',h=>exact i _ _ h
 |.ok .skip w',h=>exact i _ _ h
 |.ok (.enter f args) w',h=>
  obtain⟨rfl,h⟩:=h;exact nz h fun e j ⟨v,he,m⟩=>by subst he;exact i _ _ m
def EE{s:Sem Value}(h:runK P s K w):Ep w ((do pure (Next.value (<- s)):Sem Next).run P w) K P:=by
 obtain⟨v,w',h1,i⟩:=h;simp only[kL,h1,S9,lU];exact i
def jG{s:Sem Unit}(h:du P s (fun w=>K undef w) w):Ep w ((do s;pure Next.skip:Sem Next).run P w) K P:=by
 obtain⟨w',h1,i⟩:=h;simp only[kL,h1,S9,lU];exact i
def V7{s:Sem Unit}(h:runK P (do s;pure undef) K w):Ep w ((do s;pure Next.skip:Sem Next).run P w) K P:=by
 obtain⟨v,w',h1,i⟩:=h;simp only[kL,lU] at h1 ⊢;revert h1
 cases s.run P w with
 |halt x j=>intro h1;exact absurd h1 (by simp)
 |ok u j=>intro h1;simp at h1;obtain⟨rfl,rfl⟩:=h1;exact i
def GB(ρ:Operand->Value)(xs:Array Operand):xs.map ρ=(xs.toList.map ρ).toArray:=by
 apply pW.1;simp
def Ks(ρ:Operand->Value)(xs:Array (Nat×Operand)):(xs.map fun(i,x)=>(i,ρ x))=(xs.toList.map fun p=>(p.1,ρ p.2)).toArray:=by
 apply pW.1;simp
def aC(i:DR P ok){g:Nat}(j:ok g=true)(h:AB P g args K w) :
  Ep w ((callFunc g args.toArray).run P w) K P:=by
 rw[i g j];exact⟨rfl,h⟩
set_option maxHeartbeats 1000000 in
def OL(a6:DR P ok){o:Oper}{ρ:Operand->Value}(a7:∀v,ρ (.const v)=v)(Y:∀f,ρ (.func f)=.func (.func f) #[] #[])(h:FW P ok o ρ K w) :
  Ep w ((execOp ρ o).run P w) K P:=by
 obtain⟨U,op,j,pos,after,guard⟩:=o;cases op with
 |move x=>exact h
 |assign x=>exact h
 |pick c a b=>
  simp only[FW,MF] at h;simp only[execOp];cases hc:ρ c with
  |bool t=>cases t<;>simp only[hc] at h<;>simpa[asBool,Ep] using h
  |_=>simp only[hc] at h
 |alloc t=>
  simp only[FW] at h;split at h
  .rename_i z V;exact EE (UE V h)
  .exact h.elim
 |box t x=>
  simp only[FW] at h;split at h
  .exact EE (XW h)
  .exact EE (WB h)
  .exact h.elim
 |load t x=>
  simp only[FW] at h;split at h
  .rename_i ha;exact EE (SQ ha h)
  .rename_i ha;exact EE (R2 ha h)
  .exact h.elim
 |store t a x=>
  simp only[FW] at h;split at h
  .rename_i k ha;cases hk:Nat.beq k 1 with
   |false=>simp only[hk,lL] at h
   |true=>
    simp only[hk,lN] at h;rw[lJ hk] at ha;exact jG (Y8 ha h)
  .rename_i ha;exact jG (aT ha h)
  .exact h.elim
 |nilCheck x=>
  simp only[FW] at h;obtain⟨a,h1,Q⟩:=h;simp only[execOp,h1];rw[h1] at Q;exact Q
 |binOp op t x y yt=>
  simp only[FW] at h;exact EE (O1 (xo:=x) (fun v hv=>by rw[hv,a7]) h (fun hF=>hF))
 |unOp op t x=>
  simp only[FW] at h;cases op with
  |plus=>exact EE h
  |not=>
   obtain⟨a,h1,Q⟩:=h;exact EE ⟨_,w,by simp[Op.unary,h1],Q⟩
  |neg=>exact EE h
  |xor=>exact EE h
 |fieldAddr s x f=>
  simp only[FW] at h;split at h
  .rename_i fs hu;split at h
   .rename_i fd hf;split at h
    .rename_i i hi;cases V:Nat.beq i.size 0 with
     |true=>simp only[V,lN] at h
     |false=>
      simp only[V,lL] at h;exact EE (Uw hu hf hi V h)
    .exact h.elim
   .exact h.elim
  .exact h.elim
 |indexAddr t x i=>
  simp only[FW] at h;split at h
  .rename_i e hu;split at h
   .rename_i f hi;exact EE (V4 hu hi h)
   .exact h.elim
  .exact EE h
 |build t B=>
  simp only[FW] at h;have e1:(execOp ρ ⟨U,.build t B,j,pos,after,guard⟩)=(do pure (Next.value (<- Instr.build t (B.toList.map fun p=>(p.1,ρ p.2)).toArray)):Sem Next):=by
   simp only[execOp];rw[Ks]
  rw[e1];split at h
  .rename_i fs z hu V;split at h
   .rename_i l hl;exact EE (NY hu V hl h)
   .exact h.elim
  .exact EE h
 |buildSlice t len B=>
  simp only[FW] at h;have e1:(execOp ρ ⟨U,.buildSlice t len B,j,pos,after,guard⟩)=(do pure (Next.value (<- Instr.buildSlice t len (B.toList.map fun p=>(p.1,ρ p.2)).toArray)):Sem Next):=by
   simp only[execOp];rw[Ks]
  rw[e1];split at h
  .rename_i e hu;split at h
   .rename_i i hi;cases hb:(Nat.blt 0 (len*i.size)&&Nat.ble (len*i.size) 1000000) with
    |true=>
     simp only[hb,lN] at h;split at h
     .rename_i z V;exact EE (YW hu hi V hb h)
     .exact h.elim
    |false=>
     simp only[hb,lL] at h;cases Z:Nat.beq (len*i.size) 0 with
     |true=>simp only[Z,lN] at h;exact EE (V2 hu hi Z h)
     |false=>simp only[Z,lL] at h
   .exact h.elim
  .exact h.elim
 |extract t i=>exact EE (TA h)
 |makeFunc fn I J=>
  simp only[FW] at h;simp only[execOp,Instr.makeFunc,GB];exact h
 |convert s d x=>exact EE h
 |slice t x lo hi mx=>exact EE h
 |field t x f=>exact EE h
 |index t x i=>exact EE h
 |makeMap t r=>exact EE h
 |makeSlice t l c=>exact EE h
 |makeInterface t x=>exact EE h
 |lookup t x i b=>exact EE h
 |mapUpdate t m k x=>exact V7 h
 |insert t m k x=>exact V7 h
 |mapEntry t m k=>exact EE h
 |entryStore t m s x=>exact V7 h
 |range t x=>exact EE h
 |next it s=>exact EE h
 |entry it=>exact EE h
 |typeAssert x xt at_ b=>exact EE h
 |call c=>
  obtain⟨O,args,T⟩:=c;have hb:∀(b:Builtin) (s:Array Value->Sem Value),O=.builtin b->(∀cs xs,builtin b T j cs xs=(do pure (Next.value (<- s xs))))->
    runK P (s (args.toList.map ρ).toArray) K w->Ep w ((execOp ρ ⟨U,.call ⟨O,args,T⟩,j,pos,after,guard⟩).run P w) K P:=by
   intro b s hc hs hr;subst hc;simp only[execOp,resolve,pure_bind,invoke,hs,GB];exact EE hr
  cases O with
  |value f=>
   have hv:∀g I J,ρ f=.func (.func g) (List.toArray I) (List.toArray J)->ok g=true->AB P g (I++args.toList.map ρ++J) K w->
     Ep w ((execOp ρ ⟨U,.call ⟨.value f,args,T⟩,j,pos,after,guard⟩).run P w) K P:=by
    intro g I J hf hg hc;simp only[execOp,resolve,hf,Deferred.ofValue,pure_bind,invoke,GB];have:=aC a6 hg hc;simpa using this
   cases f with
   |func g=>
    simp only[FW] at h;cases hg:ok g with
    |false=>
     simp only[hg,lL] at h;obtain⟨v,w',h1,Q⟩:=h;have e1:(execOp ρ ⟨U,.call ⟨.value (.func g),args,T⟩,j,pos,after,guard⟩)=callFunc g (args.toList.map ρ).toArray:=by
      simp[execOp,resolve,Y,Deferred.ofValue,invoke,GB]
     rw[e1,h1];exact Q
    |true=>
     simp only[hg,lN] at h;exact hv g [] [] (Y g) hg (by simpa using h)
   |tmp t=>obtain⟨g,I,J,h1,Q,X⟩:=h;exact hv g I J h1 Q X
   |const v=>obtain⟨g,I,J,h1,Q,X⟩:=h;exact hv g I J h1 Q X
   |global g=>obtain⟨g,I,J,h1,Q,X⟩:=h;exact hv g I J h1 Q X
  |invoke r m=>exact h.elim
  |builtin b=>
   cases b<;>first
    |exact h.elim
    |exact hb _ _ rfl (fun _ xs=>rfl) h
    |skip
   case max=>
    simp only[FW] at h;split at h
    .rename_i k x y hk hx;obtain⟨p,q,h1,Q,X⟩:=h;refine hb .max _ rfl (fun _ xs=>rfl) ⟨_,w,?_,X⟩;rw[hx];simp only[kN,lp,h1,Q];exact run_max_int2 w T j k k p q
    .exact hb .max _ rfl (fun _ xs=>rfl) h
   case min=>
    simp only[FW] at h;split at h
    .rename_i k x y hk hx;obtain⟨p,q,h1,Q,X⟩:=h;refine hb .min _ rfl (fun _ xs=>rfl) ⟨_,w,?_,X⟩;rw[hx];simp only[kN,lp,h1,Q];exact run_min_int2 w T j k k p q
    .exact hb .min _ rfl (fun _ xs=>rfl) h
   simp only[FW] at h;split at h
   .rename_i t x ht hx;have a1:(args.toList.map ρ).toArray=#[ρ x]:=by rw[hx];rfl
    refine hb .len _ rfl (fun _ xs=>rfl) ?_;rw[a1];split at h
    .rename_i hu;exact SJ ht hu h
    .rename_i hu;exact PJ ht hu h
    .exact h
   .exact h.elim
 |_=>exact h.elim
def HF(P:Program)(op:BinOp)(t:TypeId)(yo:Operand):Bool:=
 match P.underlying t with
 |some (.int _)=>match op with | .add | .sub | .mul | .lss | .leq | .gtr | .geq | .eql | .neq=>true | _=>false
 |some .bool=>match op with | .eql | .neq=>true | _=>false
 |some .string=>match op with | .eql | .neq=>true | _=>false
 |some (.slice _)=>Om yo&&(match op with | .eql | .neq=>true | _=>false)
 |some (.pointer _)=>Oe yo&&(match op with | .eql | .neq=>true | _=>false)
 |_=>false
def CV(P:Program)(o:Oper):Bool:=
 match o.op with
 |.move _=>true | .assign _=>true | .pick _ _ _=>true | .nilCheck _=>true | .extract _ _=>true
 |.fieldAddr _ _ _=>true
 |.unOp .not _ _=>true
 |.binOp op t _ y _=>HF P op t y
 |.indexAddr t _ _=>match P.underlying t with | some (.slice _)=>true | _=>false
 |.build t _=>match P.underlying t,zeroOf P t with | some (.struct _),some _=>true | _,_=>false
 |.call c=>match c.callee with
  |.builtin .len=>match c.argTypes.toList,c.args.toList with
   |[t],[_]=>match P.underlying t with | some (.slice _)=>true | some .string=>true | _=>false
   |_,_=>false
  |.builtin .max=>match P.underlying o.type,c.args.toList with | some (.int _),[_,_]=>true | _,_=>false
  |.builtin .min=>match P.underlying o.type,c.args.toList with | some (.int _),[_,_]=>true | _,_=>false
  |_=>false
 |_=>false
def GV{op:BinOp}{t:TypeId}{x y:Value}{K:Value->Prop}{F:Prop}(hp:HF P op t yo=true)(h:NO P op t yo x y K F) :
  ∃v,K v/\∀(m:Value->Prop) (F':Prop),m v->NO P op t yo x y m F':=by
 unfold HF at hp;unfold NO at h;simp only[NO];cases hu:P.underlying t with
 |none=>simp[hu] at hp
 |some d=>
  simp only[hu] at hp h;cases d with
  |int k=>cases op<;>simp only at hp h ⊢<;>first
    |(cases hp;done)
    |(obtain⟨a,b,h1,o,j⟩:=h;exact⟨_,j,fun m _ hk=>⟨a,b,h1,o,hk⟩⟩)
  |bool=>cases op<;>simp only at hp h ⊢<;>first
    |(cases hp;done)
    |(obtain⟨a,b,h1,o,j⟩:=h;exact⟨_,j,fun m _ hk=>⟨a,b,h1,o,hk⟩⟩)
  |string=>cases op<;>simp only at hp h ⊢<;>first
    |(cases hp;done)
    |(obtain⟨a,b,h1,o,j⟩:=h;exact⟨_,j,fun m _ hk=>⟨a,b,h1,o,hk⟩⟩)
  |slice e=>
   simp only[cL] at hp;simp only[hp.1,lN] at h ⊢;have i:=hp.2;cases op<;>simp only at i h ⊢<;>first
    |(cases i;done)
    |(obtain⟨a,n,c,h1,j⟩:=h;exact⟨_,j,fun m _ hk=>⟨a,n,c,h1,hk⟩⟩)
  |pointer e=>
   simp only[cL] at hp;simp only[hp.1,lN] at h ⊢;have i:=hp.2;cases op<;>simp only at i h ⊢<;>first
    |(cases i;done)
    |(obtain⟨a,h1,j⟩:=h;exact⟨_,j,fun m _ hk=>⟨a,h1,hk⟩⟩)
  |_=>simp at hp
def PX{o:Oper}{ρ:Operand->Value}(hp:CV P o=true)(h:FW P ok o ρ K w):∃v,K v w/\∀(O:Cont) (w':World),O v w'->FW P ok o ρ O w':=by
 obtain⟨U,op,T,pos,after,guard⟩:=o;cases op with
 |move x=>exact⟨_,h,fun _ _ hk=>hk⟩
 |assign x=>exact⟨_,h,fun _ _ hk=>hk⟩
 |pick c a b=>
  simp only[FW,MF] at h ⊢;cases hc:ρ c with
  |bool t=>cases t<;>simp only[hc] at h ⊢<;>exact⟨_,h,fun _ _ hk=>hk⟩
  |_=>simp only[hc] at h
 |nilCheck x=>obtain⟨a,h1,m⟩:=h;exact⟨_,m,fun _ _ hk=>⟨a,h1,hk⟩⟩
 |extract t i=>obtain⟨vs,v,h1,m,B⟩:=h;exact⟨_,B,fun _ _ hk=>⟨vs,v,h1,m,hk⟩⟩
 |unOp op t x=>
  cases op with
  |not=>obtain⟨a,h1,m⟩:=h;exact⟨_,m,fun _ _ hk=>⟨a,h1,hk⟩⟩
  |_=>simp[CV] at hp
 |binOp op t x y yt=>
  simp only[CV] at hp;obtain⟨v,h1,m⟩:=GV hp h;exact⟨v,h1,fun O w' hk=>m _ _ hk⟩
 |fieldAddr s x f=>
  simp only[FW] at h ⊢;split at h
  .split at h
   .split at h
    .rename_i i _;cases I:Nat.beq i.size 0 with
     |true=>simp only[I,lN] at h
     |false=>
      simp only[I,lL] at h ⊢;obtain⟨a,h1,m⟩:=h;exact⟨_,m,fun _ _ hk=>⟨a,h1,hk⟩⟩
    .exact h.elim
   .exact h.elim
  .exact h.elim
 |indexAddr t x i=>
  simp only[FW,CV] at hp h ⊢;cases hu:P.underlying t with
  |none=>simp[hu] at hp
  |some d=>
   simp only[hu] at hp h ⊢;cases d with
   |slice e=>
    simp only at h ⊢;cases hi:P.info? e with
    |none=>simp[hi] at h
    |some f=>
     simp only[hi] at h ⊢;obtain⟨a,n,c,k,j,h1,m,B,V,X⟩:=h;exact⟨_,X,fun _ _ hk=>⟨a,n,c,k,j,h1,m,B,V,hk⟩⟩
   |_=>simp at hp
 |build t Q=>
  simp only[FW,CV] at hp h ⊢;cases hu:P.underlying t with
  |none=>simp[hu] at hp
  |some d=>
   cases I:zeroOf P t with
   |none=>simp[hu,I] at hp
   |some z=>
    simp only[hu,I] at hp h ⊢;cases d with
    |struct Y=>
     simp only at h ⊢;cases hl:placesOf P Y.toList with
     |none=>simp[hl] at h
     |some l=>
      simp only[hl] at h ⊢;obtain⟨cs,h1,m⟩:=h;exact⟨_,m,fun _ _ hk=>⟨cs,h1,hk⟩⟩
    |_=>simp at hp
 |call c=>
  obtain⟨q,args,Z⟩:=c;cases q with
  |builtin b=>
   cases b<;>simp only[CV,FW] at hp h ⊢<;>try (cases hp;done)
   .split at hp
    .rename_i t x ht J;simp only[ht,J] at h ⊢;split at hp
     .rename_i e hu;simp only[hu] at h ⊢;obtain⟨a,n,c,h1,m⟩:=h;exact⟨_,m,fun _ _ hk=>⟨a,n,c,h1,hk⟩⟩
     .rename_i hu;simp only[hu] at h ⊢;obtain⟨s,h1,m⟩:=h;exact⟨_,m,fun _ _ hk=>⟨s,h1,hk⟩⟩
     .cases hp
    .cases hp
   .split at hp
    .rename_i k x y hk J;simp only[hk,J] at h ⊢;obtain⟨a,b,h1,m,B⟩:=h;exact⟨_,B,fun _ _ hk=>⟨a,b,h1,m,hk⟩⟩
    .cases hp
   .split at hp
    .rename_i k x y hk J;simp only[hk,J] at h ⊢;obtain⟨a,b,h1,m,B⟩:=h;exact⟨_,B,fun _ _ hk=>⟨a,b,h1,m,hk⟩⟩
    .cases hp
  |_=>simp[CV] at hp
 |_=>simp[CV] at hp
end
structure Mod (M:Nat->Prop) (w w':World):Prop where
 os:w'.os=w.os
 tape:w'.tape=w.tape
 output:w'.output=w.output
 size:w.heap.size<=w'.heap.size
 same:∀b,b<w.heap.size->¬M b->w'.heap[b]?=w.heap[b]?
def Mod.refl(M:Nat->Prop)(w:World):Mod M w w:=⟨rfl,rfl,rfl,Mp _,fun _ _ _=>rfl⟩
def Mod.trans{M:Nat->Prop}{a b c:World}(h:Mod M a b)(k:Mod M b c):Mod M a c:=
 ⟨k.os.trans h.os,k.tape.trans h.tape,k.output.trans h.output,lV h.size k.size,fun i hi hm=>(k.same i (X8 hi h.size) hm).trans (h.same i hi hm)⟩
def Mod.mono{M i:Nat->Prop}{w w':World}(h:Mod M w w')(hm:∀b,b<w.heap.size->M b->i b):Mod i w w':=⟨h.os,h.tape,h.output,h.size,fun b hb j=>h.same b hb fun m=>j (hm b hb m)⟩
def EA(l:List Nat)(i:Nat):Bool:=l.any fun x=>Nat.beq x i
def Cc:List (List Nat)->Nat->List Nat
 |[],_=>[]
 |a::_,0=>a
 |_::r,i+1=>Cc r i
def CF{l:List Nat}{i:Nat}:EA l i=true↔i∈l:=by
 simp only[EA,oo];constructor
 .rintro⟨x,j,hb⟩;rw[<-lJ hb];exact j
 .intro h;exact⟨i,h,by simp⟩
section
variable (P:Program)(ok:Nat->Bool)(n:Nat)
def pure_run{P:Program}{ok:Nat->Bool}{o:Oper}{ρ:Operand->Value}{K:Cont}(a1:∀v,ρ (.const v)=v)(hp:CV P o=true)(h:FW P ok o ρ K w):∃v,K v w/\∀w',(execOp ρ o).run P w'=.ok (.value v) w':=by
 obtain⟨v,h1,h2⟩:=PX hp h;refine⟨v,h1,fun w'=>?_⟩;obtain⟨X,a6,B⟩:∃X:Cont,X v w'/\∀v' I,X v' I->v'=v/\I=w':=⟨fun v' I=>v'=v/\I=w',⟨rfl,rfl⟩,fun _ _ h=>h⟩;have j:=h2 X w' a6;have fin:∀s:Sem Value,runK P s X w'->(do pure (Next.value (<- s)):Sem Next).run P w'=.ok (.value v) w':=by
  rintro s ⟨v',I,r1,r2⟩;obtain⟨rfl,rfl⟩:=B _ _ r2;simp[r1]
 clear h h1 h2;obtain⟨Z,op,m,pos,after,guard⟩:=o;cases op with
 |move x=>have U:=(B _ _ j).1;simp[execOp,U]
 |assign x=>have U:=(B _ _ j).1;simp[execOp,U]
 |pick c a b=>
  simp only[FW,MF] at j;cases hc:ρ c with
  |bool t=>cases t<;>simp only[hc] at j<;>simp[execOp,asBool,hc,(B _ _ j).1]
  |_=>simp only[hc] at j
 |nilCheck x=>obtain⟨a,U,h5⟩:=j;have h6:=(B _ _ h5).1;rw[U] at h6;subst h6;simp[execOp,U]
 |extract t i=>exact fin _ (TA j)
 |unOp op t x=>
  cases op with
  |not=>obtain⟨a,U,h5⟩:=j;have h6:=(B _ _ h5).1;simp[execOp,Op.unary,U,<-h6]
  |_=>simp[CV] at hp
 |binOp op t x y yt=>
  simp only[CV] at hp;have:NO P op t y (ρ x) (ρ y) (fun v'=>X v' w') False:=by
   simp only[FW] at j;obtain⟨u,g1,g2⟩:=GV hp j;exact g2 _ _ g1
  exact fin _ (O1 (xo:=x) (fun v hv=>by rw[hv,a1]) this (fun hF=>hF.elim))
 |fieldAddr s x f=>
  simp only[FW] at j;split at j
  .rename_i fs hu;split at j
   .rename_i fd hf;split at j
    .rename_i i hi;cases Y:Nat.beq i.size 0 with
     |true=>simp only[Y,lN] at j
     |false=>simp only[Y,lL] at j;exact fin _ (Uw hu hf hi Y j)
    .exact j.elim
   .exact j.elim
  .exact j.elim
 |indexAddr t x i=>
  simp only[FW,CV] at hp j;cases hu:P.underlying t with
  |none=>simp[hu] at hp
  |some d=>
   simp only[hu] at hp j;cases d with
   |slice e=>
    simp only at j;cases hi:P.info? e with
    |none=>simp[hi] at j
    |some f=>simp only[hi] at j;exact fin _ (V4 hu hi j)
   |_=>simp at hp
 |build t J=>
  have e1:(execOp ρ ⟨Z,.build t J,m,pos,after,guard⟩)=(do pure (Next.value (<- Instr.build t (J.toList.map fun p=>(p.1,ρ p.2)).toArray)):Sem Next):=by
   simp only[execOp];rw[Ks]
  rw[e1];simp only[FW,CV] at hp j;cases hu:P.underlying t with
  |none=>simp[hu] at hp
  |some d=>
   cases Y:zeroOf P t with
   |none=>simp[hu,Y] at hp
   |some z=>
    simp only[hu,Y] at hp j;cases d with
    |struct fs=>
     simp only at j;cases hl:placesOf P fs.toList with
     |none=>simp[hl] at j
     |some l=>simp only[hl] at j;exact fin _ (NY hu Y hl j)
    |_=>simp at hp
 |call c=>
  obtain⟨Q,args,T⟩:=c;cases Q with
  |builtin b=>
   have hb:∀(s:Array Value->Sem Value),(∀cs xs,builtin b T m cs xs=(do pure (Next.value (<- s xs))))->runK P (s (args.toList.map ρ).toArray) X w'->
     (execOp ρ ⟨Z,.call ⟨.builtin b,args,T⟩,m,pos,after,guard⟩).run P w'=.ok (.value v) w':=by
    intro s hs hr;simp only[execOp,resolve,pure_bind,invoke,hs,GB];exact fin _ hr
   cases b<;>simp only[CV,FW] at hp j<;>try (cases hp;done)
   .split at hp
    .rename_i t x ht V;have O:(args.toList.map ρ).toArray=#[ρ x]:=by rw[V];rfl
     simp only[ht,V] at j;split at hp
     .rename_i e hu;simp only[hu] at j;exact hb _ (fun _ _=>rfl) (by rw[O];exact SJ ht hu j)
     .rename_i hu;simp only[hu] at j;exact hb _ (fun _ _=>rfl) (by rw[O];exact PJ ht hu j)
     .cases hp
    .cases hp
   .split at hp
    .rename_i k x y hk V;simp only[hk,V] at j;obtain⟨p,q,g1,g2,g3⟩:=j;refine hb _ (fun _ _=>rfl) ⟨_,w',?_,g3⟩;rw[V];simp only[kN,lp,g1,g2];exact run_max_int2 w' T m k k p q
    .cases hp
   .split at hp
    .rename_i k x y hk V;simp only[hk,V] at j;obtain⟨p,q,g1,g2,g3⟩:=j;refine hb _ (fun _ _=>rfl) ⟨_,w',?_,g3⟩;rw[V];simp only[kN,lp,g1,g2];exact run_min_int2 w' T m k k p q
    .cases hp
  |_=>simp[CV] at hp
 |_=>simp[CV] at hp
def As(i:Addr->Value->Prop)(x:Value)(k:Value->Prop):Prop:=∃a v,x=.pointer (some a)/\i a v/\k v
def Eg(i:Addr->Value->Prop)(m:Nat)(x:Value)(k:Value->Prop):Prop:=∃a vs,x=.pointer (some a)/\List.length vs=m/\(∀j v,vs[j]?=some v->i (a.add j) v)/\k (.agg vs.toArray)
def jM(P:Program)(s:Sem Value)(k:Value->Prop):Prop:=∃v,(∀w,s.run P w=.ok v w)/\k v
def Fl:List (Nat×Option Bool)->Nat->Option (Option Bool)
 |[],_=>none
 |(i,b)::r,j=>bif Nat.beq i j then some b else Fl r j
def Ce:List Oper->Nat->Option Nat
 |[],_=>none
 |o::_,0=>o.dst
 |_::r,j+1=>Ce r j
def SM(a b:Bool):Bool:=match a,b with|true,true=>true|false,false=>true|_,_=>false
def WZ(BG:List Nat)(A:Nat->Value->World->Prop)(j:Addr->Value->Prop)(w:World)(o:Oper)(i:Nat)(ρ:Operand->Value)(k:Value->Prop):Prop:=
 bif EA BG i then ∀v,A i v w->k v
 else match o.op with
  |.load t x=>match Hc P t with | some (false,_)=>As j (ρ x) k | some (true,m)=>Eg j m (ρ x) k | none=>False
  |.binOp op t x y _=>bif HF P op t y then NO P op t y (ρ x) (ρ y) k False else jM P (BS op t x y (ρ x) (ρ y)) k
  |_=>bif CV P o then FW P ok o ρ (fun v _=>k v) w else False
end
def GY(d:Option Nat)(kn:List (Nat×Option Bool))(all:List Oper):Bool:=
 match d with
 |none=>false
 |some t=>kn.any fun p=>match Ce all p.1 with | some u=>Nat.beq u t | none=>false
section
variable {P:Program}{ok:Nat->Bool}{n:Nat}
def bv(v:Value):Option Bool:=match v with|.bool b=>some b|_=>none
def yv(all:List Oper)(e:Env)(j:Nat):Option Bool:=match Ce all j with|some d=>bv (e d)|none=>none
def DA:∀(l:List Oper) (j:Nat),Ce l j=(l[j]?).bind (·.dst):=by
 intro l;induction l with
 |nil=>intro j;simp[Ce]
 |cons o r i=>intro j;cases j<;>simp[Ce,i]
def I9{ds:List Deferred}{e:Env}{a:Act}(o:Fr ds n e a){ops:Array Oper}:yielded ops a.tmps j=yv ops.toList e j:=by
 simp only[yielded,yv,DA,lq];cases h:(ops[j]?).bind (·.dst) with
 |none=>rfl
 |some d=>
  have i:=o.get d;rw[mi] at i;simp only[qd];cases m:a.tmps[d]? with
  |none=>rw[m] at i;simp only[Option.getD_none] at i;rw[<-i];rfl
  |some v=>rw[m] at i;simp only[oq] at i;rw[<-i];cases v<;>rfl
def GP(all:List Oper)(kn:List (Nat×Option Bool))(e:Env):Prop:=∀j b,Fl kn j=some b->yv all e j=b
def G1{e:Env}{d:Nat}(h:e d=v):GK n e d v=e:=by
 funext j
 simp only[GK];cases hb:(Nat.beq j d&&Nat.blt d n) with
 |false=>rfl
 |true=>
  simp only[cL] at hb;have:=lJ hb.1;subst this;simp[h]
def HV{e:Env}{d:Option Nat}(h:d≠some j):CG n e d v j=e j:=by
 cases d with
 |none=>rfl
 |some i=>
  have:Nat.beq j i=false:=by
   cases hb:Nat.beq j i with
   |false=>rfl
   |true=>exact absurd (by rw[lJ hb]) h
  simp[CG,GK,this]
def TF{kn:List (Nat×Option Bool)}{b:Option Bool}(h:Fl kn j=some b):(j,b)∈kn:=by
 induction kn with
 |nil=>simp[Fl] at h
 |cons p r m=>
  obtain⟨i,c⟩:=p;simp only[Fl] at h;cases hb:Nat.beq i j with
  |true=>rw[hb] at h;simp only[lN,i6] at h;have:=lJ hb;subst this;subst h;simp
  |false=>rw[hb] at h;simp only[lL] at h;exact gi _ (m h)
def GP.put{all:List Oper}{kn:List (Nat×Option Bool)}{e:Env}(h:GP all kn e){d:Option Nat}(hc:GY d kn all=false)(v:Value):GP all kn (CG n e d v):=by
 intro j b hl;have h1:=h j b hl;have m:=TF hl;unfold yv at h1 ⊢;cases i:Ce all j with
 |none=>rw[i] at h1;exact h1
 |some u=>
  rw[i] at h1;rw[<-h1];show bv (CG n e d v u)=bv (e u);rw[HV];intro o;subst o;simp only[GY,List.any_eq_false] at hc;have:=hc _ m;simp[i] at this
def GP.cons{all:List Oper}{kn:List (Nat×Option Bool)}{e:Env}(h:GP all kn e){i:Nat}{b:Option Bool}(hb:yv all e i=b):GP all ((i,b)::kn) e:=by
 intro j c hl;simp only[Fl] at hl;cases m:Nat.beq i j with
 |true=>rw[m] at hl;simp only[lN,i6] at hl;have:=lJ m;subst this;subst hl;exact hb
 |false=>rw[m] at hl;simp only[lL] at hl;exact h j c hl
def HR{A B:Prop}(h:AD v A B):(v=.bool true/\A)\/(v=.bool false/\B):=by
 unfold AD at h;split at h
 .exact .inl ⟨rfl,h⟩
 .exact .inr ⟨rfl,h⟩
 .exact h.elim
def MG{a b:Bool}:SM a b=(a==b):=by cases a<;>cases b<;>rfl
end
def Jh(o:Oper):List Nat:=o.op.operands.toList.filterMap fun x=>match x with|.tmp t=>some t|_=>none
def slotsOf(all:List Oper)(o:Oper):List Nat:=(match o.guard with|some (g,_)=>(match Ce all g with|some d=>[d]|none=>[])|none=>[])++Jh o
def MN(d:Option Nat)(t:Nat):Bool:=match d with|some x=>Nat.beq x t|none=>false
structure RX (n:Nat) (all:List Oper) (BG:List Nat) (AN:List (List Nat)) (Gs:List (List Nat)):Prop where
 WX:∀(i:Nat) o,all[i]?=some o->∀cs b,o.op≠.select cs b
 back:∀(i:Nat) o,all[i]?=some o->∀e∈o.after,Region.binds .any e=true->e.on<i
 ju:∀(i:Nat) o,all[i]?=some o->∀j∈Cc AN i,∃e∈o.after,Region.binds .any e=true/\(e.on=j\/j∈Cc AN e.on)
 trans:∀i,∀j∈Cc AN i,∀m∈Cc AN j,m∈Cc AN i
 reads:∀(i:Nat) o,all[i]?=some o->∀t∈slotsOf all o,∀(m:Nat) o',all[m]?=some o'->o'.dst=some t->m≠i->m∈Cc AN i\/i∈Cc AN m
 guard:∀(i:Nat) o,all[i]?=some o->∀g b,o.guard=some (g,b)->g∈Cc AN i/\∃d,Ce all g=some d
 one:∀(i j:Nat) o o',all[i]?=some o->all[j]?=some o'->∀d,o.dst=some d->o'.dst=some d->i=j
 fg:∀(i:Nat),i<all.length->i∉BG->(∀j∈Cc AN i,j∉BG)\/(∀j∈BG,j∈Cc AN i)\/∃E∈Gs,∀j∈BG,(j∈Cc AN i↔j∈E)
 first:∃k∈BG,k<all.length/\∀j∈Cc AN k,j∉BG
 cu:∀k∈BG,k<all.length
 bound:∀(i:Nat) o,all[i]?=some o->∀d,o.dst=some d->d<n
section
variable {P:Program}{ok:Nat->Bool}{n:Nat}{all:List Oper}{BG:List Nat}{AN:List (List Nat)}{Gs:List (List Nat)}
def RX.lt(h:RX n all BG AN Gs){i j:Nat}(hi:i<all.length)(o:j∈Cc AN i):j<i:=by
 induction i using Nat.strongRecOn generalizing j with
 |_ i q=>
  obtain⟨e,he,hb,h1⟩:=h.ju i all[i] (by simp[hi]) j o;have m:=h.back i all[i] (by simp[hi]) e he hb;rcases h1 with rfl|h1
  .exact m
  .exact Nat.lt_trans (q _ m (by omega) h1) m
noncomputable def DP(all:List Oper)(n:Nat)(e0:Env)(vals:Nat->Value)(S:Nat->Prop):Env:=fun t=>
 open Classical in if h:∃m,S m/\m<all.length/\Ce all m=some t then(if t<n then vals h.choose else e0 t) else e0 t
def OB(h:RX n all BG AN Gs){e0:Env}{vals:Nat->Value}{m t:Nat}(hm:S m)(hl:m<all.length)(j:Ce all m=some t)(ht:t<n):DP all n e0 vals S t=vals m:=by
 have i:∃m,S m/\m<all.length/\Ce all m=some t:=⟨m,hm,hl,j⟩;unfold DP;rw[rQ i,DN ht];have h1:=i.choose_spec;congr 1
 have o:all[i.choose]?=some all[i.choose]:=by simp[h1.2.1]
 have q:all[m]?=some all[m]:=by simp[hl]
 have B:=h1.2.2;rw[DA,o] at B;rw[DA,q] at j;exact h.one _ _ _ _ o q t B j
def Ij{e0:Env}{vals:Nat->Value}{t:Nat}(i:∀m,S m->m<all.length->Ce all m≠some t):DP all n e0 vals S t=e0 t:=by
 unfold DP;rw[dif_neg];rintro⟨m,h1,j,o⟩;exact i m h1 j o
def KA{e0:Env}{vals:Nat->Value}{t:Nat}(ht:¬t<n):DP all n e0 vals S t=e0 t:=by
 unfold DP;by_cases i:∃m,S m/\m<all.length/\Ce all m=some t
 .rw[rQ i,Bq ht]
 .rw[dif_neg i]
def Gy(h:RX n all BG AN Gs){e0:Env}{vals vals':Nat->Value}{S B:Nat->Prop}{t:Nat}(q:∀m,m<all.length->Ce all m=some t->(S m↔B m)/\(S m->vals m=vals' m)):DP all n e0 vals S t=DP all n e0 vals' B t:=by
 by_cases ht:t<n
 .by_cases o:∃m,S m/\m<all.length/\Ce all m=some t
  .obtain⟨m,h1,i,j⟩:=o;rw[OB h h1 i j ht,OB h ((q m i j).1.1 h1) i j ht];exact(q m i j).2 h1
  .rw[Ij fun m h1 i j=>o ⟨m,h1,i,j⟩,Ij fun m h1 i j=>o ⟨m,(q m i j).1.2 h1,i,j⟩]
 .rw[KA ht,KA ht]
def MO(h:RX n all BG AN Gs){e0:Env}{vals vals':Nat->Value}{i:Nat}{o:Oper}(hi:all[i]?=some o)(Q:∀m,F m↔S m\/m=i)(U:∀m,S m->m≠i->vals' m=vals m)(I:vals' i=v)(V:¬S i) :
  CG n (DP all n e0 vals S) o.dst v=DP all n e0 vals' F:=by
 have J:i<all.length:=(Ad.1 hi).1;have q:Ce all i=o.dst:=by rw[DA,hi];rfl
 funext t
 by_cases j:o.dst=some t
 .rw[j];by_cases ht:t<n
  .rw[OB h ((Q i).2 (.inr rfl)) J (q.trans j) ht,I];have:Nat.blt t n=true:=ob (by omega);simp[CG,GK,this]
  .rw[KA ht];have:Nat.blt t n=false:=by cases hb:Nat.blt t n with|false=>rfl|true=>exact absurd (mN hb) (by omega)
   simp only[CG,GK,this,Bool.and_false,lL];exact KA ht
 .rw[HV j];refine Gy h fun m hm T=>?_;have B:m≠i:=by rintro rfl;rw[q] at T;exact j T
  exact⟨by rw[Q];simp[B],fun X=>(U m X B).symm⟩
def HP{o:Oper}{e e':Env}(i:∀cs b,o.op≠.select cs b)(h:∀t∈Jh o,e t=e' t):execOp (ev e) o=execOp (ev e') o:=by
 refine execOp_congr o i fun x j=>?_;cases x with
 |tmp t=>exact h t (by simp only[Jh,qF];exact⟨.tmp t,by simpa using j,rfl⟩)
 |_=>rfl
variable (e0:Env)(w0:World)(A:Nat->Value->World->Prop)(M:Nat->Nat->Prop)
def jO(BG:List Nat)(M:Nat->Nat->Prop):Nat->Prop:=fun b=>∃j∈BG,M j b
def jY(BG:List Nat)(M:Nat->Nat->Prop)(w0:World)(a:Addr)(v:Value):Prop:=w0.cell? a=some v/\∀j∈BG,¬M j a.block
def Q9(BG:List Nat)(AN:List (List Nat))(i:Nat):List Nat:=BG.filter fun j=>!EA (Cc AN j) i
def Ta(BG:List Nat)(AN:List (List Nat))(M:Nat->Nat->Prop)(w0:World)(i:Nat):Addr->Value->Prop:=jY (Q9 BG AN i) M w0
noncomputable def view(all:List Oper)(AN:List (List Nat))(n:Nat)(e0:Env)(vals:Nat->Value)(i:Nat):Env:=DP all n e0 vals (·∈Cc AN i)
def Cn(all:List Oper)(e:Env)(o:Oper):Prop:=∀g b,o.guard=some (g,b)->yv all e g=some b
def Hf(P:Program)(BG:List Nat)(M:Nat->Nat->Prop)(w0:World)(o:Oper)(e:Env)(v:Value):Prop:=∀w',Mod (jO BG M) w0 w'->(execOp (ev e) o).run P w'=.ok (.value v) w'
def Gd(P:Program)(all:List Oper)(BG:List Nat)(AN:List (List Nat))(n:Nat)(e0:Env)(w0:World)(M:Nat->Nat->Prop)(vals:Nat->Value)(i:Nat)(o:Oper):Prop:=
 (Cn all (view all AN n e0 vals i) o->Hf P (Q9 BG AN i) M w0 o (view all AN n e0 vals i) (vals i))/\(¬Cn all (view all AN n e0 vals i) o->vals i=undef)
variable {e0 w0 A M}
def Tf{B:List Nat}{o:Oper}{i:Nat}{e:Env}{k:Value->Prop}(hi:EA BG i=false)(h:WZ P ok BG A (jY B M w0) w o i (ev e) k):∃v,k v/\Hf P B M w0 o e v:=by
 unfold WZ at h;rw[hi] at h;simp only[lL] at h;have I:∀(a:Addr) (v:Value),jY B M w0 a v->∀w',Mod (jO B M) w0 w'->w'.cell? a=some v:=fun a v V w' hm=>
  (lz (hm.same a.block (lF w0 a V.1) fun⟨j,hj,hb⟩=>V.2 j hj hb)).trans V.1
 have O:(bif CV P o then FW P ok o (ev e) (fun v _=>k v) w else False)->∃v,k v/\Hf P B M w0 o e v:=by
  intro h;cases hp:CV P o with
  |false=>rw[hp] at h;exact h.elim
  |true=>
   rw[hp] at h;simp only[lN] at h;obtain⟨v,h1,J⟩:=pure_run (ρ:=ev e) (fun _=>rfl) hp h;exact⟨v,h1,fun w' _=>J w'⟩
 obtain⟨a6,op,a1,pos,after,guard⟩:=o;cases op with
 |load t x=>
  simp only at h;split at h
  .rename_i m ha;obtain⟨a,v,h1,J,Q⟩:=h;refine⟨v,Q,fun w' hm=>?_⟩;obtain⟨v',q,r1,T⟩:=SQ (P:=P) (K:=fun v' q=>v'=v/\q=w') (w:=w') ha ⟨a,v,h1,I a v J w' hm,rfl,rfl⟩;obtain⟨rfl,rfl⟩:=T;simp only[execOp,kL,r1,S9,lU]
  .rename_i m ha;obtain⟨a,vs,h1,hl,J,Q⟩:=h;refine⟨_,Q,fun w' hm=>?_⟩;obtain⟨v',q,r1,T⟩:=R2 (P:=P) (K:=fun v' q=>v'=.agg vs.toArray/\q=w') (w:=w') ha ⟨a,vs,h1,hl,fun j v X=>I _ v (J j v X) w' hm,rfl,rfl⟩;obtain⟨rfl,rfl⟩:=T;simp only[execOp,kL,r1,S9,lU]
  .exact h.elim
 |binOp op t x y yt=>
  simp only at h;cases hp:HF P op t y with
  |true=>
   rw[hp] at h;simp only[lN] at h;obtain⟨v,h1,J⟩:=GV hp h;refine⟨v,h1,fun w' _=>?_⟩;obtain⟨U,Y,Z⟩:∃U:Cont,U v w'/\∀v' q,U v' q->v'=v/\q=w':=⟨fun v' q=>v'=v/\q=w',⟨rfl,rfl⟩,fun _ _ h=>h⟩;obtain⟨v',q,r1,T⟩:=O1 (P:=P) (w:=w') (K:=U) (xo:=x) (yo:=y) (F:=False) (fun v X=>by rw[X];rfl) (J _ _ Y) (fun hF=>hF.elim);obtain⟨rfl,rfl⟩:=Z _ _ T;simp only[execOp];rw[kL,r1];rfl
  |false=>
   rw[hp] at h;simp only[lL] at h;obtain⟨v,h1,J⟩:=h;refine⟨v,J,fun w' _=>?_⟩;have Q:=h1 w';simp only[BS] at Q;simp only[execOp];rw[kL,Q];rfl
 |_=>exact O h
def Hf.kE{o:Oper}{e:Env}(h:Hf P BG M w0 o e v)(j:Hf P BG M w0 o e fr):v=fr:=by
 have h1:=h w0 (Mod.refl _ _);have i:=j w0 (Mod.refl _ _);rw[h1] at i;cases i;rfl
def Hf.congr{o:Oper}{e e':Env}(i:∀cs b,o.op≠.select cs b)(h:∀t∈Jh o,e t=e' t)(hr:Hf P BG M w0 o e v):Hf P BG M w0 o e' v:=by
 intro w' hm;rw[<-HP i h];exact hr w' hm
def MK(q:RX n all BG AN Gs){vals:Nat->Value}{i:Nat}{o:Oper}(hi:all[i]?=some o)(h1:∀j∈Cc AN i,S j)(T:∀m,m<all.length->i∈Cc AN m->¬S m)(U:¬S i) :
  ∀t∈slotsOf all o,DP all n e0 vals S t=view all AN n e0 vals i t:=by
 have B:i<all.length:=(Ad.1 hi).1;intro t ht;refine Gy q fun m hm Q=>⟨?_,fun _=>rfl⟩;by_cases I:m=i
 .subst I;exact⟨fun h=>(U h).elim,fun h=>absurd (q.lt B h) (by omega)⟩
 .have J:all[m]?=some all[m]:=by simp[hm]
  rw[DA,J] at Q;rcases q.reads i o hi t ht m _ J Q I with h|h
  .exact⟨fun _=>h,fun _=>h1 m h⟩
  .refine⟨fun V=>(T m hm h V).elim,fun O=>?_⟩;have:=q.lt B O;have:=q.lt hm h;omega
def Ig{o:Oper}{t:Nat}(h:t∈Jh o):t∈slotsOf all o:=kI _ h
def HS(q:RX n all BG AN Gs){i:Nat}{o:Oper}(hi:all[i]?=some o){e e':Env}(h:∀t∈slotsOf all o,e t=e' t):Cn all e o↔Cn all e' o:=by
 unfold Cn;refine rO fun g=>rO fun b=>imp_congr_right fun j=>?_;obtain⟨d,m⟩:=(q.guard i o hi g b j).2;have:d∈slotsOf all o:=by unfold slotsOf;rw[j];simp[m]
 unfold yv;rw[m];simp only[h d this]
def HI(o:RX n all BG AN Gs){vals vals':Nat->Value}{i:Nat}(h:∀j∈Cc AN i,vals j=vals' j):view all AN n e0 vals i=view all AN n e0 vals' i:=by
 funext t
 exact Gy o fun m _ _=>⟨oe,fun hm=>h m hm⟩
section
variable {ds:List Deferred}{e0:Env}{w0:World}{A:Nat->Value->World->Prop}{M:Nat->Nat->Prop}
def Vh{BG:List Nat}{AN:List (List Nat)}{i j:Nat}(m:j∈BG)(h:¬i∈Cc AN j):j∈Q9 BG AN i:=by
 simp only[Q9,lx,nm,m,pM];cases hb:EA (Cc AN j) i with
 |false=>rfl
 |true=>exact(h (CF.1 hb)).elim
end
section
variable {ds:List Deferred}{e0:Env}{w0:World}{A:Nat->Value->World->Prop}{M:Nat->Nat->Prop}
def Gd.Pp(q:RX n all BG AN Gs){vals vals':Nat->Value}{i:Nat}{o:Oper}(_:i<all.length)(B:∀j∈Cc AN i,vals j=vals' j)(m:vals i=vals' i)(h:Gd P all BG AN n e0 w0 M vals i o):Gd P all BG AN n e0 w0 M vals' i o:=by
 unfold Gd at h ⊢;rw[<-HI q B,<-m];exact h
end
section
variable {ds:List Deferred}{e0:Env}{w0:World}{A:Nat->Value->World->Prop}{M:Nat->Nat->Prop}
def LF:∀(l:List Bool) (i:Nat),l[i]?=some false->(l.set i true).count false+1=l.count false:=by
 intro l;induction l with
 |nil=>intro i h;simp at h
 |cons b l j=>
  intro i h;cases i with
  |zero=>simp at h;subst h;simp
  |succ i=>
   have:=j i (by simpa using h);simp only[qG,List.count_cons];omega
def II(ds:List Deferred)(all:List Oper)(n:Nat)(e0:Env)(K:Env->World->Prop):Exit->Act->World->Prop:=fun ex a w=>ex=.normal/\∃e',Fr ds n e' a/\(∀j,(∀o∈all,o.dst≠some j)->e' j=e0 j)/\K e' w
end
end
def cz(o:Oper):Bool:=match o.op with|.select _ _=>true|_=>false
def gM(n:Nat)(all:List Oper)(BG:List Nat)(AN:List (List Nat))(Gs:List (List Nat))(i:Nat)(o:Oper):Bool:=
 !cz o&&o.after.toList.all (fun e=>!(Region.binds .any e)||Nat.blt e.on i)
 && (Cc AN i).all (fun j=>o.after.toList.any fun e=>Region.binds .any e&&(Nat.beq e.on j||EA (Cc AN e.on) j))
 && (slotsOf all o).all (fun t=>(List.range all.length).all fun m=>!(MN (Ce all m) t)||Nat.beq m i||EA (Cc AN i) m||EA (Cc AN m) i)
 && (match o.guard with|none=>true|some (g,_)=>EA (Cc AN i) g&&(Ce all g).isSome)
 && (match o.dst with|none=>true|some d=>Nat.blt d n&&(List.range all.length).all fun j=>Nat.beq j i||!(MN (Ce all j) d))
 && (EA BG i||(Cc AN i).all (fun j=>!EA BG j)||BG.all (fun j=>EA (Cc AN i) j)||Gs.any (fun E=>BG.all fun j=>EA (Cc AN i) j==EA E j))
def WN(n:Nat)(all:List Oper)(BG:List Nat)(AN:List (List Nat))(Gs:List (List Nat)):Bool:=
 Nat.ble AN.length all.length
 && (List.range all.length).all (fun i=>match all[i]? with|some o=>gM n all BG AN Gs i o|none=>true)
 && (List.range AN.length).all (fun i=>(Cc AN i).all fun j=>(Cc AN j).all fun m=>EA (Cc AN i) m)
 && BG.any (fun k=>Nat.blt k all.length&&(Cc AN k).all fun j=>!EA BG j)
 && BG.all (fun k=>Nat.blt k all.length)
def LX{a b:Nat}:Nat.blt a b=true↔a<b:=⟨fun h=>mN h,fun h=>ob (show a+1<=b from h)⟩
def beq_iff{a b:Nat}:Nat.beq a b=true↔a=b:=⟨lJ,fun h=>by subst h;simp⟩
def We{AN:List (List Nat)}:∀{i:Nat},AN.length<=i->Cc AN i=[]:=by
 induction AN with
 |nil=>intro i _;rfl
 |cons a r j=>intro i h;cases i with
  |zero=>simp at h
  |succ i=>exact j (by simpa using h)
def Nf{d:Option Nat}{t:Nat}:MN d t=true↔d=some t:=by
 cases d with
 |none=>simp[MN]
 |some x=>simp[MN]
def bG{n:Nat}{all:List Oper}{BG:List Nat}{AN:List (List Nat)}{Gs:List (List Nat)}(h:WN n all BG AN Gs=true):RX n all BG AN Gs:=by
 simp only[WN,cL,lg,mZ] at h;obtain⟨⟨⟨⟨h0,h1⟩,X⟩,V⟩,Y⟩:=h;have Z:AN.length<=all.length:=mN h0;have one:∀(i:Nat) o,all[i]?=some o->gM n all BG AN Gs i o=true:=fun i o hi=>by
  have:=h1 i (Ad.1 hi).1;rw[hi] at this;exact this
 have q:=fun(i:Nat) (o:Oper) (hi:all[i]?=some o)=>by
  have:=one i o hi;unfold gM at this;simp only[cL] at this;exact this
 have J:∀(m:Nat) o',all[m]?=some o'->Ce all m=o'.dst:=fun m o' hm=>by rw[DA,hm];rfl
 refine⟨?_,?_,?_,?_,?_,?_,?_,?_,?_,?_,?_⟩
 .intro i o hi cs b heq;have:=(q i o hi).1.1.1.1.1.1;rw[cz,heq] at this;cases this
 .intro i o hi e he hb;have:=(q i o hi).1.1.1.1.1.2;simp only[lg] at this;have:=this e (by simpa using he);rw[hb] at this;simpa[LX] using this
 .intro i o hi j B;have:=(q i o hi).1.1.1.1.2;simp only[lg] at this;have:=this j B;simp only[oo,cL,nV] at this;obtain⟨e,he,hb,hc⟩:=this;refine⟨e,by simpa using he,hb,?_⟩;rcases hc with hc|hc
  .exact .inl (beq_iff.1 hc)
  .exact .inr (CF.1 hc)
 .intro i j B m hm;by_cases hi:i<AN.length
  .have:=X i hi j B;exact CF.1 (this m hm)
  .rw[We (by omega)] at B;cases B
 .intro i o hi t ht m o' hm O Q;have:=(q i o hi).1.1.1.2;simp only[lg,mZ] at this;have:=this t ht m (Ad.1 hm).1;have he:MN (Ce all m) t=true:=Nf.2 ((J m o' hm).trans O);simp only[he,Bool.not_true,Bool.false_or,nV,CF] at this;rcases this with(h|h)|h
  .exact(Q (beq_iff.1 h)).elim
  .exact .inl h
  .exact .inr h
 .intro i o hi g b hg;have:=(q i o hi).1.1.2;rw[hg] at this;simp only[cL,CF,kH] at this;exact this
 .intro i j o o' hi B d O T;have:=(q i o hi).1.2;rw[O] at this;simp only[cL,lg,mZ] at this;have:=this.2 j (Ad.1 B).1;have he:MN (Ce all j) d=true:=Nf.2 ((J j o' B).trans T);simp only[he,Bool.not_true,Bool.or_false] at this;exact(beq_iff.1 this).symm
 .intro i hi U;have:=(q i all[i] (by simp[hi])).2;have hm:EA BG i=false:=by cases hm:EA BG i with|false=>rfl|true=>exact(U (CF.1 hm)).elim
  simp only[hm,Bool.false_or,nV,lg,oo] at this;rcases this with(h|h)|⟨E,hE,h⟩
  .exact .inl fun j B I=>by have:=h j B;rw[CF.2 I] at this;cases this
  .exact .inr (.inl fun j B=>CF.1 (h j B))
  .refine .inr (.inr ⟨E,hE,fun j B=>?_⟩);have:=h j B;simp only[pC] at this;rw[<-CF,<-CF,this]
 .simp only[oo,cL,lg] at V;obtain⟨k,hk,hl,hn⟩:=V;exact⟨k,hk,LX.1 hl,fun j B I=>by have:=hn j B;rw[CF.2 I] at this;cases this⟩
 .exact fun k hk=>LX.1 (Y k hk)
 .intro i o hi d O;have:=(q i o hi).1.2;rw[O] at this;simp only[cL] at this;exact LX.1 this.1
section
variable (P:Program)(ok:Nat->Bool)(n:Nat)
def Ky(BG:List Nat)(M:Nat->Nat->Prop)(j:Nat->Addr->Value->Prop)(_:World)(o:Oper)(i:Nat)(ρ:Operand->Value)(k:Cont)(w:World):Prop:=
 bif EA BG i then FW P ok o ρ (fun v w'=>Mod (M i) w w'/\k v w') w
 else WZ P ok BG (fun _ _ _=>True) (j i) w o i ρ fun v=>k v w
def Au(BG:List Nat)(AN:List (List Nat))(w0:World)(F:(Nat->Nat->Prop)->(Nat->Addr->Value->Prop)->Prop):Prop:=∃M,F M (Ta BG AN M w0)
end
section
variable {P:Program}{ds:List Deferred}{ok:Nat->Bool}{n:Nat}{all:List Oper}{BG:List Nat}{AN Gs:List (List Nat)}{e0:Env}{w0:World}{M:Nat->Nat->Prop}{K:Env->World->Prop}
def PR{r:Result Next}{K:Cont}(h:Ep w r K P):∃v w',K v w':=by
 match r,h with
 |.ok (.value v) w',h=>exact⟨_,_,h⟩
 |.ok .skip w',h=>exact⟨_,_,h⟩
 |.ok (.enter f args) w',h=>
  obtain⟨_,hc⟩:=h;obtain⟨e,i,fr,⟨v,_,j⟩,_⟩:=hc [];exact⟨v,i,j⟩
def Xu(m:RX n all BG AN Gs){i:Nat}{o:Oper}(j:all[i]?=some o){e:Env}:yv all (CG n e o.dst undef) i=none:=by
 unfold yv;rw[DA,j];simp only[qd];cases q:o.dst with
 |none=>rfl
 |some d=>
  have:=m.bound i o j d q;have hb:Nat.blt d n=true:=ob (show d+1<=n from this);simp[CG,GK,hb];rfl
end
inductive Ord where
 |nil
 |op (i:Nat) (t:Ord)
 |br (a b:Ord)
section
variable (P:Program)(ok:Nat->Bool)(n:Nat)
def CZ(all:List Oper)(BG:List Nat)(M:Nat->Nat->Prop)(m:Nat->Addr->Value->Prop)(w0:World)(K:Env->World->Prop):Ord->List (Nat×Option Bool)->Env->World->Prop
 |.nil,_,e,w=>K e w
 |.br a b,kn,e,w=>CZ all BG M m w0 K a kn e w/\CZ all BG M m w0 K b kn e w
 |.op i r,kn,e,w=>
  match all[i]? with
  |none=>False
  |some o=>match o.guard with
   |none=>Ky P ok BG M m w0 o i (ev e) (fun v w'=>CZ all BG M m w0 K r kn (CG n e o.dst v) w') w
   |some (j,q)=>match Fl kn j with
    |some (some b)=>bif SM b q then Ky P ok BG M m w0 o i (ev e) (fun v w'=>CZ all BG M m w0 K r kn (CG n e o.dst v) w') w
      else CZ all BG M m w0 K r ((i,none)::kn) (CG n e o.dst undef) w
    |some none=>CZ all BG M m w0 K r ((i,none)::kn) (CG n e o.dst undef) w
    |none=>match Ce all j with
     |some d=>AD (e d)
       (bif q then Ky P ok BG M m w0 o i (ev (GK n e d (.bool true))) (fun v w'=>CZ all BG M m w0 K r ((j,some true) :: kn) (CG n (GK n e d (.bool true)) o.dst v) w') w
        else CZ all BG M m w0 K r ((i,none) :: (j,some true) :: kn) (CG n (GK n e d (.bool true)) o.dst undef) w)
       (bif q then CZ all BG M m w0 K r ((i,none) :: (j,some false) :: kn) (CG n (GK n e d (.bool false)) o.dst undef) w
        else Ky P ok BG M m w0 o i (ev (GK n e d (.bool false))) (fun v w'=>CZ all BG M m w0 K r ((j,some false) :: kn) (CG n (GK n e d (.bool false)) o.dst v) w') w)
     |none=>False
end
def cy(BG:List Nat):Ord->Nat->Bool
 |.nil,_=>false
 |.br a b,i=>cy BG a i||cy BG b i
 |.op j t,i=>Nat.beq j i||(!EA BG j&&cy BG t i)
def jB(BG:List Nat)(AN:List (List Nat))(t:Ord)(pre:List Nat):Bool:=BG.all fun i=>EA pre i||!((Cc AN i).all fun j=>!EA BG j||EA pre j)||cy BG t i
def Pw(N:Nat)(BG:List Nat)(AN:List (List Nat)):Ord->List Nat->Bool
 |.nil,pre=>(List.range N).all (EA pre)
 |.br a b,pre=>Pw N BG AN a pre&&Pw N BG AN b pre
 |.op i t,pre=>Nat.blt i N&&!EA pre i&&(Cc AN i).all (EA pre)&&(bif EA BG i then jB BG AN t (i::pre) else true)&&Pw N BG AN t (i::pre)
def Sf(N:Nat)(BG:List Nat)(AN:List (List Nat))(t:Ord):Bool:=jB BG AN t []&&Pw N BG AN t []
inductive Reach:Ord->List Nat->Ord->Prop where
 |refl (t:Ord):Reach t [] t
 |op {i:Nat} {t t':Ord} {A:List Nat}:Reach t A t'->Reach (.op i t) (i::A) t'
 |l {a b t':Ord} {A:List Nat}:Reach a A t'->Reach (.br a b) A t'
 |r {a b t':Ord} {A:List Nat}:Reach b A t'->Reach (.br a b) A t'
def Fw{l:List Nat}{i:Nat}:EA l i=false↔i∉l:=by
 rw[<-CF];cases EA l i<;>simp
def Qv{BG:List Nat}{AN:List (List Nat)}{i:Nat}{t:Ord}{pre:List Nat}(h:Pw N BG AN (.op i t) pre=true) :
  i<N/\i∉pre/\(∀j∈Cc AN i,j∈pre)/\(i∈BG->jB BG AN t (i::pre)=true)/\Pw N BG AN t (i::pre)=true:=by
 simp only[Pw,cL,lg,nm,Fw,CF] at h;obtain⟨⟨⟨⟨h1,o⟩,q⟩,m⟩,B⟩:=h;refine⟨mN h1,o,q,fun hi=>?_,B⟩;rw[CF.2 hi] at m;exact m
def Ik{BG:List Nat}{AN:List (List Nat)}{t t':Ord}{A:List Nat}(h:Reach t A t'):∀{pre:List Nat},Pw N BG AN t pre=true->Pw N BG AN t' (A.reverse++pre)=true/\∀j∈A,j∉pre:=by
 induction h with
 |refl t=>intro pre h;exact⟨h,fun j i=>(nomatch i)⟩
 |op _ m=>
  intro pre h;obtain⟨_,o,_,_,q⟩:=Qv h;obtain⟨B,I⟩:=m q;refine⟨by simpa using B,fun j i=>?_⟩;rcases K8.1 i with rfl|i
  .exact o
  .exact fun hp=>I j i (gi _ hp)
 |l _ m=>intro pre h;simp only[Pw,cL] at h;exact m h.1
 |r _ m=>intro pre h;simp only[Pw,cL] at h;exact m h.2
def UC{BG:List Nat}{i:Nat}:∀{t:Ord},cy BG t i=true->∃A t',Reach t A (.op i t')/\∀j∈A,j∉BG:=by
 intro t;induction t with
 |nil=>intro h;cases h
 |op j t I=>
  intro h;simp only[cy,nV,cL,nm,Fw] at h;rcases h with h|⟨h1,J⟩
  .have:=lJ h;subst this;exact⟨[],t,.refl _,fun j O=>(nomatch O)⟩
  .obtain⟨A,t',m,o⟩:=I J;refine⟨j::A,t',.op m,fun k hk=>?_⟩;rcases K8.1 hk with rfl|hk
   .exact h1
   .exact o k hk
 |br a b q B=>
  intro h;simp only[cy,nV] at h;rcases h with h|h
  .obtain⟨A,t',m,o⟩:=q h;exact⟨A,t',.l m,o⟩
  .obtain⟨A,t',m,o⟩:=B h;exact⟨A,t',.r m,o⟩
def N8:∀t:Ord,∃A,Reach t A .nil:=by
 intro t;induction t with
 |nil=>exact⟨[],.refl _⟩
 |op j t m=>obtain⟨A,h⟩:=m;exact⟨_,.op h⟩
 |br a b i _=>obtain⟨A,h⟩:=i;exact⟨A,.l h⟩
def Pj{t t':Ord}{A:List Nat}(h:Reach t A t'):∀{i:Nat},i∈A->∃B m,Reach t B (.op i m)/\(∀j∈B,j∈A):=by
 induction h with
 |refl t=>intro i hi;cases hi
 |@op j t t' A h o=>
  intro i hi;rcases K8.1 hi with rfl|hi
  .exact⟨[],t,.refl _,fun j I=>(nomatch I)⟩
  .obtain⟨B,m,h1,q⟩:=o hi;refine⟨j::B,m,.op h1,fun k hk=>?_⟩;rcases K8.1 hk with rfl|hk
   .exact lC
   .exact gi _ (q k hk)
 |l _ o=>intro i hi;obtain⟨B,m,h1,q⟩:=o hi;exact⟨B,m,.l h1,q⟩
 |r _ o=>intro i hi;obtain⟨B,m,h1,q⟩:=o hi;exact⟨B,m,.r h1,q⟩
section
variable {P:Program}{ds:List Deferred}{ok:Nat->Bool}{n:Nat}{all:List Oper}{BG:List Nat}{AN Gs:List (List Nat)}{e0:Env}{w0:World}{M:Nat->Nat->Prop}{K:Env->World->Prop}
structure Ma (all:List Oper) (AN:List (List Nat)) (pre:List Nat):Prop where
 lt:∀m∈pre,m<all.length
 cl:∀m∈pre,∀j∈Cc AN m,j∈pre
def Ma.cons{pre:List Nat}{i:Nat}(h:Ma all AN pre)(hi:i<all.length)(ha:∀j∈Cc AN i,j∈pre):Ma all AN (i::pre):=
 ⟨fun m hm=>by rcases K8.1 hm with rfl | hm;exact hi;exact h.lt m hm,fun m hm j o=>by
  rcases K8.1 hm with rfl|hm
  .exact gi _ (ha j o)
  .exact gi _ (h.cl m hm j o)⟩
def NR(I:RX n all BG AN Gs){kn:List (Nat×Option Bool)}{i:Nat}{o:Oper}(hi:all[i]?=some o)(hk:∀p∈kn,p.1≠i/\p.1<all.length):GY o.dst kn all=false:=by
 unfold GY;cases J:o.dst with
 |none=>rfl
 |some t=>
  simp only[List.any_eq_false];intro p hp;obtain⟨q,j⟩:=hk p hp;have m:all[p.1]?=some (all[p.1]'j):=by simp[j]
  rw[DA,m];simp only[qd];cases B:(all[p.1]'j).dst with
  |none=>simp
  |some u=>
   simp only;intro hb;have:=lJ hb;subst this;exact q (I.one _ _ _ _ m hi u B J)
def NV(hG : RX n all BG AN Gs){o : Oper}{J : Ord}{i : Nat}{pre : List Nat}{kn : List (Nat×Option Bool)}{e : Env}(X : all[i]? = some o)(ha : ∀j∈Cc AN i, j∈pre)(O : ∀p∈kn, p.1∈pre)(hk : GP all kn e)
   (h : CZ P ok n all BG M (Ta BG AN M w0) w0 K (.op i J) kn e w) :
    ∃U, (∀p∈U, p.1∈pre) /\ GP all U e /\
      ((Cn all e o /\ Ky P ok BG M (Ta BG AN M w0) w0 o i (ev e) (fun v w' => CZ P ok n all BG M (Ta BG AN M w0) w0 K J U (CG n e o.dst v) w') w) \/
       (¬ Cn all e o /\ CZ P ok n all BG M (Ta BG AN M w0) w0 K J ((i, none) :: U) (CG n e o.dst undef) w)) := by
  unfold CZ at h;rw[X] at h;simp only at h;cases B : o.guard with
  |none =>
    simp only[B] at h;exact⟨kn, O, hk, .inl ⟨(fun g b Q => by rw[B] at Q; cases Q), h⟩⟩
  |some gb =>
    obtain⟨g, m⟩ := gb;simp only[B] at h;have a1 : g∈pre := ha g (hG.guard i o X g m B).1;have wt : yv all e g = some m -> Cn all e o := fun q g' b' Q => by rw[B] at Q; cases Q; exact q
    have wf : yv all e g ≠ some m -> ¬Cn all e o := fun q hw => q (hw g m B);cases Y : Fl kn g with
    |some b =>
      have q := hk g b Y;simp only[Y] at h;cases b with
      |none => exact⟨kn, O, hk, .inr ⟨wf (by rw[q]; simp), h⟩⟩
      |some b =>
        simp only[MG] at h;cases V : (b==m) with
        |true =>
          simp only[V, lN] at h;have : b = m := by simpa using V
          exact⟨kn, O, hk, .inl ⟨wt (by rw[q, this]), h⟩⟩
        |false =>
          simp only[V, lL] at h;have : b ≠ m := by simpa using V
          exact⟨kn, O, hk, .inr ⟨wf (by rw[q]; simp[this]), h⟩⟩
    |none =>
      simp only[Y] at h;obtain⟨d, hd⟩ := (hG.guard i o X g m B).2;simp only[hd] at h;have Z : yv all e g = bv (e d) := by simp[yv, hd]
      have I : ∀b, ∀p∈(g, b)::kn, p.1∈pre := fun b p hp => by
        rcases K8.1 hp with rfl|hp
        . exact a1
        . exact O p hp
      rcases HR h with⟨T, hb⟩|⟨T, hb⟩
      . have q : yv all e g = some true := by rw[Z, T]; rfl
        rw[G1 T] at hb;cases m with
        |true => simp only[lN] at hb; exact⟨_, I _, hk.cons q, .inl ⟨wt q, hb⟩⟩
        |false => simp only[lL] at hb; exact⟨_, I _, hk.cons q, .inr ⟨wf (by rw[q]; simp), hb⟩⟩
      . have q : yv all e g = some false := by rw[Z, T]; rfl
        rw[G1 T] at hb;cases m with
        |true => simp only[lN] at hb; exact⟨_, I _, hk.cons q, .inr ⟨wf (by rw[q]; simp), hb⟩⟩
        |false => simp only[lL] at hb; exact⟨_, I _, hk.cons q, .inl ⟨wt q, hb⟩⟩
def Kk(ba:DR P ok)(hG:RX n all BG AN Gs){L:Nat->Prop}(hL:∀i,i<all.length->L i->∀j∈Cc AN i,L j){t t':Ord}{A:List Nat}(hr:Reach t A t') :
  ∀(pre:List Nat) (kn:List (Nat×Option Bool)) (vals:Nat->Value) (w:World),Pw all.length BG AN t pre=true->Ma all AN pre->(∀q∈kn,q.1∈pre)->GP all kn (DP all n e0 vals (fun m=>m∈pre))->
   (∀(m:Nat) o,all[m]?=some o->(m∈pre\/L m)->m∉BG->Gd P all BG AN n e0 w0 M vals m o)->(∀j∈BG,j∈A->¬L j)->
   CZ P ok n all BG M (Ta BG AN M w0) w0 K t kn (DP all n e0 vals (fun m=>m∈pre)) w->
   ∃vals' B w',(∀m,(m∈pre\/L m)->vals' m=vals m)/\(∀q∈B,q.1∈A.reverse++pre)/\GP all B (DP all n e0 vals' (fun m=>m∈A.reverse++pre))/\
    (∀(m:Nat) o,all[m]?=some o->(m∈A.reverse++pre\/L m)->m∉BG->Gd P all BG AN n e0 w0 M vals' m o)/\((∀j∈BG,j∉A)->w'=w)/\Ma all AN (A.reverse++pre)/\
    CZ P ok n all BG M (Ta BG AN M w0) w0 K t' B (DP all n e0 vals' (fun m=>m∈A.reverse++pre)) w':=by
 induction hr with
 |refl t=>intro pre kn vals w ho hp h1 h2 h3 _ h;exact⟨vals,kn,w,fun _ _=>rfl,h1,h2,h3,fun _=>rfl,hp,h⟩
 |l _ ih=>intro pre kn vals w ho hp h1 h2 h3 h4 h;simp only[Pw,cL] at ho;exact ih pre kn vals w ho.1 hp h1 h2 h3 h4 h.1
 |r _ ih=>intro pre kn vals w ho hp h1 h2 h3 h4 h;simp only[Pw,cL] at ho;exact ih pre kn vals w ho.2 hp h1 h2 h3 h4 h.2
 |@op p t t' A _ ih=>
  intro pre kn vals w ho hp bb hk hg al h;obtain⟨an,T,a1,_,bc⟩:=Qv ho;have I:all[p]?=some all[p]:=by simp[an]
  generalize all[p]=o at I;obtain⟨U,Z,a6,h⟩:=NV hG I a1 bb hk h;have av:∀t∈slotsOf all o,DP all n e0 vals (fun m=>m∈pre) t=view all AN n e0 vals p t:=
   MK hG I a1 (fun m hm a8 bd=>T (hp.cl m bd p a8)) T
  have J:=NR hG I (kn:=U) fun q hq=>⟨fun e=>T (e▸Z q hq),hp.lt _ (Z q hq)⟩;have bk:=hp.cons an a1;have eA:(p::A).reverse++pre=A.reverse++(p::pre):=by simp
  rw[eA];have next:∀(v:Value) (B:List (Nat×Option Bool)) (w1:World),(L p->v=vals p)->(∀q∈B,q.1∈p::pre)->GP all B (CG n (DP all n e0 vals (fun m=>m∈pre)) o.dst v)->
    (p∉BG->(Cn all (view all AN n e0 vals p) o->Hf P (Q9 BG AN p) M w0 o (view all AN n e0 vals p) v)/\(¬Cn all (view all AN n e0 vals p) o->v=undef))->
    (p∉BG->w1=w)->CZ P ok n all BG M (Ta BG AN M w0) w0 K t B (CG n (DP all n e0 vals (fun m=>m∈pre)) o.dst v) w1->
    ∃vals' B w',(∀m,(m∈pre\/L m)->vals' m=vals m)/\(∀q∈B,q.1∈A.reverse++(p::pre))/\GP all B (DP all n e0 vals' (fun m=>m∈A.reverse++(p::pre)))/\
     (∀(m:Nat) o,all[m]?=some o->(m∈A.reverse++(p::pre)\/L m)->m∉BG->Gd P all BG AN n e0 w0 M vals' m o)/\((∀j∈BG,j∉p::A)->w'=w)/\Ma all AN (A.reverse++(p::pre))/\
     CZ P ok n all BG M (Ta BG AN M w0) w0 K t' B (DP all n e0 vals' (fun m=>m∈A.reverse++(p::pre))) w':=by
   intro v B w1 ax ay b0 bl bn hc;have b1:CG n (DP all n e0 vals (fun m=>m∈pre)) o.dst v=DP all n e0 (fun q=>if q=p then v else vals q) (fun m=>m∈p::pre):=
    MO hG I (fun m=>by simp[or_comm]) (fun m _ a8=>by simp[a8]) (by simp) T
   rw[b1] at b0 hc;have bp:∀m,m<all.length->(m∈p::pre\/L m)->view all AN n e0 (fun q=>if q=p then v else vals q) m=view all AN n e0 vals m:=fun m hm O=>
    HI hG fun j hj=>by
     by_cases b2:j=p
     .subst b2;rcases O with O|O
      .rcases K8.1 O with rfl|O
       .exact(T (a1 _ hj)).elim
       .exact(T (hp.cl m O j hj)).elim
      .simp[ax (hL m hm O j hj)]
     .simp[b2]
   obtain ⟨vals',bs,w',r1,r2,r3,r4,r5,r7,r6⟩:=ih (p :: pre) B (fun q=>if q=p then v else vals q) w1 bc bk ay b0 (fun m o' hm O a7=>by
     have bx:m<all.length:=(Ad.1 hm).1;unfold Gd;rw[bp m bx O];by_cases X:m=p
     .subst X;rw[I] at hm;cases hm;simp only[lT];exact bl a7
     .have:=hg m o' hm (O.imp (fun h=>(K8.1 h).resolve_left X) id) a7;unfold Gd at this;simpa [X] using this) (fun j hj h1=>al j hj (gi _ h1)) hc
   refine⟨vals',bs,w',fun m hm=>?_,r2,r3,r4,fun b6=>?_,r7,r6⟩
   .rw[r1 m (hm.imp (fun h=>gi _ h) id)];by_cases X:m=p
    .subst X;rcases hm with hm|hm
     .exact(T hm).elim
     .simp[ax hm]
    .simp[X]
   .rw[r5 fun j hj h1=>b6 j hj (gi _ h1)];exact bn fun Q=>b6 p Q lC
  have V:=HS hG I av;have kc:∀q∈U,q.1∈p::pre:=fun q hq=>gi _ (Z q hq);have b7:∀q∈(p,none)::U,q.1∈p::pre:=fun q hq=>by
   rcases K8.1 hq with rfl|hq
   .exact lC
   .exact kc q hq
  by_cases Q:p∈BG
  .have b8:¬L p:=al p Q lC;rcases h with⟨hw,Y⟩|⟨hw,Y⟩
   .unfold Ky at Y;rw[CF.2 Q] at Y;simp only[lN] at Y;obtain⟨v,w1,c6,c4⟩:=PR (OL ba (fun _=>rfl) (fun _=>rfl) Y);exact next v U w1 (fun h=>(b8 h).elim) kc (a6.put J _) (fun h=>(h Q).elim) (fun h=>(h Q).elim) c4
   .exact next undef ((p,none)::U) w (fun h=>(b8 h).elim) b7 ((a6.put J _).cons (Xu hG I)) (fun h=>(h Q).elim) (fun _=>rfl) Y
  .have hm:EA BG p=false:=Fw.2 Q;rcases h with⟨hw,Y⟩|⟨hw,Y⟩
   .unfold Ky at Y;rw[hm] at Y;simp only[lL] at Y;obtain⟨v,h1,h2⟩:=Tf hm Y;have b9:Hf P (Q9 BG AN p) M w0 o (view all AN n e0 vals p) v:=h2.congr (hG.WX p o I) fun t ht=>av t (Ig ht);refine next v U w (fun ak=>?_) kc (a6.put J _) (fun _=>⟨fun _=>b9,fun hn=>(hn (V.1 hw)).elim⟩) (fun _=>rfl) h1;exact b9.kE ((hg p o I (.inr ak) Q).1 (V.1 hw))
   .refine next undef ((p,none)::U) w (fun ak=>((hg p o I (.inr ak) Q).2 fun h=>hw (V.2 h)).symm) b7 ((a6.put J _).cons (Xu hG I)) (fun _=>⟨fun h=>(hw (V.2 h)).elim,fun _=>rfl⟩) (fun _=>rfl) Y
structure U3 (P:Program) (ds:List Deferred) (ok:Nat->Bool) (n:Nat) (all:List Oper) (BG:List Nat) (AN:List (List Nat)) (e0:Env) (w0:World) (M:Nat->Nat->Prop) (K:Env->World->Prop) (L:Nat->Prop) (a:Act) (w:World):Prop where
 ex:∃(t:Ord) (pre:List Nat) (vals:Nat->Value) (kn:List (Nat×Option Bool)),
  Fr ds n (DP all n e0 vals (fun m=>L m/\m<all.length)) a/\Pw all.length BG AN t pre=true/\jB BG AN t pre=true/\Ma all AN pre/\(∀q∈kn,q.1∈pre)/\GP all kn (DP all n e0 vals (fun m=>m∈pre))/\
  (∀(m:Nat) o,all[m]?=some o->(m∈pre\/L m)->m∉BG->Gd P all BG AN n e0 w0 M vals m o)/\(∀j∈BG,L j↔j∈pre)/\
  CZ P ok n all BG M (Ta BG AN M w0) w0 K t kn (DP all n e0 vals (fun m=>m∈pre)) w
 mod:Mod (fun b=>∃j∈BG,L j/\M j b) w0 w
 closed:∀i,i<all.length->L i->∀j∈Cc AN i,L j
def TU(c6:DR P ok)(V:RX n all BG AN Gs){ops:Array Oper}(ba:ops.toList=all) :
  ∀(fuel:Nat) (I:Array Bool) (a:Act) (w:World),I.size=ops.size->I.toList.count false<=fuel->U3 P ds ok n all BG AN e0 w0 M K (fun m=>I.getD m false=true) a w->
   wpAny P .any ops (II ds all n e0 K) fuel I a w:=by
 have ep:ops.size=all.length:=by rw[<-ba];simp
 have bb:∀i:Nat,ops[i]?=all[i]?:=fun i=>by rw[<-ba];simp
 have ea:∀(I:Array Bool) (i:Nat),i∈Region.ready .any ops I->∃o,all[i]?=some o/\I.getD i true=false/\∀e∈o.after,Region.binds .any e=true->I.getD e.on false=true:=by
  intro I i hi;obtain⟨h1,o,h2,h3⟩:=mem_ready.1 hi;exact⟨o,by rw[<-bb];exact h2,h1,h3⟩
 have fin:∀(I:Array Bool) (a:Act) (w:World),I.size=ops.size->U3 P ds ok n all BG AN e0 w0 M K (fun m=>I.getD m false=true) a w->Region.ready .any ops I=[]->II ds all n e0 K .normal a w:=by
  intro I a w bc hI hr;have ax:∀i,i<all.length->I.getD i false=true:=by
   intro i;induction i using Nat.strongRecOn with
   |_ i ih=>
    intro hi;cases hc:I.getD i false with
    |true=>rfl
    |false=>
     have:i∈Region.ready .any ops I:=by
      refine mem_ready.2 ⟨?_,all[i],by rw[bb];simp[hi],fun e he hb=>?_⟩
      .have:i<I.size:=by omega
       simp[this] at hc ⊢;exact hc
      .have:=V.back i all[i] (by simp[hi]) e he hb;exact ih e.on this (by omega)
     rw[hr] at this;cases this
  obtain⟨t,pre,vals,kn,bd,ho,_,hp,bk,hk,hg,U,hc⟩:=hI.ex;obtain⟨A,al⟩:=N8 t;obtain⟨c7,c8⟩:=Ik al ho;have Z:∀j∈BG,j∉A:=fun j J a1=>c8 j a1 ((U j J).1 (ax j (V.cu j J)));obtain⟨vals',ec,w',r1,r2,r3,r4,r5,r7,r6⟩:=Kk (L:=fun m=>I.getD m false=true) c6 V hI.closed al pre kn vals w ho hp bk hk hg (fun j J a1=>(Z j J a1).elim) hc;have hw:w'=w:=r5 Z;subst hw;have ay:∀m,m<all.length->m∈A.reverse++pre:=fun m hm=>by
   simp only[Pw,lg,CF] at c7;exact c7 m (mZ.2 hm)
  have b1:DP all n e0 vals' (fun m=>m∈A.reverse++pre)=DP all n e0 vals (fun m=>I.getD m false=true/\m<all.length):=by
   funext t
   exact Gy V fun m hm _=>⟨⟨fun h=>⟨ax m hm,hm⟩,fun h=>ay m hm⟩,fun _=>r1 m (.inr (ax m hm))⟩
  unfold CZ at r6;rw[b1] at r6;refine⟨rfl,_,bd,fun j U=>Ij fun m _ hm hd=>?_,r6⟩;have er:all[m]?=some all[m]:=by simp[hm]
  rw[DA,er] at hd;exact U all[m] (by simp) hd
 intro fuel;induction fuel with
 |zero=>
  intro I a w bc hc hI;have hr:Region.ready .any ops I=[]:=by
   cases hr:Region.ready .any ops I with
   |nil=>rfl
   |cons i r=>
    exfalso;obtain⟨o,h1,h2,_⟩:=ea I i (by rw[hr];simp);have b0:i<I.size:=by have:=(Ad.1 h1).1;omega
    simp[b0] at h2;have:false∈I.toList:=by rw[<-h2];simp
    have:=List.count_pos_iff.2 this;omega
  exact⟨hr,fin I a w bc hI hr⟩
 |succ fuel ih=>
  intro I a w bc hc hI;refine⟨fin I a w bc hI,fun i hi=>?_⟩;obtain⟨o,Q,c9,ca⟩:=ea I i hi;have b0:i<all.length:=(Ad.1 Q).1;have b2:i<I.size:=by omega
  have an:¬I.getD i false=true:=by simp[b2] at c9 ⊢;exact c9
  have b6:∀j∈Cc AN i,I.getD j false=true:=by
   intro j U;obtain⟨e,he,hb,h1⟩:=V.ju i o Q j U;have hL:=ca e he hb;rcases h1 with rfl|h1
   .exact hL
   .exact hI.closed e.on (by have:=V.back i o Q e he hb;omega) hL j h1
  obtain⟨t,pre,vals,kn,bd,b9,bl,hp,bk,hk,hg,U,dk⟩:=hI.ex;have dT:∀t∈slotsOf all o,DP all n e0 vals (fun m=>I.getD m false=true/\m<all.length) t=view all AN n e0 vals i t:=
   MK V Q (fun j U=>⟨b6 j U,by have:=V.lt b0 U;omega⟩) (fun m hm O e1=>an (hI.closed m hm e1.1 i O)) (fun h=>an h.1)
  have ed:=bd.eval;have a6:(Region.wanted o (yielded ops a.tmps)=true)↔Cn all (view all AN n e0 vals i) o:=by
   rw[<-HS V Q dT];unfold Region.wanted Cn;cases hg:o.guard with
   |none=>simp
   |some gb=>
    obtain⟨g,b⟩:=gb;have:=I9 bd (ops:=ops) (j:=g);rw[ba] at this;simp only[this,pC];constructor
    .rintro h g' b' heq;cases heq;exact h
    .intro h;exact h g b rfl
  have ee:∀m,(I.setIfInBounds i true).getD m false=true↔(I.getD m false=true\/m=i):=by
   intro m;simp only[mi,pn];by_cases O:i=m
   .subst O;simp[b2]
   .simp[O,nY O]
  have ef:(I.setIfInBounds i true).toList.count false<=fuel:=by
   have hb:I.toList[i]'(by simpa using b2)=false:=by simp[b2] at c9;simpa using c9
   have:(I.setIfInBounds i true).toList.count false+1=I.toList.count false:=by
    rw[Array.toList_setIfInBounds];exact LF I.toList i (by rw[<-hb];simp)
   omega
  have ch:∀m,m<all.length->(I.getD m false=true\/m=i)->∀j∈Cc AN m,(I.getD j false=true\/j=i):=by
   rintro m hm (et|rfl) j U
   .exact .inl (hI.closed m hm et j U)
   .exact .inl (b6 j U)
  have put:∀(vals':Nat->Value) (v:Value),(∀m,I.getD m false=true->vals' m=vals m)->vals' i=v->
    Fr ds n (DP all n e0 vals' (fun m=>(I.getD m false=true\/m=i)/\m<all.length)) (a.put o.dst v):=by
   intro vals' v h1 h2;rw[<-MO V (vals:=vals) (S:=fun m=>I.getD m false=true/\m<all.length) (v:=v) Q (fun m=>?_) (fun m hm O=>h1 m hm.1) h2 (fun hh=>an hh.1)]
   .exact bd.put o.dst v
   .constructor
    .rintro⟨h1|h1,h2⟩
     .exact .inl ⟨h1,h2⟩
     .exact .inr h1
    .rintro(⟨h1,h2⟩|rfl)
     .exact⟨.inl h1,h2⟩
     .exact⟨.inr rfl,b0⟩
  have go:∀(v:Value) (w':World),U3 P ds ok n all BG AN e0 w0 M K (fun m=>I.getD m false=true\/m=i) (a.put o.dst v) w'->wpAny P .any ops (II ds all n e0 K) fuel (I.setIfInBounds i true) (a.put o.dst v) w':=by
   intro v w' h1;refine ih _ _ _ (by simpa using bc) ef ?_;have:(fun m=>(I.setIfInBounds i true).getD m false=true)=(fun m=>I.getD m false=true\/m=i):=by
    funext m;exact propext (ee m)
   rw[this];exact h1
  unfold wpOp;rw[bb i,Q];simp only;have bn:∀(vals':Nat->Value),(∀m,I.getD m false=true->vals' m=vals m)->view all AN n e0 vals' i=view all AN n e0 vals i:=fun vals' h=>HI V fun j U=>h j (b6 j U);by_cases a7:i∈BG
  .have eu:i∉pre:=fun h=>an ((U i a7).2 h);have e2:cy BG t i=true:=by
    simp only[jB,lg] at bl;have h1:=bl i a7;rw[Fw.2 eu] at h1;have h2:((Cc AN i).all fun j=>!EA BG j||EA pre j)=true:=by
     simp only[lg,nV,nm,CF,Fw];intro j ew;by_cases J:j∈BG
     .exact .inr ((U j J).1 (b6 j ew))
     .exact .inl J
    simpa[h2] using h1
   obtain⟨A,t',al,ey⟩:=UC e2;obtain⟨c7,c8⟩:=Ik al b9;have Z:∀j∈BG,j∉A:=fun j J a1=>ey j a1 J;obtain⟨vals',ec,w',r1,r2,r3,r4,r5,r7,r6⟩:=Kk (L:=fun m=>I.getD m false=true) c6 V hI.closed al pre kn vals w b9 hp bk hk hg (fun j J a1=>(Z j J a1).elim) dk;have hw:w'=w:=r5 Z;subst hw;obtain⟨_,ay,e3,e4,eh⟩:=Qv c7;generalize ej:A.reverse++pre=T at *;have eA:∀j∈BG,j∈T↔j∈pre:=fun j J=>by
    rw[<-ej,C3,List.mem_reverse];exact⟨fun h=>h.resolve_left (Z j J),.inr⟩
   obtain⟨cc,bp,ek,h6⟩:=NV V Q e3 r2 r3 r6;have hv:=bn vals' fun m hm=>r1 m (.inr hm);have cn:∀t∈slotsOf all o,DP all n e0 vals' (fun m=>m∈T) t=view all AN n e0 vals i t:=fun t ht=>by
    rw[MK V Q e3 (fun m hm O e1=>ay (r7.cl m e1 i O)) ay t ht,hv]
   have b7:=NR V Q (kn:=cc) fun q hq=>⟨fun e=>ay (e▸bp q hq),r7.lt _ (bp q hq)⟩;have cv:=HS V Q cn;have b8:∀(v:Value) (w1:World) (bs:List (Nat×Option Bool)),(∀q∈bs,q.1∈i::T)->GP all bs (CG n (DP all n e0 vals' (fun m=>m∈T)) o.dst v)->Mod (fun b=>∃j∈BG,(I.getD j false=true\/j=i)/\M j b) w0 w1->
     CZ P ok n all BG M (Ta BG AN M w0) w0 K t' bs (CG n (DP all n e0 vals' (fun m=>m∈T)) o.dst v) w1->U3 P ds ok n all BG AN e0 w0 M K (fun m=>I.getD m false=true\/m=i) (a.put o.dst v) w1:=by
    intro v w1 bs h1 h2 h3 h4;have en:CG n (DP all n e0 vals' (fun m=>m∈T)) o.dst v=DP all n e0 (fun q=>if q=i then v else vals' q) (fun m=>m∈i::T):=
     MO V Q (fun m=>by simp[or_comm]) (fun m _ O=>by simp[O]) (by simp) ay
    rw[en] at h2 h4;refine⟨⟨t',i::T,fun q=>if q=i then v else vals' q,bs,put _ v (fun m hm=>?_) (by simp),eh,e4 a7,r7.cons b0 e3,h1,h2,?_,?_,h4⟩,h3,ch⟩
    .have:m≠i:=by rintro rfl;exact an hm
     simp[this,r1 m (.inr hm)]
    .intro m o' hm e5 cd;have bx:m<all.length:=(Ad.1 hm).1;have O:m≠i:=by rintro rfl;exact cd a7
     have av:m∈T\/I.getD m false=true:=by
      rcases e5 with h|h|h
      .exact .inl ((K8.1 h).resolve_left O)
      .exact .inr h
      .exact(O h).elim
     refine Gd.Pp V bx (fun j U=>?_) (by simp[O]) (r4 m o' hm av cd);have:j≠i:=by
      rintro rfl;rcases av with h|h
      .exact ay (r7.cl m h j U)
      .exact an (hI.closed m bx h j U)
     simp[this]
    .intro j J;rw[U j J,K8,eA j J];exact or_comm
   have c4:Mod (fun b=>∃j∈BG,(I.getD j false=true\/j=i)/\M j b) w0 w':=hI.mod.mono fun b _ ⟨j,U,hL,hb⟩=>⟨j,U,.inl hL,hb⟩;have kc:∀q∈cc,q.1∈i::T:=fun q hq=>gi _ (bp q hq);by_cases a8:Cn all (view all AN n e0 vals i) o
   .rw[DN (a6.2 a8)];left;rcases h6 with⟨_,hx⟩|⟨eB,_⟩
    .unfold Ky at hx;rw[CF.2 a7] at hx;simp only[lN] at hx;have e2:=OL c6 (fun _=>rfl) (fun _=>rfl) hx;unfold Oper.wp;rw[ed,HP (e':=DP all n e0 vals' (fun m=>m∈T)) (V.WX i o Q) (fun t ht=>by rw[dT t (Ig ht),cn t (Ig ht)])];exact bR e2 fun v w1 hv=>go v w1 (b8 v w1 cc kc (ek.put b7 _) ((c4.trans (hv.1.mono fun b _ hb=>⟨i,a7,.inr rfl,hb⟩))) hv.2)
    .exact(eB (cv.2 a8)).elim
   .rw[Bq (fun h=>a8 (a6.1 h))];rcases h6 with⟨hw,_⟩|⟨_,hx⟩
    .exact(a8 (cv.1 hw)).elim
    .exact go undef w' (b8 undef w' ((i,none) :: cc) (fun q hq=>by
      rcases K8.1 hq with rfl|hq
      .exact lC
      .exact kc q hq) ((ek.put b7 _).cons (Xu V Q)) c4 hx)
  .have key:∃v:Value,(i∈pre->v=vals i)/\(Cn all (view all AN n e0 vals i) o->Hf P (Q9 BG AN i) M w0 o (view all AN n e0 vals i) v)/\(¬Cn all (view all AN n e0 vals i) o->v=undef):=by
    by_cases e6:i∈pre
    .exact⟨vals i,fun _=>rfl,hg i o Q (.inl e6) a7⟩
    .obtain⟨A0,cx⟩:=N8 t;obtain⟨da,_⟩:=Ik cx b9;have eC:i∈A0:=by
      simp only[Pw,lg,CF] at da;have:=da i (mZ.2 b0);rw[C3,List.mem_reverse] at this;exact this.resolve_right e6
     obtain⟨B,t1,eo,_⟩:=Pj cx eC;have al:Reach t (B++[i]) t1:=by
      have tr:∀{a b c:Ord} {X Y:List Nat},Reach a X b->Reach b Y c->Reach a (X++Y) c:=by
       intro a b c X Y h1 h2;induction h1 with
       |refl _=>exact h2
       |op _ ih=>exact .op (ih h2)
       |l _ ih=>exact .l (ih h2)
       |r _ ih=>exact .r (ih h2)
      exact tr eo (.op (.refl _))
     obtain⟨_,c8⟩:=Ik al b9;obtain⟨vals',ec,w',r1,r2,r3,r4,r5,r7,r6⟩:=Kk (L:=fun m=>I.getD m false=true) c6 V hI.closed al pre kn vals w b9 hp bk hk hg (fun j J a1 eI=>c8 j a1 ((U j J).1 eI)) dk;have hv:=bn vals' fun m hm=>r1 m (.inr hm);have:=r4 i o Q (.inl (by simp)) a7;unfold Gd at this;rw[hv] at this;exact⟨vals' i,fun h=>(e6 h).elim,this⟩
   obtain⟨v,eL,e7⟩:=key;have inv:U3 P ds ok n all BG AN e0 w0 M K (fun m=>I.getD m false=true\/m=i) (a.put o.dst v) w:=by
    have ak:∀m,(m∈pre\/I.getD m false=true)->(if m=i then v else vals m)=vals m:=by
     intro m hm;by_cases O:m=i
     .subst O;rcases hm with h|h
      .simp[eL h]
      .exact(an h).elim
     .simp[O]
    have b1:DP all n e0 (fun m=>if m=i then v else vals m) (fun m=>m∈pre)=DP all n e0 vals (fun m=>m∈pre):=by
     funext t
     exact Gy V fun m _ _=>⟨oe,fun h=>ak m (.inl h)⟩
    refine⟨⟨t,pre,fun m=>if m=i then v else vals m,kn,put _ v (fun m hm=>ak m (.inr hm)) (by simp),b9,bl,hp,bk,by rw[b1];exact hk,?_,?_,by rw[b1];exact dk⟩,hI.mod.mono fun b _ ⟨j,U,hL,hb⟩=>⟨j,U,.inl hL,hb⟩,ch⟩
    .intro m o' hm e5 cd;have bx:m<all.length:=(Ad.1 hm).1;by_cases O:m=i
     .subst O;rw[Q] at hm;cases hm;unfold Gd;rw[HI V (vals':=vals) fun j U=>by have:=V.lt b0 U;simp[show j≠m by omega]];simp only[lT];exact e7
     .have av:m∈pre\/I.getD m false=true:=by
       rcases e5 with h|h|h
       .exact .inl h
       .exact .inr h
       .exact(O h).elim
      refine Gd.Pp V bx (fun j U=>?_) (by simp[O]) (hg m o' hm av cd);have eN:j∈pre\/I.getD j false=true:=by
       rcases av with h|h
       .exact .inl (hp.cl m h j U)
       .exact .inr (hI.closed m bx h j U)
      exact(ak j eN).symm
    .intro j J;have e8:j≠i:=by rintro rfl;exact a7 J
     rw[<-U j J];simp[e8]
   have e9:=go v w inv;by_cases a8:Cn all (view all AN n e0 vals i) o
   .rw[DN (a6.2 a8)];left;unfold Oper.wp;rw[ed,HP (e':=view all AN n e0 vals i) (V.WX i o Q) (fun t ht=>dT t (Ig ht)),e7.1 a8 w (hI.mod.mono fun b _ ⟨j,U,hL,hb⟩=>⟨j,Vh U fun e8=>an (hI.closed j (V.cu j U) hL i e8),hb⟩)];exact e9
   .rw[Bq (fun h=>a8 (a6.1 h))];have:=e7.2 a8;rw[this] at e9;exact e9
def QL{ops:Array Oper}{a:Act}{t:Ord}(J:DR P ok)(hm:P.follows .mixedOrders=true)(T:Fr ds n e0 a)
 (U:WN n ops.toList BG AN Gs=true)(ht:Sf ops.toList.length BG AN t=true)
 (h:Au BG AN w.drew fun M V=>CZ P ok n ops.toList BG M V w.drew K t [] e0 w.drew) :
  wpAny P .any ops (II ds ops.toList n e0 K) ops.size (Array.replicate ops.size false) a { w with drawn:=w.drawn+1 }:=by
 obtain⟨M,h⟩:=h;have O:=bG U;simp only[Sf,cL] at ht;refine TU (M:=M) (w0:=w.drew) J O rfl ops.size (Array.replicate ops.size false) a _ (by simp) ?_ ?_
 .simp
 .have I:∀m:Nat,¬(Array.replicate ops.size false).getD m false=true:=fun m=>by
   simp only[mi,qY];split<;>simp
  have B:∀S:Nat->Prop,(∀m,¬S m)->DP ops.toList n e0 (fun _=>undef) S=e0:=fun S X=>by
   funext t;exact Ij fun m hm _=>(X m hm).elim
  refine⟨⟨t,[],fun _=>undef,[],?_,ht.2,ht.1,⟨fun m hm=>(nomatch hm),fun m hm=>(nomatch hm)⟩,fun q Y=>(nomatch Y),fun j b hb=>by simp[Fl] at hb,fun m o _ Q _=>?_,fun j _=>?_,?_⟩,Mod.refl _ _,fun i _ hi=>(I i hi).elim⟩
  .rw[B _ fun m hm=>I m hm.1];exact T
  .rcases Q with h|h
   .cases h
   .exact(I m h).elim
  .exact⟨fun h=>(I j h).elim,fun h=>(nomatch h)⟩
  .rw[B _ fun m hm=>(nomatch hm)];exact h
end
section
inductive O7 where
 |nil
 |node (L:List Nat) (W:List (Nat×Nat)) (a b:O7)
 |cut (L:List Nat) (W:List (Nat×Nat)) (a b:O7)
 |draw
 |dt (BG:List Nat) (AN Gs:List (List Nat)) (t:Ord)
def iY:Nat->Nat->Ord
 |0,_=>.nil
 |k+1,i=>.op i (iY k (i+1))
def O7.dc(BG:List Nat)(AN Gs:List (List Nat)):O7:=.dt BG AN Gs (iY AN.length 0)
def iI:List (Nat×Nat)->Nat->Bool
 |[],_=>false
 |(lo,hi)::r,j=>(Nat.ble lo j&&Nat.ble j hi)||iI r j
def lk:List Nat->List Value->Nat->Value->Value
 |[],_,_,d=>d
 |l::L,vs,j,d=>bif Nat.beq l j then vs.headD undef else lk L vs.tail j d
def mix(L:List Nat)(W:List (Nat×Nat))(vs:List Value)(h e:Env):Env:=fun j=>lk L vs j (bif iI W j then h j else e j)
def Ip(W:List (Nat×Nat)):Code->Bool
 |.region _ ops _=>ops.toList.all fun o=>match o.dst with | some d=>iI W d | none=>true
 |.seq a b=>Ip W a&&Ip W b
 |.cond _ a b=>Ip W a&&Ip W b
 |.block _ a=>Ip W a
 |.loop a=>Ip W a
 |.scope a=>Ip W a
 |.rangeFunc ..=>false
 |_=>true
def Wr:Code->Nat->Prop
 |.region _ ops _,j=>∃o∈ops.toList,o.dst=some j
 |.seq a b,j=>Wr a j\/Wr b j
 |.cond _ a b,j=>Wr a j\/Wr b j
 |.block _ a,j=>Wr a j
 |.loop a,j=>Wr a j
 |.scope a,j=>Wr a j
 |.rangeFunc ..,_=>True
 |_,_=>False
def Dv{W:List (Nat×Nat)}:∀{c:Code},Ip W c=true->∀j,Wr c j->iI W j=true
 |.region _ ops _,h,j,⟨o,m,q⟩=>by
  simp only[Ip,lg] at h;have:=h o m;rw[q] at this;exact this
 |.seq a b,h,j,i=>by
  simp only[Ip,cL] at h;exact i.elim (Dv h.1 j) (Dv h.2 j)
 |.cond _ a b,h,j,i=>by
  simp only[Ip,cL] at h;exact i.elim (Dv h.1 j) (Dv h.2 j)
 |.block _ a,h,j,i=>Dv (c:=a) h j i
 |.loop a,h,j,i=>Dv (c:=a) h j i
 |.scope a,h,j,i=>Dv (c:=a) h j i
 |.rangeFunc ..,h,_,_=>by simp[Ip] at h
 |.skip,_,_,i=>i.elim
 |.exit _,_,_,i=>i.elim
 |.label _,_,_,i=>i.elim
 |.goto _,_,_,i=>i.elim
 |.ret,_,_,i=>i.elim
 |.refuse _,_,_,i=>i.elim
def fB(e:Env)(L:List Nat)(j:Nat)(d:Value):lk L (L.map e) j d=if j∈L then e j else d:=by
 induction L with
 |nil=>simp[lk]
 |cons l L i=>
  simp only[lk,kN,Nr,List.tail_cons,i];cases hb:Nat.beq l j with
  |true=>have:=lJ hb;subst this;simp
  |false=>
   have:j≠l:=by intro e;subst e;simp at hb
   simp[this]
def P4{L:List Nat}{W:List (Nat×Nat)}{e e':Env}(h:∀j,iI W j=false->e' j=e j):mix L W (L.map e') e' e=e':=by
 funext j
 simp only[mix,fB];split
 .rfl
 .cases i:iI W j with
  |true=>simp
  |false=>simp[h j i]
variable (P:Program)(ok:Nat->Bool)(n:Nat)
def KP(P:Program)(l:Nat)(args:List Value)(K:Cont)(w:World):Prop:=
 ∃f tmps i body,(Instr.yield l args.toArray).run P w=.ok (.round l f tmps i body) w/\RoundIn Fence.wide 0 P l f tmps i body w fun e w'=>∃v,e=.returned v/\K v w'
def Bi(P:Program)(ok:Nat->Bool)(f:Value)(args:List Value)(K:Cont)(w:World):Prop:=
 BK P ok f args K w\/∃l,f=.func (.yield l) #[] #[]/\KP P l args K w
def iF(o:Oper)(ρ:Operand->Value)(K:Cont)(w:World):Prop:=
 match o.op with
 |.call c=>match c.callee with
  |.value (.func _)=>FW P ok o ρ K w
  |.value f=>Bi P ok (ρ f) (c.args.toList.map ρ) K w
  |_=>FW P ok o ρ K w
 |_=>FW P ok o ρ K w
def KG(all:List Oper)(K:Env->World->Prop):List Oper->Nat->List (Nat×Option Bool)->Env->World->Prop
 |[],_,_,e,w=>K e w
 |o::m,i,kn,e,w=>
  bif GY o.dst kn all then False else
  match o.guard with
  |none=>iF P ok o (ev e) (fun v w'=>KG all K m (i+1) kn (CG n e o.dst v) w') w
  |some (j,q)=>match Fl kn j with
   |some (some b)=>bif SM b q then iF P ok o (ev e) (fun v w'=>KG all K m (i+1) kn (CG n e o.dst v) w') w
     else KG all K m (i+1) ((i,none)::kn) (CG n e o.dst undef) w
   |some none=>KG all K m (i+1) ((i,none)::kn) (CG n e o.dst undef) w
   |none=>match Ce all j with
    |some d=>bif GY o.dst ((j,none)::kn) all then False else AD (e d)
      (bif q then iF P ok o (ev (GK n e d (.bool true))) (fun v w'=>KG all K m (i+1) ((j,some true) :: kn) (CG n (GK n e d (.bool true)) o.dst v) w') w
       else KG all K m (i+1) ((i,none) :: (j,some true) :: kn) (CG n (GK n e d (.bool true)) o.dst undef) w)
      (bif q then KG all K m (i+1) ((i,none) :: (j,some false) :: kn) (CG n (GK n e d (.bool false)) o.dst undef) w
       else iF P ok o (ev (GK n e d (.bool false))) (fun v w'=>KG all K m (i+1) ((j,some false) :: kn) (CG n (GK n e d (.bool false)) o.dst v) w') w)
    |none=>False
def BN(C:World->Prop)(x:Value)(K:Value->Prop):Prop:=∃a v,x=.pointer (some a)/\(∀w,C w->w.cell? a=some v)/\K v
def HD(C:World->Prop)(k:Nat)(x:Value)(K:Value->Prop):Prop:=
 ∃a vs,x=.pointer (some a)/\List.length vs=k/\(∀w,C w->∀j v,vs[j]?=some v->w.cell? (a.add j)=some v)/\K (.agg vs.toArray)
def FU(P:Program)(C:World->Prop)(g:Nat)(args:List Value)(K:Value->Prop):Prop:=
 ∃v,(∀w,C w->AB P g args (fun v' w'=>v'=v/\C w') w)/\K v
def Bo(P:Program)(C:World->Prop)(s:Sem Value)(K:Value->Prop):Prop:=∃v,(∀w,C w->s.run P w=.ok v w)/\K v
def cG(P:Program)(C:World->Prop)(g:Nat)(args:List Value)(K:Value->Prop):Prop:=∃v,(∀w,C w->(callFunc g args.toArray).run P w=.ok (.value v) w)/\K v
def Dg(w:World)(F:(World->Prop)->Prop):Prop:=∃C:World->Prop,C w.drew/\F C
def bL(C:World->Prop)(o:Oper)(ρ:Operand->Value)(K:Value->Prop)(w:World):Prop:=
 match o.op with
 |.load t x=>match Hc P t with | some (false,_)=>BN C (ρ x) K | some (true,k)=>HD C k (ρ x) K | none=>False
 |.binOp op t x y _=>bif HF P op t y then NO P op t y (ρ x) (ρ y) K False
   else Bo P C (BS op t x y (ρ x) (ρ y)) K
 |.call c=>match c.callee with
  |.value (.func g)=>bif ok g then FU P C g (c.args.toList.map ρ) K else cG P C g (c.args.toList.map ρ) K
  |_=>bif CV P o then FW P ok o ρ (fun v _=>K v) w else False
 |.convert s d x=>Bo P C (convert s d (ρ x)) K
 |.slice t x lo hi i=>Bo P C (Instr.sliceAt t (ρ x) (lo.map ρ) (hi.map ρ) (i.map ρ)) K
 |_=>bif CV P o then FW P ok o ρ (fun v _=>K v) w else False
def Kb(C:World->Prop)(all:List Oper)(K:Env->Prop)(w:World):List Oper->Nat->List (Nat×Option Bool)->Env->Prop
 |[],_,_,e=>K e
 |o::m,i,kn,e=>
  bif GY o.dst kn all then False else
  match o.guard with
  |none=>bL P ok C o (ev e) (fun v=>Kb C all K w m (i+1) kn (CG n e o.dst v)) w
  |some (j,q)=>match Fl kn j with
   |some (some b)=>bif SM b q then bL P ok C o (ev e) (fun v=>Kb C all K w m (i+1) kn (CG n e o.dst v)) w
     else Kb C all K w m (i+1) ((i,none)::kn) (CG n e o.dst undef)
   |some none=>Kb C all K w m (i+1) ((i,none)::kn) (CG n e o.dst undef)
   |none=>match Ce all j with
    |some d=>bif GY o.dst ((j,none)::kn) all then False else AD (e d)
      (bif q then bL P ok C o (ev (GK n e d (.bool true))) (fun v=>Kb C all K w m (i+1) ((j,some true) :: kn) (CG n (GK n e d (.bool true)) o.dst v)) w
       else Kb C all K w m (i+1) ((i,none) :: (j,some true) :: kn) (CG n (GK n e d (.bool true)) o.dst undef))
      (bif q then Kb C all K w m (i+1) ((i,none) :: (j,some false) :: kn) (CG n (GK n e d (.bool false)) o.dst undef)
       else bL P ok C o (ev (GK n e d (.bool false))) (fun v=>Kb C all K w m (i+1) ((j,some false) :: kn) (CG n (GK n e d (.bool false)) o.dst v)) w)
    |none=>False
def Uz(o:Oper):Bool:=match o.op with|.defer _=>false|_=>true
def LY:Code->Bool
 |.region _ ops draw=>!draw||ops.toList.all Uz
 |.seq a b=>LY a&&LY b
 |.cond _ a b=>LY a&&LY b
 |.block _ a=>LY a
 |.loop a=>LY a
 |.skip=>true
 |.exit _=>true
 |.ret=>true
 |_=>false
def jK(id:Nat)(Q:EQ):EQ:=fun ex e w=>match ex with
 |.exit i=>bif Nat.beq i id then Q .normal e w else Q (.exit i) e w
 |.normal=>Q .normal e w | .ret=>Q .ret e w | .goto l=>Q (.goto l) e w | .panic c=>Q (.panic c) e w | .outgrown=>Q .outgrown e w
def jo(Q:EQ):EQ:=fun ex e w=>match ex with
 |.goto _=>False
 |.normal=>Q .normal e w | .exit i=>Q (.exit i) e w | .ret=>Q .ret e w | .panic c=>Q (.panic c) e w | .outgrown=>Q .outgrown e w
def gL(N:Env->World->Prop)(Q:EQ):EQ:=fun ex e w=>match ex with
 |.normal=>N e w
 |.exit i=>Q (.exit i) e w | .ret=>Q .ret e w | .goto l=>Q (.goto l) e w | .panic c=>Q (.panic c) e w | .outgrown=>Q .outgrown e w
def D:Code->O7->EQ->Env->World->Prop
 |.skip,_,Q,e,w=>Q .normal e w
 |.region _ ops draw,an,Q,e,w=>match draw with
  |false=>KG P ok n ops.toList (fun e w=>Q .normal e w) ops.toList 0 [] e w
  |true=>match an with
   |.draw=>bif Region.lexB .any ops then Dg w (fun C=>Kb P ok n C ops.toList (fun e'=>∀w':World,C w'->Q .normal e' w') w ops.toList 0 [] e) else False
   |.dt BG AN Gs t=>bif WN n ops.toList BG AN Gs&&Sf ops.toList.length BG AN t then Au BG AN w.drew fun M m=>CZ P ok n ops.toList BG M m w.drew (fun e' w'=>Q .normal e' w') t [] e w.drew else False
   |_=>False
 |.seq x y,an,Q,e,w=>match an with
  |.node _ _ a b=>D x a (gL (fun e' w'=>D y b Q e' w') Q) e w
  |.cut L W a b=>bif Ip W x then Ao (fun vs w'=>∀h:Env,D y b Q (mix L W vs h e) w') (fun J=>D x a (gL (fun e' w'=>J (L.map e') w') Q) e w) else False
  |_=>False
 |.cond c x y,an,Q,e,w=>match an with
  |.node _ _ a b=>AD (ev e c) (D x a Q e w) (D y b Q e w)
  |_=>False
 |.block id x,an,Q,e,w=>D x an (jK id Q) e w
 |.loop x,an,Q,e,w=>match an with
  |.node L W a _=>bif Ip W x then Ap (L.map e) (fun vs i w'=>∀h:Env,D x a (gL (fun e' j=>i (L.map e') j) Q) (mix L W vs h e) w') w else False
  |_=>False
 |.exit id,_,Q,e,w=>Q (.exit id) e w
 |.ret,_,Q,e,w=>Q .ret e w
 |.label _,_,Q,e,w=>Q .normal e w
 |.scope x,an,Q,e,w=>D x an (jo Q) e w
 |_,_,_,_,_=>False
variable {P ok n}
def lift(n:Nat)(ds:List Deferred)(c:Code)(e:Env)(Q:EQ):Exit->Act->World->Prop:=fun ex a w=>∃e',Fr ds n e' a/\(∀j,¬Wr c j->e' j=e j)/\Q ex e' w
def GZ(ds:List Deferred)(n:Nat)(l:List Oper)(e:Env)(K:Env->World->Prop):Exit->Act->World->Prop:=
 fun ex a w=>ex=.normal/\∃e',Fr ds n e' a/\(∀j,(∀o∈l,o.dst≠some j)->e' j=e j)/\K e' w
def Ol{ds:List Deferred}{l:List Oper}{o:Oper}{e:Env}{K:Env->World->Prop}{ex:Exit}{a:Act}(h:GZ ds n l (CG n e o.dst v) K ex a w):GZ ds n (o::l) e K ex a w:=by
 obtain⟨h0,e',h1,q,B⟩:=h;refine⟨h0,e',h1,fun j m=>?_,B⟩;rw[q j (fun o' i=>m o' (by simp[i]))];exact HV (m o (by simp))
abbrev Wd(ro:Option Nat):Fence:={ Fence.wide with round:=ro }
def Ix{F:Fence}{m:Nat}{ops:Array Oper}{Q Q':Exit->Act->World->Prop}(q:∀e a w,Q e a w->Q' e a w):∀(l:List Oper) (a:Act) (w:World),wpListIn F m P ops Q l a w->wpListIn F m P ops Q' l a w:=by
 have O:LetsOut Q->LetsOut Q':=fun⟨a,w,h⟩=>⟨a,w,q _ _ _ h⟩;intro l;induction l with
 |nil=>intro a w h;exact q _ _ _ h
 |cons o r j=>
  intro a w h;unfold wpListIn at h ⊢;split
  .rename_i I;rw[DN I] at h;unfold Oper.wpIn at h ⊢;refine⟨h.1,?_⟩;replace h:=h.2
   generalize (o.semAt F.round a.eval).run P w=T at h ⊢;match T,h with
   |.ok (.value v) w',h=>exact j _ _ h
   |.ok .skip w',h=>exact j _ _ h
   |.ok (.defer d) w',h=>exact j _ _ h
   |.ok (.enter f args) w',h=>
    exact ⟨h.1,CallsIn.mono h.2 fun J B i=>by
     cases J with
     |returned v=>exact j _ _ i
     |panicked U=>exact q _ _ _ i
     | outgrown=>exact O i⟩
   |.ok (.row row args) w',h=>exact⟨h.1,RowsIn.mono h.2 fun v B i=>j _ _ i⟩
   |.ok (.round l f tmps assign body) w',h=>
    exact ⟨h.1,RoundIn.mono h.2 fun J B i=>by
     cases J with
     |returned v=>exact j _ _ i
     |panicked U=>exact q _ _ _ i
     | outgrown=>exact O i⟩
   |.halt (.panic v) w',h=>exact q _ _ _ h
  .rename_i I;rw[Bq I] at h;exact⟨h.1,j _ _ h.2⟩
def Tl{ro:Option Nat}{m:Nat}{K:Cont}{o:Oper}{a:Act}{next:Act->World->Prop}{Q:Exit->Act->World->Prop}{r:Result Next}
 (h:Ep w r K P)(i:∀v w',K v w'->next (a.put o.dst v) w'):o.uponIn (Wd ro) m P a next Q r:=by
 match r,h with
 |.ok (.value v) w',h=>exact i _ _ h
 |.ok .skip w',h=>exact i _ _ h
 |.ok (.enter f args) w',h=>
  obtain⟨rfl,h⟩:=h;exact⟨(fun h=>by cases h),(qk.2 (nz h fun e j ⟨v,he,q⟩=>by subst he;exact i _ _ q):CallsIn Fence.wide _ _ _ _ _ _)⟩
def Px{o:Oper}{ρ:Operand->Value}{K:Cont}(h:FW P ok o ρ K w):∀c,o.op≠.defer c:=by
 intro c hc;simp only[FW,hc] at h
def V9(O:DR P ok){ro:Option Nat}{m:Nat}{K:Cont}{o:Oper}{a:Act}{e:Env}{next:Act->World->Prop}{Q:Exit->Act->World->Prop}(I:a.eval=ev e)
 (h:iF P ok o (ev e) K w)(X:∀v w',K v w'->next (a.put o.dst v) w'):o.wpIn (Wd ro) m P a w next Q:=by
 have GN:FW P ok o (ev e) K w->o.wpIn (Wd ro) m P a w next Q:=by
  intro h;refine⟨fun _ _=>trivial,?_⟩;rw[rP _ _ _ (Px h),I];exact Tl (OL O (fun _=>rfl) (fun _=>rfl) h) X
 obtain⟨q,op,i,pos,after,guard⟩:=o;cases op with
 |call c=>
  obtain⟨j,args,B⟩:=c;cases j with
  |value f=>
   have T:Bi P ok (ev e f) (args.toList.map (ev e)) K w->(FW P ok ⟨q,.call ⟨.value f,args,B⟩,i,pos,after,guard⟩ (ev e) K w↔BK P ok (ev e f) (args.toList.map (ev e)) K w)->Oper.wpIn (Wd ro) m P ⟨q,.call ⟨.value f,args,B⟩,i,pos,after,guard⟩ a w next Q:=by
    rintro(h|⟨l,Y,fn,tmps,U,body,h1,Z⟩) J
    .exact GN (J.2 h)
    .refine⟨fun _ _=>trivial,?_⟩;rw[rP _ _ _ (by simp),I];have hr:(execOp (ev e) ⟨q,.call ⟨.value f,args,B⟩,i,pos,after,guard⟩).run P w=.ok (.round l fn tmps U body) w:=by
      simp only[execOp,resolve,Y,Deferred.ofValue,pure_bind,invoke,GB];simpa[callFunc] using h1
     rw[hr];have h3:=Z.2;refine⟨(fun h=>by cases h),trivial,fun c cs _=>?_⟩;obtain⟨en,V,⟨v,rfl,hv⟩,hs⟩:=h3 c cs (room_wide _);exact⟨.returned v,V,X _ _ hv,hs⟩
   cases f with
   |func g=>exact GN h
   |tmp t=>exact T h oe
   |const v=>exact T h oe
   |global g=>exact T h oe
  |invoke r m=>exact GN h
  |builtin b=>exact GN h
 |_=>exact GN h
def Rr{ds:List Deferred}{ro:Option Nat}{m:Nat}(al:DR P ok){ops:Array Oper}{K:Env->World->Prop}:∀(l:List Oper) (i:Nat) (kn:List (Nat×Option Bool)) (e:Env) (w:World) (a:Act),
  ops.toList.drop i=l->GP ops.toList kn e->Fr ds n e a->KG P ok n ops.toList K l i kn e w->wpListIn (Wd ro) m P ops (GZ ds n l e K) l a w:=by
 intro l;induction l with
 |nil=>
  intro i kn e w a _ _ Z h;exact⟨rfl,e,Z,fun _ _=>rfl,h⟩
 |cons o q ih=>
  intro i kn e w a hl Q Z h;have an:Ce ops.toList i=o.dst:=by
   have:ops.toList[i]?=some o:=by
    have:=kZ (fun l=>l[0]?) hl;simpa using this
   rw[DA,this];rfl
  have a7:ops.toList.drop (i+1)=q:=by
   have:=kZ List.tail hl;simpa using this
  have U:∀(v:Value) (a':Act) (w':World),wpListIn (Wd ro) m P ops (GZ ds n q (CG n e o.dst v) K) q a' w'->wpListIn (Wd ro) m P ops (GZ ds n (o::q) e K) q a' w':=
   fun v a' w' hh=>Ix (fun ex a w=>Ol) q a' w' hh
  simp only[KG] at h;cases T:GY o.dst kn ops.toList with
  |true=>simp only[T,lN] at h
  |false=>
   simp only[T,lL] at h;have OA:∀I,(∀v,GP ops.toList I (CG n e o.dst v))->iF P ok o (ev e) (fun v w'=>KG P ok n ops.toList K q (i+1) I (CG n e o.dst v) w') w->
     o.wpIn (Wd ro) m P a w (wpListIn (Wd ro) m P ops (GZ ds n (o::q) e K) q) (GZ ds n (o::q) e K):=by
    intro I hk a1;refine V9 al Z.eval a1 fun v w' V=>?_;exact U v _ _ (ih (i+1) I _ w' _ a7 (hk v) (Z.put o.dst v) V)
   have B:∀I,GP ops.toList I (CG n e o.dst undef)->KG P ok n ops.toList K q (i+1) ((i,none)::I) (CG n e o.dst undef) w->
     wpListIn (Wd ro) m P ops (GZ ds n (o::q) e K) q (a.put o.dst undef) w:=by
    intro I hk a1;refine U undef _ _ (ih (i+1) _ _ w _ a7 (hk.cons ?_) (Z.put o.dst undef) a1);unfold yv;rw[an];cases hd:o.dst with
    |none=>rfl
    |some d=>
     have:=(Z.put o.dst undef).get d;rw[hd] at this;show bv (CG n e (some d) undef d)=none;rw[<-this];by_cases a8:d<a.tmps.size
     .simp[Act.put,a8];rfl
     .simp[Act.put,a8];rfl
   have hy:=fun j=>I9 (n:=n) Z (ops:=ops) (j:=j);unfold wpListIn;cases hg:o.guard with
   |none=>
    simp only[hg] at h;rw[DN (by simp[Region.wanted,hg])];exact(OA kn (fun v=>Q.put T v) h)
   |some g=>
    obtain⟨j,O⟩:=g;simp only[hg] at h;have hw:Region.wanted o (yielded ops a.tmps)=(yv ops.toList e j==some O):=by simp only[Region.wanted,hg,hy]
    rw[hw];cases a6:Fl kn j with
    |some b=>
     rw[Q j b a6];simp only[a6] at h;cases b with
     |none=>
      simp only at h;rw[Bq (by simp)];exact⟨fun _ _=>trivial,B kn (Q.put T _) h⟩
     |some b=>
      simp only[MG] at h;cases X:(b==O) with
      |true=>
       simp only[X,lN] at h;rw[DN (by simpa using X)];exact(OA kn (fun v=>Q.put T v) h)
      |false=>
       simp only[X,lL] at h;rw[Bq (by simpa using X)];exact⟨fun _ _=>trivial,B kn (Q.put T _) h⟩
    |none=>
     simp only[a6] at h;cases hd:Ce ops.toList j with
     |none=>simp only[hd] at h
     |some d=>
      simp only[hd] at h;cases J:GY o.dst ((j,none)::kn) ops.toList with
      |true=>simp only[J,lN] at h
      |false=>
       simp only[J,lL] at h;have ak:yv ops.toList e j=bv (e d):=by simp[yv,hd]
       have Y:∀b,bv (e d)=b->∀v,GP ops.toList ((j,b)::kn) (CG n e o.dst v):=fun b hb v=>
        (Q.cons (ak.trans hb)).put (d:=o.dst) (by
         simp only[GY] at J ⊢;cases av:o.dst with
         |none=>rfl
         | some t=>rw [av] at J;simpa [List.any_cons] using J) v
       rw[ak];rcases HR h with⟨V,hb⟩|⟨V,hb⟩
       .rw[G1 V] at hb;rw[V];cases O with
        |true=>
         simp only[lN] at hb;rw[DN (by rfl)];exact(OA _ (Y _ (by rw[V];rfl)) hb)
        |false=>
         simp only[lL] at hb;rw[Bq (by simp[bv])];exact⟨fun _ _=>trivial,B _ (Y _ (by rw[V];rfl) _) hb⟩
       .rw[G1 V] at hb;rw[V];cases O with
        |true=>
         simp only[lN] at hb;rw[Bq (by simp[bv])];exact⟨fun _ _=>trivial,B _ (Y _ (by rw[V];rfl) _) hb⟩
        |false=>
         simp only[lL] at hb;rw[DN (by rfl)];exact(OA _ (Y _ (by rw[V];rfl)) hb)
def jJ{C:World->Prop}{r:Result Next}(_:C w)(h:Ep w r (fun v' i=>v'=v/\C i/\(i=w\/∃f args m,r=.ok (.enter f args) m)) P):Oper.quietUpon P C w v r:=by
 match r,h with
 |.ok (.value v') i,h=>
  obtain⟨h1,_,j|⟨f,a,m,j⟩⟩:=h
  .exact⟨j,h1⟩
  .cases j
 |.ok .skip i,h=>
  obtain⟨h1,_,j|⟨f,a,m,j⟩⟩:=h
  .exact⟨j,h1.symm⟩
  .cases j
 |.ok (.enter f args) i,h=>exact⟨h.1,nz h.2 fun e m ⟨v',h1,j,o,_⟩=>⟨by rw[h1,j],o⟩⟩
def Qp{r:Result Next}{K j:Cont}(h:Ep w r K P)(hk:∀v w',K v w'->j v w'):Ep w r j P:=by
 match r,h with
 |.ok (.value v') i,h=>exact hk _ _ h
 |.ok .skip i,h=>exact hk _ _ h
 |.ok (.enter f args) i,h=>exact⟨h.1,nz h.2 fun e o ⟨v',h1,m⟩=>⟨v',h1,hk _ _ m⟩⟩
def TG{ds:List Deferred}(T:DR P ok){C:World->Prop}{o:Oper}{a:Act}{e:Env}{K:Value->Prop}{next:Act->Prop}(hf:Fr ds n e a)
 (h:bL P ok C o (ev e) K w)(X:∀v,K v->next (a.put o.dst v)):o.quiet P a C next:=by
 have q:=hf.eval;have conv:∀v,(∀w',C w'->FW P ok o (ev e) (fun v' U=>v'=v/\U=w') w')->K v->o.quiet P a C next:=by
  intro v hv hk;refine⟨v,fun w' i=>?_,X v hk⟩;have:=OL T (fun _=>rfl) (fun _=>rfl) (hv w' i);unfold Oper.quietAt;rw[q];exact jJ i (Qp this fun v' U ⟨h1,j⟩=>⟨h1,j▸i,.inl j⟩)
 have O:CV P o=true->FW P ok o (ev e) (fun v _=>K v) w->o.quiet P a C next:=by
  intro hp Q;obtain⟨v,h1,j⟩:=PX hp Q;exact conv v (fun w' _=>j _ w' ⟨rfl,rfl⟩) h1
 have m:(bif CV P o then FW P ok o (ev e) (fun v _=>K v) w else False)->o.quiet P a C next:=by
  intro Q;cases hp:CV P o with
  |true=>rw[hp] at Q;exact O hp Q
  |false=>rw[hp] at Q;exact Q.elim
 obtain⟨V,op,J,pos,after,guard⟩:=o;cases op with
 |load t x=>
  simp only[bL] at h;split at h
  .rename_i k ha;obtain⟨p,v,h1,j,B⟩:=h;refine conv v (fun w' i=>?_) B;simp only[FW,ha];exact⟨p,v,h1,j w' i,rfl,rfl⟩
  .rename_i k ha;obtain⟨p,vs,h1,hl,j,B⟩:=h;refine conv _ (fun w' i=>?_) B;simp only[FW,ha];exact⟨p,vs,h1,hl,j w' i,rfl,rfl⟩
  .exact h.elim
 |binOp op t x y yt=>
  simp only[bL] at h;cases hp:HF P op t y with
  |true=>
   rw[hp] at h;simp only[lN] at h;obtain⟨v,h1,j⟩:=GV hp h;exact conv v (fun w' _=>j _ _ ⟨rfl,rfl⟩) h1
  |false=>
   rw[hp] at h;simp only[lL] at h;obtain⟨v,h1,j⟩:=h;refine⟨v,fun w' i=>?_,X v j⟩;unfold Oper.quietAt;rw[q];have:(execOp (ev e) ⟨V,.binOp op t x y yt,J,pos,after,guard⟩).run P w'=.ok (.value v) w':=by
    have B:=h1 w' i;simp only[BS] at B;simp only[execOp];rw[kL,B];rfl
   rw[this];exact⟨rfl,rfl⟩
 |call c=>
  obtain⟨I,args,Y⟩:=c;simp only[bL] at h;cases I with
  |value f=>
   cases f with
   |func g=>
    simp only at h;have B:(execOp (ev e) ⟨V,.call ⟨.value (.func g),args,Y⟩,J,pos,after,guard⟩)=callFunc g (args.toList.map (ev e)).toArray:=by
     simp only[execOp,resolve,Deferred.ofValue,ev,pure_bind,invoke,GB];simp
    cases Z:ok g with
    |false=>
     rw[Z] at h;simp only[lL] at h;obtain⟨v,h1,j⟩:=h;refine⟨v,fun w' i=>?_,X v j⟩;unfold Oper.quietAt;rw[q,B,h1 w' i];exact⟨rfl,rfl⟩
    |true=>
     rw[Z] at h;simp only[lN] at h;obtain⟨v,h1,j⟩:=h;refine⟨v,fun w' i=>?_,X v j⟩;unfold Oper.quietAt;rw[q];rw[B,T g Z];exact⟨rfl,nz (h1 w' i) fun en w3 ⟨v',q1,q2,q3⟩=>⟨by rw[q1,q2],q3⟩⟩
   |_=>exact m h
  |_=>exact m h
 |convert s d x=>
  obtain⟨v,h1,j⟩:=h;exact conv v (fun w' i=>⟨v,w',h1 w' i,rfl,rfl⟩) j
 |slice t x lo hi mx=>
  obtain⟨v,h1,j⟩:=h;exact conv v (fun w' i=>⟨v,w',h1 w' i,rfl,rfl⟩) j
 |_=>exact m h
def Jd{C:World->Prop}{ops:Array Oper}{Q Q':Act->Prop}(m:∀a,Q a->Q' a):∀(l:List Oper) (a:Act),wpQuiet P ops C Q l a->wpQuiet P ops C Q' l a:=by
 intro l;induction l with
 |nil=>intro a h;exact m _ h
 |cons o r j=>
  intro a h;unfold wpQuiet at h ⊢;split
  .rename_i i;rw[DN i] at h;exact Oper.quiet_mono j h
  .rename_i i;rw[Bq i] at h;exact j _ h
def IA(ds:List Deferred)(n:Nat)(l:List Oper)(e:Env)(K:Env->Prop):Act->Prop:=fun i=>∃e',Fr ds n e' i/\(∀j,(∀o∈l,o.dst≠some j)->e' j=e j)/\K e'
def RI{ds:List Deferred}(ak:DR P ok){C:World->Prop}{ops:Array Oper}{K:Env->Prop}:∀(l:List Oper) (i:Nat) (kn:List (Nat×Option Bool)) (e:Env) (a:Act),
  ops.toList.drop i=l->GP ops.toList kn e->Fr ds n e a->Kb P ok n C ops.toList K w l i kn e->
  wpQuiet P ops C (IA ds n l e K) l a:=by
 intro l;induction l with
 |nil=>
  intro i kn e a _ _ Y h;exact⟨e,Y,fun _ _=>rfl,h⟩
 |cons o m ih=>
  intro i kn e a hl O Y h;have al:Ce ops.toList i=o.dst:=by
   have:ops.toList[i]?=some o:=by
    have:=kZ (fun l=>l[0]?) hl;simpa using this
   rw[DA,this];rfl
  have a6:ops.toList.drop (i+1)=m:=by
   have:=kZ List.tail hl;simpa using this
  have T:∀(v:Value) (a':Act),wpQuiet P ops C (IA ds n m (CG n e o.dst v) K) m a'->wpQuiet P ops C (IA ds n (o::m) e K) m a':=
   fun v a' hh=>Jd (fun a ⟨e',h1,h2,h3⟩=>⟨e',h1,fun j hj=>by
    rw [h2 j (fun o' an=>hj o' (by simp [an]))];exact HV (hj o (by simp)),h3⟩) m a' hh
  simp only[Kb] at h;cases Q:GY o.dst kn ops.toList with
  |true=>simp only[Q,lN] at h
  |false=>
   simp only[Q,lL] at h;have OA:∀B,(∀v,GP ops.toList B (CG n e o.dst v))->bL P ok C o (ev e) (fun v=>Kb P ok n C ops.toList K w m (i+1) B (CG n e o.dst v)) w->
     o.quiet P a C (wpQuiet P ops C (IA ds n (o::m) e K) m):=by
    intro B hk Z;exact TG ak Y Z fun v U=>T v _ (ih (i+1) B _ _ a6 (hk v) (Y.put o.dst v) U)
   have q:∀B,GP ops.toList B (CG n e o.dst undef)->Kb P ok n C ops.toList K w m (i+1) ((i,none)::B) (CG n e o.dst undef)->
     wpQuiet P ops C (IA ds n (o::m) e K) m (a.put o.dst undef):=by
    intro B hk Z;refine T undef _ (ih (i+1) _ _ _ a6 (hk.cons ?_) (Y.put o.dst undef) Z);unfold yv;rw[al];cases hd:o.dst with
    |none=>rfl
    |some d=>
     have:=(Y.put o.dst undef).get d;rw[hd] at this;show bv (CG n e (some d) undef d)=none;rw[<-this];by_cases a7:d<a.tmps.size
     .simp[Act.put,a7];rfl
     .simp[Act.put,a7];rfl
   have hy:=fun j=>I9 (n:=n) Y (ops:=ops) (j:=j);unfold wpQuiet;cases hg:o.guard with
   |none=>
    simp only[hg] at h;rw[DN (by simp[Region.wanted,hg])];exact OA kn (fun v=>O.put Q v) h
   |some g=>
    obtain⟨j,J⟩:=g;simp only[hg] at h;have hw:Region.wanted o (yielded ops a.tmps)=(yv ops.toList e j==some J):=by simp only[Region.wanted,hg,hy]
    rw[hw];cases a1:Fl kn j with
    |some b=>
     rw[O j b a1];simp only[a1] at h;cases b with
     |none=>
      simp only at h;rw[Bq (by simp)];exact q kn (O.put Q _) h
     |some b=>
      simp only[MG] at h;cases V:(b==J) with
      |true=>
       simp only[V,lN] at h;rw[DN (by simpa using V)];exact OA kn (fun v=>O.put Q v) h
      |false=>
       simp only[V,lL] at h;rw[Bq (by simpa using V)];exact q kn (O.put Q _) h
    |none=>
     simp only[a1] at h;cases hd:Ce ops.toList j with
     |none=>simp only[hd] at h
     |some d=>
      simp only[hd] at h;cases I:GY o.dst ((j,none)::kn) ops.toList with
      |true=>simp only[I,lN] at h
      |false=>
       simp only[I,lL] at h;have a8:yv ops.toList e j=bv (e d):=by simp[yv,hd]
       have X:∀b,bv (e d)=b->∀v,GP ops.toList ((j,b)::kn) (CG n e o.dst v):=fun b hb v=>
        (O.cons (a8.trans hb)).put (d:=o.dst) (by
         simp only[GY] at I ⊢;cases av:o.dst with
         |none=>rfl
         | some t=>rw [av] at I;simpa [List.any_cons] using I) v
       rw[a8];rcases HR h with⟨U,hb⟩|⟨U,hb⟩
       .rw[G1 U] at hb;rw[U];cases J with
        |true=>
         simp only[lN] at hb;rw[DN (by rfl)];exact OA _ (X _ (by rw[U];rfl)) hb
        |false=>
         simp only[lL] at hb;rw[Bq (by simp[bv])];exact q _ (X _ (by rw[U];rfl) _) hb
       .rw[G1 U] at hb;rw[U];cases J with
        |true=>
         simp only[lN] at hb;rw[Bq (by simp[bv])];exact q _ (X _ (by rw[U];rfl) _) hb
        |false=>
         simp only[lL] at hb;rw[DN (by rfl)];exact OA _ (X _ (by rw[U];rfl)) hb
def WR{ro:Option Nat}{m:Nat}{ops:Array Oper}{Q:Exit->Act->World->Prop}(U:¬LetsOut Q)(B:ro=none\/ops.toList.all Uz=true):∀(l:List Nat) (a:Act) (w:World),wpOps P ops Q l a w->wpOpsIn (Wd ro) m P ops Q l a w:=by
 intro l;induction l with
 |nil=>intro a w h;exact h
 |cons i T j=>
  intro a w h;simp only[wpOps] at h;simp only[wpOpsIn];cases I:ops[i]? with
  |none=>simp only[I] at h ⊢;exact j _ _ h
  |some o=>
   simp only[I] at h ⊢;split
   .rename_i J;rw[DN J] at h;replace h:=h.resolve_right fun h=>U h.2
    refine⟨fun _ _=>trivial,?_⟩;have V:o.semAt ro a.eval=execOp a.eval o:=by
     rcases B with rfl|B
     .rfl
     .refine rP _ _ _ fun c hc=>?_;have:=lg.1 B o (by rw[Array.mem_toList_iff];exact qz I);simp[Uz,hc] at this
    rw[show(Wd ro).round=ro from rfl,V];unfold Oper.wp at h;generalize (execOp a.eval o).run P w=r at h ⊢;match r,h with
    |.ok (.value v) w',h=>exact j _ _ h
    |.ok .skip w',h=>exact j _ _ h
    |.ok (.defer d) w',h=>exact j _ _ h
    |.ok (.enter f args) w',h=>
     refine⟨(fun h=>by cases h),(qk.2 (nz h fun e q O=>?_):CallsIn Fence.wide _ _ _ _ _ _)⟩;cases e with
     |returned v=>exact j _ _ O
     |panicked Y=>exact O
     |outgrown=>exact O
    |.ok (.row row args) w',h=>
     refine⟨(fun h=>by cases h),?_⟩;intro c cs _;obtain⟨v,q,h1,X⟩:=h c cs;exact⟨v,q,j _ _ h1,(StepsIn.of_steps X).mono fun m _=>fenced_wide P m⟩
    |.halt (.panic v) w',h=>exact h
   .rename_i J;rw[Bq J] at h;exact⟨fun _ _=>trivial,j _ _ h⟩
def PV{ro:Option Nat}{m:Nat}{id:Nat}{ops:Array Oper}{Q:Exit->Act->World->Prop}{a:Act}(hm:P.follows .mixedOrders=true)(i:¬LetsOut Q)(j:ro=none\/ops.toList.all Uz=true)
 (h:wpAny P .any ops Q ops.size (Array.replicate ops.size false) a { w with drawn:=w.drawn+1 }):(Code.region id ops true).wpIn (Wd ro) m P Q a w:=
 wpIn_region_draw fun t=>WR i j _ _ _ (by
  simp only [Region.schedule,hm,Bool.true_or,lT];exact wpAny_sound ops.size t _ a _ h)
def Po{ds:List Deferred}{all:List Oper}{e0:Env}{K:Env->World->Prop}:¬LetsOut (II ds all n e0 K):=by
 rintro⟨a,w,h,_⟩;cases h
def Qi{ds:List Deferred}{L:List Nat}{e:Env}{a:Act}(i:Fr ds n e a):L.map (fun t=>a.tmps.getD t undef)=L.map e:=nX fun t _=>i.get t
def Jt{ds:List Deferred}{ro:Option Nat}{m:Nat}(al:DR P ok)(hm:P.follows .mixedOrders=true):∀(c:Code) (an:O7) (Q:EQ) (e:Env) (w:World) (a:Act),ro=none\/LY c=true->Fr ds n e a->D P ok n c an Q e w->c.wpIn (Wd ro) m P (lift n ds c e Q) a w:=by
 intro c;induction c with
 |skip=>intro an Q e w a q T h;exact wpIn_skip ⟨e,T,fun _ _=>rfl,h⟩
 |exit id=>intro an Q e w a q T h;exact wpIn_exit ⟨e,T,fun _ _=>rfl,h⟩
 |ret=>intro an Q e w a q T h;exact wpIn_ret ⟨e,T,fun _ _=>rfl,h⟩
 |label l=>intro an Q e w a q T h;exact wpIn_label ⟨e,T,fun _ _=>rfl,h⟩
 |goto l=>intro an Q e w a q T h;exact h.elim
 |refuse y=>intro an Q e w a q T h;exact h.elim
 |scope x ih=>
  intro an Q e w a q T h;obtain rfl:ro=none:=q.resolve_right (by simp[LY]);refine(wpIn_wide (n:=m)).2 (wp_scope_straight (wp_mono ((wpIn_wide (n:=m)).1 (ih an (jo Q) e w a (.inl rfl) T h)) ?_));rintro ex U w' ⟨e',h1,O,J⟩;cases ex with
  |goto l=>exact J.elim
  |normal=>exact⟨e',h1,fun j B=>O j B,J⟩
  |exit i=>exact⟨e',h1,fun j B=>O j B,J⟩
  |ret=>exact⟨e',h1,fun j B=>O j B,J⟩
  |panic c=>exact⟨e',h1,fun j B=>O j B,J⟩
  |outgrown=>exact⟨e',h1,fun j B=>O j B,J⟩
 |rangeFunc f ps x y b7 b8=>intro an Q e w a q T h;exact h.elim
 |region id ops draw=>
  intro an Q e w a q T h;simp only[D] at h;cases draw with
  |false=>
   refine wpIn_region_list (Ix ?_ _ _ _ (Rr al ops.toList 0 [] e w a rfl (fun j b hb=>by simp[Fl] at hb) T h));rintro ex U w' ⟨rfl,e',h1,O,J⟩;exact⟨e',h1,fun j B=>O j (fun o ho hd=>B ⟨o,ho,hd⟩),J⟩
  |true=>
   simp only at h;have hD:ro=none\/ops.toList.all Uz=true:=q.imp (fun h=>h) fun h=>by simpa[LY] using h
   cases an with
   |draw=>
    simp only at h;cases hB:Region.lexB .any ops with
    |false=>rw[hB] at h;exact h.elim
    |true=>
     rw [hB] at h;simp only [lN] at h;obtain ⟨C,hC,h⟩:=h;simp only [Region.lexB,cL] at hB;have:=RI al ops.toList 0 [] e a rfl (fun j b hb=>by simp [Fl] at hb) T h;refine nB (Q:=fun ex U w'=>ex=.normal/\lift n ds (.region id ops true) e Q .normal U w') (PV hm (fun ⟨_,_,h,_⟩=>by cases h) hD ?_) (by rintro ex U w' ⟨rfl,h⟩;exact h);refine wpAny_of_quiet (Q:=fun U=>∀ w',C w'->lift n ds (.region id ops true) e Q .normal U w') (fun _ w' X h=>⟨rfl,h w' X⟩) _ _ _ _ hC ?_;have h9:=wpAnyQ_lex (C:=C) (md:=.any) hB.1 ops.toList 0 (Array.replicate ops.size false) a (by simp) (by simpa using hB.2) (Jd (Q':=fun U=>∀ w',C w'->lift n ds (.region id ops true) e Q .normal U w') (by
      rintro U ⟨e',h1,O,J⟩ w' X;exact ⟨e',h1,fun j B=>O j (fun o ho hd=>B ⟨o,ho,hd⟩),J w' X⟩) _ _ this)
     simpa using h9
   |dt BG AN Gs t=>
    simp only at h;cases hB:(WN n ops.toList BG AN Gs&&Sf ops.toList.length BG AN t) with
    |false=>rw[hB] at h;exact h.elim
    |true=>
     rw[hB] at h;simp only[lN] at h;simp only[cL] at hB;refine nB (PV hm Po hD (QL (K:=fun e w=>Q .normal e w) al hm T hB.1 hB.2 h)) ?_;rintro ex U w' ⟨rfl,e',h1,O,J⟩;exact⟨e',h1,fun j B=>O j (fun o ho hd=>B ⟨o,ho,hd⟩),J⟩
   |_=>exact h.elim
 |cond c x y a7 a8=>
  intro an Q e w a q T h;cases an with
  |nil=>exact h.elim
  |cut=>exact h.elim
  |draw=>exact h.elim
  |dt=>exact h.elim
  |node L W Y Z=>
   have ax:a.eval c=ev e c:=by rw[T.eval]
   rcases HR h with⟨hv,hb⟩|⟨hv,hb⟩
   .refine wpIn_cond_true (ax.trans hv) (nB (a7 Y Q e w a (q.imp id fun h=>by simp only[LY,cL] at h;exact h.1) T hb) ?_);rintro ex U w' ⟨e',h1,O,J⟩;exact⟨e',h1,fun j B=>O j (fun V=>B (.inl V)),J⟩
   .refine wpIn_cond_false (ax.trans hv) (nB (a8 Z Q e w a (q.imp id fun h=>by simp only[LY,cL] at h;exact h.2) T hb) ?_);rintro ex U w' ⟨e',h1,O,J⟩;exact⟨e',h1,fun j B=>O j (fun V=>B (.inr V)),J⟩
 |block id x ih=>
  intro an Q e w a q T h;refine wpIn_block (nB (ih an (jK id Q) e w a q T h) ?_);rintro ex U w' ⟨e',h1,O,J⟩;cases ex with
  |exit i=>
   simp only[jK] at J;simp only[Exit.inBlock];cases hb:Nat.beq i id with
   |true=>rw[hb] at J;rw[DN (lJ hb)];exact⟨e',h1,O,J⟩
   |false=>
    rw[hb] at J;rw[Bq (by intro e1;subst e1;simp at hb)];exact⟨e',h1,O,J⟩
  |_=>exact⟨e',h1,O,J⟩
 |seq x y a7 a8=>
  intro an Q e w a q T h;have ak:∀{e1 e2:Env},(∀j,¬Wr x j->e1 j=e j)->(∀j,¬Wr y j->e2 j=e1 j)->∀j,¬Wr (.seq x y) j->e2 j=e j:=fun h1 O j B=>
   (O j fun V=>B (.inr V)).trans (h1 j fun V=>B (.inl V))
  have a6:∀{e1:Env},(∀j,¬Wr x j->e1 j=e j)->∀j,¬Wr (.seq x y) j->e1 j=e j:=fun h1 j B=>h1 j fun V=>B (.inl V);cases an with
  |nil=>exact h.elim
  |draw=>exact h.elim
  |dt=>exact h.elim
  |node L W Y Z=>
   refine wpIn_seq (nB (a7 Y _ e w a (q.imp id fun h=>by simp only[LY,cL] at h;exact h.1) T h) ?_);rintro ex U w' ⟨e',h1,O,J⟩;cases ex with
   |normal=>
    refine nB (a8 Z Q e' w' U (q.imp id fun h=>by simp only[LY,cL] at h;exact h.2) h1 J) ?_;rintro ex b1 b2 ⟨av,h4,h5,h6⟩;exact⟨av,h4,ak O h5,h6⟩
   |_=>exact⟨e',h1,a6 O,J⟩
  |cut L W Y Z=>
   simp only[D] at h;cases V:Ip W x with
   |false=>simp only[V,lL] at h
   |true=>
    simp only[V,lN] at h;obtain⟨I,hI,hG⟩:=h;refine wpIn_seq (nB (a7 Y _ e w a (q.imp id fun h=>by simp only[LY,cL] at h;exact h.1) T hG) ?_);rintro ex U w' ⟨e',h1,O,J⟩;cases ex with
    |normal=>
     have h4:=hI _ _ J e';rw[P4 (fun j B=>O j fun X=>by rw[Dv V j X] at B;cases B)] at h4;refine nB (a8 Z Q e' w' U (q.imp id fun h=>by simp only[LY,cL] at h;exact h.2) h1 h4) ?_;rintro ex b1 b2 ⟨av,h5,h6,h7⟩;exact⟨av,h5,ak O h6,h7⟩
    |_=>exact⟨e',h1,a6 O,J⟩
 |loop x ih=>
  intro an Q e w a q T h;cases an with
  |nil=>exact h.elim
  |cut=>exact h.elim
  |draw=>exact h.elim
  |dt=>exact h.elim
  |node L W Y Z=>
   simp only[D] at h;cases V:Ip W x with
   |false=>simp only[V,lL] at h
   |true=>
    simp only[V,lN] at h;obtain⟨I,μ,h0,hR⟩:=h;refine wpIn_loop (fun U w'=>∃e',Fr ds n e' U/\(∀j,¬Wr x j->e' j=e j)/\I (L.map e') w') (fun U w'=>μ (L.map fun t=>U.tmps.getD t undef) w') ⟨e,T,fun _ _=>rfl,h0⟩ ?_;rintro a1 w1 ⟨e1,ay,b0,b6⟩;have h4:=hR _ _ b6 e1;rw[P4 (fun j B=>b0 j fun X=>by rw[Dv V j X] at B;cases B)] at h4;refine nB (ih Y _ e1 w1 a1 q ay h4) ?_;rintro ex a2 w2 ⟨e2,h5,h6,h7⟩;have h8:∀j,¬Wr x j->e2 j=e j:=fun j B=>(h6 j B).trans (b0 j B);cases ex with
    |normal=>
     refine⟨⟨e2,h5,h8,h7.1⟩,?_⟩;rw[Qi h5,Qi ay];exact h7.2
    |_=>exact⟨e2,h5,h8,h7⟩
def LD(P:Program):List ResultVar->Env->World->(List Value->Prop)->Prop
 |[],_,_,K=>K []
 |.tmp t::r,e,w,K=>LD P r e w fun vs=>K (e t::vs)
 |.cell a t::r,e,w,K=>match Hc P t with
  |some (false,_)=>AJ (e a) (fun v w'=>LD P r e w' fun vs=>K (v::vs)) w
  |some (true,k)=>Aa k (e a) (fun v w'=>LD P r e w' fun vs=>K (v::vs)) w
  |none=>False
def RK:List Value->Value
 |[v]=>v
 |vs=>.tuple vs.toArray
def gQ(P:Program)(rs:List ResultVar)(K:Cont):EQ:=fun ex e w=>match ex with
 |.normal=>LD P rs e w fun vs=>K (RK vs) w
 |.ret=>LD P rs e w fun vs=>K (RK vs) w
 |_=>False
def Hx(f:Func):Code:=match f.body with|some c=>c|none=>.skip
def WC{ds:List Deferred}{e:Env}{a:Act}(q:Fr ds n e a)(f:ResultVar->Sem Value)(B:∀t,f (.tmp t)=pure (a.tmps.getD t undef))(I:∀x t,f (.cell x t)=(do loadVar t (<- asAddr (a.tmps.getD x undef)))):∀(rs:List ResultVar) (K:List Value->Prop),LD P rs e w K->
  ∃vs,(rs.mapM f:Sem (List Value)).run P w=.ok vs w/\K vs:=by
 intro rs;induction rs with
 |nil=>intro K h;exact⟨[],by simp,h⟩
 |cons r rs J=>
  intro K h;cases r with
  |tmp t=>
   obtain⟨vs,h1,j⟩:=J _ h;refine⟨_,?_,j⟩;rw[rC];rw[kL,B];simp only[lU,S9];rw[kL,h1];simp only[S9,lU,q.get]
  |cell x t=>
   simp only[LD] at h;have key:∀v,(loadVar t ·:Addr->Sem Value)=(loadVar t ·)->LD P rs e w (fun vs=>K (v::vs))->(do loadVar t (<- asAddr (a.tmps.getD x undef)):Sem Value).run P w=.ok v w->
     ∃vs,((ResultVar.cell x t::rs).mapM f:Sem (List Value)).run P w=.ok vs w/\K vs:=by
    intro v _ o O;obtain⟨vs,h1,j⟩:=J _ o;refine⟨_,?_,j⟩;rw[rC];rw[kL,I,O];simp only[S9];rw[kL,h1];simp only[S9,lU]
   split at h
   .rename_i k ha;obtain⟨p,v,h1,j,o⟩:=h;refine key v rfl o ?_;have m:a.tmps.getD x undef=.pointer (some p):=(q.get x).trans h1;rw[kL,m];simp only[asAddr,lU,S9];simp[loadVar,(Ed ha w).1,j]
   .rename_i k ha;obtain⟨p,vs,h1,hl,j,o⟩:=h;refine key _ rfl o ?_;have m:a.tmps.getD x undef=.pointer (some p):=(q.get x).trans h1;rw[kL,m];simp only[asAddr,lU,S9];have i:=run_loadCells_list (P:=P) (w:=w) p vs j;simp only[loadVar,kL,(Ed ha w).1,(Ed ha w).2,S9,lT];rw[<-hl,i];rfl
   .exact h.elim
def Ga{ds:List Deferred}{fn:Func}{e:Env}{a:Act}{K:Cont}(i:Fr ds n e a)(h:LD P fn.results.toList e w fun vs=>K (RK vs) w) :
  ∃v,(results fn a.tmps).run P w=.ok v w/\K v w:=by
 obtain⟨vs,h1,j⟩:=WC i (fun x=>match x with|.tmp t=>pure (a.tmps.getD t undef)|.cell y t=>do loadVar t (<- asAddr (a.tmps.getD y undef))) (fun _=>rfl) (fun _ _=>rfl) _ _ h;refine⟨_,?_,j⟩;unfold results;rw[kL,qQ,Sem.run_map]
 erw [h1]
 simp only[S9,lU];congr 1
 match vs with
 |[]=>rfl
 |[v]=>rfl
 |v::u::r=>simp[RK]
def R7{m:Nat}(q:args.length<=m):Fr [] m (nth args) { tmps:=args.toArray++Array.replicate (m-args.toArray.size) undef,defers:=[] }:=by
 have i:∀(l:List Value) (t:Nat),nth l t=l.getD t undef:=by
  intro l;induction l with
  |nil=>
   intro t;induction t with
   |zero=>rfl
   |succ t o=>simpa[nth] using o
  |cons v l o=>intro t;cases t with
   |zero=>simp[nth]
   |succ t=>simp[nth,o]
 refine⟨by simp;omega,fun t=>?_,rfl⟩;rw[i];simp only[mi,q7,nP,List.getElem?_toArray,lj];split
 .rfl
 .rename_i B;rw[kY (by omega)];cases j:(Array.replicate (m-args.length) undef)[t-args.length]? with
  |none=>rfl
  |some v=>
   rw[qY] at j;split at j
   .cases j;rfl
   .cases j
def VY{g:Nat}{fn:Func}{c:Code}{rs:List ResultVar}{K:Cont}{an:O7}(i:DR P ok)(hm:P.follows .mixedOrders=true)(O:P.funcs[g]?=some fn)
 (hb:fn.body=some c)(Q:fn.ntmps=n)(j:fn.results.toList=rs)(hl:Nat.ble args.length n=true)(h:D P ok n c an (gQ P rs K) (nth args) w):AB P g args K w:=by
 refine calls_of_wp O hb ?_;have o:=mN hl;subst Q;have q:=R7 o;refine wp_mono ((wpIn_wide (n:=0)).1 (Jt (ds:=[]) (ro:=none) (m:=0) i hm c an _ _ w _ (.inl rfl) q h)) ?_;rintro ex T w' ⟨e',h1,_,B⟩;subst j;cases ex with
 |normal=>
  obtain⟨v,I,J⟩:=Ga h1 B;exact⟨h1.defers,v,I,v,rfl,J⟩
 |ret=>
  obtain⟨v,I,J⟩:=Ga h1 B;exact⟨h1.defers,v,I,v,rfl,J⟩
 |_=>exact B.elim
attribute [irreducible] D
end
def jm:List Nat:=[2,3,4,5,6,7,8,9,10,11,12,13,14,15,16,17,18,19,20,21,22,23,24,25,26,27,28,29,30,31,32,33,34,35,36,37,38,39,40,41,42,43,44,45,46,47,48,49,50,51,52,53,54,55,56,57,58,59,60,61,62,63,64,65,66,67,68,69,70,71,72,73,74,75,76,77,78,79,80,81,82,83,84,85,86,87,88,89,90,91,92,93,94,95,96,97,98,99,100,101,102,103,104,105,106,107,108,109,110,111,112,113,114,115,116,117,118,119,120,121,122,123,124,125,126,127,128,129,130,131,132,133,134,135,136,137,138,139,140,141,142,143,144,145,146,147,148,149,150,151,152,153,154,155,156,157,158,159,160,161,162,163,164,165,166,167,168,169,170,171,172,173,174,175,176,177,178,179,180,181,182,183,184,185,186,187,188,189,190,191,192,193,194,195,196,197,198,199,200,201,202,203,204,205,206,207,208,209,210,211,212,213,214,215,216,217,218,219,220,221,222,223,224,225,226,227,228,229,230,231,232,233,234,235,236,237,238,239,240,241,242,243,244,245,246,247,248,249,250,251,252,253,254,255,256,258,259,260,261,262,263,264,265,266,267,268,269,270,271,272,273,274,275,276,277,278,279,280,281,282,283,284,286,287,288,289,290,291,292,293,294,295,296,297,298,299,300,337]
def Cq(g:Nat):Bool:=jm.any fun x=>Nat.beq x g
def mixed:prog.follows .mixedOrders=true:=by kernel_rfl
set_option maxRecDepth 100000 in
def im:∀g∈jm,∀args w,(callFunc g args).run prog w=.ok (.enter g args) w:=by
 unfold jm;simp only[List.forall_mem_cons];exact⟨call2,call3,call4,call5,call6,call7,call8,call9,call10,call11,call12,call13,call14,call15,call16,call17,call18,call19,call20,call21,call22,call23,call24,call25,call26,call27,call28,call29,call30,call31,call32,call33,call34,call35,call36,call37,call38,call39,call40,call41,call42,call43,call44,call45,call46,call47,call48,call49,call50,call51,call52,call53,call54,call55,call56,call57,call58,call59,call60,call61,call62,call63,call64,call65,call66,call67,call68,call69,call70,call71,call72,call73,call74,call75,call76,call77,call78,call79,call80,call81,call82,call83,call84,call85,call86,call87,call88,call89,call90,call91,call92,call93,call94,call95,call96,call97,call98,call99,call100,call101,call102,call103,call104,call105,call106,call107,call108,call109,call110,call111,call112,call113,call114,call115,call116,call117,call118,call119,call120,call121,call122,call123,call124,call125,call126,call127,call128,call129,call130,call131,call132,call133,call134,call135,call136,call137,call138,call139,call140,call141,call142,call143,call144,call145,call146,call147,call148,call149,call150,call151,call152,call153,call154,call155,call156,call157,call158,call159,call160,call161,call162,call163,call164,call165,call166,call167,call168,call169,call170,call171,call172,call173,call174,call175,call176,call177,call178,call179,call180,call181,call182,call183,call184,call185,call186,call187,call188,call189,call190,call191,call192,call193,call194,call195,call196,call197,call198,call199,call200,call201,call202,call203,call204,call205,call206,call207,call208,call209,call210,call211,call212,call213,call214,call215,call216,call217,call218,call219,call220,call221,call222,call223,call224,call225,call226,call227,call228,call229,call230,call231,call232,call233,call234,call235,call236,call237,call238,call239,call240,call241,call242,call243,call244,call245,call246,call247,call248,call249,call250,call251,call252,call253,call254,call255,call256,call258,call259,call260,call261,call262,call263,call264,call265,call266,call267,call268,call269,call270,call271,call272,call273,call274,call275,call276,call277,call278,call279,call280,call281,call282,call283,call284,call286,call287,call288,call289,call290,call291,call292,call293,call294,call295,call296,call297,call298,call299,call300,call337,fun g i=>nomatch i⟩
def FM:DR prog Cq:=by
 intro g i;simp only[Cq,oo] at i;obtain⟨x,j,hb⟩:=i;have:=lJ hb;subst this;exact im x j
end Go.Proofs.YtmdhibffnkhcnaaGreatDoor
