/- parts of the proof, written short by a program of ours -/
import Derived.Orders
import Derived.Scope
import Derived.Below
import Derived.Laws.Sem
import Derived.Laws.World
import Derived.Laws.Cells
import Derived.Laws.Small
import Derived.Laws.Entries
import Derived.Laws.Strings
import Derived.Still
import Derived.Tactics
import Derived.Deep.Quiet
import Derived.RangeFuncIn
import Derived.TacticsIn
import Derived.Test.YtbdjachmndlplaaGreatDoorProg
import Derived.KernelRfl
import GoSem.Claims
import Derived.Laws.AppendOwnNone
import Derived.WalkKit
import Derived.RangeFuncOwn
import Derived.RangeFuncLeaves
import Derived.ProofKit
import Derived.Lib.SmallJoins
import Derived.Deep.Slices
import Derived.Laws.IdiomStrings
import Derived.MapKept
import Derived.Lib.LaidU8
import Derived.Lib.LaidIn
import Derived.LaidHandle
import Derived.LaidMore
import Derived.MakeChecks
import Derived.Laws.BytesArg
import Derived.Lib.Zigzag
import Derived.Shelf.GgSortFunc.InsertionK
import Derived.Shelf.SlSortCmp.WholeK
import Derived.Shelf.SlSortCmp.NoneTotal
import Derived.Lib.AppendZeros
import Derived.ChangeKeysEq
import Derived.Laws.Cover3
import Derived.Lib.SlBytesConst
import Derived.OpenShut
import Derived.ShutString
import Derived.ChangeOld
import Derived.ChangeVars
import Derived.JoinedOf
import Derived.SevenTiedAt
set_option maxRecDepth 100000
set_option linter.unusedSimpArgs false
set_option linter.unusedVariables false
set_option linter.defProp false
namespace Go.Proofs.YtbdjachmndlplaaGreatDoor
open Go Proofs.Tryz
variable {j N:Nat}{w:World}{F S:Nat->Prop}{v sv:Value}{cs args:List Value}{yo xo:Operand}
def Ad:=@List.getElem?_eq_some_iff
def BW:=@List.length_append
def Bp:=@if_neg
def Bq:=@List.getElem?_eq_getElem
def By:=@List.mem_append
def DN:=@if_pos
def Hy:=@List.length_drop
def I3:=@List.length_map
def K8:=@Nat.le_refl
def Lc:=@List.length_take
def Mp:=@List.mem_cons
def Nn:=@Nat.zero_le
def No:=@Nat.lt_of_lt_of_le
def Nr:=@List.headD_cons
def Of:=@List.eq_nil_of_length_eq_zero
def P9:=@List.append_assoc
def QC:=@Nat.succ_pos
def Q0:=@List.getElem?_append_left
def S4:=@World.cell?_setCell_other
def S5:=@List.take_add_one
def S6:=@List.mem_singleton
def S7:=@List.take_length
def S9:=@Result.andThen_ok
def TC:=@List.take_append_drop
def Za:=@List.cons_append
def cq:=@List.getLast?_append
def gC:=@Bool.and_eq_true
def gD:=@List.length_cons
def gM:=@Option.some.injEq
def jD:=@decide_eq_true_eq
def kY:=@List.getLast?_singleton
def kZ:=@List.map_append
def ku:=@List.getElem_mem
def kx:=@List.mem_cons_of_mem
def ky:=@List.mem_of_mem_drop
def lA:=@List.append_nil
def lC:=@List.mem_append_left
def lD:=@Option.isSome_iff_exists
def lE:=@List.mem_append_right
def lF:=@List.getElem?_append_right
def lG:=@List.length_set
def lH:=@Sem.run_bind
def lI:=@List.nodup_append
def lJ:=@List.mem_of_mem_take
def lK:=@Option.some.inj
def lL:=@List.getElem?_set_self
def lM:=@World.cell?_setCell_same
def lN:=@Classical.byContradiction
def lO:=@List.map_cons
def lP:=@List.getElem?_eq_none
def lQ:=@Nat.min_eq_left
def lS:=@List.eq_nil_or_concat
def lT:=@List.mem_map
def lU:=@World.block_lt_of_cell?
def lV:=@congrArg
def lW:=@if_false
def lX:=@List.length_nil
def lY:=@List.getElem?_set_ne
def lZ:=@Nat.eq_of_beq_eq_true
def lb:=@List.mem_cons_self
def lf:=@Nat.add_zero
def lg:=@List.nil_append
def lh:=@decide_eq_false
def lj:=@cond_false
def ln:=@List.mem_of_getElem?
def lp:=@cond_true
def lq:=@decide_eq_true
def lu:=@Option.some_or
def lx:=@Nat.le_trans
def ly:=@List.getElem?_map
def lz:=@List.mem_iff_getElem?
def l9:=@List.not_mem_nil
def mB:=@List.concat_eq_append
def mC:=@Nat.add_mul
def mE:=@List.flatMap_cons
def mF:=@if_true
def mG:=@Sem.run_pure
def mH:=@Int.toNat_natCast
def mI:=@List.drop_eq_getElem_cons
def mJ:=@List.set_append_right
def mK:=@DataW.trod_int
def mL:=@List.all_eq_true
def mM:=@List.getElem?_drop
def mN:=@List.length_pos_iff
def mO:=@List.map_take
def mP:=@List.getD_eq_getElem?_getD
def mQ:=@Nat.zero_add
def mR:=@decide_eq_false_iff_not
def mS:=@Array.getElem?_toList
def mT:=@List.getElem?_take
def mU:=@List.take_of_length_le
def mV:=@Nat.mul_le_mul_right
def mW:=@List.dropLast_concat
def mX:=@List.map_drop
def mY:=@List.foldl_append
def mZ:=@Array.getElem?_eq_some_iff
def mb:=@List.pairwise_cons
def me:=@List.length_replicate
def mf:=@List.flatMap_append
def mg:=@List.mem_filter
def mh:=@List.map_nil
def mi:=@World.cell?_of_block
def mj:=@List.ext_getElem?
def mn:=@List.drop_eq_nil_of_le
def mo:=@Nat.add_assoc
def mq:=@Nat.le_of_ble_eq_true
def mr:=@List.foldl_cons
def mw:=@Option.map_some
def my:=@World.putObj_heap_other
def mz:=@List.drop_zero
def nA:=@List.getElem_map
def nB:=@List.take_take
def nD:=@List.getLast?_eq_some_getLast
def nE:=@List.pairwise_iff_getElem
def nG:=@List.getElem_append_right
def nH:=@BitVec.toNat_ofInt
def nJ:=@MapKept.run_getObj_map
def nK:=@List.Perm.refl
def nL:=@List.take_succ_cons
def nN:=@List.drop_succ_cons
def nO:=@Array.getD_eq_getD_getElem?
def nP:=@List.mem_of_getLast?
def nQ:=@List.filter_eq_self
def nR:=@List.take_append_of_le_length
def nS:=@run_sliceAt_slice
def nT:=@List.length_singleton
def nU:=@List.length_filter_le
def nV:=@List.Sublist.count_le
def nW:=@List.mem_range
def nX:=@List.getElem_append_left
def nY:=@Bool.false_eq_true
def nZ:=@wpIn_mono
def nd:=@List.drop_length
def nf:=@List.sum_cons
def nh:=@List.size_toArray
def ni:=@Int.emod_eq_of_lt
def nj:=@Array.length_toList
def nk:=@MapKept.run_findKey
def nm:=@run_equalIn_int
def np:=@List.cons.injEq
def ns:=@List.getLast?_eq_none_iff
def nu:=@List.map_map
def nw:=@or_false
def nx:=@List.take_zero
def ny:=@Value.slice.injEq
def nz:=@Nat.add_sub_cancel_left
def oB:=@List.take_sublist
def oD:=@Bool.or_eq_true
def oE:=@Bool.eq_iff_iff
def oF:=@Ne.symm
def oG:=@List.sum_nil
def oH:=@List.filter_eq_nil_iff
def oI:=@Nat.mul_one
def oJ:=@List.take_append
def oK:=@List.drop_append
def oO:=@Int.fdiv_eq_ediv_of_nonneg
def oQ:=@List.filter_append
def oT:=@List.getElem_set_self
def oV:=@Bool.not_eq_true'
def oX:=@List.getElem?_append
def oY:=@MapKept.run_checkKey
def oZ:=@List.getElem?_set
def ob:=@List.getElem_take
def od:=@List.count_append
def oe:=@List.mem_iff_getElem
def og:=@Calls.mono
def oh:=@List.map_congr_left
def oi:=@List.map_eq_nil_iff
def oj:=@Nat.mul_le_mul_left
def om:=@List.nodup_nil
def oo:=@List.drop_drop
def oq:=@List.flatMap_nil
def ot:=@List.getElem?_cons_succ
def ow:=@List.getElem?_cons_zero
def oy:=@List.set_cons_zero
def oz:=@MapKept.run_setObj_map
def o0:=@Nat.le_of_eq
def pA:=@Option.map_eq_some_iff
def pB:=@List.getLast?_drop
def pC:=@List.take_left'
def pE:=@List.drop_left'
def pG:=@Bool.true_and
def pH:=@Nat.ble_eq_true_of_le
def pI:=@List.dropLast_eq_take
def pJ:=@Iff.rfl
def pK:=@List.flatten_cons
def pL:=@Classical.not_not
def pM:=@Array.toArray_toList
def pN:=@List.foldl_nil
def pO:=@Nat.div_lt_of_lt_mul
def pP:=@List.any_eq_true
def pQ:=@Option.getD_some
def pR:=@Nat.div_add_mod'
def pS:=@getElem!_pos
def pT:=@List.countP_cons
def pU:=@Array.getElem?_eq_getElem
def pV:=@List.mem_of_find?_eq_some
def pW:=@List.length_filterMap_le
def pX:=@Sort.size_flatK
def pY:=@beq_iff_eq
def pZ:=@grownCap_le_maxLen
def pd:=@Value.string.injEq
def pf:=@Option.isNone_some
def pg:=@Nat.lt_of_le_of_lt
def ph:=@Nat.add_sub_cancel
def pj:=@List.countP_append
def pk:=@RowKit.Below.heap_alloc
def pn:=@List.length_eq_zero_iff
def po:=@List.getElem?_replicate
def pr:=@true_and
def pt:=@Array.toList_push
def px:=@heap_alloc_new
def py:=@Array.size_append
def pz:=@Nat.zero_mul
def p4:=@DataW.trod_struct
def p5:=@Nat.sub_self
def qA:=@Bool.false_and
def qB:=@List.length_pos_of_mem
def qC:=@Nat.add_comm
def qD:=@List.zipWith_cons_cons
def qE:=@List.replicate_append_replicate
def qF:=@World.cell?_alloc_new
def qG:=@List.dropLast_sublist
def qH:=@Array.toList_inj
def qI:=@World.size_alloc
def qJ:=@Int.mul_le_mul_of_nonneg_right
def qK:=@decide_eq_decide
def qL:=@MapKept.heap_set
def qM:=@Nat.le_of_not_lt
def qN:=@Nat.lt_irrefl
def qO:=@List.pairwise_append
def qP:=@List.Pairwise.filter
def qQ:=@Array.getElem?_setIfInBounds
def qR:=@run_equalIn_agg
def qS:=@run_eqGuard_agg
def qT:=@List.dropLast_concat_getLast
def qU:=@List.find?_some
def qV:=@List.head?_drop
def qW:=@List.flatten_append
def qX:=@List.getElem_set_ne
def qY:=@List.drop_set_of_lt
def qZ:=@Nat.add_lt_add_left
def qb:=@List.countP_pos_iff
def qd:=@Nat.mul_lt_mul_of_pos_right
def qe:=@Int.sub_self
def qf:=@Nat.lt_or_ge
def qg:=@List.mem_filterMap
def qh:=@List.set_cons_succ
def qi:=@Nat.lt_or_gt_of_ne
def qj:=@Nat.mod_lt
def qk:=@size_zeroCells
def ql:=@Array.getElem?_append_left
def qm:=@List.find?_eq_none
def qn:=@And.left
def qo:=@List.count_eq_zero
def qp:=@Array.mapM_eq_mapM_toList
def qq:=@List.mem_or_eq_of_mem_set
def qs:=@MakeChecks.laidMetH_plain
def qu:=@List.getLast?_eq_getElem?
def qv:=@List.getLast?_nil
def qw:=@Nat.sub_sub
def qx:=@Array.getElem?_replicate
def qy:=@List.length_erase_of_mem
def qz:=@not_not_intro
def q8:=@Option.bind_some
def q9:=@World.frozen?_alloc_new
def rA:=@List.mem_flatMap
def rB:=@List.getLast_eq_getElem
def rC:=@List.getLast?_cons_cons
def rD:=@callsIn_wide
def rE:=@World.frozen?_of_block
def rG:=@World.putObj_heap_same
def rH:=@Int.le_trans
def rI:=@Bool.not_not
def rJ:=@not_or
def rK:=@List.getElem_cons_zero
def rL:=@run_append_grow
def rM:=@List.find?_cons
def rN:=@World.var?_cell
def rO:=@List.nodup_cons
def rP:=@World.frozen?_setCell
def rQ:=@Array.mem_of_getElem?
def rR:=@Array.getElem?_append
def rS:=@Nat.div_lt_iff_lt_mul
def rT:=@List.singleton_append
def rU:=@Array.getElem?_modify
def rV:=@List.set_getElem_self
def rW:=@List.mapM_cons
def rX:=@growslice_fits
def rY:=@grownCap_ge
def rZ:=@run_neq_struct
def rb:=@World.alloc_heap_new
def re:=@Prod.mk.inj
def rf:=@run_slice_h
def rh:=@Nat.pow_le_pow_right
def ri:=@List.mem_erase_of_ne
def rj:=@Int.le_refl
def rk:=@Nat.le_succ
def rm:=@List.count_le_length
def rp:=@List.replicate_succ'
def ru:=@Option.or_none
def ry:=@false_iff
def rz:=@forall_congr'
def r8:=@Oper.semAt_eq
def r9:=@dif_pos
def sA:=@and_iff_left
def sB:=@Nat.pow_succ
def sC:=@Int.add_zero
def sD:=@and_true
def sE:=@List.set_set
abbrev zI(x:Int):Value:=.int .i64 x
abbrev Env:=Nat->Value
abbrev Cont:=Value->World->Prop
abbrev EQ:=Exit->Env->World->Prop
def GK(n:Nat)(e:Env)(i:Nat)(v:Value):Env:=λj=>bif Nat.beq j i&&Nat.blt i n then v else e j
def Bs(n:Nat)(e:Env)(d:Option Nat)(v:Value):Env:=match d with|some i=>GK n e i v|none=>e
def ev(e:Env)(x:Operand):Value:=match x with
 |.tmp t=>e t | .const v=>v | .global g=>.pointer (some ⟨g,0,none⟩) | .func f=>.func (.func f) #[] #[]
def nth:List Value->Nat->Value
 |vs,0=>vs.headD undef
 |vs,k+1=>nth vs.tail k
structure Fr (ds:List Deferred) (n:Nat) (e:Env) (a:Act):Prop where
 size:a.tmps.size=n
 get:∀t,a.tmps.getD t undef=e t
 defers:a.defers=ds
def Fr.eval{ds:List Deferred}{n:Nat}{e:Env}{a:Act}(h:Fr ds n e a):a.eval=ev e:=by
 funext x;cases x with
 |tmp t=>exact h.get t
 |const v=>rfl
 |global g=>rfl
 |func f=>rfl
def Fr.put{ds:List Deferred}{n:Nat}{e:Env}{a:Act}(h:Fr ds n e a)(d:Option Nat)(v:Value):Fr ds n (Bs n e d v) (a.put d v):=by
 cases d with
 |none=>exact h
 |some i=>
  refine⟨by simp[Act.put,h.size],λt=>?_,h.defers⟩;have j:=h.get t;simp only[Act.put,Bs,GK,nO,qQ,h.size];simp only[nO] at j;by_cases h1:i=t
  .subst h1;by_cases o:i<n
   .have m:Nat.blt i n=true:=pH (by omega);simp[o,m]
   .have q:a.tmps[i]?=none:=Array.getElem?_eq_none (by rw[h.size];omega);have m:Nat.blt i n=false:=by
     cases hb:Nat.blt i n with
     |false=>rfl
     |true=>exact absurd (mq hb) (by omega)
    rw[q] at j;simp[o,m,j]
  .have B:Nat.beq t i=false:=by
    cases hb:Nat.beq t i with
    |false=>rfl
    |true=>exact absurd (lZ hb).symm h1
   simp[h1,B,j]
def AZ(v:Value)(A B:Prop):Prop:=match v with|.bool true=>A|.bool false=>B|_=>False
def JA(c a b:Value)(K:Value->Prop):Prop:=match c with|.bool true=>K a|.bool false=>K b|_=>False
def CW(k:IntKind)(x y:Value)(K:Value->Prop):Prop:=∃a b,x=.int k a/\y=.int k b/\K (.int k (k.wrap (a+b)))
def DR(k:IntKind)(x y:Value)(K:Value->Prop):Prop:=∃a b,x=.int k a/\y=.int k b/\K (.int k (k.wrap (a-b)))
def UE(k:IntKind)(x y:Value)(K:Value->Prop):Prop:=∃a b,x=.int k a/\y=.int k b/\K (.int k (k.wrap (a*b)))
def GI(k:IntKind)(x y:Value)(K:Value->Prop):Prop:=∃a b,x=.int k a/\y=.int k b/\K (.bool (decide (a<b)))
def Xn(k:IntKind)(x y:Value)(K:Value->Prop):Prop:=∃a b,x=.int k a/\y=.int k b/\K (.bool (decide (a<=b)))
def T8(k:IntKind)(x y:Value)(K:Value->Prop):Prop:=∃a b,x=.int k a/\y=.int k b/\K (.bool (decide (b<a)))
def Rh(k:IntKind)(x y:Value)(K:Value->Prop):Prop:=∃a b,x=.int k a/\y=.int k b/\K (.bool (decide (b<=a)))
def Nw(k:IntKind)(x y:Value)(K:Value->Prop):Prop:=∃a b,x=.int k a/\y=.int k b/\K (.bool (decide (a=b)))
def PH(k:IntKind)(x y:Value)(K:Value->Prop):Prop:=∃a b,x=.int k a/\y=.int k b/\K (.bool (!decide (a=b)))
def Ue(x y:Value)(K:Value->Prop):Prop:=∃a b,x=.bool a/\y=.bool b/\K (.bool (a==b))
def UQ(x y:Value)(K:Value->Prop):Prop:=∃a b,x=.bool a/\y=.bool b/\K (.bool (!(a==b)))
def UN(x y:Value)(K:Value->Prop):Prop:=∃a b,x=.string a/\y=.string b/\K (.bool (decide (a=b)))
def Vz(x y:Value)(K:Value->Prop):Prop:=∃a b,x=.string a/\y=.string b/\K (.bool (!decide (a=b)))
def Jf(x:Value)(K:Bool->Prop):Prop:=∃a n c,x=.slice a n c/\K (Option.isNone a)
def Ge(x:Value)(K:Bool->Prop):Prop:=∃a,x=.pointer a/\K (Option.isNone a)
def LV(k:IntKind)(x y:Value)(K:Value->Prop):Prop:=∃a b,x=.int k a/\y=.int k b/\K (.int k (if b>a then b else a))
def MI(k:IntKind)(x y:Value)(K:Value->Prop):Prop:=∃a b,x=.int k a/\y=.int k b/\K (.int k (if b<a then b else a))
def Ke(x:Value)(K:Value->Prop):Prop:=∃a,x=.bool a/\K (.bool (!a))
def Dr(x:Value)(K:Value->Prop):Prop:=∃a n c,x=.slice a n c/\K (zI n)
def MT(x:Value)(K:Value->Prop):Prop:=∃s,x=.string s/\K (zI s.size)
def Af(x:Value)(K:Value->Prop):Prop:=∃a,x=.pointer (some a)/\K x
def BC(off:Nat)(x:Value)(K:Value->Prop):Prop:=∃a,x=.pointer (some a)/\K (.pointer (some (a.add off)))
def Ip(size:Nat)(x i:Value)(K:Value->Prop):Prop:=
 ∃a n c k j,x=.slice (some a) n c/\i=.int k j/\0<=j/\j<n/\K (.pointer (some (a.add (j.toNat*size))))
def Ay(x:Value)(K:Cont)(w:World):Prop:=∃a v,x=.pointer (some a)/\w.cell? a=some v/\K v w
def CX(k:Nat)(x:Value)(K:Cont)(w:World):Prop:=
 ∃a vs,x=.pointer (some a)/\List.length vs=k/\(∀j v,vs[j]?=some v->w.cell? (a.add j)=some v)/\K (.agg vs.toArray) w
def CB(x v:Value)(K:World->Prop)(w:World):Prop:=
 ∃a u,x=.pointer (some a)/\v.oneCell'=true/\v.cells=#[v]/\w.cell? a=some u/\w.frozen? a=false/\K (w.setCell a v)
def EN(w:World)(a:Addr):Nat->List Value->World
 |_,[]=>w
 |i,v::vs=>EN (w.setCell (a.add i) v) a (i+1) vs
def BP(k:Nat)(x v:Value)(K:World->Prop)(w:World):Prop:=
 ∃a vs,x=.pointer (some a)/\v=.agg (List.toArray vs)/\vs.length=k/\(∀v∈vs,v.oneCell'=true)/\
  (∀j,j<k->(w.cell? (a.add j)).isSome=true/\w.frozen? (a.add j)=false)/\K (EN w a 0 vs)
def Bt(t:TypeId)(cs:List Value)(K:Cont)(w:World):Prop:=K (.pointer (some ⟨w.heap.size,0,none⟩)) (w.alloc (.cells cs.toArray t))
def KH(t:TypeId)(x:Value)(K:Cont)(w:World):Prop:=x.cells=#[x]/\Bt t [x] K w
def Gf(t:TypeId)(x:Value)(K:Cont)(w:World):Prop:=∃vs,x=.agg (List.toArray vs)/\Bt t vs K w
def CV(places:List (Nat×Nat))(zero:List Value)(j:List (Nat×Value))(K:Value->Prop):Prop:=
 ∃cs,Instr.fill (λi=>places[i]?) zero.toArray j=some cs/\K (.agg cs)
def Dg(e:TypeId)(size len:Nat)(zero:List Value)(j:List (Nat×Value))(K:Cont)(w:World):Prop:=
 ∃cs,Instr.fill (λi=>some (i*size,size)) ((Array.range (len*size)).map (zero.toArray[· % zero.toArray.size]!)) j=some cs/\
  K (.slice (some ⟨w.heap.size,0,none⟩) len len) (w.alloc (.cells cs e))
def Ag(i:Nat)(x:Value)(K:Value->Prop):Prop:=∃vs v,x=.tuple (List.toArray vs)/\vs[i]?=some v/\K v
def runK(P:Program)(s:Sem Value)(K:Cont)(w:World):Prop:=∃v w',s.run P w=.ok v w'/\K v w'
def AB(P:Program)(g:Nat)(args:List Value)(K:Cont)(w:World):Prop:=
 Calls P g args.toArray w λe w'=>∃v,e=.returned v/\K v w'
def Tj(P:Program)(g:Nat)(args:List Value)(K:Cont)(w:World):Prop:=∃v w',(callFunc g args.toArray).run P w=.ok (.value v) w'/\K v w'
def BF(P:Program)(ok:Nat->Bool)(f:Value)(args:List Value)(K:Cont)(w:World):Prop:=
 ∃g i cap,f=.func (.func g) (List.toArray i) (List.toArray cap)/\ok g=true/\AB P g (i++args++cap) K w
def Cl(R:List Value->World->Prop)(G:(List Value->World->Prop)->Prop):Prop:=∃I:List Value->World->Prop,(∀vs w,I vs w->R vs w)/\G I
def FK(i:List Value)(F:List Value->(List Value->World->Prop)->World->Prop)(w:World):Prop:=
 ∃(I:List Value->World->Prop) (μ:List Value->World->Nat),I i w/\∀vs w,I vs w->F vs (λj w'=>I j w'/\μ j w'<μ vs w) w
def Ex(P:Program)(t:TypeId):Option (Bool×Nat):=
 match P.underlying t,P.info? t with
 |some (.struct _),some i=>some (true,i.size)
 |some (.array _ _),some i=>some (true,i.size)
 |some _,some i=>some (false,i.size)
 |_,_=>none
def zeroOf(P:Program)(t:TypeId):Option Value:=match P.info? t with|some i=>i.zero|none=>none
def Mt:Operand->Bool
 |.const (.slice none _ _)=>true
 |_=>false
def Mc:Operand->Bool
 |.const (.pointer none)=>true
 |_=>false
def Di(op:BinOp)(t:TypeId)(xo yo:Operand)(x y:Value):Sem Value:=do eqGuard op t xo yo x y;binOp op t x y
def Nv(P:Program)(op:BinOp)(t:TypeId)(yo:Operand)(x y:Value)(K:Value->Prop)(F:Prop):Prop:=
 match P.underlying t with
 |some (.int k)=>match op with
  |.add=>CW k x y K | .sub=>DR k x y K | .mul=>UE k x y K
  |.lss=>GI k x y K | .leq=>Xn k x y K | .gtr=>T8 k x y K | .geq=>Rh k x y K
  |.eql=>Nw k x y K | .neq=>PH k x y K
  |_=>F
 |some .bool=>match op with
  |.eql=>Ue x y K | .neq=>UQ x y K
  |_=>F
 |some .string=>match op with
  |.eql=>UN x y K | .neq=>Vz x y K
  |_=>F
 |some (.slice _)=>bif Mt yo then match op with
   |.eql=>Jf x λb=>K (.bool b)
   |.neq=>Jf x λb=>K (.bool (!b))
   |_=>F
  else F
 |some (.pointer _)=>bif Mc yo then match op with
   |.eql=>Ge x λb=>K (.bool b)
   |.neq=>Ge x λb=>K (.bool (!b))
   |_=>F
  else F
 |_=>F
def placesOf(P:Program)(j:List Field):Option (List (Nat×Nat)):=
 match j with
 |[]=>some []
 |f::r=>match P.info? f.type,placesOf P r with | some i,some l=>some ((f.offset,i.size)::l) | _,_=>none
def Fe(P:Program)(ok:Nat->Bool)(o:Oper)(ρ:Operand->Value)(K:Cont)(w:World):Prop:=
 match o.op with
 |.move x=>K (ρ x) w
 |.assign x=>K (ρ x) w
 |.pick c a b=>JA (ρ c) (ρ a) (ρ b) λv=>K v w
 |.alloc t=>match zeroOf P t with | some z=>Bt t z.cells.toList K w | none=>False
 |.box t x=>match Ex P t with | some (false,_)=>KH t (ρ x) K w | some (true,_)=>Gf t (ρ x) K w | none=>False
 |.load t x=>match Ex P t with | some (false,_)=>Ay (ρ x) K w | some (true,k)=>CX k (ρ x) K w | none=>False
 |.store t a x=>match Ex P t with
  |some (false,k)=>bif Nat.beq k 1 then CB (ρ a) (ρ x) (λw=>K undef w) w else False
  |some (true,k)=>BP k (ρ a) (ρ x) (λw=>K undef w) w
  |none=>False
 |.nilCheck x=>Af (ρ x) λv=>K v w
 |.binOp op t x y _=>Nv P op t y (ρ x) (ρ y) (λv=>K v w) (runK P (Di op t x y (ρ x) (ρ y)) K w)
 |.unOp .not _ x=>Ke (ρ x) λv=>K v w
 |.unOp op _ x=>runK P (Op.unary op (ρ x)) K w
 |.fieldAddr s x f=>match P.underlying s with
  |some (.struct q)=>match q.toList[f]? with
   |some f=>match P.info? f.type with
    |some i=>bif Nat.beq i.size 0 then False else BC f.offset (ρ x) λv=>K v w
    |none=>False
   |none=>False
  |_=>False
 |.indexAddr t x i=>match P.underlying t with
  |some (.slice e)=>match P.info? e with | some f=>Ip f.size (ρ x) (ρ i) λv=>K v w | none=>False
  |_=>runK P (Instr.indexAt t (ρ x) (ρ i)) K w
 |.build t j=>match P.underlying t,zeroOf P t with
  |some (.struct q),some z=>match placesOf P q.toList with
   |some l=>CV l z.cells.toList (j.toList.map λp=>(p.1,ρ p.2)) λv=>K v w
   |none=>False
  |_,_=>runK P (Instr.build t (j.toList.map λp=>(p.1,ρ p.2)).toArray) K w
 |.buildSlice t len j=>match P.underlying t with
  |some (.slice e)=>match P.info? e with
   |some i=>bif Nat.blt 0 (len*i.size)&&Nat.ble (len*i.size) 1000000 then
     match i.zero with|some z=>Dg e i.size len z.cells.toList (j.toList.map λp=>(p.1,ρ p.2)) K w|none=>False
    else bif Nat.beq (len*i.size) 0 then Dg e i.size len [] (j.toList.map λp=>(p.1,ρ p.2)) K w else False
   |none=>False
  |_=>False
 |.extract t i=>Ag i (ρ t) λv=>K v w
 |.makeFunc fn B cap=>K (.func fn (B.toList.map ρ).toArray (cap.toList.map ρ).toArray) w
 |.convert s d x=>runK P (convert s d (ρ x)) K w
 |.slice t x lo hi mx=>runK P (Instr.sliceAt t (ρ x) (lo.map ρ) (hi.map ρ) (mx.map ρ)) K w
 |.field t x f=>runK P (Instr.field t (ρ x) f) K w
 |.index t x i=>runK P (Instr.index t (ρ x) (ρ i)) K w
 |.makeMap t r=>runK P (Instr.makeMap t (r.map ρ)) K w
 |.makeSlice t l c=>runK P (Instr.makeSlice t (ρ l) (ρ c)) K w
 |.makeInterface t x=>runK P (Instr.makeInterface t (ρ x)) K w
 |.lookup t x i b=>runK P (Instr.lookup t (ρ x) (ρ i) b) K w
 |.mapUpdate t m k x=>runK P (do Instr.mapUpdate t (ρ m) (ρ k) (ρ x);pure undef) K w
 |.insert t m k x=>runK P (do Instr.mapUpdate t (ρ m) (ρ k) (ρ x);pure undef) K w
 |.mapEntry t m k=>runK P (Instr.mapEntry t (ρ m) (ρ k)) K w
 |.entryStore t m s x=>runK P (do Instr.entryStore t (ρ m) (ρ s) (ρ x);pure undef) K w
 |.range t x=>runK P (Instr.range t (ρ x)) K w
 |.next it s=>runK P (Instr.next (ρ it) s o.type) K w
 |.entry it=>runK P (Instr.entry (ρ it)) K w
 |.typeAssert x I at_ b=>runK P (Instr.typeAssert (ρ x) I at_ b) K w
 |.call c=>match c.callee with
  |.value (.func g)=>bif ok g then AB P g (c.args.toList.map ρ) K w else Tj P g (c.args.toList.map ρ) K w
  |.value f=>BF P ok (ρ f) (c.args.toList.map ρ) K w
  |.builtin .len=>match c.argTypes.toList,c.args.toList with
   |[t],[x]=>match P.underlying t with
    |some (.slice _)=>Dr (ρ x) λv=>K v w
    |some .string=>MT (ρ x) λv=>K v w
    |_=>runK P (Builtin.len_ c.argTypes o.type #[ρ x]) K w
   |_,_=>False
  |.builtin .append=>runK P (Builtin.append_ c.argTypes o.type (c.args.toList.map ρ).toArray) K w
  |.builtin .copy=>runK P (Builtin.copy_ c.argTypes o.type (c.args.toList.map ρ).toArray) K w
  |.builtin .cap=>runK P (Builtin.cap_ c.argTypes o.type (c.args.toList.map ρ).toArray) K w
  |.builtin .max=>match P.underlying o.type,c.args.toList with
   |some (.int k),[x,y]=>LV k (ρ x) (ρ y) λv=>K v w
   |_,_=>runK P (Builtin.max_ c.argTypes o.type (c.args.toList.map ρ).toArray) K w
  |.builtin .min=>match P.underlying o.type,c.args.toList with
   |some (.int k),[x,y]=>MI k (ρ x) (ρ y) λv=>K v w
   |_,_=>runK P (Builtin.min_ c.argTypes o.type (c.args.toList.map ρ).toArray) K w
  |.builtin .clear=>runK P (Builtin.clear_ c.argTypes o.type (c.args.toList.map ρ).toArray) K w
  |.builtin .delete=>runK P (Builtin.delete_ c.argTypes o.type (c.args.toList.map ρ).toArray) K w
  |_=>False
 |_=>False
def Cn(P:Program)(ok:Nat->Bool):Prop:=∀g,ok g=true->∀args w,(callFunc g args).run P w=.ok (.enter g args) w
section
variable {P:Program}{ok:Nat->Bool}{K:Cont}{w:World}
def Ee{t:TypeId}{b:Bool}{k:Nat}(h:Ex P t=some (b,k))(w:World):(isAgg t).run P w=.ok b w/\(sizeOf t).run P w=.ok k w:=by
 unfold Ex at h;unfold isAgg sizeOf underlying typeInfo;simp only[lH,run_program,S9];revert h
 cases hu:P.underlying t with
 |none=>simp
 |some d=>cases hi:P.info? t with
  |none=>cases d<;>simp
  |some i=>cases d<;>simp +contextual [mG]
def run_typeInfo{t:TypeId}{i:TypeInfo}(h:P.info? t=some i)(w:World):(typeInfo t).run P w=.ok i w:=by
 simp[typeInfo,h]
def run_underlying{t:TypeId}{d:TypeDesc}(h:P.underlying t=some d)(w:World):(underlying t).run P w=.ok d w:=by
 simp[underlying,h]
def run_sizeOf{t:TypeId}{i:TypeInfo}(h:P.info? t=some i)(w:World):(sizeOf t).run P w=.ok i.size w:=by
 simp[sizeOf,run_typeInfo h]
def EL{t:TypeId}{z:Value}(h:zeroOf P t=some z)(w:World):(zeroValue t).run P w=.ok z w:=by
 unfold zeroOf at h;cases hi:P.info? t with
 |none=>simp[hi] at h
 |some i=>simp only[hi] at h;simp[zeroValue,run_typeInfo hi,h]
def Te{t:TypeId}{k:Nat}{x:Value}(ha:Ex P t=some (false,k))(h:Ay x K w):runK P (Instr.loadAt t x) K w:=by
 obtain⟨a,v,rfl,hc,i⟩:=h;exact⟨v,w,by simp[Instr.loadAt,Instr.sureAddr,loadVar,(Ee ha w).1,hc],i⟩
def TJ{t:TypeId}{k:Nat}{x:Value}(ha:Ex P t=some (true,k))(h:CX k x K w):runK P (Instr.loadAt t x) K w:=by
 obtain⟨a,vs,rfl,hl,hc,j⟩:=h;refine⟨_,w,?_,j⟩;have i:=run_loadCells_list (P:=P) (w:=w) a vs hc;simp only[Instr.loadAt,Instr.sureAddr,loadVar,lH,mG,S9,(Ee ha w).1,(Ee ha w).2,mF];rw[<-hl,i];rfl
def M0(a:Addr):∀(vs:List Value) (i:Nat) (w:World),(∀v∈vs,v.oneCell'=true)->
  (∀j,i<=j->j<i+vs.length->(w.cell? (a.add j)).isSome=true/\w.frozen? (a.add j)=false)->
  (storeCells a vs i).run P w=.ok () (EN w a i vs):=by
 intro vs;induction vs with
 |nil=>intro i w _ _;simp[storeCells,EN]
 |cons v vs J=>
  intro i w h1 q;have B:=q i (K8 _) (by simp);obtain⟨u,hu⟩:=lD.1 B.1;simp only[storeCells,lH,run_store P w _ v .plain (h1 v (by simp)),hu,B.2,EN];simp only[nY,lW,S9];refine J (i+1) _ (λv O=>h1 v (by simp[O])) (λj Q m=>?_);have I:=q j (by omega) (by simp at m ⊢;omega);refine⟨?_,by rw[rP];exact I.2⟩;obtain⟨U,o⟩:=lD.1 I.1;by_cases he:a.add i=a.add j
  .rw[<-he,lM w _ v hu];rfl
  .rw[S4 w _ _ v he,o];rfl
end
section
variable {P:Program}{ok:Nat->Bool}{K:Cont}{w:World}
def eM(P:Program)(s:Sem Unit)(K:World->Prop)(w:World):Prop:=∃w',s.run P w=.ok () w'/\K w'
def aI{t:TypeId}{x v:Value}{K:World->Prop}(ha:Ex P t=some (false,1))(h:CB x v K w):eM P (Instr.storeAt t x v) K w:=by
 obtain⟨a,u,rfl,h1,hc,hu,j,m⟩:=h;refine⟨_,?_,m⟩;have i:v.cells.toList=[v]:=by rw[hc]
 have o:v.cells.size=1:=by rw[hc];rfl
 simp only[Instr.storeAt,Instr.sureAddr,storeVar,lH,mG,S9,(Ee ha w).2,o];simp only[ne_eq,not_true_eq_false,lW,lH,mG,i,storeCells,run_store P w _ v .plain h1,Addr.add_zero',hu,j];simp
def bN{t:TypeId}{k:Nat}{x v:Value}{K:World->Prop}(ha:Ex P t=some (true,k))(h:BP k x v K w):eM P (Instr.storeAt t x v) K w:=by
 obtain⟨a,vs,rfl,rfl,hl,h1,hc,i⟩:=h;refine⟨_,?_,i⟩;simp only[Instr.storeAt,Instr.sureAddr,storeVar,lH,mG,S9,(Ee ha w).2,Value.cells,nh,hl];simp only[ne_eq,not_true_eq_false,lW];exact M0 a vs 0 w h1 (λj _ m=>hc j (by omega))
def Oy{t:TypeId}(i:v.cells=cs.toArray)(h:Bt t cs K w) :
  runK P (do pure (.pointer (some (<- newVar t v)))) K w:=by
 refine⟨_,_,?_,h⟩;simp[newVar,newRow,i]
def VX{t:TypeId}{z:Value}(i:zeroOf P t=some z)(h:Bt t z.cells.toList K w):runK P (Instr.alloc t true (.tuple #[])) K w:=by
 obtain⟨v,w',h1,j⟩:=Oy (P:=P) (v:=z) (by simp) h;refine⟨v,w',?_,j⟩;simp only[Instr.alloc,lH,EL i,S9];simpa using h1
def Yu{t:TypeId}{x:Value}(h:KH t x K w):runK P (Instr.box t x) K w:=Oy (v:=x) (by rw[h.1]) h.2
def Xm{t:TypeId}{x:Value}(h:Gf t x K w):runK P (Instr.box t x) K w:=by
 obtain⟨vs,rfl,h⟩:=h;exact Oy (v:=.agg vs.toArray) rfl h
def WK{s:TypeId}{x:Value}{f:Nat}{m:Array Field}{j:Field}{i:TypeInfo}(hu:P.underlying s=some (.struct m))(I:m.toList[f]?=some j)
 (hi:P.info? j.type=some i)(B:Nat.beq i.size 0=false)(h:BC j.offset x λv=>K v w):runK P (Instr.fieldAt s x f) K w:=by
 obtain⟨a,rfl,J⟩:=h;refine⟨_,w,?_,J⟩;have o:m[f]?=some j:=by rw[<-mS];exact I
 have q:i.size≠0:=by intro e;rw[e] at B;exact absurd B (by decide)
 simp[Instr.fieldAt,run_underlying hu,o,Instr.sureAddr,fieldPlace,run_sizeOf hi,q]
def Xh{t e:TypeId}{x i:Value}{f:TypeInfo}(hu:P.underlying t=some (.slice e))(hi:P.info? e=some f)
 (h:Ip f.size x i λv=>K v w):runK P (Instr.indexAt t x i) K w:=by
 obtain⟨a,n,c,k,j,rfl,rfl,h0,h1,m⟩:=h;refine⟨_,w,?_,m⟩;simp[Instr.indexAt,asIntOf,run_underlying hu,h0,h1,run_sizeOf hi]
def TA:∀(j:List Field) (l:List (Nat×Nat)),placesOf P j=some l->∀w:World,
  (j.mapM (λf=>Functor.map (Prod.mk f.offset) (sizeOf f.type)):Sem (List (Nat×Nat))).run P w=.ok l w:=by
 intro j;induction j with
 |nil=>intro l h w;simp only[placesOf,gM] at h;subst h;simp
 |cons f r m=>
  intro l h w;simp only[placesOf] at h;cases hi:P.info? f.type with
  |none=>simp[hi] at h
  |some i=>
   cases hr:placesOf P r with
   |none=>simp[hi,hr] at h
   |some o=>
    simp only[hi,hr,gM] at h;subst h;simp[rW,run_sizeOf hi,m o hr]
def N8{t:TypeId}{m:Array Field}{z:Value}{l:List (Nat×Nat)}{j:List (Nat×Value)}(hu:P.underlying t=some (.struct m))(q:zeroOf P t=some z)
 (hl:placesOf P m.toList=some l)(h:CV l z.cells.toList j λv=>K v w):runK P (Instr.build t j.toArray) K w:=by
 obtain⟨cs,o,B⟩:=h;refine⟨_,w,?_,B⟩;have hm:(m.mapM (λf=>do pure (f.offset,<-sizeOf f.type)):Sem (Array (Nat×Nat))).run P w=.ok l.toArray w:=by
  rw[qp];have:=TA m.toList l hl w;simp only[Sem.run_map,bind_pure_comp,this];rfl
 simp only[Instr.build,lH,EL q,S9,run_underlying hu,hm];simp only[pM] at o;have I:(λi:Nat=>l.toArray[i]?)=λi=>l[i]?:=by funext i;simp
 rw[I,o];rfl
def Zt{t e:TypeId}{len:Nat}{i:TypeInfo}{z:Value}{j:List (Nat×Value)}(hu:P.underlying t=some (.slice e))(hi:P.info? e=some i)(q:i.zero=some z)
 (hb:(Nat.blt 0 (len*i.size)&&Nat.ble (len*i.size) 1000000)=true)(h:Dg e i.size len z.cells.toList j K w):runK P (Instr.buildSlice t len j.toArray) K w:=by
 obtain⟨cs,o,B⟩:=h;refine⟨_,_,?_,B⟩;simp only[gC] at hb;have h1:¬len*i.size>2 ^ 24:=by have:=mq hb.2;omega
 have I:¬len*i.size=0:=by have:=mq hb.1;omega
 simp only[Instr.buildSlice,lH,run_underlying hu,run_sizeOf hi,S9,h1,I,lW,mG];simp only[pM] at o;have m:zeroOf P e=some z:=by simp[zeroOf,hi,q]
 simp only[EL m,S9,o];simp[newRow]
def Xf{t e:TypeId}{len:Nat}{i:TypeInfo}{j:List (Nat×Value)}(hu:P.underlying t=some (.slice e))(hi:P.info? e=some i)
 (hb:Nat.beq (len*i.size) 0=true)(h:Dg e i.size len [] j K w):runK P (Instr.buildSlice t len j.toArray) K w:=by
 obtain⟨cs,m,q⟩:=h;refine⟨_,_,?_,q⟩;have o:len*i.size=0:=lZ hb;have h1:¬len*i.size>2 ^ 24:=by omega
 simp only[o] at m;simp only[Instr.buildSlice,lH,run_underlying hu,run_sizeOf hi,S9,h1,lW];simp only[o,mF,lH,mG,S9,m];simp[newRow]
def TY{i:Array TypeId}{ty t e:TypeId}{x:Value}(ht:i.toList=[t])(hu:P.underlying t=some (.slice e))(h:Dr x λv=>K v w):runK P (Builtin.len_ i ty #[x]) K w:=by
 obtain⟨a,n,c,rfl,m⟩:=h;refine⟨_,w,?_,m⟩;have j:i=#[t]:=by rw[<-pM (xs:=i),ht]
 subst j;simp[Builtin.len_,run_underlying hu,goInt]
def Po{i:Array TypeId}{ty t:TypeId}{x:Value}(ht:i.toList=[t])(hu:P.underlying t=some .string)(h:MT x λv=>K v w):runK P (Builtin.len_ i ty #[x]) K w:=by
 obtain⟨s,rfl,m⟩:=h;refine⟨_,w,?_,m⟩;have j:i=#[t]:=by rw[<-pM (xs:=i),ht]
 subst j;simp[Builtin.len_,run_underlying hu,goInt]
def UB{x:Value}{i:Nat}(h:Ag i x λv=>K v w):runK P (Instr.extract x i) K w:=by
 obtain⟨vs,v,rfl,j,m⟩:=h;exact⟨v,w,by simp[Instr.extract,j],m⟩
def toList_beq(a b:ByteArray):(a.toList==b.toList)=decide (a=b):=by
 by_cases h:a=b
 .subst h;simp
 .have:¬a.toList=b.toList:=by
   intro e;apply h;rw[ByteArray.toList_eq,ByteArray.toList_eq] at e;cases a;cases b;simp at e;simp[e]
  simp[h,this]
def Kw(d:Nat){t e:TypeId}(hu:P.underlying t=some (.slice e))(a:Option Addr)(n c i j:Nat)(w:World) :
  (Op.equalIn (d+1) t (.slice a n c) (.slice none i j)).run P w=.ok a.isNone w:=by
 cases a<;>simp[Op.equalIn,run_underlying hu]
def Kp(d:Nat){t e:TypeId}(hu:P.underlying t=some (.pointer e))(a:Option Addr)(w:World) :
  (Op.equalIn (d+1) t (.pointer a) (.pointer none)).run P w=.ok a.isNone w:=by
 cases a<;>simp[Op.equalIn,run_underlying hu]
def IJ{t e:TypeId}(hu:P.underlying t=some (.slice e))(a:Option Addr)(n c i j:Nat)(w:World) :
  (Op.equal t (.slice a n c) (.slice none i j)).run P w=.ok a.isNone w:=Kw 9999 hu a n c i j w
def IH{t e:TypeId}(hu:P.underlying t=some (.pointer e))(a:Option Addr)(w:World) :
  (Op.equal t (.pointer a) (.pointer none)).run P w=.ok a.isNone w:=Kp 9999 hu a w
def PY{op : BinOp}{t : TypeId}{x y : Value}{F : Prop}(q : ∀v, yo = .const v -> y = v)(h : Nv P op t yo x y (λv => K v w) F)
   (hF : F -> runK P (do eqGuard op t xo yo x y; binOp op t x y) K w) : runK P (do eqGuard op t xo yo x y; binOp op t x y) K w := by
  unfold Nv at h;cases hu : P.underlying t with
  |none => simp only[hu] at h; exact hF h
  |some d =>
    simp only[hu] at h;cases d with
    |int k =>
      cases op<;>simp only at h<;>first
        |exact hF h
        | (obtain ⟨a, b, rfl, rfl, i⟩ := h
           refine⟨_, w, ?_, i⟩;simp[eqGuard_at_int, binOp, Op.intArith, Op.intCmp]
           done)
        | (obtain ⟨a, b, rfl, rfl, i⟩ := h
           refine ⟨_, w, ?_, i⟩;simp [eqGuard_at_int, binOp, Op.intCmp];first | done | (by_cases o : a = b <;> simp [o]))
    |bool =>
      cases op<;>simp only at h<;>first
        |exact hF h
        | (obtain ⟨a, b, rfl, rfl, i⟩ := h
           refine ⟨_, w, ?_, i⟩;simp [eqGuard_at_bool, run_eql_bool w t a b hu, run_neq_bool w t a b hu])
    |string =>
      cases op<;>simp only at h<;>first
        |exact hF h
        | (obtain ⟨a, b, rfl, rfl, i⟩ := h
           refine ⟨_, w, ?_, i⟩;simp [eqGuard_at_string, binOp, Op.stringOp, toList_beq])
    |slice e =>
      cases j : Mt yo with
      |false => simp only[j, lj] at h; exact hF h
      |true =>
        simp only[j, lp] at h;have m : ∃n c, y = .slice none n c := by
          unfold Mt at j; split at j
          . exact⟨_, _, q _ rfl⟩
          . cases j
        cases op<;>simp only at h<;>first
          |exact hF h
          | (obtain ⟨a, i⟩ := h
             first
               | (obtain ⟨n, c, rfl, i⟩ := i
                  refine⟨_, w, ?_, i⟩;obtain⟨B, I, rfl⟩ := m;simp[eqGuard_at_slice, binOp, IJ hu]
                  done)
               | (obtain ⟨rfl, i⟩ := i
                  refine⟨_, w, ?_, i⟩;subst m;simp[eqGuard_at_slice, binOp, IJ hu]
                  done))
    |pointer e =>
      cases j : Mc yo with
      |false => simp only[j, lj] at h; exact hF h
      |true =>
        simp only[j, lp] at h;have m : y = .pointer none := by
          unfold Mc at j; split at j
          . exact q _ rfl
          . cases j
        cases op<;>simp only at h<;>first
          |exact hF h
          | (obtain ⟨a, i⟩ := h
             first
               | (obtain ⟨n, c, rfl, i⟩ := i
                  refine⟨_, w, ?_, i⟩;obtain⟨B, I, rfl⟩ := m;simp[eqGuard_at_pointer, binOp, IH hu]
                  done)
               | (obtain ⟨rfl, i⟩ := i
                  refine⟨_, w, ?_, i⟩;subst m;simp[eqGuard_at_pointer, binOp, IH hu]
                  done))
    |_ => exact hF h
end
section
variable {P:Program}{ok:Nat->Bool}{K:Cont}{w:World}
def Er(w0:World)(r:Result Next)(K:Cont)(P:Program):Prop:=
 match r with
 |.ok (.value v) w'=>K v w'
 |.ok .skip w'=>K undef w'
 |.ok (.enter f args) w'=>w'=w0/\Calls P f args w0 λe i=>∃v,e=.returned v/\K v i
 |_=>False
def cH{o:Oper}{a:Act}{next:Act->World->Prop}{Q:Exit->Act->World->Prop}{r:Result Next}
 (h:Er w r K P)(i:∀v w',K v w'->next (a.put o.dst v) w'):o.upon P a next Q r:=by
 match r,h with
 |.ok (.value v) w',h=>exact i _ _ h
 |.ok .skip w',h=>exact i _ _ h
 |.ok (.enter f args) w',h=>
  obtain⟨rfl,h⟩:=h;exact og h λe j ⟨v,he,m⟩=>by subst he;exact i _ _ m
def EF{s:Sem Value}(h:runK P s K w):Er w ((do pure (Next.value (<- s)):Sem Next).run P w) K P:=by
 obtain⟨v,w',h1,i⟩:=h;simp only[lH,h1,S9,mG];exact i
def iY{s:Sem Unit}(h:eM P s (λw=>K undef w) w):Er w ((do s;pure Next.skip:Sem Next).run P w) K P:=by
 obtain⟨w',h1,i⟩:=h;simp only[lH,h1,S9,mG];exact i
def Xj{s:Sem Unit}(h:runK P (do s;pure undef) K w):Er w ((do s;pure Next.skip:Sem Next).run P w) K P:=by
 obtain⟨v,w',h1,i⟩:=h;simp only[lH,mG] at h1 ⊢;revert h1
 cases s.run P w with
 |halt x j=>intro h1;exact absurd h1 (by simp)
 |ok u j=>intro h1;simp at h1;obtain⟨rfl,rfl⟩:=h1;exact i
def F0(ρ:Operand->Value)(xs:Array Operand):xs.map ρ=(xs.toList.map ρ).toArray:=by
 apply qH.1;simp
def LA(ρ:Operand->Value)(xs:Array (Nat×Operand)):(xs.map λ(i,x)=>(i,ρ x))=(xs.toList.map λp=>(p.1,ρ p.2)).toArray:=by
 apply qH.1;simp
def bE(i:Cn P ok){g:Nat}(j:ok g=true)(h:AB P g args K w) :
  Er w ((callFunc g args.toArray).run P w) K P:=by
 rw[i g j];exact⟨rfl,h⟩
set_option maxHeartbeats 1000000 in
def Ov(a6:Cn P ok){o:Oper}{ρ:Operand->Value}(a7:∀v,ρ (.const v)=v)(Y:∀f,ρ (.func f)=.func (.func f) #[] #[])(h:Fe P ok o ρ K w) :
  Er w ((execOp ρ o).run P w) K P:=by
 obtain⟨U,op,j,pos,after,guard⟩:=o;cases op with
 |move x=>exact h
 |assign x=>exact h
 |pick c a b=>
  simp only[Fe,JA] at h;simp only[execOp];cases hc:ρ c with
  |bool t=>cases t<;>simp only[hc] at h<;>simpa[asBool,Er] using h
  |_=>simp only[hc] at h
 |alloc t=>
  simp only[Fe] at h;split at h
  .rename_i z V;exact EF (VX V h)
  .exact h.elim
 |box t x=>
  simp only[Fe] at h;split at h
  .exact EF (Yu h)
  .exact EF (Xm h)
  .exact h.elim
 |load t x=>
  simp only[Fe] at h;split at h
  .rename_i ha;exact EF (Te ha h)
  .rename_i ha;exact EF (TJ ha h)
  .exact h.elim
 |store t a x=>
  simp only[Fe] at h;split at h
  .rename_i k ha;cases hk:Nat.beq k 1 with
   |false=>simp only[hk,lj] at h
   |true=>
    simp only[hk,lp] at h;rw[lZ hk] at ha;exact iY (aI ha h)
  .rename_i ha;exact iY (bN ha h)
  .exact h.elim
 |nilCheck x=>
  simp only[Fe] at h;obtain⟨a,h1,O⟩:=h;simp only[execOp,h1];rw[h1] at O;exact O
 |binOp op t x y yt=>
  simp only[Fe] at h;exact EF (PY (xo:=x) (λv hv=>by rw[hv,a7]) h (λhF=>hF))
 |unOp op t x=>
  simp only[Fe] at h;cases op with
  |plus=>exact EF h
  |not=>
   obtain⟨a,h1,O⟩:=h;exact EF ⟨_,w,by simp[Op.unary,h1],O⟩
  |neg=>exact EF h
  |xor=>exact EF h
 |fieldAddr s x f=>
  simp only[Fe] at h;split at h
  .rename_i fs hu;split at h
   .rename_i fd hf;split at h
    .rename_i i hi;cases V:Nat.beq i.size 0 with
     |true=>simp only[V,lp] at h
     |false=>
      simp only[V,lj] at h;exact EF (WK hu hf hi V h)
    .exact h.elim
   .exact h.elim
  .exact h.elim
 |indexAddr t x i=>
  simp only[Fe] at h;split at h
  .rename_i e hu;split at h
   .rename_i f hi;exact EF (Xh hu hi h)
   .exact h.elim
  .exact EF h
 |build t B=>
  simp only[Fe] at h;have e1:(execOp ρ ⟨U,.build t B,j,pos,after,guard⟩)=(do pure (Next.value (<- Instr.build t (B.toList.map λp=>(p.1,ρ p.2)).toArray)):Sem Next):=by
   simp only[execOp];rw[LA]
  rw[e1];split at h
  .rename_i fs z hu V;split at h
   .rename_i l hl;exact EF (N8 hu V hl h)
   .exact h.elim
  .exact EF h
 |buildSlice t len B=>
  simp only[Fe] at h;have e1:(execOp ρ ⟨U,.buildSlice t len B,j,pos,after,guard⟩)=(do pure (Next.value (<- Instr.buildSlice t len (B.toList.map λp=>(p.1,ρ p.2)).toArray)):Sem Next):=by
   simp only[execOp];rw[LA]
  rw[e1];split at h
  .rename_i e hu;split at h
   .rename_i i hi;cases hb:(Nat.blt 0 (len*i.size)&&Nat.ble (len*i.size) 1000000) with
    |true=>
     simp only[hb,lp] at h;split at h
     .rename_i z V;exact EF (Zt hu hi V hb h)
     .exact h.elim
    |false=>
     simp only[hb,lj] at h;cases Z:Nat.beq (len*i.size) 0 with
     |true=>simp only[Z,lp] at h;exact EF (Xf hu hi Z h)
     |false=>simp only[Z,lj] at h
   .exact h.elim
  .exact h.elim
 |extract t i=>exact EF (UB h)
 |makeFunc fn I cap=>
  simp only[Fe] at h;simp only[execOp,Instr.makeFunc,F0];exact h
 |convert s d x=>exact EF h
 |slice t x lo hi mx=>exact EF h
 |field t x f=>exact EF h
 |index t x i=>exact EF h
 |makeMap t r=>exact EF h
 |makeSlice t l c=>exact EF h
 |makeInterface t x=>exact EF h
 |lookup t x i b=>exact EF h
 |mapUpdate t m k x=>exact Xj h
 |insert t m k x=>exact Xj h
 |mapEntry t m k=>exact EF h
 |entryStore t m s x=>exact Xj h
 |range t x=>exact EF h
 |next it s=>exact EF h
 |entry it=>exact EF h
 |typeAssert x xt at_ b=>exact EF h
 |call c=>
  obtain⟨J,args,Q⟩:=c;have hb:∀(b:Builtin) (s:Array Value->Sem Value),J=.builtin b->(∀cs xs,builtin b Q j cs xs=(do pure (Next.value (<- s xs))))->
    runK P (s (args.toList.map ρ).toArray) K w->Er w ((execOp ρ ⟨U,.call ⟨J,args,Q⟩,j,pos,after,guard⟩).run P w) K P:=by
   intro b s hc hs hr;subst hc;simp only[execOp,resolve,pure_bind,invoke,hs,F0];exact EF hr
  cases J with
  |value f=>
   have hv:∀g I cap,ρ f=.func (.func g) (List.toArray I) (List.toArray cap)->ok g=true->AB P g (I++args.toList.map ρ++cap) K w->
     Er w ((execOp ρ ⟨U,.call ⟨.value f,args,Q⟩,j,pos,after,guard⟩).run P w) K P:=by
    intro g I cap hf hg hc;simp only[execOp,resolve,hf,Deferred.ofValue,pure_bind,invoke,F0];have:=bE a6 hg hc;simpa using this
   cases f with
   |func g=>
    simp only[Fe] at h;cases hg:ok g with
    |false=>
     simp only[hg,lj] at h;obtain⟨v,w',h1,O⟩:=h;have e1:(execOp ρ ⟨U,.call ⟨.value (.func g),args,Q⟩,j,pos,after,guard⟩)=callFunc g (args.toList.map ρ).toArray:=by
      simp[execOp,resolve,Y,Deferred.ofValue,invoke,F0]
     rw[e1,h1];exact O
    |true=>
     simp only[hg,lp] at h;exact hv g [] [] (Y g) hg (by simpa using h)
   |tmp t=>obtain⟨g,I,cap,h1,O,X⟩:=h;exact hv g I cap h1 O X
   |const v=>obtain⟨g,I,cap,h1,O,X⟩:=h;exact hv g I cap h1 O X
   |global g=>obtain⟨g,I,cap,h1,O,X⟩:=h;exact hv g I cap h1 O X
  |invoke r m=>exact h.elim
  |builtin b=>
   cases b<;>first
    |exact h.elim
    |exact hb _ _ rfl (λ_ xs=>rfl) h
    |skip
   case max=>
    simp only[Fe] at h;split at h
    .rename_i k x y hk hx;obtain⟨p,q,h1,O,X⟩:=h;refine hb .max _ rfl (λ_ xs=>rfl) ⟨_,w,?_,X⟩;rw[hx];simp only[lO,mh,h1,O];exact run_max_int2 w Q j k k p q
    .exact hb .max _ rfl (λ_ xs=>rfl) h
   case min=>
    simp only[Fe] at h;split at h
    .rename_i k x y hk hx;obtain⟨p,q,h1,O,X⟩:=h;refine hb .min _ rfl (λ_ xs=>rfl) ⟨_,w,?_,X⟩;rw[hx];simp only[lO,mh,h1,O];exact run_min_int2 w Q j k k p q
    .exact hb .min _ rfl (λ_ xs=>rfl) h
   simp only[Fe] at h;split at h
   .rename_i t x ht hx;have a1:(args.toList.map ρ).toArray=#[ρ x]:=by rw[hx];rfl
    refine hb .len _ rfl (λ_ xs=>rfl) ?_;rw[a1];split at h
    .rename_i hu;exact TY ht hu h
    .rename_i hu;exact Po ht hu h
    .exact h
   .exact h.elim
 |_=>exact h.elim
def HV(P:Program)(op:BinOp)(t:TypeId)(yo:Operand):Bool:=
 match P.underlying t with
 |some (.int _)=>match op with | .add | .sub | .mul | .lss | .leq | .gtr | .geq | .eql | .neq=>true | _=>false
 |some .bool=>match op with | .eql | .neq=>true | _=>false
 |some .string=>match op with | .eql | .neq=>true | _=>false
 |some (.slice _)=>Mt yo&&(match op with | .eql | .neq=>true | _=>false)
 |some (.pointer _)=>Mc yo&&(match op with | .eql | .neq=>true | _=>false)
 |_=>false
def CO(P:Program)(o:Oper):Bool:=
 match o.op with
 |.move _=>true | .assign _=>true | .pick _ _ _=>true | .nilCheck _=>true | .extract _ _=>true
 |.fieldAddr _ _ _=>true
 |.unOp .not _ _=>true
 |.binOp op t _ y _=>HV P op t y
 |.indexAddr t _ _=>match P.underlying t with | some (.slice _)=>true | _=>false
 |.build t _=>match P.underlying t,zeroOf P t with | some (.struct _),some _=>true | _,_=>false
 |.call c=>match c.callee with
  |.builtin .len=>match c.argTypes.toList,c.args.toList with
   |[t],[_]=>match P.underlying t with | some (.slice _)=>true | some .string=>true | _=>false
   |_,_=>false
  |.builtin .max=>match P.underlying o.type,c.args.toList with | some (.int _),[_,_]=>true | _,_=>false
  |.builtin .min=>match P.underlying o.type,c.args.toList with | some (.int _),[_,_]=>true | _,_=>false
  |_=>false
 |_=>false
def GU{op:BinOp}{t:TypeId}{x y:Value}{K:Value->Prop}{F:Prop}(hp:HV P op t yo=true)(h:Nv P op t yo x y K F) :
  ∃v,K v/\∀(m:Value->Prop) (F':Prop),m v->Nv P op t yo x y m F':=by
 unfold HV at hp;unfold Nv at h;simp only[Nv];cases hu:P.underlying t with
 |none=>simp[hu] at hp
 |some d=>
  simp only[hu] at hp h;cases d with
  |int k=>cases op<;>simp only at hp h ⊢<;>first
    |(cases hp;done)
    |(obtain⟨a,b,h1,o,j⟩:=h;exact⟨_,j,λm _ hk=>⟨a,b,h1,o,hk⟩⟩)
  |bool=>cases op<;>simp only at hp h ⊢<;>first
    |(cases hp;done)
    |(obtain⟨a,b,h1,o,j⟩:=h;exact⟨_,j,λm _ hk=>⟨a,b,h1,o,hk⟩⟩)
  |string=>cases op<;>simp only at hp h ⊢<;>first
    |(cases hp;done)
    |(obtain⟨a,b,h1,o,j⟩:=h;exact⟨_,j,λm _ hk=>⟨a,b,h1,o,hk⟩⟩)
  |slice e=>
   simp only[gC] at hp;simp only[hp.1,lp] at h ⊢;have i:=hp.2;cases op<;>simp only at i h ⊢<;>first
    |(cases i;done)
    |(obtain⟨a,n,c,h1,j⟩:=h;exact⟨_,j,λm _ hk=>⟨a,n,c,h1,hk⟩⟩)
  |pointer e=>
   simp only[gC] at hp;simp only[hp.1,lp] at h ⊢;have i:=hp.2;cases op<;>simp only at i h ⊢<;>first
    |(cases i;done)
    |(obtain⟨a,h1,j⟩:=h;exact⟨_,j,λm _ hk=>⟨a,h1,hk⟩⟩)
  |_=>simp at hp
def P2{o:Oper}{ρ:Operand->Value}(hp:CO P o=true)(h:Fe P ok o ρ K w):∃v,K v w/\∀(O:Cont) (w':World),O v w'->Fe P ok o ρ O w':=by
 obtain⟨V,op,U,pos,after,guard⟩:=o;cases op with
 |move x=>exact⟨_,h,λ_ _ hk=>hk⟩
 |assign x=>exact⟨_,h,λ_ _ hk=>hk⟩
 |pick c a b=>
  simp only[Fe,JA] at h ⊢;cases hc:ρ c with
  |bool t=>cases t<;>simp only[hc] at h ⊢<;>exact⟨_,h,λ_ _ hk=>hk⟩
  |_=>simp only[hc] at h
 |nilCheck x=>obtain⟨a,h1,m⟩:=h;exact⟨_,m,λ_ _ hk=>⟨a,h1,hk⟩⟩
 |extract t i=>obtain⟨vs,v,h1,m,B⟩:=h;exact⟨_,B,λ_ _ hk=>⟨vs,v,h1,m,hk⟩⟩
 |unOp op t x=>
  cases op with
  |not=>obtain⟨a,h1,m⟩:=h;exact⟨_,m,λ_ _ hk=>⟨a,h1,hk⟩⟩
  |_=>simp[CO] at hp
 |binOp op t x y yt=>
  simp only[CO] at hp;obtain⟨v,h1,m⟩:=GU hp h;exact⟨v,h1,λO w' hk=>m _ _ hk⟩
 |fieldAddr s x f=>
  simp only[Fe] at h ⊢;split at h
  .split at h
   .split at h
    .rename_i i _;cases I:Nat.beq i.size 0 with
     |true=>simp only[I,lp] at h
     |false=>
      simp only[I,lj] at h ⊢;obtain⟨a,h1,m⟩:=h;exact⟨_,m,λ_ _ hk=>⟨a,h1,hk⟩⟩
    .exact h.elim
   .exact h.elim
  .exact h.elim
 |indexAddr t x i=>
  simp only[Fe,CO] at hp h ⊢;cases hu:P.underlying t with
  |none=>simp[hu] at hp
  |some d=>
   simp only[hu] at hp h ⊢;cases d with
   |slice e=>
    simp only at h ⊢;cases hi:P.info? e with
    |none=>simp[hi] at h
    |some f=>
     simp only[hi] at h ⊢;obtain⟨a,n,c,k,j,h1,m,B,X,Y⟩:=h;exact⟨_,Y,λ_ _ hk=>⟨a,n,c,k,j,h1,m,B,X,hk⟩⟩
   |_=>simp at hp
 |build t Q=>
  simp only[Fe,CO] at hp h ⊢;cases hu:P.underlying t with
  |none=>simp[hu] at hp
  |some d=>
   cases I:zeroOf P t with
   |none=>simp[hu,I] at hp
   |some z=>
    simp only[hu,I] at hp h ⊢;cases d with
    |struct Z=>
     simp only at h ⊢;cases hl:placesOf P Z.toList with
     |none=>simp[hl] at h
     |some l=>
      simp only[hl] at h ⊢;obtain⟨cs,h1,m⟩:=h;exact⟨_,m,λ_ _ hk=>⟨cs,h1,hk⟩⟩
    |_=>simp at hp
 |call c=>
  obtain⟨q,args,a1⟩:=c;cases q with
  |builtin b=>
   cases b<;>simp only[CO,Fe] at hp h ⊢<;>try (cases hp;done)
   .split at hp
    .rename_i t x ht J;simp only[ht,J] at h ⊢;split at hp
     .rename_i e hu;simp only[hu] at h ⊢;obtain⟨a,n,c,h1,m⟩:=h;exact⟨_,m,λ_ _ hk=>⟨a,n,c,h1,hk⟩⟩
     .rename_i hu;simp only[hu] at h ⊢;obtain⟨s,h1,m⟩:=h;exact⟨_,m,λ_ _ hk=>⟨s,h1,hk⟩⟩
     .cases hp
    .cases hp
   .split at hp
    .rename_i k x y hk J;simp only[hk,J] at h ⊢;obtain⟨a,b,h1,m,B⟩:=h;exact⟨_,B,λ_ _ hk=>⟨a,b,h1,m,hk⟩⟩
    .cases hp
   .split at hp
    .rename_i k x y hk J;simp only[hk,J] at h ⊢;obtain⟨a,b,h1,m,B⟩:=h;exact⟨_,B,λ_ _ hk=>⟨a,b,h1,m,hk⟩⟩
    .cases hp
  |_=>simp[CO] at hp
 |_=>simp[CO] at hp
end
structure Mod (M:Nat->Prop) (w w':World):Prop where
 os:w'.os=w.os
 tape:w'.tape=w.tape
 output:w'.output=w.output
 size:w.heap.size<=w'.heap.size
 same:∀b,b<w.heap.size->¬M b->w'.heap[b]?=w.heap[b]?
def Mod.refl(M:Nat->Prop)(w:World):Mod M w w:=⟨rfl,rfl,rfl,K8 _,λ_ _ _=>rfl⟩
def Mod.trans{M:Nat->Prop}{a b c:World}(h:Mod M a b)(k:Mod M b c):Mod M a c:=
 ⟨k.os.trans h.os,k.tape.trans h.tape,k.output.trans h.output,lx h.size k.size,λi hi hm=>(k.same i (No hi h.size) hm).trans (h.same i hi hm)⟩
def Mod.mono{M i:Nat->Prop}{w w':World}(h:Mod M w w')(hm:∀b,b<w.heap.size->M b->i b):Mod i w w':=⟨h.os,h.tape,h.output,h.size,λb hb j=>h.same b hb λh'=>j (hm b hb h')⟩
def Dy(l:List Nat)(i:Nat):Bool:=l.any λx=>Nat.beq x i
def CZ:List (List Nat)->Nat->List Nat
 |[],_=>[]
 |a::_,0=>a
 |_::r,i+1=>CZ r i
def Br{l:List Nat}{i:Nat}:Dy l i=true↔i∈l:=by
 simp only[Dy,pP];constructor
 .rintro⟨x,j,hb⟩;rw[<-lZ hb];exact j
 .intro h;exact⟨i,h,by simp⟩
section
variable (P:Program)(ok:Nat->Bool)(n:Nat)
def pure_run{P:Program}{ok:Nat->Bool}{o:Oper}{ρ:Operand->Value}{K:Cont}(a6:∀v,ρ (.const v)=v)(hp:CO P o=true)(h:Fe P ok o ρ K w):∃v,K v w/\∀w',(execOp ρ o).run P w'=.ok (.value v) w':=by
 obtain⟨v,h1,h2⟩:=P2 hp h;refine⟨v,h1,λw'=>?_⟩;obtain⟨Y,a7,B⟩:∃Y:Cont,Y v w'/\∀v' I,Y v' I->v'=v/\I=w':=⟨λv' I=>v'=v/\I=w',⟨rfl,rfl⟩,λ_ _ h=>h⟩;have j:=h2 Y w' a7;have fin:∀s:Sem Value,runK P s Y w'->(do pure (Next.value (<- s)):Sem Next).run P w'=.ok (.value v) w':=by
  rintro s ⟨v',I,r1,r2⟩;obtain⟨rfl,rfl⟩:=B _ _ r2;simp[r1]
 clear h h1 h2;obtain⟨a1,op,m,pos,after,guard⟩:=o;cases op with
 |move x=>have V:=(B _ _ j).1;simp[execOp,V]
 |assign x=>have V:=(B _ _ j).1;simp[execOp,V]
 |pick c a b=>
  simp only[Fe,JA] at j;cases hc:ρ c with
  |bool t=>cases t<;>simp only[hc] at j<;>simp[execOp,asBool,hc,(B _ _ j).1]
  |_=>simp only[hc] at j
 |nilCheck x=>obtain⟨a,V,h5⟩:=j;have h6:=(B _ _ h5).1;rw[V] at h6;subst h6;simp[execOp,V]
 |extract t i=>exact fin _ (UB j)
 |unOp op t x=>
  cases op with
  |not=>obtain⟨a,V,h5⟩:=j;have h6:=(B _ _ h5).1;simp[execOp,Op.unary,V,<-h6]
  |_=>simp[CO] at hp
 |binOp op t x y yt=>
  simp only[CO] at hp;have:Nv P op t y (ρ x) (ρ y) (λv'=>Y v' w') False:=by
   simp only[Fe] at j;obtain⟨u,g1,g2⟩:=GU hp j;exact g2 _ _ g1
  exact fin _ (PY (xo:=x) (λv hv=>by rw[hv,a6]) this (λhF=>hF.elim))
 |fieldAddr s x f=>
  simp only[Fe] at j;split at j
  .rename_i fs hu;split at j
   .rename_i fd hf;split at j
    .rename_i i hi;cases Z:Nat.beq i.size 0 with
     |true=>simp only[Z,lp] at j
     |false=>simp only[Z,lj] at j;exact fin _ (WK hu hf hi Z j)
    .exact j.elim
   .exact j.elim
  .exact j.elim
 |indexAddr t x i=>
  simp only[Fe,CO] at hp j;cases hu:P.underlying t with
  |none=>simp[hu] at hp
  |some d=>
   simp only[hu] at hp j;cases d with
   |slice e=>
    simp only at j;cases hi:P.info? e with
    |none=>simp[hi] at j
    |some f=>simp only[hi] at j;exact fin _ (Xh hu hi j)
   |_=>simp at hp
 |build t J=>
  have e1:(execOp ρ ⟨a1,.build t J,m,pos,after,guard⟩)=(do pure (Next.value (<- Instr.build t (J.toList.map λp=>(p.1,ρ p.2)).toArray)):Sem Next):=by
   simp only[execOp];rw[LA]
  rw[e1];simp only[Fe,CO] at hp j;cases hu:P.underlying t with
  |none=>simp[hu] at hp
  |some d=>
   cases Z:zeroOf P t with
   |none=>simp[hu,Z] at hp
   |some z=>
    simp only[hu,Z] at hp j;cases d with
    |struct fs=>
     simp only at j;cases hl:placesOf P fs.toList with
     |none=>simp[hl] at j
     |some l=>simp only[hl] at j;exact fin _ (N8 hu Z hl j)
    |_=>simp at hp
 |call c=>
  obtain⟨Q,args,U⟩:=c;cases Q with
  |builtin b=>
   have hb:∀(s:Array Value->Sem Value),(∀cs xs,builtin b U m cs xs=(do pure (Next.value (<- s xs))))->runK P (s (args.toList.map ρ).toArray) Y w'->
     (execOp ρ ⟨a1,.call ⟨.builtin b,args,U⟩,m,pos,after,guard⟩).run P w'=.ok (.value v) w':=by
    intro s hs hr;simp only[execOp,resolve,pure_bind,invoke,hs,F0];exact fin _ hr
   cases b<;>simp only[CO,Fe] at hp j<;>try (cases hp;done)
   .split at hp
    .rename_i t x ht X;have O:(args.toList.map ρ).toArray=#[ρ x]:=by rw[X];rfl
     simp only[ht,X] at j;split at hp
     .rename_i e hu;simp only[hu] at j;exact hb _ (λ_ _=>rfl) (by rw[O];exact TY ht hu j)
     .rename_i hu;simp only[hu] at j;exact hb _ (λ_ _=>rfl) (by rw[O];exact Po ht hu j)
     .cases hp
    .cases hp
   .split at hp
    .rename_i k x y hk X;simp only[hk,X] at j;obtain⟨p,q,g1,g2,g3⟩:=j;refine hb _ (λ_ _=>rfl) ⟨_,w',?_,g3⟩;rw[X];simp only[lO,mh,g1,g2];exact run_max_int2 w' U m k k p q
    .cases hp
   .split at hp
    .rename_i k x y hk X;simp only[hk,X] at j;obtain⟨p,q,g1,g2,g3⟩:=j;refine hb _ (λ_ _=>rfl) ⟨_,w',?_,g3⟩;rw[X];simp only[lO,mh,g1,g2];exact run_min_int2 w' U m k k p q
    .cases hp
  |_=>simp[CO] at hp
 |_=>simp[CO] at hp
def DQ(i:Addr->Value->Prop)(x:Value)(k:Value->Prop):Prop:=∃a v,x=.pointer (some a)/\i a v/\k v
def GD(i:Addr->Value->Prop)(m:Nat)(x:Value)(k:Value->Prop):Prop:=∃a vs,x=.pointer (some a)/\List.length vs=m/\(∀j v,vs[j]?=some v->i (a.add j) v)/\k (.agg vs.toArray)
def T9(P:Program)(s:Sem Value)(k:Value->Prop):Prop:=∃v,(∀w,s.run P w=.ok v w)/\k v
def FJ:List (Nat×Option Bool)->Nat->Option (Option Bool)
 |[],_=>none
 |(i,b)::r,j=>bif Nat.beq i j then some b else FJ r j
def Cb:List Oper->Nat->Option Nat
 |[],_=>none
 |o::_,0=>o.dst
 |_::r,j+1=>Cb r j
def LJ(a b:Bool):Bool:=match a,b with|true,true=>true|false,false=>true|_,_=>false
def YA(Ax:List Nat)(A:Nat->Value->World->Prop)(j:Addr->Value->Prop)(w:World)(o:Oper)(i:Nat)(ρ:Operand->Value)(k:Value->Prop):Prop:=
 bif Dy Ax i then ∀v,A i v w->k v
 else match o.op with
  |.load t x=>match Ex P t with | some (false,_)=>DQ j (ρ x) k | some (true,m)=>GD j m (ρ x) k | none=>False
  |.binOp op t x y _=>bif HV P op t y then Nv P op t y (ρ x) (ρ y) k False else T9 P (Di op t x y (ρ x) (ρ y)) k
  |_=>bif CO P o then Fe P ok o ρ (λv _=>k v) w else False
end
def GZ(d:Option Nat)(kn:List (Nat×Option Bool))(all:List Oper):Bool:=
 match d with
 |none=>false
 |some t=>kn.any λp=>match Cb all p.1 with | some u=>Nat.beq u t | none=>false
section
variable {P:Program}{ok:Nat->Bool}{n:Nat}
def bv(v:Value):Option Bool:=match v with|.bool b=>some b|_=>none
def yv(all:List Oper)(e:Env)(j:Nat):Option Bool:=match Cb all j with|some d=>bv (e d)|none=>none
def DA:∀(l:List Oper) (j:Nat),Cb l j=(l[j]?).bind (·.dst):=by
 intro l;induction l with
 |nil=>intro j;simp[Cb]
 |cons o r i=>intro j;cases j<;>simp[Cb,i]
def JL{ds:List Deferred}{e:Env}{a:Act}(o:Fr ds n e a){ops:Array Oper}:yielded ops a.tmps j=yv ops.toList e j:=by
 simp only[yielded,yv,DA,mS];cases h:(ops[j]?).bind (·.dst) with
 |none=>rfl
 |some d=>
  have i:=o.get d;rw[nO] at i;simp only[q8];cases m:a.tmps[d]? with
  |none=>rw[m] at i;simp only[Option.getD_none] at i;rw[<-i];rfl
  |some v=>rw[m] at i;simp only[pQ] at i;rw[<-i];cases v<;>rfl
def GO(all:List Oper)(kn:List (Nat×Option Bool))(e:Env):Prop:=∀j b,FJ kn j=some b->yv all e j=b
def HF{e:Env}{d:Nat}(h:e d=v):GK n e d v=e:=by
 funext j
 simp only[GK];cases hb:(Nat.beq j d&&Nat.blt d n) with
 |false=>rfl
 |true=>
  simp only[gC] at hb;have:=lZ hb.1;subst this;simp[h]
def Hj{e:Env}{d:Option Nat}(h:d≠some j):Bs n e d v j=e j:=by
 cases d with
 |none=>rfl
 |some i=>
  have:Nat.beq j i=false:=by
   cases hb:Nat.beq j i with
   |false=>rfl
   |true=>exact absurd (by rw[lZ hb]) h
  simp[Bs,GK,this]
def UG{kn:List (Nat×Option Bool)}{b:Option Bool}(h:FJ kn j=some b):(j,b)∈kn:=by
 induction kn with
 |nil=>simp[FJ] at h
 |cons p r m=>
  obtain⟨i,c⟩:=p;simp only[FJ] at h;cases hb:Nat.beq i j with
  |true=>rw[hb] at h;simp only[lp,gM] at h;have:=lZ hb;subst this;subst h;simp
  |false=>rw[hb] at h;simp only[lj] at h;exact kx _ (m h)
def GO.put{all:List Oper}{kn:List (Nat×Option Bool)}{e:Env}(h:GO all kn e){d:Option Nat}(hc:GZ d kn all=false)(v:Value):GO all kn (Bs n e d v):=by
 intro j b hl;have h1:=h j b hl;have m:=UG hl;unfold yv at h1 ⊢;cases i:Cb all j with
 |none=>rw[i] at h1;exact h1
 |some u=>
  rw[i] at h1;rw[<-h1];show bv (Bs n e d v u)=bv (e u);rw[Hj];intro o;subst o;simp only[GZ,List.any_eq_false] at hc;have:=hc _ m;simp[i] at this
def GO.cons{all:List Oper}{kn:List (Nat×Option Bool)}{e:Env}(h:GO all kn e){i:Nat}{b:Option Bool}(hb:yv all e i=b):GO all ((i,b)::kn) e:=by
 intro j c hl;simp only[FJ] at hl;cases m:Nat.beq i j with
 |true=>rw[m] at hl;simp only[lp,gM] at hl;have:=lZ m;subst this;subst hl;exact hb
 |false=>rw[m] at hl;simp only[lj] at hl;exact h j c hl
def He{A B:Prop}(h:AZ v A B):(v=.bool true/\A)\/(v=.bool false/\B):=by
 unfold AZ at h;split at h
 .exact .inl ⟨rfl,h⟩
 .exact .inr ⟨rfl,h⟩
 .exact h.elim
def MZ{a b:Bool}:LJ a b=(a==b):=by cases a<;>cases b<;>rfl
end
def Jr(o:Oper):List Nat:=o.op.operands.toList.filterMap λx=>match x with|.tmp t=>some t|_=>none
def slotsOf(all:List Oper)(o:Oper):List Nat:=(match o.guard with|some (g,_)=>(match Cb all g with|some d=>[d]|none=>[])|none=>[])++Jr o
def Mi(d:Option Nat)(t:Nat):Bool:=match d with|some x=>Nat.beq x t|none=>false
structure SU (n:Nat) (all:List Oper) (Ax:List Nat) (AN:List (List Nat)) (Gs:List (List Nat)):Prop where
 X8:∀(i:Nat) o,all[i]?=some o->∀cs b,o.op≠.select cs b
 back:∀(i:Nat) o,all[i]?=some o->∀e∈o.after,Region.binds .any e=true->e.on<i
 kA:∀(i:Nat) o,all[i]?=some o->∀j∈CZ AN i,∃e∈o.after,Region.binds .any e=true/\(e.on=j\/j∈CZ AN e.on)
 trans:∀i,∀j∈CZ AN i,∀m∈CZ AN j,m∈CZ AN i
 reads:∀(i:Nat) o,all[i]?=some o->∀t∈slotsOf all o,∀(m:Nat) o',all[m]?=some o'->o'.dst=some t->m≠i->m∈CZ AN i\/i∈CZ AN m
 guard:∀(i:Nat) o,all[i]?=some o->∀g b,o.guard=some (g,b)->g∈CZ AN i/\∃d,Cb all g=some d
 one:∀(i j:Nat) o o',all[i]?=some o->all[j]?=some o'->∀d,o.dst=some d->o'.dst=some d->i=j
 fR:∀(i:Nat),i<all.length->i∉Ax->(∀j∈CZ AN i,j∉Ax)\/(∀j∈Ax,j∈CZ AN i)\/∃E∈Gs,∀j∈Ax,(j∈CZ AN i↔j∈E)
 first:∃k∈Ax,k<all.length/\∀j∈CZ AN k,j∉Ax
 dd:∀k∈Ax,k<all.length
 bound:∀(i:Nat) o,all[i]?=some o->∀d,o.dst=some d->d<n
section
variable {P:Program}{ok:Nat->Bool}{n:Nat}{all:List Oper}{Ax:List Nat}{AN:List (List Nat)}{Gs:List (List Nat)}
def SU.lt(h:SU n all Ax AN Gs){i j:Nat}(hi:i<all.length)(o:j∈CZ AN i):j<i:=by
 induction i using Nat.strongRecOn generalizing j with
 |_ i q=>
  obtain⟨e,he,hb,h1⟩:=h.kA i all[i] (by simp[hi]) j o;have m:=h.back i all[i] (by simp[hi]) e he hb;rcases h1 with rfl|h1
  .exact m
  .exact Nat.lt_trans (q _ m (by omega) h1) m
noncomputable def DO(all:List Oper)(n:Nat)(e0:Env)(vals:Nat->Value)(S:Nat->Prop):Env:=λt=>
 open Classical in if h:∃m,S m/\m<all.length/\Cb all m=some t then(if t<n then vals h.choose else e0 t) else e0 t
def Oi(h:SU n all Ax AN Gs){e0:Env}{vals:Nat->Value}{m t:Nat}(hm:S m)(hl:m<all.length)(j:Cb all m=some t)(ht:t<n):DO all n e0 vals S t=vals m:=by
 have i:∃m,S m/\m<all.length/\Cb all m=some t:=⟨m,hm,hl,j⟩;unfold DO;rw[r9 i,DN ht];have h1:=i.choose_spec;congr 1
 have o:all[i.choose]?=some all[i.choose]:=by simp[h1.2.1]
 have q:all[m]?=some all[m]:=by simp[hl]
 have B:=h1.2.2;rw[DA,o] at B;rw[DA,q] at j;exact h.one _ _ _ _ o q t B j
def Iv{e0:Env}{vals:Nat->Value}{t:Nat}(i:∀m,S m->m<all.length->Cb all m≠some t):DO all n e0 vals S t=e0 t:=by
 unfold DO;rw[dif_neg];rintro⟨m,h1,j,o⟩;exact i m h1 j o
def KT{e0:Env}{vals:Nat->Value}{t:Nat}(ht:¬t<n):DO all n e0 vals S t=e0 t:=by
 unfold DO;by_cases i:∃m,S m/\m<all.length/\Cb all m=some t
 .rw[r9 i,Bp ht]
 .rw[dif_neg i]
def HC(h:SU n all Ax AN Gs){e0:Env}{vals vals':Nat->Value}{S B:Nat->Prop}{t:Nat}(q:∀m,m<all.length->Cb all m=some t->(S m↔B m)/\(S m->vals m=vals' m)):DO all n e0 vals S t=DO all n e0 vals' B t:=by
 by_cases ht:t<n
 .by_cases o:∃m,S m/\m<all.length/\Cb all m=some t
  .obtain⟨m,h1,i,j⟩:=o;rw[Oi h h1 i j ht,Oi h ((q m i j).1.1 h1) i j ht];exact(q m i j).2 h1
  .rw[Iv λm h1 i j=>o ⟨m,h1,i,j⟩,Iv λm h1 i j=>o ⟨m,(q m i j).1.2 h1,i,j⟩]
 .rw[KT ht,KT ht]
def Mj(h:SU n all Ax AN Gs){e0:Env}{vals vals':Nat->Value}{i:Nat}{o:Oper}(hi:all[i]?=some o)(Q:∀m,F m↔S m\/m=i)(V:∀m,S m->m≠i->vals' m=vals m)(I:vals' i=v)(X:¬S i) :
  Bs n (DO all n e0 vals S) o.dst v=DO all n e0 vals' F:=by
 have J:i<all.length:=(Ad.1 hi).1;have q:Cb all i=o.dst:=by rw[DA,hi];rfl
 funext t
 by_cases j:o.dst=some t
 .rw[j];by_cases ht:t<n
  .rw[Oi h ((Q i).2 (.inr rfl)) J (q.trans j) ht,I];have:Nat.blt t n=true:=pH (by omega);simp[Bs,GK,this]
  .rw[KT ht];have:Nat.blt t n=false:=by cases hb:Nat.blt t n with|false=>rfl|true=>exact absurd (mq hb) (by omega)
   simp only[Bs,GK,this,Bool.and_false,lj];exact KT ht
 .rw[Hj j];refine HC h λm hm U=>?_;have B:m≠i:=by rintro rfl;rw[q] at U;exact j U
  exact⟨by rw[Q];simp[B],λY=>(V m Y B).symm⟩
def Hc{o:Oper}{e e':Env}(i:∀cs b,o.op≠.select cs b)(h:∀t∈Jr o,e t=e' t):execOp (ev e) o=execOp (ev e') o:=by
 refine execOp_congr o i λx j=>?_;cases x with
 |tmp t=>exact h t (by simp only[Jr,qg];exact⟨.tmp t,by simpa using j,rfl⟩)
 |_=>rfl
variable (e0:Env)(w0:World)(A:Nat->Value->World->Prop)(M:Nat->Nat->Prop)
def ik(Ax:List Nat)(M:Nat->Nat->Prop):Nat->Prop:=λb=>∃j∈Ax,M j b
def jO(Ax:List Nat)(M:Nat->Nat->Prop)(w0:World)(a:Addr)(v:Value):Prop:=w0.cell? a=some v/\∀j∈Ax,¬M j a.block
def Rw(Ax:List Nat)(AN:List (List Nat))(i:Nat):List Nat:=Ax.filter λj=>!Dy (CZ AN j) i
def Uh(Ax:List Nat)(AN:List (List Nat))(M:Nat->Nat->Prop)(w0:World)(i:Nat):Addr->Value->Prop:=jO (Rw Ax AN i) M w0
noncomputable def view(all:List Oper)(AN:List (List Nat))(n:Nat)(e0:Env)(vals:Nat->Value)(i:Nat):Env:=DO all n e0 vals (·∈CZ AN i)
def Co(all:List Oper)(e:Env)(o:Oper):Prop:=∀g b,o.guard=some (g,b)->yv all e g=some b
def Hs(P:Program)(Ax:List Nat)(M:Nat->Nat->Prop)(w0:World)(o:Oper)(e:Env)(v:Value):Prop:=∀w',Mod (ik Ax M) w0 w'->(execOp (ev e) o).run P w'=.ok (.value v) w'
def Gd(P:Program)(all:List Oper)(Ax:List Nat)(AN:List (List Nat))(n:Nat)(e0:Env)(w0:World)(M:Nat->Nat->Prop)(vals:Nat->Value)(i:Nat)(o:Oper):Prop:=
 (Co all (view all AN n e0 vals i) o->Hs P (Rw Ax AN i) M w0 o (view all AN n e0 vals i) (vals i))/\(¬Co all (view all AN n e0 vals i) o->vals i=undef)
variable {e0 w0 A M}
def Uk{B:List Nat}{o:Oper}{i:Nat}{e:Env}{k:Value->Prop}(hi:Dy Ax i=false)(h:YA P ok Ax A (jO B M w0) w o i (ev e) k):∃v,k v/\Hs P B M w0 o e v:=by
 unfold YA at h;rw[hi] at h;simp only[lj] at h;have I:∀(a:Addr) (v:Value),jO B M w0 a v->∀w',Mod (ik B M) w0 w'->w'.cell? a=some v:=λa v X w' hm=>
  (mi (hm.same a.block (lU w0 a X.1) λ⟨j,hj,hb⟩=>X.2 j hj hb)).trans X.1
 have O:(bif CO P o then Fe P ok o (ev e) (λv _=>k v) w else False)->∃v,k v/\Hs P B M w0 o e v:=by
  intro h;cases hp:CO P o with
  |false=>rw[hp] at h;exact h.elim
  |true=>
   rw[hp] at h;simp only[lp] at h;obtain⟨v,h1,J⟩:=pure_run (ρ:=ev e) (λ_=>rfl) hp h;exact⟨v,h1,λw' _=>J w'⟩
 obtain⟨a7,op,a6,pos,after,guard⟩:=o;cases op with
 |load t x=>
  simp only at h;split at h
  .rename_i m ha;obtain⟨a,v,h1,J,Q⟩:=h;refine⟨v,Q,λw' hm=>?_⟩;obtain⟨v',q,r1,U⟩:=Te (P:=P) (K:=λv' q=>v'=v/\q=w') (w:=w') ha ⟨a,v,h1,I a v J w' hm,rfl,rfl⟩;obtain⟨rfl,rfl⟩:=U;simp only[execOp,lH,r1,S9,mG]
  .rename_i m ha;obtain⟨a,vs,h1,hl,J,Q⟩:=h;refine⟨_,Q,λw' hm=>?_⟩;obtain⟨v',q,r1,U⟩:=TJ (P:=P) (K:=λv' q=>v'=.agg vs.toArray/\q=w') (w:=w') ha ⟨a,vs,h1,hl,λj v Y=>I _ v (J j v Y) w' hm,rfl,rfl⟩;obtain⟨rfl,rfl⟩:=U;simp only[execOp,lH,r1,S9,mG]
  .exact h.elim
 |binOp op t x y yt=>
  simp only at h;cases hp:HV P op t y with
  |true=>
   rw[hp] at h;simp only[lp] at h;obtain⟨v,h1,J⟩:=GU hp h;refine⟨v,h1,λw' _=>?_⟩;obtain⟨V,Z,a1⟩:∃V:Cont,V v w'/\∀v' q,V v' q->v'=v/\q=w':=⟨λv' q=>v'=v/\q=w',⟨rfl,rfl⟩,λ_ _ h=>h⟩;obtain⟨v',q,r1,U⟩:=PY (P:=P) (w:=w') (K:=V) (xo:=x) (yo:=y) (F:=False) (λv Y=>by rw[Y];rfl) (J _ _ Z) (λhF=>hF.elim);obtain⟨rfl,rfl⟩:=a1 _ _ U;simp only[execOp];rw[lH,r1];rfl
  |false=>
   rw[hp] at h;simp only[lj] at h;obtain⟨v,h1,J⟩:=h;refine⟨v,J,λw' _=>?_⟩;have Q:=h1 w';simp only[Di] at Q;simp only[execOp];rw[lH,Q];rfl
 |_=>exact O h
def Hs.kU{o:Oper}{e:Env}(h:Hs P Ax M w0 o e v)(h':Hs P Ax M w0 o e sv):v=sv:=by
 have h1:=h w0 (Mod.refl _ _);have i:=h' w0 (Mod.refl _ _);rw[h1] at i;cases i;rfl
def Hs.congr{o:Oper}{e e':Env}(i:∀cs b,o.op≠.select cs b)(h:∀t∈Jr o,e t=e' t)(hr:Hs P Ax M w0 o e v):Hs P Ax M w0 o e' v:=by
 intro w' hm;rw[<-Hc i h];exact hr w' hm
def Mg(q:SU n all Ax AN Gs){vals:Nat->Value}{i:Nat}{o:Oper}(hi:all[i]?=some o)(h1:∀j∈CZ AN i,S j)(U:∀m,m<all.length->i∈CZ AN m->¬S m)(V:¬S i) :
  ∀t∈slotsOf all o,DO all n e0 vals S t=view all AN n e0 vals i t:=by
 have B:i<all.length:=(Ad.1 hi).1;intro t ht;refine HC q λm hm Q=>⟨?_,λ_=>rfl⟩;by_cases I:m=i
 .subst I;exact⟨λh=>(V h).elim,λh=>absurd (q.lt B h) (by omega)⟩
 .have J:all[m]?=some all[m]:=by simp[hm]
  rw[DA,J] at Q;rcases q.reads i o hi t ht m _ J Q I with h|h
  .exact⟨λ_=>h,λ_=>h1 m h⟩
  .refine⟨λX=>(U m hm h X).elim,λO=>?_⟩;have:=q.lt B O;have:=q.lt hm h;omega
def Ir{o:Oper}{t:Nat}(h:t∈Jr o):t∈slotsOf all o:=lE _ h
def Hf(q:SU n all Ax AN Gs){i:Nat}{o:Oper}(hi:all[i]?=some o){e e':Env}(h:∀t∈slotsOf all o,e t=e' t):Co all e o↔Co all e' o:=by
 unfold Co;refine rz λg=>rz λb=>imp_congr_right λj=>?_;obtain⟨d,m⟩:=(q.guard i o hi g b j).2;have:d∈slotsOf all o:=by unfold slotsOf;rw[j];simp[m]
 unfold yv;rw[m];simp only[h d this]
def HW(o:SU n all Ax AN Gs){vals vals':Nat->Value}{i:Nat}(h:∀j∈CZ AN i,vals j=vals' j):view all AN n e0 vals i=view all AN n e0 vals' i:=by
 funext t
 exact HC o λm _ _=>⟨pJ,λhm=>h m hm⟩
section
variable {ds:List Deferred}{e0:Env}{w0:World}{A:Nat->Value->World->Prop}{M:Nat->Nat->Prop}
def XL{Ax:List Nat}{AN:List (List Nat)}{i j:Nat}(m:j∈Ax)(h:¬i∈CZ AN j):j∈Rw Ax AN i:=by
 simp only[Rw,mg,oV,m,pr];cases hb:Dy (CZ AN j) i with
 |false=>rfl
 |true=>exact(h (Br.1 hb)).elim
end
section
variable {ds:List Deferred}{e0:Env}{w0:World}{A:Nat->Value->World->Prop}{M:Nat->Nat->Prop}
def Gd.QO(q:SU n all Ax AN Gs){vals vals':Nat->Value}{i:Nat}{o:Oper}(_:i<all.length)(B:∀j∈CZ AN i,vals j=vals' j)(m:vals i=vals' i)(h:Gd P all Ax AN n e0 w0 M vals i o):Gd P all Ax AN n e0 w0 M vals' i o:=by
 unfold Gd at h ⊢;rw[<-HW q B,<-m];exact h
end
section
variable {ds:List Deferred}{e0:Env}{w0:World}{A:Nat->Value->World->Prop}{M:Nat->Nat->Prop}
def LU:∀(l:List Bool) (i:Nat),l[i]?=some false->(l.set i true).count false+1=l.count false:=by
 intro l;induction l with
 |nil=>intro i h;simp at h
 |cons b l j=>
  intro i h;cases i with
  |zero=>simp at h;subst h;simp
  |succ i=>
   have:=j i (by simpa using h);simp only[qh,List.count_cons];omega
def IY(ds:List Deferred)(all:List Oper)(n:Nat)(e0:Env)(K:Env->World->Prop):Exit->Act->World->Prop:=λex a w=>ex=.normal/\∃e',Fr ds n e' a/\(∀j,(∀o∈all,o.dst≠some j)->e' j=e0 j)/\K e' w
end
end
def dn(o:Oper):Bool:=match o.op with|.select _ _=>true|_=>false
def fp(n:Nat)(all:List Oper)(Ax:List Nat)(AN:List (List Nat))(Gs:List (List Nat))(i:Nat)(o:Oper):Bool:=
 !dn o&&o.after.toList.all (λe=>!(Region.binds .any e)||Nat.blt e.on i)
 && (CZ AN i).all (λj=>o.after.toList.any λe=>Region.binds .any e&&(Nat.beq e.on j||Dy (CZ AN e.on) j))
 && (slotsOf all o).all (λt=>(List.range all.length).all λm=>!(Mi (Cb all m) t)||Nat.beq m i||Dy (CZ AN i) m||Dy (CZ AN m) i)
 && (match o.guard with|none=>true|some (g,_)=>Dy (CZ AN i) g&&(Cb all g).isSome)
 && (match o.dst with|none=>true|some d=>Nat.blt d n&&(List.range all.length).all λj=>Nat.beq j i||!(Mi (Cb all j) d))
 && (Dy Ax i||(CZ AN i).all (λj=>!Dy Ax j)||Ax.all (λj=>Dy (CZ AN i) j)||Gs.any (λE=>Ax.all λj=>Dy (CZ AN i) j==Dy E j))
def Xx(n:Nat)(all:List Oper)(Ax:List Nat)(AN:List (List Nat))(Gs:List (List Nat)):Bool:=
 Nat.ble AN.length all.length
 && (List.range all.length).all (λi=>match all[i]? with|some o=>fp n all Ax AN Gs i o|none=>true)
 && (List.range AN.length).all (λi=>(CZ AN i).all λj=>(CZ AN j).all λm=>Dy (CZ AN i) m)
 && Ax.any (λk=>Nat.blt k all.length&&(CZ AN k).all λj=>!Dy Ax j)
 && Ax.all (λk=>Nat.blt k all.length)
def Lq{a b:Nat}:Nat.blt a b=true↔a<b:=⟨λh=>mq h,λh=>pH (show a+1<=b from h)⟩
def beq_iff{a b:Nat}:Nat.beq a b=true↔a=b:=⟨lZ,λh=>by subst h;simp⟩
def YD{AN:List (List Nat)}:∀{i:Nat},AN.length<=i->CZ AN i=[]:=by
 induction AN with
 |nil=>intro i _;rfl
 |cons a r j=>intro i h;cases i with
  |zero=>simp at h
  |succ i=>exact j (by simpa using h)
def OD{d:Option Nat}{t:Nat}:Mi d t=true↔d=some t:=by
 cases d with
 |none=>simp[Mi]
 |some x=>simp[Mi]
def cB{n:Nat}{all:List Oper}{Ax:List Nat}{AN:List (List Nat)}{Gs:List (List Nat)}(h:Xx n all Ax AN Gs=true):SU n all Ax AN Gs:=by
 simp only[Xx,gC,mL,nW] at h;obtain⟨⟨⟨⟨h0,h1⟩,Z⟩,Y⟩,h4⟩:=h;have a1:AN.length<=all.length:=mq h0;have one:∀(i:Nat) o,all[i]?=some o->fp n all Ax AN Gs i o=true:=λi o hi=>by
  have:=h1 i (Ad.1 hi).1;rw[hi] at this;exact this
 have q:=λ(i:Nat) (o:Oper) (hi:all[i]?=some o)=>by
  have:=one i o hi;unfold fp at this;simp only[gC] at this;exact this
 have J:∀(m:Nat) o',all[m]?=some o'->Cb all m=o'.dst:=λm o' hm=>by rw[DA,hm];rfl
 refine⟨?_,?_,?_,?_,?_,?_,?_,?_,?_,?_,?_⟩
 .intro i o hi cs b Q;have:=(q i o hi).1.1.1.1.1.1;rw[dn,Q] at this;cases this
 .intro i o hi e he hb;have:=(q i o hi).1.1.1.1.1.2;simp only[mL] at this;have:=this e (by simpa using he);rw[hb] at this;simpa[Lq] using this
 .intro i o hi j B;have:=(q i o hi).1.1.1.1.2;simp only[mL] at this;have:=this j B;simp only[pP,gC,oD] at this;obtain⟨e,he,hb,hc⟩:=this;refine⟨e,by simpa using he,hb,?_⟩;rcases hc with hc|hc
  .exact .inl (beq_iff.1 hc)
  .exact .inr (Br.1 hc)
 .intro i j B m hm;by_cases hi:i<AN.length
  .have:=Z i hi j B;exact Br.1 (this m hm)
  .rw[YD (by omega)] at B;cases B
 .intro i o hi t ht m o' hm O U;have:=(q i o hi).1.1.1.2;simp only[mL,nW] at this;have:=this t ht m (Ad.1 hm).1;have he:Mi (Cb all m) t=true:=OD.2 ((J m o' hm).trans O);simp only[he,Bool.not_true,Bool.false_or,oD,Br] at this;rcases this with(h|h)|h
  .exact(U (beq_iff.1 h)).elim
  .exact .inl h
  .exact .inr h
 .intro i o hi g b hg;have:=(q i o hi).1.1.2;rw[hg] at this;simp only[gC,Br,lD] at this;exact this
 .intro i j o o' hi B d O V;have:=(q i o hi).1.2;rw[O] at this;simp only[gC,mL,nW] at this;have:=this.2 j (Ad.1 B).1;have he:Mi (Cb all j) d=true:=OD.2 ((J j o' B).trans V);simp only[he,Bool.not_true,Bool.or_false] at this;exact(beq_iff.1 this).symm
 .intro i hi X;have:=(q i all[i] (by simp[hi])).2;have hm:Dy Ax i=false:=by cases hm:Dy Ax i with|false=>rfl|true=>exact(X (Br.1 hm)).elim
  simp only[hm,Bool.false_or,oD,mL,pP] at this;rcases this with(h|h)|⟨E,hE,h⟩
  .exact .inl λj B I=>by have:=h j B;rw[Br.2 I] at this;cases this
  .exact .inr (.inl λj B=>Br.1 (h j B))
  .refine .inr (.inr ⟨E,hE,λj B=>?_⟩);have:=h j B;simp only[pY] at this;rw[<-Br,<-Br,this]
 .simp only[pP,gC,mL] at Y;obtain⟨k,hk,hl,hn⟩:=Y;exact⟨k,hk,Lq.1 hl,λj B I=>by have:=hn j B;rw[Br.2 I] at this;cases this⟩
 .exact λk hk=>Lq.1 (h4 k hk)
 .intro i o hi d O;have:=(q i o hi).1.2;rw[O] at this;simp only[gC] at this;exact Lq.1 this.1
section
variable (P:Program)(ok:Nat->Bool)(n:Nat)
def LI(Ax:List Nat)(M:Nat->Nat->Prop)(j:Nat->Addr->Value->Prop)(_:World)(o:Oper)(i:Nat)(ρ:Operand->Value)(k:Cont)(w:World):Prop:=
 bif Dy Ax i then Fe P ok o ρ (λv w'=>Mod (M i) w w'/\k v w') w
 else YA P ok Ax (λ_ _ _=>True) (j i) w o i ρ λv=>k v w
def CM(Ax:List Nat)(AN:List (List Nat))(w0:World)(F:(Nat->Nat->Prop)->(Nat->Addr->Value->Prop)->Prop):Prop:=∃M,F M (Uh Ax AN M w0)
end
section
variable {P:Program}{ds:List Deferred}{ok:Nat->Bool}{n:Nat}{all:List Oper}{Ax:List Nat}{AN Gs:List (List Nat)}{e0:Env}{w0:World}{M:Nat->Nat->Prop}{K:Env->World->Prop}
def Pv{r:Result Next}{K:Cont}(h:Er w r K P):∃v w',K v w':=by
 match r,h with
 |.ok (.value v) w',h=>exact⟨_,_,h⟩
 |.ok .skip w',h=>exact⟨_,_,h⟩
 |.ok (.enter f args) w',h=>
  obtain⟨_,hc⟩:=h;obtain⟨e,i,fr,⟨v,_,j⟩,_⟩:=hc [];exact⟨v,i,j⟩
def ZL(m:SU n all Ax AN Gs){i:Nat}{o:Oper}(j:all[i]?=some o){e:Env}:yv all (Bs n e o.dst undef) i=none:=by
 unfold yv;rw[DA,j];simp only[q8];cases q:o.dst with
 |none=>rfl
 |some d=>
  have:=m.bound i o j d q;have hb:Nat.blt d n=true:=pH (show d+1<=n from this);simp[Bs,GK,hb];rfl
end
inductive Ord where
 |nil
 |op (i:Nat) (t:Ord)
 |br (a b:Ord)
section
variable (P:Program)(ok:Nat->Bool)(n:Nat)
def CU(all:List Oper)(Ax:List Nat)(M:Nat->Nat->Prop)(m:Nat->Addr->Value->Prop)(w0:World)(K:Env->World->Prop):Ord->List (Nat×Option Bool)->Env->World->Prop
 |.nil,_,e,w=>K e w
 |.br a b,kn,e,w=>CU all Ax M m w0 K a kn e w/\CU all Ax M m w0 K b kn e w
 |.op i r,kn,e,w=>
  match all[i]? with
  |none=>False
  |some o=>match o.guard with
   |none=>LI P ok Ax M m w0 o i (ev e) (λv w'=>CU all Ax M m w0 K r kn (Bs n e o.dst v) w') w
   |some (j,q)=>match FJ kn j with
    |some (some b)=>bif LJ b q then LI P ok Ax M m w0 o i (ev e) (λv w'=>CU all Ax M m w0 K r kn (Bs n e o.dst v) w') w
      else CU all Ax M m w0 K r ((i,none)::kn) (Bs n e o.dst undef) w
    |some none=>CU all Ax M m w0 K r ((i,none)::kn) (Bs n e o.dst undef) w
    |none=>match Cb all j with
     |some d=>AZ (e d)
       (bif q then LI P ok Ax M m w0 o i (ev (GK n e d (.bool true))) (λv w'=>CU all Ax M m w0 K r ((j,some true) :: kn) (Bs n (GK n e d (.bool true)) o.dst v) w') w
        else CU all Ax M m w0 K r ((i,none) :: (j,some true) :: kn) (Bs n (GK n e d (.bool true)) o.dst undef) w)
       (bif q then CU all Ax M m w0 K r ((i,none) :: (j,some false) :: kn) (Bs n (GK n e d (.bool false)) o.dst undef) w
        else LI P ok Ax M m w0 o i (ev (GK n e d (.bool false))) (λv w'=>CU all Ax M m w0 K r ((j,some false) :: kn) (Bs n (GK n e d (.bool false)) o.dst v) w') w)
     |none=>False
end
def dg(Ax:List Nat):Ord->Nat->Bool
 |.nil,_=>false
 |.br a b,i=>dg Ax a i||dg Ax b i
 |.op j t,i=>Nat.beq j i||(!Dy Ax j&&dg Ax t i)
def iR(Ax:List Nat)(AN:List (List Nat))(t:Ord)(pre:List Nat):Bool:=Ax.all λi=>Dy pre i||!((CZ AN i).all λj=>!Dy Ax j||Dy pre j)||dg Ax t i
def QV(N:Nat)(Ax:List Nat)(AN:List (List Nat)):Ord->List Nat->Bool
 |.nil,pre=>(List.range N).all (Dy pre)
 |.br a b,pre=>QV N Ax AN a pre&&QV N Ax AN b pre
 |.op i t,pre=>Nat.blt i N&&!Dy pre i&&(CZ AN i).all (Dy pre)&&(bif Dy Ax i then iR Ax AN t (i::pre) else true)&&QV N Ax AN t (i::pre)
def Ts(N:Nat)(Ax:List Nat)(AN:List (List Nat))(t:Ord):Bool:=iR Ax AN t []&&QV N Ax AN t []
inductive Reach:Ord->List Nat->Ord->Prop where
 |refl (t:Ord):Reach t [] t
 |op {i:Nat} {t t':Ord} {A:List Nat}:Reach t A t'->Reach (.op i t) (i::A) t'
 |l {a b t':Ord} {A:List Nat}:Reach a A t'->Reach (.br a b) A t'
 |r {a b t':Ord} {A:List Nat}:Reach b A t'->Reach (.br a b) A t'
def Fv{l:List Nat}{i:Nat}:Dy l i=false↔i∉l:=by
 rw[<-Br];cases Dy l i<;>simp
def Rk{Ax:List Nat}{AN:List (List Nat)}{i:Nat}{t:Ord}{pre:List Nat}(h:QV N Ax AN (.op i t) pre=true) :
  i<N/\i∉pre/\(∀j∈CZ AN i,j∈pre)/\(i∈Ax->iR Ax AN t (i::pre)=true)/\QV N Ax AN t (i::pre)=true:=by
 simp only[QV,gC,mL,oV,Fv,Br] at h;obtain⟨⟨⟨⟨h1,o⟩,q⟩,m⟩,B⟩:=h;refine⟨mq h1,o,q,λhi=>?_,B⟩;rw[Br.2 hi] at m;exact m
def Iw{Ax:List Nat}{AN:List (List Nat)}{t t':Ord}{A:List Nat}(h:Reach t A t'):∀{pre:List Nat},QV N Ax AN t pre=true->QV N Ax AN t' (A.reverse++pre)=true/\∀j∈A,j∉pre:=by
 induction h with
 |refl t=>intro pre h;exact⟨h,λj i=>(nomatch i)⟩
 |op _ m=>
  intro pre h;obtain⟨_,o,_,_,q⟩:=Rk h;obtain⟨B,I⟩:=m q;refine⟨by simpa using B,λj i=>?_⟩;rcases Mp.1 i with rfl|i
  .exact o
  .exact λhp=>I j i (kx _ hp)
 |l _ m=>intro pre h;simp only[QV,gC] at h;exact m h.1
 |r _ m=>intro pre h;simp only[QV,gC] at h;exact m h.2
def VV{Ax:List Nat}{i:Nat}:∀{t:Ord},dg Ax t i=true->∃A t',Reach t A (.op i t')/\∀j∈A,j∉Ax:=by
 intro t;induction t with
 |nil=>intro h;cases h
 |op j t I=>
  intro h;simp only[dg,oD,gC,oV,Fv] at h;rcases h with h|⟨h1,J⟩
  .have:=lZ h;subst this;exact⟨[],t,.refl _,λj O=>(nomatch O)⟩
  .obtain⟨A,t',m,o⟩:=I J;refine⟨j::A,t',.op m,λk hk=>?_⟩;rcases Mp.1 hk with rfl|hk
   .exact h1
   .exact o k hk
 |br a b q B=>
  intro h;simp only[dg,oD] at h;rcases h with h|h
  .obtain⟨A,t',m,o⟩:=q h;exact⟨A,t',.l m,o⟩
  .obtain⟨A,t',m,o⟩:=B h;exact⟨A,t',.r m,o⟩
def Oc:∀t:Ord,∃A,Reach t A .nil:=by
 intro t;induction t with
 |nil=>exact⟨[],.refl _⟩
 |op j t m=>obtain⟨A,h⟩:=m;exact⟨_,.op h⟩
 |br a b i _=>obtain⟨A,h⟩:=i;exact⟨A,.l h⟩
def QJ{t t':Ord}{A:List Nat}(h:Reach t A t'):∀{i:Nat},i∈A->∃B m,Reach t B (.op i m)/\(∀j∈B,j∈A):=by
 induction h with
 |refl t=>intro i hi;cases hi
 |@op j t t' A h o=>
  intro i hi;rcases Mp.1 hi with rfl|hi
  .exact⟨[],t,.refl _,λj I=>(nomatch I)⟩
  .obtain⟨B,m,h1,q⟩:=o hi;refine⟨j::B,m,.op h1,λk hk=>?_⟩;rcases Mp.1 hk with rfl|hk
   .exact lb
   .exact kx _ (q k hk)
 |l _ o=>intro i hi;obtain⟨B,m,h1,q⟩:=o hi;exact⟨B,m,.l h1,q⟩
 |r _ o=>intro i hi;obtain⟨B,m,h1,q⟩:=o hi;exact⟨B,m,.r h1,q⟩
section
variable {P:Program}{ds:List Deferred}{ok:Nat->Bool}{n:Nat}{all:List Oper}{Ax:List Nat}{AN Gs:List (List Nat)}{e0:Env}{w0:World}{M:Nat->Nat->Prop}{K:Env->World->Prop}
structure Mw (all:List Oper) (AN:List (List Nat)) (pre:List Nat):Prop where
 lt:∀m∈pre,m<all.length
 cl:∀m∈pre,∀j∈CZ AN m,j∈pre
def Mw.cons{pre:List Nat}{i:Nat}(h:Mw all AN pre)(hi:i<all.length)(ha:∀j∈CZ AN i,j∈pre):Mw all AN (i::pre):=
 ⟨λm hm=>by rcases Mp.1 hm with rfl | hm;exact hi;exact h.lt m hm,λm hm j o=>by
  rcases Mp.1 hm with rfl|hm
  .exact kx _ (ha j o)
  .exact kx _ (h.cl m hm j o)⟩
def Nz(I:SU n all Ax AN Gs){kn:List (Nat×Option Bool)}{i:Nat}{o:Oper}(hi:all[i]?=some o)(hk:∀p∈kn,p.1≠i/\p.1<all.length):GZ o.dst kn all=false:=by
 unfold GZ;cases J:o.dst with
 |none=>rfl
 |some t=>
  simp only[List.any_eq_false];intro p hp;obtain⟨q,j⟩:=hk p hp;have m:all[p.1]?=some (all[p.1]'j):=by simp[j]
  rw[DA,m];simp only[q8];cases B:(all[p.1]'j).dst with
  |none=>simp
  |some u=>
   simp only;intro hb;have:=lZ hb;subst this;exact q (I.one _ _ _ _ m hi u B J)
def N4(hG : SU n all Ax AN Gs){o : Oper}{J : Ord}{i : Nat}{pre : List Nat}{kn : List (Nat×Option Bool)}{e : Env}(Y : all[i]? = some o)(ha : ∀j∈CZ AN i, j∈pre)(O : ∀p∈kn, p.1∈pre)(hk : GO all kn e)
   (h : CU P ok n all Ax M (Uh Ax AN M w0) w0 K (.op i J) kn e w) :
    ∃V, (∀p∈V, p.1∈pre) /\ GO all V e /\
      ((Co all e o /\ LI P ok Ax M (Uh Ax AN M w0) w0 o i (ev e) (λv w' => CU P ok n all Ax M (Uh Ax AN M w0) w0 K J V (Bs n e o.dst v) w') w) \/
       (¬ Co all e o /\ CU P ok n all Ax M (Uh Ax AN M w0) w0 K J ((i, none) :: V) (Bs n e o.dst undef) w)) := by
  unfold CU at h;rw[Y] at h;simp only at h;cases B : o.guard with
  |none =>
    simp only[B] at h;exact⟨kn, O, hk, .inl ⟨(λg b Q => by rw[B] at Q; cases Q), h⟩⟩
  |some gb =>
    obtain⟨g, m⟩ := gb;simp only[B] at h;have a6 : g∈pre := ha g (hG.guard i o Y g m B).1;have wt : yv all e g = some m -> Co all e o := λq g' b' Q => by rw[B] at Q; cases Q; exact q
    have wf : yv all e g ≠ some m -> ¬Co all e o := λq hw => q (hw g m B);cases Z : FJ kn g with
    |some b =>
      have q := hk g b Z;simp only[Z] at h;cases b with
      |none => exact⟨kn, O, hk, .inr ⟨wf (by rw[q]; simp), h⟩⟩
      |some b =>
        simp only[MZ] at h;cases X : (b==m) with
        |true =>
          simp only[X, lp] at h;have : b = m := by simpa using X
          exact⟨kn, O, hk, .inl ⟨wt (by rw[q, this]), h⟩⟩
        |false =>
          simp only[X, lj] at h;have : b ≠ m := by simpa using X
          exact⟨kn, O, hk, .inr ⟨wf (by rw[q]; simp[this]), h⟩⟩
    |none =>
      simp only[Z] at h;obtain⟨d, hd⟩ := (hG.guard i o Y g m B).2;simp only[hd] at h;have a1 : yv all e g = bv (e d) := by simp[yv, hd]
      have I : ∀b, ∀p∈(g, b)::kn, p.1∈pre := λb p hp => by
        rcases Mp.1 hp with rfl|hp
        . exact a6
        . exact O p hp
      rcases He h with⟨U, hb⟩|⟨U, hb⟩
      . have q : yv all e g = some true := by rw[a1, U]; rfl
        rw[HF U] at hb;cases m with
        |true => simp only[lp] at hb; exact⟨_, I _, hk.cons q, .inl ⟨wt q, hb⟩⟩
        |false => simp only[lj] at hb; exact⟨_, I _, hk.cons q, .inr ⟨wf (by rw[q]; simp), hb⟩⟩
      . have q : yv all e g = some false := by rw[a1, U]; rfl
        rw[HF U] at hb;cases m with
        |true => simp only[lp] at hb; exact⟨_, I _, hk.cons q, .inr ⟨wf (by rw[q]; simp), hb⟩⟩
        |false => simp only[lj] at hb; exact⟨_, I _, hk.cons q, .inl ⟨wt q, hb⟩⟩
def K1(ba:Cn P ok)(hG:SU n all Ax AN Gs){L:Nat->Prop}(hL:∀i,i<all.length->L i->∀j∈CZ AN i,L j){t t':Ord}{A:List Nat}(hr:Reach t A t') :
  ∀(pre:List Nat) (kn:List (Nat×Option Bool)) (vals:Nat->Value) (w:World),QV all.length Ax AN t pre=true->Mw all AN pre->(∀q∈kn,q.1∈pre)->GO all kn (DO all n e0 vals (λm=>m∈pre))->
   (∀(m:Nat) o,all[m]?=some o->(m∈pre\/L m)->m∉Ax->Gd P all Ax AN n e0 w0 M vals m o)->(∀j∈Ax,j∈A->¬L j)->
   CU P ok n all Ax M (Uh Ax AN M w0) w0 K t kn (DO all n e0 vals (λm=>m∈pre)) w->
   ∃vals' B w',(∀m,(m∈pre\/L m)->vals' m=vals m)/\(∀q∈B,q.1∈A.reverse++pre)/\GO all B (DO all n e0 vals' (λm=>m∈A.reverse++pre))/\
    (∀(m:Nat) o,all[m]?=some o->(m∈A.reverse++pre\/L m)->m∉Ax->Gd P all Ax AN n e0 w0 M vals' m o)/\((∀j∈Ax,j∉A)->w'=w)/\Mw all AN (A.reverse++pre)/\
    CU P ok n all Ax M (Uh Ax AN M w0) w0 K t' B (DO all n e0 vals' (λm=>m∈A.reverse++pre)) w':=by
 induction hr with
 |refl t=>intro pre kn vals w ho hp h1 h2 h3 _ h;exact⟨vals,kn,w,λ_ _=>rfl,h1,h2,h3,λ_=>rfl,hp,h⟩
 |l _ ih=>intro pre kn vals w ho hp h1 h2 h3 h4 h;simp only[QV,gC] at ho;exact ih pre kn vals w ho.1 hp h1 h2 h3 h4 h.1
 |r _ ih=>intro pre kn vals w ho hp h1 h2 h3 h4 h;simp only[QV,gC] at ho;exact ih pre kn vals w ho.2 hp h1 h2 h3 h4 h.2
 |@op p t t' A _ ih=>
  intro pre kn vals w ho hp bb hk hg an h;obtain⟨av,U,a6,_,bc⟩:=Rk ho;have I:all[p]?=some all[p]:=by simp[av]
  generalize all[p]=o at I;obtain⟨V,a1,a7,h⟩:=N4 hG I a6 bb hk h;have ax:∀t∈slotsOf all o,DO all n e0 vals (λm=>m∈pre) t=view all AN n e0 vals p t:=
   Mg hG I a6 (λm hm ak bd=>U (hp.cl m bd p ak)) U
  have J:=Nz hG I (kn:=V) λq hq=>⟨λe=>U (e▸a1 q hq),hp.lt _ (a1 q hq)⟩;have bk:=hp.cons av a6;have eA:(p::A).reverse++pre=A.reverse++(p::pre):=by simp
  rw[eA];have next:∀(v:Value) (B:List (Nat×Option Bool)) (w1:World),(L p->v=vals p)->(∀q∈B,q.1∈p::pre)->GO all B (Bs n (DO all n e0 vals (λm=>m∈pre)) o.dst v)->
    (p∉Ax->(Co all (view all AN n e0 vals p) o->Hs P (Rw Ax AN p) M w0 o (view all AN n e0 vals p) v)/\(¬Co all (view all AN n e0 vals p) o->v=undef))->
    (p∉Ax->w1=w)->CU P ok n all Ax M (Uh Ax AN M w0) w0 K t B (Bs n (DO all n e0 vals (λm=>m∈pre)) o.dst v) w1->
    ∃vals' B w',(∀m,(m∈pre\/L m)->vals' m=vals m)/\(∀q∈B,q.1∈A.reverse++(p::pre))/\GO all B (DO all n e0 vals' (λm=>m∈A.reverse++(p::pre)))/\
     (∀(m:Nat) o,all[m]?=some o->(m∈A.reverse++(p::pre)\/L m)->m∉Ax->Gd P all Ax AN n e0 w0 M vals' m o)/\((∀j∈Ax,j∉p::A)->w'=w)/\Mw all AN (A.reverse++(p::pre))/\
     CU P ok n all Ax M (Uh Ax AN M w0) w0 K t' B (DO all n e0 vals' (λm=>m∈A.reverse++(p::pre))) w':=by
   intro v B w1 ay aZ b0 bl bp hc;have b1:Bs n (DO all n e0 vals (λm=>m∈pre)) o.dst v=DO all n e0 (λq=>if q=p then v else vals q) (λm=>m∈p::pre):=
    Mj hG I (λm=>by simp[or_comm]) (λm _ ak=>by simp[ak]) (by simp) U
   rw[b1] at b0 hc;have bs:∀m,m<all.length->(m∈p::pre\/L m)->view all AN n e0 (λq=>if q=p then v else vals q) m=view all AN n e0 vals m:=λm hm O=>
    HW hG λj hj=>by
     by_cases b2:j=p
     .subst b2;rcases O with O|O
      .rcases Mp.1 O with rfl|O
       .exact(U (a6 _ hj)).elim
       .exact(U (hp.cl m O j hj)).elim
      .simp[ay (hL m hm O j hj)]
     .simp[b2]
   obtain ⟨vals',bx,w',r1,r2,r3,r4,r5,r7,r6⟩:=ih (p :: pre) B (λq=>if q=p then v else vals q) w1 bc bk aZ b0 (λm o' hm O a8=>by
     have bZ:m<all.length:=(Ad.1 hm).1;unfold Gd;rw[bs m bZ O];by_cases Y:m=p
     .subst Y;rw[I] at hm;cases hm;simp only[mF];exact bl a8
     .have:=hg m o' hm (O.imp (λh=>(Mp.1 h).resolve_left Y) id) a8;unfold Gd at this;simpa [Y] using this) (λj hj h1=>an j hj (kx _ h1)) hc
   refine⟨vals',bx,w',λm hm=>?_,r2,r3,r4,λb6=>?_,r7,r6⟩
   .rw[r1 m (hm.imp (λh=>kx _ h) id)];by_cases Y:m=p
    .subst Y;rcases hm with hm|hm
     .exact(U hm).elim
     .simp[ay hm]
    .simp[Y]
   .rw[r5 λj hj h1=>b6 j hj (kx _ h1)];exact bp λQ=>b6 p Q lb
  have X:=Hf hG I ax;have kc:∀q∈V,q.1∈p::pre:=λq hq=>kx _ (a1 q hq);have b7:∀q∈(p,none)::V,q.1∈p::pre:=λq hq=>by
   rcases Mp.1 hq with rfl|hq
   .exact lb
   .exact kc q hq
  by_cases Q:p∈Ax
  .have b8:¬L p:=an p Q lb;rcases h with⟨hw,Z⟩|⟨hw,Z⟩
   .unfold LI at Z;rw[Br.2 Q] at Z;simp only[lp] at Z;obtain⟨v,w1,c6,c4⟩:=Pv (Ov ba (λ_=>rfl) (λ_=>rfl) Z);exact next v V w1 (λh=>(b8 h).elim) kc (a7.put J _) (λh=>(h Q).elim) (λh=>(h Q).elim) c4
   .exact next undef ((p,none)::V) w (λh=>(b8 h).elim) b7 ((a7.put J _).cons (ZL hG I)) (λh=>(h Q).elim) (λ_=>rfl) Z
  .have hm:Dy Ax p=false:=Fv.2 Q;rcases h with⟨hw,Z⟩|⟨hw,Z⟩
   .unfold LI at Z;rw[hm] at Z;simp only[lj] at Z;obtain⟨v,h1,h2⟩:=Uk hm Z;have b9:Hs P (Rw Ax AN p) M w0 o (view all AN n e0 vals p) v:=h2.congr (hG.X8 p o I) λt ht=>ax t (Ir ht);refine next v V w (λal=>?_) kc (a7.put J _) (λ_=>⟨λ_=>b9,λhn=>(hn (X.1 hw)).elim⟩) (λ_=>rfl) h1;exact b9.kU ((hg p o I (.inr al) Q).1 (X.1 hw))
   .refine next undef ((p,none)::V) w (λal=>((hg p o I (.inr al) Q).2 λh=>hw (X.2 h)).symm) b7 ((a7.put J _).cons (ZL hG I)) (λ_=>⟨λh=>(hw (X.2 h)).elim,λ_=>rfl⟩) (λ_=>rfl) Z
structure WR (P:Program) (ds:List Deferred) (ok:Nat->Bool) (n:Nat) (all:List Oper) (Ax:List Nat) (AN:List (List Nat)) (e0:Env) (w0:World) (M:Nat->Nat->Prop) (K:Env->World->Prop) (L:Nat->Prop) (a:Act) (w:World):Prop where
 ex:∃(t:Ord) (pre:List Nat) (vals:Nat->Value) (kn:List (Nat×Option Bool)),
  Fr ds n (DO all n e0 vals (λm=>L m/\m<all.length)) a/\QV all.length Ax AN t pre=true/\iR Ax AN t pre=true/\Mw all AN pre/\(∀q∈kn,q.1∈pre)/\GO all kn (DO all n e0 vals (λm=>m∈pre))/\
  (∀(m:Nat) o,all[m]?=some o->(m∈pre\/L m)->m∉Ax->Gd P all Ax AN n e0 w0 M vals m o)/\(∀j∈Ax,L j↔j∈pre)/\
  CU P ok n all Ax M (Uh Ax AN M w0) w0 K t kn (DO all n e0 vals (λm=>m∈pre)) w
 mod:Mod (λb=>∃j∈Ax,L j/\M j b) w0 w
 closed:∀i,i<all.length->L i->∀j∈CZ AN i,L j
def Ua(c7:Cn P ok)(Z:SU n all Ax AN Gs){ops:Array Oper}(bb:ops.toList=all) :
  ∀(a6:Nat) (I:Array Bool) (a:Act) (w:World),I.size=ops.size->I.toList.count false<=a6->WR P ds ok n all Ax AN e0 w0 M K (λm=>I.getD m false=true) a w->
   wpAny P .any ops (IY ds all n e0 K) a6 I a w:=by
 have en:ops.size=all.length:=by rw[<-bb];simp
 have bc:∀i:Nat,ops[i]?=all[i]?:=λi=>by rw[<-bb];simp
 have e8:∀(I:Array Bool) (i:Nat),i∈Region.ready .any ops I->∃o,all[i]?=some o/\I.getD i true=false/\∀e∈o.after,Region.binds .any e=true->I.getD e.on false=true:=by
  intro I i hi;obtain⟨h1,o,h2,h3⟩:=mem_ready.1 hi;exact⟨o,by rw[<-bc];exact h2,h1,h3⟩
 have fin:∀(I:Array Bool) (a:Act) (w:World),I.size=ops.size->WR P ds ok n all Ax AN e0 w0 M K (λm=>I.getD m false=true) a w->Region.ready .any ops I=[]->IY ds all n e0 K .normal a w:=by
  intro I a w bd hI hr;have aZ:∀i,i<all.length->I.getD i false=true:=by
   intro i;induction i using Nat.strongRecOn with
   |_ i ih=>
    intro hi;cases hc:I.getD i false with
    |true=>rfl
    |false=>
     have:i∈Region.ready .any ops I:=by
      refine mem_ready.2 ⟨?_,all[i],by rw[bc];simp[hi],λe he hb=>?_⟩
      .have:i<I.size:=by omega
       simp[this] at hc ⊢;exact hc
      .have:=Z.back i all[i] (by simp[hi]) e he hb;exact ih e.on this (by omega)
     rw[hr] at this;cases this
  obtain⟨t,pre,vals,kn,bk,ho,_,hp,bl,hk,hg,V,hc⟩:=hI.ex;obtain⟨A,av⟩:=Oc t;obtain⟨c8,c9⟩:=Iw av ho;have a1:∀j∈Ax,j∉A:=λj J a7=>c9 j a7 ((V j J).1 (aZ j (Z.dd j J)));obtain⟨vals',e9,w',r1,r2,r3,r4,r5,r7,r6⟩:=K1 (L:=λm=>I.getD m false=true) c7 Z hI.closed av pre kn vals w ho hp bl hk hg (λj J a7=>(a1 j J a7).elim) hc;have hw:w'=w:=r5 a1;subst hw;have b0:∀m,m<all.length->m∈A.reverse++pre:=λm hm=>by
   simp only[QV,mL,Br] at c8;exact c8 m (nW.2 hm)
  have b2:DO all n e0 vals' (λm=>m∈A.reverse++pre)=DO all n e0 vals (λm=>I.getD m false=true/\m<all.length):=by
   funext t
   exact HC Z λm hm _=>⟨⟨λh=>⟨aZ m hm,hm⟩,λh=>b0 m hm⟩,λ_=>r1 m (.inr (aZ m hm))⟩
  unfold CU at r6;rw[b2] at r6;refine⟨rfl,_,bk,λj V=>Iv λm _ hm hd=>?_,r6⟩;have eo:all[m]?=some all[m]:=by simp[hm]
  rw[DA,eo] at hd;exact V all[m] (by simp) hd
 intro a6;induction a6 with
 |zero=>
  intro I a w bd hc hI;have hr:Region.ready .any ops I=[]:=by
   cases hr:Region.ready .any ops I with
   |nil=>rfl
   |cons i r=>
    exfalso;obtain⟨o,h1,h2,_⟩:=e8 I i (by rw[hr];simp);have b1:i<I.size:=by have:=(Ad.1 h1).1;omega
    simp[b1] at h2;have:false∈I.toList:=by rw[<-h2];simp
    have:=List.count_pos_iff.2 this;omega
  exact⟨hr,fin I a w bd hI hr⟩
 |succ a6 ih=>
  intro I a w bd hc hI;refine⟨fin I a w bd hI,λi hi=>?_⟩;obtain⟨o,Q,ca,cc⟩:=e8 I i hi;have b1:i<all.length:=(Ad.1 Q).1;have b6:i<I.size:=by omega
  have ax:¬I.getD i false=true:=by simp[b6] at ca ⊢;exact ca
  have b7:∀j∈CZ AN i,I.getD j false=true:=by
   intro j V;obtain⟨e,he,hb,h1⟩:=Z.kA i o Q j V;have hL:=cc e he hb;rcases h1 with rfl|h1
   .exact hL
   .exact hI.closed e.on (by have:=Z.back i o Q e he hb;omega) hL j h1
  obtain⟨t,pre,vals,kn,bk,ba,bp,hp,bl,hk,hg,V,dA⟩:=hI.ex;have dB:∀t∈slotsOf all o,DO all n e0 vals (λm=>I.getD m false=true/\m<all.length) t=view all AN n e0 vals i t:=
   Mg Z Q (λj V=>⟨b7 j V,by have:=Z.lt b1 V;omega⟩) (λm hm O dC=>ax (hI.closed m hm dC.1 i O)) (λh=>ax h.1)
  have ea:=bk.eval;have a8:(Region.wanted o (yielded ops a.tmps)=true)↔Co all (view all AN n e0 vals i) o:=by
   rw[<-Hf Z Q dB];unfold Region.wanted Co;cases hg:o.guard with
   |none=>simp
   |some gb=>
    obtain⟨g,b⟩:=gb;have:=JL bk (ops:=ops) (j:=g);rw[bb] at this;simp only[this,pY];constructor
    .rintro h g' b' ep;cases ep;exact h
    .intro h;exact h g b rfl
  have ec:∀m,(I.setIfInBounds i true).getD m false=true↔(I.getD m false=true\/m=i):=by
   intro m;simp only[nO,qQ];by_cases O:i=m
   .subst O;simp[b6]
   .simp[O,oF O]
  have ed:(I.setIfInBounds i true).toList.count false<=a6:=by
   have hb:I.toList[i]'(by simpa using b6)=false:=by simp[b6] at ca;simpa using ca
   have:(I.setIfInBounds i true).toList.count false+1=I.toList.count false:=by
    rw[Array.toList_setIfInBounds];exact LU I.toList i (by rw[<-hb];simp)
   omega
  have cu:∀m,m<all.length->(I.getD m false=true\/m=i)->∀j∈CZ AN m,(I.getD j false=true\/j=i):=by
   rintro m hm (er|rfl) j V
   .exact .inl (hI.closed m hm er j V)
   .exact .inl (b7 j V)
  have put:∀(vals':Nat->Value) (v:Value),(∀m,I.getD m false=true->vals' m=vals m)->vals' i=v->
    Fr ds n (DO all n e0 vals' (λm=>(I.getD m false=true\/m=i)/\m<all.length)) (a.put o.dst v):=by
   intro vals' v h1 h2;rw[<-Mj Z (vals:=vals) (S:=λm=>I.getD m false=true/\m<all.length) (v:=v) Q (λm=>?_) (λm hm O=>h1 m hm.1) h2 (λhh=>ax hh.1)]
   .exact bk.put o.dst v
   .constructor
    .rintro⟨h1|h1,h2⟩
     .exact .inl ⟨h1,h2⟩
     .exact .inr h1
    .rintro(⟨h1,h2⟩|rfl)
     .exact⟨.inl h1,h2⟩
     .exact⟨.inr rfl,b1⟩
  have go:∀(v:Value) (w':World),WR P ds ok n all Ax AN e0 w0 M K (λm=>I.getD m false=true\/m=i) (a.put o.dst v) w'->wpAny P .any ops (IY ds all n e0 K) a6 (I.setIfInBounds i true) (a.put o.dst v) w':=by
   intro v w' h1;refine ih _ _ _ (by simpa using bd) ed ?_;have:(λm=>(I.setIfInBounds i true).getD m false=true)=(λm=>I.getD m false=true\/m=i):=by
    funext m;exact propext (ec m)
   rw[this];exact h1
  unfold wpOp;rw[bc i,Q];simp only;have bs:∀(vals':Nat->Value),(∀m,I.getD m false=true->vals' m=vals m)->view all AN n e0 vals' i=view all AN n e0 vals i:=λvals' h=>HW Z λj V=>h j (b7 j V);by_cases ak:i∈Ax
  .have et:i∉pre:=λh=>ax ((V i ak).2 h);have dT:dg Ax t i=true:=by
    simp only[iR,mL] at bp;have h1:=bp i ak;rw[Fv.2 et] at h1;have h2:((CZ AN i).all λj=>!Dy Ax j||Dy pre j)=true:=by
     simp only[mL,oD,oV,Br,Fv];intro j eu;by_cases J:j∈Ax
     .exact .inr ((V j J).1 (b7 j eu))
     .exact .inl J
    simpa[h2] using h1
   obtain⟨A,t',av,ew⟩:=VV dT;obtain⟨c8,c9⟩:=Iw av ba;have a1:∀j∈Ax,j∉A:=λj J a7=>ew j a7 J;obtain⟨vals',e9,w',r1,r2,r3,r4,r5,r7,r6⟩:=K1 (L:=λm=>I.getD m false=true) c7 Z hI.closed av pre kn vals w ba hp bl hk hg (λj J a7=>(a1 j J a7).elim) dA;have hw:w'=w:=r5 a1;subst hw;obtain⟨_,b0,e1,e2,ee⟩:=Rk c8;generalize ef:A.reverse++pre=U at *;have ey:∀j∈Ax,j∈U↔j∈pre:=λj J=>by
    rw[<-ef,By,List.mem_reverse];exact⟨λh=>h.resolve_left (a1 j J),.inr⟩
   obtain⟨cd,bx,eh,h6⟩:=N4 Z Q e1 r2 r3 r6;have hv:=bs vals' λm hm=>r1 m (.inr hm);have cx:∀t∈slotsOf all o,DO all n e0 vals' (λm=>m∈U) t=view all AN n e0 vals i t:=λt ht=>by
    rw[Mg Z Q e1 (λm hm O dC=>b0 (r7.cl m dC i O)) b0 t ht,hv]
   have b8:=Nz Z Q (kn:=cd) λq hq=>⟨λe=>b0 (e▸bx q hq),r7.lt _ (bx q hq)⟩;have da:=Hf Z Q cx;have b9:∀(v:Value) (w1:World) (bZ:List (Nat×Option Bool)),(∀q∈bZ,q.1∈i::U)->GO all bZ (Bs n (DO all n e0 vals' (λm=>m∈U)) o.dst v)->Mod (λb=>∃j∈Ax,(I.getD j false=true\/j=i)/\M j b) w0 w1->
     CU P ok n all Ax M (Uh Ax AN M w0) w0 K t' bZ (Bs n (DO all n e0 vals' (λm=>m∈U)) o.dst v) w1->WR P ds ok n all Ax AN e0 w0 M K (λm=>I.getD m false=true\/m=i) (a.put o.dst v) w1:=by
    intro v w1 bZ h1 h2 h3 h4;have ej:Bs n (DO all n e0 vals' (λm=>m∈U)) o.dst v=DO all n e0 (λq=>if q=i then v else vals' q) (λm=>m∈i::U):=
     Mj Z Q (λm=>by simp[or_comm]) (λm _ O=>by simp[O]) (by simp) b0
    rw[ej] at h2 h4;refine⟨⟨t',i::U,λq=>if q=i then v else vals' q,bZ,put _ v (λm hm=>?_) (by simp),ee,e2 ak,r7.cons b1 e1,h1,h2,?_,?_,h4⟩,h3,cu⟩
    .have:m≠i:=by rintro rfl;exact ax hm
     simp[this,r1 m (.inr hm)]
    .intro m o' hm e3 ch;have c4:m<all.length:=(Ad.1 hm).1;have O:m≠i:=by rintro rfl;exact ch ak
     have ay:m∈U\/I.getD m false=true:=by
      rcases e3 with h|h|h
      .exact .inl ((Mp.1 h).resolve_left O)
      .exact .inr h
      .exact(O h).elim
     refine Gd.QO Z c4 (λj V=>?_) (by simp[O]) (r4 m o' hm ay ch);have:j≠i:=by
      rintro rfl;rcases ay with h|h
      .exact b0 (r7.cl m h j V)
      .exact ax (hI.closed m c4 h j V)
     simp[this]
    .intro j J;rw[V j J,Mp,ey j J];exact or_comm
   have c6:Mod (λb=>∃j∈Ax,(I.getD j false=true\/j=i)/\M j b) w0 w':=hI.mod.mono λb _ ⟨j,V,hL,hb⟩=>⟨j,V,.inl hL,hb⟩;have kc:∀q∈cd,q.1∈i::U:=λq hq=>kx _ (bx q hq);by_cases al:Co all (view all AN n e0 vals i) o
   .rw[DN (a8.2 al)];left;rcases h6 with⟨_,hx⟩|⟨ez,_⟩
    .unfold LI at hx;rw[Br.2 ak] at hx;simp only[lp] at hx;have dT:=Ov c7 (λ_=>rfl) (λ_=>rfl) hx;unfold Oper.wp;rw[ea,Hc (e':=DO all n e0 vals' (λm=>m∈U)) (Z.X8 i o Q) (λt ht=>by rw[dB t (Ir ht),cx t (Ir ht)])];exact cH dT λv w1 hv=>go v w1 (b9 v w1 cd kc (eh.put b8 _) ((c6.trans (hv.1.mono λb _ hb=>⟨i,ak,.inr rfl,hb⟩))) hv.2)
    .exact(ez (da.2 al)).elim
   .rw[Bp (λh=>al (a8.1 h))];rcases h6 with⟨hw,_⟩|⟨_,hx⟩
    .exact(al (da.1 hw)).elim
    .exact go undef w' (b9 undef w' ((i,none) :: cd) (λq hq=>by
      rcases Mp.1 hq with rfl|hq
      .exact lb
      .exact kc q hq) ((eh.put b8 _).cons (ZL Z Q)) c6 hx)
  .have key:∃v:Value,(i∈pre->v=vals i)/\(Co all (view all AN n e0 vals i) o->Hs P (Rw Ax AN i) M w0 o (view all AN n e0 vals i) v)/\(¬Co all (view all AN n e0 vals i) o->v=undef):=by
    by_cases e4:i∈pre
    .exact⟨vals i,λ_=>rfl,hg i o Q (.inl e4) ak⟩
    .obtain⟨A0,dk⟩:=Oc t;obtain⟨dr,_⟩:=Iw dk ba;have eA:i∈A0:=by
      simp only[QV,mL,Br] at dr;have:=dr i (nW.2 b1);rw[By,List.mem_reverse] at this;exact this.resolve_right e4
     obtain⟨B,t1,ek,_⟩:=QJ dk eA;have av:Reach t (B++[i]) t1:=by
      have tr:∀{a b c:Ord} {X Y:List Nat},Reach a X b->Reach b Y c->Reach a (X++Y) c:=by
       intro a b c X Y h1 h2;induction h1 with
       |refl _=>exact h2
       |op _ ih=>exact .op (ih h2)
       |l _ ih=>exact .l (ih h2)
       |r _ ih=>exact .r (ih h2)
      exact tr ek (.op (.refl _))
     obtain⟨_,c9⟩:=Iw av ba;obtain⟨vals',e9,w',r1,r2,r3,r4,r5,r7,r6⟩:=K1 (L:=λm=>I.getD m false=true) c7 Z hI.closed av pre kn vals w ba hp bl hk hg (λj J a7 eB=>c9 j a7 ((V j J).1 eB)) dA;have hv:=bs vals' λm hm=>r1 m (.inr hm);have:=r4 i o Q (.inl (by simp)) ak;unfold Gd at this;rw[hv] at this;exact⟨vals' i,λh=>(e4 h).elim,this⟩
   obtain⟨v,eC,e5⟩:=key;have inv:WR P ds ok n all Ax AN e0 w0 M K (λm=>I.getD m false=true\/m=i) (a.put o.dst v) w:=by
    have an:∀m,(m∈pre\/I.getD m false=true)->(if m=i then v else vals m)=vals m:=by
     intro m hm;by_cases O:m=i
     .subst O;rcases hm with h|h
      .simp[eC h]
      .exact(ax h).elim
     .simp[O]
    have b2:DO all n e0 (λm=>if m=i then v else vals m) (λm=>m∈pre)=DO all n e0 vals (λm=>m∈pre):=by
     funext t
     exact HC Z λm _ _=>⟨pJ,λh=>an m (.inl h)⟩
    refine⟨⟨t,pre,λm=>if m=i then v else vals m,kn,put _ v (λm hm=>an m (.inr hm)) (by simp),ba,bp,hp,bl,by rw[b2];exact hk,?_,?_,by rw[b2];exact dA⟩,hI.mod.mono λb _ ⟨j,V,hL,hb⟩=>⟨j,V,.inl hL,hb⟩,cu⟩
    .intro m o' hm e3 ch;have c4:m<all.length:=(Ad.1 hm).1;by_cases O:m=i
     .subst O;rw[Q] at hm;cases hm;unfold Gd;rw[HW Z (vals':=vals) λj V=>by have:=Z.lt b1 V;simp[show j≠m by omega]];simp only[mF];exact e5
     .have ay:m∈pre\/I.getD m false=true:=by
       rcases e3 with h|h|h
       .exact .inl h
       .exact .inr h
       .exact(O h).elim
      refine Gd.QO Z c4 (λj V=>?_) (by simp[O]) (hg m o' hm ay ch);have eI:j∈pre\/I.getD j false=true:=by
       rcases ay with h|h
       .exact .inl (hp.cl m h j V)
       .exact .inr (hI.closed m c4 h j V)
      exact(an j eI).symm
    .intro j J;have e6:j≠i:=by rintro rfl;exact ak J
     rw[<-V j J];simp[e6]
   have e7:=go v w inv;by_cases al:Co all (view all AN n e0 vals i) o
   .rw[DN (a8.2 al)];left;unfold Oper.wp;rw[ea,Hc (e':=view all AN n e0 vals i) (Z.X8 i o Q) (λt ht=>dB t (Ir ht)),e5.1 al w (hI.mod.mono λb _ ⟨j,V,hL,hb⟩=>⟨j,XL V λe6=>ax (hI.closed j (Z.dd j V) hL i e6),hb⟩)];exact e7
   .rw[Bp (λh=>al (a8.1 h))];have:=e5.2 al;rw[this] at e7;exact e7
def Qw{ops:Array Oper}{a:Act}{t:Ord}(J:Cn P ok)(hm:P.follows .mixedOrders=true)(U:Fr ds n e0 a)
 (V:Xx n ops.toList Ax AN Gs=true)(ht:Ts ops.toList.length Ax AN t=true)
 (h:CM Ax AN w.drew λM X=>CU P ok n ops.toList Ax M X w.drew K t [] e0 w.drew) :
  wpAny P .any ops (IY ds ops.toList n e0 K) ops.size (Array.replicate ops.size false) a { w with drawn:=w.drawn+1 }:=by
 obtain⟨M,h⟩:=h;have O:=cB V;simp only[Ts,gC] at ht;refine Ua (M:=M) (w0:=w.drew) J O rfl ops.size (Array.replicate ops.size false) a _ (by simp) ?_ ?_
 .simp
 .have I:∀m:Nat,¬(Array.replicate ops.size false).getD m false=true:=λm=>by
   simp only[nO,qx];split<;>simp
  have B:∀S:Nat->Prop,(∀m,¬S m)->DO ops.toList n e0 (λ_=>undef) S=e0:=λS Y=>by
   funext t;exact Iv λm hm _=>(Y m hm).elim
  refine⟨⟨t,[],λ_=>undef,[],?_,ht.2,ht.1,⟨λm hm=>(nomatch hm),λm hm=>(nomatch hm)⟩,λq Z=>(nomatch Z),λj b hb=>by simp[FJ] at hb,λm o _ Q _=>?_,λj _=>?_,?_⟩,Mod.refl _ _,λi _ hi=>(I i hi).elim⟩
  .rw[B _ λm hm=>I m hm.1];exact U
  .rcases Q with h|h
   .cases h
   .exact(I m h).elim
  .exact⟨λh=>(I j h).elim,λh=>(nomatch h)⟩
  .rw[B _ λm hm=>(nomatch hm)];exact h
end
section
inductive EM where
 |nil
 |node (L:List Nat) (W:List (Nat×Nat)) (a b:EM)
 |cut (L:List Nat) (W:List (Nat×Nat)) (a b:EM)
 |draw
 |dt (Ax:List Nat) (AN Gs:List (List Nat)) (t:Ord)
def gq:Nat->Nat->Ord
 |0,_=>.nil
 |k+1,i=>.op i (gq k (i+1))
def EM.dc(Ax:List Nat)(AN Gs:List (List Nat)):EM:=.dt Ax AN Gs (gq AN.length 0)
def fY:List (Nat×Nat)->Nat->Bool
 |[],_=>false
 |(lo,hi)::r,j=>(Nat.ble lo j&&Nat.ble j hi)||fY r j
def lk:List Nat->List Value->Nat->Value->Value
 |[],_,_,d=>d
 |l::L,vs,j,d=>bif Nat.beq l j then vs.headD undef else lk L vs.tail j d
def mix(L:List Nat)(W:List (Nat×Nat))(vs:List Value)(h e:Env):Env:=λj=>lk L vs j (bif fY W j then h j else e j)
def I8(W:List (Nat×Nat)):Code->Bool
 |.region _ ops _=>ops.toList.all λo=>match o.dst with | some d=>fY W d | none=>true
 |.seq a b=>I8 W a&&I8 W b
 |.cond _ a b=>I8 W a&&I8 W b
 |.block _ a=>I8 W a
 |.loop a=>I8 W a
 |.scope a=>I8 W a
 |.rangeFunc ..=>false
 |_=>true
def Wr:Code->Nat->Prop
 |.region _ ops _,j=>∃o∈ops.toList,o.dst=some j
 |.seq a b,j=>Wr a j\/Wr b j
 |.cond _ a b,j=>Wr a j\/Wr b j
 |.block _ a,j=>Wr a j
 |.loop a,j=>Wr a j
 |.scope a,j=>Wr a j
 |.rangeFunc ..,_=>True
 |_,_=>False
def Dz{W:List (Nat×Nat)}:∀{c:Code},I8 W c=true->∀j,Wr c j->fY W j=true
 |.region _ ops _,h,j,⟨o,m,q⟩=>by
  simp only[I8,mL] at h;have:=h o m;rw[q] at this;exact this
 |.seq a b,h,j,i=>by
  simp only[I8,gC] at h;exact i.elim (Dz h.1 j) (Dz h.2 j)
 |.cond _ a b,h,j,i=>by
  simp only[I8,gC] at h;exact i.elim (Dz h.1 j) (Dz h.2 j)
 |.block _ a,h,j,i=>Dz (c:=a) h j i
 |.loop a,h,j,i=>Dz (c:=a) h j i
 |.scope a,h,j,i=>Dz (c:=a) h j i
 |.rangeFunc ..,h,_,_=>by simp[I8] at h
 |.skip,_,_,i=>i.elim
 |.exit _,_,_,i=>i.elim
 |.label _,_,_,i=>i.elim
 |.goto _,_,_,i=>i.elim
 |.ret,_,_,i=>i.elim
 |.refuse _,_,_,i=>i.elim
def fB(e:Env)(L:List Nat)(j:Nat)(d:Value):lk L (L.map e) j d=if j∈L then e j else d:=by
 induction L with
 |nil=>simp[lk]
 |cons l L i=>
  simp only[lk,lO,Nr,List.tail_cons,i];cases hb:Nat.beq l j with
  |true=>have:=lZ hb;subst this;simp
  |false=>
   have:j≠l:=by intro e;subst e;simp at hb
   simp[this]
def Qf{L:List Nat}{W:List (Nat×Nat)}{e e':Env}(h:∀j,fY W j=false->e' j=e j):mix L W (L.map e') e' e=e':=by
 funext j
 simp only[mix,fB];split
 .rfl
 .cases i:fY W j with
  |true=>simp
  |false=>simp[h j i]
variable (P:Program)(ok:Nat->Bool)(n:Nat)
def Kf(P:Program)(l:Nat)(args:List Value)(K:Cont)(w:World):Prop:=
 ∃f tmps i body,(Instr.yield l args.toArray).run P w=.ok (.round l f tmps i body) w/\RoundIn Fence.wide 0 P l f tmps i body w λe w'=>∃v,e=.returned v/\K v w'
def Cs(P:Program)(ok:Nat->Bool)(f:Value)(args:List Value)(K:Cont)(w:World):Prop:=
 BF P ok f args K w\/∃l,f=.func (.yield l) #[] #[]/\Kf P l args K w
def gL(o:Oper)(ρ:Operand->Value)(K:Cont)(w:World):Prop:=
 match o.op with
 |.call c=>match c.callee with
  |.value (.func _)=>Fe P ok o ρ K w
  |.value f=>Cs P ok (ρ f) (c.args.toList.map ρ) K w
  |_=>Fe P ok o ρ K w
 |_=>Fe P ok o ρ K w
def KY(all:List Oper)(K:Env->World->Prop):List Oper->Nat->List (Nat×Option Bool)->Env->World->Prop
 |[],_,_,e,w=>K e w
 |o::m,i,kn,e,w=>
  bif GZ o.dst kn all then False else
  match o.guard with
  |none=>gL P ok o (ev e) (λv w'=>KY all K m (i+1) kn (Bs n e o.dst v) w') w
  |some (j,q)=>match FJ kn j with
   |some (some b)=>bif LJ b q then gL P ok o (ev e) (λv w'=>KY all K m (i+1) kn (Bs n e o.dst v) w') w
     else KY all K m (i+1) ((i,none)::kn) (Bs n e o.dst undef) w
   |some none=>KY all K m (i+1) ((i,none)::kn) (Bs n e o.dst undef) w
   |none=>match Cb all j with
    |some d=>bif GZ o.dst ((j,none)::kn) all then False else AZ (e d)
      (bif q then gL P ok o (ev (GK n e d (.bool true))) (λv w'=>KY all K m (i+1) ((j,some true) :: kn) (Bs n (GK n e d (.bool true)) o.dst v) w') w
       else KY all K m (i+1) ((i,none) :: (j,some true) :: kn) (Bs n (GK n e d (.bool true)) o.dst undef) w)
      (bif q then KY all K m (i+1) ((i,none) :: (j,some false) :: kn) (Bs n (GK n e d (.bool false)) o.dst undef) w
       else gL P ok o (ev (GK n e d (.bool false))) (λv w'=>KY all K m (i+1) ((j,some false) :: kn) (Bs n (GK n e d (.bool false)) o.dst v) w') w)
    |none=>False
def HS(C:World->Prop)(x:Value)(K:Value->Prop):Prop:=∃a v,x=.pointer (some a)/\(∀w,C w->w.cell? a=some v)/\K v
def NH(C:World->Prop)(k:Nat)(x:Value)(K:Value->Prop):Prop:=
 ∃a vs,x=.pointer (some a)/\List.length vs=k/\(∀w,C w->∀j v,vs[j]?=some v->w.cell? (a.add j)=some v)/\K (.agg vs.toArray)
def Ml(P:Program)(C:World->Prop)(g:Nat)(args:List Value)(K:Value->Prop):Prop:=
 ∃v,(∀w,C w->AB P g args (λv' w'=>v'=v/\C w') w)/\K v
def IX(P:Program)(C:World->Prop)(s:Sem Value)(K:Value->Prop):Prop:=∃v,(∀w,C w->s.run P w=.ok v w)/\K v
def TZ(P:Program)(C:World->Prop)(g:Nat)(args:List Value)(K:Value->Prop):Prop:=∃v,(∀w,C w->(callFunc g args.toArray).run P w=.ok (.value v) w)/\K v
def Jt(w:World)(F:(World->Prop)->Prop):Prop:=∃C:World->Prop,C w.drew/\F C
def cE(C:World->Prop)(o:Oper)(ρ:Operand->Value)(K:Value->Prop)(w:World):Prop:=
 match o.op with
 |.load t x=>match Ex P t with | some (false,_)=>HS C (ρ x) K | some (true,k)=>NH C k (ρ x) K | none=>False
 |.binOp op t x y _=>bif HV P op t y then Nv P op t y (ρ x) (ρ y) K False
   else IX P C (Di op t x y (ρ x) (ρ y)) K
 |.call c=>match c.callee with
  |.value (.func g)=>bif ok g then Ml P C g (c.args.toList.map ρ) K else TZ P C g (c.args.toList.map ρ) K
  |_=>bif CO P o then Fe P ok o ρ (λv _=>K v) w else False
 |.convert s d x=>IX P C (convert s d (ρ x)) K
 |.slice t x lo hi mx=>IX P C (Instr.sliceAt t (ρ x) (lo.map ρ) (hi.map ρ) (mx.map ρ)) K
 |_=>bif CO P o then Fe P ok o ρ (λv _=>K v) w else False
def Kt(C:World->Prop)(all:List Oper)(K:Env->Prop)(w:World):List Oper->Nat->List (Nat×Option Bool)->Env->Prop
 |[],_,_,e=>K e
 |o::m,i,kn,e=>
  bif GZ o.dst kn all then False else
  match o.guard with
  |none=>cE P ok C o (ev e) (λv=>Kt C all K w m (i+1) kn (Bs n e o.dst v)) w
  |some (j,q)=>match FJ kn j with
   |some (some b)=>bif LJ b q then cE P ok C o (ev e) (λv=>Kt C all K w m (i+1) kn (Bs n e o.dst v)) w
     else Kt C all K w m (i+1) ((i,none)::kn) (Bs n e o.dst undef)
   |some none=>Kt C all K w m (i+1) ((i,none)::kn) (Bs n e o.dst undef)
   |none=>match Cb all j with
    |some d=>bif GZ o.dst ((j,none)::kn) all then False else AZ (e d)
      (bif q then cE P ok C o (ev (GK n e d (.bool true))) (λv=>Kt C all K w m (i+1) ((j,some true) :: kn) (Bs n (GK n e d (.bool true)) o.dst v)) w
       else Kt C all K w m (i+1) ((i,none) :: (j,some true) :: kn) (Bs n (GK n e d (.bool true)) o.dst undef))
      (bif q then Kt C all K w m (i+1) ((i,none) :: (j,some false) :: kn) (Bs n (GK n e d (.bool false)) o.dst undef)
       else cE P ok C o (ev (GK n e d (.bool false))) (λv=>Kt C all K w m (i+1) ((j,some false) :: kn) (Bs n (GK n e d (.bool false)) o.dst v)) w)
    |none=>False
def WM(o:Oper):Bool:=match o.op with|.defer _=>false|_=>true
def Lt:Code->Bool
 |.region _ ops draw=>!draw||ops.toList.all WM
 |.seq a b=>Lt a&&Lt b
 |.cond _ a b=>Lt a&&Lt b
 |.block _ a=>Lt a
 |.loop a=>Lt a
 |.skip=>true
 |.exit _=>true
 |.ret=>true
 |_=>false
def ib(id:Nat)(Q:EQ):EQ:=λex e w=>match ex with
 |.exit i=>bif Nat.beq i id then Q .normal e w else Q (.exit i) e w
 |.normal=>Q .normal e w | .ret=>Q .ret e w | .goto l=>Q (.goto l) e w | .panic c=>Q (.panic c) e w | .outgrown=>Q .outgrown e w
def jk(Q:EQ):EQ:=λex e w=>match ex with
 |.goto _=>False
 |.normal=>Q .normal e w | .exit i=>Q (.exit i) e w | .ret=>Q .ret e w | .panic c=>Q (.panic c) e w | .outgrown=>Q .outgrown e w
def fk(N:Env->World->Prop)(Q:EQ):EQ:=λex e w=>match ex with
 |.normal=>N e w
 |.exit i=>Q (.exit i) e w | .ret=>Q .ret e w | .goto l=>Q (.goto l) e w | .panic c=>Q (.panic c) e w | .outgrown=>Q .outgrown e w
def D:Code->EM->EQ->Env->World->Prop
 |.skip,_,Q,e,w=>Q .normal e w
 |.region _ ops draw,i,Q,e,w=>match draw with
  |false=>KY P ok n ops.toList (λe w=>Q .normal e w) ops.toList 0 [] e w
  |true=>match i with
   |.draw=>bif Region.lexB .any ops then Jt w (λC=>Kt P ok n C ops.toList (λe'=>∀w':World,C w'->Q .normal e' w') w ops.toList 0 [] e) else False
   |.dt Ax AN Gs t=>bif Xx n ops.toList Ax AN Gs&&Ts ops.toList.length Ax AN t then CM Ax AN w.drew λM o=>CU P ok n ops.toList Ax M o w.drew (λe' w'=>Q .normal e' w') t [] e w.drew else False
   |_=>False
 |.seq x y,i,Q,e,w=>match i with
  |.node _ _ a b=>D x a (fk (λe' w'=>D y b Q e' w') Q) e w
  |.cut L W a b=>bif I8 W x then Cl (λvs w'=>∀h:Env,D y b Q (mix L W vs h e) w') (λJ=>D x a (fk (λe' w'=>J (L.map e') w') Q) e w) else False
  |_=>False
 |.cond c x y,i,Q,e,w=>match i with
  |.node _ _ a b=>AZ (ev e c) (D x a Q e w) (D y b Q e w)
  |_=>False
 |.block id x,i,Q,e,w=>D x i (ib id Q) e w
 |.loop x,i,Q,e,w=>match i with
  |.node L W a _=>bif I8 W x then FK (L.map e) (λvs j w'=>∀h:Env,D x a (fk (λe' m=>j (L.map e') m) Q) (mix L W vs h e) w') w else False
  |_=>False
 |.exit id,_,Q,e,w=>Q (.exit id) e w
 |.ret,_,Q,e,w=>Q .ret e w
 |.label _,_,Q,e,w=>Q .normal e w
 |.scope x,i,Q,e,w=>D x i (jk Q) e w
 |_,_,_,_,_=>False
variable {P ok n}
def lift(n:Nat)(ds:List Deferred)(c:Code)(e:Env)(Q:EQ):Exit->Act->World->Prop:=λex a w=>∃e',Fr ds n e' a/\(∀j,¬Wr c j->e' j=e j)/\Q ex e' w
def Gh(ds:List Deferred)(n:Nat)(l:List Oper)(e:Env)(K:Env->World->Prop):Exit->Act->World->Prop:=
 λex a w=>ex=.normal/\∃e',Fr ds n e' a/\(∀j,(∀o∈l,o.dst≠some j)->e' j=e j)/\K e' w
def PJ{ds:List Deferred}{l:List Oper}{o:Oper}{e:Env}{K:Env->World->Prop}{ex:Exit}{a:Act}(h:Gh ds n l (Bs n e o.dst v) K ex a w):Gh ds n (o::l) e K ex a w:=by
 obtain⟨h0,e',h1,q,B⟩:=h;refine⟨h0,e',h1,λj m=>?_,B⟩;rw[q j (λo' i=>m o' (by simp[i]))];exact Hj (m o (by simp))
abbrev Wd(ro:Option Nat):Fence:={ Fence.wide with round:=ro }
def JD{F:Fence}{m:Nat}{ops:Array Oper}{Q Q':Exit->Act->World->Prop}(q:∀e a w,Q e a w->Q' e a w):∀(l:List Oper) (a:Act) (w:World),wpListIn F m P ops Q l a w->wpListIn F m P ops Q' l a w:=by
 have O:LetsOut Q->LetsOut Q':=λ⟨a,w,h⟩=>⟨a,w,q _ _ _ h⟩;intro l;induction l with
 |nil=>intro a w h;exact q _ _ _ h
 |cons o r j=>
  intro a w h;unfold wpListIn at h ⊢;split
  .rename_i I;rw[DN I] at h;unfold Oper.wpIn at h ⊢;refine⟨h.1,?_⟩;replace h:=h.2
   generalize (o.semAt F.round a.eval).run P w=U at h ⊢;match U,h with
   |.ok (.value v) w',h=>exact j _ _ h
   |.ok .skip w',h=>exact j _ _ h
   |.ok (.defer d) w',h=>exact j _ _ h
   |.ok (.enter f args) w',h=>
    exact ⟨h.1,CallsIn.mono h.2 λJ B i=>by
     cases J with
     |returned v=>exact j _ _ i
     |panicked V=>exact q _ _ _ i
     | outgrown=>exact O i⟩
   |.ok (.row row args) w',h=>exact⟨h.1,RowsIn.mono h.2 λv B i=>j _ _ i⟩
   |.ok (.round l f tmps assign body) w',h=>
    exact ⟨h.1,RoundIn.mono h.2 λJ B i=>by
     cases J with
     |returned v=>exact j _ _ i
     |panicked V=>exact q _ _ _ i
     | outgrown=>exact O i⟩
   |.halt (.panic v) w',h=>exact q _ _ _ h
  .rename_i I;rw[Bp I] at h;exact⟨h.1,j _ _ h.2⟩
def Ur{ro:Option Nat}{m:Nat}{K:Cont}{o:Oper}{a:Act}{next:Act->World->Prop}{Q:Exit->Act->World->Prop}{r:Result Next}
 (h:Er w r K P)(i:∀v w',K v w'->next (a.put o.dst v) w'):o.uponIn (Wd ro) m P a next Q r:=by
 match r,h with
 |.ok (.value v) w',h=>exact i _ _ h
 |.ok .skip w',h=>exact i _ _ h
 |.ok (.enter f args) w',h=>
  obtain⟨rfl,h⟩:=h;exact⟨(λh=>by cases h),(rD.2 (og h λe j ⟨v,he,q⟩=>by subst he;exact i _ _ q):CallsIn Fence.wide _ _ _ _ _ _)⟩
def QW{o:Oper}{ρ:Operand->Value}{K:Cont}(h:Fe P ok o ρ K w):∀c,o.op≠.defer c:=by
 intro c hc;simp only[Fe,hc] at h
def Xl(O:Cn P ok){ro:Option Nat}{m:Nat}{K:Cont}{o:Oper}{a:Act}{e:Env}{next:Act->World->Prop}{Q:Exit->Act->World->Prop}(I:a.eval=ev e)
 (h:gL P ok o (ev e) K w)(Y:∀v w',K v w'->next (a.put o.dst v) w'):o.wpIn (Wd ro) m P a w next Q:=by
 have Gw:Fe P ok o (ev e) K w->o.wpIn (Wd ro) m P a w next Q:=by
  intro h;refine⟨λ_ _=>trivial,?_⟩;rw[r8 _ _ _ (QW h),I];exact Ur (Ov O (λ_=>rfl) (λ_=>rfl) h) Y
 obtain⟨q,op,i,pos,after,guard⟩:=o;cases op with
 |call c=>
  obtain⟨j,args,B⟩:=c;cases j with
  |value f=>
   have U:Cs P ok (ev e f) (args.toList.map (ev e)) K w->(Fe P ok ⟨q,.call ⟨.value f,args,B⟩,i,pos,after,guard⟩ (ev e) K w↔BF P ok (ev e f) (args.toList.map (ev e)) K w)->Oper.wpIn (Wd ro) m P ⟨q,.call ⟨.value f,args,B⟩,i,pos,after,guard⟩ a w next Q:=by
    rintro(h|⟨l,Z,fn,tmps,V,body,h1,h2⟩) J
    .exact Gw (J.2 h)
    .refine⟨λ_ _=>trivial,?_⟩;rw[r8 _ _ _ (by simp),I];have hr:(execOp (ev e) ⟨q,.call ⟨.value f,args,B⟩,i,pos,after,guard⟩).run P w=.ok (.round l fn tmps V body) w:=by
      simp only[execOp,resolve,Z,Deferred.ofValue,pure_bind,invoke,F0];simpa[callFunc] using h1
     rw[hr];have h3:=h2.2;refine⟨(λh=>by cases h),trivial,λc cs _=>?_⟩;obtain⟨en,X,⟨v,rfl,hv⟩,hs⟩:=h3 c cs (room_wide _);exact⟨.returned v,X,Y _ _ hv,hs⟩
   cases f with
   |func g=>exact Gw h
   |tmp t=>exact U h pJ
   |const v=>exact U h pJ
   |global g=>exact U h pJ
  |invoke r m=>exact Gw h
  |builtin b=>exact Gw h
 |_=>exact Gw h
def Sy{ds:List Deferred}{ro:Option Nat}{m:Nat}(al:Cn P ok){ops:Array Oper}{K:Env->World->Prop}:∀(l:List Oper) (i:Nat) (kn:List (Nat×Option Bool)) (e:Env) (w:World) (a:Act),
  ops.toList.drop i=l->GO ops.toList kn e->Fr ds n e a->KY P ok n ops.toList K l i kn e w->wpListIn (Wd ro) m P ops (Gh ds n l e K) l a w:=by
 intro l;induction l with
 |nil=>
  intro i kn e w a _ _ hf h;exact⟨rfl,e,hf,λ_ _=>rfl,h⟩
 |cons o q ih=>
  intro i kn e w a hl Q hf h;have an:Cb ops.toList i=o.dst:=by
   have:ops.toList[i]?=some o:=by
    have:=lV (λl=>l[0]?) hl;simpa using this
   rw[DA,this];rfl
  have a7:ops.toList.drop (i+1)=q:=by
   have:=lV List.tail hl;simpa using this
  have V:∀(v:Value) (a':Act) (w':World),wpListIn (Wd ro) m P ops (Gh ds n q (Bs n e o.dst v) K) q a' w'->wpListIn (Wd ro) m P ops (Gh ds n (o::q) e K) q a' w':=
   λv a' w' hh=>JD (λex a w=>PJ) q a' w' hh
  simp only[KY] at h;cases U:GZ o.dst kn ops.toList with
  |true=>simp only[U,lp] at h
  |false=>
   simp only[U,lj] at h;have Oh:∀I,(∀v,GO ops.toList I (Bs n e o.dst v))->gL P ok o (ev e) (λv w'=>KY P ok n ops.toList K q (i+1) I (Bs n e o.dst v) w') w->
     o.wpIn (Wd ro) m P a w (wpListIn (Wd ro) m P ops (Gh ds n (o::q) e K) q) (Gh ds n (o::q) e K):=by
    intro I hk a1;refine Xl al hf.eval a1 λv w' X=>?_;exact V v _ _ (ih (i+1) I _ w' _ a7 (hk v) (hf.put o.dst v) X)
   have B:∀I,GO ops.toList I (Bs n e o.dst undef)->KY P ok n ops.toList K q (i+1) ((i,none)::I) (Bs n e o.dst undef) w->
     wpListIn (Wd ro) m P ops (Gh ds n (o::q) e K) q (a.put o.dst undef) w:=by
    intro I hk a1;refine V undef _ _ (ih (i+1) _ _ w _ a7 (hk.cons ?_) (hf.put o.dst undef) a1);unfold yv;rw[an];cases hd:o.dst with
    |none=>rfl
    |some d=>
     have:=(hf.put o.dst undef).get d;rw[hd] at this;show bv (Bs n e (some d) undef d)=none;rw[<-this];by_cases a8:d<a.tmps.size
     .simp[Act.put,a8];rfl
     .simp[Act.put,a8];rfl
   have hy:=λj=>JL (n:=n) hf (ops:=ops) (j:=j);unfold wpListIn;cases hg:o.guard with
   |none=>
    simp only[hg] at h;rw[DN (by simp[Region.wanted,hg])];exact(Oh kn (λv=>Q.put U v) h)
   |some g=>
    obtain⟨j,O⟩:=g;simp only[hg] at h;have hw:Region.wanted o (yielded ops a.tmps)=(yv ops.toList e j==some O):=by simp only[Region.wanted,hg,hy]
    rw[hw];cases a6:FJ kn j with
    |some b=>
     rw[Q j b a6];simp only[a6] at h;cases b with
     |none=>
      simp only at h;rw[Bp (by simp)];exact⟨λ_ _=>trivial,B kn (Q.put U _) h⟩
     |some b=>
      simp only[MZ] at h;cases Y:(b==O) with
      |true=>
       simp only[Y,lp] at h;rw[DN (by simpa using Y)];exact(Oh kn (λv=>Q.put U v) h)
      |false=>
       simp only[Y,lj] at h;rw[Bp (by simpa using Y)];exact⟨λ_ _=>trivial,B kn (Q.put U _) h⟩
    |none=>
     simp only[a6] at h;cases hd:Cb ops.toList j with
     |none=>simp only[hd] at h
     |some d=>
      simp only[hd] at h;cases J:GZ o.dst ((j,none)::kn) ops.toList with
      |true=>simp only[J,lp] at h
      |false=>
       simp only[J,lj] at h;have ak:yv ops.toList e j=bv (e d):=by simp[yv,hd]
       have Z:∀b,bv (e d)=b->∀v,GO ops.toList ((j,b)::kn) (Bs n e o.dst v):=λb hb v=>
        (Q.cons (ak.trans hb)).put (d:=o.dst) (by
         simp only[GZ] at J ⊢;cases av:o.dst with
         |none=>rfl
         | some t=>rw [av] at J;simpa [List.any_cons] using J) v
       rw[ak];rcases He h with⟨X,hb⟩|⟨X,hb⟩
       .rw[HF X] at hb;rw[X];cases O with
        |true=>
         simp only[lp] at hb;rw[DN (by rfl)];exact(Oh _ (Z _ (by rw[X];rfl)) hb)
        |false=>
         simp only[lj] at hb;rw[Bp (by simp[bv])];exact⟨λ_ _=>trivial,B _ (Z _ (by rw[X];rfl) _) hb⟩
       .rw[HF X] at hb;rw[X];cases O with
        |true=>
         simp only[lp] at hb;rw[Bp (by simp[bv])];exact⟨λ_ _=>trivial,B _ (Z _ (by rw[X];rfl) _) hb⟩
        |false=>
         simp only[lj] at hb;rw[DN (by rfl)];exact(Oh _ (Z _ (by rw[X];rfl)) hb)
def ia{C:World->Prop}{r:Result Next}(_:C w)(h:Er w r (λv' i=>v'=v/\C i/\(i=w\/∃f args m,r=.ok (.enter f args) m)) P):Oper.quietUpon P C w v r:=by
 match r,h with
 |.ok (.value v') i,h=>
  obtain⟨h1,_,j|⟨f,a,m,j⟩⟩:=h
  .exact⟨j,h1⟩
  .cases j
 |.ok .skip i,h=>
  obtain⟨h1,_,j|⟨f,a,m,j⟩⟩:=h
  .exact⟨j,h1.symm⟩
  .cases j
 |.ok (.enter f args) i,h=>exact⟨h.1,og h.2 λe m ⟨v',h1,j,o,_⟩=>⟨by rw[h1,j],o⟩⟩
def Rb{r:Result Next}{K j:Cont}(h:Er w r K P)(hk:∀v w',K v w'->j v w'):Er w r j P:=by
 match r,h with
 |.ok (.value v') i,h=>exact hk _ _ h
 |.ok .skip i,h=>exact hk _ _ h
 |.ok (.enter f args) i,h=>exact⟨h.1,og h.2 λe o ⟨v',h1,m⟩=>⟨v',h1,hk _ _ m⟩⟩
def UH{ds:List Deferred}(U:Cn P ok){C:World->Prop}{o:Oper}{a:Act}{e:Env}{K:Value->Prop}{next:Act->Prop}(hf:Fr ds n e a)
 (h:cE P ok C o (ev e) K w)(Y:∀v,K v->next (a.put o.dst v)):o.quiet P a C next:=by
 have q:=hf.eval;have conv:∀v,(∀w',C w'->Fe P ok o (ev e) (λv' V=>v'=v/\V=w') w')->K v->o.quiet P a C next:=by
  intro v hv hk;refine⟨v,λw' i=>?_,Y v hk⟩;have:=Ov U (λ_=>rfl) (λ_=>rfl) (hv w' i);unfold Oper.quietAt;rw[q];exact ia i (Rb this λv' V ⟨h1,j⟩=>⟨h1,j▸i,.inl j⟩)
 have O:CO P o=true->Fe P ok o (ev e) (λv _=>K v) w->o.quiet P a C next:=by
  intro hp Q;obtain⟨v,h1,j⟩:=P2 hp Q;exact conv v (λw' _=>j _ w' ⟨rfl,rfl⟩) h1
 have m:(bif CO P o then Fe P ok o (ev e) (λv _=>K v) w else False)->o.quiet P a C next:=by
  intro Q;cases hp:CO P o with
  |true=>rw[hp] at Q;exact O hp Q
  |false=>rw[hp] at Q;exact Q.elim
 obtain⟨X,op,J,pos,after,guard⟩:=o;cases op with
 |load t x=>
  simp only[cE] at h;split at h
  .rename_i k ha;obtain⟨p,v,h1,j,B⟩:=h;refine conv v (λw' i=>?_) B;simp only[Fe,ha];exact⟨p,v,h1,j w' i,rfl,rfl⟩
  .rename_i k ha;obtain⟨p,vs,h1,hl,j,B⟩:=h;refine conv _ (λw' i=>?_) B;simp only[Fe,ha];exact⟨p,vs,h1,hl,j w' i,rfl,rfl⟩
  .exact h.elim
 |binOp op t x y yt=>
  simp only[cE] at h;cases hp:HV P op t y with
  |true=>
   rw[hp] at h;simp only[lp] at h;obtain⟨v,h1,j⟩:=GU hp h;exact conv v (λw' _=>j _ _ ⟨rfl,rfl⟩) h1
  |false=>
   rw[hp] at h;simp only[lj] at h;obtain⟨v,h1,j⟩:=h;refine⟨v,λw' i=>?_,Y v j⟩;unfold Oper.quietAt;rw[q];have:(execOp (ev e) ⟨X,.binOp op t x y yt,J,pos,after,guard⟩).run P w'=.ok (.value v) w':=by
    have B:=h1 w' i;simp only[Di] at B;simp only[execOp];rw[lH,B];rfl
   rw[this];exact⟨rfl,rfl⟩
 |call c=>
  obtain⟨I,args,Z⟩:=c;simp only[cE] at h;cases I with
  |value f=>
   cases f with
   |func g=>
    simp only at h;have B:(execOp (ev e) ⟨X,.call ⟨.value (.func g),args,Z⟩,J,pos,after,guard⟩)=callFunc g (args.toList.map (ev e)).toArray:=by
     simp only[execOp,resolve,Deferred.ofValue,ev,pure_bind,invoke,F0];simp
    cases hg:ok g with
    |false=>
     rw[hg] at h;simp only[lj] at h;obtain⟨v,h1,j⟩:=h;refine⟨v,λw' i=>?_,Y v j⟩;unfold Oper.quietAt;rw[q,B,h1 w' i];exact⟨rfl,rfl⟩
    |true=>
     rw[hg] at h;simp only[lp] at h;obtain⟨v,h1,j⟩:=h;refine⟨v,λw' i=>?_,Y v j⟩;unfold Oper.quietAt;rw[q];rw[B,U g hg];exact⟨rfl,og (h1 w' i) λen w3 ⟨v',q1,q2,q3⟩=>⟨by rw[q1,q2],q3⟩⟩
   |_=>exact m h
  |_=>exact m h
 |convert s d x=>
  obtain⟨v,h1,j⟩:=h;exact conv v (λw' i=>⟨v,w',h1 w' i,rfl,rfl⟩) j
 |slice t x lo hi mx=>
  obtain⟨v,h1,j⟩:=h;exact conv v (λw' i=>⟨v,w',h1 w' i,rfl,rfl⟩) j
 |_=>exact m h
def Jm{C:World->Prop}{ops:Array Oper}{Q Q':Act->Prop}(m:∀a,Q a->Q' a):∀(l:List Oper) (a:Act),wpQuiet P ops C Q l a->wpQuiet P ops C Q' l a:=by
 intro l;induction l with
 |nil=>intro a h;exact m _ h
 |cons o r j=>
  intro a h;unfold wpQuiet at h ⊢;split
  .rename_i i;rw[DN i] at h;exact Oper.quiet_mono j h
  .rename_i i;rw[Bp i] at h;exact j _ h
def IN(ds:List Deferred)(n:Nat)(l:List Oper)(e:Env)(K:Env->Prop):Act->Prop:=λi=>∃e',Fr ds n e' i/\(∀j,(∀o∈l,o.dst≠some j)->e' j=e j)/\K e'
def SA{ds:List Deferred}(al:Cn P ok){C:World->Prop}{ops:Array Oper}{K:Env->Prop}:∀(l:List Oper) (i:Nat) (kn:List (Nat×Option Bool)) (e:Env) (a:Act),
  ops.toList.drop i=l->GO ops.toList kn e->Fr ds n e a->Kt P ok n C ops.toList K w l i kn e->
  wpQuiet P ops C (IN ds n l e K) l a:=by
 intro l;induction l with
 |nil=>
  intro i kn e a _ _ Z h;exact⟨e,Z,λ_ _=>rfl,h⟩
 |cons o m ih=>
  intro i kn e a hl O Z h;have an:Cb ops.toList i=o.dst:=by
   have:ops.toList[i]?=some o:=by
    have:=lV (λl=>l[0]?) hl;simpa using this
   rw[DA,this];rfl
  have a7:ops.toList.drop (i+1)=m:=by
   have:=lV List.tail hl;simpa using this
  have U:∀(v:Value) (a':Act),wpQuiet P ops C (IN ds n m (Bs n e o.dst v) K) m a'->wpQuiet P ops C (IN ds n (o::m) e K) m a':=
   λv a' hh=>Jm (λa ⟨e',h1,h2,h3⟩=>⟨e',h1,λj hj=>by
    rw [h2 j (λo' av=>hj o' (by simp [av]))];exact Hj (hj o (by simp)),h3⟩) m a' hh
  simp only[Kt] at h;cases Q:GZ o.dst kn ops.toList with
  |true=>simp only[Q,lp] at h
  |false=>
   simp only[Q,lj] at h;have Oh:∀B,(∀v,GO ops.toList B (Bs n e o.dst v))->cE P ok C o (ev e) (λv=>Kt P ok n C ops.toList K w m (i+1) B (Bs n e o.dst v)) w->
     o.quiet P a C (wpQuiet P ops C (IN ds n (o::m) e K) m):=by
    intro B hk a1;exact UH al Z a1 λv V=>U v _ (ih (i+1) B _ _ a7 (hk v) (Z.put o.dst v) V)
   have q:∀B,GO ops.toList B (Bs n e o.dst undef)->Kt P ok n C ops.toList K w m (i+1) ((i,none)::B) (Bs n e o.dst undef)->
     wpQuiet P ops C (IN ds n (o::m) e K) m (a.put o.dst undef):=by
    intro B hk a1;refine U undef _ (ih (i+1) _ _ _ a7 (hk.cons ?_) (Z.put o.dst undef) a1);unfold yv;rw[an];cases hd:o.dst with
    |none=>rfl
    |some d=>
     have:=(Z.put o.dst undef).get d;rw[hd] at this;show bv (Bs n e (some d) undef d)=none;rw[<-this];by_cases a8:d<a.tmps.size
     .simp[Act.put,a8];rfl
     .simp[Act.put,a8];rfl
   have hy:=λj=>JL (n:=n) Z (ops:=ops) (j:=j);unfold wpQuiet;cases hg:o.guard with
   |none=>
    simp only[hg] at h;rw[DN (by simp[Region.wanted,hg])];exact Oh kn (λv=>O.put Q v) h
   |some g=>
    obtain⟨j,J⟩:=g;simp only[hg] at h;have hw:Region.wanted o (yielded ops a.tmps)=(yv ops.toList e j==some J):=by simp only[Region.wanted,hg,hy]
    rw[hw];cases a6:FJ kn j with
    |some b=>
     rw[O j b a6];simp only[a6] at h;cases b with
     |none=>
      simp only at h;rw[Bp (by simp)];exact q kn (O.put Q _) h
     |some b=>
      simp only[MZ] at h;cases X:(b==J) with
      |true=>
       simp only[X,lp] at h;rw[DN (by simpa using X)];exact Oh kn (λv=>O.put Q v) h
      |false=>
       simp only[X,lj] at h;rw[Bp (by simpa using X)];exact q kn (O.put Q _) h
    |none=>
     simp only[a6] at h;cases hd:Cb ops.toList j with
     |none=>simp only[hd] at h
     |some d=>
      simp only[hd] at h;cases I:GZ o.dst ((j,none)::kn) ops.toList with
      |true=>simp only[I,lp] at h
      |false=>
       simp only[I,lj] at h;have ak:yv ops.toList e j=bv (e d):=by simp[yv,hd]
       have Y:∀b,bv (e d)=b->∀v,GO ops.toList ((j,b)::kn) (Bs n e o.dst v):=λb hb v=>
        (O.cons (ak.trans hb)).put (d:=o.dst) (by
         simp only[GZ] at I ⊢;cases ax:o.dst with
         |none=>rfl
         | some t=>rw [ax] at I;simpa [List.any_cons] using I) v
       rw[ak];rcases He h with⟨V,hb⟩|⟨V,hb⟩
       .rw[HF V] at hb;rw[V];cases J with
        |true=>
         simp only[lp] at hb;rw[DN (by rfl)];exact Oh _ (Y _ (by rw[V];rfl)) hb
        |false=>
         simp only[lj] at hb;rw[Bp (by simp[bv])];exact q _ (Y _ (by rw[V];rfl) _) hb
       .rw[HF V] at hb;rw[V];cases J with
        |true=>
         simp only[lp] at hb;rw[Bp (by simp[bv])];exact q _ (Y _ (by rw[V];rfl) _) hb
        |false=>
         simp only[lj] at hb;rw[DN (by rfl)];exact Oh _ (Y _ (by rw[V];rfl)) hb
def X0{ro:Option Nat}{m:Nat}{ops:Array Oper}{Q:Exit->Act->World->Prop}(V:¬LetsOut Q)(B:ro=none\/ops.toList.all WM=true):∀(l:List Nat) (a:Act) (w:World),wpOps P ops Q l a w->wpOpsIn (Wd ro) m P ops Q l a w:=by
 intro l;induction l with
 |nil=>intro a w h;exact h
 |cons i U j=>
  intro a w h;simp only[wpOps] at h;simp only[wpOpsIn];cases I:ops[i]? with
  |none=>simp only[I] at h ⊢;exact j _ _ h
  |some o=>
   simp only[I] at h ⊢;split
   .rename_i J;rw[DN J] at h;replace h:=h.resolve_right λh=>V h.2
    refine⟨λ_ _=>trivial,?_⟩;have X:o.semAt ro a.eval=execOp a.eval o:=by
     rcases B with rfl|B
     .rfl
     .refine r8 _ _ _ λc hc=>?_;have:=mL.1 B o (by rw[Array.mem_toList_iff];exact rQ I);simp[WM,hc] at this
    rw[show(Wd ro).round=ro from rfl,X];unfold Oper.wp at h;generalize (execOp a.eval o).run P w=r at h ⊢;match r,h with
    |.ok (.value v) w',h=>exact j _ _ h
    |.ok .skip w',h=>exact j _ _ h
    |.ok (.defer d) w',h=>exact j _ _ h
    |.ok (.enter f args) w',h=>
     refine⟨(λh=>by cases h),(rD.2 (og h λe q O=>?_):CallsIn Fence.wide _ _ _ _ _ _)⟩;cases e with
     |returned v=>exact j _ _ O
     |panicked Z=>exact O
     |outgrown=>exact O
    |.ok (.row row args) w',h=>
     refine⟨(λh=>by cases h),?_⟩;intro c cs _;obtain⟨v,q,h1,Y⟩:=h c cs;exact⟨v,q,j _ _ h1,(StepsIn.of_steps Y).mono λm _=>fenced_wide P m⟩
    |.halt (.panic v) w',h=>exact h
   .rename_i J;rw[Bp J] at h;exact⟨λ_ _=>trivial,j _ _ h⟩
def Py{ro:Option Nat}{m:Nat}{id:Nat}{ops:Array Oper}{Q:Exit->Act->World->Prop}{a:Act}(hm:P.follows .mixedOrders=true)(i:¬LetsOut Q)(j:ro=none\/ops.toList.all WM=true)
 (h:wpAny P .any ops Q ops.size (Array.replicate ops.size false) a { w with drawn:=w.drawn+1 }):(Code.region id ops true).wpIn (Wd ro) m P Q a w:=
 wpIn_region_draw λt=>X0 i j _ _ _ (by
  simp only [Region.schedule,hm,Bool.true_or,mF];exact wpAny_sound ops.size t _ a _ h)
def QN{ds:List Deferred}{all:List Oper}{e0:Env}{K:Env->World->Prop}:¬LetsOut (IY ds all n e0 K):=by
 rintro⟨a,w,h,_⟩;cases h
def RU{ds:List Deferred}{L:List Nat}{e:Env}{a:Act}(i:Fr ds n e a):L.map (λt=>a.tmps.getD t undef)=L.map e:=oh λt _=>i.get t
def KE{ds:List Deferred}{ro:Option Nat}{m:Nat}(ax:Cn P ok)(hm:P.follows .mixedOrders=true):∀(c:Code) (X:EM) (Q:EQ) (e:Env) (w:World) (a:Act),ro=none\/Lt c=true->Fr ds n e a->D P ok n c X Q e w->c.wpIn (Wd ro) m P (lift n ds c e Q) a w:=by
 intro c;induction c with
 |skip=>intro X Q e w a q U h;exact wpIn_skip ⟨e,U,λ_ _=>rfl,h⟩
 |exit id=>intro X Q e w a q U h;exact wpIn_exit ⟨e,U,λ_ _=>rfl,h⟩
 |ret=>intro X Q e w a q U h;exact wpIn_ret ⟨e,U,λ_ _=>rfl,h⟩
 |label l=>intro X Q e w a q U h;exact wpIn_label ⟨e,U,λ_ _=>rfl,h⟩
 |goto l=>intro X Q e w a q U h;exact h.elim
 |refuse y=>intro X Q e w a q U h;exact h.elim
 |scope x ih=>
  intro X Q e w a q U h;obtain rfl:ro=none:=q.resolve_right (by simp[Lt]);refine(wpIn_wide (n:=m)).2 (wp_scope_straight (wp_mono ((wpIn_wide (n:=m)).1 (ih X (jk Q) e w a (.inl rfl) U h)) ?_));rintro ex V w' ⟨e',h1,O,J⟩;cases ex with
  |goto l=>exact J.elim
  |normal=>exact⟨e',h1,λj B=>O j B,J⟩
  |exit i=>exact⟨e',h1,λj B=>O j B,J⟩
  |ret=>exact⟨e',h1,λj B=>O j B,J⟩
  |panic c=>exact⟨e',h1,λj B=>O j B,J⟩
  |outgrown=>exact⟨e',h1,λj B=>O j B,J⟩
 |rangeFunc f ps x y b8 b9=>intro X Q e w a q U h;exact h.elim
 |region id ops draw=>
  intro X Q e w a q U h;simp only[D] at h;cases draw with
  |false=>
   refine wpIn_region_list (JD ?_ _ _ _ (Sy ax ops.toList 0 [] e w a rfl (λj b hb=>by simp[FJ] at hb) U h));rintro ex V w' ⟨rfl,e',h1,O,J⟩;exact⟨e',h1,λj B=>O j (λo ho hd=>B ⟨o,ho,hd⟩),J⟩
  |true=>
   simp only at h;have hD:ro=none\/ops.toList.all WM=true:=q.imp (λh=>h) λh=>by simpa[Lt] using h
   cases X with
   |draw=>
    simp only at h;cases hB:Region.lexB .any ops with
    |false=>rw[hB] at h;exact h.elim
    |true=>
     rw [hB] at h;simp only [lp] at h;obtain ⟨C,hC,h⟩:=h;simp only [Region.lexB,gC] at hB;have:=SA ax ops.toList 0 [] e a rfl (λj b hb=>by simp [FJ] at hb) U h;refine nZ (Q:=λex V w'=>ex=.normal/\lift n ds (.region id ops true) e Q .normal V w') (Py hm (λ⟨_,_,h,_⟩=>by cases h) hD ?_) (by rintro ex V w' ⟨rfl,h⟩;exact h);refine wpAny_of_quiet (Q:=λV=>∀ w',C w'->lift n ds (.region id ops true) e Q .normal V w') (λ_ w' Z h=>⟨rfl,h w' Z⟩) _ _ _ _ hC ?_;have h9:=wpAnyQ_lex (C:=C) (md:=.any) hB.1 ops.toList 0 (Array.replicate ops.size false) a (by simp) (by simpa using hB.2) (Jm (Q':=λV=>∀ w',C w'->lift n ds (.region id ops true) e Q .normal V w') (by
      rintro V ⟨e',h1,O,J⟩ w' Z;exact ⟨e',h1,λj B=>O j (λo ho hd=>B ⟨o,ho,hd⟩),J w' Z⟩) _ _ this)
     simpa using h9
   |dt Ax AN Gs t=>
    simp only at h;cases hB:(Xx n ops.toList Ax AN Gs&&Ts ops.toList.length Ax AN t) with
    |false=>rw[hB] at h;exact h.elim
    |true=>
     rw[hB] at h;simp only[lp] at h;simp only[gC] at hB;refine nZ (Py hm QN hD (Qw (K:=λe w=>Q .normal e w) ax hm U hB.1 hB.2 h)) ?_;rintro ex V w' ⟨rfl,e',h1,O,J⟩;exact⟨e',h1,λj B=>O j (λo ho hd=>B ⟨o,ho,hd⟩),J⟩
   |_=>exact h.elim
 |cond c x y ak al=>
  intro X Q e w a q U h;cases X with
  |nil=>exact h.elim
  |cut=>exact h.elim
  |draw=>exact h.elim
  |dt=>exact h.elim
  |node L W a6 a7=>
   have aZ:a.eval c=ev e c:=by rw[U.eval]
   rcases He h with⟨hv,hb⟩|⟨hv,hb⟩
   .refine wpIn_cond_true (aZ.trans hv) (nZ (ak a6 Q e w a (q.imp id λh=>by simp only[Lt,gC] at h;exact h.1) U hb) ?_);rintro ex V w' ⟨e',h1,O,J⟩;exact⟨e',h1,λj B=>O j (λY=>B (.inl Y)),J⟩
   .refine wpIn_cond_false (aZ.trans hv) (nZ (al a7 Q e w a (q.imp id λh=>by simp only[Lt,gC] at h;exact h.2) U hb) ?_);rintro ex V w' ⟨e',h1,O,J⟩;exact⟨e',h1,λj B=>O j (λY=>B (.inr Y)),J⟩
 |block id x ih=>
  intro X Q e w a q U h;refine wpIn_block (nZ (ih X (ib id Q) e w a q U h) ?_);rintro ex V w' ⟨e',h1,O,J⟩;cases ex with
  |exit i=>
   simp only[ib] at J;simp only[Exit.inBlock];cases hb:Nat.beq i id with
   |true=>rw[hb] at J;rw[DN (lZ hb)];exact⟨e',h1,O,J⟩
   |false=>
    rw[hb] at J;rw[Bp (by intro e1;subst e1;simp at hb)];exact⟨e',h1,O,J⟩
  |_=>exact⟨e',h1,O,J⟩
 |seq x y ak al=>
  intro X Q e w a q U h;have av:∀{e1 e2:Env},(∀j,¬Wr x j->e1 j=e j)->(∀j,¬Wr y j->e2 j=e1 j)->∀j,¬Wr (.seq x y) j->e2 j=e j:=λh1 O j B=>
   (O j λY=>B (.inr Y)).trans (h1 j λY=>B (.inl Y))
  have a8:∀{e1:Env},(∀j,¬Wr x j->e1 j=e j)->∀j,¬Wr (.seq x y) j->e1 j=e j:=λh1 j B=>h1 j λY=>B (.inl Y);cases X with
  |nil=>exact h.elim
  |draw=>exact h.elim
  |dt=>exact h.elim
  |node L W a6 a7=>
   refine wpIn_seq (nZ (ak a6 _ e w a (q.imp id λh=>by simp only[Lt,gC] at h;exact h.1) U h) ?_);rintro ex V w' ⟨e',h1,O,J⟩;cases ex with
   |normal=>
    refine nZ (al a7 Q e' w' V (q.imp id λh=>by simp only[Lt,gC] at h;exact h.2) h1 J) ?_;rintro ex b2 b6 ⟨ay,h4,h5,h6⟩;exact⟨ay,h4,av O h5,h6⟩
   |_=>exact⟨e',h1,a8 O,J⟩
  |cut L W a6 a7=>
   simp only[D] at h;cases Y:I8 W x with
   |false=>simp only[Y,lj] at h
   |true=>
    simp only[Y,lp] at h;obtain⟨I,hI,hG⟩:=h;refine wpIn_seq (nZ (ak a6 _ e w a (q.imp id λh=>by simp only[Lt,gC] at h;exact h.1) U hG) ?_);rintro ex V w' ⟨e',h1,O,J⟩;cases ex with
    |normal=>
     have h4:=hI _ _ J e';rw[Qf (λj B=>O j λZ=>by rw[Dz Y j Z] at B;cases B)] at h4;refine nZ (al a7 Q e' w' V (q.imp id λh=>by simp only[Lt,gC] at h;exact h.2) h1 h4) ?_;rintro ex b2 b6 ⟨ay,h5,h6,h7⟩;exact⟨ay,h5,av O h6,h7⟩
    |_=>exact⟨e',h1,a8 O,J⟩
 |loop x ih=>
  intro X Q e w a q U h;cases X with
  |nil=>exact h.elim
  |cut=>exact h.elim
  |draw=>exact h.elim
  |dt=>exact h.elim
  |node L W a6 a7=>
   simp only[D] at h;cases Y:I8 W x with
   |false=>simp only[Y,lj] at h
   |true=>
    simp only[Y,lp] at h;obtain⟨I,μ,h0,hR⟩:=h;refine wpIn_loop (λV w'=>∃e',Fr ds n e' V/\(∀j,¬Wr x j->e' j=e j)/\I (L.map e') w') (λV w'=>μ (L.map λt=>V.tmps.getD t undef) w') ⟨e,U,λ_ _=>rfl,h0⟩ ?_;rintro a1 w1 ⟨e1,b0,b1,b7⟩;have h4:=hR _ _ b7 e1;rw[Qf (λj B=>b1 j λZ=>by rw[Dz Y j Z] at B;cases B)] at h4;refine nZ (ih a6 _ e1 w1 a1 q b0 h4) ?_;rintro ex a2 w2 ⟨e2,h5,h6,h7⟩;have h8:∀j,¬Wr x j->e2 j=e j:=λj B=>(h6 j B).trans (b1 j B);cases ex with
    |normal=>
     refine⟨⟨e2,h5,h8,h7.1⟩,?_⟩;rw[RU h5,RU b0];exact h7.2
    |_=>exact⟨e2,h5,h8,h7⟩
def LS(P:Program):List ResultVar->Env->World->(List Value->Prop)->Prop
 |[],_,_,K=>K []
 |.tmp t::r,e,w,K=>LS P r e w λvs=>K (e t::vs)
 |.cell a t::r,e,w,K=>match Ex P t with
  |some (false,_)=>Ay (e a) (λv w'=>LS P r e w' λvs=>K (v::vs)) w
  |some (true,k)=>CX k (e a) (λv w'=>LS P r e w' λvs=>K (v::vs)) w
  |none=>False
def SD:List Value->Value
 |[v]=>v
 |vs=>.tuple vs.toArray
def Sv(P:Program)(rs:List ResultVar)(K:Cont):EQ:=λex e w=>match ex with
 |.normal=>LS P rs e w λvs=>K (SD vs) w
 |.ret=>LS P rs e w λvs=>K (SD vs) w
 |_=>False
def Fx(f:Func):Code:=match f.body with|some c=>c|none=>.skip
def Xo{ds:List Deferred}{e:Env}{a:Act}(q:Fr ds n e a)(f:ResultVar->Sem Value)(B:∀t,f (.tmp t)=pure (a.tmps.getD t undef))(I:∀x t,f (.cell x t)=(do loadVar t (<- asAddr (a.tmps.getD x undef)))):∀(rs:List ResultVar) (K:List Value->Prop),LS P rs e w K->
  ∃vs,(rs.mapM f:Sem (List Value)).run P w=.ok vs w/\K vs:=by
 intro rs;induction rs with
 |nil=>intro K h;exact⟨[],by simp,h⟩
 |cons r rs J=>
  intro K h;cases r with
  |tmp t=>
   obtain⟨vs,h1,j⟩:=J _ h;refine⟨_,?_,j⟩;rw[rW];rw[lH,B];simp only[mG,S9];rw[lH,h1];simp only[S9,mG,q.get]
  |cell x t=>
   simp only[LS] at h;have key:∀v,(loadVar t ·:Addr->Sem Value)=(loadVar t ·)->LS P rs e w (λvs=>K (v::vs))->(do loadVar t (<- asAddr (a.tmps.getD x undef)):Sem Value).run P w=.ok v w->
     ∃vs,((ResultVar.cell x t::rs).mapM f:Sem (List Value)).run P w=.ok vs w/\K vs:=by
    intro v _ o O;obtain⟨vs,h1,j⟩:=J _ o;refine⟨_,?_,j⟩;rw[rW];rw[lH,I,O];simp only[S9];rw[lH,h1];simp only[S9,mG]
   split at h
   .rename_i k ha;obtain⟨p,v,h1,j,o⟩:=h;refine key v rfl o ?_;have m:a.tmps.getD x undef=.pointer (some p):=(q.get x).trans h1;rw[lH,m];simp only[asAddr,mG,S9];simp[loadVar,(Ee ha w).1,j]
   .rename_i k ha;obtain⟨p,vs,h1,hl,j,o⟩:=h;refine key _ rfl o ?_;have m:a.tmps.getD x undef=.pointer (some p):=(q.get x).trans h1;rw[lH,m];simp only[asAddr,mG,S9];have i:=run_loadCells_list (P:=P) (w:=w) p vs j;simp only[loadVar,lH,(Ee ha w).1,(Ee ha w).2,S9,mF];rw[<-hl,i];rfl
   .exact h.elim
def Gi{ds:List Deferred}{fn:Func}{e:Env}{a:Act}{K:Cont}(i:Fr ds n e a)(h:LS P fn.results.toList e w λvs=>K (SD vs) w) :
  ∃v,(results fn a.tmps).run P w=.ok v w/\K v w:=by
 obtain⟨vs,h1,j⟩:=Xo i (λx=>match x with|.tmp t=>pure (a.tmps.getD t undef)|.cell y t=>do loadVar t (<- asAddr (a.tmps.getD y undef))) (λ_=>rfl) (λ_ _=>rfl) _ _ h;refine⟨_,?_,j⟩;unfold results;rw[lH,qp,Sem.run_map]
 erw [h1]
 simp only[S9,mG];congr 1
 match vs with
 |[]=>rfl
 |[v]=>rfl
 |v::u::r=>simp[SD]
def TL{m:Nat}(q:args.length<=m):Fr [] m (nth args) { tmps:=args.toArray++Array.replicate (m-args.toArray.size) undef,defers:=[] }:=by
 have i:∀(l:List Value) (t:Nat),nth l t=l.getD t undef:=by
  intro l;induction l with
  |nil=>
   intro t;induction t with
   |zero=>rfl
   |succ t o=>simpa[nth] using o
  |cons v l o=>intro t;cases t with
   |zero=>simp[nth]
   |succ t=>simp[nth,o]
 refine⟨by simp;omega,λt=>?_,rfl⟩;rw[i];simp only[nO,rR,nh,List.getElem?_toArray,mP];split
 .rfl
 .rename_i B;rw[lP (by omega)];cases j:(Array.replicate (m-args.length) undef)[t-args.length]? with
  |none=>rfl
  |some v=>
   rw[qx] at j;split at j
   .cases j;rfl
   .cases j
def P4{g:Nat}{fn:Func}{c:Code}{rs:List ResultVar}{K:Cont}{O:EM}(i:Cn P ok)(hm:P.follows .mixedOrders=true)(Q:P.funcs[g]?=some fn)
 (hb:fn.body=some c)(U:fn.ntmps=n)(j:fn.results.toList=rs)(hl:Nat.ble args.length n=true)(h:D P ok n c O (Sv P rs K) (nth args) w):AB P g args K w:=by
 refine calls_of_wp Q hb ?_;have o:=mq hl;subst U;have q:=TL o;refine wp_mono ((wpIn_wide (n:=0)).1 (KE (ds:=[]) (ro:=none) (m:=0) i hm c O _ _ w _ (.inl rfl) q h)) ?_;rintro ex V w' ⟨e',h1,_,B⟩;subst j;cases ex with
 |normal=>
  obtain⟨v,I,J⟩:=Gi h1 B;exact⟨h1.defers,v,I,v,rfl,J⟩
 |ret=>
  obtain⟨v,I,J⟩:=Gi h1 B;exact⟨h1.defers,v,I,v,rfl,J⟩
 |_=>exact B.elim
attribute [irreducible] D
end
def ji:List Nat:=[2,3,4,5,6,7,8,9,10,11,12,13,14,15,16,17,18,19,20,21,22,23,24,25,26,27,28,29,30,31,32,33,34,35,36,37,38,39,40,41,42,43,44,45,46,47,48,49,50,51,52,53,54,55,56,57,58,59,60,61,62,63,64,65,66,67,68,69,70,71,72,73,74,75,76,77,78,79,80,81,82,83,84,85,86,87,88,89,90,91,92,93,94,95,96,97,98,99,100,101,102,103,104,105,106,107,108,109,110,111,112,113,114,115,116,117,118,119,120,121,122,123,124,125,126,127,128,129,130,131,132,133,134,135,136,137,138,139,140,141,142,143,144,145,146,147,148,149,150,151,152,153,154,155,156,157,158,159,160,161,162,163,164,165,166,167,168,169,170,171,172,173,174,175,176,177,178,179,180,181,182,183,184,185,186,187,188,189,190,191,192,193,194,195,196,197,198,199,200,201,202,203,204,205,206,207,208,209,210,211,212,213,214,215,216,217,218,219,220,221,222,223,224,225,227,228,229,230,231,233,234,235,236,237,238,239,240,241,242,243,244,245,246,247,248,249,250,251,252,253,254,255,256,257,258,259,260,261,262,263,264,265,266,267,268,269,270,271,272,273,274,275,276,277,278,279,280,281,282,283,284,285,286,287,288,289,290,291,292,293,294,295,296,297,298,299,300,301,302,303,305,306,307,308,309,310,311,312,313,314,315,316,317,318,319,320,321,322,323,324,325,326,327,328,329,330,331,332,333,334,335,336,337,338,339,340,341,342,343,344,345,346,347,348,349,350,351,352,353,354,355,356,357,358,359,360,361,362,363,364,365,367,368,369,370,371,372,373,374,375,376,377,378,379,380,381,382,383,384,385,386,387,388,389,390,391,392,393,394,395,396,397,398,399,400,401,402,403,404,405,406,407,408,409,410,411,412,450]
def CS(g:Nat):Bool:=ji.any λx=>Nat.beq x g
def mixed:prog.follows .mixedOrders=true:=by kernel_rfl
def iI:∀g∈ji,∀args w,(callFunc g args).run prog w=.ok (.enter g args) w:=by
 unfold ji;simp only[List.forall_mem_cons];exact⟨call2,call3,call4,call5,call6,call7,call8,call9,call10,call11,call12,call13,call14,call15,call16,call17,call18,call19,call20,call21,call22,call23,call24,call25,call26,call27,call28,call29,call30,call31,call32,call33,call34,call35,call36,call37,call38,call39,call40,call41,call42,call43,call44,call45,call46,call47,call48,call49,call50,call51,call52,call53,call54,call55,call56,call57,call58,call59,call60,call61,call62,call63,call64,call65,call66,call67,call68,call69,call70,call71,call72,call73,call74,call75,call76,call77,call78,call79,call80,call81,call82,call83,call84,call85,call86,call87,call88,call89,call90,call91,call92,call93,call94,call95,call96,call97,call98,call99,call100,call101,call102,call103,call104,call105,call106,call107,call108,call109,call110,call111,call112,call113,call114,call115,call116,call117,call118,call119,call120,call121,call122,call123,call124,call125,call126,call127,call128,call129,call130,call131,call132,call133,call134,call135,call136,call137,call138,call139,call140,call141,call142,call143,call144,call145,call146,call147,call148,call149,call150,call151,call152,call153,call154,call155,call156,call157,call158,call159,call160,call161,call162,call163,call164,call165,call166,call167,call168,call169,call170,call171,call172,call173,call174,call175,call176,call177,call178,call179,call180,call181,call182,call183,call184,call185,call186,call187,call188,call189,call190,call191,call192,call193,call194,call195,call196,call197,call198,call199,call200,call201,call202,call203,call204,call205,call206,call207,call208,call209,call210,call211,call212,call213,call214,call215,call216,call217,call218,call219,call220,call221,call222,call223,call224,call225,call227,call228,call229,call230,call231,call233,call234,call235,call236,call237,call238,call239,call240,call241,call242,call243,call244,call245,call246,call247,call248,call249,call250,call251,call252,call253,call254,call255,call256,call257,call258,call259,call260,call261,call262,call263,call264,call265,call266,call267,call268,call269,call270,call271,call272,call273,call274,call275,call276,call277,call278,call279,call280,call281,call282,call283,call284,call285,call286,call287,call288,call289,call290,call291,call292,call293,call294,call295,call296,call297,call298,call299,call300,call301,call302,call303,call305,call306,call307,call308,call309,call310,call311,call312,call313,call314,call315,call316,call317,call318,call319,call320,call321,call322,call323,call324,call325,call326,call327,call328,call329,call330,call331,call332,call333,call334,call335,call336,call337,call338,call339,call340,call341,call342,call343,call344,call345,call346,call347,call348,call349,call350,call351,call352,call353,call354,call355,call356,call357,call358,call359,call360,call361,call362,call363,call364,call365,call367,call368,call369,call370,call371,call372,call373,call374,call375,call376,call377,call378,call379,call380,call381,call382,call383,call384,call385,call386,call387,call388,call389,call390,call391,call392,call393,call394,call395,call396,call397,call398,call399,call400,call401,call402,call403,call404,call405,call406,call407,call408,call409,call410,call411,call412,call450,λg i=>nomatch i⟩
def DV:Cn prog CS:=by
 intro g i;simp only[CS,pP] at i;obtain⟨x,j,hb⟩:=i;have:=lZ hb;subst this;exact iI x j
end Go.Proofs.YtbdjachmndlplaaGreatDoor
