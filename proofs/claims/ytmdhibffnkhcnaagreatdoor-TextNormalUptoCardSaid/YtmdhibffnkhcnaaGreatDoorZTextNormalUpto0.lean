/- parts of the proof, written short by a program of ours -/
import Derived.Orders
import Derived.Scope
import Derived.Below
import Derived.Laws.Sem
import Derived.Laws.World
import Derived.Laws.Cells
import Derived.Laws.Small
import Derived.Laws.Entries
import Derived.Laws.Strings
import Derived.Still
import Derived.Tactics
import Derived.Deep.Quiet
import Derived.RangeFuncIn
import Derived.TacticsIn
import Derived.Test.YtmdhibffnkhcnaaGreatDoorProg
import Derived.KernelRfl
import GoSem.Claims
import Derived.Laws.AppendOwnNone
import Derived.RangeFuncOwn
import Derived.RangeFuncLeaves
import Derived.WalkKit
import Derived.Laws.IdiomStrings
import Derived.Lib.AppendZeros
import Derived.MapKept
import Derived.ChangeKeysEq
import Derived.Laws.BytesArg
import Derived.Shelf.GgSortFunc.InsertionK
import Derived.Shelf.SlSortCmp.WholeK
import Derived.Shelf.SlSortCmp.NoneTotal
import Derived.Lib.Zigzag
import Derived.Laws.Cover3
import Derived.ProofKit
import Derived.Lib.SmallJoins
import Derived.Deep.Slices
import Derived.Lib.LaidU8
import Derived.Lib.LaidIn
import Derived.LaidHandle
import Derived.LaidMore
import Derived.MakeChecks
import Derived.OpenShut
import Derived.ShutString
import Derived.ChangeOld
import Derived.ChangeVars
import Derived.JoinedOf
import Derived.JoinedCond
import Derived.Deep.DeepHandedRow
import Derived.SevenTiedAt
set_option linter.unusedSimpArgs false
set_option linter.unusedVariables false
namespace Go.Proofs.YtmdhibffnkhcnaaGreatDoor
open Go Proofs.Tryz
variable {i j:Nat}{w w':World}{F S:Nat->Prop}{v fr:Value}{cs args:List Value}{P:Program}{yo xo:Operand}
abbrev Bp:=@List.getElem?_eq_some_iff
abbrev Bq:=@List.length_append
abbrev By:=@List.getElem?_eq_getElem
abbrev C3:=@if_neg
abbrev DN:=@List.mem_append
abbrev Es:=@List.length_map
abbrev Io:=@if_pos
abbrev I3:=@List.mem_cons
abbrev K8:=@List.length_drop
abbrev Lc:=@Nat.le_refl
abbrev Mp:=@List.length_take
abbrev Nn:=@Nat.zero_le
abbrev No:=@List.take_add_one
abbrev Nr:=@List.take_length
abbrev Of:=@List.headD_cons
abbrev PF:=@List.append_assoc
abbrev P9:=@List.mem_singleton
abbrev QC:=@List.eq_nil_of_length_eq_zero
abbrev Q0:=@List.getElem?_append_left
abbrev S3:=@Result.andThen_ok
abbrev S4:=@World.cell?_setCell_other
abbrev S5:=@List.getLast?_append
abbrev S6:=@decide_eq_true_eq
abbrev S7:=@List.map_append
abbrev S9:=@List.take_append_drop
abbrev TC:=@Bool.and_eq_true
abbrev Ty:=@Nat.succ_pos
abbrev Vn:=@List.length_cons
abbrev WJ:=@List.cons_append
abbrev WL:=@Nat.lt_of_lt_of_le
abbrev X1:=@List.getLast?_singleton
abbrev fX:=@List.mem_cons_of_mem
abbrev gC:=@List.getElem_mem
abbrev i6:=@Option.some.injEq
abbrev i7:=@List.mem_append_left
abbrev jV:=@Option.isSome_iff_exists
abbrev kA:=@cond_true
abbrev kB:=@List.mem_append_right
abbrev kC:=@List.length_set
abbrev kD:=@Sem.run_bind
abbrev kE:=@List.nodup_append
abbrev kF:=@cond_false
abbrev kG:=@List.append_nil
abbrev kH:=@List.getElem?_append_right
abbrev kI:=@List.getElem?_set_self
abbrev kJ:=@World.cell?_setCell_same
abbrev kK:=@Option.some.inj
abbrev kL:=@List.map_cons
abbrev kM:=@congrArg
abbrev kN:=@List.getElem?_eq_none
abbrev kO:=@List.mem_of_mem_take
abbrev kP:=@List.mem_of_mem_drop
abbrev kQ:=@List.mem_map
abbrev kS:=@List.nil_append
abbrev kT:=@World.block_lt_of_cell?
abbrev kU:=@List.all_eq_true
abbrev kV:=@List.not_mem_nil
abbrev kW:=@decide_eq_false_iff_not
abbrev kX:=@decide_eq_false
abbrev kY:=@Nat.min_eq_left
abbrev kZ:=@if_false
abbrev ka:=@Nat.eq_of_beq_eq_true
abbrev kb:=@List.eq_nil_or_concat
abbrev ke:=@Classical.byContradiction
abbrev kf:=@List.mem_cons_self
abbrev kg:=@Nat.add_zero
abbrev kh:=@List.getElem?_set_ne
abbrev ki:=@Option.some_or
abbrev kj:=@decide_eq_true
abbrev kl:=@List.length_nil
abbrev km:=@if_true
abbrev ko:=@List.mem_filter
abbrev kp:=@List.flatMap_cons
abbrev kr:=@List.getElem?_map
abbrev ku:=@Nat.add_mul
abbrev kx:=@List.mem_of_getElem?
abbrev ky:=@Array.getD_eq_getD_getElem?
abbrev k6:=@List.concat_eq_append
abbrev k7:=@Sem.run_pure
abbrev k8:=@Nat.le_trans
abbrev k9:=@List.dropLast_concat
abbrev lA:=@List.drop_eq_getElem_cons
abbrev lC:=@List.set_append_right
abbrev lD:=@List.length_replicate
abbrev lE:=@List.getD_eq_getElem?_getD
abbrev lF:=@Nat.mul_le_mul_right
abbrev lG:=@DataW.trod_int
abbrev lH:=@List.foldl_append
abbrev lI:=@Int.toNat_natCast
abbrev lJ:=@Array.getElem?_toList
abbrev lK:=@List.map_take
abbrev lL:=@List.getElem?_drop
abbrev lM:=@List.map_nil
abbrev lN:=@List.take_of_length_le
abbrev lO:=@World.cell?_of_block
abbrev lP:=@List.map_drop
abbrev lQ:=@List.getElem?_take
abbrev lS:=@Nat.le_of_ble_eq_true
abbrev lT:=@List.length_pos_iff
abbrev lU:=@List.flatMap_append
abbrev lV:=@List.getElem_map
abbrev lW:=@List.ext_getElem?
abbrev lX:=@List.sum_cons
abbrev lY:=@List.mem_iff_getElem?
abbrev lZ:=@List.drop_succ_cons
abbrev lb:=@List.foldl_cons
abbrev lf:=@Array.getElem?_eq_some_iff
abbrev lg:=@World.putObj_heap_other
abbrev lh:=@List.drop_zero
abbrev lj:=@List.getLast?_eq_some_getLast
abbrev ln:=@List.getElem_append_right
abbrev lp:=@Nat.zero_add
abbrev lq:=@List.drop_eq_nil_of_le
abbrev lu:=@MapKept.run_getObj_map
abbrev lx:=@BitVec.toNat_ofInt
abbrev ly:=@List.mem_range
abbrev lz:=@List.take_take
abbrev l9:=@List.Perm.refl
abbrev mB:=@Nat.add_assoc
abbrev mC:=@List.take_succ_cons
abbrev mD:=@List.mem_of_getLast?
abbrev mE:=@List.cons.injEq
abbrev mF:=@Option.map_some
abbrev mG:=@wpIn_mono
abbrev mH:=@List.map_map
abbrev mI:=@or_false
abbrev mJ:=@List.Sublist.count_le
abbrev mK:=@List.getElem_append_left
abbrev mL:=@List.sum_nil
abbrev mM:=@Bool.false_eq_true
abbrev mN:=@Int.emod_eq_of_lt
abbrev mO:=@Array.length_toList
abbrev mP:=@MapKept.run_findKey
abbrev mQ:=@Bool.or_eq_true
abbrev mR:=@run_equalIn_int
abbrev mS:=@List.getLast?_eq_none_iff
abbrev mT:=@List.pairwise_iff_getElem
abbrev mU:=@List.drop_length
abbrev mV:=@List.pairwise_cons
abbrev mW:=@Ne.symm
abbrev mX:=@List.take_zero
abbrev mY:=@List.size_toArray
abbrev mZ:=@Value.slice.injEq
abbrev mb:=@List.getElem?_replicate
abbrev me:=@run_sliceAt_slice
abbrev mf:=@Nat.add_sub_cancel_left
abbrev mg:=@List.take_sublist
abbrev mh:=@Array.getElem?_setIfInBounds
abbrev mi:=@Bool.eq_iff_iff
abbrev mj:=@List.map_congr_left
abbrev mn:=@List.filter_eq_self
abbrev mo:=@List.take_append
abbrev mq:=@List.nodup_nil
abbrev mr:=@Nat.ble_eq_true_of_le
abbrev mu:=@List.length_singleton
abbrev mw:=@List.getElem_set_self
abbrev my:=@List.sum_append
abbrev mz:=@List.getElem?_append
abbrev nA:=@Nat.mul_one
abbrev nB:=@List.getElem?_set
abbrev nD:=@MapKept.run_checkKey
abbrev nE:=@List.count_append
abbrev nG:=@List.getElem_take
abbrev nH:=@Calls.mono
abbrev nJ:=@Array.getElem?_replicate
abbrev nK:=@List.replicate_append_replicate
abbrev nL:=@List.map_eq_nil_iff
abbrev nN:=@Nat.mul_le_mul_left
abbrev nO:=@List.foldl_nil
abbrev nP:=@List.getElem?_cons_succ
abbrev nQ:=@List.getElem?_cons_zero
abbrev nR:=@List.drop_append
abbrev nS:=@List.flatMap_nil
abbrev nT:=@List.drop_drop
abbrev nU:=@List.take_append_of_le_length
abbrev nV:=@beq_iff_eq
abbrev nW:=@MapKept.run_setObj_map
abbrev nX:=@Nat.le_of_eq
abbrev nY:=@List.filter_append
abbrev nZ:=@List.getLast?_drop
abbrev nd:=@List.take_left'
abbrev nf:=@Bool.true_and
abbrev nh:=@List.dropLast_eq_take
abbrev ni:=@List.length_filter_le
abbrev nj:=@Iff.rfl
abbrev nk:=@List.flatten_cons
abbrev nm:=@DataW.trod_struct
abbrev np:=@Array.toArray_toList
abbrev ns:=@Array.toList_setIfInBounds
abbrev nu:=@Int.fdiv_eq_ediv_of_nonneg
abbrev nw:=@Nat.div_lt_of_lt_mul
abbrev nx:=@List.mem_iff_getElem
abbrev ny:=@List.any_eq_true
abbrev nz:=@Option.getD_some
abbrev oB:=@Nat.sub_self
abbrev oD:=@List.countP_cons
abbrev oE:=@getElem!_pos
abbrev oF:=@Array.getElem?_eq_getElem
abbrev oG:=@List.countP_pos_iff
abbrev oH:=@List.drop_left'
abbrev oI:=@Sort.size_flatK
abbrev oJ:=@List.count_pos_iff
abbrev oK:=@Option.isNone_some
abbrev oO:=@Value.string.injEq
abbrev oQ:=@Nat.lt_of_le_of_lt
abbrev oT:=@Nat.add_sub_cancel
abbrev oU:=@List.countP_append
abbrev oV:=@RowKit.Below.heap_alloc
abbrev oX:=@List.getLast?_cons_cons
abbrev oY:=@List.length_eq_zero_iff
abbrev oZ:=@Bool.not_eq_true'
abbrev ob:=@true_and
abbrev od:=@Array.toList_push
abbrev oe:=@List.length_pos_of_mem
abbrev og:=@Bool.false_and
abbrev oh:=@Option.map_eq_some_iff
abbrev oi:=@List.zipWith_cons_cons
abbrev oj:=@List.filter_eq_nil_iff
abbrev om:=@of_decide_eq_true
abbrev oo:=@World.cell?_alloc_new
abbrev oq:=@List.dropLast_sublist
abbrev ot:=@Array.toList_inj
abbrev ou:=@Option.bind_some
abbrev ow:=@World.size_alloc
abbrev oy:=@MapKept.heap_set
abbrev oz:=@Int.mul_le_mul_of_nonneg_right
abbrev o0:=@decide_eq_decide
abbrev pA:=@Nat.le_of_not_lt
abbrev pB:=@Int.toNat_one
abbrev pC:=@Nat.lt_irrefl
abbrev pD:=@List.pairwise_append
abbrev pE:=@run_equalIn_agg
abbrev pG:=@run_eqGuard_agg
abbrev pH:=@List.head?_cons
abbrev pI:=@List.nodup_cons
abbrev pJ:=@List.dropLast_concat_getLast
abbrev pK:=@List.head?_drop
abbrev pL:=@DataW.trod_bool
abbrev pM:=@List.getElem_set_ne
abbrev pN:=@List.drop_set_of_lt
abbrev pO:=@Nat.add_lt_add_left
abbrev pP:=@Nat.zero_mul
abbrev pQ:=@Nat.mul_lt_mul_of_pos_right
abbrev pR:=@Nat.add_comm
abbrev pS:=@List.set_cons_succ
abbrev pT:=@Nat.lt_or_gt_of_ne
abbrev pU:=@Nat.mod_lt
abbrev pV:=@heap_alloc_new
abbrev pW:=@grownCap_le_maxLen
abbrev pX:=@List.set_cons_zero
abbrev pY:=@Array.getElem?_append_left
abbrev pZ:=@List.perm_ext_iff_of_nodup
abbrev pd:=@Array.mapM_eq_mapM_toList
abbrev pf:=@List.mem_or_eq_of_mem_set
abbrev pg:=@List.mem_of_find?_eq_some
abbrev ph:=@MakeChecks.laidMetH_plain
abbrev pj:=@List.any_eq_false
abbrev pk:=@Array.size_append
abbrev pn:=@List.getLast?_nil
abbrev po:=@Nat.sub_sub
abbrev pr:=@List.length_erase_of_mem
abbrev pt:=@not_not_intro
abbrev px:=@mem_ready
abbrev py:=@World.frozen?_alloc_new
abbrev pz:=@Nat.div_add_mod'
abbrev p4:=@and_true
abbrev p5:=@List.getLast_eq_getElem
abbrev qA:=@List.mem_flatMap
abbrev qB:=@Nat.lt_or_ge
abbrev qC:=@callsIn_wide
abbrev qD:=@World.frozen?_of_block
abbrev qE:=@World.putObj_heap_same
abbrev qF:=@not_or
abbrev qG:=@List.getElem_cons_zero
abbrev qH:=@Int.le_trans
abbrev qI:=@Bool.not_not
abbrev qJ:=@World.var?_cell
abbrev qK:=@trodAll_cons_mk
abbrev qL:=@World.frozen?_setCell
abbrev qM:=@Array.mem_of_getElem?
abbrev qN:=@Array.getElem?_append
abbrev qO:=@Nat.div_lt_iff_lt_mul
abbrev qP:=@List.set_getElem_self
abbrev qQ:=@List.singleton_append
abbrev qR:=@Array.getElem?_modify
abbrev qS:=@List.mapM_cons
abbrev qT:=@List.tail_cons
abbrev qU:=@size_zeroCells
abbrev qV:=@World.alloc_heap_new
abbrev qW:=@run_neq_struct
abbrev qX:=@Nat.one_mul
abbrev qY:=@List.mem_erase_of_ne
abbrev qZ:=@Nat.le_succ
abbrev qb:=@List.count_le_length
abbrev qd:=@Nat.pow_le_pow_right
abbrev qe:=@List.replicate_succ'
abbrev qf:=@And.left
abbrev qg:=@List.Pairwise.filter
abbrev qh:=@false_iff
abbrev qi:=@Oper.semAt_eq
abbrev qj:=@dif_pos
abbrev qk:=@Int.add_zero
abbrev ql:=@List.set_set
abbrev qm:=@Nat.pow_succ
abbrev Env:=Nat->Value
abbrev Cont:=Value->World->Prop
abbrev EQ:=Exit->Env->World->Prop
def Eg(n:Nat)(e:Env)(i:Nat)(v:Value):Env:=fun j=>bif Nat.beq j i&&Nat.blt i n then v else e j
def BN(n:Nat)(e:Env)(d:Option Nat)(v:Value):Env:=match d with|some i=>Eg n e i v|none=>e
def ev(e:Env)(x:Operand):Value:=match x with
 |.tmp t=>e t | .const v=>v | .global g=>.pointer (some ⟨g,0,none⟩) | .func f=>.func (.func f) #[] #[]
def nth:List Value->Nat->Value
 |vs,0=>vs.headD undef
 |vs,k+1=>nth vs.tail k
structure Fr (ds:List Deferred) (n:Nat) (e:Env) (a:Act):Prop where
 size:a.tmps.size=n
 get:∀t,a.tmps.getD t undef=e t
 defers:a.defers=ds
theorem Fr.eval{ds:List Deferred}{n:Nat}{e:Env}{a:Act}(h:Fr ds n e a):a.eval=ev e:=by
 funext x;cases x with
 |tmp t=>exact h.get t
 |const v=>rfl
 |global g=>rfl
 |func f=>rfl
theorem Fr.put{ds:List Deferred}{n:Nat}{e:Env}{a:Act}(h:Fr ds n e a)(d:Option Nat)(v:Value):Fr ds n (BN n e d v) (a.put d v):=by
 cases d with
 |none=>exact h
 |some i=>
  refine⟨by simp[Act.put,h.size],fun t=>?_,h.defers⟩;have j:=h.get t;simp only[Act.put,BN,Eg,ky,mh,h.size];simp only[ky] at j;by_cases h1:i=t
  .subst h1;by_cases B:i<n
   .have o:Nat.blt i n=true:=mr (by omega);simp[B,o]
   .have E:a.tmps[i]?=none:=Array.getElem?_eq_none (by rw[h.size];omega);have o:Nat.blt i n=false:=by
     cases hb:Nat.blt i n with
     |false=>rfl
     |true=>exact absurd (lS hb) (by omega)
    rw[E] at j;simp[B,o,j]
  .have I:Nat.beq t i=false:=by
    cases hb:Nat.beq t i with
    |false=>rfl
    |true=>exact absurd (ka hb).symm h1
   simp[h1,I,j]
def AD(v:Value)(A B:Prop):Prop:=match v with|.bool true=>A|.bool false=>B|_=>False
def MC(c a b:Value)(K:Value->Prop):Prop:=match c with|.bool true=>K a|.bool false=>K b|_=>False
def AX(k:IntKind)(x y:Value)(K:Value->Prop):Prop:=∃a b,x=.int k a/\y=.int k b/\K (.int k (k.wrap (a+b)))
def BW(k:IntKind)(x y:Value)(K:Value->Prop):Prop:=∃a b,x=.int k a/\y=.int k b/\K (.int k (k.wrap (a-b)))
def cB(k:IntKind)(x y:Value)(K:Value->Prop):Prop:=∃a b,x=.int k a/\y=.int k b/\K (.int k (k.wrap (a*b)))
def Bb(k:IntKind)(x y:Value)(K:Value->Prop):Prop:=∃a b,x=.int k a/\y=.int k b/\K (.bool (decide (a<b)))
def SQ(k:IntKind)(x y:Value)(K:Value->Prop):Prop:=∃a b,x=.int k a/\y=.int k b/\K (.bool (decide (a<=b)))
def Eu(k:IntKind)(x y:Value)(K:Value->Prop):Prop:=∃a b,x=.int k a/\y=.int k b/\K (.bool (decide (b<a)))
def Kk(k:IntKind)(x y:Value)(K:Value->Prop):Prop:=∃a b,x=.int k a/\y=.int k b/\K (.bool (decide (b<=a)))
def DJ(k:IntKind)(x y:Value)(K:Value->Prop):Prop:=∃a b,x=.int k a/\y=.int k b/\K (.bool (decide (a=b)))
def EB(k:IntKind)(x y:Value)(K:Value->Prop):Prop:=∃a b,x=.int k a/\y=.int k b/\K (.bool (!decide (a=b)))
def cy(x y:Value)(K:Value->Prop):Prop:=∃a b,x=.bool a/\y=.bool b/\K (.bool (a==b))
def VD(x y:Value)(K:Value->Prop):Prop:=∃a b,x=.bool a/\y=.bool b/\K (.bool (!(a==b)))
def cN(x y:Value)(K:Value->Prop):Prop:=∃a b,x=.string a/\y=.string b/\K (.bool (decide (a=b)))
def fY(x y:Value)(K:Value->Prop):Prop:=∃a b,x=.string a/\y=.string b/\K (.bool (!decide (a=b)))
def Hg(x:Value)(K:Bool->Prop):Prop:=∃a n c,x=.slice a n c/\K (Option.isNone a)
def CY(x:Value)(K:Bool->Prop):Prop:=∃a,x=.pointer a/\K (Option.isNone a)
def KM(k:IntKind)(x y:Value)(K:Value->Prop):Prop:=∃a b,x=.int k a/\y=.int k b/\K (.int k (if b>a then b else a))
def K3(k:IntKind)(x y:Value)(K:Value->Prop):Prop:=∃a b,x=.int k a/\y=.int k b/\K (.int k (if b<a then b else a))
def CE(x:Value)(K:Value->Prop):Prop:=∃a,x=.bool a/\K (.bool (!a))
def Ae(x:Value)(K:Value->Prop):Prop:=∃a n c,x=.slice a n c/\K (.int .i64 n)
def L6(x:Value)(K:Value->Prop):Prop:=∃s,x=.string s/\K (.int .i64 s.size)
def AJ(x:Value)(K:Value->Prop):Prop:=∃a,x=.pointer (some a)/\K x
def AM(off:Nat)(x:Value)(K:Value->Prop):Prop:=∃a,x=.pointer (some a)/\K (.pointer (some (a.add off)))
def BQ(size:Nat)(x i:Value)(K:Value->Prop):Prop:=
 ∃a n c k j,x=.slice (some a) n c/\i=.int k j/\0<=j/\j<n/\K (.pointer (some (a.add (j.toNat*size))))
def AL(x:Value)(K:Cont)(w:World):Prop:=∃a v,x=.pointer (some a)/\w.cell? a=some v/\K v w
def Af(k:Nat)(x:Value)(K:Cont)(w:World):Prop:=
 ∃a vs,x=.pointer (some a)/\List.length vs=k/\(∀j v,vs[j]?=some v->w.cell? (a.add j)=some v)/\K (.agg vs.toArray) w
def BC(x v:Value)(K:World->Prop)(w:World):Prop:=
 ∃a u,x=.pointer (some a)/\v.oneCell'=true/\v.cells=#[v]/\w.cell? a=some u/\w.frozen? a=false/\K (w.setCell a v)
def EW(w:World)(a:Addr):Nat->List Value->World
 |_,[]=>w
 |i,v::vs=>EW (w.setCell (a.add i) v) a (i+1) vs
def Ac(k:Nat)(x v:Value)(K:World->Prop)(w:World):Prop:=
 ∃a vs,x=.pointer (some a)/\v=.agg (List.toArray vs)/\vs.length=k/\(∀v∈vs,v.oneCell'=true)/\
  (∀j,j<k->(w.cell? (a.add j)).isSome=true/\w.frozen? (a.add j)=false)/\K (EW w a 0 vs)
def Am(t:TypeId)(cs:List Value)(K:Cont)(w:World):Prop:=K (.pointer (some ⟨w.heap.size,0,none⟩)) (w.alloc (.cells cs.toArray t))
def GM(t:TypeId)(x:Value)(K:Cont)(w:World):Prop:=x.cells=#[x]/\Am t [x] K w
def Bh(t:TypeId)(x:Value)(K:Cont)(w:World):Prop:=∃vs,x=.agg (List.toArray vs)/\Am t vs K w
def Ah(places:List (Nat×Nat))(zero:List Value)(j:List (Nat×Value))(K:Value->Prop):Prop:=
 ∃cs,Instr.fill (fun i=>places[i]?) zero.toArray j=some cs/\K (.agg cs)
def Bg(e:TypeId)(size len:Nat)(zero:List Value)(j:List (Nat×Value))(K:Cont)(w:World):Prop:=
 ∃cs,Instr.fill (fun i=>some (i*size,size)) ((Array.range (len*size)).map (zero.toArray[· % zero.toArray.size]!)) j=some cs/\
  K (.slice (some ⟨w.heap.size,0,none⟩) len len) (w.alloc (.cells cs e))
def AQ(i:Nat)(x:Value)(K:Value->Prop):Prop:=∃vs v,x=.tuple (List.toArray vs)/\vs[i]?=some v/\K v
def runK(P:Program)(s:Sem Value)(K:Cont)(w:World):Prop:=∃v w',s.run P w=.ok v w'/\K v w'
def AB(P:Program)(g:Nat)(args:List Value)(K:Cont)(w:World):Prop:=
 Calls P g args.toArray w fun e w'=>∃v,e=.returned v/\K v w'
def bO(P:Program)(g:Nat)(args:List Value)(K:Cont)(w:World):Prop:=∃v w',(callFunc g args.toArray).run P w=.ok (.value v) w'/\K v w'
def BM(P:Program)(ok:Nat->Bool)(f:Value)(args:List Value)(K:Cont)(w:World):Prop:=
 ∃g i j,f=.func (.func g) (List.toArray i) (List.toArray j)/\ok g=true/\AB P g (i++args++j) K w
def Ao(R:List Value->World->Prop)(G:(List Value->World->Prop)->Prop):Prop:=∃I:List Value->World->Prop,(∀vs w,I vs w->R vs w)/\G I
def Aq(i:List Value)(F:List Value->(List Value->World->Prop)->World->Prop)(w:World):Prop:=
 ∃(I:List Value->World->Prop) (μ:List Value->World->Nat),I i w/\∀vs w,I vs w->F vs (fun j w'=>I j w'/\μ j w'<μ vs w) w
def Hi(P:Program)(t:TypeId):Option (Bool×Nat):=
 match P.underlying t,P.info? t with
 |some (.struct _),some i=>some (true,i.size)
 |some (.array _ _),some i=>some (true,i.size)
 |some _,some i=>some (false,i.size)
 |_,_=>none
def zeroOf(P:Program)(t:TypeId):Option Value:=match P.info? t with|some i=>i.zero|none=>none
def Oi:Operand->Bool
 |.const (.slice none _ _)=>true
 |_=>false
def Oc:Operand->Bool
 |.const (.pointer none)=>true
 |_=>false
def BX(op:BinOp)(t:TypeId)(xo yo:Operand)(x y:Value):Sem Value:=do eqGuard op t xo yo x y;binOp op t x y
def NL(P:Program)(op:BinOp)(t:TypeId)(yo:Operand)(x y:Value)(K:Value->Prop)(F:Prop):Prop:=
 match P.underlying t with
 |some (.int k)=>match op with
  |.add=>AX k x y K | .sub=>BW k x y K | .mul=>cB k x y K
  |.lss=>Bb k x y K | .leq=>SQ k x y K | .gtr=>Eu k x y K | .geq=>Kk k x y K
  |.eql=>DJ k x y K | .neq=>EB k x y K
  |_=>F
 |some .bool=>match op with
  |.eql=>cy x y K | .neq=>VD x y K
  |_=>F
 |some .string=>match op with
  |.eql=>cN x y K | .neq=>fY x y K
  |_=>F
 |some (.slice _)=>bif Oi yo then match op with
   |.eql=>Hg x fun b=>K (.bool b)
   |.neq=>Hg x fun b=>K (.bool (!b))
   |_=>F
  else F
 |some (.pointer _)=>bif Oc yo then match op with
   |.eql=>CY x fun b=>K (.bool b)
   |.neq=>CY x fun b=>K (.bool (!b))
   |_=>F
  else F
 |_=>F
def placesOf(P:Program)(j:List Field):Option (List (Nat×Nat)):=
 match j with
 |[]=>some []
 |f::r=>match P.info? f.type,placesOf P r with | some i,some l=>some ((f.offset,i.size)::l) | _,_=>none
def FB(P:Program)(ok:Nat->Bool)(o:Oper)(ρ:Operand->Value)(K:Cont)(w:World):Prop:=
 match o.op with
 |.move x=>K (ρ x) w
 |.assign x=>K (ρ x) w
 |.pick c a b=>MC (ρ c) (ρ a) (ρ b) fun v=>K v w
 |.alloc t=>match zeroOf P t with | some z=>Am t z.cells.toList K w | none=>False
 |.box t x=>match Hi P t with | some (false,_)=>GM t (ρ x) K w | some (true,_)=>Bh t (ρ x) K w | none=>False
 |.load t x=>match Hi P t with | some (false,_)=>AL (ρ x) K w | some (true,k)=>Af k (ρ x) K w | none=>False
 |.store t a x=>match Hi P t with
  |some (false,k)=>bif Nat.beq k 1 then BC (ρ a) (ρ x) (fun w=>K undef w) w else False
  |some (true,k)=>Ac k (ρ a) (ρ x) (fun w=>K undef w) w
  |none=>False
 |.nilCheck x=>AJ (ρ x) fun v=>K v w
 |.binOp op t x y _=>NL P op t y (ρ x) (ρ y) (fun v=>K v w) (runK P (BX op t x y (ρ x) (ρ y)) K w)
 |.unOp .not _ x=>CE (ρ x) fun v=>K v w
 |.unOp op _ x=>runK P (Op.unary op (ρ x)) K w
 |.fieldAddr s x f=>match P.underlying s with
  |some (.struct B)=>match B.toList[f]? with
   |some f=>match P.info? f.type with
    |some i=>bif Nat.beq i.size 0 then False else AM f.offset (ρ x) fun v=>K v w
    |none=>False
   |none=>False
  |_=>False
 |.indexAddr t x i=>match P.underlying t with
  |some (.slice e)=>match P.info? e with | some f=>BQ f.size (ρ x) (ρ i) fun v=>K v w | none=>False
  |_=>runK P (Instr.indexAt t (ρ x) (ρ i)) K w
 |.build t j=>match P.underlying t,zeroOf P t with
  |some (.struct B),some z=>match placesOf P B.toList with
   |some l=>Ah l z.cells.toList (j.toList.map fun p=>(p.1,ρ p.2)) fun v=>K v w
   |none=>False
  |_,_=>runK P (Instr.build t (j.toList.map fun p=>(p.1,ρ p.2)).toArray) K w
 |.buildSlice t len j=>match P.underlying t with
  |some (.slice e)=>match P.info? e with
   |some i=>bif Nat.blt 0 (len*i.size)&&Nat.ble (len*i.size) 1000000 then
     match i.zero with|some z=>Bg e i.size len z.cells.toList (j.toList.map fun p=>(p.1,ρ p.2)) K w|none=>False
    else bif Nat.beq (len*i.size) 0 then Bg e i.size len [] (j.toList.map fun p=>(p.1,ρ p.2)) K w else False
   |none=>False
  |_=>False
 |.extract t i=>AQ i (ρ t) fun v=>K v w
 |.makeFunc fn E I=>K (.func fn (E.toList.map ρ).toArray (I.toList.map ρ).toArray) w
 |.convert s d x=>runK P (convert s d (ρ x)) K w
 |.slice t x lo hi J=>runK P (Instr.sliceAt t (ρ x) (lo.map ρ) (hi.map ρ) (J.map ρ)) K w
 |.field t x f=>runK P (Instr.field t (ρ x) f) K w
 |.index t x i=>runK P (Instr.index t (ρ x) (ρ i)) K w
 |.makeMap t r=>runK P (Instr.makeMap t (r.map ρ)) K w
 |.makeSlice t l c=>runK P (Instr.makeSlice t (ρ l) (ρ c)) K w
 |.makeInterface t x=>runK P (Instr.makeInterface t (ρ x)) K w
 |.lookup t x i b=>runK P (Instr.lookup t (ρ x) (ρ i) b) K w
 |.mapUpdate t m k x=>runK P (do Instr.mapUpdate t (ρ m) (ρ k) (ρ x);pure undef) K w
 |.insert t m k x=>runK P (do Instr.mapUpdate t (ρ m) (ρ k) (ρ x);pure undef) K w
 |.mapEntry t m k=>runK P (Instr.mapEntry t (ρ m) (ρ k)) K w
 |.entryStore t m s x=>runK P (do Instr.entryStore t (ρ m) (ρ s) (ρ x);pure undef) K w
 |.range t x=>runK P (Instr.range t (ρ x)) K w
 |.next it s=>runK P (Instr.next (ρ it) s o.type) K w
 |.entry it=>runK P (Instr.entry (ρ it)) K w
 |.typeAssert x O at_ b=>runK P (Instr.typeAssert (ρ x) O at_ b) K w
 |.call c=>match c.callee with
  |.value (.func g)=>bif ok g then AB P g (c.args.toList.map ρ) K w else bO P g (c.args.toList.map ρ) K w
  |.value f=>BM P ok (ρ f) (c.args.toList.map ρ) K w
  |.builtin .len=>match c.argTypes.toList,c.args.toList with
   |[t],[x]=>match P.underlying t with
    |some (.slice _)=>Ae (ρ x) fun v=>K v w
    |some .string=>L6 (ρ x) fun v=>K v w
    |_=>runK P (Builtin.len_ c.argTypes o.type #[ρ x]) K w
   |_,_=>False
  |.builtin .append=>runK P (Builtin.append_ c.argTypes o.type (c.args.toList.map ρ).toArray) K w
  |.builtin .copy=>runK P (Builtin.copy_ c.argTypes o.type (c.args.toList.map ρ).toArray) K w
  |.builtin .cap=>runK P (Builtin.cap_ c.argTypes o.type (c.args.toList.map ρ).toArray) K w
  |.builtin .max=>match P.underlying o.type,c.args.toList with
   |some (.int k),[x,y]=>KM k (ρ x) (ρ y) fun v=>K v w
   |_,_=>runK P (Builtin.max_ c.argTypes o.type (c.args.toList.map ρ).toArray) K w
  |.builtin .min=>match P.underlying o.type,c.args.toList with
   |some (.int k),[x,y]=>K3 k (ρ x) (ρ y) fun v=>K v w
   |_,_=>runK P (Builtin.min_ c.argTypes o.type (c.args.toList.map ρ).toArray) K w
  |.builtin .clear=>runK P (Builtin.clear_ c.argTypes o.type (c.args.toList.map ρ).toArray) K w
  |.builtin .delete=>runK P (Builtin.delete_ c.argTypes o.type (c.args.toList.map ρ).toArray) K w
  |_=>False
 |_=>False
def CP(P:Program)(ok:Nat->Bool):Prop:=∀g,ok g=true->∀args w,(callFunc g args).run P w=.ok (.enter g args) w
section
variable {P:Program}{ok:Nat->Bool}{K:Cont}{w:World}
theorem Ee{t:TypeId}{b:Bool}{k:Nat}(h:Hi P t=some (b,k))(w:World):(isAgg t).run P w=.ok b w/\(sizeOf t).run P w=.ok k w:=by
 unfold Hi at h;unfold isAgg sizeOf underlying typeInfo;simp only[kD,run_program,S3];revert h
 cases hu:P.underlying t with
 |none=>simp
 |some d=>cases hi:P.info? t with
  |none=>cases d<;>simp
  |some i=>cases d<;>simp +contextual [k7]
theorem run_typeInfo{t:TypeId}{i:TypeInfo}(h:P.info? t=some i)(w:World):(typeInfo t).run P w=.ok i w:=by
 simp[typeInfo,h]
theorem run_underlying{t:TypeId}{d:TypeDesc}(h:P.underlying t=some d)(w:World):(underlying t).run P w=.ok d w:=by
 simp[underlying,h]
theorem run_sizeOf{t:TypeId}{i:TypeInfo}(h:P.info? t=some i)(w:World):(sizeOf t).run P w=.ok i.size w:=by
 simp[sizeOf,run_typeInfo h]
theorem EL{t:TypeId}{z:Value}(h:zeroOf P t=some z)(w:World):(zeroValue t).run P w=.ok z w:=by
 unfold zeroOf at h;cases hi:P.info? t with
 |none=>simp[hi] at h
 |some i=>simp only[hi] at h;simp[zeroValue,run_typeInfo hi,h]
theorem SI{t:TypeId}{k:Nat}{x:Value}(ha:Hi P t=some (false,k))(h:AL x K w):runK P (Instr.loadAt t x) K w:=by
 obtain⟨a,v,rfl,hc,i⟩:=h;exact⟨v,w,by simp[Instr.loadAt,Instr.sureAddr,loadVar,(Ee ha w).1,hc],i⟩
theorem Rw{t:TypeId}{k:Nat}{x:Value}(ha:Hi P t=some (true,k))(h:Af k x K w):runK P (Instr.loadAt t x) K w:=by
 obtain⟨a,vs,rfl,hl,hc,j⟩:=h;refine⟨_,w,?_,j⟩;have i:=run_loadCells_list (P:=P) (w:=w) a vs hc;simp only[Instr.loadAt,Instr.sureAddr,loadVar,kD,k7,S3,(Ee ha w).1,(Ee ha w).2,km];rw[<-hl,i];rfl
theorem QT(a:Addr):∀(vs:List Value) (i:Nat) (w:World),(∀v∈vs,v.oneCell'=true)->
  (∀j,i<=j->j<i+vs.length->(w.cell? (a.add j)).isSome=true/\w.frozen? (a.add j)=false)->
  (storeCells a vs i).run P w=.ok () (EW w a i vs):=by
 intro vs;induction vs with
 |nil=>intro i w _ _;simp[storeCells,EW]
 |cons v vs O=>
  intro i w h1 E;have I:=E i (Lc _) (by simp);obtain⟨u,hu⟩:=jV.1 I.1;simp only[storeCells,kD,run_store P w _ v .plain (h1 v (by simp)),hu,I.2,EW];simp only[mM,kZ,S3];refine O (i+1) _ (fun v Q=>h1 v (by simp[Q])) (fun j S o=>?_);have J:=E j (by omega) (by simp at o ⊢;omega);refine⟨?_,by rw[qL];exact J.2⟩;obtain⟨T,B⟩:=jV.1 J.1;by_cases he:a.add i=a.add j
  .rw[<-he,kJ w _ v hu];rfl
  .rw[S4 w _ _ v he,B];rfl
end
section
variable {P:Program}{ok:Nat->Bool}{K:Cont}{w:World}
def dC(P:Program)(s:Sem Unit)(K:World->Prop)(w:World):Prop:=∃w',s.run P w=.ok () w'/\K w'
theorem Yu{t:TypeId}{x v:Value}{K:World->Prop}(ha:Hi P t=some (false,1))(h:BC x v K w):dC P (Instr.storeAt t x v) K w:=by
 obtain⟨a,u,rfl,h1,hc,hu,j,o⟩:=h;refine⟨_,?_,o⟩;have i:v.cells.toList=[v]:=by rw[hc]
 have B:v.cells.size=1:=by rw[hc];rfl
 simp only[Instr.storeAt,Instr.sureAddr,storeVar,kD,k7,S3,(Ee ha w).2,B];simp only[ne_eq,not_true_eq_false,kZ,kD,k7,i,storeCells,run_store P w _ v .plain h1,Addr.add_zero',hu,j];simp
theorem Zt{t:TypeId}{k:Nat}{x v:Value}{K:World->Prop}(ha:Hi P t=some (true,k))(h:Ac k x v K w):dC P (Instr.storeAt t x v) K w:=by
 obtain⟨a,vs,rfl,rfl,hl,h1,hc,i⟩:=h;refine⟨_,?_,i⟩;simp only[Instr.storeAt,Instr.sureAddr,storeVar,kD,k7,S3,(Ee ha w).2,Value.cells,mY,hl];simp only[ne_eq,not_true_eq_false,kZ];exact QT a vs 0 w h1 (fun j _ o=>hc j (by omega))
theorem OO{t:TypeId}(i:v.cells=cs.toArray)(h:Am t cs K w) :
  runK P (do pure (.pointer (some (<- newVar t v)))) K w:=by
 refine⟨_,_,?_,h⟩;simp[newVar,newRow,i]
theorem UA{t:TypeId}{z:Value}(i:zeroOf P t=some z)(h:Am t z.cells.toList K w):runK P (Instr.alloc t true (.tuple #[])) K w:=by
 obtain⟨v,w',h1,j⟩:=OO (P:=P) (v:=z) (by simp) h;refine⟨v,w',?_,j⟩;simp only[Instr.alloc,kD,EL i,S3];simpa using h1
theorem XU{t:TypeId}{x:Value}(h:GM t x K w):runK P (Instr.box t x) K w:=OO (v:=x) (by rw[h.1]) h.2
theorem WB{t:TypeId}{x:Value}(h:Bh t x K w):runK P (Instr.box t x) K w:=by
 obtain⟨vs,rfl,h⟩:=h;exact OO (v:=.agg vs.toArray) rfl h
theorem Us{s:TypeId}{x:Value}{f:Nat}{o:Array Field}{j:Field}{i:TypeInfo}(hu:P.underlying s=some (.struct o))(J:o.toList[f]?=some j)
 (hi:P.info? j.type=some i)(I:Nat.beq i.size 0=false)(h:AM j.offset x fun v=>K v w):runK P (Instr.fieldAt s x f) K w:=by
 obtain⟨a,rfl,O⟩:=h;refine⟨_,w,?_,O⟩;have B:o[f]?=some j:=by rw[<-lJ];exact J
 have E:i.size≠0:=by intro e;rw[e] at I;exact absurd I (by decide)
 simp[Instr.fieldAt,run_underlying hu,B,Instr.sureAddr,fieldPlace,run_sizeOf hi,E]
theorem V4{t e:TypeId}{x i:Value}{f:TypeInfo}(hu:P.underlying t=some (.slice e))(hi:P.info? e=some f)
 (h:BQ f.size x i fun v=>K v w):runK P (Instr.indexAt t x i) K w:=by
 obtain⟨a,n,c,k,j,rfl,rfl,h0,h1,o⟩:=h;refine⟨_,w,?_,o⟩;simp[Instr.indexAt,asIntOf,run_underlying hu,h0,h1,run_sizeOf hi]
theorem Ro:∀(j:List Field) (l:List (Nat×Nat)),placesOf P j=some l->∀w:World,
  (j.mapM (fun f=>Functor.map (Prod.mk f.offset) (sizeOf f.type)):Sem (List (Nat×Nat))).run P w=.ok l w:=by
 intro j;induction j with
 |nil=>intro l h w;simp only[placesOf,i6] at h;subst h;simp
 |cons f r o=>
  intro l h w;simp only[placesOf] at h;cases hi:P.info? f.type with
  |none=>simp[hi] at h
  |some i=>
   cases hr:placesOf P r with
   |none=>simp[hi,hr] at h
   |some B=>
    simp only[hi,hr,i6] at h;subst h;simp[qS,run_sizeOf hi,o B hr]
theorem NW{t:TypeId}{o:Array Field}{z:Value}{l:List (Nat×Nat)}{j:List (Nat×Value)}(hu:P.underlying t=some (.struct o))(E:zeroOf P t=some z)
 (hl:placesOf P o.toList=some l)(h:Ah l z.cells.toList j fun v=>K v w):runK P (Instr.build t j.toArray) K w:=by
 obtain⟨cs,B,I⟩:=h;refine⟨_,w,?_,I⟩;have hm:(o.mapM (fun f=>do pure (f.offset,<-sizeOf f.type)):Sem (Array (Nat×Nat))).run P w=.ok l.toArray w:=by
  rw[pd];have:=Ro o.toList l hl w;simp only[Sem.run_map,bind_pure_comp,this];rfl
 simp only[Instr.build,kD,EL E,S3,run_underlying hu,hm];simp only[np] at B;have J:(fun i:Nat=>l.toArray[i]?)=fun i=>l[i]?:=by funext i;simp
 rw[J,B];rfl
theorem YQ{t e:TypeId}{len:Nat}{i:TypeInfo}{z:Value}{j:List (Nat×Value)}(hu:P.underlying t=some (.slice e))(hi:P.info? e=some i)(E:i.zero=some z)
 (hb:(Nat.blt 0 (len*i.size)&&Nat.ble (len*i.size) 1000000)=true)(h:Bg e i.size len z.cells.toList j K w):runK P (Instr.buildSlice t len j.toArray) K w:=by
 obtain⟨cs,B,I⟩:=h;refine⟨_,_,?_,I⟩;simp only[TC] at hb;have h1:¬len*i.size>2 ^ 24:=by have:=lS hb.2;omega
 have J:¬len*i.size=0:=by have:=lS hb.1;omega
 simp only[Instr.buildSlice,kD,run_underlying hu,run_sizeOf hi,S3,h1,J,kZ,k7];simp only[np] at B;have o:zeroOf P e=some z:=by simp[zeroOf,hi,E]
 simp only[EL o,S3,B];simp[newRow]
theorem V0{t e:TypeId}{len:Nat}{i:TypeInfo}{j:List (Nat×Value)}(hu:P.underlying t=some (.slice e))(hi:P.info? e=some i)
 (hb:Nat.beq (len*i.size) 0=true)(h:Bg e i.size len [] j K w):runK P (Instr.buildSlice t len j.toArray) K w:=by
 obtain⟨cs,o,E⟩:=h;refine⟨_,_,?_,E⟩;have B:len*i.size=0:=ka hb;have h1:¬len*i.size>2 ^ 24:=by omega
 simp only[B] at o;simp only[Instr.buildSlice,kD,run_underlying hu,run_sizeOf hi,S3,h1,kZ];simp only[B,km,kD,k7,S3,o];simp[newRow]
theorem SD{i:Array TypeId}{ty t e:TypeId}{x:Value}(ht:i.toList=[t])(hu:P.underlying t=some (.slice e))(h:Ae x fun v=>K v w):runK P (Builtin.len_ i ty #[x]) K w:=by
 obtain⟨a,n,c,rfl,o⟩:=h;refine⟨_,w,?_,o⟩;have j:i=#[t]:=by rw[<-np (xs:=i),ht]
 subst j;simp[Builtin.len_,run_underlying hu,goInt]
theorem PG{i:Array TypeId}{ty t:TypeId}{x:Value}(ht:i.toList=[t])(hu:P.underlying t=some .string)(h:L6 x fun v=>K v w):runK P (Builtin.len_ i ty #[x]) K w:=by
 obtain⟨s,rfl,o⟩:=h;refine⟨_,w,?_,o⟩;have j:i=#[t]:=by rw[<-np (xs:=i),ht]
 subst j;simp[Builtin.len_,run_underlying hu,goInt]
theorem Sw{x:Value}(h:AQ i x fun v=>K v w):runK P (Instr.extract x i) K w:=by
 obtain⟨vs,v,rfl,j,o⟩:=h;exact⟨v,w,by simp[Instr.extract,j],o⟩
theorem toList_beq(a b:ByteArray):(a.toList==b.toList)=decide (a=b):=by
 by_cases h:a=b
 .subst h;simp
 .have:¬a.toList=b.toList:=by
   intro e;apply h;rw[ByteArray.toList_eq,ByteArray.toList_eq] at e;cases a;cases b;simp at e;simp[e]
  simp[h,this]
theorem Ke(d:Nat){t e:TypeId}(hu:P.underlying t=some (.slice e))(a:Option Addr)(n c i j:Nat)(w:World) :
  (Op.equalIn (d+1) t (.slice a n c) (.slice none i j)).run P w=.ok a.isNone w:=by
 cases a<;>simp[Op.equalIn,run_underlying hu]
theorem KW(d:Nat){t e:TypeId}(hu:P.underlying t=some (.pointer e))(a:Option Addr)(w:World) :
  (Op.equalIn (d+1) t (.pointer a) (.pointer none)).run P w=.ok a.isNone w:=by
 cases a<;>simp[Op.equalIn,run_underlying hu]
theorem H9{t e:TypeId}(hu:P.underlying t=some (.slice e))(a:Option Addr)(n c i j:Nat)(w:World) :
  (Op.equal t (.slice a n c) (.slice none i j)).run P w=.ok a.isNone w:=Ke 9999 hu a n c i j w
theorem Hz{t e:TypeId}(hu:P.underlying t=some (.pointer e))(a:Option Addr)(w:World) :
  (Op.equal t (.pointer a) (.pointer none)).run P w=.ok a.isNone w:=KW 9999 hu a w
theorem Oz{op : BinOp}{t : TypeId}{x y : Value}{F : Prop}(I : ∀v, yo = .const v -> y = v)(h : NL P op t yo x y (fun v => K v w) F)
   (B : F -> runK P (do eqGuard op t xo yo x y; binOp op t x y) K w) : runK P (do eqGuard op t xo yo x y; binOp op t x y) K w := by
  unfold NL at h;cases hu : P.underlying t with
  |none => simp only[hu] at h; exact B h
  |some d =>
    simp only[hu] at h;cases d with
    |int k =>
      cases op<;>simp only at h<;>first
        |exact B h
        | (obtain ⟨a, b, rfl, rfl, i⟩ := h
           refine⟨_, w, ?_, i⟩;simp[eqGuard_at_int, binOp, Op.intArith, Op.intCmp]
           done)
        | (obtain ⟨a, b, rfl, rfl, i⟩ := h
           refine ⟨_, w, ?_, i⟩;simp [eqGuard_at_int, binOp, Op.intCmp];first | done | (by_cases E : a = b <;> simp [E]))
    |bool =>
      cases op<;>simp only at h<;>first
        |exact B h
        | (obtain ⟨a, b, rfl, rfl, i⟩ := h
           refine ⟨_, w, ?_, i⟩;simp [eqGuard_at_bool, run_eql_bool w t a b hu, run_neq_bool w t a b hu])
    |string =>
      cases op<;>simp only at h<;>first
        |exact B h
        | (obtain ⟨a, b, rfl, rfl, i⟩ := h
           refine ⟨_, w, ?_, i⟩;simp [eqGuard_at_string, binOp, Op.stringOp, toList_beq])
    |slice e =>
      cases j : Oi yo with
      |false => simp only[j, kF] at h; exact B h
      |true =>
        simp only[j, kA] at h;have o : ∃n c, y = .slice none n c := by
          unfold Oi at j; split at j
          . exact⟨_, _, I _ rfl⟩
          . cases j
        cases op<;>simp only at h<;>first
          |exact B h
          | (obtain ⟨a, i⟩ := h
             first
               | (obtain ⟨n, c, rfl, i⟩ := i
                  refine⟨_, w, ?_, i⟩;obtain⟨J, O, rfl⟩ := o;simp[eqGuard_at_slice, binOp, H9 hu]
                  done)
               | (obtain ⟨rfl, i⟩ := i
                  refine⟨_, w, ?_, i⟩;subst o;simp[eqGuard_at_slice, binOp, H9 hu]
                  done))
    |pointer e =>
      cases j : Oc yo with
      |false => simp only[j, kF] at h; exact B h
      |true =>
        simp only[j, kA] at h;have o : y = .pointer none := by
          unfold Oc at j; split at j
          . exact I _ rfl
          . cases j
        cases op<;>simp only at h<;>first
          |exact B h
          | (obtain ⟨a, i⟩ := h
             first
               | (obtain ⟨n, c, rfl, i⟩ := i
                  refine⟨_, w, ?_, i⟩;obtain⟨J, O, rfl⟩ := o;simp[eqGuard_at_pointer, binOp, Hz hu]
                  done)
               | (obtain ⟨rfl, i⟩ := i
                  refine⟨_, w, ?_, i⟩;subst o;simp[eqGuard_at_pointer, binOp, Hz hu]
                  done))
    |_ => exact B h
end
section
variable {P:Program}{ok:Nat->Bool}{K:Cont}{w:World}
def Eo(w0:World)(r:Result Next)(K:Cont)(P:Program):Prop:=
 match r with
 |.ok (.value v) w'=>K v w'
 |.ok .skip w'=>K undef w'
 |.ok (.enter f args) w'=>w'=w0/\Calls P f args w0 fun e i=>∃v,e=.returned v/\K v i
 |_=>False
theorem Ow{o:Oper}{a:Act}{next:Act->World->Prop}{Q:Exit->Act->World->Prop}{r:Result Next}
 (h:Eo w r K P)(i:∀v w',K v w'->next (a.put o.dst v) w'):o.upon P a next Q r:=by
 match r,h with
 |.ok (.value v) w',h=>exact i _ _ h
 |.ok .skip w',h=>exact i _ _ h
 |.ok (.enter f args) w',h=>
  obtain⟨rfl,h⟩:=h;exact nH h fun e j ⟨v,he,B⟩=>by subst he;exact i _ _ B
theorem EF{s:Sem Value}(h:runK P s K w):Eo w ((do pure (Next.value (<- s)):Sem Next).run P w) K P:=by
 obtain⟨v,w',h1,i⟩:=h;simp only[kD,h1,S3,k7];exact i
theorem iI{s:Sem Unit}(h:dC P s (fun w=>K undef w) w):Eo w ((do s;pure Next.skip:Sem Next).run P w) K P:=by
 obtain⟨w',h1,i⟩:=h;simp only[kD,h1,S3,k7];exact i
theorem V7{s:Sem Unit}(h:runK P (do s;pure undef) K w):Eo w ((do s;pure Next.skip:Sem Next).run P w) K P:=by
 obtain⟨v,w',h1,i⟩:=h;simp only[kD,k7] at h1 ⊢;revert h1
 cases s.run P w with
 |halt x j=>intro h1;exact absurd h1 (by simp)
 |ok u j=>intro h1;simp at h1;obtain⟨rfl,rfl⟩:=h1;exact i
theorem GI(ρ:Operand->Value)(xs:Array Operand):xs.map ρ=(xs.toList.map ρ).toArray:=by
 apply ot.1;simp
theorem Ko(ρ:Operand->Value)(xs:Array (Nat×Operand)):(xs.map fun(i,x)=>(i,ρ x))=(xs.toList.map fun p=>(p.1,ρ p.2)).toArray:=by
 apply ot.1;simp
theorem Zi(i:CP P ok){g:Nat}(j:ok g=true)(h:AB P g args K w) :
  Eo w ((callFunc g args.toArray).run P w) K P:=by
 rw[i g j];exact⟨rfl,h⟩
set_option maxHeartbeats 1000000 in
theorem JD(a1:CP P ok){o:Oper}{ρ:Operand->Value}(a6:∀v,ρ (.const v)=v)(V:∀f,ρ (.func f)=.func (.func f) #[] #[])(h:FB P ok o ρ K w) :
  Eo w ((execOp ρ o).run P w) K P:=by
 obtain⟨S,op,j,pos,after,guard⟩:=o;cases op with
 |move x=>exact h
 |assign x=>exact h
 |pick c a b=>
  simp only[FB,MC] at h;simp only[execOp];cases hc:ρ c with
  |bool t=>cases t<;>simp only[hc] at h<;>simpa[asBool,Eo] using h
  |_=>simp only[hc] at h
 |alloc t=>
  simp only[FB] at h;split at h
  .rename_i z T;exact EF (UA T h)
  .exact h.elim
 |box t x=>
  simp only[FB] at h;split at h
  .exact EF (XU h)
  .exact EF (WB h)
  .exact h.elim
 |load t x=>
  simp only[FB] at h;split at h
  .rename_i ha;exact EF (SI ha h)
  .rename_i ha;exact EF (Rw ha h)
  .exact h.elim
 |store t a x=>
  simp only[FB] at h;split at h
  .rename_i k ha;cases hk:Nat.beq k 1 with
   |false=>simp only[hk,kF] at h
   |true=>
    simp only[hk,kA] at h;rw[ka hk] at ha;exact iI (Yu ha h)
  .rename_i ha;exact iI (Zt ha h)
  .exact h.elim
 |nilCheck x=>
  simp only[FB] at h;obtain⟨a,h1,O⟩:=h;simp only[execOp,h1];rw[h1] at O;exact O
 |binOp op t x y yt=>
  simp only[FB] at h;exact EF (Oz (xo:=x) (fun v Z=>by rw[Z,a6]) h (fun hF=>hF))
 |unOp op t x=>
  simp only[FB] at h;cases op with
  |plus=>exact EF h
  |not=>
   obtain⟨a,h1,O⟩:=h;exact EF ⟨_,w,by simp[Op.unary,h1],O⟩
  |neg=>exact EF h
  |xor=>exact EF h
 |fieldAddr s x f=>
  simp only[FB] at h;split at h
  .rename_i fs hu;split at h
   .rename_i fd hf;split at h
    .rename_i i hi;cases T:Nat.beq i.size 0 with
     |true=>simp only[T,kA] at h
     |false=>
      simp only[T,kF] at h;exact EF (Us hu hf hi T h)
    .exact h.elim
   .exact h.elim
  .exact h.elim
 |indexAddr t x i=>
  simp only[FB] at h;split at h
  .rename_i e hu;split at h
   .rename_i f hi;exact EF (V4 hu hi h)
   .exact h.elim
  .exact EF h
 |build t B=>
  simp only[FB] at h;have e1:(execOp ρ ⟨S,.build t B,j,pos,after,guard⟩)=(do pure (Next.value (<- Instr.build t (B.toList.map fun p=>(p.1,ρ p.2)).toArray)):Sem Next):=by
   simp only[execOp];rw[Ko]
  rw[e1];split at h
  .rename_i fs z hu T;split at h
   .rename_i l hl;exact EF (NW hu T hl h)
   .exact h.elim
  .exact EF h
 |buildSlice t len B=>
  simp only[FB] at h;have e1:(execOp ρ ⟨S,.buildSlice t len B,j,pos,after,guard⟩)=(do pure (Next.value (<- Instr.buildSlice t len (B.toList.map fun p=>(p.1,ρ p.2)).toArray)):Sem Next):=by
   simp only[execOp];rw[Ko]
  rw[e1];split at h
  .rename_i e hu;split at h
   .rename_i i hi;cases hb:(Nat.blt 0 (len*i.size)&&Nat.ble (len*i.size) 1000000) with
    |true=>
     simp only[hb,kA] at h;split at h
     .rename_i z T;exact EF (YQ hu hi T hb h)
     .exact h.elim
    |false=>
     simp only[hb,kF] at h;cases X:Nat.beq (len*i.size) 0 with
     |true=>simp only[X,kA] at h;exact EF (V0 hu hi X h)
     |false=>simp only[X,kF] at h
   .exact h.elim
  .exact h.elim
 |extract t i=>exact EF (Sw h)
 |makeFunc fn E I=>
  simp only[FB] at h;simp only[execOp,Instr.makeFunc,GI];exact h
 |convert s d x=>exact EF h
 |slice t x lo hi mx=>exact EF h
 |field t x f=>exact EF h
 |index t x i=>exact EF h
 |makeMap t r=>exact EF h
 |makeSlice t l c=>exact EF h
 |makeInterface t x=>exact EF h
 |lookup t x i b=>exact EF h
 |mapUpdate t m k x=>exact V7 h
 |insert t m k x=>exact V7 h
 |mapEntry t m k=>exact EF h
 |entryStore t m s x=>exact V7 h
 |range t x=>exact EF h
 |next it s=>exact EF h
 |entry it=>exact EF h
 |typeAssert x xt at_ b=>exact EF h
 |call c=>
  obtain⟨J,args,Q⟩:=c;have hb:∀(b:Builtin) (s:Array Value->Sem Value),J=.builtin b->(∀cs xs,builtin b Q j cs xs=(do pure (Next.value (<- s xs))))->
    runK P (s (args.toList.map ρ).toArray) K w->Eo w ((execOp ρ ⟨S,.call ⟨J,args,Q⟩,j,pos,after,guard⟩).run P w) K P:=by
   intro b s hc hs hr;subst hc;simp only[execOp,resolve,pure_bind,invoke,hs,GI];exact EF hr
  cases J with
  |value f=>
   have Z:∀g E I,ρ f=.func (.func g) (List.toArray E) (List.toArray I)->ok g=true->AB P g (E++args.toList.map ρ++I) K w->
     Eo w ((execOp ρ ⟨S,.call ⟨.value f,args,Q⟩,j,pos,after,guard⟩).run P w) K P:=by
    intro g E I hf hg hc;simp only[execOp,resolve,hf,Deferred.ofValue,pure_bind,invoke,GI];have:=Zi a1 hg hc;simpa using this
   cases f with
   |func g=>
    simp only[FB] at h;cases hg:ok g with
    |false=>
     simp only[hg,kF] at h;obtain⟨v,w',h1,O⟩:=h;have e1:(execOp ρ ⟨S,.call ⟨.value (.func g),args,Q⟩,j,pos,after,guard⟩)=callFunc g (args.toList.map ρ).toArray:=by
      simp[execOp,resolve,V,Deferred.ofValue,invoke,GI]
     rw[e1,h1];exact O
    |true=>
     simp only[hg,kA] at h;exact Z g [] [] (V g) hg (by simpa using h)
   |tmp t=>obtain⟨g,E,I,h1,O,U⟩:=h;exact Z g E I h1 O U
   |const v=>obtain⟨g,E,I,h1,O,U⟩:=h;exact Z g E I h1 O U
   |global g=>obtain⟨g,E,I,h1,O,U⟩:=h;exact Z g E I h1 O U
  |invoke r m=>exact h.elim
  |builtin b=>
   cases b<;>first
    |exact h.elim
    |exact hb _ _ rfl (fun _ xs=>rfl) h
    |skip
   case max=>
    simp only[FB] at h;split at h
    .rename_i k x y hk hx;obtain⟨p,q,h1,O,U⟩:=h;refine hb .max _ rfl (fun _ xs=>rfl) ⟨_,w,?_,U⟩;rw[hx];simp only[kL,lM,h1,O];exact run_max_int2 w Q j k k p q
    .exact hb .max _ rfl (fun _ xs=>rfl) h
   case min=>
    simp only[FB] at h;split at h
    .rename_i k x y hk hx;obtain⟨p,q,h1,O,U⟩:=h;refine hb .min _ rfl (fun _ xs=>rfl) ⟨_,w,?_,U⟩;rw[hx];simp only[kL,lM,h1,O];exact run_min_int2 w Q j k k p q
    .exact hb .min _ rfl (fun _ xs=>rfl) h
   simp only[FB] at h;split at h
   .rename_i t x ht hx;have Y:(args.toList.map ρ).toArray=#[ρ x]:=by rw[hx];rfl
    refine hb .len _ rfl (fun _ xs=>rfl) ?_;rw[Y];split at h
    .rename_i hu;exact SD ht hu h
    .rename_i hu;exact PG ht hu h
    .exact h
   .exact h.elim
 |_=>exact h.elim
def HO(P:Program)(op:BinOp)(t:TypeId)(yo:Operand):Bool:=
 match P.underlying t with
 |some (.int _)=>match op with | .add | .sub | .mul | .lss | .leq | .gtr | .geq | .eql | .neq=>true | _=>false
 |some .bool=>match op with | .eql | .neq=>true | _=>false
 |some .string=>match op with | .eql | .neq=>true | _=>false
 |some (.slice _)=>Oi yo&&(match op with | .eql | .neq=>true | _=>false)
 |some (.pointer _)=>Oc yo&&(match op with | .eql | .neq=>true | _=>false)
 |_=>false
def CV(P:Program)(o:Oper):Bool:=
 match o.op with
 |.move _=>true | .assign _=>true | .pick _ _ _=>true | .nilCheck _=>true | .extract _ _=>true
 |.fieldAddr _ _ _=>true
 |.unOp .not _ _=>true
 |.binOp op t _ y _=>HO P op t y
 |.indexAddr t _ _=>match P.underlying t with | some (.slice _)=>true | _=>false
 |.build t _=>match P.underlying t,zeroOf P t with | some (.struct _),some _=>true | _,_=>false
 |.call c=>match c.callee with
  |.builtin .len=>match c.argTypes.toList,c.args.toList with
   |[t],[_]=>match P.underlying t with | some (.slice _)=>true | some .string=>true | _=>false
   |_,_=>false
  |.builtin .max=>match P.underlying o.type,c.args.toList with | some (.int _),[_,_]=>true | _,_=>false
  |.builtin .min=>match P.underlying o.type,c.args.toList with | some (.int _),[_,_]=>true | _,_=>false
  |_=>false
 |_=>false
theorem Ge{op:BinOp}{t:TypeId}{x y:Value}{K:Value->Prop}{F:Prop}(hp:HO P op t yo=true)(h:NL P op t yo x y K F) :
  ∃v,K v/\∀(o:Value->Prop) (F':Prop),o v->NL P op t yo x y o F':=by
 unfold HO at hp;unfold NL at h;simp only[NL];cases hu:P.underlying t with
 |none=>simp[hu] at hp
 |some d=>
  simp only[hu] at hp h;cases d with
  |int k=>cases op<;>simp only at hp h ⊢<;>first
    |(cases hp;done)
    |(obtain⟨a,b,h1,B,j⟩:=h;exact⟨_,j,fun o _ hk=>⟨a,b,h1,B,hk⟩⟩)
  |bool=>cases op<;>simp only at hp h ⊢<;>first
    |(cases hp;done)
    |(obtain⟨a,b,h1,B,j⟩:=h;exact⟨_,j,fun o _ hk=>⟨a,b,h1,B,hk⟩⟩)
  |string=>cases op<;>simp only at hp h ⊢<;>first
    |(cases hp;done)
    |(obtain⟨a,b,h1,B,j⟩:=h;exact⟨_,j,fun o _ hk=>⟨a,b,h1,B,hk⟩⟩)
  |slice e=>
   simp only[TC] at hp;simp only[hp.1,kA] at h ⊢;have i:=hp.2;cases op<;>simp only at i h ⊢<;>first
    |(cases i;done)
    |(obtain⟨a,n,c,h1,j⟩:=h;exact⟨_,j,fun o _ hk=>⟨a,n,c,h1,hk⟩⟩)
  |pointer e=>
   simp only[TC] at hp;simp only[hp.1,kA] at h ⊢;have i:=hp.2;cases op<;>simp only at i h ⊢<;>first
    |(cases i;done)
    |(obtain⟨a,h1,j⟩:=h;exact⟨_,j,fun o _ hk=>⟨a,h1,hk⟩⟩)
  |_=>simp at hp
theorem PR{o:Oper}{ρ:Operand->Value}(hp:CV P o=true)(h:FB P ok o ρ K w):∃v,K v w/\∀(Q:Cont) (w':World),Q v w'->FB P ok o ρ Q w':=by
 obtain⟨U,op,T,pos,after,guard⟩:=o;cases op with
 |move x=>exact⟨_,h,fun _ _ hk=>hk⟩
 |assign x=>exact⟨_,h,fun _ _ hk=>hk⟩
 |pick c a b=>
  simp only[FB,MC] at h ⊢;cases hc:ρ c with
  |bool t=>cases t<;>simp only[hc] at h ⊢<;>exact⟨_,h,fun _ _ hk=>hk⟩
  |_=>simp only[hc] at h
 |nilCheck x=>obtain⟨a,h1,B⟩:=h;exact⟨_,B,fun _ _ hk=>⟨a,h1,hk⟩⟩
 |extract t i=>obtain⟨vs,v,h1,B,I⟩:=h;exact⟨_,I,fun _ _ hk=>⟨vs,v,h1,B,hk⟩⟩
 |unOp op t x=>
  cases op with
  |not=>obtain⟨a,h1,B⟩:=h;exact⟨_,B,fun _ _ hk=>⟨a,h1,hk⟩⟩
  |_=>simp[CV] at hp
 |binOp op t x y yt=>
  simp only[CV] at hp;obtain⟨v,h1,B⟩:=Ge hp h;exact⟨v,h1,fun Q w' hk=>B _ _ hk⟩
 |fieldAddr s x f=>
  simp only[FB] at h ⊢;split at h
  .split at h
   .split at h
    .rename_i i _;cases J:Nat.beq i.size 0 with
     |true=>simp only[J,kA] at h
     |false=>
      simp only[J,kF] at h ⊢;obtain⟨a,h1,B⟩:=h;exact⟨_,B,fun _ _ hk=>⟨a,h1,hk⟩⟩
    .exact h.elim
   .exact h.elim
  .exact h.elim
 |indexAddr t x i=>
  simp only[FB,CV] at hp h ⊢;cases hu:P.underlying t with
  |none=>simp[hu] at hp
  |some d=>
   simp only[hu] at hp h ⊢;cases d with
   |slice e=>
    simp only at h ⊢;cases hi:P.info? e with
    |none=>simp[hi] at h
    |some f=>
     simp only[hi] at h ⊢;obtain⟨a,n,c,k,j,h1,B,I,V,X⟩:=h;exact⟨_,X,fun _ _ hk=>⟨a,n,c,k,j,h1,B,I,V,hk⟩⟩
   |_=>simp at hp
 |build t S=>
  simp only[FB,CV] at hp h ⊢;cases hu:P.underlying t with
  |none=>simp[hu] at hp
  |some d=>
   cases J:zeroOf P t with
   |none=>simp[hu,J] at hp
   |some z=>
    simp only[hu,J] at hp h ⊢;cases d with
    |struct Y=>
     simp only at h ⊢;cases hl:placesOf P Y.toList with
     |none=>simp[hl] at h
     |some l=>
      simp only[hl] at h ⊢;obtain⟨cs,h1,B⟩:=h;exact⟨_,B,fun _ _ hk=>⟨cs,h1,hk⟩⟩
    |_=>simp at hp
 |call c=>
  obtain⟨E,args,Z⟩:=c;cases E with
  |builtin b=>
   cases b<;>simp only[CV,FB] at hp h ⊢<;>try (cases hp;done)
   .split at hp
    .rename_i t x ht O;simp only[ht,O] at h ⊢;split at hp
     .rename_i e hu;simp only[hu] at h ⊢;obtain⟨a,n,c,h1,B⟩:=h;exact⟨_,B,fun _ _ hk=>⟨a,n,c,h1,hk⟩⟩
     .rename_i hu;simp only[hu] at h ⊢;obtain⟨s,h1,B⟩:=h;exact⟨_,B,fun _ _ hk=>⟨s,h1,hk⟩⟩
     .cases hp
    .cases hp
   .split at hp
    .rename_i k x y hk O;simp only[hk,O] at h ⊢;obtain⟨a,b,h1,B,I⟩:=h;exact⟨_,I,fun _ _ hk=>⟨a,b,h1,B,hk⟩⟩
    .cases hp
   .split at hp
    .rename_i k x y hk O;simp only[hk,O] at h ⊢;obtain⟨a,b,h1,B,I⟩:=h;exact⟨_,I,fun _ _ hk=>⟨a,b,h1,B,hk⟩⟩
    .cases hp
  |_=>simp[CV] at hp
 |_=>simp[CV] at hp
end
structure Mod (M:Nat->Prop) (w w':World):Prop where
 os:w'.os=w.os
 tape:w'.tape=w.tape
 output:w'.output=w.output
 size:w.heap.size<=w'.heap.size
 same:∀b,b<w.heap.size->¬M b->w'.heap[b]?=w.heap[b]?
theorem Mod.refl(M:Nat->Prop)(w:World):Mod M w w:=⟨rfl,rfl,rfl,Lc _,fun _ _ _=>rfl⟩
theorem Mod.trans{M:Nat->Prop}{a b c:World}(h:Mod M a b)(k:Mod M b c):Mod M a c:=
 ⟨k.os.trans h.os,k.tape.trans h.tape,k.output.trans h.output,k8 h.size k.size,fun i hi hm=>(k.same i (WL hi h.size) hm).trans (h.same i hi hm)⟩
theorem Mod.mono{M i:Nat->Prop}{w w':World}(h:Mod M w w')(hm:∀b,b<w.heap.size->M b->i b):Mod i w w':=⟨h.os,h.tape,h.output,h.size,fun b hb j=>h.same b hb fun o=>j (hm b hb o)⟩
def CM(l:List Nat)(i:Nat):Bool:=l.any fun x=>Nat.beq x i
def Be:List (List Nat)->Nat->List Nat
 |[],_=>[]
 |a::_,0=>a
 |_::r,i+1=>Be r i
theorem Aa{l:List Nat}:CM l i=true↔i∈l:=by
 simp only[CM,ny];constructor
 .rintro⟨x,j,hb⟩;rw[<-ka hb];exact j
 .intro h;exact⟨i,h,by simp⟩
section
variable (P:Program)(ok:Nat->Bool)(n:Nat)
theorem pure_run{P:Program}{ok:Nat->Bool}{o:Oper}{ρ:Operand->Value}{K:Cont}(a1:∀v,ρ (.const v)=v)(hp:CV P o=true)(h:FB P ok o ρ K w):∃v,K v w/\∀w',(execOp ρ o).run P w'=.ok (.value v) w':=by
 obtain⟨v,h1,h2⟩:=PR hp h;refine⟨v,h1,fun w'=>?_⟩;obtain⟨V,a6,E⟩:∃V:Cont,V v w'/\∀v' I,V v' I->v'=v/\I=w':=⟨fun v' I=>v'=v/\I=w',⟨rfl,rfl⟩,fun _ _ h=>h⟩;have j:=h2 V w' a6;have fin:∀s:Sem Value,runK P s V w'->(do pure (Next.value (<- s)):Sem Next).run P w'=.ok (.value v) w':=by
  rintro s ⟨v',I,r1,r2⟩;obtain⟨rfl,rfl⟩:=E _ _ r2;simp[r1]
 clear h h1 h2;obtain⟨Y,op,B,pos,after,guard⟩:=o;cases op with
 |move x=>have T:=(E _ _ j).1;simp[execOp,T]
 |assign x=>have T:=(E _ _ j).1;simp[execOp,T]
 |pick c a b=>
  simp only[FB,MC] at j;cases hc:ρ c with
  |bool t=>cases t<;>simp only[hc] at j<;>simp[execOp,asBool,hc,(E _ _ j).1]
  |_=>simp only[hc] at j
 |nilCheck x=>obtain⟨a,T,h5⟩:=j;have h6:=(E _ _ h5).1;rw[T] at h6;subst h6;simp[execOp,T]
 |extract t i=>exact fin _ (Sw j)
 |unOp op t x=>
  cases op with
  |not=>obtain⟨a,T,h5⟩:=j;have h6:=(E _ _ h5).1;simp[execOp,Op.unary,T,<-h6]
  |_=>simp[CV] at hp
 |binOp op t x y yt=>
  simp only[CV] at hp;have:NL P op t y (ρ x) (ρ y) (fun v'=>V v' w') False:=by
   simp only[FB] at j;obtain⟨u,Z,g2⟩:=Ge hp j;exact g2 _ _ Z
  exact fin _ (Oz (xo:=x) (fun v hv=>by rw[hv,a1]) this (fun hF=>hF.elim))
 |fieldAddr s x f=>
  simp only[FB] at j;split at j
  .rename_i fs hu;split at j
   .rename_i fd hf;split at j
    .rename_i i hi;cases X:Nat.beq i.size 0 with
     |true=>simp only[X,kA] at j
     |false=>simp only[X,kF] at j;exact fin _ (Us hu hf hi X j)
    .exact j.elim
   .exact j.elim
  .exact j.elim
 |indexAddr t x i=>
  simp only[FB,CV] at hp j;cases hu:P.underlying t with
  |none=>simp[hu] at hp
  |some d=>
   simp only[hu] at hp j;cases d with
   |slice e=>
    simp only at j;cases hi:P.info? e with
    |none=>simp[hi] at j
    |some f=>simp only[hi] at j;exact fin _ (V4 hu hi j)
   |_=>simp at hp
 |build t J=>
  have e1:(execOp ρ ⟨Y,.build t J,B,pos,after,guard⟩)=(do pure (Next.value (<- Instr.build t (J.toList.map fun p=>(p.1,ρ p.2)).toArray)):Sem Next):=by
   simp only[execOp];rw[Ko]
  rw[e1];simp only[FB,CV] at hp j;cases hu:P.underlying t with
  |none=>simp[hu] at hp
  |some d=>
   cases X:zeroOf P t with
   |none=>simp[hu,X] at hp
   |some z=>
    simp only[hu,X] at hp j;cases d with
    |struct fs=>
     simp only at j;cases hl:placesOf P fs.toList with
     |none=>simp[hl] at j
     |some l=>simp only[hl] at j;exact fin _ (NW hu X hl j)
    |_=>simp at hp
 |call c=>
  obtain⟨Q,args,S⟩:=c;cases Q with
  |builtin b=>
   have hb:∀(s:Array Value->Sem Value),(∀cs xs,builtin b S B cs xs=(do pure (Next.value (<- s xs))))->runK P (s (args.toList.map ρ).toArray) V w'->
     (execOp ρ ⟨Y,.call ⟨.builtin b,args,S⟩,B,pos,after,guard⟩).run P w'=.ok (.value v) w':=by
    intro s hs hr;simp only[execOp,resolve,pure_bind,invoke,hs,GI];exact fin _ hr
   cases b<;>simp only[CV,FB] at hp j<;>try (cases hp;done)
   .split at hp
    .rename_i t x ht U;have O:(args.toList.map ρ).toArray=#[ρ x]:=by rw[U];rfl
     simp only[ht,U] at j;split at hp
     .rename_i e hu;simp only[hu] at j;exact hb _ (fun _ _=>rfl) (by rw[O];exact SD ht hu j)
     .rename_i hu;simp only[hu] at j;exact hb _ (fun _ _=>rfl) (by rw[O];exact PG ht hu j)
     .cases hp
    .cases hp
   .split at hp
    .rename_i k x y hk U;simp only[hk,U] at j;obtain⟨p,q,Z,g2,g3⟩:=j;refine hb _ (fun _ _=>rfl) ⟨_,w',?_,g3⟩;rw[U];simp only[kL,lM,Z,g2];exact run_max_int2 w' S B k k p q
    .cases hp
   .split at hp
    .rename_i k x y hk U;simp only[hk,U] at j;obtain⟨p,q,Z,g2,g3⟩:=j;refine hb _ (fun _ _=>rfl) ⟨_,w',?_,g3⟩;rw[U];simp only[kL,lM,Z,g2];exact run_min_int2 w' S B k k p q
    .cases hp
  |_=>simp[CV] at hp
 |_=>simp[CV] at hp
def BF(i:Addr->Value->Prop)(x:Value)(k:Value->Prop):Prop:=∃a v,x=.pointer (some a)/\i a v/\k v
def EM(i:Addr->Value->Prop)(m:Nat)(x:Value)(k:Value->Prop):Prop:=∃a vs,x=.pointer (some a)/\List.length vs=m/\(∀j v,vs[j]?=some v->i (a.add j) v)/\k (.agg vs.toArray)
def iO(P:Program)(s:Sem Value)(k:Value->Prop):Prop:=∃v,(∀w,s.run P w=.ok v w)/\k v
def Cz:List (Nat×Option Bool)->Nat->Option (Option Bool)
 |[],_=>none
 |(i,b)::r,j=>bif Nat.beq i j then some b else Cz r j
def CJ:List Oper->Nat->Option Nat
 |[],_=>none
 |o::_,0=>o.dst
 |_::r,j+1=>CJ r j
def Lt(a b:Bool):Bool:=match a,b with|true,true=>true|false,false=>true|_,_=>false
def Jv(AS:List Nat)(A:Nat->Value->World->Prop)(j:Addr->Value->Prop)(w:World)(o:Oper)(i:Nat)(ρ:Operand->Value)(k:Value->Prop):Prop:=
 bif CM AS i then ∀v,A i v w->k v
 else match o.op with
  |.load t x=>match Hi P t with | some (false,_)=>BF j (ρ x) k | some (true,m)=>EM j m (ρ x) k | none=>False
  |.binOp op t x y _=>bif HO P op t y then NL P op t y (ρ x) (ρ y) k False else iO P (BX op t x y (ρ x) (ρ y)) k
  |_=>bif CV P o then FB P ok o ρ (fun v _=>k v) w else False
def Dw(all:List Oper)(AS:List Nat)(A:Nat->Value->World->Prop)(E:Nat->Addr->Value->Prop)(w:World)(B:Nat->Bool)(K:List (Nat×Option Bool)->Env->Prop) :
  List Oper->Nat->List (Nat×Option Bool)->Env->Prop
 |[],_,kn,e=>K kn e
 |o::r,i,kn,e=>
  bif B i then
   match o.guard with
   |none=>Jv P ok AS A (E i) w o i (ev e) fun v=>Dw all AS A E w B K r (i+1) kn (BN n e o.dst v)
   |some (j,I)=>match Cz kn j with
    |some (some b)=>bif Lt b I then Jv P ok AS A (E i) w o i (ev e) fun v=>Dw all AS A E w B K r (i+1) kn (BN n e o.dst v)
      else Dw all AS A E w B K r (i+1) ((i,none)::kn) (BN n e o.dst undef)
    |some none=>Dw all AS A E w B K r (i+1) ((i,none)::kn) (BN n e o.dst undef)
    |none=>match CJ all j with
     |some d=>AD (e d)
       (bif I then Jv P ok AS A (E i) w o i (ev (Eg n e d (.bool true))) fun v=>Dw all AS A E w B K r (i+1) ((j,some true) :: kn) (BN n (Eg n e d (.bool true)) o.dst v)
        else Dw all AS A E w B K r (i+1) ((i,none) :: (j,some true) :: kn) (BN n (Eg n e d (.bool true)) o.dst undef))
       (bif I then Dw all AS A E w B K r (i+1) ((i,none) :: (j,some false) :: kn) (BN n (Eg n e d (.bool false)) o.dst undef)
        else Jv P ok AS A (E i) w o i (ev (Eg n e d (.bool false))) fun v=>Dw all AS A E w B K r (i+1) ((j,some false) :: kn) (BN n (Eg n e d (.bool false)) o.dst v))
     |none=>False
  else Dw all AS A E w B K r (i+1) kn e
def Ww(all:List Oper)(A:Nat->Value->World->Prop)(M:Nat->Nat->Prop)(w:World)(k:Nat)(o:Oper)(kn:List (Nat×Option Bool))(e:Nat->Value):Prop:=
 match o.guard with
 |none=>FB P ok o (ev e) (fun v w'=>Mod (M k) w w'/\A k v w') w
 |some (j,i)=>match Cz kn j with
  |some (some b)=>bif Lt b i then FB P ok o (ev e) (fun v w'=>Mod (M k) w w'/\A k v w') w else True
  |some none=>True
  |none=>match CJ all j with
   |some d=>AD (e d)
     (bif i then FB P ok o (ev (Eg n e d (.bool true))) (fun v w'=>Mod (M k) w w'/\A k v w') w else True)
     (bif i then True else FB P ok o (ev (Eg n e d (.bool false))) (fun v w'=>Mod (M k) w w'/\A k v w') w)
   |none=>False
def DL(AS a:List Nat):List Nat:=a.filter (CM AS)
def GW(AS:List Nat)(AN:List (List Nat))(E:List Nat)(i:Nat):Bool:=bif CM AS i then CM E i else(Be AN i).all fun j=>bif CM AS j then CM E j else true
end
def FJ(d:Option Nat)(kn:List (Nat×Option Bool))(all:List Oper):Bool:=
 match d with
 |none=>false
 |some t=>kn.any fun p=>match CJ all p.1 with | some u=>Nat.beq u t | none=>false
section
variable {P:Program}{ok:Nat->Bool}{n:Nat}
def bv(v:Value):Option Bool:=match v with|.bool b=>some b|_=>none
def yv(all:List Oper)(e:Env)(j:Nat):Option Bool:=match CJ all j with|some d=>bv (e d)|none=>none
theorem CH:∀(l:List Oper) (j:Nat),CJ l j=(l[j]?).bind (·.dst):=by
 intro l;induction l with
 |nil=>intro j;simp[CJ]
 |cons o r i=>intro j;cases j<;>simp[CJ,i]
theorem GC{ds:List Deferred}{e:Env}{a:Act}(B:Fr ds n e a){ops:Array Oper}:yielded ops a.tmps j=yv ops.toList e j:=by
 simp only[yielded,yv,CH,lJ];cases h:(ops[j]?).bind (·.dst) with
 |none=>rfl
 |some d=>
  have i:=B.get d;rw[ky] at i;simp only[ou];cases o:a.tmps[d]? with
  |none=>rw[o] at i;simp only[Option.getD_none] at i;rw[<-i];rfl
  |some v=>rw[o] at i;simp only[nz] at i;rw[<-i];cases v<;>rfl
def Dk(all:List Oper)(kn:List (Nat×Option Bool))(e:Env):Prop:=∀j b,Cz kn j=some b->yv all e j=b
theorem Cq{e:Env}{d:Nat}(h:e d=v):Eg n e d v=e:=by
 funext j
 simp only[Eg];cases hb:(Nat.beq j d&&Nat.blt d n) with
 |false=>rfl
 |true=>
  simp only[TC] at hb;have:=ka hb.1;subst this;simp[h]
theorem HZ{e:Env}{d:Option Nat}(h:d≠some j):BN n e d v j=e j:=by
 cases d with
 |none=>rfl
 |some i=>
  have:Nat.beq j i=false:=by
   cases hb:Nat.beq j i with
   |false=>rfl
   |true=>exact absurd (by rw[ka hb]) h
  simp[BN,Eg,this]
theorem Sz{kn:List (Nat×Option Bool)}{b:Option Bool}(h:Cz kn j=some b):(j,b)∈kn:=by
 induction kn with
 |nil=>simp[Cz] at h
 |cons p r o=>
  obtain⟨i,c⟩:=p;simp only[Cz] at h;cases hb:Nat.beq i j with
  |true=>rw[hb] at h;simp only[kA,i6] at h;have:=ka hb;subst this;subst h;simp
  |false=>rw[hb] at h;simp only[kF] at h;exact fX _ (o h)
theorem Dk.put{all:List Oper}{kn:List (Nat×Option Bool)}{e:Env}(h:Dk all kn e){d:Option Nat}(hc:FJ d kn all=false)(v:Value):Dk all kn (BN n e d v):=by
 intro j b hl;have h1:=h j b hl;have o:=Sz hl;unfold yv at h1 ⊢;cases i:CJ all j with
 |none=>rw[i] at h1;exact h1
 |some u=>
  rw[i] at h1;rw[<-h1];show bv (BN n e d v u)=bv (e u);rw[HZ];intro B;subst B;simp only[FJ,pj] at hc;have:=hc _ o;simp[i] at this
theorem Dk.cons{all:List Oper}{kn:List (Nat×Option Bool)}{e:Env}(h:Dk all kn e){b:Option Bool}(hb:yv all e i=b):Dk all ((i,b)::kn) e:=by
 intro j c hl;simp only[Cz] at hl;cases o:Nat.beq i j with
 |true=>rw[o] at hl;simp only[kA,i6] at hl;have:=ka o;subst this;subst hl;exact hb
 |false=>rw[o] at hl;simp only[kF] at hl;exact h j c hl
theorem EU{A B:Prop}(h:AD v A B):(v=.bool true/\A)\/(v=.bool false/\B):=by
 unfold AD at h;split at h
 .exact .inl ⟨rfl,h⟩
 .exact .inr ⟨rfl,h⟩
 .exact h.elim
theorem HD{a b:Bool}:Lt a b=(a==b):=by cases a<;>cases b<;>rfl
end
def Jh(o:Oper):List Nat:=o.op.operands.toList.filterMap fun x=>match x with|.tmp t=>some t|_=>none
def slotsOf(all:List Oper)(o:Oper):List Nat:=(match o.guard with|some (g,_)=>(match CJ all g with|some d=>[d]|none=>[])|none=>[])++Jh o
def MG(d:Option Nat)(t:Nat):Bool:=match d with|some x=>Nat.beq x t|none=>false
structure L3 (n:Nat) (all:List Oper) (AS:List Nat) (AN:List (List Nat)) (Gs:List (List Nat)):Prop where
 Ju:∀(i:Nat) o,all[i]?=some o->∀cs b,o.op≠.select cs b
 back:∀(i:Nat) o,all[i]?=some o->∀e∈o.after,Region.binds .any e=true->e.on<i
 iT:∀(i:Nat) o,all[i]?=some o->∀j∈Be AN i,∃e∈o.after,Region.binds .any e=true/\(e.on=j\/j∈Be AN e.on)
 trans:∀i,∀j∈Be AN i,∀m∈Be AN j,m∈Be AN i
 reads:∀(i:Nat) o,all[i]?=some o->∀t∈slotsOf all o,∀(m:Nat) o',all[m]?=some o'->o'.dst=some t->m≠i->m∈Be AN i\/i∈Be AN m
 guard:∀(i:Nat) o,all[i]?=some o->∀g b,o.guard=some (g,b)->g∈Be AN i/\∃d,CJ all g=some d
 one:∀(i j:Nat) o o',all[i]?=some o->all[j]?=some o'->∀d,o.dst=some d->o'.dst=some d->i=j
 Wm:∀(i:Nat),i<all.length->i∉AS->(∀j∈Be AN i,j∉AS)\/(∀j∈AS,j∈Be AN i)\/∃E∈Gs,∀j∈AS,(j∈Be AN i↔j∈E)
 first:∃k∈AS,k<all.length/\∀j∈Be AN k,j∉AS
 Sm:∀k∈AS,k<all.length
 bound:∀(i:Nat) o,all[i]?=some o->∀d,o.dst=some d->d<n
section
variable {P:Program}{ok:Nat->Bool}{n:Nat}{all:List Oper}{AS:List Nat}{AN:List (List Nat)}{Gs:List (List Nat)}
theorem L3.lt(h:L3 n all AS AN Gs)(hi:i<all.length)(B:j∈Be AN i):j<i:=by
 induction i using Nat.strongRecOn generalizing j with
 |_ i E=>
  obtain⟨e,he,hb,h1⟩:=h.iT i all[i] (by simp[hi]) j B;have o:=h.back i all[i] (by simp[hi]) e he hb;rcases h1 with rfl|h1
  .exact o
  .exact Nat.lt_trans (E _ o (by omega) h1) o
noncomputable def BU(all:List Oper)(n:Nat)(e0:Env)(vals:Nat->Value)(S:Nat->Prop):Env:=fun t=>
 open Classical in if h:∃m,S m/\m<all.length/\CJ all m=some t then(if t<n then vals h.choose else e0 t) else e0 t
theorem N7(h:L3 n all AS AN Gs){e0:Env}{vals:Nat->Value}{m t:Nat}(hm:S m)(hl:m<all.length)(j:CJ all m=some t)(ht:t<n):BU all n e0 vals S t=vals m:=by
 have i:∃m,S m/\m<all.length/\CJ all m=some t:=⟨m,hm,hl,j⟩;unfold BU;rw[qj i,Io ht];have h1:=i.choose_spec;congr 1
 have o:all[i.choose]?=some all[i.choose]:=by simp[h1.2.1]
 have B:all[m]?=some all[m]:=by simp[hl]
 have E:=h1.2.2;rw[CH,o] at E;rw[CH,B] at j;exact h.one _ _ _ _ o B t E j
theorem Cb{e0:Env}{vals:Nat->Value}{t:Nat}(i:∀m,S m->m<all.length->CJ all m≠some t):BU all n e0 vals S t=e0 t:=by
 unfold BU;rw[dif_neg];rintro⟨m,h1,j,o⟩;exact i m h1 j o
theorem KB{e0:Env}{vals:Nat->Value}{t:Nat}(ht:¬t<n):BU all n e0 vals S t=e0 t:=by
 unfold BU;by_cases i:∃m,S m/\m<all.length/\CJ all m=some t
 .rw[qj i,C3 ht]
 .rw[dif_neg i]
theorem DY(h:L3 n all AS AN Gs){e0:Env}{vals vals':Nat->Value}{S E:Nat->Prop}{t:Nat}(B:∀m,m<all.length->CJ all m=some t->(S m↔E m)/\(S m->vals m=vals' m)):BU all n e0 vals S t=BU all n e0 vals' E t:=by
 by_cases ht:t<n
 .by_cases o:∃m,S m/\m<all.length/\CJ all m=some t
  .obtain⟨m,h1,i,j⟩:=o;rw[N7 h h1 i j ht,N7 h ((B m i j).1.1 h1) i j ht];exact(B m i j).2 h1
  .rw[Cb fun m h1 i j=>o ⟨m,h1,i,j⟩,Cb fun m h1 i j=>o ⟨m,(B m i j).1.2 h1,i,j⟩]
 .rw[KB ht,KB ht]
theorem FL(h:L3 n all AS AN Gs){e0:Env}{vals vals':Nat->Value}{o:Oper}(hi:all[i]?=some o)(Q:∀m,F m↔S m\/m=i)(U:∀m,S m->m≠i->vals' m=vals m)(I:vals' i=v)(V:¬S i) :
  BN n (BU all n e0 vals S) o.dst v=BU all n e0 vals' F:=by
 have J:i<all.length:=(Bp.1 hi).1;have B:CJ all i=o.dst:=by rw[CH,hi];rfl
 funext t
 by_cases j:o.dst=some t
 .rw[j];by_cases ht:t<n
  .rw[N7 h ((Q i).2 (.inr rfl)) J (B.trans j) ht,I];have:Nat.blt t n=true:=mr (by omega);simp[BN,Eg,this]
  .rw[KB ht];have:Nat.blt t n=false:=by cases hb:Nat.blt t n with|false=>rfl|true=>exact absurd (lS hb) (by omega)
   simp only[BN,Eg,this,Bool.and_false,kF];exact KB ht
 .rw[HZ j];refine DY h fun m hm T=>?_;have E:m≠i:=by rintro rfl;rw[B] at T;exact j T
  exact⟨by rw[Q];simp[E],fun X=>(U m X E).symm⟩
theorem DP{o:Oper}{e e':Env}(i:∀cs b,o.op≠.select cs b)(h:∀t∈Jh o,e t=e' t):execOp (ev e) o=execOp (ev e') o:=by
 refine execOp_congr o i fun x j=>?_;cases x with
 |tmp t=>exact h t (by simp only[Jh,List.mem_filterMap];exact⟨.tmp t,by simpa using j,rfl⟩)
 |_=>rfl
variable (e0:Env)(w0:World)(A:Nat->Value->World->Prop)(M:Nat->Nat->Prop)
def Mi(AS:List Nat)(M:Nat->Nat->Prop):Nat->Prop:=fun b=>∃j∈AS,M j b
def iY(AS:List Nat)(M:Nat->Nat->Prop)(w0:World)(a:Addr)(v:Value):Prop:=w0.cell? a=some v/\∀j∈AS,¬M j a.block
def Jb(AS:List Nat)(AN:List (List Nat))(i:Nat):List Nat:=AS.filter fun j=>!CM (Be AN j) i
def Ip(AS:List Nat)(AN:List (List Nat))(M:Nat->Nat->Prop)(w0:World)(i:Nat):Addr->Value->Prop:=iY (Jb AS AN i) M w0
noncomputable def view(all:List Oper)(AN:List (List Nat))(n:Nat)(e0:Env)(vals:Nat->Value)(i:Nat):Env:=BU all n e0 vals (·∈Be AN i)
def An(all:List Oper)(e:Env)(o:Oper):Prop:=∀g b,o.guard=some (g,b)->yv all e g=some b
def En(P:Program)(AS:List Nat)(M:Nat->Nat->Prop)(w0:World)(o:Oper)(e:Env)(v:Value):Prop:=∀w',Mod (Mi AS M) w0 w'->(execOp (ev e) o).run P w'=.ok (.value v) w'
def Gd(P:Program)(all:List Oper)(AS:List Nat)(AN:List (List Nat))(n:Nat)(e0:Env)(w0:World)(M:Nat->Nat->Prop)(vals:Nat->Value)(i:Nat)(o:Oper):Prop:=
 (An all (view all AN n e0 vals i) o->En P (Jb AS AN i) M w0 o (view all AN n e0 vals i) (vals i))/\(¬An all (view all AN n e0 vals i) o->vals i=undef)
def Ad(all:List Oper)(AN:List (List Nat))(n:Nat)(e0:Env)(A:Nat->Value->World->Prop)(vals:Nat->Value)(w:World)(i:Nat)(o:Oper):Prop:=
 (An all (view all AN n e0 vals i) o->A i (vals i) w)/\(¬An all (view all AN n e0 vals i) o->vals i=undef)
variable {e0 w0 A M}
theorem KP{E:List Nat}{o:Oper}{e:Env}{k:Value->Prop}(hi:CM AS i=false)(h:Jv P ok AS A (iY E M w0) w o i (ev e) k):∃v,k v/\En P E M w0 o e v:=by
 unfold Jv at h;rw[hi] at h;simp only[kF] at h;have I:∀(a:Addr) (v:Value),iY E M w0 a v->∀w',Mod (Mi E M) w0 w'->w'.cell? a=some v:=fun a v U w' hm=>
  (lO (hm.same a.block (kT w0 a U.1) fun⟨j,hj,hb⟩=>U.2 j hj hb)).trans U.1
 have O:(bif CV P o then FB P ok o (ev e) (fun v _=>k v) w else False)->∃v,k v/\En P E M w0 o e v:=by
  intro h;cases hp:CV P o with
  |false=>rw[hp] at h;exact h.elim
  |true=>
   rw[hp] at h;simp only[kA] at h;obtain⟨v,h1,J⟩:=pure_run (ρ:=ev e) (fun _=>rfl) hp h;exact⟨v,h1,fun w' _=>J w'⟩
 obtain⟨a1,op,Z,pos,after,guard⟩:=o;cases op with
 |load t x=>
  simp only at h;split at h
  .rename_i m ha;obtain⟨a,v,h1,J,Q⟩:=h;refine⟨v,Q,fun w' hm=>?_⟩;obtain⟨v',B,r1,S⟩:=SI (P:=P) (K:=fun v' B=>v'=v/\B=w') (w:=w') ha ⟨a,v,h1,I a v J w' hm,rfl,rfl⟩;obtain⟨rfl,rfl⟩:=S;simp only[execOp,kD,r1,S3,k7]
  .rename_i m ha;obtain⟨a,vs,h1,hl,J,Q⟩:=h;refine⟨_,Q,fun w' hm=>?_⟩;obtain⟨v',B,r1,S⟩:=Rw (P:=P) (K:=fun v' B=>v'=.agg vs.toArray/\B=w') (w:=w') ha ⟨a,vs,h1,hl,fun j v V=>I _ v (J j v V) w' hm,rfl,rfl⟩;obtain⟨rfl,rfl⟩:=S;simp only[execOp,kD,r1,S3,k7]
  .exact h.elim
 |binOp op t x y yt=>
  simp only at h;cases hp:HO P op t y with
  |true=>
   rw[hp] at h;simp only[kA] at h;obtain⟨v,h1,J⟩:=Ge hp h;refine⟨v,h1,fun w' _=>?_⟩;obtain⟨T,X,Y⟩:∃T:Cont,T v w'/\∀v' B,T v' B->v'=v/\B=w':=⟨fun v' B=>v'=v/\B=w',⟨rfl,rfl⟩,fun _ _ h=>h⟩;obtain⟨v',B,r1,S⟩:=Oz (P:=P) (w:=w') (K:=T) (xo:=x) (yo:=y) (F:=False) (fun v V=>by rw[V];rfl) (J _ _ X) (fun hF=>hF.elim);obtain⟨rfl,rfl⟩:=Y _ _ S;simp only[execOp];rw[kD,r1];rfl
  |false=>
   rw[hp] at h;simp only[kF] at h;obtain⟨v,h1,J⟩:=h;refine⟨v,J,fun w' _=>?_⟩;have Q:=h1 w';simp only[BX] at Q;simp only[execOp];rw[kD,Q];rfl
 |_=>exact O h
theorem En.iu{o:Oper}{e:Env}(h:En P AS M w0 o e v)(j:En P AS M w0 o e fr):v=fr:=by
 have h1:=h w0 (Mod.refl _ _);have i:=j w0 (Mod.refl _ _);rw[h1] at i;cases i;rfl
theorem En.congr{o:Oper}{e e':Env}(i:∀cs b,o.op≠.select cs b)(h:∀t∈Jh o,e t=e' t)(hr:En P AS M w0 o e v):En P AS M w0 o e' v:=by
 intro w' hm;rw[<-DP i h];exact hr w' hm
theorem Ek(B:L3 n all AS AN Gs){vals:Nat->Value}{o:Oper}(hi:all[i]?=some o)(h1:∀j∈Be AN i,S j)(T:∀m,m<all.length->i∈Be AN m->¬S m)(U:¬S i) :
  ∀t∈slotsOf all o,BU all n e0 vals S t=view all AN n e0 vals i t:=by
 have E:i<all.length:=(Bp.1 hi).1;intro t ht;refine DY B fun m hm Q=>⟨?_,fun _=>rfl⟩;by_cases I:m=i
 .subst I;exact⟨fun h=>(U h).elim,fun h=>absurd (B.lt E h) (by omega)⟩
 .have J:all[m]?=some all[m]:=by simp[hm]
  rw[CH,J] at Q;rcases B.reads i o hi t ht m _ J Q I with h|h
  .exact⟨fun _=>h,fun _=>h1 m h⟩
  .refine⟨fun V=>(T m hm h V).elim,fun O=>?_⟩;have:=B.lt E O;have:=B.lt hm h;omega
theorem Cn{o:Oper}{t:Nat}(h:t∈Jh o):t∈slotsOf all o:=kB _ h
theorem CI(E:L3 n all AS AN Gs){o:Oper}(hi:all[i]?=some o){e e':Env}(h:∀t∈slotsOf all o,e t=e' t):An all e o↔An all e' o:=by
 unfold An;refine forall_congr' fun g=>forall_congr' fun b=>imp_congr_right fun j=>?_;obtain⟨d,B⟩:=(E.guard i o hi g b j).2;have:d∈slotsOf all o:=by unfold slotsOf;rw[j];simp[B]
 unfold yv;rw[B];simp only[h d this]
theorem CR(o:L3 n all AS AN Gs){vals vals':Nat->Value}(h:∀j∈Be AN i,vals j=vals' j):view all AN n e0 vals i=view all AN n e0 vals' i:=by
 funext t
 exact DY o fun m _ _=>⟨nj,fun hm=>h m hm⟩
theorem LN(E:L3 n all AS AN Gs){kn:List (Nat×Option Bool)}{o:Oper}(hi:all[i]?=some o)(hk:∀p∈kn,p.1<i):FJ o.dst kn all=false:=by
 unfold FJ;cases I:o.dst with
 |none=>rfl
 |some t=>
  simp only[pj];intro p hp;have J:=hk p hp;have O:i<all.length:=(Bp.1 hi).1;have j:all[p.1]?=some (all[p.1]'(by omega)):=by simp[show p.1<all.length by omega]
  rw[CH,j];simp only[ou];cases B:(all[p.1]'(by omega)).dst with
  |none=>simp
  |some u=>
   simp only;intro hb;have:=ka hb;subst this;have:=E.one _ _ _ _ j hi u B I;omega
section
variable {ds:List Deferred}{e0:Env}{w0:World}{A:Nat->Value->World->Prop}{M:Nat->Nat->Prop}
theorem Lo{AS:List Nat}{AN:List (List Nat)}(o:j∈AS)(h:¬i∈Be AN j):j∈Jb AS AN i:=by
 simp only[Jb,ko,oZ,o,ob];cases hb:CM (Be AN j) i with
 |false=>rfl
 |true=>exact(h (Aa.1 hb)).elim
def LJ(P:Program)(all:List Oper)(AS:List Nat)(AN:List (List Nat))(n:Nat)(e0:Env)(w0:World)(M:Nat->Nat->Prop)(i:Nat->Bool)(L:Nat->Prop)(K:List (Nat×Option Bool)->Env->Prop)(vals0:Nat->Value):Prop:=
 ∃(vals':Nat->Value) (j:List (Nat×Option Bool)),(∀m,L m->vals' m=vals0 m)/\(∀(m:Nat) o,all[m]?=some o->i m=true->m∉AS->Gd P all AS AN n e0 w0 M vals' m o)/\
  Dk all j (BU all n e0 vals' (fun m=>i m=true/\m<all.length))/\K j (BU all n e0 vals' (fun m=>i m=true/\m<all.length))
theorem GF(Y:L3 n all AS AN Gs){J:Nat->Bool}{L:Nat->Prop}{K:List (Nat×Option Bool)->Env->Prop}{vals0:Nat->Value}
 (b6:∀i,i<all.length->J i=true->∀j∈Be AN i,J j=true)(hL:∀i,i<all.length->L i->∀j∈Be AN i,L j)
 (b7:∀(i:Nat) o,all[i]?=some o->L i->i∉AS->Gd P all AS AN n e0 w0 M vals0 i o)
 (hA:∀(k:Nat) o,all[k]?=some o->k∈AS->J k=true->L k/\Ad all AN n e0 A vals0 w k o) :
  ∀(l:List Oper) (i:Nat) (kn:List (Nat×Option Bool)) (vals:Nat->Value) (e:Env),all.drop i=l->(∀m,L m->vals m=vals0 m)->(∀p∈kn,p.1<i)->Dk all kn e->
   e=BU all n e0 vals (fun m=>J m=true/\m<i)->(∀(m:Nat) o,all[m]?=some o->J m=true->m<i->m∉AS->Gd P all AS AN n e0 w0 M vals m o)->
   Dw P ok n all AS A (Ip AS AN M w0) w J K l i kn e->
   LJ P all AS AN n e0 w0 M J L K vals0:=by
 intro l;induction l with
 |nil=>
  intro i kn vals e hl hv a6 hk he hg h;have hi:all.length<=i:=by simpa using hl
  have b8:e=BU all n e0 vals (fun m=>J m=true/\m<all.length):=by
   rw[he];funext t;exact DY Y fun m hm _=>⟨⟨fun h=>⟨h.1,hm⟩,fun h=>⟨h.1,by omega⟩⟩,fun _=>rfl⟩
  subst b8;exact⟨vals,kn,hv,fun m o hm hs Z=>hg m o hm hs (by have:=(Bp.1 hm).1;omega) Z,hk,h⟩
 |cons o ak ih=>
  intro i kn vals e hl hv a6 hk he hg h;have E:all[i]?=some o:=by
   have:=kM (fun l=>l[0]?) hl;simpa using this
  have ay:i<all.length:=(Bp.1 E).1;have b9:all.drop (i+1)=ak:=by
   have:=kM List.tail hl;simpa using this
  have bk:CJ all i=o.dst:=by rw[CH,E];rfl
  unfold Dw at h;cases hs:J i with
  |false=>
   rw [hs] at h;simp only [kF] at h;refine ih (i+1) kn vals e b9 hv (fun p hp=>by have:=a6 p hp;omega) hk ?_ (fun m o' hm an bl Z=>hg m o' hm an (by
    rcases qB m i with h|h
    .exact h
    .have:m=i:=by omega
     subst this;rw [hs] at an;cases an) Z) h
   rw[he];funext t;refine DY Y fun m _ _=>⟨⟨fun h=>⟨h.1,by omega⟩,fun h=>⟨h.1,?_⟩⟩,fun _=>rfl⟩;rcases qB m i with h'|h'
   .exact h'
   .have:m=i:=by omega
    subst this;rw[hs] at h;cases h.1
  |true=>
   rw[hs] at h;simp only[kA] at h;have b3:∀t∈slotsOf all o,e t=view all AN n e0 vals i t:=by
    rw[he];refine Ek Y E (fun j hj=>⟨b6 i ay hs j hj,Y.lt ay hj⟩) (fun m hm S an=>by have:=Y.lt hm S;omega) (fun h=>by omega)
   have U:∀B,(∀p∈B,p.1<i)->FJ o.dst B all=false:=fun B h=>LN Y E h;have next:∀(v:Value) (B:List (Nat×Option Bool)),(L i->v=vals0 i)->(∀p∈B,p.1<i+1)->Dk all B (BN n e o.dst v)->
     (i∉AS->(An all (view all AN n e0 vals i) o->En P (Jb AS AN i) M w0 o (view all AN n e0 vals i) v)/\(¬An all (view all AN n e0 vals i) o->v=undef))->
     Dw P ok n all AS A (Ip AS AN M w0) w J K ak (i+1) B (BN n e o.dst v)->
     LJ P all AS AN n e0 w0 M J L K vals0:=by
    intro v B V O av X hw;have ba:∀m,m<i+1->view all AN n e0 (fun q=>if q=i then v else vals q) m=view all AN n e0 vals m:=fun m hm=>
     CR Y fun j hj=>by
      have:j<m:=Y.lt (by omega) hj;rw[C3 (by omega)]
    refine ih (i+1) B (fun q=>if q=i then v else vals q) _ b9 (fun m hm=>?_) O av ?_ (fun m o' hm an bl Z=>?_) hw
    .by_cases S:m=i
     .subst S;simp[V hm]
     .simp[S,hv m hm]
    .rw [he];exact FL Y E (fun m=>by
      constructor
      .rintro⟨h1,h2⟩;by_cases S:m=i
       .exact .inr S
       .exact .inl ⟨h1,by omega⟩
      .rintro(⟨h1,h2⟩|rfl)
       .exact⟨h1,by omega⟩
       .exact ⟨hs,by omega⟩) (fun m hm S=>by simp [S]) (by simp) (fun h=>by omega)
    .by_cases S:m=i
     .subst S;rw[E] at hm;cases hm;unfold Gd;rw[ba m (by omega)];simp only[km];exact X Z
     .have:=hg m o' hm an (by omega) Z;unfold Gd at this ⊢;rw[ba m (by omega)];simpa[S] using this
   have bb:i∈AS->Ad all AN n e0 A vals0 w i o/\L i:=fun hi=>⟨(hA i o E hi hs).2,(hA i o E hi hs).1⟩;have Q:L i->view all AN n e0 vals i=view all AN n e0 vals0 i:=fun T=>CR Y fun j hj=>hv j (hL i ay T j hj);have run:∀(e':Env) (B:List (Nat×Option Bool)),e'=e->(∀p∈B,p.1<i)->Dk all B e->An all e o->
     Jv P ok AS A (Ip AS AN M w0 i) w o i (ev e') (fun v=>Dw P ok n all AS A (Ip AS AN M w0) w J K ak (i+1) B (BN n e' o.dst v))->LJ P all AS AN n e0 w0 M J L K vals0:=by
    intro e' B b4 O av a7 hx;subst b4;have a1:=(CI Y E b3).1 a7;cases hm:CM AS i with
    |true=>
     have a8:=Aa.1 hm;obtain⟨bn,T⟩:=bb a8;unfold Jv at hx;rw[hm] at hx;simp only[kA] at hx;have:=hx (vals0 i) (bn.1 (by rw[<-Q T];exact a1));exact next (vals0 i) B (fun _=>rfl) (fun p hp=>by have:=O p hp;omega) (av.put (U B O) _) (fun Z=>(Z a8).elim) this
    |false=>
     have a8:i∉AS:=fun h=>by rw[Aa.2 h] at hm;cases hm
     obtain⟨v,h1,h2⟩:=KP hm hx;have bc:En P (Jb AS AN i) M w0 o (view all AN n e0 vals i) v:=h2.congr (Y.Ju i o E) fun t ht=>b3 t (Cn ht);refine next v B (fun T=>?_) (fun p hp=>by have:=O p hp;omega) (av.put (U B O) _) (fun _=>⟨fun _=>bc,fun hn=>(hn a1).elim⟩) h1;have h3:=(b7 i o E T a8).1 (by rw[<-Q T];exact a1);rw[<-Q T] at h3;exact bc.iu h3
   have skip:∀(e':Env) (B:List (Nat×Option Bool)),e'=e->(∀p∈B,p.1<i)->Dk all B e->¬An all e o->
     Dw P ok n all AS A (Ip AS AN M w0) w J K ak (i+1) ((i,none)::B) (BN n e' o.dst undef)->LJ P all AS AN n e0 w0 M J L K vals0:=by
    intro e' B b4 O av a7 hx;subst b4;have a1:¬An all (view all AN n e0 vals i) o:=fun h=>a7 ((CI Y E b3).2 h);refine next undef ((i,none)::B) (fun T=>?_) (fun p hp=>?_) ((av.put (U B O) _).cons ?_) (fun _=>⟨fun h=>(a1 h).elim,fun _=>rfl⟩) hx
    .rw[Q T] at a1;by_cases a8:i∈AS
     .exact((bb a8).1.2 a1).symm
     .exact((b7 i o E T a8).2 a1).symm
    .rcases I3.1 hp with rfl|hp
     .simp
     .have:=O p hp;omega
    .unfold yv;rw[bk];cases hd:o.dst with
     |none=>rfl
     |some d=>
      have:=Y.bound i o E d hd;have hb:Nat.blt d n=true:=mr (show d+1<=n from this);simp[BN,Eg,hb];rfl
   cases X:o.guard with
   |none=>
    simp only[X] at h;exact run e kn rfl a6 hk (fun g b ax=>by rw[X] at ax;cases ax) h
   |some gb=>
    obtain⟨g,I⟩:=gb;simp only[X] at h;have bp:g<i:=Y.lt ay (Y.guard i o E g I X).1;have wt:yv all e g=some I->An all e o:=fun hy g' b' ax=>by rw[X] at ax;cases ax;exact hy
    have wf:yv all e g≠some I->¬An all e o:=fun hy hw=>hy (hw g I X);cases b5:Cz kn g with
    |some b=>
     have hy:=hk g b b5;simp only[b5] at h;cases b with
     |none=>exact skip e kn rfl a6 hk (wf (by rw[hy];simp)) h
     |some b=>
      simp only[HD] at h;cases b0:(b==I) with
      |true=>
       simp only[b0,kA] at h;have:b=I:=by simpa using b0
       exact run e kn rfl a6 hk (wt (by rw[hy,this])) h
      |false=>
       simp only[b0,kF] at h;have:b≠I:=by simpa using b0
       exact skip e kn rfl a6 hk (wf (by rw[hy];simp[this])) h
    |none=>
     simp only[b5] at h;obtain⟨d,hd⟩:=(Y.guard i o E g I X).2;simp only[hd] at h;have bd:yv all e g=bv (e d):=by simp[yv,hd]
     have al:∀b,∀p∈(g,b)::kn,p.1<i:=fun b p hp=>by
      rcases I3.1 hp with rfl|hp
      .exact bp
      .exact a6 p hp
     rcases EU h with⟨V,hb⟩|⟨V,hb⟩
     .have hy:yv all e g=some true:=by rw[bd,V];rfl
      cases I with
      |true=>simp only[kA] at hb;exact run _ _ (Cq V) (al _) (hk.cons hy) (wt hy) hb
      |false=>simp only[kF] at hb;exact skip _ _ (Cq V) (al _) (hk.cons hy) (wf (by rw[hy];simp)) hb
     .have hy:yv all e g=some false:=by rw[bd,V];rfl
      cases I with
      |true=>simp only[kA] at hb;exact skip _ _ (Cq V) (al _) (hk.cons hy) (wf (by rw[hy];simp)) hb
      |false=>simp only[kF] at hb;exact run _ _ (Cq V) (al _) (hk.cons hy) (wt hy) hb
end
section
variable {ds:List Deferred}{e0:Env}{w0:World}{A:Nat->Value->World->Prop}{M:Nat->Nat->Prop}
def cD(AS:List Nat)(A:Nat->Value->World->Prop)(M:Nat->Nat->Prop)(w0:World):Prop:=
 ∀j∈AS,∀k∈AS,j≠k->∀v i w2,Mod (Mi AS M) w0 i->A j v i->Mod (M k) i w2->A j v w2
def ZK(AS:List Nat)(M:Nat->Nat->Prop)(k:Nat):Nat->Prop:=fun b=>∃j∈AS,j≠k/\M j b
structure U4 (P:Program) (ds:List Deferred) (all:List Oper) (AS:List Nat) (AN:List (List Nat)) (n:Nat) (e0:Env) (w0:World) (A:Nat->Value->World->Prop) (M:Nat->Nat->Prop) (L:Nat->Prop) (vals:Nat->Value) (a:Act) (w:World):Prop where
 fr:Fr ds n (BU all n e0 vals (fun m=>L m/\m<all.length)) a
 mod:Mod (Mi AS M) w0 w
 gL:Mod (fun b=>∃j∈AS,L j/\M j b) w0 w
 bH:∀k∈AS,¬L k->Mod (ZK AS M k) w0 w
 closed:∀i,i<all.length->L i->∀j∈Be AN i,L j
 Fc:∀(i:Nat) o,all[i]?=some o->L i->i∉AS->Gd P all AS AN n e0 w0 M vals i o
 said:∀(i:Nat) o,all[i]?=some o->L i->i∈AS->Ad all AN n e0 A vals w i o
structure gI (P:Program) (ok:Nat->Bool) (n:Nat) (all:List Oper) (AS:List Nat) (AN:List (List Nat)) (Gs:List (List Nat)) (e0:Env) (w0:World) (A:Nat->Value->World->Prop) (M:Nat->Nat->Prop) (K:Env->World->Prop):Prop where
 jA:cD AS A M w0
 each:∀k∈AS,∀o,all[k]?=some o->∀w,Mod (ZK AS M k) w0 w->Dw P ok n all AS A (Ip AS AN M w0) w (GW AS AN (DL AS (Be AN k))) (Ww P ok n all A M w k o) all 0 [] e0
 group:∀E∈Gs,∀w,Mod (Mi AS M) w0 w->Dw P ok n all AS A (Ip AS AN M w0) w (GW AS AN E) (fun _ _=>True) all 0 [] e0
 last:∀w,Mod (Mi AS M) w0 w->Dw P ok n all AS A (Ip AS AN M w0) w (fun _=>true) (fun _ e=>K e w) all 0 [] e0
theorem Gd.Ji(E:L3 n all AS AN Gs){vals vals':Nat->Value}{o:Oper}(_:i<all.length)(I:∀j∈Be AN i,vals j=vals' j)(B:vals i=vals' i)(h:Gd P all AS AN n e0 w0 M vals i o):Gd P all AS AN n e0 w0 M vals' i o:=by
 unfold Gd at h ⊢;rw[<-CR E I,<-B];exact h
theorem U4.step(hG:L3 n all AS AN Gs){L:Nat->Prop}{vals:Nat->Value}{a:Act}(h:U4 P ds all AS AN n e0 w0 A M L vals a w)(a7:cD AS A M w0){o:Oper}(hi:all[i]?=some o)(V:¬L i)(X:∀j∈Be AN i,L j)
 (J:if i∈AS then Mod (M i) w w' else w'=w)(hg:i∉AS->(An all (view all AN n e0 vals i) o->En P (Jb AS AN i) M w0 o (view all AN n e0 vals i) v)/\(¬An all (view all AN n e0 vals i) o->v=undef))
 (hs:i∈AS->(An all (view all AN n e0 vals i) o->A i v w')/\(¬An all (view all AN n e0 vals i) o->v=undef)) :
  U4 P ds all AS AN n e0 w0 A M (fun m=>L m\/m=i) (fun m=>if m=i then v else vals m) (a.put o.dst v) w':=by
 have a8:i<all.length:=(Bp.1 hi).1;have Y:Mod (Mi AS M) w0 w':=by
  split at J
  .rename_i I;exact h.mod.trans (J.mono fun b _ hb=>⟨i,I,hb⟩)
  .rw[J];exact h.mod
 have Z:∀m,m<all.length->(L m\/m=i)->view all AN n e0 (fun q=>if q=i then v else vals q) m=view all AN n e0 vals m:=fun m hm B=>
  CR hG fun j O=>by
   have:j≠i:=by
    rintro rfl;rcases B with B|rfl
    .exact V (h.closed m hm B j O)
    .have:=hG.lt hm O;omega
   rw[C3 this]
 have Q:Mod (fun b=>∃j∈AS,(L j\/j=i)/\M j b) w0 w':=by
  have h1:Mod (fun b=>∃j∈AS,(L j\/j=i)/\M j b) w0 w:=h.gL.mono fun b _ ⟨j,O,hL,hb⟩=>⟨j,O,.inl hL,hb⟩;split at J
  .rename_i I;exact h1.trans (J.mono fun b _ hb=>⟨i,I,.inr rfl,hb⟩)
  .rw[J];exact h1
 refine⟨?_,Y,Q,fun k hk a1=>?_,?_,?_,?_⟩
 .rw[<-FL hG (vals:=vals) (S:=fun m=>L m/\m<all.length) (v:=v) hi (fun m=>?_) (fun m _ E=>by simp[E]) (by simp) (fun hh=>V hh.1)]
  .exact h.fr.put o.dst v
  .constructor
   .rintro⟨h1|h1,U⟩
    .exact .inl ⟨h1,U⟩
    .exact .inr h1
   .rintro(⟨h1,U⟩|rfl)
    .exact⟨.inl h1,U⟩
    .exact⟨.inr rfl,a8⟩
 .have ak:k≠i:=fun e=>a1 (.inr e);have h1:=h.bH k hk (fun hh=>a1 (.inl hh));split at J
  .rename_i I;exact h1.trans (J.mono fun b _ hb=>⟨i,I,fun e=>ak e.symm,hb⟩)
  .rw[J];exact h1
 .rintro m hm (B|rfl) j O
  .exact .inl (h.closed m hm B j O)
  .exact .inl (X j O)
 .rintro m o' hm B a6;have T:m<all.length:=(Bp.1 hm).1;unfold Gd;rw[Z m T B];by_cases E:m=i
  .subst E;rw[hi] at hm;cases hm;simp only[km];exact hg a6
  .have:=h.Fc m o' hm (B.resolve_right E) a6;unfold Gd at this;simpa[E] using this
 .rintro m o' hm B he;have T:m<all.length:=(Bp.1 hm).1;unfold Ad;rw[Z m T B];by_cases E:m=i
  .subst E;rw[hi] at hm;cases hm;simp only[km];exact hs he
  .have h1:=h.said m o' hm (B.resolve_right E) he;unfold Ad at h1;simp only[E,kZ];refine⟨fun al=>?_,h1.2⟩;have U:=h1.1 al;split at J
   .rename_i I;exact a7 m he i I E _ _ _ h.mod U J
   .rw[J];exact U
theorem Ht(U:L3 n all AS AN Gs){E:List Nat}(T:∀k∈E,k∈AS->∀j∈Be AN k,j∈AS->j∈E):∀i,i<all.length->GW AS AN E i=true->∀j∈Be AN i,GW AS AN E j=true:=by
 intro i hi B j Q;unfold GW at B ⊢;cases I:CM AS j with
 |true=>
  have S:=Aa.1 I;simp only[kA];cases o:CM AS i with
  |true=>rw[o] at B;simp only[kA] at B;exact Aa.2 (T i (Aa.1 B) (Aa.1 o) j Q S)
  |false=>
   rw[o] at B;simp only[kF,kU] at B;have:=B j Q;rw[I] at this;exact this
 |false=>
  simp only[kF,kU];intro m hm;cases J:CM AS m with
  |false=>rfl
  |true=>
   simp only[kA];have O:=U.trans i j Q m hm;cases o:CM AS i with
   |true=>rw[o] at B;simp only[kA] at B;exact Aa.2 (T i (Aa.1 B) (Aa.1 o) m O (Aa.1 J))
   |false=>
    rw[o] at B;simp only[kF,kU] at B;have:=B m O;rw[J] at this;exact this
end
section
variable {ds:List Deferred}{e0:Env}{w0:World}{A:Nat->Value->World->Prop}{M:Nat->Nat->Prop}
theorem Qh{k:Nat}{o:Oper}{kn:List (Nat×Option Bool)}{e:Env}(hk:Dk all kn e)(S:An all e o)(h:Ww P ok n all A M w k o kn e):FB P ok o (ev e) (fun v w'=>Mod (M k) w w'/\A k v w') w:=by
 unfold Ww at h;cases J:o.guard with
 |none=>simp only[J] at h;exact h
 |some T=>
  obtain⟨g,B⟩:=T;have Q:=S g B J;simp only[J] at h;cases E:Cz kn g with
  |some b=>
   have I:=hk g b E;rw[Q] at I;subst I;simp only[E,HD] at h;simpa using h
  |none=>
   simp only[E] at h;cases O:CJ all g with
   |none=>simp only[O] at h
   |some d=>
    simp only[O] at h;have j:bv (e d)=some B:=by rw[<-Q];simp[yv,O]
    rcases EU h with⟨i,hb⟩|⟨i,hb⟩
    .rw[i] at j;cases j;simp only[kA] at hb;rw[Cq i] at hb;exact hb
    .rw[i] at j;cases j;simp only[kF] at hb;rw[Cq i] at hb;exact hb
theorem FV:∀(l:List Bool) (i:Nat),l[i]?=some false->(l.set i true).count false+1=l.count false:=by
 intro l;induction l with
 |nil=>intro i h;simp at h
 |cons b l j=>
  intro i h;cases i with
  |zero=>simp at h;subst h;simp
  |succ i=>
   have:=j i (by simpa using h);simp only[pS,List.count_cons];omega
def DE(ds:List Deferred)(all:List Oper)(n:Nat)(e0:Env)(K:Env->World->Prop):Exit->Act->World->Prop:=fun ex a w=>ex=.normal/\∃e',Fr ds n e' a/\(∀j,(∀o∈all,o.dst≠some j)->e' j=e0 j)/\K e' w
theorem TP(c9:CP P ok)(I:L3 n all AS AN Gs){K:Env->World->Prop}(hq:gI P ok n all AS AN Gs e0 w0 A M K){ops:Array Oper}(an:ops.toList=all) :
  ∀(fuel:Nat) (B:Array Bool) (a:Act) (w:World) (vals:Nat->Value),B.size=ops.size->B.toList.count false<=fuel->U4 P ds all AS AN n e0 w0 A M (fun m=>B.getD m false=true) vals a w->
   wpAny P .any ops (DE ds all n e0 K) fuel B a w:=by
 have ca:ops.size=all.length:=by rw[<-an];simp
 have av:∀i:Nat,ops[i]?=all[i]?:=fun i=>by rw[<-an];simp
 have bn:∀(B:Array Bool) (i:Nat),i∈Region.ready .any ops B->∃o,all[i]?=some o/\B.getD i true=false/\∀e∈o.after,Region.binds .any e=true->B.getD e.on false=true:=by
  intro B i hi;obtain⟨h1,o,Y,h3⟩:=px.1 hi;exact⟨o,by rw[<-av];exact Y,h1,h3⟩
 have fin:∀(B:Array Bool) (a:Act) (w:World) (vals:Nat->Value),B.size=ops.size->U4 P ds all AS AN n e0 w0 A M (fun m=>B.getD m false=true) vals a w->Region.ready .any ops B=[]->DE ds all n e0 K .normal a w:=by
  intro B a w vals ax V hr;have Z:∀i,i<all.length->B.getD i false=true:=by
   intro i;induction i using Nat.strongRecOn with
   |_ i ih=>
    intro hi;cases hc:B.getD i false with
    |true=>rfl
    |false=>
     have:i∈Region.ready .any ops B:=by
      refine px.2 ⟨?_,all[i],by rw[av];simp[hi],fun e he hb=>?_⟩
      .have:i<B.size:=by omega
       simp[this] at hc ⊢;exact hc
      .have:=I.back i all[i] (by simp[hi]) e he hb;exact ih e.on this (by omega)
     rw[hr] at this;cases this
  obtain⟨vals',b3,h1,Y,h3,h4⟩:=GF (L:=fun m=>B.getD m false=true) (vals0:=vals) I (fun _ _ _ _ _=>rfl) V.closed V.Fc
   (fun k o hk J _=>⟨Z k (Bp.1 hk).1,V.said k o hk (Z k (Bp.1 hk).1) J⟩)
   all 0 [] vals e0 rfl (fun _ _=>rfl) (fun p hp=>by cases hp) (fun j b hb=>by simp[Cz] at hb)
   (by funext t;exact(Cb fun m hm _=>by omega).symm) (fun m o _ _ ay _=>by omega) (hq.last w V.mod)
  have bp:BU all n e0 vals' (fun m=>(fun _=>true) m=true/\m<all.length)=BU all n e0 vals (fun m=>B.getD m false=true/\m<all.length):=by
   funext t
   exact DY I fun m hm _=>⟨⟨fun h=>⟨Z m hm,hm⟩,fun h=>⟨rfl,hm⟩⟩,fun _=>h1 m (Z m hm)⟩
  rw[bp] at h4;refine⟨rfl,_,V.fr,fun j S=>Cb fun m _ hm hd=>?_,h4⟩;have cc:all[m]?=some all[m]:=by simp[hm]
  rw[CH,cc] at hd;exact S all[m] (by simp) hd
 intro fuel;induction fuel with
 |zero=>
  intro B a w vals ax hc V;have hr:Region.ready .any ops B=[]:=by
   cases hr:Region.ready .any ops B with
   |nil=>rfl
   |cons i r=>
    exfalso;obtain⟨o,h1,Y,_⟩:=bn B i (by rw[hr];simp);have a7:i<B.size:=by have:=(Bp.1 h1).1;omega
    simp[a7] at Y;have:false∈B.toList:=by rw[<-Y];simp
    have:=oJ.2 this;omega
  exact⟨hr,fin B a w vals ax V hr⟩
 |succ fuel ih=>
  intro B a w vals ax hc V;refine⟨fin B a w vals ax V,fun i hi=>?_⟩;obtain⟨o,T,b4,b5⟩:=bn B i hi;have a7:i<all.length:=(Bp.1 T).1;have al:i<B.size:=by omega
  have b0:¬B.getD i false=true:=by simp[al] at b4 ⊢;exact b4
  have Q:∀j∈Be AN i,B.getD j false=true:=by
   intro j S;obtain⟨e,he,hb,h1⟩:=I.iT i o T j S;have hL:=b5 e he hb;rcases h1 with rfl|h1
   .exact hL
   .exact V.closed e.on (by have:=I.back i o T e he hb;omega) hL j h1
  have ba:∀t∈slotsOf all o,BU all n e0 vals (fun m=>B.getD m false=true/\m<all.length) t=view all AN n e0 vals i t:=
   Ek I T (fun j S=>⟨Q j S,by have:=I.lt a7 S;omega⟩) (fun m hm a8 cd=>b0 (V.closed m hm cd.1 i a8)) (fun h=>b0 h.1)
  have bs:=V.fr.eval;have a1:(Region.wanted o (yielded ops a.tmps)=true)↔An all (view all AN n e0 vals i) o:=by
   rw[<-CI I T ba];unfold Region.wanted An;cases hg:o.guard with
   |none=>simp
   |some gb=>
    obtain⟨g,b⟩:=gb;have:=GC V.fr (ops:=ops) (j:=g);rw[an] at this;simp only[this,nV];constructor
    .rintro h g' b' heq;cases heq;exact h
    .intro h;exact h g b rfl
  have go:∀(v:Value) (w':World),(if i∈AS then Mod (M i) w w' else w'=w)->
    (i∉AS->(An all (view all AN n e0 vals i) o->En P (Jb AS AN i) M w0 o (view all AN n e0 vals i) v)/\(¬An all (view all AN n e0 vals i) o->v=undef))->
    (i∈AS->(An all (view all AN n e0 vals i) o->A i v w')/\(¬An all (view all AN n e0 vals i) o->v=undef))->
    wpAny P .any ops (DE ds all n e0 K) fuel (B.setIfInBounds i true) (a.put o.dst v) w':=by
   intro v w' h1 Y h3;have ch:=V.step I hq.jA T b0 Q h1 Y h3;have bx:∀m,(B.setIfInBounds i true).getD m false=true↔(B.getD m false=true\/m=i):=by
    intro m;simp only[ky,mh];by_cases a8:i=m
    .subst a8;simp[al]
    .simp[a8,mW a8]
   refine ih _ _ _ (fun m=>if m=i then v else vals m) (by simpa using ax) ?_ ?_
   .have dv:(B.setIfInBounds i true).toList.count false+1=B.toList.count false:=by
     have hb:B.toList[i]'(by simpa using al)=false:=by simp[al] at b4;simpa using b4
     rw[ns];exact FV B.toList i (by rw[<-hb];simp)
    omega
   .have:(fun m=>(B.setIfInBounds i true).getD m false=true)=(fun m=>B.getD m false=true\/m=i):=by
     funext m;exact propext (bx m)
    rw[this];exact ch
  unfold wpOp;rw[av i,T];simp only;by_cases O:i∈AS
  .obtain⟨vals',b3,h1,Y,h3,h4⟩:=GF (L:=fun m=>B.getD m false=true) (vals0:=vals) I
    (Ht I (E:=DL AS (Be AN i)) fun k hk _ j S a6=>by
     simp only [DL,ko,Aa] at hk ⊢;exact ⟨I.trans i k hk.1 j S,a6⟩) V.closed V.Fc
    (fun k o' hk J U=>by
     unfold GW at U;rw [Aa.2 J] at U;simp only [kA,Aa,DL,ko] at U;exact ⟨Q k U.1,V.said k o' hk (Q k U.1) J⟩)
    all 0 [] vals e0 rfl (fun _ _=>rfl) (fun p hp=>by cases hp) (fun j b hb=>by simp[Cz] at hb)
    (by funext t;exact(Cb fun m hm _=>by omega).symm) (fun m o _ _ ay _=>by omega) (hq.each i O o T w (V.bH i O b0))
   have bb:∀j∈Be AN i,GW AS AN (DL AS (Be AN i)) j=true:=by
    intro j S;unfold GW;cases a6:CM AS j with
    |true=>simp only[kA,Aa,DL,ko];exact⟨S,Aa.1 a6⟩
    |false=>
     simp only[kF,kU];intro m hm;cases b6:CM AS m with
     |false=>rfl
     |true=>simp only[kA,Aa,DL,ko];exact⟨I.trans i j S m hm,Aa.1 b6⟩
   have bc:∀m,m<all.length->i∈Be AN m->¬(GW AS AN (DL AS (Be AN i)) m=true/\m<all.length):=by
    rintro m hm a8 ⟨hs,_⟩;have ay:=I.lt hm a8;unfold GW at hs;cases b6:CM AS m with
    |true=>
     rw[b6] at hs;simp only[kA,Aa,DL,ko] at hs;have:=I.lt a7 hs.1;omega
    |false=>
     rw[b6] at hs;simp only[kF,kU] at hs;have:=hs i a8;rw[Aa.2 O] at this;simp only[kA,Aa,DL,ko] at this;have:=I.lt a7 this.1;omega
   have bd:¬(GW AS AN (DL AS (Be AN i)) i=true/\i<all.length):=by
    rintro⟨hs,_⟩;unfold GW at hs;rw[Aa.2 O] at hs;simp only[kA,Aa,DL,ko] at hs;have:=I.lt a7 hs.1;omega
   have ak:view all AN n e0 vals' i=view all AN n e0 vals i:=CR I fun j S=>h1 j (Q j S);have b8:∀t∈slotsOf all o,BU all n e0 vals' (fun m=>GW AS AN (DL AS (Be AN i)) m=true/\m<all.length) t=view all AN n e0 vals i t:=fun t ht=>by
    rw[Ek I T (fun j S=>⟨bb j S,by have:=I.lt a7 S;omega⟩) bc bd t ht,ak]
   by_cases X:An all (view all AN n e0 vals i) o
   .rw[Io (a1.2 X)];left;have cn:=Qh h3 ((CI I T b8).2 X) h4;have cv:=JD c9 (fun _=>rfl) (fun _=>rfl) cn;unfold Oper.wp;rw[bs,DP (e':=BU all n e0 vals' (fun m=>GW AS AN (DL AS (Be AN i)) m=true/\m<all.length)) (I.Ju i o T) (fun t ht=>by rw[ba t (Cn ht),b8 t (Cn ht)])];exact Ow cv fun v w' hv=>go v w' (by rw[Io O];exact hv.1) (fun h=>(h O).elim) (fun _=>⟨fun _=>hv.2,fun h=>(h X).elim⟩)
   .rw[C3 (fun h=>X (a1.1 h))];exact go undef w (by rw[Io O];exact Mod.refl _ _) (fun h=>(h O).elim) (fun _=>⟨fun h=>(X h).elim,fun _=>rfl⟩)
  .have key:∃vals':Nat->Value,(∀m,B.getD m false=true->vals' m=vals m)/\Gd P all AS AN n e0 w0 M vals' i o:=by
    rcases I.Wm i a7 O with bk|b9|⟨E,hE,b7⟩
    .obtain⟨k0,cx,c4,c6⟩:=I.first;have c7:∀j,j∉DL AS (Be AN k0):=fun j S=>by
      simp only[DL,ko,Aa] at S;exact c6 j S.1 S.2
     obtain⟨vals',b3,h1,Y,_,_⟩:=GF (L:=fun m=>B.getD m false=true) (vals0:=vals) I
      (Ht I (E:=DL AS (Be AN k0)) fun k hk _ _ _ _=>(c7 k hk).elim) V.closed V.Fc
      (fun k o' hk J U=>by
       unfold GW at U;rw [Aa.2 J] at U;simp only [kA,Aa] at U;exact (c7 k U).elim)
      all 0 [] vals e0 rfl (fun _ _=>rfl) (fun p hp=>by cases hp) (fun j b hb=>by simp[Cz] at hb)
      (by funext t;exact(Cb fun m hm _=>by omega).symm) (fun m o _ _ ay _=>by omega) (hq.each k0 cx all[k0] (by simp[c4]) w0 (Mod.refl _ _))
     refine⟨vals',h1,Y i o T ?_ O⟩;unfold GW;cases hm:CM AS i with
     |true=>exact(O (Aa.1 hm)).elim
     |false=>
      simp only[kF,kU];intro j S;cases a6:CM AS j with
      |true=>exact(bk j S (Aa.1 a6)).elim
      |false=>rfl
    .obtain⟨vals',b3,h1,Y,_,_⟩:=GF (L:=fun m=>B.getD m false=true) (vals0:=vals) I (fun _ _ _ _ _=>rfl) V.closed V.Fc
      (fun k o' hk J _=>⟨Q k (b9 k J),V.said k o' hk (Q k (b9 k J)) J⟩)
      all 0 [] vals e0 rfl (fun _ _=>rfl) (fun p hp=>by cases hp) (fun j b hb=>by simp[Cz] at hb)
      (by funext t;exact(Cb fun m hm _=>by omega).symm) (fun m o _ _ ay _=>by omega) (hq.last w V.mod)
     exact⟨vals',h1,Y i o T rfl O⟩
    .obtain⟨vals',b3,h1,Y,_,_⟩:=GF (L:=fun m=>B.getD m false=true) (vals0:=vals) I
      (Ht I (E:=E) fun k hk J j S a6=>(b7 j a6).1 (I.trans i k ((b7 k J).2 hk) j S)) V.closed V.Fc
      (fun k o' hk J U=>by
       unfold GW at U;rw [Aa.2 J] at U;simp only [kA,Aa] at U;have c8:=(b7 k J).2 U;exact ⟨Q k c8,V.said k o' hk (Q k c8) J⟩)
      all 0 [] vals e0 rfl (fun _ _=>rfl) (fun p hp=>by cases hp) (fun j b hb=>by simp[Cz] at hb)
      (by funext t;exact(Cb fun m hm _=>by omega).symm) (fun m o _ _ ay _=>by omega) (hq.group E hE w V.mod)
     refine⟨vals',h1,Y i o T ?_ O⟩;unfold GW;cases hm:CM AS i with
     |true=>exact(O (Aa.1 hm)).elim
     |false=>
      simp only[kF,kU];intro j S;cases a6:CM AS j with
      |true=>simp only[kA,Aa];exact(b7 j (Aa.1 a6)).1 S
      |false=>rfl
   obtain⟨vals',h1,Y⟩:=key;have ak:view all AN n e0 vals' i=view all AN n e0 vals i:=CR I fun j S=>h1 j (Q j S);unfold Gd at Y;rw[ak] at Y;have bl:=go (vals' i) w (by rw[C3 O]) (fun _=>Y) (fun h=>(O h).elim);by_cases X:An all (view all AN n e0 vals i) o
   .rw[Io (a1.2 X)];left;unfold Oper.wp;rw[bs,DP (e':=view all AN n e0 vals i) (I.Ju i o T) (fun t ht=>ba t (Cn ht)),Y.1 X w (V.gL.mono fun b _ ⟨j,S,hL,hb⟩=>⟨j,Lo S fun dk=>b0 (V.closed j (I.Sm j S) hL i dk),hb⟩)];exact bl
   .rw[C3 (fun h=>X (a1.1 h))];have:=Y.2 X;rw[this] at bl;exact bl
end
end
def bq(o:Oper):Bool:=match o.op with|.select _ _=>true|_=>false
def fK(n:Nat)(all:List Oper)(AS:List Nat)(AN:List (List Nat))(Gs:List (List Nat))(i:Nat)(o:Oper):Bool:=
 !bq o&&o.after.toList.all (fun e=>!(Region.binds .any e)||Nat.blt e.on i)
 && (Be AN i).all (fun j=>o.after.toList.any fun e=>Region.binds .any e&&(Nat.beq e.on j||CM (Be AN e.on) j))
 && (slotsOf all o).all (fun t=>(List.range all.length).all fun m=>!(MG (CJ all m) t)||Nat.beq m i||CM (Be AN i) m||CM (Be AN m) i)
 && (match o.guard with|none=>true|some (g,_)=>CM (Be AN i) g&&(CJ all g).isSome)
 && (match o.dst with|none=>true|some d=>Nat.blt d n&&(List.range all.length).all fun j=>Nat.beq j i||!(MG (CJ all j) d))
 && (CM AS i||(Be AN i).all (fun j=>!CM AS j)||AS.all (fun j=>CM (Be AN i) j)||Gs.any (fun E=>AS.all fun j=>CM (Be AN i) j==CM E j))
def L8(n:Nat)(all:List Oper)(AS:List Nat)(AN:List (List Nat))(Gs:List (List Nat)):Bool:=
 Nat.ble AN.length all.length
 && (List.range all.length).all (fun i=>match all[i]? with|some o=>fK n all AS AN Gs i o|none=>true)
 && (List.range AN.length).all (fun i=>(Be AN i).all fun j=>(Be AN j).all fun m=>CM (Be AN i) m)
 && AS.any (fun k=>Nat.blt k all.length&&(Be AN k).all fun j=>!CM AS j)
 && AS.all (fun k=>Nat.blt k all.length)
theorem LL{a b:Nat}:Nat.blt a b=true↔a<b:=⟨fun h=>lS h,fun h=>mr (show a+1<=b from h)⟩
theorem beq_iff{a b:Nat}:Nat.beq a b=true↔a=b:=⟨ka,fun h=>by subst h;simp⟩
theorem Wb{AN:List (List Nat)}:∀{i:Nat},AN.length<=i->Be AN i=[]:=by
 induction AN with
 |nil=>intro i _;rfl
 |cons a r j=>intro i h;cases i with
  |zero=>simp at h
  |succ i=>exact j (by simpa using h)
theorem NZ{d:Option Nat}{t:Nat}:MG d t=true↔d=some t:=by
 cases d with
 |none=>simp[MG]
 |some x=>simp[MG]
theorem On{n:Nat}{all:List Oper}{AS:List Nat}{AN:List (List Nat)}{Gs:List (List Nat)}(h:L8 n all AS AN Gs=true):L3 n all AS AN Gs:=by
 simp only[L8,TC,kU,ly] at h;obtain⟨⟨⟨⟨h0,h1⟩,X⟩,V⟩,Y⟩:=h;have Z:AN.length<=all.length:=lS h0;have one:∀(i:Nat) o,all[i]?=some o->fK n all AS AN Gs i o=true:=fun i o hi=>by
  have:=h1 i (Bp.1 hi).1;rw[hi] at this;exact this
 have B:=fun(i:Nat) (o:Oper) (hi:all[i]?=some o)=>by
  have:=one i o hi;unfold fK at this;simp only[TC] at this;exact this
 have O:∀(m:Nat) o',all[m]?=some o'->CJ all m=o'.dst:=fun m o' hm=>by rw[CH,hm];rfl
 refine⟨?_,?_,?_,?_,?_,?_,?_,?_,?_,?_,?_⟩
 .intro i o hi cs b heq;have:=(B i o hi).1.1.1.1.1.1;rw[bq,heq] at this;cases this
 .intro i o hi e he hb;have:=(B i o hi).1.1.1.1.1.2;simp only[kU] at this;have:=this e (by simpa using he);rw[hb] at this;simpa[LL] using this
 .intro i o hi j I;have:=(B i o hi).1.1.1.1.2;simp only[kU] at this;have:=this j I;simp only[ny,TC,mQ] at this;obtain⟨e,he,hb,hc⟩:=this;refine⟨e,by simpa using he,hb,?_⟩;rcases hc with hc|hc
  .exact .inl (beq_iff.1 hc)
  .exact .inr (Aa.1 hc)
 .intro i j I m hm;by_cases hi:i<AN.length
  .have:=X i hi j I;exact Aa.1 (this m hm)
  .rw[Wb (by omega)] at I;cases I
 .intro i o hi t ht m o' hm Q S;have:=(B i o hi).1.1.1.2;simp only[kU,ly] at this;have:=this t ht m (Bp.1 hm).1;have he:MG (CJ all m) t=true:=NZ.2 ((O m o' hm).trans Q);simp only[he,Bool.not_true,Bool.false_or,mQ,Aa] at this;rcases this with(h|h)|h
  .exact(S (beq_iff.1 h)).elim
  .exact .inl h
  .exact .inr h
 .intro i o hi g b hg;have:=(B i o hi).1.1.2;rw[hg] at this;simp only[TC,Aa,jV] at this;exact this
 .intro i j o o' hi I d Q T;have:=(B i o hi).1.2;rw[Q] at this;simp only[TC,kU,ly] at this;have:=this.2 j (Bp.1 I).1;have he:MG (CJ all j) d=true:=NZ.2 ((O j o' I).trans T);simp only[he,Bool.not_true,Bool.or_false] at this;exact(beq_iff.1 this).symm
 .intro i hi U;have:=(B i all[i] (by simp[hi])).2;have hm:CM AS i=false:=by cases hm:CM AS i with|false=>rfl|true=>exact(U (Aa.1 hm)).elim
  simp only[hm,Bool.false_or,mQ,kU,ny] at this;rcases this with(h|h)|⟨E,hE,h⟩
  .exact .inl fun j I J=>by have:=h j I;rw[Aa.2 J] at this;cases this
  .exact .inr (.inl fun j I=>Aa.1 (h j I))
  .refine .inr (.inr ⟨E,hE,fun j I=>?_⟩);have:=h j I;simp only[nV] at this;rw[<-Aa,<-Aa,this]
 .simp only[ny,TC,kU] at V;obtain⟨k,hk,hl,hn⟩:=V;exact⟨k,hk,LL.1 hl,fun j I J=>by have:=hn j I;rw[Aa.2 J] at this;cases this⟩
 .exact fun k hk=>LL.1 (Y k hk)
 .intro i o hi d Q;have:=(B i o hi).1.2;rw[Q] at this;simp only[TC] at this;exact LL.1 this.1
def SO(P:Program)(ok:Nat->Bool)(n:Nat)(all:List Oper)(AS:List Nat)(AN:List (List Nat))(e0:Env)(w0:World)(A:Nat->Value->World->Prop)(M:Nat->Nat->Prop)(j:Nat->Addr->Value->Prop)(i:Prop):List Nat->Prop
 |[]=>i
 | k :: ks=>(match all[k]? with
   |some o=>∀w,Mod (ZK AS M k) w0 w->Dw P ok n all AS A j w (GW AS AN (DL AS (Be AN k))) (Ww P ok n all A M w k o) all 0 [] e0
   | none=>False)/\SO P ok n all AS AN e0 w0 A M j i ks
def OI(P:Program)(ok:Nat->Bool)(n:Nat)(all:List Oper)(AS:List Nat)(AN:List (List Nat))(e0:Env)(w0:World)(A:Nat->Value->World->Prop)(M:Nat->Nat->Prop)(j:Nat->Addr->Value->Prop)(i:Prop):List (List Nat)->Prop
 |[]=>i
 |E::o=>(∀w,Mod (Mi AS M) w0 w->Dw P ok n all AS A j w (GW AS AN E) (fun _ _=>True) all 0 [] e0)/\OI P ok n all AS AN e0 w0 A M j i o
def bC(AS:List Nat)(AN:List (List Nat))(w0:World)(F:(Nat->Value->World->Prop)->(Nat->Nat->Prop)->(Nat->Addr->Value->Prop)->Prop):Prop:=∃A M,cD AS A M w0/\F A M (Ip AS AN M w0)
theorem Vk{ok:Nat->Bool}{n:Nat}{all:List Oper}{AS:List Nat}{AN:List (List Nat)}{e0:Env}{w0:World}{A:Nat->Value->World->Prop}{M:Nat->Nat->Prop}{B:Nat->Addr->Value->Prop}{i:Prop} :
  ∀ks,SO P ok n all AS AN e0 w0 A M B i ks->(∀k∈ks,∀o,all[k]?=some o->∀w,Mod (ZK AS M k) w0 w->Dw P ok n all AS A B w (GW AS AN (DL AS (Be AN k))) (Ww P ok n all A M w k o) all 0 [] e0)/\i:=by
 intro ks;induction ks with
 |nil=>intro h;exact⟨fun k hk=>(nomatch hk),h⟩
 |cons k ks I=>
  rintro⟨h1,J⟩;obtain⟨O,Q⟩:=I J;refine⟨fun S j o E=>?_,Q⟩;rcases I3.1 j with rfl|j
  .rw[E] at h1;exact h1
  .exact O S j o E
theorem TD{ok:Nat->Bool}{n:Nat}{all:List Oper}{AS:List Nat}{AN:List (List Nat)}{e0:Env}{w0:World}{A:Nat->Value->World->Prop}{M:Nat->Nat->Prop}{B:Nat->Addr->Value->Prop}{i:Prop} :
  ∀o,OI P ok n all AS AN e0 w0 A M B i o->(∀E∈o,∀w,Mod (Mi AS M) w0 w->Dw P ok n all AS A B w (GW AS AN E) (fun _ _=>True) all 0 [] e0)/\i:=by
 intro o;induction o with
 |nil=>intro h;exact⟨fun k hk=>(nomatch hk),h⟩
 |cons E o I=>
  rintro⟨h1,J⟩;obtain⟨O,Q⟩:=I J;refine⟨fun S j=>?_,Q⟩;rcases I3.1 j with rfl|j
  .exact h1
  .exact O S j
theorem O5{ds:List Deferred}{ok:Nat->Bool}{n:Nat}{ops:Array Oper}{AS:List Nat}{AN Gs:List (List Nat)}{e0:Env}{K:Env->World->Prop}{a:Act}(B:CP P ok)(hm:P.follows .mixedOrders=true)(O:Fr ds n e0 a)
 (Q:L8 n ops.toList AS AN Gs=true)
 (h:bC AS AN w.drew fun A M E=>SO P ok n ops.toList AS AN e0 w.drew A M E (OI P ok n ops.toList AS AN e0 w.drew A M E (∀w',Mod (Mi AS M) w.drew w'->Dw P ok n ops.toList AS A E w' (fun _=>true) (fun _ e=>K e w') ops.toList 0 [] e0) Gs) AS) :
  wpAny P .any ops (DE ds ops.toList n e0 K) ops.size (Array.replicate ops.size false) a { w with drawn:=w.drawn+1 }:=by
 obtain⟨A,M,I,h⟩:=h;obtain⟨h1,S⟩:=Vk _ h;obtain⟨T,U⟩:=TD _ S;have J:=On Q;have j:gI P ok n ops.toList AS AN Gs e0 w.drew A M K:=⟨I,h1,T,U⟩;refine TP B J j rfl ops.size (Array.replicate ops.size false) a _ (fun _=>undef) (by simp) ?_ ?_
 .simp
 .have o:∀m:Nat,¬(Array.replicate ops.size false).getD m false=true:=fun m=>by
   simp only[ky,nJ];split<;>simp
  refine⟨?_,Mod.refl _ _,Mod.refl _ _,fun _ _ _=>Mod.refl _ _,fun i _ hi=>(o i hi).elim,fun i _ _ hi=>(o i hi).elim,fun i _ _ hi=>(o i hi).elim⟩;have:BU ops.toList n e0 (fun _=>undef) (fun m=>(Array.replicate ops.size false).getD m false=true/\m<ops.toList.length)=e0:=by
   funext t;exact Cb fun m hm _=>(o m hm.1).elim
  rw[this];exact O
section
variable (P:Program)(ok:Nat->Bool)(n:Nat)
def Fe(AS:List Nat)(M:Nat->Nat->Prop)(j:Nat->Addr->Value->Prop)(_:World)(o:Oper)(i:Nat)(ρ:Operand->Value)(k:Cont)(w:World):Prop:=
 bif CM AS i then FB P ok o ρ (fun v w'=>Mod (M i) w w'/\k v w') w
 else Jv P ok AS (fun _ _ _=>True) (j i) w o i ρ fun v=>k v w
def Cu(all:List Oper)(AS:List Nat)(M:Nat->Nat->Prop)(B:Nat->Addr->Value->Prop)(w0:World)(K:Env->World->Prop):List Oper->Nat->List (Nat×Option Bool)->Env->World->Prop
 |[],_,_,e,w=>K e w
 |o::r,i,kn,e,w=>
  match o.guard with
  |none=>Fe P ok AS M B w0 o i (ev e) (fun v w'=>Cu all AS M B w0 K r (i+1) kn (BN n e o.dst v) w') w
  |some (j,E)=>match Cz kn j with
   |some (some b)=>bif Lt b E then Fe P ok AS M B w0 o i (ev e) (fun v w'=>Cu all AS M B w0 K r (i+1) kn (BN n e o.dst v) w') w
     else Cu all AS M B w0 K r (i+1) ((i,none)::kn) (BN n e o.dst undef) w
   |some none=>Cu all AS M B w0 K r (i+1) ((i,none)::kn) (BN n e o.dst undef) w
   |none=>match CJ all j with
    |some d=>AD (e d)
      (bif E then Fe P ok AS M B w0 o i (ev (Eg n e d (.bool true))) (fun v w'=>Cu all AS M B w0 K r (i+1) ((j,some true) :: kn) (BN n (Eg n e d (.bool true)) o.dst v) w') w
       else Cu all AS M B w0 K r (i+1) ((i,none) :: (j,some true) :: kn) (BN n (Eg n e d (.bool true)) o.dst undef) w)
      (bif E then Cu all AS M B w0 K r (i+1) ((i,none) :: (j,some false) :: kn) (BN n (Eg n e d (.bool false)) o.dst undef) w
       else Fe P ok AS M B w0 o i (ev (Eg n e d (.bool false))) (fun v w'=>Cu all AS M B w0 K r (i+1) ((j,some false) :: kn) (BN n (Eg n e d (.bool false)) o.dst v) w') w)
    |none=>False
def Ay(AS:List Nat)(AN:List (List Nat))(w0:World)(F:(Nat->Nat->Prop)->(Nat->Addr->Value->Prop)->Prop):Prop:=∃M,F M (Ip AS AN M w0)
def LQ(AS:List Nat)(AN:List (List Nat)):Bool:=AS.all fun k=>AS.all fun j=>Nat.ble k j||CM (Be AN k) j
end
section
variable {P:Program}{ds:List Deferred}{ok:Nat->Bool}{n:Nat}{all:List Oper}{AS:List Nat}{AN Gs:List (List Nat)}{e0:Env}{w0:World}{M:Nat->Nat->Prop}{K:Env->World->Prop}
/-- what stands at a place of the text: carried out, or passed over -/
theorem Lu(hG : L3 n all AS AN Gs){o : Oper}{J : List Oper}{kn : List (Nat×Option Bool)}{e : Env}(V : all[i]? = some o)(O : ∀p∈kn, p.1<i)(hk : Dk all kn e)
   (h : Cu P ok n all AS M (Ip AS AN M w0) w0 K (o::J) i kn e w) :
    ∃T, (∀p∈T, p.1<i) /\ Dk all T e /\
      ((An all e o /\ Fe P ok AS M (Ip AS AN M w0) w0 o i (ev e) (fun v w' => Cu P ok n all AS M (Ip AS AN M w0) w0 K J (i + 1) T (BN n e o.dst v) w') w) \/
       (¬ An all e o /\ Cu P ok n all AS M (Ip AS AN M w0) w0 K J (i + 1) ((i, none) :: T) (BN n e o.dst undef) w)) := by
  have a1 : i<all.length := (Bp.1 V).1;unfold Cu at h;cases E : o.guard with
  |none =>
    simp only[E] at h;exact⟨kn, O, hk, .inl ⟨(fun g b Q => by rw[E] at Q; cases Q), h⟩⟩
  |some gb =>
    obtain⟨g, j⟩ := gb;simp only[E] at h;have a6 : g<i := hG.lt a1 (hG.guard i o V g j E).1;have wt : yv all e g = some j -> An all e o := fun B g' b' Q => by rw[E] at Q; cases Q; exact B
    have Z : yv all e g ≠ some j -> ¬An all e o := fun B hw => B (hw g j E);cases X : Cz kn g with
    |some b =>
      have B := hk g b X;simp only[X] at h;cases b with
      |none => exact⟨kn, O, hk, .inr ⟨Z (by rw[B]; simp), h⟩⟩
      |some b =>
        simp only[HD] at h;cases U : (b==j) with
        |true =>
          simp only[U, kA] at h;have : b = j := by simpa using U
          exact⟨kn, O, hk, .inl ⟨wt (by rw[B, this]), h⟩⟩
        |false =>
          simp only[U, kF] at h;have : b ≠ j := by simpa using U
          exact⟨kn, O, hk, .inr ⟨Z (by rw[B]; simp[this]), h⟩⟩
    |none =>
      simp only[X] at h;obtain⟨d, hd⟩ := (hG.guard i o V g j E).2;simp only[hd] at h;have Y : yv all e g = bv (e d) := by simp[yv, hd]
      have I : ∀b, ∀p∈(g, b)::kn, p.1<i := fun b p hp => by
        rcases I3.1 hp with rfl|hp
        . exact a6
        . exact O p hp
      rcases EU h with⟨S, hb⟩|⟨S, hb⟩
      . have B : yv all e g = some true := by rw[Y, S]; rfl
        rw[Cq S] at hb;cases j with
        |true => simp only[kA] at hb; exact⟨_, I _, hk.cons B, .inl ⟨wt B, hb⟩⟩
        |false => simp only[kF] at hb; exact⟨_, I _, hk.cons B, .inr ⟨Z (by rw[B]; simp), hb⟩⟩
      . have B : yv all e g = some false := by rw[Y, S]; rfl
        rw[Cq S] at hb;cases j with
        |true => simp only[kA] at hb; exact⟨_, I _, hk.cons B, .inr ⟨Z (by rw[B]; simp), hb⟩⟩
        |false => simp only[kF] at hb; exact⟨_, I _, hk.cons B, .inl ⟨wt B, hb⟩⟩
theorem Kq{r:Result Next}{K:Cont}(h:Eo w r K P):∃v w',K v w':=by
 match r,h with
 |.ok (.value v) w',h=>exact⟨_,_,h⟩
 |.ok .skip w',h=>exact⟨_,_,h⟩
 |.ok (.enter f args) w',h=>
  obtain⟨_,hc⟩:=h;obtain⟨e,i,fr,⟨v,_,j⟩,_⟩:=hc [];exact⟨v,i,j⟩
theorem N6(B:L3 n all AS AN Gs){o:Oper}(j:all[i]?=some o){e:Env}:yv all (BN n e o.dst undef) i=none:=by
 unfold yv;rw[CH,j];simp only[ou];cases E:o.dst with
 |none=>rfl
 |some d=>
  have:=B.bound i o j d E;have hb:Nat.blt d n=true:=mr (show d+1<=n from this);simp[BN,Eg,hb];rfl
theorem JF(b7:CP P ok)(U:L3 n all AS AN Gs){L:Nat->Prop}(hL:∀i,i<all.length->L i->∀j∈Be AN i,L j) :
  ∀(d p:Nat) (kn:List (Nat×Option Bool)) (vals:Nat->Value) (w:World),(∀q∈kn,q.1<p)->Dk all kn (BU all n e0 vals (fun m=>m<p))->
   (∀(m:Nat) o,all[m]?=some o->(m<p\/L m)->m∉AS->Gd P all AS AN n e0 w0 M vals m o)->
   p+d<=all.length->(∀j∈AS,p<=j->j<p+d->¬L j)->
   Cu P ok n all AS M (Ip AS AN M w0) w0 K (all.drop p) p kn (BU all n e0 vals (fun m=>m<p)) w->
   ∃vals' B w',(∀m,(m<p\/L m)->vals' m=vals m)/\(∀q∈B,q.1<p+d)/\Dk all B (BU all n e0 vals' (fun m=>m<p+d))/\
    (∀(m:Nat) o,all[m]?=some o->(m<p+d\/L m)->m∉AS->Gd P all AS AN n e0 w0 M vals' m o)/\((∀j∈AS,p<=j->¬j<p+d)->w'=w)/\
    Cu P ok n all AS M (Ip AS AN M w0) w0 K (all.drop (p+d)) (p+d) B (BU all n e0 vals' (fun m=>m<p+d)) w':=by
 intro d;induction d with
 |zero=>intro p kn vals w h1 h2 h3 _ _ h;exact⟨vals,kn,w,fun _ _=>rfl,h1,h2,h3,fun _=>rfl,h⟩
 |succ d ih=>
  intro p kn vals w b8 hk hg bl al h;have Y:p<all.length:=by omega
  have E:all[p]?=some all[p]:=by simp[Y]
  generalize all[p]=o at E;have a7:all.drop p=o::all.drop (p+1):=by
   rw[lA Y];congr 1
   have:=By Y;rw[E] at this;exact(kK this).symm
  rw[a7] at h;obtain⟨Z,O,a1,h⟩:=Lu U E b8 hk h;have an:∀t∈slotsOf all o,BU all n e0 vals (fun m=>m<p) t=view all AN n e0 vals p t:=
   Ek U E (fun j hj=>U.lt Y hj) (fun m hm a8 bn=>by have:=U.lt hm a8;omega) (fun h=>by omega)
  have I:=LN U E O;have next:∀(v:Value) (B:List (Nat×Option Bool)) (w1:World),(L p->v=vals p)->(∀q∈B,q.1<p+1)->Dk all B (BN n (BU all n e0 vals (fun m=>m<p)) o.dst v)->
    (p∉AS->(An all (view all AN n e0 vals p) o->En P (Jb AS AN p) M w0 o (view all AN n e0 vals p) v)/\(¬An all (view all AN n e0 vals p) o->v=undef))->
    (p∉AS->w1=w)->Cu P ok n all AS M (Ip AS AN M w0) w0 K (all.drop (p+1)) (p+1) B (BN n (BU all n e0 vals (fun m=>m<p)) o.dst v) w1->
    ∃vals' B w',(∀m,(m<p\/L m)->vals' m=vals m)/\(∀q∈B,q.1<p+(d+1))/\Dk all B (BU all n e0 vals' (fun m=>m<p+(d+1)))/\
     (∀(m:Nat) o,all[m]?=some o->(m<p+(d+1)\/L m)->m∉AS->Gd P all AS AN n e0 w0 M vals' m o)/\((∀j∈AS,p<=j->¬j<p+(d+1))->w'=w)/\
     Cu P ok n all AS M (Ip AS AN M w0) w0 K (all.drop (p+(d+1))) (p+(d+1)) B (BU all n e0 vals' (fun m=>m<p+(d+1))) w':=by
   intro v B w1 av ax ay b9 ba hc;have b0:BN n (BU all n e0 vals (fun m=>m<p)) o.dst v=BU all n e0 (fun q=>if q=p then v else vals q) (fun m=>m<p+1):=
    FL U E (fun m=>by omega) (fun m _ a8=>by simp[a8]) (by simp) (by omega)
   rw[b0] at ay hc;have bb:∀m,m<all.length->(m<p+1\/L m)->view all AN n e0 (fun q=>if q=p then v else vals q) m=view all AN n e0 vals m:=fun m hm Q=>
    CR U fun j hj=>by
     by_cases b3:j=p
     .subst b3;rcases Q with Q|Q
      .have:=U.lt hm hj;omega
      .simp[av (hL m hm Q j hj)]
     .simp[b3]
   obtain ⟨vals',bc,w',r1,r2,r3,r4,r5,r6⟩:=ih (p+1) B (fun q=>if q=p then v else vals q) w1 ax ay (fun m o' hm Q a6=>by
     have bd:m<all.length:=(Bp.1 hm).1;unfold Gd;rw[bb m bd Q];by_cases V:m=p
     .subst V;rw[E] at hm;cases hm;simp only[km];exact b9 a6
     .have:=hg m o' hm (Q.imp (fun h=>by omega) id) a6;unfold Gd at this;simpa [V] using this) (by omega) (fun j hj h1 h2=>al j hj (by omega) (by omega)) hc
   have e1:p+1+d=p+(d+1):=by omega
   rw[e1] at r2 r3 r4 r5 r6;refine⟨vals',bc,w',fun m hm=>?_,r2,r3,r4,fun b4=>?_,r6⟩
   .rw[r1 m (hm.imp (fun h=>by omega) id)];by_cases V:m=p
    .subst V;rcases hm with hm|hm
     .omega
     .simp[av hm]
    .simp[V]
   .rw[r5 fun j hj h1 h2=>b4 j hj (by omega) h2];exact ba fun J=>b4 p J (Lc _) (by omega)
  have S:=CI U E an;by_cases J:p∈AS
  .have b5:¬L p:=al p J (Lc _) (by omega);rcases h with⟨hw,T⟩|⟨hw,T⟩
   .unfold Fe at T;rw[Aa.2 J] at T;simp only[kA] at T;obtain⟨v,w1,bp,bk⟩:=Kq (JD b7 (fun _=>rfl) (fun _=>rfl) T);exact next v Z w1 (fun h=>(b5 h).elim) (fun q X=>by have:=O q X;omega) (a1.put I _) (fun h=>(h J).elim) (fun h=>(h J).elim) bk
   .exact next undef ((p,none) :: Z) w (fun h=>(b5 h).elim) (fun q X=>by
     rcases I3.1 X with rfl|X
     .simp
     .have:=O q X;omega) ((a1.put I _).cons (N6 U E)) (fun h=>(h J).elim) (fun _=>rfl) T
  .have hm:CM AS p=false:=by cases hm:CM AS p with|false=>rfl|true=>exact(J (Aa.1 hm)).elim
   rcases h with⟨hw,T⟩|⟨hw,T⟩
   .unfold Fe at T;rw[hm] at T;simp only[kF] at T;obtain⟨v,h1,h2⟩:=KP hm T;have b6:En P (Jb AS AN p) M w0 o (view all AN n e0 vals p) v:=h2.congr (U.Ju p o E) fun t ht=>an t (Cn ht);refine next v Z w (fun ak=>?_) (fun q X=>by have:=O q X;omega) (a1.put I _) (fun _=>⟨fun _=>b6,fun hn=>(hn (S.1 hw)).elim⟩) (fun _=>rfl) h1;exact b6.iu ((hg p o E (.inr ak) J).1 (S.1 hw))
   .refine next undef ((p,none) :: Z) w (fun ak=>((hg p o E (.inr ak) J).2 fun h=>hw (S.2 h)).symm) (fun q X=>by
     rcases I3.1 X with rfl|X
     .simp
     .have:=O q X;omega) ((a1.put I _).cons (N6 U E)) (fun _=>⟨fun h=>(hw (S.2 h)).elim,fun _=>rfl⟩) (fun _=>rfl) T
structure Um (P:Program) (ds:List Deferred) (ok:Nat->Bool) (n:Nat) (all:List Oper) (AS:List Nat) (AN:List (List Nat)) (e0:Env) (w0:World) (M:Nat->Nat->Prop) (K:Env->World->Prop) (L:Nat->Prop) (a:Act) (w:World):Prop where
 ex:∃(p:Nat) (vals:Nat->Value) (kn:List (Nat×Option Bool)),
  Fr ds n (BU all n e0 vals (fun m=>L m/\m<all.length)) a/\p<=all.length/\(∀q∈kn,q.1<p)/\Dk all kn (BU all n e0 vals (fun m=>m<p))/\
  (∀(m:Nat) o,all[m]?=some o->(m<p\/L m)->m∉AS->Gd P all AS AN n e0 w0 M vals m o)/\(∀j∈AS,L j↔j<p)/\
  Cu P ok n all AS M (Ip AS AN M w0) w0 K (all.drop p) p kn (BU all n e0 vals (fun m=>m<p)) w
 mod:Mod (fun b=>∃j∈AS,L j/\M j b) w0 w
 closed:∀i,i<all.length->L i->∀j∈Be AN i,L j
theorem RI(bl:CP P ok)(Q:L3 n all AS AN Gs)(ch:LQ AS AN=true){ops:Array Oper}(b5:ops.toList=all) :
  ∀(fuel:Nat) (B:Array Bool) (a:Act) (w:World),B.size=ops.size->B.toList.count false<=fuel->Um P ds ok n all AS AN e0 w0 M K (fun m=>B.getD m false=true) a w->
   wpAny P .any ops (DE ds all n e0 K) fuel B a w:=by
 have e6:ops.size=all.length:=by rw[<-b5];simp
 have b6:∀i:Nat,ops[i]?=all[i]?:=fun i=>by rw[<-b5];simp
 have cn:∀(B:Array Bool) (i:Nat),i∈Region.ready .any ops B->∃o,all[i]?=some o/\B.getD i true=false/\∀e∈o.after,Region.binds .any e=true->B.getD e.on false=true:=by
  intro B i hi;obtain⟨h1,o,h2,h3⟩:=px.1 hi;exact⟨o,by rw[<-b6];exact h2,h1,h3⟩
 have an:∀j∈AS,∀k∈AS,j<k->j∈Be AN k:=by
  intro j I k hk ej;simp only[LQ,kU] at ch;have:=ch k hk j I;simp only[mQ,Aa] at this;rcases this with h|h
  .have:=lS h;omega
  .exact h
 have fin:∀(B:Array Bool) (a:Act) (w:World),B.size=ops.size->Um P ds ok n all AS AN e0 w0 M K (fun m=>B.getD m false=true) a w->Region.ready .any ops B=[]->DE ds all n e0 K .normal a w:=by
  intro B a w b7 Z hr;have ak:∀i,i<all.length->B.getD i false=true:=by
   intro i;induction i using Nat.strongRecOn with
   |_ i ih=>
    intro hi;cases hc:B.getD i false with
    |true=>rfl
    |false=>
     have:i∈Region.ready .any ops B:=by
      refine px.2 ⟨?_,all[i],by rw[b6];simp[hi],fun e he hb=>?_⟩
      .have:i<B.size:=by omega
       simp[this] at hc ⊢;exact hc
      .have:=Q.back i all[i] (by simp[hi]) e he hb;exact ih e.on this (by omega)
     rw[hr] at this;cases this
  obtain⟨p,vals,kn,b8,cv,b9,hk,hg,I,hc⟩:=Z.ex;have T:∀j∈AS,p<=j->¬j<p+(all.length-p):=fun j O b3 b4=>by
   have:=(I j O).1 (ak j (by omega));omega
  obtain⟨vals',cx,w',r1,r2,r3,r4,r5,r6⟩:=JF (L:=fun m=>B.getD m false=true) bl Q Z.closed (all.length-p) p kn vals w b9 hk hg (by omega) (fun j O b3 b4=>(T j O b3 b4).elim) hc;have e1:p+(all.length-p)=all.length:=by omega
  rw[e1] at r6;rw[mU] at r6;have hw:w'=w:=r5 T;subst hw;have av:BU all n e0 vals' (fun m=>m<all.length)=BU all n e0 vals (fun m=>B.getD m false=true/\m<all.length):=by
   funext t
   exact DY Q fun m hm _=>⟨⟨fun h=>⟨ak m hm,hm⟩,fun h=>hm⟩,fun _=>r1 m (.inr (ak m hm))⟩
  unfold Cu at r6;rw[av] at r6;refine⟨rfl,_,b8,fun j I=>Cb fun m _ hm hd=>?_,r6⟩;have e7:all[m]?=some all[m]:=by simp[hm]
  rw[CH,e7] at hd;exact I all[m] (by simp) hd
 intro fuel;induction fuel with
 |zero=>
  intro B a w b7 hc Z;have hr:Region.ready .any ops B=[]:=by
   cases hr:Region.ready .any ops B with
   |nil=>rfl
   |cons i r=>
    exfalso;obtain⟨o,h1,h2,_⟩:=cn B i (by rw[hr];simp);have a1:i<B.size:=by have:=(Bp.1 h1).1;omega
    simp[a1] at h2;have:false∈B.toList:=by rw[<-h2];simp
    have:=oJ.2 this;omega
  exact⟨hr,fin B a w b7 Z hr⟩
 |succ fuel ih=>
  intro B a w b7 hc Z;refine⟨fin B a w b7 Z,fun i hi=>?_⟩;obtain⟨o,J,bn,bp⟩:=cn B i hi;have a1:i<all.length:=(Bp.1 J).1;have ax:i<B.size:=by omega
  have a6:¬B.getD i false=true:=by simp[ax] at bn ⊢;exact bn
  have a7:∀j∈Be AN i,B.getD j false=true:=by
   intro j I;obtain⟨e,he,hb,h1⟩:=Q.iT i o J j I;have hL:=bp e he hb;rcases h1 with rfl|h1
   .exact hL
   .exact Z.closed e.on (by have:=Q.back i o J e he hb;omega) hL j h1
  obtain⟨p,vals,kn,b8,cv,b9,hk,hg,I,c7⟩:=Z.ex;have c8:∀t∈slotsOf all o,BU all n e0 vals (fun m=>B.getD m false=true/\m<all.length) t=view all AN n e0 vals i t:=
   Ek Q J (fun j I=>⟨a7 j I,by have:=Q.lt a1 I;omega⟩) (fun m hm E dk=>a6 (Z.closed m hm dk.1 i E)) (fun h=>a6 h.1)
  have dv:=b8.eval;have U:(Region.wanted o (yielded ops a.tmps)=true)↔An all (view all AN n e0 vals i) o:=by
   rw[<-CI Q J c8];unfold Region.wanted An;cases hg:o.guard with
   |none=>simp
   |some gb=>
    obtain⟨g,b⟩:=gb;have:=GC b8 (ops:=ops) (j:=g);rw[b5] at this;simp only[this,nV];constructor
    .rintro h g' b' heq;cases heq;exact h
    .intro h;exact h g b rfl
  have dT:∀m,(B.setIfInBounds i true).getD m false=true↔(B.getD m false=true\/m=i):=by
   intro m;simp only[ky,mh];by_cases E:i=m
   .subst E;simp[ax]
   .simp[E,mW E]
  have e2:(B.setIfInBounds i true).toList.count false<=fuel:=by
   have hb:B.toList[i]'(by simpa using ax)=false:=by simp[ax] at bn;simpa using bn
   have:(B.setIfInBounds i true).toList.count false+1=B.toList.count false:=by
    rw[ns];exact FV B.toList i (by rw[<-hb];simp)
   omega
  have bx:∀m,m<all.length->(B.getD m false=true\/m=i)->∀j∈Be AN m,(B.getD j false=true\/j=i):=by
   rintro m hm (e8|rfl) j I
   .exact .inl (Z.closed m hm e8 j I)
   .exact .inl (a7 j I)
  have put:∀(vals':Nat->Value) (v:Value),(∀m,B.getD m false=true->vals' m=vals m)->vals' i=v->
    Fr ds n (BU all n e0 vals' (fun m=>(B.getD m false=true\/m=i)/\m<all.length)) (a.put o.dst v):=by
   intro vals' v h1 h2;rw[<-FL Q (vals:=vals) (S:=fun m=>B.getD m false=true/\m<all.length) (v:=v) J (fun m=>?_) (fun m hm E=>h1 m hm.1) h2 (fun hh=>a6 hh.1)]
   .exact b8.put o.dst v
   .constructor
    .rintro⟨h1|h1,h2⟩
     .exact .inl ⟨h1,h2⟩
     .exact .inr h1
    .rintro(⟨h1,h2⟩|rfl)
     .exact⟨.inl h1,h2⟩
     .exact⟨.inr rfl,a1⟩
  have go:∀(v:Value) (w':World),Um P ds ok n all AS AN e0 w0 M K (fun m=>B.getD m false=true\/m=i) (a.put o.dst v) w'->wpAny P .any ops (DE ds all n e0 K) fuel (B.setIfInBounds i true) (a.put o.dst v) w':=by
   intro v w' h1;refine ih _ _ _ (by simpa using b7) e2 ?_;have:(fun m=>(B.setIfInBounds i true).getD m false=true)=(fun m=>B.getD m false=true\/m=i):=by
    funext m;exact propext (dT m)
   rw[this];exact h1
  unfold wpOp;rw[b6 i,J];simp only;have ba:∀(vals':Nat->Value),(∀m,B.getD m false=true->vals' m=vals m)->view all AN n e0 vals' i=view all AN n e0 vals i:=fun vals' h=>CR Q fun j I=>h j (a7 j I);by_cases V:i∈AS
  .have e9:p<=i:=by
    rcases qB i p with h|h
    .exact(a6 ((I i V).2 h)).elim
    .exact h
   have T:∀j∈AS,p<=j->¬j<p+(i-p):=fun j O b3 b4=>by
    have h1:=a7 j (an j O i V (by omega));have:=(I j O).1 h1;omega
   obtain⟨vals',cx,w',r1,r2,r3,r4,r5,r6⟩:=JF (L:=fun m=>B.getD m false=true) bl Q Z.closed (i-p) p kn vals w b9 hk hg (by omega) (fun j O b3 b4=>(T j O b3 b4).elim) c7;have hw:w'=w:=r5 T;subst hw;have e1:p+(i-p)=i:=by omega
   rw[e1] at r2 r3 r4 r6;have c9:all.drop i=o::all.drop (i+1):=by
    rw[lA a1];congr 1
    have:=By a1;rw[J] at this;exact(kK this).symm
   rw[c9] at r6;obtain⟨e3,bb,e4,h6⟩:=Lu Q J r2 r3 r6;have hv:=ba vals' fun m hm=>r1 m (.inr hm);have c4:∀t∈slotsOf all o,BU all n e0 vals' (fun m=>m<i) t=view all AN n e0 vals i t:=fun t ht=>by
    rw[Ek Q J (fun j I=>Q.lt a1 I) (fun m hm E dk=>by have:=Q.lt hm E;omega) (fun h=>by omega) t ht,hv]
   have ay:=LN Q J bb;have c6:=CI Q J c4;have b0:∀(v:Value) (w1:World) (bc:List (Nat×Option Bool)),(∀q∈bc,q.1<i+1)->Dk all bc (BN n (BU all n e0 vals' (fun m=>m<i)) o.dst v)->Mod (fun b=>∃j∈AS,(B.getD j false=true\/j=i)/\M j b) w0 w1->
     Cu P ok n all AS M (Ip AS AN M w0) w0 K (all.drop (i+1)) (i+1) bc (BN n (BU all n e0 vals' (fun m=>m<i)) o.dst v) w1->Um P ds ok n all AS AN e0 w0 M K (fun m=>B.getD m false=true\/m=i) (a.put o.dst v) w1:=by
    intro v w1 bc h1 h2 h3 h4;have e5:BN n (BU all n e0 vals' (fun m=>m<i)) o.dst v=BU all n e0 (fun q=>if q=i then v else vals' q) (fun m=>m<i+1):=
     FL Q J (fun m=>by omega) (fun m _ E=>by simp[E]) (by simp) (by omega)
    rw[e5] at h2 h4;refine⟨⟨i+1,fun q=>if q=i then v else vals' q,bc,put _ v (fun m hm=>?_) (by simp),by omega,h1,h2,?_,?_,h4⟩,h3,bx⟩
    .have:m≠i:=by rintro rfl;exact a6 hm
     simp[this,r1 m (.inr hm)]
    .intro m o' hm ca bs;have al:m<all.length:=(Bp.1 hm).1;have E:m≠i:=by rintro rfl;exact bs V
     have a8:m<i\/B.getD m false=true:=by
      rcases ca with h|h|h
      .exact .inl (by omega)
      .exact .inr h
      .exact(E h).elim
     refine Gd.Ji Q al (fun j I=>?_) (by simp[E]) (r4 m o' hm a8 bs);have:j≠i:=by
      rintro rfl;rcases a8 with h|h
      .have:=Q.lt al I;omega
      .exact a6 (Z.closed m al h j I)
     simp[this]
    .intro j O;rw[I j O];constructor
     .rintro(h|rfl)<;>omega
     .intro h;by_cases bd:j=i
      .exact .inr bd
      .exact .inl ((I j O).1 (a7 j (an j O i V (by omega))))
   have bk:Mod (fun b=>∃j∈AS,(B.getD j false=true\/j=i)/\M j b) w0 w':=Z.mod.mono fun b _ ⟨j,I,hL,hb⟩=>⟨j,I,.inl hL,hb⟩;by_cases X:An all (view all AN n e0 vals i) o
   .rw[Io (U.2 X)];left;rcases h6 with⟨_,hx⟩|⟨ea,_⟩
    .unfold Fe at hx;rw[Aa.2 V] at hx;simp only[kA] at hx;have ec:=JD bl (fun _=>rfl) (fun _=>rfl) hx;unfold Oper.wp;rw[dv,DP (e':=BU all n e0 vals' (fun m=>m<i)) (Q.Ju i o J) (fun t ht=>by rw[c8 t (Cn ht),c4 t (Cn ht)])];exact Ow ec fun v w1 hv=>go v w1 (b0 v w1 e3 (fun q hq=>by have:=bb q hq;omega) (e4.put ay _) ((bk.trans (hv.1.mono fun b _ hb=>⟨i,V,.inr rfl,hb⟩))) hv.2)
    .exact(ea (c6.2 X)).elim
   .rw[C3 (fun h=>X (U.1 h))];rcases h6 with⟨hw,_⟩|⟨_,hx⟩
    .exact(X (c6.1 hw)).elim
    .exact go undef w' (b0 undef w' ((i,none) :: e3) (fun q hq=>by
      rcases I3.1 hq with rfl|hq
      .simp
      .have:=bb q hq;omega) ((e4.put ay _).cons (N6 Q J)) bk hx)
  .have key:∃v:Value,(i<p->v=vals i)/\(An all (view all AN n e0 vals i) o->En P (Jb AS AN i) M w0 o (view all AN n e0 vals i) v)/\(¬An all (view all AN n e0 vals i) o->v=undef):=by
    rcases qB i p with ed|e9
    .exact⟨vals i,fun _=>rfl,hg i o J (.inl ed) V⟩
    .obtain⟨vals',cx,w',r1,r2,r3,r4,r5,r6⟩:=JF (L:=fun m=>B.getD m false=true) bl Q Z.closed (i+1-p) p kn vals w b9 hk hg (by omega) (fun j O b3 b4 ee=>by have:=(I j O).1 ee;omega) c7;have hv:=ba vals' fun m hm=>r1 m (.inr hm);have:=r4 i o J (.inl (by omega)) V;unfold Gd at this;rw[hv] at this;exact⟨vals' i,fun h=>by omega,this⟩
   obtain⟨v,ef,cc⟩:=key;have inv:Um P ds ok n all AS AN e0 w0 M K (fun m=>B.getD m false=true\/m=i) (a.put o.dst v) w:=by
    have Y:∀m,(m<p\/B.getD m false=true)->(if m=i then v else vals m)=vals m:=by
     intro m hm;by_cases E:m=i
     .subst E;rcases hm with h|h
      .simp[ef h]
      .exact(a6 h).elim
     .simp[E]
    have av:BU all n e0 (fun m=>if m=i then v else vals m) (fun m=>m<p)=BU all n e0 vals (fun m=>m<p):=by
     funext t
     exact DY Q fun m _ _=>⟨nj,fun h=>Y m (.inl h)⟩
    refine⟨⟨p,fun m=>if m=i then v else vals m,kn,put _ v (fun m hm=>Y m (.inr hm)) (by simp),cv,b9,by rw[av];exact hk,?_,?_,by rw[av];exact c7⟩,Z.mod.mono fun b _ ⟨j,I,hL,hb⟩=>⟨j,I,.inl hL,hb⟩,bx⟩
    .intro m o' hm ca bs;have al:m<all.length:=(Bp.1 hm).1;by_cases E:m=i
     .subst E;rw[J] at hm;cases hm;unfold Gd;rw[CR Q (vals':=vals) fun j I=>by have:=Q.lt a1 I;simp[show j≠m by omega]];simp only[km];exact cc
     .have a8:m<p\/B.getD m false=true:=by
       rcases ca with h|h|h
       .exact .inl h
       .exact .inr h
       .exact(E h).elim
      refine Gd.Ji Q al (fun j I=>?_) (by simp[E]) (hg m o' hm a8 bs);have eh:j<p\/B.getD j false=true:=by
       rcases a8 with h|h
       .exact .inl (by have:=Q.lt al I;omega)
       .exact .inr (Z.closed m al h j I)
      exact(Y j eh).symm
    .intro j O;have bd:j≠i:=by rintro rfl;exact V O
     rw[<-I j O];simp[bd]
   have cd:=go v w inv;by_cases X:An all (view all AN n e0 vals i) o
   .rw[Io (U.2 X)];left;unfold Oper.wp;rw[dv,DP (e':=view all AN n e0 vals i) (Q.Ju i o J) (fun t ht=>c8 t (Cn ht)),cc.1 X w (Z.mod.mono fun b _ ⟨j,I,hL,hb⟩=>⟨j,Lo I fun bd=>a6 (Z.closed j (Q.Sm j I) hL i bd),hb⟩)];exact cd
   .rw[C3 (fun h=>X (U.1 h))];have:=cc.2 X;rw[this] at cd;exact cd
theorem QX{ops:Array Oper}{a:Act}(I:CP P ok)(hm:P.follows .mixedOrders=true)(T:Fr ds n e0 a)
 (U:L8 n ops.toList AS AN Gs=true)(J:LQ AS AN=true)
 (h:Ay AS AN w.drew fun M V=>Cu P ok n ops.toList AS M V w.drew K ops.toList 0 [] e0 w.drew) :
  wpAny P .any ops (DE ds ops.toList n e0 K) ops.size (Array.replicate ops.size false) a { w with drawn:=w.drawn+1 }:=by
 obtain⟨M,h⟩:=h;have O:=On U;refine RI (M:=M) (w0:=w.drew) I O J rfl ops.size (Array.replicate ops.size false) a _ (by simp) ?_ ?_
 .simp
 .have E:∀m:Nat,¬(Array.replicate ops.size false).getD m false=true:=fun m=>by
   simp only[ky,nJ];split<;>simp
  have B:∀S:Nat->Prop,(∀m,¬S m)->BU ops.toList n e0 (fun _=>undef) S=e0:=fun S X=>by
   funext t;exact Cb fun m hm _=>(X m hm).elim
  refine⟨⟨0,fun _=>undef,[],?_,Nn _,fun q Y=>(nomatch Y),fun j b hb=>by simp[Cz] at hb,fun m o _ Q _=>?_,fun j _=>?_,?_⟩,Mod.refl _ _,fun i _ hi=>(E i hi).elim⟩
  .rw[B _ fun m hm=>E m hm.1];exact T
  .rcases Q with h|h
   .omega
   .exact(E m h).elim
  .exact⟨fun h=>(E j h).elim,fun h=>by omega⟩
  .rw[B _ fun m hm=>by omega];exact h
end
inductive Ord where
 |nil
 |op (i:Nat) (t:Ord)
 |br (a b:Ord)
section
variable (P:Program)(ok:Nat->Bool)(n:Nat)
def Cc(all:List Oper)(AS:List Nat)(M:Nat->Nat->Prop)(B:Nat->Addr->Value->Prop)(w0:World)(K:Env->World->Prop):Ord->List (Nat×Option Bool)->Env->World->Prop
 |.nil,_,e,w=>K e w
 |.br a b,kn,e,w=>Cc all AS M B w0 K a kn e w/\Cc all AS M B w0 K b kn e w
 |.op i r,kn,e,w=>
  match all[i]? with
  |none=>False
  |some o=>match o.guard with
   |none=>Fe P ok AS M B w0 o i (ev e) (fun v w'=>Cc all AS M B w0 K r kn (BN n e o.dst v) w') w
   |some (j,E)=>match Cz kn j with
    |some (some b)=>bif Lt b E then Fe P ok AS M B w0 o i (ev e) (fun v w'=>Cc all AS M B w0 K r kn (BN n e o.dst v) w') w
      else Cc all AS M B w0 K r ((i,none)::kn) (BN n e o.dst undef) w
    |some none=>Cc all AS M B w0 K r ((i,none)::kn) (BN n e o.dst undef) w
    |none=>match CJ all j with
     |some d=>AD (e d)
       (bif E then Fe P ok AS M B w0 o i (ev (Eg n e d (.bool true))) (fun v w'=>Cc all AS M B w0 K r ((j,some true) :: kn) (BN n (Eg n e d (.bool true)) o.dst v) w') w
        else Cc all AS M B w0 K r ((i,none) :: (j,some true) :: kn) (BN n (Eg n e d (.bool true)) o.dst undef) w)
       (bif E then Cc all AS M B w0 K r ((i,none) :: (j,some false) :: kn) (BN n (Eg n e d (.bool false)) o.dst undef) w
        else Fe P ok AS M B w0 o i (ev (Eg n e d (.bool false))) (fun v w'=>Cc all AS M B w0 K r ((j,some false) :: kn) (BN n (Eg n e d (.bool false)) o.dst v) w') w)
     |none=>False
end
def bo(AS:List Nat):Ord->Nat->Bool
 |.nil,_=>false
 |.br a b,i=>bo AS a i||bo AS b i
 |.op j t,i=>Nat.beq j i||(!CM AS j&&bo AS t i)
def iA(AS:List Nat)(AN:List (List Nat))(t:Ord)(pre:List Nat):Bool:=AS.all fun i=>CM pre i||!((Be AN i).all fun j=>!CM AS j||CM pre j)||bo AS t i
def Po(N:Nat)(AS:List Nat)(AN:List (List Nat)):Ord->List Nat->Bool
 |.nil,pre=>(List.range N).all (CM pre)
 |.br a b,pre=>Po N AS AN a pre&&Po N AS AN b pre
 |.op i t,pre=>Nat.blt i N&&!CM pre i&&(Be AN i).all (CM pre)&&(bif CM AS i then iA AS AN t (i::pre) else true)&&Po N AS AN t (i::pre)
def SY(N:Nat)(AS:List Nat)(AN:List (List Nat))(t:Ord):Bool:=iA AS AN t []&&Po N AS AN t []
inductive Reach:Ord->List Nat->Ord->Prop where
 |refl (t:Ord):Reach t [] t
 |op {i:Nat} {t t':Ord} {A:List Nat}:Reach t A t'->Reach (.op i t) (i::A) t'
 |l {a b t':Ord} {A:List Nat}:Reach a A t'->Reach (.br a b) A t'
 |r {a b t':Ord} {A:List Nat}:Reach b A t'->Reach (.br a b) A t'
theorem GB{l:List Nat}:CM l i=false↔i∉l:=by
 rw[<-Aa];cases CM l i<;>simp
theorem Qs{N:Nat}{AS:List Nat}{AN:List (List Nat)}{t:Ord}{pre:List Nat}(h:Po N AS AN (.op i t) pre=true) :
  i<N/\i∉pre/\(∀j∈Be AN i,j∈pre)/\(i∈AS->iA AS AN t (i::pre)=true)/\Po N AS AN t (i::pre)=true:=by
 simp only[Po,TC,kU,oZ,GB,Aa] at h;obtain⟨⟨⟨⟨h1,B⟩,E⟩,o⟩,I⟩:=h;refine⟨lS h1,B,E,fun hi=>?_,I⟩;rw[Aa.2 hi] at o;exact o
theorem Ih{N:Nat}{AS:List Nat}{AN:List (List Nat)}{t t':Ord}{A:List Nat}(h:Reach t A t'):∀{pre:List Nat},Po N AS AN t pre=true->Po N AS AN t' (A.reverse++pre)=true/\∀j∈A,j∉pre:=by
 induction h with
 |refl t=>intro pre h;exact⟨h,fun j i=>(nomatch i)⟩
 |op _ o=>
  intro pre h;obtain⟨_,B,_,_,E⟩:=Qs h;obtain⟨I,J⟩:=o E;refine⟨by simpa using I,fun j i=>?_⟩;rcases I3.1 i with rfl|i
  .exact B
  .exact fun hp=>J j i (fX _ hp)
 |l _ o=>intro pre h;simp only[Po,TC] at h;exact o h.1
 |r _ o=>intro pre h;simp only[Po,TC] at h;exact o h.2
theorem T8{AS:List Nat}:∀{t:Ord},bo AS t i=true->∃A t',Reach t A (.op i t')/\∀j∈A,j∉AS:=by
 intro t;induction t with
 |nil=>intro h;cases h
 |op j t J=>
  intro h;simp only[bo,mQ,TC,oZ,GB] at h;rcases h with h|⟨h1,O⟩
  .have:=ka h;subst this;exact⟨[],t,.refl _,fun j Q=>(nomatch Q)⟩
  .obtain⟨A,t',o,B⟩:=J O;refine⟨j::A,t',.op o,fun k hk=>?_⟩;rcases I3.1 hk with rfl|hk
   .exact h1
   .exact B k hk
 |br a b E I=>
  intro h;simp only[bo,mQ] at h;rcases h with h|h
  .obtain⟨A,t',o,B⟩:=E h;exact⟨A,t',.l o,B⟩
  .obtain⟨A,t',o,B⟩:=I h;exact⟨A,t',.r o,B⟩
theorem N4:∀t:Ord,∃A,Reach t A .nil:=by
 intro t;induction t with
 |nil=>exact⟨[],.refl _⟩
 |op j t o=>obtain⟨A,h⟩:=o;exact⟨_,.op h⟩
 |br a b i _=>obtain⟨A,h⟩:=i;exact⟨A,.l h⟩
theorem Pb{t t':Ord}{A:List Nat}(h:Reach t A t'):∀{i:Nat},i∈A->∃B o,Reach t B (.op i o)/\(∀j∈B,j∈A):=by
 induction h with
 |refl t=>intro i hi;cases hi
 |@op j t t' A h E=>
  intro i hi;rcases I3.1 hi with rfl|hi
  .exact⟨[],t,.refl _,fun j J=>(nomatch J)⟩
  .obtain⟨B,o,h1,I⟩:=E hi;refine⟨j::B,o,.op h1,fun k hk=>?_⟩;rcases I3.1 hk with rfl|hk
   .exact kf
   .exact fX _ (I k hk)
 |l _ E=>intro i hi;obtain⟨B,o,h1,I⟩:=E hi;exact⟨B,o,.l h1,I⟩
 |r _ E=>intro i hi;obtain⟨B,o,h1,I⟩:=E hi;exact⟨B,o,.r h1,I⟩
section
variable {P:Program}{ds:List Deferred}{ok:Nat->Bool}{n:Nat}{all:List Oper}{AS:List Nat}{AN Gs:List (List Nat)}{e0:Env}{w0:World}{M:Nat->Nat->Prop}{K:Env->World->Prop}
structure MR (all:List Oper) (AN:List (List Nat)) (pre:List Nat):Prop where
 lt:∀m∈pre,m<all.length
 cl:∀m∈pre,∀j∈Be AN m,j∈pre
theorem MR.cons{pre:List Nat}(h:MR all AN pre)(hi:i<all.length)(ha:∀j∈Be AN i,j∈pre):MR all AN (i::pre):=
 ⟨fun m hm=>by rcases I3.1 hm with rfl | hm;exact hi;exact h.lt m hm,fun m hm j o=>by
  rcases I3.1 hm with rfl|hm
  .exact fX _ (ha j o)
  .exact fX _ (h.cl m hm j o)⟩
theorem NP(J:L3 n all AS AN Gs){kn:List (Nat×Option Bool)}{o:Oper}(hi:all[i]?=some o)(hk:∀p∈kn,p.1≠i/\p.1<all.length):FJ o.dst kn all=false:=by
 unfold FJ;cases O:o.dst with
 |none=>rfl
 |some t=>
  simp only[pj];intro p hp;obtain⟨E,j⟩:=hk p hp;have B:all[p.1]?=some (all[p.1]'j):=by simp[j]
  rw[CH,B];simp only[ou];cases I:(all[p.1]'j).dst with
  |none=>simp
  |some u=>
   simp only;intro hb;have:=ka hb;subst this;exact E (J.one _ _ _ _ B hi u I O)
theorem NU(hG : L3 n all AS AN Gs){o : Oper}{O : Ord}{pre : List Nat}{kn : List (Nat×Option Bool)}{e : Env}(X : all[i]? = some o)(ha : ∀j∈Be AN i, j∈pre)(Q : ∀p∈kn, p.1∈pre)(hk : Dk all kn e)
   (h : Cc P ok n all AS M (Ip AS AN M w0) w0 K (.op i O) kn e w) :
    ∃U, (∀p∈U, p.1∈pre) /\ Dk all U e /\
      ((An all e o /\ Fe P ok AS M (Ip AS AN M w0) w0 o i (ev e) (fun v w' => Cc P ok n all AS M (Ip AS AN M w0) w0 K O U (BN n e o.dst v) w') w) \/
       (¬ An all e o /\ Cc P ok n all AS M (Ip AS AN M w0) w0 K O ((i, none) :: U) (BN n e o.dst undef) w)) := by
  unfold Cc at h;rw[X] at h;simp only at h;cases I : o.guard with
  |none =>
    simp only[I] at h;exact⟨kn, Q, hk, .inl ⟨(fun g b S => by rw[I] at S; cases S), h⟩⟩
  |some gb =>
    obtain⟨g, B⟩ := gb;simp only[I] at h;have a1 : g∈pre := ha g (hG.guard i o X g B I).1;have wt : yv all e g = some B -> An all e o := fun E g' b' S => by rw[I] at S; cases S; exact E
    have wf : yv all e g ≠ some B -> ¬An all e o := fun E hw => E (hw g B I);cases Y : Cz kn g with
    |some b =>
      have E := hk g b Y;simp only[Y] at h;cases b with
      |none => exact⟨kn, Q, hk, .inr ⟨wf (by rw[E]; simp), h⟩⟩
      |some b =>
        simp only[HD] at h;cases V : (b==B) with
        |true =>
          simp only[V, kA] at h;have : b = B := by simpa using V
          exact⟨kn, Q, hk, .inl ⟨wt (by rw[E, this]), h⟩⟩
        |false =>
          simp only[V, kF] at h;have : b ≠ B := by simpa using V
          exact⟨kn, Q, hk, .inr ⟨wf (by rw[E]; simp[this]), h⟩⟩
    |none =>
      simp only[Y] at h;obtain⟨d, hd⟩ := (hG.guard i o X g B I).2;simp only[hd] at h;have Z : yv all e g = bv (e d) := by simp[yv, hd]
      have J : ∀b, ∀p∈(g, b)::kn, p.1∈pre := fun b p hp => by
        rcases I3.1 hp with rfl|hp
        . exact a1
        . exact Q p hp
      rcases EU h with⟨T, hb⟩|⟨T, hb⟩
      . have E : yv all e g = some true := by rw[Z, T]; rfl
        rw[Cq T] at hb;cases B with
        |true => simp only[kA] at hb; exact⟨_, J _, hk.cons E, .inl ⟨wt E, hb⟩⟩
        |false => simp only[kF] at hb; exact⟨_, J _, hk.cons E, .inr ⟨wf (by rw[E]; simp), hb⟩⟩
      . have E : yv all e g = some false := by rw[Z, T]; rfl
        rw[Cq T] at hb;cases B with
        |true => simp only[kA] at hb; exact⟨_, J _, hk.cons E, .inr ⟨wf (by rw[E]; simp), hb⟩⟩
        |false => simp only[kF] at hb; exact⟨_, J _, hk.cons E, .inl ⟨wt E, hb⟩⟩
theorem Ki(b8:CP P ok)(Y:L3 n all AS AN Gs){L:Nat->Prop}(hL:∀i,i<all.length->L i->∀j∈Be AN i,L j){t t':Ord}{A:List Nat}(hr:Reach t A t') :
  ∀(pre:List Nat) (kn:List (Nat×Option Bool)) (vals:Nat->Value) (w:World),Po all.length AS AN t pre=true->MR all AN pre->(∀q∈kn,q.1∈pre)->Dk all kn (BU all n e0 vals (fun m=>m∈pre))->
   (∀(m:Nat) o,all[m]?=some o->(m∈pre\/L m)->m∉AS->Gd P all AS AN n e0 w0 M vals m o)->(∀j∈AS,j∈A->¬L j)->
   Cc P ok n all AS M (Ip AS AN M w0) w0 K t kn (BU all n e0 vals (fun m=>m∈pre)) w->
   ∃vals' B w',(∀m,(m∈pre\/L m)->vals' m=vals m)/\(∀q∈B,q.1∈A.reverse++pre)/\Dk all B (BU all n e0 vals' (fun m=>m∈A.reverse++pre))/\
    (∀(m:Nat) o,all[m]?=some o->(m∈A.reverse++pre\/L m)->m∉AS->Gd P all AS AN n e0 w0 M vals' m o)/\((∀j∈AS,j∉A)->w'=w)/\MR all AN (A.reverse++pre)/\
    Cc P ok n all AS M (Ip AS AN M w0) w0 K t' B (BU all n e0 vals' (fun m=>m∈A.reverse++pre)) w':=by
 induction hr with
 |refl t=>intro pre kn vals w ho hp h1 h2 h3 _ h;exact⟨vals,kn,w,fun _ _=>rfl,h1,h2,h3,fun _=>rfl,hp,h⟩
 |l _ ih=>intro pre kn vals w ho hp h1 h2 h3 h4 h;simp only[Po,TC] at ho;exact ih pre kn vals w ho.1 hp h1 h2 h3 h4 h.1
 |r _ ih=>intro pre kn vals w ho hp h1 h2 h3 h4 h;simp only[Po,TC] at ho;exact ih pre kn vals w ho.2 hp h1 h2 h3 h4 h.2
 |@op p t t' A _ ih=>
  intro pre kn vals w ho hp b9 hk hg ak h;obtain⟨al,Q,Z,_,ba⟩:=Qs ho;have E:all[p]?=some all[p]:=by simp[al]
  generalize all[p]=o at E;obtain⟨S,X,a1,h⟩:=NU Y E Z b9 hk h;have an:∀t∈slotsOf all o,BU all n e0 vals (fun m=>m∈pre) t=view all AN n e0 vals p t:=
   Ek Y E Z (fun m hm a7 bb=>Q (hp.cl m bb p a7)) Q
  have I:=NP Y E (kn:=S) fun q hq=>⟨fun e=>Q (e▸X q hq),hp.lt _ (X q hq)⟩;have bc:=hp.cons al Z;have eA:(p::A).reverse++pre=A.reverse++(p::pre):=by simp
  rw[eA];have next:∀(v:Value) (B:List (Nat×Option Bool)) (w1:World),(L p->v=vals p)->(∀q∈B,q.1∈p::pre)->Dk all B (BN n (BU all n e0 vals (fun m=>m∈pre)) o.dst v)->
    (p∉AS->(An all (view all AN n e0 vals p) o->En P (Jb AS AN p) M w0 o (view all AN n e0 vals p) v)/\(¬An all (view all AN n e0 vals p) o->v=undef))->
    (p∉AS->w1=w)->Cc P ok n all AS M (Ip AS AN M w0) w0 K t B (BN n (BU all n e0 vals (fun m=>m∈pre)) o.dst v) w1->
    ∃vals' B w',(∀m,(m∈pre\/L m)->vals' m=vals m)/\(∀q∈B,q.1∈A.reverse++(p::pre))/\Dk all B (BU all n e0 vals' (fun m=>m∈A.reverse++(p::pre)))/\
     (∀(m:Nat) o,all[m]?=some o->(m∈A.reverse++(p::pre)\/L m)->m∉AS->Gd P all AS AN n e0 w0 M vals' m o)/\((∀j∈AS,j∉p::A)->w'=w)/\MR all AN (A.reverse++(p::pre))/\
     Cc P ok n all AS M (Ip AS AN M w0) w0 K t' B (BU all n e0 vals' (fun m=>m∈A.reverse++(p::pre))) w':=by
   intro v B w1 av ax ay bd bk hc;have b0:BN n (BU all n e0 vals (fun m=>m∈pre)) o.dst v=BU all n e0 (fun q=>if q=p then v else vals q) (fun m=>m∈p::pre):=
    FL Y E (fun m=>by simp[or_comm]) (fun m _ a7=>by simp[a7]) (by simp) Q
   rw[b0] at ay hc;have bl:∀m,m<all.length->(m∈p::pre\/L m)->view all AN n e0 (fun q=>if q=p then v else vals q) m=view all AN n e0 vals m:=fun m hm J=>
    CR Y fun j hj=>by
     by_cases b3:j=p
     .subst b3;rcases J with J|J
      .rcases I3.1 J with rfl|J
       .exact(Q (Z _ hj)).elim
       .exact(Q (hp.cl m J j hj)).elim
      .simp[av (hL m hm J j hj)]
     .simp[b3]
   obtain ⟨vals',bn,w',r1,r2,r3,r4,r5,r7,r6⟩:=ih (p :: pre) B (fun q=>if q=p then v else vals q) w1 ba bc ax ay (fun m o' hm J a6=>by
     have bp:m<all.length:=(Bp.1 hm).1;unfold Gd;rw[bl m bp J];by_cases U:m=p
     .subst U;rw[E] at hm;cases hm;simp only[km];exact bd a6
     .have:=hg m o' hm (J.imp (fun h=>(I3.1 h).resolve_left U) id) a6;unfold Gd at this;simpa [U] using this) (fun j hj h1=>ak j hj (fX _ h1)) hc
   refine⟨vals',bn,w',fun m hm=>?_,r2,r3,r4,fun b4=>?_,r7,r6⟩
   .rw[r1 m (hm.imp (fun h=>fX _ h) id)];by_cases U:m=p
    .subst U;rcases hm with hm|hm
     .exact(Q hm).elim
     .simp[av hm]
    .simp[U]
   .rw[r5 fun j hj h1=>b4 j hj (fX _ h1)];exact bk fun O=>b4 p O kf
  have T:=CI Y E an;have kc:∀q∈S,q.1∈p::pre:=fun q hq=>fX _ (X q hq);have b5:∀q∈(p,none)::S,q.1∈p::pre:=fun q hq=>by
   rcases I3.1 hq with rfl|hq
   .exact kf
   .exact kc q hq
  by_cases O:p∈AS
  .have b6:¬L p:=ak p O kf;rcases h with⟨hw,V⟩|⟨hw,V⟩
   .unfold Fe at V;rw[Aa.2 O] at V;simp only[kA] at V;obtain⟨v,w1,bx,bs⟩:=Kq (JD b8 (fun _=>rfl) (fun _=>rfl) V);exact next v S w1 (fun h=>(b6 h).elim) kc (a1.put I _) (fun h=>(h O).elim) (fun h=>(h O).elim) bs
   .exact next undef ((p,none)::S) w (fun h=>(b6 h).elim) b5 ((a1.put I _).cons (N6 Y E)) (fun h=>(h O).elim) (fun _=>rfl) V
  .have hm:CM AS p=false:=GB.2 O;rcases h with⟨hw,V⟩|⟨hw,V⟩
   .unfold Fe at V;rw[hm] at V;simp only[kF] at V;obtain⟨v,h1,h2⟩:=KP hm V;have b7:En P (Jb AS AN p) M w0 o (view all AN n e0 vals p) v:=h2.congr (Y.Ju p o E) fun t ht=>an t (Cn ht);refine next v S w (fun a8=>?_) kc (a1.put I _) (fun _=>⟨fun _=>b7,fun hn=>(hn (T.1 hw)).elim⟩) (fun _=>rfl) h1;exact b7.iu ((hg p o E (.inr a8) O).1 (T.1 hw))
   .refine next undef ((p,none)::S) w (fun a8=>((hg p o E (.inr a8) O).2 fun h=>hw (T.2 h)).symm) b5 ((a1.put I _).cons (N6 Y E)) (fun _=>⟨fun h=>(hw (T.2 h)).elim,fun _=>rfl⟩) (fun _=>rfl) V
structure Ux (P:Program) (ds:List Deferred) (ok:Nat->Bool) (n:Nat) (all:List Oper) (AS:List Nat) (AN:List (List Nat)) (e0:Env) (w0:World) (M:Nat->Nat->Prop) (K:Env->World->Prop) (L:Nat->Prop) (a:Act) (w:World):Prop where
 ex:∃(t:Ord) (pre:List Nat) (vals:Nat->Value) (kn:List (Nat×Option Bool)),
  Fr ds n (BU all n e0 vals (fun m=>L m/\m<all.length)) a/\Po all.length AS AN t pre=true/\iA AS AN t pre=true/\MR all AN pre/\(∀q∈kn,q.1∈pre)/\Dk all kn (BU all n e0 vals (fun m=>m∈pre))/\
  (∀(m:Nat) o,all[m]?=some o->(m∈pre\/L m)->m∉AS->Gd P all AS AN n e0 w0 M vals m o)/\(∀j∈AS,L j↔j∈pre)/\
  Cc P ok n all AS M (Ip AS AN M w0) w0 K t kn (BU all n e0 vals (fun m=>m∈pre)) w
 mod:Mod (fun b=>∃j∈AS,L j/\M j b) w0 w
 closed:∀i,i<all.length->L i->∀j∈Be AN i,L j
theorem TO(c4:CP P ok)(U:L3 n all AS AN Gs){ops:Array Oper}(b9:ops.toList=all) :
  ∀(fuel:Nat) (E:Array Bool) (a:Act) (w:World),E.size=ops.size->E.toList.count false<=fuel->Ux P ds ok n all AS AN e0 w0 M K (fun m=>E.getD m false=true) a w->
   wpAny P .any ops (DE ds all n e0 K) fuel E a w:=by
 have eo:ops.size=all.length:=by rw[<-b9];simp
 have ba:∀i:Nat,ops[i]?=all[i]?:=fun i=>by rw[<-b9];simp
 have e9:∀(E:Array Bool) (i:Nat),i∈Region.ready .any ops E->∃o,all[i]?=some o/\E.getD i true=false/\∀e∈o.after,Region.binds .any e=true->E.getD e.on false=true:=by
  intro E i hi;obtain⟨h1,o,Z,h3⟩:=px.1 hi;exact⟨o,by rw[<-ba];exact Z,h1,h3⟩
 have fin:∀(E:Array Bool) (a:Act) (w:World),E.size=ops.size->Ux P ds ok n all AS AN e0 w0 M K (fun m=>E.getD m false=true) a w->Region.ready .any ops E=[]->DE ds all n e0 K .normal a w:=by
  intro E a w bb hI hr;have ax:∀i,i<all.length->E.getD i false=true:=by
   intro i;induction i using Nat.strongRecOn with
   |_ i ih=>
    intro hi;cases hc:E.getD i false with
    |true=>rfl
    |false=>
     have:i∈Region.ready .any ops E:=by
      refine px.2 ⟨?_,all[i],by rw[ba];simp[hi],fun e he hb=>?_⟩
      .have:i<E.size:=by omega
       simp[this] at hc ⊢;exact hc
      .have:=U.back i all[i] (by simp[hi]) e he hb;exact ih e.on this (by omega)
     rw[hr] at this;cases this
  obtain⟨t,pre,vals,kn,bc,ho,_,hp,bd,hk,hg,T,hc⟩:=hI.ex;obtain⟨A,al⟩:=N4 t;obtain⟨c6,c7⟩:=Ih al ho;have V:∀j∈AS,j∉A:=fun j I a1=>c7 j a1 ((T j I).1 (ax j (U.Sm j I)));obtain⟨vals',ea,w',r1,r2,r3,r4,r5,r7,r6⟩:=Ki (L:=fun m=>E.getD m false=true) c4 U hI.closed al pre kn vals w ho hp bd hk hg (fun j I a1=>(V j I a1).elim) hc;have hw:w'=w:=r5 V;subst hw;have ay:∀m,m<all.length->m∈A.reverse++pre:=fun m hm=>by
   simp only[Po,kU,Aa] at c6;exact c6 m (ly.2 hm)
  have b3:BU all n e0 vals' (fun m=>m∈A.reverse++pre)=BU all n e0 vals (fun m=>E.getD m false=true/\m<all.length):=by
   funext t
   exact DY U fun m hm _=>⟨⟨fun h=>⟨ax m hm,hm⟩,fun h=>ay m hm⟩,fun _=>r1 m (.inr (ax m hm))⟩
  unfold Cc at r6;rw[b3] at r6;refine⟨rfl,_,bc,fun j T=>Cb fun m _ hm hd=>?_,r6⟩;have ep:all[m]?=some all[m]:=by simp[hm]
  rw[CH,ep] at hd;exact T all[m] (by simp) hd
 intro fuel;induction fuel with
 |zero=>
  intro E a w bb hc hI;have hr:Region.ready .any ops E=[]:=by
   cases hr:Region.ready .any ops E with
   |nil=>rfl
   |cons i r=>
    exfalso;obtain⟨o,h1,Z,_⟩:=e9 E i (by rw[hr];simp);have b0:i<E.size:=by have:=(Bp.1 h1).1;omega
    simp[b0] at Z;have:false∈E.toList:=by rw[<-Z];simp
    have:=oJ.2 this;omega
  exact⟨hr,fin E a w bb hI hr⟩
 |succ fuel ih=>
  intro E a w bb hc hI;refine⟨fin E a w bb hI,fun i hi=>?_⟩;obtain⟨o,O,c8,c9⟩:=e9 E i hi;have b0:i<all.length:=(Bp.1 O).1;have b4:i<E.size:=by omega
  have an:¬E.getD i false=true:=by simp[b4] at c8 ⊢;exact c8
  have b5:∀j∈Be AN i,E.getD j false=true:=by
   intro j T;obtain⟨e,he,hb,h1⟩:=U.iT i o O j T;have hL:=c9 e he hb;rcases h1 with rfl|h1
   .exact hL
   .exact hI.closed e.on (by have:=U.back i o O e he hb;omega) hL j h1
  obtain⟨t,pre,vals,kn,bc,b8,bk,hp,bd,hk,hg,T,dk⟩:=hI.ex;have dv:∀t∈slotsOf all o,BU all n e0 vals (fun m=>E.getD m false=true/\m<all.length) t=view all AN n e0 vals i t:=
   Ek U O (fun j T=>⟨b5 j T,by have:=U.lt b0 T;omega⟩) (fun m hm J dT=>an (hI.closed m hm dT.1 i J)) (fun h=>an h.1)
  have ec:=bc.eval;have a6:(Region.wanted o (yielded ops a.tmps)=true)↔An all (view all AN n e0 vals i) o:=by
   rw[<-CI U O dv];unfold Region.wanted An;cases hg:o.guard with
   |none=>simp
   |some gb=>
    obtain⟨g,b⟩:=gb;have:=GC bc (ops:=ops) (j:=g);rw[b9] at this;simp only[this,nV];constructor
    .rintro h g' b' heq;cases heq;exact h
    .intro h;exact h g b rfl
  have ed:∀m,(E.setIfInBounds i true).getD m false=true↔(E.getD m false=true\/m=i):=by
   intro m;simp only[ky,mh];by_cases J:i=m
   .subst J;simp[b4]
   .simp[J,mW J]
  have ee:(E.setIfInBounds i true).toList.count false<=fuel:=by
   have hb:E.toList[i]'(by simpa using b4)=false:=by simp[b4] at c8;simpa using c8
   have:(E.setIfInBounds i true).toList.count false+1=E.toList.count false:=by
    rw[ns];exact FV E.toList i (by rw[<-hb];simp)
   omega
  have cd:∀m,m<all.length->(E.getD m false=true\/m=i)->∀j∈Be AN m,(E.getD j false=true\/j=i):=by
   rintro m hm (er|rfl) j T
   .exact .inl (hI.closed m hm er j T)
   .exact .inl (b5 j T)
  have put:∀(vals':Nat->Value) (v:Value),(∀m,E.getD m false=true->vals' m=vals m)->vals' i=v->
    Fr ds n (BU all n e0 vals' (fun m=>(E.getD m false=true\/m=i)/\m<all.length)) (a.put o.dst v):=by
   intro vals' v h1 Z;rw[<-FL U (vals:=vals) (S:=fun m=>E.getD m false=true/\m<all.length) (v:=v) O (fun m=>?_) (fun m hm J=>h1 m hm.1) Z (fun hh=>an hh.1)]
   .exact bc.put o.dst v
   .constructor
    .rintro⟨h1|h1,Z⟩
     .exact .inl ⟨h1,Z⟩
     .exact .inr h1
    .rintro(⟨h1,Z⟩|rfl)
     .exact⟨.inl h1,Z⟩
     .exact⟨.inr rfl,b0⟩
  have go:∀(v:Value) (w':World),Ux P ds ok n all AS AN e0 w0 M K (fun m=>E.getD m false=true\/m=i) (a.put o.dst v) w'->wpAny P .any ops (DE ds all n e0 K) fuel (E.setIfInBounds i true) (a.put o.dst v) w':=by
   intro v w' h1;refine ih _ _ _ (by simpa using bb) ee ?_;have:(fun m=>(E.setIfInBounds i true).getD m false=true)=(fun m=>E.getD m false=true\/m=i):=by
    funext m;exact propext (ed m)
   rw[this];exact h1
  unfold wpOp;rw[ba i,O];simp only;have bl:∀(vals':Nat->Value),(∀m,E.getD m false=true->vals' m=vals m)->view all AN n e0 vals' i=view all AN n e0 vals i:=fun vals' h=>CR U fun j T=>h j (b5 j T);by_cases a7:i∈AS
  .have et:i∉pre:=fun h=>an ((T i a7).2 h);have e1:bo AS t i=true:=by
    simp only[iA,kU] at bk;have h1:=bk i a7;rw[GB.2 et] at h1;have Z:((Be AN i).all fun j=>!CM AS j||CM pre j)=true:=by
     simp only[kU,mQ,oZ,Aa,GB];intro j eu;by_cases I:j∈AS
     .exact .inr ((T j I).1 (b5 j eu))
     .exact .inl I
    simpa[Z] using h1
   obtain⟨A,t',al,ew⟩:=T8 e1;obtain⟨c6,c7⟩:=Ih al b8;have V:∀j∈AS,j∉A:=fun j I a1=>ew j a1 I;obtain⟨vals',ea,w',r1,r2,r3,r4,r5,r7,r6⟩:=Ki (L:=fun m=>E.getD m false=true) c4 U hI.closed al pre kn vals w b8 hp bd hk hg (fun j I a1=>(V j I a1).elim) dk;have hw:w'=w:=r5 V;subst hw;obtain⟨_,ay,e2,e3,ef⟩:=Qs c6;generalize eh:A.reverse++pre=Q at *;have eA:∀j∈AS,j∈Q↔j∈pre:=fun j I=>by
    rw[<-eh,DN,List.mem_reverse];exact⟨fun h=>h.resolve_left (V j I),.inr⟩
   obtain⟨ca,bn,ej,h6⟩:=NU U O e2 r2 r3 r6;have hv:=bl vals' fun m hm=>r1 m (.inr hm);have ch:∀t∈slotsOf all o,BU all n e0 vals' (fun m=>m∈Q) t=view all AN n e0 vals i t:=fun t ht=>by
    rw[Ek U O e2 (fun m hm J dT=>ay (r7.cl m dT i J)) ay t ht,hv]
   have b6:=NP U O (kn:=ca) fun q hq=>⟨fun e=>ay (e▸bn q hq),r7.lt _ (bn q hq)⟩;have cn:=CI U O ch;have b7:∀(v:Value) (w1:World) (bp:List (Nat×Option Bool)),(∀q∈bp,q.1∈i::Q)->Dk all bp (BN n (BU all n e0 vals' (fun m=>m∈Q)) o.dst v)->Mod (fun b=>∃j∈AS,(E.getD j false=true\/j=i)/\M j b) w0 w1->
     Cc P ok n all AS M (Ip AS AN M w0) w0 K t' bp (BN n (BU all n e0 vals' (fun m=>m∈Q)) o.dst v) w1->Ux P ds ok n all AS AN e0 w0 M K (fun m=>E.getD m false=true\/m=i) (a.put o.dst v) w1:=by
    intro v w1 bp h1 Z h3 h4;have ek:BN n (BU all n e0 vals' (fun m=>m∈Q)) o.dst v=BU all n e0 (fun q=>if q=i then v else vals' q) (fun m=>m∈i::Q):=
     FL U O (fun m=>by simp[or_comm]) (fun m _ J=>by simp[J]) (by simp) ay
    rw[ek] at Z h4;refine⟨⟨t',i::Q,fun q=>if q=i then v else vals' q,bp,put _ v (fun m hm=>?_) (by simp),ef,e3 a7,r7.cons b0 e2,h1,Z,?_,?_,h4⟩,h3,cd⟩
    .have:m≠i:=by rintro rfl;exact an hm
     simp[this,r1 m (.inr hm)]
    .intro m o' hm e4 cc;have bs:m<all.length:=(Bp.1 hm).1;have J:m≠i:=by rintro rfl;exact cc a7
     have av:m∈Q\/E.getD m false=true:=by
      rcases e4 with h|h|h
      .exact .inl ((I3.1 h).resolve_left J)
      .exact .inr h
      .exact(J h).elim
     refine Gd.Ji U bs (fun j T=>?_) (by simp[J]) (r4 m o' hm av cc);have:j≠i:=by
      rintro rfl;rcases av with h|h
      .exact ay (r7.cl m h j T)
      .exact an (hI.closed m bs h j T)
     simp[this]
    .intro j I;rw[T j I,I3,eA j I];exact or_comm
   have bx:Mod (fun b=>∃j∈AS,(E.getD j false=true\/j=i)/\M j b) w0 w':=hI.mod.mono fun b _ ⟨j,T,hL,hb⟩=>⟨j,T,.inl hL,hb⟩;have kc:∀q∈ca,q.1∈i::Q:=fun q hq=>fX _ (bn q hq);by_cases a8:An all (view all AN n e0 vals i) o
   .rw[Io (a6.2 a8)];left;rcases h6 with⟨_,hx⟩|⟨eB,_⟩
    .unfold Fe at hx;rw[Aa.2 a7] at hx;simp only[kA] at hx;have e1:=JD c4 (fun _=>rfl) (fun _=>rfl) hx;unfold Oper.wp;rw[ec,DP (e':=BU all n e0 vals' (fun m=>m∈Q)) (U.Ju i o O) (fun t ht=>by rw[dv t (Cn ht),ch t (Cn ht)])];exact Ow e1 fun v w1 hv=>go v w1 (b7 v w1 ca kc (ej.put b6 _) ((bx.trans (hv.1.mono fun b _ hb=>⟨i,a7,.inr rfl,hb⟩))) hv.2)
    .exact(eB (cn.2 a8)).elim
   .rw[C3 (fun h=>a8 (a6.1 h))];rcases h6 with⟨hw,_⟩|⟨_,hx⟩
    .exact(a8 (cn.1 hw)).elim
    .exact go undef w' (b7 undef w' ((i,none) :: ca) (fun q hq=>by
      rcases I3.1 hq with rfl|hq
      .exact kf
      .exact kc q hq) ((ej.put b6 _).cons (N6 U O)) bx hx)
  .have key:∃v:Value,(i∈pre->v=vals i)/\(An all (view all AN n e0 vals i) o->En P (Jb AS AN i) M w0 o (view all AN n e0 vals i) v)/\(¬An all (view all AN n e0 vals i) o->v=undef):=by
    by_cases e5:i∈pre
    .exact⟨vals i,fun _=>rfl,hg i o O (.inl e5) a7⟩
    .obtain⟨A0,cv⟩:=N4 t;obtain⟨cx,_⟩:=Ih cv b8;have eC:i∈A0:=by
      simp only[Po,kU,Aa] at cx;have:=cx i (ly.2 b0);rw[DN,List.mem_reverse] at this;exact this.resolve_right e5
     obtain⟨B,t1,en,_⟩:=Pb cv eC;have al:Reach t (B++[i]) t1:=by
      have tr:∀{a b c:Ord} {X Y:List Nat},Reach a X b->Reach b Y c->Reach a (X++Y) c:=by
       intro a b c X Y h1 Z;induction h1 with
       |refl _=>exact Z
       |op _ ih=>exact .op (ih Z)
       |l _ ih=>exact .l (ih Z)
       |r _ ih=>exact .r (ih Z)
      exact tr en (.op (.refl _))
     obtain⟨_,c7⟩:=Ih al b8;obtain⟨vals',ea,w',r1,r2,r3,r4,r5,r7,r6⟩:=Ki (L:=fun m=>E.getD m false=true) c4 U hI.closed al pre kn vals w b8 hp bd hk hg (fun j I a1 eI=>c7 j a1 ((T j I).1 eI)) dk;have hv:=bl vals' fun m hm=>r1 m (.inr hm);have:=r4 i o O (.inl (by simp)) a7;unfold Gd at this;rw[hv] at this;exact⟨vals' i,fun h=>(e5 h).elim,this⟩
   obtain⟨v,eL,e6⟩:=key;have inv:Ux P ds ok n all AS AN e0 w0 M K (fun m=>E.getD m false=true\/m=i) (a.put o.dst v) w:=by
    have ak:∀m,(m∈pre\/E.getD m false=true)->(if m=i then v else vals m)=vals m:=by
     intro m hm;by_cases J:m=i
     .subst J;rcases hm with h|h
      .simp[eL h]
      .exact(an h).elim
     .simp[J]
    have b3:BU all n e0 (fun m=>if m=i then v else vals m) (fun m=>m∈pre)=BU all n e0 vals (fun m=>m∈pre):=by
     funext t
     exact DY U fun m _ _=>⟨nj,fun h=>ak m (.inl h)⟩
    refine⟨⟨t,pre,fun m=>if m=i then v else vals m,kn,put _ v (fun m hm=>ak m (.inr hm)) (by simp),b8,bk,hp,bd,by rw[b3];exact hk,?_,?_,by rw[b3];exact dk⟩,hI.mod.mono fun b _ ⟨j,T,hL,hb⟩=>⟨j,T,.inl hL,hb⟩,cd⟩
    .intro m o' hm e4 cc;have bs:m<all.length:=(Bp.1 hm).1;by_cases J:m=i
     .subst J;rw[O] at hm;cases hm;unfold Gd;rw[CR U (vals':=vals) fun j T=>by have:=U.lt b0 T;simp[show j≠m by omega]];simp only[km];exact e6
     .have av:m∈pre\/E.getD m false=true:=by
       rcases e4 with h|h|h
       .exact .inl h
       .exact .inr h
       .exact(J h).elim
      refine Gd.Ji U bs (fun j T=>?_) (by simp[J]) (hg m o' hm av cc);have eN:j∈pre\/E.getD j false=true:=by
       rcases av with h|h
       .exact .inl (hp.cl m h j T)
       .exact .inr (hI.closed m bs h j T)
      exact(ak j eN).symm
    .intro j I;have e7:j≠i:=by rintro rfl;exact a7 I
     rw[<-T j I];simp[e7]
   have e8:=go v w inv;by_cases a8:An all (view all AN n e0 vals i) o
   .rw[Io (a6.2 a8)];left;unfold Oper.wp;rw[ec,DP (e':=view all AN n e0 vals i) (U.Ju i o O) (fun t ht=>dv t (Cn ht)),e6.1 a8 w (hI.mod.mono fun b _ ⟨j,T,hL,hb⟩=>⟨j,Lo T fun e7=>an (hI.closed j (U.Sm j T) hL i e7),hb⟩)];exact e8
   .rw[C3 (fun h=>a8 (a6.1 h))];have:=e6.2 a8;rw[this] at e8;exact e8
theorem QD{ops:Array Oper}{a:Act}{t:Ord}(I:CP P ok)(hm:P.follows .mixedOrders=true)(Q:Fr ds n e0 a)
 (T:L8 n ops.toList AS AN Gs=true)(ht:SY ops.toList.length AS AN t=true)
 (h:Ay AS AN w.drew fun M U=>Cc P ok n ops.toList AS M U w.drew K t [] e0 w.drew) :
  wpAny P .any ops (DE ds ops.toList n e0 K) ops.size (Array.replicate ops.size false) a { w with drawn:=w.drawn+1 }:=by
 obtain⟨M,h⟩:=h;have J:=On T;simp only[SY,TC] at ht;refine TO (M:=M) (w0:=w.drew) I J rfl ops.size (Array.replicate ops.size false) a _ (by simp) ?_ ?_
 .simp
 .have E:∀m:Nat,¬(Array.replicate ops.size false).getD m false=true:=fun m=>by
   simp only[ky,nJ];split<;>simp
  have B:∀S:Nat->Prop,(∀m,¬S m)->BU ops.toList n e0 (fun _=>undef) S=e0:=fun S V=>by
   funext t;exact Cb fun m hm _=>(V m hm).elim
  refine⟨⟨t,[],fun _=>undef,[],?_,ht.2,ht.1,⟨fun m hm=>(nomatch hm),fun m hm=>(nomatch hm)⟩,fun q X=>(nomatch X),fun j b hb=>by simp[Cz] at hb,fun m o _ O _=>?_,fun j _=>?_,?_⟩,Mod.refl _ _,fun i _ hi=>(E i hi).elim⟩
  .rw[B _ fun m hm=>E m hm.1];exact Q
  .rcases O with h|h
   .cases h
   .exact(E m h).elim
  .exact⟨fun h=>(E j h).elim,fun h=>(nomatch h)⟩
  .rw[B _ fun m hm=>(nomatch hm)];exact h
end
end Go.Proofs.YtmdhibffnkhcnaaGreatDoor
