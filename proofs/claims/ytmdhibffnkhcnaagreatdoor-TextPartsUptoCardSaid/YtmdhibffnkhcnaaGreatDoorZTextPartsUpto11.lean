/- parts of the proof, written short by a program of ours -/
import Derived.Test.YtmdhibffnkhcnaaGreatDoorZTextPartsUpto10
import Derived.Test.YtmdhibffnkhcnaaGreatDoorRows
import Derived.Lib.LaidU8
import Derived.Lib.LaidIn
import Derived.LaidHandle
import Derived.LaidMore
import Derived.MakeChecks
import Derived.Test.YtmdhibffnkhcnaaGreatDoorTie
import Derived.Test.YtmdhibffnkhcnaaGreatDoorCards
import Derived.WalkKit
import Derived.OpenShut
import Derived.ShutString
import Derived.ChangeOld
import Derived.ChangeVars
import Derived.JoinedOf
import Derived.JoinedCond
import Derived.Deep.DeepHandedRow
import Derived.SevenTiedAt
set_option linter.unusedSimpArgs false
set_option linter.unusedVariables false
namespace Go.Proofs.YtmdhibffnkhcnaaGreatDoor
open Go Go.K Proofs.Tryz
open Go.ChangeShapes Go.Joins
variable {H:Type}{enc:TypeId×Value->H}{w:World}{base:Nat}{spare:Nat->Bool}{held:Bool}
theorem bY{α:Type}{l:List α}(h:l.length=4):∃a b c d,l=[a,b,c,d]:=by
 match l,h with|[a,b,c,d],_=>exact⟨a,b,c,d,rfl⟩
theorem YF{α:Type}{l:List α}(h:l.length=5):∃a b c d e,l=[a,b,c,d,e]:=by
 match l,h with|[a,b,c,d,e],_=>exact⟨a,b,c,d,e,rfl⟩
theorem ZY{α:Type}{l:List α}(h:l.length=6):∃a b c d e f,l=[a,b,c,d,e,f]:=by
 match l,h with|[a,b,c,d,e,f],_=>exact⟨a,b,c,d,e,f,rfl⟩
theorem UR(l m:List (DataW H)):Rows.uptoBulkAll (l++m)=Rows.uptoBulkAll l+Rows.uptoBulkAll m:=by
 induction l with
 |nil=>simp[Rows.uptoBulkAll]
 |cons d l i=>simp only[List.cons_append,Rows.uptoBulkAll,i];omega
theorem BH.GI{α:Type}{t e k:Nat}{R:World->List Value->α->Prop}{μ:α->Nat}{fuel:Nat}{cs:List Value}{x:DataW H×List MemPlace}(ht:prog.underlying t=some (.slice e))(hk:prog.cellsOf e=k)
 (O:∀n o y,DataW.trod enc prog w base spare held n e o=some y->∃x,R w o x/\μ x<=Rows.uptoBulk y.1)(h:DataW.trod enc prog w base spare held fuel t cs=some x) :
  ∃v l,cs=[v]/\BH (fun _=>True) k R w v l/\(l.map μ).sum+1<=Rows.uptoBulk x.1:=by
 rcases Go.Deep.open_slice ht h with⟨rfl,rfl⟩|⟨a,len,Q,m,n,D,Pl,rfl,hb,hl,hm,S,rfl,I⟩
 .exact⟨_,[],rfl,BH.nil,by simp[Rows.uptoBulk]⟩
 .have Z:len<=m:=by rw[S];split<;>omega
  have one:∀i,i<len->∃(o:List Value) (x:α),o.length=k/\(∀j u,o[j]?=some u->w.cell? (a.add (i*k+j))=some u)/\R w o x/\μ x<=Rows.uptoBulk (D i):=by
   intro i hi;obtain⟨o,h1,J⟩:=I i (by omega);obtain⟨x,T,U⟩:=O n o _ J;obtain⟨_,B,hc⟩:=World.cells?_some h1;rw[hk] at B hc;refine⟨o,x,B,fun j u hu=>?_,T,U⟩;have hj:j<k:=by rw[<-B];exact(List.getElem?_eq_some_iff.1 hu).1
   have:=hc j hj;rw[Addr.add_add] at this;rw[this];exact hu
  have build:∀q,q<=len->∃l:List α,l.length=q/\(l.map μ).sum<=Rows.uptoBulkAll ((List.range q).map D)/\∀i x,l[i]?=some x->∃o:List Value,o.length=k/\(∀j u,o[j]?=some u->w.cell? (a.add (i*k+j))=some u)/\R w o x:=by
   intro q;induction q with
   |zero=>exact fun _=>⟨[],rfl,by simp[Rows.uptoBulkAll],fun i x h=>by simp at h⟩
   |succ q ih=>
    intro hq;obtain⟨l,h1,hs,J⟩:=ih (by omega);obtain⟨o,x,V,X,Y,h6⟩:=one q (by omega);refine⟨l++[x],by simp[h1],?_,fun i y E=>?_⟩
    .rw[List.range_succ,List.map_append (f:=D),UR];simp only[List.map_append,List.sum_append,List.map_cons,List.map_nil,List.sum_cons,List.sum_nil,Rows.uptoBulkAll];omega
    by_cases hi:i<q
    .rw[List.getElem?_append_left (by omega)] at E;exact J i y E
    .have:i=q:=by have:=(List.getElem?_eq_some_iff.1 E).1;simp[h1] at this;omega
     subst this;rw[List.getElem?_append_right (by omega)] at E;simp[h1] at E;subst E;exact⟨o,V,X,Y⟩
  obtain⟨l,h1,hs,J⟩:=build len (Nat.le_refl _);subst h1;refine⟨_,l,rfl,⟨a,Q,rfl,hl,hm,fun i x T=>?_⟩,?_⟩
  .obtain⟨o,V,X,Y⟩:=J i x T;exact⟨a,o,rfl,trivial,V,X,Y⟩
  .simp only[Rows.uptoBulk];omega
theorem Ik{n:Nat}{cs:List Value}{y:DataW H×List MemPlace}(h:DataW.trod enc prog w base spare held n 77 cs=some y):∃x:BE,cs=x.cells/\x.s.size+1<=Rows.uptoBulk y.1:=by
 have E:prog.cellsOf 77=4:=by kernel_rfl
 have I:prog.cellsOf 5=1:=by kernel_rfl
 have J:prog.cellsOf 2=1:=by kernel_rfl
 have O:prog.cellsOf 75=1:=by kernel_rfl
 have Q:prog.cellsOf 9=1:=by kernel_rfl
 obtain⟨z0,z1,z2,z3,m',rfl,hl,i,j,o,B⟩:=trod_struct4 underlying77 h;rw[E] at hl;simp only[I,J,O,Q] at i j o B;match cs,hl with
 |[a0,a1,a2,a3],_=>
  simp only[List.drop_zero,List.take_succ_cons,List.take_zero,List.drop_succ_cons] at i j o B;obtain⟨S,T,e0,_⟩:=DataW.trod_int underlying5 i;obtain⟨k1,U,V,_⟩:=DataW.trod_int underlying2 j;obtain⟨k2,X,Y,_⟩:=DataW.trod_int underlying75 o;obtain⟨Z,f3,e3,_⟩:=DataW.trod_string underlying9 B;cases T;cases U;cases X;cases f3;subst e0;subst V;subst Y;subst e3;refine⟨⟨S,k1,k2,Z⟩,rfl,?_⟩;simp only[Rows.uptoBulk,Rows.uptoBulkAll,Array.length_toList,ByteArray.size_data];omega
theorem Lo{n:Nat}{cs:List Value}{y:DataW H×List MemPlace}(h:DataW.trod enc prog w base spare held n 79 cs=some y):∃x:Attr,Cx w cs x/\MN x<=Rows.uptoBulk y.1:=by
 have c0:prog.cellsOf 79=5:=by kernel_rfl
 have c1:prog.cellsOf 3=1:=by kernel_rfl
 have i:prog.cellsOf 77=4:=by kernel_rfl
 obtain⟨o,B,m,rfl,hl,h0,h1⟩:=trod_struct2 underlying79 h;rw[c0] at hl;simp only[c1,i] at h0 h1;match cs,hl with
 |[a0,E,I,a3,a4],_=>
  simp only[List.drop_zero,List.take_succ_cons,List.take_zero,List.drop_succ_cons] at h0 h1;obtain⟨k,e0,_,_⟩:=DataW.trod_int underlying3 h0;obtain⟨v,j,J⟩:=Ik h1;cases e0;cases j;refine⟨⟨k,v⟩,rfl,?_⟩;simp only[MN,Rows.uptoBulk,Rows.uptoBulkAll];omega
theorem NJ{n:Nat}{cs:List Value}{y:DataW H×List MemPlace}(h:DataW.trod enc prog w base spare held n 133 cs=some y):∃x:Chg,Hm w cs x/\Rm x<=Rows.uptoBulk y.1:=by
 have c0:prog.cellsOf 133=6:=by kernel_rfl
 have c1:prog.cellsOf 3=1:=by kernel_rfl
 have B:prog.cellsOf 77=4:=by kernel_rfl
 have E:prog.cellsOf 4=1:=by kernel_rfl
 obtain⟨xs,m,_,rfl,hl,i,j⟩:=DataW.trod_struct underlying133 h;match xs,i with
 |[I,J,O],_=>
  have h0:DataW.trod enc prog w base spare held m 3 ((cs.drop 0).take (prog.cellsOf 3))=some I:=j 0 _ rfl;have h1:DataW.trod enc prog w base spare held m 4 ((cs.drop 1).take (prog.cellsOf 4))=some J:=j 1 _ rfl;have o:DataW.trod enc prog w base spare held m 77 ((cs.drop 2).take (prog.cellsOf 77))=some O:=j 2 _ rfl;rw[c0] at hl;rw[c1] at h0;rw[E] at h1;rw[B] at o;obtain⟨a0,T,U,a3,a4,a5,rfl⟩:=ZY hl
  .clear j;simp only[List.drop_zero,List.take_succ_cons,List.take_zero,List.drop_succ_cons] at h0 h1 o;obtain⟨k,e0,_,_⟩:=DataW.trod_int underlying3 h0;obtain⟨b,Q,_⟩:=DataW.trod_bool underlying4 h1;obtain⟨v,S,V⟩:=Ik o;cases e0;cases Q;cases S;refine⟨⟨k,b,v⟩,rfl,?_⟩;simp only[Rm,List.map_cons,List.map_nil,Rows.uptoBulk,Rows.uptoBulkAll];omega
theorem Lg{n:Nat}{cs:List Value}{y:DataW H×List MemPlace}(h:DataW.trod enc prog w base spare held n 21 cs=some y):∃x:Int,CH w cs x/\1<=Rows.uptoBulk y.1:=by
 obtain⟨k,rfl,e,_⟩:=DataW.trod_int underlying21 h;subst e;exact⟨k,rfl,by simp[Rows.uptoBulk]⟩
theorem KI{n:Nat}{cs:List Value}{y:DataW H×List MemPlace}(h:DataW.trod enc prog w base spare held n 80 cs=some y):∃v l,cs=[v]/\Lf (fun _=>True) w v l/\l.length+1<=Rows.uptoBulk y.1:=by
 obtain⟨v,l,e,h1,i⟩:=BH.GI (μ:=fun _:Int=>1) underlying80 (by kernel_rfl) (fun _ _ _ h=>Lg h) h;refine⟨v,l,e,h1,?_⟩;have:(l.map fun _=>1).sum=l.length:=by clear h1 i;induction l with|nil=>rfl|cons a l j=>simp only[List.map_cons,List.sum_cons,List.length_cons,j];omega
 omega
theorem Ma{n:Nat}{cs:List Value}{y:DataW H×List MemPlace}(h:DataW.trod enc prog w base spare held n 65 cs=some y):∃x:DKey,Fy w cs x/\1<=Rows.uptoBulk y.1:=by
 have c0:prog.cellsOf 65=6:=by kernel_rfl
 have c1:prog.cellsOf 3=1:=by kernel_rfl
 have O:prog.cellsOf 5=1:=by kernel_rfl
 have o:prog.cellsOf 4=1:=by kernel_rfl
 obtain⟨xs,m,_,rfl,hl,j,i⟩:=DataW.trod_struct underlying65 h;match xs,j with
 |[Q,S,T,U,V,X],_=>
  have h0:DataW.trod enc prog w base spare held m 3 ((cs.drop 0).take (prog.cellsOf 3))=some Q:=i 0 _ rfl;have h1:DataW.trod enc prog w base spare held m 4 ((cs.drop 1).take (prog.cellsOf 4))=some S:=i 1 _ rfl;have B:DataW.trod enc prog w base spare held m 5 ((cs.drop 2).take (prog.cellsOf 5))=some T:=i 2 _ rfl;have E:DataW.trod enc prog w base spare held m 4 ((cs.drop 3).take (prog.cellsOf 4))=some U:=i 3 _ rfl;have I:DataW.trod enc prog w base spare held m 4 ((cs.drop 4).take (prog.cellsOf 4))=some V:=i 4 _ rfl;have J:DataW.trod enc prog w base spare held m 3 ((cs.drop 5).take (prog.cellsOf 3))=some X:=i 5 _ rfl;rw[c0] at hl;rw[c1] at h0;rw[o] at h1;rw[O] at B;rw[o] at E;rw[o] at I;rw[c1] at J;obtain⟨a0,a1,a2,a3,a4,a5,rfl⟩:=ZY hl
  .clear i;simp only[List.drop_zero,List.take_succ_cons,List.take_zero,List.drop_succ_cons] at h0 h1 B E I J;obtain⟨Y,e0,_,_⟩:=DataW.trod_int underlying3 h0;obtain⟨k1,Z,_⟩:=DataW.trod_bool underlying4 h1;obtain⟨k2,e2,_,_⟩:=DataW.trod_int underlying5 B;obtain⟨k3,e3,_⟩:=DataW.trod_bool underlying4 E;obtain⟨k4,e4,_⟩:=DataW.trod_bool underlying4 I;obtain⟨k5,e5,_,_⟩:=DataW.trod_int underlying3 J;cases e0;cases Z;cases e2;cases e3;cases e4;cases e5;refine⟨⟨Y,k1,k2,k3,k4,k5⟩,rfl,?_⟩;simp only[Rows.uptoBulk];omega
theorem Lt{n:Nat}{cs:List Value}{y:DataW H×List MemPlace}(h:DataW.trod enc prog w base spare held n 22 cs=some y):∃v l,cs=[v]/\L0 (fun _=>True) w v l/\l.length+1<=Rows.uptoBulk y.1:=by
 obtain⟨v,l,e,h1,i⟩:=BH.GI (μ:=fun _:DKey=>1) underlying22 (by kernel_rfl) (fun _ _ _ h=>Ma h) h;refine⟨v,l,e,h1,?_⟩;have:(l.map fun _=>1).sum=l.length:=by clear h1 i;induction l with|nil=>rfl|cons a l j=>simp only[List.map_cons,List.sum_cons,List.length_cons,j];omega
 omega
end Go.Proofs.YtmdhibffnkhcnaaGreatDoor
namespace Go.Proofs.YtmdhibffnkhcnaaGreatDoor
open Go Go.K Proofs.Tryz
open Go.ChangeShapes Go.Joins
variable {H:Type}{enc:TypeId×Value->H}{w:World}{base:Nat}{spare:Nat->Bool}{held:Bool}
theorem MW{n:Nat}{cs:List Value}{y:DataW H×List MemPlace}(h:DataW.trod enc prog w base spare held n 22 cs=some y):∃v l,cs=[v]/\L0 (fun _=>True) w v l:=by
 obtain⟨v,l,e,h1,_⟩:=Lt h;exact⟨v,l,e,h1⟩
end Go.Proofs.YtmdhibffnkhcnaaGreatDoor
namespace Go.Proofs.YtmdhibffnkhcnaaGreatDoor
open Go Go.K Proofs.Tryz
open Go.ChangeShapes Go.WideShapes Go.ChangeAt Go.RowKit Go.Joins
def Ti : List (String × DataW Unit) := [("unicode/utf8.acceptRanges", Rows.laid_unicode_utf8_acceptRanges), ("unicode/utf8.first", Rows.laid_unicode_utf8_first)]
theorem Rr:Rows.laid_unicode_utf8_first=Lib.tabData .u8 (Pinned.utf8FirstZ.map Int.ofNat):=by kernel_rfl
theorem T0:(List.range 256).all (fun j=>decide (128<=j->(Pinned.utf8FirstZ.map Int.ofNat)[j]?=some (firstT j)))=true:=by decide +kernel
theorem V6:Rows.laid_unicode_utf8_acceptRanges (H:=Unit)=.agg ((List.range 16).map fun i=>.agg ([accLo i,accHi i].map fun z=>.lit (.int .u8 z))):=by kernel_rfl
theorem Mr{W:World}(h:laidMetH prog Ti W):EV W:=by
 rw[MakeChecks.laidMetH_plain _ _ _ (by kernel_rfl)] at h;have Y:=Lib.laidMet.reads h (.head _);have Z:=Lib.laidMet.reads h (.tail _ (.head _));have hf:∀j:Nat,128<=j->j<256->W.cell? ⟨1,j,none⟩=some (.int .u8 (firstT j)):=by
  intro j Q S;obtain⟨g,t,cs,fuel,p,E,B,o,I⟩:=Z
  obtain rfl := Option.some.inj ((show Tryz.prog.globalNamed "unicode/utf8.first" = some 1 by kernel_rfl).symm.trans E)
  obtain rfl:=Option.some.inj ((show(prog.globals[1]?).map (·.type)=some 381 by kernel_rfl).symm.trans B);rw[Rr] at I;have x:=Lib.cells_of_tab underlying381 underlying5 (by kernel_rfl) (by kernel_rfl) I;have:=World.var?_cell E o j;rw[this,<-Array.getElem?_toList,x];have ha:=List.all_eq_true.1 T0 j (List.mem_range.2 S);rw[decide_eq_true_eq] at ha;rw[List.getElem?_map,ha Q];rfl
 have J:∀j:Nat,j<16->W.cell? ⟨2,j*2,none⟩=some (.int .u8 (accLo j))/\W.cell? ⟨2,j*2+1,none⟩=some (.int .u8 (accHi j)):=by
  intro i U;obtain⟨g,t,cs,fuel,p,E,B,o,I⟩:=Y
  obtain rfl := Option.some.inj ((show Tryz.prog.globalNamed "unicode/utf8.acceptRanges" = some 2 by kernel_rfl).symm.trans E)
  obtain rfl:=Option.some.inj ((show(prog.globals[2]?).map (·.type)=some 384 by kernel_rfl).symm.trans B);rw[V6] at I;obtain⟨T,d,q,O,he⟩:=Lib.array_elem underlying384 I i U;simp only[List.getElem?_map,List.getElem?_range U,Option.map_some,Option.some.injEq] at O;subst O;have V:prog.cellsOf 383=2:=by kernel_rfl
  rw [V] at he;have x:=Lib.ints_of_struct underlying383 (fun j f y=>by
   match j,y with
   |0,y=>simp at y;subst y;exact⟨underlying5,rfl,by kernel_rfl⟩
   |1,y=>simp at y;subst y;exact⟨underlying5,rfl,by kernel_rfl⟩
   | j+2,y=>simp at y) (by rw [V];rfl) he
  have e0:=congrArg (·[0]?) x;have X:=congrArg (·[1]?) x;simp at e0 X;have w0:=World.var?_cell E o (i*2);have w1:=World.var?_cell E o (i*2+1);rw[w0,w1,<-Array.getElem?_toList,<-Array.getElem?_toList];exact⟨by simpa using e0,by simpa using X⟩
 have:=World.block_lt_of_cell? W _ (J 0 (by decide)).1;exact⟨this,hf,J⟩
noncomputable def L3(os:Os):World:=
 let w0:=World.holding prog os ⟨#[],#[],[]⟩
 let put (h:Array Obj) (g:Nat) (cs:Array Value):Array Obj:=h.modify g fun
  |.cells _ t frozen=>.cells cs t frozen
  |o=>o
 let h1:=put w0.heap 1 (Pinned.utf8FirstZ.map fun(z:Nat)=>Value.int .u8 (Int.ofNat z)).toArray
 let j:=put h1 2 ((List.range 16).flatMap fun i=>[Value.int .u8 (accLo i),Value.int .u8 (accHi i)]).toArray
 { w0 with heap:=j }
theorem La(os:Os)(args:Array Value):laidMetH prog Ti ((L3 os).forCall (fun _ _=>0) ⟨#[],args,[]⟩).memory:=by
 rw[MakeChecks.laidMetH_plain _ _ _ (by kernel_rfl)];exact(LaidIn.of_run (l:=Ti) [2,1] 8 (by kernel_rfl) (by kernel_rfl) (by kernel_rfl) (by kernel_rfl)).met
def dy(v:BE):Prop:=(0<=v.kind/\v.kind<256)/\(-9223372036854775808<=v.n/\v.n<=9223372036854775807)/\(0<=v.f/\v.f<18446744073709551616)/\v.s.size<18446744073709551616
variable {H:Type}{enc:TypeId×Value->H}{w:World}{base:Nat}{spare:Nat->Bool}{held:Bool}
theorem HF{k:IntKind}{n:Int}(h:(Lit.int k n).wf=true):k.min<=n/\n<=k.max:=by
 simpa[Lit.wf] using h
theorem Ig{n:Nat}{cs:List Value}{y:DataW H×List MemPlace}(h:DataW.trod enc prog w base spare held n 77 cs=some y):∃x:BE,cs=x.cells/\dy x:=by
 have V:prog.cellsOf 77=4:=by kernel_rfl
 have X:prog.cellsOf 5=1:=by kernel_rfl
 have Y:prog.cellsOf 2=1:=by kernel_rfl
 have Z:prog.cellsOf 75=1:=by kernel_rfl
 have c6:prog.cellsOf 9=1:=by kernel_rfl
 obtain⟨z0,z1,z2,z3,m',_,hl,i,j,o,B⟩:=trod_struct4 underlying77 h;rw[V] at hl;simp only[X,Y,Z,c6] at i j o B;match cs,hl with
 |[a1,a2,a3,a4],_=>
  simp only[List.drop_zero,List.take_succ_cons,List.take_zero,List.drop_succ_cons] at i j o B;obtain⟨I,f0,_,w0⟩:=DataW.trod_int underlying5 i;obtain⟨k1,f1,_,w1⟩:=DataW.trod_int underlying2 j;obtain⟨k2,f2,_,w2⟩:=DataW.trod_int underlying75 o;obtain⟨E,f3,_,J⟩:=DataW.trod_string underlying9 B;cases f0;cases f1;cases f2;cases f3;refine⟨⟨I,k1,k2,E⟩,rfl,?_⟩;have O:=HF w0;have r1:=HF w1;have Q:=HF w2;have S:IntKind.u8.min=0/\IntKind.u8.max=255:=by decide
  have T:IntKind.i64.min=-9223372036854775808/\IntKind.i64.max=9223372036854775807:=by decide
  have U:IntKind.u64.min=0/\IntKind.u64.max=18446744073709551615:=by decide
  rw[S.1,S.2] at O;rw[T.1,T.2] at r1;rw[U.1,U.2] at Q;have r3:E.size<=9223372036854775807:=by
   simp only[Lit.wf,maxLen] at J;simpa using J
  exact⟨⟨O.1,show I<256 by omega⟩,r1,⟨Q.1,show k2<18446744073709551616 by omega⟩,show E.size<18446744073709551616 by omega⟩
end Go.Proofs.YtmdhibffnkhcnaaGreatDoor
namespace Go.K
open Go
theorem BH.strip{α:Type}{S:Nat->Prop}{k:Nat}{R:World->List Value->α->Prop}{P:α->Prop}{w:World}{v:Value}{l:List α}(h:BH S k (fun w r x=>R w r x/\P x) w v l):BH S k R w v l/\∀x∈l,P x:=by
 obtain⟨a,c,e,h1,B,y⟩:=h;refine⟨⟨a,c,e,h1,B,fun i x j=>?_⟩,fun x j=>?_⟩
 .obtain⟨p,r,E,I,J,O,o⟩:=y i x j;exact⟨p,r,E,I,J,O,o.1⟩
 .obtain⟨i,Q⟩:=List.mem_iff_getElem?.1 j;obtain⟨_,_,_,_,_,_,o⟩:=y i x Q;exact o.2
end Go.K
namespace Go.Proofs.YtmdhibffnkhcnaaGreatDoor
open Go Go.K Proofs.Tryz
open Go.ChangeShapes Go.WideShapes Go.ChangeAt Go.RowKit Go.Joins
variable {H:Type}{enc:TypeId×Value->H}{w:World}{base:Nat}{spare:Nat->Bool}{held:Bool}
theorem Lj{n:Nat}{cs:List Value}{y:DataW H×List MemPlace}(h:DataW.trod enc prog w base spare held n 79 cs=some y):∃x:Attr,cs=x.cells/\LV x:=by
 have c0:prog.cellsOf 79=5:=by kernel_rfl
 have c1:prog.cellsOf 3=1:=by kernel_rfl
 have o:prog.cellsOf 77=4:=by kernel_rfl
 obtain⟨E,I,m,_,hl,h0,h1⟩:=trod_struct2 underlying79 h;rw[c0] at hl;simp only[c1,o] at h0 h1;match cs,hl with
 |[a0,J,O,a3,a4],_=>
  simp only[List.drop_zero,List.take_succ_cons,List.take_zero,List.drop_succ_cons] at h0 h1;obtain⟨k,e0,_,w0⟩:=DataW.trod_int underlying3 h0;obtain⟨x,ex,B⟩:=Ig h1;cases e0;have i:=HF w0;have j:IntKind.i64.min=-9223372036854775808/\IntKind.i64.max=9223372036854775807:=by decide
  rw[j.1,j.2] at i;refine⟨⟨k,x⟩,?_,i,B⟩;show _=Value.int .i64 k::x.cells;rw[<-ex]
end Go.Proofs.YtmdhibffnkhcnaaGreatDoor
namespace Go.Proofs.YtmdhibffnkhcnaaGreatDoor
open Go Go.K Proofs.Tryz
open Go.ChangeShapes Go.WideShapes Go.ChangeAt Go.RowKit Go.Joins
variable {H:Type}{enc:TypeId×Value->H}{w:World}{base:Nat}{spare:Nat->Bool}{held:Bool}
theorem RS{x y:Attr}(h:x.cells=y.cells):x=y:=by
 obtain⟨k,v,n,f,s⟩:=x;obtain⟨i,v',j,o,B⟩:=y;simp only[Attr.cells,BE.cells,List.cons.injEq,Value.int.injEq,Value.string.injEq,true_and,and_true] at h;obtain⟨rfl,rfl,rfl,rfl,rfl⟩:=h;rfl
theorem val_inj{x y:BE}(h:x.cells=y.cells):x=y:=by
 obtain⟨v,n,f,s⟩:=x;obtain⟨v',i,j,o⟩:=y;simp only[BE.cells,List.cons.injEq,Value.int.injEq,Value.string.injEq,true_and,and_true] at h;obtain⟨rfl,rfl,rfl,rfl⟩:=h;rfl
theorem XR{α:Type}{μ:α->Nat}{l:List α}{a:α}(h:a∈l):μ a<=(l.map μ).sum:=by
 induction l with
 |nil=>cases h
 |cons b l i=>
  simp only[List.map_cons,List.sum_cons];rcases List.mem_cons.1 h with rfl|h
  .omega
  .have:=i h;omega
end Go.Proofs.YtmdhibffnkhcnaaGreatDoor
namespace Go.Proofs.YtmdhibffnkhcnaaGreatDoor
open Go Go.K Proofs.Tryz
open Go.ChangeShapes Go.WideShapes Go.ChangeAt Go.RowKit Go.Joins
variable {H:Type}{enc:TypeId×Value->H}{w:World}{base:Nat}{spare:Nat->Bool}{held:Bool}
theorem Ll{n:Nat}{cs:List Value}{y:DataW H×List MemPlace}(h:DataW.trod enc prog w base spare held n 79 cs=some y):∃x:Attr,(Cx w cs x/\(x.key<=9223372036854775807/\JU x.val))/\MN x<=Rows.uptoBulk y.1:=by
 obtain⟨x,e,i⟩:=Lj h;obtain⟨x',e',hm⟩:=Lo h;have j:cs=x'.cells:=e';have:x=x':=RS (e.symm.trans j);subst this;exact⟨x,⟨e,i.1.2,⟨i.2.2.1,i.2.2.2.1⟩⟩,hm⟩
theorem Me{n:Nat}{cs:List Value}{y:DataW H×List MemPlace}(h:DataW.trod enc prog w base spare held n 133 cs=some y):∃x:Chg,(Hm w cs x/\(x.key<=9223372036854775807/\JU x.val))/\Rm x<=Rows.uptoBulk y.1:=by
 have E:prog.cellsOf 77=4:=by kernel_rfl
 obtain⟨x,e,hm⟩:=NJ h;obtain⟨xs,m,_,_,hl,i,j⟩:=DataW.trod_struct underlying133 h;match xs,i with
 |[I,T,J],_=>
  have o:DataW.trod enc prog w base spare held m 77 ((cs.drop 2).take (prog.cellsOf 77))=some J:=j 2 _ rfl;rw[E] at o;obtain⟨v,ev,B⟩:=Ig o;have e':cs=x.cells:=e;subst e';have:v=x.val:=val_inj (ev.symm.trans (by rfl));subst this;have c1:prog.cellsOf 3=1:=by kernel_rfl
  have h0:DataW.trod enc prog w base spare held m 3 ((x.cells.drop 0).take (prog.cellsOf 3))=some I:=j 0 _ rfl;rw[c1] at h0;obtain⟨k,O,_,Q⟩:=DataW.trod_int underlying3 h0;have hk:x.key=k:=by
   have:[Value.int .i64 x.key]=[.int .i64 k]:=O;simpa using this
  have hr:=(HF Q).2;have S:IntKind.i64.max=9223372036854775807:=by decide
  rw[S] at hr;exact⟨x,⟨rfl,by omega,⟨B.2.1,B.2.2.1⟩⟩,hm⟩
theorem NP{n:Nat}{cs:List Value}{y:DataW H×List MemPlace}(h:DataW.trod enc prog w base spare held n 43 cs=some y):∃v l,cs=[v]/\(Cv (fun _=>True) w v l/\∀a∈l,a.key<=9223372036854775807/\JU a.val)/\Wc l+1<=Rows.uptoBulk y.1:=by
 obtain⟨v,l,e,hl,hm⟩:=BH.GI (k:=5) (μ:=MN) (R:=fun(w:World) r (x:Attr)=>Cx w r x/\(x.key<=9223372036854775807/\JU x.val)) underlying43 (by kernel_rfl) (fun _ _ _ h=>Ll h) h;exact⟨v,l,e,hl.strip,hm⟩
theorem Mk{n:Nat}{cs:List Value}{y:DataW H×List MemPlace}(h:DataW.trod enc prog w base spare held n 81 cs=some y):∃v l,cs=[v]/\(Hj (fun _=>True) w v l/\∀a∈l,a.key<=9223372036854775807/\JU a.val)/\WM l+1<=Rows.uptoBulk y.1:=by
 obtain⟨v,l,e,hl,hm⟩:=BH.GI (k:=6) (μ:=Rm) (R:=fun(w:World) r (x:Chg)=>Hm w r x/\(x.key<=9223372036854775807/\JU x.val)) underlying81 (by kernel_rfl) (fun _ _ _ h=>Me h) h;exact⟨v,l,e,hl.strip,hm⟩
set_option maxRecDepth 20000 in
theorem Mj{n:Nat}{cs:List Value}{y:DataW H×List MemPlace}(h:DataW.trod enc prog w base spare held n 83 cs=some y):∃x:Dop,(Jy (fun _=>True) w cs x/\PK x)/\NB x<=Rows.uptoBulk y.1:=by
 have c0:prog.cellsOf 83=5:=by kernel_rfl
 have c1:prog.cellsOf 3=1:=by kernel_rfl
 have J:prog.cellsOf 5=1:=by kernel_rfl
 have O:prog.cellsOf 80=1:=by kernel_rfl
 have Q:prog.cellsOf 43=1:=by kernel_rfl
 have S:prog.cellsOf 81=1:=by kernel_rfl
 obtain⟨xs,m,_,rfl,hl,j,i⟩:=DataW.trod_struct underlying83 h;match xs,j with
 |[T,U,V,X,Y],_=>
  have h0:DataW.trod enc prog w base spare held m 5 ((cs.drop 0).take (prog.cellsOf 5))=some T:=i 0 _ rfl;have h1:DataW.trod enc prog w base spare held m 3 ((cs.drop 1).take (prog.cellsOf 3))=some U:=i 1 _ rfl;have o:DataW.trod enc prog w base spare held m 80 ((cs.drop 2).take (prog.cellsOf 80))=some V:=i 2 _ rfl;have B:DataW.trod enc prog w base spare held m 43 ((cs.drop 3).take (prog.cellsOf 43))=some X:=i 3 _ rfl;have E:DataW.trod enc prog w base spare held m 81 ((cs.drop 4).take (prog.cellsOf 81))=some Y:=i 4 _ rfl;rw[c0] at hl;rw[J] at h0;rw[c1] at h1;rw[O] at o;rw[Q] at B;rw[S] at E;obtain⟨a0,a1,Z,a3,a4,rfl⟩:=YF hl
  .clear i;simp only[List.drop_zero,List.take_succ_cons,List.take_zero,List.drop_succ_cons] at h0 h1 o B E;obtain⟨k,e0,_,_⟩:=DataW.trod_int underlying5 h0;obtain⟨n,e1,_,_⟩:=DataW.trod_int underlying3 h1;obtain⟨rv,rl,e2,hr,b2⟩:=KI o;obtain⟨sv,sl,e3,⟨hs,i3⟩,b3⟩:=NP B;obtain⟨pv,I,e4,⟨hp,i4⟩,b4⟩:=Mk E;cases e0;cases e1;cases e2;cases e3;cases e4;refine⟨⟨k,n,rl,sl,I⟩,⟨⟨Z,a3,a4,rfl,hr,hs,hp⟩,i3,i4⟩,?_⟩;simp only[NB,List.map_cons,List.map_nil,Rows.uptoBulk,Rows.uptoBulkAll];omega
theorem Lm{n:Nat}{cs:List Value}{y:DataW H×List MemPlace}(h:DataW.trod enc prog w base spare held n 34 cs=some y):∃v l,cs=[v]/\(Bi (fun _=>True) (fun _=>True) w v l/\∀o∈l,PK o)/\Cf l+1<=Rows.uptoBulk y.1:=by
 obtain⟨v,l,e,hl,hm⟩:=BH.GI (k:=5) (μ:=NB) (R:=fun(w:World) r (x:Dop)=>Jy (fun _=>True) w r x/\PK x) underlying34 (by kernel_rfl) (fun _ _ _ h=>Mj h) h;exact⟨v,l,e,hl.strip,hm⟩
end Go.Proofs.YtmdhibffnkhcnaaGreatDoor
namespace Go.Proofs.YtmdhibffnkhcnaaGreatDoor
open Go Go.K Proofs.Tryz
open Go.ChangeShapes Go.WideShapes Go.ChangeAt Go.RowKit Go.Joins
variable {H:Type}{enc:TypeId×Value->H}{w:World}{base:Nat}{spare:Nat->Bool}{held:Bool}
set_option maxRecDepth 20000 in
theorem Mg{n:Nat}{cs:List Value}{y:DataW H×List MemPlace}(h:DataW.trod enc prog w base spare held n 36 cs=some y):∃x:Qm,(Rj (fun _=>True) w cs x/\∀o∈x.x,PK o)/\Cf x.x<=Rows.uptoBulk y.1:=by
 have c0:prog.cellsOf 36=3:=by kernel_rfl
 have c1:prog.cellsOf 3=1:=by kernel_rfl
 have E:prog.cellsOf 34=1:=by kernel_rfl
 obtain⟨xs,m,_,rfl,hl,i,j⟩:=DataW.trod_struct underlying36 h;match xs,i with
 |[I,J,O],_=>
  have h0:DataW.trod enc prog w base spare held m 34 ((cs.drop 0).take (prog.cellsOf 34))=some I:=j 0 _ rfl;have h1:DataW.trod enc prog w base spare held m 3 ((cs.drop 1).take (prog.cellsOf 3))=some J:=j 1 _ rfl;have B:DataW.trod enc prog w base spare held m 3 ((cs.drop 2).take (prog.cellsOf 3))=some O:=j 2 _ rfl;rw[c0] at hl;rw[E] at h0;rw[c1] at h1 B;match cs,hl with
  |[a0,X,Y],_=>
   clear j;simp only[List.drop_zero,List.take_succ_cons,List.take_zero,List.drop_succ_cons] at h0 h1 B;obtain⟨v1,l1,Q,⟨S,T⟩,Z⟩:=Lm h0;obtain⟨k1,U,_,_⟩:=DataW.trod_int underlying3 h1;obtain⟨k2,V,_,_⟩:=DataW.trod_int underlying3 B;cases Q;cases U;cases V;refine⟨⟨l1,k1,k2⟩,⟨⟨_,rfl,S⟩,T⟩,?_⟩;simp only[List.map_cons,List.map_nil,Rows.uptoBulk,Rows.uptoBulkAll];omega
theorem Ld{n:Nat}{cs:List Value}{y:DataW H×List MemPlace}(h:DataW.trod enc prog w base spare held n 23 cs=some y):∃v l,cs=[v]/\Hs (fun _=>True) w v l/\∀s∈l,(∀o∈s.x,PK o)/\Cf s.x<=Rows.uptoBulk y.1:=by
 obtain⟨v,l,e,hl,hm⟩:=BH.GI (k:=3) (μ:=fun x:Qm=>Cf x.x) (R:=fun(w:World) r (x:Qm)=>Rj (fun _=>True) w r x/\∀o∈x.x,PK o) underlying23 (by kernel_rfl) (fun _ _ _ h=>Mg h) h;obtain⟨h1,j⟩:=hl.strip;refine⟨v,l,e,h1,fun x i=>⟨j x i,?_⟩⟩;have:=XR (μ:=fun x:Qm=>Cf x.x) i;omega
end Go.Proofs.YtmdhibffnkhcnaaGreatDoor
namespace Go.Proofs.YtmdhibffnkhcnaaGreatDoor
open Go Go.K Proofs.Tryz
open Go.ChangeShapes Go.WideShapes Go.ChangeAt Go.RowKit
set_option linter.unusedVariables false
theorem dJ:ownKnob prog.godebug=none:=by kernel_rfl
theorem laidOut:laidOutB prog=true:=by kernel_rfl
set_option maxRecDepth 100000 in
theorem JM(os:Os)(o:os.Started)(H:Type)(enc:TypeId×Value->H)(F0:Stop.Interp) :
  ReturnsInHanded {} Tryz.checked os 5 .any ((Rows.OpenSpec.upto Rows.textPartsSpec).preRow enc prog Tryz.f5 [] false Rows.textPartsUptoRow.laid) (((Rows.OpenSpec.upto Rows.textPartsSpec).at F0).post enc prog Tryz.f5 false true false false):=by
 refine returnsInHanded_of_row (C:=Tryz.checked) (s:=(Rows.OpenSpec.upto Rows.textPartsSpec)) dJ o (by kernel_rfl) func5
  (witness_row_at (enc:=enc) (C:=Tryz.checked) (s:=(Rows.OpenSpec.upto Rows.textPartsSpec)) false (L3 os) #[.slice none 0 0,.int .i64 0,.slice none 0 0,.int .i64 0,.int .i64 0,.int .i64 0] rfl (by kernel_rfl) (by kernel_rfl) (by kernel_rfl)
   ⟨⟨(OpenSpec.pre_some (k:=Rows.uptoSmall) rfl [] false _ _).2 ⟨_,_,_,DataW.Whole_of_whole (fuel:=8) (x:=([.nil,.lit (.int .i64 0),.nil,.lit (.int .i64 0),.lit (.int .i64 0),.lit (.int .i64 0)],[],[])) (by kernel_rfl),by kernel_rfl,by kernel_rfl⟩,La os _⟩,sizedMet_of_sizedB (fuel:=8) (by kernel_rfl)⟩) ?_
 intro W base args ds gs before y hW _ O _ hL _ _;have Q:=hW;obtain⟨p,q,E,hV,rfl,a6,a7⟩:=hW;have hA:DataW.TrodAll enc prog W 0 (fun _=>true) true Tryz.f5.params.toList args.toList ds p:=E;have i:∀(j:Nat) t v,Tryz.f5.params[j]?=some t->args[j]?=some v->Value.okWide prog W .any base t v:=y;rw[Tryz.params5] at hA i;have I:EV W:=Mr hL;obtain⟨v0,a8,d0,ak,p0,q0,S,rfl,rfl,h0,r0⟩:=trodAll_cons hA;obtain⟨v1,al,d1,an,p1,q1,rfl,rfl,rfl,h1,r1⟩:=trodAll_cons r0;obtain⟨v2,av,d2,ax,p2,q2,rfl,rfl,rfl,T,r2⟩:=trodAll_cons r1;obtain⟨v3,ay,d3,b0,p3,q3,rfl,rfl,rfl,h3,r3⟩:=trodAll_cons r2;obtain⟨v4,b1,d4,b2,p4,q4,rfl,rfl,rfl,h4,r4⟩:=trodAll_cons r3;obtain⟨v5,b3,d5,b4,p5,q5,rfl,rfl,rfl,h5,r5⟩:=trodAll_cons r4;obtain⟨rfl,rfl,rfl⟩:=trodAll_nil r5;obtain rfl:args=#[v0,v1,v2,v3,v4,v5]:=by cases args;simp_all
 obtain⟨rfl,rfl⟩:=trodVars_none hV;have hk:=of_decide_eq_true (O _ rfl);simp only[List.append_nil,Rows.uptoBulkAll] at hk;have U:∀x∈p0,x.block<W.heap.size:=by obtain⟨m,hm⟩:=h0;exact DataW.trod_lt m _ _ _ hm
 obtain⟨V,X⟩:=id h0;obtain⟨u0,l0,e0,s0⟩:=MW X;try dsimp only at s0
 obtain⟨a0,n0,c0,rfl⟩:=okWide_slice underlying22 (i 0 22 v0 rfl rfl);simp only[Value.cells,List.cons.injEq,and_true] at e0;subst e0;obtain⟨x1,rfl,rfl,rfl,w1⟩:=open_int underlying3 (i 1 3 v1 rfl rfl) h1;have Y:∀x∈p2,x.block<W.heap.size:=by obtain⟨m,hm⟩:=T;exact DataW.trod_lt m _ _ _ hm
 obtain⟨Z,a1⟩:=id T;obtain⟨u2,l2,e2,J⟩:=Ld a1;try dsimp only at J
 obtain⟨a2,n2,c2,rfl⟩:=okWide_slice underlying23 (i 2 23 v2 rfl rfl);simp only[Value.cells,List.cons.injEq,and_true] at e2;subst e2;obtain⟨x3,rfl,rfl,rfl,w3⟩:=open_int underlying3 (i 3 3 v3 rfl rfl) h3;obtain⟨x4,rfl,rfl,rfl,w4⟩:=open_int underlying3 (i 4 3 v4 rfl rfl) h4;obtain⟨x5,rfl,rfl,rfl,w5⟩:=open_int underlying3 (i 5 3 v5 rfl rfl) h5;clear E y;refine((NF s0 J.1 I (fun s hs=>⟨(J.2 s hs).1,Nat.le_trans (J.2 s hs).2 (by omega)⟩))).mono fun e W' ⟨v,he,hv,hg⟩=>?_;subst he;subst hv;have B:Below W.heap.size W W':=Mod.below hg (Nat.le_refl _) fun _ h=>h.elim;exact⟨_,rfl,_,_,_,[],_,[],Q,trodAll_mk1 (shut_bool underlying4 _),(trodAll_cons_mk (Below.trod laidOut (by kernel_rfl) (of_decide_eq_true (by kernel_rfl)) h0 B U) (trodAll_cons_mk (shut_int underlying3 w1) (trodAll_cons_mk (Below.trod laidOut (by kernel_rfl) (of_decide_eq_true (by kernel_rfl)) T B Y) (trodAll_cons_mk (shut_int underlying3 w3) (trodAll_cons_mk (shut_int underlying3 w4) (trodAll_cons_mk (shut_int underlying3 w5) trodAll_mk0)))))),rfl,B.frame _,fun h=>by cases h⟩
theorem cM{a0 a1 a2 a3 a4 a5 a6 a7 a8 a9 i j o x y B E I J O Q S a22 T U a25 V X Y Z ak al:Bool}(h0:a0=true)(h1:a1=true)(h2:a2=true)(h3:a3=true)(h4:a4=true)(h5:a5=true)(h6:a6=true)(h7:a7=true)(h8:a8=true)(h9:a9=true)(an:i=true)(av:j=true)(ax:o=true)(ay:x=true)(b0:y=true)(b1:B=true)(b2:E=true)(b3:I=true)(b4:J=true)(b5:O=true)(b6:Q=true)(b7:S=true)(b8:a22=true)(b9:T=true)(ba:U=true)(bc:a25=true)(bd:V=true)(bk:X=true)(bl:Y=true)(bp:Z=true)(bs:ak=true)(bx:al=true):(((((((((((((((((((((((((((((((a0&&a1)&&a2)&&a3)&&a4)&&a5)&&a6)&&a7)&&a8)&&a9)&&i)&&j)&&o)&&x)&&y)&&B)&&E)&&I)&&J)&&O)&&Q)&&S)&&a22)&&T)&&U)&&a25)&&V)&&X)&&Y)&&Z)&&ak)&&al)=true:=by simp only[h0,h1,h2,h3,h4,h5,h6,h7,h8,h9,an,av,ax,ay,b0,b1,b2,b3,b4,b5,b6,b7,b8,b9,ba,bc,bd,bk,bl,bp,bs,bx];rfl
set_option maxHeartbeats 0 in
theorem JG:joinedFacts prog 5 Tryz.f5 (Rows.OpenSpec.upto Rows.textPartsSpec).bare Rows.textPartsUptoRow=true:=by
 unfold joinedFacts;refine cM ?_ ?_ ?_ ?_ ?_ ?_ ?_ ?_ ?_ ?_ ?_ ?_ ?_ ?_ ?_ ?_ ?_ ?_ ?_ ?_ ?_ ?_ ?_ ?_ ?_ ?_ ?_ ?_ ?_ ?_ ?_ ?_ ;all_goals (as_aux_lemma=>kernel_rfl)
theorem LA:Rows.TextPartsUptoSaid:=
 OpenClaim.holds_of_cond 5 Tryz.f5 rfl rfl rfl rfl rfl rfl rfl ⟨rfl,rfl,rfl,rfl,rfl⟩ rfl rfl rfl rfl rfl (by kernel_rfl) func5 JG
  (of_decide_eq_true (by kernel_rfl)) (by unfold Func.isWrapper;first|(rw[if_pos (by decide +kernel)];kernel_rfl)|(rw[if_neg (by decide +kernel)];exact⟨rfl,rfl⟩))
  (fun os i H enc _ j=>JM os i H enc j)
theorem TextPartsUpto_proved:Rows.TextPartsUptoCardSaid:=
 Claim7.holds_tied_plain_at .later [] [.data,.pinned] true Rows.textPartsUptoCard.stood.harness false
  LA (fun _ h=>by cases h) (by kernel_rfl) (fun _ h=>by cases h) textPartsUpto_row_tie rfl ⟨rfl,rfl⟩ (by kernel_rfl) rfl
  (fun f fn x o=>by
   obtain rfl : f = 5 := Option.some.inj ((show Tryz.prog.funcNamed "rubric/rubriclaw25.TextParts" = some 5 by kernel_rfl).symm.trans x) |>.symm
   obtain rfl:fn=Tryz.f5:=(Option.some.inj (func5.symm.trans o)).symm;exact ⟨by kernel_rfl,fun j t ht=>by
    rw[Tryz.params5] at ht;have hm:t∈[22,3,23,3,3,3]:=by simpa using Array.mem_of_getElem? ht
    have i:([22,3,23,3,3,3].all fun u=>!prog.wantsStandIn u)=true:=by kernel_rfl
    exact (show prog.wantsStandIn t=false by simpa using List.all_eq_true.1 i t hm)⟩)
  (by kernel_rfl)
#print axioms TextPartsUpto_proved
end Go.Proofs.YtmdhibffnkhcnaaGreatDoor
