/- What is handed in, opened, with how much it holds: sets, patches, runes, ops, keys. No conditions. The opening of the rows that list the two tables: what the condition gives, a world that meets it; what is handed in, opened with its ranges. No conditions. Sets that are handed in, opened with their ranges. No conditions. The opening of the script's rows: what the condition gives (the table of fields), a world that meets it; bytes handed in, opened with their ranges. No conditions. What is handed in, opened with its ranges: a script, its commands, and what they hold; how large it is. No conditions. -/
import Derived.Test.YtaimlfomodfekaaGreatDoorZScriptForms6
import Derived.Test.YtaimlfomodfekaaGreatDoorRows
import Derived.Lib.LaidU8
import Derived.Lib.LaidIn
import Derived.LaidHandle
import Derived.LaidMore
import Derived.MakeChecks
set_option linter.unusedSimpArgs false
set_option linter.unusedVariables false
namespace Go.Proofs.YtaimlfomodfekaaGreatDoor
open Go Go.K
open Go.ChangeShapes Go.Joins
variable {H:Type} {enc:TypeId × Value→H} {w:World} {base:Nat} {spare:Nat→Bool} {held:Bool}
theorem bulk_app (l m:List (DataW H)):Rows.uptoBulkAll (l++m)=Rows.uptoBulkAll l+Rows.uptoBulkAll m:=by
 induction l with
 | nil=>simp [Rows.uptoBulkAll]
 | cons d l ih=>simp only [List.cons_append,Rows.uptoBulkAll,ih];omega
theorem SlR.of_trodU {α:Type} {t e k:Nat} {R:World→List Value→α→Prop} {μ:α→Nat} {fuel:Nat} {cs:List Value} {x:DataW H × List MemPlace} (ht:Tryz.prog.underlying t=some (.slice e)) (hk:Tryz.prog.cellsOf e=k)
  (hel:∀ n cs' y,DataW.trod enc Tryz.prog w base spare held n e cs'=some y→∃ x,R w cs' x∧μ x≤Rows.uptoBulk y.1) (h:DataW.trod enc Tryz.prog w base spare held fuel t cs=some x) :
  ∃ v l,cs=[v]∧SlR (fun _=>True) k R w v l∧(l.map μ).sum+1≤Rows.uptoBulk x.1:=by
 rcases Go.Deep.open_slice ht h with ⟨rfl,rfl⟩ | ⟨a,len,cap,m,n,D,Pl,rfl,hb,hl,hm,hmm,rfl,hall⟩
 ·exact ⟨_,[],rfl,SlR.nil,by simp [Rows.uptoBulk]⟩
 ·have hlm:len≤m:=by rw [hmm];split <;> omega
  have one:∀ i,i < len→∃ (cs':List Value) (x:α),cs'.length=k∧(∀ j u,cs'[j]?=some u→w.cell? (a.add (i * k+j))=some u)∧R w cs' x∧μ x≤Rows.uptoBulk (D i):=by
   intro i hi
   obtain ⟨cs',h1,h2⟩:=hall i (by omega)
   obtain ⟨x,hx,hmu⟩:=hel n cs' _ h2
   obtain ⟨_,hlen,hc⟩:=World.cells?_some h1
   rw [hk] at hlen hc
   refine ⟨cs',x,hlen,fun j u hu=>?_,hx,hmu⟩
   have hj:j < k:=by rw [←hlen];exact (List.getElem?_eq_some_iff.1 hu).1
   have:=hc j hj
   rw [Addr.add_add] at this
   rw [this];exact hu
  have build:∀ q,q≤len→∃ l:List α,l.length=q∧(l.map μ).sum≤Rows.uptoBulkAll ((List.range q).map D)∧∀ i x,l[i]?=some x→∃ cs':List Value,cs'.length=k∧(∀ j u,cs'[j]?=some u→w.cell? (a.add (i * k+j))=some u)∧R w cs' x:=by
   intro q
   induction q with
   | zero=>exact fun _=>⟨[],rfl,by simp [Rows.uptoBulkAll],fun i x h=>by simp at h⟩
   | succ q ih=>
    intro hq
    obtain ⟨l,h1,hs,h2⟩:=ih (by omega)
    obtain ⟨cs',x,h3,h4,h5,h6⟩:=one q (by omega)
    refine ⟨l++[x],by simp [h1],?_,fun i y hy=>?_⟩
    ·rw [List.range_succ,List.map_append (f:=D),bulk_app]
     simp only [List.map_append,List.sum_append,List.map_cons,List.map_nil,List.sum_cons,List.sum_nil,Rows.uptoBulkAll]
     omega
    by_cases hi:i < q
    ·rw [List.getElem?_append_left (by omega)] at hy;exact h2 i y hy
    ·have:i=q:=by have:=(List.getElem?_eq_some_iff.1 hy).1;simp [h1] at this;omega
     subst this
     rw [List.getElem?_append_right (by omega)] at hy
     simp [h1] at hy;subst hy
     exact ⟨cs',h3,h4,h5⟩
  obtain ⟨l,h1,hs,h2⟩:=build len (Nat.le_refl _)
  subst h1
  refine ⟨_,l,rfl,⟨a,cap,rfl,hl,hm,fun i x hx=>?_⟩,?_⟩
  ·obtain ⟨cs',h3,h4,h5⟩:=h2 i x hx
   exact ⟨a,cs',rfl,trivial,h3,h4,h5⟩
  ·simp only [Rows.uptoBulk];omega
end Go.Proofs.YtaimlfomodfekaaGreatDoor

namespace Go.Proofs.YtaimlfomodfekaaGreatDoor
open Go Go.K
open Go.ChangeShapes Go.WideShapes Go.ChangeAt Go.RowKit Go.Joins

variable {H:Type} {enc:TypeId × Value→H} {w:World} {base:Nat} {spare:Nat→Bool} {held:Bool}
theorem wf_range {k:IntKind} {n:Int} (h:(Lit.int k n).wf=true):k.min≤n∧n≤k.max:=by
 simpa [Lit.wf] using h
end Go.Proofs.YtaimlfomodfekaaGreatDoor

namespace Go.K
open Go
theorem SlR.strip {α:Type} {S:Nat→Prop} {k:Nat} {R:World→List Value→α→Prop} {P:α→Prop} {w:World} {v:Value} {l:List α} (h:SlR S k (fun w r x=>R w r x∧P x) w v l):SlR S k R w v l∧∀ x ∈ l,P x:=by
 obtain ⟨a,c,e,h1,h2,h3⟩:=h
 refine ⟨⟨a,c,e,h1,h2,fun i x hx=>?_⟩,fun x hx=>?_⟩
 ·obtain ⟨p,r,q1,q2,q3,q4,q5⟩:=h3 i x hx
  exact ⟨p,r,q1,q2,q3,q4,q5.1⟩
 ·obtain ⟨i,hi⟩:=List.mem_iff_getElem?.1 hx
  obtain ⟨_,_,_,_,_,_,q5⟩:=h3 i x hi
  exact q5.2
end Go.K
namespace Go.Proofs.YtaimlfomodfekaaGreatDoor
open Go Go.K
open Go.ChangeShapes Go.WideShapes Go.ChangeAt Go.RowKit Go.Joins
variable {H:Type} {enc:TypeId × Value→H} {w:World} {base:Nat} {spare:Nat→Bool} {held:Bool}
end Go.Proofs.YtaimlfomodfekaaGreatDoor

namespace Go.Proofs.YtaimlfomodfekaaGreatDoor
open Go Go.K
open Go.ChangeShapes Go.WideShapes Go.ChangeAt Go.RowKit Go.Joins

def laidF : List (String × DataW Unit) := [("unicode/utf8.acceptRanges", Rows.laid_unicode_utf8_acceptRanges), ("rubric/script.fields", Rows.laid_rubric_script_fields), ("unicode/utf8.first", Rows.laid_unicode_utf8_first)]
theorem flds_tab:Rows.laid_rubric_script_fields (H:=Unit)=.agg ((List.range 22).map fun i=>.lit (.string (fldS i).data.toList)):=by kernel_rfl
theorem byteArr_ext {a b:ByteArray} (h:a.data.toList=b.data.toList):a=b:=by
 cases a;cases b
 simp only at h
 rw [Array.toList_inj.1 h]
theorem flds_of_laid {W:World} (h:laidMetH Tryz.prog laidF W):Flds W:=by
 rw [MakeChecks.laidMetH_plain _ _ _ (by kernel_rfl)] at h
 have h4:=Lib.laidMet.reads h (.tail _ (.head _))
 refine ⟨fun i hi=>?_⟩
 obtain ⟨g,t,cs,fuel,p,hg,hty,hvar,hd⟩:=h4
 obtain rfl := Option.some.inj ((show Tryz.prog.globalNamed "rubric/script.fields" = some 0 by kernel_rfl).symm.trans hg)
 obtain rfl:=Option.some.inj ((show (Tryz.prog.globals[0]?).map (·.type)=some 113 by kernel_rfl).symm.trans hty)
 rw [flds_tab] at hd
 obtain ⟨fuel',d,q,hdi,he⟩:=Lib.array_elem Tryz.underlying113 hd i hi
 simp only [List.getElem?_map,List.getElem?_range hi,Option.map_some,Option.some.injEq] at hdi
 subst hdi
 have c1:Tryz.prog.cellsOf 9=1:=by kernel_rfl
 rw [c1] at he
 obtain ⟨s,hs,hx,_⟩:=DataW.trod_string Tryz.underlying9 he
 simp only [Prod.mk.injEq,DataW.lit.injEq,Lit.string.injEq] at hx
 have es:s=fldS i:=byteArr_ext hx.1.symm
 subst es
 have e0:=congrArg (·[0]?) hs
 simp at e0
 have w0:=World.var?_cell hg hvar i
 rw [w0,←Array.getElem?_toList]
 simpa using e0
noncomputable def laidWorldF (os:Os):World:=
 let w0:=World.holding Tryz.prog os ⟨#[],#[],[]⟩
 let put (h:Array Obj) (g:Nat) (cs:Array Value):Array Obj:=h.modify g fun
  | .cells _ t frozen=>.cells cs t frozen
  | o=>o
 let h1:=put w0.heap 1 (Pinned.utf8FirstZ.map fun (z:Nat)=>Value.int .u8 (Int.ofNat z)).toArray
 let h2:=put h1 2 ((([(128,191),(160,191),(128,159),(144,191),(128,143)]:List (Int × Int))++List.replicate 11 (0,0)).flatMap fun (p:Int × Int)=>[Value.int .u8 p.1,Value.int .u8 p.2]).toArray
 let h3:=put h2 0 ((List.range 22).map fun i=>Value.string (fldS i)).toArray
 { w0 with heap:=h3 }
theorem laidF_met (os:Os) (args:Array Value):laidMetH Tryz.prog laidF ((laidWorldF os).forCall (fun _ _=>0) ⟨#[],args,[]⟩).memory:=by
 rw [MakeChecks.laidMetH_plain _ _ _ (by kernel_rfl)]
 exact (LaidIn.of_run (l:=laidF) [2,1,0] 8 (by kernel_rfl) (by kernel_rfl) (by kernel_rfl) (by kernel_rfl)).met
variable {H:Type} {enc:TypeId × Value→H} {w:World} {base:Nat} {spare:Nat→Bool} {held:Bool}
end Go.Proofs.YtaimlfomodfekaaGreatDoor

namespace Go.Proofs.YtaimlfomodfekaaGreatDoor
open Go Go.K
open Go.ChangeShapes Go.WideShapes Go.ChangeAt Go.RowKit Go.Joins
variable {H:Type} {enc:TypeId × Value→H} {w:World} {base:Nat} {spare:Nat→Bool} {held:Bool}
theorem in64_wf {n:Int} (h:(Lit.int .i64 n).wf=true):In64 n:=by
 have hr:=wf_range h
 have m1:IntKind.i64.min=-9223372036854775808∧IntKind.i64.max=9223372036854775807:=by decide
 rw [m1.1,m1.2] at hr
 exact hr
theorem in32_wf {n:Int} (h:(Lit.int .i32 n).wf=true):In32 n:=by
 have hr:=wf_range h
 have m1:IntKind.i32.min=-2147483648∧IntKind.i32.max=2147483647:=by decide
 rw [m1.1,m1.2] at hr
 exact hr
theorem in8_wf {n:Int} (h:(Lit.int .u8 n).wf=true):0≤n∧n < 256:=by
 have hr:=wf_range h
 have m1:IntKind.u8.min=0∧IntKind.u8.max=255:=by decide
 rw [m1.1,m1.2] at hr
 exact ⟨hr.1,by omega⟩
theorem inu64_wf {n:Int} (h:(Lit.int .u64 n).wf=true):0≤n∧n < 18446744073709551616:=by
 have hr:=wf_range h
 have m1:IntKind.u64.min=0∧IntKind.u64.max=18446744073709551615:=by decide
 rw [m1.1,m1.2] at hr
 exact ⟨hr.1,by omega⟩
theorem len_sum1 {α:Type} (l:List α):(l.map fun _=>1).sum=l.length:=by
 induction l with
 | nil=>rfl
 | cons a l ih=>simp only [List.map_cons,List.sum_cons,List.length_cons,ih];omega
theorem slR_len {α:Type} {S:Nat→Prop} {k:Nat} {R:World→List Value→α→Prop} {w:World} {v:Value} {l:List α} (h:SlR S k R w v l):l.length < 9223372036854775808:=by
 obtain ⟨_,_,_,_,hm,_⟩:=h
 have e:maxLen=9223372036854775807:=rfl
 omega
set_option maxRecDepth 20000 in
theorem val_of_trodS {n:Nat} {cs:List Value} {y:DataW H × List MemPlace} (h:DataW.trod enc Tryz.prog w base spare held n 108 cs=some y):∃ x:AVal,cs=x.cells∧InSV x∧x.s.size+1≤Rows.uptoBulk y.1:=by
 have c0:Tryz.prog.cellsOf 108=4:=by kernel_rfl
 obtain ⟨xs,m,_,rfl,hl,hlen,hf⟩:=DataW.trod_struct Tryz.underlying108 h
 match xs,hlen with
 | [y0,y1,y2,y3],_=>
  have g0:DataW.trod enc Tryz.prog w base spare held m 5 ((cs.drop 0).take (Tryz.prog.cellsOf 5))=some y0:=hf 0 _ rfl
  rw [show Tryz.prog.cellsOf 5=1 by kernel_rfl] at g0
  have g1:DataW.trod enc Tryz.prog w base spare held m 2 ((cs.drop 1).take (Tryz.prog.cellsOf 2))=some y1:=hf 1 _ rfl
  rw [show Tryz.prog.cellsOf 2=1 by kernel_rfl] at g1
  have g2:DataW.trod enc Tryz.prog w base spare held m 38 ((cs.drop 2).take (Tryz.prog.cellsOf 38))=some y2:=hf 2 _ rfl
  rw [show Tryz.prog.cellsOf 38=1 by kernel_rfl] at g2
  have g3:DataW.trod enc Tryz.prog w base spare held m 9 ((cs.drop 3).take (Tryz.prog.cellsOf 9))=some y3:=hf 3 _ rfl
  rw [show Tryz.prog.cellsOf 9=1 by kernel_rfl] at g3
  rw [c0] at hl
  match cs,hl with
  | [a0,a1,a2,a3],_=>
   clear hf
   simp only [List.drop_zero,List.take_succ_cons,List.take_zero,List.drop_succ_cons] at g0 g1 g2 g3
   obtain ⟨k0,f0,b0,r0⟩:=DataW.trod_int Tryz.underlying5 g0
   obtain ⟨k1,f1,b1,r1⟩:=DataW.trod_int Tryz.underlying2 g1
   obtain ⟨k2,f2,b2,r2⟩:=DataW.trod_int Tryz.underlying38 g2
   obtain ⟨k3,f3,b3,r3⟩:=DataW.trod_string Tryz.underlying9 g3
   cases f0;cases f1;cases f2;cases f3
   subst b0
   subst b1
   subst b2
   subst b3
   have i0:=in8_wf r0
   have i1:=in64_wf r1
   have i2:=inu64_wf r2
   have i3:k3.size < 9223372036854775808:=by
    simp only [Lit.wf,maxLen] at r3
    have:k3.size≤9223372036854775807:=by simpa using r3
    omega
   refine ⟨⟨k0,k1,k2,k3⟩,rfl,⟨i0,i1,i2,i3⟩,?_⟩
   simp only [List.map_cons,List.map_nil,Rows.uptoBulk,Rows.uptoBulkAll,Array.length_toList,ByteArray.size_data]
   omega
set_option maxRecDepth 20000 in
theorem attr_of_trodS {n:Nat} {cs:List Value} {y:DataW H × List MemPlace} (h:DataW.trod enc Tryz.prog w base spare held n 121 cs=some y):∃ x:Attr,(RAttr w cs x∧InSA x)∧mAttr x≤Rows.uptoBulk y.1:=by
 have c0:Tryz.prog.cellsOf 121=5:=by kernel_rfl
 obtain ⟨xs,m,_,rfl,hl,hlen,hf⟩:=DataW.trod_struct Tryz.underlying121 h
 match xs,hlen with
 | [y0,y1],_=>
  have g0:DataW.trod enc Tryz.prog w base spare held m 3 ((cs.drop 0).take (Tryz.prog.cellsOf 3))=some y0:=hf 0 _ rfl
  rw [show Tryz.prog.cellsOf 3=1 by kernel_rfl] at g0
  have g1:DataW.trod enc Tryz.prog w base spare held m 108 ((cs.drop 1).take (Tryz.prog.cellsOf 108))=some y1:=hf 1 _ rfl
  rw [show Tryz.prog.cellsOf 108=4 by kernel_rfl] at g1
  rw [c0] at hl
  match cs,hl with
  | [a0,a1,a2,a3,a4],_=>
   clear hf
   simp only [List.drop_zero,List.take_succ_cons,List.take_zero,List.drop_succ_cons] at g0 g1
   obtain ⟨k0,f0,b0,r0⟩:=DataW.trod_int Tryz.underlying3 g0
   obtain ⟨k1,f1,i1,b1⟩:=val_of_trodS g1
   cases f0;cases f1
   subst b0
   have i0:=in64_wf r0
   refine ⟨⟨k0,k1⟩,⟨rfl,i0,i1⟩,?_⟩
   simp only [mAttr,List.map_cons,List.map_nil,Rows.uptoBulk,Rows.uptoBulkAll]
   omega
set_option maxRecDepth 20000 in
theorem chg_of_trodS {n:Nat} {cs:List Value} {y:DataW H × List MemPlace} (h:DataW.trod enc Tryz.prog w base spare held n 110 cs=some y):∃ x:Chg,(RChg w cs x∧InSC x)∧mChg x≤Rows.uptoBulk y.1:=by
 have c0:Tryz.prog.cellsOf 110=6:=by kernel_rfl
 obtain ⟨xs,m,_,rfl,hl,hlen,hf⟩:=DataW.trod_struct Tryz.underlying110 h
 match xs,hlen with
 | [y0,y1,y2],_=>
  have g0:DataW.trod enc Tryz.prog w base spare held m 3 ((cs.drop 0).take (Tryz.prog.cellsOf 3))=some y0:=hf 0 _ rfl
  rw [show Tryz.prog.cellsOf 3=1 by kernel_rfl] at g0
  have g1:DataW.trod enc Tryz.prog w base spare held m 4 ((cs.drop 1).take (Tryz.prog.cellsOf 4))=some y1:=hf 1 _ rfl
  rw [show Tryz.prog.cellsOf 4=1 by kernel_rfl] at g1
  have g2:DataW.trod enc Tryz.prog w base spare held m 108 ((cs.drop 2).take (Tryz.prog.cellsOf 108))=some y2:=hf 2 _ rfl
  rw [show Tryz.prog.cellsOf 108=4 by kernel_rfl] at g2
  rw [c0] at hl
  match cs,hl with
  | [a0,a1,a2,a3,a4,a5],_=>
   clear hf
   simp only [List.drop_zero,List.take_succ_cons,List.take_zero,List.drop_succ_cons] at g0 g1 g2
   obtain ⟨k0,f0,b0,r0⟩:=DataW.trod_int Tryz.underlying3 g0
   obtain ⟨k1,f1,b1⟩:=DataW.trod_bool Tryz.underlying4 g1
   obtain ⟨k2,f2,i2,b2⟩:=val_of_trodS g2
   cases f0;cases f1;cases f2
   subst b0
   subst b1
   have i0:=in64_wf r0
   refine ⟨⟨k0,k1,k2⟩,⟨rfl,i0,i2⟩,?_⟩
   simp only [mChg,List.map_cons,List.map_nil,Rows.uptoBulk,Rows.uptoBulkAll]
   omega
theorem set_of_trodS {n:Nat} {cs:List Value} {y:DataW H × List MemPlace} (h:DataW.trod enc Tryz.prog w base spare held n 78 cs=some y):∃ v l,cs=[v]∧(RSet (fun _=>True) w v l∧RepM (InSA) l)∧mSet l+1≤Rows.uptoBulk y.1:=by
 obtain ⟨v,l,e,hl,hm⟩:=SlR.of_trodU (k:=5) (μ:=mAttr) (R:=fun (w:World) r (x:Attr)=>RAttr w r x∧(InSA) x) Tryz.underlying78 (by kernel_rfl) (fun _ _ _ h=>attr_of_trodS h) h
 exact ⟨v,l,e,⟨hl.strip.1,slR_len hl,hl.strip.2⟩,hm⟩
theorem pat_of_trodS {n:Nat} {cs:List Value} {y:DataW H × List MemPlace} (h:DataW.trod enc Tryz.prog w base spare held n 50 cs=some y):∃ v l,cs=[v]∧(RPat (fun _=>True) w v l∧RepM (InSC) l)∧mPat l+1≤Rows.uptoBulk y.1:=by
 obtain ⟨v,l,e,hl,hm⟩:=SlR.of_trodU (k:=6) (μ:=mChg) (R:=fun (w:World) r (x:Chg)=>RChg w r x∧(InSC) x) Tryz.underlying50 (by kernel_rfl) (fun _ _ _ h=>chg_of_trodS h) h
 exact ⟨v,l,e,⟨hl.strip.1,slR_len hl,hl.strip.2⟩,hm⟩
theorem rune_of_trodS {n:Nat} {cs:List Value} {y:DataW H × List MemPlace} (h:DataW.trod enc Tryz.prog w base spare held n 21 cs=some y):∃ x:Int,(RRune w cs x∧In32 x)∧1≤Rows.uptoBulk y.1:=by
 obtain ⟨k,rfl,e,hw⟩:=DataW.trod_int Tryz.underlying21 h
 subst e
 exact ⟨k,⟨rfl,in32_wf hw⟩,by simp [Rows.uptoBulk]⟩
theorem byte_of_trodSU {n:Nat} {cs:List Value} {y:DataW H × List MemPlace} (h:DataW.trod enc Tryz.prog w base spare held n 5 cs=some y):∃ x:Int,(RByte w cs x∧(0≤x∧x < 256))∧1≤Rows.uptoBulk y.1:=by
 obtain ⟨k,rfl,e,hw⟩:=DataW.trod_int Tryz.underlying5 h
 subst e
 exact ⟨k,⟨rfl,in8_wf hw⟩,by simp [Rows.uptoBulk]⟩
theorem runes_of_trodS {n:Nat} {cs:List Value} {y:DataW H × List MemPlace} (h:DataW.trod enc Tryz.prog w base spare held n 77 cs=some y):∃ v l,cs=[v]∧(RRun (fun _=>True) w v l∧RepM (In32) l)∧l.length+1≤Rows.uptoBulk y.1:=by
 obtain ⟨v,l,e,hl,hm⟩:=SlR.of_trodU (k:=1) (μ:=fun _:Int=>1) (R:=fun (w:World) r (x:Int)=>RRune w r x∧(In32) x) Tryz.underlying77 (by kernel_rfl) (fun _ _ _ h=>rune_of_trodS h) h
 exact ⟨v,l,e,⟨hl.strip.1,slR_len hl,hl.strip.2⟩,by have:=len_sum1 l;omega⟩
theorem bytesU_of_trodS {n:Nat} {cs:List Value} {y:DataW H × List MemPlace} (h:DataW.trod enc Tryz.prog w base spare held n 29 cs=some y):∃ v l,cs=[v]∧(RBytes (fun _=>True) w v l∧RepM (fun x=>0≤x∧x < 256) l)∧l.length+1≤Rows.uptoBulk y.1:=by
 obtain ⟨v,l,e,hl,hm⟩:=SlR.of_trodU (k:=1) (μ:=fun _:Int=>1) (R:=fun (w:World) r (x:Int)=>RByte w r x∧(fun x=>0≤x∧x < 256) x) Tryz.underlying29 (by kernel_rfl) (fun _ _ _ h=>byte_of_trodSU h) h
 exact ⟨v,l,e,⟨hl.strip.1,slR_len hl,hl.strip.2⟩,by have:=len_sum1 l;omega⟩
set_option maxRecDepth 20000 in
theorem dop_of_trodS {n:Nat} {cs:List Value} {y:DataW H × List MemPlace} (h:DataW.trod enc Tryz.prog w base spare held n 80 cs=some y):∃ x:Dop,(RDop (fun _=>True) w cs x∧InSO x)∧mDop x≤Rows.uptoBulk y.1:=by
 have c0:Tryz.prog.cellsOf 80=5:=by kernel_rfl
 obtain ⟨xs,m,_,rfl,hl,hlen,hf⟩:=DataW.trod_struct Tryz.underlying80 h
 match xs,hlen with
 | [y0,y1,y2,y3,y4],_=>
  have g0:DataW.trod enc Tryz.prog w base spare held m 5 ((cs.drop 0).take (Tryz.prog.cellsOf 5))=some y0:=hf 0 _ rfl
  rw [show Tryz.prog.cellsOf 5=1 by kernel_rfl] at g0
  have g1:DataW.trod enc Tryz.prog w base spare held m 3 ((cs.drop 1).take (Tryz.prog.cellsOf 3))=some y1:=hf 1 _ rfl
  rw [show Tryz.prog.cellsOf 3=1 by kernel_rfl] at g1
  have g2:DataW.trod enc Tryz.prog w base spare held m 77 ((cs.drop 2).take (Tryz.prog.cellsOf 77))=some y2:=hf 2 _ rfl
  rw [show Tryz.prog.cellsOf 77=1 by kernel_rfl] at g2
  have g3:DataW.trod enc Tryz.prog w base spare held m 78 ((cs.drop 3).take (Tryz.prog.cellsOf 78))=some y3:=hf 3 _ rfl
  rw [show Tryz.prog.cellsOf 78=1 by kernel_rfl] at g3
  have g4:DataW.trod enc Tryz.prog w base spare held m 50 ((cs.drop 4).take (Tryz.prog.cellsOf 50))=some y4:=hf 4 _ rfl
  rw [show Tryz.prog.cellsOf 50=1 by kernel_rfl] at g4
  rw [c0] at hl
  match cs,hl with
  | [a0,a1,a2,a3,a4],_=>
   clear hf
   simp only [List.drop_zero,List.take_succ_cons,List.take_zero,List.drop_succ_cons] at g0 g1 g2 g3 g4
   obtain ⟨k0,f0,b0,r0⟩:=DataW.trod_int Tryz.underlying5 g0
   obtain ⟨k1,f1,b1,r1⟩:=DataW.trod_int Tryz.underlying3 g1
   obtain ⟨v2,k2,f2,⟨h2,i2⟩,b2⟩:=runes_of_trodS g2
   obtain ⟨v3,k3,f3,⟨h3,i3⟩,b3⟩:=set_of_trodS g3
   obtain ⟨v4,k4,f4,⟨h4,i4⟩,b4⟩:=pat_of_trodS g4
   cases f0;cases f1;cases f2;cases f3;cases f4
   subst b0
   subst b1
   have i0:=in8_wf r0
   have i1:=in64_wf r1
   refine ⟨⟨k0,k1,k2,k3,k4⟩,⟨⟨_,_,_,rfl,h2,h3,h4⟩,i0,i1,i2,i3,i4⟩,?_⟩
   simp only [mDop,List.map_cons,List.map_nil,Rows.uptoBulk,Rows.uptoBulkAll]
   omega
theorem dops_of_trodS {n:Nat} {cs:List Value} {y:DataW H × List MemPlace} (h:DataW.trod enc Tryz.prog w base spare held n 49 cs=some y):∃ v l,cs=[v]∧(RDops (fun _=>True) (fun _=>True) w v l∧RepM (InSO) l)∧mDops l+1≤Rows.uptoBulk y.1:=by
 obtain ⟨v,l,e,hl,hm⟩:=SlR.of_trodU (k:=5) (μ:=mDop) (R:=fun (w:World) r (x:Dop)=>RDop (fun _=>True) w r x∧(InSO) x) Tryz.underlying49 (by kernel_rfl) (fun _ _ _ h=>dop_of_trodS h) h
 exact ⟨v,l,e,⟨hl.strip.1,slR_len hl,hl.strip.2⟩,hm⟩
set_option maxRecDepth 20000 in
theorem key_of_trodS {n:Nat} {cs:List Value} {y:DataW H × List MemPlace} (h:DataW.trod enc Tryz.prog w base spare held n 59 cs=some y):∃ x:DKey,(RKey w cs x∧InSK x)∧1≤Rows.uptoBulk y.1:=by
 have c0:Tryz.prog.cellsOf 59=6:=by kernel_rfl
 obtain ⟨xs,m,_,rfl,hl,hlen,hf⟩:=DataW.trod_struct Tryz.underlying59 h
 match xs,hlen with
 | [y0,y1,y2,y3,y4,y5],_=>
  have g0:DataW.trod enc Tryz.prog w base spare held m 3 ((cs.drop 0).take (Tryz.prog.cellsOf 3))=some y0:=hf 0 _ rfl
  rw [show Tryz.prog.cellsOf 3=1 by kernel_rfl] at g0
  have g1:DataW.trod enc Tryz.prog w base spare held m 4 ((cs.drop 1).take (Tryz.prog.cellsOf 4))=some y1:=hf 1 _ rfl
  rw [show Tryz.prog.cellsOf 4=1 by kernel_rfl] at g1
  have g2:DataW.trod enc Tryz.prog w base spare held m 5 ((cs.drop 2).take (Tryz.prog.cellsOf 5))=some y2:=hf 2 _ rfl
  rw [show Tryz.prog.cellsOf 5=1 by kernel_rfl] at g2
  have g3:DataW.trod enc Tryz.prog w base spare held m 4 ((cs.drop 3).take (Tryz.prog.cellsOf 4))=some y3:=hf 3 _ rfl
  rw [show Tryz.prog.cellsOf 4=1 by kernel_rfl] at g3
  have g4:DataW.trod enc Tryz.prog w base spare held m 4 ((cs.drop 4).take (Tryz.prog.cellsOf 4))=some y4:=hf 4 _ rfl
  rw [show Tryz.prog.cellsOf 4=1 by kernel_rfl] at g4
  have g5:DataW.trod enc Tryz.prog w base spare held m 3 ((cs.drop 5).take (Tryz.prog.cellsOf 3))=some y5:=hf 5 _ rfl
  rw [show Tryz.prog.cellsOf 3=1 by kernel_rfl] at g5
  rw [c0] at hl
  match cs,hl with
  | [a0,a1,a2,a3,a4,a5],_=>
   clear hf
   simp only [List.drop_zero,List.take_succ_cons,List.take_zero,List.drop_succ_cons] at g0 g1 g2 g3 g4 g5
   obtain ⟨k0,f0,b0,r0⟩:=DataW.trod_int Tryz.underlying3 g0
   obtain ⟨k1,f1,b1⟩:=DataW.trod_bool Tryz.underlying4 g1
   obtain ⟨k2,f2,b2,r2⟩:=DataW.trod_int Tryz.underlying5 g2
   obtain ⟨k3,f3,b3⟩:=DataW.trod_bool Tryz.underlying4 g3
   obtain ⟨k4,f4,b4⟩:=DataW.trod_bool Tryz.underlying4 g4
   obtain ⟨k5,f5,b5,r5⟩:=DataW.trod_int Tryz.underlying3 g5
   cases f0;cases f1;cases f2;cases f3;cases f4;cases f5
   subst b0
   subst b1
   subst b2
   subst b3
   subst b4
   subst b5
   have i0:=in64_wf r0
   have i2:=in8_wf r2
   have i5:=in64_wf r5
   refine ⟨⟨k0,k1,k2,k3,k4,k5⟩,⟨rfl,i0,i2,i5⟩,?_⟩
   simp only [Rows.uptoBulk]
   omega
theorem keys_of_trodS {n:Nat} {cs:List Value} {y:DataW H × List MemPlace} (h:DataW.trod enc Tryz.prog w base spare held n 22 cs=some y):∃ v l,cs=[v]∧(RKeys (fun _=>True) w v l∧RepM (InSK) l)∧l.length+1≤Rows.uptoBulk y.1:=by
 obtain ⟨v,l,e,hl,hm⟩:=SlR.of_trodU (k:=6) (μ:=fun _:DKey=>1) (R:=fun (w:World) r (x:DKey)=>RKey w r x∧(InSK) x) Tryz.underlying22 (by kernel_rfl) (fun _ _ _ h=>key_of_trodS h) h
 exact ⟨v,l,e,⟨hl.strip.1,slR_len hl,hl.strip.2⟩,by have:=len_sum1 l;omega⟩
def InC0 (c:Cmd):Prop:=(0≤c.kind∧c.kind < 256)∧(In64 c.i∧In64 c.j∧In64 c.key∧In64 c.by_∧RepM InSO c.ops∧c.bytes.length < 9223372036854775808∧RepM InSC c.patch)∧∀ x ∈ c.bytes,0≤x∧x < 256
set_option maxRecDepth 20000 in
theorem cmd_of_trodS {n:Nat} {cs:List Value} {y:DataW H × List MemPlace} (h:DataW.trod enc Tryz.prog w base spare held n 52 cs=some y):∃ x:Cmd,(RCmd (fun _=>True) w cs x∧InC0 x)∧mCmd x≤Rows.uptoBulk y.1:=by
 have c0:Tryz.prog.cellsOf 52=8:=by kernel_rfl
 obtain ⟨xs,m,_,rfl,hl,hlen,hf⟩:=DataW.trod_struct Tryz.underlying52 h
 match xs,hlen with
 | [y0,y1,y2,y3,y4,y5,y6,y7],_=>
  have g0:DataW.trod enc Tryz.prog w base spare held m 5 ((cs.drop 0).take (Tryz.prog.cellsOf 5))=some y0:=hf 0 _ rfl
  rw [show Tryz.prog.cellsOf 5=1 by kernel_rfl] at g0
  have g1:DataW.trod enc Tryz.prog w base spare held m 3 ((cs.drop 1).take (Tryz.prog.cellsOf 3))=some y1:=hf 1 _ rfl
  rw [show Tryz.prog.cellsOf 3=1 by kernel_rfl] at g1
  have g2:DataW.trod enc Tryz.prog w base spare held m 3 ((cs.drop 2).take (Tryz.prog.cellsOf 3))=some y2:=hf 2 _ rfl
  rw [show Tryz.prog.cellsOf 3=1 by kernel_rfl] at g2
  have g3:DataW.trod enc Tryz.prog w base spare held m 3 ((cs.drop 3).take (Tryz.prog.cellsOf 3))=some y3:=hf 3 _ rfl
  rw [show Tryz.prog.cellsOf 3=1 by kernel_rfl] at g3
  have g4:DataW.trod enc Tryz.prog w base spare held m 3 ((cs.drop 4).take (Tryz.prog.cellsOf 3))=some y4:=hf 4 _ rfl
  rw [show Tryz.prog.cellsOf 3=1 by kernel_rfl] at g4
  have g5:DataW.trod enc Tryz.prog w base spare held m 49 ((cs.drop 5).take (Tryz.prog.cellsOf 49))=some y5:=hf 5 _ rfl
  rw [show Tryz.prog.cellsOf 49=1 by kernel_rfl] at g5
  have g6:DataW.trod enc Tryz.prog w base spare held m 29 ((cs.drop 6).take (Tryz.prog.cellsOf 29))=some y6:=hf 6 _ rfl
  rw [show Tryz.prog.cellsOf 29=1 by kernel_rfl] at g6
  have g7:DataW.trod enc Tryz.prog w base spare held m 50 ((cs.drop 7).take (Tryz.prog.cellsOf 50))=some y7:=hf 7 _ rfl
  rw [show Tryz.prog.cellsOf 50=1 by kernel_rfl] at g7
  rw [c0] at hl
  match cs,hl with
  | [a0,a1,a2,a3,a4,a5,a6,a7],_=>
   clear hf
   simp only [List.drop_zero,List.take_succ_cons,List.take_zero,List.drop_succ_cons] at g0 g1 g2 g3 g4 g5 g6 g7
   obtain ⟨k0,f0,b0,r0⟩:=DataW.trod_int Tryz.underlying5 g0
   obtain ⟨k1,f1,b1,r1⟩:=DataW.trod_int Tryz.underlying3 g1
   obtain ⟨k2,f2,b2,r2⟩:=DataW.trod_int Tryz.underlying3 g2
   obtain ⟨k3,f3,b3,r3⟩:=DataW.trod_int Tryz.underlying3 g3
   obtain ⟨k4,f4,b4,r4⟩:=DataW.trod_int Tryz.underlying3 g4
   obtain ⟨v5,k5,f5,⟨h5,i5⟩,b5⟩:=dops_of_trodS g5
   obtain ⟨v6,k6,f6,⟨h6,i6⟩,b6⟩:=bytesU_of_trodS g6
   obtain ⟨v7,k7,f7,⟨h7,i7⟩,b7⟩:=pat_of_trodS g7
   cases f0;cases f1;cases f2;cases f3;cases f4;cases f5;cases f6;cases f7
   subst b0
   subst b1
   subst b2
   subst b3
   subst b4
   have i0:=in8_wf r0
   have i1:=in64_wf r1
   have i2:=in64_wf r2
   have i3:=in64_wf r3
   have i4:=in64_wf r4
   refine ⟨⟨k0,k1,k2,k3,k4,k5,k6,k7⟩,⟨⟨_,_,_,rfl,h5,h6,h7⟩,i0,⟨i1,i2,i3,i4,i5,i6.1,i7⟩,i6.2⟩,?_⟩
   simp only [mCmd,List.map_cons,List.map_nil,Rows.uptoBulk,Rows.uptoBulkAll]
   omega
theorem cmds_of_trodS {n:Nat} {cs:List Value} {y:DataW H × List MemPlace} (h:DataW.trod enc Tryz.prog w base spare held n 23 cs=some y):∃ v l,cs=[v]∧(RCmds (fun _=>True) (fun _=>True) w v l∧RepM (InC0) l)∧mCmds l+1≤Rows.uptoBulk y.1:=by
 obtain ⟨v,l,e,hl,hm⟩:=SlR.of_trodU (k:=8) (μ:=mCmd) (R:=fun (w:World) r (x:Cmd)=>RCmd (fun _=>True) w r x∧(InC0) x) Tryz.underlying23 (by kernel_rfl) (fun _ _ _ h=>cmd_of_trodS h) h
 exact ⟨v,l,e,⟨hl.strip.1,slR_len hl,hl.strip.2⟩,hm⟩
theorem inT_of {k:List DKey} {m u:Int} {c:List Cmd} (h0:RepM InSK k) (h1:In64 m) (h2:In64 u) (h3:RepM InC0 c):InT ⟨k,m,u,c⟩:=
 ⟨fun x hx=>(h3.2 x hx).1,fun hm=>⟨h0,h1,h2,fun x hx=>⟨hm x hx,(h3.2 x hx).2.1⟩⟩,fun x hx=>(h3.2 x hx).2.2⟩
set_option maxRecDepth 20000 in
theorem scr_of_trodS {n:Nat} {cs:List Value} {y:DataW H × List MemPlace} (h:DataW.trod enc Tryz.prog w base spare held n 25 cs=some y):∃ x:Scr,RScr (fun _=>True) (fun _=>True) w cs x∧InT x∧x.keys.length+mCmds x.cmds+2≤Rows.uptoBulk y.1:=by
 have c0:Tryz.prog.cellsOf 25=4:=by kernel_rfl
 obtain ⟨xs,m,_,rfl,hl,hlen,hf⟩:=DataW.trod_struct Tryz.underlying25 h
 match xs,hlen with
 | [y0,y1,y2,y3],_=>
  have g0:DataW.trod enc Tryz.prog w base spare held m 22 ((cs.drop 0).take (Tryz.prog.cellsOf 22))=some y0:=hf 0 _ rfl
  rw [show Tryz.prog.cellsOf 22=1 by kernel_rfl] at g0
  have g1:DataW.trod enc Tryz.prog w base spare held m 3 ((cs.drop 1).take (Tryz.prog.cellsOf 3))=some y1:=hf 1 _ rfl
  rw [show Tryz.prog.cellsOf 3=1 by kernel_rfl] at g1
  have g2:DataW.trod enc Tryz.prog w base spare held m 3 ((cs.drop 2).take (Tryz.prog.cellsOf 3))=some y2:=hf 2 _ rfl
  rw [show Tryz.prog.cellsOf 3=1 by kernel_rfl] at g2
  have g3:DataW.trod enc Tryz.prog w base spare held m 23 ((cs.drop 3).take (Tryz.prog.cellsOf 23))=some y3:=hf 3 _ rfl
  rw [show Tryz.prog.cellsOf 23=1 by kernel_rfl] at g3
  rw [c0] at hl
  match cs,hl with
  | [a0,a1,a2,a3],_=>
   clear hf
   simp only [List.drop_zero,List.take_succ_cons,List.take_zero,List.drop_succ_cons] at g0 g1 g2 g3
   obtain ⟨v0,k0,f0,⟨h0,i0⟩,b0⟩:=keys_of_trodS g0
   obtain ⟨k1,f1,b1,r1⟩:=DataW.trod_int Tryz.underlying3 g1
   obtain ⟨k2,f2,b2,r2⟩:=DataW.trod_int Tryz.underlying3 g2
   obtain ⟨v3,k3,f3,⟨h3,i3⟩,b3⟩:=cmds_of_trodS g3
   cases f0;cases f1;cases f2;cases f3
   subst b1
   subst b2
   have i1:=in64_wf r1
   have i2:=in64_wf r2
   refine ⟨⟨k0,k1,k2,k3⟩,⟨_,_,rfl,h0,h3⟩,inT_of i0 i1 i2 i3,?_⟩
   simp only [List.map_cons,List.map_nil,Rows.uptoBulk,Rows.uptoBulkAll]
   omega
end Go.Proofs.YtaimlfomodfekaaGreatDoor
