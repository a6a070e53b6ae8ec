/- What is handed in, opened: sets, blocks, cells. No conditions. The opening of the script's rows: what the condition gives (the table of fields), a world that meets it; bytes handed in, opened with their ranges. No conditions. -/
import Derived.Test.YtaimlfomodfekaaGreatDoorZScriptOnly5
import Derived.ProofKit
import Derived.Lib.SmallJoins
import Derived.Deep.Slices
import Derived.Test.YtaimlfomodfekaaGreatDoorRows
import Derived.Lib.LaidU8
import Derived.Lib.LaidIn
import Derived.LaidHandle
import Derived.LaidMore
import Derived.MakeChecks
set_option linter.unusedSimpArgs false
set_option linter.unusedVariables false
namespace Go.K
open Go
variable {H:Type} {enc:TypeId × Value→H} {P:Program} {w:World} {base:Nat} {spare:Nat→Bool} {held:Bool}
theorem SlR.of_trod {α:Type} {t e k:Nat} {R:World→List Value→α→Prop} {fuel:Nat} {cs:List Value} {x:DataW H × List MemPlace} (ht:P.underlying t=some (.slice e)) (hk:P.cellsOf e=k)
  (hel:∀ n cs' y,DataW.trod enc P w base spare held n e cs'=some y→∃ x,R w cs' x) (h:DataW.trod enc P w base spare held fuel t cs=some x) :
  ∃ v l,cs=[v]∧SlR (fun _=>True) k R w v l:=by
 rcases Go.Deep.open_slice ht h with ⟨rfl,_⟩ | ⟨a,len,cap,m,n,D,Pl,rfl,hb,hl,hm,hmm,_,hall⟩
 ·exact ⟨_,[],rfl,SlR.nil⟩
 ·have hlm:len≤m:=by rw [hmm];split <;> omega
  have one:∀ i,i < len→∃ (cs':List Value) (x:α),cs'.length=k∧(∀ j u,cs'[j]?=some u→w.cell? (a.add (i * k+j))=some u)∧R w cs' x:=by
   intro i hi
   obtain ⟨cs',h1,h2⟩:=hall i (by omega)
   obtain ⟨x,hx⟩:=hel n cs' _ h2
   obtain ⟨_,hlen,hc⟩:=World.cells?_some h1
   rw [hk] at hlen hc
   refine ⟨cs',x,hlen,fun j u hu=>?_,hx⟩
   have hj:j < k:=by rw [←hlen];exact (List.getElem?_eq_some_iff.1 hu).1
   have:=hc j hj
   rw [Addr.add_add] at this
   rw [this];exact hu
  have build:∀ q,q≤len→∃ l:List α,l.length=q∧∀ i x,l[i]?=some x→∃ cs':List Value,cs'.length=k∧(∀ j u,cs'[j]?=some u→w.cell? (a.add (i * k+j))=some u)∧R w cs' x:=by
   intro q
   induction q with
   | zero=>exact fun _=>⟨[],rfl,fun i x h=>by simp at h⟩
   | succ q ih=>
    intro hq
    obtain ⟨l,h1,h2⟩:=ih (by omega)
    obtain ⟨cs',x,h3,h4,h5⟩:=one q (by omega)
    refine ⟨l++[x],by simp [h1],fun i y hy=>?_⟩
    by_cases hi:i < q
    ·rw [List.getElem?_append_left (by omega)] at hy;exact h2 i y hy
    ·have:i=q:=by have:=(List.getElem?_eq_some_iff.1 hy).1;simp [h1] at this;omega
     subst this
     rw [List.getElem?_append_right (by omega)] at hy
     simp [h1] at hy;subst hy
     exact ⟨cs',h3,h4,h5⟩
  obtain ⟨l,h1,h2⟩:=build len (Nat.le_refl _)
  subst h1
  refine ⟨_,l,rfl,a,cap,rfl,hl,hm,fun i x hx=>?_⟩
  obtain ⟨cs',h3,h4,h5⟩:=h2 i x hx
  exact ⟨a,cs',rfl,trivial,h3,h4,h5⟩
end Go.K
namespace Go.Proofs.YtaimlfomodfekaaGreatDoor
open Go Go.K
open Go.ChangeShapes Go.Joins
variable {H:Type} {enc:TypeId × Value→H} {w:World} {base:Nat} {spare:Nat→Bool} {held:Bool}
end Go.Proofs.YtaimlfomodfekaaGreatDoor

namespace Go.Proofs.YtaimlfomodfekaaGreatDoor
open Go Go.K
open Go.ChangeShapes Go.WideShapes Go.ChangeAt Go.RowKit Go.Joins

def laidF : List (String × DataW Unit) := [("unicode/utf8.acceptRanges", Rows.laid_unicode_utf8_acceptRanges), ("rubric/script.fields", Rows.laid_rubric_script_fields), ("unicode/utf8.first", Rows.laid_unicode_utf8_first)]
theorem flds_tab:Rows.laid_rubric_script_fields (H:=Unit)=.agg ((List.range 22).map fun i=>.lit (.string (fldS i).data.toList)):=by kernel_rfl
theorem byteArr_ext {a b:ByteArray} (h:a.data.toList=b.data.toList):a=b:=by
 cases a;cases b
 simp only at h
 rw [Array.toList_inj.1 h]
theorem flds_of_laid {W:World} (h:laidMetH Tryz.prog laidF W):Flds W:=by
 rw [MakeChecks.laidMetH_plain _ _ _ (by kernel_rfl)] at h
 have h4:=Lib.laidMet.reads h (.tail _ (.head _))
 refine ⟨fun i hi=>?_⟩
 obtain ⟨g,t,cs,fuel,p,hg,hty,hvar,hd⟩:=h4
 obtain rfl := Option.some.inj ((show Tryz.prog.globalNamed "rubric/script.fields" = some 0 by kernel_rfl).symm.trans hg)
 obtain rfl:=Option.some.inj ((show (Tryz.prog.globals[0]?).map (·.type)=some 113 by kernel_rfl).symm.trans hty)
 rw [flds_tab] at hd
 obtain ⟨fuel',d,q,hdi,he⟩:=Lib.array_elem Tryz.underlying113 hd i hi
 simp only [List.getElem?_map,List.getElem?_range hi,Option.map_some,Option.some.injEq] at hdi
 subst hdi
 have c1:Tryz.prog.cellsOf 9=1:=by kernel_rfl
 rw [c1] at he
 obtain ⟨s,hs,hx,_⟩:=DataW.trod_string Tryz.underlying9 he
 simp only [Prod.mk.injEq,DataW.lit.injEq,Lit.string.injEq] at hx
 have es:s=fldS i:=byteArr_ext hx.1.symm
 subst es
 have e0:=congrArg (·[0]?) hs
 simp at e0
 have w0:=World.var?_cell hg hvar i
 rw [w0,←Array.getElem?_toList]
 simpa using e0
noncomputable def laidWorldF (os:Os):World:=
 let w0:=World.holding Tryz.prog os ⟨#[],#[],[]⟩
 let put (h:Array Obj) (g:Nat) (cs:Array Value):Array Obj:=h.modify g fun
  | .cells _ t frozen=>.cells cs t frozen
  | o=>o
 let h1:=put w0.heap 1 (Pinned.utf8FirstZ.map fun (z:Nat)=>Value.int .u8 (Int.ofNat z)).toArray
 let h2:=put h1 2 ((([(128,191),(160,191),(128,159),(144,191),(128,143)]:List (Int × Int))++List.replicate 11 (0,0)).flatMap fun (p:Int × Int)=>[Value.int .u8 p.1,Value.int .u8 p.2]).toArray
 let h3:=put h2 0 ((List.range 22).map fun i=>Value.string (fldS i)).toArray
 { w0 with heap:=h3 }
theorem laidF_met (os:Os) (args:Array Value):laidMetH Tryz.prog laidF ((laidWorldF os).forCall (fun _ _=>0) ⟨#[],args,[]⟩).memory:=by
 rw [MakeChecks.laidMetH_plain _ _ _ (by kernel_rfl)]
 exact (LaidIn.of_run (l:=laidF) [2,1,0] 8 (by kernel_rfl) (by kernel_rfl) (by kernel_rfl) (by kernel_rfl)).met
variable {H:Type} {enc:TypeId × Value→H} {w:World} {base:Nat} {spare:Nat→Bool} {held:Bool}
theorem byte_of_trodS {n:Nat} {cs:List Value} {y:DataW H × List MemPlace} (h:DataW.trod enc Tryz.prog w base spare held n 5 cs=some y):∃ x:Int,RByte w cs x∧(0≤x∧x < 256):=by
 obtain ⟨k,e,_,hw⟩:=DataW.trod_int Tryz.underlying5 h
 have hr:IntKind.u8.min≤k∧k≤IntKind.u8.max:=by simpa [Lit.wf] using hw
 have e1:IntKind.u8.min=0:=by decide
 have e2:IntKind.u8.max=255:=by decide
 rw [e1,e2] at hr
 exact ⟨k,e,hr.1,by omega⟩
theorem strip_of {α:Type} {S:Nat→Prop} {k:Nat} {R:World→List Value→α→Prop} {P:α→Prop} {w:World} {v:Value} {l:List α} (h:SlR S k (fun w r x=>R w r x∧P x) w v l):SlR S k R w v l∧∀ x ∈ l,P x:=by
 obtain ⟨a,c,e,h1,h2,h3⟩:=h
 refine ⟨⟨a,c,e,h1,h2,fun i x hx=>?_⟩,fun x hx=>?_⟩
 ·obtain ⟨p,r,q1,q2,q3,q4,q5⟩:=h3 i x hx
  exact ⟨p,r,q1,q2,q3,q4,q5.1⟩
 ·obtain ⟨i,hi⟩:=List.mem_iff_getElem?.1 hx
  obtain ⟨_,_,_,_,_,_,q5⟩:=h3 i x hi
  exact q5.2
theorem bytes_of_trodS {n:Nat} {cs:List Value} {y:DataW H × List MemPlace} (h:DataW.trod enc Tryz.prog w base spare held n 29 cs=some y):∃ v l,cs=[v]∧(RBytes (fun _=>True) w v l∧∀ x ∈ l,0≤x∧x < 256):=by
 obtain ⟨v,l,e,hl⟩:=SlR.of_trod (k:=1) (R:=fun (w:World) r (x:Int)=>RByte w r x∧(0≤x∧x < 256)) Tryz.underlying29 (by kernel_rfl) (fun _ _ _ h=>byte_of_trodS h) h
 exact ⟨v,l,e,strip_of hl⟩
end Go.Proofs.YtaimlfomodfekaaGreatDoor
