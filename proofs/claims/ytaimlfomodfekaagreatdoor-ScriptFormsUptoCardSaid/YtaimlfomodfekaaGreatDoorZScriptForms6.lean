/- The script's known case: it answers true, and leaves all memory as it was; reckoned by the small machine. Condition: the table of fields lies in memory. -/
import Derived.Test.YtaimlfomodfekaaGreatDoorZScriptForms5
set_option linter.unusedSimpArgs false
set_option linter.unusedVariables false
namespace Go.Proofs.YtaimlfomodfekaaGreatDoor
open Go Go.K

def glF (g o:Nat):Option AV:=bif Nat.beq g 0 && Nat.blt o 22 then some (.t (fldS o)) else none
def isT:Option (AV × St)→Bool
 | some (.b true,_)=>true
 | _=>false
theorem isT_ok {x:Option (AV × St)} (h:isT x=true):∃ s,x=some (.b true,s):=by
 unfold isT at h
 split at h
 ·exact ⟨_,rfl⟩
 ·cases h
set_option maxRecDepth 1000000 in
theorem known29_run:isT (callC Tryz.prog glF (evC Tryz.prog okf glF 3000) [] [] (2 ^ 600) 7 [] ⟨.nil,0⟩)=true:=by kernel_rfl
theorem known29_ok {w:World} (hF:Flds w):callK Tryz.prog 7 [] (fun v w'=>v=.bool true∧Grow w w') w:=by
 obtain ⟨s,h⟩:=isT_ok known29_run
 refine run_ok good mixed (by kernel_rfl) h (fun g o a e=>?_) fun σ w' v g e=>⟨e,g⟩
 unfold glF at e
 cases hb:(Nat.beq g 0 && Nat.blt o 22) with
 | false=>rw [hb] at e;cases e
 | true=>
  rw [hb] at e
  simp only [cond_true,Option.some.injEq] at e
  simp only [Bool.and_eq_true] at hb
  have h1:=Nat.eq_of_beq_eq_true hb.1
  have h2:o < 22:=Nat.le_of_ble_eq_true hb.2
  subst h1;subst e
  have hc:=hF.at_ o h2
  exact ⟨World.block_lt_of_cell? w _ hc,_,hc,rfl⟩
end Go.Proofs.YtaimlfomodfekaaGreatDoor
