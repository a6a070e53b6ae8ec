/- ScriptReads: for every input the law returns true, and each argument reads behind the call as it read before; the two tables tied. No conditions. -/
import Derived.Test.YtgpemjmhbgiebaaGreatDoorZScriptReads6
import Derived.Test.YtgpemjmhbgiebaaGreatDoorTie
import Derived.Test.YtgpemjmhbgiebaaGreatDoorCards
import Derived.WalkKit
import Derived.OpenShut
import Derived.ShutString
import Derived.ChangeOld
import Derived.ChangeVars
import Derived.JoinedOf
import Derived.SevenTiedAt
set_option linter.unusedSimpArgs false
set_option linter.unusedVariables false
namespace Go.Proofs.YtgpemjmhbgiebaaGreatDoor
open Go Go.K
open Go.ChangeShapes Go.WideShapes Go.ChangeAt Go.RowKit
set_option linter.unusedVariables false

theorem ownK:ownKnob Tryz.prog.godebug=none:=by kernel_rfl
theorem laidOut:laidOutB Tryz.prog=true:=by kernel_rfl

set_option maxRecDepth 100000 in
theorem ScriptReads_lifted (os:Os) (started:os.Started) (H:Type) (enc:TypeId × Value→H) :
  ReturnsInHanded {} Tryz.checked os 3 .any (fun w args=>(Rows.scriptReadsSpec.pre enc Tryz.prog Tryz.f3 [] false w args∧laidMetH Tryz.prog Rows.scriptReadsRow.laid w)∧sizedMet enc Tryz.prog Tryz.f3 (OpenSpec.ofChange Rows.scriptReadsSpec) false w args)
   (Rows.scriptReadsSpec.post enc Tryz.prog Tryz.f3 false true false false):=by
 refine returnsInHanded_of_change_and (C:=Tryz.checked) (X:=fun w _=>laidMetH Tryz.prog Rows.scriptReadsRow.laid w) (fun _ _ _ hh h=>h.of_heap hh) ownK started (by kernel_rfl) Tryz.func3
  (ChangeSpec.witness_at (enc:=enc) (C:=Tryz.checked) (os:=os) (X:=fun w _=>laidMetH Tryz.prog Rows.scriptReadsRow.laid w) false (laidWorldF os) #[.slice none 0 0] 8 rfl (by kernel_rfl) (by kernel_rfl) (by kernel_rfl) (by kernel_rfl) (by kernel_rfl) (laidF_met os _)) ?_
 intro W base args ds gs before hval0 hW _ _ hL _
 have hW':=hW
 obtain ⟨p,q,hA0,hV,rfl,hfz,hnd⟩:=hW
 have hA:DataW.TrodAll enc Tryz.prog W 0 (fun _=>true) true Tryz.f3.params.toList args.toList ds p:=hA0
 have hval:∀ (j:Nat) t v,Tryz.f3.params[j]?=some t→args[j]?=some v→Value.okWide Tryz.prog W .any base t v:=hval0
 rw [Tryz.params3] at hA hval
 have htab:Flds W:=flds_of_laid hL
 obtain ⟨v0,vs0,d0,ds0,p0,q0,hargs,rfl,rfl,h0,r0⟩:=trodAll_cons hA
 obtain ⟨rfl,rfl,rfl⟩:=trodAll_nil r0
 obtain rfl:args=#[v0]:=by cases args;simp_all
 obtain ⟨rfl,rfl⟩:=trodVars_none hV
 have lt0:∀ x ∈ p0,x.block < W.heap.size:=by obtain ⟨m,hm⟩:=h0;exact DataW.trod_lt m _ _ _ hm
 obtain ⟨fuel0,hf0⟩:=id h0
 obtain ⟨u0,l0,e0,s0⟩:=bytes_of_trodS hf0
 obtain ⟨a0,n0,c0,rfl⟩:=okWide_slice Tryz.underlying22 (hval 0 22 v0 rfl rfl)
 simp only [Value.cells,List.cons.injEq,and_true] at e0
 subst e0
 clear hA0 hval0
 refine (ScriptReads_ok s0.1 s0.2 htab known29_ok).mono fun e W' ⟨v,he,hv,hg⟩=>?_
 subst he;subst hv
 have bel:Below W.heap.size W W':=Mod.below hg (Nat.le_refl _) fun _ h=>h.elim
 exact ⟨_,rfl,_,_,_,[],_,[],hW',trodAll_mk1 (shut_bool Tryz.underlying4 _),(trodAll_cons_mk (Below.trod laidOut (by kernel_rfl) (of_decide_eq_true (by kernel_rfl)) h0 bel lt0) trodAll_mk0),rfl,bel.frame _,fun h=>by cases h⟩
theorem and32 {a0 a1 a2 a3 a4 a5 a6 a7 a8 a9 a10 a11 a12 a13 a14 a15 a16 a17 a18 a19 a20 a21 a22 a23 a24 a25 a26 a27 a28 a29 a30 a31:Bool} (h0:a0=true) (h1:a1=true) (h2:a2=true) (h3:a3=true) (h4:a4=true) (h5:a5=true) (h6:a6=true) (h7:a7=true) (h8:a8=true) (h9:a9=true) (h10:a10=true) (h11:a11=true) (h12:a12=true) (h13:a13=true) (h14:a14=true) (h15:a15=true) (h16:a16=true) (h17:a17=true) (h18:a18=true) (h19:a19=true) (h20:a20=true) (h21:a21=true) (h22:a22=true) (h23:a23=true) (h24:a24=true) (h25:a25=true) (h26:a26=true) (h27:a27=true) (h28:a28=true) (h29:a29=true) (h30:a30=true) (h31:a31=true):(((((((((((((((((((((((((((((((a0 && a1) && a2) && a3) && a4) && a5) && a6) && a7) && a8) && a9) && a10) && a11) && a12) && a13) && a14) && a15) && a16) && a17) && a18) && a19) && a20) && a21) && a22) && a23) && a24) && a25) && a26) && a27) && a28) && a29) && a30) && a31)=true:=by simp only [h0,h1,h2,h3,h4,h5,h6,h7,h8,h9,h10,h11,h12,h13,h14,h15,h16,h17,h18,h19,h20,h21,h22,h23,h24,h25,h26,h27,h28,h29,h30,h31];rfl
set_option maxHeartbeats 0 in
theorem ScriptReads_clo:Tryz.prog.closure 3=[3,4,10,9,27,47,68,48,36,50,37,49,69,70,95,96,72,71,29,30,51,52,28,31,54,74,73,75,98,76,55,97,57,56,53,5,14,15,35,60,61,34,33,13,16,39,63,62,65,67,40,66,94,64,42,41,38,11,32,58,77,99,100,101,136,194,195,135,186,187,278,188,279,280,189,281,282,392,190,191,192,193,102,103,137,78,104,105,106,107,108,139,201,202,203,200,286,138,196,197,258,374,375,377,376,439,440,378,166,253,368,259,198,283,393,284,285,199,154,141,159,210,211,212,307,308,309,240,310,311,312,313,306,401,305,353,352,430,449,239,140,204,158,205,288,289,290,287,394,238,351,395,445,446,207,300,206,291,297,398,399,396,447,448,298,292,397,293,294,295,296,299,142,208,301,209,302,400,303,304,213,314,320,404,405,402,450,451,321,315,403,316,317,318,319,322,143,214,323,407,408,409,406,452,324,410,453,476,477,215,325,327,412,413,326,411,216,328,414,329,330,415,421,456,457,454,478,479,422,416,455,417,418,419,420,423,217,218,144,79,59,80,109,111,149,151,150,232,345,428,429,346,336,157,237,349,350,236,348,156,152,223,233,225,269,234,347,224,333,387,334,335,261,227,337,425,275,110,145,219,331,424,341,426,332,173,220,221,147,226,148,222,228,339,340,230,338,229,342,427,231,344,343,146,82,112,153,83,81,85,113,155,235,86,84,88,114,87,90,115,89,91,116,160,241,354,242,243,244,92,117,161,245,118,162,119,120,163,93,121,164,246,355,356,431,248,247,357,432,458,459,480,460,461,462,433,463,464,465,260,380,379,441,270,358,267,385,443,444,249,359,434,466,467,468,470,481,469,471,472,482,273,184,276,388,389,277,390,391,122,165,251,360,361,363,435,436,364,362,366,365,250,252,367,437,123,167,168,254,170,257,169,255,369,370,371,372,438,473,474,483,484,256,373,124,171,174,172,125,175,126,176,262,263,381,382,264,383,384,442,475,177,266,265,127,178,268,179,271,272,128,129,130,180,131,181,132,182,133,183,274,386,134,185,6,17,43,44,18,12,7,19,23,8,20,21,45,22,24,46,26,25]:=by kernel_rfl
set_option maxHeartbeats 0 in
theorem ScriptReads_closed:joinedFacts Tryz.prog 3 Tryz.f3 Rows.scriptReadsSpec Rows.scriptReadsRow=true:=by
 unfold joinedFacts
 refine and32 ?_ ?_ ?_ ?_ ?_ ?_ ?_ ?_ ?_ ?a ?b ?c ?d ?_ ?_ ?_ ?_ ?_ ?_ ?_ ?_ ?_ ?_ ?_ ?_ ?_ ?_ ?_ ?_ ?_ ?_ ?_
 case a=>unfold Program.inPlace;rw [ScriptReads_clo];as_aux_lemma=>kernel_rfl
 case b=>unfold Program.unfollowed;rw [ScriptReads_clo];as_aux_lemma=>kernel_rfl
 case c=>unfold Program.recurses Program.unfollowed;rw [ScriptReads_clo];as_aux_lemma=>kernel_rfl
 case d=>unfold Program.varsNamed;rw [ScriptReads_clo];as_aux_lemma=>kernel_rfl
 all_goals (as_aux_lemma=>kernel_rfl)
theorem ScriptReads_said:Rows.ScriptReadsSaid:=
 OpenClaim.holds_of_wide 3 Tryz.f3 rfl rfl rfl rfl rfl rfl rfl ⟨rfl,rfl,rfl,rfl,rfl⟩ rfl rfl rfl rfl rfl (by kernel_rfl) Tryz.func3 ScriptReads_closed
  (of_decide_eq_true (by kernel_rfl)) (by unfold Func.isWrapper;first | (rw [if_pos (by decide +kernel)];kernel_rfl) | (rw [if_neg (by decide +kernel)];exact ⟨rfl,rfl⟩))
  (fun os started H enc _=>ScriptReads_lifted os started H enc)
theorem goes_of {P:Program} {f:FuncId} {c:OpenClaim} (h:P.funcNamed c.func=some f) (hs:c.start=.entering):c.goesBy P=P.goes f:=by
 unfold OpenClaim.goesBy Program.goesAt Program.goesFrom
 rw [h,hs]
 exact Bool.or_false _
set_option maxRecDepth 100000 in
theorem ScriptReads_named : Tryz.prog.funcNamed "rubric/rubriclaw29.ScriptReads" = some 3 := by kernel_rfl
set_option maxHeartbeats 0 in
set_option maxRecDepth 100000 in
theorem ScriptReads_goes:false=Rows.scriptReadsRow.goesBy Tryz.prog:=by
 rw [goes_of (f:=3) ScriptReads_named rfl]
 unfold Program.goes Program.unfollowed
 rw [ScriptReads_clo]
 as_aux_lemma=>kernel_rfl
set_option maxRecDepth 100000 in
theorem ScriptReads_looks:false=Tryz.prog.looks []:=by kernel_rfl
set_option maxRecDepth 100000 in
theorem ScriptReads_main:Tryz.prog.mainIs=some (Rows.scriptReadsCard.stood.harness.1,Rows.scriptReadsCard.stood.harness.2.toList):=by kernel_rfl
set_option maxRecDepth 100000 in
theorem ScriptReads_wf:Rows.scriptReadsRow.wfByText (OpenSpec.ofChange Rows.scriptReadsSpec)=true:=by kernel_rfl
set_option maxRecDepth 100000 in
theorem ScriptReads_proved:Rows.ScriptReadsCardSaid:=
 Claim7.holds_tied_plain_at .later [] [.data,.data,.pinned] true Rows.scriptReadsCard.stood.harness false
  ScriptReads_said (fun _ h=>by cases h) ScriptReads_wf (fun _ h=>by cases h) scriptReads_row_tie rfl ⟨rfl,rfl⟩ ScriptReads_main rfl
  (fun f fn hf hfn=>by
   obtain rfl:f=3:=Option.some.inj (ScriptReads_named.symm.trans hf) |>.symm
   obtain rfl:fn=Tryz.f3:=(Option.some.inj (Tryz.func3.symm.trans hfn)).symm
   exact ⟨ScriptReads_looks,fun j t ht=>by
    rw [Tryz.params3] at ht
    have hm:t ∈ [22]:=by simpa using Array.mem_of_getElem? ht
    have hall:([22].all fun u=>!Tryz.prog.wantsStandIn u)=true:=by kernel_rfl
    exact (show Tryz.prog.wantsStandIn t=false by simpa using List.all_eq_true.1 hall t hm)⟩)
  ScriptReads_goes
#print axioms ScriptReads_proved
end Go.Proofs.YtgpemjmhbgiebaaGreatDoor
