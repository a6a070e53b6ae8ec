/- ScriptForms: for every input of bulk at most 1048576 the law returns true, and each argument reads behind the call as it read before; the two tables tied. Condition: the bulk. -/
import Derived.Test.YtaimlfomodfekaaGreatDoorZScriptForms7
import Derived.Test.YtaimlfomodfekaaGreatDoorTie
import Derived.Test.YtaimlfomodfekaaGreatDoorCards
import Derived.WalkKit
import Derived.OpenShut
import Derived.ShutString
import Derived.ChangeOld
import Derived.ChangeVars
import Derived.JoinedOf
import Derived.JoinedCond
import Derived.Deep.DeepHandedRow
import Derived.SevenTiedAt
set_option linter.unusedSimpArgs false
set_option linter.unusedVariables false
namespace Go.Proofs.YtaimlfomodfekaaGreatDoor
open Go Go.K
open Go.ChangeShapes Go.WideShapes Go.ChangeAt Go.RowKit
set_option linter.unusedVariables false

theorem ownK:ownKnob Tryz.prog.godebug=none:=by kernel_rfl
theorem laidOut:laidOutB Tryz.prog=true:=by kernel_rfl

set_option maxRecDepth 100000 in
theorem ScriptForms_lifted (os:Os) (started:os.Started) (H:Type) (enc:TypeId × Value→H) (F0:Stop.Interp) :
  ReturnsInHanded {} Tryz.checked os 3 .any ((Rows.OpenSpec.upto Rows.scriptFormsSpec).preRow enc Tryz.prog Tryz.f3 [] false Rows.scriptFormsUptoRow.laid) (((Rows.OpenSpec.upto Rows.scriptFormsSpec).at F0).post enc Tryz.prog Tryz.f3 false true false false):=by
 refine returnsInHanded_of_row (C:=Tryz.checked) (s:=(Rows.OpenSpec.upto Rows.scriptFormsSpec)) ownK started (by kernel_rfl) Tryz.func3
  (witness_row_at (enc:=enc) (C:=Tryz.checked) (s:=(Rows.OpenSpec.upto Rows.scriptFormsSpec)) false (laidWorldF os) #[.agg #[.slice none 0 0,.int .i64 0,.int .i64 0,.slice none 0 0],.agg #[.slice none 0 0,.int .i64 0,.int .i64 0,.slice none 0 0]] rfl (by kernel_rfl) (by kernel_rfl) (by kernel_rfl)
   ⟨⟨(OpenSpec.pre_some (k:=Rows.uptoSmall) rfl [] false _ _).2 ⟨_,_,_,DataW.Whole_of_whole (fuel:=8) (x:=([.agg [.nil,.lit (.int .i64 0),.lit (.int .i64 0),.nil],.agg [.nil,.lit (.int .i64 0),.lit (.int .i64 0),.nil]],[],[])) (by kernel_rfl),by kernel_rfl,by kernel_rfl⟩,laidF_met os _⟩,sizedMet_of_sizedB (fuel:=8) (by kernel_rfl)⟩) ?_
 intro W base args ds gs before hval0 hW _ hk0 _ hL _ _
 have hW':=hW
 obtain ⟨p,q,hA0,hV,rfl,hfz,hnd⟩:=hW
 have hA:DataW.TrodAll enc Tryz.prog W 0 (fun _=>true) true Tryz.f3.params.toList args.toList ds p:=hA0
 have hval:∀ (j:Nat) t v,Tryz.f3.params[j]?=some t→args[j]?=some v→Value.okWide Tryz.prog W .any base t v:=hval0
 rw [Tryz.params3] at hA hval
 have htab:Flds W:=flds_of_laid hL
 obtain ⟨v0,vs0,d0,ds0,p0,q0,hargs,rfl,rfl,h0,r0⟩:=trodAll_cons hA
 obtain ⟨v1,vs1,d1,ds1,p1,q1,rfl,rfl,rfl,h1,r1⟩:=trodAll_cons r0
 obtain ⟨rfl,rfl,rfl⟩:=trodAll_nil r1
 obtain rfl:args=#[v0,v1]:=by cases args;simp_all
 obtain ⟨rfl,rfl⟩:=trodVars_none hV
 have hk:=of_decide_eq_true (hk0 _ rfl)
 simp only [List.append_nil,Rows.uptoBulkAll] at hk
 have lt0:∀ x ∈ p0,x.block < W.heap.size:=by obtain ⟨m,hm⟩:=h0;exact DataW.trod_lt m _ _ _ hm
 obtain ⟨fuel0,hf0⟩:=id h0
 obtain ⟨c0,rfl,_⟩:=okWide_struct Tryz.underlying25 (hval 0 25 v0 rfl rfl)
 obtain ⟨s,hs,hT,hb⟩:=scr_of_trodS (show DataW.trod enc Tryz.prog W 0 _ true fuel0 25 c0.toList=_ from hf0)
 have lt1:∀ x ∈ p1,x.block < W.heap.size:=by obtain ⟨m,hm⟩:=h1;exact DataW.trod_lt m _ _ _ hm
 obtain ⟨fuel1,hf1⟩:=id h1
 obtain ⟨c1,rfl,_⟩:=okWide_struct Tryz.underlying25 (hval 1 25 v1 rfl rfl)
 obtain ⟨s',hs',hT',hb'⟩:=scr_of_trodS (show DataW.trod enc Tryz.prog W 0 _ true fuel1 25 c1.toList=_ from hf1)
 dsimp only at hb hb'
 clear hA0 hval0
 refine (ScriptForms_ok hs hs' hT hT' htab (by omega) (by omega) known29_ok).mono fun e W' ⟨v,he,hv,hg⟩=>?_
 subst he;subst hv
 have bel:Below W.heap.size W W':=Mod.below hg (Nat.le_refl _) fun _ h=>h.elim
 exact ⟨_,rfl,_,_,_,[],_,[],hW',trodAll_mk1 (shut_bool Tryz.underlying4 _),(trodAll_cons_mk (Below.trod laidOut (by kernel_rfl) (of_decide_eq_true (by kernel_rfl)) h0 bel lt0) (trodAll_cons_mk (Below.trod laidOut (by kernel_rfl) (of_decide_eq_true (by kernel_rfl)) h1 bel lt1) trodAll_mk0)),rfl,bel.frame _,fun h=>by cases h⟩
theorem and32 {a0 a1 a2 a3 a4 a5 a6 a7 a8 a9 a10 a11 a12 a13 a14 a15 a16 a17 a18 a19 a20 a21 a22 a23 a24 a25 a26 a27 a28 a29 a30 a31:Bool} (h0:a0=true) (h1:a1=true) (h2:a2=true) (h3:a3=true) (h4:a4=true) (h5:a5=true) (h6:a6=true) (h7:a7=true) (h8:a8=true) (h9:a9=true) (h10:a10=true) (h11:a11=true) (h12:a12=true) (h13:a13=true) (h14:a14=true) (h15:a15=true) (h16:a16=true) (h17:a17=true) (h18:a18=true) (h19:a19=true) (h20:a20=true) (h21:a21=true) (h22:a22=true) (h23:a23=true) (h24:a24=true) (h25:a25=true) (h26:a26=true) (h27:a27=true) (h28:a28=true) (h29:a29=true) (h30:a30=true) (h31:a31=true):(((((((((((((((((((((((((((((((a0 && a1) && a2) && a3) && a4) && a5) && a6) && a7) && a8) && a9) && a10) && a11) && a12) && a13) && a14) && a15) && a16) && a17) && a18) && a19) && a20) && a21) && a22) && a23) && a24) && a25) && a26) && a27) && a28) && a29) && a30) && a31)=true:=by simp only [h0,h1,h2,h3,h4,h5,h6,h7,h8,h9,h10,h11,h12,h13,h14,h15,h16,h17,h18,h19,h20,h21,h22,h23,h24,h25,h26,h27,h28,h29,h30,h31];rfl
set_option maxHeartbeats 0 in
theorem ScriptForms_clo:Tryz.prog.closure 3=[3,6,16,47,46,74,7,17,9,10,25,57,26,27,29,51,28,58,59,81,82,61,60,22,23,49,50,21,24,53,78,77,79,109,80,54,108,56,55,52,15,43,44,68,83,84,67,66,42,45,70,86,85,88,90,71,89,110,87,73,72,69,18,48,75,91,111,112,113,148,206,207,147,198,199,290,200,291,292,201,293,294,404,202,203,204,205,114,115,149,92,116,117,118,119,120,151,213,214,215,212,298,150,208,209,270,386,387,389,388,451,452,390,178,265,380,271,210,295,405,296,297,211,166,153,171,222,223,224,319,320,321,252,322,323,324,325,318,413,317,365,364,442,461,251,152,216,170,217,300,301,302,299,406,250,363,407,457,458,219,312,218,303,309,410,411,408,459,460,310,304,409,305,306,307,308,311,154,220,313,221,314,412,315,316,225,326,332,416,417,414,462,463,333,327,415,328,329,330,331,334,155,226,335,419,420,421,418,464,336,422,465,488,489,227,337,339,424,425,338,423,228,340,426,341,342,427,433,468,469,466,490,491,434,428,467,429,430,431,432,435,229,230,156,93,76,94,121,123,161,163,162,244,357,440,441,358,348,169,249,361,362,248,360,168,164,235,245,237,281,246,359,236,345,399,346,347,273,239,349,437,287,122,157,231,343,436,353,438,344,185,232,233,159,238,160,234,240,351,352,242,350,241,354,439,243,356,355,158,96,124,165,97,95,99,125,167,247,100,98,102,126,101,104,127,103,105,128,172,253,366,254,255,256,106,129,173,257,130,174,131,132,175,107,133,176,258,367,368,443,260,259,369,444,470,471,492,472,473,474,445,475,476,477,272,392,391,453,282,370,279,397,455,456,261,371,446,478,479,480,482,493,481,483,484,494,285,196,288,400,401,289,402,403,134,177,263,372,373,375,447,448,376,374,378,377,262,264,379,449,135,179,180,266,182,269,181,267,381,382,383,384,450,485,486,495,496,268,385,136,183,186,184,137,187,138,188,274,275,393,394,276,395,396,454,487,189,278,277,139,190,280,191,283,284,140,141,142,192,143,193,144,194,145,195,286,398,146,197,13,33,62,63,34,19,8,20,11,30,38,12,31,32,14,35,36,64,37,39,65,41,40]:=by kernel_rfl
set_option maxHeartbeats 0 in
theorem ScriptForms_closed:joinedFacts Tryz.prog 3 Tryz.f3 (Rows.OpenSpec.upto Rows.scriptFormsSpec).bare Rows.scriptFormsUptoRow=true:=by
 unfold joinedFacts
 refine and32 ?_ ?_ ?_ ?_ ?_ ?_ ?_ ?_ ?_ ?a ?b ?c ?d ?_ ?_ ?_ ?_ ?_ ?_ ?_ ?_ ?_ ?_ ?_ ?_ ?_ ?_ ?_ ?_ ?_ ?_ ?_
 case a=>unfold Program.inPlace;rw [ScriptForms_clo];as_aux_lemma=>kernel_rfl
 case b=>unfold Program.unfollowed;rw [ScriptForms_clo];as_aux_lemma=>kernel_rfl
 case c=>unfold Program.recurses Program.unfollowed;rw [ScriptForms_clo];as_aux_lemma=>kernel_rfl
 case d=>unfold Program.varsNamed;rw [ScriptForms_clo];as_aux_lemma=>kernel_rfl
 all_goals (as_aux_lemma=>kernel_rfl)
theorem ScriptForms_said:Rows.ScriptFormsUptoSaid:=
 OpenClaim.holds_of_cond 3 Tryz.f3 rfl rfl rfl rfl rfl rfl rfl ⟨rfl,rfl,rfl,rfl,rfl⟩ rfl rfl rfl rfl rfl (by kernel_rfl) Tryz.func3 ScriptForms_closed
  (of_decide_eq_true (by kernel_rfl)) (by unfold Func.isWrapper;first | (rw [if_pos (by decide +kernel)];kernel_rfl) | (rw [if_neg (by decide +kernel)];exact ⟨rfl,rfl⟩))
  (fun os started H enc _ F0=>ScriptForms_lifted os started H enc F0)
theorem goes_of {P:Program} {f:FuncId} {c:OpenClaim} (h:P.funcNamed c.func=some f) (hs:c.start=.entering):c.goesBy P=P.goes f:=by
 unfold OpenClaim.goesBy Program.goesAt Program.goesFrom
 rw [h,hs]
 exact Bool.or_false _
set_option maxRecDepth 100000 in
theorem ScriptForms_named : Tryz.prog.funcNamed "rubric/rubriclaw29.ScriptForms" = some 3 := by kernel_rfl
set_option maxHeartbeats 0 in
set_option maxRecDepth 100000 in
theorem ScriptForms_goes:false=Rows.scriptFormsUptoRow.goesBy Tryz.prog:=by
 rw [goes_of (f:=3) ScriptForms_named rfl]
 unfold Program.goes Program.unfollowed
 rw [ScriptForms_clo]
 as_aux_lemma=>kernel_rfl
set_option maxRecDepth 100000 in
theorem ScriptForms_looks:false=Tryz.prog.looks []:=by kernel_rfl
set_option maxRecDepth 100000 in
theorem ScriptForms_main:Tryz.prog.mainIs=some (Rows.scriptFormsUptoCard.stood.harness.1,Rows.scriptFormsUptoCard.stood.harness.2.toList):=by kernel_rfl
set_option maxRecDepth 100000 in
theorem ScriptForms_wf:Rows.scriptFormsUptoRow.wfByText (Rows.OpenSpec.upto Rows.scriptFormsSpec)=true:=by kernel_rfl
set_option maxRecDepth 100000 in
theorem ScriptFormsUpto_proved:Rows.ScriptFormsUptoCardSaid:=
 Claim7.holds_tied_plain_at .later [] [.data,.data,.pinned] true Rows.scriptFormsUptoCard.stood.harness false
  ScriptForms_said (fun _ h=>by cases h) ScriptForms_wf (fun _ h=>by cases h) scriptFormsUpto_row_tie rfl ⟨rfl,rfl⟩ ScriptForms_main rfl
  (fun f fn hf hfn=>by
   obtain rfl:f=3:=Option.some.inj (ScriptForms_named.symm.trans hf) |>.symm
   obtain rfl:fn=Tryz.f3:=(Option.some.inj (Tryz.func3.symm.trans hfn)).symm
   exact ⟨ScriptForms_looks,fun j t ht=>by
    rw [Tryz.params3] at ht
    have hm:t ∈ [25,25]:=by simpa using Array.mem_of_getElem? ht
    have hall:([25,25].all fun u=>!Tryz.prog.wantsStandIn u)=true:=by kernel_rfl
    exact (show Tryz.prog.wantsStandIn t=false by simpa using List.all_eq_true.1 hall t hm)⟩)
  ScriptForms_goes
#print axioms ScriptFormsUpto_proved
end Go.Proofs.YtaimlfomodfekaaGreatDoor
