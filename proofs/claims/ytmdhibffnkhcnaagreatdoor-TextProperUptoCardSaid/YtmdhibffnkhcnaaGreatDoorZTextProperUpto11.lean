/- parts of the proof, written short by a program of ours -/
import Derived.Test.YtmdhibffnkhcnaaGreatDoorZTextProperUpto10
import Derived.Test.YtmdhibffnkhcnaaGreatDoorTie
import Derived.Test.YtmdhibffnkhcnaaGreatDoorCards
import Derived.WalkKit
import Derived.OpenShut
import Derived.ShutString
import Derived.ChangeOld
import Derived.ChangeVars
import Derived.JoinedOf
import Derived.JoinedCond
import Derived.Deep.DeepHandedRow
import Derived.SevenTiedAt
set_option linter.unusedSimpArgs false
set_option linter.unusedVariables false
namespace Go.Proofs.YtmdhibffnkhcnaaGreatDoor
open Go Go.K Proofs.Tryz
open Go.ChangeShapes Go.WideShapes Go.ChangeAt Go.RowKit Go.Joins
variable {H:Type}{enc:TypeId×Value->H}{w:World}{base:Nat}{spare:Nat->Bool}{held:Bool}
theorem Lu{n:Nat}{cs:List Value}{y:DataW H×List MemPlace}(h:DataW.trod enc prog w base spare held n 79 cs=some y):∃x:Attr,(Cm w cs x/\(x.key<=9223372036854775807/\Ja x.val))/\MZ x<=Rows.uptoBulk y.1:=by
 obtain⟨x,e,i⟩:=Ls h;obtain⟨x',e',hm⟩:=Lx h;have j:cs=x'.cells:=e';have:x=x':=Rn (e.symm.trans j);subst this;exact⟨x,⟨e,i.1.2,⟨i.2.2.1,i.2.2.2.1⟩⟩,hm⟩
theorem Ms{n:Nat}{cs:List Value}{y:DataW H×List MemPlace}(h:DataW.trod enc prog w base spare held n 133 cs=some y):∃x:Chg,(Ht w cs x/\(x.key<=9223372036854775807/\Ja x.val))/\SB x<=Rows.uptoBulk y.1:=by
 have E:prog.cellsOf 77=4:=by kernel_rfl
 obtain⟨x,e,hm⟩:=NS h;obtain⟨xs,m,_,_,hl,i,j⟩:=DataW.trod_struct underlying133 h;match xs,i with
 |[I,T,J],_=>
  have o:DataW.trod enc prog w base spare held m 77 ((cs.drop 2).take (prog.cellsOf 77))=some J:=j 2 _ rfl;rw[E] at o;obtain⟨v,ev,B⟩:=Ij o;have e':cs=x.cells:=e;subst e';have:v=x.val:=val_inj (ev.symm.trans (by rfl));subst this;have c1:prog.cellsOf 3=1:=by kernel_rfl
  have h0:DataW.trod enc prog w base spare held m 3 ((x.cells.drop 0).take (prog.cellsOf 3))=some I:=j 0 _ rfl;rw[c1] at h0;obtain⟨k,O,_,Q⟩:=DataW.trod_int underlying3 h0;have hk:x.key=k:=by
   have:[Value.int .i64 x.key]=[.int .i64 k]:=O;simpa using this
  have hr:=(HK Q).2;have S:IntKind.i64.max=9223372036854775807:=by decide
  rw[S] at hr;exact⟨x,⟨rfl,by omega,⟨B.2.1,B.2.2.1⟩⟩,hm⟩
theorem NZ{n:Nat}{cs:List Value}{y:DataW H×List MemPlace}(h:DataW.trod enc prog w base spare held n 43 cs=some y):∃v l,cs=[v]/\(Cc (fun _=>True) w v l/\∀a∈l,a.key<=9223372036854775807/\Ja a.val)/\Wz l+1<=Rows.uptoBulk y.1:=by
 obtain⟨v,l,e,hl,hm⟩:=BH.GL (k:=5) (μ:=MZ) (R:=fun(w:World) r (x:Attr)=>Cm w r x/\(x.key<=9223372036854775807/\Ja x.val)) underlying43 (by kernel_rfl) (fun _ _ _ h=>Lu h) h;exact⟨v,l,e,hl.strip,hm⟩
theorem Mx{n:Nat}{cs:List Value}{y:DataW H×List MemPlace}(h:DataW.trod enc prog w base spare held n 81 cs=some y):∃v l,cs=[v]/\(Hr (fun _=>True) w v l/\∀a∈l,a.key<=9223372036854775807/\Ja a.val)/\Wj l+1<=Rows.uptoBulk y.1:=by
 obtain⟨v,l,e,hl,hm⟩:=BH.GL (k:=6) (μ:=SB) (R:=fun(w:World) r (x:Chg)=>Ht w r x/\(x.key<=9223372036854775807/\Ja x.val)) underlying81 (by kernel_rfl) (fun _ _ _ h=>Ms h) h;exact⟨v,l,e,hl.strip,hm⟩
set_option maxRecDepth 20000 in
theorem Mw{n:Nat}{cs:List Value}{y:DataW H×List MemPlace}(h:DataW.trod enc prog w base spare held n 83 cs=some y):∃x:Dop,(KA (fun _=>True) w cs x/\Qe x)/\NN x<=Rows.uptoBulk y.1:=by
 have c0:prog.cellsOf 83=5:=by kernel_rfl
 have c1:prog.cellsOf 3=1:=by kernel_rfl
 have J:prog.cellsOf 5=1:=by kernel_rfl
 have O:prog.cellsOf 80=1:=by kernel_rfl
 have Q:prog.cellsOf 43=1:=by kernel_rfl
 have S:prog.cellsOf 81=1:=by kernel_rfl
 obtain⟨xs,m,_,rfl,hl,j,i⟩:=DataW.trod_struct underlying83 h;match xs,j with
 |[T,U,V,X,Y],_=>
  have h0:DataW.trod enc prog w base spare held m 5 ((cs.drop 0).take (prog.cellsOf 5))=some T:=i 0 _ rfl;have h1:DataW.trod enc prog w base spare held m 3 ((cs.drop 1).take (prog.cellsOf 3))=some U:=i 1 _ rfl;have o:DataW.trod enc prog w base spare held m 80 ((cs.drop 2).take (prog.cellsOf 80))=some V:=i 2 _ rfl;have B:DataW.trod enc prog w base spare held m 43 ((cs.drop 3).take (prog.cellsOf 43))=some X:=i 3 _ rfl;have E:DataW.trod enc prog w base spare held m 81 ((cs.drop 4).take (prog.cellsOf 81))=some Y:=i 4 _ rfl;rw[c0] at hl;rw[J] at h0;rw[c1] at h1;rw[O] at o;rw[Q] at B;rw[S] at E;obtain⟨a0,a1,Z,a3,a4,rfl⟩:=Ya hl
  .clear i;simp only[List.drop_zero,List.take_succ_cons,List.take_zero,List.drop_succ_cons] at h0 h1 o B E;obtain⟨k,e0,_,_⟩:=DataW.trod_int underlying5 h0;obtain⟨n,e1,_,_⟩:=DataW.trod_int underlying3 h1;obtain⟨rv,rl,e2,hr,b2⟩:=KU o;obtain⟨sv,sl,e3,⟨hs,i3⟩,b3⟩:=NZ B;obtain⟨pv,I,e4,⟨hp,i4⟩,b4⟩:=Mx E;cases e0;cases e1;cases e2;cases e3;cases e4;refine⟨⟨k,n,rl,sl,I⟩,⟨⟨Z,a3,a4,rfl,hr,hs,hp⟩,i3,i4⟩,?_⟩;simp only[NN,List.map_cons,List.map_nil,Rows.uptoBulk,Rows.uptoBulkAll];omega
theorem Lv{n:Nat}{cs:List Value}{y:DataW H×List MemPlace}(h:DataW.trod enc prog w base spare held n 34 cs=some y):∃v l,cs=[v]/\(Bi (fun _=>True) (fun _=>True) w v l/\∀o∈l,Qe o)/\Cl l+1<=Rows.uptoBulk y.1:=by
 obtain⟨v,l,e,hl,hm⟩:=BH.GL (k:=5) (μ:=NN) (R:=fun(w:World) r (x:Dop)=>KA (fun _=>True) w r x/\Qe x) underlying34 (by kernel_rfl) (fun _ _ _ h=>Mw h) h;exact⟨v,l,e,hl.strip,hm⟩
end Go.Proofs.YtmdhibffnkhcnaaGreatDoor
namespace Go.Proofs.YtmdhibffnkhcnaaGreatDoor
open Go Go.K Proofs.Tryz
open Go.ChangeShapes Go.WideShapes Go.ChangeAt Go.RowKit Go.Joins
variable {H:Type}{enc:TypeId×Value->H}{w:World}{base:Nat}{spare:Nat->Bool}{held:Bool}
set_option maxRecDepth 20000 in
theorem Mt{n:Nat}{cs:List Value}{y:DataW H×List MemPlace}(h:DataW.trod enc prog w base spare held n 36 cs=some y):∃x:SP,(R7 (fun _=>True) w cs x/\∀o∈x.x,Qe o)/\Cl x.x<=Rows.uptoBulk y.1:=by
 have c0:prog.cellsOf 36=3:=by kernel_rfl
 have c1:prog.cellsOf 3=1:=by kernel_rfl
 have E:prog.cellsOf 34=1:=by kernel_rfl
 obtain⟨xs,m,_,rfl,hl,i,j⟩:=DataW.trod_struct underlying36 h;match xs,i with
 |[I,J,O],_=>
  have h0:DataW.trod enc prog w base spare held m 34 ((cs.drop 0).take (prog.cellsOf 34))=some I:=j 0 _ rfl;have h1:DataW.trod enc prog w base spare held m 3 ((cs.drop 1).take (prog.cellsOf 3))=some J:=j 1 _ rfl;have B:DataW.trod enc prog w base spare held m 3 ((cs.drop 2).take (prog.cellsOf 3))=some O:=j 2 _ rfl;rw[c0] at hl;rw[E] at h0;rw[c1] at h1 B;match cs,hl with
  |[a0,X,Y],_=>
   clear j;simp only[List.drop_zero,List.take_succ_cons,List.take_zero,List.drop_succ_cons] at h0 h1 B;obtain⟨v1,l1,Q,⟨S,T⟩,Z⟩:=Lv h0;obtain⟨k1,U,_,_⟩:=DataW.trod_int underlying3 h1;obtain⟨k2,V,_,_⟩:=DataW.trod_int underlying3 B;cases Q;cases U;cases V;refine⟨⟨l1,k1,k2⟩,⟨⟨_,rfl,S⟩,T⟩,?_⟩;simp only[List.map_cons,List.map_nil,Rows.uptoBulk,Rows.uptoBulkAll];omega
theorem Lm{n:Nat}{cs:List Value}{y:DataW H×List MemPlace}(h:DataW.trod enc prog w base spare held n 23 cs=some y):∃v l,cs=[v]/\Hx (fun _=>True) w v l/\∀s∈l,(∀o∈s.x,Qe o)/\Cl s.x<=Rows.uptoBulk y.1:=by
 obtain⟨v,l,e,hl,hm⟩:=BH.GL (k:=3) (μ:=fun x:SP=>Cl x.x) (R:=fun(w:World) r (x:SP)=>R7 (fun _=>True) w r x/\∀o∈x.x,Qe o) underlying23 (by kernel_rfl) (fun _ _ _ h=>Mt h) h;obtain⟨h1,j⟩:=hl.strip;refine⟨v,l,e,h1,fun x i=>⟨j x i,?_⟩⟩;have:=Xk (μ:=fun x:SP=>Cl x.x) i;omega
end Go.Proofs.YtmdhibffnkhcnaaGreatDoor
namespace Go.Proofs.YtmdhibffnkhcnaaGreatDoor
open Go Go.K Proofs.Tryz
open Go.ChangeShapes Go.WideShapes Go.ChangeAt Go.RowKit
set_option linter.unusedVariables false
theorem di:ownKnob prog.godebug=none:=by kernel_rfl
theorem laidOut:laidOutB prog=true:=by kernel_rfl
set_option maxRecDepth 100000 in
theorem Io(os:Os)(o:os.Started)(H:Type)(enc:TypeId×Value->H)(F0:Stop.Interp) :
  ReturnsInHanded {} Tryz.checked os 4 .any ((Rows.OpenSpec.upto Rows.textProperSpec).preRow enc prog Tryz.f4 [] false Rows.textProperUptoRow.laid) (((Rows.OpenSpec.upto Rows.textProperSpec).at F0).post enc prog Tryz.f4 false true false false):=by
 refine returnsInHanded_of_row (C:=Tryz.checked) (s:=(Rows.OpenSpec.upto Rows.textProperSpec)) di o (by kernel_rfl) func4
  (witness_row_at (enc:=enc) (C:=Tryz.checked) (s:=(Rows.OpenSpec.upto Rows.textProperSpec)) false (MD os) #[.slice none 0 0,.int .i64 0,.slice none 0 0] rfl (by kernel_rfl) (by kernel_rfl) (by kernel_rfl)
   ⟨⟨(OpenSpec.pre_some (k:=Rows.uptoSmall) rfl [] false _ _).2 ⟨_,_,_,DataW.Whole_of_whole (fuel:=8) (x:=([.nil,.lit (.int .i64 0),.nil],[],[])) (by kernel_rfl),by kernel_rfl,by kernel_rfl⟩,Lj os _⟩,sizedMet_of_sizedB (fuel:=8) (by kernel_rfl)⟩) ?_
 intro W base args ds gs before y hW _ O _ hL _ _;have Q:=hW;obtain⟨p,q,E,hV,rfl,a6,a7⟩:=hW;have hA:DataW.TrodAll enc prog W 0 (fun _=>true) true Tryz.f4.params.toList args.toList ds p:=E;have i:∀(j:Nat) t v,Tryz.f4.params[j]?=some t->args[j]?=some v->Value.okWide prog W .any base t v:=y;rw[Tryz.params4] at hA i;have I:El W:=ND hL;obtain⟨v0,a8,d0,ak,p0,q0,S,rfl,rfl,h0,r0⟩:=trodAll_cons hA;obtain⟨v1,al,d1,an,p1,q1,rfl,rfl,rfl,h1,r1⟩:=trodAll_cons r0;obtain⟨v2,av,d2,ax,p2,q2,rfl,rfl,rfl,T,r2⟩:=trodAll_cons r1;obtain⟨rfl,rfl,rfl⟩:=trodAll_nil r2;obtain rfl:args=#[v0,v1,v2]:=by cases args;simp_all
 obtain⟨rfl,rfl⟩:=trodVars_none hV;have hk:=of_decide_eq_true (O _ rfl);simp only[List.append_nil,Rows.uptoBulkAll] at hk;have U:∀x∈p0,x.block<W.heap.size:=by obtain⟨m,hm⟩:=h0;exact DataW.trod_lt m _ _ _ hm
 obtain⟨V,X⟩:=id h0;obtain⟨u0,l0,e0,s0⟩:=Mk X;try dsimp only at s0
 obtain⟨a0,n0,c0,rfl⟩:=okWide_slice underlying22 (i 0 22 v0 rfl rfl);simp only[Value.cells,List.cons.injEq,and_true] at e0;subst e0;obtain⟨x1,rfl,rfl,rfl,w1⟩:=open_int underlying3 (i 1 3 v1 rfl rfl) h1;have Y:∀x∈p2,x.block<W.heap.size:=by obtain⟨m,hm⟩:=T;exact DataW.trod_lt m _ _ _ hm
 obtain⟨Z,a1⟩:=id T;obtain⟨u2,l2,e2,J⟩:=Lm a1;try dsimp only at J
 obtain⟨a2,n2,c2,rfl⟩:=okWide_slice underlying23 (i 2 23 v2 rfl rfl);simp only[Value.cells,List.cons.injEq,and_true] at e2;subst e2;clear E y;refine((Lk s0 J.1 I (fun s hs=>⟨(J.2 s hs).1,Nat.le_trans (J.2 s hs).2 (by omega)⟩))).mono fun e W' ⟨v,he,hv,hg⟩=>?_;subst he;subst hv;have B:Below W.heap.size W W':=Mod.below hg (Nat.le_refl _) fun _ h=>h.elim;exact⟨_,rfl,_,_,_,[],_,[],Q,trodAll_mk1 (shut_bool underlying4 _),(trodAll_cons_mk (Below.trod laidOut (by kernel_rfl) (of_decide_eq_true (by kernel_rfl)) h0 B U) (trodAll_cons_mk (shut_int underlying3 w1) (trodAll_cons_mk (Below.trod laidOut (by kernel_rfl) (of_decide_eq_true (by kernel_rfl)) T B Y) trodAll_mk0))),rfl,B.frame _,fun h=>by cases h⟩
theorem dC{a0 a1 a2 a3 a4 a5 a6 a7 a8 a9 i j o x y B E I J O Q S a22 T U a25 V X Y Z ak al:Bool}(h0:a0=true)(h1:a1=true)(h2:a2=true)(h3:a3=true)(h4:a4=true)(h5:a5=true)(h6:a6=true)(h7:a7=true)(h8:a8=true)(h9:a9=true)(an:i=true)(av:j=true)(ax:o=true)(ay:x=true)(b0:y=true)(b1:B=true)(b2:E=true)(b3:I=true)(b4:J=true)(b5:O=true)(b6:Q=true)(b7:S=true)(b8:a22=true)(b9:T=true)(ba:U=true)(bc:a25=true)(bd:V=true)(bk:X=true)(bl:Y=true)(bp:Z=true)(bs:ak=true)(bx:al=true):(((((((((((((((((((((((((((((((a0&&a1)&&a2)&&a3)&&a4)&&a5)&&a6)&&a7)&&a8)&&a9)&&i)&&j)&&o)&&x)&&y)&&B)&&E)&&I)&&J)&&O)&&Q)&&S)&&a22)&&T)&&U)&&a25)&&V)&&X)&&Y)&&Z)&&ak)&&al)=true:=by simp only[h0,h1,h2,h3,h4,h5,h6,h7,h8,h9,an,av,ax,ay,b0,b1,b2,b3,b4,b5,b6,b7,b8,b9,ba,bc,bd,bk,bl,bp,bs,bx];rfl
set_option maxHeartbeats 0 in
theorem Iu:joinedFacts prog 4 Tryz.f4 (Rows.OpenSpec.upto Rows.textProperSpec).bare Rows.textProperUptoRow=true:=by
 unfold joinedFacts;refine dC ?_ ?_ ?_ ?_ ?_ ?_ ?_ ?_ ?_ ?_ ?_ ?_ ?_ ?_ ?_ ?_ ?_ ?_ ?_ ?_ ?_ ?_ ?_ ?_ ?_ ?_ ?_ ?_ ?_ ?_ ?_ ?_ ;all_goals (as_aux_lemma=>kernel_rfl)
theorem J9:Rows.TextProperUptoSaid:=
 OpenClaim.holds_of_cond 4 Tryz.f4 rfl rfl rfl rfl rfl rfl rfl ⟨rfl,rfl,rfl,rfl,rfl⟩ rfl rfl rfl rfl rfl (by kernel_rfl) func4 Iu
  (of_decide_eq_true (by kernel_rfl)) (by unfold Func.isWrapper;first|(rw[if_pos (by decide +kernel)];kernel_rfl)|(rw[if_neg (by decide +kernel)];exact⟨rfl,rfl⟩))
  (fun os i H enc _ j=>Io os i H enc j)
theorem TextProperUpto_proved:Rows.TextProperUptoCardSaid:=
 Claim7.holds_tied_plain_at .later [] [.data,.pinned] true Rows.textProperUptoCard.stood.harness false
  J9 (fun _ h=>by cases h) (by kernel_rfl) (fun _ h=>by cases h) textProperUpto_row_tie rfl ⟨rfl,rfl⟩ (by kernel_rfl) rfl
  (fun f fn x o=>by
   obtain rfl : f = 4 := Option.some.inj ((show Tryz.prog.funcNamed "rubric/rubriclaw25.TextProper" = some 4 by kernel_rfl).symm.trans x) |>.symm
   obtain rfl:fn=Tryz.f4:=(Option.some.inj (func4.symm.trans o)).symm;exact ⟨by kernel_rfl,fun j t ht=>by
    rw[Tryz.params4] at ht;have hm:t∈[22,3,23]:=by simpa using Array.mem_of_getElem? ht
    have i:([22,3,23].all fun u=>!prog.wantsStandIn u)=true:=by kernel_rfl
    exact (show prog.wantsStandIn t=false by simpa using List.all_eq_true.1 i t hm)⟩)
  (by kernel_rfl)
#print axioms TextProperUpto_proved
end Go.Proofs.YtmdhibffnkhcnaaGreatDoor
