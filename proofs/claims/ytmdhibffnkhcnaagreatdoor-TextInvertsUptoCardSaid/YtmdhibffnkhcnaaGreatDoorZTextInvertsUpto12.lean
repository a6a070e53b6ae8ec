/- parts of the proof, written short by a program of ours -/
import Derived.Test.YtmdhibffnkhcnaaGreatDoorZTextInvertsUpto11
import Derived.Test.YtmdhibffnkhcnaaGreatDoorRows
import Derived.Lib.LaidU8
import Derived.Lib.LaidIn
import Derived.LaidHandle
import Derived.LaidMore
import Derived.MakeChecks
import Derived.Test.YtmdhibffnkhcnaaGreatDoorTie
import Derived.Test.YtmdhibffnkhcnaaGreatDoorCards
import Derived.WalkKit
import Derived.OpenShut
import Derived.ShutString
import Derived.ChangeOld
import Derived.ChangeVars
import Derived.JoinedOf
import Derived.JoinedCond
import Derived.Deep.DeepHandedRow
import Derived.SevenTiedAt
set_option linter.unusedSimpArgs false
set_option linter.unusedVariables false
set_option linter.defProp false
namespace Go.Proofs.YtmdhibffnkhcnaaGreatDoor
open Go Proofs.Tryz
variable {w W w':World}{F S C M:Nat->Prop}{v fr sv:Value}{most:Int}{cs args:List Value}{α:Type}{a:List Dop}{s:List Attr}{ks:List DKey}{K:Cont}{P:Program}{yo xo:Operand}
theorem Ry(hT:Ee w):AB prog 10 [] (fun v w'=>v=.bool true/\Grow w w') w:=by
 apply gF;refine⟨Dw.cells.toArray,by kernel_rfl,?_⟩;refine GF (cs:=Dw.cells) (by kernel_rfl) ?_;refine Tk (w0:=w) O9 (Mod.refl _ _) fun w2 sv C g2 hS hC=>?_;refine BO ?_
 let σ:SKs:=⟨sv,[Dw],fun x=>C x/\x<w2.heap.size⟩
 have ay:Ci σ.S w2 σ.sv σ.ks:=hS.sub fun x j h=>⟨h,j⟩;refine AA (Pe (w0:=w) (σ:=σ) (most:=100) ay (fun x j=>j.2) hT g2) ?_;rintro v3 q ⟨g3,h3⟩;have h3:=h3.resolve_right fun h=>by have:=h.1;omega
 obtain⟨_,_,a,F3,rfl,bx,b0⟩:=h3;refine BO ?_;have bb:=g2.trans g3;have ak:σ.ks.length<=64:=by show[Dw].length<=64;decide
 have Q:∀k∈σ.ks,EI k:=fun k hk=>by
  have b1:k∈[Dw]:=hk;simp only[P9] at b1;subst b1;exact O9
 refine AV (fun _ W=>q=W) ?_ ?_;rotate_left
 .refine Nh ?_;refine Nh ?_;exact DS (AS rfl)
 rintro _ _ rfl _;refine⟨(⟨1,1,0,FH⟩:A6).cells.toArray,by kernel_rfl,⟨(⟨1,⟨1,1,0,FH⟩⟩:Attr).cells.toArray,by kernel_rfl,?_⟩⟩;refine GF (cs:=(⟨1,⟨1,1,0,FH⟩⟩:Attr).cells) (by kernel_rfl) ?_;have z3:=g3.size;have m:=b0.hl;have o4:AE q.heap.size 79 5 DV (q.alloc (.cells (⟨1,⟨1,1,0,FH⟩⟩:Attr).cells.toArray 79)) (.slice (some ⟨q.heap.size,0,none⟩) 1 1) Cr:=AE.OY (Mp _) rfl (fun u hu=>DV.one (w:=q) (x:=⟨1,⟨1,1,0,FH⟩⟩) rfl u hu) rfl;have g4:Grow q (q.alloc (.cells (⟨1,⟨1,1,0,FH⟩⟩:Attr).cells.toArray 79)):=Mod.alloc _ _ _;generalize q.alloc (.cells (⟨1,⟨1,1,0,FH⟩⟩:Attr).cells.toArray 79)=w4 at o4 g4 ⊢;generalize Value.slice (some ⟨q.heap.size,0,none⟩) 1 1=bv at o4 ⊢;have b2:=AE.sl o4;have bd:=b0.grow g4;have z4:=g4.size;obtain⟨I,J,bk,_⟩:=b2.shape;have a1:CR (fun x=>q.heap.size<=x/\x<w4.heap.size) w4 bv Cr:=BB.sub b2 (fun x j h=>⟨h.1,j⟩) (by decide) fun _ _ h=>h;refine AV (fun _ W=>∃F5,Gq .f w F5 W a σ 100 HG 1000000/\Grow w W) ?_ ?_
 .rintro _ w5 ⟨F5,b6,g5⟩ _;have z5:=g5.size;have a6:=b6.hl;refine AV (fun _ W=>∃F6,Gq .f w F6 W a σ 100 JE 2000000/\Grow w W) ?_ ?_
  .rintro _ w6 ⟨F6,al,T⟩ _;have a7:=al.hl;refine AA (UP (k:=1) al (by decide)) ?_;rintro _ w7 ⟨rfl,U⟩;rw[Sv.2.2.2];refine BO ?_;rw[Aj];refine AF (fun _=>?_) fun e=>(e rfl).elim;rw[Aj];refine AF (fun _=>?_) fun e=>(e rfl).elim;refine⟨#[.int .u8 3,zI 4,.slice none 0 0,.slice none 0 0,.slice none 0 0],by kernel_rfl,?_⟩;refine GF (cs:=([[Value.int .u8 3,zI 4,.slice none 0 0,.slice none 0 0,.slice none 0 0]]:List (List Value)).flatten) (by kernel_rfl) ?_;have hR:=On (D:=fun _=>False) (w:=w7) (l:=Hb) [[.int .u8 3,zI 4,.slice none 0 0,.slice none 0 0,.slice none 0 0]] rfl (by decide) fun i r o hr ho=>by
    match i with
    |0=>cases hr;cases ho;exact⟨_,_,_,rfl,BB.nil,BB.nil,BB.nil⟩
    |i+1=>simp at hr
   have g8:Grow w7 (w7.alloc (.cells ([[Value.int .u8 3,zI 4,.slice none 0 0,.slice none 0 0,.slice none 0 0]]:List (List Value)).flatten.toArray 83)):=Mod.alloc _ _ _;generalize w7.alloc (.cells ([[Value.int .u8 3,zI 4,.slice none 0 0,.slice none 0 0,.slice none 0 0]]:List (List Value)).flatten.toArray 83)=w8 at hR g8 ⊢;have z7:=U.size;have bl:=al.grow (U.trans g8);refine AA (HZ (B:=4) bl hT ⟨fun c hc=>?_,rfl⟩ ak Q hR (fun y O e=>?_) VE.2.2 (by decide) (by decide) (fun _=>by decide) (by decide) (by decide)) ?_
   .simp only[JE,K8,kU,mb] at hc;have hb:EK [Dw] Cr:=EK.of Q WE fun a ha=>((VE.1 ⟨2,0,[97,98],Cr,[]⟩ (by simp[GA])).1 a ha).2;rcases hc with rfl|rfl|rfl|rfl
    .exact hb
    .exact EK.nil
    .exact hb
    .exact EK.nil
   .have:=a7 y e;rcases O with O|O
    .omega
    .exact O
   rintro _ w9 ⟨rfl,⟨F9,f9,_,M9⟩,_⟩;rw[show EL σ.ks Hb (JE.length:Nat) 100=6 from iE,Aj];refine⟨rfl,?_⟩;have gg:=T.trans (U.trans g8);exact gg.next M9 fun x j e=>by have:=(a7 x e).1;omega
  .refine⟨#[.int .u8 1,zI 1,.slice none 0 0,.slice none 0 0,.slice none 0 0],by kernel_rfl,?_⟩;refine GF (cs:=[.int .i32 10]) (by kernel_rfl) ?_;have o6:AE w5.heap.size 21 1 Bz (w5.alloc (.cells [Value.int .i32 10].toArray 21)) (.slice (some ⟨w5.heap.size,0,none⟩) 1 1) [10]:=AE.OY (Mp _) rfl (fun u hu=>by simp at hu;subst hu;rfl) rfl;have T:Grow w5 (w5.alloc (.cells [Value.int .i32 10].toArray 21)):=Mod.alloc _ _ _;generalize w5.alloc (.cells [Value.int .i32 10].toArray 21)=w6 at o6 T ⊢;generalize Value.slice (some ⟨w5.heap.size,0,none⟩) 1 1=rv at o6 ⊢;have b7:=AE.sl o6;obtain⟨V,X,rfl,_⟩:=b7.shape;have z6:=T.size;refine⟨#[.int .u8 2,zI 0,.slice V 1 X,.slice none 0 0,.slice none 0 0],by kernel_rfl,?_⟩;refine GF (cs:=([[Value.int .u8 1,zI 1,.slice none 0 0,.slice none 0 0,.slice none 0 0],[.int .u8 2,zI 0,.slice V 1 X,.slice none 0 0,.slice none 0 0]]:List (List Value)).flatten) (by kernel_rfl) ?_;have hR:=On (D:=fun x=>w5.heap.size<=x) (w:=w6) (l:=KI) [[.int .u8 1,zI 1,.slice none 0 0,.slice none 0 0,.slice none 0 0],[.int .u8 2,zI 0,.slice V 1 X,.slice none 0 0,.slice none 0 0]] rfl (by decide) fun i r o hr ho=>by
    match i with
    |0=>cases hr;cases ho;exact⟨_,_,_,rfl,BB.nil,BB.nil,BB.nil⟩
    |1=>cases hr;cases ho;exact⟨_,_,_,rfl,BB.sub b7 (fun x _ h=>h.1) (by decide) fun _ _ h=>h,BB.nil,BB.nil⟩
    |i+2=>simp at hr
   have U:Grow w6 (w6.alloc (.cells ([[Value.int .u8 1,zI 1,.slice none 0 0,.slice none 0 0,.slice none 0 0],[.int .u8 2,zI 0,.slice V 1 X,.slice none 0 0,.slice none 0 0]]:List (List Value)).flatten.toArray 83)):=Mod.alloc _ _ _;generalize w6.alloc (.cells ([[Value.int .u8 1,zI 1,.slice none 0 0,.slice none 0 0,.slice none 0 0],[.int .u8 2,zI 0,.slice V 1 X,.slice none 0 0,.slice none 0 0]]:List (List Value)).flatten.toArray 83)=w7 at hR U ⊢;have an:=b6.grow (T.trans U);refine AA (HZ (B:=5) an hT ⟨fun c hc=>?_,rfl⟩ ak Q hR (fun y O e=>?_) VE.2.1 (by decide) (by decide) (fun _=>by decide) (by decide) (by decide)) ?_
   .simp only[HG,K8,kU,mb] at hc;have hb:EK [Dw] Cr:=EK.of Q WE fun a ha=>((VE.1 ⟨2,0,[97,98],Cr,[]⟩ (by simp[GA])).1 a ha).2;rcases hc with rfl|rfl|rfl
    .exact hb
    .exact hb
    .exact EK.nil
   .have:=a6 y e;rcases O with O|O
    .omega
    .omega
   rintro _ w8 ⟨rfl,⟨F8,f8,h8,M8⟩,_⟩;have e0:EL σ.ks KI (HG.length:Nat) 100=0:=(DE (by decide)).2 dX;rw[e0,DN rfl,show CN σ.ks HG KI=JE from jL.2] at h8;rw[e0,Bk];refine AY (fun _=>?_) fun e=>(e rfl).elim;refine AA (Ra h8) ?_;rintro _ w9 ⟨rfl,g9⟩;rw[Sv.2.2.1,Bk];refine AY (fun _=>?_) fun e=>(e rfl).elim;refine⟨F8,(h8.grow g9).up (by decide),?_⟩;exact((g5.trans (T.trans U)).next M8 fun x j e=>by have:=(a6 x e).1;omega).trans g9
 .refine GF (cs:=[.int .i32 97,.int .i32 98]) (by kernel_rfl) ?_;have o6:LI (fun x=>x=w4.heap.size) (w4.alloc (.cells [Value.int .i32 97,.int .i32 98].toArray 21)) (.slice (some ⟨w4.heap.size,0,none⟩) 2 2) [97,98]:=by
   have:=BB.made (R:=Bz) (w:=w4) (l:=([97,98]:List Int)) (t:=21) [[.int .i32 97],[.int .i32 98]] (fun r hr=>by simp only[K8,kU,mb] at hr;rcases hr with rfl|rfl<;>rfl) rfl (by simp[maxLen]) fun i r x hr j=>by
    match i with
    |0=>cases hr;cases j;rfl
    |1=>cases hr;cases j;rfl
    |i+2=>simp at hr
   exact this
  have T:Grow w4 (w4.alloc (.cells [Value.int .i32 97,.int .i32 98].toArray 21)):=Mod.alloc _ _ _;generalize w4.alloc (.cells [Value.int .i32 97,.int .i32 98].toArray 21)=w6 at o6 T ⊢;generalize Value.slice (some ⟨w4.heap.size,0,none⟩) 2 2=rv at o6 ⊢;obtain⟨V,X,rfl,_⟩:=o6.shape;have z6:=T.size;subst bk;refine⟨#[.int .u8 2,zI 0,.slice V 2 X,.slice I 1 J,.slice none 0 0],by kernel_rfl,?_⟩;refine GF (cs:=([[Value.int .u8 2,zI 0,.slice V 2 X,.slice I 1 J,.slice none 0 0]]:List (List Value)).flatten) (by kernel_rfl) ?_;have hR:=On (D:=fun x=>q.heap.size<=x) (w:=w6) (l:=GA) [[.int .u8 2,zI 0,.slice V 2 X,.slice I 1 J,.slice none 0 0]] rfl (by decide) fun i r o hr ho=>by
   match i with
   |0=>
    cases hr;cases ho;exact⟨_,_,_,rfl,BB.sub o6 (fun x _ h=>by omega) (by decide) fun _ _ h=>h,BB.sub (a1.grow T (by decide) fun _ _ h=>h) (fun x _ h=>h.1) (by decide) fun _ _ h=>h,BB.nil⟩
   |i+1=>simp at hr
  have U:Grow w6 (w6.alloc (.cells ([[Value.int .u8 2,zI 0,.slice V 2 X,.slice I 1 J,.slice none 0 0]]:List (List Value)).flatten.toArray 83)):=Mod.alloc _ _ _;generalize w6.alloc (.cells ([[Value.int .u8 2,zI 0,.slice V 2 X,.slice I 1 J,.slice none 0 0]]:List (List Value)).flatten.toArray 83)=w7 at hR U ⊢;have av:=T.trans U;have z7:=U.size;have an:=bd.grow av;refine AA (HZ (B:=3) an hT fP ak Q hR (fun y O e=>?_) VE.1 (by decide) (by decide) (fun _=>by decide) (by decide) (by decide)) ?_
  .have:=m y e;rcases O with O|O
   .omega
   .omega
  rintro _ w8 ⟨rfl,⟨F8,f8,h8,M8⟩,_⟩;have e0:EL σ.ks GA (([⟨10,[]⟩]:List Cel).length:Nat) 100=0:=(DE (by decide)).2 ei;rw[e0,DN rfl,show CN σ.ks [⟨10,[]⟩] GA=HG from jL.1] at h8;rw[e0,Bk];refine AY (fun _=>?_) fun e=>(e rfl).elim;have z8:=M8.size;have bn:CR (fun x=>q.heap.size<=x/\x<w4.heap.size) w8 (.slice I 1 J) Cr:=(a1.grow av (by decide) fun _ _ h=>h).mod M8 (fun x _ j e=>by have:=(m x e).2.1;have:=j.1;omega) (by decide) fun _ _ h=>h;refine AA (Ug h8 (by decide) (by decide)) ?_;rintro c4 w9 ⟨b8,g9⟩;rw[Sv.1] at b8;have bp:=bn.grow g9 (by decide) fun _ _ h=>h;refine⟨#[zI 2,.slice I 1 J],by kernel_rfl,⟨#[zI 1,.slice none 0 0],by kernel_rfl,?_⟩⟩;refine GF (cs:=([[zI 2,.slice I 1 J],[zI 1,.slice none 0 0]]:List (List Value)).flatten) (by kernel_rfl) ?_;have Y:Grow w9 (w9.alloc (.cells ([[zI 2,.slice I 1 J],[zI 1,.slice none 0 0]]:List (List Value)).flatten.toArray 53)):=Mod.alloc _ _ _;have a8:Sg (fun x=>x=w9.heap.size) (fun x=>q.heap.size<=x/\x<w4.heap.size) (w9.alloc (.cells ([[zI 2,.slice I 1 J],[zI 1,.slice none 0 0]]:List (List Value)).flatten.toArray 53)) (.slice (some ⟨w9.heap.size,0,none⟩) 2 2) [⟨2,Cr⟩,⟨1,[]⟩]:=by
   refine BB.made (l:=([⟨2,Cr⟩,⟨1,[]⟩]:List Ho)) (t:=53) [[.int .i64 2,.slice I 1 J],[.int .i64 1,.slice none 0 0]] (fun r hr=>by simp only[K8,kU,mb] at hr;rcases hr with rfl|rfl<;>rfl) rfl (by simp[maxLen]) fun i r x hr j=>?_;match i with
   |0=>cases hr;cases j;exact⟨_,rfl,bp.grow Y (by decide) fun _ _ h=>h⟩
   |1=>cases hr;cases j;exact⟨_,rfl,BB.nil⟩
   |i+2=>simp at hr
  generalize w9.alloc (.cells ([[zI 2,.slice I 1 J],[zI 1,.slice none 0 0]]:List (List Value)).flatten.toArray 53)=c6 at a8 Y ⊢;have ax:=BB.grow b8 Y (by decide) fun r x j=>j.mod Y (fun _ _ _ h=>h) fun _ _ h=>h;refine AA (Ub ax a8) ?_;rintro _ c7 ⟨rfl,bs⟩;rw[An];refine AY (fun _=>?_) fun e=>(e rfl).elim;have Z:=(g9.trans Y).trans bs;refine AA (KN (h8.grow Z) (by decide)) ?_;rintro _ c8 ⟨rfl,b9⟩;rw[Sv.2.1,Bk];refine AY (fun _=>?_) fun e=>(e rfl).elim;refine⟨F8,((h8.grow Z).grow b9).up (by decide),?_⟩;exact(((bb.trans g4).trans av).next M8 fun x j e=>by have:=(m x e).1;omega).trans (Z.trans b9)
structure RV where
 x:List Dop
 i:Int
 j:Int
def Td(S:Nat->Prop):World->List Value->RV->Prop:=fun w r s=>∃xv,r=[xv,zI s.i,zI s.j]/\BE S S w xv s.x
theorem Td.mod{S m M:Nat->Prop}{r:List Value}{s:RV}(h:Td S w r s)(hm:Mod M w w')(j:∀b,b<w.heap.size->S b->¬M b)(i:∀b,b<w.heap.size->S b->m b):Td m w' r s:=by
 obtain⟨xv,e,h1⟩:=h;have I:=BE.mod h1 hm j j;have z:=hm.size;refine⟨xv,e,BB.mono h1 i (fun b hb q=>hm.same b hb (j b hb q)) (by decide) fun r o B=>B.mod hm j i⟩
abbrev Iv(S:Nat->Prop)(w:World)(v:Value)(l:List RV):Prop:=BB S 3 (Td S) w v l
theorem Iv.GN{l:List RV}(h:Iv S w v l):Iv (fun b=>S b/\b<w.heap.size) w v l:=
 BB.mono h (fun b hb i=>⟨i,hb⟩) (fun _ _ _=>rfl) (by decide) fun r s i=>i.mod (Mod.refl (fun _=>False) _) (fun _ _ _ h=>h) fun b hb i=>⟨i,hb⟩
theorem Iv.mod{l:List RV}(h:Iv S w v l)(hm:Mod M w w')(j:∀b,b<w.heap.size->S b->¬M b):Iv S w' v l:=
 BB.mono h (fun _ _ h=>h) (fun b hb i=>hm.same b hb (j b hb i)) (by decide) fun r s i=>i.mod hm j fun _ _ h=>h
def Wv(most:Int)(l:List RV):Prop:=l.length<=30/\most<=2000/\∀s∈l,BA s.x<=100
open Classical in
theorem TE{q v:Value}{l:List RV}(h:Iv S w v l)(hb:∀s∈l,BA s.x<=1099511627776) :
  AB prog 9 [q,zI most,v] (fun v' w'=>v'=.bool (decide (Wv most l))/\Grow w w') w:=by
 apply jH;obtain⟨a,c,rfl,hm⟩:=h.shape;simp only[maxLen] at hm;refine AV (fun _ w'=>w=w'/\l.length<=30/\most<=2000) ?_ ?_;rotate_left
 .rw[AP,BL];refine AF (fun e=>⟨by rw[kX fun h=>by have:=h.1;omega],Mod.refl _ _⟩) fun Q=>?_;rw[BL];refine AF (fun e=>⟨by rw[kX fun h=>by have:=h.2.1;omega],Mod.refl _ _⟩) fun T=>⟨rfl,by omega,by omega⟩
 rintro _ _ ⟨rfl,h1,B⟩ _;rw[AP];refine AX (fun vs w'=>∃(i:Nat),i<=l.length/\vs=[zI i]/\Grow w w'/\∀s∈l.take i,BA s.x<=100) (fun vs _=>l.length-De vs 0) ⟨0,Nn _,rfl,Mod.refl _ _,fun s m=>by simp at m⟩ ?_;rintro vs U ⟨i,hi,rfl,g,ht⟩ _;simp only[Bl,Nr];refine Hj (fun I=>?_) fun J=>?_;rotate_left
 .obtain rfl:i=l.length:=by omega
  rw[PF] at ht;exact⟨by rw[lH ⟨h1,B,ht⟩],g⟩
 have j:i<l.length:=by omega
 obtain⟨p,r,rfl,_,hr,hc,xv,rfl,O⟩:=h.get j;refine AT j ?_;rw[AG,Addr.add_add];refine AL (g.cell (hc 0 _ rfl) fun h=>h) ?_;refine AA (Zb (BE.grow O g) (hb _ (WJ j))) ?_;rintro _ w2 ⟨rfl,o⟩;rw[BL];refine AF (fun e=>⟨by rw[kX fun h=>by have:=h.2.2 _ (WJ j);omega],g.trans o⟩) fun e=>?_;rw[AQ,AO (by omega)];refine⟨⟨i+1,j,rfl,g.trans o,fun s m=>?_⟩,by rw[CH,CH];omega⟩;rw[No,By j] at m;rcases C3.1 m with m|m
 .exact ht s m
 .simp at m;subst m;omega
noncomputable def Gz(ks:List DKey)(most:Int)(d:List Cel)(x:List Dop):List Cel:=if EL ks x d.length most=0 then CN ks d x else d
structure DocM (ks:List DKey) (most:Int) (d:List Cel):Prop where
 g:J3 ks d
 pos:1<=d.length
 le:(d.length:Int)<=most
theorem Wj(h:1<=most):DocM ks most [⟨10,[]⟩]:=⟨⟨fun c hc=>by simp only[P9] at hc;subst hc;exact EK.nil,rfl⟩,Mp _,h⟩
theorem Xb(o:Dop):1<=Ef o:=by unfold Ef;omega
theorem Ko(x:List Dop):x.length<=BA x:=by
 induction x with
 |nil=>exact Mp _
 |cons o x i=>
  have e:BA (o::x)=Ef o+BA x:=by simp[BA]
  have:=Xb o;rw[e,S5];omega
abbrev EJ:Nat:=17610000
section
variable {w0:World}{F:Nat->Prop}{W:World}{a:TxA}{σ:SKs}{most:Int}{N:Nat}{d:List Cel}
theorem Nc{x:List Dop}(h:Gq .f w0 F W a σ most d N)(O:Ee w0)(j:DocM σ.ks most d)(m:σ.ks.length<=64)(Q:∀k∈σ.ks,EI k)(T:BE S S W v x)(q:∀y,S y->¬F y)(U:∀o∈x,LC o)(hl:x.length<=1048576)(hm:most<=2000)(Z:N+J8 4000 x<=1000000000) :
  AB prog 12 [.pointer (some ⟨a.b,0,none⟩),v] (fun v' w'=>v'=zI (EL σ.ks x d.length most)/\KF .f w0 F W w' a σ most (Gz σ.ks most d x) (N+J8 4000 x)/\DocM σ.ks most (Gz σ.ks most d x)) W:=by
 have I:=j.le;refine AA (HZ (B:=4000) h O j.g m Q T (fun y V=>q y (V.elim id id)) U (by omega) (by omega) (fun i=>?_) (by omega) (by omega)) ?_
 .have:=i.most;have:=i.LQ;omega
 rintro _ w' ⟨rfl,h1,X⟩;refine⟨rfl,h1,?_⟩;unfold Gz;split
 .rename_i e;have i:=(DE (by omega)).1 e;have:=Oc (ks:=σ.ks) (x:=x) (d:=d) (fun o Y=>(i.FM o Y).1) i.LQ;have:=i.most;have J:=X e;refine⟨J,?_,by omega⟩;have:CN σ.ks d x≠[]:=ck J.last;exact lh.2 this
 .exact j
theorem PM{x:List Dop}(h:Gq .f w0 F W a σ most d N)(m:Ee w0)(q:DocM σ.ks most d)(i:σ.ks.length<=64)(B:∀k∈σ.ks,EI k)(I:BE S S W v x)(j:∀y,S y->¬F y)(J:∀o∈x,LC o)(hl:x.length<=100)(hm:most<=2000)(T:N+EJ<=1000000000) :
  AB prog 12 [.pointer (some ⟨a.b,0,none⟩),v] (fun v' w'=>v'=zI (EL σ.ks x d.length most)/\KF .f w0 F W w' a σ most (Gz σ.ks most d x) (N+EJ)/\DocM σ.ks most (Gz σ.ks most d x)) W:=by
 have O:J8 4000 x<=EJ:=by
  show 2*x.length*(22*4000+50)<=17610000;omega
 refine AA (Nc h m q i B I j J (by omega) hm (by omega)) ?_;rintro _ w' ⟨rfl,h1,Q⟩;exact⟨rfl,h1.up (by omega),Q⟩
theorem eM(i:Ci C W sv ks)(j:Ee w0)(g:Grow w0 W) :
  AB prog 11 [sv,zI most] (fun v' w'=>Grow W w'/\((1<=most/\most<536870912/\∃a F,v'=.tuple #[.pointer (some ⟨a.b,0,none⟩),zI 0]/\(∀x,F x->W.heap.size<=x)/\Gq .f w0 F w' a ⟨sv,ks,fun x=>C x/\x<W.heap.size⟩ most [⟨10,[]⟩] 24)\/((most<1\/536870912<=most)/\v'=.tuple #[.pointer none,zI 2]))) W:=
 Pe (σ:=⟨sv,ks,fun x=>C x/\x<W.heap.size⟩) (i.sub fun _ m h=>⟨h,m⟩) (fun _ h=>h.2) j g
end
noncomputable def Ls(ks:List DKey)(most:Int)(d:List Cel)(l:List RV):List Cel:=l.foldl (fun d s=>Gz ks most d s.x) d
section
variable {w0:World}{F:Nat->Prop}{W:World}{a:TxA}{σ:SKs}{most:Int}{N:Nat}{d:List Cel}
theorem Rp{l:List RV}{n:Nat}{Kend:World->Prop}(hn:n<=l.length)(a8:n<=30)(hl:Iv S W v l)(hS:∀b,S b->b<w0.heap.size)(Q:∀s∈l,(∀o∈s.x,LC o)/\BA s.x<=100)
 (h:Gq .f w0 F W a σ most d N)(hT:Ee w0)(hM:DocM σ.ks most d)(T:σ.ks.length<=64)(hK:∀k∈σ.ks,EI k)(hm:most<=2000)(hN:N+30*EJ<=1000000000)
 (hE:∀W',KF .f w0 F W W' a σ most (Ls σ.ks most d (l.take n)) (N+n*EJ)->DocM σ.ks most (Ls σ.ks most d (l.take n))->Kend W') :
  Ap [(zI 0)] (fun vs m w5=>∀_:Env,
   BU .i64 (nth vs 0) (zI (n:Int)) fun t50=>
   AD t50
   (BM 3 v (nth vs 0) fun t55=>
   AM 0 t55 fun U=>
   AJ U (fun V w6=>
   AB prog 12 [.pointer (some ⟨a.b,0,none⟩),V] (fun _t58 w7=>
   AW .i64 (nth vs 0) (zI 1) fun X=>
   m [X] w7) w6) w5)
   (Kend w5)) W:=by
 obtain⟨la,lc,rfl,_⟩:=hl.shape;refine AX (fun vs W'=>∃(i:Nat) (F':Nat->Prop),i<=n/\vs=[zI i]/\(∀x,F' x->F x\/W.heap.size<=x)/\Gq .f w0 F' W' a σ most (Ls σ.ks most d (l.take i)) (N+i*EJ)/\Mod F W W'/\DocM σ.ks most (Ls σ.ks most d (l.take i))) (fun vs _=>n-De vs 0) ⟨0,F,Nn _,rfl,fun _ h=>.inl h,h.up (by omega),Mod.refl _ _,hM⟩ ?_;rintro vs W1 ⟨i,F1,hi,rfl,Y,h1,J,q⟩ _;simp only[Bl,Nr];rw[Am];have Z:=h.hl;have B:=h1.hl;refine AF (fun ak=>?_) fun al=>?_;rotate_left
 .obtain rfl:i=n:=by omega
  exact hE W1 ⟨F1,Y,h1,J⟩ q
 have a1:i<n:=by omega
 have j:i<l.length:=by omega
 have a6:=hl.mod J fun b _ hb e=>by have:=(Z b e).1;have:=hS b hb;omega
 obtain⟨p,r,rfl,_,hr,hc,xv,rfl,O⟩:=a6.get j;refine AT j ?_;rw[AG,Addr.add_add];refine AL (hc 0 _ rfl) ?_;obtain⟨q1,q2⟩:=Q l[i] (WJ j);have an:=Ko l[i].x;have av:(EJ:Nat)=17610000:=rfl;have ax:i*EJ+EJ<=30*EJ:=by
  have:(i+1)*EJ<=30*EJ:=lW _ (by omega);rw[lO,qW] at this;exact this
 refine AA (PM h1 hT q T hK O (fun y hy e=>by have:=(B y e).1;have:=hS y hy;omega) q1 (by omega) hm (by omega)) ?_;rintro _ W2 ⟨rfl,⟨F2,f2,h2,m2⟩,a7⟩;rw[AQ,AO (by omega)];have I:Ls σ.ks most d (l.take (i+1))=Gz σ.ks most (Ls σ.ks most d (l.take i)) l[i].x:=by
  unfold Ls;rw[No,By j,mC];rfl
 have z1:=J.size;refine⟨⟨i+1,F2,a1,rfl,fun x O=>?_,by rw[I];exact h2.up (by rw[lO,qW];omega),J.next m2 fun x O e=>?_,by rw[I];exact a7⟩,by rw[CH,CH];omega⟩
 .rcases f2 x O with e|e
  .exact Y x e
  .exact .inr (by omega)
 .rcases Y x e with e|e
  .exact e
  .omega
end
structure JQ (ks:List DKey) (n:Int) (x y:List Dop):Prop where
 CN:∀d z,CN ks d (x++z)=CN ks d (y++z)
 LQ:BW x=BW y
 jA:CU x=CU y
 nn:(∀o∈x,0<=o.n)->∀o∈y,0<=o.n
 pl:(∀o∈x,DL ks o)->∀o∈y,DL ks o
 fin:∀p z,(∀o∈x,0<=o.n)->0<=p->p+BW (x++z)<=n->CM n p (x++z)->CM n p (y++z)
theorem Fq(x y:List Dop):BW (x++y)=BW x+BW y:=by
 induction x with
 |nil=>simp[BW]
 |cons o x i=>rw[S7,BW,BW,i];omega
theorem Hv(x y:List Dop):CU (x++y)=CU x+CU y:=by
 induction x with
 |nil=>simp[CU]
 |cons o x i=>rw[S7,CU,CU,i];omega
section
variable {ks:List DKey}{n:Int}{x y w z:List Dop}
theorem JQ.refl(x:List Dop):JQ ks n x x:=⟨fun _ _=>rfl,rfl,rfl,fun h=>h,fun h=>h,fun _ _ _ _ _ h=>h⟩
theorem JQ.trans(h:JQ ks n x y)(i:JQ ks n y z):JQ ks n x z:=
 ⟨fun d u=>(h.CN d u).trans (i.CN d u),h.LQ.trans i.LQ,h.jA.trans i.jA,fun e=>i.nn (h.nn e),fun e=>i.pl (h.pl e),fun p u e h0 hp j=>i.fin p u (h.nn e) h0 (by rw[Fq] at hp ⊢;rw[<-h.LQ];exact hp) (h.fin p u e h0 hp j)⟩
theorem JQ.cons(o:Dop)(h:JQ ks n x y):JQ ks n (o::x) (o::y):=by
 refine⟨fun d u=>?_,?_,?_,fun e=>?_,fun e=>?_,fun p u e h0 hp i=>?_⟩
 .show Go.Proofs.YtmdhibffnkhcnaaGreatDoor.CN ks d (o::(x++u))=Go.Proofs.YtmdhibffnkhcnaaGreatDoor.CN ks d (o::(y++u));rw[Go.Proofs.YtmdhibffnkhcnaaGreatDoor.CN,Go.Proofs.YtmdhibffnkhcnaaGreatDoor.CN,h.CN,h.CN]
 .rw[BW,BW,h.LQ]
 .rw[CU,CU,h.jA]
 .intro q j;rcases K8.1 j with rfl|j
  .exact e _ (by simp)
  .exact h.nn (fun r hr=>e r (by simp[hr])) q j
 .intro q j;rcases K8.1 j with rfl|j
  .exact e _ (by simp)
  .exact h.pl (fun r hr=>e r (by simp[hr])) q j
 .have e':∀q∈x,0<=q.n:=fun q j=>e q (by simp[j]);have B:=e o (by simp);rw[S7,CM] at i ⊢;rw[S7,BW] at hp;by_cases k2:o.kind=2
  .rw[DN k2] at i hp ⊢;exact⟨i.1,h.fin p u e' h0 (by omega) i.2⟩
  .rw[Bq k2] at i hp ⊢;by_cases m:o.kind=3
   .rw[DN m] at i ⊢;exact⟨i.1,h.fin _ u e' (by omega) (by omega) i.2⟩
   .rw[Bq m] at i ⊢;exact h.fin _ u e' (by omega) (by omega) i
theorem JQ.pre(w:List Dop)(h:JQ ks n x y):JQ ks n (w++x) (w++y):=by
 induction w with
 |nil=>exact h
 |cons o w i=>exact i.cons o
theorem JQ.app(h:JQ ks n x y)(w:List Dop):JQ ks n (x++w) (y++w):=by
 refine⟨fun d u=>?_,?_,?_,fun e=>?_,fun e=>?_,fun p u e h0 hp j=>?_⟩
 .rw[Of,Of];exact h.CN d _
 .rw[Fq,Fq,h.LQ]
 .rw[Hv,Hv,h.jA]
 .intro q i;rcases C3.1 i with i|i
  .exact h.nn (fun r hr=>e r (by simp[hr])) q i
  .exact e _ (by simp[i])
 .intro q i;rcases C3.1 i with i|i
  .exact h.pl (fun r hr=>e r (by simp[hr])) q i
  .exact e _ (by simp[i])
 .rw[Of] at hp j ⊢;exact h.fin p _ (fun q i=>e q (by simp[i])) h0 hp j
theorem Yt{a b:Int}(ha:0<=a)(hb:0<=b)(p:List Chg)(r1 o:List Int)(j B:List Attr):JQ ks n [⟨1,a,r1,j,p⟩,⟨1,b,o,B,p⟩] [⟨1,a+b,r1,j,p⟩]:=by
 have e:(a+b).toNat=a.toNat+b.toNat:=by omega
 refine⟨fun d u=>?_,?_,?_,fun h q i=>?_,fun h q i hk=>?_,fun q u h h0 hp m=>?_⟩
 .simp only[S7,ky,Go.Proofs.YtmdhibffnkhcnaaGreatDoor.CN,lT,e];rw[<-Of,<-Ty,List.take_add,oJ]
 .simp[BW,e]
 .simp[CU,e]
 .simp only[P9] at i;subst i;show 0<=a+b;omega
 .simp only[P9] at i;subst i;exact absurd hk (show ¬(1:Int)=2 by decide)
 .simp only[S7,ky,CM,show ¬(1:Int)=2 by decide,show ¬(1:Int)=3 by decide,lE] at m ⊢;rw[<-Int.add_assoc];exact m
theorem ZA{a b:Int}(ha:0<=a)(hb:0<=b)(r1 B:List Int)(j I:List Attr)(m J:List Chg):JQ ks n [⟨3,a,r1,j,m⟩,⟨3,b,B,I,J⟩] [⟨3,a+b,r1,j,m⟩]:=by
 have e:(a+b).toNat=a.toNat+b.toNat:=by omega
 refine⟨fun d u=>?_,?_,?_,fun h q i=>?_,fun h q i hk=>?_,fun q u h h0 hp o=>?_⟩
 .simp only[S7,ky,Go.Proofs.YtmdhibffnkhcnaaGreatDoor.CN,show ¬(3:Int)=1 by decide,show ¬(3:Int)=2 by decide,lE,e,oJ]
 .simp[BW,e]
 .simp[CU]
 .simp only[P9] at i;subst i;show 0<=a+b;omega
 .simp only[P9] at i;subst i;exact absurd hk (show ¬(3:Int)=2 by decide)
 .simp only[S7,ky,CM,show ¬(3:Int)=2 by decide,lE,lT] at o ⊢;rw[<-Int.add_assoc];exact o.2
theorem bF(r1 i:List Int)(s:List Attr)(o J:Int)(B O:List Chg):JQ ks n [⟨2,o,r1,s,B⟩,⟨2,J,i,s,O⟩] [⟨2,o,r1++i,s,B⟩]:=by
 refine⟨fun d u=>?_,?_,?_,fun h q m=>?_,fun h q m hk I hb=>?_,fun q u h h0 hp Q=>?_⟩
 .simp only[S7,ky,Go.Proofs.YtmdhibffnkhcnaaGreatDoor.CN,show ¬(2:Int)=1 by decide,lE,lT,Ty,Of]
 .simp[BW]
 .simp[CU]
 .simp only[P9] at m;subst m;exact h ⟨2,o,r1,s,B⟩ (by simp)
 .simp only[P9] at m;subst m;have h1:=h ⟨2,o,r1,s,B⟩ (by simp) rfl I;have T:=h ⟨2,J,i,s,O⟩ (by simp) rfl I;simp only[FD,Bp] at hb ⊢;have U:0<s.length:=lh.2 I;have V:0<(CP ks true s).length->(CP ks true s).length=s.length/\BX r1=r1.length:=fun e=>h1 (.inl e);have X:0<(CP ks true s).length->(CP ks true s).length=s.length/\BX i=i.length:=fun e=>T (.inl e);have k1:0<BX r1->(CP ks true s).length=s.length/\BX r1=r1.length:=fun e=>h1 (.inr e);have k2:0<BX i->(CP ks true s).length=s.length/\BX i=i.length:=fun e=>T (.inr e);have j:0<(CP ks true s).length:=by
   rcases hb with e|e
   .exact e
   .by_cases Y:0<BX r1
    .have:=(k1 Y).1;omega
    .have:=(k2 (by omega)).1;omega
  have Z:=V j;have a2:=X j;exact⟨Z.1,by omega⟩
 .simp only[S7,ky,CM,lT] at Q ⊢;exact Q.2
theorem XX{g:Int}(o:1<=g)(i:Dop)(hi:i.kind=2)(r:List Int)(s:List Attr)(q:List Chg):JQ ks n [⟨3,g,r,s,q⟩,i] [i,⟨3,g,r,s,q⟩]:=by
 refine⟨fun d u=>?_,?_,?_,fun h q j=>h q (by simp at j ⊢;exact j.symm),fun h q j=>h q (by simp at j ⊢;exact j.symm),fun p u h h0 hp m=>?_⟩
 .simp only[S7,ky,Go.Proofs.YtmdhibffnkhcnaaGreatDoor.CN,hi,show ¬(3:Int)=1 by decide,show ¬(3:Int)=2 by decide,show ¬(2:Int)=1 by decide,lE,lT]
 .simp[BW,hi]
 .simp[CU,hi]
 .simp only[S7,ky,CM,BW,hi,show ¬(3:Int)=2 by decide,lE,lT] at m hp ⊢;exact⟨by omega,m.1,m.2.2⟩
theorem Nv(i:List Dop)(b o:Dop):(i++[b]).set ((i++[b]).length-1) o=i++[o]:=by
 rw[Bp,ni,pH,lY _ _ (Mp _),ot];rfl
theorem Lu(l:List Dop):l=[]\/∃i b,l=i++[b]:=by
 rcases lK l with h|⟨i,b,h⟩
 .exact .inl h
 .exact .inr ⟨i,b,by rw[h,lb]⟩
theorem Yq{c:List Dop}{m:Int}(p:List Chg)(hm:0<=m)(hc:∀o∈c,0<=o.n/\o.n+m<=4611686018427387904):JQ ks n (c++[⟨1,m,[],[],p⟩]) (FN c m p):=by
 unfold FN;rcases Lu c with rfl|⟨i,b,rfl⟩
 .exact JQ.refl _
 .rw[WL];simp only[gC,lM];split
  .rename_i h;obtain⟨j,q⟩:=hc b (by simp);rw[Nv,wrap64 (by omega) (by omega)];obtain⟨k,J,br,B,I⟩:=b;obtain⟨rfl,rfl⟩:=h;have:=(Yt (ks:=ks) (n:=n) j hm I br [] B []).pre i;rw[Of];exact this
  .exact JQ.refl _
theorem Sc(h:Et a)(rs:List Int)(s:List Attr):JQ ks n (a++[⟨2,0,rs,s,[]⟩]) (FX a rs s):=by
 unfold FX;cases h with
 |nil=>exact JQ.refl _
 |snoc i r t h hr j=>
  rw[WL];simp only[gC,lM];split
  .rename_i e;rw[Nv,Of,<-e];exact(bF r rs t 0 0 [] []).pre i
  .exact JQ.refl _
theorem Et.zero(h:Et a):∀o∈a,o.n=0:=by
 induction h with
 |nil=>simp
 |snoc i rs set h hr q m=>
  intro o j;rcases C3.1 j with j|j
  .exact m o j
  .simp only[P9] at j;subst j;rfl
theorem Sk{g:Int}(h:Et a)(j:0<=g):∀o∈BH a g,0<=o.n:=by
 intro o i;unfold BH at i;split at i
 .rcases C3.1 i with i|i
  .have:=h.zero o i;omega
  .simp only[P9] at i;subst i;exact j
 .have:=h.zero o i;omega
theorem EP.kC{d:List Dop}(h:EP d):∀o∈d,0<=o.n:=by
 induction h with
 |nil=>simp
 |snoc d ins gone m p h hi j hb B hp q=>
  intro o i;simp only[C3,P9] at i;rcases i with(i|i)|rfl
  .exact q o i
  .exact Sk hi j o i
  .show 0<=m;omega
theorem YS{l:List Dop}(h:∀o∈l,0<=o.n){o:Dop}(i:o∈l):o.n<=Es l:=by
 induction l with
 |nil=>simp at i
 |cons q l j=>
  have e:Es (q::l)=q.n+Es l:=by simp[Es]
  have h1:=h q (by simp);have B:0<=Es l:=by
   clear j i;have m:∀o∈l,0<=o.n:=fun o i=>h o (by simp[i]);clear h e h1;induction l with
   |nil=>simp[Es]
   |cons r l j=>
    have e:Es (r::l)=r.n+Es l:=by simp[Es]
    have:=m r (by simp);have:=j fun o i=>m o (by simp[i]);omega
  rcases K8.1 i with rfl|i
  .omega
  .have:=j (fun o i=>h o (by simp[i])) i;omega
theorem V8{s:Gt}{t:Int}(h:Canon s t){o:Dop}(Q:FL o)(ht:t+o.n<=4611686018427387904):JQ ks n (s.done++BH s.ins s.gone++[o]) ((CI s o).done++BH (CI s o).ins (CI s o).gone):=by
 obtain⟨done,ins,gone⟩:=s;obtain⟨h1,B,J,T⟩:=h;simp only at h1 B J T ⊢;obtain⟨k,m,rs,set,p⟩:=o;have i:∀l:List Dop,BH l 0=l:=fun l=>by unfold BH;rw[Bq (by decide)]
 have V:=h1.nn;rcases Q with⟨rfl,rfl,rfl,k1,k2⟩|⟨rfl,rfl,rfl,rfl,k1,k2⟩|⟨rfl,rfl,rfl,k1⟩
 .simp only at k1 k2 ht;have e:CI ⟨done,ins,gone⟩ ⟨1,m,[],[],p⟩=⟨FN (done++BH ins gone) m p,[],0⟩:=by
   unfold CI Mk;rw[DN rfl,Bq (by simp only;omega)]
  rw[e];simp only[i,kK];have I:∀q∈done++BH ins gone,0<=q.n:=fun q j=>by
   rcases C3.1 j with j|j
   .exact h1.kC q j
   .exact Sk B J q j
  refine Yq p (by omega) fun q j=>⟨I q j,?_⟩;have:=YS I j;rw[Co,G5 B J] at this;omega
 .simp only at k1 k2 ht;have e:CI ⟨done,ins,gone⟩ ⟨3,m,[],[],[]⟩=⟨done,ins,gone+m⟩:=by
   unfold CI Ql;rw[Bq (show ¬(3:Int)=1 by decide),Bq (show ¬(3:Int)=2 by decide)];show Gt.mk done ins (IntKind.i64.wrap (gone+J1 m 0))=_;rw[show J1 m 0=m by unfold J1;split<;>omega,wrap64 (by omega) (by omega)]
  rw[e];simp only;have U:BH ins (gone+m)=ins++[⟨3,gone+m,[],[],[]⟩]:=by unfold BH;rw[DN (by omega)]
  rw[U];by_cases O:0<gone
  .rw[show BH ins gone=ins++[⟨3,gone,[],[],[]⟩] by unfold BH;rw[DN O],Of,Of];exact((ZA J (by omega) [] [] [] [] [] []).pre ins).pre done
  .obtain rfl:gone=0:=by omega
   rw[i,Int.zero_add,Of];exact JQ.refl _
 .simp only at k1 ht;have e:CI ⟨done,ins,gone⟩ ⟨2,0,rs,set,[]⟩=⟨done,FX ins rs set,gone⟩:=by
   unfold CI Mr;rw[Bq (show ¬(2:Int)=1 by decide),DN rfl,Bq k1]
  rw[e];simp only;by_cases O:0<gone
  .rw[show BH ins gone=ins++[⟨3,gone,[],[],[]⟩] by unfold BH;rw[DN O],show BH (FX ins rs set) gone=FX ins rs set++[⟨3,gone,[],[],[]⟩] by unfold BH;rw[DN O],Of,Of];refine JQ.trans (((XX (by omega) ⟨2,0,rs,set,[]⟩ rfl [] [] []).pre ins).pre done) ?_;have:=((Sc (ks:=ks) (n:=n) B rs set).app [⟨3,gone,[],[],[]⟩]).pre done;rw[Of] at this;exact this
  .obtain rfl:gone=0:=by omega
   rw[i,i,Of];exact(Sc B rs set).pre done
theorem YL{x:List Dop}(h:∀o∈x,FL o)(hl:x.length<=1048576):∀k,k<=x.length->JQ ks n (x.take k) ((Be (x.take k)).done++BH (Be (x.take k)).ins (Be (x.take k)).gone):=by
 intro k;induction k with
 |zero=>intro _;exact JQ.refl _
 |succ k I=>
  intro hk;have i:k<x.length:=by omega
  have m:∀q∈x.take k,FL q:=fun q J=>h q (i7 J);have j:(x.take k).length=k:=by rw[Lc];omega
  have hc:=IU (x.take k) m (by omega);have O:=IZ (x.take k) m;have B:=h x[k] (WJ i);have Q:=B.nn;have ex:x.take (k+1)=x.take k++[x[k]]:=by rw[No,By i];rfl
  have e:Be (x.take (k+1))=CI (Be (x.take k)) x[k]:=by rw[ex];unfold Be;rw[mC];rfl
  rw[e,ex];refine JQ.trans ((I (by omega)).app [x[k]]) (V8 hc B ?_);rw[j] at O;have:(k:Int)*536870912<=1048576*536870912:=pZ (by omega) (by decide);omega
theorem YC{a b:List Dop}(h:∀d,CN ks d a=CN ks d b)(w:List Dop):∀d,CN ks d (w++a)=CN ks d (w++b):=by
 induction w with
 |nil=>exact h
 |cons o w i=>intro d;rw[S7,S7,CN,CN,i,i]
theorem Uk(c:Cel):Cg ks [] c=c:=by
 obtain⟨r,s⟩:=c;unfold Cg MP CW;simp only[List.filter_nil];cases s<;>rfl
theorem Xv:∀{w:List Dop} {p:Int},CM n p (w++a)->CM n p w:=by
 intro w;induction w with
 |nil=>intro p _;trivial
 |cons o w i=>
  intro p h;rw[S7,CM] at h;rw[CM];split
  .rename_i k;rw[DN k] at h;exact⟨h.1,i h.2⟩
  .rename_i k;rw[Bq k] at h;split
   .rename_i j;rw[DN j] at h;exact⟨h.1,i h.2⟩
   .rename_i j;rw[Bq j] at h;exact i h
theorem aM{x:List Dop}(h:∀o∈x,FL o)(hl:x.length<=1048576)(ht:(BW x:Int)<=n)(O:CM n 0 x)(hp:∀o∈x,DL ks o) :
  (∀d,CN ks d (Br x)=CN ks d x)/\BW (Br x)<=BW x/\BW x+CU (Br x)=BW (Br x)+CU x/\CM n 0 (Br x)/\∀o∈Br x,DL ks o:=by
 have E:=YL (ks:=ks) (n:=n) h hl x.length (Mp _);rw[PF] at E;have j:∀o∈x,0<=o.n:=fun o m=>(h o m).nn.1;have q:∀d,CN ks d ((Be x).done++BH (Be x).ins (Be x).gone)=CN ks d x:=fun d=>by have:=E.CN d [];rw[kK,kK] at this;exact this.symm
 have B:CM n 0 ((Be x).done++BH (Be x).ins (Be x).gone):=by
  have:=E.fin 0 [] j (rK _) (by rw[kK];omega) (by rw[kK];exact O);rwa [kK] at this
 have J:=E.LQ;have Q:=E.jA;have I:=E.pl hp;unfold Br RH;generalize (Be x).done++BH (Be x).ins (Be x).gone=c at *;rcases Lu c with rfl|⟨i,b,rfl⟩
 .show(∀d,CN ks d []=CN ks d x)/\BW []<=BW x/\BW x+CU []=BW []+CU x/\CM n 0 []/\∀o∈([]:List Dop),DL ks o;exact⟨q,by omega,by omega,B,I⟩
 .unfold EG;rw[WL];simp only[gC,lM];split
  .rename_i hb;rw[l9];refine⟨fun d=>?_,?_,?_,Xv B,fun o m=>I o (by simp[m])⟩
   .rw[<-q d];have:=YC (ks:=ks) (a:=[]) (b:=[b]) (fun d=>?_) i d
    .rw[kK] at this;exact this
    .rw[CN,CN,DN hb.1,hb.2,CN,show Cg ks []=id from funext Uk,List.map_id,S6]
   .rw[Fq] at J;omega
   .rw[Fq,BW,BW,Bq (by omega)] at J;rw[Hv,CU,CU,Bq (by omega),Bq (by omega)] at Q;omega
  .exact⟨q,by omega,by omega,B,I⟩
end
theorem Rg{S S' D D':Nat->Prop}{a b:Value}{l m:List Cel}(ha:Bn S D w a l)(hb:Bn S' D' w b m) :
  AB prog 22 [a,b] (fun v w'=>v=.bool (decide (l=m))/\Grow w w') w:=by
 apply eF;obtain⟨pa,ca,rfl,Q⟩:=ha.shape;obtain⟨pb,cb,rfl,T⟩:=hb.shape;simp only[maxLen] at Q T;rw[AP,AP,Bk];refine AY (fun o=>?_) fun o=>?_;rotate_left
 .refine⟨?_,Mod.refl _ _⟩;congr 1;symm
  rw[kV];intro e;exact o (by rw[e])
 have B:l.length=m.length:=by omega
 refine AX (fun vs w'=>∃k:Nat,k<=l.length/\vs=[zI k]/\Grow w w'/\l.take k=m.take k) (fun vs _=>l.length-De vs 0) ⟨0,Nn _,rfl,Mod.refl _ _,rfl⟩ ?_;rintro vs w1 ⟨k,hk,rfl,hg,ht⟩ h;simp only[Bl,Nr];rw[AP,Am];refine AF (fun a1=>?_) fun a6=>?_;rotate_left
 .refine⟨?_,hg⟩;congr 1;symm
  rw[TC];obtain rfl:k=l.length:=by omega
  rw[PF] at ht;rw[ht,B,PF]
 have i:k<l.length:=by omega
 have gd:Grow w1 w1.drew:=Mod.drew _ _;have I:=hg.trans gd;have U:=ha.grow I;have V:=hb.grow I;obtain⟨p,r,rfl,_,hr,hc,sv,rfl,hs⟩:=U.get i;obtain⟨q,r',rfl,_,a7,J,a8,rfl,X⟩:=V.get (show k<m.length by omega);refine Af (fun _ _=>False) ?_;refine AT i ?_;rw[AG,Addr.add_add];refine AU ⟨hc 0 _ rfl,fun j Y e=>e⟩ ?_;refine AT (by omega) ?_;rw[AG,Addr.add_add];refine AU ⟨J 0 _ rfl,fun j Y e=>e⟩ ?_;rw[Bk];refine AY (fun O=>?_) fun O=>?_;rotate_left
 .refine⟨?_,I⟩;congr 1;symm
  rw[kV];intro e;subst e;exact O rfl
 refine AT i ?_;rw[AG,Addr.add_add];refine AU ⟨hc 1 _ rfl,fun j Y e=>e⟩ ?_;refine AT (by omega) ?_;rw[AG,Addr.add_add];refine AU ⟨J 1 _ rfl,fun j Y e=>e⟩ ?_;refine AA (Ng hs X) ?_;rintro _ w2 ⟨rfl,Z⟩;refine⟨Z.mono fun _ _ h=>h.elim,?_⟩;rw[An];by_cases he:l[k].set=m[k].set
 .rw[lH he];refine AS ?_;rw[AQ,AO (by omega)];refine⟨⟨k+1,i,rfl,I.trans Z,?_⟩,by rw[CH,CH];omega⟩;have e:l[k]=m[k]:=by
   cases h1:l[k];cases h2:m[k];rw[h1,h2] at O he;simp only at O he;rw[O,he]
  rw[No,No,ht];simp[i,show k<m.length by omega,e]
 .rw[kX he];refine Ak ⟨?_,I.trans Z⟩;congr 1;symm
  rw[kV];intro e;subst e;exact he rfl
theorem Oy.lt{b:Nat}{s:Gt}(h:Oy F W b s):Oy (fun x=>F x/\x<W.heap.size) W b s:=by
 obtain⟨dv,T,C,j,h⟩:=h;have hb:b<W.heap.size:=lF W _ h.c0;refine⟨dv,T,C,j,h.c0,h.c1,h.c2,h.lv,⟨h.fb,hb⟩,h.nb,fun x m=>⟨⟨(h.cf x m).1,(h.cf x m).2⟩,(h.cf x m).2⟩,h.done,fun g o=>⟨⟨(h.dF g o).1,(AE.Ax h.done g o).2⟩,(h.dF g o).2⟩,?_⟩;rcases h.ins with h0|⟨g,c,U,O,V,Q,X,Y,Z,e7,e8,e9,q,B,I,i,J⟩
 .exact .inl h0
 .exact .inr ⟨g,c,U,O,V,Q,⟨X,(AE.Ax Q g (by rw[O];rfl)).2⟩,Y,Z,e7,⟨e8,i⟩,e9,q,B,I,i,J⟩
def Je(c:Cel):Dop:=⟨2,0,[c.r],c.set,[]⟩
theorem Nl(x:List Dop)(o:Dop):Be (x++[o])=CI (Be x) o:=by unfold Be;rw[mC];rfl
theorem WW{m:Nat}(h:∀a∈s,a.val.s.size<=m):JC s<=s.length*(m+1):=by
 induction s with
 |nil=>exact Nn _
 |cons a s i=>
  have e:JC (a::s)=LB a+JC s:=by simp[JC]
  have h1:=h a (by simp);have j:=i fun b hb=>h b (by simp[hb]);rw[e,S5,lO,LB];omega
theorem EK.size(h:EK ks s):JC s<=4160:=by
 have h1:JC s<=s.length*65:=WW fun a ha=>by
  obtain⟨_,_,i⟩:=h.1;have h0:FH.size=0:=rfl;rcases(i a ha).1 with⟨_,e,_⟩|⟨_,e⟩|⟨_,e,_⟩|⟨_,_,e,_⟩
  .rw[e];show FH.size<=64;omega
  .rw[e];show FH.size<=64;omega
  .rw[e];show FH.size<=64;omega
  .exact e
 have:=h.len;omega
section
variable {w0:World}{F:Nat->Prop}{W:World}{a:TxA}{σ:SKs}{most:Int}{N:Nat}{d:List Cel}
end
theorem UA{d:List Cel}{x:List Dop}(hk:∀k∈ks,EI k)(B:∀o∈x,LC o)(hl:x.length<=1048576)(h:EL ks x d.length most=0) :
  EL ks (Br x) d.length most=0/\CN ks d (Br x)=CN ks d x/\(∀o∈Br x,LC o)/\(Br x).length<=x.length:=by
 have i:=(DE (by omega)).1 h;have I:∀o∈x,FL o:=fun o j=>(i.FM o j).1.cN (i.FM o j).2;obtain⟨q,J,_,_,O⟩:=XY (fun k m=>by have:=(hk k m).1;omega) i.may B (by omega);obtain⟨Q,T,X,U,V⟩:=aM (ks:=ks) (n:=d.length) I (by omega) (by have:=i.LQ;omega) i.fin i.pl;refine⟨(DE (by omega)).2 ⟨q,Jp q,i.pos,lV T i.LQ,U,V,?_⟩,Q d,fun o j=>(J o j).1.b,O⟩;have:=i.most;omega
def IQ(s:List Attr)(k:Int):Option A6:=(s.find? fun a=>decide (a.key=k)).map (·.val)
def Uh(p:List Chg)(k:Int):Option Chg:=p.find? fun c=>decide (c.key=k)
theorem Dn{k:Int}(h:∀a∈s,a.key≠k):IQ s k=none:=by
 unfold IQ;rw[qN.2 fun a ha=>by simpa using h a ha];rfl
theorem DF{a:Attr}{k:Int}:IQ (a::s) k=if a.key=k then some a.val else IQ s k:=by
 unfold IQ;rw[qv];by_cases h:a.key=k
 .simp[h]
 .simp[h]
theorem Zo:∀{s t:List Attr},Fx s->Fx t->(∀k,IQ s k=IQ t k)->s=t:=by
 intro s;induction s with
 |nil=>
  intro t _ _ h;cases t with
  |nil=>rfl
  |cons b t=>have:=h b.key;rw[DF,DN rfl] at this;cases this
 |cons a s O=>
  intro t Q ht h;obtain⟨ha,o⟩:=mF.1 Q;cases t with
  |nil=>have:=h a.key;rw[DF,DN rfl] at this;cases this
  |cons b t=>
   obtain⟨hb,q⟩:=mF.1 ht;have j:=h a.key;have m:=h b.key;rw[DF,DF,DN rfl] at j;rw[DF,DF,DN rfl] at m;have hk:b.key=a.key:=by
    by_cases e:b.key=a.key
    .exact e
    .rw[Bq e] at j;rw[Bq (fun e'=>e e'.symm)] at m;have h1:∃x∈t,x.key=a.key:=by
      refine kS fun B=>?_;rw[Dn fun x i e'=>B ⟨x,i,e'⟩] at j;cases j
     have T:∃x∈s,x.key=b.key:=by
      refine kS fun B=>?_;rw[Dn fun x i e'=>B ⟨x,i,e'⟩] at m;cases m
     obtain⟨x,i,ex⟩:=h1;obtain⟨y,U,V⟩:=T;have:=hb x i;have:=ha y U;omega
   rw[DN hk] at j;have J:a.val=b.val:=kW j;have I:a=b:=by cases a;cases b;simp only at hk J;rw[hk,J]
   subst I;rw[O o q fun k=>?_];have:=h k;rw[DF,DF] at this;by_cases e:a.key=k
   .subst e;rw[Dn fun x i e'=>by have:=ha x i;omega,Dn fun x i e'=>by have:=hb x i;omega]
   .rwa [Bq e,Bq e] at this
theorem Si(a b:List Attr)(k:Int):IQ (a++b) k=(IQ a k).or (IQ b k):=by
 unfold IQ;rw[List.find?_append];cases List.find? (fun x=>decide (x.key=k)) a<;>simp
theorem Yo{c:Chg}{k:Int}(hk:k<c.key):∀{s:List Attr},Fx s->IQ (Jj c s) k=IQ s k:=by
 intro s;induction s with
 |nil=>intro _;rfl
 |cons a s j=>
  intro h;obtain⟨ha,m⟩:=mF.1 h;rw[Jj];split
  .rw[DF,DF,j m]
  .rename_i h1;rw[Dn (s:=[]) (by simp),Dn fun x i=>?_];rcases K8.1 i with rfl|i
   .omega
   .have:=ha x i;omega
theorem Vf{c:Chg}{k:Int}(hk:c.key<k):∀{s:List Attr},IQ (Eu c s) k=IQ s k:=by
 intro s;induction s with
 |nil=>rfl
 |cons a s i=>
  rw[Eu];split
  .rename_i h1;rw[i,DF,Bq (by omega)]
  .split
   .rename_i h1 j;rw[DF,Bq (by omega)]
   .rfl
theorem KB{c:Chg}{p:List Chg}{k:Int}:Uh (c::p) k=if c.key=k then some c else Uh p k:=by
 unfold Uh;rw[qv];by_cases h:c.key=k<;>simp[h]
theorem Mh{p:List Chg}{k:Int}(h:∀c∈p,c.key≠k):Uh p k=none:=by
 unfold Uh;exact qN.2 fun a ha=>by simpa using h a ha
theorem ai{c:Chg}{k:Int}:IQ (MI c) k=if c.key=k then(if c.gone then none else some c.val) else none:=by
 unfold MI;by_cases i:c.gone
 .rw[DN i];split<;>simp[IQ]
 .rw[Bq i,DF];show(if c.key=k then some c.val else IQ [] k)=_;split<;>simp[IQ,i]
theorem PB:∀{p:List Chg} {s:List Attr},Fx s->LL p->∀k,IQ (Bs s p) k=match Uh p k with|some c=>if c.gone then none else some c.val|none=>IQ s k:=by
 intro p;induction p with
 |nil=>intro s _ _ k;rfl
 |cons c p o=>
  intro s j hp k;obtain⟨hc,m⟩:=mF.1 hp;rw[Bs,Si,Si,o (Nu j) m,KB,ai];rcases Int.lt_trichotomy k c.key with h|h|h
  .rw[Yo h j,Bq (by omega),Bq (by omega),Mh fun x i=>by have:=hc x i;omega];simp only[rM];rw[Dn (s:=Eu c s) fun x i=>by have:=L4 j i;omega,rM]
  .subst h;rw[Dn (s:=Jj c s) fun x i=>by have:=(G7 i).2;omega,DN rfl,DN rfl,Mh fun x i=>by have:=hc x i;omega];simp only[Option.none_or];rw[Dn (s:=Eu c s) fun x i=>by have:=L4 j i;omega,rM]
  .rw[Dn (s:=Jj c s) fun x i=>by have:=(G7 i).2;omega,Bq (by omega),Bq (by omega),Vf h];simp only[Option.none_or]
def GO(s:List Attr)(c:Chg):Option Chg:=match IQ s c.key with|some v=>if c.gone=true\/v≠c.val then some ⟨c.key,false,v⟩ else none|none=>if c.gone then none else some ⟨c.key,true,A6.zero⟩
def Dc(s:List Attr)(p:List Chg):List Chg:=p.filterMap (GO s)
theorem Gp{c i:Chg}(h:GO s c=some i):i.key=c.key:=by
 unfold GO at h;split at h<;>split at h<;>cases h<;>rfl
theorem Ln{p:List Chg}(h:LL p):LL (Dc s p):=by
 unfold Dc;show(List.filterMap (GO s) p).Pairwise fun a b=>a.key<b.key;rw[List.pairwise_filterMap];refine List.Pairwise.imp ?_ h;intro a b i j ha m hb;rw[Gp ha,Gp hb];exact i
theorem Zv{k:Int}:∀{p:List Chg},LL p->Uh (Dc s p) k=(Uh p k).bind (GO s):=by
 intro p;induction p with
 |nil=>intro _;rfl
 |cons c p j=>
  intro h;obtain⟨hc,hp⟩:=mF.1 h;have e:Dc s (c::p)=match GO s c with|some i=>i::Dc s p|none=>Dc s p:=by
   unfold Dc;rw[List.filterMap_cons];cases GO s c<;>rfl
  rw[e,KB];by_cases hk:c.key=k
  .rw[DN hk];show _=GO s c;cases hi:GO s c with
   |some i=>
    show Uh (i::Dc s p) k=some i;rw[KB,DN (by rw[Gp hi,hk])]
   |none=>
    show Uh (Dc s p) k=none;rw[j hp,Mh fun x m=>by have:=hc x m;omega];rfl
  .rw[Bq hk];cases hi:GO s c with
   |some i=>
    show Uh (i::Dc s p) k=_;rw[KB,Bq (by rw[Gp hi];exact hk),j hp]
   |none=>exact j hp
theorem Zj{p:List Chg}{k:Int}{c:Chg}(h:Uh p k=some c):c.key=k:=by
 have:=pz h;simpa using this
theorem Zs{p:List Chg}(j:Fx s)(hp:LL p):Bs (Bs s p) (Dc s p)=s:=by
 refine Zo (Jf (Jf j hp) (Ln hp)) j fun k=>?_;rw[PB (Jf j hp) (Ln hp),Zv hp,PB j hp];cases hl:Uh p k with
 |none=>rfl
 |some c=>
  have hk:=Zj hl;show(match GO s c with|some c=>if c.gone then none else some c.val|none=>if c.gone then none else some c.val)=IQ s k;unfold GO;rw[hk];cases q:IQ s k with
  |some v=>
   show(match (if c.gone=true\/v≠c.val then some (⟨k,false,v⟩:Chg) else none) with|some c=>if c.gone then none else some c.val|none=>if c.gone then none else some c.val)=some v;split
   .rename_i h;split at h
    .cases h;rfl
    .cases h
   .rename_i h;split at h
    .cases h
    .rename_i m;have h1:c.gone=false:=by cases i:c.gone with|false=>rfl|true=>exact(m (.inl i)).elim
     have o:v=c.val:=kS fun e=>m (.inr e);rw[h1,o];rfl
  |none=>
   show(match (if c.gone=true then none else some (⟨k,true,A6.zero⟩:Chg)) with|some c=>if c.gone then none else some c.val|none=>if c.gone then none else some c.val)=none;by_cases i:c.gone=true
   .rw[DN i];show(if c.gone=true then none else some c.val)=none;rw[DN i]
   .rw[Bq i];rfl
def LH(ks:List DKey)(c:Cel):Prop:=Dz c.r/\∀a∈c.set,Ht ks (decide (c.r=10)) a=true
def I6(ks:List DKey)(p:List Chg)(c:Cel):Dop:=⟨1,1,[],[],Dc c.set (CW ks (decide (c.r=10)) p)⟩
def Cv(ks:List DKey):List Cel->List Dop->List Dop
 |_,[]=>[]
 |d,o::x=>if o.kind=2 then⟨3,o.Ag.length,[],[],[]⟩::Cv ks d x else(d.take o.n.toNat).map (if o.kind=3 then Je else I6 ks o.patch)++Cv ks (d.drop o.n.toNat) x
section
variable {ks:List DKey}
theorem Tu{b:Bool}{p:List Chg}:CW ks b (Dc s (CW ks b p))=Dc s (CW ks b p):=by
 have key:∀c∈Dc s (CW ks b p),∃i∈CW ks b p,c.key=i.key:=fun c hc=>by
  unfold Dc at hc;obtain⟨i,h1,j⟩:=qF.1 hc;exact⟨i,h1,Gp j⟩
 generalize Dc s (CW ks b p)=q at *;unfold CW at key ⊢;refine mq.2 fun c hc=>?_;obtain⟨i,m,e⟩:=key c hc;rw[e];exact(lx.1 m).2
theorem Xd{p:List Chg}{c:Cel}(m:Fx c.set)(hp:LL p):Cg ks (I6 ks p c).patch (Cg ks p c)=c:=by
 obtain⟨r,s⟩:=c;show(⟨r,Bs (Bs s (CW ks (decide (r=10)) p)) (CW ks (decide (r=10)) (Dc s (CW ks (decide (r=10)) p)))⟩:Cel)=⟨r,s⟩;have i:Fx s:=m;have j:LL (CW ks (decide (r=10)) p):=pk _ hp;rw[Tu,Zs i j]
theorem Z0(l e:List Cel)(y:List Dop):CN ks e (l.map Je++y)=l++CN ks e y:=by
 induction l with
 |nil=>rfl
 |cons c l i=>
  rw[kN,S7,CN,Bq (show ¬(Je c).kind=1 from(by decide:¬(2:Int)=1)),DN (show(Je c).kind=2 from rfl),i];rfl
theorem YV{p:List Chg}(hp:LL p)(l:List Cel)(hl:∀c∈l,Fx c.set)(e:List Cel)(y:List Dop):CN ks (l.map (Cg ks p)++e) (l.map (I6 ks p)++y)=l++CN ks e y:=by
 induction l with
 |nil=>rfl
 |cons c l i=>
  rw[kN,kN,S7,S7,CN,DN (show(I6 ks p c).kind=1 from rfl)];show[Cg ks (I6 ks p c).patch (Cg ks p c)]++CN ks (l.map (Cg ks p)++e) (l.map (I6 ks p)++y)=_;rw[Xd (hl c (by simp)) hp,i fun c hc=>hl c (by simp[hc])];rfl
theorem ZN(l:List Cel):BW (l.map Je)=0/\CU (l.map Je)=l.length:=by
 induction l with
 |nil=>exact⟨rfl,rfl⟩
 |cons c l i=>
  rw[kN,BW,CU,i.1,i.2];exact⟨rfl,by show 1+l.length=l.length+1;omega⟩
theorem ad(p:List Chg)(l:List Cel):BW (l.map (I6 ks p))=l.length/\CU (l.map (I6 ks p))=l.length:=by
 induction l with
 |nil=>exact⟨rfl,rfl⟩
 |cons c l i=>
  rw[kN,BW,CU,i.1,i.2];exact⟨by show 1+l.length=l.length+1;omega,by show 1+l.length=l.length+1;omega⟩
theorem K4{o:Dop}{x:List Dop}{d:List Cel}(k:o.kind=1):BW (o::x)=o.n.toNat+BW x/\CU (o::x)=o.n.toNat+CU x/\Cv ks d (o::x)=(d.take o.n.toNat).map (I6 ks o.patch)++Cv ks (d.drop o.n.toNat) x/\CN ks d (o::x)=(d.take o.n.toNat).map (Cg ks o.patch)++CN ks (d.drop o.n.toNat) x:=
 ⟨by rw[BW,Bq (by omega)],by rw[CU,Bq (by omega),Bq (by omega)],by rw[Cv,Bq (by omega),Bq (by omega)],by rw[CN,DN k]⟩
theorem K2{o:Dop}{x:List Dop}{d:List Cel}(k:o.kind=3):BW (o::x)=o.n.toNat+BW x/\CU (o::x)=CU x/\Cv ks d (o::x)=(d.take o.n.toNat).map Je++Cv ks (d.drop o.n.toNat) x/\CN ks d (o::x)=CN ks (d.drop o.n.toNat) x:=
 ⟨by rw[BW,Bq (by omega)],by rw[CU,DN k,mG],by rw[Cv,Bq (by omega),DN k],by rw[CN,Bq (by omega),Bq (by omega)]⟩
theorem LA{o:Dop}{x:List Dop}{d:List Cel}(k:o.kind=2):BW (o::x)=BW x/\CU (o::x)=o.Ag.length+CU x/\Cv ks d (o::x)=⟨3,o.Ag.length,[],[],[]⟩::Cv ks d x/\CN ks d (o::x)=o.Ag.map (fun r=>(⟨r,o.set⟩:Cel))++CN ks d x:=
 ⟨by rw[BW,DN k,mG],by rw[CU,Bq (by omega),DN k],by rw[Cv,DN k],by rw[CN,Bq (by omega),DN k]⟩
theorem gj:∀{x:List Dop} {d:List Cel},(∀o∈x,BY ks o)->BW x<=d.length->BW (Cv ks d x)=CU x/\CU (Cv ks d x)=BW x/\(Cv ks d x).length<=x.length+BW x:=by
 intro x;induction x with
 |nil=>intro d _ _;exact⟨rfl,rfl,Mp _⟩
 |cons o x J=>
  intro d T ht;have j:∀o∈x,BY ks o:=fun o V=>T o (by simp[V]);rcases T o (by simp) with⟨k,_,_,X,_⟩|⟨k,_,_,_,X⟩|⟨k,_⟩
  .obtain⟨i,m,q,_⟩:=K4 (ks:=ks) (x:=x) (d:=d) k;rw[i] at ht;obtain⟨B,I,U⟩:=J j (d:=d.drop o.n.toNat) (by rw[I3];omega);obtain⟨O,Q⟩:=ad (ks:=ks) o.patch (d.take o.n.toNat);rw[i,m,q,Fq,Hv,O,Q,B,I,Bp,Iq,Lc,S5];exact⟨by omega,by omega,by omega⟩
  .obtain⟨i,m,q,_⟩:=K2 (ks:=ks) (x:=x) (d:=d) k;rw[i] at ht;obtain⟨B,I,U⟩:=J j (d:=d.drop o.n.toNat) (by rw[I3];omega);obtain⟨O,Q⟩:=ZN (d.take o.n.toNat);rw[i,m,q,Fq,Hv,O,Q,B,I,Bp,Iq,Lc,S5];exact⟨by omega,by omega,by omega⟩
  .obtain⟨i,m,q,_⟩:=LA (ks:=ks) (x:=x) (d:=d) k;rw[i] at ht;obtain⟨B,I,U⟩:=J j ht;rw[i,m,q,S5,S5,BW,CU,B,I];exact⟨rfl,mG _,by omega⟩
theorem fI:∀{x:List Dop} {d:List Cel},(∀o∈x,BY ks o)->(∀c∈d,Fx c.set)->BW x<=d.length->CN ks (CN ks d x) (Cv ks d x)=d:=by
 intro x;induction x with
 |nil=>intro d _ _ _;rfl
 |cons o x I=>
  intro d J B ht;have i:∀o∈x,BY ks o:=fun o O=>J o (by simp[O]);rcases J o (by simp) with⟨k,_,_,Q,hp⟩|⟨k,_,_,_,Q⟩|⟨k,_⟩
  .obtain⟨j,_,m,q⟩:=K4 (ks:=ks) (x:=x) (d:=d) k;rw[j] at ht;rw[q,m,YV hp.1 _ fun c hc=>B c (i7 hc),I i (fun c hc=>B c (iV hc)) (by rw[I3];omega),S6]
  .obtain⟨j,_,m,q⟩:=K2 (ks:=ks) (x:=x) (d:=d) k;rw[j] at ht;rw[q,m,Z0,I i (fun c hc=>B c (iV hc)) (by rw[I3];omega),S6]
  .obtain⟨j,_,m,q⟩:=LA (ks:=ks) (x:=x) (d:=d) k;rw[j] at ht;rw[q,m,CN,Bq (show ¬(3:Int)=1 by decide),Bq (show ¬(3:Int)=2 by decide)];show CN ks (List.drop ((o.Ag.length:Int).toNat) _) _=_;rw[lf,oY (Iq _),I i B ht]
theorem OT{n:Nat}:∀{x:List Dop} {d:List Cel},(∀o∈x,BY ks o)->BW x<=d.length->0<d.length->CM n ((n:Int)-d.length) x->0<(CN ks d x).length:=by
 intro x;induction x with
 |nil=>intro d _ _ h _;exact h
 |cons o x q=>
  intro d m ht Q i;have j:∀o∈x,BY ks o:=fun o B=>m o (by simp[B]);rw[CM] at i;rcases m o (by simp) with⟨k,_,_,I,_⟩|⟨k,_,_,_,I⟩|⟨k,_,_,_,hr,_⟩
  .rw[(K4 k).2.2.2,Bp,Iq,Lc];omega
  .obtain⟨J,_,_,O⟩:=K2 (ks:=ks) (x:=x) (d:=d) k;rw[J] at ht;rw[Bq (by omega),DN k] at i;rw[O];refine q j (by rw[I3];omega) (by rw[I3];omega) ?_;rw[I3,show(n:Int)-((d.length-o.n.toNat:Nat):Int)=(n:Int)-d.length+o.n by omega];exact i.2
  .rw[(LA k).2.2.2,Bp,Iq];have:=lh.2 hr;omega
theorem bU{m:Int}{p:Int}(hp:p≠m)(l:List Cel)(h:CM m p a):CM m p (l.map Je++a):=by
 induction l with
 |nil=>exact h
 |cons c l i=>rw[kN,S7,CM,DN (show(Je c).kind=2 from rfl)];exact⟨hp,i⟩
theorem YY{m:Int}{q:List Chg}(l:List Cel):∀{p:Int},CM m (p+l.length) a->CM m p (l.map (I6 ks q)++a):=by
 induction l with
 |nil=>intro p h;rw[lG] at h;simpa using h
 |cons c l i=>
  intro p h;rw[kN,S7,CM,Bq (show ¬(I6 ks q c).kind=2 from(by decide:¬(1:Int)=2)),Bq (show ¬(I6 ks q c).kind=3 from(by decide:¬(1:Int)=3))];refine i ?_;show CM m (p+1+_) a;rw[S5] at h;rw[show p+1+(l.length:Int)=p+((l.length+1:Nat):Int) by omega];exact h
theorem YZ{n m:Nat}:∀{x:List Dop} {d:List Cel},(∀o∈x,BY ks o)->BW x<=d.length->CM n ((n:Int)-d.length) x->CM m ((m:Int)-(CN ks d x).length) (Cv ks d x):=by
 intro x;induction x with
 |nil=>intro d _ _ _;trivial
 |cons o x T=>
  intro d U ht j;have i:∀o∈x,BY ks o:=fun o V=>U o (by simp[V]);rw[CM] at j;rcases U o (by simp) with⟨k,_,_,X,_⟩|⟨k,_,_,_,X⟩|⟨k,_,_,_,hr,_⟩
  .obtain⟨q,_,B,I⟩:=K4 (ks:=ks) (x:=x) (d:=d) k;rw[q] at ht;rw[Bq (by omega),Bq (by omega)] at j;have hi:=T i (d:=d.drop o.n.toNat) (by rw[I3];omega) (by rw[I3,show(n:Int)-((d.length-o.n.toNat:Nat):Int)=(n:Int)-d.length+o.n by omega];exact j);rw[I,B];refine YY _ ?_;rw[Bp,Iq,Lc];rw[show(m:Int)-((min o.n.toNat d.length+(CN ks (d.drop o.n.toNat) x).length:Nat):Int)+((min o.n.toNat d.length:Nat):Int)=(m:Int)-(CN ks (d.drop o.n.toNat) x).length by omega];exact hi
  .obtain⟨q,_,B,I⟩:=K2 (ks:=ks) (x:=x) (d:=d) k;rw[q] at ht;rw[Bq (by omega),DN k] at j;have J:CM n ((n:Int)-(d.drop o.n.toNat).length) x:=by rw[I3,show(n:Int)-((d.length-o.n.toNat:Nat):Int)=(n:Int)-d.length+o.n by omega];exact j.2
   have O:BW x<=(d.drop o.n.toNat).length:=by rw[I3];omega
   have hi:=T i (d:=d.drop o.n.toNat) O J;have Q:=OT i O (by rw[I3];omega) J;rw[I,B];exact bU (by omega) _ hi
  .obtain⟨q,_,B,I⟩:=LA (ks:=ks) (x:=x) (d:=d) k;rw[q] at ht;rw[DN k] at j;have hi:=T i ht j.2;have Q:=OT i ht (by omega) j.2;rw[I,B,CM,Bq (show ¬(3:Int)=2 by decide),DN rfl,Bp,Iq];show(m:Int)-((o.Ag.length+(CN ks d x).length:Nat):Int)+(o.Ag.length:Int)≠m/\CM m ((m:Int)-((o.Ag.length+(CN ks d x).length:Nat):Int)+(o.Ag.length:Int)) (Cv ks d x);rw[show(m:Int)-((o.Ag.length+(CN ks d x).length:Nat):Int)+(o.Ag.length:Int)=(m:Int)-(CN ks d x).length by omega];exact⟨by omega,hi⟩
theorem Z3{k:Int}{v:A6}(h:IQ s k=some v):∃a∈s,a.key=k/\a.val=v:=by
 unfold IQ at h;obtain⟨a,h1,i⟩:=oT.1 h;exact⟨a,oz h1,by have:=pz h1;simpa using this,i⟩
theorem ZS{p:List Chg}(j:EK ks s)(hp:HO ks p):J0 ks (Dc s p)/\∀c∈Dc s p,c.key<=9223372036854775807/\Hk c.val:=by
 have key:∀c∈Dc s p,((c.gone=true->c.val=A6.zero)/\(c.gone=false->DH c.val/\Gm ks c.key c.val)/\Bf ks c.key≠none)/\c.key<=9223372036854775807/\Hk c.val:=by
  intro c hc;unfold Dc at hc;obtain⟨m,h1,i⟩:=qF.1 hc;have hk:=Gp i;have o:=(hp.1.2.2 m h1).2.2;have hb:=(hp.2 m h1).1.2;unfold GO at i;split at i
  .rename_i v I;obtain⟨a,ha,J,ev⟩:=Z3 I;split at i
   .cases i;have q:=j.1.2.2 a ha;have B:=j.2 a ha;rw[J,ev] at q;exact⟨⟨fun e=>(nomatch e),fun _=>q,o⟩,hb,by rw[<-ev];exact⟨B.2.2.1,B.2.2.2.1⟩⟩
   .cases i
  .split at i
   .cases i
   .cases i;exact⟨⟨fun _=>rfl,fun e=>(nomatch e),o⟩,hb,(by decide:(-9223372036854775808:Int)<=0/\(0:Int)<=9223372036854775807),(by decide:(0:Int)<=0/\(0:Int)<18446744073709551616)⟩
 exact⟨⟨Ln hp.1.1,lV (pA _ _) hp.1.2.1,fun c hc=>(key c hc).1⟩,fun c hc=>(key c hc).2⟩
theorem XK{p:List Chg}(h:J0 ks p):JX p<=4160:=by
 have h1:∀l:List Chg,(∀c∈l,c.val.s.size<=64)->JX l<=l.length*65:=fun l=>by
  induction l with
  |nil=>intro _;exact Nn _
  |cons c l j=>
   intro hl;have e:JX (c::l)=Pf c+JX l:=by simp[JX]
   have m:=hl c (by simp);have o:=j fun b hb=>hl b (by simp[hb]);rw[e,S5,lO,Pf];omega
 have h0:FH.size=0:=rfl;have:=h1 p fun c hc=>by
  obtain⟨a,b,_⟩:=h.2.2 c hc;cases i:c.gone with
  |true=>rw[a i];show FH.size<=64;omega
  |false=>
   rcases(b i).1 with⟨_,e,_⟩|⟨_,e⟩|⟨_,e,_⟩|⟨_,_,e,_⟩
   .rw[e];show FH.size<=64;omega
   .rw[e];show FH.size<=64;omega
   .rw[e];show FH.size<=64;omega
   .exact e
 have:=h.2.1;omega
theorem VM{l:List Dop}(h:∀o∈l,Ef o<=4162):BA l<=l.length*4162:=by
 induction l with
 |nil=>exact Nn _
 |cons o l i=>
  have e:BA (o::l)=Ef o+BA l:=by simp[BA]
  have j:=h o (by simp);have m:=i fun b hb=>h b (by simp[hb]);rw[e,S5,lO];omega
theorem Pm{b:Bool}{a:Attr}(h:Ht ks b a=true):Ht ks (!b) a=false:=by
 unfold Ht at h ⊢;split
 .rename_i k e;rw[e] at h;simp only[TC] at h;rw[h];cases b<;>rfl
 .rfl
theorem Ti{c:Cel}(h:LH ks c):DL ks (Je c):=by
 intro _ o m;have i:=h.2;by_cases e:c.r=10
 .rw[lH e] at i;show(CP ks true c.set).length=c.set.length/\BX [c.r]=1;rw[e];exact⟨by unfold CP;rw[mq.2 i],rfl⟩
 .rw[kX e] at i;exfalso;have q:CP ks true c.set=[]:=nZ.2 fun a ha=>by rw[show Ht ks true a=false from Pm (i a ha)];decide
  have B:BX [c.r]=0:=qP.2 fun hm=>e (P9.1 hm).symm;rcases m with h|h
  .have j:0<(CP ks true c.set).length:=h;rw[q] at j;exact absurd j (by decide)
  .have j:0<BX [c.r]:=h;rw[B] at j;exact absurd j (by decide)
theorem aF:∀{x:List Dop} {d:List Cel},(∀o∈x,BY ks o/\Bv o<=536870912)->(∀o∈x,HO ks o.patch)->(∀c∈d,EK ks c.set/\LH ks c)->∀o∈Cv ks d x,(BY ks o/\Bv o<=536870912)/\LC o/\DL ks o/\Ef o<=4162:=by
 intro x;induction x with
 |nil=>intro d _ _ _ o B;cases B
 |cons o x O=>
  intro d U hp I;have j:∀o∈x,BY ks o/\Bv o<=536870912:=fun o B=>U o (by simp[B]);have m:∀o∈x,HO ks o.patch:=fun o B=>hp o (by simp[B]);obtain⟨Q,J⟩:=U o (by simp);intro q i;rcases Q with⟨k,_,_,X,_⟩|⟨k,_,_,_,X⟩|⟨k,_,_,_,hr,_⟩
  .rw[(K4 k).2.2.1] at i;rcases C3.1 i with i|i
   .obtain⟨c,hc,rfl⟩:=kT.1 i;have T:=I c (i7 hc);obtain⟨V,Y⟩:=ZS T.1 ((hp o (by simp)).part (decide (c.r=10)));exact⟨⟨.inl ⟨rfl,rfl,rfl,rK 1,V⟩,by show(1:Nat)<=_;decide⟩,⟨fun a ha=>(nomatch ha),Y⟩,fun e=>absurd e (show ¬(1:Int)=2 by decide),by have:=XK V;show 1+0+0+JX (Dc c.set (CW ks (decide (c.r=10)) o.patch))<=_;omega⟩
   .exact O j m (fun c hc=>I c (iV hc)) q i
  .rw[(K2 k).2.2.1] at i;rcases C3.1 i with i|i
   .obtain⟨c,hc,rfl⟩:=kT.1 i;obtain⟨c1,c2⟩:=I c (i7 hc);exact⟨⟨.inr (.inr ⟨rfl,fun r hr=>by rw[P9.1 hr];exact c2.1,rfl,rfl,by simp[Je],c1.1⟩),by show(1:Nat)<=_;decide⟩,⟨fun a ha=>⟨(c1.2 a ha).1.2,(c1.2 a ha).2.2.1,(c1.2 a ha).2.2.2.1⟩,fun c hc=>(nomatch hc)⟩,Ti c2,by have:=c1.size;show 1+1+JC c.set+0<=_;omega⟩
   .exact O j m (fun c hc=>I c (iV hc)) q i
  .rw[(LA k).2.2.1] at i;rcases K8.1 i with rfl|i
   .have h1:=lh.2 hr;have Z:o.Ag.length<=536870912:=by rw[Bv,DN k] at J;exact J
    refine⟨⟨.inr (.inl ⟨rfl,rfl,rfl,rfl,by show(1:Int)<=(o.Ag.length:Int);omega⟩),?_⟩,⟨fun a ha=>(nomatch ha),fun c hc=>(nomatch hc)⟩,fun e=>absurd e (show ¬(3:Int)=2 by decide),by show 1+0+0+0<=_;decide⟩;show((o.Ag.length:Int)).toNat<=_;omega
   .exact O j m I q i
theorem ZU:∀{x:List Dop} {d:List Cel},(∀o∈x,BY ks o/\DL ks o)->(∀c∈d,LH ks c)->∀c∈CN ks d x,LH ks c:=by
 intro x;induction x with
 |nil=>intro d _ h;exact h
 |cons o x B=>
  intro d Q q c hc;have i:∀o∈x,BY ks o/\DL ks o:=fun o T=>Q o (by simp[T]);obtain⟨I,J⟩:=Q o (by simp);rcases I with⟨k,_,_,U,_⟩|⟨k,_,_,_,U⟩|⟨k,O,_,_,hr,V⟩
  .rw[(K4 k).2.2.2] at hc;rcases C3.1 hc with hc|hc
   .obtain⟨c0,h0,rfl⟩:=kT.1 hc;obtain⟨h1,X⟩:=q c0 (i7 h0);refine⟨h1,fun a ha=>?_⟩;rcases KC ha with ha|⟨e,he,_,rfl⟩
    .exact X a ha
    .exact(lx.1 he).2
   .exact B i (fun c hc=>q c (iV hc)) c hc
  .rw[(K2 k).2.2.2] at hc;exact B i (fun c hc=>q c (iV hc)) c hc
  .rw[(LA k).2.2.2] at hc;rcases C3.1 hc with hc|hc
   .obtain⟨r,j,rfl⟩:=kT.1 hc;have e:=List.map_inj_left.1 (K0 k V J) r j;have e':CP ks (decide (r=10)) o.set=o.set:=kZ Cel.set e;refine⟨O r j,fun a ha=>?_⟩;have m:a∈o.set:=ha;rw[<-e'] at m;exact(lx.1 m).2
   .exact B i q c hc
theorem VW{d:List Cel}{x:List Dop}(O:∀k∈ks,EI k)(Q:∀o∈x,LC o)(hl:x.length<=1000)(T:J3 ks d)(Y:∀c∈d,LH ks c)(hm:most<=2000)(h:EL ks x d.length most=0) :
  EL ks (Br (Cv ks d x)) (CN ks d x).length most=0/\CN ks (CN ks d x) (Br (Cv ks d x))=d/\(∀o∈Br (Cv ks d x),LC o)/\(Br (Cv ks d x)).length<=x.length+2000/\BA (Cv ks d x)<=100000000:=by
 have B:=(DE (by omega)).1 h;have q:∀o∈x,BY ks o:=fun o j=>(B.FM o j).1;have hp:∀o∈x,HO ks o.patch:=fun o j=>(jv O (q o j) ⟨fun a ha=>((Q o j).1 a ha).2,fun c hc=>((Q o j).2 c hc).2⟩).2;have i:=aF (d:=d) B.FM hp fun c hc=>⟨T.set c hc,Y c hc⟩;obtain⟨t1,t2,t3⟩:=gj q B.LQ;have U:=Oc q B.LQ;have I:=B.most;have V:=B.pos;have X:=B.LQ;have Z:=OT (n:=d.length) q B.LQ (by omega) (by rw[qE];exact B.fin);have a1:(Cv ks d x).length<=x.length+2000:=by omega
 obtain⟨s1,s2⟩:=L1 (fun o j=>(i o j).1) (by omega);have J:EL ks (Cv ks d x) (CN ks d x).length most=0:=by
  refine(DE (by omega)).2 ⟨Nj (fun o j=>(i o j).1) (by rw[s1];omega) (by rw[s2];omega),fun o j=>(i o j).1,⟨by omega,by omega⟩,by omega,?_,fun o j=>(i o j).2.2.1,by omega⟩;have:=YZ (n:=d.length) (m:=(CN ks d x).length) q B.LQ (by rw[qE];exact B.fin);rwa [qE] at this
 obtain⟨n1,n2,n3,n4⟩:=UA O (fun o j=>(i o j).2.1) (by omega) J;exact⟨n1,by rw[n2];exact fI q (fun c hc=>(T.set c hc).1.1) B.LQ,n3,by omega,by have:=VM fun o j=>(i o j).2.2.2;omega⟩
end
theorem YF{n:Nat}(i:n<9223372036854775808)(h:K (.int .u64 n) w):runK prog (convert 3 130 (zI n)) K w:=by
 refine Ae (EF (k:=.u64) w (by kernel_rfl) (by kernel_rfl)) ?_;rw[Ff ⟨by omega,by omega⟩];exact h
theorem Y4{n:Nat}(i:n<9223372036854775808)(h:K (zI n) w):runK prog (convert 130 3 (.int .u64 n)) K w:=by
 refine Ae (EF (k:=.i64) w (by kernel_rfl) (by kernel_rfl)) ?_;rw[wrap64 (by omega) (by omega)];exact h
theorem hZ{r:Nat}{t:TypeId}(h:K (.int .u64 ((r/2:Nat):Int)) w):runK prog (BS .shr t xo yo (.int .u64 r) (.int .u64 1)) K w:=by
 refine Ae (LP (n:=1) w (by decide)) ?_;rw[nh _ (by decide)];exact h
theorem UO{a:Attr}{k:Int}:AB prog 252 [.agg a.cells.toArray,zI k] (fun v' w'=>v'=zI (J6 a.key k)/\Grow w w') w:=by
 apply Y3;refine Bx.box (vs:=a.cells) fun b j hb i B=>?_;refine Bh (B.cells 0 _ rfl) ?_;refine AA U1 ?_;rintro _ _ ⟨rfl,rfl⟩;exact⟨rfl,i⟩
theorem Wh{k:Int}(h:CR S w v s)(hs:Fx s)(hl:s.length<=1000000) :
  AB prog 201 [v,zI k] (fun v' w'=>Grow w w'/\∃(i:Nat) (b:Bool),v'=.tuple #[zI i,.bool b]/\((b=true/\∃hi:i<s.length,s[i].key=k)\/(b=false/\∀a∈s,a.key≠k))) w:=by
 apply bO;refine AA (K:=fun v' w'=>Grow w w'/\∃(i:Nat) (b:Bool),v'=.tuple #[zI i,.bool b]/\((b=true/\∃hi:i<s.length,s[i].key=k)\/(b=false/\∀a∈s,a.key≠k))) ?_ ?_;rotate_left
 .rintro _ w' ⟨g,i,b,rfl,h'⟩;exact CL (vs:=[_,_]) (by rfl) (CL (vs:=[_,_]) (by rfl) ⟨g,i,b,rfl,h'⟩)
 apply Zw;obtain⟨a,c,rfl,_⟩:=h.shape;have I:∀i j (hi:i<s.length) (T:j<s.length),i<j->s[i].key<s[j].key:=fun i j hi T O=>mV.1 hs i j hi T O;have fn:∀{W:World} {i:Nat} {K:Cont} (hi:i<s.length),Grow w W->(∀W',Grow w W'->K (zI (J6 s[i].key k)) W')->BM 5 (.slice a s.length c) (zI (i:Int)) fun t=>Aa 5 t (fun t' w5=>Bi prog Cq (.func (.func 252) #[] #[]) [t',zI k] K w5) W:=fun{W i K} hi g hK=>by
  obtain⟨p,r,rfl,_,hr,hc,rfl⟩:=(h.grow g (by decide) fun _ _ h=>h).get hi;refine AT hi (Ah hr (fun j u hu=>by rw[Addr.add_add];exact hc j u hu) ?_);refine Gu (by kernel_rfl) ?_;refine AA UO ?_;rintro _ W' ⟨rfl,g'⟩;exact hK W' (g.trans g')
 rw[AP];refine AX (fun vs W=>∃(i j:Nat),i<=j/\j<=s.length/\vs=[zI i,zI j]/\Grow w W/\(∀m (hm:m<s.length),m<i->s[m].key<k)/\(∀m (hm:m<s.length),j<=m->k<=s[m].key)) (fun vs _=>De vs 1-De vs 0) ⟨0,s.length,Nn _,Mp _,rfl,Mod.refl _ _,fun m _ h=>absurd h (Nat.not_lt_zero _),fun m h1 o=>by omega⟩ ?_;rintro vs W ⟨i,j,O,T,rfl,g,lo,Q⟩ _;simp only[GC];refine Hj (fun U=>?_) fun a1=>?_
 .rw[AQ,wrap64 (by omega) (by omega),show((i:Int)+(j:Int))=((i+j:Nat):Int) by omega];refine YF (by omega) (hZ (Y4 (by omega) ?_));have V:i<=(i+j)/2:=by omega
  have a6:(i+j)/2<j:=by omega
  generalize (i+j)/2=m at *;have J:m<s.length:=by omega
  refine fn J g fun W' g'=>?_;rw[Am];unfold J6;refine AF (fun e=>?_) fun e=>?_
  .have hk:s[m].key<k:=by
    by_cases h1:s[m].key<k
    .exact h1
    .rw[Bq h1] at e;split at e<;>omega
   rw[AQ,AO (by omega)];refine⟨⟨m+1,j,by omega,T,rfl,g',fun q X Y=>?_,Q⟩,by rw[BD,CH,BD,CH];omega⟩;rcases qu q m with o|o
   .have:=I q m X J o;omega
   .obtain rfl:q=m:=by omega
    exact hk
  .have hk:k<=s[m].key:=by
    by_cases h1:s[m].key<k
    .rw[DN h1] at e;omega
    .omega
   refine⟨⟨i,m,V,by omega,rfl,g',lo,fun q X Y=>?_⟩,by rw[BD,CH,BD,CH];omega⟩;rcases qu m q with o|o
   .have:=I m q J X o;omega
   .obtain rfl:q=m:=by omega
    exact hk
 .obtain rfl:i=j:=by omega
  rw[Am];refine AF (fun U=>?_) fun Z=>⟨g,i,false,rfl,.inr ⟨rfl,fun b hb=>?_⟩⟩
  .have B:i<s.length:=by omega
   refine fn B g fun W' g'=>?_;rw[Aj];refine⟨g',i,_,rfl,?_⟩;have h1:=Q i B (Mp _);unfold J6;rw[Bq (by omega)];by_cases e:s[i].key=k
   .rw[Bq (by omega)];exact .inl ⟨rfl,B,e⟩
   .rw[DN (by omega)];refine .inr ⟨rfl,fun b hb=>?_⟩;obtain⟨m,hm,rfl⟩:=nO.1 hb;rcases qu m i with o|o
    .have:=lo m hm o;omega
    .rcases qu i m with h3|h3
     .have:=I i m B hm h3;omega
     .obtain rfl:m=i:=by omega
      exact e
  .obtain⟨m,hm,rfl⟩:=nO.1 hb;have:=lo m hm (by omega);omega
theorem fW{k:Int}(h:CR S w v s)(J:Fx s)(hl:s.length<=1000000) :
  AB prog 127 [v,zI k] (fun v' w'=>Grow w w'/\v'=.tuple #[.agg ((IQ s k).getD A6.zero).cells.toArray,.bool (IQ s k).isSome]) w:=by
 apply Yn;refine Bx.zero fun b Z hb O B=>?_;refine AA (Wh (h.grow O (by decide) fun _ _ h=>h) J hl) ?_;rintro _ w2 ⟨Q,i,t,rfl,hr⟩;refine BO ?_;have T:=B.grow Q;have o:=O.trans Q;have fin:∀{W:World} {x:A6} {K:Cont},Mod (fun y=>y=b) w2 W->Bx W b x.cells->(∀W',Grow w W'->K (.agg x.cells.toArray) W')->Aa 4 (.pointer (some ⟨b,0,none⟩)) K W:=fun{W x K} m q U=>q.E0 rfl (U W (o.next m fun y hy e=>by omega));rw[An];rcases hr with⟨rfl,hi,hk⟩|⟨rfl,V⟩
 .refine AS ?_;have e:IQ s k=some s[i].val:=by
   unfold IQ;have:s.find? (fun a=>decide (a.key=k))=some s[i]:=by
    rw[List.find?_eq_some_iff_getElem];refine⟨by simp[hk],i,hi,rfl,fun j X=>?_⟩;have:=mV.1 J j i (by omega) hi X;simp only[nm,kV];omega
   rw[this];rfl
  rw[e];obtain⟨a,c,rfl,_⟩:=h.shape;obtain⟨p,r,rfl,_,hr,hc,rfl⟩:=(h.grow o (by decide) fun _ _ h=>h).get hi;refine AT hi ?_;rw[AG,Addr.add_add];refine Ah (vs:=s[i].val.cells) rfl (fun j u hu=>by rw[Addr.add_add,mL];exact hc (1+j) u (by rw[pQ];exact hu)) ?_;refine T.over (us:=s[i].val.cells) rfl rfl (A6.one _) fun Y q I=>?_;exact fin I q fun W' g'=>⟨g',rfl⟩
 .refine Ak ?_;rw[Dn V];refine⟨A6.zero.cells.toArray,by rfl,?_⟩;refine T.over (us:=A6.zero.cells) rfl rfl (A6.one _) fun Y q I=>?_;exact fin I q fun W' g'=>⟨g',rfl⟩
set_option maxRecDepth 20000 in
theorem Yv{p:List Chg}(h:CR S w sv s)(hp:Ey F w fr p)(hs:Fx s)(hl:s.length<=1000000)(an:p.length<=1000000) :
  AB prog 69 [sv,fr] (fun v' w'=>AE w.heap.size 133 6 Eh w' v' (Dc s p)/\Grow w w') w:=by
 apply gz;obtain⟨pa,pc,rfl,_⟩:=hp.shape;have a1:∀k,(Dc s (p.take k)).length<=k:=fun k=>by
  unfold Dc;have h1:=pA (GO s) (p.take k);rw[Lc] at h1;omega
 rw[AP];refine AX (fun vs W=>∃(k:Nat) (ov:Value),k<=p.length/\vs=[ov,zI k]/\AE w.heap.size 133 6 Eh W ov (Dc s (p.take k))/\Grow w W) (fun vs _=>p.length-De vs 1) ⟨0,_,Nn _,rfl,AE.nil,Mod.refl _ _⟩ ?_;rintro vs W ⟨k,ov,hk,rfl,ho,g⟩ _;simp only[GC];refine Hj (fun av=>?_) fun ax=>?_;rotate_left
 .obtain rfl:k=p.length:=by omega
  rw[PF] at ho;exact⟨ho,g⟩
 have J:k<p.length:=by omega
 have B:Dc s (p.take (k+1))=Dc s (p.take k)++(GO s p[k]).toList:=by
  unfold Dc;rw[No,By J,List.filterMap_append];cases e:GO s p[k]<;>simp[e]
 refine AV (fun vs W'=>∃m,vs=[m]/\AE w.heap.size 133 6 Eh W' m (Dc s (p.take (k+1)))/\Grow w W') ?_ ?_
 .rintro vs W' ⟨m,rfl,a6,g'⟩ _;simp only[Bl,Nr];rw[AQ,AO (by omega)];exact⟨⟨k+1,m,J,rfl,a6,g'⟩,by rw[BD,BD];omega⟩
 obtain⟨q,r,rfl,_,hr,hc,rfl⟩:=(hp.grow g (by decide) fun _ _ h=>h).get J;refine AT J (Ah hr (fun j u hu=>by rw[Addr.add_add];exact hc j u hu) ?_);refine Bx.new (vs:=p[k].cells) rfl rfl (Eh.one (w:=W) (x:=p[k]) rfl) fun b7 w4 ay g4 B7=>?_;refine Bh (B7.cells 0 _ rfl) ?_;have U:=g.trans g4;refine AA (fW (h.grow U (by decide) fun _ _ h=>h) hs hl) ?_;rintro _ w5 ⟨g5,rfl⟩;refine BO ?_;refine Bx.new (vs:=((IQ s p[k].key).getD A6.zero).cells) rfl rfl (A6.one _) fun b8 V b0 g6 B8=>?_;have T:=g5.trans g6;have X:=U.trans T;have I:=B7.grow T;have Y:AE w.heap.size 133 6 Eh V ov (Dc s (p.take k)):=AE.mod ho (g4.trans T) (fun _ _ h=>h) fun _ _ _ h=>h;have b1:=a1 k;have push:∀{O:World} {K:Cont} {o:List (Nat×Value)} (c:Chg),Grow V O->Instr.fill (fun i=>some (i*6,6)) ((Array.range (1*6)).map ([zI 0,.bool false,.int .u8 0,zI 0,.int .u64 0,.string (ByteArray.mk #[])].toArray[· % [zI 0,.bool false,.int .u8 0,zI 0,.int .u64 0,.string (ByteArray.mk #[])].toArray.size]!)) o=some c.cells.toArray->GO s p[k]=some c->
   (∀v' w',(∃m,[v']=[m]/\AE w.heap.size 133 6 Eh w' m (Dc s (p.take (k+1)))/\Grow w w')->K v' w')->
   Ba 133 6 1 [zI 0,.bool false,.int .u8 0,zI 0,.int .u64 0,.string (ByteArray.mk #[])] o (fun a7 a8=>runK prog (Builtin.append_ #[81,81] 81 [ov,a7].toArray) K a8) O:=fun{O K o} c Z hf hc hK=>by
  have ak:AE w.heap.size 133 6 Eh O ov (Dc s (p.take k)):=AE.mod Y Z (fun _ _ h=>h) fun _ _ _ h=>h;refine Lt (w0:=w) Pr ak (X.trans Z) (cs:=c.cells) (x:=c) hf rfl rfl (fun _ _ _=>Eh.one) (fun _ _ _ _ _ _ h=>h) (by omega) (by simp only[maxLen];omega) fun v' w' o' g'=>hK v' w' ⟨v',rfl,?_,g'⟩;rw[B,hc];exact o'
 have same:GO s p[k]=none->∀{O:World},Grow V O->∃m,[ov]=[m]/\AE w.heap.size 133 6 Eh O m (Dc s (p.take (k+1)))/\Grow w O:=fun hn {O} Z=>⟨ov,rfl,by rw[B,hn,Option.toList_none,kK];exact AE.mod Y Z (fun _ _ h=>h) fun _ _ _ h=>h,X.trans Z⟩;refine AV (fun vs W'=>∃t:Bool,vs=[.bool t]/\V=W'/\(t=true↔∃v,IQ s p[k].key=some v/\(p[k].gone=true\/v≠p[k].val))) ?_ ?_;rotate_left
 .cases Q:IQ s p[k].key with
  |none=>exact AS ⟨false,rfl,rfl,⟨fun e=>(nomatch e),fun⟨_,e,_⟩=>(nomatch e)⟩⟩
  |some v=>
   rw[Q] at B8;refine Ak ?_;refine Bh (I.cells 1 _ rfl) ?_;cases hg:p[k].gone with
   |true=>exact Ak ⟨true,rfl,rfl,⟨fun _=>⟨v,rfl,.inl rfl⟩,fun _=>rfl⟩⟩
   |false=>
    refine AS ?_;refine B8.E0 rfl ?_;rw [AG,AH];refine Ah (vs:=p[k].val.cells) rfl (fun j u hu=>by rw [FC];exact I.cells (2+j) u (by rw [pQ];exact hu)) ?_;refine Ae (Lv _ _ v p[k].val V) ⟨_,rfl,rfl,?_⟩;rw [nm,kV];exact ⟨fun e=>⟨v,rfl,.inr e⟩,fun ⟨u,e1,e2⟩=>by
     cases e1;rcases e2 with e2|e2
     .cases e2
     .exact e2⟩
 rintro _ _ ⟨t,rfl,rfl,ht⟩ _;simp only[Bl,Nr];cases t with
 |true=>
  refine Ak ?_;obtain⟨v,Q,al⟩:=ht.1 rfl;rw[Q] at B8;refine Bh (I.cells 0 _ rfl) ?_;refine B8.E0 rfl ?_;refine⟨(⟨p[k].key,false,v⟩:Chg).cells.toArray,by rfl,?_⟩;refine push ⟨p[k].key,false,v⟩ (Mod.refl _ _) (by kernel_rfl) ?_ fun _ _ h=>h;unfold GO;rw[Q];exact DN al
 |false=>
  refine AS ?_;rw[An];cases Q:IQ s p[k].key with
  |some v=>
   refine AS (same ?_ (Mod.refl _ _));unfold GO;rw[Q];exact Bq fun e=>by have:=ht.2 ⟨v,Q,e⟩;cases this
  |none=>
   refine Ak ?_;refine Bh (I.cells 1 _ rfl) ?_;rw[An];cases hg:p[k].gone with
   |true=>
    refine AS (same ?_ (Mod.refl _ _));unfold GO;rw[Q];exact DN hg
   |false=>
    refine Ak ?_;refine Bh (I.cells 0 _ rfl) ?_;refine⟨(⟨p[k].key,true,A6.zero⟩:Chg).cells.toArray,by rfl,?_⟩;refine push ⟨p[k].key,true,A6.zero⟩ (Mod.refl _ _) (by kernel_rfl) ?_ fun _ _ h=>h;unfold GO;rw[Q];exact Bq (by rw[hg];decide)
theorem PY{ok:Nat->Bool}{g:Nat}(i:ok g=true)(h:AB P g (args++cs) K w):Bi P ok (.func (.func g) #[] cs.toArray) args K w:=.inl ⟨g,[],cs,rfl,i,by simpa using h⟩
section
variable {S D E:Nat->Prop}{v sv:Value}{d:List Cel}{ks:List DKey}{w:World}
theorem aS{B:Value}(h:Bn S D w v d)(I:∀W r c (K:Cont),c∈d->Grow w W->LK D W r c->(∀W',Grow W W'->K (.bool false) W')->Bi prog Cq B [.agg r.toArray] K W) :
  AB prog 192 [v,B] (fun v' w'=>v'=.bool false/\Grow w w') w:=by
 apply ZP;refine AA (K:=fun v' w'=>v'=zI (-1)/\Grow w w') ?_ ?_;rotate_left
 .rintro _ w' ⟨rfl,g⟩;rw[DW];exact⟨rfl,g⟩
 apply ZB;obtain⟨a,c,rfl,o⟩:=h.shape;simp only[maxLen] at o;rw[AP];refine AX (fun vs W=>∃i:Nat,i<=d.length/\vs=[zI i]/\Grow w W) (fun vs _=>d.length-De vs 0) ⟨0,Nn _,rfl,Mod.refl _ _⟩ ?_;rintro vs W ⟨i,hi,rfl,g⟩ _;rw[Bl,Nr,Am];refine AF (fun J=>?_) fun O=>⟨rfl,g⟩;have m:i<d.length:=by omega
 obtain⟨q,r,rfl,_,hr,hc,Q⟩:=(h.grow g).get m;refine AT m (Ah hr (fun j u hu=>by rw[Addr.add_add];exact hc j u hu) ?_);refine I W r d[i] _ (WJ m) g Q fun W' g'=>AS ?_;rw[AQ,AO (by omega)];exact⟨⟨i+1,m,rfl,g.trans g'⟩,by rw[CH,CH];omega⟩
theorem Uc(hS:Ci E w sv ks)(h:Bn S D w v d)(hT:Ee w)(V:J3 ks d)(hC:∀c∈d,LH ks c)(hp:1<=d.length)(hl:d.length<=536870912) :
  AB prog 125 [sv,v] (fun v' w'=>v'=zI 0/\Grow w w') w:=by
 apply ZM;have a1:sv.cells=#[sv]:=by
  obtain⟨b,m,kv,l,rfl,_⟩:=hS;rfl
 have a6:v.cells=#[v]:=by
  obtain⟨a,c,rfl,_⟩:=h.shape;rfl
 refine D8 a1 fun b2 w1 an g1 B2=>?_;refine D8 a6 fun b3 w2 av g2 X=>?_;have o:=g1.trans g2;have O:=B2.grow g2;have any:∀{f:Nat} {W:World} {K:Cont},Cq f=true->Grow w2 W->(∀W r c (K:Cont),c∈d->Grow w2 W->LK D W r c->(∀W',Grow W W'->K (.bool false) W')->AB prog f [.agg r.toArray,.pointer (some ⟨b2,0,none⟩)] K W)->(∀W',Grow w2 W'->K (.bool false) W')->Bi prog Cq (.func (.func 191) #[] #[.pointer (some ⟨b3,0,none⟩)]) [.func (.func f) #[] #[.pointer (some ⟨b2,0,none⟩)]] K W:=fun{f W K} a7 g hf Q=>by
  refine PY (cs:=[.pointer (some ⟨b3,0,none⟩)]) (by kernel_rfl) ?_;apply YD;refine AL ((X.grow g).cells 0 _ rfl) ?_;refine AA (aS (h.grow (o.trans g)) fun W' r c K' hc g' hr a8=>?_) ?_
  .exact PY (cs:=[.pointer (some ⟨b2,0,none⟩)]) a7 (hf W' r c K' hc (g.trans g') hr a8)
  .rintro _ W' ⟨rfl,g'⟩;exact Q W' (g.trans g')
 have T:∃i,∃hi:i<d.length,d.length=i+1/\d[i].r=10:=by
  have hL:=V.last;rw[Ar,qS,Iq,lP] at hL;refine⟨d.length-1,by omega,by omega,?_⟩;rw[By (by omega)] at hL;exact kW hL
 refine AV (fun vs W=>vs=[.bool false]/\w2=W) ?_ ?_;rotate_left
 .refine AL (X.cells 0 _ rfl) ?_;obtain⟨a,c,rfl,_⟩:=h.shape;rw[AP,Am];refine AF (fun e=>by omega) fun _=>?_;refine AL (X.cells 0 _ rfl) ?_;rw[AP,BL,kX (by omega)];exact⟨rfl,rfl⟩
 rintro _ _ ⟨rfl,rfl⟩ _;rw[Bl,Nr];refine AS ?_;refine any (by kernel_rfl) (Mod.refl _ _) (fun W r c K hc g hr Q=>?_) fun w3 g3=>AS ?_
 .apply ZH;refine Bx.box (vs:=r) fun b W1 hb j B=>?_;obtain⟨U,rfl,Y⟩:=hr.mod j (fun _ _ _ h=>h) fun _ _ h=>h;refine Bh (B.cells 0 _ rfl) ?_;refine AA QI ?_;rintro _ _ ⟨rfl,rfl⟩;rename World=>W1
  rw[An,lH (hC c hc).1];refine AS ?_;have J:=g.trans j;refine AL ((O.grow J).cells 0 _ rfl) ?_;refine Bh (B.cells 1 _ rfl) ?_;refine AA (LV (hS.grow (o.trans J)) Y (hT.grow (o.trans J)) fun a ha=>((V.set c hc).2 a ha).2.2.2.1.1) ?_;rintro _ W2 ⟨rfl,I⟩;rw[EN.2 (V.set c hc).1,Aj];exact Q _ (j.trans I)
 refine any (by kernel_rfl) g3 (fun W r c K hc g hr Q=>?_) fun w4 g4=>AS ?_
 .apply aZ;refine Bx.box (vs:=r) fun b W1 hb j B=>?_;obtain⟨U,rfl,Y⟩:=hr.mod j (fun _ _ _ h=>h) fun _ _ h=>h;have J:=g.trans j;refine AL ((O.grow J).cells 0 _ rfl) ?_;refine Bh (B.cells 1 _ rfl) ?_;refine AA (LV (hS.grow (o.trans J)) Y (hT.grow (o.trans J)) fun a ha=>((V.set c hc).2 a ha).2.2.2.1.1) ?_;rintro _ W2 ⟨rfl,I⟩;rw[EN.2 (V.set c hc).1,Bk];exact Q _ (j.trans I)
 refine AL ((X.grow g4).cells 0 _ rfl) ?_;refine AL ((X.grow g4).cells 0 _ rfl) ?_;obtain⟨i,hi,el,ak⟩:=T;obtain⟨a,c,rfl,_⟩:=h.shape;rw[AP,Aq,wrap64 (by omega) (by omega),show((d.length:Int)-1)=(i:Int) by omega];obtain⟨q,r,rfl,_,hr,hc,U,rfl,_⟩:=(h.grow (o.trans g4)).get hi;refine AT hi ?_;rw[AG,Addr.add_add];refine AL (hc 0 _ rfl) ?_;rw[Bk,ak];refine AS ?_;refine any (by kernel_rfl) g4 (fun W r c K hc g hr Q=>?_) fun w5 g5=>AS ⟨rfl,o.trans g5⟩;apply ZZ;refine Bx.box (vs:=r) fun b W1 hb j B=>?_;obtain⟨U,rfl,Y⟩:=hr.mod j (fun _ _ _ h=>h) fun _ _ h=>h;have J:=g.trans j;refine AL ((O.grow J).cells 0 _ rfl) ?_;refine Bh (B.cells 1 _ rfl) ?_;refine Bh (B.cells 0 _ rfl) ?_;rw[Bk];have al:=(V.set c hc).len;refine AA (Ji (hS.grow (o.trans J)) Y (by omega)) ?_;rintro pv W2 ⟨Z,I⟩;have e:CP ks (!decide (c.r=10)) c.set=[]:=nZ.2 fun a ha=>by rw[Pm ((hC c hc).2 a ha)];decide
 rw[e] at Z;obtain⟨pa,pc,rfl,_⟩:=Z.shape;rw[AP,BL];exact Q _ (j.trans I)
end
theorem gU{S Q:Nat->Prop}{l:List Int}(h:LI S w v l)(T:CR Q w sv s)(hl:l.length<=1000000000)(U:s.length<=64) :
  AB prog 198 [v,sv] (fun v' w'=>Hl w.heap.size w.heap.size w' v' (l.map fun r=>(⟨r,s⟩:Cel))/\Grow w w') w:=by
 apply Zc;obtain⟨a,c,rfl,_⟩:=h.shape;rw[AP];refine AX (fun vs W=>∃(i:Nat) (ov:Value),i<=l.length/\vs=[ov,zI i]/\Hl w.heap.size w.heap.size W ov ((l.take i).map fun r=>(⟨r,s⟩:Cel))/\Grow w W) (fun vs _=>l.length-De vs 1) ⟨0,_,Nn _,rfl,Hl.nil,Mod.refl _ _⟩ ?_;rintro vs W ⟨i,ov,hi,rfl,o,g⟩ _;simp only[GC];refine Hj (fun V=>?_) fun X=>?_;rotate_left
 .obtain rfl:i=l.length:=by omega
  rw[PF] at o;exact⟨o,g⟩
 have j:i<l.length:=by omega
 obtain⟨p,r,rfl,_,hr,hc,rfl⟩:=(h.grow g (by decide) fun _ _ h=>h).get j;refine AT j (AL (by have:=hc 0 _ rfl;exact this) ?_);refine AA (Ej (T.grow g (by decide) fun _ _ h=>h) (by omega)) ?_;rintro v1 Y ⟨O,B⟩;have z:=g.size;have z1:=B.size;have m:∀b,ov.ownBlock=some b->w.heap.size<=b/\b<W.heap.size:=fun b e=>by
  obtain⟨_,q,_⟩:=o;exact AE.Ax q b e
 obtain⟨a4,k4,Z,_⟩:=AE.shape O;refine⟨#[.int .i32 l[i],v1],by subst Z;kernel_rfl,?_⟩;refine NX (c:=⟨l[i],s⟩) (D':=fun x=>W.heap.size<=x/\x<Y.heap.size) (o.grow B) (by omega) ((AE.sl O).sub (fun x I h=>⟨h.1,I⟩) (by decide) fun _ _ h=>h) (fun x I=>⟨by omega,I.2,fun e=>by have:=m x e;omega⟩) (by rw[Iq,Lc];omega) fun J W' h' m' _=>?_;rw[AQ,AO (by omega)];refine⟨⟨i+1,J,j,rfl,?_,(g.trans B).next m' fun b hb e=>by have:=m b e;omega⟩,by rw[BD,BD];omega⟩;rw[No,By j,Ty];exact h'
abbrev UN{α:Type}:World->List Value->α->Prop:=fun _ r _=>∀u∈r,u.oneCell'=true
theorem Uy{S D:Nat->Prop}{d:List Cel}(h:Bn S D w v d)(hl:d.length<=1000000000)(hs:∀c∈d,c.set.length<=64) :
  AB prog 200 [v] (fun v' w'=>AE w.heap.size 45 2 UN w' v' d/\Grow w w') w:=by
 apply Z4;have h':Bn S (fun b=>D b/\b<w.heap.size) w v d:=h.sub (fun _ _ h=>h) (by decide) fun r x T=>T.mod (Mod.refl (fun _=>False) _) (fun _ _ _ h=>h) fun y q hc=>⟨hc,q⟩;refine AA (K:=fun v' w'=>AE w.heap.size 45 2 (LK fun b=>D b/\b<w.heap.size) w' v' d/\Grow w w') ?_ ?_
 .apply Yx;exact IN MD h' (by omega) (fun _ _ _ T=>LK.one T) (fun O w2 r y hz hm q=>q.mod hm (fun b _ hb e=>by have:=hb.2;omega) fun _ _ h=>h) fun v' w' h1 h2=>And.intro h1 h2
 rintro v1 O ⟨Q,U⟩;obtain⟨a1,c1,rfl,an,av,hp,hn⟩:=AE.shape Q;rw[AP];cases a1 with
 |none=>
  have:=hn rfl;subst this;refine AX (fun vs w2=>vs=[zI 0]/\w2=O) (fun _ _=>0) ⟨rfl,rfl⟩ ?_;rintro vs _ ⟨rfl,rfl⟩ _;rename World=>O
  rw[Bl,Nr,Am];exact AF (fun h=>by simp at h) fun _=>⟨AE.mod Q (Mod.refl (fun _=>False) _) (fun _ _ h=>h) fun r y q=>by simp at q,U⟩
 |some p1=>
  obtain⟨g,rfl,ax,ay,_⟩:=hp _ rfl;refine AX (fun vs W'=>∃i:Nat,i<=d.length/\vs=[zI i]/\AE w.heap.size 45 2 (fun _ _ _=>True) W' (.slice (some ⟨g,0,none⟩) d.length c1) d/\Mod (fun b=>b=g) O W'/\∀j (h1:j<d.length),i<=j->∃sv,W'.cell? ⟨g,j*2+1,none⟩=some sv/\CR (fun b=>D b/\b<w.heap.size) W' sv d[j].set) (fun vs _=>d.length-De vs 0) ⟨0,Nn _,rfl,Q.any,Mod.refl _ _,fun j h1 _=>?_⟩ ?_
  .obtain⟨r,hr,V,⟨sv,rfl,X⟩,_⟩:=AE.cellsOf Q h1;exact⟨sv,V 1 sv rfl,X⟩
  rintro vs W ⟨i,hi,rfl,oA,Y,rows⟩ _;rw[Bl,Nr,Am];have zA:=Y.size;have z1:=U.size;refine AF (fun b0=>?_) fun b1=>?_;rotate_left
  .exact⟨AE.conv oA fun j hj r b2 o b6=>o,U.next Y fun b hb e=>by omega⟩
  have m:i<d.length:=by omega
  obtain⟨sv,hc,Z⟩:=rows i m (Mp _);refine AT m ?_;rw[AH,AG,FC];refine AL hc ?_;refine AA (Ej Z (by have:=hs _ (WJ m);omega)) ?_;rintro v4 w4 ⟨oS,B⟩;obtain⟨I,a6⟩:=oS.one;have z4:=B.size;refine AT m ?_;rw[AH,AG,FC];have J:AE w.heap.size 45 2 (fun _ _ _=>True) w4 (.slice (some ⟨g,0,none⟩) d.length c1) d:=AE.mod oA B (fun _ _ h=>h) fun _ _ _ _=>trivial;obtain⟨_,_,_,_,a7⟩:=AE.cellsOf J m;refine Live.st (a7 1 (by decide)) I a6 ?_;have a8:=AE.Ki J m (j:=1) (by decide) I;have m5:=LG w4 g (i*2+1) v4;rw[AQ,AO (by omega)];refine⟨⟨i+1,m,rfl,a8,(Y.next B fun _ _ h=>h.elim).next m5 fun _ _ e=>e,fun j h1 h2=>?_⟩,by rw[CH,CH];omega⟩;obtain⟨ak,al,o⟩:=rows j h1 (by omega);refine⟨ak,?_,(o.grow B (by decide) fun _ _ h=>h).mod m5 (fun b _ hb e=>by have:=hb.2;omega) (by decide) fun _ _ h=>h⟩;rw[S4 w4 _ _ v4 (by intro e2;simp only[Addr.mk.injEq] at e2;omega)];exact B.cell al fun h=>h
section
variable {w:World}{sv dv xv:Value}{ks:List DKey}{d:List Cel}{x:List Dop}{E Sd Dd Sx Dx Rd:Nat->Prop}{b3 b4 b5:Nat}
theorem Ud(hS:Ci E w sv ks)(hd:Bn Sd Dd w dv d)(hx:BE Sx Dx w xv x)(B3:Bx w b3 [sv])(B4:Bx w b4 [dv])(B5:Bx w b5 [xv])
 (hR:∀y,y<w.heap.size->(E y\/Sd y\/Dd y\/Sx y\/Dx y\/y=b3\/y=b5)->Rd y)(h4:∀y,Rd y->y≠b4/\y<w.heap.size)
 (hg:∀o∈x,BY ks o/\Bv o<=536870912)(ht:BW x<=d.length)(cn:∀c∈d,c.set.length<=64)(h9:d.length<=10000000) :
  gk (fun y=>y=b4) False prog 197 [.pointer (some ⟨b5,0,none⟩),.pointer (some ⟨b4,0,none⟩),.pointer (some ⟨b3,0,none⟩)] (fun _ a=>∃r:List Value,a=[.agg r.toArray]/\r.length=2/\∀u∈r,u.oneCell'=true) (CN ks d x).length Rd w:=by
 intro yl J Jx w1 g1 h0 cv h7 Ir bl;apply Y2;have hf:b4<w.heap.size:=B4.lt (S3 _);have z1:=g1.size;have eR:Ci Rd w sv ks:=hS.sub fun b hb h=>hR b hb (.inl h);have eX:Bn Rd Rd w dv d:=hd.sub (fun b hb h=>hR b hb (.inr (.inl h))) (by decide) fun r c hc=>hc.mod (Mod.refl (fun _=>False) _) (fun _ _ _ h=>h) fun y hy h=>hR y hy (.inr (.inr (.inl h)));have cx:BE Rd Rd w xv x:=hx.sub (fun b hb h=>hR b hb (.inr (.inr (.inr (.inl h))))) (by decide) fun r o ho=>ho.mod (Mod.refl (fun _=>False) _) (fun _ _ _ h=>h) fun y hy h=>hR y hy (.inr (.inr (.inr (.inr (.inl h)))));have R3:Rd b3:=hR b3 (B3.lt (S3 _)) (by simp);have R5:Rd b5:=hR b5 (B5.lt (S3 _)) (by simp);clear hS hd hx
 let St:Nat->(Nat->Prop)->World->Prop:=fun k I W=>J k I W/\Mod (fun y=>¬Rd y) w W/\I b4/\∀y,I y->y<W.heap.size
 have fa:St 0 (fun y=>y=b4) w1:=⟨h0,g1.mono fun _ _ h=>h.elim,rfl,fun y e=>by omega⟩;have a7:∀{k I W W'},St k I W->Grow W W'->St k (fun y=>I y\/(W.heap.size<=y/\y<W'.heap.size)) W':=fun{k I W W'} ⟨j,m,i4,il⟩ g=>by
  have zg:=g.size;exact⟨cv k I _ W W' j (g.mono fun _ _ h=>h.elim) fun y hy=>⟨hy.imp id qj,by rcases hy with h|h;have:=il y h;omega;exact h.2⟩,m.next g fun _ _ h=>h.elim,.inl i4,fun y hy=>by rcases hy with h|h;have:=il y h;omega;exact h.2⟩
 have dk:∀{k:Nat} {I:Nat->Prop} {W:World} {r:List Value} {K:Cont},St k I W->k<(CN ks d x).length->r.length=2->(∀u∈r,u.oneCell'=true)->(∀W',St (k+1) I W'->Mod (fun y=>¬(I y\/Rd y)) W W'->K (.bool true) W')->(∀W',(∃I,J (CN ks d x).length I W'\/Jx I W')->K (.bool false) W')->Bi prog Cq (.func (.yield yl) #[] #[]) [.agg r.toArray] K W:=fun{k I W r K} ⟨j,m,i4,il⟩ hk hr h1 hT hF=>by
  refine .inr ⟨yl,rfl,FJ (bl k I W _ hk j ⟨r,rfl,hr,h1⟩) ?_⟩;rintro vv W3 ⟨fo,cc,hq,⟨rfl,dT⟩|⟨rfl,O0⟩⟩
  .have e3:=Ir (k+1) I W3 dT;refine hT W3 ⟨dT,⟨hq.1.trans m.os,hq.2.1.trans m.tape,hq.2.2.trans m.output,by have:=m.size;omega,fun b hb hn=>e3 b hb (pS.1 hn)⟩,i4,fun y hy=>by have:=il y hy;omega⟩ ⟨hq.1,hq.2.1,hq.2.2,fo,fun b hb hn=>?_⟩;rcases pS.1 hn with h|h
   .exact cc b h
   .exact(e3 b (h4 b h).2 h).trans (m.same b (h4 b h).2 fun e=>e h).symm
  .exact hF W3 ⟨I,.inr O0⟩
 have e5:∀{k I W U},St k I W->Mod (fun y=>y=b4) W U->St k I U:=fun{k I W U} ⟨j,m0,i4,il⟩ m=>by
  have zm:=m.size;exact⟨cv k I I W U j (m.mono fun b _ e=>⟨id,e▸i4⟩) fun y hy=>⟨.inl hy,by have:=il y hy;omega⟩,m0.next m fun b hb e hr=>(h4 b hr).1 e,i4,fun y hy=>by have:=il y hy;omega⟩
 have bn:∀{U:World} {v:Value} {l:List Cel},Mod (fun y=>¬Rd y) w U->Bn Rd Rd w v l->Bn Rd Rd U v l:=fun m h=>h.mod m (fun b _ h e=>e h) (by decide) fun r c hc=>hc.mod m (fun b _ h e=>e h) fun _ _ h=>h;have back:∀{U:World} {v:Value} {l:List Cel},Mod (fun y=>¬Rd y) w U->Bn Rd Rd U v l->Bn Rd Rd w v l:=fun m h=>BB.mono h (fun _ _ h=>h) (fun b hb hs=>(m.same b (h4 b hs).2 fun e=>e hs).symm) (by decide) fun r c ⟨sv,e,hs⟩=>⟨sv,e,BB.mono hs (fun _ _ h=>h) (fun b hb hs=>(m.same b (h4 b hs).2 fun e=>e hs).symm) (by decide) fun _ _ h=>h⟩;refine AL ((B5.grow g1).cells 0 _ rfl) ?_;obtain⟨xa,xc,rfl,e6⟩:=cx.shape;simp only[maxLen] at e6;rw[AP];refine AX (fun vs W=>∃(i k:Nat) (I:Nat->Prop) (T:List Cel) (bp:Value),i<=x.length/\vs=[zI i]/\St k I W/\Bx W b4 [bp]/\Bn Rd Rd w bp T/\BW (x.drop i)<=T.length/\k+(CN ks T (x.drop i)).length=(CN ks d x).length/\(∀c∈T,c∈d)/\T.length<=d.length) (fun vs _=>x.length-De vs 0)
  ⟨0,0,_,d,dv,Nn _,rfl,fa,B4.grow g1,eX,ht,mG _,fun _ h=>h,Mp _⟩ ?_
 rintro vs W ⟨i,k,I,T,bp,hi,rfl,V,bs,a8,b1,ak,al,e7⟩ _;rw[Bl,Nr,Am];refine AF (fun e8=>?_) fun e9=>?_;rotate_left
 .obtain rfl:i=x.length:=by omega
  rw[nD,CN] at ak;refine AL (bs.cells 0 _ rfl) ?_;refine AA (Uy (a8.mod V.2.1 (fun b _ h e=>e h) (by decide) fun r c hc=>hc.mod V.2.1 (fun b _ h e=>e h) fun _ _ h=>h) (by omega) fun c hc=>cn c (al c hc)) ?_;rintro v2 w2 ⟨o2,g2⟩;have Y:=a7 V g2;have b2:BB (fun y=>I y\/(W.heap.size<=y/\y<w2.heap.size)) 2 UN w2 v2 T:=(AE.sl o2).sub (fun b hb h=>.inr ⟨h.1,hb⟩) (by decide) fun _ _ h=>h;obtain⟨va,vc,rfl,_⟩:=b2.shape;rw[AP];refine AX (fun vs W'=>∃(m:Nat) (I:Nat->Prop),m<=T.length/\vs=[zI m]/\St (k+m) I W'/\BB I 2 UN W' (.slice va T.length vc) T) (fun vs _=>T.length-De vs 0) ⟨0,_,Nn _,rfl,Y,b2⟩ ?_;clear Y b2 o2 g2 bs V;rintro vs W ⟨m,I,hm,rfl,V,b2⟩ _;rw[Bl,Nr,Am];refine AF (fun e8=>?_) fun e9=>?_;rotate_left
  .obtain rfl:m=T.length:=by omega
   rw[ak] at V;exact⟨I,.inl V.1⟩
  have an:m<T.length:=by omega
  obtain⟨p,r,rfl,_,hr,hc,h1⟩:=b2.get an;refine AT an (Ah hr (fun j u hu=>by rw[Addr.add_add];exact hc j u hu) ?_);refine Bx.new (vs:=r) hr rfl h1 fun hh W1 h8 ea fs=>?_;refine fs.E0 hr ?_;refine dk (a7 V ea) (by omega) hr h1 (fun W' ba b7=>?_) fun W' h=>?_
  .rw[An];refine AS ?_;rw[AQ,AO (by omega)];exact⟨⟨m+1,fun y=>I y\/(W.heap.size<=y/\y<W1.heap.size),an,rfl,by rw[<-mL];exact ba,BB.mono (b2.grow ea (by decide) fun _ _ h=>h) (fun _ _ h=>.inl h) (fun b hb h=>b7.same b hb fun e=>e (.inl (.inl h))) (by decide) fun _ _ h=>h⟩,by rw[CH,CH];omega⟩
  .rw[An];exact Ak h
 have av:i<x.length:=by omega
 rw[lX av] at b1 ak;have fv:=WJ av;obtain⟨ec,ed⟩:=hg x[i] fv;obtain⟨q,r,rfl,ga,hr,hc,c4⟩:=cx.get av;obtain⟨rv,ax,pv,rfl,o1,o2,o3⟩:=id c4;have c6:∀{u a},w.cell? a=some u->Rd a.block->W.cell? a=some u:=fun hu hb=>V.2.1.cell hu fun e=>e hb;refine AT av (Ah hr (fun j u hu=>by rw[Addr.add_add];exact c6 (hc j u hu) (by rw[BJ];exact ga)) ?_);refine Bx.new (vs:=[.int .u8 x[i].kind,zI x[i].n,rv,ax,pv]) hr rfl c4.one fun b6 W1 gb g6 B6=>?_;have O:=a7 V g6;have ay:=bs.grow g6;have z6:=g6.size;have ee:=B6.lt (S3 _);have b8:I b6\/(W.heap.size<=b6/\b6<W1.heap.size):=.inr ⟨gb,ee⟩;clear bs;generalize c7:(fun y=>I y\/(W.heap.size<=y/\y<W1.heap.size))=bc at O;replace b8:bc b6:=by rw[<-c7];exact b8
 have c8:b6≠b4:=fun e=>by have:=V.2.1.size;omega
 refine AV (fun vs W'=>∃(lv Q:Value) (l X:List Cel) (B:Nat->Prop),vs=[lv]/\St k B W'/\Bx W' b6 [.int .u8 x[i].kind,zI x[i].n,rv,ax,pv]/\B b6/\Bx W' b4 [Q]/\Bn Rd Rd w Q X/\Bn (fun y=>B y\/Rd y) (fun y=>B y\/Rd y) W' lv l/\BW (x.drop (i+1))<=X.length/\k+l.length+(CN ks X (x.drop (i+1))).length=(CN ks d x).length/\(∀c∈X,c∈d)/\X.length<=d.length/\(∀c∈l,c.set.length<=64)) ?_ ?_
 .clear O ay B6 ak b1 a8 V c6 c7 b8;rintro _ W0 ⟨lv,Q,l,X,gf,rfl,c9,ef,eh,ej,gg,cd,gl,gm,ch,ek,gw⟩ _;rw[Bl,Nr];obtain⟨la,lc,rfl,eo⟩:=cd.shape;simp only[maxLen] at eo;rw[AP];refine AX (fun vs W'=>∃(m:Nat) (B:Nat->Prop),m<=l.length/\vs=[zI m]/\St (k+m) B W'/\Bx W' b6 [.int .u8 x[i].kind,zI x[i].n,rv,ax,pv]/\B b6/\Bx W' b4 [Q]/\Bn (fun y=>B y\/Rd y) (fun y=>B y\/Rd y) W' (.slice la l.length lc) l) (fun vs _=>l.length-De vs 0) ⟨0,gf,Nn _,rfl,c9,ef,eh,ej,cd⟩ ?_;clear c9 ef eh ej cd;rintro vs W2 ⟨m,bd,hm,rfl,Y,ep,er,et,eu⟩ _;rw[Bl,Nr,Am];refine AF (fun e8=>?_) fun e9=>?_;rotate_left
  .obtain rfl:m=l.length:=by omega
   rw[AQ,AO (by omega)];exact⟨⟨i+1,k+l.length,bd,X,Q,av,rfl,Y,et,gg,gl,gm,ch,ek⟩,by rw[CH,CH];omega⟩
  have an:m<l.length:=by omega
  obtain⟨p,r',rfl,_,gA,gB,ew,rfl,ey⟩:=eu.get an;have eA:∀u∈[Value.int .i32 l[m].r,ew],u.oneCell'=true:=by
   obtain⟨sa,sc,rfl,_⟩:=ey.shape;intro u hu;simp only[K8,kU,mb] at hu;rcases hu with rfl|rfl<;>rfl
  refine AT an (Ah gA (fun j u hu=>by rw[Addr.add_add];exact gB j u hu) ?_);refine Bx.new (vs:=[.int .i32 l[m].r,ew]) rfl rfl eA fun b9 W3 hv g9 B9=>?_;have m3:Mod (fun y=>¬Rd y) w W3:=Y.2.1.next g9 fun _ _ h=>h.elim;refine AL (m3.cell (B3.cells 0 _ rfl) fun e=>e R3) ?_;refine B9.E0 rfl ?_;refine Bh ((ep.grow g9).cells 4 _ rfl) ?_;have hz:x[i].patch.length<=64:=by
   rcases ec with⟨_,_,_,_,hp⟩|⟨_,_,_,hp,_⟩|⟨_,_,_,hp,_⟩
   .exact hp.2.1
   .rw[hp];simp
   .rw[hp];simp
  have hA:=gw _ (WJ an);refine AA (Xo (eR.mod m3 fun b _ h e=>e h) (ey.grow g9 (by decide) fun _ _ h=>h) (o3.mod m3 (fun b _ h e=>e h) (by decide) fun _ _ h=>h) (by omega)) ?_;rintro _ W4 ⟨gW,rfl,oc,g4⟩;have bx:=g9.trans g4;have eB:=a7 Y bx;refine dk (r:=[.int .i32 l[m].r,gW]) eB (by omega) rfl (fun u hu=>?_) (fun W' ba b7=>?_) fun W' h=>?_
  .simp only[K8,kU,mb] at hu;rcases hu with rfl|rfl
   .rfl
   .exact oc.one.1
  .rw[An];refine AS ?_;rw[AQ,AO (by omega)];have q4:bd b4:=Y.2.2.1;refine⟨⟨m+1,fun y=>bd y\/(W2.heap.size<=y/\y<W4.heap.size),an,rfl,by rw[<-mL];exact ba,(ep.grow bx).mod b7 fun e=>e (.inl (.inl er)),.inl er,(et.grow bx).mod b7 fun e=>e (.inl (.inl q4)),?_⟩,by rw[CH,CH];omega⟩;have up:∀y,bd y\/Rd y->(bd y\/(W2.heap.size<=y/\y<W4.heap.size))\/Rd y:=fun y h=>h.elim (fun h=>.inl (.inl h)) .inr;exact BB.mono (eu.grow bx) (fun b _ h=>up b h) (fun b hb h=>b7.same b hb fun e=>e (up b h)) (by decide) fun r c hc=>hc.mod b7 (fun b _ h e=>e (up b h)) fun b _ h=>up b h
  .rw[An];exact Ak h
 refine Bh (B6.cells 0 _ rfl) ?_;rw[Aj];rcases ec with⟨kd,_,_,n1,_⟩|⟨kd,_,_,_,n1⟩|⟨kd,_,_,_,hB,eC⟩
 .obtain⟨e1,e2,_,e4⟩:=K4 (ks:=ks) (x:=x.drop (i+1)) (d:=T) kd;rw[e1] at b1;rw[e4,Bp,Iq,Lc] at ak;have en:x[i].n=(x[i].n.toNat:Int):=by omega
  generalize hn:x[i].n.toNat=n at *;refine AF (fun e=>by omega) fun _=>?_;rw[Aj];refine AF (fun _=>?_) fun e=>absurd kd e;obtain⟨da,dc,rfl,_⟩:=a8.shape;have gd:Grow W1 W1.drew:=Mod.drew _ _;have Bd:=ay.grow gd;have h5:=B6.grow gd;have ld:∀{l:List Nat} {bb q:Nat} {u:Value},(∀j∈l,j≠9)->W1.drew.cell? ⟨bb,q,none⟩=some u->W1.drew.cell? ⟨bb,q,none⟩=some u/\∀j∈l,¬((fun j y=>j=9/\y=b4) j (⟨bb,q,none⟩:Addr).block):=fun hl hc=>⟨hc,fun j hj e=>hl j hj e.1⟩;have eI:W1.drew.cell? ⟨b6,1,none⟩=some (zI (n:Int)):=by rw[<-en];exact h5.cells 1 _ rfl
  refine Af (fun j y=>j=9/\y=b4) ?_;refine AU (ld (by decide) (Bd.cells 0 _ rfl)) ?_;rw[AG,AH];refine AU (ld (by decide) eI) ?_;refine AU (ld (by decide) (Bd.cells 0 _ rfl)) ?_;rw[AG,AH];refine AU (ld (by decide) eI) ?_;have mD:Mod (fun y=>¬Rd y) w W1.drew:=O.2.1.next gd fun _ _ h=>h.elim;have fin:∀{Z a1:Value} {J:Value->World->Prop},Bn Rd Rd w Z (T.take n)->Bn Rd Rd w a1 (T.drop n)->(∀U,St k bc U->Bx U b6 [.int .u8 x[i].kind,zI x[i].n,rv,ax,pv]->Bx U b4 [a1]->J Z U)->Av (.pointer (some ⟨b4,0,none⟩)) a1 (fun U=>Mod (fun y=>9=9/\y=b4) W1.drew U/\J Z U) W1.drew:=fun{Z a1 J} b0 a6 hJ=>by
   obtain⟨ta,tc,rfl,_⟩:=id a6;refine Bd.st (q:=0) (show 0<1 by decide) rfl rfl fun U B' m'=>⟨m'.mono fun y _ e=>⟨rfl,e⟩,?_⟩;have mu:Mod (fun y=>y=b4) W1 U:=(gd.mono fun _ _ h=>h.elim).trans m';exact hJ U (e5 O mu) (B6.mod mu c8) B'
  have ca:∀{Z a1:Value},Bn Rd Rd w Z (T.take n)->Bn Rd Rd w a1 (T.drop n)->∀U,St k bc U->Bx U b6 [.int .u8 x[i].kind,zI x[i].n,rv,ax,pv]->Bx U b4 [a1]->∃(lv Q:Value) (l X:List Cel) (B:Nat->Prop),[Z]=[lv]/\St k B U/\Bx U b6 [.int .u8 x[i].kind,zI x[i].n,rv,ax,pv]/\B b6/\Bx U b4 [Q]/\Bn Rd Rd w Q X/\Bn (fun y=>B y\/Rd y) (fun y=>B y\/Rd y) U lv l/\BW (x.drop (i+1))<=X.length/\k+l.length+(CN ks X (x.drop (i+1))).length=(CN ks d x).length/\(∀c∈X,c∈d)/\X.length<=d.length/\(∀c∈l,c.set.length<=64):=fun{Z a1} b0 a6 U h1 h2 h3=>
   ⟨Z,a1,T.take n,T.drop n,bc,rfl,h1,h2,b8,h3,a6,(bn h1.2.1 b0).sub (fun b _ h=>.inr h) (by decide) fun r c hc=>hc.mod (Mod.refl (fun _=>False) _) (fun _ _ _ h=>h) fun b _ h=>.inr h,by rw[I3];omega,by rw[Lc];omega,fun c hc=>al c (iV hc),by rw[I3];omega,fun c hc=>cn c (al c (i7 hc))⟩
  have eL:∀{K:Cont},(∀v',Bn Rd Rd w v' (T.take n)->K v' W1.drew)->runK prog (Instr.sliceAt 40 (.slice da T.length dc) none (some (zI (n:Int))) none) K W1.drew:=fun hK=>Mq (e:=45) (k:=2) (i:=Tryz.t45) (by kernel_rfl) (by kernel_rfl) (by kernel_rfl) (bn mD a8) (j:=n) (by omega) fun v' bk=>hK v' (back mD bk);have eN:∀{K:Cont},(∀v',Bn Rd Rd w v' (T.drop n)->K v' W1.drew)->runK prog (Instr.sliceAt 40 (.slice da T.length dc) (some (zI (n:Int))) none none) K W1.drew:=fun hK=>Fm (e:=45) (k:=2) (i:=Tryz.t45) (by kernel_rfl) (by kernel_rfl) (by kernel_rfl) (bn mD a8) (j:=n) (by omega) fun v' bk=>hK v' (back mD bk);constructor
  .refine eL fun Z b0=>⟨Mod.refl _ _,eN fun a1 a6=>⟨Mod.refl _ _,?_⟩⟩;exact fin (J:=fun t U=>(fun vs W'=>∃(lv Q:Value) (l X:List Cel) (B:Nat->Prop),vs=[lv]/\St k B W'/\Bx W' b6 [.int .u8 x[i].kind,zI x[i].n,rv,ax,pv]/\B b6/\Bx W' b4 [Q]/\Bn Rd Rd w Q X/\Bn (fun y=>B y\/Rd y) (fun y=>B y\/Rd y) W' lv l/\BW (x.drop (i+1))<=X.length/\k+l.length+(CN ks X (x.drop (i+1))).length=(CN ks d x).length/\(∀c∈X,c∈d)/\X.length<=d.length/\(∀c∈l,c.set.length<=64)) [t] U) b0 a6 (ca b0 a6)
  .refine eN fun a1 a6=>⟨Mod.refl _ _,eL fun Z b0=>⟨Mod.refl _ _,?_⟩⟩;exact fin (J:=fun t U=>(fun vs W'=>∃(lv Q:Value) (l X:List Cel) (B:Nat->Prop),vs=[lv]/\St k B W'/\Bx W' b6 [.int .u8 x[i].kind,zI x[i].n,rv,ax,pv]/\B b6/\Bx W' b4 [Q]/\Bn Rd Rd w Q X/\Bn (fun y=>B y\/Rd y) (fun y=>B y\/Rd y) W' lv l/\BW (x.drop (i+1))<=X.length/\k+l.length+(CN ks X (x.drop (i+1))).length=(CN ks d x).length/\(∀c∈X,c∈d)/\X.length<=d.length/\(∀c∈l,c.set.length<=64)) [t] U) b0 a6 (ca b0 a6)
 .obtain⟨e1,_,_,e4⟩:=K2 (ks:=ks) (x:=x.drop (i+1)) (d:=T) kd;rw[e1] at b1;rw[e4] at ak;have en:x[i].n=(x[i].n.toNat:Int):=by omega
  generalize hn:x[i].n.toNat=n at *;refine AF (fun e=>by omega) fun _=>?_;rw[Aj];refine AF (fun e=>by omega) fun _=>?_;obtain⟨da,dc,rfl,_⟩:=a8.shape;refine AL (ay.cells 0 _ rfl) ?_;refine Bh (B6.cells 1 _ rfl) ?_;rw[en];refine Fm (e:=45) (k:=2) (i:=Tryz.t45) (by kernel_rfl) (by kernel_rfl) (by kernel_rfl) (bn O.2.1 a8) (j:=n) (by omega) fun v' bk=>?_;have q1:=back O.2.1 bk;obtain⟨ta,tc,rfl,_⟩:=q1.shape;refine ay.st (q:=0) (show 0<1 by decide) rfl rfl fun U B' mu=>?_;exact⟨_,_,[],T.drop n,bc,rfl,e5 O mu,by rw[<-en];exact B6.mod mu c8,b8,B',q1,BB.nil,by rw[I3];omega,by rw[lG,lD];exact ak,fun c hc=>al c (iV hc),by rw[I3];omega,fun c hc=>nomatch hc⟩
 .obtain⟨e1,_,_,e4⟩:=LA (ks:=ks) (x:=x.drop (i+1)) (d:=T) kd;rw[e1] at b1;rw[e4,Bp,Iq] at ak;refine AF (fun _=>?_) fun e=>absurd kd e;refine Bh (B6.cells 2 _ rfl) ?_;refine Bh (B6.cells 3 _ rfl) ?_;have hD:x[i].Ag.length<=536870912:=by rw[Bv,DN kd] at ed;exact ed
  have m1:Mod (fun y=>¬Rd y) w W1:=O.2.1;refine AA (gU (o1.mod m1 (fun b _ h e=>e h) (by decide) fun _ _ h=>h) (o2.mod m1 (fun b _ h e=>e h) (by decide) fun _ _ h=>h) (by omega) eC.2.1) ?_;rintro lv W2 ⟨h6,g2⟩;refine⟨lv,bp,_,T,_,rfl,a7 O g2,B6.grow g2,.inl b8,ay.grow g2,a8,(h6.rd (Mp _)).sub (fun b _ h=>.inl (.inr h)) (by decide) fun r c hc=>hc.mod (Mod.refl (fun _=>False) _) (fun _ _ _ h=>h) fun b _ h=>.inl (.inr h),b1,by rw[Iq];omega,al,e7,fun c hc=>?_⟩;obtain⟨r0,_,rfl⟩:=kT.1 hc;exact eC.2.1
end
section
variable {S D Sx Dx E:Nat->Prop}{w:World}{sv dv xv:Value}{ks:List DKey}{d:List Cel}{x:List Dop}
theorem Th(hS:Ci E w sv ks)(hd:Bn S D w dv d)(hx:BE Sx Dx w xv x)(hT:Ee w)(hG:J3 ks d)(hC:∀c∈d,LH ks c)(hI:∀o∈x,LC o)(hl:x.length<=1000)(c7:d.length<=2000)(hm:CU x<=4000)(Y:Rq ks x d.length 536870912) :
  AB prog 68 [sv,dv,xv,zI 536870912] (fun v' w'=>Grow w w'/\∃ov,v'=.tuple #[ov,zI 0]) w:=by
 apply dB;refine AA (Pu hS hx hT fun o Z=>(hI o Z).o) ?_;rintro _ w1 ⟨rfl,g1⟩;rw[Y.may,Bk];refine AY (fun _=>?_) fun e=>(e rfl).elim;refine AA (Uc (hS.grow g1) (hd.grow g1) (hT.grow g1) hG hC Y.pos.1 (by omega)) ?_;rintro _ w2 ⟨rfl,g2⟩;refine Nh ?_;have O:=g1.trans g2;have T:Ac dv=Ac (.slice (hd.shape.choose) d.length (hd.shape.choose_spec.choose)):=by
  have:=hd.shape.choose_spec.choose_spec.1;rw[<-this]
 rw[T,AP];clear T;refine AA (TB (n:=d.length) (most:=536870912) (hS.grow O) (BE.grow hx O) (hT.grow O) (fun o Z=>(hI o Z).o) (by omega) (by omega)) ?_;rintro _ w3 ⟨rfl,g3⟩;rw[(DE (by omega)).2 Y,Bk];refine AY (fun _=>?_) fun e=>(e rfl).elim;have a7:=O.trans g3;refine Bx.zero fun c w4 hc g4 Bc=>?_;have an:=a7.trans g4;have bx:=Bc.lt (S3 _);have c8:=a7.size;apply YK;have av:sv.cells=#[sv]:=by
  obtain⟨b,m,kv,l,rfl,_⟩:=hS;rfl
 have ax:dv.cells=#[dv]:=by
  obtain⟨a,c,rfl,_⟩:=hd.shape;rfl
 have ay:xv.cells=#[xv]:=by
  obtain⟨a,c,rfl,_⟩:=hx.shape;rfl
 refine D8 av fun b3 w5 c9 g5 B3=>?_;have c4:=B3.lt (S3 _);refine D8 ax fun b4 w6 ca g6 B4=>?_;have c6:=B4.lt (S3 _);refine D8 ay fun b5 W cc g7 B5=>?_;have a8:=(g5.trans g6).trans g7;have Q:=an.trans a8;have z5:=g5.size;have z6:=g6.size;have z7:=g7.size;have b0:Ci (fun y=>E y/\y < w.heap.size) W sv ks:=(hS.sub fun b hb h=>⟨h,hb⟩).grow Q;have b1:Bn (fun y=>S y/\y < w.heap.size) (fun y=>D y/\y < w.heap.size) W dv d:=Bn.grow (hd.sub (fun b hb h=>⟨h,hb⟩) (by decide) fun r c hc=>hc.mod (Mod.refl (fun _=>False) _) (fun _ _ _ h=>h) fun y i h=>⟨h,i⟩) Q;have b2:BE (fun y=>Sx y/\y < w.heap.size) (fun y=>Dx y/\y < w.heap.size) W xv x:=BE.grow (hx.sub (fun b hb h=>⟨h,hb⟩) (by decide) fun r o Z=>Z.mod (Mod.refl (fun _=>False) _) (fun _ _ _ h=>h) fun y i h=>⟨h,i⟩) Q;have b6:=Ud (Rd:=fun y=>y < W.heap.size/\y≠c/\y≠b4) b0 b1 b2 (B3.grow (g6.trans g7)) (B4.grow g7) B5 (fun y i h=>⟨i,by
  rcases h with h|h|h|h|h|h|h
  .have:=h.2;omega
  .have:=h.2;omega
  .have:=h.2;omega
  .have:=h.2;omega
  .have:=h.2;omega
  .omega
  .omega⟩) (fun y i=>⟨i.2.2,i.1⟩) Y.FM Y.LQ (fun c hc=>(hG.set c hc).len) (by omega)
 have hN:=Oc (ks:=ks) (fun o Z=>(Y.FM o Z).1) Y.LQ;have b7:=Bc.grow a8;refine⟨_,False,_,_,_,_,_,rfl,by kernel_rfl,b6,fun k a _ ⟨r,e,_⟩=>by rw[e];rfl,fun b e=>by omega,?_⟩;refine⟨fun k U W'=>∃(out:Value) (l:List Unit),XM 45 2 UN W.heap.size c W.heap.size U W' out l/\Mod (fun y=>y=c\/y=b4) W W'/\l.length=k/\k<=(CN ks d x).length/\∀y,U y->y=b4\/W.heap.size<=y,fun _ _ _=>False,⟨_,[],⟨b7,AE.nil,fun g B=>nomatch B⟩,Mod.refl _ _,rfl,Nn _,fun y e=>.inl e⟩,?_,fun _ _ _ _ _ h=>h.elim,?_,?_,?_,fun _ _ _ h=>h.elim⟩
 .rintro k U cd W1 W2 ⟨out,l,q,m,a1,hk,I⟩ hm j;have ak:=q.box.lt (S3 _);have hn:∀y,y<W.heap.size->y≠b4->¬((¬False/\U y)\/y=W.heap.size\/y=W.heap.size+1):=fun y i b9=>by
   rintro(⟨_,h⟩|h|h)
   .rcases I y h with h|h
    .exact b9 h
    .omega
   .omega
   .omega
  have zm:=m.size;refine⟨out,l,⟨q.box.mod hm (hn c (by omega) (by omega)),AE.mod q.row hm (fun g B=>?_) fun _ _ _ h=>h,fun g B=>?_⟩,m.next hm fun y i e=>?_,a1,hk,fun y i=>?_⟩
  .obtain⟨_,h2,h3,h4⟩:=q.hc g B;rintro(⟨_,h⟩|h|h)
   .exact h4 h
   .exact h2 h
   .exact h3 h
  .obtain⟨h1,h2,h3,h4⟩:=q.hc g B;refine⟨h1,h2,h3,fun h=>?_⟩;rcases(j g h).1 with h|h
   .exact h4 h
   .have:=(AE.Ax q.row g B).2;omega
  .by_cases e4:y=b4
   .exact .inr e4
   .exact(hn y i e4 e).elim
  .rcases(j y i).1 with h|h
   .exact I y h
   .exact .inr (by omega)
 .rintro k U W1 ⟨out,l,q,m,_⟩ b hb hr;exact m.same b hb fun e=>e.elim hr.2.1 hr.2.2
 .rintro k U W1 _ hk ⟨r,rfl,hr,V⟩ ⟨out,l,q,m,a1,ch,I⟩ hz j;refine Bx.new (vs:=r) hr rfl V fun b8 W5 cn g8 B8=>?_;refine KV g8 hz j (fun _ _ h=>h.elim) fun W6 J=>?_;have z8:=g8.size;have z9:=J.size;have ak:=q.box.lt (S3 _);have ba:=B8.lt (by omega);have B6:=(q.box.grow g8).mod J (by omega);have bb:=B8.mod J (by omega);have o6:AE W.heap.size 45 2 UN W6 out l:=AE.mod (AE.mod (R':=UN) q.row g8 (fun _ _ h=>h) fun _ _ _ h=>h) J (fun g B=>(q.hc g B).2.2.1) fun _ _ _ h=>h;refine AL (B6.cells 0 _ rfl) ?_;refine bb.E0 hr ?_;refine Da MD o6 (by omega) (cs:=r) (x:=()) (DC (v:=.agg r.toArray) rfl (by decide) rfl hr) hr V (fun _ _ _ h=>h) (fun _ _ _ _ _ _ h=>h) (by omega) (by simp only[maxLen];omega) fun al W9 o9 m9 n9=>?_;have cv:=m9.size;have cx:=AE.Ax o6;have B9:=B6.mod m9 fun e=>(q.hc c e).1 rfl;obtain⟨bc,bd⟩:=o9.one;refine B9.st (q:=0) (show 0<1 by decide) bc bd fun bk bl a6=>?_;have da:=a6.size;have X:Mod (fun x=>x=c\/out.ownBlock=some x) W6 bk:=(m9.mono fun _ _ e=>.inr e).trans (a6.mono fun _ _ e=>.inl e);have bn:¬U c:=fun h=>by rcases I c h with h|h<;>omega
  refine⟨NZ X (by omega) (fun b hb=>by have:=(j b hb).1;omega) (fun b _ e=>?_),al,l++[()],⟨bl,?_,fun g B=>?_⟩,?_,by rw[Bp,a1];rfl,hk,I⟩
  .rcases e with rfl|e
   .exact⟨bn,by omega,by omega⟩
   .obtain⟨h1,h2,h3,h4⟩:=q.hc b e;exact⟨h4,h2,h3⟩
  .exact AE.mod o9 a6 (fun g B e=>by
    rcases n9 g B with h|h
    .exact(q.hc g h).1 e
    .omega) fun _ _ _ h=>h
  .rcases n9 g B with h|h
   .exact q.hc g h
   .refine⟨by omega,by omega,by omega,fun hI=>by have:=(j g hI).1;omega⟩
  .refine((m.next g8 fun _ _ h=>h.elim).next J fun x hx e=>by omega).next X fun x hx e=>?_;rcases e with e|e
   .exact .inl e
   .have:=(AE.Ax q.row x e).1;omega
 .rintro U W1 ⟨out,l,q,m,_⟩ _ _ bp;refine AL (q.box.cells 0 _ rfl) ⟨bp,?_⟩;have bs:Mod (fun b=>b=W.heap.size) W1 (W1.putObj W.heap.size (.deferred none)):=Mod.putObj _ _ _ rfl;exact⟨(Q.next m fun y i e=>by omega).next bs fun y i e=>by omega,_,rfl⟩
theorem TL(hS:Ci E w sv ks)(hd:Bn S D w dv d)(hx:BE Sx Dx w xv x)(hT:Ee w)(hG:J3 ks d)(hC:∀c∈d,LH ks c)(hI:∀o∈x,LC o)(hl:x.length<=1000)(cc:d.length<=2000)(hm:CU x<=4000)(hF:Rq ks x d.length 536870912)(ed:BA (Cv ks d x)<=100000000) :
  AB prog 28 [sv,dv,xv] (fun v' w'=>Grow w w'/\∃bv,v'=.tuple #[bv,zI 0]/\BE (fun y=>w.heap.size<=y/\y<w'.heap.size) (fun y=>w.heap.size<=y/\y<w'.heap.size) w' bv (Br (Cv ks d x))) w:=by
 apply eg;have cd:Ci (fun y=>y<w.heap.size) w sv ks:=hS.sub fun b hb h=>hb;have ch:Bn (fun y=>y<w.heap.size) (fun y=>y<w.heap.size) w dv d:=hd.sub (fun b hb h=>hb) (by decide) fun r c hc=>hc.mod (Mod.refl (fun _=>False) _) (fun _ _ _ h=>h) fun y hy h=>hy;have bk:BE (fun y=>y<w.heap.size) (fun y=>y<w.heap.size) w xv x:=hx.sub (fun b hb h=>hb) (by decide) fun r o ho=>ho.mod (Mod.refl (fun _=>False) _) (fun _ _ _ h=>h) fun y hy h=>hy;refine AA (Th hS hd hx hT hG hC hI hl cc hm hF) ?_;rintro _ w1 ⟨g1,ov,rfl⟩;refine BO ?_;refine Nh ?_;refine AA iB ?_;rintro _ w2 ⟨g2,b,ee,ef,rfl,cn⟩;obtain⟨xa,xc,rfl,ea⟩:=bk.shape;rw[AP];have z1:=g1.size;have z2:=g2.size
 let St:List Dop->(Nat->Prop)->World->Prop:=fun y F W=>Oy F W b (Be y)/\(∀z,F z->w.heap.size<=z/\z<W.heap.size)/\Mod (fun z=>w.heap.size<=z) w W
 have grow:∀{y F W W'},St y F W->Grow W W'->St y F W':=fun{y F W W'} ⟨a1,a2,a3⟩ g=>⟨a1.mod g fun _ _ h=>h,fun z B=>⟨(a2 z B).1,X8 (a2 z B).2 g.size⟩,a3.next g fun _ _ h=>h.elim⟩;have ax:∀{y:List Dop} {o:Dop} {F:Nat->Prop} {W W':World},St y F W->Oy (fun z=>F z\/W.heap.size<=z) W' b (CI (Be y) o)->Mod F W W'->St (y++[o]) (fun z=>(F z\/W.heap.size<=z)/\z<W'.heap.size) W':=fun{y o F W W'} ⟨a1,a2,a3⟩ h m=>⟨by rw[Nl];exact h.lt,fun z B=>⟨by rcases B.1 with h|h;exact(a2 z h).1;have:=a3.size;omega,B.2⟩,a3.next m fun z _ B=>(a2 z B).1⟩;have cv:∀{W},Mod (fun z=>w.heap.size<=z) w W->Ci (fun y=>y<w.heap.size) W sv ks:=fun m=>cd.mod m fun b hb h e=>by omega
 have b7:∀{W:World} {v:Value} {l:List Cel},Mod (fun z=>w.heap.size<=z) w W->Bn (fun y=>y<w.heap.size) (fun y=>y<w.heap.size) w v l->Bn (fun y=>y<w.heap.size) (fun y=>y<w.heap.size) W v l:=fun m h=>h.mod m (fun b _ h e=>by omega) (by decide) fun r c hc=>hc.mod m (fun b _ h e=>by omega) fun _ _ h=>h;have back:∀{W:World} {v:Value} {l:List Cel},Mod (fun z=>w.heap.size<=z) w W->Bn (fun y=>y<w.heap.size) (fun y=>y<w.heap.size) W v l->Bn (fun y=>y<w.heap.size) (fun y=>y<w.heap.size) w v l:=fun m h=>BB.mono h (fun _ _ h=>h) (fun b hb hs=>(m.same b hs fun e=>by omega).symm) (by decide) fun r c ⟨sv,e,hs⟩=>⟨sv,e,BB.mono hs (fun _ _ h=>h) (fun b hb hs=>(m.same b hs fun e=>by omega).symm) (by decide) fun _ _ h=>h⟩;have small:∀{y z:List Dop},y++z=Cv ks d x->(Be y).done.length+(Be y).ins.length<=200000000/\BA (Be y).ins<=200000000:=fun{y z} e=>by
  have h1:=VN y;have h2:BA y<=BA (Cv ks d x):=by rw[<-e,Ds];omega
  have h3:=E2 (Be y).done;have h4:=E2 (Be y).ins;omega
 refine AX (fun vs W=>∃(i:Nat) (Q:List Cel) (a8:Value) (y:List Dop) (F:Nat->Prop),i<=x.length/\vs=[a8,zI i]/\St y F W/\Bn (fun y=>y<w.heap.size) (fun y=>y<w.heap.size) w a8 Q/\BW (x.drop i)<=Q.length/\y++Cv ks Q (x.drop i)=Cv ks d x/\(∀c∈Q,c∈d)/\Q.length<=d.length) (fun vs _=>x.length-De vs 1)
  ⟨0,d,dv,[],fun z=>z=b,Nn _,rfl,⟨cn,fun z e=>by omega,(g1.trans g2).mono fun _ _ h=>h.elim⟩,ch,hF.LQ,rfl,fun _ h=>h,Mp _⟩ ?_
 rintro vs W ⟨i,Q,a8,y,F,hi,rfl,V,ak,al,O,Z,bl⟩ _;simp only[GC];refine Hj (fun cx=>?_) fun dk=>?_;rotate_left
 .obtain rfl:i=x.length:=by omega
  rw[nD,Cv,kK] at O;obtain⟨a1,a2,a3⟩:=V;have h1:=VN y;rw[O] at h1 a1;refine AA (eH a1 (by omega)) ?_;rintro bv W' ⟨ho,g'⟩;have zW:=a3.size;refine⟨(a3.next g' fun _ _ h=>h.elim).mono fun z B h=>by omega,bv,rfl,?_⟩;exact ho.reads.sub (fun z _ h=>⟨by omega,h.2⟩) (by decide) fun r o ho=>ho.mod (Mod.refl (fun _=>False) _) (fun _ _ _ h=>h) fun z _ h=>⟨by omega,h.2⟩
 have I:i<x.length:=by omega
 rw[lX I] at al O;have dT:=WJ I;obtain⟨b8,eh⟩:=hF.FM x[i] dT;obtain⟨q,r,rfl,e2,hr,hc,ay⟩:=bk.get I;obtain⟨rv,bn,pv,rfl,o1,o2,o3⟩:=id ay;refine AT I (Ah hr (fun j u hu=>by rw[Addr.add_add];exact V.2.2.cell (hc j u hu) fun e=>by rw[BJ] at e;have hq:q.block<w.heap.size:=e2;omega) ?_);refine Bx.new (vs:=[.int .u8 x[i].kind,zI x[i].n,rv,bn,pv]) hr rfl ay.one fun b6 W1 e4 g6 B6=>?_;have T:=grow V g6;have F6:¬F b6:=fun e=>by have:=(V.2.1 b6 e).2;omega
 have zW:=V.2.2.size;have bp:=B6.lt (S3 _);refine Bh (B6.cells 0 _ rfl) ?_;rw[Aj];by_cases k2:x[i].kind=2
 .refine AF (fun _=>?_) fun e=>absurd k2 e;obtain⟨e1,_,e3,_⟩:=LA (ks:=ks) (x:=x.drop (i+1)) (d:=Q) k2;rw[e1] at al;rw[e3] at O;refine Bh (B6.cells 2 _ rfl) ?_;obtain⟨ra,rc,rfl,_⟩:=o1.shape;rw[AP];obtain⟨a1,a2,a3⟩:=T;refine AA (TH a1) ?_;rintro _ W2 ⟨h2,m2⟩;rw[AQ,AO (by omega)];have zm:=m2.size;refine⟨⟨i+1,Q,a8,y++[⟨3,x[i].Ag.length,[],[],[]⟩],F,I,rfl,⟨by rw[Nl];exact h2,fun z B=>⟨(a2 z B).1,by have:=(a2 z B).2;omega⟩,a3.next m2 fun z _ B=>(a2 z B).1⟩,ak,al,by rw[Of];exact O,Z,bl⟩,by rw[BD,BD];omega⟩
 refine AF (fun e=>absurd e k2) fun _=>?_;have bs:x[i].kind=1\/x[i].kind=3:=by
  rcases b8 with⟨k,_⟩|⟨k,_⟩|⟨k,_⟩
  .exact .inl k
  .exact .inr k
  .exact absurd k k2
 have ej:1<=x[i].n:=by
  rcases b8 with⟨_,_,_,n,_⟩|⟨_,_,_,_,n⟩|⟨k,_⟩
  .exact n
  .exact n
  .exact absurd k k2
 have ec:x[i].patch.length<=64:=by
  rcases b8 with⟨_,_,_,_,hp⟩|⟨_,_,_,hp,_⟩|⟨k,_⟩
  .exact hp.2.1
  .rw[hp];simp
  .exact absurd k k2
 obtain⟨e1,e3⟩:BW (x[i]::x.drop (i+1))=x[i].n.toNat+BW (x.drop (i+1))/\Cv ks Q (x[i]::x.drop (i+1))=(Q.take x[i].n.toNat).map (if x[i].kind=3 then Je else I6 ks x[i].patch)++Cv ks (Q.drop x[i].n.toNat) (x.drop (i+1)):=by
  rcases bs with k|k
  .obtain⟨q1,_,q3,_⟩:=K4 (ks:=ks) (x:=x.drop (i+1)) (d:=Q) k;exact⟨q1,by rw[q3,Bq (by omega)]⟩
  .obtain⟨q1,_,q3,_⟩:=K2 (ks:=ks) (x:=x.drop (i+1)) (d:=Q) k;exact⟨q1,by rw[q3,DN k]⟩
 rw[e1] at al;rw[e3] at O;clear e1 e3;have en:x[i].n=(x[i].n.toNat:Int):=by omega
 generalize hn:x[i].n.toNat=n at *;refine Bh (B6.cells 1 _ rfl) ?_;rw[en];obtain⟨da,dc,rfl,_⟩:=ak.shape;refine Mq (e:=45) (k:=2) (i:=Tryz.t45) (by kernel_rfl) (by kernel_rfl) (by kernel_rfl) (b7 T.2.2 ak) (j:=n) (by omega) fun lv bx=>?_;have c4:=back T.2.2 bx;clear bx;have e5:∀c∈Q.take n,c∈d:=fun c hc=>Z c (i7 hc);have ek:(Q.take n).length=n:=by rw[Lc];omega
 generalize hL:Q.take n=L at *;obtain⟨la,lc,rfl,_⟩:=c4.shape;rw[AP];generalize an:(if x[i].kind=3 then Je else I6 ks x[i].patch)=fo at O;refine AX (fun vs W'=>∃(m:Nat) (F':Nat->Prop),m<=L.length/\vs=[zI m]/\St (y++(L.take m).map fo) F' W'/\¬F' b6/\Bx W' b6 [.int .u8 x[i].kind,zI x[i].n,rv,bn,pv]) (fun vs _=>L.length-De vs 0) ⟨0,F,Nn _,rfl,by rw[nG,lp,kK];exact T,F6,B6⟩ ?_;clear T B6 g6 e4 V F6 zW bp;rintro vs W2 ⟨m,F2,eo,rfl,J,av,ba⟩ _;rw[Nr,Am];refine AF (fun cx=>?_) fun dk=>?_;rotate_left
 .obtain rfl:m=L.length:=by omega
  rw[PF] at J;refine Bh (ba.cells 1 _ rfl) ?_;rw[en];refine Fm (e:=45) (k:=2) (i:=Tryz.t45) (by kernel_rfl) (by kernel_rfl) (by kernel_rfl) (b7 J.2.2 ak) (j:=n) (by omega) fun v' e6=>?_;rw[AQ,AO (by omega)];exact⟨⟨i+1,Q.drop n,v',y++L.map fo,F2,I,rfl,J,back J.2.2 e6,by rw[I3];omega,by rw[Of];exact O,fun c hc=>Z c (iV hc),by rw[I3];omega⟩,by rw[BD,BD];omega⟩
 have X:m<L.length:=by omega
 have e7:(y++(L.take m).map fo)++((L.drop m).map fo++Cv ks (Q.drop n) (x.drop (i+1)))=Cv ks d x:=by
  rw[<-O,Of,<-Of ((L.take m).map fo),<-Ty,S6]
 obtain⟨ep,er⟩:=small e7;have a6:y++(L.take (m+1)).map fo=(y++(L.take m).map fo)++[fo L[m]]:=by
  rw[No,By X,Ty,Of];rfl
 obtain⟨p,r',rfl,_,e8,e9,bc,rfl,c6⟩:=(b7 J.2.2 c4).get X;have c7:∀u∈[Value.int .i32 L[m].r,bc],u.oneCell'=true:=by
  obtain⟨sa,sc,rfl,_⟩:=c6.shape;intro u hu;simp only[K8,kU,mb] at hu;rcases hu with rfl|rfl<;>rfl
 have c8:=hG.set _ (e5 _ (WJ X));have et:=c8.len;refine AT X (Ah e8 (fun j u hu=>by rw[Addr.add_add];exact e9 j u hu) ?_);refine Bx.new (vs:=[.int .i32 L[m].r,bc]) rfl rfl c7 fun b9 Y eu g9 B9=>?_;have U:=grow J g9;have bd:=ba.grow g9;have ew:=B9.lt (S3 _);have bp:=ba.lt (S3 _);have z3:=U.2.2.size;have b0:CR (fun y=>y<w.heap.size) Y bc L[m].set:=c6.grow g9 (by decide) fun _ _ h=>h;refine Bh (bd.cells 0 _ rfl) ?_;rw[Aj];refine AF (fun k3=>?_) fun k3=>?_
 .rw [DN k3] at an;subst an;refine Bh (B9.cells 0 _ rfl) ?_;refine GF (DC (v:=.int .i32 L[m].r) (vs:=[.int .i32 L[m].r]) (k:=1) rfl (by decide) rfl rfl) ?_;have ga:Grow Y (Y.alloc (.cells [Value.int .i32 L[m].r].toArray 21)):=Mod.alloc _ _ _;have ho:AE Y.heap.size 21 1 Bz (Y.alloc (.cells [Value.int .i32 L[m].r].toArray 21)) (.slice (some ⟨Y.heap.size,0,none⟩) 1 1) [L[m].r]:=AE.OY (Mp _) rfl (fun u hu=>by simp at hu;subst hu;rfl) rfl;refine Bh ((B9.grow ga).cells 1 _ rfl) ?_;have b1:=grow U ga;refine AA (T4 (S:=fun z=>z < w.heap.size\/z=Y.heap.size) b1.1 (BB.sub (AE.sl ho) (fun z B h=>.inr (by have:=h.2;simp only [Value.ownBlock,i6] at this;exact this.symm)) (by decide) fun _ _ h=>h) ((b0.grow ga (by decide) fun _ _ h=>h).sub (fun _ _ h=>.inl h) (by decide) fun _ _ h=>h) (fun z B e=>by
   have h1:=U.2.1 z e;rcases B with B | B <;> omega) (by omega) (fun o ho=>?_) (by simp) (by omega)) ?_
  .have h1:=Nk ho;simp only[Ef] at h1;simp only[ni];omega
  rintro _ W4 ⟨h4,m4⟩;have z4:=m4.size;have za:=ga.size;rw[AQ,AO (by omega)];have ht:=ax (o:=Je L[m]) b1 h4 m4;refine⟨⟨m+1,_,X,rfl,by rw[a6];exact ht,fun e=>?_,((bd.grow ga).mod m4 av)⟩,by rw[CH,CH];omega⟩;rcases e.1 with e|e
  .exact av e
  .omega
 .rw[Bq k3] at an;subst an;have gd:Grow Y Y.drew:=Mod.drew _ _;have zd:Y.drew.heap.size=Y.heap.size:=rfl;have a7:=grow U gd;have c9:=bd.grow gd;have ca:=B9.grow gd;refine Af (fun j z=>j=11/\F2 z) ?_;have ld:∀{l:List Nat} {bb q:Nat} {u:Value},(∀j∈l,j≠11)->Y.drew.cell? ⟨bb,q,none⟩=some u->Y.drew.cell? ⟨bb,q,none⟩=some u/\∀j∈l,¬((fun j z=>j=11/\F2 z) j (⟨bb,q,none⟩:Addr).block):=fun hl hc=>⟨hc,fun j hj e=>hl j hj e.1⟩;rw[AG,AH];refine AU (ld (by decide) (ca.cells 1 _ rfl)) ?_;rw[AG,AH];refine AU (ld (by decide) (c9.cells 4 _ rfl)) ?_;rw[AG,AH];refine AU (ld (by decide) (ca.cells 0 _ rfl)) ?_;rw[Aj];have m3:=a7.2.2;refine AA (Jv (b:=decide (L[m].r=10)) (cv m3) (o3.mod m3 (fun z _ h e=>by omega) (by decide) fun _ _ h=>h) (by omega)) ?_;rintro v4 W4 ⟨h4,g4⟩;refine⟨g4.mono fun _ _ e=>e.elim,?_⟩;have ey:(CW ks (decide (L[m].r=10)) x[i].patch).length<=x[i].patch.length:=nN _ _;refine AA (Yv ((b0.grow gd (by decide) fun _ _ h=>h).grow g4 (by decide) fun _ _ h=>h) h4 c8.1.1 (by omega) (by omega)) ?_;rintro v5 W5 ⟨o5,g5⟩;refine⟨g5.mono fun _ _ e=>e.elim,?_⟩;have b2:=grow (grow a7 g4) g5;have z4:=g4.size;have z5:=g5.size;have eA:(Dc L[m].set (CW ks (decide (L[m].r=10)) x[i].patch)).length<=64:=by
   have:(Dc L[m].set (CW ks (decide (L[m].r=10)) x[i].patch)).length<=(CW ks (decide (L[m].r=10)) x[i].patch).length:=pA _ _;omega
  refine AA (Tt (n:=1) (S:=fun z=>W4.heap.size<=z) b2.1 ((AE.sl o5).sub (fun z B h=>h.1) (by decide) fun _ _ h=>h) (fun z B e=>by have:=(a7.2.1 z e).2;omega) (by omega) (by omega)) ?_;rintro _ W6 ⟨h6,m6⟩;have z6:=m6.size;refine⟨m6.mono fun z _ e=>⟨rfl,e⟩,?_⟩;rw[AQ,AO (by omega)];have ht:=ax (o:=I6 ks x[i].patch L[m]) b2 h6 m6;refine⟨⟨m+1,_,X,rfl,by rw[a6];exact ht,fun e=>?_,((c9.grow (g4.trans g5)).mod m6 av)⟩,by rw[CH,CH];omega⟩;rcases e.1 with e|e
  .exact av e
  .omega
end
theorem Wk:∀{l:List RV} {d:List Cel},(∀s∈l,s.x.length<=1000)->(∀c∈d,LH ks c)->∀c∈Ls ks most d l,LH ks c:=by
 intro l;induction l with
 |nil=>intro d _ h;exact h
 |cons s l q=>
  intro d hl i;show ∀c∈Ls ks most (Gz ks most d s.x) l,LH ks c;refine q (fun t ht=>hl t (by simp[ht])) ?_;unfold Gz;split
  .rename_i e;have B:=hl s (by simp);have j:=(DE (by omega)).1 e;exact ZU (fun o m=>⟨(j.FM o m).1,j.pl o m⟩) i
  .exact i
theorem Lb{b6:List DKey}{l:List RV}(hk:NT S w fr b6)(hl:Iv C w sv l)(hT:Ee w)
 (hI:∀s∈l,(∀o∈s.x,LC o)/\BA s.x<=1048576) :
  AB prog 7 [fr,zI most,sv] (fun v w'=>v=.bool true/\Grow w w') w:=by
 classical
 apply iL;have kn:∀{w1},Grow w w1->AB prog 10 [] (fun v w'=>v=.bool true/\Grow w w') w1:=fun hg=>AA (Ry (hT.grow hg)) fun v w' ⟨e,h⟩=>⟨e,hg.trans h⟩;have b7:=hl.GN;refine AA (L8 hk) ?_;rintro _ w1 ⟨g1,hr⟩;rcases hr with⟨b8,lv,ks,rfl,J,_,hS⟩|⟨_,rfl⟩;rotate_left
 .refine BO ?_;refine AV (fun _ _=>False) (fun _ _ h=>h.elim) ?_;rw[Bk];exact AY (fun e=>by cases e) fun _=>kn g1
 refine BO ?_;obtain⟨b9,ba,_⟩:=Mc.1 b8;have av:ks.length<=64:=by rw[J.length_eq];exact b9
 have hK:∀k∈ks,EI k:=fun k hk=>ba k (J.mem_iff.1 hk);refine AV (fun _ w'=>Grow w w'/\Grow w1 w'/\Wv most l/\l.length≠0) ?_ ?_;rotate_left
 .refine Nh ?_;refine AA (TE (hl.mod g1 fun _ _ _ h=>h) fun s hs=>by have:=(hI s hs).2;omega) ?_;rintro _ w2 ⟨rfl,g2⟩;rw[An];refine AY (fun ht=>?_) fun _=>kn (g1.trans g2);obtain⟨cn,cx,bb,_⟩:=hl.shape;have ax:Ac sv=Ac (.slice cn l.length cx):=by rw[bb]
  rw[ax,AP,Aj];exact AF (fun _=>kn (g1.trans g2)) fun e=>⟨g1.trans g2,g2,ht,fun e'=>e (by rw[e'];rfl)⟩
 rintro _ w2 ⟨bc,da,⟨ef,U,ay⟩,dk⟩ _;refine AA (eM (most:=most) (hS.grow da) hT bc) ?_;rintro v3 w3 ⟨g3,h3⟩;have bd:=bc.trans g3;rcases h3 with⟨dT,eh,a,F,rfl,hF,hX⟩|⟨_,rfl⟩;rotate_left
 .refine BO ?_;rw[Bk];exact AY (fun e=>by cases e) fun _=>kn bd
 refine BO ?_;refine Nh ?_;have bk:=b7.mod bd fun _ _ _ h=>h;obtain⟨la,lc,bl,_⟩:=bk.shape;have bn:Ac sv=Ac (.slice la l.length lc):=by rw[bl]
 have ej:0<l.length:=Nat.pos_of_ne_zero dk;rw[bn,AP,Aq,wrap64 (by omega) (by omega),show((l.length:Int)-1)=((l.length-1:Nat):Int) by omega];refine Rp (n:=l.length-1) (by omega) (by omega) bk (fun b hb=>hb.2) (fun s hs=>⟨(hI s hs).1,ay s hs⟩) hX hT (Wj dT) av hK U (by decide) fun w4 h4 B=>?_;obtain⟨F4,f4,I,m4⟩:=h4;have ek:(EJ:Nat)=17610000:=rfl;have e1:24+(l.length-1)*EJ+EJ<=600000000:=by
  have:(l.length-1+1)*EJ<=30*EJ:=lW _ (by omega);rw[lO,qW] at this;omega
 have hC:∀ c ∈ Ls ks most [⟨10,[]⟩] (l.take (l.length - 1)),LH ks c:=Wk (fun s hs=>by
  have:=ay s (i7 hs);have:=Ko s.x;omega) fun c hc=>by
  rw[P9.1 hc];exact⟨.inl (by decide),fun a ha=>nomatch ha⟩
 generalize Ls ks most [⟨10,[]⟩] (l.take (l.length-1))=d at I B hC;generalize 24+(l.length-1)*EJ=N at I e1;have en:=B.le;have bp:d.length<=10000000:=by omega
 have hG:=B.g.set;have eo:Grow w w4:=I.g;refine AA (Pv I) ?_;rintro _ w5 ⟨rfl,g5⟩;have bs:=I.grow g5;refine AA (MQ (i:=0) (j:=d.length) bs (Nn _) (Mp _) hG bp (by omega)) ?_;rintro _ w6 ⟨cv,rfl,bx,g6⟩;rw[PF,mK] at bx;refine BO ?_;have c4:=bs.grow g6;refine AA (KN c4 (by omega)) ?_;rintro _ w7 ⟨rfl,g7⟩;have b0:=c4.grow g7;have e2:Grow w w7:=b0.g;have e3:=(bx.grow g7).rd (Mp _);rw[AP,Aq,wrap64 (by omega) (by omega),show((l.length:Int)-1)=((l.length-1:Nat):Int) by omega];have V:l.length-1<l.length:=by omega
 have e4:=b7.mod e2 fun _ _ _ h=>h;subst bl;obtain⟨p,r,rfl,_,hr,e5,xv,rfl,hx⟩:=e4.get V;refine AT V ?_;rw[AG,Addr.add_add];refine AL (e5 0 _ rfl) ?_;obtain⟨q1,_⟩:=hI l[l.length-1] (WJ V);have q2:=ay l[l.length-1] (WJ V);have e6:=Ko l[l.length-1].x;generalize l[l.length-1].x=x at hx q1 q2 e6;have O:=b0.hl;refine AV (fun _ w'=>EL ks x d.length most=0/\KF .f w F4 w7 w' a ⟨lv,ks,fun z=>w.heap.size<=z/\z<w2.heap.size⟩ most (CN ks d x) (N+EJ)/\DocM ks most (CN ks d x)) ?_ ?_;rotate_left
 .refine Nh ?_;refine AA (PM b0 hT B av hK hx (fun z q e=>by have:=(O z e).1;have:=q.2;omega) q1 (by omega) U (by omega)) ?_;rintro _ w8 ⟨rfl,b1,X⟩;rw[Bk];refine AY (fun e=>?_) fun _=>?_
  .have es:Gz ks most d x=CN ks d x:=by unfold Gz;rw[DN e]
   rw[es] at b1 X;exact⟨e,b1,X⟩
  .rw[Aj];refine AF (fun _=>?_) fun e=>(e rfl).elim;obtain⟨F8,f8,h8,m8⟩:=b1;exact kn h8.g
 rintro _ w8 ⟨Z,⟨F8,f8,Y,m8⟩,X⟩ _;obtain⟨i1,i2,i3,i4,i5⟩:=VW hK q1 (by omega) B.g hC U Z;have m:=(DE (by omega)).1 Z;have e7:CU x<=4000:=by
  have:=m.most;have:=m.LQ;omega
 have c6:Rq ks x d.length 536870912:=⟨m.may,m.FM,⟨m.pos.1,by have:=m.pos.2;omega⟩,m.LQ,m.fin,m.pl,by have:=m.most;omega⟩;have z5:=g5.size;have z6:=g6.size;have z7:=g7.size;have z8:=m8.size;have Q:=I.hl;have c7:Bn (fun z=>w5.heap.size<=z/\z<w7.heap.size) (fun z=>w5.heap.size<=z/\z<w7.heap.size) w8 cv d:=e3.mod m8 (fun z _ q e=>by have:=(Q z e).2.1;omega) (by decide) fun r c hc=>hc.mod m8 (fun z _ q e=>by have:=(Q z e).2.1;omega) fun _ _ h=>h;have e8:BE (fun z=>C z/\z<w.heap.size) (fun z=>C z/\z<w.heap.size) w8 xv x:=hx.mod m8 (fun z _ q e=>by have:=(O z e).1;have:=q.2;omega) fun z _ q e=>by have:=(O z e).1;have:=q.2;omega
 refine AA (TL Y.JO.1 c7 e8 (hT.grow Y.g) B.g hC q1 (by omega) (by omega) e7 c6 i5) ?_;rintro _ w9 ⟨g9,bv,rfl,e9⟩;refine BO ?_;have ea:=Y.grow g9;have c8:=Y.hl;have ep:J8 4000 (Br (Cv ks d x))<=370000000:=by
  show 2*(Br (Cv ks d x)).length*(22*4000+50)<=370000000;omega
 refine AV (fun _ w'=>KF .f w F8 w9 w' a ⟨lv,ks,fun z=>w.heap.size<=z/\z<w2.heap.size⟩ most d (N+EJ+J8 4000 (Br (Cv ks d x)))) ?_ ?_;rotate_left
 .refine Nh ?_;refine AA (Nc (x:=Br (Cv ks d x)) ea hT X av hK e9 (fun z q e=>by have:=(c8 z e).2.1;have:=q.1;omega) i3 (by omega) U (by omega)) ?_;rintro _ c9 ⟨rfl,a1,_⟩;have es:Gz ks most (CN ks d x) (Br (Cv ks d x))=d:=by unfold Gz;rw[DN i1];exact i2
  rw[es] at a1;rw[i1,Bk];exact AY (fun _=>a1) fun e=>(e rfl).elim
 rintro _ c9 ⟨er,et,a6,b2⟩ _;have z9:=g9.size;have eu:=b2.size;have a7:N+EJ+J8 4000 (Br (Cv ks d x))<=1000000000:=by omega
 refine AA (Pv a6) ?_;rintro _ ew ⟨rfl,ca⟩;have a8:=a6.grow ca;refine AA (MQ (i:=0) (j:=d.length) a8 (Nn _) (Mp _) hG bp a7) ?_;rintro _ ey ⟨eA,rfl,ak,al⟩;rw[PF,mK] at ak;refine BO ?_;have cc:=a8.grow al;rw[Aj];refine AF (fun _=>?_) fun e=>(e rfl).elim;have ec:=c7.grow g9;have cd:Bn (fun z=>w5.heap.size<=z/\z<w7.heap.size) (fun z=>w5.heap.size<=z/\z<w7.heap.size) c9 cv d:=by
  have ch:∀z,(w5.heap.size<=z/\z<w7.heap.size)->F8 z->False:=fun z q e=>by
   rcases f8 z e with e|e
   .have:=(Q z e).2.1;omega
   .omega
  exact ec.mod b2 (fun z _ q e=>ch z q e) (by decide) fun r c hc=>hc.mod b2 (fun z _ q e=>ch z q e) fun _ _ h=>h
 refine AA (Rg ((cd.grow ca).grow al) (ak.rd (Mp _))) ?_;rintro _ eB ⟨rfl,ed⟩;rw[lH rfl];refine Ak ?_;have an:=cc.grow ed;refine AA (KN an a7) ?_;rintro _ eC ⟨rfl,ee⟩;rw[Aj];exact AF (fun _=>kn ((an.grow ee).g)) fun e=>(e rfl).elim
section
open Go.ChangeShapes Go.Joins
variable {H:Type}{enc:TypeId×Value->H}{w:World}{base:Nat}{spare:Nat->Bool}{held:Bool}
theorem bT{l:List α}(h:l.length=5):∃a b c d e,l=[a,b,c,d,e]:=by
 match l,h with|[a,b,c,d,e],_=>exact⟨a,b,c,d,e,rfl⟩
theorem dy{l:List α}(h:l.length=6):∃a b c d e f,l=[a,b,c,d,e,f]:=by
 match l,h with|[a,b,c,d,e,f],_=>exact⟨a,b,c,d,e,f,rfl⟩
theorem WM(l m:List (DataW H)):Rows.uptoBulkAll (l++m)=Rows.uptoBulkAll l+Rows.uptoBulkAll m:=by
 induction l with
 |nil=>simp[Rows.uptoBulkAll]
 |cons d l i=>simp only[S7,Rows.uptoBulkAll,i];omega
theorem BB.G0{t e k:Nat}{R:World->List Value->α->Prop}{μ:α->Nat}{fuel:Nat}{x:DataW H×List MemPlace}(ht:prog.underlying t=some (.slice e))(hk:prog.cellsOf e=k)
 (Q:∀n o y,DataW.trod enc prog w base spare held n e o=some y->∃x,R w o x/\μ x<=Rows.uptoBulk y.1)(h:DataW.trod enc prog w base spare held fuel t cs=some x) :
  ∃v l,cs=[v]/\BB (fun _=>True) k R w v l/\(l.map μ).sum+1<=Rows.uptoBulk x.1:=by
 rcases Go.Deep.open_slice ht h with⟨rfl,rfl⟩|⟨a,len,T,m,n,D,Pl,rfl,hb,hl,hm,U,rfl,J⟩
 .exact⟨_,[],rfl,BB.nil,by simp[Rows.uptoBulk]⟩
 .have a1:len<=m:=by rw[U];split<;>omega
  have one:∀i,i<len->∃(o:List Value) (x:α),o.length=k/\(∀j u,o[j]?=some u->w.cell? (a.add (i*k+j))=some u)/\R w o x/\μ x<=Rows.uptoBulk (D i):=by
   intro i hi;obtain⟨o,h1,O⟩:=J i (by omega);obtain⟨x,V,X⟩:=Q n o _ O;obtain⟨_,B,hc⟩:=World.cells?_some h1;rw[hk] at B hc;refine⟨o,x,B,fun j u hu=>?_,V,X⟩;have hj:j<k:=by rw[<-B];exact(Ad.1 hu).1
   have:=hc j hj;rw[Addr.add_add] at this;rw[this];exact hu
  have build:∀q,q<=len->∃l:List α,l.length=q/\(l.map μ).sum<=Rows.uptoBulkAll ((List.range q).map D)/\∀i x,l[i]?=some x->∃o:List Value,o.length=k/\(∀j u,o[j]?=some u->w.cell? (a.add (i*k+j))=some u)/\R w o x:=by
   intro q;induction q with
   |zero=>exact fun _=>⟨[],rfl,by simp[Rows.uptoBulkAll],fun i x h=>by simp at h⟩
   |succ q ih=>
    intro hq;obtain⟨l,h1,hs,O⟩:=ih (by omega);obtain⟨o,x,Y,Z,h5,h6⟩:=one q (by omega);refine⟨l++[x],by simp[h1],?_,fun i y I=>?_⟩
    .rw[List.range_succ,Ty (f:=D),WM];simp only[Ty,nk,kN,lp,mM,my,Rows.uptoBulkAll];omega
    by_cases hi:i<q
    .rw[Q0 (by omega)] at I;exact O i y I
    .have:i=q:=by have:=(Ad.1 I).1;simp[h1] at this;omega
     subst this;rw[kO (by omega)] at I;simp[h1] at I;subst I;exact⟨o,Y,Z,h5⟩
  obtain⟨l,h1,hs,O⟩:=build len (Mp _);subst h1;refine⟨_,l,rfl,⟨a,T,rfl,hl,hm,fun i x V=>?_⟩,?_⟩
  .obtain⟨o,Y,Z,h5⟩:=O i x V;exact⟨a,o,rfl,trivial,Y,Z,h5⟩
  .simp only[Rows.uptoBulk];omega
theorem Jk{n:Nat}{y:DataW H×List MemPlace}(h:DataW.trod enc prog w base spare held n 77 cs=some y):∃x:A6,cs=x.cells/\x.s.size+1<=Rows.uptoBulk y.1:=by
 have c2:prog.cellsOf 77=4:=by kernel_rfl
 have q:prog.cellsOf 5=1:=by kernel_rfl
 have B:prog.cellsOf 2=1:=by kernel_rfl
 have I:prog.cellsOf 75=1:=by kernel_rfl
 have J:prog.cellsOf 9=1:=by kernel_rfl
 obtain⟨z0,z1,z2,z3,m',rfl,hl,i,j,m,o⟩:=trod_struct4 underlying77 h;rw[c2] at hl;simp only[q,B,I,J] at i j m o;match cs,hl with
 |[a0,a1,a2,a3],_=>
  simp only[mK,mh,nG,mP] at i j m o;obtain⟨O,Q,e0,_⟩:=ln underlying5 i;obtain⟨k1,T,U,_⟩:=ln underlying2 j;obtain⟨k2,V,X,_⟩:=ln underlying75 m;obtain⟨Y,Z,e3,_⟩:=DataW.trod_string underlying9 o;cases Q;cases T;cases V;cases Z;subst e0;subst U;subst X;subst e3;refine⟨⟨O,k1,k2,Y⟩,rfl,?_⟩;simp only[Rows.uptoBulk,Rows.uptoBulkAll,nH,ByteArray.size_data];omega
theorem NK{n:Nat}{y:DataW H×List MemPlace}(h:DataW.trod enc prog w base spare held n 79 cs=some y):∃x:Attr,DV w cs x/\LB x<=Rows.uptoBulk y.1:=by
 have c0:prog.cellsOf 79=5:=by kernel_rfl
 have c1:prog.cellsOf 3=1:=by kernel_rfl
 have c2:prog.cellsOf 77=4:=by kernel_rfl
 obtain⟨j,o,m,rfl,hl,h0,h1⟩:=trod_struct2 underlying79 h;rw[c0] at hl;simp only[c1,c2] at h0 h1;match cs,hl with
 |[a0,q,B,a3,a4],_=>
  simp only[mK,mh,nG,mP] at h0 h1;obtain⟨k,e0,_,_⟩:=ln underlying3 h0;obtain⟨v,i,I⟩:=Jk h1;cases e0;cases i;refine⟨⟨k,v⟩,rfl,?_⟩;simp only[LB,Rows.uptoBulk,Rows.uptoBulkAll];omega
theorem Oo{n:Nat}{y:DataW H×List MemPlace}(h:DataW.trod enc prog w base spare held n 133 cs=some y):∃x:Chg,Eh w cs x/\Pf x<=Rows.uptoBulk y.1:=by
 have c0:prog.cellsOf 133=6:=by kernel_rfl
 have c1:prog.cellsOf 3=1:=by kernel_rfl
 have c2:prog.cellsOf 77=4:=by kernel_rfl
 have q:prog.cellsOf 4=1:=by kernel_rfl
 obtain⟨xs,m,_,rfl,hl,i,j⟩:=oh underlying133 h;match xs,i with
 |[B,I,J],_=>
  have h0:DataW.trod enc prog w base spare held m 3 ((cs.drop 0).take (prog.cellsOf 3))=some B:=j 0 _ rfl;have h1:DataW.trod enc prog w base spare held m 4 ((cs.drop 1).take (prog.cellsOf 4))=some I:=j 1 _ rfl;have o:DataW.trod enc prog w base spare held m 77 ((cs.drop 2).take (prog.cellsOf 77))=some J:=j 2 _ rfl;rw[c0] at hl;rw[c1] at h0;rw[q] at h1;rw[c2] at o;obtain⟨a0,T,U,a3,a4,a5,rfl⟩:=dy hl
  .clear j;simp only[mK,mh,nG,mP] at h0 h1 o;obtain⟨k,e0,_,_⟩:=ln underlying3 h0;obtain⟨b,O,_⟩:=p5 underlying4 h1;obtain⟨v,Q,V⟩:=Jk o;cases e0;cases O;cases Q;refine⟨⟨k,b,v⟩,rfl,?_⟩;simp only[Pf,kN,lp,Rows.uptoBulk,Rows.uptoBulkAll];omega
theorem NB{n:Nat}{y:DataW H×List MemPlace}(h:DataW.trod enc prog w base spare held n 21 cs=some y):∃x:Int,Bz w cs x/\1<=Rows.uptoBulk y.1:=by
 obtain⟨k,rfl,e,_⟩:=ln underlying21 h;subst e;exact⟨k,rfl,by simp[Rows.uptoBulk]⟩
theorem Ld{n:Nat}{y:DataW H×List MemPlace}(h:DataW.trod enc prog w base spare held n 80 cs=some y):∃v l,cs=[v]/\LI (fun _=>True) w v l/\l.length+1<=Rows.uptoBulk y.1:=by
 obtain⟨v,l,e,h1,i⟩:=BB.G0 (μ:=fun _:Int=>1) underlying80 (by kernel_rfl) (fun _ _ _ h=>NB h) h;refine⟨v,l,e,h1,?_⟩;have:(l.map fun _=>1).sum=l.length:=by clear h1 i;induction l with|nil=>rfl|cons a l j=>simp only[kN,mM,S5,j];omega
 omega
theorem OJ{n:Nat}{y:DataW H×List MemPlace}(h:DataW.trod enc prog w base spare held n 65 cs=some y):∃x:DKey,Gi w cs x/\1<=Rows.uptoBulk y.1:=by
 have c0:prog.cellsOf 65=6:=by kernel_rfl
 have c1:prog.cellsOf 3=1:=by kernel_rfl
 have c2:prog.cellsOf 5=1:=by kernel_rfl
 have o:prog.cellsOf 4=1:=by kernel_rfl
 obtain⟨xs,m,_,rfl,hl,j,i⟩:=oh underlying65 h;match xs,j with
 |[O,Q,T,U,V,X],_=>
  have h0:DataW.trod enc prog w base spare held m 3 ((cs.drop 0).take (prog.cellsOf 3))=some O:=i 0 _ rfl;have h1:DataW.trod enc prog w base spare held m 4 ((cs.drop 1).take (prog.cellsOf 4))=some Q:=i 1 _ rfl;have q:DataW.trod enc prog w base spare held m 5 ((cs.drop 2).take (prog.cellsOf 5))=some T:=i 2 _ rfl;have B:DataW.trod enc prog w base spare held m 4 ((cs.drop 3).take (prog.cellsOf 4))=some U:=i 3 _ rfl;have I:DataW.trod enc prog w base spare held m 4 ((cs.drop 4).take (prog.cellsOf 4))=some V:=i 4 _ rfl;have J:DataW.trod enc prog w base spare held m 3 ((cs.drop 5).take (prog.cellsOf 3))=some X:=i 5 _ rfl;rw[c0] at hl;rw[c1] at h0;rw[o] at h1;rw[c2] at q;rw[o] at B;rw[o] at I;rw[c1] at J;obtain⟨a0,a1,a2,a3,a4,a5,rfl⟩:=dy hl
  .clear i;simp only[mK,mh,nG,mP] at h0 h1 q B I J;obtain⟨Y,e0,_,_⟩:=ln underlying3 h0;obtain⟨k1,Z,_⟩:=p5 underlying4 h1;obtain⟨k2,e2,_,_⟩:=ln underlying5 q;obtain⟨k3,e3,_⟩:=p5 underlying4 B;obtain⟨k4,e4,_⟩:=p5 underlying4 I;obtain⟨k5,e5,_,_⟩:=ln underlying3 J;cases e0;cases Z;cases e2;cases e3;cases e4;cases e5;refine⟨⟨Y,k1,k2,k3,k4,k5⟩,rfl,?_⟩;simp only[Rows.uptoBulk];omega
theorem NN{n:Nat}{y:DataW H×List MemPlace}(h:DataW.trod enc prog w base spare held n 22 cs=some y):∃v l,cs=[v]/\NT (fun _=>True) w v l/\l.length+1<=Rows.uptoBulk y.1:=by
 obtain⟨v,l,e,h1,i⟩:=BB.G0 (μ:=fun _:DKey=>1) underlying22 (by kernel_rfl) (fun _ _ _ h=>OJ h) h;refine⟨v,l,e,h1,?_⟩;have:(l.map fun _=>1).sum=l.length:=by clear h1 i;induction l with|nil=>rfl|cons a l j=>simp only[kN,mM,S5,j];omega
 omega
end
section
open Go.ChangeShapes Go.Joins
variable {H:Type}{enc:TypeId×Value->H}{w:World}{base:Nat}{spare:Nat->Bool}{held:Bool}
theorem OG{n:Nat}{y:DataW H×List MemPlace}(h:DataW.trod enc prog w base spare held n 22 cs=some y):∃v l,cs=[v]/\NT (fun _=>True) w v l:=by
 obtain⟨v,l,e,h1,_⟩:=NN h;exact⟨v,l,e,h1⟩
end
section
open Go.ChangeShapes Go.WideShapes Go.ChangeAt Go.RowKit Go.Joins
def Ve : List (String × DataW Unit) := [("unicode/utf8.acceptRanges", Rows.laid_unicode_utf8_acceptRanges), ("unicode/utf8.first", Rows.laid_unicode_utf8_first)]
theorem Tm:Rows.laid_unicode_utf8_first=Lib.tabData .u8 (Pinned.utf8FirstZ.map Int.ofNat):=by kernel_rfl
theorem Vx:(List.range 256).all (fun j=>decide (128<=j->(Pinned.utf8FirstZ.map Int.ofNat)[j]?=some (firstT j)))=true:=by decide +kernel
theorem Ya:Rows.laid_unicode_utf8_acceptRanges (H:=Unit)=.agg ((List.range 16).map fun i=>.agg ([accLo i,accHi i].map fun z=>.lit (.int .u8 z))):=by kernel_rfl
theorem OX(h:laidMetH prog Ve W):Ee W:=by
 rw[qT _ _ _ (by kernel_rfl)] at h;have Z:=Lib.laidMet.reads h (.head _);have h3:=Lib.laidMet.reads h (.tail _ (.head _));have hf:∀j:Nat,128<=j->j<256->W.cell? ⟨1,j,none⟩=some (.int .u8 (firstT j)):=by
  intro j U V;obtain⟨g,t,cs,fuel,p,J,I,m,O⟩:=h3
  obtain rfl := kW ((show Tryz.prog.globalNamed "unicode/utf8.first" = some 1 by kernel_rfl).symm.trans J)
  obtain rfl:=kW ((show(prog.globals[1]?).map (·.type)=some 381 by kernel_rfl).symm.trans I);rw[Tm] at O;have o:=Lib.cells_of_tab underlying381 underlying5 (by kernel_rfl) (by kernel_rfl) O;have:=qw J m j;rw[this,<-lq,o];have ha:=lg.1 Vx j (mZ.2 V);rw[TC] at ha;rw[lP,ha U];rfl
 have Q:∀j:Nat,j<16->W.cell? ⟨2,j*2,none⟩=some (.int .u8 (accLo j))/\W.cell? ⟨2,j*2+1,none⟩=some (.int .u8 (accHi j)):=by
  intro i hi;obtain⟨g,t,cs,fuel,p,J,I,m,O⟩:=Z
  obtain rfl := kW ((show Tryz.prog.globalNamed "unicode/utf8.acceptRanges" = some 2 by kernel_rfl).symm.trans J)
  obtain rfl:=kW ((show(prog.globals[2]?).map (·.type)=some 384 by kernel_rfl).symm.trans I);rw[Ya] at O;obtain⟨X,d,q,T,he⟩:=Lib.array_elem underlying384 O i hi;simp only[lP,List.getElem?_range hi,mo,i6] at T;subst T;have c2:prog.cellsOf 383=2:=by kernel_rfl
  rw [c2] at he;have o:=Lib.ints_of_struct underlying383 (fun j f B=>by
   match j,B with
   |0,B=>simp at B;subst B;exact⟨underlying5,rfl,by kernel_rfl⟩
   |1,B=>simp at B;subst B;exact⟨underlying5,rfl,by kernel_rfl⟩
   | j+2,B=>simp at B) (by rw [c2];rfl) he
  have e0:=kZ (·[0]?) o;have Y:=kZ (·[1]?) o;simp at e0 Y;have w0:=qw J m (i*2);have w1:=qw J m (i*2+1);rw[w0,w1,<-lq,<-lq];exact⟨by simpa using e0,by simpa using Y⟩
 have:=lF W _ (Q 0 (by decide)).1;exact⟨this,hf,Q⟩
noncomputable def NW(os:Os):World:=
 let w0:=World.holding prog os ⟨#[],#[],[]⟩
 let put (h:Array Obj) (g:Nat) (cs:Array Value):Array Obj:=h.modify g fun
  |.cells _ t frozen=>.cells cs t frozen
  |o=>o
 let h1:=put w0.heap 1 (Pinned.utf8FirstZ.map fun(z:Nat)=>Value.int .u8 (Int.ofNat z)).toArray
 let j:=put h1 2 ((List.range 16).flatMap fun i=>[Value.int .u8 (accLo i),Value.int .u8 (accHi i)]).toArray
 { w0 with heap:=j }
theorem Mz(os:Os)(args:Array Value):laidMetH prog Ve ((NW os).forCall (fun _ _=>0) ⟨#[],args,[]⟩).memory:=by
 rw[qT _ _ _ (by kernel_rfl)];exact(LaidIn.of_run (l:=Ve) [2,1] 8 (by kernel_rfl) (by kernel_rfl) (by kernel_rfl) (by kernel_rfl)).met
def kB(v:A6):Prop:=(0<=v.kind/\v.kind<256)/\(-9223372036854775808<=v.n/\v.n<=9223372036854775807)/\(0<=v.f/\v.f<18446744073709551616)/\v.s.size<18446744073709551616
variable {H:Type}{enc:TypeId×Value->H}{w:World}{base:Nat}{spare:Nat->Bool}{held:Bool}
theorem H0{k:IntKind}{n:Int}(h:(Lit.int k n).wf=true):k.min<=n/\n<=k.max:=by
 simpa[Lit.wf] using h
theorem Jc{n:Nat}{y:DataW H×List MemPlace}(h:DataW.trod enc prog w base spare held n 77 cs=some y):∃x:A6,cs=x.cells/\kB x:=by
 have c2:prog.cellsOf 77=4:=by kernel_rfl
 have V:prog.cellsOf 5=1:=by kernel_rfl
 have X:prog.cellsOf 2=1:=by kernel_rfl
 have Y:prog.cellsOf 75=1:=by kernel_rfl
 have Z:prog.cellsOf 9=1:=by kernel_rfl
 obtain⟨z0,z1,z2,z3,m',_,hl,i,j,m,o⟩:=trod_struct4 underlying77 h;rw[c2] at hl;simp only[V,X,Y,Z] at i j m o;match cs,hl with
 |[a1,a2,a3,a4],_=>
  simp only[mK,mh,nG,mP] at i j m o;obtain⟨B,f0,_,w0⟩:=ln underlying5 i;obtain⟨k1,f1,_,w1⟩:=ln underlying2 j;obtain⟨k2,f2,_,w2⟩:=ln underlying75 m;obtain⟨q,f3,_,I⟩:=DataW.trod_string underlying9 o;cases f0;cases f1;cases f2;cases f3;refine⟨⟨B,k1,k2,q⟩,rfl,?_⟩;have J:=H0 w0;have r1:=H0 w1;have O:=H0 w2;have Q:IntKind.u8.min=0/\IntKind.u8.max=255:=by decide
  have T:IntKind.i64.min=-9223372036854775808/\IntKind.i64.max=9223372036854775807:=by decide
  have U:IntKind.u64.min=0/\IntKind.u64.max=18446744073709551615:=by decide
  rw[Q.1,Q.2] at J;rw[T.1,T.2] at r1;rw[U.1,U.2] at O;have r3:q.size<=9223372036854775807:=by
   simp only[Lit.wf,maxLen] at I;simpa using I
  exact⟨⟨J.1,show B<256 by omega⟩,r1,⟨O.1,show k2<18446744073709551616 by omega⟩,show q.size<18446744073709551616 by omega⟩
end
theorem BB.strip{k:Nat}{R:World->List Value->α->Prop}{P:α->Prop}{l:List α}(h:BB S k (fun w r x=>R w r x/\P x) w v l):BB S k R w v l/\∀x∈l,P x:=by
 obtain⟨a,c,e,h1,q,o⟩:=h;refine⟨⟨a,c,e,h1,q,fun i x j=>?_⟩,fun x j=>?_⟩
 .obtain⟨p,r,B,I,J,O,m⟩:=o i x j;exact⟨p,r,B,I,J,O,m.1⟩
 .obtain⟨i,hi⟩:=mO.1 j;obtain⟨_,_,_,_,_,_,m⟩:=o i x hi;exact m.2
section
open Go.ChangeShapes Go.WideShapes Go.ChangeAt Go.RowKit Go.Joins
variable {H:Type}{enc:TypeId×Value->H}{w:World}{base:Nat}{spare:Nat->Bool}{held:Bool}
theorem NF{n:Nat}{y:DataW H×List MemPlace}(h:DataW.trod enc prog w base spare held n 79 cs=some y):∃x:Attr,cs=x.cells/\Mv x:=by
 have c0:prog.cellsOf 79=5:=by kernel_rfl
 have c1:prog.cellsOf 3=1:=by kernel_rfl
 have c2:prog.cellsOf 77=4:=by kernel_rfl
 obtain⟨q,B,m,_,hl,h0,h1⟩:=trod_struct2 underlying79 h;rw[c0] at hl;simp only[c1,c2] at h0 h1;match cs,hl with
 |[a0,I,J,a3,a4],_=>
  simp only[mK,mh,nG,mP] at h0 h1;obtain⟨k,e0,_,w0⟩:=ln underlying3 h0;obtain⟨x,ex,o⟩:=Jc h1;cases e0;have i:=H0 w0;have j:IntKind.i64.min=-9223372036854775808/\IntKind.i64.max=9223372036854775807:=by decide
  rw[j.1,j.2] at i;refine⟨⟨k,x⟩,?_,i,o⟩;show _=zI k::x.cells;rw[<-ex]
end
section
open Go.ChangeShapes Go.WideShapes Go.ChangeAt Go.RowKit Go.Joins
variable {H:Type}{enc:TypeId×Value->H}{w:World}{base:Nat}{spare:Nat->Bool}{held:Bool}
theorem TP{x y:Attr}(h:x.cells=y.cells):x=y:=by
 obtain⟨k,v,n,f,s⟩:=x;obtain⟨i,v',j,m,o⟩:=y;simp only[Attr.cells,A6.cells,mn,Value.int.injEq,pE,pM,qg] at h;obtain⟨rfl,rfl,rfl,rfl,rfl⟩:=h;rfl
theorem val_inj{x y:A6}(h:x.cells=y.cells):x=y:=by
 obtain⟨v,n,f,s⟩:=x;obtain⟨v',i,j,m⟩:=y;simp only[A6.cells,mn,Value.int.injEq,pE,pM,qg] at h;obtain⟨rfl,rfl,rfl,rfl⟩:=h;rfl
theorem Z5{μ:α->Nat}{l:List α}{a:α}(h:a∈l):μ a<=(l.map μ).sum:=by
 induction l with
 |nil=>cases h
 |cons b l i=>
  simp only[kN,mM];rcases K8.1 h with rfl|h
  .omega
  .have:=i h;omega
end
section
open Go.ChangeShapes Go.WideShapes Go.ChangeAt Go.RowKit Go.Joins
variable {H:Type}{enc:TypeId×Value->H}{w:World}{base:Nat}{spare:Nat->Bool}{held:Bool}
theorem NG{n:Nat}{y:DataW H×List MemPlace}(h:DataW.trod enc prog w base spare held n 79 cs=some y):∃x:Attr,(DV w cs x/\(x.key<=9223372036854775807/\Hk x.val))/\LB x<=Rows.uptoBulk y.1:=by
 obtain⟨x,e,i⟩:=NF h;obtain⟨x',e',hm⟩:=NK h;have j:cs=x'.cells:=e';have:x=x':=TP (e.symm.trans j);subst this;exact⟨x,⟨e,i.1.2,⟨i.2.2.1,i.2.2.2.1⟩⟩,hm⟩
theorem OM{n:Nat}{y:DataW H×List MemPlace}(h:DataW.trod enc prog w base spare held n 133 cs=some y):∃x:Chg,(Eh w cs x/\(x.key<=9223372036854775807/\Hk x.val))/\Pf x<=Rows.uptoBulk y.1:=by
 have c2:prog.cellsOf 77=4:=by kernel_rfl
 obtain⟨x,e,hm⟩:=Oo h;obtain⟨xs,m,_,_,hl,i,j⟩:=oh underlying133 h;match xs,i with
 |[B,T,I],_=>
  have o:DataW.trod enc prog w base spare held m 77 ((cs.drop 2).take (prog.cellsOf 77))=some I:=j 2 _ rfl;rw[c2] at o;obtain⟨v,ev,q⟩:=Jc o;have e':cs=x.cells:=e;subst e';have:v=x.val:=val_inj (ev.symm.trans (by rfl));subst this;have c1:prog.cellsOf 3=1:=by kernel_rfl
  have h0:DataW.trod enc prog w base spare held m 3 ((x.cells.drop 0).take (prog.cellsOf 3))=some B:=j 0 _ rfl;rw[c1] at h0;obtain⟨k,J,_,O⟩:=ln underlying3 h0;have hk:x.key=k:=by
   have:[zI x.key]=[zI k]:=J;simpa using this
  have hr:=(H0 O).2;have Q:IntKind.i64.max=9223372036854775807:=by decide
  rw[Q] at hr;exact⟨x,⟨rfl,by omega,⟨q.2.1,q.2.2.1⟩⟩,hm⟩
theorem Ox{n:Nat}{y:DataW H×List MemPlace}(h:DataW.trod enc prog w base spare held n 43 cs=some y):∃v l,cs=[v]/\(CR (fun _=>True) w v l/\∀a∈l,a.key<=9223372036854775807/\Hk a.val)/\JC l+1<=Rows.uptoBulk y.1:=by
 obtain⟨v,l,e,hl,hm⟩:=BB.G0 (k:=5) (μ:=LB) (R:=fun(w:World) r (x:Attr)=>DV w r x/\(x.key<=9223372036854775807/\Hk x.val)) underlying43 (by kernel_rfl) (fun _ _ _ h=>NG h) h;exact⟨v,l,e,hl.strip,hm⟩
theorem OR{n:Nat}{y:DataW H×List MemPlace}(h:DataW.trod enc prog w base spare held n 81 cs=some y):∃v l,cs=[v]/\(Ey (fun _=>True) w v l/\∀a∈l,a.key<=9223372036854775807/\Hk a.val)/\JX l+1<=Rows.uptoBulk y.1:=by
 obtain⟨v,l,e,hl,hm⟩:=BB.G0 (k:=6) (μ:=Pf) (R:=fun(w:World) r (x:Chg)=>Eh w r x/\(x.key<=9223372036854775807/\Hk x.val)) underlying81 (by kernel_rfl) (fun _ _ _ h=>OM h) h;exact⟨v,l,e,hl.strip,hm⟩
set_option maxRecDepth 20000 in
theorem OQ{n:Nat}{y:DataW H×List MemPlace}(h:DataW.trod enc prog w base spare held n 83 cs=some y):∃x:Dop,(Cb (fun _=>True) w cs x/\LC x)/\Ef x<=Rows.uptoBulk y.1:=by
 have c0:prog.cellsOf 83=5:=by kernel_rfl
 have c1:prog.cellsOf 3=1:=by kernel_rfl
 have c2:prog.cellsOf 5=1:=by kernel_rfl
 have J:prog.cellsOf 80=1:=by kernel_rfl
 have O:prog.cellsOf 43=1:=by kernel_rfl
 have Q:prog.cellsOf 81=1:=by kernel_rfl
 obtain⟨xs,m,_,rfl,hl,j,i⟩:=oh underlying83 h;match xs,j with
 |[T,U,V,X,Y],_=>
  have h0:DataW.trod enc prog w base spare held m 5 ((cs.drop 0).take (prog.cellsOf 5))=some T:=i 0 _ rfl;have h1:DataW.trod enc prog w base spare held m 3 ((cs.drop 1).take (prog.cellsOf 3))=some U:=i 1 _ rfl;have o:DataW.trod enc prog w base spare held m 80 ((cs.drop 2).take (prog.cellsOf 80))=some V:=i 2 _ rfl;have q:DataW.trod enc prog w base spare held m 43 ((cs.drop 3).take (prog.cellsOf 43))=some X:=i 3 _ rfl;have B:DataW.trod enc prog w base spare held m 81 ((cs.drop 4).take (prog.cellsOf 81))=some Y:=i 4 _ rfl;rw[c0] at hl;rw[c2] at h0;rw[c1] at h1;rw[J] at o;rw[O] at q;rw[Q] at B;obtain⟨a0,a1,Z,a3,a4,rfl⟩:=bT hl
  .clear i;simp only[mK,mh,nG,mP] at h0 h1 o q B;obtain⟨k,e0,_,_⟩:=ln underlying5 h0;obtain⟨n,e1,_,_⟩:=ln underlying3 h1;obtain⟨rv,rl,e2,hr,b2⟩:=Ld o;obtain⟨sv,sl,e3,⟨hs,i3⟩,b3⟩:=Ox q;obtain⟨pv,I,e4,⟨hp,i4⟩,b4⟩:=OR B;cases e0;cases e1;cases e2;cases e3;cases e4;refine⟨⟨k,n,rl,sl,I⟩,⟨⟨Z,a3,a4,rfl,hr,hs,hp⟩,i3,i4⟩,?_⟩;simp only[Ef,kN,lp,Rows.uptoBulk,Rows.uptoBulkAll];omega
theorem NH{n:Nat}{y:DataW H×List MemPlace}(h:DataW.trod enc prog w base spare held n 34 cs=some y):∃v l,cs=[v]/\(BE (fun _=>True) (fun _=>True) w v l/\∀o∈l,LC o)/\BA l+1<=Rows.uptoBulk y.1:=by
 obtain⟨v,l,e,hl,hm⟩:=BB.G0 (k:=5) (μ:=Ef) (R:=fun(w:World) r (x:Dop)=>Cb (fun _=>True) w r x/\LC x) underlying34 (by kernel_rfl) (fun _ _ _ h=>OQ h) h;exact⟨v,l,e,hl.strip,hm⟩
end
section
open Go.ChangeShapes Go.WideShapes Go.ChangeAt Go.RowKit Go.Joins
variable {H:Type}{enc:TypeId×Value->H}{w:World}{base:Nat}{spare:Nat->Bool}{held:Bool}
set_option maxRecDepth 20000 in
theorem ON{n:Nat}{y:DataW H×List MemPlace}(h:DataW.trod enc prog w base spare held n 36 cs=some y):∃x:RV,(Td (fun _=>True) w cs x/\∀o∈x.x,LC o)/\BA x.x<=Rows.uptoBulk y.1:=by
 have c0:prog.cellsOf 36=3:=by kernel_rfl
 have c1:prog.cellsOf 3=1:=by kernel_rfl
 have c2:prog.cellsOf 34=1:=by kernel_rfl
 obtain⟨xs,m,_,rfl,hl,i,j⟩:=oh underlying36 h;match xs,i with
 |[B,I,J],_=>
  have h0:DataW.trod enc prog w base spare held m 34 ((cs.drop 0).take (prog.cellsOf 34))=some B:=j 0 _ rfl;have h1:DataW.trod enc prog w base spare held m 3 ((cs.drop 1).take (prog.cellsOf 3))=some I:=j 1 _ rfl;have q:DataW.trod enc prog w base spare held m 3 ((cs.drop 2).take (prog.cellsOf 3))=some J:=j 2 _ rfl;rw[c0] at hl;rw[c2] at h0;rw[c1] at h1 q;match cs,hl with
  |[a0,X,Y],_=>
   clear j;simp only[mK,mh,nG,mP] at h0 h1 q;obtain⟨v1,l1,O,⟨Q,T⟩,Z⟩:=NH h0;obtain⟨k1,U,_,_⟩:=ln underlying3 h1;obtain⟨k2,V,_,_⟩:=ln underlying3 q;cases O;cases U;cases V;refine⟨⟨l1,k1,k2⟩,⟨⟨_,rfl,Q⟩,T⟩,?_⟩;simp only[kN,lp,Rows.uptoBulk,Rows.uptoBulkAll];omega
theorem NA{n:Nat}{y:DataW H×List MemPlace}(h:DataW.trod enc prog w base spare held n 23 cs=some y):∃v l,cs=[v]/\Iv (fun _=>True) w v l/\∀s∈l,(∀o∈s.x,LC o)/\BA s.x<=Rows.uptoBulk y.1:=by
 obtain⟨v,l,e,hl,hm⟩:=BB.G0 (k:=3) (μ:=fun x:RV=>BA x.x) (R:=fun(w:World) r (x:RV)=>Td (fun _=>True) w r x/\∀o∈x.x,LC o) underlying23 (by kernel_rfl) (fun _ _ _ h=>ON h) h;obtain⟨h1,j⟩:=hl.strip;refine⟨v,l,e,h1,fun x i=>⟨j x i,?_⟩⟩;have:=Z5 (μ:=fun x:RV=>BA x.x) i;omega
end
section
open Go.ChangeShapes Go.WideShapes Go.ChangeAt Go.RowKit
set_option linter.unusedVariables false
theorem jW:ownKnob prog.godebug=none:=by kernel_rfl
theorem laidOut:laidOutB prog=true:=by kernel_rfl
set_option maxRecDepth 100000 in
theorem JH(os:Os)(o:os.Started)(H:Type)(enc:TypeId×Value->H)(F0:Stop.Interp) :
  ReturnsInHanded {} Tryz.checked os 7 .any ((Rows.OpenSpec.upto Rows.textInvertsSpec).preRow enc prog Tryz.f7 [] false Rows.textInvertsUptoRow.laid) (((Rows.OpenSpec.upto Rows.textInvertsSpec).at F0).post enc prog Tryz.f7 false true false false):=by
 refine returnsInHanded_of_row (C:=Tryz.checked) (s:=(Rows.OpenSpec.upto Rows.textInvertsSpec)) jW o (by kernel_rfl) func7
  (witness_row_at (enc:=enc) (C:=Tryz.checked) (s:=(Rows.OpenSpec.upto Rows.textInvertsSpec)) false (NW os) #[.slice none 0 0,zI 0,.slice none 0 0] rfl (by kernel_rfl) (by kernel_rfl) (by kernel_rfl)
   ⟨⟨(OpenSpec.pre_some (k:=Rows.uptoSmall) rfl [] false _ _).2 ⟨_,_,_,DataW.Whole_of_whole (fuel:=8) (x:=([.nil,.lit (.int .i64 0),.nil],[],[])) (by kernel_rfl),by kernel_rfl,by kernel_rfl⟩,Mz os _⟩,sizedMet_of_sizedB (fuel:=8) (by kernel_rfl)⟩) ?_
 intro W base args ds gs before B hW _ T _ hL _ _;have U:=hW;obtain⟨p,q,J,hV,rfl,ak,al⟩:=hW;have hA:DataW.TrodAll enc prog W 0 (fun _=>true) true Tryz.f7.params.toList args.toList ds p:=J;have i:∀(j:Nat) t v,Tryz.f7.params[j]?=some t->args[j]?=some v->Value.okWide prog W .any base t v:=B;rw[Tryz.params7] at hA i;have O:Ee W:=OX hL;obtain⟨v0,an,d0,av,p0,q0,V,rfl,rfl,h0,r0⟩:=trodAll_cons hA;obtain⟨v1,ax,d1,ay,p1,q1,rfl,rfl,rfl,h1,r1⟩:=trodAll_cons r0;obtain⟨v2,b0,d2,b1,p2,q2,rfl,rfl,rfl,X,r2⟩:=trodAll_cons r1;obtain⟨rfl,rfl,rfl⟩:=trodAll_nil r2;obtain rfl:args=#[v0,v1,v2]:=by cases args;simp_all
 obtain⟨rfl,rfl⟩:=trodVars_none hV;have hk:=pT (T _ rfl);simp only[kK,Rows.uptoBulkAll] at hk;have Y:∀x∈p0,x.block<W.heap.size:=by obtain⟨m,hm⟩:=h0;exact DataW.trod_lt m _ _ _ hm
 obtain⟨Z,a1⟩:=id h0;obtain⟨u0,l0,e0,s0⟩:=OG a1;try dsimp only at s0
 obtain⟨a0,n0,c0,rfl⟩:=okWide_slice underlying22 (i 0 22 v0 rfl rfl);simp only[Value.cells,mn,qg] at e0;subst e0;obtain⟨x1,rfl,rfl,rfl,w1⟩:=open_int underlying3 (i 1 3 v1 rfl rfl) h1;have a6:∀x∈p2,x.block<W.heap.size:=by obtain⟨m,hm⟩:=X;exact DataW.trod_lt m _ _ _ hm
 obtain⟨a7,a8⟩:=id X;obtain⟨u2,l2,e2,Q⟩:=NA a8;try dsimp only at Q
 obtain⟨a2,n2,c2,rfl⟩:=okWide_slice underlying23 (i 2 23 v2 rfl rfl);simp only[Value.cells,mn,qg] at e2;subst e2;clear J B;refine((Lb s0 Q.1 O (fun s hs=>⟨(Q.2 s hs).1,lV (Q.2 s hs).2 (by omega)⟩))).mono fun e W' ⟨v,he,hv,hg⟩=>?_;subst he;subst hv;have I:Below W.heap.size W W':=Mod.below hg (Mp _) fun _ h=>h.elim;exact⟨_,rfl,_,_,_,[],_,[],U,trodAll_mk1 (shut_bool underlying4 _),(qx (Below.trod laidOut (by kernel_rfl) (pT (by kernel_rfl)) h0 I Y) (qx (shut_int underlying3 w1) (qx (Below.trod laidOut (by kernel_rfl) (pT (by kernel_rfl)) X I a6) trodAll_mk0))),rfl,I.frame _,fun h=>by cases h⟩
theorem iu{a0 a1 a2 a3 a4 a5 a6 a7 a8 a9 i j m o q B I J O Q T U a22 V X a25 Y Z ak al an av:Bool}(h0:a0=true)(h1:a1=true)(h2:a2=true)(h3:a3=true)(h4:a4=true)(h5:a5=true)(h6:a6=true)(h7:a7=true)(h8:a8=true)(h9:a9=true)(ax:i=true)(ay:j=true)(b0:m=true)(b1:o=true)(b2:q=true)(b6:B=true)(b7:I=true)(b8:J=true)(b9:O=true)(ba:Q=true)(bb:T=true)(bc:U=true)(bd:a22=true)(bk:V=true)(bl:X=true)(bn:a25=true)(bp:Y=true)(bs:Z=true)(bx:ak=true)(c4:al=true)(c6:an=true)(c7:av=true):(((((((((((((((((((((((((((((((a0&&a1)&&a2)&&a3)&&a4)&&a5)&&a6)&&a7)&&a8)&&a9)&&i)&&j)&&m)&&o)&&q)&&B)&&I)&&J)&&O)&&Q)&&T)&&U)&&a22)&&V)&&X)&&a25)&&Y)&&Z)&&ak)&&al)&&an)&&av)=true:=by simp only[h0,h1,h2,h3,h4,h5,h6,h7,h8,h9,ax,ay,b0,b1,b2,b6,b7,b8,b9,ba,bb,bc,bd,bk,bl,bn,bp,bs,bx,c4,c6,c7];rfl
set_option maxHeartbeats 0 in
theorem JB:joinedFacts prog 7 Tryz.f7 (Rows.OpenSpec.upto Rows.textInvertsSpec).bare Rows.textInvertsUptoRow=true:=by
 unfold joinedFacts;refine iu ?_ ?_ ?_ ?_ ?_ ?_ ?_ ?_ ?_ ?_ ?_ ?_ ?_ ?_ ?_ ?_ ?_ ?_ ?_ ?_ ?_ ?_ ?_ ?_ ?_ ?_ ?_ ?_ ?_ ?_ ?_ ?_ ;all_goals (as_aux_lemma=>kernel_rfl)
theorem KJ:Rows.TextInvertsUptoSaid:=
 OpenClaim.holds_of_cond 7 Tryz.f7 rfl rfl rfl rfl rfl rfl rfl ⟨rfl,rfl,rfl,rfl,rfl⟩ rfl rfl rfl rfl rfl (by kernel_rfl) func7 JB
  (pT (by kernel_rfl)) (by unfold Func.isWrapper;first|(rw[DN (by decide +kernel)];kernel_rfl)|(rw[Bq (by decide +kernel)];exact⟨rfl,rfl⟩))
  (fun os i H enc _ j=>JH os i H enc j)
theorem TextInvertsUpto_proved:Rows.TextInvertsUptoCardSaid:=
 Claim7.holds_tied_plain_at .later [] [.data,.pinned] true Rows.textInvertsUptoCard.stood.harness false
  KJ (fun _ h=>by cases h) (by kernel_rfl) (fun _ h=>by cases h) textInvertsUpto_row_tie rfl ⟨rfl,rfl⟩ (by kernel_rfl) rfl
  (fun f fn o m=>by
   obtain rfl : f = 7 := kW ((show Tryz.prog.funcNamed "rubric/rubriclaw25.TextInverts" = some 7 by kernel_rfl).symm.trans o) |>.symm
   obtain rfl:fn=Tryz.f7:=(kW (func7.symm.trans m)).symm;exact ⟨by kernel_rfl,fun j t ht=>by
    rw[Tryz.params7] at ht;have hm:t∈[22,3,23]:=by simpa using qz ht
    have i:([22,3,23].all fun u=>!prog.wantsStandIn u)=true:=by kernel_rfl
    exact (show prog.wantsStandIn t=false by simpa using lg.1 i t hm)⟩)
  (by kernel_rfl)
#print axioms TextInvertsUpto_proved
end
end Go.Proofs.YtmdhibffnkhcnaaGreatDoor
