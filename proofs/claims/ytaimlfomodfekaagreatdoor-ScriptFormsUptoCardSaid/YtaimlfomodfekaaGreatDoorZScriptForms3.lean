/- Contracts of the script's reader: numbers, values, attributes, changes, ops, keys, and rows of them. Conditions: the sizes. Contracts of the script's reader: commands. Conditions: the sizes; the table of fields lies in memory. Contract of the script's Read. Conditions: the sizes; the table of fields lies in memory. Contracts of the script's Write: whether a script may be; its bytes. Conditions: the sizes; the numbers lie in their types; the table of fields lies in memory. Contracts of the script's Write, Same and May. Conditions: the sizes; the numbers lie in their types; the table of fields lies in memory. Contract of the document's copying of a script: in memory of its own. Condition: the size. By a program of ours: of each function below the predicate that its code comes to, and that it is sound. No conditions. Contracts: bytes put behind a row of one's own; the document's forms of numbers. Conditions: the sizes. Contracts: the document's forms of a script, and whether one may be. Conditions: the sizes; the numbers lie in their types. Contracts: the document's bytes of a script. Conditions: the sizes; the numbers lie in their types. By a program of ours: of each function below the predicate that its code comes to, and that it is sound. No conditions. -/
import Derived.Test.YtaimlfomodfekaaGreatDoorZScriptForms2
set_option linter.unusedSimpArgs false
set_option linter.unusedVariables false
namespace Go.Proofs.YtaimlfomodfekaaGreatDoor
open Go Go.K

section
variable {α β γ:Type} {f:α→List Int} {g:β→List Int} {R:α→Prop} {Q:β→Prop} {b:List Int} {p q r:Nat} {bad bad1 bad2:Bool} {a:α} {c:β}
theorem RdP.cat (hf:PF f R) (x:RdP f R b p bad a q bad1) (y:RdP g Q b q bad1 c r bad2):RdP (Go.Proofs.YtaimlfomodfekaaGreatDoor.cat f g) (both R Q) b p bad (a,c) r bad2:=
 x.seq (g:=fun _=>g) (Q:=fun _=>Q) hf y (fun h1 h2=>⟨⟨h1,h2⟩,rfl⟩) fun z hz=>⟨z.1,z.2,hz.1,hz.2,rfl⟩
theorem RdP.iso {i:γ→α} {T:γ→Prop} {h:γ→List Int} {z:γ} (x:RdP f R b p bad (i z) q bad1) (he:∀ z,h z=f (i z)) (h1:R (i z)→T z) (h2:∀ z,T z→R (i z)):RdP h T b p bad z q bad1:=
 x.map (fun h=>⟨h1 h,he z⟩) fun z hz=>⟨i z,h2 z hz,he z⟩
end
theorem uz_unzig {n:Nat} (h:n < 18446744073709551616):uz (unzig n)=uv n∧In64 (unzig n):=by
 have:=zig_unzig h
 exact ⟨by unfold uz;rw [this.1],this.2⟩
theorem eSC_cat (z:Chg):eSC z=cat uz (cat uf eSV) (z.key,z.gone,z.val):=rfl
theorem eSA_pos (a:Attr):1≤(eSA a).length:=by unfold eSA uz;have:=uv_pos (zigN a.key);rw [List.length_append];omega
theorem eSC_pos (a:Chg):1≤(eSC a).length:=by unfold eSC uz;have:=uv_pos (zigN a.key);rw [List.length_append];omega
theorem uz_pos (a:Int):1≤(uz a).length:=uv_pos _
theorem eSO_pos (a:Dop):1≤(eSO a).length:=by unfold eSO;have:=uv_pos a.kind.toNat;rw [List.length_append];omega
theorem eSK_pos (a:DKey):1≤(eSK a).length:=by unfold eSK uz;have:=uv_pos (zigN a.id);rw [List.length_append];omega
theorem wrap_i32 (n:Int):-2147483648≤IntKind.i32.wrap n∧IntKind.i32.wrap n≤2147483647∧(In32 n→IntKind.i32.wrap n=n):=by
 have e1:(2:Int) ^ IntKind.i32.bits=4294967296:=by decide
 have e2:(2:Int) ^ (IntKind.i32.bits - 1)=2147483648:=by decide
 unfold IntKind.wrap In32
 simp only [e1,e2,IntKind.signed,Bool.true_and,decide_eq_true_eq]
 split <;> omega
section
variable {S:Nat→Prop} {W W':World} {c:Nat} {bv:Value} {b:List Int} {p q:Nat} {bad:Bool}
variable (hb:∀ x ∈ b,0≤x∧x < 256) (hl:b.length≤1099511620000)
include hb hl
theorem uptoS_ok {most:Nat} (h:RdS S W c bv b p bad) (hm:most < 18446744073709551616) :
  callK Tryz.prog 66 [.pointer (some ⟨c,0,none⟩),.int .u64 most] (fun v w'=>∃ (n q:Nat) (bad1:Bool),v=.int .u64 n∧n≤most∧RdS S w' c bv b q bad1∧Mod (fun z=>z=c) W w'∧RdP uv (fun n=>n≤most) b p bad n q bad1) W:=by
 apply S66_ok
 unfold S66
 have hl:b.length≤1099511627776:=by omega
 have gd:Grow W W.drew:=Mod.drew _ _
 have hd:=h.grow gd
 refine drawC_i (fun _ _=>False) ?_
 refine nilckK_s ?_
 rw [faK_i,addr0]
 refine sld1_i ⟨hd.c0,fun _ _ h=>h⟩ ?_
 refine nilckK_s ?_
 rw [faK_i,addr0]
 refine sld1_i ⟨hd.c1,fun _ _ h=>h⟩ ?_
 refine callK_mono (ruint_ok hd.row hb h.len hl) ?_
 have hbd:∀ x ∈ b.drop p,0≤x∧x < 256:=fun x hx=>hb x (List.mem_of_mem_drop hx)
 have fail:(∀ n t,n≤most→b.drop p≠uv n++t)→∀ W',RdS S W' c bv b p true→Mod (fun z=>z=c) W.drew W'→∃ (n q:Nat) (bad1:Bool),(Value.int .u64 0)=.int .u64 n∧n≤most∧RdS S W' c bv b q bad1∧Mod (fun z=>z=c) W W'∧RdP uv (fun n=>n≤most) b p bad n q bad1:=fun hno W' h' m'=>
  ⟨0,p,true,rfl,Nat.zero_le _,h',(gd.mono fun _ _ e=>e.elim).trans m',RdP.no h.len hno⟩
 rintro _ _ ⟨rfl,⟨n,t,rfl,he⟩ | ⟨rfl,he⟩⟩
 ·refine ⟨Mod.refl _ _,?_⟩
  refine extK_i (vs:=[_,_,_]) rfl (extK_i (vs:=[_,_,_]) rfl (extK_i (vs:=[_,_,_]) rfl ?_))
  obtain ⟨hdr,hn⟩:=read_uv hbd he
  obtain ⟨s1,s2,s3⟩:=drop_suf h.len hdr
  rw [s1]
  refine JoinK_i (fun _ W'=>W'=W.drew∧n≤most) ?_ ?_
  ·rintro _ _ ⟨rfl,hle⟩ _
   refine hd.move s2 fun W' h' m'=>⟨n,_,bad,rfl,hle,h',(gd.mono fun _ _ e=>e.elim).trans m',RdP.ok (by omega) s2 hle (by rw [s3];exact hdr)⟩
  ·rw [neK_i]
   refine condK_neg (fun _=>?_) fun e=>(e rfl).elim
   rw [gtK_i]
   refine condK_p (fun e=>hd.bads (fail fun n' t' hn' e'=>?_)) fun e=>⟨rfl,by omega⟩
   rw [hdr] at e'
   have:=(uv_pre hn (by omega) e').1
   omega
 ·refine ⟨Mod.refl _ _,?_⟩
  refine extK_i (vs:=[_,_,_]) rfl (extK_i (vs:=[_,_,_]) rfl (extK_i (vs:=[_,_,_]) rfl ?_))
  refine JoinK_i (fun _ _=>False) (fun _ _ h=>h.elim) ?_
  rw [neK_i]
  refine condK_neg (fun e=>by cases e) fun _=>hd.bads (fail fun n' t' hn' e'=>?_)
  rw [e',uv_read _ (by omega)] at he
  cases he
theorem bsS_ok (h:RdS S W c bv b p bad) :
  callK Tryz.prog 71 [.pointer (some ⟨c,0,none⟩)] (fun v w'=>∃ (x:List Int) (q:Nat) (bad1:Bool),RBytes (fun z=>W.heap.size≤z) w' v x∧(∀ z ∈ x,0≤z∧z < 256)∧x.length≤b.length∧RdS S w' c bv b q bad1∧Mod (fun z=>z=c) W w'∧RdP encX (fun x=>x.length < 9223372036854775808) b p bad x q bad1) W:=by
 apply S71_ok
 unfold S71
 have hl:b.length≤1099511627776:=by omega
 have gd:Grow W W.drew:=Mod.drew _ _
 have hd:=h.grow gd
 obtain ⟨a,n,ebv,_⟩:=h.row.shape
 refine drawC_i (fun _ _=>False) ?_
 refine nilckK_s ?_
 rw [faK_i,addr0]
 refine sld1_i ⟨hd.c0,fun _ _ h=>h⟩ ?_
 refine nilckK_s ?_
 rw [faK_i,addr0]
 refine sld1_i ⟨hd.c1,fun _ _ h=>h⟩ ?_
 refine nilckK_s ?_
 rw [faK_i,addr0]
 refine sld1_i ⟨hd.c0,fun _ _ h=>h⟩ ?_
 have hlen:∀ {k:Value→Prop},k (.int .i64 b.length)→lenK bv k:=fun {k} hk=>by subst ebv;rw [lenK_i];exact hk
 refine hlen ?_
 refine callK_mono (rbat_ok hd.row hb h.len hl) ?_
 have hbd:∀ x ∈ b.drop p,0≤x∧x < 256:=fun x hx=>hb x (List.mem_of_mem_drop hx)
 rintro _ w1 ⟨g1,⟨x,q,xv,rfl,o1,hpq,hq,he⟩ | ⟨⟨x,y,rfl⟩,he⟩⟩
 ·refine ⟨g1.mono fun _ _ e=>e.elim,?_⟩
  refine extK_i (vs:=[_,_,_]) rfl (extK_i (vs:=[_,_,_]) rfl (extK_i (vs:=[_,_,_]) rfl ?_))
  rw [neK_i]
  refine condK_neg (fun _=>?_) fun e=>(e rfl).elim
  have hxl:=congrArg List.length he
  unfold encX at hxl
  rw [List.length_append,List.length_append,List.length_drop,List.length_drop] at hxl
  have hlt:=h.lt
  refine (hd.grow g1).move hq fun W' h' m'=>⟨x,q,bad,?_,fun z hz=>hbd z ?_,by omega,h',((gd.trans g1).mono fun _ _ e=>e.elim).trans m',RdP.ok hpq hq (show x.length < _ by omega) he⟩
  ·refine (SlR.sub (OwnR.sl o1) (fun z _ hz=>hz.1) (by decide) fun _ _ h=>h).mod m' (fun z _ hz e=>?_) (by decide) fun _ _ h=>h
   subst e
   have:W.drew.heap.size=W.heap.size:=rfl
   omega
  ·rw [he];unfold encX
   exact List.mem_append_left _ (List.mem_append_right _ hz)
 ·refine ⟨g1.mono fun _ _ e=>e.elim,?_⟩
  refine extK_i (vs:=[_,_,_]) rfl (extK_i (vs:=[_,_,_]) rfl (extK_i (vs:=[_,_,_]) rfl ?_))
  rw [neK_i]
  refine condK_neg (fun e=>by cases e) fun _=>(hd.grow g1).bads fun W' h' m'=>⟨[],p,true,SlR.nil,by simp,by simp,h',((gd.trans g1).mono fun _ _ e=>e.elim).trans m',RdP.no h.len fun x t hx e=>he x t hx e⟩
theorem intS_ok (h:RdS S W c bv b p bad) :
  callK Tryz.prog 44 [.pointer (some ⟨c,0,none⟩)] (fun v w'=>∃ (n:Int) (q:Nat) (bad1:Bool),v=.int .i64 n∧In64 n∧RdS S w' c bv b q bad1∧Mod (fun z=>z=c) W w'∧RdP uz In64 b p bad n q bad1) W:=by
 apply S44_ok
 unfold S44
 have hl:b.length≤1099511627776:=by omega
 have gd:Grow W W.drew:=Mod.drew _ _
 have hd:=h.grow gd
 refine drawC_i (fun _ _=>False) ?_
 refine nilckK_s ?_
 rw [faK_i,addr0]
 refine sld1_i ⟨hd.c0,fun _ _ h=>h⟩ ?_
 refine nilckK_s ?_
 rw [faK_i,addr0]
 refine sld1_i ⟨hd.c1,fun _ _ h=>h⟩ ?_
 refine callK_mono (rint_ok hd.row hb h.len hl) ?_
 have hbd:∀ x ∈ b.drop p,0≤x∧x < 256:=fun x hx=>hb x (List.mem_of_mem_drop hx)
 rintro _ _ ⟨rfl,⟨n,t,rfl,he⟩ | ⟨⟨x,y,rfl⟩,he⟩⟩
 ·refine ⟨Mod.refl _ _,?_⟩
  refine extK_i (vs:=[_,_,_]) rfl (extK_i (vs:=[_,_,_]) rfl (extK_i (vs:=[_,_,_]) rfl ?_))
  rw [neK_i]
  refine condK_neg (fun _=>?_) fun e=>(e rfl).elim
  obtain ⟨hdr,hn⟩:=read_uv hbd he
  obtain ⟨s1,s2,s3⟩:=drop_suf h.len hdr
  rw [s1]
  obtain ⟨u1,u2⟩:=uz_unzig hn
  exact hd.move s2 fun w4 h4 m4=>⟨_,_,bad,rfl,u2,h4,(gd.mono fun _ _ e=>e.elim).trans m4,RdP.ok (by omega) s2 u2 (by rw [u1,s3];exact hdr)⟩
 ·refine ⟨Mod.refl _ _,?_⟩
  refine extK_i (vs:=[_,_,_]) rfl (extK_i (vs:=[_,_,_]) rfl (extK_i (vs:=[_,_,_]) rfl ?_))
  rw [neK_i]
  refine condK_neg (fun e=>by cases e) fun _=>hd.bads fun w3 h3 m3=>⟨0,p,true,rfl,by unfold In64;omega,h3,(gd.mono fun _ _ e=>e.elim).trans m3,RdP.no h.len fun n' t' hn' e'=>?_⟩
  unfold uz at e'
  rw [e',uv_read _ (zigN_lt hn'.1 hn'.2)] at he
  cases he
theorem flagS_ok (h:RdS S W c bv b p bad) :
  callK Tryz.prog 67 [.pointer (some ⟨c,0,none⟩)] (fun v w'=>∃ (n:Bool) (q:Nat) (bad1:Bool),v=.bool n∧RdS S w' c bv b q bad1∧Mod (fun z=>z=c) W w'∧RdP uf (fun _=>True) b p bad n q bad1) W:=by
 apply S67_ok
 unfold S67
 refine callK_mono (uptoS_ok hb hl (most:=1) h (by decide)) ?_
 rintro _ w1 ⟨n,q,bad1,rfl,hn,h1,m1,r1⟩
 rw [eqK_i]
 refine ⟨decide (n=1),q,bad1,by congr 1;rw [decide_eq_decide];omega,h1,m1,r1.map (fun _=>⟨trivial,?_⟩) fun z _=>⟨if z then 1 else 0,by split <;> omega,rfl⟩⟩
 unfold uf
 rcases (show n=0∨n=1 by omega) with rfl | rfl <;> rfl
theorem runeS_ok (h:RdS S W c bv b p bad) :
  callK Tryz.prog 86 [.pointer (some ⟨c,0,none⟩)] (fun v w'=>∃ (n:Int) (q:Nat) (bad1:Bool),v=.int .i32 n∧RdS S w' c bv b q bad1∧Mod (fun z=>z=c) W w'∧RdP uz In32 b p bad n q bad1) W:=by
 apply S86_ok
 unfold S86
 refine callK_mono (intS_ok hb hl h) ?_
 rintro _ w1 ⟨n,q,bad1,rfl,hn,h1,m1,r1⟩
 refine runK_i (run_conv (k:=.i32) w1 (by kernel_rfl) (by kernel_rfl)) (runK_i (run_conv (k:=.i64) w1 (by kernel_rfl) (by kernel_rfl)) ?_)
 have h32:=wrap_i32 n
 rw [wrap64 (by omega) (by omega),neK_i]
 by_cases h3:In32 n
 ·have e:=h32.2.2 h3
  rw [e]
  refine condK_neg (fun _=>runK_i (run_conv (k:=.i32) w1 (by kernel_rfl) (by kernel_rfl)) ?_) fun e=>(e rfl).elim
  rw [e]
  exact ⟨n,q,bad1,rfl,h1,m1,r1.map (fun _=>⟨h3,rfl⟩) fun z hz=>⟨z,hz.i64,rfl⟩⟩
 ·refine condK_neg (fun e=>(h3 (by unfold In32;omega)).elim) fun _=>h1.bads fun w2 h2 m2=>?_
  refine runK_i (run_conv (k:=.i32) w2 (by kernel_rfl) (by kernel_rfl)) ⟨_,q,true,rfl,h2,m1.trans m2,?_⟩
  refine ⟨r1.le,r1.len,fun _=>rfl,fun e=>(by cases e),fun e z t hz ht=>?_⟩
  have e1:=r1.full e z t hz.i64 ht
  obtain ⟨x1,x2⟩:=r1.sound e1
  rw [ht] at x2
  exact (h3 ((pf_uz _ _ _ _ hz.i64 x1 x2).1 ▸ hz)).elim
theorem valS_ok (h:RdS S W c bv b p bad) :
  callK Tryz.prog 90 [.pointer (some ⟨c,0,none⟩)] (fun v w'=>∃ (x:AVal) (q:Nat) (bad1:Bool),v=.agg x.cells.toArray∧RdS S w' c bv b q bad1∧Mod (fun z=>z=c) W w'∧RdP eSV InSV b p bad x q bad1) W:=by
 apply S90_ok
 unfold S90
 have hclt:=h.lt
 refine BoxN.new fun g w1 hg hz g1 b1=>?_
 refine callK_mono (uptoS_ok hb hl (most:=255) (h.grow g1) (by decide)) ?_
 rintro _ w2 ⟨k,q2,bad2,rfl,hk,h2,m2,r2⟩
 refine conv_u8n hk ?_
 refine callK_mono (intS_ok hb hl h2) ?_
 rintro _ w3 ⟨n,q3,bad3,rfl,hn,h3,m3,r3⟩
 refine callK_mono (uptoS_ok hb hl (most:=18446744073709551615) h3 (by decide)) ?_
 rintro _ w4 ⟨f,q4,bad4,rfl,hf,h4,m4,r4⟩
 refine callK_mono (bsS_ok hb hl h4) ?_
 rintro xv w5 ⟨x,q5,bad5,rx,hx,hxl,h5,m5,r5⟩
 refine runK_i (run_str rx hx) ?_
 refine ⟨(⟨k,n,f,strOf x⟩:AVal).cells.toArray,by kernel_rfl,?_⟩
 have m25:=((m2.trans m3).trans m4).trans m5
 refine (b1.mod m25 (by omega)).stn (n:=4) (us:=(⟨k,n,f,strOf x⟩:AVal).cells) rfl rfl (AVal.one _) fun w6 b6 m6=>?_
 refine b6.ld (n:=4) rfl ⟨⟨k,n,f,strOf x⟩,q5,bad5,rfl,h5.mod m6 fun z hz e=>by omega,((g1.mono fun _ _ e=>e.elim).trans m25).next m6 fun z hz e=>by omega,?_⟩
 have r:=RdP.cat (pf_uv (by decide)) r2 (RdP.cat pf_uz r3 (RdP.cat (pf_uv (by decide)) r4 r5))
 have ev:vT ⟨k,n,f,strOf x⟩=(k,n,f,x):=by
  show (((k:Nat):Int).toNat,n,((f:Nat):Int).toNat,bytesL (strOf x))=_
  rw [bytesL_strOf hx];rfl
 refine RdP.iso (f:=fVT) (R:=pVT) (i:=vT) (by rw [ev];exact r) (fun _=>rfl) (fun hp=>?_) fun z hz=>vT_in hz
 rw [ev] at hp
 obtain ⟨p1,p2,p3,p4⟩:=hp
 refine ⟨⟨Int.natCast_nonneg _,?_⟩,p2,⟨Int.natCast_nonneg _,?_⟩,?_⟩
 ·show (k:Int) < 256
  have:k≤255:=p1
  omega
 ·show (f:Int) < 18446744073709551616
  have:f≤18446744073709551615:=p3
  omega
 ·show (strOf x).size < _
  rw [←bytesL_len,bytesL_strOf hx];exact p4
theorem attrS_ok (h:RdS S W c bv b p bad) :
  callK Tryz.prog 88 [.pointer (some ⟨c,0,none⟩)] (fun v w'=>∃ (a:Attr) (q:Nat) (bad1:Bool),v=.agg a.cells.toArray∧RdS S w' c bv b q bad1∧Mod (fun z=>z=c) W w'∧RdP eSA InSA b p bad a q bad1) W:=by
 apply S88_ok
 unfold S88
 have hclt:=h.lt
 refine BoxN.new fun g w1 hg hz g1 b1=>?_
 refine callK_mono (intS_ok hb hl (h.grow g1)) ?_
 rintro _ w2 ⟨key,q2,bad2,rfl,hk,h2,m2,r2⟩
 refine callK_mono (valS_ok hb hl h2) ?_
 rintro _ w4 ⟨v,q4,bad4,rfl,h4,m4,r4⟩
 refine ⟨(⟨key,v⟩:Attr).cells.toArray,by kernel_rfl,?_⟩
 have m24:=m2.trans m4
 refine (b1.mod m24 (by omega)).stn (n:=5) (us:=(⟨key,v⟩:Attr).cells) rfl rfl (RAttr.one (w:=w1) rfl) fun w5 b5 m5=>?_
 exact b5.ld (n:=5) rfl ⟨⟨key,v⟩,q4,bad4,rfl,h4.mod m5 fun z hz e=>by omega,((g1.mono fun _ _ e=>e.elim).trans m24).next m5 fun z hz e=>by omega,RdP.iso (i:=fun a:Attr=>(a.key,a.val)) (RdP.cat pf_uz r2 r4) (fun _=>rfl) (fun h=>h) fun z hz=>hz⟩
theorem chgS_ok (h:RdS S W c bv b p bad) :
  callK Tryz.prog 73 [.pointer (some ⟨c,0,none⟩)] (fun v w'=>∃ (a:Chg) (q:Nat) (bad1:Bool),v=.agg a.cells.toArray∧RdS S w' c bv b q bad1∧Mod (fun z=>z=c) W w'∧RdP eSC InSC b p bad a q bad1) W:=by
 apply S73_ok
 unfold S73
 have hclt:=h.lt
 refine BoxN.new fun g w1 hg hz g1 b1=>?_
 refine callK_mono (intS_ok hb hl (h.grow g1)) ?_
 rintro _ w2 ⟨key,q2,bad2,rfl,hk,h2,m2,r2⟩
 refine callK_mono (flagS_ok hb hl h2) ?_
 rintro _ w3 ⟨gone,q3,bad3,rfl,h3,m3,r3⟩
 refine callK_mono (valS_ok hb hl h3) ?_
 rintro _ w4 ⟨v,q4,bad4,rfl,h4,m4,r4⟩
 refine ⟨(⟨key,gone,v⟩:Chg).cells.toArray,by kernel_rfl,?_⟩
 have rr:RdP eSC InSC b p bad ⟨key,gone,v⟩ q4 bad4:=by
  have x:=RdP.cat pf_uz r2 (RdP.cat pf_uf r3 r4)
  exact x.iso (i:=fun a:Chg=>(a.key,a.gone,a.val)) eSC_cat (fun h=>⟨h.1,h.2.2⟩) fun z hz=>⟨hz.1,trivial,hz.2⟩
 have m24:=(m2.trans m3).trans m4
 refine (b1.mod m24 (by omega)).stn (n:=6) (us:=(⟨key,gone,v⟩:Chg).cells) rfl rfl (RChg.one (w:=w1) rfl) fun w5 b5 m5=>?_
 exact b5.ld (n:=6) rfl ⟨⟨key,gone,v⟩,q4,bad4,rfl,h4.mod m5 fun z hz e=>by omega,((g1.mono fun _ _ e=>e.elim).trans m24).next m5 fun z hz e=>by omega,rr⟩
theorem sevS_attr (h:RdS S W c bv b p bad) {fv:Value} (hf:∀ W' p' (K:Cont),RdS S W' c bv b p' false→Mod (fun z=>z=c) W W'→(∀ v (a:Attr) q bad1 W'',v=.agg a.cells.toArray→RdS S W'' c bv b q bad1→Mod (fun z=>z=c) W' W''→RdP eSA InSA b p' false a q bad1→K v W'')→callyK Tryz.prog okf fv [] K W') :
  callK Tryz.prog 87 [.pointer (some ⟨c,0,none⟩),fv] (fun v w'=>∃ (l:List Attr) (q:Nat) (bad1:Bool),OwnR W.heap.size 121 5 RAttr w' v l∧l.length≤b.length+1∧RdS S w' c bv b q bad1∧Mod (fun z=>z=c) W w'∧RdP (encM eSA) (RepM InSA) b p bad l q bad1) W:=by
 apply S87_ok
 unfold S87
 have hclt:=h.lt
 have hl':b.length≤1099511627776:=by omega
 obtain ⟨a,n,ebv,_⟩:=h.row.shape
 refine nilckK_s ?_
 rw [faK_i,addr0]
 refine ld1K_i h.c0 ?_
 have hlen:∀ {k:Value→Prop},k (.int .i64 b.length)→lenK bv k:=fun {k} hk=>by subst ebv;rw [lenK_i];exact hk
 refine hlen (conv_64 (by omega) ?_)
 refine callK_mono (uptoS_ok hb hl (most:=b.length) h (by omega)) ?_
 rintro _ w1 ⟨n0,p1,badn,rfl,hn0,h1,m1,rn⟩
 refine LoopK_i (fun vs W1=>∃ (l:List Attr) (q:Nat) (bad1:Bool) (m:Nat) (ov:Value),vs=[ov,.int .u64 m]∧RdL eSA InSA b p1 badn n0 l q bad1∧l.length+m=n0∧RdS S W1 c bv b q bad1∧OwnR W.heap.size 121 5 RAttr W1 ov l∧Mod (fun z=>z=c) W W1∧l.length≤b.length+1) (fun vs _=>iOf vs 1)
  ⟨[],p1,badn,n0,.slice none 0 0,rfl,RdL.nil h1.len,by simp,h1,OwnR.nil,m1,by simp⟩ ?_
 rintro vs W1 ⟨l,q,bad1,m,ov,rfl,hL,hlm,hR,ho,hM,hb1⟩ _
 simp only [nth_s,nth_z,List.headD_cons,List.tail_cons]
 have s1:=hM.size
 refine JoinK_i (fun _ W'=>W'=W1∧0 < m∧bad1=false) ?_ ?_
 rotate_left
 ·have out:(bad1=false→l.length=n0)→∃ (l:List Attr) (q:Nat) (bad1:Bool),OwnR W.heap.size 121 5 RAttr W1 ov l∧l.length≤b.length+1∧RdS S W1 c bv b q bad1∧Mod (fun z=>z=c) W W1∧RdP (encM eSA) (RepM InSA) b p bad l q bad1:=fun e=>
   ⟨l,q,bad1,ho,hb1,hR,hM,RdL.done eSA_pos (by omega) rn hL e (Nat.le_refl _) (by omega)⟩
  rw [gtK_i]
  refine condK_p (fun hm=>?_) fun hm=>out fun _=>by omega
  refine nilckK_s ?_
  rw [faK_i,addr0]
  refine ld1K_i hR.c2 ?_
  rw [notK_i]
  refine condK_bb (fun e=>⟨rfl,by omega,by simpa using e⟩) fun e=>out fun e'=>?_
  rw [e'] at e
  cases e
 rintro _ _ ⟨rfl,hm,rfl⟩ _
 rename World=>W1
 have hll:l.length≤b.length:=by
  have h1:=congrArg List.length (hL.sound rfl).2
  have h2:=flat_len_le eSA_pos l
  rw [List.length_append,List.length_drop] at h1
  omega
 refine hf W1 q _ hR hM ?_
 rintro v a q2 bad2 W2 hv hR2 hM2 hP
 subst hv
 have s2:=hM2.size
 have nc:∀ g,ov.ownBlock=some g→W.heap.size≤g∧g < W1.heap.size:=fun g hg=>OwnR.ownB ho g hg
 have ho2:OwnR W.heap.size 121 5 RAttr W2 ov l:=OwnR.mod ho hM2 (fun g hg e=>by have:=(nc g hg).1;omega) fun _ _ _ h=>h
 refine push_g (cs:=a.cells) (x:=a) elem_attr ho2 (by omega) (by kernel_rfl) rfl rfl (fun _ _ _=>RAttr.one) (fun _ _ _ _ _ _ h=>h) (by omega) (by simp only [maxLen];omega) fun v3 W3 o3 m3 own3=>?_
 have hR3:=hR2.mod m3 fun z hz e=>by have:=(nc z e).1;omega
 have hM3:Mod (fun z=>z=c) W W3:=(hM.trans hM2).next m3 fun z hz e=>by have:=(nc z e).1;omega
 rw [subK_i,wrapu64 ⟨by omega,by omega⟩,show ((m:Int) - 1)=((m - 1:Nat):Int) by omega]
 exact ⟨⟨l++[a],q2,bad2,m - 1,v3,rfl,hL.snoc pf_SA (by omega) hP,by rw [List.length_append,List.length_singleton];omega,hR3,o3,hM3,by rw [List.length_append,List.length_singleton];omega⟩,by rw [iOf1,iOf1];omega⟩
theorem sevS_chg (h:RdS S W c bv b p bad) {fv:Value} (hf:∀ W' p' (K:Cont),RdS S W' c bv b p' false→Mod (fun z=>z=c) W W'→(∀ v (a:Chg) q bad1 W'',v=.agg a.cells.toArray→RdS S W'' c bv b q bad1→Mod (fun z=>z=c) W' W''→RdP eSC InSC b p' false a q bad1→K v W'')→callyK Tryz.prog okf fv [] K W') :
  callK Tryz.prog 72 [.pointer (some ⟨c,0,none⟩),fv] (fun v w'=>∃ (l:List Chg) (q:Nat) (bad1:Bool),OwnR W.heap.size 110 6 RChg w' v l∧l.length≤b.length+1∧RdS S w' c bv b q bad1∧Mod (fun z=>z=c) W w'∧RdP (encM eSC) (RepM InSC) b p bad l q bad1) W:=by
 apply S72_ok
 unfold S72
 have hclt:=h.lt
 have hl':b.length≤1099511627776:=by omega
 obtain ⟨a,n,ebv,_⟩:=h.row.shape
 refine nilckK_s ?_
 rw [faK_i,addr0]
 refine ld1K_i h.c0 ?_
 have hlen:∀ {k:Value→Prop},k (.int .i64 b.length)→lenK bv k:=fun {k} hk=>by subst ebv;rw [lenK_i];exact hk
 refine hlen (conv_64 (by omega) ?_)
 refine callK_mono (uptoS_ok hb hl (most:=b.length) h (by omega)) ?_
 rintro _ w1 ⟨n0,p1,badn,rfl,hn0,h1,m1,rn⟩
 refine LoopK_i (fun vs W1=>∃ (l:List Chg) (q:Nat) (bad1:Bool) (m:Nat) (ov:Value),vs=[ov,.int .u64 m]∧RdL eSC InSC b p1 badn n0 l q bad1∧l.length+m=n0∧RdS S W1 c bv b q bad1∧OwnR W.heap.size 110 6 RChg W1 ov l∧Mod (fun z=>z=c) W W1∧l.length≤b.length+1) (fun vs _=>iOf vs 1)
  ⟨[],p1,badn,n0,.slice none 0 0,rfl,RdL.nil h1.len,by simp,h1,OwnR.nil,m1,by simp⟩ ?_
 rintro vs W1 ⟨l,q,bad1,m,ov,rfl,hL,hlm,hR,ho,hM,hb1⟩ _
 simp only [nth_s,nth_z,List.headD_cons,List.tail_cons]
 have s1:=hM.size
 refine JoinK_i (fun _ W'=>W'=W1∧0 < m∧bad1=false) ?_ ?_
 rotate_left
 ·have out:(bad1=false→l.length=n0)→∃ (l:List Chg) (q:Nat) (bad1:Bool),OwnR W.heap.size 110 6 RChg W1 ov l∧l.length≤b.length+1∧RdS S W1 c bv b q bad1∧Mod (fun z=>z=c) W W1∧RdP (encM eSC) (RepM InSC) b p bad l q bad1:=fun e=>
   ⟨l,q,bad1,ho,hb1,hR,hM,RdL.done eSC_pos (by omega) rn hL e (Nat.le_refl _) (by omega)⟩
  rw [gtK_i]
  refine condK_p (fun hm=>?_) fun hm=>out fun _=>by omega
  refine nilckK_s ?_
  rw [faK_i,addr0]
  refine ld1K_i hR.c2 ?_
  rw [notK_i]
  refine condK_bb (fun e=>⟨rfl,by omega,by simpa using e⟩) fun e=>out fun e'=>?_
  rw [e'] at e
  cases e
 rintro _ _ ⟨rfl,hm,rfl⟩ _
 rename World=>W1
 have hll:l.length≤b.length:=by
  have h1:=congrArg List.length (hL.sound rfl).2
  have h2:=flat_len_le eSC_pos l
  rw [List.length_append,List.length_drop] at h1
  omega
 refine hf W1 q _ hR hM ?_
 rintro v a q2 bad2 W2 hv hR2 hM2 hP
 subst hv
 have s2:=hM2.size
 have nc:∀ g,ov.ownBlock=some g→W.heap.size≤g∧g < W1.heap.size:=fun g hg=>OwnR.ownB ho g hg
 have ho2:OwnR W.heap.size 110 6 RChg W2 ov l:=OwnR.mod ho hM2 (fun g hg e=>by have:=(nc g hg).1;omega) fun _ _ _ h=>h
 refine push_g (cs:=a.cells) (x:=a) elem_chg ho2 (by omega) (by kernel_rfl) rfl rfl (fun _ _ _=>RChg.one) (fun _ _ _ _ _ _ h=>h) (by omega) (by simp only [maxLen];omega) fun v3 W3 o3 m3 own3=>?_
 have hR3:=hR2.mod m3 fun z hz e=>by have:=(nc z e).1;omega
 have hM3:Mod (fun z=>z=c) W W3:=(hM.trans hM2).next m3 fun z hz e=>by have:=(nc z e).1;omega
 rw [subK_i,wrapu64 ⟨by omega,by omega⟩,show ((m:Int) - 1)=((m - 1:Nat):Int) by omega]
 exact ⟨⟨l++[a],q2,bad2,m - 1,v3,rfl,hL.snoc pf_SC (by omega) hP,by rw [List.length_append,List.length_singleton];omega,hR3,o3,hM3,by rw [List.length_append,List.length_singleton];omega⟩,by rw [iOf1,iOf1];omega⟩
theorem sevS_key (h:RdS S W c bv b p bad) {fv:Value} (hf:∀ W' p' (K:Cont),RdS S W' c bv b p' false→Mod (fun z=>z=c) W W'→(∀ v (a:DKey) q bad1 W'',v=.agg a.cells.toArray→RdS S W'' c bv b q bad1→Mod (fun z=>z=c) W' W''→RdP eSK InSK b p' false a q bad1→K v W'')→callyK Tryz.prog okf fv [] K W') :
  callK Tryz.prog 42 [.pointer (some ⟨c,0,none⟩),fv] (fun v w'=>∃ (l:List DKey) (q:Nat) (bad1:Bool),OwnR W.heap.size 59 6 RKey w' v l∧l.length≤b.length+1∧RdS S w' c bv b q bad1∧Mod (fun z=>z=c) W w'∧RdP (encM eSK) (RepM InSK) b p bad l q bad1) W:=by
 apply S42_ok
 unfold S42
 have hclt:=h.lt
 have hl':b.length≤1099511627776:=by omega
 obtain ⟨a,n,ebv,_⟩:=h.row.shape
 refine nilckK_s ?_
 rw [faK_i,addr0]
 refine ld1K_i h.c0 ?_
 have hlen:∀ {k:Value→Prop},k (.int .i64 b.length)→lenK bv k:=fun {k} hk=>by subst ebv;rw [lenK_i];exact hk
 refine hlen (conv_64 (by omega) ?_)
 refine callK_mono (uptoS_ok hb hl (most:=b.length) h (by omega)) ?_
 rintro _ w1 ⟨n0,p1,badn,rfl,hn0,h1,m1,rn⟩
 refine LoopK_i (fun vs W1=>∃ (l:List DKey) (q:Nat) (bad1:Bool) (m:Nat) (ov:Value),vs=[ov,.int .u64 m]∧RdL eSK InSK b p1 badn n0 l q bad1∧l.length+m=n0∧RdS S W1 c bv b q bad1∧OwnR W.heap.size 59 6 RKey W1 ov l∧Mod (fun z=>z=c) W W1∧l.length≤b.length+1) (fun vs _=>iOf vs 1)
  ⟨[],p1,badn,n0,.slice none 0 0,rfl,RdL.nil h1.len,by simp,h1,OwnR.nil,m1,by simp⟩ ?_
 rintro vs W1 ⟨l,q,bad1,m,ov,rfl,hL,hlm,hR,ho,hM,hb1⟩ _
 simp only [nth_s,nth_z,List.headD_cons,List.tail_cons]
 have s1:=hM.size
 refine JoinK_i (fun _ W'=>W'=W1∧0 < m∧bad1=false) ?_ ?_
 rotate_left
 ·have out:(bad1=false→l.length=n0)→∃ (l:List DKey) (q:Nat) (bad1:Bool),OwnR W.heap.size 59 6 RKey W1 ov l∧l.length≤b.length+1∧RdS S W1 c bv b q bad1∧Mod (fun z=>z=c) W W1∧RdP (encM eSK) (RepM InSK) b p bad l q bad1:=fun e=>
   ⟨l,q,bad1,ho,hb1,hR,hM,RdL.done eSK_pos (by omega) rn hL e (Nat.le_refl _) (by omega)⟩
  rw [gtK_i]
  refine condK_p (fun hm=>?_) fun hm=>out fun _=>by omega
  refine nilckK_s ?_
  rw [faK_i,addr0]
  refine ld1K_i hR.c2 ?_
  rw [notK_i]
  refine condK_bb (fun e=>⟨rfl,by omega,by simpa using e⟩) fun e=>out fun e'=>?_
  rw [e'] at e
  cases e
 rintro _ _ ⟨rfl,hm,rfl⟩ _
 rename World=>W1
 have hll:l.length≤b.length:=by
  have h1:=congrArg List.length (hL.sound rfl).2
  have h2:=flat_len_le eSK_pos l
  rw [List.length_append,List.length_drop] at h1
  omega
 refine hf W1 q _ hR hM ?_
 rintro v a q2 bad2 W2 hv hR2 hM2 hP
 subst hv
 have s2:=hM2.size
 have nc:∀ g,ov.ownBlock=some g→W.heap.size≤g∧g < W1.heap.size:=fun g hg=>OwnR.ownB ho g hg
 have ho2:OwnR W.heap.size 59 6 RKey W2 ov l:=OwnR.mod ho hM2 (fun g hg e=>by have:=(nc g hg).1;omega) fun _ _ _ h=>h
 refine push_g (cs:=a.cells) (x:=a) elem_key ho2 (by omega) (by kernel_rfl) rfl rfl (fun _ _ _=>RKey.one) (fun _ _ _ _ _ _ h=>h) (by omega) (by simp only [maxLen];omega) fun v3 W3 o3 m3 own3=>?_
 have hR3:=hR2.mod m3 fun z hz e=>by have:=(nc z e).1;omega
 have hM3:Mod (fun z=>z=c) W W3:=(hM.trans hM2).next m3 fun z hz e=>by have:=(nc z e).1;omega
 rw [subK_i,wrapu64 ⟨by omega,by omega⟩,show ((m:Int) - 1)=((m - 1:Nat):Int) by omega]
 exact ⟨⟨l++[a],q2,bad2,m - 1,v3,rfl,hL.snoc pf_SK (by omega) hP,by rw [List.length_append,List.length_singleton];omega,hR3,o3,hM3,by rw [List.length_append,List.length_singleton];omega⟩,by rw [iOf1,iOf1];omega⟩
theorem sevS_run (h:RdS S W c bv b p bad) {fv:Value} (hf:∀ W' p' (K:Cont),RdS S W' c bv b p' false→Mod (fun z=>z=c) W W'→(∀ v (a:Int) q bad1 W'',v=.int .i32 a→RdS S W'' c bv b q bad1→Mod (fun z=>z=c) W' W''→RdP uz In32 b p' false a q bad1→K v W'')→callyK Tryz.prog okf fv [] K W') :
  callK Tryz.prog 85 [.pointer (some ⟨c,0,none⟩),fv] (fun v w'=>∃ (l:List Int) (q:Nat) (bad1:Bool),OwnR W.heap.size 21 1 RRune w' v l∧l.length≤b.length+1∧RdS S w' c bv b q bad1∧Mod (fun z=>z=c) W w'∧RdP (encM uz) (RepM In32) b p bad l q bad1) W:=by
 apply S85_ok
 unfold S85
 have hclt:=h.lt
 have hl':b.length≤1099511627776:=by omega
 obtain ⟨a,n,ebv,_⟩:=h.row.shape
 refine nilckK_s ?_
 rw [faK_i,addr0]
 refine ld1K_i h.c0 ?_
 have hlen:∀ {k:Value→Prop},k (.int .i64 b.length)→lenK bv k:=fun {k} hk=>by subst ebv;rw [lenK_i];exact hk
 refine hlen (conv_64 (by omega) ?_)
 refine callK_mono (uptoS_ok hb hl (most:=b.length) h (by omega)) ?_
 rintro _ w1 ⟨n0,p1,badn,rfl,hn0,h1,m1,rn⟩
 refine LoopK_i (fun vs W1=>∃ (l:List Int) (q:Nat) (bad1:Bool) (m:Nat) (ov:Value),vs=[ov,.int .u64 m]∧RdL uz In32 b p1 badn n0 l q bad1∧l.length+m=n0∧RdS S W1 c bv b q bad1∧OwnR W.heap.size 21 1 RRune W1 ov l∧Mod (fun z=>z=c) W W1∧l.length≤b.length+1) (fun vs _=>iOf vs 1)
  ⟨[],p1,badn,n0,.slice none 0 0,rfl,RdL.nil h1.len,by simp,h1,OwnR.nil,m1,by simp⟩ ?_
 rintro vs W1 ⟨l,q,bad1,m,ov,rfl,hL,hlm,hR,ho,hM,hb1⟩ _
 simp only [nth_s,nth_z,List.headD_cons,List.tail_cons]
 have s1:=hM.size
 refine JoinK_i (fun _ W'=>W'=W1∧0 < m∧bad1=false) ?_ ?_
 rotate_left
 ·have out:(bad1=false→l.length=n0)→∃ (l:List Int) (q:Nat) (bad1:Bool),OwnR W.heap.size 21 1 RRune W1 ov l∧l.length≤b.length+1∧RdS S W1 c bv b q bad1∧Mod (fun z=>z=c) W W1∧RdP (encM uz) (RepM In32) b p bad l q bad1:=fun e=>
   ⟨l,q,bad1,ho,hb1,hR,hM,RdL.done uz_pos (by omega) rn hL e (Nat.le_refl _) (by omega)⟩
  rw [gtK_i]
  refine condK_p (fun hm=>?_) fun hm=>out fun _=>by omega
  refine nilckK_s ?_
  rw [faK_i,addr0]
  refine ld1K_i hR.c2 ?_
  rw [notK_i]
  refine condK_bb (fun e=>⟨rfl,by omega,by simpa using e⟩) fun e=>out fun e'=>?_
  rw [e'] at e
  cases e
 rintro _ _ ⟨rfl,hm,rfl⟩ _
 rename World=>W1
 have hll:l.length≤b.length:=by
  have h1:=congrArg List.length (hL.sound rfl).2
  have h2:=flat_len_le uz_pos l
  rw [List.length_append,List.length_drop] at h1
  omega
 refine hf W1 q _ hR hM ?_
 rintro v a q2 bad2 W2 hv hR2 hM2 hP
 subst hv
 have s2:=hM2.size
 have nc:∀ g,ov.ownBlock=some g→W.heap.size≤g∧g < W1.heap.size:=fun g hg=>OwnR.ownB ho g hg
 have ho2:OwnR W.heap.size 21 1 RRune W2 ov l:=OwnR.mod ho hM2 (fun g hg e=>by have:=(nc g hg).1;omega) fun _ _ _ h=>h
 refine push_g (cs:=[.int .i32 a]) (x:=a) elem_rune ho2 (by omega) (by kernel_rfl) rfl rfl (fun _ _ _=>RRune.one) (fun _ _ _ _ _ _ h=>h) (by omega) (by simp only [maxLen];omega) fun v3 W3 o3 m3 own3=>?_
 have hR3:=hR2.mod m3 fun z hz e=>by have:=(nc z e).1;omega
 have hM3:Mod (fun z=>z=c) W W3:=(hM.trans hM2).next m3 fun z hz e=>by have:=(nc z e).1;omega
 rw [subK_i,wrapu64 ⟨by omega,by omega⟩,show ((m:Int) - 1)=((m - 1:Nat):Int) by omega]
 exact ⟨⟨l++[a],q2,bad2,m - 1,v3,rfl,hL.snoc pf_u32 (by omega) hP,by rw [List.length_append,List.length_singleton];omega,hR3,o3,hM3,by rw [List.length_append,List.length_singleton];omega⟩,by rw [iOf1,iOf1];omega⟩
theorem sevS_op (h:RdS S W c bv b p bad) {fv:Value} (hf:∀ W' p' (K:Cont),RdS S W' c bv b p' false→Mod (fun z=>z=c) W W'→(∀ v (r:List Value) (o:Dop) q bad1 W'',v=.agg r.toArray∧RDop (fun z=>W'.heap.size≤z) W'' r o→RdS S W'' c bv b q bad1→Mod (fun z=>z=c) W' W''→RdP eSO InSO b p' false o q bad1→K v W'')→callyK Tryz.prog okf fv [] K W') :
  callK Tryz.prog 69 [.pointer (some ⟨c,0,none⟩),fv] (fun v w'=>∃ (l:List Dop) (q:Nat) (bad1:Bool),OwnR W.heap.size 80 5 (RApart (fun z=>W.heap.size≤z) v) w' v l∧l.length≤b.length+1∧RdS S w' c bv b q bad1∧Mod (fun z=>z=c) W w'∧RdP (encM eSO) (RepM InSO) b p bad l q bad1) W:=by
 apply S69_ok
 unfold S69
 have hclt:=h.lt
 have hl':b.length≤1099511627776:=by omega
 obtain ⟨a,n,ebv,_⟩:=h.row.shape
 refine nilckK_s ?_
 rw [faK_i,addr0]
 refine ld1K_i h.c0 ?_
 have hlen:∀ {k:Value→Prop},k (.int .i64 b.length)→lenK bv k:=fun {k} hk=>by subst ebv;rw [lenK_i];exact hk
 refine hlen (conv_64 (by omega) ?_)
 refine callK_mono (uptoS_ok hb hl (most:=b.length) h (by omega)) ?_
 rintro _ w1 ⟨n0,p1,badn,rfl,hn0,h1,m1,rn⟩
 refine LoopK_i (fun vs W1=>∃ (l:List Dop) (q:Nat) (bad1:Bool) (m:Nat) (ov:Value),vs=[ov,.int .u64 m]∧RdL eSO InSO b p1 badn n0 l q bad1∧l.length+m=n0∧RdS S W1 c bv b q bad1∧OwnR W.heap.size 80 5 (RApart (fun z=>W.heap.size≤z) ov) W1 ov l∧Mod (fun z=>z=c) W W1∧l.length≤b.length+1) (fun vs _=>iOf vs 1)
  ⟨[],p1,badn,n0,.slice none 0 0,rfl,RdL.nil h1.len,by simp,h1,OwnR.nil,m1,by simp⟩ ?_
 rintro vs W1 ⟨l,q,bad1,m,ov,rfl,hL,hlm,hR,ho,hM,hb1⟩ _
 simp only [nth_s,nth_z,List.headD_cons,List.tail_cons]
 have s1:=hM.size
 refine JoinK_i (fun _ W'=>W'=W1∧0 < m∧bad1=false) ?_ ?_
 rotate_left
 ·have out:(bad1=false→l.length=n0)→∃ (l:List Dop) (q:Nat) (bad1:Bool),OwnR W.heap.size 80 5 (RApart (fun z=>W.heap.size≤z) ov) W1 ov l∧l.length≤b.length+1∧RdS S W1 c bv b q bad1∧Mod (fun z=>z=c) W W1∧RdP (encM eSO) (RepM InSO) b p bad l q bad1:=fun e=>
   ⟨l,q,bad1,ho,hb1,hR,hM,RdL.done eSO_pos (by omega) rn hL e (Nat.le_refl _) (by omega)⟩
  rw [gtK_i]
  refine condK_p (fun hm=>?_) fun hm=>out fun _=>by omega
  refine nilckK_s ?_
  rw [faK_i,addr0]
  refine ld1K_i hR.c2 ?_
  rw [notK_i]
  refine condK_bb (fun e=>⟨rfl,by omega,by simpa using e⟩) fun e=>out fun e'=>?_
  rw [e'] at e
  cases e
 rintro _ _ ⟨rfl,hm,rfl⟩ _
 rename World=>W1
 have hll:l.length≤b.length:=by
  have h1:=congrArg List.length (hL.sound rfl).2
  have h2:=flat_len_le eSO_pos l
  rw [List.length_append,List.length_drop] at h1
  omega
 refine hf W1 q _ hR hM ?_
 rintro v r o q2 bad2 W2 hv hR2 hM2 hP
 obtain ⟨rfl,hv⟩:=hv
 have sh:=hv
 obtain ⟨rv,sv,pv,rfl,r1,r2,r3⟩:=sh
 obtain ⟨a1,c1,rfl,_⟩:=r1.shape
 obtain ⟨a2,c2,rfl,_⟩:=r2.shape
 obtain ⟨a3,c3,rfl,_⟩:=r3.shape
 have s2:=hM2.size
 have nc:∀ g,ov.ownBlock=some g→W.heap.size≤g∧g < W1.heap.size:=fun g hg=>OwnR.ownB ho g hg
 have ho2:OwnR W.heap.size 80 5 (RDop fun z=>z < W2.heap.size∧ov.ownBlock≠some z∧W.heap.size≤z) W2 ov l:=OwnR.mod ho hM2 (fun g hg e=>by have:=(nc g hg).1;omega) fun r y _ hy=>RDop.mod hy hM2 (fun z _ hd e=>by have:=hd.2;omega) fun z hz hd=>⟨by omega,hd⟩
 have hv2:=RDop.mod hv (Mod.refl (fun _=>False) _) (D':=fun z=>z < W2.heap.size∧ov.ownBlock≠some z∧W.heap.size≤z) (fun _ _ _ h=>h) fun z hz hd=>⟨hz,fun e=>by have:=(nc z e).2;omega,by omega⟩
 refine push_g (cs:=[.int .u8 o.kind,.int .i64 o.n,_,_,_]) (x:=o) elem_dop ho2 (by omega) (by kernel_rfl) rfl hv2 (fun _ _ _=>RDop.one) (fun w1 w2 r y hz m hy=>RDop.mod hy m (fun z _ hd e=>by
   rcases e with e | e
   ·exact hd.2.1 e
   ·have:=hd.1;omega) fun _ _ h=>h) (by omega) (by simp only [maxLen];omega) fun v3 W3 o3 m3 own3=>?_
 have hR3:=hR2.mod m3 fun z hz e=>by have:=(nc z e).1;omega
 have hM3:Mod (fun z=>z=c) W W3:=(hM.trans hM2).next m3 fun z hz e=>by have:=(nc z e).1;omega
 rw [subK_i,wrapu64 ⟨by omega,by omega⟩,show ((m:Int) - 1)=((m - 1:Nat):Int) by omega]
 exact ⟨⟨l++[o],q2,bad2,m - 1,v3,rfl,hL.snoc pf_SO (by omega) hP,by rw [List.length_append,List.length_singleton];omega,hR3,apart_push o3 own3,hM3,by rw [List.length_append,List.length_singleton];omega⟩,by rw [iOf1,iOf1];omega⟩
theorem opS_ok (h:RdS S W c bv b p bad) :
  callK Tryz.prog 70 [.pointer (some ⟨c,0,none⟩)] (fun v w'=>∃ (r:List Value) (o:Dop) (q:Nat) (bad1:Bool),(v=.agg r.toArray∧RDop (fun z=>W.heap.size≤z) w' r o)∧RdS S w' c bv b q bad1∧Mod (fun z=>z=c) W w'∧RdP eSO InSO b p bad o q bad1) W:=by
 apply S70_ok
 unfold S70
 have hclt:=h.lt
 refine BoxN.new fun g w1 hg hz g1 b1=>?_
 refine callK_mono (uptoS_ok hb hl (most:=255) (h.grow g1) (by decide)) ?_
 rintro _ w2 ⟨k,q2,bad2,rfl,hk,h2,m2,r2⟩
 refine conv_u8n hk ?_
 refine ⟨(row5 ⟨k,0,[],[],[]⟩ (.slice none 0 0) (.slice none 0 0) (.slice none 0 0)).toArray,by kernel_rfl,?_⟩
 have s1:=g1.size
 have s2:=m2.size
 refine newst_n (n:=5) (vs:=row5 ⟨k,0,[],[],[]⟩ (.slice none 0 0) (.slice none 0 0) (.slice none 0 0)) rfl rfl (by simp [row5,Value.oneCell']) fun g3 w3 hg3 hz3 gr3 hcc3 hl3=>?_
 have b3:BoxN w3 g3 (row5 ⟨k,0,[],[],[]⟩ (.slice none 0 0) (.slice none 0 0) (.slice none 0 0)):=⟨fun j u hu=>by have:=hcc3 j u hu;rwa [addr0] at this,fun j hj=>by have:=hl3 j hj;rwa [addr0] at this⟩
 have h3:=h2.grow gr3
 have bx:=(b1.mod m2 (by omega)).mod gr3 fun h=>h
 have m03:Mod (fun z=>z=c) W w3:=((g1.mono fun _ _ e=>e.elim).trans m2).trans (gr3.mono fun _ _ e=>e.elim)
 have s3:=gr3.size
 -- the number
 refine callK_mono (intS_ok hb hl h3) ?_
 rintro _ w4 ⟨n,q4,bad4,rfl,hn,h4,m4,r4⟩
 refine (b3.mod m4 (by omega)).st (by simp [row5]) rfl rfl fun w5 b5 m5=>?_
 have h5:=h4.mod m5 fun z hz e=>by omega
 have m05:Mod (fun z=>z=c) W w5:=(m03.trans m4).next m5 fun z hz e=>by omega
 have bx5:=(bx.mod m4 (by omega)).mod m5 (by omega)
 have s4:=m4.size
 have s5:=m5.size
 -- the runes
 refine callK_mono (sevS_run hb hl h5 fun W' p' K hR' _ hK=>callyK_g (bs:=[_]) (cs:=[]) (by kernel_rfl) (callK_mono (runeS_ok hb hl hR') fun v w' ⟨a,q,bad1,e1,e2,e3,e4⟩=>hK v a q bad1 w' e1 e2 e3 e4)) ?_
 rintro rv w6 ⟨rl,q6,bad6,o6,hll6,h6,m6,r6⟩
 have one6:=OwnR.one o6
 refine (b5.mod m6 (by omega)).st (by simp [row5]) one6.1 one6.2 fun w7 b7 m7=>?_
 have h7:=h6.mod m7 fun z hz e=>by omega
 have m07:Mod (fun z=>z=c) W w7:=(m05.trans m6).next m7 fun z hz e=>by omega
 have bx7:=(bx5.mod m6 (by omega)).mod m7 (by omega)
 have d7:RRun (fun z=>W.heap.size≤z∧z≠g∧z≠g3) w7 rv rl:=(SlR.sub (OwnR.sl o6) (S':=fun z=>W.heap.size≤z∧z≠g∧z≠g3) (fun z _ hz=>⟨by have:=hz.1;omega,by have:=hz.1;omega,by have:=hz.1;omega⟩) (by decide) fun _ _ h=>h).mod m7 (fun z _ hz e=>hz.2.2 e) (by decide) fun _ _ h=>h
 have s6:=m6.size
 have s7:=m7.size
 -- the set
 refine callK_mono (sevS_attr hb hl h7 fun W' p' K hR' _ hK=>callyK_g (bs:=[_]) (cs:=[]) (by kernel_rfl) (callK_mono (attrS_ok hb hl hR') fun v w' ⟨a,q,bad1,e1,e2,e3,e4⟩=>hK v a q bad1 w' e1 e2 e3 e4)) ?_
 rintro sv w8 ⟨sl,q8,bad8,o8,hll8,h8,m8,r8⟩
 have one8:=OwnR.one o8
 refine (b7.mod m8 (by omega)).st (by simp [row5]) one8.1 one8.2 fun w9 b9 m9=>?_
 have h9:=h8.mod m9 fun z hz e=>by omega
 have m09:Mod (fun z=>z=c) W w9:=(m07.trans m8).next m9 fun z hz e=>by omega
 have bx9:=(bx7.mod m8 (by omega)).mod m9 (by omega)
 have k89:∀ z,¬ (W.heap.size≤z∧z≠g∧z≠g3)∨z≠c:=fun z=>by omega
 have d9:RSet (fun z=>W.heap.size≤z∧z≠g∧z≠g3) w9 sv sl:=(SlR.sub (OwnR.sl o8) (S':=fun z=>W.heap.size≤z∧z≠g∧z≠g3) (fun z _ hz=>⟨by have:=hz.1;omega,by have:=hz.1;omega,by have:=hz.1;omega⟩) (by decide) fun _ _ h=>h).mod m9 (fun z _ hz e=>hz.2.2 e) (by decide) fun _ _ h=>h
 have d7':RRun (fun z=>W.heap.size≤z∧z≠g∧z≠g3) w9 rv rl:=(d7.mod m8 (fun z _ hz e=>by have:=hz.1;omega) (by decide) fun _ _ h=>h).mod m9 (fun z _ hz e=>hz.2.2 e) (by decide) fun _ _ h=>h
 have s8:=m8.size
 have s9:=m9.size
 -- the patch
 refine callK_mono (sevS_chg hb hl h9 fun W' p' K hR' _ hK=>callyK_g (bs:=[_]) (cs:=[]) (by kernel_rfl) (callK_mono (chgS_ok hb hl hR') fun v w' ⟨a,q,bad1,e1,e2,e3,e4⟩=>hK v a q bad1 w' e1 e2 e3 e4)) ?_
 rintro pv w10 ⟨pl,q10,bad10,o10,hll10,h10,m10,r10⟩
 have one10:=OwnR.one o10
 refine (b9.mod m10 (by omega)).st (by simp [row5]) one10.1 one10.2 fun w11 b11 m11=>?_
 have h11:=h10.mod m11 fun z hz e=>by omega
 have m011:Mod (fun z=>z=c) W w11:=(m09.trans m10).next m11 fun z hz e=>by omega
 have bx11:=(bx9.mod m10 (by omega)).mod m11 (by omega)
 have d11:RPat (fun z=>W.heap.size≤z∧z≠g∧z≠g3) w11 pv pl:=(SlR.sub (OwnR.sl o10) (S':=fun z=>W.heap.size≤z∧z≠g∧z≠g3) (fun z _ hz=>⟨by have:=hz.1;omega,by have:=hz.1;omega,by have:=hz.1;omega⟩) (by decide) fun _ _ h=>h).mod m11 (fun z _ hz e=>hz.2.2 e) (by decide) fun _ _ h=>h
 have d7'':RRun (fun z=>W.heap.size≤z∧z≠g∧z≠g3) w11 rv rl:=(d7'.mod m10 (fun z _ hz e=>by have:=hz.1;omega) (by decide) fun _ _ h=>h).mod m11 (fun z _ hz e=>hz.2.2 e) (by decide) fun _ _ h=>h
 have d9':RSet (fun z=>W.heap.size≤z∧z≠g∧z≠g3) w11 sv sl:=(d9.mod m10 (fun z _ hz e=>by have:=hz.1;omega) (by decide) fun _ _ h=>h).mod m11 (fun z _ hz e=>hz.2.2 e) (by decide) fun _ _ h=>h
 have hD:RDop (fun z=>W.heap.size≤z∧z≠g∧z≠g3) w11 [.int .u8 k,.int .i64 n,rv,sv,pv] ⟨k,n,rl,sl,pl⟩:=⟨rv,sv,pv,rfl,d7'',d9',d11⟩
 refine b11.ld (n:=5) rfl ?_
 refine bx11.stn (n:=5) (us:=[.int .u8 k,.int .i64 n,rv,sv,pv]) rfl rfl hD.one fun w12 b12 m12=>?_
 refine b12.ld (n:=5) rfl ⟨_,⟨k,n,rl,sl,pl⟩,q10,bad10,⟨rfl,hD.mod m12 (fun z _ hz e=>hz.2.1 e) fun z _ hz=>hz.1⟩,h11.mod m12 fun z hz e=>by omega,m011.next m12 fun z hz e=>by omega,?_⟩
 refine RdP.iso (i:=fun o:Dop=>(o.kind.toNat,o.n,o.runes,o.set,o.patch)) (RdP.cat (pf_uv (most:=255) (by decide)) r2 (RdP.cat pf_uz r4 (RdP.cat pf_u32.many r6 (RdP.cat pf_SA.many r8 r10)))) (fun _=>rfl) (fun hp=>⟨⟨Int.natCast_nonneg _,by show (k:Int) < 256;omega⟩,hp.2⟩) fun o h=>⟨by have:=h.1;show o.kind.toNat≤255;omega,h.2⟩
theorem keyS_ok (h:RdS S W c bv b p bad) :
  callK Tryz.prog 43 [.pointer (some ⟨c,0,none⟩)] (fun v w'=>∃ (a:DKey) (q:Nat) (bad1:Bool),v=.agg a.cells.toArray∧RdS S w' c bv b q bad1∧Mod (fun z=>z=c) W w'∧RdP eSK InSK b p bad a q bad1) W:=by
 apply S43_ok
 unfold S43
 have hclt:=h.lt
 refine BoxN.new fun g w1 hg hz g1 b1=>?_
 refine callK_mono (intS_ok hb hl (h.grow g1)) ?_
 rintro _ w2 ⟨id0,q2,bad2,rfl,hid,h2,m2,r2⟩
 refine ⟨(⟨id0,false,0,false,false,0⟩:DKey).cells.toArray,by kernel_rfl,?_⟩
 have s1:=g1.size
 have s2:=m2.size
 refine newst_n (n:=6) (vs:=(⟨id0,false,0,false,false,0⟩:DKey).cells) rfl rfl (RKey.one (w:=w1) rfl) fun g3 w3 hg3 hz3 gr3 hcc3 hl3=>?_
 have b3:BoxN w3 g3 (⟨id0,false,0,false,false,0⟩:DKey).cells:=⟨fun j u hu=>by have:=hcc3 j u hu;rwa [addr0] at this,fun j hj=>by have:=hl3 j hj;rwa [addr0] at this⟩
 have h3:=h2.grow gr3
 have x3:=(b1.mod m2 (by omega)).mod gr3 fun h=>h
 have m03:Mod (fun z=>z=c) W w3:=((g1.mono fun _ _ e=>e.elim).trans m2).trans (gr3.mono fun _ _ e=>e.elim)
 have s3:=gr3.size
 refine callK_mono (flagS_ok hb hl h3) ?_
 rintro _ w4 ⟨bl,q4,bad4,rfl,h4,m4,r4⟩
 refine (b3.mod m4 (by omega)).st (by simp [DKey.cells]) rfl rfl fun w5 b5 m5=>?_
 have h5:=h4.mod m5 fun z hz e=>by omega
 have x5:=(x3.mod m4 (by omega)).mod m5 (by omega)
 have m05:Mod (fun z=>z=c) W w5:=(m03.trans m4).next m5 fun z hz e=>by omega
 have s4:=m4.size
 have s5:=m5.size
 refine callK_mono (uptoS_ok hb hl (most:=255) h5 (by decide)) ?_
 rintro _ w6 ⟨kd,q6,bad6,rfl,hkd,h6,m6,r6⟩
 refine conv_u8n hkd ?_
 refine (b5.mod m6 (by omega)).st (by simp [DKey.cells]) rfl rfl fun w7 b7 m7=>?_
 have h7:=h6.mod m7 fun z hz e=>by omega
 have x7:=(x5.mod m6 (by omega)).mod m7 (by omega)
 have m07:Mod (fun z=>z=c) W w7:=(m05.trans m6).next m7 fun z hz e=>by omega
 have s6:=m6.size
 have s7:=m7.size
 refine callK_mono (flagS_ok hb hl h7) ?_
 rintro _ w8 ⟨af,q8,bad8,rfl,h8,m8,r8⟩
 refine (b7.mod m8 (by omega)).st (by simp [DKey.cells]) rfl rfl fun w9 b9 m9=>?_
 have h9:=h8.mod m9 fun z hz e=>by omega
 have x9:=(x7.mod m8 (by omega)).mod m9 (by omega)
 have m09:Mod (fun z=>z=c) W w9:=(m07.trans m8).next m9 fun z hz e=>by omega
 have s8:=m8.size
 have s9:=m9.size
 refine callK_mono (flagS_ok hb hl h9) ?_
 rintro _ w10 ⟨be,q10,bad10,rfl,h10,m10,r10⟩
 refine (b9.mod m10 (by omega)).st (by simp [DKey.cells]) rfl rfl fun w11 b11 m11=>?_
 have h11:=h10.mod m11 fun z hz e=>by omega
 have x11:=(x9.mod m10 (by omega)).mod m11 (by omega)
 have m011:Mod (fun z=>z=c) W w11:=(m09.trans m10).next m11 fun z hz e=>by omega
 have s10:=m10.size
 have s11:=m11.size
 refine callK_mono (intS_ok hb hl h11) ?_
 rintro _ w12 ⟨gp,q12,bad12,rfl,hgp,h12,m12,r12⟩
 refine (b11.mod m12 (by omega)).st (by simp [DKey.cells]) rfl rfl fun w13 b13 m13=>?_
 have h13:=h12.mod m13 fun z hz e=>by omega
 have x13:=(x11.mod m12 (by omega)).mod m13 (by omega)
 have m013:Mod (fun z=>z=c) W w13:=(m011.trans m12).next m13 fun z hz e=>by omega
 have s12:=m12.size
 have s13:=m13.size
 refine b13.ld (n:=6) rfl ?_
 refine x13.stn (n:=6) (us:=(⟨id0,bl,kd,af,be,gp⟩:DKey).cells) rfl rfl (RKey.one (w:=w1) rfl) fun w20 b20 m20=>?_
 refine b20.ld (n:=6) rfl ⟨⟨id0,bl,kd,af,be,gp⟩,q12,bad12,rfl,h13.mod m20 fun z hz e=>by omega,m013.next m20 fun z hz e=>by omega,?_⟩
 refine RdP.iso (i:=fun k:DKey=>(k.id,k.block,k.kind.toNat,k.after,k.before,k.group)) (RdP.cat pf_uz r2 (RdP.cat pf_uf r4 (RdP.cat (pf_uv (most:=255) (by decide)) r6 (RdP.cat pf_uf r8 (RdP.cat pf_uf r10 r12))))) (fun _=>rfl) (fun hp=>⟨hp.1,⟨Int.natCast_nonneg _,by show (kd:Int) < 256;omega⟩,hp.2.2.2.2.2⟩) fun k h=>⟨h.1,trivial,by have:=h.2.1;show k.kind.toNat≤255;omega,trivial,trivial,h.2.2⟩
end
end Go.Proofs.YtaimlfomodfekaaGreatDoor

namespace Go.Proofs.YtaimlfomodfekaaGreatDoor
open Go Go.K

theorem in64_0:In64 0:=by unfold In64;omega
theorem repM_0 {α:Type} {R:α→Prop}:RepM R []:=⟨by simp,fun _ h=>(by cases h)⟩
theorem len_0 {α:Type}:([]:List α).length < 9223372036854775808:=by simp
def preL (l:List Nat) (c:Cmd):List Int:=l.flatMap (eCh c)
structure Rng (c:Cmd):Prop where
 i:In64 c.i
 j:In64 c.j
 key:In64 c.key
 by_:In64 c.by_
 ops:RepM InSO c.ops
 bytes:c.bytes.length < 9223372036854775808
 patch:RepM InSC c.patch
structure Only (k:Int) (l:List Nat) (c:Cmd):Prop where
 kind:c.kind=k
 rng:Rng c
 i:105 ∈ l∨c.i=0
 j:106 ∈ l∨c.j=0
 key:107 ∈ l∨c.key=0
 by_:121 ∈ l∨c.by_=0
 ops:111 ∈ l∨c.ops=[]
 bytes:98 ∈ l∨c.bytes=[]
 patch:112 ∈ l∨c.patch=[]
def fldC (ch:Nat) (c:Cmd):Cmd:=⟨0,if ch=105 then c.i else 0,if ch=106 then c.j else 0,if ch=107 then c.key else 0,if ch=121 then c.by_ else 0,if ch=111 then c.ops else [],if ch=98 then c.bytes else [],if ch=112 then c.patch else []⟩
theorem pf_ch {ch:Nat} {a b:Cmd} {x y:List Int} (ha:Rng a) (hb:Rng b) (e:eCh a ch++x=eCh b ch++y):fldC ch a=fldC ch b∧x=y:=by
 unfold eCh eNum eRest at e
 unfold fldC
 by_cases h105:ch=105
 ·subst h105
  simp at e ⊢
  exact pf_uz _ _ _ _ ha.i hb.i e
 by_cases h106:ch=106
 ·subst h106
  simp at e ⊢
  exact pf_uz _ _ _ _ ha.j hb.j e
 by_cases h107:ch=107
 ·subst h107
  simp at e ⊢
  exact pf_uz _ _ _ _ ha.key hb.key e
 by_cases h121:ch=121
 ·subst h121
  simp at e ⊢
  exact pf_uz _ _ _ _ ha.by_ hb.by_ e
 by_cases h111:ch=111
 ·subst h111
  simp at e ⊢
  exact pf_SO.many _ _ _ _ ha.ops hb.ops e
 by_cases h98:ch=98
 ·subst h98
  simp at e ⊢
  exact pf_x _ _ _ _ ha.bytes hb.bytes e
 by_cases h112:ch=112
 ·subst h112
  simp at e ⊢
  exact pf_SC.many _ _ _ _ ha.patch hb.patch e
 simp [h105,h106,h107,h121,h111,h98,h112] at e ⊢
 exact e
theorem pf_flds:∀ (l:List Nat) {a b:Cmd} {x y:List Int},Rng a→Rng b→preL l a++x=preL l b++y→(∀ ch ∈ l,fldC ch a=fldC ch b)∧x=y
 | [],_,_,_,_,_,_,e=>⟨fun _ h=>(by cases h),e⟩
 | ch :: l,a,b,x,y,ha,hb,e=>by
  unfold preL at e
  rw [List.flatMap_cons,List.flatMap_cons,List.append_assoc,List.append_assoc] at e
  obtain ⟨e1,e⟩:=pf_ch ha hb e
  obtain ⟨e2,e⟩:=pf_flds l ha hb e
  exact ⟨fun c hc=>(List.mem_cons.1 hc).elim (fun h=>h ▸ e1) fun h=>e2 c h,e⟩
theorem or_eq {α:Type} {m:Prop} {x y z:α} (hx:m∨x=z) (hy:m∨y=z) (h:m→x=y):x=y:=by
 rcases hx with hx | hx
 ·exact h hx
 ·rcases hy with hy | hy
  ·exact h hy
  ·rw [hx,hy]
theorem pf_only {k:Int} {l:List Nat}:PF (preL l) (Only k l):=by
 intro a b x y ha hb e
 obtain ⟨h,e⟩:=pf_flds l ha.rng hb.rng e
 refine ⟨?_,e⟩
 have e0:a.kind=b.kind:=ha.kind.trans hb.kind.symm
 have e1:a.i=b.i:=or_eq ha.i hb.i fun m=>by simpa [fldC] using congrArg Cmd.i (h _ m)
 have e2:a.j=b.j:=or_eq ha.j hb.j fun m=>by simpa [fldC] using congrArg Cmd.j (h _ m)
 have e3:a.key=b.key:=or_eq ha.key hb.key fun m=>by simpa [fldC] using congrArg Cmd.key (h _ m)
 have e4:a.by_=b.by_:=or_eq ha.by_ hb.by_ fun m=>by simpa [fldC] using congrArg Cmd.by_ (h _ m)
 have e5:a.ops=b.ops:=or_eq ha.ops hb.ops fun m=>by simpa [fldC] using congrArg Cmd.ops (h _ m)
 have e6:a.bytes=b.bytes:=or_eq ha.bytes hb.bytes fun m=>by simpa [fldC] using congrArg Cmd.bytes (h _ m)
 have e7:a.patch=b.patch:=or_eq ha.patch hb.patch fun m=>by simpa [fldC] using congrArg Cmd.patch (h _ m)
 cases a;cases b
 simp only at *
 rw [Cmd.mk.injEq]
 exact ⟨e0,e1,e2,e3,e4,e5,e6,e7⟩
theorem pre_snoc (l:List Nat) (ch:Nat) (c:Cmd):preL (l++[ch]) c=preL l c++eCh c ch:=by simp [preL]
theorem pre_congr {a b:Cmd}:∀ {l:List Nat},(∀ ch ∈ l,eCh a ch=eCh b ch)→preL l a=preL l b
 | [],_=>rfl
 | ch :: l,h=>by
  have:=pre_congr (l:=l) fun c hc=>h c (by simp [hc])
  unfold preL at *
  rw [List.flatMap_cons,List.flatMap_cons,this,h ch (by simp)]
theorem in_app {l:List Nat} {x y:Nat} {q:Prop} (h:x ∈ l∨q):x ∈ l++[y]∨q:=h.imp_left (List.mem_append_left _)
theorem of_app {l:List Nat} {x y:Nat} {q:Prop} (hn:x≠y) (h:x ∈ l++[y]∨q):x ∈ l∨q:=h.imp_left fun m=>(List.mem_append.1 m).elim id fun m=>(hn (List.mem_singleton.1 m)).elim
section
variable {k:Int} {l:List Nat} {b:List Int} {p q r:Nat} {bad bad1 bad2:Bool} {cm:Cmd}
theorem rd_i {a:Int} (x:RdP (preL l) (Only k l) b p bad cm q bad1) (y:RdP uz In64 b q bad1 a r bad2) (hn:105 ∉ l):RdP (preL (l++[105])) (Only k (l++[105])) b p bad {cm with i:=a} r bad2:=
 x.seq (g:=fun _=>uz) (Q:=fun _=>In64) pf_only y
  (fun h1 h2=>⟨{ kind:=h1.kind,rng:={ h1.rng with i:=h2 },i:=.inl (by simp),j:=in_app h1.j,key:=in_app h1.key,by_:=in_app h1.by_,ops:=in_app h1.ops,bytes:=in_app h1.bytes,patch:=in_app h1.patch },by
   rw [pre_snoc,pre_congr (b:=cm) fun ch hc=>?_]
   ·simp [eCh,eNum,eRest]
   ·have:ch≠105:=fun e=>hn (e ▸ hc)
    simp [eCh,eNum,eRest,this]⟩)
  fun z hz=>⟨{z with i:=0},z.i,{ kind:=hz.kind,rng:={ hz.rng with i:=in64_0 },i:=.inr rfl,j:=of_app (by decide) hz.j,key:=of_app (by decide) hz.key,by_:=of_app (by decide) hz.by_,ops:=of_app (by decide) hz.ops,bytes:=of_app (by decide) hz.bytes,patch:=of_app (by decide) hz.patch },hz.rng.i,by
   rw [pre_snoc,pre_congr (a:=z) (b:={z with i:=0}) fun ch hc=>?_]
   ·simp [eCh,eNum,eRest]
   ·have:ch≠105:=fun e=>hn (e ▸ hc)
    simp [eCh,eNum,eRest,this]⟩
theorem rd_j {a:Int} (x:RdP (preL l) (Only k l) b p bad cm q bad1) (y:RdP uz In64 b q bad1 a r bad2) (hn:106 ∉ l):RdP (preL (l++[106])) (Only k (l++[106])) b p bad {cm with j:=a} r bad2:=
 x.seq (g:=fun _=>uz) (Q:=fun _=>In64) pf_only y
  (fun h1 h2=>⟨{ kind:=h1.kind,rng:={ h1.rng with j:=h2 },j:=.inl (by simp),i:=in_app h1.i,key:=in_app h1.key,by_:=in_app h1.by_,ops:=in_app h1.ops,bytes:=in_app h1.bytes,patch:=in_app h1.patch },by
   rw [pre_snoc,pre_congr (b:=cm) fun ch hc=>?_]
   ·simp [eCh,eNum,eRest]
   ·have:ch≠106:=fun e=>hn (e ▸ hc)
    simp [eCh,eNum,eRest,this]⟩)
  fun z hz=>⟨{z with j:=0},z.j,{ kind:=hz.kind,rng:={ hz.rng with j:=in64_0 },j:=.inr rfl,i:=of_app (by decide) hz.i,key:=of_app (by decide) hz.key,by_:=of_app (by decide) hz.by_,ops:=of_app (by decide) hz.ops,bytes:=of_app (by decide) hz.bytes,patch:=of_app (by decide) hz.patch },hz.rng.j,by
   rw [pre_snoc,pre_congr (a:=z) (b:={z with j:=0}) fun ch hc=>?_]
   ·simp [eCh,eNum,eRest]
   ·have:ch≠106:=fun e=>hn (e ▸ hc)
    simp [eCh,eNum,eRest,this]⟩
theorem rd_key {a:Int} (x:RdP (preL l) (Only k l) b p bad cm q bad1) (y:RdP uz In64 b q bad1 a r bad2) (hn:107 ∉ l):RdP (preL (l++[107])) (Only k (l++[107])) b p bad {cm with key:=a} r bad2:=
 x.seq (g:=fun _=>uz) (Q:=fun _=>In64) pf_only y
  (fun h1 h2=>⟨{ kind:=h1.kind,rng:={ h1.rng with key:=h2 },key:=.inl (by simp),i:=in_app h1.i,j:=in_app h1.j,by_:=in_app h1.by_,ops:=in_app h1.ops,bytes:=in_app h1.bytes,patch:=in_app h1.patch },by
   rw [pre_snoc,pre_congr (b:=cm) fun ch hc=>?_]
   ·simp [eCh,eNum,eRest]
   ·have:ch≠107:=fun e=>hn (e ▸ hc)
    simp [eCh,eNum,eRest,this]⟩)
  fun z hz=>⟨{z with key:=0},z.key,{ kind:=hz.kind,rng:={ hz.rng with key:=in64_0 },key:=.inr rfl,i:=of_app (by decide) hz.i,j:=of_app (by decide) hz.j,by_:=of_app (by decide) hz.by_,ops:=of_app (by decide) hz.ops,bytes:=of_app (by decide) hz.bytes,patch:=of_app (by decide) hz.patch },hz.rng.key,by
   rw [pre_snoc,pre_congr (a:=z) (b:={z with key:=0}) fun ch hc=>?_]
   ·simp [eCh,eNum,eRest]
   ·have:ch≠107:=fun e=>hn (e ▸ hc)
    simp [eCh,eNum,eRest,this]⟩
theorem rd_by_ {a:Int} (x:RdP (preL l) (Only k l) b p bad cm q bad1) (y:RdP uz In64 b q bad1 a r bad2) (hn:121 ∉ l):RdP (preL (l++[121])) (Only k (l++[121])) b p bad {cm with by_:=a} r bad2:=
 x.seq (g:=fun _=>uz) (Q:=fun _=>In64) pf_only y
  (fun h1 h2=>⟨{ kind:=h1.kind,rng:={ h1.rng with by_:=h2 },by_:=.inl (by simp),i:=in_app h1.i,j:=in_app h1.j,key:=in_app h1.key,ops:=in_app h1.ops,bytes:=in_app h1.bytes,patch:=in_app h1.patch },by
   rw [pre_snoc,pre_congr (b:=cm) fun ch hc=>?_]
   ·simp [eCh,eNum,eRest]
   ·have:ch≠121:=fun e=>hn (e ▸ hc)
    simp [eCh,eNum,eRest,this]⟩)
  fun z hz=>⟨{z with by_:=0},z.by_,{ kind:=hz.kind,rng:={ hz.rng with by_:=in64_0 },by_:=.inr rfl,i:=of_app (by decide) hz.i,j:=of_app (by decide) hz.j,key:=of_app (by decide) hz.key,ops:=of_app (by decide) hz.ops,bytes:=of_app (by decide) hz.bytes,patch:=of_app (by decide) hz.patch },hz.rng.by_,by
   rw [pre_snoc,pre_congr (a:=z) (b:={z with by_:=0}) fun ch hc=>?_]
   ·simp [eCh,eNum,eRest]
   ·have:ch≠121:=fun e=>hn (e ▸ hc)
    simp [eCh,eNum,eRest,this]⟩
theorem rd_ops {a:List Dop} (x:RdP (preL l) (Only k l) b p bad cm q bad1) (y:RdP (encM eSO) (RepM InSO) b q bad1 a r bad2) (hn:111 ∉ l):RdP (preL (l++[111])) (Only k (l++[111])) b p bad {cm with ops:=a} r bad2:=
 x.seq (g:=fun _=>(encM eSO)) (Q:=fun _=>(RepM InSO)) pf_only y
  (fun h1 h2=>⟨{ kind:=h1.kind,rng:={ h1.rng with ops:=h2 },ops:=.inl (by simp),i:=in_app h1.i,j:=in_app h1.j,key:=in_app h1.key,by_:=in_app h1.by_,bytes:=in_app h1.bytes,patch:=in_app h1.patch },by
   rw [pre_snoc,pre_congr (b:=cm) fun ch hc=>?_]
   ·simp [eCh,eNum,eRest]
   ·have:ch≠111:=fun e=>hn (e ▸ hc)
    simp [eCh,eNum,eRest,this]⟩)
  fun z hz=>⟨{z with ops:=[]},z.ops,{ kind:=hz.kind,rng:={ hz.rng with ops:=repM_0 },ops:=.inr rfl,i:=of_app (by decide) hz.i,j:=of_app (by decide) hz.j,key:=of_app (by decide) hz.key,by_:=of_app (by decide) hz.by_,bytes:=of_app (by decide) hz.bytes,patch:=of_app (by decide) hz.patch },hz.rng.ops,by
   rw [pre_snoc,pre_congr (a:=z) (b:={z with ops:=[]}) fun ch hc=>?_]
   ·simp [eCh,eNum,eRest]
   ·have:ch≠111:=fun e=>hn (e ▸ hc)
    simp [eCh,eNum,eRest,this]⟩
theorem rd_bytes {a:List Int} (x:RdP (preL l) (Only k l) b p bad cm q bad1) (y:RdP encX (fun x=>x.length < 9223372036854775808) b q bad1 a r bad2) (hn:98 ∉ l):RdP (preL (l++[98])) (Only k (l++[98])) b p bad {cm with bytes:=a} r bad2:=
 x.seq (g:=fun _=>encX) (Q:=fun _=>(fun x=>x.length < 9223372036854775808)) pf_only y
  (fun h1 h2=>⟨{ kind:=h1.kind,rng:={ h1.rng with bytes:=h2 },bytes:=.inl (by simp),i:=in_app h1.i,j:=in_app h1.j,key:=in_app h1.key,by_:=in_app h1.by_,ops:=in_app h1.ops,patch:=in_app h1.patch },by
   rw [pre_snoc,pre_congr (b:=cm) fun ch hc=>?_]
   ·simp [eCh,eNum,eRest]
   ·have:ch≠98:=fun e=>hn (e ▸ hc)
    simp [eCh,eNum,eRest,this]⟩)
  fun z hz=>⟨{z with bytes:=[]},z.bytes,{ kind:=hz.kind,rng:={ hz.rng with bytes:=len_0 },bytes:=.inr rfl,i:=of_app (by decide) hz.i,j:=of_app (by decide) hz.j,key:=of_app (by decide) hz.key,by_:=of_app (by decide) hz.by_,ops:=of_app (by decide) hz.ops,patch:=of_app (by decide) hz.patch },hz.rng.bytes,by
   rw [pre_snoc,pre_congr (a:=z) (b:={z with bytes:=[]}) fun ch hc=>?_]
   ·simp [eCh,eNum,eRest]
   ·have:ch≠98:=fun e=>hn (e ▸ hc)
    simp [eCh,eNum,eRest,this]⟩
theorem rd_patch {a:List Chg} (x:RdP (preL l) (Only k l) b p bad cm q bad1) (y:RdP (encM eSC) (RepM InSC) b q bad1 a r bad2) (hn:112 ∉ l):RdP (preL (l++[112])) (Only k (l++[112])) b p bad {cm with patch:=a} r bad2:=
 x.seq (g:=fun _=>(encM eSC)) (Q:=fun _=>(RepM InSC)) pf_only y
  (fun h1 h2=>⟨{ kind:=h1.kind,rng:={ h1.rng with patch:=h2 },patch:=.inl (by simp),i:=in_app h1.i,j:=in_app h1.j,key:=in_app h1.key,by_:=in_app h1.by_,ops:=in_app h1.ops,bytes:=in_app h1.bytes },by
   rw [pre_snoc,pre_congr (b:=cm) fun ch hc=>?_]
   ·simp [eCh,eNum,eRest]
   ·have:ch≠112:=fun e=>hn (e ▸ hc)
    simp [eCh,eNum,eRest,this]⟩)
  fun z hz=>⟨{z with patch:=[]},z.patch,{ kind:=hz.kind,rng:={ hz.rng with patch:=repM_0 },patch:=.inr rfl,i:=of_app (by decide) hz.i,j:=of_app (by decide) hz.j,key:=of_app (by decide) hz.key,by_:=of_app (by decide) hz.by_,ops:=of_app (by decide) hz.ops,bytes:=of_app (by decide) hz.bytes },hz.rng.patch,by
   rw [pre_snoc,pre_congr (a:=z) (b:={z with patch:=[]}) fun ch hc=>?_]
   ·simp [eCh,eNum,eRest]
   ·have:ch≠112:=fun e=>hn (e ▸ hc)
    simp [eCh,eNum,eRest,this]⟩
theorem rd_dot (x:RdP (preL l) (Only k l) b p bad cm q bad1):RdP (preL (l++[46])) (Only k (l++[46])) b p bad cm q bad1:=
 x.map (fun h=>⟨{ kind:=h.kind,rng:=h.rng,i:=in_app h.i,j:=in_app h.j,key:=in_app h.key,by_:=in_app h.by_,ops:=in_app h.ops,bytes:=in_app h.bytes,patch:=in_app h.patch },by rw [pre_snoc];simp [eCh,eNum,eRest]⟩)
  fun z hz=>⟨z,{ kind:=hz.kind,rng:=hz.rng,i:=of_app (by decide) hz.i,j:=of_app (by decide) hz.j,key:=of_app (by decide) hz.key,by_:=of_app (by decide) hz.by_,ops:=of_app (by decide) hz.ops,bytes:=of_app (by decide) hz.bytes,patch:=of_app (by decide) hz.patch },by rw [pre_snoc];simp [eCh,eNum,eRest]⟩
end
theorem has_chL {k:Nat} (hk:isK k):(hasI k=true↔105 ∈ chL k)∧(hasJ k=true↔106 ∈ chL k)∧(hasS k=true↔107 ∈ chL k)∧(hasS k=true↔121 ∈ chL k)∧(hasO k=true↔111 ∈ chL k)∧(hasB k=true↔98 ∈ chL k)∧(hasP k=true↔112 ∈ chL k):=by
 simp only [isK,decide_eq_true_eq] at hk
 have:k=1∨k=2∨k=3∨k=4∨k=5∨k=6∨k=7∨k=8∨k=9∨k=10∨k=11∨k=12∨k=13∨k=14∨k=15∨k=16∨k=17∨k=18∨k=19∨k=20∨k=21:=by omega
 rcases this with rfl | rfl | rfl | rfl | rfl | rfl | rfl | rfl | rfl | rfl | rfl | rfl | rfl | rfl | rfl | rfl | rfl | rfl | rfl | rfl | rfl <;> decide
theorem isK_chL {k:Nat}:isK k=true↔chL k≠[]:=by
 constructor
 ·intro hk
  simp only [isK,decide_eq_true_eq] at hk
  have:k=1∨k=2∨k=3∨k=4∨k=5∨k=6∨k=7∨k=8∨k=9∨k=10∨k=11∨k=12∨k=13∨k=14∨k=15∨k=16∨k=17∨k=18∨k=19∨k=20∨k=21:=by omega
  rcases this with rfl | rfl | rfl | rfl | rfl | rfl | rfl | rfl | rfl | rfl | rfl | rfl | rfl | rfl | rfl | rfl | rfl | rfl | rfl | rfl | rfl <;> decide
 ·intro h
  simp only [isK,decide_eq_true_eq]
  unfold chL at h
  split at h <;> first | omega | exact (h rfl).elim
theorem only_all {k:Nat} {c:Cmd} (hk:isK k=true):Only k (chL k) c↔InC c∧c.kind=k:=by
 obtain ⟨h1,h2,h3,h3',h4,h5,h6⟩:=has_chL hk
 constructor
 ·intro h
  have e:=h.kind
  refine ⟨⟨⟨by rw [e];exact hk,?_,?_,?_,?_,?_,?_⟩,h.rng.i,h.rng.j,h.rng.key,h.rng.by_,h.rng.ops,h.rng.bytes,h.rng.patch⟩,e⟩ <;> rw [e]
  ·exact h.i.imp_left h1.2
  ·exact h.j.imp_left h2.2
  ·rcases h.key with m | m
   ·exact .inl (h3.2 m)
   ·rcases h.by_ with m' | m'
    ·exact .inl (h3'.2 m')
    ·exact .inr ⟨m,m'⟩
  ·exact h.ops.imp_left h4.2
  ·exact h.bytes.imp_left h5.2
  ·exact h.patch.imp_left h6.2
 ·rintro ⟨⟨⟨_,m1,m2,m3,m4,m5,m6⟩,i1,i2,i3,i4,i5,i6,i7⟩,e⟩
  rw [e] at m1 m2 m3 m4 m5 m6
  exact { kind:=e,rng:=⟨i1,i2,i3,i4,i5,i6,i7⟩,i:=m1.imp_left h1.1,j:=m2.imp_left h2.1,key:=m3.imp h3.1 And.left,by_:=m3.imp h3'.1 And.right,ops:=m4.imp_left h4.1,bytes:=m5.imp_left h5.1,patch:=m6.imp_left h6.1 }
theorem chL_nodup (k:Nat):(chL k).Nodup:=by
 unfold chL
 split <;> decide
theorem chL_fresh {k p:Nat} (h:p < (chL k).length):(chL k)[p] ∉ (chL k).take p:=by
 intro m
 obtain ⟨i,hi,e⟩:=List.mem_iff_getElem.1 m
 rw [List.length_take] at hi
 rw [List.getElem_take] at e
 have:=(List.getElem_inj (chL_nodup k)).1 e
 omega
def row8 (c:Cmd) (ov bv pv:Value):List Value:=[.int .u8 c.kind,.int .i64 c.i,.int .i64 c.j,.int .i64 c.key,.int .i64 c.by_,ov,bv,pv]
section
variable {S:Nat→Prop} {W:World} {c:Nat} {bv:Value} {b:List Int} {p:Nat} {bad:Bool}
variable (hb:∀ x ∈ b,0≤x∧x < 256) (hl:b.length≤1099511620000)
include hb hl
theorem cmdS_ok (h:RdS S W c bv b p bad) (hF:Flds W) (hgc:0 < c) :
  callK Tryz.prog 45 [.pointer (some ⟨c,0,none⟩)] (fun v w'=>∃ (r:List Value) (cm:Cmd) (q:Nat) (bad1:Bool),(v=.agg r.toArray∧RCmd (fun z=>W.heap.size≤z) w' r cm)∧(∀ z ∈ cm.bytes,0≤z∧z < 256)∧RdS S w' c bv b q bad1∧Mod (fun z=>z=c) W w'∧RdP eCmd InC b p bad cm q bad1) W:=by
 apply S45_ok
 unfold S45
 have hclt:=h.lt
 refine BoxN.new fun g w1 hg hz g1 b1=>?_
 refine callK_mono (uptoS_ok hb hl (most:=255) (h.grow g1) (by decide)) ?_
 rintro _ w2 ⟨k,q2,bad2,rfl,hk,h2,m2,r2⟩
 refine conv_u8n hk ?_
 refine ⟨(row8 ⟨k,0,0,0,0,[],[],[]⟩ (.slice none 0 0) (.slice none 0 0) (.slice none 0 0)).toArray,by kernel_rfl,?_⟩
 have s1:=g1.size
 have s2:=m2.size
 refine newst_n (n:=8) (vs:=row8 ⟨k,0,0,0,0,[],[],[]⟩ (.slice none 0 0) (.slice none 0 0) (.slice none 0 0)) rfl rfl (by simp [row8,Value.oneCell']) fun g3 w3 hg3 hz3 gr3 hcc3 hl3=>?_
 have b3:BoxN w3 g3 (row8 ⟨k,0,0,0,0,[],[],[]⟩ (.slice none 0 0) (.slice none 0 0) (.slice none 0 0)):=⟨fun j u hu=>by have:=hcc3 j u hu;rwa [addr0] at this,fun j hj=>by have:=hl3 j hj;rwa [addr0] at this⟩
 have h3:=h2.grow gr3
 have bx:=(b1.mod m2 (by omega)).mod gr3 fun h=>h
 have m03:Mod (fun z=>z=c) W w3:=((g1.mono fun _ _ e=>e.elim).trans m2).trans (gr3.mono fun _ _ e=>e.elim)
 have s3:=gr3.size
 have hF3:Flds w3:=hF.mod m03 (by omega)
 refine JoinK_i (fun _ W'=>∃ bad3,(chL k≠[]∧bad3=bad2∨chL k=[]∧bad3=true)∧RdS S W' c bv b q2 bad3∧Mod (fun z=>z=c) w3 W') ?_ ?_
 rotate_left
 ·rw [faK_i,addr0]
  refine ld1K_i (b3.cells 0 _ rfl) ?_
  refine callK_mono (sof_ok hF3 (by omega)) ?_
  rintro _ _ ⟨rfl,rfl⟩
  rw [seqK_i]
  refine condK_p (fun e=>?_) fun e=>?_
  ·have e0:chL k=[]:=List.length_eq_zero_iff.1 (by rw [←fldS_size,e];rfl)
   exact h3.bads fun W' h' m'=>⟨true,.inr ⟨e0,rfl⟩,h',m'⟩
  ·refine ⟨bad2,.inl ⟨fun e0=>e ?_,rfl⟩,h3,Mod.refl _ _⟩
   unfold fldS
   rw [e0]
   rfl
 rintro _ w4 ⟨bad3,hd3,h4,m34⟩ _
 have b4:=b3.mod m34 (by omega)
 have x4:=bx.mod m34 (by omega)
 have m04:=m03.trans m34
 have s4:=m34.size
 rw [faK_i,addr0]
 refine ld1K_i (b4.cells 0 _ rfl) ?_
 refine callK_mono (sof_ok (hF.mod m04 (by omega)) (by omega)) ?_
 rintro _ _ ⟨rfl,rfl⟩
 rename World=>w4
 refine runK_i (run_range_string _ _ _ Tryz.underlying9) ?_
 have g5:Grow w4 (w4.iter (fldS k) 0):=Mod.alloc _ _ _
 have hit:=World.iter_heap w4 (fldS k) 0
 have z5:(w4.iter (fldS k) 0).heap.size=w4.heap.size+1:=by simp [World.iter]
 generalize w4.iter (fldS k) 0=w5 at g5 hit z5 ⊢
 obtain ⟨ib,hib⟩:∃ ib,ib=w4.heap.size:=⟨_,rfl⟩
 rw [←hib] at hit ⊢
 have gm:g < g3:=by omega
 have g3i:g3 < ib:=by omega
 have cg:c < g:=by omega
 have wg:W.heap.size≤g:=by omega
 refine LoopK_i (fun vs w=>∃ (n:Nat) (cm:Cmd) (ov yv pv:Value) (q:Nat) (bad1:Bool),n≤(chL k).length∧vs=[]∧w.heap[ib]?=some (.stringIter (fldS k) n)∧BoxN w g (row8 ⟨0,0,0,0,0,[],[],[]⟩ (.slice none 0 0) (.slice none 0 0) (.slice none 0 0))∧BoxN w g3 (row8 cm ov yv pv)∧
   RCmd (fun z=>W.heap.size≤z∧z≠g∧z≠g3∧z≠ib) w (row8 cm ov yv pv) cm∧(∀ z ∈ cm.bytes,0≤z∧z < 256)∧RdS S w c bv b q bad1∧Mod (fun z=>z=c) W w∧RdP (preL ((chL k).take n)) (Only k ((chL k).take n)) b q2 bad3 cm q bad1) (fun _ w=>(chL k).length - w.iterPos ib)
  ⟨0,⟨k,0,0,0,0,[],[],[]⟩,.slice none 0 0,.slice none 0 0,.slice none 0 0,q2,bad3,Nat.zero_le _,rfl,hit,x4.mod g5 fun h=>h,b4.mod g5 fun h=>h,⟨_,_,_,rfl,SlR.nil,SlR.nil,SlR.nil⟩,fun _ h=>(by cases h),h4.grow g5,m04.trans (g5.mono fun _ _ e=>e.elim),RdP.unit h4.len { kind:=rfl,rng:=⟨in64_0,in64_0,in64_0,in64_0,repM_0,len_0,repM_0⟩,i:=.inr rfl,j:=.inr rfl,key:=.inr rfl,by_:=.inr rfl,ops:=.inr rfl,bytes:=.inr rfl,patch:=.inr rfl } rfl⟩ ?_
 rintro vs w0 ⟨n,cm,ov,yv,pv,q,bad1,hnl,rfl,hiw,hx,hy,hC,hby,hR,hM,hP⟩ _
 have hpos:w0.iterPos ib=n:=iterPos_of hiw
 have kcm:cm.kind=cm.kind:=rfl
 have siz:=World.heap_lt hiw
 by_cases hpe:n < (chL k).length
 rotate_left
 ·have hpe':n=(chL k).length:=by omega
  refine runK_i (Lib.run_next_end_at w0 ib _ n 0 hiw (by rw [fldS_size];omega)) ?_
  refine extK_i (vs:=[_]) rfl ?_
  refine condK_f ?_
  rw [hpe',List.take_length] at hP
  refine hy.ld (n:=8) rfl ?_
  refine hx.stn (n:=8) (us:=row8 cm ov yv pv) rfl rfl hC.one fun w6 b6 m6=>?_
  refine b6.ld (n:=8) rfl ⟨_,cm,q,bad1,⟨rfl,?_⟩,hby,hR.mod m6 fun z hz e=>by omega,hM.next m6 fun z hz e=>by omega,?_⟩
  ·obtain ⟨ov,bv,pv,e,d1,d2,d3⟩:=hC.mod m6 fun z hz hd=>hd.2.1 hz
   exact ⟨ov,bv,pv,e,SlR.sub d1 (fun z _ hz=>hz.1) (by decide) fun r y h=>RDop.mod h (Mod.refl (fun _=>False) _) (fun _ _ _ h=>h) fun z _ hz=>hz.1,SlR.sub d2 (fun z _ hz=>hz.1) (by decide) fun _ _ h=>h,SlR.sub d3 (fun z _ hz=>hz.1) (by decide) fun _ _ h=>h⟩
  ·have y:RdP (preL (chL k)) (fun z=>InC z∧z.kind=k) b q2 bad2 cm q bad1:=by
    rcases hd3 with ⟨e,rfl⟩ | ⟨e,rfl⟩
    ·have hk':=isK_chL.2 e
     exact hP.map (fun h=>⟨(only_all hk').1 h,rfl⟩) fun z hz=>⟨z,(only_all hk').2 hz,rfl⟩
    ·have e1:=hP.stays rfl
     subst e1
     refine ⟨hP.le,hP.len,fun _=>rfl,fun e=>(by cases e),fun _ z _ hz=>?_⟩
     have:=hz.1.1.1
     rw [hz.2,isK_chL] at this
     exact (this e).elim
   refine RdP.seq (g:=fun (k:Nat)=>preL (chL k)) (Q:=fun (k:Nat) z=>InC z∧z.kind=(k:Int)) (pf_uv (most:=255) (by decide)) r2 y (fun _ h=>⟨h.1,?_⟩) fun z hz=>?_
   ·unfold eCmd
    rw [h.2,eF_chs (h.2 ▸ h.1.1.1)]
    rfl
   ·have hk':=hz.1.1
    simp only [isK,decide_eq_true_eq] at hk'
    obtain ⟨k',hk''⟩:∃ k':Nat,z.kind=k':=⟨z.kind.toNat,by omega⟩
    refine ⟨k',z,(by omega:k'≤255),⟨hz,hk''⟩,?_⟩
    unfold eCmd
    rw [hk'',eF_chs (hk'' ▸ hz.1.1)]
    rfl
 have hsz:n < (fldS k).size:=by rw [fldS_size];exact hpe
 obtain ⟨hch,hIs⟩:=fldS_at hpe hsz
 refine runK_i (Lib.run_next_ascii_at w0 ib _ n 0 hiw hsz (by unfold IsCh at hIs;omega)) ?_
 rw [hch]
 have mi:Mod (fun z=>z=ib) w0 (w0.iterAt ib (fldS k) (n+1)):=Mod.setObj w0 ib _ _ hiw
 have hiw':=Lib.iterAt_heap w0 ib (fldS k) n (n+1) hiw
 have hfr:=chL_fresh hpe
 have htk:(chL k).take (n+1)=(chL k).take n++[(chL k)[n]]:=by
  rw [List.take_add_one,List.getElem?_eq_getElem hpe];rfl
 have hx:=hx.mod mi (by omega)
 have hy:=hy.mod mi (by omega)
 have hC:=hC.mod mi fun z hz hd=>hd.2.2.2 hz
 have hR:=hR.mod mi fun z hz e=>by omega
 have hM:=hM.next mi fun z hz e=>by omega
 have si:=mi.size
 generalize w0.iterAt ib (fldS k) (n+1)=w at hiw' hx hy hC hR hM si ⊢
 generalize hcd:(chL k)[n]=ch at hIs hfr htk ⊢
 refine extK_i (vs:=[_,_,_]) rfl (condK_t (extK_i (vs:=[_,_,_]) rfl ?_))
 have done:∀ (w':World) (cm:Cmd) (ov yv pv:Value) (q:Nat) (bad1:Bool),w'.heap[ib]?=some (.stringIter (fldS k) (n+1))→BoxN w' g (row8 ⟨0,0,0,0,0,[],[],[]⟩ (.slice none 0 0) (.slice none 0 0) (.slice none 0 0))→BoxN w' g3 (row8 cm ov yv pv)→
   RCmd (fun z=>W.heap.size≤z∧z≠g∧z≠g3∧z≠ib) w' (row8 cm ov yv pv) cm→(∀ z ∈ cm.bytes,0≤z∧z < 256)→RdS S w' c bv b q bad1→Mod (fun z=>z=c) W w'→RdP (preL ((chL k).take n++[ch])) (Only k ((chL k).take n++[ch])) b q2 bad3 cm q bad1→
   (∃ (n:Nat) (cm:Cmd) (ov yv pv:Value) (q:Nat) (bad1:Bool),n≤(chL k).length∧([]:List Value)=[]∧w'.heap[ib]?=some (.stringIter (fldS k) n)∧BoxN w' g (row8 ⟨0,0,0,0,0,[],[],[]⟩ (.slice none 0 0) (.slice none 0 0) (.slice none 0 0))∧BoxN w' g3 (row8 cm ov yv pv)∧
   RCmd (fun z=>W.heap.size≤z∧z≠g∧z≠g3∧z≠ib) w' (row8 cm ov yv pv) cm∧(∀ z ∈ cm.bytes,0≤z∧z < 256)∧RdS S w' c bv b q bad1∧Mod (fun z=>z=c) W w'∧RdP (preL ((chL k).take n)) (Only k ((chL k).take n)) b q2 bad3 cm q bad1)∧(chL k).length - w'.iterPos ib < (chL k).length - w0.iterPos ib:=fun w' cm ov yv pv q bad1 a1 a2 a3 a4 a5 a6 a7 a8=>
  ⟨⟨n+1,cm,ov,yv,pv,q,bad1,hpe,rfl,a1,a2,a3,a4,a5,a6,a7,htk ▸ a8⟩,by rw [hpos,iterPos_of a1];omega⟩
 refine JoinK_i (fun vs w'=>vs=[]∧∃ (cm:Cmd) (q:Nat) (bad1:Bool),w'.heap[ib]?=some (.stringIter (fldS k) (n+1))∧BoxN w' g (row8 ⟨0,0,0,0,0,[],[],[]⟩ (.slice none 0 0) (.slice none 0 0) (.slice none 0 0))∧BoxN w' g3 (row8 cm ov yv pv)∧
   RCmd (fun z=>W.heap.size≤z∧z≠g∧z≠g3∧z≠ib) w' (row8 cm ov yv pv) cm∧(∀ z ∈ cm.bytes,0≤z∧z < 256)∧RdS S w' c bv b q bad1∧Mod (fun z=>z=c) W w'∧((ch=105∨ch=106∨ch=107∨ch=121)∧RdP (preL ((chL k).take n++[ch])) (Only k ((chL k).take n++[ch])) b q2 bad3 cm q bad1∨(ch≠105∧ch≠106∧ch≠107∧ch≠121)∧RdP (preL ((chL k).take n)) (Only k ((chL k).take n)) b q2 bad3 cm q bad1)) ?_ ?_
 ·clear hx hy hC hby hR hM hP hiw'
  rintro _ w' ⟨rfl,cm,q,bad1,hi2,hx,hy,hC,hby,hR,hM,hP⟩ _
  have siz':=World.heap_lt hi2
  have hMs:=hM.size
  rw [eqK_i]
  refine condK_p (fun e=>?_) fun e111=>?_
  ·obtain rfl:ch=111:=by omega
   rcases hP with ⟨hP,_⟩ | ⟨_,hP⟩
   ·omega
   refine callK_mono (sevS_op hb hl hR fun W' p' K hR' _ hK=>callyK_g (bs:=[_]) (cs:=[]) (by kernel_rfl) (callK_mono (opS_ok hb hl hR') fun v w' ⟨r,a,q,bad1,e1,e2,e3,e4⟩=>hK v r a q bad1 w' e1 e2 e3 e4)) ?_
   rintro v6 w6 ⟨x,q6,bad6,o6,_,h6,m6,r6⟩
   have d6:RDops (fun z=>W.heap.size≤z∧z≠g∧z≠g3∧z≠ib) (fun z=>W.heap.size≤z∧z≠g∧z≠g3∧z≠ib) w6 v6 x:=SlR.sub (OwnR.sl o6) (fun z _ hz=>by have:=hz.1;omega) (by decide) fun r y hy=>RDop.mod hy (Mod.refl (fun _=>False) _) (fun _ _ _ h=>h) fun z _ hz=>by have:=hz.2;omega
   have s6:=m6.size
   have hC6:=hC.mod m6 fun z hz hd=>by omega
   refine (hy.mod m6 (by omega)).st (by simp [row8]) (OwnR.one o6).1 (OwnR.one o6).2 fun w7 b7 m7=>?_
   have d7:=d6.mod m7 (fun z _ hz e=>hz.2.2.1 e) fun z _ hz e=>hz.2.2.1 e
   obtain ⟨_,_,_,e0,c1,c2,c3⟩:=hC6.mod m7 fun z hz hd=>hd.2.2.1 hz
   obtain ⟨rfl,rfl,rfl⟩:ov=_∧yv=_∧pv=_:=by simpa [row8] using e0
   exact done w7 {cm with ops:=x} v6 yv pv q6 bad6 ((m7.same ib (by omega) (by omega)).trans ((m6.same ib siz' (by omega)).trans hi2)) ((hx.mod m6 (by omega)).mod m7 (by omega)) b7 ⟨_,_,_,rfl,d7,c2,c3⟩ hby (h6.mod m7 fun z hz e=>by omega) ((hM.trans m6).next m7 fun z hz e=>by omega) (rd_ops hP r6 hfr)
  rw [eqK_i]
  refine condK_p (fun e=>?_) fun e98=>?_
  ·obtain rfl:ch=98:=by omega
   rcases hP with ⟨hP,_⟩ | ⟨_,hP⟩
   ·omega
   refine callK_mono (bsS_ok hb hl hR) ?_
   rintro v6 w6 ⟨x,q6,bad6,o6,by6,_,h6,m6,r6⟩
   have d6:RBytes (fun z=>W.heap.size≤z∧z≠g∧z≠g3∧z≠ib) w6 v6 x:=SlR.sub o6 (fun z _ hz=>by have:w'.heap.size≤z:=hz;omega) (by decide) fun _ _ h=>h
   have s6:=m6.size
   have hC6:=hC.mod m6 fun z hz hd=>by omega
   refine (hy.mod m6 (by omega)).st (by simp [row8]) (by obtain ⟨_,_,rfl,_⟩:=o6.shape;rfl) (by obtain ⟨_,_,rfl,_⟩:=o6.shape;rfl) fun w7 b7 m7=>?_
   have d7:=d6.mod m7 (fun z _ hz e=>hz.2.2.1 e) (by decide) fun _ _ h=>h
   obtain ⟨_,_,_,e0,c1,c2,c3⟩:=hC6.mod m7 fun z hz hd=>hd.2.2.1 hz
   obtain ⟨rfl,rfl,rfl⟩:ov=_∧yv=_∧pv=_:=by simpa [row8] using e0
   exact done w7 {cm with bytes:=x} ov v6 pv q6 bad6 ((m7.same ib (by omega) (by omega)).trans ((m6.same ib siz' (by omega)).trans hi2)) ((hx.mod m6 (by omega)).mod m7 (by omega)) b7 ⟨_,_,_,rfl,c1,d7,c3⟩ by6 (h6.mod m7 fun z hz e=>by omega) ((hM.trans m6).next m7 fun z hz e=>by omega) (rd_bytes hP r6 hfr)
  rw [eqK_i]
  refine condK_p (fun e=>?_) fun e112=>?_
  ·obtain rfl:ch=112:=by omega
   rcases hP with ⟨hP,_⟩ | ⟨_,hP⟩
   ·omega
   refine callK_mono (sevS_chg hb hl hR fun W' p' K hR' _ hK=>callyK_g (bs:=[_]) (cs:=[]) (by kernel_rfl) (callK_mono (chgS_ok hb hl hR') fun v w' ⟨a,q,bad1,e1,e2,e3,e4⟩=>hK v a q bad1 w' e1 e2 e3 e4)) ?_
   rintro v6 w6 ⟨x,q6,bad6,o6,_,h6,m6,r6⟩
   have d6:RPat (fun z=>W.heap.size≤z∧z≠g∧z≠g3∧z≠ib) w6 v6 x:=SlR.sub (OwnR.sl o6) (fun z _ hz=>by have:=hz.1;omega) (by decide) fun _ _ h=>h
   have s6:=m6.size
   have hC6:=hC.mod m6 fun z hz hd=>by omega
   refine (hy.mod m6 (by omega)).st (by simp [row8]) (OwnR.one o6).1 (OwnR.one o6).2 fun w7 b7 m7=>?_
   have d7:=d6.mod m7 (fun z _ hz e=>hz.2.2.1 e) (by decide) fun _ _ h=>h
   obtain ⟨_,_,_,e0,c1,c2,c3⟩:=hC6.mod m7 fun z hz hd=>hd.2.2.1 hz
   obtain ⟨rfl,rfl,rfl⟩:ov=_∧yv=_∧pv=_:=by simpa [row8] using e0
   exact done w7 {cm with patch:=x} ov yv v6 q6 bad6 ((m7.same ib (by omega) (by omega)).trans ((m6.same ib siz' (by omega)).trans hi2)) ((hx.mod m6 (by omega)).mod m7 (by omega)) b7 ⟨_,_,_,rfl,c1,c2,d7⟩ hby (h6.mod m7 fun z hz e=>by omega) ((hM.trans m6).next m7 fun z hz e=>by omega) (rd_patch hP r6 hfr)
  rcases hP with ⟨_,hP⟩ | ⟨hn,hP⟩
  ·exact done w' cm ov yv pv q bad1 hi2 hx hy hC hby hR hM hP
  ·obtain rfl:ch=46:=by unfold IsCh at hIs;omega
   exact done w' cm ov yv pv q bad1 hi2 hx hy hC hby hR hM (rd_dot hP)
 ·refine callK_mono (snum_ok hIs) ?_
  rintro _ _ ⟨rfl,⟨j,hj,rfl⟩ | ⟨hj,rfl⟩⟩
  rotate_left
  ·rename World=>w
   exact extK_i (vs:=[_,_]) rfl (extK_i (vs:=[_,_]) rfl (condK_f ⟨rfl,cm,q,bad1,hiw',hx,hy,hC,hby,hR,hM,.inr ⟨hj,hP⟩⟩))
  rename World=>w
  refine extK_i (vs:=[_,_]) rfl (extK_i (vs:=[_,_]) rfl (condK_t ?_))
  refine callK_mono (intS_ok hb hl hR) ?_
  rintro _ w6 ⟨a,q6,bad6,rfl,ha,h6,m6,r6⟩
  refine nilckK_s ?_
  have s6:=m6.size
  have siz':=World.heap_lt hiw'
  have hC6:=hC.mod m6 fun z hz hd=>by omega
  have hMs:=hM.size
  rcases hj with ⟨rfl,rfl⟩ | ⟨rfl,rfl⟩ | ⟨rfl,rfl⟩ | ⟨rfl,rfl⟩
  ·refine (iff_of_eq (faK_i (k:=fun q=>st1K q _ _ w6) 1 ⟨g3,0,none⟩)).1 ((hy.mod m6 (by omega)).st (by simp [row8]) rfl rfl fun w7 b7 m7=>?_)
   obtain ⟨_,_,_,e0,c1,c2,c3⟩:=hC6.mod m7 fun z hz hd=>hd.2.2.1 hz
   obtain ⟨rfl,rfl,rfl⟩:ov=_∧yv=_∧pv=_:=by simpa [row8] using e0
   exact ⟨rfl,{cm with i:=a},q6,bad6,(m7.same ib (by omega) (by omega)).trans ((m6.same ib siz' (by omega)).trans hiw'),(hx.mod m6 (by omega)).mod m7 (by omega),b7,⟨_,_,_,rfl,c1,c2,c3⟩,hby,h6.mod m7 fun z hz e=>by omega,(hM.trans m6).next m7 fun z hz e=>by omega,.inl ⟨by omega,rd_i hP r6 hfr⟩⟩
  ·refine (iff_of_eq (faK_i (k:=fun q=>st1K q _ _ w6) 2 ⟨g3,0,none⟩)).1 ((hy.mod m6 (by omega)).st (by simp [row8]) rfl rfl fun w7 b7 m7=>?_)
   obtain ⟨_,_,_,e0,c1,c2,c3⟩:=hC6.mod m7 fun z hz hd=>hd.2.2.1 hz
   obtain ⟨rfl,rfl,rfl⟩:ov=_∧yv=_∧pv=_:=by simpa [row8] using e0
   exact ⟨rfl,{cm with j:=a},q6,bad6,(m7.same ib (by omega) (by omega)).trans ((m6.same ib siz' (by omega)).trans hiw'),(hx.mod m6 (by omega)).mod m7 (by omega),b7,⟨_,_,_,rfl,c1,c2,c3⟩,hby,h6.mod m7 fun z hz e=>by omega,(hM.trans m6).next m7 fun z hz e=>by omega,.inl ⟨by omega,rd_j hP r6 hfr⟩⟩
  ·refine (iff_of_eq (faK_i (k:=fun q=>st1K q _ _ w6) 3 ⟨g3,0,none⟩)).1 ((hy.mod m6 (by omega)).st (by simp [row8]) rfl rfl fun w7 b7 m7=>?_)
   obtain ⟨_,_,_,e0,c1,c2,c3⟩:=hC6.mod m7 fun z hz hd=>hd.2.2.1 hz
   obtain ⟨rfl,rfl,rfl⟩:ov=_∧yv=_∧pv=_:=by simpa [row8] using e0
   exact ⟨rfl,{cm with key:=a},q6,bad6,(m7.same ib (by omega) (by omega)).trans ((m6.same ib siz' (by omega)).trans hiw'),(hx.mod m6 (by omega)).mod m7 (by omega),b7,⟨_,_,_,rfl,c1,c2,c3⟩,hby,h6.mod m7 fun z hz e=>by omega,(hM.trans m6).next m7 fun z hz e=>by omega,.inl ⟨by omega,rd_key hP r6 hfr⟩⟩
  ·refine (iff_of_eq (faK_i (k:=fun q=>st1K q _ _ w6) 4 ⟨g3,0,none⟩)).1 ((hy.mod m6 (by omega)).st (by simp [row8]) rfl rfl fun w7 b7 m7=>?_)
   obtain ⟨_,_,_,e0,c1,c2,c3⟩:=hC6.mod m7 fun z hz hd=>hd.2.2.1 hz
   obtain ⟨rfl,rfl,rfl⟩:ov=_∧yv=_∧pv=_:=by simpa [row8] using e0
   exact ⟨rfl,{cm with by_:=a},q6,bad6,(m7.same ib (by omega) (by omega)).trans ((m6.same ib siz' (by omega)).trans hiw'),(hx.mod m6 (by omega)).mod m7 (by omega),b7,⟨_,_,_,rfl,c1,c2,c3⟩,hby,h6.mod m7 fun z hz e=>by omega,(hM.trans m6).next m7 fun z hz e=>by omega,.inl ⟨by omega,rd_by_ hP r6 hfr⟩⟩
end
end Go.Proofs.YtaimlfomodfekaaGreatDoor

namespace Go.Proofs.YtaimlfomodfekaaGreatDoor
open Go Go.K

structure RdC (b:List Int) (p:Nat) (bad:Bool) (l:List Cmd) (q:Nat) (bad1:Bool):Prop where
 le:p≤q
 len:q≤b.length
 stays:bad=true→bad1=true
 sound:bad1=false→(∀ c ∈ l,InC c)∧b.drop p=l.flatMap eCmd++b.drop q
 full:bad=false→∀ m:List Cmd,(∀ c ∈ m,InC c)→b.drop p=m.flatMap eCmd→bad1=false
theorem flat_more {α:Type} {f:α→List Int} {R:α→Prop} (hf:PF f R) (hp:∀ a,1≤(f a).length):∀ {l m:List α} {x:List Int},(∀ a ∈ l,R a)→(∀ a ∈ m,R a)→l.flatMap f++x=m.flatMap f→x≠[]→∃ c t,R c∧x=f c++t
 | [],[],x,_,_,e,hx=>(hx (by simpa using e)).elim
 | [],c :: m,x,_,hm,e,_=>⟨c,m.flatMap f,hm c (by simp),by simpa using e⟩
 | a :: l,[],x,_,_,e,_=>by
  have h1:=congrArg List.length e
  have h2:=hp a
  simp only [List.flatMap_cons,List.flatMap_nil,List.length_append,List.length_nil] at h1
  omega
 | a :: l,c :: m,x,hl,hm,e,hx=>by
  rw [List.flatMap_cons,List.flatMap_cons,List.append_assoc] at e
  obtain ⟨_,e2⟩:=hf _ _ _ _ (hl a (by simp)) (hm c (by simp)) e
  exact flat_more hf hp (fun z hz=>hl z (by simp [hz])) (fun z hz=>hm z (by simp [hz])) e2 hx
section
variable {b:List Int} {p q r:Nat} {bad bad2:Bool} {l:List Cmd} {cm:Cmd}
theorem RdC.snoc (x:RdC b p bad l q false) (hq:q < b.length) (y:RdP eCmd InC b q false cm r bad2):RdC b p bad (l++[cm]) r bad2:=by
 obtain ⟨x1,x2⟩:=x.sound rfl
 refine ⟨Nat.le_trans x.le y.le,y.len,fun e=>(by have:=x.stays e;cases this),fun e=>?_,fun e m hm ht=>?_⟩
 ·obtain ⟨y1,y2⟩:=y.sound e
  refine ⟨fun z hz=>?_,?_⟩
  ·rcases List.mem_append.1 hz with hz | hz
   ·exact x1 z hz
   ·rw [List.mem_singleton.1 hz];exact y1
  ·rw [x2,y2,List.flatMap_append,List.append_assoc];simp
 ·rw [x2] at ht
  obtain ⟨c,t,h1,h2⟩:=flat_more pf_Cmd eCmd_pos x1 hm ht (fun e=>by
   have:=congrArg List.length e
   rw [List.length_drop,List.length_nil] at this
   omega)
  exact y.full rfl c t h1 h2
end
theorem RCmd.to {D D' M:Nat→Prop} {w w':World} {r:List Value} {c:Cmd} (h:RCmd D w r c) (m:Mod M w w') (hM:∀ z,z < w.heap.size→D z→¬ M z) (hD:∀ z,z < w.heap.size→D z→D' z):RCmd D' w' r c:=by
 obtain ⟨ov,bv,pv,e,h1,h2,h3⟩:=h
 exact ⟨ov,bv,pv,e,SlR.mono h1 hD (fun z hz hd=>m.same z hz (hM z hz hd)) (by decide) fun r y h=>h.mod m hM hD,SlR.mono h2 hD (fun z hz hd=>m.same z hz (hM z hz hd)) (by decide) fun _ _ h=>h,SlR.mono h3 hD (fun z hz hd=>m.same z hz (hM z hz hd)) (by decide) fun _ _ h=>h⟩
theorem elem_cmd:ElemOK Tryz.prog 23 52 8 112:=⟨Tryz.t52,.agg #[.int .u8 0,.int .i64 0,.int .i64 0,.int .i64 0,.int .i64 0,.slice none 0 0,.slice none 0 0,.slice none 0 0],by kernel_rfl,by kernel_rfl,by kernel_rfl,by kernel_rfl,by kernel_rfl,by rfl,by decide⟩
def muR (c n:Nat) (w:World):Nat:=(n - iOf [(w.cell? ⟨c,1,none⟩).getD undef] 0)+match w.cell? ⟨c,2,none⟩ with | some (.bool true)=>0 | _=>1
theorem muR_of {S:Nat→Prop} {w:World} {c q n:Nat} {bv:Value} {b:List Int} {bad:Bool} (h:RdS S w c bv b q bad):muR c n w=(n - q)+if bad then 0 else 1:=by
 unfold muR
 rw [h.c1,h.c2]
 cases bad <;> rfl
abbrev hdF:List DKey × Int × Int→List Int:=cat (encM eSK) (cat uz uz)
abbrev hdR:List DKey × Int × Int→Prop:=both (RepM InSK) (both In64 In64)
theorem pf_hd:PF hdF hdR:=pf_SK.many.cat (pf_uz.cat pf_uz)
theorem eScr_hd (s:Scr):eScr s=hdF (s.keys,s.most,s.undo)++s.cmds.flatMap eCmd:=by
 show _=(encM eSK s.keys++(uz s.most++uz s.undo))++_
 unfold eScr
 simp only [List.append_assoc]
theorem Flds.lt {w:World} (h:Flds w):0 < w.heap.size:=World.block_lt_of_cell? w _ (h.at_ 0 (by decide))
theorem one4 {kv cv:Value} {a b:Int} (h1:kv.oneCell'=true) (h2:cv.oneCell'=true):∀ u ∈ [kv,.int .i64 a,.int .i64 b,cv],u.oneCell'=true:=by
 intro u hu
 simp only [List.mem_cons,List.not_mem_nil,or_false] at hu
 rcases hu with rfl | rfl | rfl | rfl
 ·exact h1
 ·rfl
 ·rfl
 ·exact h2
theorem sread_ok {S:Nat→Prop} {bv:Value} {b:List Int} {w:World} (h:RBytes S w bv b) (hb:∀ x ∈ b,0≤x∧x < 256) (hl:b.length≤1099511000000) (hF:Flds w) :
  callK Tryz.prog 15 [bv] (fun v' w'=>Grow w w'∧((∃ (r:List Value) (s:Scr),v'=.tuple #[.agg r.toArray,.int .i64 0]∧RScr (fun z=>w.heap.size≤z) (fun z=>w.heap.size≤z) w' r s∧InS s∧eScr s=b∧∀ c ∈ s.cmds,ByteL c.bytes)∨(v'=.tuple #[.agg #[.slice none 0 0,.int .i64 0,.int .i64 0,.slice none 0 0],.int .i64 3]∧∀ s,InS s→eScr s≠b))) w:=by
 apply S15_ok
 unfold S15
 have hsh:=h.shape
 obtain ⟨a,n,ebv,_⟩:=hsh
 refine BoxN.new fun g w1 hg hz1 g1 b1=>?_
 refine ⟨#[bv,.int .i64 0,.bool false],by subst ebv;kernel_rfl,?_⟩
 refine boxn_i (vs:=[bv,.int .i64 0,.bool false]) fun c w2 hc hz2 g2 hcell hlive=>?_
 have k1:∀ j u,[bv,.int .i64 0,.bool false][j]?=some u→w2.cell? ⟨c,j,none⟩=some u:=fun j u hu=>by have:=hcell j u hu;rwa [addr0] at this
 have k2:∀ j,j < 3→Live w2 ⟨c,j,none⟩:=fun j hj=>by have:=hlive j (by simpa using hj);rwa [addr0] at this
 have hr:RdS (fun z=>z < w.heap.size) w2 c bv b 0 false:=
  ⟨k1 0 _ rfl,k1 1 _ rfl,k1 2 _ rfl,k2 1 (by decide),k2 2 (by decide),h.mono (fun z hz _=>hz) (fun z hz _=>(g1.trans g2).same z hz fun h=>h) (by decide) fun _ _ h=>h,fun z hz=>by omega,Nat.zero_le _⟩
 have hgl:=hF.lt
 have hgc:0 < c:=by omega
 have hl':b.length≤1099511620000:=by omega
 have s1:=g1.size
 have s2:=g2.size
 refine callK_mono (sevS_key hb hl' hr fun W' p' K hR' _ hK=>callyK_g (bs:=[_]) (cs:=[]) (by kernel_rfl) (callK_mono (keyS_ok hb hl' hR') fun v w' ⟨a,q,bad1,e1,e2,e3,e4⟩=>hK v a q bad1 w' e1 e2 e3 e4)) ?_
 rintro kv w3 ⟨ks,q3,bad3,o3,hkl,h3,m3,r3⟩
 have hk1:=OwnR.one o3
 have hksh:=(OwnR.sl o3).shape
 obtain ⟨ka,kc,ekv,hkm⟩:=hksh
 refine ⟨#[kv,.int .i64 0,.int .i64 0,.slice none 0 0],by subst ekv;kernel_rfl,?_⟩
 have s3:=m3.size
 refine newst_n (n:=4) (vs:=[kv,.int .i64 0,.int .i64 0,.slice none 0 0]) rfl rfl (one4 hk1.1 rfl) fun g5 w5 hg5 hz5 gr5 hcc5 hl5=>?_
 have b5:BoxN w5 g5 [kv,.int .i64 0,.int .i64 0,.slice none 0 0]:=⟨fun j u hu=>by have:=hcc5 j u hu;rwa [addr0] at this,fun j hj=>by have:=hl5 j hj;rwa [addr0] at this⟩
 have h5:=h3.grow gr5
 have x5:=((b1.mod g2 fun h=>h).mod m3 (by omega)).mod gr5 fun h=>h
 have s5:=gr5.size
 refine callK_mono (intS_ok hb hl' h5) ?_
 rintro _ w6 ⟨n6,q6,bad6,rfl,hn6,h6,m6,r6⟩
 refine (b5.mod m6 (by omega)).st (by simp) rfl rfl fun w7 b7 m7=>?_
 have h7:=h6.mod m7 fun z hz e=>by omega
 have x7:=(x5.mod m6 (by omega)).mod m7 (by omega)
 have s6:=m6.size
 have s7:=m7.size
 refine callK_mono (intS_ok hb hl' h7) ?_
 rintro _ w8 ⟨n8,q8,bad8,rfl,hn8,h8,m8,r8⟩
 refine (b7.mod m8 (by omega)).st (by simp) rfl rfl fun w9 b9 m9=>?_
 have h9:=h8.mod m9 fun z hz e=>by omega
 have x9:=(x7.mod m8 (by omega)).mod m9 (by omega)
 have s8:=m8.size
 have s9:=m9.size
 have g09:Grow w w9:=(((((((g1.trans g2).next m3 fun z hz e=>by omega).trans gr5).next m6 fun z hz e=>by omega).next m7 fun z hz e=>by omega).next m8 fun z hz e=>by omega).next m9 fun z hz e=>by omega)
 have m39:Mod (fun z=>z=c∨z=g5) w3 w9:=((((gr5.mono fun _ _ e=>e.elim).trans (m6.mono fun z _ e=>.inl e)).trans (m7.mono fun z _ e=>.inr e)).trans (m8.mono fun z _ e=>.inl e)).trans (m9.mono fun z _ e=>.inr e)
 have rr:RdP hdF hdR b 0 false (ks,n6,n8) q8 bad8:=RdP.cat pf_SK.many r3 (RdP.cat pf_uz r6 r8)
 have hF9:=hF.grow g09
 have k9:BoxN w9 g5 [kv,.int .i64 n6,.int .i64 n8,.slice none 0 0]:=b9
 clear b9 b7 b5 h8 h7 h6 h5 h3 x7 x5 r3 r6 r8
 refine JoinK_i (fun _ W=>∃ (l:List Cmd) (cv:Value) (q:Nat) (bad1:Bool),BoxN W g [.slice none 0 0,.int .i64 0,.int .i64 0,.slice none 0 0]∧BoxN W g5 [kv,.int .i64 n6,.int .i64 n8,cv]∧OwnR w9.heap.size 52 8 (RCmd fun z=>cv.ownBlock≠some z∧w9.heap.size≤z) W cv l∧(∀ c ∈ l,ByteL c.bytes)∧RdS (fun z=>z < w.heap.size) W c bv b q bad1∧RdC b q8 bad8 l q bad1∧Mod (fun z=>z=c∨z=g5) w9 W∧(bad1=true∨q=b.length)) ?_ ?_
 ·rintro _ W ⟨l,cv,q,bad1,bx,b5,ho,hby,hR,hL,hM,hq⟩ _
  have gW:Grow w W:=g09.next hM fun z hz e=>by omega
  refine nilckK_s ?_
  rw [faK_i,addr0]
  refine ld1K_i hR.c2 ?_
  refine condK_bb (fun e=>?_) fun e=>?_
  ·subst e
   refine ⟨#[.slice none 0 0,.int .i64 0,.int .i64 0,.slice none 0 0],by kernel_rfl,?_⟩
   refine bx.stn (n:=4) (us:=[.slice none 0 0,.int .i64 0,.int .i64 0,.slice none 0 0]) rfl rfl (by simp [Value.oneCell']) fun W2 b2 m2=>?_
   refine b2.ld (n:=4) rfl ⟨gW.next m2 fun z hz e=>by omega,.inr ⟨rfl,fun s hs e=>?_⟩⟩
   rw [eScr_hd] at e
   have e8:bad8=false:=rr.full rfl (s.keys,s.most,s.undo) _ ⟨hs.1,hs.2.1,hs.2.2.1⟩ (by rw [List.drop_zero];exact e.symm)
   obtain ⟨u1,u2⟩:=rr.sound e8
   rw [List.drop_zero,←e] at u2
   have u3:=(pf_hd (s.keys,s.most,s.undo) _ _ _ ⟨hs.1,hs.2.1,hs.2.2.1⟩ u1 u2).2
   rw [e] at u3
   have:=hL.full e8 s.cmds hs.2.2.2 u3.symm
   cases this
  ·subst e
   rcases hq with hq | rfl
   ·cases hq
   refine b5.ld (n:=4) rfl ?_
   have hc1:=OwnR.one ho
   refine bx.stn (n:=4) (us:=[kv,.int .i64 n6,.int .i64 n8,cv]) rfl rfl (one4 hk1.1 hc1.1) fun W2 b2 m2=>?_
   have nc:∀ z,cv.ownBlock=some z→w9.heap.size≤z∧z < W.heap.size:=fun z hz=>OwnR.ownB ho z hz
   have nk:∀ z,kv.ownBlock=some z→w2.heap.size≤z∧z < w3.heap.size:=fun z hz=>OwnR.ownB o3 z hz
   have hMs:=hM.size
   refine b2.ld (n:=4) rfl ⟨gW.next m2 fun z hz e=>by omega,.inl ⟨_,⟨ks,n6,n8,l⟩,rfl,⟨kv,cv,rfl,?_,?_⟩,?_,?_,hby⟩⟩
   ·refine ((SlR.sub (OwnR.sl o3) (fun z _ hz=>?_) (by decide) fun _ _ h=>h).mod (((m39.trans hM).mono fun z _ e=>.inl e).trans (m2.mono fun z _ e=>.inr e)) (M:=fun z=>(z=c∨z=g5)∨z=g) (S:=fun z=>w2.heap.size≤z∧z < w3.heap.size) (fun z _ hz e=>by omega) (by decide) fun _ _ h=>h).sub (fun z _ hz=>by have:=hz.1;omega) (by decide) fun _ _ h=>h
    exact nk z hz.2
   ·refine SlR.sub (SlR.mod (M:=fun z=>z=g) (OwnR.sl ho) m2 (fun z _ hz e=>by have:=hz.1;omega) (by decide) fun r y hy=>RCmd.mod hy m2 fun z e hd=>by have:=hd.2;omega) (fun z _ hz=>by have:=hz.1;omega) (by decide) fun r y hy=>RCmd.to hy (Mod.refl (fun _=>False) _) (fun _ _ _ h=>h) fun z _ hd=>by have:=hd.2;omega
   ·have e8:bad8=false:=by
     cases hb8:bad8
     ·rfl
     ·have:=hL.stays hb8;cases this
    obtain ⟨u1,_⟩:=rr.sound e8
    obtain ⟨v1,_⟩:=hL.sound rfl
    exact ⟨u1.1,u1.2.1,u1.2.2,v1⟩
   ·have e8:bad8=false:=by
     cases hb8:bad8
     ·rfl
     ·have:=hL.stays hb8;cases this
    obtain ⟨_,u2⟩:=rr.sound e8
    obtain ⟨_,v2⟩:=hL.sound rfl
    rw [eScr_hd]
    rw [List.drop_zero,v2,List.drop_length,List.append_nil] at u2
    exact u2.symm
 refine LoopK_i (fun vs W=>∃ (l:List Cmd) (cv:Value) (q:Nat) (bad1:Bool),vs=[]∧BoxN W g [.slice none 0 0,.int .i64 0,.int .i64 0,.slice none 0 0]∧BoxN W g5 [kv,.int .i64 n6,.int .i64 n8,cv]∧OwnR w9.heap.size 52 8 (RCmd fun z=>cv.ownBlock≠some z∧w9.heap.size≤z) W cv l∧(∀ c ∈ l,ByteL c.bytes)∧RdS (fun z=>z < w.heap.size) W c bv b q bad1∧RdC b q8 bad8 l q bad1∧Mod (fun z=>z=c∨z=g5) w9 W∧l.length≤q+(if bad1 then 1 else 0)) (fun _ W=>muR c b.length W)
  ⟨[],.slice none 0 0,q8,bad8,rfl,x9,k9,OwnR.nil,fun _ h=>(by cases h),h9,⟨Nat.le_refl _,h9.len,fun e=>e,fun _=>⟨fun _ h=>(by cases h),by simp⟩,fun e _ _ _=>e⟩,Mod.refl _ _,by simp⟩ ?_
 rintro vs W1 ⟨l,cv,q,bad1,rfl,bx,b5,ho,hby,hR,hL,hM,hll⟩ _
 have hmu:=muR_of (n:=b.length) hR
 refine JoinK_i (fun _ W'=>W'=W1∧bad1=false∧q < b.length) ?_ ?_
 rotate_left
 ·refine nilckK_s ?_
  rw [faK_i,addr0]
  refine ld1K_i hR.c2 ?_
  rw [notK_i]
  refine condK_bb (fun e=>?_) fun e=>⟨l,cv,q,bad1,bx,b5,ho,hby,hR,hL,hM,.inl (by simpa using e)⟩
  refine nilckK_s ?_
  rw [faK_i,addr0]
  refine ld1K_i hR.c1 ?_
  have hlen:∀ {k:Value→Prop},k (.int .i64 b.length)→lenK bv k:=fun {k} hk=>by subst ebv;rw [lenK_i];exact hk
  refine hlen ?_
  rw [ltK_i]
  have hql:=hR.len
  exact condK_p (fun e2=>⟨rfl,by simpa using e,by omega⟩) fun e2=>⟨l,cv,q,bad1,bx,b5,ho,hby,hR,hL,hM,.inr (by omega)⟩
 rintro _ _ ⟨rfl,rfl,hq⟩ _
 rename World=>W1
 have gd:Grow W1 W1.drew:=Mod.drew _ _
 have hz1:W1.drew.heap.size=W1.heap.size:=rfl
 have hMs:=hM.size
 have nc:∀ z,cv.ownBlock=some z→w9.heap.size≤z∧z < W1.heap.size:=fun z hz=>OwnR.ownB ho z hz
 have bx:=bx.mod gd fun h=>h
 have b5:=b5.mod gd fun h=>h
 have hRd:=hR.grow gd
 have hMd:=hM.trans (gd.mono fun _ _ e=>e.elim)
 have hod:OwnR w9.heap.size 52 8 (RCmd fun z=>cv.ownBlock≠some z∧w9.heap.size≤z) W1.drew cv l:=OwnR.mod ho gd (fun _ _ h=>h) fun r y _ hy=>RCmd.mod hy gd fun _ h=>h.elim
 have hFW:Flds W1.drew:=hF9.mod hMd (by omega)
 generalize W1.drew=Wd at *
 refine drawC_i (fun k z=>(k=3∧z=c)∨(k=5∧cv.ownBlock=some z)∨(k=7∧z=g5)) ?_
 rw [faK_i,addr0]
 refine sld1_i ⟨b5.cells 3 _ rfl,fun j hj e=>by
  rcases e with ⟨rfl,e⟩ | ⟨rfl,_⟩ | ⟨rfl,_⟩
  ·have:g5=c:=e
   omega
  ·exact absurd hj (by decide)
  ·exact absurd hj (by decide)⟩ ?_
 refine callK_mono (cmdS_ok hb hl' hRd hFW hgc) ?_
 rintro _ W2 ⟨r,cm,q2,bad2,⟨rfl,hC⟩,hby2,hR2,m2,hP⟩
 refine ⟨m2.mono fun z _ e=>.inl ⟨rfl,e⟩,?_⟩
 have sh:=hC
 obtain ⟨ov,yv,pv,rfl,d1,d2,d3⟩:=sh
 obtain ⟨a1,c1,rfl,_⟩:=d1.shape
 obtain ⟨a2,c2,rfl,_⟩:=d2.shape
 obtain ⟨a3,c3,rfl,_⟩:=d3.shape
 have ms2:=m2.size
 have ho2:OwnR w9.heap.size 52 8 (RCmd fun z=>z < W2.heap.size∧cv.ownBlock≠some z∧w9.heap.size≤z) W2 cv l:=OwnR.mod hod m2 (fun z hz e=>by have:=(nc z hz).1;omega) fun r y _ hy=>RCmd.to hy m2 (fun z _ hd e=>by have:=hd.2;omega) fun z hz hd=>⟨by omega,hd⟩
 have hv2:=RCmd.to hC (Mod.refl (fun _=>False) _) (D':=fun z=>z < W2.heap.size∧cv.ownBlock≠some z∧w9.heap.size≤z) (fun _ _ _ h=>h) fun z hz hd=>⟨hz,fun e=>by have:=(nc z e).2;have:Wd.heap.size≤z:=hd;omega,by have:Wd.heap.size≤z:=hd;omega⟩
 have hql:l.length≤q:=by simpa using hll
 refine push_g2 (cs:=[.int .u8 cm.kind,.int .i64 cm.i,.int .i64 cm.j,.int .i64 cm.key,.int .i64 cm.by_,_,_,_]) (x:=cm) elem_cmd ho2 (by omega) (by kernel_rfl) rfl hv2 (fun _ _ _=>RCmd.one) (fun w1 w2 r y hz m hy=>RCmd.to hy m (fun z _ hd e=>by
   rcases e with e | e
   ·exact hd.2.1 e
   ·have:=hd.1;omega) fun _ _ h=>h) (by omega) (by simp only [maxLen];omega) (fun w1 g=>g.mono fun _ _ e=>e.elim) fun W3 v4 W4 o4 m34 m4 own4=>⟨m34.mono fun z _ e=>.inr (.inl ⟨rfl,e⟩),?_⟩
 have o4:OwnR w9.heap.size 52 8 (RCmd fun z=>v4.ownBlock≠some z∧w9.heap.size≤z) W4 v4 (l++[cm]):=OwnR.mod o4 (Mod.refl (fun _=>False) _) (fun _ _ h=>h) fun r y _ hy=>RCmd.to hy (Mod.refl (fun _=>False) _) (fun _ _ _ h=>h) fun z hz hd=>⟨fun e=>by
  rcases own4 z e with h | h
  ·exact hd.2.1 h
  ·have:=hd.1;omega,hd.2.2⟩
 have nv4:∀ z,v4.ownBlock=some z→w9.heap.size≤z:=fun z hz=>(OwnR.ownB o4 z hz).1
 have hv4:=OwnR.one o4
 have ms4:=m4.size
 refine ((b5.mod m2 (by omega)).mod m4 fun e=>by have:=(nc _ e).1;omega).st (by simp) hv4.1 hv4.2 fun W5 b7 m5=>⟨m5.mono fun z _ e=>.inr (.inr ⟨rfl,e⟩),?_⟩
 have hR5:RdS (fun z=>z < w.heap.size) W5 c bv b q2 bad2:=(hR2.mod m4 fun z hz e=>by have:=(nc z e).1;omega).mod m5 fun z hz e=>by omega
 have hle:=hP.le
 have hstep:bad2=false→q < q2:=fun e=>by
  have:=hP.place e
  have:=eCmd_pos cm
  omega
 refine ⟨⟨l++[cm],v4,q2,bad2,rfl,((bx.mod m2 (by omega)).mod m4 fun e=>by have:=(nc _ e).1;omega).mod m5 (by omega),b7,OwnR.mod o4 m5 (fun z hz e=>by have:=nv4 z hz;omega) fun r y _ hy=>RCmd.mod hy m5 fun z e hd=>by have:=hd.2;omega,fun x hx=>?_,hR5,hL.snoc hq hP,((hMd.trans (m2.mono fun z _ e=>.inl e)).next m4 fun z hz e=>by have:=(nc z e).1;omega).trans (m5.mono fun z _ e=>.inr e),?_⟩,?_⟩
 ·rcases List.mem_append.1 hx with hx | hx
  ·exact hby x hx
  ·rw [List.mem_singleton.1 hx];exact hby2
 ·rw [List.length_append,List.length_singleton]
  cases bad2
  ·have:=hstep rfl
   simp only [Bool.false_eq_true,if_false];omega
  ·simp only [if_true];omega
 ·rw [muR_of hR5,hmu]
  have:=hP.len
  cases bad2
  ·have:=hstep rfl
   simp only [Bool.false_eq_true,if_false];omega
  ·simp only [Bool.false_eq_true,if_false,if_true];omega
end Go.Proofs.YtaimlfomodfekaaGreatDoor

namespace Go.Proofs.YtaimlfomodfekaaGreatDoor
open Go Go.K

def keepL (l:List Nat) (c:Cmd):Cmd:=⟨c.kind,if 105 ∈ l then c.i else 0,if 106 ∈ l then c.j else 0,if 107 ∈ l then c.key else 0,if 121 ∈ l then c.by_ else 0,if 111 ∈ l then c.ops else [],if 98 ∈ l then c.bytes else [],if 112 ∈ l then c.patch else []⟩
def rowL (l:List Nat) (c:Cmd) (ov yv pv:Value):List Value:=row8 (keepL l c) (if 111 ∈ l then ov else .slice none 0 0) (if 98 ∈ l then yv else .slice none 0 0) (if 112 ∈ l then pv else .slice none 0 0)
theorem keep_may {k:Nat} {c:Cmd} (hk:c.kind=k):(chL k≠[]∧c=keepL (chL k) c)↔MayC c:=by
 constructor
 ·rintro ⟨h0,e⟩
  have hK:=isK_chL.2 h0
  obtain ⟨h1,h2,h3,h3',h4,h5,h6⟩:=has_chL hK
  have ei:=congrArg Cmd.i e;have ej:=congrArg Cmd.j e;have ek:=congrArg Cmd.key e;have eb:=congrArg Cmd.by_ e
  have eo:=congrArg Cmd.ops e;have ey:=congrArg Cmd.bytes e;have ep:=congrArg Cmd.patch e
  simp only [keepL] at ei ej ek eb eo ey ep
  unfold MayC
  rw [hk]
  have ins:hasS k=true∨c.key=0∧c.by_=0:=by
   by_cases m:107 ∈ chL k
   ·exact .inl (h3.2 m)
   ·have m':121 ∉ chL k:=fun x=>m (h3.1 (h3'.2 x))
    rw [if_neg m] at ek;rw [if_neg m'] at eb
    exact .inr ⟨ek,eb⟩
  refine ⟨hK,?_,?_,ins,?_,?_,?_⟩
  ·by_cases m:105 ∈ chL k
   ·exact .inl (h1.2 m)
   ·rw [if_neg m] at ei;exact .inr ei
  ·by_cases m:106 ∈ chL k
   ·exact .inl (h2.2 m)
   ·rw [if_neg m] at ej;exact .inr ej
  ·by_cases m:111 ∈ chL k
   ·exact .inl (h4.2 m)
   ·rw [if_neg m] at eo;exact .inr eo
  ·by_cases m:98 ∈ chL k
   ·exact .inl (h5.2 m)
   ·rw [if_neg m] at ey;exact .inr ey
  ·by_cases m:112 ∈ chL k
   ·exact .inl (h6.2 m)
   ·rw [if_neg m] at ep;exact .inr ep
 ·rintro ⟨hK,m1,m2,m3,m4,m5,m6⟩
  rw [hk] at hK m1 m2 m3 m4 m5 m6
  obtain ⟨h1,h2,h3,h3',h4,h5,h6⟩:=has_chL hK
  refine ⟨isK_chL.1 hK,?_⟩
  have pick:∀ {α:Type} {m:Prop} [Decidable m] {x z:α},(m∨x=z)→x=if m then x else z:=fun h=>by
   split
   ·rfl
   ·rename_i hn;exact h.resolve_left hn
  have e1:=pick (m1.imp_left h1.1)
  have e2:=pick (m2.imp_left h2.1)
  have e3:=pick (m3.imp h3.1 And.left)
  have e4:=pick (m3.imp h3'.1 And.right)
  have e5:=pick (m4.imp_left h4.1)
  have e6:=pick (m5.imp_left h5.1)
  have e7:=pick (m6.imp_left h6.1)
  cases c
  simp only [keepL] at *
  rw [Cmd.mk.injEq]
  exact ⟨rfl,e1,e2,e3,e4,e5,e6,e7⟩
theorem RCmd.keep {D:Nat→Prop} {w:World} {c:Cmd} {ov yv pv:Value} {l:List Nat} (d1:RDops D D w ov c.ops) (d2:RBytes D w yv c.bytes) (d3:RPat D w pv c.patch):RCmd D w (rowL l c ov yv pv) (keepL l c):=by
 refine ⟨_,_,_,rfl,?_,?_,?_⟩ <;> simp only [keepL] <;> split
 ·exact d1
 ·exact SlR.nil
 ·exact d2
 ·exact SlR.nil
 ·exact d3
 ·exact SlR.nil
section
variable {D:Nat→Prop} {r:List Value} {c:Cmd} {w:World}
theorem bareS_ok (hr:RCmd D w r c) (hk:0≤c.kind∧c.kind < 256) (hF:Flds w) :
  callK Tryz.prog 29 [.agg r.toArray] (fun v w'=>∃ r',v=.agg r'.toArray∧RCmd D w' r' (keepL (chL c.kind.toNat) c)∧Grow w w') w:=by
 apply S29_ok
 unfold S29
 have hr0:=hr
 obtain ⟨ov,yv,pv,rfl,d1,d2,d3⟩:=hr
 obtain ⟨a1,c1,e1,_⟩:=id d1.shape
 obtain ⟨a2,c2,e2,_⟩:=id d2.shape
 obtain ⟨a3,c3,e3,_⟩:=id d3.shape
 obtain ⟨k,hkk⟩:∃ k:Nat,c.kind=k:=⟨c.kind.toNat,by omega⟩
 refine boxn_i fun b1 w1 hb1 hz1 g1 hc1 hli1=>?_
 refine BoxN.new fun g w2 hg hz2 g2 bx=>?_
 have k0:∀ {W},Grow w1 W→∀ j u,[Value.int .u8 c.kind,.int .i64 c.i,.int .i64 c.j,.int .i64 c.key,.int .i64 c.by_,ov,yv,pv][j]?=some u→W.cell? ⟨b1,j,none⟩=some u:=fun gW j u hu=>gW.cell (by have:=hc1 j u hu;rwa [addr0] at this) fun h=>h
 rw [faK_i,addr0]
 refine ld1K_i (k0 g2 0 _ rfl) ?_
 refine ⟨(row8 ⟨c.kind,0,0,0,0,[],[],[]⟩ (.slice none 0 0) (.slice none 0 0) (.slice none 0 0)).toArray,by kernel_rfl,?_⟩
 refine newst_n (n:=8) (vs:=row8 ⟨c.kind,0,0,0,0,[],[],[]⟩ (.slice none 0 0) (.slice none 0 0) (.slice none 0 0)) rfl rfl (by simp [row8,Value.oneCell']) fun g3 w3 hg3 hz3 gr3 hcc3 hl3=>?_
 have b3:BoxN w3 g3 (row8 ⟨c.kind,0,0,0,0,[],[],[]⟩ (.slice none 0 0) (.slice none 0 0) (.slice none 0 0)):=⟨fun j u hu=>by have:=hcc3 j u hu;rwa [addr0] at this,fun j hj=>by have:=hl3 j hj;rwa [addr0] at this⟩
 have s1:=g1.size
 have s2:=g2.size
 have s3:=gr3.size
 rw [faK_i,addr0]
 refine ld1K_i (k0 (g2.trans gr3) 0 _ rfl) ?_
 rw [hkk]
 refine callK_mono (sof_ok (((hF.grow g1).grow g2).grow gr3) (by omega)) ?_
 rintro _ _ ⟨rfl,rfl⟩
 rename World=>w3
 refine runK_i (run_range_string _ _ _ Tryz.underlying9) ?_
 have g5:Grow w3 (w3.iter (fldS k) 0):=Mod.alloc _ _ _
 have hit:=World.iter_heap w3 (fldS k) 0
 have z5:(w3.iter (fldS k) 0).heap.size=w3.heap.size+1:=by simp [World.iter]
 generalize w3.iter (fldS k) 0=w5 at g5 hit z5 ⊢
 obtain ⟨ib,hib⟩:∃ ib,ib=w3.heap.size:=⟨_,rfl⟩
 rw [←hib] at hit ⊢
 have g05:Grow w w5:=((g1.trans g2).trans gr3).trans g5
 refine LoopK_i (fun vs W=>∃ n:Nat,n≤(chL k).length∧vs=[]∧W.heap[ib]?=some (.stringIter (fldS k) n)∧BoxN W g (row8 ⟨0,0,0,0,0,[],[],[]⟩ (.slice none 0 0) (.slice none 0 0) (.slice none 0 0))∧BoxN W g3 (rowL ((chL k).take n) c ov yv pv)∧BoxN W b1 [Value.int .u8 c.kind,.int .i64 c.i,.int .i64 c.j,.int .i64 c.key,.int .i64 c.by_,ov,yv,pv]∧Grow w W) (fun _ W=>(chL k).length - W.iterPos ib)
  ⟨0,Nat.zero_le _,rfl,hit,(bx.mod gr3 fun h=>h).mod g5 fun h=>h,b3.mod g5 fun h=>h,?_,g05⟩ ?_
 ·refine ⟨k0 ((g2.trans gr3).trans g5),fun j hj=>?_⟩
  have h1:=hli1 j hj
  rw [addr0] at h1
  exact h1.mod ((g2.trans gr3).trans g5) fun h=>h
 rintro vs w0 ⟨n,hnl,rfl,hiw,hx,hy,hz,hG⟩ _
 have hpos:w0.iterPos ib=n:=iterPos_of hiw
 have siz:=World.heap_lt hiw
 have one1:∀ {v:Value} {a n m},v=.slice a n m→v.oneCell'=true∧v.cells=#[v]:=fun e=>by rw [e];exact ⟨rfl,rfl⟩
 by_cases hpe:n < (chL k).length
 rotate_left
 ·have hpe':n=(chL k).length:=by omega
  refine runK_i (Lib.run_next_end_at w0 ib _ n 0 hiw (by rw [fldS_size];omega)) ?_
  refine extK_i (vs:=[_]) rfl ?_
  refine condK_f ?_
  rw [hpe',List.take_length] at hy
  have hC:RCmd D w0 (rowL (chL k) c ov yv pv) (keepL (chL k) c):=RCmd.keep (RDops.grow d1 hG) (d2.grow hG (by decide) fun _ _ h=>h) (d3.grow hG (by decide) fun _ _ h=>h)
  refine hy.ld (n:=8) rfl ?_
  refine hx.stn (n:=8) (us:=rowL (chL k) c ov yv pv) rfl rfl hC.one fun w6 b6 m6=>?_
  have g6:Grow w w6:=hG.next m6 fun z hz e=>by omega
  refine b6.ld (n:=8) rfl ⟨_,rfl,?_,g6⟩
  exact RCmd.keep (RDops.grow d1 g6) (d2.grow g6 (by decide) fun _ _ h=>h) (d3.grow g6 (by decide) fun _ _ h=>h)
 have hsz:n < (fldS k).size:=by rw [fldS_size];exact hpe
 obtain ⟨hch,hIs⟩:=fldS_at hpe hsz
 refine runK_i (Lib.run_next_ascii_at w0 ib _ n 0 hiw hsz (by unfold IsCh at hIs;omega)) ?_
 rw [hch]
 have mi:Mod (fun z=>z=ib) w0 (w0.iterAt ib (fldS k) (n+1)):=Mod.setObj w0 ib _ _ hiw
 have hiw':=Lib.iterAt_heap w0 ib (fldS k) n (n+1) hiw
 have htk:(chL k).take (n+1)=(chL k).take n++[(chL k)[n]]:=by
  rw [List.take_add_one,List.getElem?_eq_getElem hpe];rfl
 have hx:=hx.mod mi (by omega)
 have hy:=hy.mod mi (by omega)
 have hz:=hz.mod mi (by omega)
 have hG:=hG.next mi fun z hz e=>by omega
 generalize w0.iterAt ib (fldS k) (n+1)=W at hiw' hx hy hz hG ⊢
 generalize hcd:(chL k)[n]=ch at hIs htk ⊢
 generalize (chL k).take n=tk at hy htk
 have siz':=World.heap_lt hiw'
 refine extK_i (vs:=[_,_,_]) rfl (condK_t (extK_i (vs:=[_,_,_]) rfl ?_))
 have done:∀ W',W'.heap[ib]?=some (.stringIter (fldS k) (n+1))→BoxN W' g (row8 ⟨0,0,0,0,0,[],[],[]⟩ (.slice none 0 0) (.slice none 0 0) (.slice none 0 0))→BoxN W' g3 (rowL (tk++[ch]) c ov yv pv)→BoxN W' b1 [Value.int .u8 c.kind,.int .i64 c.i,.int .i64 c.j,.int .i64 c.key,.int .i64 c.by_,ov,yv,pv]→Grow w W'→
   (∃ n:Nat,n≤(chL k).length∧([]:List Value)=[]∧W'.heap[ib]?=some (.stringIter (fldS k) n)∧BoxN W' g (row8 ⟨0,0,0,0,0,[],[],[]⟩ (.slice none 0 0) (.slice none 0 0) (.slice none 0 0))∧BoxN W' g3 (rowL ((chL k).take n) c ov yv pv)∧BoxN W' b1 [Value.int .u8 c.kind,.int .i64 c.i,.int .i64 c.j,.int .i64 c.key,.int .i64 c.by_,ov,yv,pv]∧Grow w W')∧(chL k).length - W'.iterPos ib < (chL k).length - w0.iterPos ib:=fun W' a1 a2 a3 a4 a5=>
  ⟨⟨n+1,hpe,rfl,a1,a2,htk ▸ a3,a4,a5⟩,by rw [hpos,iterPos_of a1];omega⟩
 refine JoinK_i (fun vs W'=>vs=[]∧W'.heap[ib]?=some (.stringIter (fldS k) (n+1))∧BoxN W' g (row8 ⟨0,0,0,0,0,[],[],[]⟩ (.slice none 0 0) (.slice none 0 0) (.slice none 0 0))∧BoxN W' b1 [Value.int .u8 c.kind,.int .i64 c.i,.int .i64 c.j,.int .i64 c.key,.int .i64 c.by_,ov,yv,pv]∧Grow w W'∧((ch=105∨ch=106∨ch=107∨ch=121)∧BoxN W' g3 (rowL (tk++[ch]) c ov yv pv)∨(ch≠105∧ch≠106∧ch≠107∧ch≠121)∧BoxN W' g3 (rowL tk c ov yv pv))) ?_ ?_
 ·clear hx hy hz hG hiw'
  rintro _ W' ⟨rfl,hi2,hx,hz,hG,hy⟩ _
  have siz':=World.heap_lt hi2
  have fin:∀ (j:Nat) (u:Value),j < 8→u.oneCell'=true→u.cells=#[u]→BoxN W' g3 (rowL tk c ov yv pv)→(rowL tk c ov yv pv).set j u=rowL (tk++[ch]) c ov yv pv→∀ {K:World→Prop},(∀ W2,(W2.heap[ib]?=some (.stringIter (fldS k) (n+1))∧BoxN W2 g (row8 ⟨0,0,0,0,0,[],[],[]⟩ (.slice none 0 0) (.slice none 0 0) (.slice none 0 0))∧BoxN W2 g3 (rowL (tk++[ch]) c ov yv pv)∧BoxN W2 b1 [Value.int .u8 c.kind,.int .i64 c.i,.int .i64 c.j,.int .i64 c.key,.int .i64 c.by_,ov,yv,pv]∧Grow w W2)→K W2)→
    faK j (.pointer (some ⟨g3,0,none⟩)) fun q=>st1K q u K W':=fun j u hj h1 h2 hy e K hK=>
   hy.st (by simp [rowL,row8];omega) h1 h2 fun W2 b2 m2=>hK W2 ⟨(m2.same ib siz' (by omega)).trans hi2,hx.mod m2 (by omega),e ▸ b2,hz.mod m2 (by omega),hG.next m2 fun z hz e=>by omega⟩
  rw [eqK_i]
  refine condK_p (fun e=>?_) fun n1=>?_
  ·obtain rfl:ch=111:=by omega
   rcases hy with ⟨hn,_⟩ | ⟨_,hy⟩
   ·omega
   rw [faK_i,addr0]
   refine ld1K_i (hz.cells 5 _ rfl) ?_
   exact fin 5 ov (by decide) (one1 e1).1 (one1 e1).2 hy (by simp [rowL,row8,keepL]) fun W2 ⟨q1,q2,q3,q4,q5⟩=>done W2 q1 q2 q3 q4 q5
  rw [eqK_i]
  refine condK_p (fun e=>?_) fun n2=>?_
  ·obtain rfl:ch=98:=by omega
   rcases hy with ⟨hn,_⟩ | ⟨_,hy⟩
   ·omega
   rw [faK_i,addr0]
   refine ld1K_i (hz.cells 6 _ rfl) ?_
   exact fin 6 yv (by decide) (one1 e2).1 (one1 e2).2 hy (by simp [rowL,row8,keepL]) fun W2 ⟨q1,q2,q3,q4,q5⟩=>done W2 q1 q2 q3 q4 q5
  rw [eqK_i]
  refine condK_p (fun e=>?_) fun n3=>?_
  ·obtain rfl:ch=112:=by omega
   rcases hy with ⟨hn,_⟩ | ⟨_,hy⟩
   ·omega
   rw [faK_i,addr0]
   refine ld1K_i (hz.cells 7 _ rfl) ?_
   exact fin 7 pv (by decide) (one1 e3).1 (one1 e3).2 hy (by simp [rowL,row8,keepL]) fun W2 ⟨q1,q2,q3,q4,q5⟩=>done W2 q1 q2 q3 q4 q5
  rcases hy with ⟨_,hy⟩ | ⟨hn,hy⟩
  ·exact done W' hi2 hx hy hz hG
  ·obtain rfl:ch=46:=by unfold IsCh at hIs;omega
   exact done W' hi2 hx (by simpa [rowL,row8,keepL] using hy) hz hG
 ·refine callK_mono (snum_ok hIs) ?_
  rintro _ _ ⟨rfl,⟨j,hj,rfl⟩ | ⟨hj,rfl⟩⟩
  rotate_left
  ·exact extK_i (vs:=[_,_]) rfl (extK_i (vs:=[_,_]) rfl (condK_f ⟨rfl,hiw',hx,hz,hG,.inr ⟨hj,hy⟩⟩))
  rename World=>W
  refine extK_i (vs:=[_,_]) rfl (extK_i (vs:=[_,_]) rfl (condK_t ?_))
  refine callK_mono (snum_ok hIs) ?_
  rintro _ _ ⟨rfl,⟨j',hj',rfl⟩ | ⟨hj',rfl⟩⟩
  rotate_left
  ·omega
  rename World=>W
  obtain rfl:j=j':=by omega
  refine extK_i (vs:=[_,_]) rfl (extK_i (vs:=[_,_]) rfl (nilckK_s ?_))
  rcases hj with ⟨rfl,rfl⟩ | ⟨rfl,rfl⟩ | ⟨rfl,rfl⟩ | ⟨rfl,rfl⟩
  ·refine ld1K_i (by rw [addr0];exact hz.cells 1 _ rfl) (nilckK_s ?_)
   exact (iff_of_eq (faK_i (k:=fun q=>st1K q _ _ W) 1 ⟨g3,0,none⟩)).1 (hy.st (by simp [rowL,row8]) rfl rfl fun w7 b7 m7=>⟨rfl,(m7.same ib siz' (by omega)).trans hiw',hx.mod m7 (by omega),hz.mod m7 (by omega),hG.next m7 fun z hz e=>by omega,.inl ⟨by omega,by simpa [rowL,row8,keepL] using b7⟩⟩)
  ·refine ld1K_i (by rw [addr0];exact hz.cells 2 _ rfl) (nilckK_s ?_)
   exact (iff_of_eq (faK_i (k:=fun q=>st1K q _ _ W) 2 ⟨g3,0,none⟩)).1 (hy.st (by simp [rowL,row8]) rfl rfl fun w7 b7 m7=>⟨rfl,(m7.same ib siz' (by omega)).trans hiw',hx.mod m7 (by omega),hz.mod m7 (by omega),hG.next m7 fun z hz e=>by omega,.inl ⟨by omega,by simpa [rowL,row8,keepL] using b7⟩⟩)
  ·refine ld1K_i (by rw [addr0];exact hz.cells 3 _ rfl) (nilckK_s ?_)
   exact (iff_of_eq (faK_i (k:=fun q=>st1K q _ _ W) 3 ⟨g3,0,none⟩)).1 (hy.st (by simp [rowL,row8]) rfl rfl fun w7 b7 m7=>⟨rfl,(m7.same ib siz' (by omega)).trans hiw',hx.mod m7 (by omega),hz.mod m7 (by omega),hG.next m7 fun z hz e=>by omega,.inl ⟨by omega,by simpa [rowL,row8,keepL] using b7⟩⟩)
  ·refine ld1K_i (by rw [addr0];exact hz.cells 4 _ rfl) (nilckK_s ?_)
   exact (iff_of_eq (faK_i (k:=fun q=>st1K q _ _ W) 4 ⟨g3,0,none⟩)).1 (hy.st (by simp [rowL,row8]) rfl rfl fun w7 b7 m7=>⟨rfl,(m7.same ib siz' (by omega)).trans hiw',hx.mod m7 (by omega),hz.mod m7 (by omega),hG.next m7 fun z hz e=>by omega,.inl ⟨by omega,by simpa [rowL,row8,keepL] using b7⟩⟩)
end
end Go.Proofs.YtaimlfomodfekaaGreatDoor

namespace Go.Proofs.YtaimlfomodfekaaGreatDoor
open Go Go.K

theorem keep_bytes {l:List Nat} {c:Cmd} (h:ByteL c.bytes):ByteL (keepL l c).bytes:=by
 simp only [keepL]
 split
 ·exact h
 ·exact fun _ h=>(by cases h)
theorem may1S_ok {D:Nat→Prop} {r:List Value} {c:Cmd} {w:World} (hr:RCmd D w r c) (hk:0≤c.kind∧c.kind < 256) (hb:ByteL c.bytes) (hF:Flds w) :
  callK Tryz.prog 26 [.agg r.toArray] (fun v w'=>(∃ t:Bool,v=.bool t∧(t=false↔MayC c))∧Grow w w') w:=by
 apply S26_ok
 unfold S26
 have hr0:=hr
 obtain ⟨ov,yv,pv,rfl,_,_,_⟩:=hr
 obtain ⟨k,hkk⟩:∃ k:Nat,c.kind=k:=⟨c.kind.toNat,by omega⟩
 refine boxn_i fun b1 w1 hb1 hz1 g1 hc1 _=>?_
 have gd:Grow w1 w1.drew:=Mod.drew _ _
 have g0:=g1.trans gd
 have cc:∀ j u,[Value.int .u8 c.kind,.int .i64 c.i,.int .i64 c.j,.int .i64 c.key,.int .i64 c.by_,ov,yv,pv][j]?=some u→w1.drew.cell? ((⟨b1,0,none⟩:Addr).add j)=some u:=fun j u hu=>gd.cell (hc1 j u hu) fun h=>h
 generalize w1.drew=wd at *
 refine drawC_i (fun _ _=>False) ?_
 rw [faK_i]
 refine sld1_i ⟨cc 0 _ rfl,fun _ _ h=>h⟩ ?_
 rw [hkk]
 refine callK_mono (sof_ok (hF.grow g0) (by omega)) ?_
 rintro _ _ ⟨rfl,rfl⟩
 rename World=>wd
 refine ⟨Mod.refl _ _,?_⟩
 rw [seqK_i]
 refine condK_p (fun e=>?_) fun e=>?_
 ·have e0:chL k=[]:=List.length_eq_zero_iff.1 (by rw [←fldS_size,e];rfl)
  exact ⟨⟨true,rfl,fun h=>(by cases h),fun h=>((keep_may hkk).2 h).1 e0 |>.elim⟩,g0⟩
 ·have e0:chL k≠[]:=fun e0=>e (by unfold fldS;rw [e0];rfl)
  refine sldn_i (vs:=[Value.int .u8 c.kind,.int .i64 c.i,.int .i64 c.j,.int .i64 c.key,.int .i64 c.by_,ov,yv,pv]) rfl (fun j u hu=>⟨cc j u hu,fun _ _ h=>h⟩) ?_
  refine sldn_i (vs:=[Value.int .u8 c.kind,.int .i64 c.i,.int .i64 c.j,.int .i64 c.key,.int .i64 c.by_,ov,yv,pv]) rfl (fun j u hu=>⟨cc j u hu,fun _ _ h=>h⟩) ?_
  refine callK_mono (bareS_ok (hr0.grow g0) hk (hF.grow g0)) ?_
  rintro _ w3 ⟨r',rfl,hr',g3⟩
  refine ⟨g3.mono fun _ _ e=>e.elim,?_⟩
  refine callK_mono (scm1_ok (hr0.grow (g0.trans g3)) hr' hb (keep_bytes hb)) ?_
  rintro _ w4 ⟨rfl,g4⟩
  refine ⟨g4.mono fun _ _ e=>e.elim,?_⟩
  rw [notK_i]
  refine ⟨⟨_,rfl,?_⟩,(g0.trans g3).trans g4⟩
  rw [←keep_may hkk]
  have ek:c.kind.toNat=k:=by rw [hkk];rfl
  rw [ek]
  simp [e0]
theorem mayS_ok {S D:Nat→Prop} {r:List Value} {s:Scr} {w:World} (h:RScr S D w r s) (hk:∀ c ∈ s.cmds,0≤c.kind∧c.kind < 256) (hb:∀ c ∈ s.cmds,ByteL c.bytes) (hF:Flds w) :
  callK Tryz.prog 10 [.agg r.toArray] (fun v w'=>(∃ t:Bool,v=.bool t∧(t=true↔MayS s))∧Grow w w') w:=by
 apply S10_ok
 unfold S10
 obtain ⟨kv,cv,rfl,h1,h2⟩:=h
 obtain ⟨a2,c2,rfl,hm⟩:=h2.shape
 simp only [maxLen] at hm
 refine boxn_i fun b1 w1 hb1 hz1 g1 hc1 _=>?_
 rw [faK_i]
 refine ld1K_i (hc1 3 _ rfl) ?_
 have key:callK Tryz.prog 57 [.slice a2 s.cmds.length c2,.func (.func 26) #[] #[]] (fun v w'=>(∃ n:Int,v=.int .i64 n∧(n < 0↔MayS s))∧Grow w1 w') w1:=by
  apply S57_ok
  unfold S57
  rw [lenK_i]
  refine LoopK_i (fun vs W=>∃ i:Nat,i≤s.cmds.length∧vs=[.int .i64 i]∧Grow w1 W∧∀ c ∈ s.cmds.take i,MayC c) (fun vs _=>s.cmds.length - iOf vs 0) ⟨0,Nat.zero_le _,rfl,Mod.refl _ _,fun _ h=>(by cases h)⟩ ?_
  rintro vs W ⟨i,hi,rfl,hg,hM⟩ _
  rw [nth_z,List.headD_cons,ltK_i]
  refine condK_p (fun hlt=>?_) fun hge=>?_
  ·have hlt':i < s.cmds.length:=by omega
   have hmem:=List.getElem_mem hlt'
   obtain ⟨p,r,rfl,_,hrl,hcc,hcm⟩:=(RCmds.grow h2 (g1.trans hg)).get hlt'
   refine ixK_n hlt' (ldnK_i hrl (fun j u hu=>by rw [Addr.add_add];exact hcc j u hu) ?_)
   refine callyK_f (by kernel_rfl) ?_
   refine callK_mono (may1S_ok hcm (hk _ hmem) (hb _ hmem) (hF.grow (g1.trans hg))) ?_
   rintro _ W2 ⟨⟨t,rfl,ht⟩,g2⟩
   refine condK_bb (fun e=>⟨⟨_,rfl,fun h=>by omega,fun hS=>?_⟩,hg.trans g2⟩) fun e=>?_
   ·have:=ht.2 (hS _ hmem)
    rw [this] at e;cases e
   ·rw [addK_i,loop_step (by omega)]
    refine ⟨⟨i+1,hlt',rfl,hg.trans g2,fun c hc=>?_⟩,by rw [iOf0,iOf0];omega⟩
    rw [List.take_add_one,List.getElem?_eq_getElem hlt',List.mem_append] at hc
    rcases hc with hc | hc
    ·exact hM c hc
    ·have:c=s.cmds[i]:=by simpa using hc
     rw [this]
     exact ht.1 e
  ·have:i=s.cmds.length:=by omega
   subst this
   rw [List.take_length] at hM
   exact ⟨⟨-1,rfl,fun _=>hM,fun _=>by decide⟩,hg⟩
 have key2:callK Tryz.prog 25 [.slice a2 s.cmds.length c2,.func (.func 26) #[] #[]] (fun v w'=>(∃ t:Bool,v=.bool t∧(t=false↔MayS s))∧Grow w1 w') w1:=by
  apply S25_ok
  unfold S25
  refine callK_mono key ?_
  rintro _ w2 ⟨⟨n,rfl,hn⟩,g2⟩
  rw [geK_i]
  refine ⟨⟨_,rfl,?_⟩,g2⟩
  rw [decide_eq_false_iff_not,←hn]
  omega
 refine callK_mono key2 ?_
 rintro _ w2 ⟨⟨t,rfl,ht⟩,g2⟩
 rw [notK_i]
 refine ⟨⟨_,rfl,?_⟩,g1.trans g2⟩
 rw [←ht]
 cases t <;> simp
def mCmds (l:List Cmd):Nat:=(l.map mCmd).sum
theorem mCmds_app (l m:List Cmd):mCmds (l++m)=mCmds l+mCmds m:=by unfold mCmds;rw [List.map_append,List.sum_append]
theorem mCmds_mem {l:List Cmd} {c:Cmd} (h:c ∈ l):mCmd c≤mCmds l:=by
 induction l with
 | nil=>cases h
 | cons a l ih=>
  have e:mCmds (a :: l)=mCmd a+mCmds l:=rfl
  rcases List.mem_cons.1 h with rfl | h
  ·omega
  ·have:=ih h;omega
theorem eCmd_len {c:Cmd} (h:MayC c):(eCmd c).length≤1700 * mCmd c:=by
 have hk:=h.1
 have hk':=hk
 simp only [isK,decide_eq_true_eq] at hk'
 obtain ⟨k,hkk⟩:∃ k:Nat,c.kind=k:=⟨c.kind.toNat,by omega⟩
 have a0:=uv10 k
 have h1:=flat_le (eCh_len c) (chL k)
 have h4:=chL_len k
 have h5:=Nat.mul_le_mul_right (400 * mCmd c) h4
 have:1≤mCmd c:=by unfold mCmd;omega
 unfold eCmd
 rw [hkk,eF_chs (hkk ▸ hk),List.length_append]
 show (uv k).length+_≤_
 omega
theorem cmds_len {l:List Cmd} (h:∀ c ∈ l,MayC c):(l.flatMap eCmd).length≤1700 * mCmds l:=by
 induction l with
 | nil=>simp
 | cons a l ih=>
  have e:mCmds (a :: l)=mCmd a+mCmds l:=rfl
  have h1:=eCmd_len (h a (by simp))
  have h2:=ih fun c hc=>h c (by simp [hc])
  rw [List.flatMap_cons,List.length_append]
  omega
theorem write_ok {S D:Nat→Prop} {r:List Value} {s:Scr} {w:World} (h:RScr S D w r s) (hk:∀ c ∈ s.cmds,0≤c.kind∧c.kind < 256) (hI:MayS s→InS s) (hb:∀ c ∈ s.cmds,ByteL c.bytes) (hF:Flds w) (hl:61 * s.keys.length+2000 * mCmds s.cmds≤1099511620000) :
  callK Tryz.prog 9 [.agg r.toArray] (fun v w'=>Grow w w'∧((MayS s∧∃ bv,v=.tuple #[bv,.int .i64 0]∧OBytes w.heap.size w' bv (eScr s))∨(¬ MayS s∧v=.tuple #[.slice none 0 0,.int .i64 3]))) w:=by
 apply S9_ok
 unfold S9
 have h0:=h
 obtain ⟨kv,cv,rfl,h1,h2⟩:=h
 obtain ⟨a2,c2,rfl,hm⟩:=h2.shape
 simp only [maxLen] at hm
 refine boxn_i fun b1 w1 hb1 hz1 g1 hc1 _=>?_
 refine ldnK_i (vs:=[kv,.int .i64 s.most,.int .i64 s.undo,.slice a2 s.cmds.length c2]) rfl hc1 ?_
 refine callK_mono (mayS_ok (h0.grow g1) hk hb (hF.grow g1)) ?_
 rintro _ w3 ⟨⟨t,rfl,ht⟩,g3⟩
 rw [notK_i]
 have g13:=g1.trans g3
 refine condK_bb (fun e=>⟨g13,.inr ⟨fun hS=>?_,rfl⟩⟩) fun e=>?_
 ·rw [ht.2 hS] at e;cases e
 have hS:MayS s:=ht.1 (by simpa using e)
 obtain ⟨i1,i2,i3,i4⟩:=hI hS
 refine ⟨#[.slice none 0 0],by kernel_rfl,?_⟩
 refine boxn_i (vs:=[.slice none 0 0]) fun c w4 hc hz4 g4 hcell hlive=>?_
 have hw:WrI (fun z=>c≤z) w4 c []:=⟨⟨_,by have:=hcell 0 _ rfl;rwa [addr0] at this,OwnR.nil,fun g hg=>(nomatch hg)⟩,by have:=hlive 0 (by simp);rwa [addr0] at this,Nat.le_refl _,fun z hz=>by omega⟩
 have s1:=g1.size
 have s3:=g3.size
 have g34:=g3.trans g4
 have cl:∀ {W},Mod (fun z=>c≤z) w4 W→∀ j u,[kv,.int .i64 s.most,.int .i64 s.undo,.slice a2 s.cmds.length c2][j]?=some u→W.cell? ((⟨b1,0,none⟩:Addr).add j)=some u:=fun m j u hu=>m.cell (g34.cell (hc1 j u hu) fun h=>h) fun e=>by rw [addr0] at e;have:c≤b1:=e;omega
 have sep:∀ z,z < w.heap.size→¬ c≤z:=fun z hz e=>by omega
 rw [faK_i]
 refine ld1K_i (cl (Mod.refl _ _) 0 _ rfl) ?_
 have hks:RKeys (fun z=>z < w.heap.size) w4 kv s.keys:=SlR.mono (S':=fun z=>z < w.heap.size) h1 (fun z hz _=>hz) (fun z hz _=>((g1.trans g3).trans g4).same z hz fun h=>h) (by decide) fun _ _ h=>h
 refine callK_mono (skeysW_ok hw hks sep i1.2 (by simp only [List.length_nil];omega)) ?_
 rintro _ w6 ⟨h6,m6⟩
 rw [List.nil_append] at h6
 have lk:=keys_len s.keys
 have l6:(encM eSK s.keys).length≤10+60 * s.keys.length:=by unfold encM;rw [List.length_append];have:=uv10 s.keys.length;omega
 rw [faK_i]
 refine ld1K_i (cl m6 1 _ rfl) ?_
 refine callK_mono (sint_ok h6 (by omega) i2) ?_
 rintro _ w8 ⟨h8,m8⟩
 have m08:=m6.trans m8
 rw [faK_i]
 refine ld1K_i (cl m08 2 _ rfl) ?_
 have lu:=uz10 s.most
 have lv:=uz10 s.undo
 refine callK_mono (sint_ok h8 (by rw [List.length_append];omega) i3) ?_
 rintro _ w10 ⟨h10,m10⟩
 have m010:=m08.trans m10
 rw [faK_i]
 refine ld1K_i (cl m010 3 _ rfl) ?_
 rw [lenK_i]
 have lH:(encM eSK s.keys++uz s.most++uz s.undo).length≤30+60 * s.keys.length:=by simp only [List.length_append];omega
 have eS:eScr s=(encM eSK s.keys++uz s.most++uz s.undo)++s.cmds.flatMap eCmd:=by unfold eScr;simp only [List.append_assoc]
 generalize encM eSK s.keys++uz s.most++uz s.undo=H at h10 lH eS
 refine LoopK_i (fun vs W=>∃ i:Nat,i≤s.cmds.length∧vs=[.int .i64 i]∧WrI (fun z=>c≤z) W c (H++(s.cmds.take i).flatMap eCmd)∧Mod (fun z=>c≤z) w4 W) (fun vs _=>s.cmds.length - iOf vs 0) ⟨0,Nat.zero_le _,rfl,by simpa using h10,m010⟩ ?_
 rintro vs W ⟨i,hi,rfl,hW,hM⟩ _
 rw [nth_z,List.headD_cons,ltK_i]
 refine condK_p (fun hlt=>?_) fun hge=>?_
 rotate_left
 ·have:i=s.cmds.length:=by omega
  subst this
  rw [List.take_length,←eS] at hW
  obtain ⟨bv,hb4,ob4,own4⟩:=hW.ex
  refine nilckK_s ?_
  rw [faK_i,addr0]
  refine ld1K_i hb4 ⟨(g13.trans g4).next hM fun z hz e=>sep z hz e,.inl ⟨hS,bv,rfl,ob4.base fun g hg=>?_⟩⟩
  have:=(own4 g hg).1
  omega
 have hlt':i < s.cmds.length:=by omega
 have hmem:=List.getElem_mem hlt'
 have g04:=g13.trans g4
 obtain ⟨p,r,rfl,_,hrl,hcc,hcm⟩:=h2.get hlt'
 have hcm':RCmd (fun z=>z < w.heap.size) w r s.cmds[i]:=RCmd.to hcm (Mod.refl (fun _=>False) _) (fun _ _ _ h=>h) fun z hz _=>hz
 have hcW:∀ {W'},Mod (fun z=>c≤z) w4 W'→RCmd (fun z=>z < w.heap.size) W' r s.cmds[i]:=fun m=>RCmd.to (hcm'.grow g04) m (fun z _ hd=>sep z hd) fun _ _ h=>h
 refine ixK_n hlt' (ldnK_i hrl (fun j u hu=>by
  rw [Addr.add_add]
  have hlt:(p.add (i * 8+j)).block < w.heap.size:=World.block_lt_of_cell? w _ (hcc j u hu)
  exact hM.cell (g04.cell (hcc j u hu) fun h=>h) (sep _ hlt)) ?_)
 refine newst_n hrl rfl (RCmd.one hcm) fun b6 w14 hb6 hz6 g14 hc6 hl6=>?_
 refine ldnK_i hrl hc6 ?_
 have hM14:=hM.trans (g14.mono fun _ _ e=>e.elim)
 have hW14:=hW.mod g14 fun _ h=>h.elim
 have hsp:mCmds (s.cmds.take i)+mCmd s.cmds[i]≤mCmds s.cmds:=by
  have e:s.cmds=s.cmds.take i++(s.cmds[i] :: s.cmds.drop (i+1)):=by rw [←List.drop_eq_getElem_cons hlt',List.take_append_drop]
  have e2:=congrArg mCmds e
  rw [mCmds_app] at e2
  have e3:mCmds (s.cmds[i] :: s.cmds.drop (i+1))=mCmd s.cmds[i]+mCmds (s.cmds.drop (i+1)):=rfl
  omega
 have hlt4:=cmds_len (l:=s.cmds.take i) fun c hc=>hS c (List.mem_of_mem_take hc)
 have hfl:=hF.lt
 refine callK_mono (scmd_ok hW14 (hcW hM14) (fun z hz=>sep z hz) (i4 _ hmem) ((hF.grow g04).mod hM14 (by omega)) (by omega) (by rw [List.length_append];omega)) ?_
 rintro _ w17 ⟨h17,m17⟩
 rw [addK_i,loop_step (by omega)]
 refine ⟨⟨i+1,hlt',rfl,?_,hM14.trans m17⟩,by rw [iOf0,iOf0];omega⟩
 rw [List.take_add_one,List.getElem?_eq_getElem hlt',List.flatMap_append]
 simpa using h17
end Go.Proofs.YtaimlfomodfekaaGreatDoor

namespace Go.Proofs.YtaimlfomodfekaaGreatDoor
open Go Go.K

theorem len_mCmds (l:List Cmd):l.length≤mCmds l:=by
 induction l with
 | nil=>exact Nat.zero_le _
 | cons a l ih=>
  have e:mCmds (a :: l)=mCmd a+mCmds l:=rfl
  rw [e,List.length_cons]
  have:1≤mCmd a:=by unfold mCmd;omega
  omega
theorem rcopy29_ok {S D:Nat→Prop} {r:List Value} {s:Scr} {w:World} (h:RScr S D w r s) (hl:61 * s.keys.length+2000 * mCmds s.cmds≤1099511620000) :
  callK Tryz.prog 8 [.agg r.toArray] (fun v w'=>∃ r',v=.agg r'.toArray∧RScr (fun z=>w.heap.size≤z∧z < w'.heap.size) (fun z=>w.heap.size≤z∧z < w'.heap.size) w' r' s∧Grow w w') w:=by
 apply S8_ok
 unfold S8
 obtain ⟨kv,cv,rfl,h1,h2⟩:=h
 obtain ⟨ka,kc,ekv,km⟩:=id h1.shape
 obtain ⟨ca,cc,rfl,cm⟩:=id h2.shape
 have lc:=len_mCmds s.cmds
 have eM:maxLen=9223372036854775807:=rfl
 refine boxn_i (vs:=[kv,.int .i64 s.most,.int .i64 s.undo,.slice ca s.cmds.length cc]) fun b1 w1 hb1 hz1 g1 hc1 hli1=>?_
 have k1:∀ {W},Grow w1 W→∀ j u,[kv,Value.int .i64 s.most,.int .i64 s.undo,.slice ca s.cmds.length cc][j]?=some u→W.cell? ⟨b1,j,none⟩=some u:=fun gW j u hu=>gW.cell (by have:=hc1 j u hu;rwa [addr0] at this) fun h=>h
 refine BoxN.new fun g w2 hg hz2 g2 bx=>?_
 rw [faK_i,addr0]
 refine ld1K_i (k1 g2 1 _ rfl) ?_
 rw [faK_i,addr0]
 refine ld1K_i (k1 g2 2 _ rfl) ?_
 refine ⟨#[.slice none 0 0,.int .i64 s.most,.int .i64 s.undo,.slice none 0 0],by kernel_rfl,?_⟩
 refine newst_n (n:=4) (vs:=[.slice none 0 0,.int .i64 s.most,.int .i64 s.undo,.slice none 0 0]) rfl rfl (by simp [Value.oneCell']) fun g3 w3 hg3 hz3 gr3 hcc3 hl3=>?_
 have b3:BoxN w3 g3 [.slice none 0 0,.int .i64 s.most,.int .i64 s.undo,.slice none 0 0]:=⟨fun j u hu=>by have:=hcc3 j u hu;rwa [addr0] at this,fun j hj=>by have:=hl3 j hj;rwa [addr0] at this⟩
 rw [faK_i,addr0]
 refine ld1K_i (b3.cells 0 _ rfl) ?_
 rw [faK_i,addr0]
 refine ld1K_i (k1 (g2.trans gr3) 0 _ rfl) ?_
 have g03:=(g1.trans g2).trans gr3
 obtain ⟨v4,w4,r4,o4,gb4,n4⟩:=OwnR.append (ty:=22) (B:=w3.heap.size) (v:=.slice none 0 0) (l:=[]) elem_key OwnR.nil (h1.grow g03 (by decide) fun _ _ h=>h) (fun _ _=>RKey.one) (by simp only [List.length_nil];omega) (Nat.le_refl _) (by simp only [List.length_nil];omega) (fun _ _ _ _ h=>h)
 refine runK_i r4 ?_
 rw [List.nil_append] at o4
 have gr4:Grow w3 w4:=(Mod.of_grownBy gb4).mono fun z _ e=>(by cases e)
 have hv4:=OwnR.one o4
 have s1:=g1.size
 have s2:=g2.size
 have s3:=gr3.size
 have s4:=gr4.size
 have nk4:∀ z,v4.ownBlock=some z→w3.heap.size≤z∧z < w4.heap.size:=fun z hz=>OwnR.ownB o4 z hz
 refine (b3.mod gr4 fun h=>h).st (j:=0) (by simp) hv4.1 hv4.2 fun w5 b5 m5=>?_
 have b5':BoxN w5 g3 [v4,.int .i64 s.most,.int .i64 s.undo,.slice none 0 0]:=b5
 have s5:=m5.size
 have bx5:=((bx.mod gr3 fun h=>h).mod gr4 fun h=>h).mod m5 (by omega)
 have g15:Grow w1 w5:=((g2.trans gr3).trans gr4).next m5 fun z hz e=>by omega
 have ok5:SlR (fun z=>w3.heap.size≤z∧z < w4.heap.size) 6 RKey w5 v4 s.keys:=((SlR.sub (OwnR.sl o4) (fun z _ hz=>nk4 z hz.2) (by decide) fun _ _ h=>h).mod m5 (M:=fun z=>z=g3) (S:=fun z=>w3.heap.size≤z∧z < w4.heap.size) (fun z _ hz e=>by omega) (by decide) fun _ _ h=>h)
 clear b5 b3 hcc3 hl3 hli1
 refine LoopK_i (fun vs W=>∃ (i:Nat) (nv:Value),i≤s.cmds.length∧vs=[.int .i64 i]∧BoxN W g [.slice none 0 0,.int .i64 0,.int .i64 0,.slice none 0 0]∧BoxN W g3 [v4,.int .i64 s.most,.int .i64 s.undo,nv]∧OwnR w5.heap.size 52 8 (RCmd fun z=>nv.ownBlock≠some z∧w5.heap.size≤z) W nv (s.cmds.take i)∧Mod (fun z=>z=g3) w5 W) (fun vs _=>s.cmds.length - iOf vs 0)
  ⟨0,.slice none 0 0,Nat.zero_le _,rfl,bx5,b5',OwnR.nil,Mod.refl _ _⟩ ?_
 rintro vs W ⟨i,nv,hi,rfl,bx,b3,ho,hM⟩ _
 have gW1:Grow w1 W:=g15.next hM fun z hz e=>by omega
 have gW:=g1.trans gW1
 have sW:=hM.size
 simp only [nth_z,List.headD_cons]
 rw [faK_i,addr0]
 refine ld1K_i (k1 gW1 3 _ rfl) ?_
 rw [lenK_i]
 rw [ltK_i]
 refine condK_p (fun hlt=>?_) fun hge=>?_
 rotate_left
 ·have hn:i=s.cmds.length:=by omega
  subst hn
  rw [List.take_length] at ho
  have hc1:=OwnR.one ho
  have nc:∀ z,nv.ownBlock=some z→w5.heap.size≤z∧z < W.heap.size:=fun z hz=>OwnR.ownB ho z hz
  refine b3.ld (n:=4) rfl ?_
  refine bx.stn (n:=4) (us:=[v4,.int .i64 s.most,.int .i64 s.undo,nv]) rfl rfl (one4 hv4.1 hc1.1) fun W2 b2 m2=>?_
  have sm2:=m2.size
  refine b2.ld (n:=4) rfl ⟨_,rfl,⟨v4,nv,rfl,?_,?_⟩,gW.next m2 fun z hz e=>by omega⟩
  ·exact (ok5.mod ((hM.mono fun z _ e=>.inl e).trans (m2.mono fun z _ e=>.inr e)) (M:=fun z=>z=g3∨z=g) (S:=fun z=>w3.heap.size≤z∧z < w4.heap.size) (fun z _ hz e=>by omega) (by decide) fun _ _ h=>h).sub (fun z _ hz=>by have:=hz.1;have:=hz.2;omega) (by decide) fun _ _ h=>h
  ·refine SlR.sub (SlR.mod (M:=fun z=>z=g) (OwnR.sl ho) m2 (fun z _ hz e=>by have:=hz.1;omega) (by decide) fun r y hy=>RCmd.mod hy m2 fun z e hd=>by have:=hd.2;omega) (fun z hz hd=>⟨by have:=hd.1;omega,hz⟩) (by decide) fun r y hy=>RCmd.to hy (Mod.refl (fun _=>False) _) (fun _ _ _ h=>h) fun z hz hd=>⟨by have:=hd.2;omega,hz⟩
 have hlt':i < s.cmds.length:=by omega
 rw [faK_i,addr0]
 refine ld1K_i (k1 gW1 3 _ rfl) ?_
 obtain ⟨p,r,rfl,_,hrl,hcc,hx⟩:=(RCmds.grow h2 gW).get hlt'
 refine ixK_n hlt' (ldnK_i hrl (fun j u hu=>by rw [Addr.add_add];exact hcc j u hu) ?_)
 have hx1:=RCmd.one hx
 obtain ⟨ov,bv,pv,rfl,d1,d2,d3⟩:=hx
 refine newst_n (n:=8) hrl rfl hx1 fun g5 w6 hg5 hz6 g6 hcc6 hl6=>?_
 have b6:BoxN w6 g5 [.int .u8 s.cmds[i].kind,.int .i64 s.cmds[i].i,.int .i64 s.cmds[i].j,.int .i64 s.cmds[i].key,.int .i64 s.cmds[i].by_,ov,bv,pv]:=⟨fun j u hu=>by have:=hcc6 j u hu;rwa [addr0] at this,fun j hj=>by have:=hl6 j hj;rwa [addr0] at this⟩
 have mc:=mCmds_mem (List.getElem_mem hlt')
 have mp:=mPat_eq s.cmds[i].patch
 unfold mCmd at mc
 have s6:=g6.size
 rw [faK_i,addr0]
 refine ld1K_i (b6.cells 5 _ rfl) ?_
 refine callK_mono (rcopy_dops (RDops.grow d1 g6) (by omega)) ?_
 rintro ov7 w7 ⟨o7,g7⟩
 have v7:=OwnR.one o7
 have s7:=g7.size
 refine (b6.mod g7 fun h=>h).st (j:=5) (by simp) v7.1 v7.2 fun w8 b8 m8=>?_
 have s8:=m8.size
 have o8:ODops w6.heap.size w8 ov7 s.cmds[i].ops:=o7.grow m8 fun z _ hz e=>by omega
 have G8:Grow W w8:=(g6.trans g7).next m8 fun z hz e=>by omega
 refine rowK_empty ?_
 have g9:Grow w8 (w8.alloc (.cells #[] 5)):=Mod.alloc _ _ _
 have h9:=(MapKept.heap_alloc w8 (.cells #[] 5)).1
 generalize w8.alloc (.cells #[] 5)=w9 at g9 h9 ⊢
 have b9:=b8.mod g9 fun h=>h
 have G9:=G8.trans g9
 have s9:=g9.size
 rw [faK_i,addr0]
 refine ld1K_i (b9.cells 6 _ rfl) ?_
 obtain ⟨bv10,w10,r10,o10,g10,n10⟩:=append_new (ty:=29) elem_byte h9 (d2.grow G9 (by decide) fun _ _ h=>h) (fun _ _ _=>RByte.one) (by omega) (fun _ _ _ _ h=>h)
 refine runK_i r10 ?_
 have v10:=OwnR.one o10
 have s10:=g10.size
 refine (b9.mod g10 fun h=>h).st (j:=6) (by simp) v10.1 v10.2 fun w11 b11 m11=>?_
 have s11:=m11.size
 have G11:Grow W w11:=(G9.trans g10).next m11 fun z hz e=>by omega
 refine rowK_empty ?_
 have g12:Grow w11 (w11.alloc (.cells #[] 110)):=Mod.alloc _ _ _
 have h12:=(MapKept.heap_alloc w11 (.cells #[] 110)).1
 generalize w11.alloc (.cells #[] 110)=w12 at g12 h12 ⊢
 have b12:=b11.mod g12 fun h=>h
 have G12:=G11.trans g12
 have s12:=g12.size
 rw [faK_i,addr0]
 refine ld1K_i (b12.cells 7 _ rfl) ?_
 obtain ⟨pv13,w13,r13,o13,g13,n13⟩:=append_new (ty:=50) elem_chg h12 (d3.grow G12 (by decide) fun _ _ h=>h) (fun _ _ _=>RChg.one) (by omega) (fun _ _ _ _ h=>h)
 refine runK_i r13 ?_
 have v13:=OwnR.one o13
 have s13:=g13.size
 refine (b12.mod g13 fun h=>h).st (j:=7) (by simp) v13.1 v13.2 fun w14 b14 m14=>?_
 have s14:=m14.size
 have G14:Grow W w14:=(G12.trans g13).next m14 fun z hz e=>by omega
 have b14':BoxN w14 g5 [.int .u8 s.cmds[i].kind,.int .i64 s.cmds[i].i,.int .i64 s.cmds[i].j,.int .i64 s.cmds[i].key,.int .i64 s.cmds[i].by_,ov7,bv10,pv13]:=b14
 clear b6 b8 b9 b11 b12 b14 hcc6 hl6
 have nc:∀ z,nv.ownBlock=some z→w5.heap.size≤z∧z < W.heap.size:=fun z hz=>OwnR.ownB ho z hz
 rw [faK_i,addr0]
 refine ld1K_i ((b3.mod G14 fun h=>h).cells 3 _ rfl) ?_
 refine b14'.ld (n:=8) rfl ?_
 have M8:Mod (fun z=>z=g5) w8 w14:=((((g9.mono fun _ _ e=>e.elim).trans (g10.mono fun _ _ e=>e.elim)).trans (m11.mono fun z _ e=>e)).trans ((g12.mono fun _ _ e=>e.elim).trans (g13.mono fun _ _ e=>e.elim))).trans (m14.mono fun z _ e=>e)
 have M11:Mod (fun z=>z=g5) w10 w14:=((m11.mono fun z _ e=>e).trans ((g12.mono fun _ _ e=>e.elim).trans (g13.mono fun _ _ e=>e.elim))).trans (m14.mono fun z _ e=>e)
 let D':Nat→Prop:=fun z=>z < w14.heap.size∧nv.ownBlock≠some z∧w5.heap.size≤z
 have inD:∀ z,w6.heap.size≤z→z < w14.heap.size→D' z:=fun z h1 h2=>⟨h2,fun e=>by have:=(nc z e).2;omega,by omega⟩
 have hv14:RCmd D' w14 [.int .u8 s.cmds[i].kind,.int .i64 s.cmds[i].i,.int .i64 s.cmds[i].j,.int .i64 s.cmds[i].key,.int .i64 s.cmds[i].by_,ov7,bv10,pv13] s.cmds[i]:=by
  refine ⟨ov7,bv10,pv13,rfl,?_,?_,?_⟩
  ·have o14:ODops w6.heap.size w14 ov7 s.cmds[i].ops:=o8.grow M8 fun z _ hz e=>by omega
   exact SlR.sub (ODops.reads o14) (fun z _ hd=>inD z hd.1 hd.2) (by decide) fun r y hy=>hy.mod (Mod.refl (fun _=>False) _) (fun _ _ _ h=>h) fun z _ hd=>inD z hd.1 hd.2
  ·have e1:SlR (fun z=>w8.heap.size≤z∧z < w10.heap.size) 1 RByte w10 bv10 s.cmds[i].bytes:=SlR.sub (OwnR.sl o10) (fun z _ hz=>by have:=OwnR.ownB o10 z hz.2;omega) (by decide) fun _ _ h=>h
   exact (e1.mod M11 (fun z _ hz e=>by omega) (by decide) fun _ _ h=>h).sub (fun z _ hd=>inD z (by omega) (by omega)) (by decide) fun _ _ h=>h
  ·have e1:SlR (fun z=>w11.heap.size≤z∧z < w13.heap.size) 6 RChg w13 pv13 s.cmds[i].patch:=SlR.sub (OwnR.sl o13) (fun z _ hz=>by have:=OwnR.ownB o13 z hz.2;omega) (by decide) fun _ _ h=>h
   exact (e1.mod m14 (M:=fun z=>z=g5) (fun z _ hz e=>by omega) (by decide) fun _ _ h=>h).sub (fun z _ hd=>inD z (by omega) (by omega)) (by decide) fun _ _ h=>h
 have ho14:OwnR w5.heap.size 52 8 (RCmd D') w14 nv (s.cmds.take i):=OwnR.mod ho G14 (fun _ _ h=>h) fun r y _ hy=>RCmd.to hy G14 (fun _ _ _ h=>h) fun z hz hd=>⟨by omega,hd⟩
 have hsh:=hv14
 obtain ⟨_,_,_,e0,y1,y2,y3⟩:=hsh
 cases e0
 obtain ⟨a7,c7,rfl,_⟩:=y1.shape
 obtain ⟨a10,c10,rfl,_⟩:=y2.shape
 obtain ⟨a13,c13,rfl,_⟩:=y3.shape
 have ltk:(s.cmds.take i).length=i:=by rw [List.length_take];omega
 refine push_g (cs:=[.int .u8 s.cmds[i].kind,.int .i64 s.cmds[i].i,.int .i64 s.cmds[i].j,.int .i64 s.cmds[i].key,.int .i64 s.cmds[i].by_,_,_,_]) (x:=s.cmds[i]) elem_cmd ho14 (by omega) (by kernel_rfl) rfl hv14 (fun _ _ _=>RCmd.one) (fun w1 w2 r y hz m hy=>RCmd.to hy m (fun z _ hd e=>by
   rcases e with e | e
   ·exact hd.2.1 e
   ·have:=hd.1;omega) fun _ _ h=>h) (by rw [ltk];omega) (by rw [ltk];omega) fun v15 w15 o15 m15 own15=>?_
 have o15':OwnR w5.heap.size 52 8 (RCmd fun z=>v15.ownBlock≠some z∧w5.heap.size≤z) w15 v15 (s.cmds.take (i+1)):=by
  rw [List.take_add_one,List.getElem?_eq_getElem hlt']
  exact OwnR.mod o15 (Mod.refl (fun _=>False) _) (fun _ _ h=>h) fun r y _ hy=>RCmd.to hy (Mod.refl (fun _=>False) _) (fun _ _ _ h=>h) fun z hz hd=>⟨fun e=>by
   rcases own15 z e with h | h
   ·exact hd.2.1 h
   ·have:=hd.1;omega,hd.2.2⟩
 have nv15:∀ z,v15.ownBlock=some z→w5.heap.size≤z:=fun z hz=>(OwnR.ownB o15' z hz).1
 have hv15:=OwnR.one o15'
 have s15:=m15.size
 refine ((b3.mod G14 fun h=>h).mod m15 fun e=>by have:=(nc _ e).1;omega).st (j:=3) (by simp) hv15.1 hv15.2 fun w16 b16 m16=>?_
 rw [addK_i,loop_step (by omega)]
 exact ⟨⟨i+1,v15,hlt',rfl,((bx.mod G14 fun h=>h).mod m15 fun e=>by have:=(nc _ e).1;omega).mod m16 (by omega),b16,OwnR.mod o15' m16 (fun z hz e=>by have:=nv15 z hz;omega) fun r y _ hy=>RCmd.mod hy m16 fun z e hd=>by have:=hd.2;omega,((hM.trans (G14.mono fun _ _ e=>e.elim)).next m15 fun z hz e=>by have:=(nc z e).1;omega).trans (m16.mono fun z _ e=>e)⟩,by rw [iOf0,iOf0];omega⟩
end Go.Proofs.YtaimlfomodfekaaGreatDoor

namespace Go.Proofs.YtaimlfomodfekaaGreatDoor
open Go Go.K
set_option maxRecDepth 100000
def An35:Ann:=(.node [] [] .nil (.node [] [] .nil (.node [0,3] [(0,0),(2,20)] (.node [] [] .nil (.node [] [] .nil (.node [] [] (.node [] [] .nil (.node [] [] (.node [] [] .nil .nil) .nil)) .nil))) .nil)))
def S35 (v0:Value) (K:Cont) (w:World):Prop:=by
 refine' (?f:∀ B R,PX Tryz.prog okf K (PG Tryz.prog okf Tryz.f35 An35 [v0] w) B R→Prop) _ _ ⟨?a,?b⟩
 case a=>intro _;intros;conv=>lhs;reduce
 case b=>dsimp only [PI,plit_eq];rfl
 exact fun _ R _=>R
theorem S35_ok {v0:Value} {K:Cont} {w:World} (h:S35 v0 K w):callK Tryz.prog 35 [v0] K w:=okS An35 good mixed Tryz.func35 (by kernel_rfl) h (by kernel_rfl)

def An64:Ann:=(.node [] [] .nil (.node [] [] (.node [] [] .nil (.node [] [] (.node [] [] .nil .nil) .nil)) (.node [] [] .nil .nil)))
def S64 (v0:Value) (K:Cont) (w:World):Prop:=by
 refine' (?f:∀ B R,PX Tryz.prog okf K (PG Tryz.prog okf Tryz.f64 An64 [v0] w) B R→Prop) _ _ ⟨?a,?b⟩
 case a=>intro _;intros;conv=>lhs;reduce
 case b=>dsimp only [PI,plit_eq];rfl
 exact fun _ R _=>R
theorem S64_ok {v0:Value} {K:Cont} {w:World} (h:S64 v0 K w):callK Tryz.prog 64 [v0] K w:=okS An64 good mixed Tryz.func64 (by kernel_rfl) h (by kernel_rfl)

end Go.Proofs.YtaimlfomodfekaaGreatDoor

namespace Go.Proofs.YtaimlfomodfekaaGreatDoor
open Go Go.K

theorem app_b {w0 w:World} {v x:Value} {l m:List Int} {S:Nat→Prop} {K:Cont} (ho:OBytes w0.heap.size w v l) (g:Grow w0 w) (hx:RBytes S w x m) (hl:l.length+m.length≤1099511627776)
  (hK:∀ v' w',OBytes w0.heap.size w' v' (l++m)→Grow w0 w'→Mod (fun z=>v.ownBlock=some z) w w'→(∀ z,v'.ownBlock=some z→v.ownBlock=some z∨w.heap.size≤z)→K v' w') :
  runK Tryz.prog (Builtin.append_ #[29,29] 29 [v,x].toArray) K w:=by
 obtain ⟨v',w',r1,r2,r3,r4⟩:=OwnR.append (ty:=29) elem_byte ho hx (fun _ _=>RByte.one) (by omega) g.size (by simp only [maxLen];omega) fun _ _ _ _ h=>h
 exact runK_i r1 (hK v' w' r2 (g.next (Mod.of_grownBy r3) fun b hb e=>by have:=(OwnR.ownB ho b e).1;omega) (Mod.of_grownBy r3) r4)
theorem rem128 {n:Nat} {t:TypeId} {xo yo:Operand} {K:Cont} {w:World} (h:K (.int .u64 ((n % 128:Nat):Int)) w):runK Tryz.prog (binS .rem t xo yo (.int .u64 n) (.int .u64 128)) K w:=by
 refine rem_i (by decide) ?_
 rw [Int.tmod_eq_emod_of_nonneg (by omega)]
 exact_mod_cast h
theorem quo128 {n:Nat} {t:TypeId} {xo yo:Operand} {K:Cont} {w:World} (hn:n < 18446744073709551616) (h:K (.int .u64 ((n / 128:Nat):Int)) w):runK Tryz.prog (binS .quo t xo yo (.int .u64 n) (.int .u64 128)) K w:=by
 refine quo_i (by decide) ?_
 rw [Int.tdiv_eq_ediv_of_nonneg (by omega),wrapu64 ⟨by omega,by omega⟩]
 exact_mod_cast h
theorem form_bytes {n:Nat} {w:World} (hn:n < 18446744073709551616):callK Tryz.prog 35 [.int .u64 n] (fun v' w'=>OBytes w.heap.size w' v' (uv n)∧Grow w w') w:=by
 apply S35_ok
 unfold S35
 have e128:(128:Nat) ^ (9+1)=1180591620717411303424:=by decide
 refine LoopK_i (fun vs W1=>∃ (f m:Nat) (pre:List Int) (ov:Value),vs=[.int .u64 m,ov]∧uv n=pre++uvB f m∧m < 128 ^ (f+1)∧m < 18446744073709551616∧pre.length+f=9∧OBytes w.heap.size W1 ov pre∧Grow w W1) (fun vs _=>iOf vs 0)
  ⟨9,n,[],.slice none 0 0,rfl,rfl,by omega,hn,rfl,OwnR.nil,Mod.refl _ _⟩ ?_
 rintro vs W1 ⟨f,m,pre,ov,rfl,hu,hm,hm2,hf,ho,g⟩ _
 simp only [nth_s,nth_z,List.headD_cons,List.tail_cons]
 refine rem128 ?_
 refine conv64_8 ?_
 rw [show (((m % 128:Nat):Int) % 256)=((m % 128:Nat):Int) by omega]
 refine quo128 hm2 ?_
 rw [eqK_i]
 refine condK_p (fun h0=>?_) fun h0=>?_
 ·have hend:uvB f m=[(m:Int)]:=uvB_small (by omega)
  rw [show m % 128=m by omega]
  refine push_n (w0:=w) elem_byte ho g (cs:=[.int .u8 (m:Int)]) (x:=(m:Int)) (by kernel_rfl) rfl rfl (fun _ _ _=>RByte.one) (fun _ _ _ _ _ _ h=>h) (by omega) (by simp only [maxLen];omega) fun v' w' o' g'=>?_
  rw [hu,hend]
  exact ⟨o',g'⟩
 ·cases f with
  | zero=>simp at hm;omega
  | succ f=>
   rw [addK_i,wrapu8 (by omega) (by omega),show (((m % 128:Nat):Int)+128)=((m % 128+128:Nat):Int) by omega]
   obtain ⟨d,hd⟩:∃ d:Int,d=((m % 128+128:Nat):Int):=⟨_,rfl⟩
   rw [←hd]
   refine push_n (w0:=w) elem_byte ho g (cs:=[.int .u8 d]) (x:=d) (by kernel_rfl) rfl rfl (fun _ _ _=>RByte.one) (fun _ _ _ _ _ _ h=>h) (by omega) (by simp only [maxLen];omega) fun v' w' o' g'=>?_
   refine ⟨⟨f,m / 128,pre++[d],v',rfl,?_,?_,by omega,by simp;omega,o',g'⟩,?_⟩
   ·rw [hu,uvB_great (by omega),hd];simp
   ·rw [Nat.pow_succ] at hm
    exact Nat.div_lt_of_lt_mul (by omega)
   ·rw [iOf0,iOf0];omega
theorem whole_ok {n:Int} {w:World} (h0:-9223372036854775808≤n) (h1:n≤9223372036854775807):callK Tryz.prog 64 [.int .i64 n] (fun v' w'=>v'=.int .u64 (zigN n:Nat)∧w'=w) w:=by
 apply S64_ok
 unfold S64
 have eneg:∀ x:Int,(Op.unary .neg (.int .i64 x)).run Tryz.prog w=.ok (.int .i64 (IntKind.i64.wrap (-x))) w:=fun x=>by simp [Op.unary,Op.intArith]
 rw [geK_i]
 refine condK_p (fun hge=>?_) fun hlt=>?_
 ·refine runK_i (run_conv (k:=.u64) w (by kernel_rfl) (by kernel_rfl)) ?_
  rw [wrapu64 ⟨by omega,by omega⟩,mulK_i,wrapu64 ⟨by omega,by omega⟩]
  refine ⟨?_,rfl⟩
  unfold zigN
  rw [if_pos (by omega)]
  congr 1
  omega
 ·rw [addK_i,wrap64 (by omega) (by omega)]
  refine runK_i (eneg _) ?_
  rw [wrap64 (by omega) (by omega)]
  refine runK_i (run_conv (k:=.u64) w (by kernel_rfl) (by kernel_rfl)) ?_
  rw [wrapu64 ⟨by omega,by omega⟩,mulK_i,wrapu64 ⟨by omega,by omega⟩,addK_i,wrapu64 ⟨by omega,by omega⟩]
  refine ⟨?_,rfl⟩
  unfold zigN
  rw [if_neg (by omega)]
  congr 1
  omega
end Go.Proofs.YtaimlfomodfekaaGreatDoor

namespace Go.Proofs.YtaimlfomodfekaaGreatDoor
open Go Go.K

theorem rhas_ok {k:Int} {w:World}:callK Tryz.prog 38 [.int .u8 k] (fun v w'=>v=.tuple #[.bool (hasI k),.bool (hasJ k),.bool (hasS k),.bool (hasO k),.bool (hasB k),.bool (hasP k),.bool (isK k)]∧w'=w) w:=by
 apply S38_ok
 unfold S38
 rw [eqK_i]
 refine condK_p (fun e=>?_) fun n1=>?_
 ·subst e;exact ⟨rfl,rfl⟩
 rw [eqK_i]
 refine condK_p (fun e=>?_) fun n2=>?_
 ·subst e;exact ⟨rfl,rfl⟩
 rw [eqK_i]
 refine condK_p (fun e=>?_) fun n3=>?_
 ·subst e;exact ⟨rfl,rfl⟩
 refine JoinK_i (fun vs w'=>w'=w∧vs=[.bool (decide (k=4∨k=8∨k=9))]) ?_ ?_
 rotate_left
 ·rw [eqK_i]
  refine condK_p (fun e=>⟨rfl,by simp [e]⟩) fun m4=>?_
  rw [eqK_i]
  refine condK_p (fun e=>⟨rfl,by simp [e]⟩) fun m8=>?_
  rw [eqK_i]
  exact ⟨rfl,by simp [m4,m8]⟩
 rintro _ _ ⟨rfl,rfl⟩ _
 rename World=>w
 rw [nth_z,List.headD_cons]
 refine condK_p (fun e=>?_) fun n4=>?_
 ·rcases e with rfl | rfl | rfl <;> exact ⟨rfl,rfl⟩
 refine JoinK_i (fun vs w'=>w'=w∧vs=[.bool (decide (k=5∨k=6))]) ?_ ?_
 rotate_left
 ·rw [eqK_i]
  refine condK_p (fun e=>⟨rfl,by simp [e]⟩) fun m5=>?_
  rw [eqK_i]
  exact ⟨rfl,by simp [m5]⟩
 rintro _ _ ⟨rfl,rfl⟩ _
 rename World=>w
 rw [nth_z,List.headD_cons]
 refine condK_p (fun e=>?_) fun n5=>?_
 ·rcases e with rfl | rfl <;> exact ⟨rfl,rfl⟩
 rw [eqK_i]
 refine condK_p (fun e=>?_) fun n7=>?_
 ·subst e;exact ⟨rfl,rfl⟩
 refine JoinK_i (fun vs w'=>w'=w∧vs=[.bool (decide (k=10∨k=19∨k=20))]) ?_ ?_
 rotate_left
 ·rw [eqK_i]
  refine condK_p (fun e=>⟨rfl,by simp [e]⟩) fun m10=>?_
  rw [eqK_i]
  refine condK_p (fun e=>⟨rfl,by simp [e]⟩) fun m19=>?_
  rw [eqK_i]
  exact ⟨rfl,by simp [m10,m19]⟩
 rintro _ _ ⟨rfl,rfl⟩ _
 rename World=>w
 rw [nth_z,List.headD_cons]
 refine condK_p (fun e=>?_) fun n10=>?_
 ·rcases e with rfl | rfl | rfl <;> exact ⟨rfl,rfl⟩
 refine JoinK_i (fun vs w'=>w'=w∧vs=[.bool (decide (k=11∨k=12∨k=13∨k=14∨k=15∨k=16∨k=17∨k=18∨k=21))]) ?_ ?_
 rotate_left
 ·rw [eqK_i]
  refine condK_p (fun e=>⟨rfl,by simp [e]⟩) fun m11=>?_
  rw [eqK_i]
  refine condK_p (fun e=>⟨rfl,by simp [e]⟩) fun m12=>?_
  rw [eqK_i]
  refine condK_p (fun e=>⟨rfl,by simp [e]⟩) fun m13=>?_
  rw [eqK_i]
  refine condK_p (fun e=>⟨rfl,by simp [e]⟩) fun m14=>?_
  rw [eqK_i]
  refine condK_p (fun e=>⟨rfl,by simp [e]⟩) fun m15=>?_
  rw [eqK_i]
  refine condK_p (fun e=>⟨rfl,by simp [e]⟩) fun m16=>?_
  rw [eqK_i]
  refine condK_p (fun e=>⟨rfl,by simp [e]⟩) fun m17=>?_
  rw [eqK_i]
  refine condK_p (fun e=>⟨rfl,by simp [e]⟩) fun m18=>?_
  rw [eqK_i]
  exact ⟨rfl,by simp [m11,m12,m13,m14,m15,m16,m17,m18]⟩
 rintro _ _ ⟨rfl,rfl⟩ _
 rename World=>w
 rw [nth_z,List.headD_cons]
 refine condK_p (fun e=>?_) fun n11=>?_
 ·rcases e with rfl | rfl | rfl | rfl | rfl | rfl | rfl | rfl | rfl <;> exact ⟨rfl,rfl⟩
 refine ⟨?_,rfl⟩
 have h1:hasI k=false:=decide_eq_false (by omega)
 have h2:hasJ k=false:=decide_eq_false (by omega)
 have h3:hasS k=false:=decide_eq_false (by omega)
 have h4:hasO k=false:=decide_eq_false (by omega)
 have h5:hasB k=false:=decide_eq_false (by omega)
 have h6:hasP k=false:=decide_eq_false (by omega)
 have h7:isK k=false:=decide_eq_false (by omega)
 rw [h1,h2,h3,h4,h5,h6,h7]
set_option maxHeartbeats 1000000 in
theorem mayC29_ok {D:Nat→Prop} {r:List Value} {c:Cmd} {w:World} (h:RCmd D w r c) :
  callK Tryz.prog 30 [.agg r.toArray] (fun v w'=>(∃ t:Bool,v=.bool t∧(t=true↔MayC c))∧Grow w w') w:=by
 apply S30_ok
 unfold S30
 obtain ⟨ov,yv,pv,rfl,d1,d2,d3⟩:=h
 obtain ⟨a1,c1,rfl,_⟩:=d1.shape
 obtain ⟨a2,c2,rfl,_⟩:=d2.shape
 obtain ⟨a3,c3,rfl,_⟩:=d3.shape
 refine boxn_i fun b w1 hb hz g hc _=>?_
 rw [faK_i]
 refine ld1K_i (hc 0 _ rfl) ?_
 refine callK_mono rhas_ok ?_
 rintro _ _ ⟨rfl,rfl⟩
 rename World=>w1
 iterate 7 refine extK_i (vs:=[_,_,_,_,_,_,_]) rfl ?_
 have no:¬ MayC c→(∃ t:Bool,Value.bool false=.bool t∧(t=true↔MayC c))∧Grow w w1:=fun e=>⟨⟨false,rfl,⟨fun h=>(by cases h),fun h=>(e h).elim⟩⟩,g⟩
 refine JoinK_i (fun _ W=>W=w1∧isK c.kind=true∧(hasI c.kind=true∨c.i=0)∧(hasJ c.kind=true∨c.j=0)∧(hasS c.kind=true∨c.key=0∧c.by_=0)) ?_ ?_
 ·rintro _ _ ⟨rfl,e0,e1,e2,e3⟩ _
  rename World=>w1
  have nil0:∀ {α:Type} {l:List α},(l.length:Int)=0→l=[]:=fun h=>List.length_eq_zero_iff.1 (by omega)
  refine condK_bb (fun eO=>?_) fun eO=>?_
  ·refine condK_bb (fun eB=>?_) fun eB=>?_
   ·refine condK_bb (fun e=>⟨⟨true,rfl,fun _=>⟨e0,e1,e2,e3,.inl eO,.inl eB,.inl e⟩,fun _=>rfl⟩,g⟩) fun e=>?_
    rw [faK_i]
    refine ld1K_i (hc 7 _ rfl) ?_
    rw [lenK_i,eqK_i]
    refine ⟨⟨_,rfl,?_⟩,g⟩
    rw [decide_eq_true_eq]
    refine ⟨fun h=>⟨e0,e1,e2,e3,.inl eO,.inl eB,.inr (nil0 h)⟩,fun h=>?_⟩
    rcases h.2.2.2.2.2.2 with h | h
    ·rw [e] at h;cases h
    ·rw [h];rfl
   ·rw [faK_i]
    refine ld1K_i (hc 6 _ rfl) ?_
    rw [lenK_i,eqK_i]
    refine condK_p (fun hB=>?_) fun h=>no fun hM=>?_
    ·refine condK_bb (fun e=>⟨⟨true,rfl,fun _=>⟨e0,e1,e2,e3,.inl eO,.inr (nil0 hB),.inl e⟩,fun _=>rfl⟩,g⟩) fun e=>?_
     rw [faK_i]
     refine ld1K_i (hc 7 _ rfl) ?_
     rw [lenK_i,eqK_i]
     refine ⟨⟨_,rfl,?_⟩,g⟩
     rw [decide_eq_true_eq]
     refine ⟨fun h=>⟨e0,e1,e2,e3,.inl eO,.inr (nil0 hB),.inr (nil0 h)⟩,fun h=>?_⟩
     rcases h.2.2.2.2.2.2 with h | h
     ·rw [e] at h;cases h
     ·rw [h];rfl
    ·rcases hM.2.2.2.2.2.1 with k | k
     ·rw [eB] at k;cases k
     ·exact h (by rw [k];rfl)
  ·rw [faK_i]
   refine ld1K_i (hc 5 _ rfl) ?_
   rw [lenK_i,eqK_i]
   refine condK_p (fun hO=>?_) fun h=>no fun hM=>?_
   ·refine condK_bb (fun eB=>?_) fun eB=>?_
    ·refine condK_bb (fun e=>⟨⟨true,rfl,fun _=>⟨e0,e1,e2,e3,.inr (nil0 hO),.inl eB,.inl e⟩,fun _=>rfl⟩,g⟩) fun e=>?_
     rw [faK_i]
     refine ld1K_i (hc 7 _ rfl) ?_
     rw [lenK_i,eqK_i]
     refine ⟨⟨_,rfl,?_⟩,g⟩
     rw [decide_eq_true_eq]
     refine ⟨fun h=>⟨e0,e1,e2,e3,.inr (nil0 hO),.inl eB,.inr (nil0 h)⟩,fun h=>?_⟩
     rcases h.2.2.2.2.2.2 with h | h
     ·rw [e] at h;cases h
     ·rw [h];rfl
    ·rw [faK_i]
     refine ld1K_i (hc 6 _ rfl) ?_
     rw [lenK_i,eqK_i]
     refine condK_p (fun hB=>?_) fun h=>no fun hM=>?_
     ·refine condK_bb (fun e=>⟨⟨true,rfl,fun _=>⟨e0,e1,e2,e3,.inr (nil0 hO),.inr (nil0 hB),.inl e⟩,fun _=>rfl⟩,g⟩) fun e=>?_
      rw [faK_i]
      refine ld1K_i (hc 7 _ rfl) ?_
      rw [lenK_i,eqK_i]
      refine ⟨⟨_,rfl,?_⟩,g⟩
      rw [decide_eq_true_eq]
      refine ⟨fun h=>⟨e0,e1,e2,e3,.inr (nil0 hO),.inr (nil0 hB),.inr (nil0 h)⟩,fun h=>?_⟩
      rcases h.2.2.2.2.2.2 with h | h
      ·rw [e] at h;cases h
      ·rw [h];rfl
     ·rcases hM.2.2.2.2.2.1 with k | k
      ·rw [eB] at k;cases k
      ·exact h (by rw [k];rfl)
   ·rcases hM.2.2.2.2.1 with k | k
    ·rw [eO] at k;cases k
    ·exact h (by rw [k];rfl)
 rw [notK_i]
 refine condK_bb (fun e=>no fun hM=>by rw [hM.1] at e;cases e) fun e0=>?_
 replace e0:isK c.kind=true:=by simpa using e0
 rw [notK_i]
 refine condK_bb (fun eI=>?_) fun eI=>?_
 ·replace eI:hasI c.kind=false:=by simpa using eI
  rw [faK_i]
  refine ld1K_i (hc 1 _ rfl) ?_
  rw [neK_i]
  refine condK_neg (fun hI=>?_) fun h=>no fun hM=>?_
  ·rw [notK_i]
   refine condK_bb (fun eJ=>?_) fun eJ=>?_
   ·replace eJ:hasJ c.kind=false:=by simpa using eJ
    rw [faK_i]
    refine ld1K_i (hc 2 _ rfl) ?_
    rw [neK_i]
    refine condK_neg (fun hJ=>?_) fun h=>no fun hM=>?_
    ·rw [notK_i]
     refine condK_bb (fun e=>?_) fun e=>⟨rfl,e0,.inr hI,.inr hJ,.inl (by simpa using e)⟩
     replace e:hasS c.kind=false:=by simpa using e
     rw [faK_i]
     refine ld1K_i (hc 3 _ rfl) ?_
     rw [neK_i]
     refine condK_neg (fun h1=>?_) fun h=>no fun hM=>?_
     ·rw [faK_i]
      refine ld1K_i (hc 4 _ rfl) ?_
      rw [neK_i]
      refine condK_neg (fun h2=>⟨rfl,e0,.inr hI,.inr hJ,.inr ⟨h1,h2⟩⟩) fun h=>no fun hM=>?_
      rcases hM.2.2.2.1 with k | k
      ·rw [e] at k;cases k
      ·exact h k.2
     ·rcases hM.2.2.2.1 with k | k
      ·rw [e] at k;cases k
      ·exact h k.1
    ·rcases hM.2.2.1 with k | k
     ·rw [eJ] at k;cases k
     ·exact h k
   ·rw [notK_i]
    refine condK_bb (fun e=>?_) fun e=>⟨rfl,e0,.inr hI,.inl (by simpa using eJ),.inl (by simpa using e)⟩
    replace e:hasS c.kind=false:=by simpa using e
    rw [faK_i]
    refine ld1K_i (hc 3 _ rfl) ?_
    rw [neK_i]
    refine condK_neg (fun h1=>?_) fun h=>no fun hM=>?_
    ·rw [faK_i]
     refine ld1K_i (hc 4 _ rfl) ?_
     rw [neK_i]
     refine condK_neg (fun h2=>⟨rfl,e0,.inr hI,.inl (by simpa using eJ),.inr ⟨h1,h2⟩⟩) fun h=>no fun hM=>?_
     rcases hM.2.2.2.1 with k | k
     ·rw [e] at k;cases k
     ·exact h k.2
    ·rcases hM.2.2.2.1 with k | k
     ·rw [e] at k;cases k
     ·exact h k.1
  ·rcases hM.2.1 with k | k
   ·rw [eI] at k;cases k
   ·exact h k
 ·rw [notK_i]
  refine condK_bb (fun eJ=>?_) fun eJ=>?_
  ·replace eJ:hasJ c.kind=false:=by simpa using eJ
   rw [faK_i]
   refine ld1K_i (hc 2 _ rfl) ?_
   rw [neK_i]
   refine condK_neg (fun hJ=>?_) fun h=>no fun hM=>?_
   ·rw [notK_i]
    refine condK_bb (fun e=>?_) fun e=>⟨rfl,e0,.inl (by simpa using eI),.inr hJ,.inl (by simpa using e)⟩
    replace e:hasS c.kind=false:=by simpa using e
    rw [faK_i]
    refine ld1K_i (hc 3 _ rfl) ?_
    rw [neK_i]
    refine condK_neg (fun h1=>?_) fun h=>no fun hM=>?_
    ·rw [faK_i]
     refine ld1K_i (hc 4 _ rfl) ?_
     rw [neK_i]
     refine condK_neg (fun h2=>⟨rfl,e0,.inl (by simpa using eI),.inr hJ,.inr ⟨h1,h2⟩⟩) fun h=>no fun hM=>?_
     rcases hM.2.2.2.1 with k | k
     ·rw [e] at k;cases k
     ·exact h k.2
    ·rcases hM.2.2.2.1 with k | k
     ·rw [e] at k;cases k
     ·exact h k.1
   ·rcases hM.2.2.1 with k | k
    ·rw [eJ] at k;cases k
    ·exact h k
  ·rw [notK_i]
   refine condK_bb (fun e=>?_) fun e=>⟨rfl,e0,.inl (by simpa using eI),.inl (by simpa using eJ),.inl (by simpa using e)⟩
   replace e:hasS c.kind=false:=by simpa using e
   rw [faK_i]
   refine ld1K_i (hc 3 _ rfl) ?_
   rw [neK_i]
   refine condK_neg (fun h1=>?_) fun h=>no fun hM=>?_
   ·rw [faK_i]
    refine ld1K_i (hc 4 _ rfl) ?_
    rw [neK_i]
    refine condK_neg (fun h2=>⟨rfl,e0,.inl (by simpa using eI),.inl (by simpa using eJ),.inr ⟨h1,h2⟩⟩) fun h=>no fun hM=>?_
    rcases hM.2.2.2.1 with k | k
    ·rw [e] at k;cases k
    ·exact h k.2
   ·rcases hM.2.2.2.1 with k | k
    ·rw [e] at k;cases k
    ·exact h k.1
theorem mayS29_ok {S D:Nat→Prop} {r:List Value} {s:Scr} {w:World} (h:RScr S D w r s) :
  callK Tryz.prog 11 [.agg r.toArray] (fun v w'=>(∃ t:Bool,v=.bool t∧(t=true↔MayS s))∧Grow w w') w:=by
 apply S11_ok
 unfold S11
 obtain ⟨kv,cv,rfl,h1,h2⟩:=h
 obtain ⟨a2,c2,rfl,hm⟩:=h2.shape
 simp only [maxLen] at hm
 refine boxn_i fun b w1 hb hz g hc _=>?_
 refine LoopK_i (fun vs W=>∃ i:Nat,i≤s.cmds.length∧vs=[.int .i64 i]∧Grow w1 W∧∀ c ∈ s.cmds.take i,MayC c) (fun vs _=>s.cmds.length - iOf vs 0) ⟨0,Nat.zero_le _,rfl,Mod.refl _ _,fun _ h=>(by cases h)⟩ ?_
 rintro vs W ⟨i,hi,rfl,hg,hM⟩ _
 rw [faK_i]
 refine ld1K_i (hg.cell (hc 3 _ rfl) fun h=>h) ?_
 rw [lenK_i,nth_z,List.headD_cons,ltK_i]
 refine condK_p (fun hlt=>?_) fun hge=>?_
 ·have hlt':i < s.cmds.length:=by omega
  rw [faK_i]
  refine ld1K_i (hg.cell (hc 3 _ rfl) fun h=>h) ?_
  obtain ⟨p,r,rfl,_,hrl,hcc,hcm⟩:=(RCmds.grow h2 (g.trans hg)).get hlt'
  refine ixK_n hlt' (ldnK_i hrl (fun j u hu=>by rw [Addr.add_add];exact hcc j u hu) ?_)
  refine callK_mono (mayC29_ok hcm) ?_
  rintro _ W2 ⟨⟨t,rfl,ht⟩,g2⟩
  rw [notK_i]
  refine condK_bb (fun e=>⟨⟨false,rfl,fun h=>(by cases h),fun hS=>?_⟩,(g.trans hg).trans g2⟩) fun e=>?_
  ·have:=ht.2 (hS _ (List.getElem_mem hlt'))
   rw [this] at e;cases e
  ·rw [addK_i,loop_step (by omega)]
   refine ⟨⟨i+1,hlt',rfl,hg.trans g2,fun c hc=>?_⟩,by rw [iOf0,iOf0];omega⟩
   rw [List.take_add_one,List.getElem?_eq_getElem hlt',List.mem_append] at hc
   rcases hc with hc | hc
   ·exact hM c hc
   ·have:c=s.cmds[i]:=by simpa using hc
    rw [this]
    exact ht.1 (by simpa using e)
 ·have:i=s.cmds.length:=by omega
  subst this
  rw [List.take_length] at hM
  exact ⟨⟨true,rfl,fun _=>hM,fun _=>rfl⟩,g.trans hg⟩
theorem whole29_ok {n:Int} {w:World} (hn:In64 n):callK Tryz.prog 36 [.int .i64 n] (fun v w'=>OBytes w.heap.size w' v (uz n)∧Grow w w') w:=by
 apply S36_ok
 unfold S36
 refine callK_mono (whole_ok hn.1 hn.2) ?_
 rintro _ _ ⟨rfl,rfl⟩
 exact form_bytes (zigN_lt hn.1 hn.2)
theorem flag29_ok {b:Bool} {w:World}:callK Tryz.prog 37 [.bool b] (fun v w'=>RBytes (fun _=>True) w' v (uf b)∧Grow w w') w:=by
 apply S37_ok
 unfold S37
 have key:∀ (x:Int) (w1:World),(∀ j v,[Value.int .u8 x][j]?=some v→w1.cell? ((⟨w.heap.size,0,none⟩:Addr).add j)=some v)→RBytes (fun _=>True) w1 (.slice (some ⟨w.heap.size,0,none⟩) 1 1) [x]:=fun x w1 hc=>⟨_,1,rfl,by simp,by simp [maxLen],fun i y hy=>by
  have:i=0:=by have:=(List.getElem?_eq_some_iff.1 hy).1;simp at this;exact this
  subst this
  simp at hy;subst hy
  exact ⟨_,[.int .u8 x],rfl,trivial,rfl,fun j u hu=>by rw [Nat.zero_mul,Nat.zero_add];exact hc j u hu,rfl⟩⟩
 refine condK_bb (fun e=>?_) fun e=>?_
 ·subst e
  refine row1_i fun w1 g1 hz hc=>⟨?_,g1⟩
  rw [show uf true=[1] by decide]
  exact key 1 w1 hc
 ·subst e
  refine row1_i fun w1 g1 hz hc=>⟨?_,g1⟩
  rw [show uf false=[0] by decide]
  exact key 0 w1 hc
theorem text29_ok {S:Nat→Prop} {xv:Value} {x:List Int} {w:World} (hx:RBytes S w xv x) (hl:x.length+20≤1099511627776):callK Tryz.prog 41 [xv] (fun v w'=>OBytes w.heap.size w' v (encX x)∧Grow w w') w:=by
 apply S41_ok
 unfold S41
 obtain ⟨a,c,e,_⟩:=id hx.shape
 have hlen:∀ {k:Value→Prop},k (.int .i64 x.length)→lenK xv k:=fun {k} hk=>by subst e;rw [lenK_i];exact hk
 refine hlen (conv_64 (by omega) ?_)
 refine callK_mono (form_bytes (by omega)) ?_
 rintro ov w1 ⟨o1,g1⟩
 have:=uv10 x.length
 exact app_b o1 g1 (hx.grow g1 (by decide) fun _ _ h=>h) (by omega) fun v' w' o g _ _=>⟨o,g⟩
structure OutT (w0:World) (bs:List (Nat × List Value)) (T:List Int) (W:World) (ov:Value) (t:List Int):Prop where
 own:∃ l,OBytes w0.heap.size W ov l∧l++t=T
 g:Grow w0 W
 box:∀ p ∈ bs,BoxN W p.1 p.2
 lt:∀ p ∈ bs,p.1 < W.heap.size
 ne:∀ p ∈ bs,∀ z,ov.ownBlock=some z→z≠p.1
 len:T.length≤1099511627776
section
variable {w0 W W':World} {bs:List (Nat × List Value)} {T t m:List Int} {ov:Value} {K:Cont}
theorem OutT.grow (h:OutT w0 bs T W ov t) (g:Grow W W'):OutT w0 bs T W' ov t:=by
 obtain ⟨l,o,e⟩:=h.own
 exact ⟨⟨l,OwnR.mod o g (fun _ _ h=>h) fun _ _ _ h=>h,e⟩,h.g.trans g,fun p hp=>(h.box p hp).mod g fun h=>h,fun p hp=>Nat.lt_of_lt_of_le (h.lt p hp) g.size,h.ne,h.len⟩
theorem OutT.cast {t':List Int} (h:OutT w0 bs T W ov t) (e:t=t'):OutT w0 bs T W ov t':=e ▸ h
theorem OutT.app {S:Nat→Prop} {x:Value} (h:OutT w0 bs T W ov (m++t)) (hx:RBytes S W x m) (hK:∀ v' W',OutT w0 bs T W' v' t→K v' W') :
  runK Tryz.prog (Builtin.append_ #[29,29] 29 [ov,x].toArray) K W:=by
 obtain ⟨l,o,e⟩:=h.own
 refine app_b o h.g hx (by have:=congrArg List.length e;have:=h.len;simp only [List.length_append] at *;omega) fun v' w' o' g m' n=>hK v' w' ⟨⟨l++m,o',by rw [List.append_assoc];exact e⟩,g,fun p hp=>(h.box p hp).mod m' fun e=>h.ne p hp _ e rfl,fun p hp=>Nat.lt_of_lt_of_le (h.lt p hp) m'.size,fun p hp z hz=>?_,h.len⟩
 rcases n z hz with e | e
 ·exact h.ne p hp z e
 ·have:=h.lt p hp;omega
theorem OutT.form {n:Nat} (h:OutT w0 bs T W ov (uv n++t)) (hn:n < 18446744073709551616) (hK:∀ v' W',OutT w0 bs T W' v' t→K v' W') :
  callK Tryz.prog 35 [.int .u64 n] (fun t w=>runK Tryz.prog (Builtin.append_ #[29,29] 29 [ov,t].toArray) K w) W:=by
 refine callK_mono (form_bytes hn) ?_
 rintro xv w1 ⟨o1,g1⟩
 exact (h.grow g1).app (OwnR.sl o1) hK
theorem OutT.whole {n:Int} (h:OutT w0 bs T W ov (uz n++t)) (hn:In64 n) (hK:∀ v' W',OutT w0 bs T W' v' t→K v' W') :
  callK Tryz.prog 36 [.int .i64 n] (fun t w=>runK Tryz.prog (Builtin.append_ #[29,29] 29 [ov,t].toArray) K w) W:=by
 refine callK_mono (whole29_ok hn) ?_
 rintro xv w1 ⟨o1,g1⟩
 exact (h.grow g1).app (OwnR.sl o1) hK
theorem OutT.flag {b:Bool} (h:OutT w0 bs T W ov (uf b++t)) (hK:∀ v' W',OutT w0 bs T W' v' t→K v' W') :
  callK Tryz.prog 37 [.bool b] (fun t w=>runK Tryz.prog (Builtin.append_ #[29,29] 29 [ov,t].toArray) K w) W:=by
 refine callK_mono flag29_ok ?_
 rintro xv w1 ⟨o1,g1⟩
 exact (h.grow g1).app o1 hK
theorem OutT.push {b:Nat} {vs:List Value} (h:OutT w0 bs T W ov t) (g:Grow W W') (hb:b=W.heap.size) (hz:W'.heap.size=W.heap.size+1) (hB:BoxN W' b vs):OutT w0 ((b,vs) :: bs) T W' ov t:=by
 have h':=h.grow g
 obtain ⟨l,o,_⟩:=h.own
 refine ⟨h'.own,h'.g,fun p hp=>?_,fun p hp=>?_,fun p hp z hz=>?_,h.len⟩ <;> rcases List.mem_cons.1 hp with rfl | hp
 ·exact hB
 ·exact h'.box p hp
 ·show b < _;omega
 ·exact h'.lt p hp
 ·have:=(OwnR.ownB o z hz).2
  show z≠b;omega
 ·exact h.ne p hp z hz
theorem OutT.pop {p:Nat × List Value} (h:OutT w0 (p :: bs) T W ov t):OutT w0 bs T W ov t:=
 ⟨h.own,h.g,fun p hp=>h.box p (List.mem_cons_of_mem _ hp),fun p hp=>h.lt p (List.mem_cons_of_mem _ hp),fun p hp=>h.ne p (List.mem_cons_of_mem _ hp),h.len⟩
theorem OutT.ld {b:Nat} {vs:List Value} {j:Nat} {u:Value} (h:OutT w0 bs T W ov t) (hm:(b,vs) ∈ bs) (hj:vs[j]?=some u) (hK:K u W):faK j (.pointer (some ⟨b,0,none⟩)) fun q=>ld1K q K W:=by
 rw [faK_i,addr0]
 exact ld1K_i ((h.box _ hm).cells j u hj) hK
theorem OutT.end_ (h:OutT w0 bs T W ov []):OBytes w0.heap.size W ov T:=by
 obtain ⟨l,o,e⟩:=h.own
 rw [List.append_nil] at e
 exact e ▸ o
end
theorem val29_ok {v:AVal} {w:World} (hv:InSV v) (hl:v.s.size+100≤1099511620) :
  callK Tryz.prog 65 [.agg v.cells.toArray] (fun v' w'=>OBytes w.heap.size w' v' (eSV v)∧Grow w w') w:=by
 apply S65_ok
 unfold S65
 obtain ⟨⟨k0,k1⟩,hn,⟨f0,f1⟩,hs⟩:=hv
 obtain ⟨k,hkk⟩:∃ k:Nat,v.kind=k:=⟨v.kind.toNat,by omega⟩
 obtain ⟨f,hff⟩:∃ f:Nat,v.f=f:=⟨v.f.toNat,by omega⟩
 have eV:eSV v=uv k++(uz v.n++(uv f++encX (bytesL v.s))):=by
  show uv v.kind.toNat++(uz v.n++(uv v.f.toNat++encX (bytesL v.s)))=_
  rw [hkk,hff];rfl
 have hlV:=eSV_len v
 rw [eV] at hlV
 rw [eV]
 refine boxn_i fun b w1 hb hz g1 hc hli=>?_
 have bx:BoxN w1 b v.cells:=⟨fun j u hu=>by have:=hc j u hu;rwa [addr0] at this,fun j hj=>by have:=hli j hj;rwa [addr0] at this⟩
 have gd:Grow w1 w1.drew:=Mod.drew _ _
 have bd:=bx.mod gd fun h=>h
 have g1d:=g1.trans gd
 have hzd:w1.drew.heap.size=w1.heap.size:=rfl
 generalize w1.drew=wd at *
 refine drawC_i (fun k z=>k=8∧wd.heap.size≤z) ?_
 rw [faK_i,addr0]
 refine sld1_i ⟨bd.cells 0 _ rfl,fun j hj e=>by rcases e with ⟨rfl,_⟩;exact absurd hj (by decide)⟩ ?_
 rw [hkk]
 refine conv8_64 (by omega) ⟨Mod.refl _ _,?_⟩
 refine callK_mono (form_bytes (by omega)) ?_
 rintro ov w3 ⟨o3,g3⟩
 refine ⟨g3.mono fun _ _ e=>e.elim,?_⟩
 rw [faK_i,addr0]
 refine sld1_i ⟨bd.cells 1 _ rfl,fun j hj e=>by rcases e with ⟨rfl,_⟩;exact absurd hj (by decide)⟩ ?_
 refine callK_mono (whole_ok hn.1 hn.2) ?_
 rintro _ _ ⟨rfl,rfl⟩
 rename World=>w3
 refine ⟨Mod.refl _ _,?_⟩
 refine callK_mono (form_bytes (zigN_lt hn.1 hn.2)) ?_
 rintro xv w5 ⟨o5,g5⟩
 replace o5:OBytes w3.heap.size w5 xv (uz v.n):=o5
 refine ⟨g5.mono fun _ _ e=>e.elim,?_⟩
 have ho:OutT w [(b,v.cells)] (uv k++(uz v.n++(uv f++encX (bytesL v.s)))) w5 ov (uz v.n++(uv f++encX (bytesL v.s))):=
  OutT.grow ⟨⟨_,OBytes.low o3 (by have:=g1d.size;omega),rfl⟩,g1d.trans g3,fun p hp=>by rw [List.mem_singleton.1 hp];exact bd.mod g3 fun h=>h,fun p hp=>by rw [List.mem_singleton.1 hp];have:=g3.size;show b < _;omega,fun p hp z hz=>by rw [List.mem_singleton.1 hp];have:=(OwnR.ownB o3 z hz).1;show z≠b;omega,by omega⟩ g5
 obtain ⟨l,o,e⟩:=ho.own
 refine app_b o ho.g (OwnR.sl o5) (by have:=congrArg List.length e;have:=ho.len;simp only [List.length_append] at *;omega) fun v6 w6 o6 g6 m6 n6=>⟨m6.mono fun z _ hz=>⟨rfl,(OwnR.ownB o3 z hz).1⟩,?_⟩
 have h6:OutT w [(b,v.cells)] (uv k++(uz v.n++(uv f++encX (bytesL v.s)))) w6 v6 (uv f++encX (bytesL v.s)):=
  ⟨⟨l++uz v.n,o6,by rw [List.append_assoc];exact e⟩,g6,fun p hp=>(ho.box p hp).mod m6 fun e=>ho.ne p hp _ e rfl,fun p hp=>Nat.lt_of_lt_of_le (ho.lt p hp) m6.size,fun p hp z hz=>by
   rcases n6 z hz with e | e
   ·exact ho.ne p hp z e
   ·have:=ho.lt p hp;omega,ho.len⟩
 refine h6.ld (vs:=v.cells) (by simp) (j:=2) rfl ?_
 rw [hff]
 refine h6.form (by omega) fun v7 w7 h7=>?_
 refine h7.ld (vs:=v.cells) (by simp) (j:=3) rfl ?_
 refine strbytes' (by omega) fun v8 w8 g8 r8=>?_
 refine callK_mono (text29_ok r8 (by rw [bytesL_len];omega)) ?_
 rintro v9 w9 ⟨o9,g9⟩
 refine (((h7.grow g8).grow g9).cast (List.append_nil _).symm).app (OwnR.sl o9) fun v' w' h'=>⟨h'.end_,h'.g⟩
end Go.Proofs.YtaimlfomodfekaaGreatDoor

namespace Go.Proofs.YtaimlfomodfekaaGreatDoor
open Go Go.K

theorem flat_mem_len {α:Type} {f:α→List Int}:∀ {l:List α} {a:α},a ∈ l→(f a).length≤(l.flatMap f).length
 | b :: l,a,h=>by
  rw [List.flatMap_cons,List.length_append]
  rcases List.mem_cons.1 h with rfl | h
  ·omega
  ·have:=flat_mem_len (f:=f) h;omega
theorem eSV_size (v:AVal):v.s.size≤(eSV v).length:=by
 show _≤(uv v.kind.toNat++(uz v.n++(uv v.f.toNat++(uv (bytesL v.s).length++bytesL v.s)))).length
 have:=bytesL_len v.s
 simp only [List.length_append];omega
section
variable {S:Nat→Prop} {xv:Value} {w:World}
theorem set29_ok {l:List Attr} (h:RSet S w xv l) (hr:∀ a ∈ l,InSA a) (hl:(encM eSA l).length≤1099511500) :
  callK Tryz.prog 39 [xv] (fun v w'=>OBytes w.heap.size w' v (encM eSA l)∧Grow w w') w:=by
 apply S39_ok
 unfold S39
 obtain ⟨pa,pc,rfl,hm⟩:=h.shape
 simp only [maxLen] at hm
 rw [lenK_i]
 refine conv_64 (by omega) ?_
 refine callK_mono (form_bytes (by omega)) ?_
 rintro ov0 w1 ⟨o0,g0⟩
 have hfl:(encM eSA l).length=(uv l.length).length+(l.flatMap eSA).length:=by unfold encM;rw [List.length_append]
 refine LoopK_i (fun vs W=>∃ (i:Nat) (ov:Value),i≤l.length∧vs=[ov,.int .i64 i]∧OutT w [] (encM eSA l) W ov ((l.drop i).flatMap eSA)) (fun vs _=>l.length - iOf vs 1)
  ⟨0,ov0,Nat.zero_le _,rfl,⟨_,o0,rfl⟩,g0,fun _ h=>(by cases h),fun _ h=>(by cases h),fun _ h=>(by cases h),by omega⟩ ?_
 rintro vs W ⟨i,ov,hi,rfl,hO⟩ _
 simp only [nth_s,nth_z,List.headD_cons,List.tail_cons]
 rw [lenK_i,ltK_i]
 refine condK_p (fun hlt=>?_) fun hge=>?_
 rotate_left
 ·have:i=l.length:=by omega
  subst this
  rw [List.drop_length] at hO
  exact ⟨hO.end_,hO.g⟩
 have hlt':i < l.length:=by omega
 obtain ⟨p,r,rfl,_,hrl,hc0,hra⟩:=h.get hlt'
 have hma:=List.getElem_mem hlt'
 have hia:=hr _ hma
 have hsz:=flat_mem_len (f:=eSA) hma
 have e:(l.drop i).flatMap eSA=uz l[i].key++(eSV l[i].val++(l.drop (i+1)).flatMap eSA):=by
  rw [List.drop_eq_getElem_cons hlt',List.flatMap_cons];unfold eSA;rw [List.append_assoc]
 rw [e] at hO
 have hv:=eSV_size l[i].val
 have hav:(eSA l[i]).length=(uz l[i].key).length+(eSV l[i].val).length:=by unfold eSA;rw [List.length_append]
 generalize l[i]=a at hra hia hO hsz hv hav
 subst hra
 have hc:∀ {W'},Grow w W'→∀ j u,a.cells[j]?=some u→W'.cell? (p.add (i * 5+j))=some u:=fun g j u hu=>g.cell (hc0 j u hu) fun h=>h
 refine ixK_n hlt' ?_
 rw [faK_i,Addr.add_add]
 refine ld1K_i (hc hO.g 0 _ rfl) ?_
 refine hO.whole hia.1 fun v2 W2 h2=>?_
 refine ixK_n hlt' ?_
 rw [faK_i]
 refine ldnK_i (vs:=a.val.cells) rfl (fun j u hu=>by
  rw [Addr.add_add,Addr.add_add]
  exact hc h2.g (1+j) u (by rw [Nat.add_comm];exact hu)) ?_
 refine callK_mono (val29_ok hia.2 (by omega)) ?_
 rintro v3 W3 ⟨o3,g3⟩
 refine (h2.grow g3).app (OwnR.sl o3) fun v4 W4 h4=>?_
 rw [addK_i,loop_step (by omega)]
 exact ⟨⟨i+1,v4,hlt',rfl,h4⟩,by rw [iOf1,iOf1];omega⟩
theorem pat29_ok {l:List Chg} (h:RPat S w xv l) (hr:∀ a ∈ l,InSC a) (hl:(encM eSC l).length≤1099511500) :
  callK Tryz.prog 40 [xv] (fun v w'=>OBytes w.heap.size w' v (encM eSC l)∧Grow w w') w:=by
 apply S40_ok
 unfold S40
 obtain ⟨pa,pc,rfl,hm⟩:=h.shape
 simp only [maxLen] at hm
 rw [lenK_i]
 refine conv_64 (by omega) ?_
 refine callK_mono (form_bytes (by omega)) ?_
 rintro ov0 w1 ⟨o0,g0⟩
 have hfl:(encM eSC l).length=(uv l.length).length+(l.flatMap eSC).length:=by unfold encM;rw [List.length_append]
 refine LoopK_i (fun vs W=>∃ (i:Nat) (ov:Value),i≤l.length∧vs=[ov,.int .i64 i]∧OutT w [] (encM eSC l) W ov ((l.drop i).flatMap eSC)) (fun vs _=>l.length - iOf vs 1)
  ⟨0,ov0,Nat.zero_le _,rfl,⟨_,o0,rfl⟩,g0,fun _ h=>(by cases h),fun _ h=>(by cases h),fun _ h=>(by cases h),by omega⟩ ?_
 rintro vs W ⟨i,ov,hi,rfl,hO⟩ _
 simp only [nth_s,nth_z,List.headD_cons,List.tail_cons]
 rw [lenK_i,ltK_i]
 refine condK_p (fun hlt=>?_) fun hge=>?_
 rotate_left
 ·have:i=l.length:=by omega
  subst this
  rw [List.drop_length] at hO
  exact ⟨hO.end_,hO.g⟩
 have hlt':i < l.length:=by omega
 obtain ⟨p,r,rfl,_,hrl,hc0,hra⟩:=h.get hlt'
 have hma:=List.getElem_mem hlt'
 have hia:=hr _ hma
 have hsz:=flat_mem_len (f:=eSC) hma
 have e:(l.drop i).flatMap eSC=uz l[i].key++(uf l[i].gone++(eSV l[i].val++(l.drop (i+1)).flatMap eSC)):=by
  rw [List.drop_eq_getElem_cons hlt',List.flatMap_cons];unfold eSC;rw [List.append_assoc,List.append_assoc]
 rw [e] at hO
 have hv:=eSV_size l[i].val
 have hav:(eSC l[i]).length=(uz l[i].key).length+((uf l[i].gone).length+(eSV l[i].val).length):=by unfold eSC;rw [List.length_append,List.length_append]
 generalize l[i]=a at hra hia hO hsz hv hav
 subst hra
 have hc:∀ {W'},Grow w W'→∀ j u,a.cells[j]?=some u→W'.cell? (p.add (i * 6+j))=some u:=fun g j u hu=>g.cell (hc0 j u hu) fun h=>h
 refine ixK_n hlt' ?_
 rw [faK_i,Addr.add_add]
 refine ld1K_i (hc hO.g 0 _ rfl) ?_
 refine hO.whole hia.1 fun v2 W2 h2=>?_
 refine ixK_n hlt' ?_
 rw [faK_i,Addr.add_add]
 refine ld1K_i (hc h2.g 1 _ rfl) ?_
 refine h2.flag fun v5 W5 h5=>?_
 refine ixK_n hlt' ?_
 rw [faK_i]
 refine ldnK_i (vs:=a.val.cells) rfl (fun j u hu=>by
  rw [Addr.add_add,Addr.add_add]
  exact hc h5.g (2+j) u (by rw [Nat.add_comm];exact hu)) ?_
 refine callK_mono (val29_ok hia.2 (by omega)) ?_
 rintro v3 W3 ⟨o3,g3⟩
 refine (h5.grow g3).app (OwnR.sl o3) fun v4 W4 h4=>?_
 rw [addK_i,loop_step (by omega)]
 exact ⟨⟨i+1,v4,hlt',rfl,h4⟩,by rw [iOf1,iOf1];omega⟩
end
theorem if_app {α:Type} {p:Bool} {x y:List α} (h:p=true):(if p=true then x else [])++y=x++y:=by rw [if_pos h]
theorem if_nap {α:Type} {p:Bool} {x y:List α} (h:p=false):(if p=true then x else [])++y=y:=by rw [if_neg (by rw [h];decide)];rfl
set_option maxHeartbeats 1000000 in
theorem rbytes29_ok {S D:Nat→Prop} {r:List Value} {s:Scr} {w:World} (h:RScr S D w r s) (hI:InS s) (hl:(eScr s).length≤1099511500) :
  callK Tryz.prog 14 [.agg r.toArray] (fun v w'=>OBytes w.heap.size w' v (eScr s)∧Grow w w') w:=by
 apply S14_ok
 unfold S14
 obtain ⟨kv,cv,rfl,hk,hcm⟩:=h
 obtain ⟨ka,kc,rfl,hkm⟩:=hk.shape
 obtain ⟨ca,cc,rfl,hcl⟩:=hcm.shape
 simp only [maxLen] at hkm hcl
 obtain ⟨i1,i2,i3,i4⟩:=hI
 have hT:eScr s=uv s.keys.length++(s.keys.flatMap eSK++(uz s.most++(uz s.undo++s.cmds.flatMap eCmd))):=by unfold eScr encM;rw [List.append_assoc]
 generalize hTT:eScr s=T at *
 have hTl:=congrArg List.length hT
 simp only [List.length_append] at hTl
 refine boxn_i fun b1 w1 hb1 hz1 g1 hc1 hl1=>?_
 have bx1:BoxN w1 b1 [.slice ka s.keys.length kc,.int .i64 s.most,.int .i64 s.undo,.slice ca s.cmds.length cc]:=⟨fun j u hu=>by have:=hc1 j u hu;rwa [addr0] at this,fun j hj=>by have:=hl1 j hj;rwa [addr0] at this⟩
 rw [faK_i,addr0]
 refine ld1K_i (bx1.cells 0 _ rfl) ?_
 rw [lenK_i]
 refine conv_64 (by omega) ?_
 refine callK_mono (form_bytes (by omega)) ?_
 rintro ov0 w2 ⟨o2,g2⟩
 have hs1:=g1.size
 have hs2:=g2.size
 have h2:OutT w [(b1,[.slice ka s.keys.length kc,.int .i64 s.most,.int .i64 s.undo,.slice ca s.cmds.length cc])] T w2 ov0 (s.keys.flatMap eSK++(uz s.most++(uz s.undo++s.cmds.flatMap eCmd))):=
  ⟨⟨_,OBytes.low o2 hs1,hT.symm⟩,g1.trans g2,fun p hp=>by rw [List.mem_singleton.1 hp];exact bx1.mod g2 fun h=>h,fun p hp=>by rw [List.mem_singleton.1 hp];show b1 < _;omega,fun p hp z hz=>by rw [List.mem_singleton.1 hp];have:=(OwnR.ownB o2 z hz).1;show z≠b1;omega,by omega⟩
 generalize hBS:[(b1,[Value.slice ka s.keys.length kc,.int .i64 s.most,.int .i64 s.undo,.slice ca s.cmds.length cc])]=BS at h2
 have hm1:(b1,[Value.slice ka s.keys.length kc,.int .i64 s.most,.int .i64 s.undo,.slice ca s.cmds.length cc]) ∈ BS:=by rw [←hBS];simp
 clear hBS bx1 o2 g2
 refine LoopK_i (fun vs W=>∃ (i:Nat) (ov:Value),i≤s.keys.length∧vs=[ov,.int .i64 i]∧OutT w BS T W ov ((s.keys.drop i).flatMap eSK++(uz s.most++(uz s.undo++s.cmds.flatMap eCmd)))) (fun vs _=>s.keys.length - iOf vs 1)
  ⟨0,ov0,Nat.zero_le _,rfl,h2⟩ ?_
 rintro vs W ⟨i,ov,hi,rfl,hO⟩ _
 simp only [nth_s,nth_z,List.headD_cons,List.tail_cons]
 refine hO.ld hm1 (j:=0) rfl ?_
 rw [lenK_i,ltK_i]
 refine condK_p (fun hlt=>?_) fun hge=>?_
 ·have hlt':i < s.keys.length:=by omega
  refine hO.ld hm1 (j:=0) rfl ?_
  obtain ⟨p,r,rfl,_,hrl,hc0,hra⟩:=(hk.grow hO.g (by decide) fun _ _ h=>h).get hlt'
  have hia:=i1.2 _ (List.getElem_mem hlt')
  have e:(s.keys.drop i).flatMap eSK=eSK s.keys[i]++(s.keys.drop (i+1)).flatMap eSK:=by rw [List.drop_eq_getElem_cons hlt',List.flatMap_cons]
  rw [e] at hO
  generalize s.keys[i]=a at hra hia hO
  subst hra
  obtain ⟨k1,⟨k2,k3⟩,k4⟩:=hia
  obtain ⟨kk,hkk⟩:∃ kk:Nat,a.kind=kk:=⟨a.kind.toNat,by omega⟩
  refine ixK_n hlt' (ldnK_i hrl (fun j u hu=>by rw [Addr.add_add];exact hc0 j u hu) ?_)
  refine newst_n (vs:=a.cells) rfl rfl (RKey.one (w:=w) rfl) fun b2 w3 hb2 hz2 g3 hc2 hl2=>?_
  have hP:=hO.push g3 hb2 hz2 ⟨fun j u hu=>by have:=hc2 j u hu;rwa [addr0] at this,fun j hj=>by have:=hl2 j hj;rwa [addr0] at this⟩
  have hm2:(b2,a.cells) ∈ (b2,a.cells) :: BS:=by simp
  replace hP:=hP.cast (t':=uz a.id++(uf a.block++(uv kk++(uf a.after++(uf a.before++(uz a.group++((s.keys.drop (i+1)).flatMap eSK++(uz s.most++(uz s.undo++s.cmds.flatMap eCmd))))))))) (by
   unfold eSK;simp only [List.append_assoc];rw [hkk];rfl)
  refine hP.ld hm2 (j:=0) rfl (hP.whole k1 fun v4 W4 h4=>?_)
  refine h4.ld hm2 (j:=1) rfl (h4.flag fun v5 W5 h5=>?_)
  refine h5.ld hm2 (j:=2) rfl ?_
  rw [hkk]
  refine conv8_64 (by omega) (h5.form (by omega) fun v6 W6 h6=>?_)
  refine h6.ld hm2 (j:=3) rfl (h6.flag fun v7 W7 h7=>?_)
  refine h7.ld hm2 (j:=4) rfl (h7.flag fun v8 W8 h8=>?_)
  refine h8.ld hm2 (j:=5) rfl (h8.whole k4 fun v9 W9 h9=>?_)
  rw [addK_i,loop_step (by omega)]
  exact ⟨⟨i+1,v9,hlt',rfl,h9.pop⟩,by rw [iOf1,iOf1];omega⟩
 have:i=s.keys.length:=by omega
 subst this
 rw [List.drop_length,List.flatMap_nil,List.nil_append] at hO
 refine hO.ld hm1 (j:=1) rfl (hO.whole i2 fun v4 W4 h4=>?_)
 refine h4.ld hm1 (j:=2) rfl (h4.whole i3 fun v5 W5 h5=>?_)
 clear hO h4 h2 hi hge
 refine LoopK_i (fun vs W=>∃ (i:Nat) (ov:Value),i≤s.cmds.length∧vs=[ov,.int .i64 i]∧OutT w BS T W ov ((s.cmds.drop i).flatMap eCmd)) (fun vs _=>s.cmds.length - iOf vs 1)
  ⟨0,v5,Nat.zero_le _,rfl,h5⟩ ?_
 rintro vs W ⟨i,ov,hi,rfl,hO⟩ _
 simp only [nth_s,nth_z,List.headD_cons,List.tail_cons]
 refine hO.ld hm1 (j:=3) rfl ?_
 rw [lenK_i,ltK_i]
 refine condK_p (fun hlt=>?_) fun hge=>?_
 rotate_left
 ·have:i=s.cmds.length:=by omega
  subst this
  rw [List.drop_length] at hO
  exact ⟨hO.end_,hO.g⟩
 have hlt':i < s.cmds.length:=by omega
 refine hO.ld hm1 (j:=3) rfl ?_
 obtain ⟨p,r,rfl,_,hrl,hc0,hra⟩:=hcm.get hlt'
 have hra0:=hra
 have hia:=i4 _ (List.getElem_mem hlt')
 have hsz:(eCmd s.cmds[i]).length≤1099511500:=by have:=flat_mem_len (f:=eCmd) (List.getElem_mem hlt');omega
 have e:(s.cmds.drop i).flatMap eCmd=eCmd s.cmds[i]++(s.cmds.drop (i+1)).flatMap eCmd:=by rw [List.drop_eq_getElem_cons hlt',List.flatMap_cons]
 rw [e] at hO
 generalize hrest:(s.cmds.drop (i+1)).flatMap eCmd=rest at hO
 generalize s.cmds[i]=c at hra hra0 hia hO hsz
 obtain ⟨xv,yv,pv,rfl,d1,d2,d3⟩:=hra
 obtain ⟨xa,xc,rfl,hxm⟩:=d1.shape
 simp only [maxLen] at hxm
 obtain ⟨⟨hkd,_⟩,j1,j2,j3,j4,j5,j6,j7⟩:=hia
 simp only [isK,decide_eq_true_eq] at hkd
 obtain ⟨kk,hkk⟩:∃ kk:Nat,c.kind=kk:=⟨c.kind.toNat,by omega⟩
 refine ixK_n hlt' (ldnK_i hrl (fun j u hu=>by rw [Addr.add_add];exact hO.g.cell (hc0 j u hu) fun h=>h) ?_)
 refine newst_n hrl rfl (RCmd.one hra0) fun b2 w3 hb2 hz2 g3 hc2 hl2=>?_
 have hP:=hO.push g3 hb2 hz2 ⟨fun j u hu=>by have:=hc2 j u hu;rwa [addr0] at this,fun j hj=>by have:=hl2 j (by rw [hrl];exact hj);rwa [addr0] at this⟩
 generalize hCS:(b2,[Value.int .u8 c.kind,.int .i64 c.i,.int .i64 c.j,.int .i64 c.key,.int .i64 c.by_,.slice xa c.ops.length xc,yv,pv]) :: BS=CS at hP
 have hm2:(b2,[Value.int .u8 c.kind,.int .i64 c.i,.int .i64 c.j,.int .i64 c.key,.int .i64 c.by_,.slice xa c.ops.length xc,yv,pv]) ∈ CS:=by rw [←hCS];simp
 have pop:∀ {W ov t},OutT w CS T W ov t→OutT w BS T W ov t:=fun h=>by rw [←hCS] at h;exact h.pop
 clear hCS
 have hlen2:∀ x ∈ [encM eSO c.ops,encX c.bytes,encM eSC c.patch],(hasO c.kind=true→x=encM eSO c.ops→x.length≤1099511500):=fun x hx hh e=>by
  subst e
  unfold eCmd eF at hsz
  rw [if_pos hh] at hsz
  simp only [List.length_append] at hsz
  omega
 have lO:hasO c.kind=true→(encM eSO c.ops).length≤1099511500:=fun hh=>hlen2 _ (by simp) hh rfl
 have lB:hasB c.kind=true→(encX c.bytes).length≤1099511500:=fun hh=>by
  unfold eCmd eF at hsz
  rw [if_pos hh] at hsz
  simp only [List.length_append] at hsz
  omega
 have lP:hasP c.kind=true→(encM eSC c.patch).length≤1099511500:=fun hh=>by
  unfold eCmd eF at hsz
  rw [if_pos hh] at hsz
  simp only [List.length_append] at hsz
  omega
 replace hP:=hP.cast (t':=uv kk++((if hasI c.kind=true then uz c.i else [])++((if hasJ c.kind=true then uz c.j else [])++((if hasS c.kind=true then uz c.key++uz c.by_ else [])++((if hasO c.kind=true then encM eSO c.ops else [])++((if hasB c.kind=true then encX c.bytes else [])++((if hasP c.kind=true then encM eSC c.patch else [])++rest))))))) (by
  unfold eCmd eF;simp only [List.append_assoc];rw [hkk];rfl)
 refine hP.ld hm2 (j:=0) rfl ?_
 refine callK_mono rhas_ok ?_
 rintro _ _ ⟨rfl,rfl⟩
 rename World=>w3
 iterate 7 refine extK_i (vs:=[_,_,_,_,_,_,_]) rfl ?_
 refine hP.ld hm2 (j:=0) rfl ?_
 rw [hkk]
 refine conv8_64 (by omega) (hP.form (by omega) fun v4 W4 h4=>?_)
 rw [←hkk]
 clear hP hO
 refine JoinK_i (fun vs W=>∃ ov,vs=[ov]∧OutT w CS T W ov ((if hasJ c.kind=true then uz c.j else [])++((if hasS c.kind=true then uz c.key++uz c.by_ else [])++((if hasO c.kind=true then encM eSO c.ops else [])++((if hasB c.kind=true then encX c.bytes else [])++((if hasP c.kind=true then encM eSC c.patch else [])++rest)))))) ?_ ?_
 rotate_left
 ·refine condK_bb (fun e=>?_) fun e=>⟨_,rfl,h4.cast (if_nap e)⟩
  have h4:=h4.cast (if_app e)
  exact h4.ld hm2 (j:=1) rfl (h4.whole j1 fun v5 W5 h5=>⟨_,rfl,h5⟩)
 clear h4
 rintro _ W ⟨ov,rfl,h4⟩ _
 simp only [nth_z,List.headD_cons]
 refine JoinK_i (fun vs W=>∃ ov,vs=[ov]∧OutT w CS T W ov ((if hasS c.kind=true then uz c.key++uz c.by_ else [])++((if hasO c.kind=true then encM eSO c.ops else [])++((if hasB c.kind=true then encX c.bytes else [])++((if hasP c.kind=true then encM eSC c.patch else [])++rest))))) ?_ ?_
 rotate_left
 ·refine condK_bb (fun e=>?_) fun e=>⟨_,rfl,h4.cast (if_nap e)⟩
  have h4:=h4.cast (if_app e)
  exact h4.ld hm2 (j:=2) rfl (h4.whole j2 fun v5 W5 h5=>⟨_,rfl,h5⟩)
 clear h4
 rintro _ W ⟨ov,rfl,h4⟩ _
 simp only [nth_z,List.headD_cons]
 refine JoinK_i (fun vs W=>∃ ov,vs=[ov]∧OutT w CS T W ov ((if hasO c.kind=true then encM eSO c.ops else [])++((if hasB c.kind=true then encX c.bytes else [])++((if hasP c.kind=true then encM eSC c.patch else [])++rest)))) ?_ ?_
 rotate_left
 ·refine condK_bb (fun e=>?_) fun e=>⟨_,rfl,h4.cast (if_nap e)⟩
  have h4:=(h4.cast (if_app e)).cast (List.append_assoc ..)
  refine h4.ld hm2 (j:=3) rfl (h4.whole j3 fun v5 W5 h5=>?_)
  exact h5.ld hm2 (j:=4) rfl (h5.whole j4 fun v6 W6 h6=>⟨_,rfl,h6⟩)
 clear h4
 rintro _ W ⟨ov,rfl,h4⟩ _
 simp only [nth_z,List.headD_cons]
 refine JoinK_i (fun vs W=>∃ ov,vs=[ov]∧OutT w CS T W ov ((if hasB c.kind=true then encX c.bytes else [])++((if hasP c.kind=true then encM eSC c.patch else [])++rest))) ?_ ?_
 rotate_left
 ·refine condK_bb (fun e=>?_) fun e=>⟨_,rfl,h4.cast (if_nap e)⟩
  have hlO:=lO e
  generalize (if hasB c.kind=true then encX c.bytes else [])++((if hasP c.kind=true then encM eSC c.patch else [])++rest)=rest2 at h4 ⊢
  have h4:=(h4.cast (if_app e)).cast (t':=uv c.ops.length++(c.ops.flatMap eSO++rest2)) (by unfold encM;rw [List.append_assoc])
  refine h4.ld hm2 (j:=5) rfl ?_
  rw [lenK_i]
  refine conv_64 (by omega) (h4.form (by omega) fun v5 W5 h5=>?_)
  refine LoopK_i (fun vs W=>∃ (q:Nat) (ov:Value),q≤c.ops.length∧vs=[ov,.int .i64 q]∧OutT w CS T W ov ((c.ops.drop q).flatMap eSO++rest2)) (fun vs _=>c.ops.length - iOf vs 1) ⟨0,v5,Nat.zero_le _,rfl,h5⟩ ?_
  clear h4 h5
  rintro vs W6 ⟨q,ov6,hq,rfl,h6⟩ _
  simp only [nth_s,nth_z,List.headD_cons,List.tail_cons]
  refine h6.ld hm2 (j:=5) rfl ?_
  rw [lenK_i,ltK_i]
  refine condK_p (fun hlt2=>?_) fun hge2=>?_
  rotate_left
  ·have:q=c.ops.length:=by omega
   subst this
   rw [List.drop_length,List.flatMap_nil,List.nil_append] at h6
   exact ⟨_,rfl,h6⟩
  have hlt2':q < c.ops.length:=by omega
  refine h6.ld hm2 (j:=5) rfl ?_
  obtain ⟨p5,r5,rfl,_,hrl5,hc5,hra5⟩:=d1.get hlt2'
  have hra50:=hra5
  have hio:=j5.2 _ (List.getElem_mem hlt2')
  have hsz5:(eSO c.ops[q]).length≤1099511500:=by
   have h1:=flat_mem_len (f:=eSO) (List.getElem_mem hlt2')
   unfold encM at hlO
   rw [List.length_append] at hlO
   omega
  have e6:(c.ops.drop q).flatMap eSO=eSO c.ops[q]++(c.ops.drop (q+1)).flatMap eSO:=by rw [List.drop_eq_getElem_cons hlt2',List.flatMap_cons]
  rw [e6,List.append_assoc] at h6
  generalize hr3:(c.ops.drop (q+1)).flatMap eSO++rest2=rest3 at h6
  generalize c.ops[q]=o at hra5 hra50 hio hsz5 h6
  obtain ⟨rv,sv,pv',rfl,r1,r2,r3⟩:=hra5
  obtain ⟨ra,rc,rfl,hrm⟩:=r1.shape
  simp only [maxLen] at hrm
  obtain ⟨⟨o0,o1⟩,on,oru,ose,opa⟩:=hio
  obtain ⟨ko,hko⟩:∃ ko:Nat,o.kind=ko:=⟨o.kind.toNat,by omega⟩
  have ls:(encM eSA o.set).length≤1099511500∧(encM eSC o.patch).length≤1099511500:=by
   unfold eSO at hsz5
   simp only [List.length_append] at hsz5
   omega
  refine ixK_n hlt2' (ldnK_i hrl5 (fun j u hu=>by rw [Addr.add_add];exact h6.g.cell (hc5 j u hu) fun h=>h) ?_)
  refine newst_n hrl5 rfl (RDop.one hra50) fun b6 w7 hb6 hz6 g7 hc6 hl6=>?_
  have hQ:=h6.push g7 hb6 hz6 ⟨fun j u hu=>by have:=hc6 j u hu;rwa [addr0] at this,fun j hj=>by have:=hl6 j (by rw [hrl5];exact hj);rwa [addr0] at this⟩
  have hm3:(b6,[Value.int .u8 o.kind,.int .i64 o.n,.slice ra o.runes.length rc,sv,pv']) ∈ (b6,[Value.int .u8 o.kind,.int .i64 o.n,.slice ra o.runes.length rc,sv,pv']) :: CS:=by simp
  replace hQ:=hQ.cast (t':=uv ko++(uz o.n++(uv o.runes.length++(o.runes.flatMap uz++(encM eSA o.set++(encM eSC o.patch++rest3)))))) (by
   unfold eSO encM;simp only [List.append_assoc];rw [hko];rfl)
  refine hQ.ld hm3 (j:=0) rfl ?_
  rw [hko]
  refine conv8_64 (by omega) (hQ.form (by omega) fun v8 W8 h8=>?_)
  refine h8.ld hm3 (j:=1) rfl (h8.whole on fun v9 W9 h9=>?_)
  refine h9.ld hm3 (j:=2) rfl ?_
  rw [lenK_i]
  refine conv_64 (by omega) (h9.form (by omega) fun v10 W10 h10=>?_)
  refine LoopK_i (fun vs W=>∃ (m:Nat) (ov:Value),m≤o.runes.length∧vs=[ov,.int .i64 m]∧OutT w ((b6,[Value.int .u8 o.kind,.int .i64 o.n,.slice ra o.runes.length rc,sv,pv']) :: CS) T W ov ((o.runes.drop m).flatMap uz++(encM eSA o.set++(encM eSC o.patch++rest3)))) (fun vs _=>o.runes.length - iOf vs 1) ⟨0,v10,Nat.zero_le _,rfl,h10⟩ ?_
  clear h6 hQ h8 h9 h10
  rintro vs W11 ⟨m,ov11,hmr,rfl,h11⟩ _
  simp only [nth_s,nth_z,List.headD_cons,List.tail_cons]
  refine h11.ld hm3 (j:=2) rfl ?_
  rw [lenK_i,ltK_i]
  refine condK_p (fun hlt3=>?_) fun hge3=>?_
  ·have hlt3':m < o.runes.length:=by omega
   refine h11.ld hm3 (j:=2) rfl ?_
   obtain ⟨p7,r7,rfl,_,_,hc7,hra7⟩:=r1.get hlt3'
   have hin:=oru.2 _ (List.getElem_mem hlt3')
   have e7:(o.runes.drop m).flatMap uz=uz o.runes[m]++(o.runes.drop (m+1)).flatMap uz:=by rw [List.drop_eq_getElem_cons hlt3',List.flatMap_cons]
   rw [e7,List.append_assoc] at h11
   generalize o.runes[m]=x at hra7 hin h11
   subst hra7
   have hi64:=hin.i64
   refine ixK_n hlt3' (ld1K_i (h11.g.cell (hc7 0 _ rfl) fun h=>h) ?_)
   refine runK_i (run_conv (k:=.i64) W11 (by kernel_rfl) (by kernel_rfl)) ?_
   rw [wrap64 hi64.1 hi64.2]
   refine h11.whole hi64 fun v12 W12 h12=>?_
   rw [addK_i,loop_step (by omega)]
   exact ⟨⟨m+1,v12,hlt3',rfl,h12⟩,by rw [iOf1,iOf1];omega⟩
  have:m=o.runes.length:=by omega
  subst this
  rw [List.drop_length,List.flatMap_nil,List.nil_append] at h11
  refine h11.ld hm3 (j:=3) rfl ?_
  refine callK_mono (set29_ok (r2.grow h11.g (by decide) fun _ _ h=>h) ose.2 ls.1) ?_
  rintro v13 W13 ⟨o13,g13⟩
  refine (h11.grow g13).app (OwnR.sl o13) fun v14 W14 h14=>?_
  refine h14.ld hm3 (j:=4) rfl ?_
  refine callK_mono (pat29_ok (r3.grow h14.g (by decide) fun _ _ h=>h) opa.2 ls.2) ?_
  rintro v15 W15 ⟨o15,g15⟩
  refine (h14.grow g15).app (OwnR.sl o15) fun v16 W16 h16=>?_
  rw [addK_i,loop_step (by omega)]
  exact ⟨⟨q+1,v16,hlt2',rfl,by rw [hr3];exact h16.pop⟩,by rw [iOf1,iOf1];omega⟩
 clear h4
 rintro _ W ⟨ov,rfl,h4⟩ _
 simp only [nth_z,List.headD_cons]
 refine JoinK_i (fun vs W=>∃ ov,vs=[ov]∧OutT w CS T W ov ((if hasP c.kind=true then encM eSC c.patch else [])++rest)) ?_ ?_
 rotate_left
 ·refine condK_bb (fun e=>?_) fun e=>⟨_,rfl,h4.cast (if_nap e)⟩
  have hlB:=lB e
  have h4:=h4.cast (if_app e)
  refine h4.ld hm2 (j:=6) rfl ?_
  refine callK_mono (text29_ok (d2.grow h4.g (by decide) fun _ _ h=>h) (by unfold encX at hlB;rw [List.length_append] at hlB;omega)) ?_
  rintro v5 W5 ⟨o5,g5⟩
  exact (h4.grow g5).app (OwnR.sl o5) fun v6 W6 h6=>⟨_,rfl,h6⟩
 clear h4
 rintro _ W ⟨ov,rfl,h4⟩ _
 simp only [nth_z,List.headD_cons]
 refine condK_bb (fun e=>?_) fun e=>?_
 ·have hlP:=lP e
  have h4:=h4.cast (if_app e)
  refine h4.ld hm2 (j:=7) rfl ?_
  refine callK_mono (pat29_ok (d3.grow h4.g (by decide) fun _ _ h=>h) j7.2 hlP) ?_
  rintro v5 W5 ⟨o5,g5⟩
  refine (h4.grow g5).app (OwnR.sl o5) fun v6 W6 h6=>?_
  rw [addK_i,loop_step (by omega)]
  exact ⟨⟨i+1,v6,hlt',rfl,by rw [hrest];exact pop h6⟩,by rw [iOf1,iOf1];omega⟩
 ·rw [addK_i,loop_step (by omega)]
  exact ⟨⟨i+1,ov,hlt',rfl,by rw [hrest];exact pop (h4.cast (if_nap e))⟩,by rw [iOf1,iOf1];omega⟩
end Go.Proofs.YtaimlfomodfekaaGreatDoor

namespace Go.Proofs.YtaimlfomodfekaaGreatDoor
open Go Go.K
set_option maxRecDepth 100000
def An46:Ann:=(.node [] [] .nil (.node [] [] (.dc [2] [[],[0],[0,1],[],[3],[3,4],[0,1,2,3,4,5],[],[7],[7,8],[0,1,2,3,4,5,6,7,8,9],[0,1,2,3,4,5,6,7,8,9,10]] []) (.node [] [] (.node [] [] .nil (.node [3,4] [(3,4),(16,32)] (.node [] [] (.node [] [] .nil (.node [] [] .nil .nil)) (.node [] [] .nil .nil)) .nil)) (.node [] [] .nil .nil))))
def S46 (v0:Value) (K:Cont) (w:World):Prop:=by
 refine' (?f:∀ B R,PX Tryz.prog okf K (PG Tryz.prog okf Tryz.f46 An46 [v0] w) B R→Prop) _ _ ⟨?a,?b⟩
 case a=>intro _;intros;conv=>lhs;reduce
 case b=>dsimp only [PI,plit_eq];rfl
 exact fun _ R _=>R
theorem S46_ok {v0:Value} {K:Cont} {w:World} (h:S46 v0 K w):callK Tryz.prog 46 [v0] K w:=okS An46 good mixed Tryz.func46 (by kernel_rfl) h (by kernel_rfl)

end Go.Proofs.YtaimlfomodfekaaGreatDoor
