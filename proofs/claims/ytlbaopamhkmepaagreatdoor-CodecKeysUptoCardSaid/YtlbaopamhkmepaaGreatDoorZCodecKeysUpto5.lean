/- CodecKeys: for every input of bulk at most 1048576 the law returns true, and each argument reads behind the call as it read before; the two tables tied. Condition: the bulk. -/
import Derived.Test.YtlbaopamhkmepaaGreatDoorZCodecKeysUpto4
import Derived.Test.YtlbaopamhkmepaaGreatDoorRows
import Derived.Lib.LaidU8
import Derived.Lib.LaidIn
import Derived.LaidHandle
import Derived.LaidMore
import Derived.MakeChecks
import Derived.Test.YtlbaopamhkmepaaGreatDoorTie
import Derived.Test.YtlbaopamhkmepaaGreatDoorCards
import Derived.WalkKit
import Derived.OpenShut
import Derived.ShutString
import Derived.ChangeOld
import Derived.ChangeVars
import Derived.JoinedOf
import Derived.JoinedCond
import Derived.Deep.DeepHandedRow
import Derived.SevenTiedAt
namespace Go.Proofs.YtlbaopamhkmepaaGreatDoor
open Go Go.K

def InVB (v:AVal):Prop:=(-9223372036854775808≤v.n∧v.n≤9223372036854775807)∧(0≤v.f∧v.f < 18446744073709551616)
def InB (o:Dop):Prop:=(∀ a ∈ o.set,a.key≤9223372036854775807∧InVB a.val)∧∀ c ∈ o.patch,c.key≤9223372036854775807∧InVB c.val
theorem InB.o {o:Dop} (h:InB o):InO o:=⟨fun a ha=>(h.1 a ha).2.2.1,fun c hc=>(h.2 c hc).2.2.1⟩
variable {ks:List DKey}
abbrev PSB (ks:List DKey) (l:List Attr):Prop:=SetK ks l∧∀ a ∈ l,a.key≤9223372036854775807∧InVB a.val
abbrev PPB (ks:List DKey) (p:List Chg):Prop:=PatK ks p∧∀ c ∈ p,c.key≤9223372036854775807∧InVB c.val
abbrev GoodB (ks:List DKey) (o:Dop):Prop:=Good (PSB ks) (PPB ks) o
theorem GoodB.k {o:Dop} (h:GoodB ks o):GoodK ks o:=by
 rcases h with ⟨h1,h2,h3,h4,h5⟩ | h | ⟨h1,h2,h3,h4,h5,h6⟩
 ·exact .inl ⟨h1,h2,h3,h4,h5.1⟩
 ·exact .inr (.inl h)
 ·exact .inr (.inr ⟨h1,h2,h3,h4,h5,h6.1⟩)
theorem GoodK.b {o:Dop} (h:GoodK ks o) (hb:InB o):GoodB ks o:=by
 rcases h with ⟨h1,h2,h3,h4,h5⟩ | h | ⟨h1,h2,h3,h4,h5,h6⟩
 ·exact .inl ⟨h1,h2,h3,h4,h5,hb.2⟩
 ·exact .inr (.inl h)
 ·exact .inr (.inr ⟨h1,h2,h3,h4,h5,h6,hb.1⟩)
theorem ValOK.rep {v:AVal} (h:ValOK v) (hi:InVB v):RepV v:=by
 rcases h with ⟨h1,h2,h3⟩ | ⟨h1,h2⟩ | ⟨h1,h2,_⟩ | ⟨h1,h2,h3,_⟩
 ·exact .inl ⟨.inl h1,hi.1,by rw [h2],by rw [h2];rfl⟩
 ·exact .inl ⟨.inr h1,hi.1,by rw [h2],by rw [h2];rfl⟩
 ·exact .inr (.inl ⟨h1,by rw [h2],hi.2,by rw [h2];rfl⟩)
 ·exact .inr (.inr ⟨h1,by rw [h2],by rw [h2],by omega⟩)
theorem find_pos (hk:∀ k ∈ ks,0≤k.id) {id:Int} (h:findK ks id≠none):0≤id:=by
 obtain ⟨k,h1,h2⟩:=List.mem_map.1 (find_id' h)
 rw [←h2];exact hk k h1
theorem SetK.rep (hk:∀ k ∈ ks,0≤k.id) {l:List Attr} (h:PSB ks l):RepM RepA l:=
 ⟨by have:=h.1.2.1;omega,fun a ha=>by
  obtain ⟨h1,k,h2,_⟩:=h.1.2.2 a ha
  have h3:=h.2 a ha
  exact ⟨⟨find_pos hk (by rw [h2];simp),by omega⟩,h1.rep h3.2⟩⟩
theorem PatK.rep (hk:∀ k ∈ ks,0≤k.id) {l:List Chg} (h:PPB ks l):RepM RepC l:=
 ⟨by have:=h.1.2.1;omega,fun c hc=>by
  obtain ⟨h1,h2,h4⟩:=h.1.2.2 c hc
  have h3:=h.2 c hc
  refine ⟨⟨find_pos hk h4,by omega⟩,?_⟩
  cases hg:c.gone
  ·exact .inr ⟨rfl,(h2 hg).1.rep h3.2⟩
  ·exact .inl ⟨rfl,h1 hg⟩⟩
theorem textR_len':∀ l:List Int,(textR l).length≤l.length * 4:=by
 intro l
 induction l with
 | nil=>simp [textR]
 | cons r l ih=>
  have:=(oneB_len r).2
  have e:textR (r :: l)=oneB r++textR l:=rfl
  rw [e,List.length_append,List.length_cons]
  omega
theorem GoodB.rep (hk:∀ k ∈ ks,0≤k.id) {o:Dop} (h:GoodB ks o) (hl:lenN o≤536870912):RepO o:=by
 unfold lenN at hl
 rcases h with ⟨h1,h2,h3,h4,h5⟩ | ⟨h1,h2,h3,h4,h5⟩ | ⟨h1,h2,h3,h4,h5,h6⟩
 ·rw [if_neg (by omega)] at hl
  exact .inl ⟨h1,by omega,h2,h3,PatK.rep hk h5⟩
 ·rw [if_neg (by omega)] at hl
  exact .inr (.inr ⟨h1,by omega,h2,h3,h4⟩)
 ·rw [if_pos h1] at hl
  exact .inr (.inl ⟨h1,h3,h2,by have:=textR_len' o.runes;omega,SetK.rep hk h6,h4⟩)
theorem GoodK.form1 {o:Dop} (h:GoodK ks o) (hl:lenN o≤536870912):Form1 o:=by
 unfold lenN at hl
 rcases h with ⟨h1,h2,h3,h4,h5⟩ | ⟨h1,h2,h3,h4,h5⟩ | ⟨h1,h2,h3,h4,h5,h6⟩
 ·rw [if_neg (by omega)] at hl
  exact .inl ⟨h1,h2,h3,h4,by omega⟩
 ·rw [if_neg (by omega)] at hl
  exact .inr (.inl ⟨h1,h2,h3,h4,h5,by omega⟩)
 ·exact .inr (.inr ⟨h1,h3,h4,h5⟩)
theorem GoodK.tm {o:Dop} (h:GoodK ks o):takesF o=(lenN o:Int) - o.runes.length∧makesF o=(lenN o:Int) - (if o.kind=3 then o.n else 0)∧0≤takesF o∧takesF o≤lenN o∧0≤makesF o∧makesF o≤lenN o:=by
 unfold takesF makesF lenN lenO
 rcases h with ⟨h1,h2,h3,h4,h5⟩ | ⟨h1,h2,h3,h4,h5⟩ | ⟨h1,h2,h3,h4,h5,h6⟩
 ·rw [h1,h2];simp;omega
 ·rw [h1,h2];simp;omega
 ·rw [h1];simp
theorem sums {x:List Dop} (h:∀ o ∈ x,GoodK ks o∧lenN o≤536870912) (hl:x.length≤1048576):sumW takesF x=(total x:Int) - runesN x∧sumW makesF x=(total x:Int) - goneN x:=by
 have e1:=(sumW_small (f:=takesF) (m:=536870912) (by decide) x (fun o ho=>by have:=(h o ho).1.tm;have:=(h o ho).2;omega) (by omega)).1
 have e2:=(sumW_small (f:=makesF) (m:=536870912) (by decide) x (fun o ho=>by have:=(h o ho).1.tm;have:=(h o ho).2;omega) (by omega)).1
 rw [e1,e2]
 clear e1 e2 hl
 induction x with
 | nil=>simp [total,runesN,goneN]
 | cons o x ih=>
  obtain ⟨i1,i2⟩:=ih fun o ho=>h o (by simp [ho])
  have:=(h o (by simp)).1.tm
  simp only [List.map_cons,List.sum_cons,total,runesN,goneN] at i1 i2 ⊢
  push_cast
  omega
theorem good_may' {x:List Dop} (h:∀ o ∈ x,GoodK ks o∧lenN o≤536870912) (ht:sumW takesF x≤536870912) (hm:sumW makesF x≤536870912):mayOps ks x=0:=by
 have hf:∀ o ∈ x,FormO o∧SetK ks o.set∧PatK ks o.patch:=fun o ho=>GoodK.form (h o ho).1 (h o ho).2
 unfold mayOps
 rw [if_neg,if_neg]
 ·rintro ⟨o,ho,hn | hn⟩
  ·exact hn (setK_iff.2 (hf o ho).2.1)
  ·exact hn (patK_iff.2 (hf o ho).2.2)
 ·rintro (⟨o,ho,hn | hn | hn⟩ | hn | hn)
  ·exact hn (hf o ho).1
  ·rw [setK_iff.2 (hf o ho).2.1] at hn;cases hn
  ·rw [patK_iff.2 (hf o ho).2.2] at hn;cases hn
  ·omega
  ·omega
theorem may_sums {x:List Dop} (h:mayOps ks x=0):sumW takesF x≤536870912∧sumW makesF x≤536870912:=by
 unfold mayOps at h
 split at h
 ·cases h
 ·rename_i h1
  exact ⟨Classical.byContradiction fun hn=>h1 (.inr (.inl (by omega))),Classical.byContradiction fun hn=>h1 (.inr (.inr (by omega)))⟩
theorem runesN_le {x:List Dop} (h:∀ o ∈ x,GoodK ks o):((runesN x:Int)+goneN x≤total x)∧0≤goneN x:=by
 induction x with
 | nil=>simp [total,runesN,goneN]
 | cons o x ih=>
  have:=ih fun o ho=>h o (by simp [ho])
  have ho:=h o (by simp)
  simp only [List.map_cons,List.sum_cons,total,runesN,goneN,lenN] at this ⊢
  push_cast
  rcases ho with ⟨h1,h2,h3,h4,h5⟩ | ⟨h1,h2,h3,h4,h5⟩ | ⟨h1,h2,h3,h4,h5,h6⟩
  ·rw [h1,h2];simp;omega
  ·rw [h1,h2];simp;omega
  ·rw [h1];simp;omega
theorem one_le {x:List Dop} (h:∀ o ∈ x,GoodK ks o) {z:Dop} (hz:z ∈ x):(z.kind≠2→(lenN z:Int)+runesN x≤total x)∧(z.kind=2→(lenN z:Int)+goneN x≤total x):=by
 induction x with
 | nil=>simp at hz
 | cons o x ih=>
  have hx:∀ o ∈ x,GoodK ks o:=fun o ho=>h o (by simp [ho])
  have hr:=runesN_le hx
  have ho:=h o (by simp)
  have ho':=ho.tm
  have hone:(o.runes.length:Int)≤lenN o∧(if o.kind=3 then o.n else 0)≤lenN o∧0≤(if o.kind=3 then o.n else 0)∧(o.kind≠2→o.runes.length=0)∧(o.kind=2→(if o.kind=3 then o.n else 0)=0):=by
   have:=ho'.2.2.1
   have:=ho'.2.2.2.2.1
   refine ⟨by omega,by omega,?_,fun e=>?_,fun e=>by rw [e];rfl⟩
   ·split
    ·rcases ho with ⟨h1,_⟩ | ⟨_,_,_,_,h5⟩ | ⟨h1,_⟩ <;> omega
    ·omega
   ·rcases ho with ⟨_,h2,_⟩ | ⟨_,h2,_⟩ | ⟨h1,_⟩
    ·rw [h2];rfl
    ·rw [h2];rfl
    ·exact (e h1).elim
  simp only [List.map_cons,List.sum_cons,total,runesN,goneN] at hr ⊢
  push_cast
  rcases List.mem_cons.1 hz with rfl | hz
  ·refine ⟨fun e=>?_,fun e=>?_⟩
   ·have:=hone.2.2.2.1 e;omega
   ·have:=hone.2.2.2.2 e;omega
  ·have i1:=ih hx hz
   simp only [total,runesN,goneN] at i1
   refine ⟨fun e=>?_,fun e=>?_⟩
   ·have:=i1.1 e;omega
   ·have:=i1.2 e;omega
theorem norm_may (hk:∀ k ∈ ks,0≤k.id) {x:List Dop} (h:mayOps ks x=0) (hb:∀ o ∈ x,InB o) (hl:x.length≤1048576) :
  mayOps ks (normB x)=0∧(∀ z ∈ normB x,GoodB ks z∧lenN z≤536870912)∧RepM RepO (normB x)∧normB (normB x)=normB x∧(normB x).length≤x.length:=by
 have hg:=may_good h
 obtain ⟨e1,e2⟩:=sums hg hl
 obtain ⟨m1,m2⟩:=may_sums h
 have hr0:=runesN_le fun o ho=>(hg o ho).1
 have hf:∀ o ∈ x,Form1 o:=fun o ho=>(hg o ho).1.form1 (hg o ho).2
 obtain ⟨n1,n2⟩:=good_norm x (fun o ho=>(hg o ho).1.b (hb o ho)) (by omega)
 obtain ⟨s1,s2,s3⟩:=norm_short x hf (by omega)
 have hn:∀ z ∈ normB x,lenN z≤536870912:=by
  intro z hz
  have hr:=one_le (fun o ho=>GoodB.k (n1 o ho)) hz
  rw [s1,s2] at hr
  by_cases e:z.kind=2
  ·have:=hr.2 e;omega
  ·have:=hr.1 e;omega
 have hgn:∀ z ∈ normB x,GoodK ks z∧lenN z≤536870912:=fun z hz=>⟨GoodB.k (n1 z hz),hn z hz⟩
 obtain ⟨f1,f2⟩:=sums hgn (by omega)
 rw [s1] at f1
 rw [s2] at f2
 exact ⟨good_may' hgn (by omega) (by omega),fun z hz=>⟨n1 z hz,hn z hz⟩,⟨by omega,fun z hz=>GoodB.rep hk (n1 z hz) (hn z hz)⟩,norm_twice x hf (by omega),s3⟩
theorem may_rof {x:List Dop} (h:mayOps ks x≠3) (hl:x.length≤1048576):normB x=rof x:=by
 refine norm_eq x fun o ho=>?_
 have hf:FormO o:=Classical.byContradiction fun hn=>h (by unfold mayOps;rw [if_pos (.inl ⟨o,ho,.inl hn⟩)])
 rcases hf with ⟨h1,h2,h3,h4,h5⟩ | ⟨h1,h2,h3,h4,h5,h6⟩ | ⟨h1,h2,h3,h4,h5,h6⟩
 ·exact .inl ⟨h1,h2,h3,h4,h5⟩
 ·exact .inr (.inl ⟨h1,h2,h3,h4,h5,h6⟩)
 ·exact .inr (.inr ⟨h1,h3,h4,by intro e;rw [e] at h5;simp at h5⟩)
theorem decB_enc {x:List Dop} (hr:RepM RepO x) (h3:mayOps ks x≠3) (hn:rof x=x):decB ks (encL x)=if mayOps ks x=0 then (x,0) else ([],mayOps ks x):=by
 have h:∃ y,RepM RepO y∧encL y=encL x∧mayOps ks y≠3∧rof y=y:=⟨x,hr,rfl,h3,hn⟩
 unfold decB
 rw [dif_pos h]
 have e:Classical.choose h=x:=encL_inj (Classical.choose_spec h).1 hr (Classical.choose_spec h).2.1
 rw [e]
theorem decB_none {b:List Int} (h:∀ x,RepM RepO x→encL x=b→mayOps ks x=3∨rof x≠x):decB ks b=([],3):=by
 unfold decB
 rw [dif_neg]
 rintro ⟨x,h1,h2,h3,h4⟩
 rcases h x h1 h2 with e | e
 ·exact h3 e
 ·exact e h4
end Go.Proofs.YtlbaopamhkmepaaGreatDoor

namespace Go.Proofs.YtlbaopamhkmepaaGreatDoor
open Go Go.K

theorem callyK_g {P:Program} {ok:Nat→Bool} {g:Nat} {bs cs args:List Value} {K:Cont} {w:World} (hok:ok g=true) (h:callK P g (bs++args++cs) K w):callyK P ok (.func (.func g) bs.toArray cs.toArray) args K w:=.inl ⟨g,bs,cs,rfl,hok,by simpa using h⟩
theorem strbytes' {s:ByteArray} {K:Cont} {w:World} (hs:s.size * 4≤140737488355328) (hK:∀ v w',Grow w w'→RBytes (fun z=>w.heap.size≤z∧z < w'.heap.size) w' v (bytesL s)→K v w'):runK Tryz.prog (convert 9 70 (.string s)) K w:=by
 refine ⟨_,_,run_bytes_of_string w _ _ 5 s (by kernel_rfl) (by kernel_rfl) (by kernel_rfl),hK _ _ ((Mod.drew (fun _=>False) w).trans (Mod.alloc _ _ _)) ?_⟩
 have hl:(bytesL s).length=s.size:=by simp [bytesL]
 have hm:s.size≤maxLen:=by simp only [maxLen];omega
 refine ⟨_,_,by rw [hl],by rw [hl];exact grownCap_ge _ _ _ _,grownCap_le_maxLen _ _ _ _ hm,fun i x hx=>⟨_,[.int .u8 x],rfl,⟨Nat.le_refl _,by simp⟩,rfl,fun j u hu=>?_,rfl⟩⟩
 have hj:j=0:=by have:=(List.getElem?_eq_some_iff.1 hu).1;simp at this;exact this
 subst hj
 simp at hu;subst hu
 rw [addr0,Nat.mul_one,Nat.add_zero]
 have hi:=(List.getElem?_eq_some_iff.1 hx).1
 rw [hl] at hi
 have hx':x=((s.data[i]'hi).toNat:Int):=by
  simp only [bytesL,List.getElem?_map,Array.getElem?_toList] at hx
  rw [Array.getElem?_eq_getElem hi] at hx
  simpa using hx.symm
 subst hx'
 have hs2:i < s.data.size:=hi
 refine (cell_allocF w.drew _ _ _ i).trans ?_
 simp [bytesRow,Array.getElem?_append,hi]
section
variable {G G':Nat→Prop} {W W':World} {c:Nat} {l:List Int}
theorem WrI.app2 {S M8 M11:Nat→Prop} {bv x:Value} {m:List Int} {K:World→Prop} (h:WrI G W c l) (hb:W.cell? ⟨c,0,none⟩=some bv) (hx:RBytes S W x m) (hl:l.length+m.length≤1099511627776) (h8:∀ z,bv.ownBlock=some z→M8 z) (h11:M11 c)
  (hK:∀ W',WrI G W' c (l++m)→Mod G W W'→K W') :
  runK Tryz.prog (Builtin.append_ #[70,70] 70 [bv,x].toArray) (fun t w=>Mod M8 W w∧nilckK (.pointer (some ⟨c,0,none⟩)) fun p=>faK 0 p fun q=>st1K q t (fun w'=>Mod M11 w w'∧K w') w) W:=by
 obtain ⟨bv',h1,h2,h3⟩:=h.ex
 obtain rfl:bv=bv':=Option.some.inj (hb.symm.trans h1)
 obtain ⟨v',w',r1,r2,r3,r4⟩:=OwnR.append (ty:=70) elem_byte h2 hx (fun _ _=>RByte.one) (by omega) (Nat.zero_le _) (by simp only [maxLen];omega) fun _ _ _ _ h=>h
 have m1:=Mod.of_grownBy r3
 have hlt:=h.lt
 have ncb:¬ bv.ownBlock=some c:=fun e=>(h3 c e).2 rfl
 refine runK_i r1 ⟨m1.mono fun z _ e=>h8 z e,nilckK_s ?_⟩
 rw [faK_i,addr0]
 have one:=OwnR.one r2
 refine (h.live.mod m1 ncb).st one.1 one.2 ⟨Mod.setCell _ _ _ h11,hK _ ⟨⟨v',World.cell?_setCell_same _ _ _ (m1.cell h1 ncb),OwnR.mod r2 (Mod.setCell (M:=fun z=>z=c) w' ⟨c,0,none⟩ v' rfl) (fun g hg e=>?_) fun _ _ _ h=>h,fun g hg=>?_⟩,(h.live.mod m1 ncb).set _ _,h.gc,fun z hz=>h.gn z ?_⟩ ((m1.mono fun z _ e=>(h3 z e).1).trans (Mod.setCell _ _ _ h.gc))⟩
 ·rcases r4 g hg with e' | e'
  ·exact (h3 g e').2 e
  ·omega
 ·rcases r4 g hg with e' | e'
  ·exact h3 g e'
  ·exact ⟨h.gn g e',by omega⟩
 ·have:=m1.size
  simp only [World.size_setCell] at hz
  omega
theorem wvalue_ok {v:AVal} (h:WrI G W c l) (hv:RepV v) (hl:l.length+v.s.size+100≤1099511627776) :
  callK Tryz.prog 158 [.pointer (some ⟨c,0,none⟩),.agg v.cells.toArray] (fun _ w'=>WrI G w' c (l++encV v)∧Mod G W w') W:=by
 apply S158_ok
 unfold S158
 have hk:=hv.kind
 refine boxn_i fun b w1 hb hz g hc _=>?_
 have h1:=h.narrow g
 have nb:¬ (G b∧¬ (W.heap.size≤b∧b < w1.heap.size)):=fun e=>e.2 ⟨by omega,by omega⟩
 have fin:∀ w' X,WrI (fun z=>G z∧¬ (W.heap.size≤z∧z < w1.heap.size)) w' c (l++X)→Mod (fun z=>G z∧¬ (W.heap.size≤z∧z < w1.heap.size)) w1 w'→X=encV v→WrI G w' c (l++encV v)∧Mod G W w':=fun w' X hX hm e=>by
  subst e
  exact ⟨hX.widen fun z hz=>hz.1,(g.mono fun _ _ e=>e.elim).trans (hm.mono fun z _ e=>e.1)⟩
 obtain ⟨k,hkk⟩:∃ k:Nat,v.kind=k:=⟨v.kind.toNat,by omega⟩
 have c0:=hc 0 _ rfl
 have c1:=hc 1 _ rfl
 have c2:=hc 2 _ rfl
 have c3:=hc 3 _ rfl
 rw [faK_i]
 refine ld1K_i c0 ?_
 rw [hkk]
 refine conv8_64 (by omega) ?_
 have eV:encV v=uv k++encW v:=by rw [encV_eq,hkk];rfl
 have hul:(uv k).length≤10:=(uvB_len 9 k).2
 refine callK_mono (wuint_ok h1 (by omega) (by omega)) ?_
 rintro _ w2 ⟨h2,m2⟩
 have ll:(l++uv k).length=l.length+(uv k).length:=List.length_append
 rw [faK_i]
 refine ld1K_i (m2.cell c0 nb) ?_
 rw [hkk]
 refine JoinK_i (fun vs W'=>W'=w2∧(v.kind=1∨v.kind=2)) ?_ ?_
 ·rintro _ _ ⟨rfl,hk12⟩ _
  rename World=>w2
  obtain ⟨bv,hbv,_,hbg⟩:=h2.ex
  have gd:Grow w2 w2.drew:=Mod.drew _ _
  have hn:-9223372036854775808≤v.n∧v.n≤9223372036854775807:=by
   rcases hv with ⟨_,h,_⟩ | ⟨h,_⟩ | ⟨h,_⟩
   ·exact h
   ·omega
   ·omega
  refine drawC_i (fun k z=>(k=8∧bv.ownBlock=some z)∨(k=11∧z=c)) ?_
  refine nilckK_s ?_
  rw [faK_i,addr0]
  refine sld1_i ⟨gd.cell hbv fun h=>h,fun j hj e=>by rcases e with ⟨rfl,_⟩ | ⟨rfl,_⟩ <;> exact absurd hj (by decide)⟩ ?_
  rw [faK_i]
  refine sld1_i ⟨gd.cell (m2.cell c1 nb) fun h=>h,fun j hj e=>by rcases e with ⟨rfl,e⟩ | ⟨rfl,e⟩ <;> first | exact absurd hj (by decide) | skip⟩ ?_
  refine callK_mono (aint_ok (S:=fun _=>True) (l:=[]) SlR.nil (by simp) hn.1 hn.2) ?_
  rintro v7 w7 ⟨o7,g7⟩
  refine ⟨g7.mono fun _ _ e=>e.elim,?_⟩
  have h7:=(h2.grow gd).grow g7
  rw [List.nil_append] at o7
  have hzl:(uv (zigN v.n)).length≤10:=(uvB_len 9 _).2
  refine h7.app2 (bv:=bv) (g7.cell (gd.cell hbv fun h=>h) fun h=>h) (OwnR.sl o7) (by omega) (fun z e=>.inl ⟨rfl,e⟩) (.inr ⟨rfl,rfl⟩) fun W' h' m'=>?_
  refine fin W' (uv k++uv (zigN v.n)) (by rw [←List.append_assoc];exact h') (m2.trans (((gd.trans g7).mono fun _ _ e=>e.elim).trans m')) ?_
  rw [eV];unfold encW;rw [if_pos hk12]
 ·rw [eqK_i]
  refine condK_p (fun e=>⟨rfl,.inl (by omega)⟩) fun n1=>?_
  rw [eqK_i]
  refine condK_p (fun e=>⟨rfl,.inr (by omega)⟩) fun n2=>?_
  rw [eqK_i]
  refine condK_p (fun e=>?_) fun n3=>?_
  ·rw [faK_i]
   refine ld1K_i (m2.cell c2 nb) ?_
   have hf:0≤v.f∧v.f < 18446744073709551616:=by
    rcases hv with ⟨h,_⟩ | ⟨_,_,h,_⟩ | ⟨h,_⟩
    ·omega
    ·exact h
    ·omega
   have ef:v.f=((v.f.toNat:Nat):Int):=by omega
   rw [ef]
   refine callK_mono (wuint_ok h2 (by omega) (by omega)) ?_
   rintro _ w3 ⟨h3,m3⟩
   refine fin w3 (uv k++uv v.f.toNat) (by rw [←List.append_assoc];exact h3) (m2.trans m3) ?_
   rw [eV];unfold encW;rw [if_neg (by omega),if_pos (by omega)]
  ·rw [eqK_i]
   refine condK_p (fun e=>?_) fun n4=>by omega
   rw [faK_i]
   refine ld1K_i (m2.cell c3 nb) ?_
   refine strbytes' (by omega) fun v4 w4 g4 hb4=>?_
   have h4:=h2.narrow g4
   refine callK_mono (wbytes_ok h4 hb4 (fun z hz e=>e.2 hz) (by rw [bytesL_len];omega)) ?_
   rintro _ w5 ⟨h5,m5⟩
   refine fin w5 (uv k++encX (bytesL v.s)) (by rw [←List.append_assoc];exact h5.widen fun z hz=>hz.1) (m2.trans ((g4.mono fun _ _ e=>e.elim).trans (m5.mono fun z _ e=>e.1))) ?_
   rw [eV];unfold encW encX;rw [if_neg (by omega),if_neg (by omega),if_pos (by omega),bytesL_len]
theorem encV_len (v:AVal):(encV v).length≤40+v.s.size:=by
 have h1:∀ n,(uv n).length≤10:=fun n=>(uvB_len 9 n).2
 have a:=h1 v.kind.toNat
 have b:=h1 (zigN v.n)
 have d:=h1 v.f.toNat
 have e:=h1 v.s.size
 unfold encV
 rw [List.length_append]
 split
 ·omega
 ·split
  ·omega
  ·split
   ·rw [List.length_append,bytesL_len];omega
   ·simp;omega
theorem wattr_ok {tb:Nat} {a:Attr} (h:WrI G W c l) (ht:W.cell? ⟨tb,0,none⟩=some (.pointer (some ⟨c,0,none⟩))) (hg:¬ G tb) (ha:RepA a) (hl:l.length+mAttr a+200≤1099511627776) :
  callK Tryz.prog 162 [.agg a.cells.toArray,.pointer (some ⟨tb,0,none⟩)] (fun _ w'=>WrI G w' c (l++encAt a)∧Mod G W w') W:=by
 apply S162_ok
 unfold S162
 refine boxn_i fun b w1 hb hz g hc _=>?_
 have h1:=h.narrow g
 have nb:¬ (G b∧¬ (W.heap.size≤b∧b < w1.heap.size)):=fun e=>e.2 ⟨by omega,by omega⟩
 have nt:¬ (G tb∧¬ (W.heap.size≤tb∧tb < w1.heap.size)):=fun e=>hg e.1
 have t1:=g.cell ht fun h=>h
 refine ld1K_i t1 ?_
 rw [faK_i]
 refine ld1K_i (hc 0 _ rfl) ?_
 have hk:=ha.1
 unfold Key63 at hk
 obtain ⟨k,hkk⟩:∃ k:Nat,a.key=k:=⟨a.key.toNat,by omega⟩
 rw [hkk]
 simp only [mAttr] at hl
 refine conv_64 (by omega) ?_
 have hul:(uv k).length≤10:=(uvB_len 9 k).2
 refine callK_mono (wuint_ok h1 (by omega) (by omega)) ?_
 rintro _ w2 ⟨h2,m2⟩
 refine ld1K_i (m2.cell t1 nt) ?_
 rw [faK_i]
 refine ldnK_i (vs:=a.val.cells) rfl (fun j u hu=>by rw [Addr.add_add];exact m2.cell (hc (1+j) u (by rw [Nat.add_comm];exact hu)) (by rw [addr0];exact nb)) ?_
 refine callK_mono (wvalue_ok h2 ha.2 (by rw [List.length_append];omega)) ?_
 rintro _ w3 ⟨h3,m3⟩
 refine ⟨?_,(g.mono fun _ _ e=>e.elim).trans ((m2.trans m3).mono fun z _ e=>e.1)⟩
 have e:l++encAt a=l++uv k++encV a.val:=by unfold encAt;rw [hkk,←List.append_assoc];rfl
 rw [e]
 exact h3.widen fun z hz=>hz.1
theorem wchg_ok {tb:Nat} {a:Chg} (h:WrI G W c l) (ht:W.cell? ⟨tb,0,none⟩=some (.pointer (some ⟨c,0,none⟩))) (hg:¬ G tb) (ha:RepC a) (hl:l.length+mChg a+200≤1099511627776) :
  callK Tryz.prog 157 [.agg a.cells.toArray,.pointer (some ⟨tb,0,none⟩)] (fun _ w'=>WrI G w' c (l++encCh a)∧Mod G W w') W:=by
 apply S157_ok
 unfold S157
 refine boxn_i fun b w1 hb hz g hc _=>?_
 have h1:=h.narrow g
 have nb:¬ (G b∧¬ (W.heap.size≤b∧b < w1.heap.size)):=fun e=>e.2 ⟨by omega,by omega⟩
 have nt:¬ (G tb∧¬ (W.heap.size≤tb∧tb < w1.heap.size)):=fun e=>hg e.1
 have t1:=g.cell ht fun h=>h
 refine ld1K_i t1 ?_
 rw [faK_i]
 refine ld1K_i (hc 0 _ rfl) ?_
 have hk:=ha.1
 unfold Key63 at hk
 obtain ⟨k,hkk⟩:∃ k:Nat,a.key=k:=⟨a.key.toNat,by omega⟩
 rw [hkk]
 simp only [mChg] at hl
 refine conv_64 (by omega) ?_
 have hul:(uv k).length≤10:=(uvB_len 9 k).2
 refine callK_mono (wuint_ok h1 (by omega) (by omega)) ?_
 rintro _ w2 ⟨h2,m2⟩
 have fin:∀ w' X,WrI (fun z=>G z∧¬ (W.heap.size≤z∧z < w1.heap.size)) w' c (l++uv k++X)→Mod (fun z=>G z∧¬ (W.heap.size≤z∧z < w1.heap.size)) w2 w'→X=(if a.gone then uv 0 else encV a.val)→WrI G w' c (l++encCh a)∧Mod G W w':=fun w' X hX hm e=>by
  subst e
  have e:l++encCh a=l++uv k++(if a.gone then uv 0 else encV a.val):=by unfold encCh;rw [hkk,←List.append_assoc];rfl
  rw [e]
  exact ⟨hX.widen fun z hz=>hz.1,(g.mono fun _ _ e=>e.elim).trans ((m2.trans hm).mono fun z _ e=>e.1)⟩
 rw [faK_i]
 refine ld1K_i (m2.cell (hc 1 _ rfl) nb) ?_
 refine condK_bb (fun hg1=>?_) fun hg1=>?_
 ·refine ld1K_i (m2.cell t1 nt) ?_
  refine callK_mono (wuint_ok (n:=0) h2 (by rw [List.length_append];omega) (by omega)) ?_
  rintro _ w3 ⟨h3,m3⟩
  exact fin w3 _ h3 m3 (by rw [hg1];rfl)
 ·refine ld1K_i (m2.cell t1 nt) ?_
  rw [faK_i]
  refine ldnK_i (vs:=a.val.cells) rfl (fun j u hu=>by rw [Addr.add_add];exact m2.cell (hc (2+j) u (by rw [Nat.add_comm];exact hu)) (by rw [addr0];exact nb)) ?_
  have hv:RepV a.val:=by
   rcases ha.2 with ⟨h,_⟩ | ⟨_,h⟩
   ·rw [h] at hg1;cases hg1
   ·exact h
  refine callK_mono (wvalue_ok h2 hv (by rw [List.length_append];omega)) ?_
  rintro _ w3 ⟨h3,m3⟩
  exact fin w3 _ h3 m3 (by rw [hg1];rfl)
end
end Go.Proofs.YtlbaopamhkmepaaGreatDoor

namespace Go.Proofs.YtlbaopamhkmepaaGreatDoor
open Go Go.K

abbrev RApart (E:Nat→Prop) (ov:Value):World→List Value→Dop→Prop:=RDop fun b=>ov.ownBlock≠some b∧E b
theorem apart_push {E:Nat→Prop} {B:Nat} {w0 w':World} {ov ov':Value} {l':List Dop} (h:OwnR B 39 5 (RDop fun b=>b < w0.heap.size∧ov.ownBlock≠some b∧E b) w' ov' l') (hs:∀ g,ov'.ownBlock=some g→ov.ownBlock=some g∨w0.heap.size≤g) :
  OwnR B 39 5 (RApart E ov') w' ov' l':=
 OwnR.mod h (Mod.refl (fun _=>False) _) (fun _ _ h=>h) fun r y _ hy=>RDop.mod hy (Mod.refl (fun _=>False) _) (fun _ _ _ h=>h) fun b hb hd=>⟨fun e=>by
  rcases hs b e with h | h
  ·exact hd.2.1 h
  ·have:=hd.1;omega,hd.2.2⟩

end Go.Proofs.YtlbaopamhkmepaaGreatDoor

namespace Go.K
open Go
theorem slice_lh {α:Type} {P:Program} {t e k:Nat} {i:TypeInfo} {R:World→List Value→α→Prop} {S:Nat→Prop} {w:World} {a:Option Addr} {n c:Nat} {l:List α} {j q:Nat} {K:Cont} (ht:P.underlying t=some (.slice e)) (hi:P.info? e=some i) (hk:i.size=k)
  (h:SlR S k R w (.slice a n c) l) (hjq:j≤q) (hq:q≤l.length) (hK:∀ v',SlR S k R w v' ((l.take q).drop j)→K v' w):runK P (Instr.sliceAt t (.slice a n c) (some (.int .i64 j)) (some (.int .i64 q)) none) K w:=by
 obtain ⟨a',c',e1,h1,h2,h3⟩:=h
 cases e1
 have hel:P.elem t=e:=by simp [Program.elem,ht]
 refine ⟨sliced a j q c k,w,?_,hK _ ?_⟩
 ·rw [run_sliceAt_slice _ _ _ _ _ _ (by rw [hel];exact ht),run_slice_lh _ _ _ _ _ (by rw [hel];exact ht) _ _ _ _ (by omega) (by omega) (by omega),hel]
  simp [sizeOf,typeInfo,hi,hk]
 ·unfold sliced
  have hl:((l.take q).drop j).length=q - j:=by simp;omega
  refine ⟨_,_,by rw [hl],by rw [hl];omega,by omega,fun m x hx=>?_⟩
  rw [List.getElem?_drop,List.getElem?_take] at hx
  split at hx
  ·obtain ⟨p,r,rfl,hS,hr,hc,hR⟩:=h3 _ x hx
   rw [if_neg (by omega)]
   refine ⟨p.add (j * k),r,rfl,by rw [add_block];exact hS,hr,fun y u hu=>?_,hR⟩
   rw [Addr.add_add,←Nat.add_assoc,←Nat.add_mul]
   exact hc y u hu
  ·cases hx
end Go.K

namespace Go.Proofs.YtlbaopamhkmepaaGreatDoor
open Go Go.K

theorem run1 {w w':World} {q:Int} {g:Nat} (hc:∀ j v,[Value.int .i32 q][j]?=some v→w'.cell? ((⟨g,0,none⟩:Addr).add j)=some v):RRun (fun _=>True) w' (.slice (some ⟨g,0,none⟩) 1 1) [q]:=by
 refine ⟨_,_,rfl,Nat.le_refl _,by simp [maxLen],fun i x hx=>⟨_,[.int .i32 x],rfl,trivial,rfl,fun j u hu=>?_,rfl⟩⟩
 have hi:i=0:=by have:=(List.getElem?_eq_some_iff.1 hx).1;simp at this;exact this
 subst hi
 simp at hx;subst hx
 rw [Nat.zero_mul,Nat.zero_add];exact hc j u hu
end Go.Proofs.YtlbaopamhkmepaaGreatDoor

namespace Go.Proofs.YtlbaopamhkmepaaGreatDoor
open Go Go.K

theorem normB_mm (x:List Dop):mDops (normB x)≤2 * mDops x+1:=by
 have h1:=runS_m x
 have h2:=gapL_m (runS x).ins (runS x).gone
 have h3:=mDops_sub (l:=(runS x).done++gapL (runS x).ins (runS x).gone)
 rw [mDops_app] at h3
 unfold normB opsS
 omega
end Go.Proofs.YtlbaopamhkmepaaGreatDoor

namespace Go.Proofs.YtlbaopamhkmepaaGreatDoor
open Go Go.K
theorem add_block (p:Addr) (n:Nat):(p.add n).block=p.block:=by unfold Addr.add;split <;> rfl
theorem box1_i {t:TypeId} {x:Value} {K:Cont} {w:World} (hx:x.cells=#[x]) (h:∀ b w1,b=w.heap.size→w1.heap.size=w.heap.size+1→Grow w w1→w1.cell? ⟨b,0,none⟩=some x→Live w1 ⟨b,0,none⟩→K (.pointer (some ⟨b,0,none⟩)) w1):box1K t x K w:=by
 refine ⟨hx,?_⟩
 obtain ⟨vs',e,h2⟩:=boxn_i (t:=t) (vs:=[x]) (K:=K) (w:=w) fun b w1 h1 h2 h3 h4 h5=>h b w1 h1 h2 h3 (by have:=h4 0 x rfl;rwa [addr0] at this) (by have:=h5 0 (by simp);rwa [addr0] at this)
 have:vs'=[x]:=by
  have e':=Value.agg.inj e
  simpa using (congrArg Array.toList e').symm
 subst this
 exact h2
section
variable {G G':Nat→Prop} {W W':World} {c:Nat} {l:List Int}
theorem wlist_attr {S:Nat→Prop} {fv xv:Value} {x:List Attr} (h:WrI G W c l) (hx:SlR S 5 RAttr W xv x) (hR:∀ W' r a,Mod G W W'→RAttr W r a→RAttr W' r a) (hS:∀ z,S z→¬ G z) (hl:l.length+20≤1099511627776)
  (hf:∀ i (hi:i < x.length) W' r l',WrI G W' c l'→Mod G W W'→RAttr W' r x[i]→l'.length≤l.length+10+(x.flatMap encAt).length→∀ K:Cont,(∀ v w',WrI G w' c (l'++encAt x[i])∧Mod G W' w'→K v w')→callyK Tryz.prog okf fv [.agg r.toArray] K W') :
  callK Tryz.prog 161 [.pointer (some ⟨c,0,none⟩),xv,fv] (fun _ w'=>WrI G w' c (l++encM encAt x)∧Mod G W w') W:=by
 apply S161_ok
 unfold S161
 obtain ⟨a,cc,rfl,hm⟩:=hx.shape
 simp only [maxLen] at hm
 rw [lenK_i]
 refine conv_64 (by omega) ?_
 refine callK_mono (wuint_ok h hl (by omega)) ?_
 rintro _ w2 ⟨h2,m2⟩
 rw [lenK_i]
 have hul:(uv x.length).length≤10:=(uvB_len 9 x.length).2
 have hfl:∀ i,((x.take i).flatMap encAt).length≤(x.flatMap encAt).length:=fun i=>by
  have e:x.flatMap encAt=(x.take i).flatMap encAt++(x.drop i).flatMap encAt:=by rw [←List.flatMap_append,List.take_append_drop]
  rw [e,List.length_append];omega
 refine LoopK_i (fun vs W1=>∃ i:Nat,i≤x.length∧vs=[.int .i64 i]∧WrI G W1 c (l++(uv x.length++(x.take i).flatMap encAt))∧Mod G W W1) (fun vs _=>x.length - iOf vs 0) ⟨0,Nat.zero_le _,rfl,by simpa using h2,m2⟩ ?_
 rintro vs W1 ⟨i,hi,rfl,h1,m1⟩ _
 simp only [nth_z,List.headD_cons]
 rw [ltK_i]
 refine condK_p (fun hlt=>?_) fun hge=>?_
 ·have hlt':i < x.length:=by omega
  obtain ⟨p,r,rfl,hSp,hr,hc,hRr⟩:=hx.get hlt'
  refine ixK_n hlt' (ldnK_i hr (fun j u hu=>by rw [Addr.add_add];exact m1.cell (hc j u hu) (by rw [add_block];exact hS _ hSp)) ?_)
  refine newst_n hr rfl (RAttr.one (w:=W) hRr) fun b w3 hb hz g3 hc3 _=>?_
  refine ldnK_i hr hc3 ?_
  have m3:Mod G W w3:=m1.trans (g3.mono fun _ _ e=>e.elim)
  refine hf i hlt' w3 r _ (h1.grow g3) m3 (hR _ _ _ m3 hRr) (by have:=hfl i;simp only [List.length_append];omega) _ ?_
  rintro _ w4 ⟨h4,m4⟩
  rw [addK_i,loop_step (by omega)]
  refine ⟨⟨i+1,hlt',rfl,?_,m3.trans m4⟩,by rw [iOf0,iOf0];omega⟩
  have e:l++(uv x.length++(x.take (i+1)).flatMap encAt)=l++(uv x.length++(x.take i).flatMap encAt)++encAt x[i]:=by
   rw [List.take_add_one,List.getElem?_eq_getElem hlt',List.flatMap_append]
   simp
  rw [e];exact h4
 ·have:i=x.length:=by omega
  subst this
  rw [List.take_length] at h1
  exact ⟨h1,m1⟩
theorem wlist_chg {S:Nat→Prop} {fv xv:Value} {x:List Chg} (h:WrI G W c l) (hx:SlR S 6 RChg W xv x) (hR:∀ W' r a,Mod G W W'→RChg W r a→RChg W' r a) (hS:∀ z,S z→¬ G z) (hl:l.length+20≤1099511627776)
  (hf:∀ i (hi:i < x.length) W' r l',WrI G W' c l'→Mod G W W'→RChg W' r x[i]→l'.length≤l.length+10+(x.flatMap encCh).length→∀ K:Cont,(∀ v w',WrI G w' c (l'++encCh x[i])∧Mod G W' w'→K v w')→callyK Tryz.prog okf fv [.agg r.toArray] K W') :
  callK Tryz.prog 156 [.pointer (some ⟨c,0,none⟩),xv,fv] (fun _ w'=>WrI G w' c (l++encM encCh x)∧Mod G W w') W:=by
 apply S156_ok
 unfold S156
 obtain ⟨a,cc,rfl,hm⟩:=hx.shape
 simp only [maxLen] at hm
 rw [lenK_i]
 refine conv_64 (by omega) ?_
 refine callK_mono (wuint_ok h hl (by omega)) ?_
 rintro _ w2 ⟨h2,m2⟩
 rw [lenK_i]
 have hul:(uv x.length).length≤10:=(uvB_len 9 x.length).2
 have hfl:∀ i,((x.take i).flatMap encCh).length≤(x.flatMap encCh).length:=fun i=>by
  have e:x.flatMap encCh=(x.take i).flatMap encCh++(x.drop i).flatMap encCh:=by rw [←List.flatMap_append,List.take_append_drop]
  rw [e,List.length_append];omega
 refine LoopK_i (fun vs W1=>∃ i:Nat,i≤x.length∧vs=[.int .i64 i]∧WrI G W1 c (l++(uv x.length++(x.take i).flatMap encCh))∧Mod G W W1) (fun vs _=>x.length - iOf vs 0) ⟨0,Nat.zero_le _,rfl,by simpa using h2,m2⟩ ?_
 rintro vs W1 ⟨i,hi,rfl,h1,m1⟩ _
 simp only [nth_z,List.headD_cons]
 rw [ltK_i]
 refine condK_p (fun hlt=>?_) fun hge=>?_
 ·have hlt':i < x.length:=by omega
  obtain ⟨p,r,rfl,hSp,hr,hc,hRr⟩:=hx.get hlt'
  refine ixK_n hlt' (ldnK_i hr (fun j u hu=>by rw [Addr.add_add];exact m1.cell (hc j u hu) (by rw [add_block];exact hS _ hSp)) ?_)
  refine newst_n hr rfl (RChg.one (w:=W) hRr) fun b w3 hb hz g3 hc3 _=>?_
  refine ldnK_i hr hc3 ?_
  have m3:Mod G W w3:=m1.trans (g3.mono fun _ _ e=>e.elim)
  refine hf i hlt' w3 r _ (h1.grow g3) m3 (hR _ _ _ m3 hRr) (by have:=hfl i;simp only [List.length_append];omega) _ ?_
  rintro _ w4 ⟨h4,m4⟩
  rw [addK_i,loop_step (by omega)]
  refine ⟨⟨i+1,hlt',rfl,?_,m3.trans m4⟩,by rw [iOf0,iOf0];omega⟩
  have e:l++(uv x.length++(x.take (i+1)).flatMap encCh)=l++(uv x.length++(x.take i).flatMap encCh)++encCh x[i]:=by
   rw [List.take_add_one,List.getElem?_eq_getElem hlt',List.flatMap_append]
   simp
  rw [e];exact h4
 ·have:i=x.length:=by omega
  subst this
  rw [List.take_length] at h1
  exact ⟨h1,m1⟩
theorem wlist_op {S D:Nat→Prop} {fv xv:Value} {x:List Dop} (h:WrI G W c l) (hx:SlR S 5 (RDop D) W xv x) (hR:∀ W' r a,Mod G W W'→(RDop D) W r a→(RDop D) W' r a) (hS:∀ z,S z→¬ G z) (hl:l.length+20≤1099511627776)
  (hf:∀ i (hi:i < x.length) W' r l',WrI G W' c l'→Mod G W W'→(RDop D) W' r x[i]→l'.length≤l.length+10+(x.flatMap encOp).length→∀ K:Cont,(∀ v w',WrI G w' c (l'++encOp x[i])∧Mod G W' w'→K v w')→callyK Tryz.prog okf fv [.agg r.toArray] K W') :
  callK Tryz.prog 60 [.pointer (some ⟨c,0,none⟩),xv,fv] (fun _ w'=>WrI G w' c (l++encM encOp x)∧Mod G W w') W:=by
 apply S60_ok
 unfold S60
 obtain ⟨a,cc,rfl,hm⟩:=hx.shape
 simp only [maxLen] at hm
 rw [lenK_i]
 refine conv_64 (by omega) ?_
 refine callK_mono (wuint_ok h hl (by omega)) ?_
 rintro _ w2 ⟨h2,m2⟩
 rw [lenK_i]
 have hul:(uv x.length).length≤10:=(uvB_len 9 x.length).2
 have hfl:∀ i,((x.take i).flatMap encOp).length≤(x.flatMap encOp).length:=fun i=>by
  have e:x.flatMap encOp=(x.take i).flatMap encOp++(x.drop i).flatMap encOp:=by rw [←List.flatMap_append,List.take_append_drop]
  rw [e,List.length_append];omega
 refine LoopK_i (fun vs W1=>∃ i:Nat,i≤x.length∧vs=[.int .i64 i]∧WrI G W1 c (l++(uv x.length++(x.take i).flatMap encOp))∧Mod G W W1) (fun vs _=>x.length - iOf vs 0) ⟨0,Nat.zero_le _,rfl,by simpa using h2,m2⟩ ?_
 rintro vs W1 ⟨i,hi,rfl,h1,m1⟩ _
 simp only [nth_z,List.headD_cons]
 rw [ltK_i]
 refine condK_p (fun hlt=>?_) fun hge=>?_
 ·have hlt':i < x.length:=by omega
  obtain ⟨p,r,rfl,hSp,hr,hc,hRr⟩:=hx.get hlt'
  refine ixK_n hlt' (ldnK_i hr (fun j u hu=>by rw [Addr.add_add];exact m1.cell (hc j u hu) (by rw [add_block];exact hS _ hSp)) ?_)
  refine newst_n hr rfl (RDop.one hRr) fun b w3 hb hz g3 hc3 _=>?_
  refine ldnK_i hr hc3 ?_
  have m3:Mod G W w3:=m1.trans (g3.mono fun _ _ e=>e.elim)
  refine hf i hlt' w3 r _ (h1.grow g3) m3 (hR _ _ _ m3 hRr) (by have:=hfl i;simp only [List.length_append];omega) _ ?_
  rintro _ w4 ⟨h4,m4⟩
  rw [addK_i,loop_step (by omega)]
  refine ⟨⟨i+1,hlt',rfl,?_,m3.trans m4⟩,by rw [iOf0,iOf0];omega⟩
  have e:l++(uv x.length++(x.take (i+1)).flatMap encOp)=l++(uv x.length++(x.take i).flatMap encOp)++encOp x[i]:=by
   rw [List.take_add_one,List.getElem?_eq_getElem hlt',List.flatMap_append]
   simp
  rw [e];exact h4
 ·have:i=x.length:=by omega
  subst this
  rw [List.take_length] at h1
  exact ⟨h1,m1⟩
theorem flat_sum {α:Type} {f:α→List Int} {m:α→Nat} {k:Nat} (h:∀ a,(f a).length≤k * m a):∀ l:List α,(l.flatMap f).length≤k * (l.map m).sum:=by
 intro l
 induction l with
 | nil=>simp
 | cons a l ih=>have:=h a;simp only [List.flatMap_cons,List.length_append,List.map_cons,List.sum_cons,Nat.mul_add];omega
theorem encAt_len (a:Attr):(encAt a).length≤60 * mAttr a:=by
 have h1:(uv a.key.toNat).length≤10:=(uvB_len 9 _).2
 have:=encV_len a.val
 unfold encAt mAttr
 rw [List.length_append];omega
theorem encCh_len (a:Chg):(encCh a).length≤60 * mChg a:=by
 have h1:∀ n,(uv n).length≤10:=fun n=>(uvB_len 9 n).2
 have h2:=h1 a.key.toNat
 have h3:=h1 0
 have:=encV_len a.val
 unfold encCh mChg
 rw [List.length_append]
 split <;> omega
theorem encOp_len (o:Dop):(encOp o).length≤60 * mDop o:=by
 have h1:∀ n,(uv n).length≤10:=fun n=>(uvB_len 9 n).2
 have a:=h1 o.kind.toNat
 have b:=h1 o.n.toNat
 have d:=h1 o.patch.length
 have e:=h1 (textR o.runes).length
 have e':=h1 o.set.length
 have f:=textR_len o.runes
 have g:=flat_sum encCh_len o.patch
 have g':=flat_sum encAt_len o.set
 unfold encOp encM encX mDop mSet mPat
 rw [List.length_append]
 split
 ·simp only [List.length_append];omega
 ·split
  ·simp only [List.length_append];omega
  ·split
   ·omega
   ·simp;omega
theorem encL_len (x:List Dop):(encL x).length≤10+60 * mDops x:=by
 have h1:(uv x.length).length≤10:=(uvB_len 9 _).2
 have:=flat_sum encOp_len x
 unfold encL encM mDops
 rw [List.length_append];omega
theorem wset_ok {S:Nat→Prop} {xv:Value} {x:List Attr} (h:WrI G W c l) (hx:RSet S W xv x) (hS:∀ z,S z→¬ G z) (ha:∀ a ∈ x,RepA a) (hl:l.length+61 * mSet x+300≤1099511627776) :
  callK Tryz.prog 100 [.pointer (some ⟨c,0,none⟩),xv] (fun _ w'=>WrI G w' c (l++encM encAt x)∧Mod G W w') W:=by
 apply S100_ok
 unfold S100
 refine box1_i rfl fun b w1 hb hz g hc _=>?_
 refine ld1K_i hc ?_
 have h1:=h.narrow g
 have nb:¬ (G b∧¬ (W.heap.size≤b∧b < w1.heap.size)):=fun e=>e.2 ⟨by omega,by omega⟩
 have hfs:=flat_sum encAt_len x
 have hm:(x.map mAttr).sum=mSet x:=rfl
 rw [hm] at hfs
 refine callK_mono (wlist_attr h1 (hx.grow g (by decide) fun _ _ h=>h) (fun _ _ _ _ h=>h) (fun z hz e=>hS z hz e.1) (by omega) fun i hi W' r l' hw m hr hl' K hK=>?_) ?_
 ·have hr':r=x[i].cells:=hr
  subst hr'
  have hma:=mSet_mem (List.getElem_mem hi)
  exact callyK_g (bs:=[]) (cs:=[_]) (by kernel_rfl) (callK_mono (wattr_ok hw (m.cell hc nb) nb (ha _ (List.getElem_mem hi)) (by unfold mAttr;omega)) hK)
 ·rintro _ w2 ⟨h2,m2⟩
  exact ⟨h2.widen fun z hz=>hz.1,(g.mono fun _ _ e=>e.elim).trans (m2.mono fun z _ e=>e.1)⟩
theorem wpatch_ok {S:Nat→Prop} {xv:Value} {x:List Chg} (h:WrI G W c l) (hx:RPat S W xv x) (hS:∀ z,S z→¬ G z) (ha:∀ a ∈ x,RepC a) (hl:l.length+61 * mPat x+300≤1099511627776) :
  callK Tryz.prog 97 [.pointer (some ⟨c,0,none⟩),xv] (fun _ w'=>WrI G w' c (l++encM encCh x)∧Mod G W w') W:=by
 apply S97_ok
 unfold S97
 refine box1_i rfl fun b w1 hb hz g hc _=>?_
 refine ld1K_i hc ?_
 have h1:=h.narrow g
 have nb:¬ (G b∧¬ (W.heap.size≤b∧b < w1.heap.size)):=fun e=>e.2 ⟨by omega,by omega⟩
 have hfs:=flat_sum encCh_len x
 have hm:(x.map mChg).sum=mPat x:=rfl
 rw [hm] at hfs
 refine callK_mono (wlist_chg h1 (hx.grow g (by decide) fun _ _ h=>h) (fun _ _ _ _ h=>h) (fun z hz e=>hS z hz e.1) (by omega) fun i hi W' r l' hw m hr hl' K hK=>?_) ?_
 ·have hr':r=x[i].cells:=hr
  subst hr'
  have hma:=mPat_mem (List.getElem_mem hi)
  exact callyK_g (bs:=[]) (cs:=[_]) (by kernel_rfl) (callK_mono (wchg_ok hw (m.cell hc nb) nb (ha _ (List.getElem_mem hi)) (by unfold mChg;omega)) hK)
 ·rintro _ w2 ⟨h2,m2⟩
  exact ⟨h2.widen fun z hz=>hz.1,(g.mono fun _ _ e=>e.elim).trans (m2.mono fun z _ e=>e.1)⟩
theorem wop_ok {D:Nat→Prop} {r:List Value} {o:Dop} (h:WrI G W c l) (hr:RDop D W r o) (hD:∀ z,D z→¬ G z) (ho:RepO o) (hl:l.length+61 * mDop o+400≤1099511627776) :
  callK Tryz.prog 61 [.pointer (some ⟨c,0,none⟩),.agg r.toArray] (fun _ w'=>WrI G w' c (l++encOp o)∧Mod G W w') W:=by
 apply S61_ok
 unfold S61
 obtain ⟨rv,sv,pv,rfl,r1,r2,r3⟩:=hr
 have hk:=RepO.kind ho
 refine boxn_i fun b w1 hb hz g hc _=>?_
 have h1:=h.narrow g
 have nb:¬ (G b∧¬ (W.heap.size≤b∧b < w1.heap.size)):=fun e=>e.2 ⟨by omega,by omega⟩
 have fin:∀ w' X,WrI (fun z=>G z∧¬ (W.heap.size≤z∧z < w1.heap.size)) w' c (l++X)→Mod (fun z=>G z∧¬ (W.heap.size≤z∧z < w1.heap.size)) w1 w'→X=encOp o→WrI G w' c (l++encOp o)∧Mod G W w':=fun w' X hX hm e=>by
  subst e
  exact ⟨hX.widen fun z hz=>hz.1,(g.mono fun _ _ e=>e.elim).trans (hm.mono fun z _ e=>e.1)⟩
 have hD1:∀ z,D z→¬ (G z∧¬ (W.heap.size≤z∧z < w1.heap.size)):=fun z hz e=>hD z hz e.1
 obtain ⟨k,hkk⟩:∃ k:Nat,o.kind=k:=⟨o.kind.toNat,by omega⟩
 have c0:=hc 0 _ rfl
 have c1:=hc 1 _ rfl
 have c2:=hc 2 _ rfl
 have c3:=hc 3 _ rfl
 have c4:=hc 4 _ rfl
 rw [hkk] at c0
 rw [faK_i]
 refine ld1K_i c0 ?_
 refine conv8_64 (by omega) ?_
 have eV:encOp o=uv k++encU o:=by rw [encOp_eq,hkk];rfl
 have hul:(uv k).length≤10:=(uvB_len 9 k).2
 simp only [mDop] at hl
 refine callK_mono (wuint_ok h1 (by omega) (by omega)) ?_
 rintro _ w2 ⟨h2,m2⟩
 have ll:(l++uv k).length=l.length+(uv k).length:=List.length_append
 rw [faK_i]
 refine ld1K_i (m2.cell c0 nb) ?_
 rw [eqK_i]
 refine condK_p (fun e=>?_) fun n1=>?_
 ·rcases ho with ⟨_,hn,_,_,hp⟩ | ⟨e',_⟩ | ⟨e',_⟩
  rotate_left
  ·omega
  ·omega
  have en:o.n=((o.n.toNat:Nat):Int):=by omega
  rw [faK_i]
  refine ld1K_i (m2.cell c1 nb) ?_
  rw [en]
  refine conv_64 (by omega) ?_
  have hul2:(uv o.n.toNat).length≤10:=(uvB_len 9 _).2
  refine callK_mono (wuint_ok h2 (by omega) (by omega)) ?_
  rintro _ w3 ⟨h3,m3⟩
  have m23:=m2.trans m3
  rw [faK_i]
  refine ld1K_i (m23.cell c4 nb) ?_
  refine callK_mono (wpatch_ok h3 (SlR.mono r3 (fun _ _ h=>h) (fun z hz hd=>((g.mono fun _ _ e=>e.elim).trans m23).same z hz (hD1 z hd)) (by decide) fun _ _ h=>h) hD1 hp.2 (by simp only [List.length_append];omega)) ?_
  rintro _ w4 ⟨h4,m4⟩
  refine fin w4 (uv k++(uv o.n.toNat++encM encCh o.patch)) (by simpa only [List.append_assoc] using h4) (m23.trans m4) ?_
  rw [eV];unfold encU;rw [if_pos (by omega)]
 rw [eqK_i]
 refine condK_p (fun e=>?_) fun n2=>?_
 ·rcases ho with ⟨e',_⟩ | ⟨_,_,hM,ht,hs,_⟩ | ⟨e',_⟩
  ·omega
  rotate_left
  ·omega
  rw [faK_i]
  refine ld1K_i (m2.cell c2 nb) ?_
  refine callK_mono (rbytes_ok (SlR.mono r1 (fun _ _ h=>h) (fun z hz hd=>((g.mono fun _ _ e=>e.elim).trans m2).same z hz (hD1 z hd)) (by decide) fun _ _ h=>h) hM (by omega)) ?_
  rintro _ w3 ⟨g3,bv,rfl,ob⟩
  refine extK_i (vs:=[_,_]) rfl (extK_i (vs:=[_,_]) rfl ?_)
  have h3:=h2.narrow g3
  have hb3:RBytes (fun z=>w2.heap.size≤z∧z < w3.heap.size) w3 bv (textR o.runes):=SlR.sub (OwnR.sl ob) (fun z hz h=>⟨h.1,hz⟩) (by decide) fun _ _ h=>h
  have htl:=textR_len o.runes
  refine callK_mono (wbytes_ok h3 hb3 (fun z hz e=>e.2 hz) (by omega)) ?_
  rintro _ w4 ⟨h4,m4⟩
  have m24:=m2.trans ((g3.mono fun _ _ e=>e.elim).trans (m4.mono fun z _ e=>e.1))
  rw [faK_i]
  refine ld1K_i (m24.cell c3 nb) ?_
  have hxl:(encX (textR o.runes)).length≤10+o.runes.length * 4:=by
   have:(uv (textR o.runes).length).length≤10:=(uvB_len 9 _).2
   unfold encX;rw [List.length_append];omega
  have h4':=h4.widen (G:=fun z=>G z∧¬ (W.heap.size≤z∧z < w1.heap.size)) fun z hz=>hz.1
  refine callK_mono (wset_ok h4' (SlR.mono r2 (fun _ _ h=>h) (fun z hz hd=>((g.mono fun _ _ e=>e.elim).trans m24).same z hz (hD1 z hd)) (by decide) fun _ _ h=>h) hD1 hs.2 (by simp only [List.length_append];omega)) ?_
  rintro _ w5 ⟨h5,m5⟩
  refine fin w5 (uv k++(encX (textR o.runes)++encM encAt o.set)) (by simpa only [List.append_assoc] using h5) (m24.trans m5) ?_
  rw [eV];unfold encU;rw [if_neg (by omega),if_pos (by omega)]
 rw [eqK_i]
 refine condK_p (fun e=>?_) fun n3=>by omega
 rcases ho with ⟨e',_⟩ | ⟨e',_⟩ | ⟨_,hn,_⟩
 ·omega
 ·omega
 have en:o.n=((o.n.toNat:Nat):Int):=by omega
 rw [faK_i]
 refine ld1K_i (m2.cell c1 nb) ?_
 rw [en]
 refine conv_64 (by omega) ?_
 refine callK_mono (wuint_ok h2 (by omega) (by omega)) ?_
 rintro _ w3 ⟨h3,m3⟩
 refine fin w3 (uv k++uv o.n.toNat) (by simpa only [List.append_assoc] using h3) (m2.trans m3) ?_
 rw [eV];unfold encU;rw [if_neg (by omega),if_neg (by omega),if_pos (by omega)]
end
end Go.Proofs.YtlbaopamhkmepaaGreatDoor

namespace Go.Proofs.YtlbaopamhkmepaaGreatDoor
open Go Go.K

theorem or_add {n m i:Nat} (h:n < 2 ^ i):n ||| (m * 2 ^ i)=n+m * 2 ^ i:=by
 rw [Nat.or_comm,←Nat.shiftLeft_eq,←Nat.shiftLeft_add_eq_or_of_lt h];omega
theorem run_ob64 {t:TypeId} {xo yo:Operand} {a b:Nat} (w:World) (ha:a < 18446744073709551616) (hb:b < 18446744073709551616):(binS .or t xo yo (.int .u64 a) (.int .u64 b)).run Tryz.prog w=.ok (.int .u64 ((a ||| b:Nat):Int)) w∧(binS .and t xo yo (.int .u64 a) (.int .u64 b)).run Tryz.prog w=.ok (.int .u64 ((a &&& b:Nat):Int)) w:=by
 have e64:∀ x:Nat,x < 18446744073709551616→(BitVec.ofInt 64 (x:Int)).toNat=x:=fun x hx=>by
  rw [BitVec.ofInt_natCast,BitVec.toNat_ofNat];exact Nat.mod_eq_of_lt (by omega)
 constructor
 ·rw [(run_bits w).1]
  show Result.ok (Value.int .u64 (IntKind.u64.wrap ((BitVec.ofInt 64 (a:Int) ||| BitVec.ofInt 64 (b:Int)).toNat:Int))) w=_
  have:=Nat.or_lt_two_pow (n:=64) ha hb
  rw [BitVec.toNat_or,e64 a ha,e64 b hb,wrapu64 ⟨by omega,by omega⟩]
 ·rw [(run_bits w).2]
  show Result.ok (Value.int .u64 (IntKind.u64.wrap ((BitVec.ofInt 64 (a:Int) &&& BitVec.ofInt 64 (b:Int)).toNat:Int))) w=_
  have:=Nat.and_le_left (n:=a) (m:=b)
  rw [BitVec.toNat_and,e64 a ha,e64 b hb,wrapu64 ⟨by omega,by omega⟩]
theorem conv8_u64 {x:Int} {K:Cont} {w:World} (h0:0≤x) (h1:x < 256) (h:K (.int .u64 x) w):runK Tryz.prog (convert 5 34 (.int .u8 x)) K w:=by
 refine runK_i (run_conv (k:=.u64) w (by kernel_rfl) (by kernel_rfl)) ?_
 rw [wrapu64 ⟨by omega,by omega⟩];exact h
theorem pow7 (i:Nat):(2:Nat) ^ (7 * i)=128 ^ i:=by rw [Nat.pow_mul]
theorem dig_i {n x i:Nat} {t t':TypeId} {xo yo xo' yo':Operand} {K:Cont} {w:World} (hi:i≤9) (hn:n < 128 ^ i) (hx:x < 128) (h9:i=9→x≤1) (h:K (.int .u64 ((n+128 ^ i * x:Nat):Int)) w) :
  runK Tryz.prog (binS .shl t xo yo (.int .u64 x) (.int .i64 ((7 * i:Nat):Int))) (fun t49 w7=>runK Tryz.prog (binS .or t' xo' yo' (.int .u64 n) t49) K w7) w:=by
 refine runK_i (run_shl (n:=7 * i) w (by show 7 * i≤64;omega)) ?_
 have hp:128 ^ i * x < 18446744073709551616:=by
  have e8:(128:Nat) ^ 9=9223372036854775808:=by decide
  by_cases h9':i=9
  ·subst h9';rw [e8];have:=h9 rfl;omega
  ·have hle:128 ^ i≤128 ^ 8:=Nat.pow_le_pow_right (by decide) (by omega)
   have e7:(128:Nat) ^ 8=72057594037927936:=by decide
   have:=Nat.mul_le_mul hle (show x≤127 by omega)
   omega
 have e:(x:Int) * 2 ^ (7 * i)=((x * 2 ^ (7 * i):Nat):Int):=by push_cast;rfl
 rw [e,pow7,Nat.mul_comm,wrapu64 ⟨by omega,by omega⟩]
 have hn':n < 18446744073709551616:=by
  have hle:128 ^ i≤128 ^ 9:=Nat.pow_le_pow_right (by decide) hi
  have e8:(128:Nat) ^ 9=9223372036854775808:=by decide
  omega
 refine runK_i (run_ob64 w hn' hp).1 ?_
 have e2:=or_add (n:=n) (m:=x) (i:=7 * i) (by rw [pow7];exact hn)
 rw [pow7,Nat.mul_comm] at e2
 rw [e2];exact h
set_option maxRecDepth 4000 in
theorem ruint_ok {S:Nat→Prop} {v:Value} {b:List Int} {p:Nat} {w:World} (h:RBytes S w v b) (hb:∀ x ∈ b,0≤x∧x < 256) (hp:p≤b.length) (hl:b.length≤1099511627776) :
  callK Tryz.prog 171 [v,.int .i64 p] (fun v' w'=>w'=w∧((∃ (n:Nat) (t:List Int),v'=.tuple #[.int .u64 n,.int .i64 ((b.length - t.length:Nat):Int),.int .i64 0]∧uvR 9 true (b.drop p)=some (n,t))∨(v'=.tuple #[.int .u64 0,.int .i64 0,.int .i64 3]∧uvR 9 true (b.drop p)=none))) w:=by
 apply S171_ok
 unfold S171
 obtain ⟨a,c,rfl,hm⟩:=h.shape
 refine JoinK_i (fun vs W=>W=w∧vs=[.int .u64 0]) ?_ ?_
 rotate_left
 ·rw [ltK_i]
  refine condK_p (fun e=>by omega) fun _=>?_
  rw [lenK_i,gtK_i]
  refine condK_p (fun e=>by omega) fun _=>⟨rfl,rfl⟩
 rintro _ _ ⟨rfl,rfl⟩ _
 rename World=>w
 refine slice_lo (e:=5) (k:=1) (i:=Tryz.t5) (by kernel_rfl) (by kernel_rfl) rfl h hp fun v2 h2=>?_
 obtain ⟨a2,c2,rfl,hm2⟩:=h2.shape
 have hdl:(b.drop p).length=b.length - p:=List.length_drop
 have hbd:∀ x ∈ b.drop p,0≤x∧x < 256:=fun x hx=>hb x (List.mem_of_mem_drop hx)
 generalize hL:b.drop p=L at h2 hdl hbd
 rw [lenK_i,nth_z,List.headD_cons]
 refine LoopK_i (fun vs W=>∃ i n:Nat,i≤L.length∧i≤9∧vs=[.int .u64 n,.int .i64 i]∧W=w∧n < 128 ^ i∧uvR 9 true L=(uvR (9 - i) (decide (i=0)) (L.drop i)).map fun r=>(n+128 ^ i * r.1,r.2)) (fun vs _=>L.length - iOf vs 1) ⟨0,0,Nat.zero_le _,by omega,rfl,rfl,by decide,by
  simp only [Nat.sub_zero,List.drop_zero,decide_true,Nat.pow_zero,Nat.one_mul,Nat.zero_add]
  cases uvR 9 true L <;> rfl⟩ ?_
 rintro vs W ⟨i,n,hi,hi9,rfl,rfl,hn,he⟩ _
 rename World=>w
 simp only [nth_s,nth_z,List.headD_cons,List.tail_cons]
 rw [ltK_i]
 refine condK_p (fun hlt=>?_) fun hge=>?_
 rotate_left
 ·refine ⟨by trivial,.inr ⟨by trivial,?_⟩⟩
  rw [he,List.drop_eq_nil_of_le (by omega)]
  unfold uvR;rfl
 have hlt':i < L.length:=by omega
 obtain ⟨q,r,rfl,_,_,hc,rfl⟩:=h2.get hlt'
 refine ixK_n hlt' ?_
 refine ld1K_i (by have:=hc 0 _ rfl;exact this) ?_
 have hx:=hbd _ (List.getElem_mem hlt')
 rw [List.drop_eq_getElem_cons hlt'] at he
 generalize L[i]=x at he hx
 have none':((9 - i=0∧1 < x)∨(decide (i=0)=false∧x=0))→uvR 9 true L=none:=fun e=>by
  rw [he];unfold uvR;rw [if_pos e];rfl
 refine JoinK_i (fun vs W=>W=w∧∃ B:Bool,vs=[.bool B]∧(B=true↔((9 - i=0∧1 < x)∨(decide (i=0)=false∧x=0)))) ?_ ?_
 rotate_left
 ·have p2:∀ {A:Value→Prop},(¬ (9 - i=0∧1 < x))→(∀ B:Bool,(B=true↔((9 - i=0∧1 < x)∨(decide (i=0)=false∧x=0)))→A (.bool B))→gtK .i64 (.int .i64 (i:Int)) (.int .i64 0) fun t35=>condK t35 (eqK .u8 (.int .u8 x) (.int .u8 0) fun t38=>A t38) (A (.bool false)):=by
   intro A hno hA
   rw [gtK_i]
   refine condK_p (fun e=>?_) fun e=>hA _ ?_
   ·rw [eqK_i]
    refine hA _ ?_
    rw [decide_eq_true_eq]
    exact ⟨fun e'=>.inr ⟨decide_eq_false (by omega),e'⟩,fun e'=>by rcases e' with e' | e';exact (hno e').elim;exact e'.2⟩
   ·refine ⟨fun e'=>(by cases e'),fun e'=>?_⟩
    rcases e' with e' | e'
    ·exact (hno e').elim
    ·have:=of_decide_eq_false e'.1;omega
  rw [eqK_i]
  refine condK_p (fun e9=>?_) fun e9=>p2 (fun e=>by omega) fun B hB=>⟨rfl,B,rfl,hB⟩
  rw [gtK_i]
  refine condK_p (fun ex=>⟨rfl,true,rfl,⟨fun _=>.inl ⟨by omega,ex⟩,fun _=>rfl⟩⟩) fun ex=>p2 (fun e=>ex e.2) fun B hB=>⟨rfl,B,rfl,hB⟩
 rintro _ _ ⟨rfl,B,rfl,hB⟩ _
 rename World=>w
 simp only [nth_z,List.headD_cons]
 refine condK_bb (fun e=>⟨by trivial,.inr ⟨by trivial,none' (hB.1 e)⟩⟩) fun e=>?_
 have hno:¬ ((9 - i=0∧1 < x)∨(decide (i=0)=false∧x=0)):=fun e'=>by rw [hB.2 e'] at e;cases e
 have hx9:i=9→x≤1:=fun e'=>Int.not_lt.1 fun e''=>hno (.inl ⟨by omega,e''⟩)
 have m7:IntKind.i64.wrap (7 * (i:Int))=((7 * i:Nat):Int):=by rw [wrap64 (by omega) (by omega)];push_cast;rfl
 rw [ltK_i]
 refine condK_p (fun hs=>?_) fun hs=>?_
 ·refine conv8_u64 hx.1 hx.2 ?_
  rw [mulK_i,m7]
  obtain ⟨k,rfl⟩:∃ k:Nat,x=k:=⟨x.toNat,by omega⟩
  refine dig_i hi9 hn (by omega) (fun e'=>by have:=hx9 e';omega) ?_
  rw [addK_i,addK_i,wrap64 (x:=(p:Int)+i) (by omega) (by omega),wrap64 (by omega) (by omega)]
  refine ⟨by trivial,.inl ⟨n+128 ^ i * k,L.drop (i+1),?_,?_⟩⟩
  ·rw [List.length_drop,hdl,show ((p:Int)+i+1)=((b.length - (b.length - p - (i+1)):Nat):Int) by omega]
  ·rw [he];unfold uvR;rw [if_neg hno,if_pos (by omega)];simp
 ·obtain ⟨k,rfl⟩:∃ k:Nat,x=k:=⟨x.toNat,by omega⟩
  refine runK_i (run_bit8 (a:=k) (b:=127) w (by omega) (by omega)).2 ?_
  have e127:k &&& 127=k - 128:=by
   have:k &&& 127=k % 128:=Nat.and_two_pow_sub_one_eq_mod k 7
   rw [this];omega
  rw [e127]
  refine conv8_u64 (by omega) (by omega) ?_
  rw [mulK_i,m7]
  have hi8:i < 9:=by
   rcases Nat.lt_or_ge i 9 with h | h
   ·exact h
   ·have:=hx9 (by omega);omega
  refine dig_i hi9 hn (by omega) (fun e'=>by omega) ?_
  rw [addK_i,loop_step (by omega)]
  refine ⟨⟨i+1,n+128 ^ i * (k - 128),hlt',by omega,rfl,by trivial,?_,?_⟩,by rw [iOf1,iOf1];omega⟩
  ·have:128 ^ i * (k - 128)≤128 ^ i * 127:=Nat.mul_le_mul_left _ (by omega)
   rw [Nat.pow_succ];omega
  ·rw [he]
   obtain ⟨f,hf⟩:∃ f,9 - i=f+1:=⟨8 - i,by omega⟩
   have hf2:9 - (i+1)=f:=by omega
   rw [hf,hf2]
   have hno':¬ ((f+1=0∧1 < (k:Int))∨(decide (i=0)=false∧(k:Int)=0)):=by rw [←hf];exact hno
   conv=>lhs;unfold uvR
   rw [if_neg hno',if_neg (by omega)]
   simp only [Nat.add_one_ne_zero,decide_false]
   cases uvR f false (L.drop (i+1)) with
   | none=>rfl
   | some r=>
    simp only [Option.map_some,Option.some.injEq,Prod.mk.injEq,and_true]
    rw [Nat.pow_succ,Nat.mul_add,show ((k:Int) - 128).toNat=k - 128 by omega,Nat.mul_assoc]
    omega
theorem zag_ok {n:Nat} {w:World} (hn:n < 18446744073709551616):callK Tryz.prog 213 [.int .u64 n] (fun v' w'=>v'=.int .i64 (unzig n)∧w'=w) w:=by
 apply S213_ok
 unfold S213
 refine runK_i (run_shr (n:=1) w (by decide)) ?_
 have e1:((n:Int)).fdiv (2 ^ 1)=((n / 2:Nat):Int):=by
  rw [Int.fdiv_eq_ediv_of_nonneg _ (by decide)];show (n:Int) / 2=_;omega
 rw [e1]
 refine runK_i (run_conv (k:=.i64) w (by kernel_rfl) (by kernel_rfl)) ?_
 rw [wrap64 (by omega) (by omega)]
 refine runK_i (run_ob64 (a:=n) (b:=1) w hn (by omega)).2 ?_
 rw [Nat.and_one_is_mod]
 refine runK_i (run_conv (k:=.i64) w (by kernel_rfl) (by kernel_rfl)) ?_
 rw [wrap64 (by omega) (by omega)]
 have eneg:∀ x:Int,(Op.unary .neg (.int .i64 x)).run Tryz.prog w=.ok (.int .i64 (IntKind.i64.wrap (-x))) w:=fun x=>by simp [Op.unary,Op.intArith]
 refine runK_i (eneg _) ?_
 rw [wrap64 (by omega) (by omega)]
 have exor:∀ (t:TypeId) (xo yo:Operand) (a b:Int),(binS .xor t xo yo (.int .i64 a) (.int .i64 b)).run Tryz.prog w=.ok (.int .i64 (IntKind.i64.wrap (BitVec.ofInt 64 a ^^^ BitVec.ofInt 64 b).toNat)) w:=fun t xo yo a b=>by
  simp [binS,eqGuard,binOp,Op.intBits]
  rfl
 refine runK_i (exor _ _ _ _ _) ⟨?_,rfl⟩
 congr 1
 unfold unzig
 by_cases h0:n % 2=0
 ·rw [if_pos h0,h0]
  have:BitVec.ofInt 64 (-((0:Nat):Int))=0#64:=by decide
  rw [this,BitVec.xor_zero,BitVec.ofInt_natCast,BitVec.toNat_ofNat,Nat.mod_eq_of_lt (by omega),wrap64 (by omega) (by omega)]
 ·rw [if_neg h0,show n % 2=1 by omega]
  have:=Lib.i64_not (n / 2) (by omega)
  rw [BitVec.xor_comm]
  exact this
theorem rint_ok {S:Nat→Prop} {v:Value} {b:List Int} {p:Nat} {w:World} (h:RBytes S w v b) (hb:∀ x ∈ b,0≤x∧x < 256) (hp:p≤b.length) (hl:b.length≤1099511627776) :
  callK Tryz.prog 199 [v,.int .i64 p] (fun v' w'=>w'=w∧((∃ (n:Nat) (t:List Int),v'=.tuple #[.int .i64 (unzig n),.int .i64 ((b.length - t.length:Nat):Int),.int .i64 0]∧uvR 9 true (b.drop p)=some (n,t))∨((∃ x y,v'=.tuple #[x,y,.int .i64 3])∧uvR 9 true (b.drop p)=none))) w:=by
 apply S199_ok
 unfold S199
 refine callK_mono (ruint_ok h hb hp hl) ?_
 rintro _ _ ⟨rfl,⟨n,t,rfl,he⟩ | ⟨rfl,he⟩⟩
 ·rename World=>w
  have hn:=(read_uv (fun x hx=>hb x (List.mem_of_mem_drop hx)) he).2
  refine extK_i (vs:=[_,_,_]) rfl (extK_i (vs:=[_,_,_]) rfl (extK_i (vs:=[_,_,_]) rfl ?_))
  refine callK_mono (zag_ok hn) ?_
  rintro _ _ ⟨rfl,rfl⟩
  exact ⟨rfl,.inl ⟨n,t,rfl,he⟩⟩
 ·rename World=>w
  refine extK_i (vs:=[_,_,_]) rfl (extK_i (vs:=[_,_,_]) rfl (extK_i (vs:=[_,_,_]) rfl ?_))
  refine callK_mono (zag_ok (n:=0) (by omega)) ?_
  rintro _ _ ⟨rfl,rfl⟩
  exact ⟨rfl,.inr ⟨⟨_,_,rfl⟩,he⟩⟩
end Go.Proofs.YtlbaopamhkmepaaGreatDoor

namespace Go.Proofs.YtlbaopamhkmepaaGreatDoor
open Go Go.K

theorem drop_suf {b u t:List Int} {p:Nat} (hp:p≤b.length) (e:b.drop p=u++t):b.length - t.length=p+u.length∧p+u.length≤b.length∧b.drop (p+u.length)=t:=by
 have hl:=congrArg List.length e
 rw [List.length_drop,List.length_append] at hl
 refine ⟨by omega,by omega,?_⟩
 rw [←List.drop_drop,e,List.drop_left]
section
variable {α:Type} {f:α→List Int} {R:α→Prop} {b:List Int} {p q:Nat} {bad:Bool} {a:α}
theorem RdP.no (hp:p≤b.length) (h:∀ c t,R c→b.drop p≠f c++t):RdP f R b p bad a p true:=
 ⟨Nat.le_refl _,hp,fun _=>rfl,fun e=>(by cases e),fun _ c t hc ht=>(h c t hc ht).elim⟩
theorem RdP.ok (hp:p≤q) (hq:q≤b.length) (hR:R a) (e:b.drop p=f a++b.drop q):RdP f R b p bad a q bad:=
 ⟨hp,hq,fun h=>h,fun _=>⟨hR,e⟩,fun h _ _ _ _=>h⟩
end
theorem rbat_ok {S:Nat→Prop} {v:Value} {b:List Int} {p:Nat} {w:World} (h:RBytes S w v b) (hb:∀ x ∈ b,0≤x∧x < 256) (hp:p≤b.length) (hl:b.length≤1099511627776) :
  callK Tryz.prog 175 [v,.int .i64 p,.int .i64 b.length] (fun v' w'=>Grow w w'∧((∃ (x:List Int) (q:Nat) (xv:Value),v'=.tuple #[xv,.int .i64 q,.int .i64 0]∧OBytes w.heap.size w' xv x∧p≤q∧q≤b.length∧b.drop p=encX x++b.drop q)∨
   ((∃ x y,v'=.tuple #[x,y,.int .i64 3])∧∀ x t,x.length < 9223372036854775808→b.drop p≠encX x++t))) w:=by
 apply S175_ok
 unfold S175
 obtain ⟨a,c,rfl,hm⟩:=h.shape
 refine callK_mono (ruint_ok h hb hp hl) ?_
 have hbd:∀ x ∈ b.drop p,0≤x∧x < 256:=fun x hx=>hb x (List.mem_of_mem_drop hx)
 rintro _ _ ⟨rfl,⟨n,t,rfl,he⟩ | ⟨rfl,he⟩⟩
 rotate_left
 ·rename World=>w
  refine extK_i (vs:=[_,_,_]) rfl (extK_i (vs:=[_,_,_]) rfl (extK_i (vs:=[_,_,_]) rfl ?_))
  have bad:∀ x t,x.length < 9223372036854775808→b.drop p≠encX x++t:=fun x t hx e=>by
   unfold encX at e
   rw [List.append_assoc] at e
   rw [e,uv_read _ (by omega)] at he
   cases he
  refine JoinK_i (fun _ _=>False) (fun _ _ h=>h.elim) ?_
  rw [neK_i]
  exact condK_neg (fun e=>by cases e) fun _=>⟨Mod.refl _ _,.inr ⟨⟨_,_,rfl⟩,bad⟩⟩
 rename World=>w
 refine extK_i (vs:=[_,_,_]) rfl (extK_i (vs:=[_,_,_]) rfl (extK_i (vs:=[_,_,_]) rfl ?_))
 obtain ⟨hd,hn⟩:=read_uv hbd he
 obtain ⟨s1,s2,s3⟩:=drop_suf hp hd
 rw [s1]
 generalize hq:p+(uv n).length=q0 at *
 have ht:t.length=b.length - q0:=by rw [←s3,List.length_drop]
 have bad:b.length - q0 < n→∀ x t,x.length < 9223372036854775808→b.drop p≠encX x++t:=fun hlt x t' hx e=>by
  unfold encX at e
  rw [List.append_assoc,hd] at e
  obtain ⟨e1,e2⟩:=uv_pre hn (by omega) e
  have:=congrArg List.length e2
  rw [List.length_append] at this
  omega
 refine JoinK_i (fun vs W=>W=w∧vs=[.int .i64 (q0:Nat)]∧n≤b.length - q0) ?_ ?_
 ·rintro _ _ ⟨rfl,rfl,hle⟩ _
  rename World=>w
  simp only [nth_z,List.headD_cons]
  refine runK_i (run_conv (k:=.i64) w (by kernel_rfl) (by kernel_rfl)) ?_
  rw [wrap64 (by omega) (by omega),addK_i,wrap64 (by omega) (by omega)]
  have e:(q0:Int)+(n:Int)=((q0+n:Nat):Int):=by push_cast;rfl
  rw [e]
  refine slice_lh (e:=5) (k:=1) (i:=Tryz.t5) (by kernel_rfl) (by kernel_rfl) rfl h (by omega) (by omega) fun v2 h2=>?_
  have hl2:((b.take (q0+n)).drop q0).length=n:=by rw [List.length_drop,List.length_take];omega
  refine callK_mono (clone_bytes h2 (by omega)) ?_
  rintro xv w2 ⟨o2,g2⟩
  refine ⟨g2,.inl ⟨_,q0+n,xv,rfl,o2,by omega,by omega,?_⟩⟩
  unfold encX
  rw [hl2,hd,List.append_assoc,←s3,List.drop_take]
  congr 1
  have e3:b.drop (q0+n)=(b.drop q0).drop n:=by rw [List.drop_drop]
  rw [e3,show q0+n - q0=n by omega,List.take_append_drop]
 ·rw [neK_i]
  refine condK_neg (fun _=>?_) fun e=>(e rfl).elim
  rw [ltK_i]
  refine condK_p (fun e=>by omega) fun _=>?_
  refine conv_64 (by omega) ?_
  rw [gtK_i]
  refine condK_p (fun e=>⟨Mod.refl _ _,.inr ⟨⟨_,_,rfl⟩,bad (by omega)⟩⟩) fun e=>?_
  rw [lenK_i,subK_i,wrap64 (by omega) (by omega),show ((b.length:Int) - (q0:Nat))=((b.length - q0:Nat):Int) by omega]
  refine conv_64 (by omega) ?_
  rw [gtK_i]
  exact condK_p (fun e=>⟨Mod.refl _ _,.inr ⟨⟨_,_,rfl⟩,bad (by omega)⟩⟩) fun e=>⟨rfl,rfl,by omega⟩
structure RdS (S:Nat→Prop) (W:World) (c:Nat) (bv:Value) (b:List Int) (p:Nat) (bad:Bool):Prop where
 c0:W.cell? ⟨c,0,none⟩=some bv
 c1:W.cell? ⟨c,1,none⟩=some (.int .i64 p)
 c2:W.cell? ⟨c,2,none⟩=some (.bool bad)
 l1:Live W ⟨c,1,none⟩
 l2:Live W ⟨c,2,none⟩
 row:RBytes S W bv b
 sep:∀ z,S z→z < c
 len:p≤b.length
section
variable {S:Nat→Prop} {W W':World} {c:Nat} {bv:Value} {b:List Int} {p q:Nat} {bad:Bool}
theorem RdS.lt (h:RdS S W c bv b p bad):c < W.heap.size:=World.block_lt_of_cell? W _ h.c0
theorem RdS.mod {M:Nat→Prop} (h:RdS S W c bv b p bad) (m:Mod M W W') (hc:∀ z,z≤c→¬ M z):RdS S W' c bv b p bad:=
 ⟨m.cell h.c0 (hc c (Nat.le_refl _)),m.cell h.c1 (hc c (Nat.le_refl _)),m.cell h.c2 (hc c (Nat.le_refl _)),h.l1.mod m (hc c (Nat.le_refl _)),h.l2.mod m (hc c (Nat.le_refl _)),h.row.mod m (fun z _ hz=>hc z (Nat.le_of_lt (h.sep z hz))) (by decide) fun _ _ h=>h,h.sep,h.len⟩
theorem RdS.grow (h:RdS S W c bv b p bad) (g:Grow W W'):RdS S W' c bv b p bad:=h.mod g fun _ _ h=>h
theorem ne_off {c i j:Nat} (h:i≠j):(⟨c,i,none⟩:Addr)≠⟨c,j,none⟩:=by intro e;simp only [Addr.mk.injEq] at e;omega
theorem RdS.bads {K:World→Prop} (h:RdS S W c bv b p bad) (hK:∀ W',RdS S W' c bv b p true→Mod (fun z=>z=c) W W'→K W') :
  nilckK (.pointer (some ⟨c,0,none⟩)) fun t=>faK 2 t fun q=>st1K q (.bool true) K W:=by
 refine nilckK_s ?_
 rw [faK_i,addr0]
 have m:Mod (fun z=>z=c) W (W.setCell ⟨c,2,none⟩ (.bool true)):=Mod.setCell _ _ _ rfl
 refine h.l2.st rfl rfl (hK _ ⟨?_,?_,World.cell?_setCell_same _ _ _ h.c2,h.l1.set _ _,h.l2.set _ _,h.row.mod m (fun z _ hz e=>by have:=h.sep z hz;omega) (by decide) fun _ _ h=>h,h.sep,h.len⟩ m)
 ·rw [World.cell?_setCell_other _ _ _ _ (ne_off (by decide))];exact h.c0
 ·rw [World.cell?_setCell_other _ _ _ _ (ne_off (by decide))];exact h.c1
theorem RdS.move {K:World→Prop} (h:RdS S W c bv b p bad) (hq:q≤b.length) (hK:∀ W',RdS S W' c bv b q bad→Mod (fun z=>z=c) W W'→K W') :
  nilckK (.pointer (some ⟨c,0,none⟩)) fun t=>faK 1 t fun u=>st1K u (.int .i64 q) K W:=by
 refine nilckK_s ?_
 rw [faK_i,addr0]
 have m:Mod (fun z=>z=c) W (W.setCell ⟨c,1,none⟩ (.int .i64 q)):=Mod.setCell _ _ _ rfl
 refine h.l1.st rfl rfl (hK _ ⟨?_,World.cell?_setCell_same _ _ _ h.c1,?_,h.l1.set _ _,h.l2.set _ _,h.row.mod m (fun z _ hz e=>by have:=h.sep z hz;omega) (by decide) fun _ _ h=>h,h.sep,hq⟩ m)
 ·rw [World.cell?_setCell_other _ _ _ _ (ne_off (by decide))];exact h.c0
 ·rw [World.cell?_setCell_other _ _ _ _ (ne_off (by decide))];exact h.c2
variable (hb:∀ x ∈ b,0≤x∧x < 256) (hl:b.length≤1099511627776)
include hb hl
theorem upto_ok {most:Nat} (h:RdS S W c bv b p bad) (hm:most < 18446744073709551616) :
  callK Tryz.prog 110 [.pointer (some ⟨c,0,none⟩),.int .u64 most] (fun v w'=>∃ (n q:Nat) (bad1:Bool),v=.int .u64 n∧n≤most∧RdS S w' c bv b q bad1∧Mod (fun z=>z=c) W w'∧RdP uv (fun n=>n≤most) b p bad n q bad1) W:=by
 apply S110_ok
 unfold S110
 have gd:Grow W W.drew:=Mod.drew _ _
 have hd:=h.grow gd
 refine drawC_i (fun _ _=>False) ?_
 refine nilckK_s ?_
 rw [faK_i,addr0]
 refine sld1_i ⟨hd.c0,fun _ _ h=>h⟩ ?_
 refine nilckK_s ?_
 rw [faK_i,addr0]
 refine sld1_i ⟨hd.c1,fun _ _ h=>h⟩ ?_
 refine callK_mono (ruint_ok hd.row hb h.len hl) ?_
 have hbd:∀ x ∈ b.drop p,0≤x∧x < 256:=fun x hx=>hb x (List.mem_of_mem_drop hx)
 have fail:(∀ n t,n≤most→b.drop p≠uv n++t)→∀ W',RdS S W' c bv b p true→Mod (fun z=>z=c) W.drew W'→∃ (n q:Nat) (bad1:Bool),(Value.int .u64 0)=.int .u64 n∧n≤most∧RdS S W' c bv b q bad1∧Mod (fun z=>z=c) W W'∧RdP uv (fun n=>n≤most) b p bad n q bad1:=fun hno W' h' m'=>
  ⟨0,p,true,rfl,Nat.zero_le _,h',(gd.mono fun _ _ e=>e.elim).trans m',RdP.no h.len hno⟩
 rintro _ _ ⟨rfl,⟨n,t,rfl,he⟩ | ⟨rfl,he⟩⟩
 ·refine ⟨Mod.refl _ _,?_⟩
  refine extK_i (vs:=[_,_,_]) rfl (extK_i (vs:=[_,_,_]) rfl (extK_i (vs:=[_,_,_]) rfl ?_))
  obtain ⟨hdr,hn⟩:=read_uv hbd he
  obtain ⟨s1,s2,s3⟩:=drop_suf h.len hdr
  rw [s1]
  refine JoinK_i (fun _ W'=>W'=W.drew∧n≤most) ?_ ?_
  ·rintro _ _ ⟨rfl,hle⟩ _
   refine hd.move s2 fun W' h' m'=>⟨n,_,bad,rfl,hle,h',(gd.mono fun _ _ e=>e.elim).trans m',RdP.ok (by omega) s2 hle (by rw [s3];exact hdr)⟩
  ·rw [neK_i]
   refine condK_neg (fun _=>?_) fun e=>(e rfl).elim
   rw [gtK_i]
   refine condK_p (fun e=>hd.bads (fail fun n' t' hn' e'=>?_)) fun e=>⟨rfl,by omega⟩
   rw [hdr] at e'
   have:=(uv_pre hn (by omega) e').1
   omega
 ·refine ⟨Mod.refl _ _,?_⟩
  refine extK_i (vs:=[_,_,_]) rfl (extK_i (vs:=[_,_,_]) rfl (extK_i (vs:=[_,_,_]) rfl ?_))
  refine JoinK_i (fun _ _=>False) (fun _ _ h=>h.elim) ?_
  rw [neK_i]
  refine condK_neg (fun e=>by cases e) fun _=>hd.bads (fail fun n' t' hn' e'=>?_)
  rw [e',uv_read _ (by omega)] at he
  cases he
theorem rbs_ok (h:RdS S W c bv b p bad) :
  callK Tryz.prog 115 [.pointer (some ⟨c,0,none⟩)] (fun v w'=>∃ (x:List Int) (q:Nat) (bad1:Bool),RBytes (fun z=>W.heap.size≤z) w' v x∧(∀ z ∈ x,0≤z∧z < 256)∧x.length≤b.length∧RdS S w' c bv b q bad1∧Mod (fun z=>z=c) W w'∧RdP encX (fun x=>x.length < 9223372036854775808) b p bad x q bad1) W:=by
 apply S115_ok
 unfold S115
 have gd:Grow W W.drew:=Mod.drew _ _
 have hd:=h.grow gd
 obtain ⟨a,n,ebv,_⟩:=h.row.shape
 refine drawC_i (fun _ _=>False) ?_
 refine nilckK_s ?_
 rw [faK_i,addr0]
 refine sld1_i ⟨hd.c0,fun _ _ h=>h⟩ ?_
 refine nilckK_s ?_
 rw [faK_i,addr0]
 refine sld1_i ⟨hd.c1,fun _ _ h=>h⟩ ?_
 refine nilckK_s ?_
 rw [faK_i,addr0]
 refine sld1_i ⟨hd.c0,fun _ _ h=>h⟩ ?_
 have hlen:∀ {k:Value→Prop},k (.int .i64 b.length)→lenK bv k:=fun {k} hk=>by subst ebv;rw [lenK_i];exact hk
 refine hlen ?_
 refine callK_mono (rbat_ok hd.row hb h.len hl) ?_
 have hbd:∀ x ∈ b.drop p,0≤x∧x < 256:=fun x hx=>hb x (List.mem_of_mem_drop hx)
 rintro _ w1 ⟨g1,⟨x,q,xv,rfl,o1,hpq,hq,he⟩ | ⟨⟨x,y,rfl⟩,he⟩⟩
 ·refine ⟨g1.mono fun _ _ e=>e.elim,?_⟩
  refine extK_i (vs:=[_,_,_]) rfl (extK_i (vs:=[_,_,_]) rfl (extK_i (vs:=[_,_,_]) rfl ?_))
  rw [neK_i]
  refine condK_neg (fun _=>?_) fun e=>(e rfl).elim
  have hxl:=congrArg List.length he
  unfold encX at hxl
  rw [List.length_append,List.length_append,List.length_drop,List.length_drop] at hxl
  have hlt:=h.lt
  refine (hd.grow g1).move hq fun W' h' m'=>⟨x,q,bad,?_,fun z hz=>hbd z ?_,by omega,h',((gd.trans g1).mono fun _ _ e=>e.elim).trans m',RdP.ok hpq hq (show x.length < _ by omega) he⟩
  ·refine (SlR.sub (OwnR.sl o1) (fun z _ hz=>hz.1) (by decide) fun _ _ h=>h).mod m' (fun z _ hz e=>?_) (by decide) fun _ _ h=>h
   subst e
   have:W.drew.heap.size=W.heap.size:=rfl
   omega
  ·rw [he];unfold encX
   exact List.mem_append_left _ (List.mem_append_right _ hz)
 ·refine ⟨g1.mono fun _ _ e=>e.elim,?_⟩
  refine extK_i (vs:=[_,_,_]) rfl (extK_i (vs:=[_,_,_]) rfl (extK_i (vs:=[_,_,_]) rfl ?_))
  rw [neK_i]
  refine condK_neg (fun e=>by cases e) fun _=>(hd.grow g1).bads fun W' h' m'=>⟨[],p,true,SlR.nil,by simp,by simp,h',((gd.trans g1).mono fun _ _ e=>e.elim).trans m',RdP.no h.len fun x t hx e=>he x t hx e⟩
end
end Go.Proofs.YtlbaopamhkmepaaGreatDoor

namespace Go.Proofs.YtlbaopamhkmepaaGreatDoor
open Go Go.K

structure BoxN (W:World) (g:Nat) (vs:List Value):Prop where
 cells:∀ j u,vs[j]?=some u→W.cell? ⟨g,j,none⟩=some u
 live:∀ j,j < vs.length→Live W ⟨g,j,none⟩
section
variable {W W':World} {g:Nat} {vs:List Value}
theorem BoxN.mod {M:Nat→Prop} (h:BoxN W g vs) (m:Mod M W W') (hg:¬ M g):BoxN W' g vs:=⟨fun j u hu=>m.cell (h.cells j u hu) hg,fun j hj=>(h.live j hj).mod m hg⟩
theorem BoxN.st {j:Nat} {u:Value} {K:World→Prop} (h:BoxN W g vs) (hj:j < vs.length) (h1:u.oneCell'=true) (h2:u.cells=#[u]) (hK:∀ W',BoxN W' g (vs.set j u)→Mod (fun z=>z=g) W W'→K W') :
  faK j (.pointer (some ⟨g,0,none⟩)) fun q=>st1K q u K W:=by
 rw [faK_i,addr0]
 refine (h.live j hj).st h1 h2 (hK _ ⟨fun i y hy=>?_,fun i hi=>(h.live i (by simpa using hi)).set _ _⟩ (Mod.setCell _ _ _ rfl))
 rw [List.getElem?_set] at hy
 split at hy
 ·rename_i e
  subst e
  first | (rw [if_pos hj] at hy;cases hy) | cases hy
  exact World.cell?_setCell_same _ _ _ (h.cells j _ (List.getElem?_eq_getElem hj))
 ·rename_i e
  rw [World.cell?_setCell_other _ _ _ _ (by intro e';simp only [Addr.mk.injEq] at e';omega)]
  exact h.cells i y hy
theorem BoxN.ld {n:Nat} {K:Cont} (h:BoxN W g vs) (hn:vs.length=n) (hK:K (.agg vs.toArray) W):ldnK n (.pointer (some ⟨g,0,none⟩)) K W:=
 ldnK_i hn (fun j u hu=>by rw [addr0];exact h.cells j u hu) hK
theorem BoxN.stn {n:Nat} {us:List Value} {K:World→Prop} (h:BoxN W g vs) (hn:vs.length=n) (hu:us.length=n) (h1:∀ v ∈ us,v.oneCell'=true) (hK:∀ W',BoxN W' g us→Mod (fun z=>z=g) W W'→K W') :
  stnK n (.pointer (some ⟨g,0,none⟩)) (.agg us.toArray) K W:=
 stn_over hu h1 (fun j hj=>by rw [addr0];exact h.live j (by omega)) fun W' m hc hl=>hK W' ⟨fun j u hj=>by have:=hc j u hj;rwa [addr0] at this,fun j hj=>hl _ (h.live j (by omega))⟩ m
theorem BoxN.new {t:TypeId} {K:Cont} (hK:∀ g W',g=W.heap.size→W'.heap.size=W.heap.size+1→Grow W W'→BoxN W' g vs→K (.pointer (some ⟨g,0,none⟩)) W'):newK t vs K W:=by
 obtain ⟨us,e,h2⟩:=boxn_i (t:=t) (vs:=vs) (K:=K) (w:=W) fun b w1 h1 h2 h3 h4 h5=>hK b w1 h1 h2 h3 ⟨fun j u hu=>by have:=h4 j u hu;rwa [addr0] at this,fun j hj=>by have:=h5 j hj;rwa [addr0] at this⟩
 have:us=vs:=by
  have e':=Value.agg.inj e
  simpa using (congrArg Array.toList e').symm
 subst this
 exact h2
end
theorem conv_u8n {n:Nat} {K:Cont} {w:World} (hn:n≤255) (h:K (.int .u8 n) w):runK Tryz.prog (convert 34 5 (.int .u64 n)) K w:=by
 refine conv64_8 ?_
 rw [show ((n:Int) % 256)=n by omega];exact h
theorem conv_i64 {n:Nat} {K:Cont} {w:World} (hn:n < 9223372036854775808) (h:K (.int .i64 n) w):runK Tryz.prog (convert 34 3 (.int .u64 n)) K w:=by
 refine runK_i (run_conv (k:=.i64) w (by kernel_rfl) (by kernel_rfl)) ?_
 rw [wrap64 (by omega) (by omega)];exact h
section
variable {S:Nat→Prop} {W W':World} {c:Nat} {bv:Value} {b:List Int} {p q:Nat} {bad:Bool}
variable (hb:∀ x ∈ b,0≤x∧x < 256) (hl:b.length≤1099511627776)
include hb hl
theorem rlen_ok (h:RdS S W c bv b p bad) :
  callK Tryz.prog 111 [.pointer (some ⟨c,0,none⟩)] (fun v w'=>∃ (n q:Nat) (bad1:Bool),v=.int .i64 n∧n≤536870912∧RdS S w' c bv b q bad1∧Mod (fun z=>z=c) W w'∧RdP uv (fun n=>n≤536870912) b p bad n q bad1) W:=by
 apply S111_ok
 unfold S111
 refine callK_mono (upto_ok hb hl (most:=536870912) h (by decide)) ?_
 rintro _ w1 ⟨n,q,bad1,rfl,hn,h1,m1,r1⟩
 exact conv_i64 (by omega) ⟨n,q,bad1,rfl,hn,h1,m1,r1⟩
theorem rkey_ok (h:RdS S W c bv b p bad) :
  callK Tryz.prog 172 [.pointer (some ⟨c,0,none⟩)] (fun v w'=>∃ (n q:Nat) (bad1:Bool),v=.int .i64 n∧n≤9223372036854775807∧RdS S w' c bv b q bad1∧Mod (fun z=>z=c) W w'∧RdP uv (fun n=>n≤9223372036854775807) b p bad n q bad1) W:=by
 apply S172_ok
 unfold S172
 refine callK_mono (upto_ok hb hl (most:=9223372036854775807) h (by decide)) ?_
 rintro _ w1 ⟨n,q,bad1,rfl,hn,h1,m1,r1⟩
 exact conv_i64 (by omega) ⟨n,q,bad1,rfl,hn,h1,m1,r1⟩
theorem rdval_ok {k:Nat} (h:RdS S W c bv b p bad) (hk:k≤255) :
  callK Tryz.prog 173 [.pointer (some ⟨c,0,none⟩),.int .u8 k] (fun v w'=>∃ (x:AVal) (q:Nat) (bad1:Bool),v=.agg x.cells.toArray∧RdS S w' c bv b q bad1∧Mod (fun z=>z=c) W w'∧RdV k b p bad x q bad1) W:=by
 apply S173_ok
 unfold S173
 have hlt:=h.lt
 refine BoxN.new fun g w1 hg hz g1 b1=>?_
 refine b1.st (by decide) rfl rfl fun w2 b2 m2=>?_
 have h2:=(h.grow g1).mod m2 fun z hz e=>by omega
 have m02:Mod (fun z=>z=c) W w2:=(g1.mono fun _ _ e=>e.elim).next m2 fun z hz e=>by omega
 replace b2:BoxN w2 g (⟨k,0,0,⟨#[]⟩⟩:AVal).cells:=b2
 -- how each way ends
 refine JoinK_i (fun _ W3=>∃ (x:AVal) (q:Nat) (bad1:Bool),BoxN W3 g x.cells∧RdS S W3 c bv b q bad1∧Mod (fun z=>z=c) W W3∧RdV k b p bad x q bad1) ?_ ?_
 ·rintro _ W3 ⟨x,q,bad1,b3,h3,m3,r3⟩ _
  refine b3.ld (n:=4) rfl ?_
  refine b3.stn (n:=4) (us:=x.cells) rfl rfl (AVal.one x) fun W4 b4 m4=>?_
  refine b4.ld (n:=4) rfl ⟨x,q,bad1,rfl,h3.mod m4 fun z hz e=>by omega,m3.next m4 fun z hz e=>by omega,r3⟩
 ·refine JoinK_i (fun _ W3=>W3=w2∧(k=1∨k=2)) ?_ ?_
  ·rintro _ _ ⟨rfl,hk12⟩ _
   rename World=>w2
   have gd:Grow w2 w2.drew:=Mod.drew _ _
   have hd:=h2.grow gd
   have bd:=b2.mod gd fun h=>h
   refine drawC_i (fun _ _=>False) ?_
   refine nilckK_s ?_
   rw [faK_i,addr0]
   refine sld1_i ⟨hd.c0,fun _ _ h=>h⟩ ?_
   refine nilckK_s ?_
   rw [faK_i,addr0]
   refine sld1_i ⟨hd.c1,fun _ _ h=>h⟩ ?_
   refine callK_mono (rint_ok hd.row hb h.len hl) ?_
   have hbd:∀ x ∈ b.drop p,0≤x∧x < 256:=fun x hx=>hb x (List.mem_of_mem_drop hx)
   have m0d:Mod (fun z=>z=c) W w2.drew:=m02.trans (gd.mono fun _ _ e=>e.elim)
   rintro _ _ ⟨rfl,⟨n,t,rfl,he⟩ | ⟨⟨x,y,rfl⟩,he⟩⟩
   ·refine ⟨Mod.refl _ _,?_⟩
    refine extK_i (vs:=[_,_,_]) rfl (extK_i (vs:=[_,_,_]) rfl (extK_i (vs:=[_,_,_]) rfl ?_))
    rw [neK_i]
    refine condK_neg (fun _=>?_) fun e=>(e rfl).elim
    obtain ⟨hdr,hn⟩:=read_uv hbd he
    obtain ⟨s1,s2,s3⟩:=drop_suf h.len hdr
    rw [s1]
    refine bd.st (by simp [AVal.cells]) rfl rfl fun w3 b3 m3=>?_
    have h3:=hd.mod m3 fun z hz e=>by omega
    refine h3.move s2 fun w4 h4 m4=>⟨⟨k,unzig n,0,⟨#[]⟩⟩,_,bad,b3.mod m4 (by omega),h4,(m0d.next m3 fun z hz e=>by omega).trans m4,RdV.int hk12 hn (RdP.ok (by omega) s2 hn (by rw [s3];exact hdr))⟩
   ·refine ⟨Mod.refl _ _,?_⟩
    refine extK_i (vs:=[_,_,_]) rfl (extK_i (vs:=[_,_,_]) rfl (extK_i (vs:=[_,_,_]) rfl ?_))
    rw [neK_i]
    refine condK_neg (fun e=>by cases e) fun _=>hd.bads fun w3 h3 m3=>?_
    have b3:=bd.mod m3 (by omega)
    refine b3.ld (n:=4) rfl ?_
    refine b3.stn (n:=4) (us:=(⟨k,0,0,⟨#[]⟩⟩:AVal).cells) rfl rfl (AVal.one _) fun W4 b4 m4=>?_
    refine b4.ld (n:=4) rfl ⟨⟨k,0,0,⟨#[]⟩⟩,p,true,rfl,h3.mod m4 fun z hz e=>by omega,(m0d.trans m3).next m4 fun z hz e=>by omega,?_⟩
    have r0:RdP uv (fun n=>n < 18446744073709551616) b p bad 0 p true:=RdP.no h.len fun n' t' hn' e'=>by
     rw [e',uv_read _ hn'] at he
     cases he
    exact ⟨r0.le,r0.len,r0.stays,fun e=>(by cases e),(RdV.int hk12 (by omega) r0).full⟩
  ·rw [eqK_i]
   refine condK_p (fun e=>⟨rfl,.inl (by omega)⟩) fun n1=>?_
   rw [eqK_i]
   refine condK_p (fun e=>⟨rfl,.inr (by omega)⟩) fun n2=>?_
   rw [eqK_i]
   refine condK_p (fun e=>?_) fun n3=>?_
   ·refine callK_mono (upto_ok hb hl (most:=18446744073709551615) h2 (by decide)) ?_
    rintro _ w3 ⟨n,q,bad1,rfl,hn,h3,m3,r3⟩
    refine (b2.mod m3 (by omega)).st (by simp [AVal.cells]) rfl rfl fun w4 b4 m4=>?_
    have ek:k=3:=by omega
    subst ek
    exact ⟨⟨3,0,n,⟨#[]⟩⟩,q,bad1,b4,h3.mod m4 fun z hz e=>by omega,(m02.trans m3).next m4 fun z hz e=>by omega,RdV.float r3⟩
   ·rw [eqK_i]
    refine condK_p (fun e=>?_) fun n4=>?_
    ·refine callK_mono (rbs_ok hb hl h2) ?_
     rintro v w3 ⟨x,q,bad1,rx,hx,hxl,h3,m3,r3⟩
     refine runK_i (run_str rx hx) ?_
     refine (b2.mod m3 (by omega)).st (by simp [AVal.cells]) rfl rfl fun w4 b4 m4=>?_
     have ek:k=4:=by omega
     subst ek
     exact ⟨⟨4,0,0,strOf x⟩,q,bad1,b4,h3.mod m4 fun z hz e=>by omega,(m02.trans m3).next m4 fun z hz e=>by omega,RdV.text (bytesL_strOf hx) r3⟩
    ·refine h2.bads fun w3 h3 m3=>?_
     exact ⟨_,p,true,b2.mod m3 (by omega),h3,m02.trans m3,RdV.bads h.len (by omega)⟩
end
end Go.Proofs.YtlbaopamhkmepaaGreatDoor

namespace Go.Proofs.YtlbaopamhkmepaaGreatDoor
open Go Go.K
theorem Tabs.mod2 {M:Nat→Prop} {w w':World} (h:Tabs w) (g:Mod M w w') (hM:∀ b,b < 2→¬ M b):Tabs w':=
 ⟨Nat.lt_of_lt_of_le h.size g.size,fun j h1 h2=>g.cell (h.first j h1 h2) (hM 0 (by decide)),fun j hj=>⟨g.cell (h.acc j hj).1 (hM 1 (by decide)),g.cell (h.acc j hj).2 (hM 1 (by decide))⟩⟩
section
variable {S:Nat→Prop} {W W':World} {c:Nat} {bv:Value} {b:List Int} {p q:Nat} {bad:Bool}
variable (hb:∀ x ∈ b,0≤x∧x < 256) (hl:b.length≤1099511620000)
include hb hl
theorem rdattr_ok (h:RdS S W c bv b p bad) :
  callK Tryz.prog 117 [.pointer (some ⟨c,0,none⟩)] (fun v w'=>∃ (a:Attr) (q:Nat) (bad1:Bool),v=.agg a.cells.toArray∧RdS S w' c bv b q bad1∧Mod (fun z=>z=c) W w'∧RdP encAt RepA b p bad a q bad1) W:=by
 apply S117_ok
 unfold S117
 have hl:b.length≤1099511627776:=by omega
 have hclt:=h.lt
 refine BoxN.new fun g w1 hg hz g1 b1=>?_
 refine callK_mono (rkey_ok hb hl (h.grow g1)) ?_
 rintro _ w2 ⟨key,q2,bad2,rfl,hk,h2,m2,r2⟩
 refine callK_mono (upto_ok hb hl (most:=255) h2 (by decide)) ?_
 rintro _ w3 ⟨k,q3,bad3,rfl,hk3,h3,m3,r3⟩
 refine conv_u8n hk3 ?_
 refine callK_mono (rdval_ok hb hl h3 hk3) ?_
 rintro _ w4 ⟨v,q4,bad4,rfl,h4,m4,r4⟩
 refine ⟨(⟨key,v⟩:Attr).cells.toArray,by kernel_rfl,?_⟩
 have m24:=(m2.trans m3).trans m4
 refine (b1.mod m24 (by omega)).stn (n:=5) (us:=(⟨key,v⟩:Attr).cells) rfl rfl (RAttr.one (w:=w1) rfl) fun w5 b5 m5=>?_
 exact b5.ld (n:=5) rfl ⟨⟨key,v⟩,q4,bad4,rfl,h4.mod m5 fun z hz e=>by omega,((g1.mono fun _ _ e=>e.elim).trans m24).next m5 fun z hz e=>by omega,RdP.attr r2 (RdP.value r3 r4)⟩
theorem rdchg_ok (h:RdS S W c bv b p bad) :
  callK Tryz.prog 113 [.pointer (some ⟨c,0,none⟩)] (fun v w'=>∃ (a:Chg) (q:Nat) (bad1:Bool),v=.agg a.cells.toArray∧RdS S w' c bv b q bad1∧Mod (fun z=>z=c) W w'∧RdP encCh RepC b p bad a q bad1) W:=by
 apply S113_ok
 unfold S113
 have hl:b.length≤1099511627776:=by omega
 have hclt:=h.lt
 refine BoxN.new fun g w1 hg hz g1 b1=>?_
 refine callK_mono (rkey_ok hb hl (h.grow g1)) ?_
 rintro _ w2 ⟨key,q2,bad2,rfl,hk,h2,m2,r2⟩
 refine callK_mono (upto_ok hb hl (most:=255) h2 (by decide)) ?_
 rintro _ w3 ⟨k,q3,bad3,rfl,hk3,h3,m3,r3⟩
 refine conv_u8n hk3 ?_
 rw [eqK_i]
 refine condK_p (fun e=>?_) fun e=>?_
 ·refine ⟨(⟨key,true,AVal.zero⟩:Chg).cells.toArray,by kernel_rfl,?_⟩
  have m23:=m2.trans m3
  have ek:k=0:=by omega
  subst ek
  refine (b1.mod m23 (by omega)).stn (n:=6) (us:=(⟨key,true,AVal.zero⟩:Chg).cells) rfl rfl (RChg.one (w:=w1) rfl) fun w5 b5 m5=>?_
  exact b5.ld (n:=6) rfl ⟨⟨key,true,AVal.zero⟩,q3,bad3,rfl,h3.mod m5 fun z hz e=>by omega,((g1.mono fun _ _ e=>e.elim).trans m23).next m5 fun z hz e=>by omega,RdP.change r2 (RdP.tail (c:=(true,AVal.zero)) r3 (RdP.gone h3.len))⟩
 ·refine callK_mono (rdval_ok hb hl h3 hk3) ?_
  rintro _ w4 ⟨v,q4,bad4,rfl,h4,m4,r4⟩
  refine ⟨(⟨key,false,v⟩:Chg).cells.toArray,by kernel_rfl,?_⟩
  have m24:=(m2.trans m3).trans m4
  refine (b1.mod m24 (by omega)).stn (n:=6) (us:=(⟨key,false,v⟩:Chg).cells) rfl rfl (RChg.one (w:=w1) rfl) fun w5 b5 m5=>?_
  exact b5.ld (n:=6) rfl ⟨⟨key,false,v⟩,q4,bad4,rfl,h4.mod m5 fun z hz e=>by omega,((g1.mono fun _ _ e=>e.elim).trans m24).next m5 fun z hz e=>by omega,RdP.change r2 (RdP.tail (c:=(false,v)) r3 (RdV.kept (by omega) r4))⟩
theorem rdsev_attr (h:RdS S W c bv b p bad) {fv:Value} (hf:∀ W' p' (K:Cont),RdS S W' c bv b p' false→Mod (fun z=>z=c) W W'→(∀ v (a:Attr) q bad1 W'',v=.agg a.cells.toArray→RdS S W'' c bv b q bad1→Mod (fun z=>z=c) W' W''→RdP encAt RepA b p' false a q bad1→K v W'')→callyK Tryz.prog okf fv [] K W') :
  callK Tryz.prog 116 [.pointer (some ⟨c,0,none⟩),fv] (fun v w'=>∃ (l:List Attr) (q:Nat) (bad1:Bool),OwnR W.heap.size 109 5 RAttr w' v l∧l.length≤b.length+1∧RdS S w' c bv b q bad1∧Mod (fun z=>z=c) W w'∧RdP (encM encAt) (RepM RepA) b p bad l q bad1) W:=by
 apply S116_ok
 unfold S116
 have hclt:=h.lt
 have hl':b.length≤1099511627776:=by omega
 obtain ⟨a,n,ebv,_⟩:=h.row.shape
 refine nilckK_s ?_
 rw [faK_i,addr0]
 refine ld1K_i h.c0 ?_
 have hlen:∀ {k:Value→Prop},k (.int .i64 b.length)→lenK bv k:=fun {k} hk=>by subst ebv;rw [lenK_i];exact hk
 refine hlen (conv_64 (by omega) ?_)
 refine callK_mono (upto_ok hb hl' (most:=b.length) h (by omega)) ?_
 rintro _ w1 ⟨n0,p1,badn,rfl,hn0,h1,m1,rn⟩
 refine LoopK_i (fun vs W1=>∃ (l:List Attr) (q:Nat) (bad1:Bool) (m:Nat) (ov:Value),vs=[ov,.int .u64 m]∧RdL encAt RepA b p1 badn n0 l q bad1∧l.length+m=n0∧RdS S W1 c bv b q bad1∧OwnR W.heap.size 109 5 RAttr W1 ov l∧Mod (fun z=>z=c) W W1∧l.length≤b.length+1) (fun vs _=>iOf vs 1)
  ⟨[],p1,badn,n0,.slice none 0 0,rfl,RdL.nil h1.len,by simp,h1,OwnR.nil,m1,by simp⟩ ?_
 rintro vs W1 ⟨l,q,bad1,m,ov,rfl,hL,hlm,hR,ho,hM,hb1⟩ _
 simp only [nth_s,nth_z,List.headD_cons,List.tail_cons]
 have s1:=hM.size
 refine JoinK_i (fun _ W'=>W'=W1∧0 < m∧bad1=false) ?_ ?_
 rotate_left
 ·have out:(bad1=false→l.length=n0)→∃ (l:List Attr) (q:Nat) (bad1:Bool),OwnR W.heap.size 109 5 RAttr W1 ov l∧l.length≤b.length+1∧RdS S W1 c bv b q bad1∧Mod (fun z=>z=c) W W1∧RdP (encM encAt) (RepM RepA) b p bad l q bad1:=fun e=>
   ⟨l,q,bad1,ho,hb1,hR,hM,RdL.done encAt_pos (by omega) rn hL e (Nat.le_refl _) (by omega)⟩
  rw [gtK_i]
  refine condK_p (fun hm=>?_) fun hm=>out fun _=>by omega
  refine nilckK_s ?_
  rw [faK_i,addr0]
  refine ld1K_i hR.c2 ?_
  rw [notK_i]
  refine condK_bb (fun e=>⟨rfl,by omega,by simpa using e⟩) fun e=>out fun e'=>?_
  rw [e'] at e
  cases e
 rintro _ _ ⟨rfl,hm,rfl⟩ _
 rename World=>W1
 have hll:l.length≤b.length:=by
  have h1:=congrArg List.length (hL.sound rfl).2
  have h2:=flat_len_le encAt_pos l
  rw [List.length_append,List.length_drop] at h1
  omega
 refine hf W1 q _ hR hM ?_
 rintro v a q2 bad2 W2 hv hR2 hM2 hP
 subst hv
 have s2:=hM2.size
 have nc:∀ g,ov.ownBlock=some g→W.heap.size≤g∧g < W1.heap.size:=fun g hg=>OwnR.ownB ho g hg
 have ho2:OwnR W.heap.size 109 5 RAttr W2 ov l:=OwnR.mod ho hM2 (fun g hg e=>by have:=(nc g hg).1;omega) fun _ _ _ h=>h
 refine push_g (cs:=a.cells) (x:=a) elem_attr ho2 (by omega) (by kernel_rfl) rfl rfl (fun _ _ _=>RAttr.one) (fun _ _ _ _ _ _ h=>h) (by omega) (by simp only [maxLen];omega) fun v3 W3 o3 m3 own3=>?_
 have hR3:=hR2.mod m3 fun z hz e=>by have:=(nc z e).1;omega
 have hM3:Mod (fun z=>z=c) W W3:=(hM.trans hM2).next m3 fun z hz e=>by have:=(nc z e).1;omega
 rw [subK_i,wrapu64 ⟨by omega,by omega⟩,show ((m:Int) - 1)=((m - 1:Nat):Int) by omega]
 exact ⟨⟨l++[a],q2,bad2,m - 1,v3,rfl,hL.snoc pf_attr (by omega) hP,by rw [List.length_append,List.length_singleton];omega,hR3,o3,hM3,by rw [List.length_append,List.length_singleton];omega⟩,by rw [iOf1,iOf1];omega⟩
theorem rdsev_chg (h:RdS S W c bv b p bad) {fv:Value} (hf:∀ W' p' (K:Cont),RdS S W' c bv b p' false→Mod (fun z=>z=c) W W'→(∀ v (a:Chg) q bad1 W'',v=.agg a.cells.toArray→RdS S W'' c bv b q bad1→Mod (fun z=>z=c) W' W''→RdP encCh RepC b p' false a q bad1→K v W'')→callyK Tryz.prog okf fv [] K W') :
  callK Tryz.prog 112 [.pointer (some ⟨c,0,none⟩),fv] (fun v w'=>∃ (l:List Chg) (q:Nat) (bad1:Bool),OwnR W.heap.size 111 6 RChg w' v l∧l.length≤b.length+1∧RdS S w' c bv b q bad1∧Mod (fun z=>z=c) W w'∧RdP (encM encCh) (RepM RepC) b p bad l q bad1) W:=by
 apply S112_ok
 unfold S112
 have hclt:=h.lt
 have hl':b.length≤1099511627776:=by omega
 obtain ⟨a,n,ebv,_⟩:=h.row.shape
 refine nilckK_s ?_
 rw [faK_i,addr0]
 refine ld1K_i h.c0 ?_
 have hlen:∀ {k:Value→Prop},k (.int .i64 b.length)→lenK bv k:=fun {k} hk=>by subst ebv;rw [lenK_i];exact hk
 refine hlen (conv_64 (by omega) ?_)
 refine callK_mono (upto_ok hb hl' (most:=b.length) h (by omega)) ?_
 rintro _ w1 ⟨n0,p1,badn,rfl,hn0,h1,m1,rn⟩
 refine LoopK_i (fun vs W1=>∃ (l:List Chg) (q:Nat) (bad1:Bool) (m:Nat) (ov:Value),vs=[ov,.int .u64 m]∧RdL encCh RepC b p1 badn n0 l q bad1∧l.length+m=n0∧RdS S W1 c bv b q bad1∧OwnR W.heap.size 111 6 RChg W1 ov l∧Mod (fun z=>z=c) W W1∧l.length≤b.length+1) (fun vs _=>iOf vs 1)
  ⟨[],p1,badn,n0,.slice none 0 0,rfl,RdL.nil h1.len,by simp,h1,OwnR.nil,m1,by simp⟩ ?_
 rintro vs W1 ⟨l,q,bad1,m,ov,rfl,hL,hlm,hR,ho,hM,hb1⟩ _
 simp only [nth_s,nth_z,List.headD_cons,List.tail_cons]
 have s1:=hM.size
 refine JoinK_i (fun _ W'=>W'=W1∧0 < m∧bad1=false) ?_ ?_
 rotate_left
 ·have out:(bad1=false→l.length=n0)→∃ (l:List Chg) (q:Nat) (bad1:Bool),OwnR W.heap.size 111 6 RChg W1 ov l∧l.length≤b.length+1∧RdS S W1 c bv b q bad1∧Mod (fun z=>z=c) W W1∧RdP (encM encCh) (RepM RepC) b p bad l q bad1:=fun e=>
   ⟨l,q,bad1,ho,hb1,hR,hM,RdL.done encCh_pos (by omega) rn hL e (Nat.le_refl _) (by omega)⟩
  rw [gtK_i]
  refine condK_p (fun hm=>?_) fun hm=>out fun _=>by omega
  refine nilckK_s ?_
  rw [faK_i,addr0]
  refine ld1K_i hR.c2 ?_
  rw [notK_i]
  refine condK_bb (fun e=>⟨rfl,by omega,by simpa using e⟩) fun e=>out fun e'=>?_
  rw [e'] at e
  cases e
 rintro _ _ ⟨rfl,hm,rfl⟩ _
 rename World=>W1
 have hll:l.length≤b.length:=by
  have h1:=congrArg List.length (hL.sound rfl).2
  have h2:=flat_len_le encCh_pos l
  rw [List.length_append,List.length_drop] at h1
  omega
 refine hf W1 q _ hR hM ?_
 rintro v a q2 bad2 W2 hv hR2 hM2 hP
 subst hv
 have s2:=hM2.size
 have nc:∀ g,ov.ownBlock=some g→W.heap.size≤g∧g < W1.heap.size:=fun g hg=>OwnR.ownB ho g hg
 have ho2:OwnR W.heap.size 111 6 RChg W2 ov l:=OwnR.mod ho hM2 (fun g hg e=>by have:=(nc g hg).1;omega) fun _ _ _ h=>h
 refine push_g (cs:=a.cells) (x:=a) elem_chg ho2 (by omega) (by kernel_rfl) rfl rfl (fun _ _ _=>RChg.one) (fun _ _ _ _ _ _ h=>h) (by omega) (by simp only [maxLen];omega) fun v3 W3 o3 m3 own3=>?_
 have hR3:=hR2.mod m3 fun z hz e=>by have:=(nc z e).1;omega
 have hM3:Mod (fun z=>z=c) W W3:=(hM.trans hM2).next m3 fun z hz e=>by have:=(nc z e).1;omega
 rw [subK_i,wrapu64 ⟨by omega,by omega⟩,show ((m:Int) - 1)=((m - 1:Nat):Int) by omega]
 exact ⟨⟨l++[a],q2,bad2,m - 1,v3,rfl,hL.snoc pf_chg (by omega) hP,by rw [List.length_append,List.length_singleton];omega,hR3,o3,hM3,by rw [List.length_append,List.length_singleton];omega⟩,by rw [iOf1,iOf1];omega⟩
theorem rdsev_op (h:RdS S W c bv b p bad) {fv:Value} (hf:∀ W' p' (K:Cont),RdS S W' c bv b p' false→Mod (fun z=>z=c) W W'→(∀ v (r:List Value) (o:Dop) q bad1 W'',v=.agg r.toArray∧RDop (fun z=>W'.heap.size≤z) W'' r o→RdS S W'' c bv b q bad1→Mod (fun z=>z=c) W' W''→RdP encOp RepO b p' false o q bad1→K v W'')→callyK Tryz.prog okf fv [] K W') :
  callK Tryz.prog 65 [.pointer (some ⟨c,0,none⟩),fv] (fun v w'=>∃ (l:List Dop) (q:Nat) (bad1:Bool),OwnR W.heap.size 39 5 (RApart (fun z=>W.heap.size≤z) v) w' v l∧l.length≤b.length+1∧RdS S w' c bv b q bad1∧Mod (fun z=>z=c) W w'∧RdP (encM encOp) (RepM RepO) b p bad l q bad1) W:=by
 apply S65_ok
 unfold S65
 have hclt:=h.lt
 have hl':b.length≤1099511627776:=by omega
 obtain ⟨a,n,ebv,_⟩:=h.row.shape
 refine nilckK_s ?_
 rw [faK_i,addr0]
 refine ld1K_i h.c0 ?_
 have hlen:∀ {k:Value→Prop},k (.int .i64 b.length)→lenK bv k:=fun {k} hk=>by subst ebv;rw [lenK_i];exact hk
 refine hlen (conv_64 (by omega) ?_)
 refine callK_mono (upto_ok hb hl' (most:=b.length) h (by omega)) ?_
 rintro _ w1 ⟨n0,p1,badn,rfl,hn0,h1,m1,rn⟩
 refine LoopK_i (fun vs W1=>∃ (l:List Dop) (q:Nat) (bad1:Bool) (m:Nat) (ov:Value),vs=[ov,.int .u64 m]∧RdL encOp RepO b p1 badn n0 l q bad1∧l.length+m=n0∧RdS S W1 c bv b q bad1∧OwnR W.heap.size 39 5 (RApart (fun z=>W.heap.size≤z) ov) W1 ov l∧Mod (fun z=>z=c) W W1∧l.length≤b.length+1) (fun vs _=>iOf vs 1)
  ⟨[],p1,badn,n0,.slice none 0 0,rfl,RdL.nil h1.len,by simp,h1,OwnR.nil,m1,by simp⟩ ?_
 rintro vs W1 ⟨l,q,bad1,m,ov,rfl,hL,hlm,hR,ho,hM,hb1⟩ _
 simp only [nth_s,nth_z,List.headD_cons,List.tail_cons]
 have s1:=hM.size
 refine JoinK_i (fun _ W'=>W'=W1∧0 < m∧bad1=false) ?_ ?_
 rotate_left
 ·have out:(bad1=false→l.length=n0)→∃ (l:List Dop) (q:Nat) (bad1:Bool),OwnR W.heap.size 39 5 (RApart (fun z=>W.heap.size≤z) ov) W1 ov l∧l.length≤b.length+1∧RdS S W1 c bv b q bad1∧Mod (fun z=>z=c) W W1∧RdP (encM encOp) (RepM RepO) b p bad l q bad1:=fun e=>
   ⟨l,q,bad1,ho,hb1,hR,hM,RdL.done encOp_pos (by omega) rn hL e (Nat.le_refl _) (by omega)⟩
  rw [gtK_i]
  refine condK_p (fun hm=>?_) fun hm=>out fun _=>by omega
  refine nilckK_s ?_
  rw [faK_i,addr0]
  refine ld1K_i hR.c2 ?_
  rw [notK_i]
  refine condK_bb (fun e=>⟨rfl,by omega,by simpa using e⟩) fun e=>out fun e'=>?_
  rw [e'] at e
  cases e
 rintro _ _ ⟨rfl,hm,rfl⟩ _
 rename World=>W1
 have hll:l.length≤b.length:=by
  have h1:=congrArg List.length (hL.sound rfl).2
  have h2:=flat_len_le encOp_pos l
  rw [List.length_append,List.length_drop] at h1
  omega
 refine hf W1 q _ hR hM ?_
 rintro v r o q2 bad2 W2 hv hR2 hM2 hP
 obtain ⟨rfl,hv⟩:=hv
 have sh:=hv
 obtain ⟨rv,sv,pv,rfl,r1,r2,r3⟩:=sh
 obtain ⟨a1,c1,rfl,_⟩:=r1.shape
 obtain ⟨a2,c2,rfl,_⟩:=r2.shape
 obtain ⟨a3,c3,rfl,_⟩:=r3.shape
 have s2:=hM2.size
 have nc:∀ g,ov.ownBlock=some g→W.heap.size≤g∧g < W1.heap.size:=fun g hg=>OwnR.ownB ho g hg
 have ho2:OwnR W.heap.size 39 5 (RDop fun z=>z < W2.heap.size∧ov.ownBlock≠some z∧W.heap.size≤z) W2 ov l:=OwnR.mod ho hM2 (fun g hg e=>by have:=(nc g hg).1;omega) fun r y _ hy=>RDop.mod hy hM2 (fun z _ hd e=>by have:=hd.2;omega) fun z hz hd=>⟨by omega,hd⟩
 have hv2:=RDop.mod hv (Mod.refl (fun _=>False) _) (D':=fun z=>z < W2.heap.size∧ov.ownBlock≠some z∧W.heap.size≤z) (fun _ _ _ h=>h) fun z hz hd=>⟨hz,fun e=>by have:=(nc z e).2;omega,by omega⟩
 refine push_g (cs:=[.int .u8 o.kind,.int .i64 o.n,_,_,_]) (x:=o) elem_dop ho2 (by omega) (by kernel_rfl) rfl hv2 (fun _ _ _=>RDop.one) (fun w1 w2 r y hz m hy=>RDop.mod hy m (fun z _ hd e=>by
   rcases e with e | e
   ·exact hd.2.1 e
   ·have:=hd.1;omega) fun _ _ h=>h) (by omega) (by simp only [maxLen];omega) fun v3 W3 o3 m3 own3=>?_
 have hR3:=hR2.mod m3 fun z hz e=>by have:=(nc z e).1;omega
 have hM3:Mod (fun z=>z=c) W W3:=(hM.trans hM2).next m3 fun z hz e=>by have:=(nc z e).1;omega
 rw [subK_i,wrapu64 ⟨by omega,by omega⟩,show ((m:Int) - 1)=((m - 1:Nat):Int) by omega]
 exact ⟨⟨l++[o],q2,bad2,m - 1,v3,rfl,hL.snoc (pf_op (by decide)) (by omega) hP,by rw [List.length_append,List.length_singleton];omega,hR3,apart_push o3 own3,hM3,by rw [List.length_append,List.length_singleton];omega⟩,by rw [iOf1,iOf1];omega⟩
theorem rdop_ok (h:RdS S W c bv b p bad) (hT:Tabs W) (hc3:2≤c) :
  callK Tryz.prog 66 [.pointer (some ⟨c,0,none⟩)] (fun v w'=>∃ (r:List Value) (o:Dop) (q:Nat) (bad1:Bool),(v=.agg r.toArray∧RDop (fun z=>W.heap.size≤z) w' r o)∧RdS S w' c bv b q bad1∧Mod (fun z=>z=c) W w'∧RdP encOp RepO b p bad o q bad1) W:=by
 apply S66_ok
 unfold S66
 have hl':b.length≤1099511627776:=by omega
 have hclt:=h.lt
 refine BoxN.new fun g w1 hg hz g1 b1=>?_
 refine callK_mono (upto_ok hb hl' (most:=255) (h.grow g1) (by decide)) ?_
 rintro _ w2 ⟨k,q2,bad2,rfl,hk,h2,m2,r2⟩
 refine conv_u8n hk ?_
 refine ⟨(row5 ⟨k,0,[],[],[]⟩ (.slice none 0 0) (.slice none 0 0) (.slice none 0 0)).toArray,by kernel_rfl,?_⟩
 have s1:=g1.size
 have s2:=m2.size
 refine newst_n (n:=5) (vs:=row5 ⟨k,0,[],[],[]⟩ (.slice none 0 0) (.slice none 0 0) (.slice none 0 0)) rfl rfl (by simp [row5,Value.oneCell']) fun g3 w3 hg3 hz3 gr3 hcc3 hl3=>?_
 have b3:BoxN w3 g3 (row5 ⟨k,0,[],[],[]⟩ (.slice none 0 0) (.slice none 0 0) (.slice none 0 0)):=⟨fun j u hu=>by have:=hcc3 j u hu;rwa [addr0] at this,fun j hj=>by have:=hl3 j hj;rwa [addr0] at this⟩
 have h3:=h2.grow gr3
 have bx:=(b1.mod m2 (by omega)).mod gr3 fun h=>h
 have m03:Mod (fun z=>z=c) W w3:=((g1.mono fun _ _ e=>e.elim).trans m2).trans (gr3.mono fun _ _ e=>e.elim)
 have s3:=gr3.size
 refine JoinK_i (fun _ W3=>∃ (rv sv pv:Value) (o:Dop) (q:Nat) (bad1:Bool),BoxN W3 g3 [.int .u8 o.kind,.int .i64 o.n,rv,sv,pv]∧BoxN W3 g [.int .u8 0,.int .i64 0,.slice none 0 0,.slice none 0 0,.slice none 0 0]∧(RRun (fun z=>W.heap.size≤z∧z≠g∧z≠g3) W3 rv o.runes∧RSet (fun z=>W.heap.size≤z∧z≠g∧z≠g3) W3 sv o.set∧RPat (fun z=>W.heap.size≤z∧z≠g∧z≠g3) W3 pv o.patch)∧RdS S W3 c bv b q bad1∧Mod (fun z=>z=c) W W3∧RdO 536870912 k b q2 bad2 o q bad1) ?_ ?_
 ·rintro _ W3 ⟨rv,sv,pv,o,q,bad1,b4,bx4,⟨d1,d2,d3⟩,h4,m4,r4⟩ _
  have hD:RDop (fun z=>W.heap.size≤z∧z≠g∧z≠g3) W3 [.int .u8 o.kind,.int .i64 o.n,rv,sv,pv] o:=⟨rv,sv,pv,rfl,d1,d2,d3⟩
  refine b4.ld (n:=5) rfl ?_
  refine bx4.stn (n:=5) (us:=[.int .u8 o.kind,.int .i64 o.n,rv,sv,pv]) rfl rfl hD.one fun W5 b5 m5=>?_
  refine b5.ld (n:=5) rfl ⟨_,o,q,bad1,⟨rfl,hD.mod m5 (fun z _ hz e=>hz.2.1 e) fun z _ hz=>hz.1⟩,h4.mod m5 fun z hz e=>by omega,m4.next m5 fun z hz e=>by omega,RdP.op r2 r4⟩
 ·have c0:w3.cell? ⟨g3,0,none⟩=some (.int .u8 k):=b3.cells 0 _ rfl
  rw [faK_i,addr0]
  refine ld1K_i c0 ?_
  rw [eqK_i]
  refine condK_p (fun e=>?_) fun n1=>?_
  ·have ek:k=1:=by omega
   subst ek
   refine callK_mono (rlen_ok hb hl' h3) ?_
   rintro _ w4 ⟨n,q4,bad4,rfl,hn,h4,m4,r4⟩
   refine (b3.mod m4 (by omega)).st (by simp [row5]) rfl rfl fun w5 b5 m5=>?_
   have h5:=h4.mod m5 fun z hz e=>by omega
   have m05:Mod (fun z=>z=c) W w5:=(m03.trans m4).next m5 fun z hz e=>by omega
   have s5:=(m4.size)
   have s5':=m5.size
   refine callK_mono (rdsev_chg hb hl h5 fun W' p' K hR' _ hK=>callyK_g (bs:=[_]) (cs:=[]) (by kernel_rfl) (callK_mono (rdchg_ok hb hl hR') fun v w' ⟨a,q,bad1,e1,e2,e3,e4⟩=>hK v a q bad1 w' e1 e2 e3 e4)) ?_
   rintro pv w6 ⟨l,q6,bad6,o6,hll,h6,m6,r6⟩
   have one:=OwnR.one o6
   refine ((b5.mod m6 (by omega))).st (by simp [row5]) one.1 one.2 fun w7 b7 m7=>?_
   have bx7:=(((bx.mod m4 (by omega)).mod m5 (by omega)).mod m6 (by omega)).mod m7 (by omega)
   refine ⟨.slice none 0 0,.slice none 0 0,pv,⟨1,n,[],[],l⟩,q6,bad6,b7,bx7,⟨SlR.nil,SlR.nil,?_⟩,h6.mod m7 fun z hz e=>by omega,(m05.trans m6).next m7 fun z hz e=>by omega,RdO.retain (by decide) r4 r6⟩
   exact (SlR.sub (OwnR.sl o6) (S':=fun z=>W.heap.size≤z∧z≠g∧z≠g3) (fun z _ hz=>⟨by have:=hz.1;omega,by have:=hz.1;omega,by have:=hz.1;omega⟩) (by decide) fun _ _ h=>h).mod m7 (fun z _ hz e=>hz.2.2 e) (by decide) fun _ _ h=>h
  rw [eqK_i]
  refine condK_p (fun e=>?_) fun n2=>?_
  ·have ek:k=2:=by omega
   subst ek
   refine callK_mono (rbs_ok hb hl' h3) ?_
   rintro xv w4 ⟨x,q4,bad4,rx,hx,hxl,h4,m4,r4⟩
   have hT4:Tabs w4:=(((hT.grow g1).mod2 m2 fun z hz e=>by omega).grow gr3).mod2 m4 fun z hz e=>by omega
   refine callK_mono (runes_ok rx hx hT4 (by omega)) ?_
   rintro v5 w5 ⟨g5,hm⟩
   have s4:=m4.size
   have s5:=g5.size
   have hread:∃ (sl:Value) (rl:List Int) (e:Int),v5=.tuple #[sl,.int .i64 e]∧OwnR w4.heap.size 21 1 RRune w5 sl rl∧((e=0∧RdP encT RepT b q2 bad2 rl q4 bad4)∨(e≠0∧RdP encT RepT b q2 bad2 rl q4 true)):=by
    cases hr:readB x with
    | some rl=>
     rw [hr] at hm
     obtain ⟨sl,e1,osl⟩:=hm
     exact ⟨sl,rl,0,e1,osl,.inl ⟨rfl,RdP.text hx r4 hr⟩⟩
    | none=>
     rw [hr] at hm
     exact ⟨_,[],3,hm,OwnR.nil,.inr ⟨by decide,RdP.text_bad r4 hr⟩⟩
   obtain ⟨sl,rl,e5,rfl,osl,hcase⟩:=hread
   refine extK_i (vs:=[_,_]) rfl (extK_i (vs:=[_,_]) rfl ?_)
   have h5:=h4.grow g5
   refine JoinK_i (fun _ W'=>∃ badx:Bool,RdS S W' c bv b q4 badx∧Mod (fun z=>z=c) w5 W'∧RdP encT RepT b q2 bad2 rl q4 badx) ?_ ?_
   rotate_left
   ·rw [neK_i]
    rcases hcase with ⟨rfl,r5⟩ | ⟨hne,r5⟩
    ·exact condK_neg (fun _=>⟨bad4,h5,Mod.refl _ _,r5⟩) fun e=>(e rfl).elim
    ·exact condK_neg (fun e=>(hne e).elim) fun _=>h5.bads fun w6 h6 m6=>⟨true,h6,m6,r5⟩
   rintro _ w6 ⟨badx,h6,m6,r6⟩ _
   have s6:=m6.size
   refine callK_mono (rdsev_attr hb hl h6 fun W' p' K hR' _ hK=>callyK_g (bs:=[_]) (cs:=[]) (by kernel_rfl) (callK_mono (rdattr_ok hb hl hR') fun v w' ⟨a,q,bad1,e1,e2,e3,e4⟩=>hK v a q bad1 w' e1 e2 e3 e4)) ?_
   rintro sv w7 ⟨l,q7,bad7,o7,hll,h7,m7,r7⟩
   have s7:=m7.size
   have one1:=OwnR.one osl
   have one2:=OwnR.one o7
   have b7:=(((b3.mod m4 (by omega)).mod g5 fun h=>h).mod m6 (by omega)).mod m7 (by omega)
   have bx7:=(((bx.mod m4 (by omega)).mod g5 fun h=>h).mod m6 (by omega)).mod m7 (by omega)
   have osl7:=(OwnR.mod (R':=RRune) osl (m6.trans m7) (fun z hz e=>by have:=(OwnR.ownB osl z hz).1;omega) fun _ _ _ h=>h)
   have m07:Mod (fun z=>z=c) W w7:=((m03.trans m4).trans (g5.mono fun _ _ e=>e.elim)).trans (m6.trans m7)
   refine b7.st (by simp [row5]) one1.1 one1.2 fun w8 b8 m8=>?_
   refine b8.st (by simp [row5]) one2.1 one2.2 fun w9 b9 m9=>?_
   have m79:=m8.trans m9
   refine ⟨sl,sv,.slice none 0 0,⟨2,0,rl,l,[]⟩,q7,bad7,b9,bx7.mod m79 (by omega),⟨?_,?_,SlR.nil⟩,h7.mod m79 fun z hz e=>by omega,m07.next m79 fun z hz e=>by omega,RdO.insert r6 r7⟩
   ·exact (SlR.sub (OwnR.sl osl7) (S':=fun z=>W.heap.size≤z∧z≠g∧z≠g3) (fun z _ hz=>⟨by have:=hz.1;omega,by have:=hz.1;omega,by have:=hz.1;omega⟩) (by decide) fun _ _ h=>h).mod m79 (fun z _ hz e=>hz.2.2 e) (by decide) fun _ _ h=>h
   ·exact (SlR.sub (OwnR.sl o7) (S':=fun z=>W.heap.size≤z∧z≠g∧z≠g3) (fun z _ hz=>⟨by have:=hz.1;omega,by have:=hz.1;omega,by have:=hz.1;omega⟩) (by decide) fun _ _ h=>h).mod m79 (fun z _ hz e=>hz.2.2 e) (by decide) fun _ _ h=>h
  rw [eqK_i]
  refine condK_p (fun e=>?_) fun n3=>?_
  ·have ek:k=3:=by omega
   subst ek
   refine callK_mono (rlen_ok hb hl' h3) ?_
   rintro _ w4 ⟨n,q4,bad4,rfl,hn,h4,m4,r4⟩
   refine (b3.mod m4 (by omega)).st (by simp [row5]) rfl rfl fun w5 b5 m5=>?_
   refine ⟨.slice none 0 0,.slice none 0 0,.slice none 0 0,⟨3,n,[],[],[]⟩,q4,bad4,b5,(bx.mod m4 (by omega)).mod m5 (by omega),⟨SlR.nil,SlR.nil,SlR.nil⟩,h4.mod m5 fun z hz e=>by omega,(m03.trans m4).next m5 fun z hz e=>by omega,RdO.delete r4⟩
  ·refine h3.bads fun w4 h4 m4=>?_
   exact ⟨.slice none 0 0,.slice none 0 0,.slice none 0 0,⟨k,0,[],[],[]⟩,q2,true,b3.mod m4 (by omega),bx.mod m4 (by omega),⟨SlR.nil,SlR.nil,SlR.nil⟩,h4,m03.trans m4,RdO.bads h2.len (by omega)⟩
end
end Go.Proofs.YtlbaopamhkmepaaGreatDoor

namespace Go.Proofs.YtlbaopamhkmepaaGreatDoor
open Go Go.K

theorem encode_ok {E S D:Nat→Prop} {sv xv:Value} {ks:List DKey} {x:List Dop} {w:World} (hS:SchR E w sv ks) (h:RDops S D w xv x) (hT:Tabs w) (hB:∀ o ∈ x,InB o) (hK:∀ k ∈ ks,0≤k.id) (hb:mDops x≤1048576) :
  callK Tryz.prog 37 [sv,xv] (fun v' w'=>Grow w w'∧∃ bv,v'=.tuple #[bv,.int .i64 (mayOps ks x)]∧(mayOps ks x=0→OBytes w.heap.size w' bv (encL (normB x)))∧(mayOps ks x≠0→bv=.slice none 0 0)) w:=by
 apply S37_ok
 unfold S37
 refine callK_mono (maypo_ok hS h hT fun o ho=>(hB o ho).o) ?_
 rintro _ w1 ⟨rfl,g1⟩
 rw [neK_i]
 refine condK_neg (fun e=>?_) fun e=>?_
 rotate_left
 ·exact ⟨g1,.slice none 0 0,rfl,fun e'=>(e e').elim,fun _=>rfl⟩
 refine ⟨#[.slice none 0 0],by kernel_rfl,?_⟩
 refine boxn_i (vs:=[.slice none 0 0]) fun c w2 hc hz g2 hcell hlive=>?_
 refine callK_mono (of_dops ((h.grow g1).grow g2) (by omega)) ?_
 rintro xv3 w3 ⟨ho3,g3⟩
 have hx3:=ho3.reads
 have hlen:=mDops_len x
 obtain ⟨_,_,hRep,_,_⟩:=norm_may hK e hB (by omega)
 have hmm:=normB_mm x
 have c3:w3.cell? ⟨c,0,none⟩=some (.slice none 0 0):=g3.cell (by have:=hcell 0 _ rfl;rwa [addr0] at this) fun h=>h
 have l3:Live w3 ⟨c,0,none⟩:=Live.mod (by have:=hlive 0 (by simp);rwa [addr0] at this) g3 fun h=>h
 have hw:WrI (fun z=>z=c∨w3.heap.size≤z) w3 c []:=⟨⟨_,c3,OwnR.nil,fun g hg=>(nomatch hg)⟩,l3,.inl rfl,fun z hz=>.inr hz⟩
 have sep:∀ z,(w2.heap.size≤z∧z < w3.heap.size)→¬ (z=c∨w3.heap.size≤z):=fun z hz e=>by omega
 have hel:=encL_len (normB x)
 refine callK_mono (wlist_op hw hx3 (fun W' r a m hr=>hr.mod m (fun z _ hz=>sep z hz) fun _ _ h=>h) sep (by simp) fun i hi W' r l' hw' m hr hl' K hK'=>?_) ?_
 ·have hmo:=mDops_mem (List.getElem_mem hi)
  have hfl:((normB x).flatMap encOp).length≤60 * mDops (normB x):=flat_sum encOp_len _
  rw [List.length_nil] at hl'
  exact callyK_g (bs:=[_]) (cs:=[]) (by kernel_rfl) (callK_mono (wop_ok hw' hr sep (hRep.2 _ (List.getElem_mem hi)) (by omega)) hK')
 ·rintro _ w4 ⟨h4,m4⟩
  obtain ⟨bv,hb4,ob4,own4⟩:=h4.ex
  refine nilckK_s ?_
  rw [faK_i,addr0]
  refine ld1K_i hb4 ?_
  have g13:=(g1.trans g2).trans g3
  have s1:=g1.size
  have s3:=(g1.trans g2).size
  have s4:=g3.size
  rw [List.nil_append] at ob4
  refine ⟨g13.next m4 fun z hz e=>by omega,bv,by rw [e],fun _=>ob4.base fun g hg=>?_,fun hn=>(hn e).elim⟩
  rcases (own4 g hg).1 with e' | e' <;> omega
end Go.Proofs.YtlbaopamhkmepaaGreatDoor

namespace Go.Proofs.YtlbaopamhkmepaaGreatDoor
open Go Go.K

theorem encV_size (v:AVal):(if v.kind=4 then v.s.size else 0)≤(encV v).length:=by
 unfold encV
 rw [List.length_append]
 split
 ·rename_i h;simp only [h,show ¬ ((4:Int)=1∨(4:Int)=2) by decide,show ¬ (4:Int)=3 by decide,if_false,if_true,List.length_append,bytesL_len];omega
 ·omega
theorem RepV.size {v:AVal} (h:RepV v):v.s.size≤(encV v).length:=by
 have:=encV_size v
 rcases h with ⟨_,_,_,h⟩ | ⟨_,_,_,h⟩ | ⟨h,_⟩
 ·rw [h];exact Nat.zero_le _
 ·rw [h];exact Nat.zero_le _
 ·rw [if_pos h] at this;exact this
theorem sum_flat {α:Type} {f:α→List Int} {m:α→Nat} {R:α→Prop} (h:∀ a,R a→m a≤(f a).length):∀ l:List α,(∀ a ∈ l,R a)→(l.map m).sum≤(l.flatMap f).length:=by
 intro l
 induction l with
 | nil=>simp
 | cons a l ih=>
  intro hl
  have h1:=h a (hl a (by simp))
  have h2:=ih fun x hx=>hl x (by simp [hx])
  simp only [List.flatMap_cons,List.length_append,List.map_cons,List.sum_cons];omega
theorem RepA.size {a:Attr} (h:RepA a):mAttr a≤(encAt a).length:=by
 have h1:=uv_pos a.key.toNat
 have h2:=h.2.size
 unfold encAt mAttr;rw [List.length_append];omega
theorem RepC.size {a:Chg} (h:RepC a):mChg a≤(encCh a).length:=by
 have h1:=uv_pos a.key.toNat
 unfold encCh mChg;rw [List.length_append]
 rcases h.2 with ⟨hg,hz⟩ | ⟨hg,hv⟩
 ·rw [hz]
  have:AVal.zero.s.size=0:=rfl
  omega
 ·have:=hv.size
  rw [hg]
  simp only [Bool.false_eq_true,if_false];omega
theorem runes_len (l:List Int):l.length≤(textR l).length:=flat_len_le (fun r=>(oneB_len r).1) l
theorem RepO.size {m:Int} {o:Dop} (h:RepOm m o):mDop o≤(encOp o).length:=by
 have h1:=uv_pos o.kind.toNat
 unfold mDop
 have hs:=sum_flat (m:=mAttr) (fun a (h:RepA a)=>h.size) o.set
 have hp:=sum_flat (m:=mChg) (fun a (h:RepC a)=>h.size) o.patch
 have e1:(o.set.map mAttr).sum=mSet o.set:=rfl
 have e2:(o.patch.map mChg).sum=mPat o.patch:=rfl
 have hr:=runes_len o.runes
 unfold encOp
 rw [List.length_append]
 rcases h with ⟨h1,h2,h3,h4,h5⟩ | ⟨h1,h2,h3,h4,h5,h6⟩ | ⟨h1,h2,h3,h4,h5⟩
 ·have:=hp h5.2
  rw [if_pos h1,h3,h4]
  unfold encM
  simp only [List.length_append,List.length_nil,mSet,List.map_nil,List.sum_nil] at *;omega
 ·have:=hs h5.2
  rw [if_neg (by omega),if_pos h1,h6]
  unfold encM encX
  simp only [List.length_append,List.length_nil,mPat,List.map_nil,List.sum_nil] at *;omega
 ·rw [h3,h4,h5]
  simp only [List.length_nil,mSet,mPat,List.map_nil,List.sum_nil];omega
theorem encL_size {m:Int} {x:List Dop} (h:RepM (RepOm m) x):mDops x≤(encL x).length:=by
 have h1:=sum_flat (m:=mDop) (fun a (h:RepOm m a)=>RepO.size h) x h.2
 have e1:(x.map mDop).sum=mDops x:=rfl
 unfold encL encM
 rw [List.length_append];omega
theorem RepV.inv {v:AVal} (h:RepV v):InVB v:=by
 unfold InVB
 rcases h with ⟨_,h,hf,_⟩ | ⟨_,hn,h,_⟩ | ⟨_,hn,hf,_⟩
 ·exact ⟨h,by rw [hf];omega,by rw [hf];omega⟩
 ·exact ⟨⟨by omega,by omega⟩,h⟩
 ·exact ⟨⟨by omega,by omega⟩,by rw [hf];omega,by rw [hf];omega⟩
theorem RepO.inb {o:Dop} (h:RepO o):InB o:=by
 have k63:∀ k,Key63 k→k≤9223372036854775807:=fun k hk=>by unfold Key63 at hk;omega
 have hz:InVB AVal.zero:=⟨⟨by decide,by decide⟩,by decide,by decide⟩
 rcases h with ⟨h1,h2,h3,h4,h5⟩ | ⟨h1,h2,h3,h4,h5,h6⟩ | ⟨h1,h2,h3,h4,h5⟩
 ·refine ⟨by rw [h4];simp,fun c hc=>?_⟩
  have:=h5.2 c hc
  refine ⟨k63 _ this.1,?_⟩
  rcases this.2 with ⟨_,e⟩ | ⟨_,e⟩
  ·rw [e];exact hz
  ·exact e.inv
 ·refine ⟨fun a ha=>?_,by rw [h6];simp⟩
  have:=h5.2 a ha
  exact ⟨k63 _ this.1,this.2.inv⟩
 ·exact ⟨by rw [h4];simp,by rw [h5];simp⟩
theorem decode_ok {E S:Nat→Prop} {sv bv:Value} {ks:List DKey} {b:List Int} {w:World} (hS:SchR E w sv ks) (h:RBytes S w bv b) (hb:∀ x ∈ b,0≤x∧x < 256) (hT:Tabs w) (hl:b.length≤1048576) :
  callK Tryz.prog 39 [sv,bv] (fun v' w'=>Grow w w'∧∃ xv,v'=.tuple #[xv,.int .i64 (decB ks b).2]∧RDops (fun z=>w.heap.size≤z) (fun z=>w.heap.size≤z) w' xv (decB ks b).1) w:=by
 apply S39_ok
 unfold S39
 have hsh:=h.shape
 obtain ⟨a,n,ebv,_⟩:=hsh
 refine ⟨#[bv,.int .i64 0,.bool false],by subst ebv;kernel_rfl,?_⟩
 refine boxn_i (vs:=[bv,.int .i64 0,.bool false]) fun c w1 hc hz g1 hcell hlive=>?_
 have k1:∀ j u,[bv,.int .i64 0,.bool false][j]?=some u→w1.cell? ⟨c,j,none⟩=some u:=fun j u hu=>by have:=hcell j u hu;rwa [addr0] at this
 have k2:∀ j,j < 3→Live w1 ⟨c,j,none⟩:=fun j hj=>by have:=hlive j (by simpa using hj);rwa [addr0] at this
 have hr:RdS (fun z=>z < w.heap.size) w1 c bv b 0 false:=
  ⟨k1 0 _ rfl,k1 1 _ rfl,k1 2 _ rfl,k2 1 (by decide),k2 2 (by decide),h.mono (fun z hz _=>hz) (fun z hz _=>g1.same z hz fun h=>h) (by decide) fun _ _ h=>h,fun z hz=>by omega,Nat.zero_le _⟩
 have hT1:=hT.grow g1
 have hc2:2≤c:=by
  have h1:=hT.size
  have e:1=1:=rfl
  omega
 have hl':b.length≤1099511620000:=by omega
 refine callK_mono (rdsev_op hb hl' hr fun W' p' K hR' hm' hK=>callyK_g (bs:=[_]) (cs:=[]) (by kernel_rfl) (callK_mono (rdop_ok hb hl' hR' (hT1.mod2 hm' fun z hz e=>by omega) hc2) fun v w' ⟨r,o,q,bad1,e1,e2,e3,e4⟩=>hK v r o q bad1 w' e1 e2 e3 e4)) ?_
 rintro xv w2 ⟨x,q,bad,o2,hxl,h2,m2,r2⟩
 have s1:=g1.size
 have s2:=m2.size
 have g02:Grow w w2:=g1.next m2 fun z hz e=>by omega
 have hx2:RDops (fun z=>w.heap.size≤z) (fun z=>w.heap.size≤z) w2 xv x:=SlR.sub (OwnR.sl o2) (fun z _ hz=>by have:=hz.1;omega) (by decide) fun r y hy=>RDop.mod hy (Mod.refl (fun _=>False) _) (fun _ _ _ h=>h) fun z _ hz=>by have:=hz.2;omega
 have nil3:∀ {w3:World},Grow w w3→decB ks b=([],3)→Grow w w3∧∃ yv,(.tuple #[.slice none 0 0,.int .i64 3]:Value)=.tuple #[yv,.int .i64 (decB ks b).2]∧RDops (fun z=>w.heap.size≤z) (fun z=>w.heap.size≤z) w3 yv (decB ks b).1:=fun g e=>⟨g,_,by rw [e],by rw [e];exact SlR.nil⟩
 refine JoinK_i (fun _ W=>W=w2∧bad=false∧q=b.length) ?_ ?_
 ·rintro _ _ ⟨rfl,rfl,rfl⟩ _
  rename World=>w2
  obtain ⟨hrep,hd⟩:=r2.sound rfl
  rw [List.drop_zero,List.drop_length,List.append_nil] at hd
  have he:encL x=b:=hd.symm
  have hm:=encL_size hrep
  rw [he] at hm
  refine callK_mono (maypo_ok (hS.grow g02) hx2 (hT.grow g02) fun o ho=>(RepO.inb (hrep.2 o ho)).o) ?_
  rintro _ w3 ⟨rfl,g3⟩
  rw [eqK_i]
  refine condK_p (fun e=>?_) fun n3=>?_
  ·rw [e]
   refine nil3 (g02.trans g3) (decB_none fun y hy hey=>.inl ?_)
   rw [encL_inj hy hrep (hey.trans he.symm)];exact e
  refine callK_mono (is_dops (hx2.grow g3) (by omega)) ?_
  rintro _ w4 ⟨rfl,g4⟩
  have hln:=mDops_len x
  have hrof:=may_rof n3 (by omega)
  rw [notK_i]
  refine condK_bb (fun e=>?_) fun e=>?_
  ·refine nil3 ((g02.trans g3).trans g4) (decB_none fun y hy hey=>.inr ?_)
   rw [encL_inj hy hrep (hey.trans he.symm),←hrof]
   simpa using e
  have hfix:rof x=x:=by rw [←hrof];simpa using e
  have hdec:=decB_enc hrep n3 hfix
  rw [he] at hdec
  rw [neK_i]
  refine condK_neg (fun e0=>?_) fun e0=>?_
  ·rw [if_pos e0] at hdec
   rw [hdec]
   exact ⟨(g02.trans g3).trans g4,xv,rfl,(hx2.grow g3).grow g4⟩
  ·rw [if_neg e0] at hdec
   rw [hdec]
   exact ⟨(g02.trans g3).trans g4,_,rfl,SlR.nil⟩
 ·have no:¬ (bad=false∧q=b.length)→decB ks b=([],3):=fun hn=>decB_none fun y hy hey=>by
   have e0:b.drop 0=encM encOp y++[]:=by rw [List.drop_zero,List.append_nil];exact hey.symm
   have hb0:=r2.full rfl y [] hy e0
   obtain ⟨hrep,hd⟩:=r2.sound hb0
   rw [e0] at hd
   have:=(pf_ops y x [] _ hy hrep hd).2
   have hq:=congrArg List.length this
   rw [List.length_drop,List.length_nil] at hq
   have:=h2.len
   exact (hn ⟨hb0,by omega⟩).elim
  refine nilckK_s ?_
  rw [faK_i,addr0]
  refine ld1K_i h2.c2 ?_
  refine condK_bb (fun e=>nil3 g02 (no fun h=>by rw [h.1] at e;cases e)) fun e=>?_
  refine nilckK_s ?_
  rw [faK_i,addr0]
  refine ld1K_i h2.c1 ?_
  have hlen:∀ {k:Value→Prop},k (.int .i64 b.length)→lenK bv k:=fun {k} hk=>by subst ebv;rw [lenK_i];exact hk
  refine hlen ?_
  rw [neK_i]
  exact condK_neg (fun e'=>⟨rfl,e,by omega⟩) fun e'=>nil3 g02 (no fun h=>e' (by rw [h.2]))
end Go.Proofs.YtlbaopamhkmepaaGreatDoor

namespace Go.Proofs.YtlbaopamhkmepaaGreatDoor
open Go Go.K

def key17:List DKey:=[⟨5,false,2,false,false,0⟩]
def del17:List Dop:=[⟨1,2,[],[],[]⟩,⟨2,0,[97],[],[]⟩,⟨2,0,[98],[],[]⟩]
def pat17:List Dop:=[⟨1,1,[],[],[⟨5,false,⟨2,3,0,noS⟩⟩]⟩]
theorem decB_norm {ks:List DKey} {x:List Dop} (hk:∀ k ∈ ks,0≤k.id) (h:mayOps ks x=0) (hb:∀ o ∈ x,InB o) (hl:x.length≤1048576):decB ks (encL (normB x))=(normB x,0):=by
 obtain ⟨h1,_,h3,h4,h5⟩:=norm_may hk h hb hl
 have hr:=may_rof (x:=normB x) (by rw [h1];decide) (by omega)
 rw [h4] at hr
 rw [decB_enc h3 (by rw [h1];decide) hr.symm,if_pos h1]
theorem may17:mayOps key17 []=0∧mayOps key17 del17=0∧mayOps key17 pat17=0:=by
 refine ⟨good_may (by simp) (by decide),good_may (fun o ho=>?_) (by decide),good_may (fun o ho=>?_) (by decide)⟩
 ·simp only [del17,List.mem_cons,List.not_mem_nil,or_false] at ho
  rcases ho with rfl | rfl | rfl
  ·exact .inl ⟨rfl,rfl,rfl,by decide,patK_nil⟩
  ·exact .inr (.inr ⟨rfl,fun r hr=>by simp at hr;subst hr;unfold MayR;decide,rfl,rfl,by simp,setK_nil⟩)
  ·exact .inr (.inr ⟨rfl,fun r hr=>by simp at hr;subst hr;unfold MayR;decide,rfl,rfl,by simp,setK_nil⟩)
 ·simp only [pat17,List.mem_cons,List.not_mem_nil,or_false] at ho
  subst ho
  refine .inl ⟨rfl,rfl,rfl,by decide,⟨List.pairwise_singleton _ _,by simp,fun c hc=>?_⟩⟩
  simp at hc;subst hc
  refine ⟨fun h=>(by cases h),fun _=>⟨.inr (.inl ⟨rfl,rfl⟩),⟨_,rfl,.inr (.inl ⟨rfl,rfl⟩),rfl⟩⟩,by decide⟩
theorem inb17:(∀ o ∈ del17,InB o)∧∀ o ∈ pat17,InB o:=by
 refine ⟨fun o ho=>?_,fun o ho=>?_⟩
 ·simp only [del17,List.mem_cons,List.not_mem_nil,or_false] at ho
  rcases ho with rfl | rfl | rfl <;> exact ⟨by simp,by simp⟩
 ·simp only [pat17,List.mem_cons,List.not_mem_nil,or_false] at ho
  subst ho
  refine ⟨by simp,fun c hc=>?_⟩
  simp at hc;subst hc
  exact ⟨by decide,⟨by decide,by decide⟩,by decide,by decide⟩
theorem bytes17:encL (normB [])=[0]∧encL (normB del17)=[2,1,2,0,2,2,97,98,0]∧encL (normB pat17)=[1,1,1,1,5,2,6]∧normB pat17=pat17:=by
 refine ⟨by decide +kernel,by decide +kernel,by decide +kernel,by decide +kernel⟩
theorem str17:strOf [0]=ByteArray.mk #[0]∧strOf [2,1,2,0,2,2,97,98,0]=ByteArray.mk #[2,1,2,0,2,2,97,98,0]∧strOf [1,1,1,1,5,2,6]=ByteArray.mk #[1,1,1,1,5,2,6]:=by
 refine ⟨by kernel_rfl,by kernel_rfl,by kernel_rfl⟩
theorem known17_ok {w:World} (hT:Tabs w):callK Tryz.prog 36 [] (fun v w'=>v=.bool true∧Grow w w') w:=by
 apply S36_ok
 unfold S36
 refine ⟨(⟨5,false,2,false,false,0⟩:DKey).cells.toArray,by kernel_rfl,?_⟩
 refine rowK_i (cs:=(key17.map DKey.cells).flatten) (by kernel_rfl) ?_
 have hK:=sl_keys (w:=w) key17 (by decide)
 have g1:Grow w (w.alloc (.cells (key17.map DKey.cells).flatten.toArray 84)):=Mod.alloc _ _ _
 show callK Tryz.prog 14 [.slice (some ⟨w.heap.size,0,none⟩) 1 1] _ _
 generalize w.alloc (.cells (key17.map DKey.cells).flatten.toArray 84)=w1 at hK g1 ⊢
 refine callK_mono (new_key_ok hK) ?_
 rintro _ w2 ⟨g2,hr⟩
 have hM:MayKeys key17:=mayk_iff.2 ⟨by decide,fun k hk=>by
  simp only [key17,List.mem_cons,List.not_mem_nil,or_false] at hk
  subst hk;unfold KeyOK;decide,by unfold Dist;decide⟩
 rcases hr with ⟨_,sv,ks,rfl,hp,hs,hS⟩ | ⟨hn,_⟩
 rotate_left
 ·exact (hn hM).elim
 have hks:ks=key17:=List.perm_singleton.1 hp
 subst hks
 have hkp:∀ k ∈ key17,0≤k.id:=fun k hk=>by
  simp only [key17,List.mem_cons,List.not_mem_nil,or_false] at hk
  subst hk;decide
 refine extK_i (vs:=[_,_]) (by rfl) (extK_i (vs:=[_,_]) (by rfl) ?_)
 obtain ⟨m1,m2,m3⟩:=may17
 obtain ⟨i2,i3⟩:=inb17
 obtain ⟨b1,b2,b3,b4⟩:=bytes17
 obtain ⟨t1,t2,t3⟩:=str17
 have g02:=g1.trans g2
 refine callK_mono (encode_ok hS (SlR.nil:RDops (fun _=>True) (fun _=>True) w2 (.slice none 0 0) []) (hT.grow g02) (by simp) hkp (by decide)) ?_
 rintro _ w3 ⟨g3,bv1,rfl,ob1,_⟩
 have ob1:=ob1 m1
 rw [m1]
 refine extK_i (vs:=[_,_]) (by rfl) (extK_i (vs:=[_,_]) (by rfl) ?_)
 refine ⟨#[.int .u8 1,.int .i64 2,.slice none 0 0,.slice none 0 0,.slice none 0 0],by kernel_rfl,?_⟩
 refine row1_i fun w4 g4 z4 c4=>?_
 have r4:=run1 (w:=w) c4
 generalize Value.slice (some ⟨w3.heap.size,0,none⟩) 1 1=v4 at r4 ⊢
 obtain ⟨p4,q4,rfl,_⟩:=r4.shape
 refine ⟨#[.int .u8 2,.int .i64 0,.slice p4 1 q4,.slice none 0 0,.slice none 0 0],by kernel_rfl,?_⟩
 refine row1_i fun w5 g5 z5 c5=>?_
 have r5:=run1 (w:=w) c5
 generalize Value.slice (some ⟨w4.heap.size,0,none⟩) 1 1=v5 at r5 ⊢
 obtain ⟨p5,q5,rfl,_⟩:=r5.shape
 refine ⟨#[.int .u8 2,.int .i64 0,.slice p5 1 q5,.slice none 0 0,.slice none 0 0],by kernel_rfl,?_⟩
 let rows:List (List Value):=[row5 ⟨1,2,[],[],[]⟩ (.slice none 0 0) (.slice none 0 0) (.slice none 0 0),row5 ⟨2,0,[97],[],[]⟩ (.slice p4 1 q4) (.slice none 0 0) (.slice none 0 0),row5 ⟨2,0,[98],[],[]⟩ (.slice p5 1 q5) (.slice none 0 0) (.slice none 0 0)]
 refine rowK_i (cs:=rows.flatten) (by kernel_rfl) ?_
 have g6:Grow w5 (w5.alloc (.cells rows.flatten.toArray 39)):=Mod.alloc _ _ _
 have hL:RDops (fun b=>b=w5.heap.size) (fun _=>True) (w5.alloc (.cells rows.flatten.toArray 39)) (.slice (some ⟨w5.heap.size,0,none⟩) 3 3) del17:=by
  refine SlR.made (l:=del17) (t:=39) rows (by simp [rows]) rfl (by simp [maxLen,del17]) fun i r x hr hx=>?_
  match i with
  | 0=>cases hr;cases hx;exact ⟨_,_,_,rfl,SlR.nil,SlR.nil,SlR.nil⟩
  | 1=>cases hr;cases hx;exact ⟨_,_,_,rfl,(r4.grow g5 (by decide) fun _ _ h=>h).grow g6 (by decide) fun _ _ h=>h,SlR.nil,SlR.nil⟩
  | 2=>cases hr;cases hx;exact ⟨_,_,_,rfl,r5.grow g6 (by decide) fun _ _ h=>h,SlR.nil,SlR.nil⟩
  | i+3=>simp [rows] at hr
 generalize w5.alloc (.cells rows.flatten.toArray 39)=w6 at hL g6 ⊢
 have g26:=((g3.trans g4).trans g5).trans g6
 have g06:=g02.trans g26
 refine callK_mono (encode_ok (hS.grow g26) hL (hT.grow g06) i2 hkp (by decide +kernel)) ?_
 rintro _ w7 ⟨g7,bv2,rfl,ob2,_⟩
 have ob2:=ob2 m2
 rw [m2]
 refine extK_i (vs:=[_,_]) (by rfl) (extK_i (vs:=[_,_]) (by rfl) ?_)
 refine ⟨(⟨2,3,0,noS⟩:AVal).cells.toArray,by kernel_rfl,⟨(⟨5,false,⟨2,3,0,noS⟩⟩:Chg).cells.toArray,by kernel_rfl,?_⟩⟩
 refine rowK_i (cs:=(⟨5,false,⟨2,3,0,noS⟩⟩:Chg).cells) (by kernel_rfl) ?_
 have g8:Grow w7 (w7.alloc (.cells (⟨5,false,⟨2,3,0,noS⟩⟩:Chg).cells.toArray 111)):=Mod.alloc _ _ _
 have hP:RPat (fun _=>True) (w7.alloc (.cells (⟨5,false,⟨2,3,0,noS⟩⟩:Chg).cells.toArray 111)) (.slice (some ⟨w7.heap.size,0,none⟩) 1 1) [⟨5,false,⟨2,3,0,noS⟩⟩]:=
  (SlR.made (R:=RChg) (l:=[(⟨5,false,⟨2,3,0,noS⟩⟩:Chg)]) (t:=111) (w:=w7) [(⟨5,false,⟨2,3,0,noS⟩⟩:Chg).cells] (fun r hr=>by rw [List.mem_singleton.1 hr];rfl) rfl (by simp [maxLen]) fun i r x hr hx=>by
   match i with
   | 0=>cases hr;cases hx;rfl
   | i+1=>simp at hr).sub (fun _ _ _=>trivial) (by decide) fun _ _ h=>h
 generalize w7.alloc (.cells (⟨5,false,⟨2,3,0,noS⟩⟩:Chg).cells.toArray 111)=w8 at hP g8 ⊢
 generalize Value.slice (some ⟨w7.heap.size,0,none⟩) 1 1=v8 at hP ⊢
 obtain ⟨p8,q8,rfl,_⟩:=hP.shape
 refine ⟨#[.int .u8 1,.int .i64 1,.slice none 0 0,.slice none 0 0,.slice p8 1 q8],by kernel_rfl,?_⟩
 let rows2:List (List Value):=[row5 ⟨1,1,[],[],[]⟩ (.slice none 0 0) (.slice none 0 0) (.slice p8 1 q8)]
 refine rowK_i (cs:=rows2.flatten) (by kernel_rfl) ?_
 have g9:Grow w8 (w8.alloc (.cells rows2.flatten.toArray 39)):=Mod.alloc _ _ _
 have hM:RDops (fun b=>b=w8.heap.size) (fun _=>True) (w8.alloc (.cells rows2.flatten.toArray 39)) (.slice (some ⟨w8.heap.size,0,none⟩) 1 1) pat17:=by
  refine SlR.made (l:=pat17) (t:=39) rows2 (by simp [rows2]) rfl (by simp [maxLen,pat17]) fun i r x hr hx=>?_
  match i with
  | 0=>cases hr;cases hx;exact ⟨_,_,_,rfl,SlR.nil,SlR.nil,hP.grow g9 (by decide) fun _ _ h=>h⟩
  | i+1=>simp [rows2] at hr
 generalize w8.alloc (.cells rows2.flatten.toArray 39)=w9 at hM g9 ⊢
 have g69:=(g7.trans g8).trans g9
 have g29:=g26.trans g69
 have g09:=g02.trans g29
 refine callK_mono (encode_ok (hS.grow g29) hM (hT.grow g09) i3 hkp (by decide +kernel)) ?_
 rintro _ w10 ⟨g10,bv3,rfl,ob3,_⟩
 have ob3:=ob3 m3
 rw [m3]
 refine extK_i (vs:=[_,_]) (by rfl) (extK_i (vs:=[_,_]) (by rfl) ?_)
 have hd3:=decB_norm hkp m3 i3 (by decide +kernel)
 rw [b3,b4] at hd3
 rw [b3] at ob3
 rw [b2] at ob2
 rw [b1] at ob1
 refine callK_mono (decode_ok (hS.grow (g29.trans g10)) (OwnR.sl ob3) (by decide) (hT.grow (g09.trans g10)) (by decide)) ?_
 rintro _ w11 ⟨g11,xv,rfl,hx⟩
 rw [hd3] at hx ⊢
 refine extK_i (vs:=[_,_]) (by rfl) (extK_i (vs:=[_,_]) (by rfl) ?_)
 simp only [eqK_i,decide_true]
 refine condK_t (condK_t (condK_t (condK_t (condK_t ?_))))
 have g911:=g10.trans g11
 refine runK_i (run_str ((OwnR.sl ob1).grow (((g4.trans g5).trans g6).trans (g69.trans g911)) (by decide) fun _ _ h=>h) (by unfold ByteL;decide)) ?_
 rw [t1,seqK_i,decide_eq_true rfl]
 refine condK_t ?_
 refine runK_i (run_str ((OwnR.sl ob2).grow ((g8.trans g9).trans g911) (by decide) fun _ _ h=>h) (by unfold ByteL;decide)) ?_
 rw [t2,seqK_i,decide_eq_true rfl]
 refine condK_t ?_
 refine runK_i (run_str ((OwnR.sl ob3).grow g11 (by decide) fun _ _ h=>h) (by unfold ByteL;decide)) ?_
 rw [t3,seqK_i,decide_eq_true rfl]
 refine condK_t ?_
 refine callK_mono (rsame_dops hx (hM.grow g911)) ?_
 rintro _ w12 ⟨rfl,g12⟩
 exact ⟨by rw [decide_eq_true rfl],(g09.trans g911).trans g12⟩
end Go.Proofs.YtlbaopamhkmepaaGreatDoor

namespace Go.Proofs.YtlbaopamhkmepaaGreatDoor
open Go Go.K

theorem keys_pos {keys ks:List DKey} (hM:MayKeys keys) (hp:ks.Perm keys):∀ k ∈ ks,0≤k.id:=fun k hk=>by
 have:=(mayk_iff.1 hM).2.1 k (hp.mem_iff.1 hk)
 unfold KeyOK at this;omega
end Go.Proofs.YtlbaopamhkmepaaGreatDoor

namespace Go.Proofs.YtlbaopamhkmepaaGreatDoor
open Go Go.K

theorem encV_byte {v:AVal} (h:RepV v):ByteL (encV v):=by
 have hk:=h.kind
 intro z hz
 unfold encV at hz
 rcases List.mem_append.1 hz with hz | hz
 ·exact uv_byte (by omega) z hz
 ·rcases h with ⟨h1,h2,_⟩ | ⟨h1,_,h2,_⟩ | ⟨h1,_,_,h2⟩
  ·rw [if_pos h1] at hz
   exact uv_byte (zigN_lt h2.1 h2.2) z hz
  ·rw [if_neg (by omega),if_pos h1] at hz
   exact uv_byte (by omega) z hz
  ·rw [if_neg (by omega),if_neg (by omega),if_pos h1] at hz
   rcases List.mem_append.1 hz with hz | hz
   ·exact uv_byte (by omega) z hz
   ·exact bytesL_byte _ z hz
theorem flat_byte {α:Type} {f:α→List Int} {R:α→Prop} (h:∀ a,R a→ByteL (f a)) {l:List α} (hl:RepM R l):ByteL (encM f l):=by
 intro z hz
 unfold encM at hz
 rcases List.mem_append.1 hz with hz | hz
 ·exact uv_byte (by have:=hl.1;omega) z hz
 ·obtain ⟨a,ha,hz⟩:=List.mem_flatMap.1 hz
  exact h a (hl.2 a ha) z hz
theorem key_byte {k:Int} (h:Key63 k):ByteL (uv k.toNat):=fun z hz=>uv_byte (by unfold Key63 at h;omega) z hz
theorem encAt_byte {a:Attr} (h:RepA a):ByteL (encAt a):=fun z hz=>by
 rcases List.mem_append.1 hz with hz | hz
 ·exact key_byte h.1 z hz
 ·exact encV_byte h.2 z hz
theorem encCh_byte {a:Chg} (h:RepC a):ByteL (encCh a):=fun z hz=>by
 rcases List.mem_append.1 hz with hz | hz
 ·exact key_byte h.1 z hz
 ·rcases h.2 with ⟨hg,_⟩ | ⟨hg,hv⟩
  ·rw [hg] at hz;exact uv_byte (n:=0) (by omega) z hz
  ·rw [hg] at hz;exact encV_byte hv z hz
theorem textR_byte {l:List Int} (h:∀ r ∈ l,MayR r):ByteL (textR l):=fun z hz=>by
 obtain ⟨a,ha,hz⟩:=List.mem_flatMap.1 hz
 exact oneB_byte (h a ha) z hz
theorem encOp_byte {o:Dop} (h:RepO o):ByteL (encOp o):=fun z hz=>by
 have hk:=RepO.kind h
 unfold encOp at hz
 rcases List.mem_append.1 hz with hz | hz
 ·exact uv_byte (by omega) z hz
 ·rcases h with ⟨h1,h2,h3,h4,h5⟩ | ⟨h1,h2,h3,h4,h5,h6⟩ | ⟨h1,h2,h3,h4,h5⟩
  ·rw [if_pos h1] at hz
   rcases List.mem_append.1 hz with hz | hz
   ·exact uv_byte (by omega) z hz
   ·exact flat_byte (fun a (h:RepC a)=>encCh_byte h) h5 z hz
  ·rw [if_neg (by omega),if_pos h1] at hz
   rcases List.mem_append.1 hz with hz | hz
   ·unfold encX at hz
    rcases List.mem_append.1 hz with hz | hz
    ·exact uv_byte (by omega) z hz
    ·exact textR_byte h3 z hz
   ·exact flat_byte (fun a (h:RepA a)=>encAt_byte h) h5 z hz
  ·rw [if_neg (by omega),if_neg (by omega),if_pos h1] at hz
   exact uv_byte (by omega) z hz
theorem encL_byte {x:List Dop} (h:RepM RepO x):ByteL (encL x):=flat_byte (fun a (h:RepO a)=>encOp_byte h) h
end Go.Proofs.YtlbaopamhkmepaaGreatDoor

namespace Go.Proofs.YtlbaopamhkmepaaGreatDoor
open Go Go.K

theorem dist_of {ks:List DKey} (h:ks.Pairwise fun x y=>x.id < y.id):Dist ks:=by
 unfold Dist
 exact h.imp fun h=>by omega
theorem may_more {ks kt:List DKey} (hf:∀ id k,findK ks id=some k→findK kt id=some k) {x:List Dop} (h:mayOps ks x=0):mayOps kt x=0:=by
 obtain ⟨m1,m2⟩:=may_sums h
 have hfit:∀ {id v},FitsK ks id v→FitsK kt id v:=fun ⟨k,h1,h2⟩=>⟨k,hf _ _ h1,h2⟩
 have hs:∀ {l},SetK ks l→SetK kt l:=fun h=>⟨h.1,h.2.1,fun a ha=>⟨(h.2.2 a ha).1,hfit (h.2.2 a ha).2⟩⟩
 have hp:∀ {l},PatK ks l→PatK kt l:=fun h=>⟨h.1,h.2.1,fun c hc=>⟨(h.2.2 c hc).1,fun g=>⟨((h.2.2 c hc).2.1 g).1,hfit ((h.2.2 c hc).2.1 g).2⟩,fun e=>by
  cases hk:findK ks c.key with
  | none=>exact (h.2.2 c hc).2.2 hk
  | some k=>rw [hf _ _ hk] at e;cases e⟩⟩
 refine good_may' (fun o ho=>?_) m1 m2
 obtain ⟨h1,h2⟩:=may_good h o ho
 refine ⟨?_,h2⟩
 rcases h1 with ⟨a,b,c,d,e⟩ | h | ⟨a,b,c,d,e,f⟩
 ·exact .inl ⟨a,b,c,d,hp e⟩
 ·exact .inr (.inl h)
 ·exact .inr (.inr ⟨a,b,c,d,e,hs f⟩)
theorem CodecKeys_ok {S S' Sx Dx:Nat→Prop} {kv mv xv:Value} {keys more:List DKey} {x:List Dop} {w:World} (hk:RKeys S w kv keys) (hm:RKeys S' w mv more) (hx:RDops Sx Dx w xv x) (hT:Tabs w)
  (bx:∀ o ∈ x,InB o) (mx:mDops x≤1048576) (ml:keys.length+more.length≤1048576) :
  callK Tryz.prog 13 [kv,mv,xv] (fun v w'=>v=.bool true∧Grow w w') w:=by
 apply S13_ok
 unfold S13
 have kn:∀ {w1},Grow w w1→callK Tryz.prog 36 [] (fun v w'=>v=.bool true∧Grow w w') w1:=fun hg=>callK_mono (known17_ok (hT.grow hg)) fun v w' ⟨e,h⟩=>⟨e,hg.trans h⟩
 refine callK_mono (new_key_ok hk) ?_
 rintro v1 w1 ⟨g1,hnew⟩
 have hn:∃ (sv:Value) (e:Int),v1=.tuple #[sv,.int .i64 e]∧(e=0→MayKeys keys∧∃ ks:List DKey,ks.Perm keys∧ks.Pairwise (fun x y=>x.id < y.id)∧SchR (fun b=>w.heap.size≤b) w1 sv ks):=by
  rcases hnew with ⟨hM,sv,ks,e1,hp,hs,hS⟩ | ⟨_,e1⟩
  ·exact ⟨sv,0,e1,fun _=>⟨hM,ks,hp,hs,hS⟩⟩
  ·exact ⟨_,3,e1,fun e=>by cases e⟩
 obtain ⟨sv,e,rfl,hs1⟩:=hn
 refine extK_i (vs:=[_,_]) (by rfl) (extK_i (vs:=[_,_]) (by rfl) ?_)
 have hk1:=hk.grow g1 (by decide) fun _ _ h=>h
 have hm1:=hm.grow g1 (by decide) fun _ _ h=>h
 refine ⟨#[],by kernel_rfl,?_⟩
 have ga:Grow w1 (w1.alloc (.cells #[] 84)):=Mod.alloc _ _ _
 obtain ⟨v5,w5,hrun,ho5,g5,hn5⟩:=append_new (ty:=48) (b:=w1.heap.size) elem_key (by show (Array.push _ _)[_]?=_;exact Array.getElem?_push_size) (hk1.grow ga (by decide) fun _ _ h=>h) (fun _ _ _=>RKey.one) (by omega) (fun _ _ _ _ h=>h)
 refine runK_i hrun ?_
 have g15:=ga.trans g5
 obtain ⟨v7,w7,r1,r2,r3,r4⟩:=OwnR.append (ty:=48) elem_key ho5 (hm1.grow g15 (by decide) fun _ _ h=>h) (fun _ _=>RKey.one) (by omega) g15.size (by simp only [maxLen];omega) fun _ _ _ _ h=>h
 refine runK_i r1 ?_
 have g17:Grow w1 w7:=g15.next (Mod.of_grownBy r3) fun z hz e=>by have:=(OwnR.ownB ho5 z e).1;omega
 have g07:=g1.trans g17
 refine callK_mono (new_key_ok (OwnR.sl r2)) ?_
 rintro v8 w8 ⟨g8,hnew8⟩
 have hn8:∃ (tv:Value) (f:Int),v8=.tuple #[tv,.int .i64 f]∧(f=0→MayKeys (keys++more)∧∃ kt:List DKey,kt.Perm (keys++more)∧kt.Pairwise (fun x y=>x.id < y.id)∧SchR (fun b=>w7.heap.size≤b) w8 tv kt):=by
  rcases hnew8 with ⟨hM,sv,ks,e1,hp,hs,hS⟩ | ⟨_,e1⟩
  ·exact ⟨sv,0,e1,fun _=>⟨hM,ks,hp,hs,hS⟩⟩
  ·exact ⟨_,3,e1,fun e=>by cases e⟩
 obtain ⟨tv,f,rfl,hs8⟩:=hn8
 refine extK_i (vs:=[_,_]) (by rfl) (extK_i (vs:=[_,_]) (by rfl) ?_)
 have g08:=g07.trans g8
 refine JoinK_i (fun _ W=>Grow w8 W∧e=0∧f=0∧mDops x≤200) ?_ ?_
 rotate_left
 ·rw [neK_i]
  refine condK_neg (fun e0=>?_) fun _=>kn g08
  rw [neK_i]
  refine condK_neg (fun f0=>?_) fun _=>kn g08
  refine callK_mono (size_ok (hx.grow g08) (by omega)) ?_
  rintro _ w2 ⟨rfl,g2⟩
  rw [gtK_i]
  exact condK_p (fun _=>kn (g08.trans g2)) fun e=>⟨g2,e0,f0,by omega⟩
 rintro _ w9 ⟨g9,e0,f0,m200⟩ _
 obtain ⟨hM,ks,hp,hpw,hS⟩:=hs1 e0
 obtain ⟨hMt,kt,hpt,hpwt,hSt⟩:=hs8 f0
 have hkp:=keys_pos hM hp
 have hkpt:=keys_pos hMt hpt
 have hfind:∀ id k,findK ks id=some k→findK kt id=some k:=fun id k h=>by
  have h1:=(findK_iff (dist_of hpw)).1 h
  exact (findK_iff (dist_of hpwt)).2 ⟨hpt.mem_iff.2 (List.mem_append_left _ (hp.mem_iff.1 h1.1)),h1.2⟩
 have g09:=g08.trans g9
 have g19:=(g17.trans g8).trans g9
 refine callK_mono (encode_ok (hS.grow g19) (hx.grow g09) (hT.grow g09) bx hkp (by omega)) ?_
 rintro _ w10 ⟨g10,av,rfl,oa,_⟩
 refine extK_i (vs:=[_,_]) (by rfl) (extK_i (vs:=[_,_]) (by rfl) ?_)
 refine callK_mono (encode_ok ((hSt.grow g9).grow g10) (hx.grow (g09.trans g10)) (hT.grow (g09.trans g10)) bx hkpt (by omega)) ?_
 rintro _ w11 ⟨g11,bv,rfl,ob,_⟩
 refine extK_i (vs:=[_,_]) (by rfl) (extK_i (vs:=[_,_]) (by rfl) ?_)
 have g011:=(g09.trans g10).trans g11
 rw [neK_i]
 refine condK_neg (fun ex=>?_) fun _=>kn g011
 have ext:=may_more hfind ex
 have oa:=oa ex
 have ob:=ob ext
 have lx:=mDops_len x
 obtain ⟨n1,n2,n3,n4,n5⟩:=norm_may hkp ex bx (by omega)
 have hbx:=encL_byte n3
 have hlen:=encL_len (normB x)
 have hmm:=normB_mm x
 have d1:=decB_norm hkp ex bx (by omega)
 have d2:=decB_norm hkpt ext bx (by omega)
 have ra:=(OwnR.sl oa).grow g11 (by decide) fun _ _ h=>h
 refine callK_mono (decode_ok ((hS.grow g19).grow (g10.trans g11)) ra hbx (hT.grow g011) (by omega)) ?_
 rintro _ w12 ⟨g12,yv,rfl,hy⟩
 rw [d1] at hy ⊢
 refine extK_i (vs:=[_,_]) (by rfl) (extK_i (vs:=[_,_]) (by rfl) ?_)
 have g012:=g011.trans g12
 refine callK_mono (decode_ok ((hSt.grow g9).grow ((g10.trans g11).trans g12)) ((OwnR.sl ob).grow g12 (by decide) fun _ _ h=>h) hbx (hT.grow g012) (by omega)) ?_
 rintro _ w13 ⟨g13,zv,rfl,hz⟩
 rw [d2] at hz ⊢
 refine extK_i (vs:=[_,_]) (by rfl) (extK_i (vs:=[_,_]) (by rfl) ?_)
 have g013:=g012.trans g13
 rw [ext,eqK_i,decide_eq_true rfl]
 refine condK_t ?_
 refine runK_i (run_str (ra.grow (g12.trans g13) (by decide) fun _ _ h=>h) hbx) ?_
 refine runK_i (run_str ((OwnR.sl ob).grow (g12.trans g13) (by decide) fun _ _ h=>h) hbx) ?_
 rw [seqK_i,decide_eq_true rfl]
 refine condK_t ?_
 simp only [eqK_i,decide_true]
 refine condK_t (condK_t ?_)
 refine callK_mono (rsame_dops (hy.grow g13) hz) ?_
 rintro _ w14 ⟨rfl,g14⟩
 rw [decide_eq_true rfl]
 exact condK_t (kn (g013.trans g14))
end Go.Proofs.YtlbaopamhkmepaaGreatDoor

namespace Go.Proofs.YtlbaopamhkmepaaGreatDoor
open Go Go.K
open Go.ChangeShapes Go.Joins
variable {H:Type} {enc:TypeId × Value→H} {w:World} {base:Nat} {spare:Nat→Bool} {held:Bool}
theorem len5 {α:Type} {l:List α} (h:l.length=5):∃ a b c d e,l=[a,b,c,d,e]:=by
 match l,h with | [a,b,c,d,e],_=>exact ⟨a,b,c,d,e,rfl⟩
theorem len6 {α:Type} {l:List α} (h:l.length=6):∃ a b c d e f,l=[a,b,c,d,e,f]:=by
 match l,h with | [a,b,c,d,e,f],_=>exact ⟨a,b,c,d,e,f,rfl⟩
theorem bulk_app (l m:List (DataW H)):Rows.uptoBulkAll (l++m)=Rows.uptoBulkAll l+Rows.uptoBulkAll m:=by
 induction l with
 | nil=>simp [Rows.uptoBulkAll]
 | cons d l ih=>simp only [List.cons_append,Rows.uptoBulkAll,ih];omega
theorem SlR.of_trodU {α:Type} {t e k:Nat} {R:World→List Value→α→Prop} {μ:α→Nat} {fuel:Nat} {cs:List Value} {x:DataW H × List MemPlace} (ht:Tryz.prog.underlying t=some (.slice e)) (hk:Tryz.prog.cellsOf e=k)
  (hel:∀ n cs' y,DataW.trod enc Tryz.prog w base spare held n e cs'=some y→∃ x,R w cs' x∧μ x≤Rows.uptoBulk y.1) (h:DataW.trod enc Tryz.prog w base spare held fuel t cs=some x) :
  ∃ v l,cs=[v]∧SlR (fun _=>True) k R w v l∧(l.map μ).sum+1≤Rows.uptoBulk x.1:=by
 rcases Go.Deep.open_slice ht h with ⟨rfl,rfl⟩ | ⟨a,len,cap,m,n,D,Pl,rfl,hb,hl,hm,hmm,rfl,hall⟩
 ·exact ⟨_,[],rfl,SlR.nil,by simp [Rows.uptoBulk]⟩
 ·have hlm:len≤m:=by rw [hmm];split <;> omega
  have one:∀ i,i < len→∃ (cs':List Value) (x:α),cs'.length=k∧(∀ j u,cs'[j]?=some u→w.cell? (a.add (i * k+j))=some u)∧R w cs' x∧μ x≤Rows.uptoBulk (D i):=by
   intro i hi
   obtain ⟨cs',h1,h2⟩:=hall i (by omega)
   obtain ⟨x,hx,hmu⟩:=hel n cs' _ h2
   obtain ⟨_,hlen,hc⟩:=World.cells?_some h1
   rw [hk] at hlen hc
   refine ⟨cs',x,hlen,fun j u hu=>?_,hx,hmu⟩
   have hj:j < k:=by rw [←hlen];exact (List.getElem?_eq_some_iff.1 hu).1
   have:=hc j hj
   rw [Addr.add_add] at this
   rw [this];exact hu
  have build:∀ q,q≤len→∃ l:List α,l.length=q∧(l.map μ).sum≤Rows.uptoBulkAll ((List.range q).map D)∧∀ i x,l[i]?=some x→∃ cs':List Value,cs'.length=k∧(∀ j u,cs'[j]?=some u→w.cell? (a.add (i * k+j))=some u)∧R w cs' x:=by
   intro q
   induction q with
   | zero=>exact fun _=>⟨[],rfl,by simp [Rows.uptoBulkAll],fun i x h=>by simp at h⟩
   | succ q ih=>
    intro hq
    obtain ⟨l,h1,hs,h2⟩:=ih (by omega)
    obtain ⟨cs',x,h3,h4,h5,h6⟩:=one q (by omega)
    refine ⟨l++[x],by simp [h1],?_,fun i y hy=>?_⟩
    ·rw [List.range_succ,List.map_append (f:=D),bulk_app]
     simp only [List.map_append,List.sum_append,List.map_cons,List.map_nil,List.sum_cons,List.sum_nil,Rows.uptoBulkAll]
     omega
    by_cases hi:i < q
    ·rw [List.getElem?_append_left (by omega)] at hy;exact h2 i y hy
    ·have:i=q:=by have:=(List.getElem?_eq_some_iff.1 hy).1;simp [h1] at this;omega
     subst this
     rw [List.getElem?_append_right (by omega)] at hy
     simp [h1] at hy;subst hy
     exact ⟨cs',h3,h4,h5⟩
  obtain ⟨l,h1,hs,h2⟩:=build len (Nat.le_refl _)
  subst h1
  refine ⟨_,l,rfl,⟨a,cap,rfl,hl,hm,fun i x hx=>?_⟩,?_⟩
  ·obtain ⟨cs',h3,h4,h5⟩:=h2 i x hx
   exact ⟨a,cs',rfl,trivial,h3,h4,h5⟩
  ·simp only [Rows.uptoBulk];omega
theorem val_of_trodU {n:Nat} {cs:List Value} {y:DataW H × List MemPlace} (h:DataW.trod enc Tryz.prog w base spare held n 107 cs=some y):∃ x:AVal,cs=x.cells∧x.s.size+1≤Rows.uptoBulk y.1:=by
 have c2:Tryz.prog.cellsOf 107=4:=by kernel_rfl
 have c3:Tryz.prog.cellsOf 5=1:=by kernel_rfl
 have c4:Tryz.prog.cellsOf 2=1:=by kernel_rfl
 have c5:Tryz.prog.cellsOf 34=1:=by kernel_rfl
 have c6:Tryz.prog.cellsOf 9=1:=by kernel_rfl
 obtain ⟨z0,z1,z2,z3,m',rfl,hl,g0,g1,g2,g3⟩:=trod_struct4 Tryz.underlying107 h
 rw [c2] at hl
 simp only [c3,c4,c5,c6] at g0 g1 g2 g3
 match cs,hl with
 | [a0,a1,a2,a3],_=>
  simp only [List.drop_zero,List.take_succ_cons,List.take_zero,List.drop_succ_cons] at g0 g1 g2 g3
  obtain ⟨k0,f0,e0,_⟩:=DataW.trod_int Tryz.underlying5 g0
  obtain ⟨k1,f1,e1,_⟩:=DataW.trod_int Tryz.underlying2 g1
  obtain ⟨k2,f2,e2,_⟩:=DataW.trod_int Tryz.underlying34 g2
  obtain ⟨k3,f3,e3,_⟩:=DataW.trod_string Tryz.underlying9 g3
  cases f0;cases f1;cases f2;cases f3;subst e0;subst e1;subst e2;subst e3
  refine ⟨⟨k0,k1,k2,k3⟩,rfl,?_⟩
  simp only [Rows.uptoBulk,Rows.uptoBulkAll,Array.length_toList,ByteArray.size_data]
  omega
theorem attr_of_trodU {n:Nat} {cs:List Value} {y:DataW H × List MemPlace} (h:DataW.trod enc Tryz.prog w base spare held n 109 cs=some y):∃ x:Attr,RAttr w cs x∧mAttr x≤Rows.uptoBulk y.1:=by
 have c0:Tryz.prog.cellsOf 109=5:=by kernel_rfl
 have c1:Tryz.prog.cellsOf 3=1:=by kernel_rfl
 have c2:Tryz.prog.cellsOf 107=4:=by kernel_rfl
 obtain ⟨y0,y1,m,rfl,hl,h0,h1⟩:=trod_struct2 Tryz.underlying109 h
 rw [c0] at hl
 simp only [c1,c2] at h0 h1
 match cs,hl with
 | [a0,a1,a2,a3,a4],_=>
  simp only [List.drop_zero,List.take_succ_cons,List.take_zero,List.drop_succ_cons] at h0 h1
  obtain ⟨k,e0,_,_⟩:=DataW.trod_int Tryz.underlying3 h0
  obtain ⟨v,e1,hs⟩:=val_of_trodU h1
  cases e0;cases e1
  refine ⟨⟨k,v⟩,rfl,?_⟩
  simp only [mAttr,Rows.uptoBulk,Rows.uptoBulkAll]
  omega
theorem chg_of_trodU {n:Nat} {cs:List Value} {y:DataW H × List MemPlace} (h:DataW.trod enc Tryz.prog w base spare held n 111 cs=some y):∃ x:Chg,RChg w cs x∧mChg x≤Rows.uptoBulk y.1:=by
 have c0:Tryz.prog.cellsOf 111=6:=by kernel_rfl
 have c1:Tryz.prog.cellsOf 3=1:=by kernel_rfl
 have c2:Tryz.prog.cellsOf 107=4:=by kernel_rfl
 have c3:Tryz.prog.cellsOf 4=1:=by kernel_rfl
 obtain ⟨xs,m,_,rfl,hl,hlen,hf⟩:=DataW.trod_struct Tryz.underlying111 h
 match xs,hlen with
 | [y0,y1,y2],_=>
  have h0:DataW.trod enc Tryz.prog w base spare held m 3 ((cs.drop 0).take (Tryz.prog.cellsOf 3))=some y0:=hf 0 _ rfl
  have h1:DataW.trod enc Tryz.prog w base spare held m 4 ((cs.drop 1).take (Tryz.prog.cellsOf 4))=some y1:=hf 1 _ rfl
  have h2:DataW.trod enc Tryz.prog w base spare held m 107 ((cs.drop 2).take (Tryz.prog.cellsOf 107))=some y2:=hf 2 _ rfl
  rw [c0] at hl
  rw [c1] at h0
  rw [c3] at h1
  rw [c2] at h2
  obtain ⟨a0,a1,a2,a3,a4,a5,rfl⟩:=len6 hl
  ·clear hf
   simp only [List.drop_zero,List.take_succ_cons,List.take_zero,List.drop_succ_cons] at h0 h1 h2
   obtain ⟨k,e0,_,_⟩:=DataW.trod_int Tryz.underlying3 h0
   obtain ⟨b,e1,_⟩:=DataW.trod_bool Tryz.underlying4 h1
   obtain ⟨v,e2,hs⟩:=val_of_trodU h2
   cases e0;cases e1;cases e2
   refine ⟨⟨k,b,v⟩,rfl,?_⟩
   simp only [mChg,List.map_cons,List.map_nil,Rows.uptoBulk,Rows.uptoBulkAll]
   omega
theorem rune_of_trodU {n:Nat} {cs:List Value} {y:DataW H × List MemPlace} (h:DataW.trod enc Tryz.prog w base spare held n 21 cs=some y):∃ x:Int,RRune w cs x∧1≤Rows.uptoBulk y.1:=by
 obtain ⟨k,rfl,e,_⟩:=DataW.trod_int Tryz.underlying21 h
 subst e
 exact ⟨k,rfl,by simp [Rows.uptoBulk]⟩
theorem runes_of_trodU {n:Nat} {cs:List Value} {y:DataW H × List MemPlace} (h:DataW.trod enc Tryz.prog w base spare held n 35 cs=some y):∃ v l,cs=[v]∧RRun (fun _=>True) w v l∧l.length+1≤Rows.uptoBulk y.1:=by
 obtain ⟨v,l,e,h1,h2⟩:=SlR.of_trodU (μ:=fun _:Int=>1) Tryz.underlying35 (by kernel_rfl) (fun _ _ _ h=>rune_of_trodU h) h
 refine ⟨v,l,e,h1,?_⟩
 have:(l.map fun _=>1).sum=l.length:=by clear h1 h2;induction l with | nil=>rfl | cons a l ih=>simp only [List.map_cons,List.sum_cons,List.length_cons,ih];omega
 omega
theorem key_of_trodU {n:Nat} {cs:List Value} {y:DataW H × List MemPlace} (h:DataW.trod enc Tryz.prog w base spare held n 84 cs=some y):∃ x:DKey,RKey w cs x∧1≤Rows.uptoBulk y.1:=by
 have c0:Tryz.prog.cellsOf 84=6:=by kernel_rfl
 have c1:Tryz.prog.cellsOf 3=1:=by kernel_rfl
 have c2:Tryz.prog.cellsOf 5=1:=by kernel_rfl
 have c3:Tryz.prog.cellsOf 4=1:=by kernel_rfl
 obtain ⟨xs,m,_,rfl,hl,hlen,hf⟩:=DataW.trod_struct Tryz.underlying84 h
 match xs,hlen with
 | [y0,y1,y2,y3,y4,y5],_=>
  have h0:DataW.trod enc Tryz.prog w base spare held m 3 ((cs.drop 0).take (Tryz.prog.cellsOf 3))=some y0:=hf 0 _ rfl
  have h1:DataW.trod enc Tryz.prog w base spare held m 4 ((cs.drop 1).take (Tryz.prog.cellsOf 4))=some y1:=hf 1 _ rfl
  have h2:DataW.trod enc Tryz.prog w base spare held m 5 ((cs.drop 2).take (Tryz.prog.cellsOf 5))=some y2:=hf 2 _ rfl
  have h3:DataW.trod enc Tryz.prog w base spare held m 4 ((cs.drop 3).take (Tryz.prog.cellsOf 4))=some y3:=hf 3 _ rfl
  have h4:DataW.trod enc Tryz.prog w base spare held m 4 ((cs.drop 4).take (Tryz.prog.cellsOf 4))=some y4:=hf 4 _ rfl
  have h5:DataW.trod enc Tryz.prog w base spare held m 3 ((cs.drop 5).take (Tryz.prog.cellsOf 3))=some y5:=hf 5 _ rfl
  rw [c0] at hl
  rw [c1] at h0
  rw [c3] at h1
  rw [c2] at h2
  rw [c3] at h3
  rw [c3] at h4
  rw [c1] at h5
  obtain ⟨a0,a1,a2,a3,a4,a5,rfl⟩:=len6 hl
  ·clear hf
   simp only [List.drop_zero,List.take_succ_cons,List.take_zero,List.drop_succ_cons] at h0 h1 h2 h3 h4 h5
   obtain ⟨k0,e0,_,_⟩:=DataW.trod_int Tryz.underlying3 h0
   obtain ⟨k1,e1,_⟩:=DataW.trod_bool Tryz.underlying4 h1
   obtain ⟨k2,e2,_,_⟩:=DataW.trod_int Tryz.underlying5 h2
   obtain ⟨k3,e3,_⟩:=DataW.trod_bool Tryz.underlying4 h3
   obtain ⟨k4,e4,_⟩:=DataW.trod_bool Tryz.underlying4 h4
   obtain ⟨k5,e5,_,_⟩:=DataW.trod_int Tryz.underlying3 h5
   cases e0;cases e1;cases e2;cases e3;cases e4;cases e5
   refine ⟨⟨k0,k1,k2,k3,k4,k5⟩,rfl,?_⟩
   simp only [Rows.uptoBulk]
   omega
theorem keys_of_trodU {n:Nat} {cs:List Value} {y:DataW H × List MemPlace} (h:DataW.trod enc Tryz.prog w base spare held n 48 cs=some y):∃ v l,cs=[v]∧RKeys (fun _=>True) w v l∧l.length+1≤Rows.uptoBulk y.1:=by
 obtain ⟨v,l,e,h1,h2⟩:=SlR.of_trodU (μ:=fun _:DKey=>1) Tryz.underlying48 (by kernel_rfl) (fun _ _ _ h=>key_of_trodU h) h
 refine ⟨v,l,e,h1,?_⟩
 have:(l.map fun _=>1).sum=l.length:=by clear h1 h2;induction l with | nil=>rfl | cons a l ih=>simp only [List.map_cons,List.sum_cons,List.length_cons,ih];omega
 omega
end Go.Proofs.YtlbaopamhkmepaaGreatDoor

namespace Go.Proofs.YtlbaopamhkmepaaGreatDoor
open Go Go.K
open Go.ChangeShapes Go.WideShapes Go.ChangeAt Go.RowKit Go.Joins

def laidL : List (String × DataW Unit) := [("unicode/utf8.acceptRanges", Rows.laid_unicode_utf8_acceptRanges), ("unicode/utf8.first", Rows.laid_unicode_utf8_first)]
theorem first_tab:Rows.laid_unicode_utf8_first=Lib.tabData .u8 (Pinned.utf8FirstZ.map Int.ofNat):=by kernel_rfl
theorem first_at:(List.range 256).all (fun j=>decide (128≤j→(Pinned.utf8FirstZ.map Int.ofNat)[j]?=some (firstT j)))=true:=by decide +kernel
theorem acc_tab:Rows.laid_unicode_utf8_acceptRanges (H:=Unit)=.agg ((List.range 16).map fun i=>.agg ([accLo i,accHi i].map fun z=>.lit (.int .u8 z))):=by kernel_rfl
theorem tabs_of_laid {W:World} (h:laidMetH Tryz.prog laidL W):Tabs W:=by
 rw [MakeChecks.laidMetH_plain _ _ _ (by kernel_rfl)] at h
 have h4:=Lib.laidMet.reads h (.head _)
 have h3:=Lib.laidMet.reads h (.tail _ (.head _))
 have hf:∀ j:Nat,128≤j→j < 256→W.cell? ⟨0,j,none⟩=some (.int .u8 (firstT j)):=by
  intro j hj1 hj2
  obtain ⟨g,t,cs,fuel,p,hg,hty,hvar,hd⟩:=h3
  obtain rfl := Option.some.inj ((show Tryz.prog.globalNamed "unicode/utf8.first" = some 0 by kernel_rfl).symm.trans hg)
  obtain rfl:=Option.some.inj ((show (Tryz.prog.globals[0]?).map (·.type)=some 242 by kernel_rfl).symm.trans hty)
  rw [first_tab] at hd
  have hcs:=Lib.cells_of_tab Tryz.underlying242 Tryz.underlying5 (by kernel_rfl) (by kernel_rfl) hd
  have:=World.var?_cell hg hvar j
  rw [this,←Array.getElem?_toList,hcs]
  have ha:=List.all_eq_true.1 first_at j (List.mem_range.2 hj2)
  rw [decide_eq_true_eq] at ha
  rw [List.getElem?_map,ha hj1]
  rfl
 have hac:∀ j:Nat,j < 16→W.cell? ⟨1,j * 2,none⟩=some (.int .u8 (accLo j))∧W.cell? ⟨1,j * 2+1,none⟩=some (.int .u8 (accHi j)):=by
  intro i hi
  obtain ⟨g,t,cs,fuel,p,hg,hty,hvar,hd⟩:=h4
  obtain rfl := Option.some.inj ((show Tryz.prog.globalNamed "unicode/utf8.acceptRanges" = some 1 by kernel_rfl).symm.trans hg)
  obtain rfl:=Option.some.inj ((show (Tryz.prog.globals[1]?).map (·.type)=some 245 by kernel_rfl).symm.trans hty)
  rw [acc_tab] at hd
  obtain ⟨fuel',d,q,hdi,he⟩:=Lib.array_elem Tryz.underlying245 hd i hi
  simp only [List.getElem?_map,List.getElem?_range hi,Option.map_some,Option.some.injEq] at hdi
  subst hdi
  have c2:Tryz.prog.cellsOf 244=2:=by kernel_rfl
  rw [c2] at he
  have hcs:=Lib.ints_of_struct Tryz.underlying244 (fun j f hj=>by
   match j,hj with
   | 0,hj=>simp at hj;subst hj;exact ⟨Tryz.underlying5,rfl,by kernel_rfl⟩
   | 1,hj=>simp at hj;subst hj;exact ⟨Tryz.underlying5,rfl,by kernel_rfl⟩
   | j+2,hj=>simp at hj) (by rw [c2];rfl) he
  have e0:=congrArg (·[0]?) hcs
  have e1:=congrArg (·[1]?) hcs
  simp at e0 e1
  have w0:=World.var?_cell hg hvar (i * 2)
  have w1:=World.var?_cell hg hvar (i * 2+1)
  rw [w0,w1,←Array.getElem?_toList,←Array.getElem?_toList]
  exact ⟨by simpa using e0,by simpa using e1⟩
 have:=World.block_lt_of_cell? W _ (hac 0 (by decide)).1
 exact ⟨this,hf,hac⟩
noncomputable def laidWorld (os:Os):World:=
 let w0:=World.holding Tryz.prog os ⟨#[],#[],[]⟩
 let put (h:Array Obj) (g:Nat) (cs:Array Value):Array Obj:=h.modify g fun
  | .cells _ t frozen=>.cells cs t frozen
  | o=>o
 let h1:=put w0.heap 0 (Pinned.utf8FirstZ.map fun (z:Nat)=>Value.int .u8 (Int.ofNat z)).toArray
 let h2:=put h1 1 ((List.range 16).flatMap fun i=>[Value.int .u8 (accLo i),Value.int .u8 (accHi i)]).toArray
 { w0 with heap:=h2 }
theorem laidWorld_met (os:Os) (args:Array Value):laidMetH Tryz.prog laidL ((laidWorld os).forCall (fun _ _=>0) ⟨#[],args,[]⟩).memory:=by
 rw [MakeChecks.laidMetH_plain _ _ _ (by kernel_rfl)]
 exact (LaidIn.of_run (l:=laidL) [1,0] 8 (by kernel_rfl) (by kernel_rfl) (by kernel_rfl) (by kernel_rfl)).met

def InV (v:AVal):Prop:=(0≤v.kind∧v.kind < 256)∧(-9223372036854775808≤v.n∧v.n≤9223372036854775807)∧(0≤v.f∧v.f < 18446744073709551616)∧v.s.size < 18446744073709551616
variable {H:Type} {enc:TypeId × Value→H} {w:World} {base:Nat} {spare:Nat→Bool} {held:Bool}
theorem wf_range {k:IntKind} {n:Int} (h:(Lit.int k n).wf=true):k.min≤n∧n≤k.max:=by
 simpa [Lit.wf] using h
theorem val_of_trodR {n:Nat} {cs:List Value} {y:DataW H × List MemPlace} (h:DataW.trod enc Tryz.prog w base spare held n 107 cs=some y):∃ x:AVal,cs=x.cells∧InV x:=by
 have c2:Tryz.prog.cellsOf 107=4:=by kernel_rfl
 have c3:Tryz.prog.cellsOf 5=1:=by kernel_rfl
 have c4:Tryz.prog.cellsOf 2=1:=by kernel_rfl
 have c5:Tryz.prog.cellsOf 34=1:=by kernel_rfl
 have c6:Tryz.prog.cellsOf 9=1:=by kernel_rfl
 obtain ⟨z0,z1,z2,z3,m',_,hl,g0,g1,g2,g3⟩:=trod_struct4 Tryz.underlying107 h
 rw [c2] at hl
 simp only [c3,c4,c5,c6] at g0 g1 g2 g3
 match cs,hl with
 | [a1,a2,a3,a4],_=>
  simp only [List.drop_zero,List.take_succ_cons,List.take_zero,List.drop_succ_cons] at g0 g1 g2 g3
  obtain ⟨k0,f0,_,w0⟩:=DataW.trod_int Tryz.underlying5 g0
  obtain ⟨k1,f1,_,w1⟩:=DataW.trod_int Tryz.underlying2 g1
  obtain ⟨k2,f2,_,w2⟩:=DataW.trod_int Tryz.underlying34 g2
  obtain ⟨k3,f3,_,w3⟩:=DataW.trod_string Tryz.underlying9 g3
  cases f0;cases f1;cases f2;cases f3
  refine ⟨⟨k0,k1,k2,k3⟩,rfl,?_⟩
  have r0:=wf_range w0
  have r1:=wf_range w1
  have r2:=wf_range w2
  have m0:IntKind.u8.min=0∧IntKind.u8.max=255:=by decide
  have m1:IntKind.i64.min=-9223372036854775808∧IntKind.i64.max=9223372036854775807:=by decide
  have m2:IntKind.u64.min=0∧IntKind.u64.max=18446744073709551615:=by decide
  rw [m0.1,m0.2] at r0
  rw [m1.1,m1.2] at r1
  rw [m2.1,m2.2] at r2
  have r3:k3.size≤9223372036854775807:=by
   simp only [Lit.wf,maxLen] at w3
   simpa using w3
  exact ⟨⟨r0.1,show k0 < 256 by omega⟩,r1,⟨r2.1,show k2 < 18446744073709551616 by omega⟩,show k3.size < 18446744073709551616 by omega⟩
end Go.Proofs.YtlbaopamhkmepaaGreatDoor

namespace Go.K
open Go
theorem SlR.strip {α:Type} {S:Nat→Prop} {k:Nat} {R:World→List Value→α→Prop} {P:α→Prop} {w:World} {v:Value} {l:List α} (h:SlR S k (fun w r x=>R w r x∧P x) w v l):SlR S k R w v l∧∀ x ∈ l,P x:=by
 obtain ⟨a,c,e,h1,h2,h3⟩:=h
 refine ⟨⟨a,c,e,h1,h2,fun i x hx=>?_⟩,fun x hx=>?_⟩
 ·obtain ⟨p,r,q1,q2,q3,q4,q5⟩:=h3 i x hx
  exact ⟨p,r,q1,q2,q3,q4,q5.1⟩
 ·obtain ⟨i,hi⟩:=List.mem_iff_getElem?.1 hx
  obtain ⟨_,_,_,_,_,_,q5⟩:=h3 i x hi
  exact q5.2
end Go.K
namespace Go.Proofs.YtlbaopamhkmepaaGreatDoor
open Go Go.K
open Go.ChangeShapes Go.WideShapes Go.ChangeAt Go.RowKit Go.Joins
variable {H:Type} {enc:TypeId × Value→H} {w:World} {base:Nat} {spare:Nat→Bool} {held:Bool}
theorem attr_of_trodR {n:Nat} {cs:List Value} {y:DataW H × List MemPlace} (h:DataW.trod enc Tryz.prog w base spare held n 109 cs=some y):∃ x:Attr,cs=x.cells∧InA x:=by
 have c0:Tryz.prog.cellsOf 109=5:=by kernel_rfl
 have c1:Tryz.prog.cellsOf 3=1:=by kernel_rfl
 have c2:Tryz.prog.cellsOf 107=4:=by kernel_rfl
 obtain ⟨y0,y1,m,_,hl,h0,h1⟩:=trod_struct2 Tryz.underlying109 h
 rw [c0] at hl
 simp only [c1,c2] at h0 h1
 match cs,hl with
 | [a0,a1,a2,a3,a4],_=>
  simp only [List.drop_zero,List.take_succ_cons,List.take_zero,List.drop_succ_cons] at h0 h1
  obtain ⟨k,e0,_,w0⟩:=DataW.trod_int Tryz.underlying3 h0
  obtain ⟨x,ex,hx⟩:=val_of_trodR h1
  cases e0
  have r0:=wf_range w0
  have m1:IntKind.i64.min=-9223372036854775808∧IntKind.i64.max=9223372036854775807:=by decide
  rw [m1.1,m1.2] at r0
  refine ⟨⟨k,x⟩,?_,r0,hx⟩
  show _=Value.int .i64 k :: x.cells
  rw [←ex]
end Go.Proofs.YtlbaopamhkmepaaGreatDoor

namespace Go.Proofs.YtlbaopamhkmepaaGreatDoor
open Go Go.K
open Go.ChangeShapes Go.WideShapes Go.ChangeAt Go.RowKit Go.Joins
variable {H:Type} {enc:TypeId × Value→H} {w:World} {base:Nat} {spare:Nat→Bool} {held:Bool}
theorem attr_inj' {x y:Attr} (h:x.cells=y.cells):x=y:=by
 obtain ⟨k,v,n,f,s⟩:=x
 obtain ⟨k',v',n',f',s'⟩:=y
 simp only [Attr.cells,AVal.cells,List.cons.injEq,Value.int.injEq,Value.string.injEq,true_and,and_true] at h
 obtain ⟨rfl,rfl,rfl,rfl,rfl⟩:=h
 rfl
theorem val_inj {x y:AVal} (h:x.cells=y.cells):x=y:=by
 obtain ⟨v,n,f,s⟩:=x
 obtain ⟨v',n',f',s'⟩:=y
 simp only [AVal.cells,List.cons.injEq,Value.int.injEq,Value.string.injEq,true_and,and_true] at h
 obtain ⟨rfl,rfl,rfl,rfl⟩:=h
 rfl
end Go.Proofs.YtlbaopamhkmepaaGreatDoor

namespace Go.Proofs.YtlbaopamhkmepaaGreatDoor
open Go Go.K
open Go.ChangeShapes Go.WideShapes Go.ChangeAt Go.RowKit Go.Joins
variable {H:Type} {enc:TypeId × Value→H} {w:World} {base:Nat} {spare:Nat→Bool} {held:Bool}
theorem attr_of_trodB {n:Nat} {cs:List Value} {y:DataW H × List MemPlace} (h:DataW.trod enc Tryz.prog w base spare held n 109 cs=some y):∃ x:Attr,(RAttr w cs x∧(x.key≤9223372036854775807∧InVB x.val))∧mAttr x≤Rows.uptoBulk y.1:=by
 obtain ⟨x,e,hx⟩:=attr_of_trodR h
 obtain ⟨x',e',hm⟩:=attr_of_trodU h
 have e'':cs=x'.cells:=e'
 have:x=x':=attr_inj' (e.symm.trans e'')
 subst this
 exact ⟨x,⟨e,hx.1.2,⟨hx.2.2.1,hx.2.2.2.1⟩⟩,hm⟩
theorem chg_of_trodB {n:Nat} {cs:List Value} {y:DataW H × List MemPlace} (h:DataW.trod enc Tryz.prog w base spare held n 111 cs=some y):∃ x:Chg,(RChg w cs x∧(x.key≤9223372036854775807∧InVB x.val))∧mChg x≤Rows.uptoBulk y.1:=by
 have c2:Tryz.prog.cellsOf 107=4:=by kernel_rfl
 obtain ⟨x,e,hm⟩:=chg_of_trodU h
 obtain ⟨xs,m,_,_,hl,hlen,hf⟩:=DataW.trod_struct Tryz.underlying111 h
 match xs,hlen with
 | [y0,y1,y2],_=>
  have h2:DataW.trod enc Tryz.prog w base spare held m 107 ((cs.drop 2).take (Tryz.prog.cellsOf 107))=some y2:=hf 2 _ rfl
  rw [c2] at h2
  obtain ⟨v,ev,hv⟩:=val_of_trodR h2
  have e':cs=x.cells:=e
  subst e'
  have:v=x.val:=val_inj (ev.symm.trans (by rfl))
  subst this
  have c1:Tryz.prog.cellsOf 3=1:=by kernel_rfl
  have h0:DataW.trod enc Tryz.prog w base spare held m 3 ((x.cells.drop 0).take (Tryz.prog.cellsOf 3))=some y0:=hf 0 _ rfl
  rw [c1] at h0
  obtain ⟨k,ek,_,hw⟩:=DataW.trod_int Tryz.underlying3 h0
  have hk:x.key=k:=by
   have:[Value.int .i64 x.key]=[.int .i64 k]:=ek
   simpa using this
  have hr:=(wf_range hw).2
  have e2:IntKind.i64.max=9223372036854775807:=by decide
  rw [e2] at hr
  exact ⟨x,⟨rfl,by omega,⟨hv.2.1,hv.2.2.1⟩⟩,hm⟩
theorem set_of_trodB {n:Nat} {cs:List Value} {y:DataW H × List MemPlace} (h:DataW.trod enc Tryz.prog w base spare held n 36 cs=some y):∃ v l,cs=[v]∧(RSet (fun _=>True) w v l∧∀ a ∈ l,a.key≤9223372036854775807∧InVB a.val)∧mSet l+1≤Rows.uptoBulk y.1:=by
 obtain ⟨v,l,e,hl,hm⟩:=SlR.of_trodU (k:=5) (μ:=mAttr) (R:=fun (w:World) r (x:Attr)=>RAttr w r x∧(x.key≤9223372036854775807∧InVB x.val)) Tryz.underlying36 (by kernel_rfl) (fun _ _ _ h=>attr_of_trodB h) h
 exact ⟨v,l,e,hl.strip,hm⟩
theorem pat_of_trodB {n:Nat} {cs:List Value} {y:DataW H × List MemPlace} (h:DataW.trod enc Tryz.prog w base spare held n 37 cs=some y):∃ v l,cs=[v]∧(RPat (fun _=>True) w v l∧∀ a ∈ l,a.key≤9223372036854775807∧InVB a.val)∧mPat l+1≤Rows.uptoBulk y.1:=by
 obtain ⟨v,l,e,hl,hm⟩:=SlR.of_trodU (k:=6) (μ:=mChg) (R:=fun (w:World) r (x:Chg)=>RChg w r x∧(x.key≤9223372036854775807∧InVB x.val)) Tryz.underlying37 (by kernel_rfl) (fun _ _ _ h=>chg_of_trodB h) h
 exact ⟨v,l,e,hl.strip,hm⟩
set_option maxRecDepth 20000 in
theorem dop_of_trodB {n:Nat} {cs:List Value} {y:DataW H × List MemPlace} (h:DataW.trod enc Tryz.prog w base spare held n 39 cs=some y):∃ x:Dop,(RDop (fun _=>True) w cs x∧InB x)∧mDop x≤Rows.uptoBulk y.1:=by
 have c0:Tryz.prog.cellsOf 39=5:=by kernel_rfl
 have c1:Tryz.prog.cellsOf 3=1:=by kernel_rfl
 have c2:Tryz.prog.cellsOf 5=1:=by kernel_rfl
 have c3:Tryz.prog.cellsOf 35=1:=by kernel_rfl
 have c4:Tryz.prog.cellsOf 36=1:=by kernel_rfl
 have c5:Tryz.prog.cellsOf 37=1:=by kernel_rfl
 obtain ⟨xs,m,_,rfl,hl,hlen,hf⟩:=DataW.trod_struct Tryz.underlying39 h
 match xs,hlen with
 | [y0,y1,y2,y3,y4],_=>
  have h0:DataW.trod enc Tryz.prog w base spare held m 5 ((cs.drop 0).take (Tryz.prog.cellsOf 5))=some y0:=hf 0 _ rfl
  have h1:DataW.trod enc Tryz.prog w base spare held m 3 ((cs.drop 1).take (Tryz.prog.cellsOf 3))=some y1:=hf 1 _ rfl
  have h2:DataW.trod enc Tryz.prog w base spare held m 35 ((cs.drop 2).take (Tryz.prog.cellsOf 35))=some y2:=hf 2 _ rfl
  have h3:DataW.trod enc Tryz.prog w base spare held m 36 ((cs.drop 3).take (Tryz.prog.cellsOf 36))=some y3:=hf 3 _ rfl
  have h4:DataW.trod enc Tryz.prog w base spare held m 37 ((cs.drop 4).take (Tryz.prog.cellsOf 37))=some y4:=hf 4 _ rfl
  rw [c0] at hl
  rw [c2] at h0
  rw [c1] at h1
  rw [c3] at h2
  rw [c4] at h3
  rw [c5] at h4
  obtain ⟨a0,a1,a2,a3,a4,rfl⟩:=len5 hl
  ·clear hf
   simp only [List.drop_zero,List.take_succ_cons,List.take_zero,List.drop_succ_cons] at h0 h1 h2 h3 h4
   obtain ⟨k,e0,_,_⟩:=DataW.trod_int Tryz.underlying5 h0
   obtain ⟨n,e1,_,_⟩:=DataW.trod_int Tryz.underlying3 h1
   obtain ⟨rv,rl,e2,hr,b2⟩:=runes_of_trodU h2
   obtain ⟨sv,sl,e3,⟨hs,i3⟩,b3⟩:=set_of_trodB h3
   obtain ⟨pv,pl',e4,⟨hp,i4⟩,b4⟩:=pat_of_trodB h4
   cases e0;cases e1;cases e2;cases e3;cases e4
   refine ⟨⟨k,n,rl,sl,pl'⟩,⟨⟨a2,a3,a4,rfl,hr,hs,hp⟩,i3,i4⟩,?_⟩
   simp only [mDop,List.map_cons,List.map_nil,Rows.uptoBulk,Rows.uptoBulkAll]
   omega
theorem dops_of_trodB {n:Nat} {cs:List Value} {y:DataW H × List MemPlace} (h:DataW.trod enc Tryz.prog w base spare held n 31 cs=some y):∃ v l,cs=[v]∧(RDops (fun _=>True) (fun _=>True) w v l∧∀ o ∈ l,InB o)∧mDops l+1≤Rows.uptoBulk y.1:=by
 obtain ⟨v,l,e,hl,hm⟩:=SlR.of_trodU (k:=5) (μ:=mDop) (R:=fun (w:World) r (x:Dop)=>RDop (fun _=>True) w r x∧InB x) Tryz.underlying31 (by kernel_rfl) (fun _ _ _ h=>dop_of_trodB h) h
 exact ⟨v,l,e,hl.strip,hm⟩
end Go.Proofs.YtlbaopamhkmepaaGreatDoor

namespace Go.Proofs.YtlbaopamhkmepaaGreatDoor
open Go Go.K
open Go.ChangeShapes Go.WideShapes Go.ChangeAt Go.RowKit
set_option linter.unusedVariables false

theorem ownK:ownKnob Tryz.prog.godebug=none:=by kernel_rfl
theorem laidOut:laidOutB Tryz.prog=true:=by kernel_rfl

set_option maxRecDepth 100000 in
theorem CodecKeys_lifted (os:Os) (started:os.Started) (H:Type) (enc:TypeId × Value→H) (F0:Stop.Interp) :
  ReturnsInHanded {} Tryz.checked os 13 .any ((Rows.OpenSpec.upto Rows.codecKeysSpec).preRow enc Tryz.prog Tryz.f13 [] false Rows.codecKeysUptoRow.laid) (((Rows.OpenSpec.upto Rows.codecKeysSpec).at F0).post enc Tryz.prog Tryz.f13 false true false false):=by
 refine returnsInHanded_of_row (C:=Tryz.checked) (s:=(Rows.OpenSpec.upto Rows.codecKeysSpec)) ownK started (by kernel_rfl) Tryz.func13
  (witness_row_at (enc:=enc) (C:=Tryz.checked) (s:=(Rows.OpenSpec.upto Rows.codecKeysSpec)) false (laidWorld os) #[.slice none 0 0,.slice none 0 0,.slice none 0 0] rfl (by kernel_rfl) (by kernel_rfl) (by kernel_rfl)
   ⟨⟨(OpenSpec.pre_some (k:=Rows.uptoSmall) rfl [] false _ _).2 ⟨_,_,_,DataW.Whole_of_whole (fuel:=8) (x:=([.nil,.nil,.nil],[],[])) (by kernel_rfl),by kernel_rfl,by kernel_rfl⟩,laidWorld_met os _⟩,sizedMet_of_sizedB (fuel:=8) (by kernel_rfl)⟩) ?_
 intro W base args ds gs before hval0 hW _ hk0 _ hL _ _
 have hW':=hW
 obtain ⟨p,q,hA0,hV,rfl,hfz,hnd⟩:=hW
 have hA:DataW.TrodAll enc Tryz.prog W 0 (fun _=>true) true Tryz.f13.params.toList args.toList ds p:=hA0
 have hval:∀ (j:Nat) t v,Tryz.f13.params[j]?=some t→args[j]?=some v→Value.okWide Tryz.prog W .any base t v:=hval0
 rw [Tryz.params13] at hA hval
 have htab:Tabs W:=tabs_of_laid hL
 obtain ⟨v0,vs0,d0,ds0,p0,q0,hargs,rfl,rfl,h0,r0⟩:=trodAll_cons hA
 obtain ⟨v1,vs1,d1,ds1,p1,q1,rfl,rfl,rfl,h1,r1⟩:=trodAll_cons r0
 obtain ⟨v2,vs2,d2,ds2,p2,q2,rfl,rfl,rfl,h2,r2⟩:=trodAll_cons r1
 obtain ⟨rfl,rfl,rfl⟩:=trodAll_nil r2
 obtain rfl:args=#[v0,v1,v2]:=by cases args;simp_all
 obtain ⟨rfl,rfl⟩:=trodVars_none hV
 have hk:=of_decide_eq_true (hk0 _ rfl)
 simp only [List.append_nil,Rows.uptoBulkAll] at hk
 have lt0:∀ x ∈ p0,x.block < W.heap.size:=by obtain ⟨m,hm⟩:=h0;exact DataW.trod_lt m _ _ _ hm
 obtain ⟨fuel0,hf0⟩:=id h0
 obtain ⟨u0,l0,e0,s0⟩:=keys_of_trodU hf0
 try dsimp only at s0
 obtain ⟨a0,n0,c0,rfl⟩:=okWide_slice Tryz.underlying48 (hval 0 48 v0 rfl rfl)
 simp only [Value.cells,List.cons.injEq,and_true] at e0
 subst e0
 have lt1:∀ x ∈ p1,x.block < W.heap.size:=by obtain ⟨m,hm⟩:=h1;exact DataW.trod_lt m _ _ _ hm
 obtain ⟨fuel1,hf1⟩:=id h1
 obtain ⟨u1,l1,e1,s1⟩:=keys_of_trodU hf1
 try dsimp only at s1
 obtain ⟨a1,n1,c1,rfl⟩:=okWide_slice Tryz.underlying48 (hval 1 48 v1 rfl rfl)
 simp only [Value.cells,List.cons.injEq,and_true] at e1
 subst e1
 have lt2:∀ x ∈ p2,x.block < W.heap.size:=by obtain ⟨m,hm⟩:=h2;exact DataW.trod_lt m _ _ _ hm
 obtain ⟨fuel2,hf2⟩:=id h2
 obtain ⟨u2,l2,e2,s2⟩:=dops_of_trodB hf2
 try dsimp only at s2
 obtain ⟨a2,n2,c2,rfl⟩:=okWide_slice Tryz.underlying31 (hval 2 31 v2 rfl rfl)
 simp only [Value.cells,List.cons.injEq,and_true] at e2
 subst e2
 clear hA0 hval0
 refine ((CodecKeys_ok s0.1 s1.1 s2.1.1 htab s2.1.2 (by have:=s0.2;have:=s1.2;have:=s2.2;omega) (by have:=s0.2;have:=s1.2;have:=s2.2;omega))).mono fun e W' ⟨v,he,hv,hg⟩=>?_
 subst he;subst hv
 have bel:Below W.heap.size W W':=Mod.below hg (Nat.le_refl _) fun _ h=>h.elim
 exact ⟨_,rfl,_,_,_,[],_,[],hW',trodAll_mk1 (shut_bool Tryz.underlying4 _),(trodAll_cons_mk (Below.trod laidOut (by kernel_rfl) (of_decide_eq_true (by kernel_rfl)) h0 bel lt0) (trodAll_cons_mk (Below.trod laidOut (by kernel_rfl) (of_decide_eq_true (by kernel_rfl)) h1 bel lt1) (trodAll_cons_mk (Below.trod laidOut (by kernel_rfl) (of_decide_eq_true (by kernel_rfl)) h2 bel lt2) trodAll_mk0))),rfl,bel.frame _,fun h=>by cases h⟩
theorem CodecKeys_said:Rows.CodecKeysUptoSaid:=
 OpenClaim.holds_of_cond 13 Tryz.f13 rfl rfl rfl rfl rfl rfl rfl ⟨rfl,rfl,rfl,rfl,rfl⟩ rfl rfl rfl rfl rfl (by kernel_rfl) Tryz.func13 (by kernel_rfl)
  (of_decide_eq_true (by kernel_rfl)) (by unfold Func.isWrapper;first | (rw [if_pos (by decide +kernel)];kernel_rfl) | (rw [if_neg (by decide +kernel)];exact ⟨rfl,rfl⟩))
  (fun os started H enc _ F0=>CodecKeys_lifted os started H enc F0)
theorem CodecKeysUpto_proved:Rows.CodecKeysUptoCardSaid:=
 Claim7.holds_tied_plain_at .later [] [.data,.pinned] true Rows.codecKeysUptoCard.stood.harness false
  CodecKeys_said (fun _ h=>by cases h) (by kernel_rfl) (fun _ h=>by cases h) codecKeysUpto_row_tie rfl ⟨rfl,rfl⟩ (by kernel_rfl) rfl
  (fun f fn hf hfn=>by
   obtain rfl : f = 13 := Option.some.inj ((show Tryz.prog.funcNamed "rubric/rubriclaw17.CodecKeys" = some 13 by kernel_rfl).symm.trans hf) |>.symm
   obtain rfl:fn=Tryz.f13:=(Option.some.inj (Tryz.func13.symm.trans hfn)).symm
   exact ⟨by kernel_rfl,fun j t ht=>by
    rw [Tryz.params13] at ht
    have hm:t ∈ [48,48,31]:=by simpa using Array.mem_of_getElem? ht
    have hall:([48,48,31].all fun u=>!Tryz.prog.wantsStandIn u)=true:=by kernel_rfl
    exact (show Tryz.prog.wantsStandIn t=false by simpa using List.all_eq_true.1 hall t hm)⟩)
  (by kernel_rfl)
#print axioms CodecKeysUpto_proved
end Go.Proofs.YtlbaopamhkmepaaGreatDoor
