/- The small machine's operations that look at no memory: one function, and that it tells what our calculus asks. No conditions. The small machine's cells: reading, writing, laying rows. No conditions. The small machine: rows that grow, copying, bytes and strings. No conditions. The small machine: copying, bytes and strings, one's bytes gone over; what one operation does to memory. No conditions. The small machine: what one operation does to memory. No conditions. The small machine: what goes ahead of what in a drawn region, reckoned by bits; that it is what the calculus asks. No conditions. The small machine: a region, in its order, or drawn. No conditions. The small machine: operations reckoned once into what they do, a row of them. No conditions. -/
import Derived.Test.YtaimlfomodfekaaGreatDoorZScriptPrefix3
import Derived.Laws.AppendOwn
import Derived.Laws.IdiomCopy
import Derived.Laws.IdiomStrings
import Derived.Lib.AppendZeros
import Derived.Lib.OthersKept
import Derived.Laws.BytesArg
set_option linter.unusedSimpArgs false
set_option linter.unusedVariables false
namespace Go.K
open Go

def ixE (size:Nat) (x i:AV):Option AV:=
 match x,i with
 | .s y o n _,.i _ (.ofNat j)=>bif Nat.blt j n then some (.p y (o+j * size)) else none
 | .sg y q n k,.i _ (.ofNat j)=>bif Nat.blt j n && Nat.beq k size then some (.p y (q * k+j * size)) else none
 | _,_=>none
def ixaE (n size:Nat) (x i:AV):Option AV:=
 match x,i with
 | .p y o,.i _ (.ofNat j)=>bif Nat.blt j n then some (.p y (o+j * size)) else none
 | .gp y o,.i _ (.ofNat j)=>bif Nat.blt j n then some (.gp y (o+j * size)) else none
 | _,_=>none
def maxE (f:Int→Int→Int) (k:IntKind) (x y:AV):Option AV:=
 match x,y with
 | .i k1 a,.i k2 b=>bif beqI k1 k && beqI k2 k then some (.i k (f a b)) else none
 | _,_=>none
def data1 (P:Program) (x:AV) (s:Value→Sem Value):Option AV:=(toV x).bind fun v=>(pureSem P (s v)).bind fun r=>some (ofV r)
noncomputable def pureE (P:Program) (o:Oper) (A:Operand→AV):Option AV:=
 match o.op with
 | .move x=>some (A x)
 | .assign x=>some (A x)
 | .pick c a b=>match A c with | .b true=>some (A a) | .b false=>some (A b) | _=>none
 | .nilCheck x=>match A x with | .p y o=>some (.p y o) | .gp g o=>some (.gp g o) | _=>none
 | .binOp op t x y _=>binE P op t x y (A x) (A y)
 | .unOp .not _ x=>match A x with | .b v=>some (.b !v) | _=>none
 | .unOp op _ x=>data1 P (A x) (Op.unary op)
 | .fieldAddr s x f=>match unE P s with
  | some (.struct fs)=>match fs.toList[f]? with
   | some f=>match inE P f.type with
    | some i=>bif Nat.beq i.size 0 then none else match A x with
     | .p y o=>some (.p y (o+f.offset))
     | .gp y o=>some (.gp y (o+f.offset))
     | _=>none
    | none=>none
   | none=>none
  | _=>none
 | .indexAddr t x i=>match unE P t with
  | some (.slice e)=>match inE P e with | some f=>ixE f.size (A x) (A i) | none=>none
  | some (.array n e)=>match inE P e with | some f=>ixaE n f.size (A x) (A i) | none=>none
  | _=>none
 | .build t parts=>match unE P t,zeE P t with
  | some (.struct fs),some z=>match plE P fs.toList with
   | some l=>(fillE (fun i=>l[i]?) (z.cells.toList.map of1) (parts.toList.map fun p=>(p.1,A p.2))).bind fun c=>some (.agg c)
   | none=>none
  | some (.array _ _),_=>match parts.toList with
   | []=>(pureSem P (Instr.build t #[])).bind fun r=>some (ofV r)
   | _=>none
  | _,_=>none
 | .extract t i=>match A t with | .tup l=>l[i]? | _=>none
 | .makeFunc (.func g) fst cap=>some (.f g (fst.toList.map A) (cap.toList.map A))
 | .convert s d x=>data1 P (A x) (convert s d)
 | .slice t x lo hi mx=>slcE P t (A x) (lo.map A) (hi.map A) (mx.map A)
 | .field t x f=>match unE P t with
  | some (.struct fs)=>match fs.toList[f]?,A x with
   | some f,.agg l=>match agE P f.type with
    | some (true,k)=>some (.agg ((l.drop f.offset).take k))
    | some (false,_)=>l[f.offset]?
    | none=>none
   | _,_=>none
  | _=>none
 | .index t x i=>(to1 (A i)).bind fun j=>data1 P (A x) fun v=>Instr.index t v j
 | .call c=>match c.callee with
  | .builtin .len=>match c.argTypes.toList,c.args.toList with
   | [t],[x]=>match unE P t with
    | some (.slice _)=>match A x with | .sn=>some (.i .i64 0) | .s _ _ n _=>some (.i .i64 n) | .sg _ _ n _=>some (.i .i64 n) | _=>none
    | some .string=>match A x with | .t s=>some (.i .i64 s.size) | _=>none
    | _=>none
   | _,_=>none
  | .builtin .cap=>match c.argTypes.toList,c.args.toList with
   | [t],[x]=>match unE P t with
    | some (.slice _)=>match A x with | .sn=>some (.i .i64 0) | .s _ _ _ c=>some (.i .i64 c) | _=>none
    | _=>none
   | _,_=>none
  | .builtin .max=>match unE P o.type,c.args.toList with
   | some (.int k),[x,y]=>maxE (fun a b=>if b > a then b else a) k (A x) (A y)
   | _,_=>none
  | .builtin .min=>match unE P o.type,c.args.toList with
   | some (.int k),[x,y]=>maxE (fun a b=>if b < a then b else a) k (A x) (A y)
   | _,_=>none
  | _=>none
 | _=>none
section
variable {P:Program} {ok:Nat→Bool} {w:World} {σ:Sg} {A:Operand→AV} {ρ:Operand→Value}
theorem data1_ok {x a:AV} {v:Value} {s:Value→Sem Value} {K:Cont} (h:data1 P x s=some a) (hx:rel σ x v) (hK:∀ r,rel σ a r→K r w):runK P (s v) K w:=by
 simp only [data1,Option.bind_eq_some_iff,Option.some.injEq] at h
 obtain ⟨u,h1,r,h2,rfl⟩:=h
 rw [toV_rel h1 hx]
 exact ⟨r,w,pureSem_run h2 w,hK r (rel_ofV σ r)⟩
theorem relO_mapA (hA:∀ x,rel σ (A x) (ρ x)) (x:Option Operand):relO σ (x.map A) (x.map ρ):=by
 cases x with
 | none=>trivial
 | some x=>exact hA x
theorem part_run {t:TypeId} {k:Nat} {b:Bool} {cs:Array Value} {off:Nat} {K:Cont} (ha:aggOf P t=some (b,k)) (h:if b then K (.agg (cs.extract off (off+k))) w else ∃ v,cs[off]?=some v∧K v w):runK P (part t cs off) K w:=by
 obtain ⟨h1,h2⟩:=run_isAgg ha w
 cases b with
 | true=>exact ⟨_,w,by simp only [part,Sem.run_bind,h1,h2,Result.andThen_ok,if_true,Sem.run_pure],h⟩
 | false=>
  obtain ⟨v,e,hK⟩:=h
  exact ⟨v,w,by simp [part,Sem.run_bind,h1,e],hK⟩
set_option maxHeartbeats 1000000 in
theorem pureE_ok {o:Oper} {a:AV} {K:Cont} (h:pureE P o A=some a) (hA:∀ x,rel σ (A x) (ρ x)) (hρ:∀ v,ρ (.const v)=v) (hK:∀ r,rel σ a r→K r w):opD P ok o ρ K w:=by
 obtain ⟨dst,op,type,pos,after,guard⟩:=o
 cases op with
 | move x=>simp only [pureE,unE_eq,inE_eq,agE_eq,zeE_eq,plE_eq,Option.some.injEq] at h;subst h;exact hK _ (hA x)
 | assign x=>simp only [pureE,unE_eq,inE_eq,agE_eq,zeE_eq,plE_eq,Option.some.injEq] at h;subst h;exact hK _ (hA x)
 | pick c x y=>
  simp only [pureE,unE_eq,inE_eq,agE_eq,zeE_eq,plE_eq] at h
  have hc:=hA c
  simp only [opD,pickK]
  split at h
  ·rename_i e
   rw [e] at hc
   simp only [rel] at hc
   simp only [Option.some.injEq] at h;subst h
   rw [hc]
   exact hK _ (hA x)
  ·rename_i e
   rw [e] at hc
   simp only [rel] at hc
   simp only [Option.some.injEq] at h;subst h
   rw [hc]
   exact hK _ (hA y)
  ·cases h
 | nilCheck x=>
  simp only [pureE,unE_eq,inE_eq,agE_eq,zeE_eq,plE_eq] at h
  have hx:=hA x
  split at h
  ·rename_i e
   rw [e] at hx
   simp only [Option.some.injEq] at h;subst h
   obtain ⟨b,C,e1,e2⟩:=hx
   exact ⟨_,e2,hK _ ⟨b,C,e1,e2⟩⟩
  ·rename_i e
   rw [e] at hx
   simp only [Option.some.injEq] at h;subst h
   exact ⟨_,hx,hK _ hx⟩
  ·cases h
 | binOp op t x y yt=>
  simp only [pureE,unE_eq,inE_eq,agE_eq,zeE_eq,plE_eq] at h
  simp only [opD]
  rcases bin_all h (hA x) (hA y) (fun c e=>by rw [e];exact hρ c) with ⟨_,h2⟩ | ⟨_,⟨r,h2,h3⟩,h4⟩
  ·exact h2 _ _ hK
  ·exact h4 _ _ ⟨r,w,h3 w,hK r h2⟩
 | unOp op t x=>
  cases op with
  | not=>
   simp only [pureE,unE_eq,inE_eq,agE_eq,zeE_eq,plE_eq] at h
   have hx:=hA x
   split at h
   ·rename_i e
    rw [e] at hx
    simp only [Option.some.injEq] at h;subst h
    exact ⟨_,hx,hK _ rfl⟩
   ·cases h
  | neg=>simp only [pureE,unE_eq,inE_eq,agE_eq,zeE_eq,plE_eq] at h;exact data1_ok h (hA x) hK
  | xor=>simp only [pureE,unE_eq,inE_eq,agE_eq,zeE_eq,plE_eq] at h;exact data1_ok h (hA x) hK
  | plus=>simp only [pureE,unE_eq,inE_eq,agE_eq,zeE_eq,plE_eq] at h;exact data1_ok h (hA x) hK
 | fieldAddr s x f=>
  simp only [pureE,unE_eq,inE_eq,agE_eq,zeE_eq,plE_eq] at h
  simp only [opD]
  split at h
  ·rename_i fs hu
   simp only [hu] at h ⊢
   split at h
   ·rename_i f' hf
    simp only [hf] at h ⊢
    split at h
    ·rename_i i hi
     simp only [hi] at h ⊢
     cases hb:Nat.beq i.size 0 with
     | true=>rw [hb] at h;cases h
     | false=>
      rw [hb] at h
      simp only [cond_false] at h ⊢
      have hx:=hA x
      split at h
      ·rename_i e
       rw [e] at hx
       simp only [Option.some.injEq] at h;subst h
       obtain ⟨b,C,e1,e2⟩:=hx
       exact ⟨_,e2,hK _ ⟨b,C,e1,by rw [addr_add]⟩⟩
      ·rename_i e
       rw [e] at hx
       simp only [Option.some.injEq] at h;subst h
       exact ⟨_,hx,hK _ (by rw [addr_add];rfl)⟩
      ·cases h
    ·cases h
   ·cases h
  ·cases h
 | indexAddr t x i=>
  simp only [pureE,unE_eq,inE_eq,agE_eq,zeE_eq,plE_eq] at h
  simp only [opD]
  have hx:=hA x
  have hj:=hA i
  split at h
  ·rename_i e hu
   simp only [hu]
   split at h
   ·rename_i f hf
    simp only [hf]
    unfold ixE at h
    split at h
    ·rename_i y o n c k j e1 e2
     rw [e1] at hx
     rw [e2] at hj
     cases hb:Nat.blt j n with
     | false=>rw [hb] at h;cases h
     | true=>
      rw [hb] at h
      simp only [cond_true,Option.some.injEq] at h;subst h
      have hlt:j < n:=Nat.le_of_ble_eq_true hb
      obtain ⟨b,C,e3,e4⟩:=hx
      refine ⟨_,n,c,k,j,e4,hj,Int.natCast_nonneg _,by omega,hK _ ⟨b,C,e3,?_⟩⟩
      rw [addr_add];rfl
    ·rename_i y q n kk k j e1 e2
     rw [e1] at hx
     rw [e2] at hj
     cases hb:(Nat.blt j n && Nat.beq kk f.size) with
     | false=>rw [hb] at h;cases h
     | true=>
      rw [hb] at h
      simp only [cond_true,Option.some.injEq] at h;subst h
      simp only [Bool.and_eq_true] at hb
      have hlt:j < n:=Nat.le_of_ble_eq_true hb.1
      obtain ⟨b,C,a,e3,e5,e6,e4⟩:=hx
      rw [e6 (by omega)] at e4
      refine ⟨_,n,_,k,j,e4,hj,Int.natCast_nonneg _,by omega,hK _ ⟨b,C,e3,?_⟩⟩
      rw [addr_add];rfl
    ·cases h
   ·cases h
  ·rename_i n e hu
   simp only [hu]
   split at h
   ·rename_i f hf
    unfold ixaE at h
    split at h
    ·rename_i y o k j e1 e2
     rw [e1] at hx
     rw [e2] at hj
     cases hb:Nat.blt j n with
     | false=>rw [hb] at h;cases h
     | true=>
      rw [hb] at h
      simp only [cond_true,Option.some.injEq] at h;subst h
      have hlt:j < n:=Nat.le_of_ble_eq_true hb
      obtain ⟨b,C,e3,e4⟩:=hx
      have hj':ρ i=.int k (j:Int):=hj
      rw [e4,hj']
      refine ⟨.pointer (some ((⟨b,o,none⟩:Addr).add (j * f.size))),w,by simp [Instr.indexAt,Instr.sureAddr,run_underlying hu,asIntOf,sizeOf,typeInfo,hf,Result.andThen,hlt],hK _ ⟨b,C,e3,?_⟩⟩
      rw [addr_add]
    ·rename_i y o k j e1 e2
     rw [e1] at hx
     rw [e2] at hj
     cases hb:Nat.blt j n with
     | false=>rw [hb] at h;cases h
     | true=>
      rw [hb] at h
      simp only [cond_true,Option.some.injEq] at h;subst h
      have hlt:j < n:=Nat.le_of_ble_eq_true hb
      have hx':ρ x=.pointer (some ⟨y,o,none⟩):=hx
      have hj':ρ i=.int k (j:Int):=hj
      rw [hx',hj']
      refine ⟨.pointer (some ((⟨y,o,none⟩:Addr).add (j * f.size))),w,by simp [Instr.indexAt,Instr.sureAddr,run_underlying hu,asIntOf,sizeOf,typeInfo,hf,Result.andThen,hlt],hK _ ?_⟩
      rw [addr_add];rfl
    ·cases h
   ·cases h
  ·cases h
 | build t parts=>
  simp only [pureE,unE_eq,inE_eq,agE_eq,zeE_eq,plE_eq] at h
  simp only [opD]
  split at h
  ·rename_i fs z hu hz
   simp only [hu,hz]
   split at h
   ·rename_i l hl
    simp only [hl]
    simp only [Option.bind_eq_some_iff,Option.some.injEq] at h
    obtain ⟨c,h1,rfl⟩:=h
    obtain ⟨c',h2,h3⟩:=fill_rel (σ:=σ) (ps:=parts.toList.map fun p=>(p.1,A p.2)) (qs:=parts.toList.map fun p=>(p.1,ρ p.2)) (c:=z.cells.toList.toArray) (by simp) (fun i p q hp hq=>by
     simp only [List.getElem?_map,Option.map_eq_some_iff] at hp hq
     obtain ⟨u,e1,rfl⟩:=hp
     obtain ⟨u',e2,rfl⟩:=hq
     rw [e1] at e2;cases e2
     exact ⟨rfl,hA _⟩) (by simpa using relL_map (g:=fun v=>v) (rel_of1 σ) z.cells.toList) h1
    exact ⟨c',h2,hK _ ⟨c'.toList,h3,rfl⟩⟩
   ·cases h
  ·rename_i q1 q2 hu
   split at h
   ·rename_i hp
    simp only [Option.bind_eq_some_iff,Option.some.injEq] at h
    obtain ⟨r,h1,rfl⟩:=h
    simp only [hu,hp,List.map_nil]
    exact ⟨r,w,pureSem_run h1 w,hK _ (rel_ofV σ r)⟩
   ·cases h
  ·cases h
 | extract t i=>
  simp only [pureE,unE_eq,inE_eq,agE_eq,zeE_eq,plE_eq] at h
  have ht:=hA t
  split at h
  ·rename_i l e
   rw [e] at ht
   obtain ⟨vs,h1,h2⟩:=ht
   obtain ⟨v,h3,h4⟩:=relL_get h1 h
   exact ⟨vs,v,h2,h3,hK v h4⟩
  ·cases h
 | makeFunc fn fst cap=>
  cases fn with
  | func g=>
   simp only [pureE,unE_eq,inE_eq,agE_eq,zeE_eq,plE_eq,Option.some.injEq] at h;subst h
   exact hK _ ⟨_,_,relL_map hA fst.toList,relL_map hA cap.toList,rfl⟩
  | _=>cases h
 | convert s d x=>simp only [pureE,unE_eq,inE_eq,agE_eq,zeE_eq,plE_eq] at h;exact data1_ok h (hA x) hK
 | slice t x lo hi mx=>simp only [pureE,unE_eq,inE_eq,agE_eq,zeE_eq,plE_eq] at h;exact slc_ok h (hA x) (relO_mapA hA lo) (relO_mapA hA hi) (relO_mapA hA mx) hK
 | field t x f=>
  simp only [pureE,unE_eq,inE_eq,agE_eq,zeE_eq,plE_eq] at h
  simp only [opD]
  have hx:=hA x
  split at h
  ·rename_i fs hu
   split at h
   ·rename_i f' l hf e
    rw [e] at hx
    obtain ⟨vs,h1,h2⟩:=hx
    rw [h2]
    have hf':fs[f]?=some f':=by rw [←hf];simp
    have key:runK P (part f'.type vs.toArray f'.offset) K w→runK P (Instr.field t (.agg vs.toArray) f) K w:=fun ⟨v,w',r1,r2⟩=>⟨v,w',by
     unfold Instr.field
     simp only [Sem.run_bind,run_underlying hu,Result.andThen_ok,hf',asAgg,Sem.run_pure]
     exact r1,r2⟩
    refine key ?_
    split at h
    ·rename_i k ha
     simp only [Option.some.injEq] at h;subst h
     refine part_run ha ?_
     rw [if_pos rfl]
     refine hK _ ⟨_,relL_take k (relL_drop f'.offset h1),?_⟩
     congr 1
     apply Array.toList_inj.1
     simp
    ·rename_i k ha
     obtain ⟨v,h3,h4⟩:=relL_get h1 h
     refine part_run ha ?_
     rw [if_neg (by decide)]
     exact ⟨v,by simpa using h3,hK v h4⟩
    ·cases h
   ·cases h
  ·cases h
 | index t x i=>
  simp only [pureE,unE_eq,inE_eq,agE_eq,zeE_eq,plE_eq,Option.bind_eq_some_iff] at h
  obtain ⟨j,h1,h2⟩:=h
  simp only [opD]
  rw [to1_rel h1 (hA i)]
  exact data1_ok (s:=fun v=>Instr.index t v j) h2 (hA x) hK
 | call c=>
  obtain ⟨callee,args,ats⟩:=c
  cases callee with
  | builtin b=>
   cases b <;> simp only [pureE,unE_eq,inE_eq,agE_eq,zeE_eq,plE_eq] at h <;> try (cases h;done)
   all_goals simp only [opD]
   case len=>
    split at h
    ·rename_i t x ht hx
     simp only [ht,hx]
     have hv:=hA x
     split at h
     ·rename_i e hu
      simp only [hu]
      split at h
      ·rename_i e
       rw [e] at hv
       simp only [Option.some.injEq] at h;subst h
       exact ⟨none,0,0,hv,hK _ rfl⟩
      ·rename_i e
       rw [e] at hv
       simp only [Option.some.injEq] at h;subst h
       obtain ⟨b,C,_,e2⟩:=hv
       exact ⟨_,_,_,e2,hK _ rfl⟩
      ·rename_i e
       rw [e] at hv
       simp only [Option.some.injEq] at h;subst h
       obtain ⟨b,C,_,_,_,_,e2⟩:=hv
       exact ⟨_,_,_,e2,hK _ rfl⟩
      ·cases h
     ·rename_i hu
      simp only [hu]
      split at h
      ·rename_i e
       rw [e] at hv
       simp only [Option.some.injEq] at h;subst h
       exact ⟨_,hv,hK _ rfl⟩
      ·cases h
     ·cases h
    ·cases h
   case cap=>
    split at h
    ·rename_i t x ht hx
     have hv:=hA x
     have hats:ats=#[t]:=by rw [←Array.toArray_toList (xs:=ats),ht]
     have hargs:(args.toList.map ρ).toArray=#[ρ x]:=by rw [hx];rfl
     split at h
     ·rename_i e hu
      have run:∀ a n c,(Builtin.cap_ #[t] type #[.slice a n c]).run P w=.ok (goInt c) w:=fun a n c=>by simp [Builtin.cap_,run_underlying hu]
      rw [hats,hargs]
      split at h
      ·rename_i e
       rw [e] at hv
       simp only [Option.some.injEq] at h;subst h
       simp only [rel] at hv
       rw [hv]
       exact ⟨_,_,run none 0 0,hK _ rfl⟩
      ·rename_i e
       rw [e] at hv
       simp only [Option.some.injEq] at h;subst h
       obtain ⟨b,C,_,e2⟩:=hv
       rw [e2]
       exact ⟨_,_,run _ _ _,hK _ rfl⟩
      ·cases h
     ·cases h
    ·cases h
   case max=>
    split at h
    ·rename_i k x y hk hx
     simp only [hk,hx]
     unfold maxE at h
     have h1:=hA x
     have h2:=hA y
     split at h
     ·rename_i k1 p k2 q e1 e2
      rw [e1] at h1
      rw [e2] at h2
      cases hb:(beqI k1 k && beqI k2 k) with
      | false=>rw [hb] at h;cases h
      | true=>
       rw [hb] at h
       simp only [Bool.and_eq_true] at hb
       simp only [cond_true,Option.some.injEq] at h;subst h
       have e3:=beqI_eq hb.1
       have e4:=beqI_eq hb.2
       subst e3;subst e4
       exact ⟨p,q,h1,h2,hK _ rfl⟩
     ·cases h
    ·cases h
   case min=>
    split at h
    ·rename_i k x y hk hx
     simp only [hk,hx]
     unfold maxE at h
     have h1:=hA x
     have h2:=hA y
     split at h
     ·rename_i k1 p k2 q e1 e2
      rw [e1] at h1
      rw [e2] at h2
      cases hb:(beqI k1 k && beqI k2 k) with
      | false=>rw [hb] at h;cases h
      | true=>
       rw [hb] at h
       simp only [Bool.and_eq_true] at hb
       simp only [cond_true,Option.some.injEq] at h;subst h
       have e3:=beqI_eq hb.1
       have e4:=beqI_eq hb.2
       subst e3;subst e4
       exact ⟨p,q,h1,h2,hK _ rfl⟩
     ·cases h
    ·cases h
  | _=>cases h
 | _=>cases h
end
end Go.K

namespace Go.K
open Go

noncomputable def cellsOf (h:HP) (y:Nat):Option (List AV × Nat):=match hget h y with | some (.cells l k)=>some (l,k) | _=>none
theorem cellsOf_get {h:HP} {y k:Nat} {l:List AV} (e:cellsOf h y=some (l,k)):hget h y=some (.cells l k):=by
 unfold cellsOf at e
 split at e
 ·rename_i l' k' hg
  simp only [Option.some.injEq,Prod.mk.injEq] at e
  rw [hg,e.1,e.2]
 ·cases e
def putV:List Value→Nat→List Value→List Value
 | l,_,[]=>l
 | l,o,v :: vs=>putV (l.set o v) (o+1) vs
theorem putV_len:∀ (vs:List Value) (l:List Value) (o:Nat),(putV l o vs).length=l.length
 | [],_,_=>rfl
 | v :: vs,l,o=>by rw [putV,putV_len vs];simp
theorem put_relV {σ:Sg}:∀ {cs:List AV} {vs:List Value} {l:List AV} {us:List Value} (o:Nat),relL σ cs vs→relL σ l us→relL σ (putL l o cs) (putV us o vs)
 | [],_,_,_,_,e,h=>by cases (show _=_ from e);exact h
 | _ :: _,_,_,_,o,⟨v,r,e1,e2,e3⟩,h=>by subst e1;exact put_relV (o+1) e3 (relL_set e2 o h)
theorem putV_left:∀ (vs:List Value) (a b:List Value) (o:Nat),o+vs.length≤a.length→putV (a++b) o vs=putV a o vs++b
 | [],_,_,_,_=>rfl
 | v :: vs,a,b,o,h=>by
  simp only [List.length_cons] at h
  rw [putV,putV,List.set_append_left _ _ (by omega),putV_left vs _ b (o+1) (by simp;omega)]
theorem putV_end:∀ (vs:List Value) (a b:List Value),vs.length≤b.length→putV (a++b) a.length vs=a++vs++b.drop vs.length
 | [],a,b,_=>by simp [putV]
 | v :: vs,a,[],h=>by simp at h
 | v :: vs,a,c :: b,h=>by
  simp only [List.length_cons] at h
  have e:(a++c :: b).set a.length v=(a++[v])++b:=by rw [List.set_append_right _ _ (Nat.le_refl _)];simp
  have e2:=putV_end vs (a++[v]) b (by omega)
  rw [List.length_append,List.length_singleton] at e2
  rw [putV,e,e2]
  simp
theorem setCells_obj (b:Nat):∀ (vs:List Value) (o:Nat) (w:World) (us:List Value) (t:TypeId) (fr:Nat × Nat),w.heap[b]?=some (.cells us.toArray t fr)→(w.setCells b o vs).heap[b]?=some (.cells (putV us o vs).toArray t fr)
 | [],_,_,_,_,_,h=>h
 | v :: vs,o,w,us,t,fr,h=>by
  rw [World.setCells,putV]
  refine setCells_obj b vs (o+1) _ _ t fr ?_
  simp [World.setCell,Array.getElem?_modify,h]
theorem setCells_mod (b:Nat):∀ (vs:List Value) (o:Nat) (w:World),Mod (fun z=>z=b) w (w.setCells b o vs)
 | [],_,w=>Mod.refl _ _
 | v :: vs,o,w=>by
  rw [World.setCells]
  have h:Mod (fun z=>z=b) w (w.setCell ⟨b,o,none⟩ v):=Mod.setCell w ⟨b,o,none⟩ v rfl
  exact h.trans (setCells_mod b vs (o+1) _)
theorem setL_cells (b o:Nat):∀ (vs:List Value) (i:Nat) (w:World),setL w ⟨b,o,none⟩ i vs=w.setCells b (o+i) vs
 | [],_,_=>rfl
 | v :: vs,i,w=>by rw [setL,World.setCells,addr_add,setL_cells b o vs (i+1)];rfl
section
variable {P:Program} {ok:Nat→Bool} {glob:Nat→Nat→Option AV} {B:Nat} {ctx:List (Nat × LI)} {lk:List Nat} {σ:Sg} {s:St} {w:World}
theorem SR.cells (h:SR glob B ctx lk σ s w) {y k:Nat} {l:List AV} (e:cellsOf s.h y=some (l,k)):∃ b C vs r t fr,σ y=some (b,C)∧w.heap[b]?=some (.cells (vs++r).toArray t fr)∧(fr.1=fr.2∨(vs++r).length≤fr.1)∧relL σ l vs∧allOne l=true∧(k=0→r=[])∧(k≠0→(vs++r).length=C * k):=by
 obtain ⟨b,C,q,e1,e2,vs,r,t,fr,e3,e4⟩:=h.live (cellsOf_get e) (by simp)
 subst e3
 exact ⟨b,C,vs,r,t,fr,e1,e2,e4⟩
theorem cell_of {b o:Nat} {us:List Value} {t:TypeId} {fr:Nat × Nat} {v:Value} (h:w.heap[b]?=some (.cells us.toArray t fr)) (hv:us[o]?=some v):w.cell? ⟨b,o,none⟩=some v:=by
 simp [World.cell?,h,hv]
theorem frozen_of {b o:Nat} {us:List Value} {t:TypeId} {fr:Nat × Nat} (h:w.heap[b]?=some (.cells us.toArray t fr)) (hf:fr.1=fr.2∨us.length≤fr.1) (ho:o < us.length):w.frozen? ⟨b,o,none⟩=false:=by
 simp only [World.frozen?,h]
 rcases hf with e | e
 ·rw [e]
  by_cases hq:fr.2≤o
  ·have:¬ o < fr.2:=by omega
   simp [this]
  ·simp [hq]
 ·have:¬ fr.1≤o:=by omega
  simp [this]
theorem SR.cell (h:SR glob B ctx lk σ s w) {y k o:Nat} {l:List AV} {a:AV} (e:cellsOf s.h y=some (l,k)) (ha:l[o]?=some a):∃ b C v,σ y=some (b,C)∧w.cell? ⟨b,o,none⟩=some v∧rel σ a v:=by
 obtain ⟨b,C,vs,r,t,fr,e1,e2,_,e3,_⟩:=h.cells e
 obtain ⟨v,e4,e5⟩:=relL_get e3 ha
 have hl:=(List.getElem?_eq_some_iff.1 e4).1
 exact ⟨b,C,v,e1,cell_of e2 (by rw [List.getElem?_append_left hl];exact e4),e5⟩
noncomputable def loadE (P:Program) (glob:Nat→Nat→Option AV) (h:HP) (t:TypeId) (x:AV):Option AV:=
 match agE P t with
 | some (false,_)=>match x with
  | .p y o=>(cellsOf h y).bind fun c=>c.1[o]?
  | .gp g o=>glob g o
  | _=>none
 | some (true,k)=>match x with
  | .p y o=>(cellsOf h y).bind fun c=>bif Nat.ble (o+k) c.1.length then some (.agg ((c.1.drop o).take k)) else none
  | _=>none
 | none=>none
def loadN:AV→List Nat
 | .p y _=>[y]
 | _=>[]
theorem load_ok (h:SR glob B ctx lk σ s w) {t:TypeId} {x a:AV} {v:Value} (e:loadE P glob s.h t x=some a) (hx:rel σ x v) :
  ∃ ad,v=.pointer (some ad)∧((∃ y b C,x=.p y ad.off∧σ y=some (b,C)∧ad.block=b∧∃ o,hget s.h y=some o∧o≠.dead)∨ad.block < B)∧
   ((∃ k r,aggOf P t=some (false,k)∧w.cell? ad=some r∧rel σ a r)∨(∃ (k:Nat) (vs:List Value),aggOf P t=some (true,k)∧vs.length=k∧(∀ j u,vs[j]?=some u→w.cell? (ad.add j)=some u)∧rel σ a (.agg vs.toArray))):=by
 unfold loadE at e
 try simp only [unE_eq,inE_eq,agE_eq,zeE_eq,plE_eq] at e
 split at e
 ·rename_i k ha
  split at e
  ·rename_i y o
   simp only [Option.bind_eq_some_iff] at e
   obtain ⟨⟨l,k'⟩,e1,e2⟩:=e
   obtain ⟨b,C,r,e3,e4,e5⟩:=h.cell e1 e2
   obtain ⟨b',C',e6,e7⟩:=hx
   rw [e3] at e6;cases e6
   exact ⟨⟨b,o,none⟩,e7,.inl ⟨y,b,C,rfl,e3,rfl,_,cellsOf_get e1,by simp⟩,.inl ⟨k,r,ha,e4,e5⟩⟩
  ·rename_i g o
   obtain ⟨e1,r,e2,e3⟩:=h.gl g o a e
   exact ⟨⟨g,o,none⟩,hx,.inr e1,.inl ⟨k,r,ha,e2,rel_le (fun _ _ hh=>by cases hh) e3⟩⟩
  ·cases e
 ·rename_i k ha
  split at e
  ·rename_i y o
   simp only [Option.bind_eq_some_iff] at e
   obtain ⟨⟨l,k'⟩,e1,e2⟩:=e
   cases hb:Nat.ble (o+k) l.length with
   | false=>rw [hb] at e2;cases e2
   | true=>
    rw [hb] at e2
    simp only [cond_true,Option.some.injEq] at e2
    subst e2
    have hle:=Nat.le_of_ble_eq_true hb
    obtain ⟨b,C,vs,r,t',fr,e3,e4,_,e5,_⟩:=h.cells e1
    have hl:=relL_len e5
    obtain ⟨b',C',e6,e7⟩:=hx
    rw [e3] at e6;cases e6
    refine ⟨⟨b,o,none⟩,e7,.inl ⟨y,b,C,rfl,e3,rfl,_,cellsOf_get e1,by simp⟩,.inr ⟨k,(vs.drop o).take k,ha,by simp;omega,fun j u hu=>?_,_,relL_take k (relL_drop o e5),rfl⟩⟩
    rw [addr_add]
    rw [List.getElem?_take] at hu
    split at hu
    ·rw [List.getElem?_drop] at hu
     refine cell_of e4 ?_
     rw [List.getElem?_append_left (List.getElem?_eq_some_iff.1 hu).1]
     exact hu
    ·cases hu
  ·cases e
 ·cases e
theorem loadD_ok (h:SR glob B ctx lk σ s w) {t:TypeId} {x a:AV} {v:Value} {K:Cont} (e:loadE P glob s.h t x=some a) (hx:rel σ x v) (hK:∀ r,rel σ a r→K r w) :
  match aggOf P t with | some (false,_)=>ld1K v K w | some (true,k)=>ldnK k v K w | none=>False:=by
 obtain ⟨ad,rfl,_,⟨k,r,e1,e2,e3⟩ | ⟨k,vs,e1,e2,e3,e4⟩⟩:=load_ok h e hx
 ·rw [e1];exact ⟨ad,r,rfl,e2,hK r e3⟩
 ·rw [e1];exact ⟨ad,vs,rfl,e2,e3,hK _ e4⟩
noncomputable def writeE (lk:List Nat) (s:St) (y o:Nat) (cs:List AV):Option St:=
 (cellsOf s.h y).bind fun c=>bif Nat.ble (o+cs.length) c.1.length && (!memB lk y && allOne cs) then fS (putL c.1 o cs) fun l=>hsetS s.h y (.cells l c.2) fun h=>some ⟨h,s.nx⟩ else none
theorem allOne_put:∀ {cs l:List AV} (o:Nat),allOne cs=true→allOne l=true→allOne (putL l o cs)=true
 | [],_,_,_,h=>h
 | c :: cs,l,o,hc,h=>by
  simp only [allOne,Bool.and_eq_true] at hc
  refine allOne_put (o+1) hc.2 ?_
  have set1:∀ (l:List AV) (o:Nat),allOne l=true→allOne (l.set o c)=true:=by
   intro l
   induction l with
   | nil=>intro o h;exact h
   | cons a l ih=>
    intro o h
    simp only [allOne,Bool.and_eq_true] at h
    cases o with
    | zero=>simp [allOne,hc.1,h.2]
    | succ o=>simp [allOne,h.1,ih o h.2]
  exact set1 l o h
theorem write_ok (h:SR glob B ctx lk σ s w) {y o:Nat} {cs:List AV} {s':St} {vs:List Value} (e:writeE lk s y o cs=some s') (hv:relL σ cs vs) :
  ∃ b C,σ y=some (b,C)∧(∀ j,j < vs.length→(w.cell? ⟨b,o+j,none⟩).isSome=true∧w.frozen? ⟨b,o+j,none⟩=false)∧(∀ v ∈ vs,v.oneCell'=true)∧Ext B lk σ w σ (w.setCells b o vs)∧SR glob B ctx lk σ s' (w.setCells b o vs):=by
 simp only [writeE,fS_eq,hsetS_eq,Option.bind_eq_some_iff] at e
 obtain ⟨⟨l,k⟩,e1,e2⟩:=e
 cases hb:(Nat.ble (o+cs.length) l.length && (!memB lk y && allOne cs)) with
 | false=>rw [hb] at e2;cases e2
 | true=>
  rw [hb] at e2
  simp only [cond_true,Option.some.injEq] at e2
  subst e2
  simp only [Bool.and_eq_true,Bool.not_eq_true'] at hb
  obtain ⟨hb1,hb2,hb3⟩:=hb
  have hle:=Nat.le_of_ble_eq_true hb1
  obtain ⟨b,C,us,r,t,fr,e3,e4,e5,e6,e7,e8,e9⟩:=h.cells e1
  have hl:=relL_len e6
  have hlv:=relL_len hv
  have key:=h.put (o':=.cells (putL l o cs) k) (q:=.cells (putV us o vs++r).toArray t fr) (cellsOf_get e1) (by simp) (memB_false.1 hb2) e3 (setCells_mod b vs o w)
   (fun _=>by have:=setCells_obj b vs o w _ t fr e4;rw [putV_left _ _ _ _ (by omega)] at this;exact this)
   (fun _=>⟨putV us o vs,r,t,fr,rfl,by rw [List.length_append,putV_len,←List.length_append];exact e5,put_relV o hv e6,allOne_put o hb3 e7,e8,fun hk=>by rw [List.length_append,putV_len,←List.length_append];exact e9 hk⟩)
  refine ⟨b,C,e3,fun j hj=>?_,allOne_rel hb3 hv,key.1,key.2⟩
  have hj':o+j < (us++r).length:=by rw [List.length_append];omega
  exact ⟨by rw [cell_of e4 (List.getElem?_eq_getElem hj')];rfl,frozen_of e4 e5 hj'⟩
noncomputable def storeE (P:Program) (lk:List Nat) (s:St) (t:TypeId) (x v:AV):Option St:=
 match x with
 | .p y o=>match agE P t with
  | some (false,k)=>bif Nat.beq k 1 && isOne v then writeE lk s y o [v] else none
  | some (true,k)=>match v with
   | .agg l=>bif Nat.beq l.length k then writeE lk s y o l else none
   | _=>none
  | none=>none
 | _=>none
theorem store_ok (h:SR glob B ctx lk σ s w) {t:TypeId} {x a:AV} {u v:Value} {s':St} {K:World→Prop} (e:storeE P lk s t x a=some s') (hx:rel σ x u) (hv:rel σ a v) (hK:∀ w',Ext B lk σ w σ w'→SR glob B ctx lk σ s' w'→K w') :
  match aggOf P t with | some (false,k)=>bif Nat.beq k 1 then st1K u v K w else False | some (true,k)=>stnK k u v K w | none=>False:=by
 unfold storeE at e
 try simp only [unE_eq,inE_eq,agE_eq,zeE_eq,plE_eq] at e
 split at e
 ·rename_i y o
  split at e
  ·rename_i k ha
   cases hb:(Nat.beq k 1 && isOne a) with
   | false=>rw [hb] at e;cases e
   | true=>
    rw [hb] at e
    simp only [cond_true] at e
    simp only [Bool.and_eq_true] at hb
    simp only [hb.1,cond_true]
    obtain ⟨b,C,e1,e2,e3,e4,e5⟩:=write_ok (vs:=[v]) h e ⟨v,[],rfl,hv,rfl⟩
    obtain ⟨b',C',e6,e7⟩:=hx
    rw [e1] at e6;cases e6
    obtain ⟨f1,f2⟩:=e2 0 (by simp)
    obtain ⟨z,hz⟩:=Option.isSome_iff_exists.1 f1
    obtain ⟨g1,g2⟩:=isOne_rel hb.2 hv
    exact ⟨⟨b,o,none⟩,z,e7,g1,g2,hz,f2,hK _ e4 e5⟩
  ·rename_i k ha
   split at e
   ·rename_i l
    cases hb:Nat.beq l.length k with
    | false=>rw [hb] at e;cases e
    | true=>
     rw [hb] at e
     simp only [cond_true] at e
     have hlk:=Nat.eq_of_beq_eq_true hb
     obtain ⟨vs,r1,r2⟩:=hv
     obtain ⟨b,C,e1,e2,e3,e4,e5⟩:=write_ok h e r1
     obtain ⟨b',C',e6,e7⟩:=hx
     rw [e1] at e6;cases e6
     have hlen:=relL_len r1
     refine ⟨⟨b,o,none⟩,vs,e7,r2,by omega,e3,fun j hj=>?_,?_⟩
     ·rw [addr_add];exact e2 j (by omega)
     ·rw [setL_cells];exact hK _ e4 e5
   ·cases e
  ·cases e
 ·cases e
def fO {α:Type} (o:AO) (k:AO→α):α:=match o with
 | .cells l n=>fL l fun l=>k (.cells l n)
 | o=>k o
theorem fO_eq {α:Type} (o:AO) (k:AO→α):fO o k=k o:=by cases o <;> simp only [fO,fL_eq]
noncomputable def newE (s:St) (o:AO):Option St:=fO o fun o=>hinsS s.h s.nx o fun h=>fN (s.nx+1) fun x=>some ⟨h,x⟩
theorem new_ok' (h:SR glob B ctx lk σ s w) {o:AO} {s':St} (e:newE s o=some s') {q:Obj} {w':World} (hw:w'=w.alloc q∨w'=w.drew.alloc q) (C:Nat) (ho:∀ σ',Le σ σ'→σ' s.nx=some (w.heap.size,C)→OR σ' ctx s.nx C o q) :
  ∃ σ',σ' s.nx=some (w.heap.size,C)∧Ext B lk σ w σ' w'∧SR glob B ctx lk σ' s' w':=by
 simp only [newE,fO_eq,fN_eq,hinsS_eq,Option.bind_eq_some_iff,Option.some.injEq] at e
 obtain ⟨h',e1,rfl⟩:=e
 have g:Grow w w':=by
  rcases hw with rfl | rfl
  ·exact Mod.alloc _ _ _
  ·exact (Mod.drew (fun _=>False) w).trans (Mod.alloc _ _ _)
 have hq:w'.heap[w.heap.size]?=some q:=by
  rcases hw with rfl | rfl
  ·exact World.alloc_heap_new _ _
  ·have:=World.alloc_heap_new w.drew q
   exact this
 have hs:w.heap.size < w'.heap.size:=(Array.getElem?_eq_some_iff.1 hq).1
 exact h.new e1 g (Nat.le_refl _) hs hq ho _
theorem newcells_ok (h:SR glob B ctx lk σ s w) {l:List AV} {s':St} (e:newE s (.cells l 0)=some s') (ha:allOne l=true) {vs:List Value} (hv:relL σ l vs) (t:TypeId) :
  ∃ σ',σ' s.nx=some (w.heap.size,0)∧Ext B lk σ w σ' (w.alloc (.cells vs.toArray t))∧SR glob B ctx lk σ' s' (w.alloc (.cells vs.toArray t)):=
 new_ok' h e (.inl rfl) 0 fun σ' hle _=>⟨vs,[],t,(0,0),by simp,.inl rfl,relL_le hle hv,ha,fun _=>rfl,fun hk=>(hk rfl).elim⟩
end
end Go.K

namespace Go.K
open Go

theorem allOne_iff:∀ {l:List AV},allOne l=true↔∀ a ∈ l,isOne a=true
 | []=>by simp [allOne]
 | a :: l=>by simp [allOne,allOne_iff (l:=l)]
theorem allOne_app {l m:List AV} (h:allOne l=true) (k:allOne m=true):allOne (l++m)=true:=allOne_iff.2 fun a ha=>by
 rcases List.mem_append.1 ha with ha | ha
 ·exact allOne_iff.1 h a ha
 ·exact allOne_iff.1 k a ha
section
variable {P:Program} {ok:Nat→Bool} {glob:Nat→Nat→Option AV} {B:Nat} {ctx:List (Nat × LI)} {lk:List Nat} {σ:Sg} {s:St} {w:World}
def byteA (l:List UInt8):List AV:=l.map fun b=>.i .u8 b.toNat
noncomputable def srcE (P:Program) (size:Nat) (tx:TypeId) (h:HP) (x:AV):Option (Nat × List AV):=
 match unE P tx with
 | some (.slice _)=>match x with
  | .sn=>some (0,[])
  | .s y o n _=>(cellsOf h y).bind fun c=>bif Nat.ble (o+n * size) c.1.length then some (n,(c.1.drop o).take (n * size)) else none
  | .sg y j n k=>(cellsOf h y).bind fun c=>bif Nat.ble (j * k+n * size) c.1.length then some (n,(c.1.drop (j * k)).take (n * size)) else none
  | _=>none
 | some .string=>match x with
  | .t s=>bif Nat.beq size 1 then some (s.size,byteA s.data.toList) else none
  | _=>none
 | _=>none
theorem SR.one (h:SR glob B ctx lk σ s w) {y k:Nat} {l:List AV} (e:cellsOf s.h y=some (l,k)):allOne l=true:=by
 obtain ⟨_,_,_,_,_,_,_,_,_,_,e4,_⟩:=h.cells e
 exact e4
theorem piece (h:SR glob B ctx lk σ s w) {y o m k:Nat} {l:List AV} (e:cellsOf s.h y=some (l,k)) (hm:o+m≤l.length):∃ b C vs,σ y=some (b,C)∧relL σ ((l.drop o).take m) vs∧vs.length=m∧(∀ j u,vs[j]?=some u→w.cell? ⟨b,o+j,none⟩=some u)∧(∀ u ∈ vs,u.oneCell'=true):=by
 obtain ⟨b,C,us,r,t,fr,e1,e2,_,e3,e4,_⟩:=h.cells e
 have hl:=relL_len e3
 refine ⟨b,C,(us.drop o).take m,e1,relL_take m (relL_drop o e3),by simp;omega,fun j u hu=>?_,fun u hu=>?_⟩
 ·rw [List.getElem?_take] at hu
  split at hu
  ·rw [List.getElem?_drop] at hu
   refine cell_of e2 ?_
   rw [List.getElem?_append_left (List.getElem?_eq_some_iff.1 hu).1]
   exact hu
  ·cases hu
 ·exact allOne_rel e4 e3 u (List.mem_of_mem_drop (List.mem_of_mem_take hu))
theorem byteA_rel (l:List UInt8):relL σ (byteA l) (l.map fun b=>Value.int .u8 b.toNat):=relL_map (f:=fun b:UInt8=>AV.i .u8 b.toNat) (g:=fun b:UInt8=>Value.int .u8 b.toNat) (fun _=>rfl) l
theorem src_ok (h:SR glob B ctx lk σ s w) {size n:Nat} {tx:TypeId} {x:AV} {v:Value} {news:List AV} (e:srcE P size tx s.h x=some (n,news)) (hx:rel σ x v):∃ nv,relL σ news nv∧Src P size tx v n nv w:=by
 unfold srcE at e
 try simp only [unE_eq,inE_eq,agE_eq,zeE_eq,plE_eq] at e
 split at e
 ·rename_i e' hu
  split at e
  ·simp only [Option.some.injEq,Prod.mk.injEq] at e
   obtain ⟨rfl,rfl⟩:=e
   simp only [rel] at hx
   subst hx
   exact ⟨[],rfl,Src.ofNil w hu 0⟩
  ·rename_i y o m c
   simp only [Option.bind_eq_some_iff] at e
   obtain ⟨⟨l,k⟩,e1,e2⟩:=e
   cases hb:Nat.ble (o+m * size) l.length with
   | false=>rw [hb] at e2;cases e2
   | true=>
    rw [hb] at e2
    simp only [cond_true,Option.some.injEq,Prod.mk.injEq] at e2
    obtain ⟨rfl,rfl⟩:=e2
    obtain ⟨b,C,vs,f1,f2,f3,f4,f5⟩:=piece h e1 (Nat.le_of_ble_eq_true hb)
    obtain ⟨b',C',g1,rfl⟩:=hx
    rw [f1] at g1;cases g1
    exact ⟨vs,f2,Src.ofSlice w hu ⟨b,o,none⟩ m c vs f3 (fun j u hu'=>by rw [addr_add];exact f4 j u hu') f5⟩
  ·rename_i y j m k'
   simp only [Option.bind_eq_some_iff] at e
   obtain ⟨⟨l,k⟩,e1,e2⟩:=e
   cases hb:Nat.ble (j * k'+m * size) l.length with
   | false=>rw [hb] at e2;cases e2
   | true=>
    rw [hb] at e2
    simp only [cond_true,Option.some.injEq,Prod.mk.injEq] at e2
    obtain ⟨rfl,rfl⟩:=e2
    obtain ⟨b,C,vs,f1,f2,f3,f4,f5⟩:=piece h e1 (Nat.le_of_ble_eq_true hb)
    obtain ⟨b',C',a,g1,g2,g3,rfl⟩:=hx
    rw [f1] at g1;cases g1
    refine ⟨vs,f2,Src.ofSlice w hu ⟨b,a,none⟩ m _ vs f3 (fun j u hu'=>?_) f5⟩
    rcases Nat.eq_zero_or_pos m with rfl | hm
    ·rw [Nat.zero_mul] at f3
     rw [List.length_eq_zero_iff.1 f3] at hu'
     cases hu'
    ·rw [g3 (by omega),addr_add]
     exact f4 j u hu'
  ·cases e
 ·rename_i hu
  split at e
  ·rename_i str
   cases hb:Nat.beq size 1 with
   | false=>rw [hb] at e;cases e
   | true=>
    rw [hb] at e
    simp only [cond_true,Option.some.injEq,Prod.mk.injEq] at e
    obtain ⟨rfl,rfl⟩:=e
    have:=Nat.eq_of_beq_eq_true hb
    subst this
    simp only [rel] at hx
    subst hx
    exact ⟨_,byteA_rel _,Src.ofString w hu str⟩
  ·cases e
 ·cases e
noncomputable def growE (s:St) (i:TypeInfo) (need:Nat) (l:List AV):Option (AV × St):=
 bif Nat.ble (need * i.bytes) 1000000 && (Nat.ble need 1000000 && Nat.blt 0 need) then (newE s (.cells l i.size)).bind fun s'=>some (.sg s.nx 0 need i.size,s') else none
noncomputable def appE (P:Program) (lk:List Nat) (s:St) (t tx:TypeId) (a b:AV):Option (AV × St):=
 match unE P t with
 | some (.slice e)=>(inE P e).bind fun i=>i.zero.bind fun z=>bif Nat.beq z.cells.size i.size && Nat.blt 0 i.size then
   match unE P tx,a,b with
   | some (.int _),.sn,.i _ (.ofNat n)=>bif allOne ((Builtin.zeroCells z.cells n).toList.map of1) then growE s i n ((Builtin.zeroCells z.cells n).toList.map of1) else none
   | some (.int _),_,_=>none
   | _,a,b=>(srcE P i.size tx s.h b).bind fun q=>bif allOne q.2 then (match a with
    | .sn=>bif Nat.beq q.1 0 then some (.sn,s) else growE s i q.1 q.2
    | .s y o m c=>bif Nat.ble (m+q.1) c then (writeE lk s y (o+m * i.size) q.2).bind fun s'=>some (.s y o (m+q.1) c,s')
      else (cellsOf s.h y).bind fun p=>bif Nat.ble (o+m * i.size) p.1.length then growE s i (m+q.1) ((p.1.drop o).take (m * i.size)++q.2) else none
    | .sg y j m k=>bif Nat.beq k i.size then (cellsOf s.h y).bind fun p=>bif Nat.beq p.2 k then
      (bif Nat.beq q.1 0 then some (.sg y j m k,s) else bif Nat.ble ((j+m+q.1) * k) p.1.length then (writeE lk s y ((j+m) * k) q.2).bind fun s'=>some (.sg y j (m+q.1) k,s')
      else bif Nat.beq j 0 && (Nat.beq (m * k) p.1.length && !memB lk y) then (hsetS s.h y .dead fun h=>growE ⟨h,s.nx⟩ i (m+q.1) (p.1++q.2)) else none) else none
      else none
    | _=>none) else none
  else none
 | _=>none
theorem app_grow (h:SR glob B ctx lk σ s w) {t tx ty e:TypeId} {i:TypeInfo} {z:Value} {base:Option Addr} {m c n:Nat} {old news:List AV} {ov nv:List Value} {x:Value} {a':AV} {s':St} {K:Cont} (ht:P.underlying t=some (.slice e)) (hi:P.info? e=some i) (hz:i.zero=some z) (hzs:z.cells.size=i.size) (hpos:0 < i.size)
  (eg:growE s i (m+n) (old++news)=some (a',s')) (ho:relL σ old ov) (hn:relL σ news nv) (hs:Src P i.size tx x n nv w) (hol:ov.length=m * i.size) (hone:allOne (old++news)=true) (hold:(Builtin.firstCells i.size m (.slice base m c)).run P w.drew=.ok ov.toArray w.drew) (hg:c < m+n)
  (hK:∀ σ' w' v,Ext B lk σ w σ' w'→SR glob B ctx lk σ' s' w'→rel σ' a' v→K v w'):runK P (Builtin.append_ #[t,tx] ty #[.slice base m c,x]) K w:=by
 unfold growE at eg
 cases hb:(Nat.ble ((m+n) * i.bytes) 1000000 && (Nat.ble (m+n) 1000000 && Nat.blt 0 (m+n))) with
 | false=>rw [hb] at eg;cases eg
 | true=>
  rw [hb] at eg
  simp only [cond_true,Option.bind_eq_some_iff,Option.some.injEq,Prod.mk.injEq] at eg
  obtain ⟨s1,e1,rfl,rfl⟩:=eg
  simp only [Bool.and_eq_true] at hb
  have b1:=Nat.le_of_ble_eq_true hb.1
  have b2:=Nat.le_of_ble_eq_true hb.2.1
  have hfit:Builtin.nextslicecap (m+n) c * i.bytes≤281474976710656:=by
   have:=Nat.mul_le_mul_right i.bytes (nextslicecap_le hg)
   rw [Nat.mul_assoc] at this
   omega
  have hge:=grownCap_ge w (m+n) c e
  have hzz:=size_zeroCells z.cells (grownCap w (m+n) c e - (m+n))
  have hln:=hs.newsLen
  have hrun:=run_append_grow_src w t tx ty e i z ht hi hz base m c ov hold x n nv hs hg (by omega) hfit
  obtain ⟨σ',e2,e3,e4⟩:=new_ok' (w':=w.drew.alloc (.cells ((ov++nv).toArray++Builtin.zeroCells z.cells (grownCap w (m+n) c e - (m+n))) e)) h e1 (.inr rfl) (grownCap w (m+n) c e) fun σ' hle _=>⟨ov++nv,(Builtin.zeroCells z.cells (grownCap w (m+n) c e - (m+n))).toList,e,(0,0),by congr 1;apply Array.toList_inj.1;simp,.inl rfl,relL_le hle (relL_app ho hn),hone,fun hk=>by omega,fun _=>by
   simp only [List.length_append,Array.length_toList,hzz,hzs,hol,hln]
   rw [←Nat.add_mul,←Nat.add_mul]
   congr 1
   omega⟩
  exact ⟨_,_,hrun,hK σ' _ _ e3 e4 ⟨_,_,0,e2,by omega,fun _=>by simp,by simp⟩⟩
theorem dead_ok (h:SR glob B ctx lk σ s w) {y:Nat} {o:AO} (hy:hget s.h y=some o) (hd:o≠.dead) (hl:y ∉ lk):SR glob B ctx lk σ ⟨hset s.h y .dead,s.nx⟩ w:=by
 obtain ⟨b,C,q,e1,e2,_⟩:=h.live hy hd
 exact (h.put (o':=.dead) (q:=q) hy hd hl e1 (Mod.refl _ _) (fun e=>(e rfl).elim) fun e=>(e rfl).elim).2
set_option maxHeartbeats 1000000 in
theorem app_ok (h:SR glob B ctx lk σ s w) {t tx ty:TypeId} {a b r:AV} {s':St} {u v:Value} {K:Cont} (e:appE P lk s t tx a b=some (r,s')) (ha:rel σ a u) (hb:rel σ b v)
  (hK:∀ σ' w' v,Ext B lk σ w σ' w'→SR glob B ctx lk σ' s' w'→rel σ' r v→K v w'):runK P (Builtin.append_ #[t,tx] ty #[u,v]) K w:=by
 unfold appE at e
 try simp only [unE_eq,inE_eq,agE_eq,zeE_eq,plE_eq] at e
 split at e
 ·rename_i el ht
  simp only [Option.bind_eq_some_iff] at e
  obtain ⟨i,hi,z,hz,e⟩:=e
  cases hq:(Nat.beq z.cells.size i.size && Nat.blt 0 i.size) with
  | false=>rw [hq] at e;cases e
  | true=>
   rw [hq] at e
   simp only [cond_true] at e
   simp only [Bool.and_eq_true] at hq
   have hzs:=Nat.eq_of_beq_eq_true hq.1
   have hpos:0 < i.size:=Nat.le_of_ble_eq_true hq.2
   split at e
   ·rename_i kn k n htn
    simp only [rel] at ha hb
    subst ha
    have hb':v=.int k (n:Int):=hb
    subst hb'
    cases hz1:allOne ((Builtin.zeroCells z.cells n).toList.map of1) with
    | false=>simp only [hz1,cond_false,reduceCtorEq] at e
    | true=>
    simp only [hz1,cond_true] at e
    unfold growE at e
    cases hb:(Nat.ble (n * i.bytes) 1000000 && (Nat.ble n 1000000 && Nat.blt 0 n)) with
    | false=>rw [hb] at e;cases e
    | true=>
     rw [hb] at e
     simp only [cond_true,Option.bind_eq_some_iff,Option.some.injEq,Prod.mk.injEq] at e
     obtain ⟨s1,e1,rfl,rfl⟩:=e
     simp only [Bool.and_eq_true] at hb
     have b1:=Nat.le_of_ble_eq_true hb.1
     have b2:=Nat.le_of_ble_eq_true hb.2.1
     have b3:0 < n:=Nat.le_of_ble_eq_true hb.2.2
     have hge:=grownCap_ge w n 0 el
     have hz3:=size_zeroCells z.cells n
     have hz2:=size_zeroCells z.cells (grownCap w n 0 el - n)
     have hrun:=Lib.run_append_nil_zeros (P:=P) w t tx ty el i z k kn ht htn hi hz n b3 hpos (by omega) (by omega)
     have hr1:relL σ ((Builtin.zeroCells z.cells n).toList.map of1) (Builtin.zeroCells z.cells n).toList:=by simpa using relL_map (g:=fun v=>v) (rel_of1 σ) (Builtin.zeroCells z.cells n).toList
     obtain ⟨σ',e2,e3,e4⟩:=new_ok' (w':=w.drew.alloc (.cells (Builtin.zeroCells z.cells n++Builtin.zeroCells z.cells (grownCap w n 0 el - n)) el)) h e1 (.inr rfl) (grownCap w n 0 el) fun σ' hle _=>⟨(Builtin.zeroCells z.cells n).toList,(Builtin.zeroCells z.cells (grownCap w n 0 el - n)).toList,el,(0,0),by congr 1;apply Array.toList_inj.1;simp,.inl rfl,relL_le hle hr1,hz1,fun hk=>by omega,fun _=>by
      simp only [List.length_append,Array.length_toList,hz3,hz2,hzs]
      rw [←Nat.add_mul]
      congr 1
      omega⟩
     exact ⟨_,_,hrun,hK σ' _ _ e3 e4 ⟨_,_,0,e2,by omega,fun _=>by simp,by simp⟩⟩
   ·cases e
   ·simp only [Option.bind_eq_some_iff] at e
    obtain ⟨⟨n,news⟩,e1,e⟩:=e
    obtain ⟨nv,f1,f2⟩:=src_ok h e1 hb
    have hln:=f2.newsLen
    have hlr:=relL_len f1
    cases hao:allOne news with
    | false=>simp only [hao,cond_false,reduceCtorEq] at e
    | true=>
     simp only [hao,cond_true] at e
     split at e
     ·simp only [rel] at ha
      subst ha
      cases hn:Nat.beq n 0 with
      | true=>
       rw [hn] at e
       simp only [cond_true,Option.some.injEq,Prod.mk.injEq] at e
       obtain ⟨rfl,rfl⟩:=e
       have:=Nat.eq_of_beq_eq_true hn
       subst this
       refine ⟨.slice none 0 0,w,?_,hK σ w _ Ext.refl h rfl⟩
       rcases f2.kind with ⟨e',hk⟩ | hk <;> simp [Builtin.append_,run_underlying ht,run_underlying hk,sizeOf,typeInfo,hi,f2.len,f2.cells]
      | false=>
       rw [hn] at e
       simp only [cond_false] at e
       have hn0:0 < n:=by
        rcases Nat.eq_zero_or_pos n with rfl | h
        ·cases hn
        ·exact h
       exact app_grow (m:=0) (n:=n) (old:=[]) h ht hi hz hzs hpos (by simpa using e) rfl f1 f2 (by simp) hao (run_firstCells_none w.drew i.size 0 0 0) (by omega) hK
     ·rename_i y o m c _
      obtain ⟨bk,C,g1,rfl⟩:=ha
      cases hn:Nat.ble (m+n) c with
      | true=>
       rw [hn] at e
       simp only [cond_true,Option.bind_eq_some_iff,Option.some.injEq,Prod.mk.injEq] at e
       obtain ⟨s1,e2,rfl,rfl⟩:=e
       obtain ⟨b',C',g2,g3,g4,g5,g6⟩:=write_ok h e2 f1
       rw [g1] at g2;cases g2
       exact ⟨_,_,run_append_room_src w t tx ty el i ht hi bk o m c v n nv f2 (Nat.le_of_ble_eq_true hn) (fun j hj=>(g3 j hj).1) (fun j hj=>(g3 j hj).2),hK σ _ _ g5 g6 ⟨bk,C,g1,rfl⟩⟩
      | false=>
       rw [hn] at e
       simp only [cond_false,Option.bind_eq_some_iff] at e
       obtain ⟨⟨l,k⟩,e2,e⟩:=e
       cases hl:Nat.ble (o+m * i.size) l.length with
       | false=>simp only [hl,cond_false,reduceCtorEq] at e
       | true=>
        simp only [hl,cond_true] at e
        have hlt:c < m+n:=by
         rcases Nat.lt_or_ge c (m+n) with h | h
         ·exact h
         ·rw [Nat.ble_eq_true_of_le h] at hn;cases hn
        obtain ⟨b',C',ov,g2,g3,g4,g5,g6⟩:=piece h e2 (Nat.le_of_ble_eq_true hl)
        rw [g1] at g2;cases g2
        have hoo:allOne ((l.drop o).take (m * i.size)++news)=true:=allOne_app (allOne_iff.2 fun a ha=>allOne_iff.1 (h.one e2) a (List.mem_of_mem_drop (List.mem_of_mem_take ha))) hao
        exact app_grow h ht hi hz hzs hpos e g3 f1 f2 g4 hoo (run_firstCells_some w.drew i.size m ⟨bk,o,none⟩ m c ov g4 fun j u hu=>by rw [addr_add];simpa using g5 j u hu) hlt hK
     ·rename_i y j m k _
      obtain ⟨bk,C,ba,g1,gC,gA,rfl⟩:=ha
      cases hk:Nat.beq k i.size with
      | false=>simp only [hk,cond_false,reduceCtorEq] at e
      | true=>
       have:=Nat.eq_of_beq_eq_true hk
       subst this
       simp only [hk,cond_true,Option.bind_eq_some_iff] at e
       obtain ⟨⟨l,k⟩,e2,e⟩:=e
       cases hk2:Nat.beq k i.size with
       | false=>simp only [hk2,cond_false,reduceCtorEq] at e
       | true=>
        have:=Nat.eq_of_beq_eq_true hk2
        subst this
        simp only [hk2,cond_true] at e
        obtain ⟨b',C',us,rr,t',fr,g2,g3,g4,g5,g6,g7,g8⟩:=h.cells e2
        rw [g1] at g2;cases g2
        have hus:=relL_len g5
        have hCk:=g8 (by omega)
        rw [List.length_append] at hCk
        cases hn0:Nat.beq n 0 with
        | true=>
         rw [hn0] at e
         simp only [cond_true,Option.some.injEq,Prod.mk.injEq] at e
         obtain ⟨rfl,rfl⟩:=e
         have:=Nat.eq_of_beq_eq_true hn0
         subst this
         have hnv:nv=[]:=List.length_eq_zero_iff.1 (by rw [hln,Nat.zero_mul])
         subst hnv
         exact ⟨_,_,run_append_room_src w t tx ty el i ht hi bk ba m (C - j) v 0 [] f2 (by omega) (fun q hq=>(nomatch hq)) (fun q hq=>(nomatch hq)),hK σ _ _ Ext.refl h ⟨bk,C,ba,g1,gC,gA,rfl⟩⟩
        | false=>
        have hnp:0 < n:=by
         rcases Nat.eq_zero_or_pos n with rfl | h
         ·cases hn0
         ·exact h
        simp only [hn0,cond_false] at e
        cases hA:Nat.ble ((j+m+n) * i.size) l.length with
        | true=>
         rw [hA] at e
         simp only [cond_true,Option.bind_eq_some_iff,Option.some.injEq,Prod.mk.injEq] at e
         obtain ⟨s1,e3,rfl,rfl⟩:=e
         have hle:=Nat.le_of_ble_eq_true hA
         have hCle:j+m+n≤C:=Nat.le_of_mul_le_mul_right (by omega) hpos
         obtain ⟨b',C',g9,x1,x2,x3,x4⟩:=write_ok h e3 f1
         rw [g1] at g9;cases g9
         have gA:=gA (by omega)
         subst gA
         have eo:(j+m) * i.size=j * i.size+m * i.size:=Nat.add_mul _ _ _
         rw [eo] at x1 x3 x4
         refine ⟨_,_,run_append_room_src w t tx ty el i ht hi bk (j * i.size) m (C - j) v n nv f2 (by omega) (fun q hq=>(x1 q hq).1) (fun q hq=>(x1 q hq).2),hK σ _ _ x3 x4 ⟨bk,C,_,g1,by omega,fun _=>rfl,rfl⟩⟩
        | false=>
         rw [hA] at e
         simp only [cond_false] at e
         cases hM:(Nat.beq j 0 && (Nat.beq (m * i.size) l.length && !memB lk y)) with
         | false=>simp only [hM,cond_false,reduceCtorEq] at e
         | true=>
          simp only [hM,cond_true,hsetS_eq] at e
          simp only [Bool.and_eq_true,Bool.not_eq_true'] at hM
          obtain ⟨m1,m2,m3⟩:=hM
          have:=Nat.eq_of_beq_eq_true m1
          subst this
          have hml:=Nat.eq_of_beq_eq_true m2
          have hyl:=memB_false.1 m3
          have hdead:=dead_ok h (cellsOf_get e2) (by simp) hyl
          have hon:allOne (l++news)=true:=allOne_app g6 hao
          by_cases hroom:m+n≤C
          ·-- there is room: the row goes on under another number
           unfold growE at e
           cases hb:(Nat.ble ((m+n) * i.bytes) 1000000 && (Nat.ble (m+n) 1000000 && Nat.blt 0 (m+n))) with
           | false=>rw [hb] at e;cases e
           | true=>
            rw [hb] at e
            simp only [cond_true,newE,fO_eq,fN_eq,hinsS_eq,Option.bind_eq_some_iff,Option.some.injEq,Prod.mk.injEq] at e
            obtain ⟨s1,⟨h',e3,rfl⟩,rfl,rfl⟩:=e
            simp only [Bool.and_eq_true] at hb
            have hbp:0 < m+n:=Nat.le_of_ble_eq_true hb.2.2
            have gA:=gA (by omega)
            subst gA
            have hmn:(m+n) * i.size≤C * i.size:=Nat.mul_le_mul_right _ hroom
            rw [Nat.add_mul] at hmn
            have hnr:nv.length≤rr.length:=by omega
            have huse:us.length=m * i.size:=by omega
            have hobj:=setCells_obj bk nv (m * i.size) w _ t' fr g3
            rw [←huse,putV_end _ _ _ hnr] at hobj
            rw [huse] at hobj
            obtain ⟨σ',y1,y2,y3⟩:=h.move (cellsOf_get e2) (by simp) hyl g1 e3 (w':=w.setCells bk (m * i.size) nv) (setCells_mod bk nv (m * i.size) w) (q:=.cells (us++nv++rr.drop nv.length).toArray t' fr) hobj (fun σ' hle=>⟨us++nv,rr.drop nv.length,t',fr,rfl,by
             rcases g4 with g4 | g4
             ·exact .inl g4
             ·refine .inr ?_
              simp only [List.length_append,List.length_drop] at g4 ⊢
              omega,relL_le hle (relL_app g5 f1),hon,fun hk0=>by omega,fun _=>by
             simp only [List.length_append,List.length_drop]
             omega⟩) (s.nx+1)
            have hroom':=run_append_room_src w t tx ty el i ht hi bk 0 m C v n nv f2 hroom (fun q hq=>by
             rw [Nat.zero_add]
             have hlt:m * i.size+q < (us++rr).length:=by rw [List.length_append];omega
             rw [cell_of g3 (List.getElem?_eq_getElem hlt)];rfl) (fun q hq=>by
             rw [Nat.zero_add]
             exact frozen_of g3 g4 (by rw [List.length_append];omega))
            rw [Nat.zero_add] at hroom'
            refine ⟨_,_,by simpa using hroom',hK σ' _ _ y2 y3 ⟨bk,C,0,y1,by omega,fun _=>by simp,by simp⟩⟩
          ·obtain ⟨b',C',ov,p1,p2,p3,p4,p5⟩:=piece (o:=0) (m:=m * i.size) h e2 (by omega)
           rw [g1] at p1;cases p1
           have hdl:(l.drop 0).take (m * i.size)=l:=by rw [List.drop_zero,List.take_of_length_le (by omega)]
           rw [hdl] at p2
           exact app_grow (s:=⟨hset s.h y .dead,s.nx⟩) hdead ht hi hz hzs hpos e p2 f1 f2 p3 hon (run_firstCells_some w.drew i.size m ⟨bk,ba,none⟩ m _ ov p3 fun q u hu=>by
            rcases Nat.eq_zero_or_pos m with rfl | hm
            ·rw [Nat.zero_mul] at p3
             rw [List.length_eq_zero_iff.1 p3] at hu
             cases hu
            ·rw [gA (by omega),addr_add]
             simpa using p4 q u hu) (by omega) hK
     ·cases e
 ·cases e
end
end Go.K

namespace Go.K
open Go

def offOf:AV→Option (Nat × Nat × Nat)
 | .s y o n _=>some (y,o,n)
 | .sg y j n k=>bif Nat.blt 0 n then some (y,j * k,n) else none
 | _=>none
def lenA:AV→Option Nat
 | .sn=>some 0 | .s _ _ n _=>some n | .sg _ _ n _=>some n | _=>none
noncomputable def copyE (P:Program) (lk:List Nat) (s:St) (t tx:TypeId) (a b:AV):Option (AV × St):=
 match unE P t,unE P tx with
 | some (.slice e),some (.slice _)=>(inE P e).bind fun i=>bif Nat.beq i.size 1 then
   (lenA a).bind fun n=>(lenA b).bind fun m=>bif Nat.beq (Nat.min m n) 0 then some (.i .i64 0,s) else
   (offOf a).bind fun d=>(offOf b).bind fun q=>(cellsOf s.h q.1).bind fun c=>bif Nat.ble (q.2.1+Nat.min m n) c.1.length then
    (writeE lk s d.1 d.2.1 ((c.1.drop q.2.1).take (Nat.min m n))).bind fun s'=>some (.i .i64 (Nat.min m n),s') else none else none
 | _,_=>none
def bytesOf:List AV→Option (List UInt8)
 | []=>some []
 | .i .u8 (.ofNat n) :: l=>bif Nat.blt n 256 then (bytesOf l).bind fun r=>some (UInt8.ofNat n :: r) else none
 | _ :: _=>none
noncomputable def isU8 (P:Program) (e:TypeId):Bool:=match unE P e with | some (.int .u8)=>true | _=>false
noncomputable def convE (P:Program) (lk:List Nat) (s:St) (t d:TypeId) (x:AV):Option (AV × St):=
 match unE P t,unE P d with
 | some (.slice e),some .string=>bif isU8 P e then (match x with
   | .sn=>some (.t ByteArray.empty,s)
   | x=>(offOf x).bind fun q=>(cellsOf s.h q.1).bind fun c=>bif Nat.ble (q.2.1+q.2.2) c.1.length then (bytesOf ((c.1.drop q.2.1).take q.2.2)).bind fun l=>some (.t ⟨l.toArray⟩,s) else none) else none
 | some .string,some (.slice e)=>bif isU8 P e then (match x with
   | .t str=>(newE s (.cells (byteA str.data.toList) 1)).bind fun s'=>some (.sg s.nx 0 str.size 1,s')
   | _=>none) else none
 | some (.slice _),some (.slice e)=>bif isU8 P e && Nat.beq t d then
   (offOf x).bind fun q=>(cellsOf s.h q.1).bind fun c=>bif !memB lk q.1 then (hsetS s.h q.1 (.cells c.1 c.2) fun h=>some (x,⟨h,s.nx⟩)) else none else none
 | _,_=>none
section
variable {P:Program} {ok:Nat→Bool} {glob:Nat→Nat→Option AV} {B:Nat} {ctx:List (Nat × LI)} {lk:List Nat} {σ:Sg} {s:St} {w:World}
theorem lenA_rel {a:AV} {n:Nat} {v:Value} (h:lenA a=some n) (hr:rel σ a v):∃ p c,v=.slice p n c:=by
 unfold lenA at h
 split at h <;> simp only [Option.some.injEq,reduceCtorEq] at h
 ·subst h;exact ⟨_,_,hr⟩
 ·subst h;obtain ⟨b,C,_,e⟩:=hr;exact ⟨_,_,e⟩
 ·subst h;obtain ⟨b,C,_,_,_,_,e⟩:=hr;exact ⟨_,_,e⟩
theorem offOf_rel {a:AV} {y o n:Nat} {v:Value} (h:offOf a=some (y,o,n)) (hr:rel σ a v):∃ b C c,σ y=some (b,C)∧v=.slice (some ⟨b,o,none⟩) n c:=by
 unfold offOf at h
 split at h
 ·simp only [Option.some.injEq,Prod.mk.injEq] at h
  obtain ⟨rfl,rfl,rfl⟩:=h;obtain ⟨b,C,e1,e2⟩:=hr;exact ⟨b,C,_,e1,e2⟩
 ·rename_i n' k
  cases hb:Nat.blt 0 n' with
  | false=>rw [hb] at h;cases h
  | true=>
   simp only [hb,cond_true,Option.some.injEq,Prod.mk.injEq] at h
   have hb:0 < n':=Nat.le_of_ble_eq_true hb
   obtain ⟨rfl,rfl,rfl⟩:=h;obtain ⟨b,C,a,e1,e3,e4,e2⟩:=hr
   rw [e4 (by omega)] at e2
   exact ⟨b,C,_,e1,e2⟩
 ·cases h
theorem copy_ok (h:SR glob B ctx lk σ s w) {t tx ty:TypeId} {a b r:AV} {s':St} {u v:Value} {K:Cont} (e:copyE P lk s t tx a b=some (r,s')) (ha:rel σ a u) (hb:rel σ b v)
  (hK:∀ σ' w' v,Ext B lk σ w σ' w'→SR glob B ctx lk σ' s' w'→rel σ' r v→K v w'):runK P (Builtin.copy_ #[t,tx] ty #[u,v]) K w:=by
 unfold copyE at e
 try simp only [unE_eq,inE_eq,agE_eq,zeE_eq,plE_eq] at e
 split at e
 ·rename_i el el' ht htx
  simp only [Option.bind_eq_some_iff] at e
  obtain ⟨i,hi,e⟩:=e
  cases hs:Nat.beq i.size 1 with
  | false=>simp only [hs,cond_false,reduceCtorEq] at e
  | true=>
   have h1:=Nat.eq_of_beq_eq_true hs
   simp only [hs,cond_true,Option.bind_eq_some_iff] at e
   obtain ⟨n,hn,m,hm,e⟩:=e
   have his:(P.info? el).map (·.size)=some 1:=by rw [hi];simp [h1]
   cases hz:Nat.beq (Nat.min m n) 0 with
   | true=>
    obtain ⟨p,c,rfl⟩:=lenA_rel hn ha
    obtain ⟨p',c',rfl⟩:=lenA_rel hm hb
    simp only [hz,cond_true,Option.some.injEq,Prod.mk.injEq] at e
    obtain ⟨rfl,rfl⟩:=e
    exact ⟨_,_,run_copy_none w t tx ty el p p' n c m c' ht his (Nat.eq_of_beq_eq_true hz),hK σ _ _ Ext.refl h rfl⟩
   | false=>
    simp only [hz,cond_false,Option.bind_eq_some_iff] at e
    obtain ⟨⟨y,o,n'⟩,hd,⟨y2,o2,m'⟩,hq,⟨l,k⟩,hc,e⟩:=e
    obtain ⟨p,c,rfl⟩:=lenA_rel hn ha
    obtain ⟨p',c',rfl⟩:=lenA_rel hm hb
    cases hbl:Nat.ble (o2+Nat.min m n) l.length with
    | false=>simp only [hbl,cond_false,reduceCtorEq] at e
    | true=>
     simp only [hbl,cond_true,Option.bind_eq_some_iff,Option.some.injEq,Prod.mk.injEq] at e
     obtain ⟨s1,e1,rfl,rfl⟩:=e
     obtain ⟨bs,Cs,vs,p1,p2,p3,p4,p5⟩:=piece h hc (Nat.le_of_ble_eq_true hbl)
     obtain ⟨b4,C4,c4,r1,r2⟩:=offOf_rel hq hb
     rw [p1] at r1;cases r1
     cases r2
     obtain ⟨bd,Cd,cd,q1,q2⟩:=offOf_rel hd ha
     cases q2
     obtain ⟨bk,C,g1,g2,g3,g4,g5⟩:=write_ok h e1 p2
     rw [q1] at g1;cases g1
     have hrun:=run_copy_cells (P:=P) w t tx ty el bd o n c ⟨bs,o2,none⟩ m c' vs ht his p3 (fun j u hu=>by rw [addr_add];exact p4 j u hu) (fun j hj=>(g2 j hj).1) (fun j hj=>(g2 j hj).2) g3
     rw [p3] at hrun
     exact ⟨_,_,hrun,hK σ _ _ g4 g5 rfl⟩
 ·cases e
theorem bytesOf_rel:∀ {l:List AV} {r:List UInt8} {vs:List Value},bytesOf l=some r→relL σ l vs→vs=r.map fun b=>Value.int .u8 b.toNat
 | [],_,_,h,e=>by cases (show _=_ from e);simp only [bytesOf,Option.some.injEq] at h;subst h;rfl
 | a :: l,_,_,h,⟨v,r,e1,e2,e3⟩=>by
  subst e1
  unfold bytesOf at h
  split at h
  ·rename_i hx;cases hx
  ·rename_i n l' hx
   cases hx
   cases hb:Nat.blt n 256 with
   | false=>rw [hb] at h;cases h
   | true=>
    rw [hb] at h
    simp only [cond_true,Option.bind_eq_some_iff,Option.some.injEq] at h
    obtain ⟨r',h1,rfl⟩:=h
    have hlt:n < 256:=Nat.le_of_ble_eq_true hb
    have e2':v=.int .u8 (n:Int):=e2
    rw [bytesOf_rel h1 e3,e2']
    simp only [List.map_cons]
    congr 2
    have:(UInt8.ofNat n).toNat=n:=by simp;omega
    rw [this]
  ·cases h
theorem conv_ok (h:SR glob B ctx lk σ s w) {t d:TypeId} {x r:AV} {s':St} {v:Value} {K:Cont} (e:convE P lk s t d x=some (r,s')) (hx:rel σ x v)
  (hK:∀ σ' w' v,Ext B lk σ w σ' w'→SR glob B ctx lk σ' s' w'→rel σ' r v→K v w'):runK P (convert t d v) K w:=by
 have u8:∀ {e},isU8 P e=true→P.underlying e=some (.int .u8):=fun {e} hu=>by
  unfold isU8 at hu
  try simp only [unE_eq,inE_eq,agE_eq,zeE_eq,plE_eq] at hu
  split at hu
  ·assumption
  ·cases hu
 unfold convE at e
 try simp only [unE_eq,inE_eq,agE_eq,zeE_eq,plE_eq] at e
 split at e
 ·rename_i el ht hd
  cases hu:isU8 P el with
  | false=>simp only [hu,cond_false,reduceCtorEq] at e
  | true=>
   simp only [hu,cond_true] at e
   split at e
   ·simp only [Option.some.injEq,Prod.mk.injEq] at e
    obtain ⟨rfl,rfl⟩:=e
    simp only [rel] at hx
    subst hx
    exact ⟨_,_,run_convert_bytes_nil w t el ht (u8 hu) 0 0 d hd,hK σ _ _ Ext.refl h rfl⟩
   ·simp only [Option.bind_eq_some_iff] at e
    obtain ⟨⟨y,o,n⟩,hq,⟨l,k⟩,hc,e⟩:=e
    cases hbl:Nat.ble (o+n) l.length with
    | false=>simp only [hbl,cond_false,reduceCtorEq] at e
    | true=>
     simp only [hbl,cond_true,Option.bind_eq_some_iff,Option.some.injEq,Prod.mk.injEq] at e
     obtain ⟨bl,e1,rfl,rfl⟩:=e
     obtain ⟨bs,Cs,vs,p1,p2,p3,p4,p5⟩:=piece h hc (Nat.le_of_ble_eq_true hbl)
     obtain ⟨b4,C4,c4,r1,rfl⟩:=offOf_rel hq hx
     rw [p1] at r1;cases r1
     have hvs:=bytesOf_rel e1 p2
     have hbn:bl.length=n:=by rw [hvs,List.length_map] at p3;exact p3
     have:=run_convert_bytes_back (P:=P) w t d el ⟨bs,o,none⟩ c4 bl ht (u8 hu) hd fun j hj=>by
      rw [addr_add]
      refine p4 j _ ?_
      rw [hvs,List.getElem?_map,List.getElem?_eq_getElem hj]
      rfl
     rw [hbn] at this
     exact ⟨_,_,this,hK σ _ _ Ext.refl h rfl⟩
 ·rename_i el ht hd
  cases hu:isU8 P el with
  | false=>simp only [hu,cond_false,reduceCtorEq] at e
  | true=>
   simp only [hu,cond_true] at e
   split at e
   ·rename_i str
    simp only [Option.bind_eq_some_iff,Option.some.injEq,Prod.mk.injEq] at e
    obtain ⟨s1,e1,rfl,rfl⟩:=e
    simp only [rel] at hx
    subst hx
    have hge:=grownCap_ge w str.size 0 el
    have hsz:str.data.toList.length=str.size:=by simp
    obtain ⟨σ',e2,e3,e4⟩:=new_ok' (w':=w.drew.alloc (.cells (bytesRow str (grownCap w str.size 0 el)) el ((bytesRow str (grownCap w str.size 0 el)).size,(bytesRow str (grownCap w str.size 0 el)).size+1))) h e1 (.inr rfl) (grownCap w str.size 0 el) fun σ' hle _=>⟨str.data.toList.map fun b=>Value.int .u8 b.toNat,List.replicate (grownCap w str.size 0 el - str.size) (.int .u8 0),el,_,by congr 1;apply Array.toList_inj.1;simp [bytesRow],.inr (by simp [bytesRow]),byteA_rel _,allOne_iff.2 fun a ha=>by
     obtain ⟨b,_,rfl⟩:=List.mem_map.1 ha
     rfl,fun hk=>by omega,fun _=>by
     simp only [List.length_append,List.length_map,List.length_replicate,hsz]
     omega⟩
    exact ⟨_,_,run_bytes_of_string w t d el str ht hd (u8 hu),hK σ' _ _ e3 e4 ⟨_,_,0,e2,by omega,fun _=>by simp,by simp⟩⟩
   ·cases e
 ·rename_i el el' ht hd
  cases hu:(isU8 P el' && Nat.beq t d) with
  | false=>simp only [hu,cond_false,reduceCtorEq] at e
  | true=>
   simp only [hu,cond_true,Option.bind_eq_some_iff] at e
   simp only [Bool.and_eq_true] at hu
   obtain ⟨⟨y,o,n⟩,hq,⟨l,k⟩,hc,e⟩:=e
   cases hlk:memB lk y with
   | true=>simp only [hlk,Bool.not_true,cond_false,reduceCtorEq] at e
   | false=>
    simp only [hlk,Bool.not_false,cond_true,hsetS_eq,Option.some.injEq,Prod.mk.injEq] at e
    obtain ⟨rfl,rfl⟩:=e
    obtain ⟨b4,C4,c4,r1,rfl⟩:=offOf_rel hq hx
    have htd:=Nat.eq_of_beq_eq_true hu.2
    subst htd
    rw [ht] at hd
    cases hd
    obtain ⟨b,C,us,rr,t',fr,g2,g3,g4,g5,g6,g7,g8⟩:=h.cells hc
    rw [r1] at g2;cases g2
    have hsh:w.shape? b4=some (t',(us++rr).length):=by simp [World.shape?,g3]
    obtain ⟨fr',hfr,hfr'⟩:∃ fr',(w.freeze ⟨b4,(us++rr).length,none⟩ 1).heap[b4]?=some (.cells (us++rr).toArray t' fr')∧(fr'.1=fr'.2∨(us++rr).length≤fr'.1):=by
     refine ⟨if fr.1 == fr.2 then ((us++rr).length,(us++rr).length+1) else (min fr.1 (us++rr).length,max fr.2 ((us++rr).length+1)),?_,?_⟩
     ·simp [World.freeze,Array.getElem?_modify,g3]
     ·split
      ·exact .inr (Nat.le_refl _)
      ·rename_i hne
       rcases g4 with g4 | g4
       ·simp [g4] at hne
       ·refine .inr ?_
        show _≤min fr.1 _
        omega
    have hmod:Mod (fun z=>z=b4) w (w.freeze ⟨b4,(us++rr).length,none⟩ 1):=⟨rfl,rfl,rfl,by simp [World.freeze],fun z _ hz=>by
     have hz':¬ b4=z:=fun e=>hz e.symm
     simp [World.freeze,Array.getElem?_modify,hz']⟩
    obtain ⟨x1,x2⟩:=h.put (o':=.cells l k) (cellsOf_get hc) (by simp) (memB_false.1 hlk) r1 hmod (fun _=>hfr) fun _=>⟨us,rr,t',fr',rfl,hfr',g5,g6,g7,g8⟩
    refine ⟨_,_,?_,hK σ _ _ x1 x2 hx⟩
    simp only [convert,Sem.run_bind,run_underlying ht,Result.andThen_ok,run_underlying (u8 hu.1),beq_self_eq_true,markStringish,shape,freeze,Sem.run,hsh,Sem.run_pure]
 ·cases e
end
end Go.K

namespace Go.K
open Go

noncomputable def rowC (e:TypeId) (size len:Nat) (zero:List Value) (parts:List (Nat × AV)) (s:St):Option (AV × St):=
 (fillE (fun i=>some (i * size,size)) ((List.range (len * size)).map fun j=>of1 (zero.toArray[j % zero.toArray.size]!)) parts).bind fun c=>
  bif allOne c then (newE s (.cells c 0)).bind fun s'=>some (.s s.nx 0 len len,s') else none
noncomputable def effE (P:Program) (ok:Nat→Bool) (glob:Nat→Nat→Option AV) (lk:List Nat) (callF yieldF:Nat→List AV→St→Option (AV × St)) (o:Oper) (A:Operand→AV) (s:St):Option (AV × St):=
 match o.op with
 | .alloc t=>match zeE P t with
  | some z=>bif allOne (z.cells.toList.map of1) then (newE s (.cells (z.cells.toList.map of1) 0)).bind fun s'=>some (.p s.nx 0,s') else none
  | none=>none
 | .box t x=>match agE P t with
  | some (false,_)=>bif isOne (A x) then (newE s (.cells [A x] 0)).bind fun s'=>some (.p s.nx 0,s') else none
  | some (true,_)=>match A x with
   | .agg l=>bif allOne l then (newE s (.cells l 0)).bind fun s'=>some (.p s.nx 0,s') else none
   | _=>none
  | none=>none
 | .load t x=>(loadE P glob s.h t (A x)).bind fun a=>some (a,s)
 | .store t x v=>(storeE P lk s t (A x) (A v)).bind fun s'=>some (.tup [],s')
 | .buildSlice t len parts=>match unE P t with
  | some (.slice e)=>match inE P e with
   | some i=>bif Nat.blt 0 (len * i.size) && Nat.ble (len * i.size) 1000000 then
     match i.zero with | some z=>rowC e i.size len z.cells.toList (parts.toList.map fun p=>(p.1,A p.2)) s | none=>none
    else bif Nat.beq (len * i.size) 0 then rowC e i.size len [] (parts.toList.map fun p=>(p.1,A p.2)) s else none
   | none=>none
  | _=>none
 | .makeMap _ none=>(newE s .mp).bind fun s'=>some (.m s.nx,s')
 | .range t x=>match unE P t,A x with
  | some .string,.t str=>(newE s (.it str 0)).bind fun s'=>some (.p s.nx 0,s')
  | _,_=>none
 | .next it true=>match A it with
  | .p y 0=>match hget s.h y with
   | some (.it str p)=>bif Nat.blt p str.size then
     (bif memB lk y then none else fN (p+(Utf8.decode str p).2) fun p'=>hsetS s.h y (.it str p') fun h=>some (.tup [.b true,.i .i64 p,.i .i32 (Utf8.decode str p).1],⟨h,s.nx⟩))
     else some (.tup [.b false],s)
   | _=>none
  | _=>none
 | .convert t d x=>match A x with
  | .t str=>match unE P d with
   | some (.slice _)=>convE P lk s t d (.t str)
   | _=>(data1 P (.t str) (convert t d)).bind fun a=>some (a,s)
  | .sn=>convE P lk s t d .sn
  | .s y o n c=>convE P lk s t d (.s y o n c)
  | .sg y j n k=>convE P lk s t d (.sg y j n k)
  | x=>(data1 P x (convert t d)).bind fun a=>some (a,s)
 | .call c=>match c.callee with
  | .value (.func g)=>bif ok g then callF g (c.args.toList.map A) s else none
  | .value f=>match A f with
   | .f g fs cs=>bif ok g then callF g (fs++c.args.toList.map A++cs) s else none
   | .y l=>yieldF l (c.args.toList.map A) s
   | _=>none
  | .builtin .append=>match c.argTypes.toList,c.args.toList with
   | [t,tx],[a,b]=>appE P lk s t tx (A a) (A b)
   | _,_=>none
  | .builtin .copy=>match c.argTypes.toList,c.args.toList with
   | [t,tx],[a,b]=>copyE P lk s t tx (A a) (A b)
   | _,_=>none
  | _=>(pureE P o A).bind fun a=>some (a,s)
 | _=>(pureE P o A).bind fun a=>some (a,s)
section
variable {P:Program} {ok:Nat→Bool} {glob:Nat→Nat→Option AV} {B:Nat} {ctx:List (Nat × LI)} {lk:List Nat} {σ:Sg} {s:St} {w:World} {callF yieldF:Nat→List AV→St→Option (AV × St)} {A:Operand→AV} {ρ:Operand→Value}
def CallOk (P:Program) (ok:Nat→Bool) (glob:Nat→Nat→Option AV) (B:Nat) (ctx:List (Nat × LI)) (lk:List Nat) (callF:Nat→List AV→St→Option (AV × St)):Prop:=
 ∀ (g:Nat) (args:List AV) (s:St) (a:AV) (s':St) (σ:Sg) (w:World) (vs:List Value) (K:Cont),callF g args s=some (a,s')→ok g=true→SR glob B ctx lk σ s w→relL σ args vs→
  (∀ σ' w' v,Ext B lk σ w σ' w'→SR glob B ctx lk σ' s' w'→rel σ' a v→K v w')→callK P g vs K w
def YieldOk (P:Program) (glob:Nat→Nat→Option AV) (B:Nat) (ctx:List (Nat × LI)) (lk:List Nat) (yieldF:Nat→List AV→St→Option (AV × St)):Prop:=
 ∀ (l:Nat) (args:List AV) (s:St) (a:AV) (s':St) (σ:Sg) (w:World) (vs:List Value) (b C:Nat) (K:Cont),yieldF l args s=some (a,s')→σ l=some (b,C)→SR glob B ctx lk σ s w→relL σ args vs→
  (∀ σ' w' v,Ext B lk σ w σ' w'→SR glob B ctx lk σ' s' w'→rel σ' a v→K v w')→roundK P b vs K w
theorem isNil_rowK {e size len:Nat} {zero:List Value} {parts:List (Nat × Operand)} {r:AV} {s':St} {K:Cont} (h:SR glob B ctx lk σ s w) (hA:∀ x,rel σ (A x) (ρ x)) (e1:rowC e size len zero (parts.map fun p=>(p.1,A p.2)) s=some (r,s'))
  (hK:∀ σ' w' v,Ext B lk σ w σ' w'→SR glob B ctx lk σ' s' w'→rel σ' r v→K v w'):rowK e size len zero (parts.map fun p=>(p.1,ρ p.2)) K w:=by
 simp only [rowC,Option.bind_eq_some_iff] at e1
 obtain ⟨c,e2,e3⟩:=e1
 cases hc:allOne c with
 | false=>simp only [hc,cond_false,reduceCtorEq] at e3
 | true=>
  simp only [hc,cond_true,Option.bind_eq_some_iff,Option.some.injEq,Prod.mk.injEq] at e3
  obtain ⟨s1,e3,rfl,rfl⟩:=e3
  obtain ⟨c',h2,h3⟩:=fill_rel (σ:=σ) (ps:=parts.map fun p=>(p.1,A p.2)) (qs:=parts.map fun p=>(p.1,ρ p.2)) (c:=(Array.range (len * size)).map (zero.toArray[· % zero.toArray.size]!)) (by simp) (fun i p q hp hq=>by
   simp only [List.getElem?_map,Option.map_eq_some_iff] at hp hq
   obtain ⟨u,e1,rfl⟩:=hp
   obtain ⟨u',e2,rfl⟩:=hq
   rw [e1] at e2;cases e2
   exact ⟨rfl,hA _⟩) (by
   rw [Array.toList_map,Array.toList_range]
   exact relL_map (fun j=>rel_of1 σ _) _) e2
  obtain ⟨σ',e4,e5,e6⟩:=newcells_ok h e3 hc h3 e
  exact ⟨c',h2,hK σ' _ _ e5 (by simpa using e6) ⟨_,_,e4,rfl⟩⟩
set_option maxHeartbeats 2000000 in
theorem effE_ok (hC:CallOk P ok glob B ctx lk callF) (hY:YieldOk P glob B ctx lk yieldF) (h:SR glob B ctx lk σ s w) {o:Oper} {a:AV} {s':St} {K:Cont} (e:effE P ok glob lk callF yieldF o A s=some (a,s')) (hA:∀ x,rel σ (A x) (ρ x)) (hρ:∀ v,ρ (.const v)=v) (hρf:∀ f,ρ (.func f)=.func (.func f) #[] #[])
  (hK:∀ σ' w' v,Ext B lk σ w σ' w'→SR glob B ctx lk σ' s' w'→rel σ' a v→K v w'):opD P ok o ρ K w∨∃ c f l b,o.op=.call c∧c.callee=.value f∧(∀ g,f≠.func g)∧A f=.y l∧ρ f=.func (.yield b) #[] #[]∧(∃ C,σ l=some (b,C))∧yieldF l (c.args.toList.map A) s=some (a,s')∧roundK P b (c.args.toList.map ρ) K w:=by
 have hpure:(pureE P o A).bind (fun a=>some (a,s))=some (a,s')→opD P ok o ρ K w:=fun e=>by
  simp only [Option.bind_eq_some_iff,Option.some.injEq,Prod.mk.injEq] at e
  obtain ⟨a',e1,rfl,rfl⟩:=e
  exact pureE_ok e1 hA hρ fun r hr=>hK σ w r Ext.refl h hr
 obtain ⟨dst,op,type,pos,after,guard⟩:=o
 cases op with
 | alloc t=>
  refine .inl ?_
  simp only [effE,unE_eq,inE_eq,agE_eq,zeE_eq,plE_eq] at e
  simp only [opD]
  split at e
  ·rename_i z hz
   simp only [hz]
   cases hc:allOne (z.cells.toList.map of1) with
   | false=>simp only [hc,cond_false,reduceCtorEq] at e
   | true=>
    simp only [hc,cond_true,Option.bind_eq_some_iff,Option.some.injEq,Prod.mk.injEq] at e
    obtain ⟨s1,e1,rfl,rfl⟩:=e
    obtain ⟨σ',e2,e3,e4⟩:=newcells_ok (vs:=z.cells.toList) h e1 hc (by simpa using relL_map (g:=fun v=>v) (rel_of1 σ) z.cells.toList) t
    exact hK σ' _ _ e3 e4 ⟨_,_,e2,rfl⟩
  ·cases e
 | box t x=>
  refine .inl ?_
  simp only [effE,unE_eq,inE_eq,agE_eq,zeE_eq,plE_eq] at e
  simp only [opD]
  have hx:=hA x
  split at e
  ·rename_i k ha
   simp only [ha]
   cases hc:isOne (A x) with
   | false=>simp only [hc,cond_false,reduceCtorEq] at e
   | true=>
    simp only [hc,cond_true,Option.bind_eq_some_iff,Option.some.injEq,Prod.mk.injEq] at e
    obtain ⟨s1,e1,rfl,rfl⟩:=e
    obtain ⟨σ',e2,e3,e4⟩:=newcells_ok (vs:=[ρ x]) h e1 (by simp [allOne,hc]) ⟨_,[],rfl,hx,rfl⟩ t
    exact ⟨(isOne_rel hc hx).2,hK σ' _ _ e3 e4 ⟨_,_,e2,rfl⟩⟩
  ·rename_i k ha
   simp only [ha]
   split at e
   ·rename_i l hl
    rw [hl] at hx
    cases hc:allOne l with
    | false=>simp only [hc,cond_false,reduceCtorEq] at e
    | true=>
     simp only [hc,cond_true,Option.bind_eq_some_iff,Option.some.injEq,Prod.mk.injEq] at e
     obtain ⟨s1,e1,rfl,rfl⟩:=e
     obtain ⟨vs,h1,h2⟩:=hx
     obtain ⟨σ',e2,e3,e4⟩:=newcells_ok h e1 hc h1 t
     exact ⟨vs,h2,hK σ' _ _ e3 e4 ⟨_,_,e2,rfl⟩⟩
   ·cases e
  ·cases e
 | load t x=>
  refine .inl ?_
  simp only [effE,unE_eq,inE_eq,agE_eq,zeE_eq,plE_eq,Option.bind_eq_some_iff,Option.some.injEq,Prod.mk.injEq] at e
  obtain ⟨a',e1,rfl,rfl⟩:=e
  simp only [opD]
  exact loadD_ok h e1 (hA x) fun r hr=>hK σ w r Ext.refl h hr
 | store t x v=>
  refine .inl ?_
  simp only [effE,unE_eq,inE_eq,agE_eq,zeE_eq,plE_eq,Option.bind_eq_some_iff,Option.some.injEq,Prod.mk.injEq] at e
  obtain ⟨s1,e1,rfl,rfl⟩:=e
  simp only [opD]
  exact store_ok h e1 (hA x) (hA v) fun w' x1 x2=>hK σ w' _ x1 x2 ⟨[],rfl,rfl⟩
 | buildSlice t len parts=>
  refine .inl ?_
  simp only [effE,unE_eq,inE_eq,agE_eq,zeE_eq,plE_eq] at e
  simp only [opD]
  split at e
  ·rename_i el hu
   simp only [hu]
   split at e
   ·rename_i i hi
    simp only [hi]
    cases hb:(Nat.blt 0 (len * i.size) && Nat.ble (len * i.size) 1000000) with
    | true=>
     simp only [hb,cond_true] at e ⊢
     split at e
     ·rename_i z hz
      simp only [hz]
      exact isNil_rowK h hA e hK
     ·cases e
    | false=>
     simp only [hb,cond_false] at e ⊢
     cases hb2:Nat.beq (len * i.size) 0 with
     | true=>
      simp only [hb2,cond_true] at e ⊢
      exact isNil_rowK h hA e hK
     | false=>simp only [hb2,cond_false,reduceCtorEq] at e
   ·cases e
  ·cases e
 | makeMap t r=>
  refine .inl ?_
  cases r with
  | some _=>simp only [effE,unE_eq,inE_eq,agE_eq,zeE_eq,plE_eq] at e;cases e
  | none=>
   simp only [effE,unE_eq,inE_eq,agE_eq,zeE_eq,plE_eq,Option.bind_eq_some_iff,Option.some.injEq,Prod.mk.injEq] at e
   obtain ⟨s1,e1,rfl,rfl⟩:=e
   obtain ⟨σ',e2,e3,e4⟩:=new_ok' (q:=.map #[] 0) h e1 (.inl rfl) 0 fun σ' _ _=>⟨0,rfl⟩
   exact ⟨.map (some w.heap.size),w.alloc (.map #[] 0),by simp [Instr.makeMap,Sem.run_bind],hK σ' _ _ e3 e4 ⟨_,_,e2,rfl⟩⟩
 | range t x=>
  refine .inl ?_
  simp only [effE,unE_eq,inE_eq,agE_eq,zeE_eq,plE_eq] at e
  have hx:=hA x
  split at e
  ·rename_i str hu hs
   rw [hs] at hx
   simp only [Option.bind_eq_some_iff,Option.some.injEq,Prod.mk.injEq] at e
   obtain ⟨s1,e1,rfl,rfl⟩:=e
   obtain ⟨σ',e2,e3,e4⟩:=new_ok' (q:=.stringIter str 0) h e1 (.inl rfl) 0 fun σ' _ _=>rfl
   simp only [opD]
   have hx':ρ x=.string str:=hx
   rw [hx']
   exact ⟨_,_,run_range_string w t str hu,hK σ' _ _ e3 e4 ⟨_,_,e2,rfl⟩⟩
  ·cases e
 | next it str=>
  refine .inl ?_
  cases str with
  | false=>simp only [effE,unE_eq,inE_eq,agE_eq,zeE_eq,plE_eq] at e;cases e
  | true=>
   simp only [effE,unE_eq,inE_eq,agE_eq,zeE_eq,plE_eq] at e
   have hx:=hA it
   split at e
   ·rename_i y hy
    rw [hy] at hx
    obtain ⟨b,C,e1,e2⟩:=hx
    split at e
    ·rename_i str p hg
     obtain ⟨b',C',q,g1,g2,g3⟩:=h.live hg (by simp)
     rw [e1] at g1;cases g1
     have g3':q=.stringIter str p:=g3
     subst g3'
     simp only [opD]
     rw [e2]
     cases hb:Nat.blt p str.size with
     | true=>
      have hlt:p < str.size:=Nat.le_of_ble_eq_true hb
      simp only [hb,cond_true] at e
      cases hm:memB lk y with
      | true=>simp only [hm,cond_true,reduceCtorEq] at e
      | false=>
       simp only [hm,cond_false,fN_eq,hsetS_eq,Option.some.injEq,Prod.mk.injEq] at e
       obtain ⟨rfl,rfl⟩:=e
       obtain ⟨x1,x2⟩:=h.put (o':=.it str (p+(Utf8.decode str p).2)) (w':=w.iterAt b str (p+(Utf8.decode str p).2)) hg (by simp) (memB_false.1 hm) e1 (Mod.putObj w b _ rfl) (fun _=>World.putObj_heap_same (h.rng y b C e1).2) fun _=>rfl
       exact ⟨_,_,Lib.run_next_any_at w b str p type g2 hlt,hK σ _ _ x1 x2 ⟨_,⟨_,_,rfl,rfl,_,_,rfl,rfl,_,_,rfl,rfl,rfl⟩,rfl⟩⟩
     | false=>
      have hlt:¬ p < str.size:=fun hh=>by rw [show Nat.blt p str.size=true from Nat.ble_eq_true_of_le hh] at hb;cases hb
      simp only [hb,cond_false,Option.some.injEq,Prod.mk.injEq] at e
      obtain ⟨rfl,rfl⟩:=e
      exact ⟨_,_,Lib.run_next_end_at w b str p type g2 hlt,hK σ _ _ Ext.refl h ⟨_,⟨_,_,rfl,rfl,rfl⟩,rfl⟩⟩
    ·cases e
   ·cases e
 | convert t d x=>
  refine .inl ?_
  simp only [effE,unE_eq,inE_eq,agE_eq,zeE_eq,plE_eq] at e
  simp only [opD]
  have hx:=hA x
  split at e
  ·rename_i str hs
   rw [hs] at hx
   split at e
   ·exact conv_ok h e hx hK
   ·simp only [Option.bind_eq_some_iff,Option.some.injEq,Prod.mk.injEq] at e
    obtain ⟨a',e1,rfl,rfl⟩:=e
    exact data1_ok e1 hx fun r hr=>hK σ w r Ext.refl h hr
  ·rename_i hs;rw [hs] at hx;exact conv_ok h e hx hK
  ·rename_i hs;rw [hs] at hx;exact conv_ok h e hx hK
  ·rename_i hs;rw [hs] at hx;exact conv_ok h e hx hK
  ·simp only [Option.bind_eq_some_iff,Option.some.injEq,Prod.mk.injEq] at e
   obtain ⟨a',e1,rfl,rfl⟩:=e
   exact data1_ok e1 hx fun r hr=>hK σ w r Ext.refl h hr
 | call c=>
  obtain ⟨callee,args,ats⟩:=c
  cases callee with
  | value f=>
   have key:∀ (hf:∀ g,f≠.func g),(match A f with | .f g fs cs=>bif ok g then callF g (fs++args.toList.map A++cs) s else none | .y l=>yieldF l (args.toList.map A) s | _=>none)=some (a,s')→
     callvK P ok (ρ f) (args.toList.map ρ) K w∨∃ l b,A f=.y l∧ρ f=.func (.yield b) #[] #[]∧(∃ C,σ l=some (b,C))∧yieldF l (args.toList.map A) s=some (a,s')∧roundK P b (args.toList.map ρ) K w:=fun _ e=>by
    have hf:=hA f
    split at e
    ·rename_i g fs cs he
     rw [he] at hf
     obtain ⟨vf,vc,h1,h2,h3⟩:=hf
     cases hg:ok g with
     | false=>simp only [hg,cond_false,reduceCtorEq] at e
     | true=>
      simp only [hg,cond_true] at e
      exact .inl ⟨g,vf,vc,h3,hg,hC g _ s a s' σ w _ K e hg h (relL_app (relL_app h1 (relL_map hA _)) h2) hK⟩
    ·rename_i l he
     rw [he] at hf
     obtain ⟨b,C,h1,h2⟩:=hf
     exact .inr ⟨l,b,he,h2,⟨C,h1⟩,e,hY l _ s a s' σ w _ b C K e h1 h (relL_map hA _) hK⟩
    ·cases e
   cases f with
   | func g=>
    refine .inl ?_
    simp only [effE,unE_eq,inE_eq,agE_eq,zeE_eq,plE_eq] at e
    simp only [opD]
    cases hg:ok g with
    | false=>simp only [hg,cond_false,reduceCtorEq] at e
    | true=>
     simp only [hg,cond_true] at e ⊢
     exact hC g _ s a s' σ w _ K e hg h (relL_map hA _) hK
   | tmp t=>
    rcases key (fun g=>by simp) e with h | ⟨l,b,h1,h2,h3,h4,h5⟩
    ·exact .inl h
    ·exact .inr ⟨_,_,l,b,rfl,rfl,fun g=>by simp,h1,h2,h3,h4,h5⟩
   | const v=>
    rcases key (fun g=>by simp) e with h | ⟨l,b,h1,h2,h3,h4,h5⟩
    ·exact .inl h
    ·exact .inr ⟨_,_,l,b,rfl,rfl,fun g=>by simp,h1,h2,h3,h4,h5⟩
   | global g=>
    rcases key (fun g=>by simp) e with h | ⟨l,b,h1,h2,h3,h4,h5⟩
    ·exact .inl h
    ·exact .inr ⟨_,_,l,b,rfl,rfl,fun g=>by simp,h1,h2,h3,h4,h5⟩
  | invoke r m=>refine .inl (hpure e)
  | builtin b=>
   cases b with
   | append=>
    refine .inl ?_
    simp only [effE,unE_eq,inE_eq,agE_eq,zeE_eq,plE_eq] at e
    simp only [opD]
    split at e
    ·rename_i t tx x y h1 h2
     have e1:ats=#[t,tx]:=by rw [←Array.toArray_toList (xs:=ats),h1]
     rw [e1,h2]
     exact app_ok h e (hA x) (hA y) hK
    ·cases e
   | copy=>
    refine .inl ?_
    simp only [effE,unE_eq,inE_eq,agE_eq,zeE_eq,plE_eq] at e
    simp only [opD]
    split at e
    ·rename_i t tx x y h1 h2
     have e1:ats=#[t,tx]:=by rw [←Array.toArray_toList (xs:=ats),h1]
     rw [e1,h2]
     exact copy_ok h e (hA x) (hA y) hK
    ·cases e
   | _=>exact .inl (hpure e)
 | _=>exact .inl (hpure e)
end
end Go.K

namespace Go.K
open Go

def tb (m i:Nat):Bool:=Nat.beq (Nat.land (Nat.shiftRight m i) 1) 1
theorem tb_eq (m i:Nat):tb m i=m.testBit i:=by
 have h:Nat.land (Nat.shiftRight m i) 1=(m >>> i) % 2:=Nat.and_one_is_mod (m >>> i)
 rw [Nat.testBit_eq_decide_div_mod_eq,tb,h,Nat.shiftRight_eq_div_pow]
 cases hd:decide (m / 2 ^ i % 2=1) with
 | true=>rw [of_decide_eq_true hd];rfl
 | false=>
  have:=of_decide_eq_false hd
  have h2:m / 2 ^ i % 2=0:=by omega
  rw [h2];rfl
theorem tb_or (a b i:Nat):tb (Nat.lor a b) i=(tb a i || tb b i):=by
 rw [tb_eq,tb_eq,tb_eq]
 exact Nat.testBit_or a b i
theorem tb_and (a b i:Nat):tb (Nat.land a b) i=(tb a i && tb b i):=by
 rw [tb_eq,tb_eq,tb_eq]
 exact Nat.testBit_and a b i
def bt (i:Nat):Nat:=Nat.shiftLeft 1 i
theorem tb_bt (i j:Nat):tb (bt i) j=Nat.beq i j:=by
 rw [tb_eq]
 have h:bt i=2 ^ i:=Nat.one_shiftLeft i
 rw [h,Nat.testBit_two_pow]
 cases hd:decide (i=j) with
 | true=>rw [of_decide_eq_true hd];simp
 | false=>
  have:=of_decide_eq_false hd
  cases hb:Nat.beq i j with
  | true=>exact (this (Nat.eq_of_beq_eq_true hb)).elim
  | false=>rfl
theorem tb_zero (i:Nat):tb 0 i=false:=by rw [tb_eq];exact Nat.zero_testBit i
def sbM (a b:Nat):Bool:=Nat.beq (Nat.land a b) a
theorem sbM_ok {a b:Nat} (h:sbM a b=true) (i:Nat) (hi:tb a i=true):tb b i=true:=by
 have:=Nat.eq_of_beq_eq_true h
 have h2:=tb_and a b i
 rw [this,hi] at h2
 simpa using h2.symm
def gM (M i:Nat):Nat:=Nat.land (Nat.shiftRight M (Nat.mul 128 i)) 340282366920938463463374607431768211455
def uM (M:Nat):List Edge→Nat→Nat
 | [],a=>a
 | e :: r,a=>bif Region.binds .any e then uM M r (Nat.lor (Nat.lor a (gM M e.on)) (bt e.on)) else uM M r a
theorem uM_ok {M:Nat}:∀ {l:List Edge} {a j:Nat},tb (uM M l a) j=true→tb a j=true∨∃ e ∈ l,Region.binds .any e=true∧(e.on=j∨tb (gM M e.on) j=true)
 | [],_,_,h=>.inl h
 | e :: r,a,j,h=>by
  unfold uM at h
  cases hb:Region.binds .any e with
  | false=>
   rw [hb] at h
   rcases uM_ok (l:=r) h with h | ⟨e',h1,h2⟩
   ·exact .inl h
   ·exact .inr ⟨e',List.mem_cons_of_mem _ h1,h2⟩
  | true=>
   rw [hb] at h
   rcases uM_ok (l:=r) h with h | ⟨e',h1,h2⟩
   ·rw [tb_or,tb_or,tb_bt,Bool.or_eq_true,Bool.or_eq_true] at h
    rcases h with (h | h) | h
    ·exact .inl h
    ·exact .inr ⟨e,List.mem_cons_self,hb,.inr h⟩
    ·exact .inr ⟨e,List.mem_cons_self,hb,.inl (Nat.eq_of_beq_eq_true h)⟩
   ·exact .inr ⟨e',List.mem_cons_of_mem _ h1,h2⟩
def mM:List Oper→Nat→Nat→Nat
 | [],_,M=>M
 | o :: r,i,M=>fN (Nat.lor M (Nat.shiftLeft (uM M o.after.toList 0) (Nat.mul 128 i))) fun M=>fN (i+1) fun i=>mM r i M
def bL (m:Nat):Nat→List Nat→List Nat
 | 0,l=>l
 | k+1,l=>bif tb m k then bL m k (k :: l) else bL m k l
theorem bL_mem {m j:Nat}:∀ {k:Nat} {l:List Nat},j ∈ bL m k l↔(j < k∧tb m j=true)∨j ∈ l
 | 0,l=>by simp [bL]
 | k+1,l=>by
  unfold bL
  cases hb:tb m k with
  | true=>
   simp only [cond_true,bL_mem (k:=k),List.mem_cons]
   constructor
   ·rintro (⟨h1,h2⟩ | rfl | h)
    ·exact .inl ⟨by omega,h2⟩
    ·exact .inl ⟨by omega,hb⟩
    ·exact .inr h
   ·rintro (⟨h1,h2⟩ | h)
    ·rcases Nat.lt_or_ge j k with h | h
     ·exact .inl ⟨h,h2⟩
     ·exact .inr (.inl (by omega))
    ·exact .inr (.inr h)
  | false=>
   simp only [cond_false,bL_mem (k:=k)]
   constructor
   ·rintro (⟨h1,h2⟩ | h)
    ·exact .inl ⟨by omega,h2⟩
    ·exact .inr h
   ·rintro (⟨h1,h2⟩ | h)
    ·rcases Nat.lt_or_ge j k with h | h
     ·exact .inl ⟨h,h2⟩
     ·have:j=k:=by omega
      subst this
      rw [hb] at h2;cases h2
    ·exact .inr h
def ANM (M N:Nat):Nat→List (List Nat)→List (List Nat)
 | 0,l=>l
 | k+1,l=>ANM M N k (bL (gM M k) N [] :: l)
theorem ANM_len {M N:Nat}:∀ {k:Nat} {l:List (List Nat)},(ANM M N k l).length=k+l.length
 | 0,l=>by simp [ANM]
 | k+1,l=>by rw [ANM,ANM_len (k:=k),List.length_cons];omega
theorem ANM_get {M N:Nat}:∀ {k:Nat} {l:List (List Nat)} {i:Nat},getA (ANM M N k l) i=if i < k then bL (gM M i) N [] else getA l (i - k)
 | 0,l,i=>by simp [ANM]
 | k+1,l,i=>by
  rw [ANM,ANM_get (k:=k)]
  rcases Nat.lt_trichotomy i k with h | h | h
  ·rw [if_pos h,if_pos (by omega)]
  ·subst h
   rw [if_neg (by omega),if_pos (by omega),Nat.sub_self];rfl
  ·rw [if_neg (by omega),if_neg (by omega)]
   obtain ⟨d,hd⟩:∃ d,i - k=d+1:=⟨i - k - 1,by omega⟩
   rw [hd,show i - (k+1)=d by omega];rfl
def dL:List Oper→Nat→List (Nat × Nat)
 | [],_=>[]
 | o :: r,i=>match o.dst with
  | some d=>fN d fun d=>fN i fun i=>(i,d) :: dL r (i+1)
  | none=>dL r (i+1)
theorem dL_mem {d:Nat} {o:Oper}:∀ {l:List Oper} {i j:Nat},l[j]?=some o→o.dst=some d→(i+j,d) ∈ dL l i
 | [],_,_,h,_=>by cases h
 | a :: r,i,0,h,hd=>by
  cases h
  unfold dL
  rw [hd]
  simp only [fN_eq]
  exact List.mem_cons_self
 | a :: r,i,j+1,h,hd=>by
  have h2:=dL_mem (l:=r) (i:=i+1) (j:=j) h hd
  rw [show i+(j+1)=i+1+j by omega]
  unfold dL
  split
  ·simp only [fN_eq];exact List.mem_cons_of_mem _ h2
  ·exact h2
def chk1 (n M:Nat) (all:List Oper) (DL:List (Nat × Nat)) (i:Nat) (o:Oper) (A:List Nat):Bool:=
 fN (gM M i) fun a=>
 !isSel o && o.after.toList.all (fun e=>!(Region.binds .any e) || Nat.blt e.on i)
 && sbM a (uM M o.after.toList 0)
 && A.all (fun j=>sbM (gM M j) a)
 && (slotsOf all o).all (fun t=>DL.all fun p=>bif Nat.beq p.2 t then Nat.beq p.1 i || tb a p.1 || tb (gM M p.1) i else true)
 && (match o.guard with | none=>true | some (g,_)=>tb a g && (dstAt all g).isSome)
 && (match o.dst with | none=>true | some d=>Nat.blt d n && DL.all fun p=>bif Nat.beq p.2 d then Nat.beq p.1 i else true)
def chkA (n M:Nat) (all:List Oper) (DL:List (Nat × Nat)):List Oper→List (List Nat)→Nat→Bool
 | [],_,_=>true
 | o :: r,A,i=>chk1 n M all DL i o (A.headD []) && fN (i+1) fun i=>chkA n M all DL r A.tail i
theorem chkA_ok {n M:Nat} {all:List Oper} {DL:List (Nat × Nat)} {o:Oper}:∀ {l:List Oper} {A:List (List Nat)} {i j:Nat},chkA n M all DL l A i=true→l[j]?=some o→chk1 n M all DL (i+j) o (getA A j)=true
 | [],_,_,_,_,h=>by cases h
 | a :: r,A,i,j,h,hj=>by
  simp only [chkA,fN_eq,Bool.and_eq_true] at h
  cases j with
  | zero=>
   cases hj
   have:A.headD []=getA A 0:=by cases A <;> rfl
   rw [←this];exact h.1
  | succ j=>
   have:=chkA_ok (l:=r) (A:=A.tail) (j:=j) h.2 hj
   have e:getA A.tail j=getA A (j+1):=by
    cases A with
    | nil=>cases j <;> rfl
    | cons _ _=>rfl
   rw [e] at this
   rw [show i+(j+1)=i+1+j by omega];exact this
def mkM:List Nat→Nat→Nat
 | [],a=>a
 | i :: r,a=>mkM r (Nat.lor a (bt i))
theorem mkM_ok:∀ {l:List Nat} {a j:Nat},tb (mkM l a) j=(tb a j || memB l j)
 | [],a,j=>by simp [mkM,memB]
 | i :: r,a,j=>by
  rw [mkM,mkM_ok (l:=r),tb_or,tb_bt]
  simp only [memB,List.any_cons,Bool.or_assoc]
def nxtM (E:Nat):Ord→Nat→Bool
 | .nil,_=>false
 | .br a b,i=>nxtM E a i || nxtM E b i
 | .op j t,i=>Nat.beq j i || (!tb E j && nxtM E t i)
def covM (eff:List Nat) (E:Nat) (AN:List (List Nat)) (t:Ord) (p:Nat):Bool:=eff.all fun i=>tb p i || !((getA AN i).all fun j=>!tb E j || tb p j) || nxtM E t i
def okMv (N:Nat) (eff:List Nat) (E:Nat) (AN:List (List Nat)):Ord→Nat→Bool
 | .nil,p=>(List.range N).all (tb p)
 | .br a b,p=>okMv N eff E AN a p && okMv N eff E AN b p
 | .op i t,p=>Nat.blt i N && !tb p i && (getA AN i).all (tb p) && fN (Nat.lor p (bt i)) fun q=>(bif tb E i then covM eff E AN t q else true) && okMv N eff E AN t q
theorem nxtM_eq {E:Nat} {eff:List Nat} (hE:∀ j,tb E j=memB eff j):∀ (t:Ord) (i:Nat),nxtM E t i=nxt eff t i
 | .nil,_=>rfl
 | .br a b,i=>by rw [nxtM,nxt,nxtM_eq hE a,nxtM_eq hE b]
 | .op j t,i=>by rw [nxtM,nxt,nxtM_eq hE t,hE]
theorem covM_eq {E:Nat} {eff:List Nat} {AN:List (List Nat)} (hE:∀ j,tb E j=memB eff j) {t:Ord} {p:Nat} {pre:List Nat} (hp:∀ j,tb p j=memB pre j):covM eff E AN t p=cov eff AN t pre:=by
 simp only [covM,cov,nxtM_eq hE,hE,hp]
theorem okMv_eq {N E:Nat} {eff:List Nat} {AN:List (List Nat)} (hE:∀ j,tb E j=memB eff j):∀ (t:Ord) {p:Nat} {pre:List Nat},(∀ j,tb p j=memB pre j)→okMv N eff E AN t p=okT N eff AN t pre
 | .nil,p,pre,hp=>by
  have:tb p=memB pre:=funext hp
  rw [okMv,okT,this]
 | .br a b,p,pre,hp=>by rw [okMv,okT,okMv_eq hE a hp,okMv_eq hE b hp]
 | .op i t,p,pre,hp=>by
  have h2:∀ j,tb (Nat.lor p (bt i)) j=memB (i :: pre) j:=fun j=>by
   rw [tb_or,tb_bt,hp]
   simp only [memB,List.any_cons]
   exact Bool.or_comm _ _
  have:tb p=memB pre:=funext hp
  rw [okMv,okT,fN_eq,okMv_eq hE t h2,covM_eq hE h2,hE,this]
  cases Nat.blt i N <;> cases memB pre i <;> cases (getA AN i).all (memB pre) <;> simp
def gokM (n M E:Nat) (all:List Oper) (DL:List (Nat × Nat)) (eff:List Nat) (AN:List (List Nat)):Bool:=
 chkA n M all DL all AN 0 && eff.any (fun k=>Nat.blt k all.length && (getA AN k).all fun j=>!tb E j) && eff.all (fun k=>Nat.blt k all.length)
theorem gokM_ok {n M E:Nat} {all:List Oper} {eff:List Nat} (hE:∀ j,tb E j=memB eff j) (h:gokM n M E all (dL all 0) eff (ANM M all.length all.length [])=true) :
  gokB n all eff (ANM M all.length all.length []) ((List.range all.length).map fun i=>eff.filter (memB (getA (ANM M all.length all.length []) i)))=true:=by
 simp only [gokM,Bool.and_eq_true] at h
 obtain ⟨⟨h1,h2⟩,h3⟩:=h
 have hlen:(ANM M all.length all.length []).length=all.length:=by rw [ANM_len];rfl
 have hget:∀ i j,memB (getA (ANM M all.length all.length []) i) j=true↔i < all.length∧j < all.length∧tb (gM M i) j=true:=fun i j=>by
  rw [memB_iff,ANM_get]
  by_cases hi:i < all.length
  ·rw [if_pos hi,bL_mem];simp [hi]
  ·rw [if_neg hi]
   have:getA ([]:List (List Nat)) (i - all.length)=[]:=by cases i - all.length <;> rfl
   rw [this];simp [hi]
 generalize ANM M all.length all.length []=AN at h1 h2 hlen hget ⊢
 simp only [gokB,Bool.and_eq_true,List.all_eq_true,List.mem_range]
 have hone:∀ i o,all[i]?=some o→chk1 n M all (dL all 0) i o (getA AN i)=true:=fun i o hi=>by
  have:=chkA_ok (j:=i) h1 hi
  rwa [Nat.zero_add] at this
 have parts:=fun i o (hi:all[i]?=some o)=>by
  have:=hone i o hi
  simp only [chk1,fN_eq,Bool.and_eq_true,List.all_eq_true] at this
  exact this
 refine ⟨⟨⟨⟨Nat.ble_eq_true_of_le (by omega),fun i hi=>?_⟩,fun i hi j hj m hm=>?_⟩,?_⟩,fun k hk=>by simpa using List.all_eq_true.1 h3 k hk⟩
 ·obtain ⟨o,ho⟩:∃ o,all[i]?=some o:=⟨_,List.getElem?_eq_getElem hi⟩
  rw [ho]
  obtain ⟨⟨⟨⟨⟨⟨p1,p2⟩,p3⟩,p4⟩,p5⟩,p6⟩,p7⟩:=parts i o ho
  simp only [gok1,Bool.and_eq_true,List.all_eq_true,List.mem_range]
  refine ⟨⟨⟨⟨⟨⟨p1,p2⟩,fun j hj=>?_⟩,fun t ht m hm=>?_⟩,?_⟩,?_⟩,?_⟩
  ·have ⟨_,q2,q3⟩:=(hget i j).1 (memB_iff.2 hj)
   rcases uM_ok (sbM_ok p3 j q3) with h | ⟨e,he,hb,hc⟩
   ·rw [tb_zero] at h;cases h
   ·refine List.any_eq_true.2 ⟨e,he,?_⟩
    have hlt:Nat.blt e.on i=true:=by simpa [hb] using p2 e he
    have hlt:e.on < i:=Nat.le_of_ble_eq_true hlt
    rw [hb,Bool.true_and,Bool.or_eq_true]
    rcases hc with hc | hc
    ·exact .inl (by rw [hc];exact Nat.beq_refl j)
    ·exact .inr ((hget e.on j).2 ⟨by omega,q2,hc⟩)
  ·cases hd:optEq (dstAt all m) t with
   | false=>rfl
   | true=>
    obtain ⟨o',ho'⟩:∃ o',all[m]?=some o':=⟨_,List.getElem?_eq_getElem hm⟩
    have hd':=optEq_iff.1 hd
    rw [dstAt_get,ho'] at hd'
    have hmem:(0+m,t) ∈ dL all 0:=dL_mem ho' hd'
    have:=p5 t ht (0+m,t) hmem
    rw [Nat.zero_add] at this
    simp only [Nat.beq_refl,cond_true,Bool.or_eq_true] at this
    simp only [Bool.not_true,Bool.false_or,Bool.or_eq_true]
    rcases this with (h | h) | h
    ·exact .inl (.inl h)
    ·exact .inl (.inr ((hget i m).2 ⟨hi,hm,h⟩))
    ·exact .inr ((hget m i).2 ⟨hm,hi,h⟩)
  ·cases hg:o.guard with
   | none=>rfl
   | some gw=>
    obtain ⟨g,wv⟩:=gw
    rw [hg] at p6
    simp only [Bool.and_eq_true] at p6 ⊢
    refine ⟨(hget i g).2 ⟨hi,?_,p6.1⟩,p6.2⟩
    rcases Nat.lt_or_ge g all.length with h | h
    ·exact h
    ·have h6:=p6.2
     rw [dstAt_get,List.getElem?_eq_none h] at h6
     cases h6
  ·cases hd:o.dst with
   | none=>rfl
   | some d=>
    rw [hd] at p7
    simp only [Bool.and_eq_true,List.all_eq_true,List.mem_range] at p7 ⊢
    refine ⟨p7.1,fun j hj=>?_⟩
    cases he:optEq (dstAt all j) d with
    | false=>simp
    | true=>
     obtain ⟨o',ho'⟩:∃ o',all[j]?=some o':=⟨_,List.getElem?_eq_getElem hj⟩
     have hd':=optEq_iff.1 he
     rw [dstAt_get,ho'] at hd'
     have hmem:(0+j,d) ∈ dL all 0:=dL_mem ho' hd'
     have:=p7.2 (0+j,d) hmem
     rw [Nat.zero_add] at this
     simp only [Nat.beq_refl,cond_true] at this
     rw [this];rfl
  ·rw [Bool.or_eq_true]
   refine .inr (List.any_eq_true.2 ⟨eff.filter (memB (getA AN i)),List.mem_map.2 ⟨i,List.mem_range.2 hi,rfl⟩,List.all_eq_true.2 fun j hj=>?_⟩)
   have:memB (eff.filter (memB (getA AN i))) j=memB (getA AN i) j:=by
    cases hm:memB (getA AN i) j with
    | true=>exact memB_iff.2 (List.mem_filter.2 ⟨hj,hm⟩)
    | false=>
     cases hm2:memB (eff.filter (memB (getA AN i))) j with
     | false=>rfl
     | true=>
      have:=(List.mem_filter.1 (memB_iff.1 hm2)).2
      rw [hm] at this;cases this
   rw [this];simp
 ·have hi':i < all.length:=by omega
  obtain ⟨o,ho⟩:∃ o,all[i]?=some o:=⟨_,List.getElem?_eq_getElem hi'⟩
  obtain ⟨⟨⟨⟨⟨⟨p1,p2⟩,p3⟩,p4⟩,p5⟩,p6⟩,p7⟩:=parts i o ho
  obtain ⟨_,q2,q3⟩:=(hget j m).1 (memB_iff.2 hm)
  exact (hget i m).2 ⟨hi',q2,sbM_ok (p4 j hj) m q3⟩
 ·obtain ⟨k,hk,hk2⟩:=List.any_eq_true.1 h2
  rw [Bool.and_eq_true] at hk2
  refine List.any_eq_true.2 ⟨k,hk,?_⟩
  rw [Bool.and_eq_true]
  refine ⟨hk2.1,?_⟩
  have:=hk2.2
  simp only [hE] at this
  exact this
end Go.K

namespace Go.K
open Go

def gdE (all:List Oper) (o:Oper) (i:Nat) (kn:List (Nat × Option Bool)) (e:T):Option (Bool × List (Nat × Option Bool)):=
 match o.guard with
 | none=>some (true,kn)
 | some (j,want)=>match lookK kn j with
  | some (some b)=>bif sameB b want then some (true,kn) else some (false,(i,none) :: kn)
  | some none=>some (false,(i,none) :: kn)
  | none=>match dstAt all j with
   | some d=>bif clash o.dst ((j,none) :: kn) all then none else match tget e d with
    | .b b=>bif sameB b want then some (true,(j,some b) :: kn) else some (false,(i,none) :: (j,some b) :: kn)
    | _=>none
   | none=>none
noncomputable def opsE (ex:Oper→T→St→Option (AV × St)) (all:List Oper):List Oper→Nat→List (Nat × Option Bool)→T→St→Option (T × St)
 | [],_,_,e,s=>some (e,s)
 | o :: r,i,kn,e,s=>bif clash o.dst kn all then none else (gdE all o i kn e).bind fun g=>
   bif g.1 then (ex o e s).bind fun q=>lsetF e o.dst q.1 fun e=>opsE ex all r (i+1) g.2 e q.2
   else lsetF e o.dst (.tup []) fun e=>opsE ex all r (i+1) g.2 e s
section
variable {P:Program} {ok:Nat→Bool} {glob:Nat→Nat→Option AV} {B:Nat} {ctx:List (Nat × LI)} {lk:List Nat} {callF yieldF:Nat→List AV→St→Option (AV × St)} {n:Nat}
theorem opY_of {o:Oper} {ρ:Operand→Value} {K:Cont} {w:World} (h:opD P ok o ρ K w∨∃ c f b,o.op=.call c∧c.callee=.value f∧(∀ g,f≠.func g)∧ρ f=.func (.yield b) #[] #[]∧roundK P b (c.args.toList.map ρ) K w):opY P ok o ρ K w:=by
 obtain ⟨dst,op,type,pos,after,guard⟩:=o
 rcases h with h | ⟨c,f,b,h1,h2,h3,h4,h5⟩
 ·cases op with
  | call c=>
   obtain ⟨callee,args,ats⟩:=c
   cases callee with
   | value f=>cases f with
    | func g=>exact h
    | tmp t=>exact .inl h
    | const v=>exact .inl h
    | global g=>exact .inl h
   | invoke r m=>exact h
   | builtin b=>exact h
  | _=>exact h
 ·simp only at h1
  subst h1
  obtain ⟨callee,args,ats⟩:=c
  simp only at h2
  subst h2
  cases f with
  | func g=>exact (h3 g rfl).elim
  | tmp t=>exact .inr ⟨b,h4,h5⟩
  | const v=>exact .inr ⟨b,h4,h5⟩
  | global g=>exact .inr ⟨b,h4,h5⟩
theorem bool_of {n:Nat} {σ:Sg} {l:T} {e:Env} (h:ER n σ l e) {d:Nat} {b:Bool} (hd:tget l d=.b b):e d=.bool b:=by
 have:=h.get d
 rw [hd] at this
 exact this
theorem undef_rel {σ:Sg}:rel σ (.tup []) undef:=⟨[],rfl,rfl⟩
theorem opsE_ok (hC:CallOk P ok glob B ctx lk callF) (hY:YieldOk P glob B ctx lk yieldF) {all:List Oper} {K:Env→World→Prop} {e':T} {s':St}:∀ (l:List Oper) (i:Nat) (kn:List (Nat × Option Bool)) (e:T) (s:St) (σ:Sg) (ē:Env) (w:World),
  opsE (fun o e s=>effE P ok glob lk callF yieldF o (evA e) s) all l i kn e s=some (e',s')→SR glob B ctx lk σ s w→ER n σ e ē→
  (∀ σ' w' ē',Ext B lk σ w σ' w'→SR glob B ctx lk σ' s' w'→ER n σ' e' ē'→K ē' w')→opsD P ok n all K l i kn ē w:=by
 intro l
 induction l with
 | nil=>
  intro i kn e s σ ē w h hS hE hK
  simp only [opsE,Option.some.injEq,Prod.mk.injEq] at h
  obtain ⟨rfl,rfl⟩:=h
  exact hK σ w ē Ext.refl hS hE
 | cons o r ih=>
  intro i kn e s σ ē w h hS hE hK
  simp only [opsE,lsetF_eq] at h
  simp only [opsD]
  cases hcl:clash o.dst kn all with
  | true=>simp only [hcl,cond_true,reduceCtorEq] at h
  | false=>
   simp only [hcl,cond_false,Option.bind_eq_some_iff] at h ⊢
   obtain ⟨⟨g1,g2⟩,hg,h⟩:=h
   have run1:∀ kn',(effE P ok glob lk callF yieldF o (evA e) s).bind (fun q=>opsE (fun o e s=>effE P ok glob lk callF yieldF o (evA e) s) all r (i+1) kn' (lsetO e o.dst q.1) q.2)=some (e',s')→opY P ok o (ev ē) (fun v w'=>opsD P ok n all K r (i+1) kn' (updO n ē o.dst v) w') w:=fun kn' h=>by
    simp only [Option.bind_eq_some_iff] at h
    obtain ⟨⟨a,s1⟩,h1,h2⟩:=h
    refine opY_of ?_
    rcases effE_ok (K:=fun v w'=>opsD P ok n all K r (i+1) kn' (updO n ē o.dst v) w') hC hY hS h1 hE.ev (fun _=>rfl) (fun _=>rfl) (fun σ' w' v x1 x2 x3=>ih (i+1) kn' _ s1 σ' _ w' h2 x2 ((hE.le x1.le).setO o.dst x3) fun σ'' w'' ē'' y1 y2 y3=>hK σ'' w'' ē'' (x1.trans y1) y2 y3) with h | ⟨c,f,l,b,z1,z2,z3,_,z4,_,_,z5⟩
    ·exact .inl h
    ·exact .inr ⟨c,f,b,z1,z2,z3,z4,z5⟩
   have skip1:∀ kn',opsE (fun o e s=>effE P ok glob lk callF yieldF o (evA e) s) all r (i+1) kn' (lsetO e o.dst (.tup [])) s=some (e',s')→opsD P ok n all K r (i+1) kn' (updO n ē o.dst undef) w:=fun kn' h=>
    ih (i+1) kn' _ s σ _ w h hS (hE.setO o.dst undef_rel) hK
   unfold gdE at hg
   cases hgd:o.guard with
   | none=>
    simp only [hgd,Option.some.injEq,Prod.mk.injEq] at hg ⊢
    obtain ⟨rfl,rfl⟩:=hg
    exact run1 kn h
   | some gw=>
    obtain ⟨j,want⟩:=gw
    simp only [hgd] at hg ⊢
    cases hlk:lookK kn j with
    | some ob=>
     cases ob with
     | some b=>
      simp only [hlk] at hg ⊢
      cases hb:sameB b want with
      | true=>
       simp only [hb,cond_true,Option.some.injEq,Prod.mk.injEq] at hg ⊢
       obtain ⟨rfl,rfl⟩:=hg
       exact run1 kn h
      | false=>
       simp only [hb,cond_false,Option.some.injEq,Prod.mk.injEq] at hg ⊢
       obtain ⟨rfl,rfl⟩:=hg
       exact skip1 _ h
     | none=>
      simp only [hlk,Option.some.injEq,Prod.mk.injEq] at hg ⊢
      obtain ⟨rfl,rfl⟩:=hg
      exact skip1 _ h
    | none=>
     simp only [hlk] at hg ⊢
     cases hd:dstAt all j with
     | none=>simp only [hd,reduceCtorEq] at hg
     | some d=>
      simp only [hd] at hg ⊢
      cases hc2:clash o.dst ((j,none) :: kn) all with
      | true=>simp only [hc2,cond_true,reduceCtorEq] at hg
      | false=>
       simp only [hc2,cond_false] at hg ⊢
       split at hg
       ·rename_i b hb
        have hv:=bool_of hE hb
        rw [hv]
        cases b with
        | true=>
         show (bif want then _ else _)
         rw [upd_self hv]
         cases want with
         | true=>
          simp only [sameB,cond_true,Option.some.injEq,Prod.mk.injEq] at hg ⊢
          obtain ⟨rfl,rfl⟩:=hg
          exact run1 _ h
         | false=>
          simp only [sameB,cond_false,Option.some.injEq,Prod.mk.injEq] at hg ⊢
          obtain ⟨rfl,rfl⟩:=hg
          exact skip1 _ h
        | false=>
         show (bif want then _ else _)
         rw [upd_self hv]
         cases want with
         | true=>
          simp only [sameB,cond_true,cond_false,Option.some.injEq,Prod.mk.injEq] at hg ⊢
          obtain ⟨rfl,rfl⟩:=hg
          exact skip1 _ h
         | false=>
          simp only [sameB,cond_true,cond_false,Option.some.injEq,Prod.mk.injEq] at hg ⊢
          obtain ⟨rfl,rfl⟩:=hg
          exact run1 _ h
       ·cases hg
end
def nonE (P:Program) (o:Oper):Bool:=match o.op with | .load _ _=>true | .binOp ..=>true | _=>pureOp P o
def isLd (o:Oper):Bool:=match o.op with | .load _ _=>true | _=>false
def e0M (P:Program):List Oper→Nat→Nat→Nat
 | [],_,a=>a
 | o :: r,i,a=>fN i fun i=>bif nonE P o then e0M P r (i+1) a else fN (Nat.lor a (bt i)) fun a=>e0M P r (i+1) a
def effM (P:Program) (M E:Nat):List Oper→Nat→List Nat
 | [],_=>[]
 | o :: r,i=>fN i fun i=>bif nonE P o && (bif isLd o then Nat.beq (Nat.land (gM M i) E) 0 else true) then effM P M E r (i+1) else i :: effM P M E r (i+1)
def effX (P:Program) (M E N:Nat):List Oper→Nat→List Nat
 | [],_=>[]
 | o :: r,i=>fN i fun i=>bif nonE P o && (bif isLd o then Nat.beq (Nat.land (gM M i) E) 0 && (List.range N).all (fun k=>!tb E k || tb (gM M k) i) else true) then effX P M E N r (i+1) else i :: effX P M E N r (i+1)
def preM (M E:Nat):Nat→List Nat→List Nat
 | 0,l=>l
 | k+1,l=>bif !tb E k && Nat.beq (Nat.land (gM M k) E) 0 then preM M E k (k :: l) else preM M E k l
def treeM (M E:Nat):Nat→Nat→List Nat→Ord
 | 0,_,_=>.nil
 | f+1,dn,todo=>match todo.find? (fun i=>!tb E i && sbM (gM M i) dn) with
  | some i=>.op i (treeM M E f (Nat.lor dn (bt i)) (todo.filter fun j=>!Nat.beq i j))
  | none=>match (todo.filter fun i=>sbM (gM M i) dn).map fun i=>Ord.op i (treeM M E f (Nat.lor dn (bt i)) (todo.filter fun j=>!Nat.beq i j)) with
   | []=>.nil
   | a :: r=>r.foldl Ord.br a
def hasBr:Ord→Bool
 | .nil=>false
 | .op _ t=>hasBr t
 | .br _ _=>true
noncomputable def ndE (P:Program) (glob:Nat→Nat→Option AV) (h:HP) (o:Oper) (A:Operand→AV):Option (AV × List Nat):=
 match o.op with
 | .load t x=>(loadE P glob h t (A x)).bind fun a=>some (a,loadN (A x))
 | .binOp op t x y _=>(binE P op t x y (A x) (A y)).bind fun a=>some (a,[])
 | _=>bif pureOp P o then (pureE P o A).bind fun a=>some (a,[]) else none
noncomputable def preE (P:Program) (glob:Nat→Nat→Option AV) (h:HP) (all:List Oper) (eff:List Nat):List Nat→List (Nat × Option Bool)→T→List (Nat × Nat)→Option (List (Nat × Option Bool) × T × List (Nat × Nat))
 | [],kn,e,L=>some (kn,e,L)
 | i :: r,kn,e,L=>bif memB eff i then none else match all[i]? with
  | none=>none
  | some o=>(gdE all o i kn e).bind fun g=>
   bif g.1 then (ndE P glob h o (evA e)).bind fun q=>lsetF e o.dst q.1 fun e=>preE P glob h all eff r g.2 e (q.2.map (fun x=>(i,x))++L)
   else lsetF e o.dst (.tup []) fun e=>preE P glob h all eff r g.2 e L
def lksE (AN:List (List Nat)) (lk:List Nat) (L:List (Nat × Nat)) (j:Nat):List Nat:=(L.filter fun p=>!memB (getA AN j) p.1).map (·.2)++lk
noncomputable def liveE (h:HP) (x:Nat):Bool:=match hget h x with | some .dead=>false | some _=>true | none=>false
noncomputable def chE (P:Program) (ex:Nat→Oper→T→St→Option (AV × St)) (bs:Nat→Nat→Nat) (all:List Oper) (eff:List Nat):Ord→List (Nat × Option Bool)→T→St→Option (T × St)
 | .nil,_,e,s=>some (e,s)
 | .br a b,kn,e,s=>(chE P ex bs all eff a kn e s).bind fun p=>(chE P ex bs all eff b kn e s).bind fun q=>bif beqT p.1 q.1 && beqH p.2.h q.2.h then some p else none
 | .op i r,kn,e,s=>match all[i]? with
  | none=>none
  | some o=>(gdE all o i kn e).bind fun g=>
   bif g.1 then (bif memB eff i then (fN (bs i s.nx) fun x=>ex i o e ⟨s.h,x⟩).bind fun q=>lsetF e o.dst q.1 fun e=>chE P ex bs all eff r g.2 e q.2
     else bif isLd o then none else (ndE P (fun _ _=>none) .nil o (evA e)).bind fun q=>lsetF e o.dst q.1 fun e=>chE P ex bs all eff r g.2 e s)
   else lsetF e o.dst (.tup []) fun e=>chE P ex bs all eff r g.2 e s
inductive DA where
 | no
 | ok (pre eff:List Nat) (AN:List (List Nat)) (t:Ord) (br:Bool)
def fNs {α:Type}:List Nat→(List Nat→α)→α
 | [],k=>k []
 | a :: l,k=>fN a fun a=>fNs l fun l=>k (a :: l)
theorem fNs_eq {α:Type}:∀ (l:List Nat) (k:List Nat→α),fNs l k=k l
 | [],_=>rfl
 | a :: l,k=>by simp only [fNs,fN_eq,fNs_eq l]
def fNss {α:Type}:List (List Nat)→(List (List Nat)→α)→α
 | [],k=>k []
 | a :: l,k=>fNs a fun a=>fNss l fun l=>k (a :: l)
theorem fNss_eq {α:Type}:∀ (l:List (List Nat)) (k:List (List Nat)→α),fNss l k=k l
 | [],_=>rfl
 | a :: l,k=>by simp only [fNss,fNs_eq,fNss_eq l]
def fOrd {α:Type}:Ord→(Ord→α)→α
 | .nil,k=>k .nil
 | .op i t,k=>fN i fun i=>fOrd t fun t=>k (.op i t)
 | .br a b,k=>fOrd a fun a=>fOrd b fun b=>k (.br a b)
theorem fOrd_eq {α:Type}:∀ (t:Ord) (k:Ord→α),fOrd t k=k t
 | .nil,_=>rfl
 | .op i t,k=>by simp only [fOrd,fN_eq,fOrd_eq t]
 | .br a b,k=>by simp only [fOrd,fOrd_eq a,fOrd_eq b]
def fPs {α:Type}:List (Nat × Nat)→(List (Nat × Nat)→α)→α
 | [],k=>k []
 | a :: l,k=>fN a.1 fun x=>fN a.2 fun y=>fPs l fun l=>k ((x,y) :: l)
theorem fPs_eq {α:Type}:∀ (l:List (Nat × Nat)) (k:List (Nat × Nat)→α),fPs l k=k l
 | [],_=>rfl
 | a :: l,k=>by simp only [fPs,fN_eq,fPs_eq l]
def orL (l:List Nat) (d:Nat):List Nat:=match l with | []=>[d] | l=>l
def annE (P:Program) (n:Nat) (x:Bool) (all:List Oper):DA:=
 fN all.length fun N=>fN (mM all 0 0) fun M=>fN (e0M P all 0 0) fun E0=>fNs (orL (bif x then effX P M E0 N all 0 else effM P M E0 all 0) (N - 1)) fun eff=>
 fN (mkM eff 0) fun E=>fNss (ANM M N N []) fun AN=>fNs (preM M E N []) fun pre=>fN (mkM pre 0) fun p=>
 fOrd (treeM M E (N+1) p ((List.range N).filter fun i=>!tb p i)) fun t=>fPs (dL all 0) fun DL=>fOrd (pre.foldr Ord.op t) fun t0=>
 bif gokM n M E all DL eff AN && (covM eff E AN t0 0 && okMv N eff E AN t0 0) && all.all ndef then
  (match hasBr t with | true=>.ok pre eff AN t true | false=>.ok pre eff AN t false) else .no
noncomputable def drawE1 (P:Program) (glob:Nat→Nat→Option AV) (ex:List Nat→Oper→T→St→Option (AV × St)) (W:Nat) (lk:List Nat) (n:Nat) (x:Bool) (all:List Oper) (e:T) (s:St):Option (T × St):=
 match annE P n x all with
 | .no=>none
 | .ok pre eff AN t br=>(preE P glob s.h all eff pre [] e []).bind fun p=>
   bif br then (chE P (fun j o e s=>bif (lksE AN [] p.2.2 j).all (liveE s.h) then ex (lksE AN lk p.2.2 j) o e s else none) (fun i _=>s.nx+(i+1) * W) all eff t p.1 p.2.1 s).bind fun q=>fN (s.nx+100 * W) fun x=>some (q.1,⟨q.2.h,x⟩)
   else chE P (fun j o e s=>bif (lksE AN [] p.2.2 j).all (liveE s.h) then ex (lksE AN lk p.2.2 j) o e s else none) (fun _ x=>x) all eff t p.1 p.2.1 s
noncomputable def drawE (P:Program) (glob:Nat→Nat→Option AV) (ex:List Nat→Oper→T→St→Option (AV × St)) (W:Nat) (lk:List Nat) (n:Nat) (all:List Oper) (e:T) (s:St):Option (T × St):=
 match drawE1 P glob ex W lk n false all e s with
 | some r=>some r
 | none=>drawE1 P glob ex W lk n true all e s
theorem drawE_1 {P:Program} {glob:Nat→Nat→Option AV} {ex:List Nat→Oper→T→St→Option (AV × St)} {W:Nat} {lk:List Nat} {n:Nat} {all:List Oper} {e:T} {s:St} {r:T × St} (h:drawE P glob ex W lk n all e s=some r):∃ x,drawE1 P glob ex W lk n x all e s=some r:=by
 unfold drawE at h
 split at h
 ·rename_i q hq
  exact ⟨false,by rw [hq];exact h⟩
 ·exact ⟨true,h⟩
theorem annE_ok {P:Program} {n:Nat} {x:Bool} {all:List Oper} {pre eff:List Nat} {AN:List (List Nat)} {t:Ord} {br:Bool} (h:annE P n x all=.ok pre eff AN t br):∃ Gs,(gokB n all eff AN Gs && treeB all.length eff AN (pre.foldr Ord.op t))=true∧all.all ndef=true:=by
 simp only [annE,fNss_eq,fNs_eq,fOrd_eq,fN_eq,fPs_eq] at h
 generalize mM all 0 0=M at h
 generalize orL (bif x then effX P M (e0M P all 0 0) all.length all 0 else effM P M (e0M P all 0 0) all 0) (all.length - 1)=eff' at h
 have hE:∀ j,tb (mkM eff' 0) j=memB eff' j:=fun j=>by rw [mkM_ok,tb_zero,Bool.false_or]
 have h0:∀ j,tb 0 j=memB [] j:=fun j=>by rw [tb_zero];rfl
 generalize preM M (mkM eff' 0) all.length []=pre' at h
 generalize treeM M (mkM eff' 0) (all.length+1) _ _=t' at h
 cases hg:(gokM n M (mkM eff' 0) all (dL all 0) eff' (ANM M all.length all.length []) && (covM eff' (mkM eff' 0) (ANM M all.length all.length []) (pre'.foldr Ord.op t') 0 && okMv all.length eff' (mkM eff' 0) (ANM M all.length all.length []) (pre'.foldr Ord.op t') 0) && all.all ndef) with
 | false=>simp only [hg,cond_false,reduceCtorEq] at h
 | true=>
  simp only [hg,cond_true] at h
  rw [Bool.and_eq_true,Bool.and_eq_true] at hg
  obtain ⟨⟨g1,g2⟩,g3⟩:=hg
  rw [covM_eq hE h0,okMv_eq hE _ h0] at g2
  have g4:=gokM_ok hE g1
  split at h <;> simp only [DA.ok.injEq] at h <;> obtain ⟨rfl,rfl,rfl,rfl,_⟩:=h <;> exact ⟨_,by rw [Bool.and_eq_true];exact ⟨g4,g2⟩,g3⟩
section
variable {P:Program} {ok:Nat→Bool} {glob:Nat→Nat→Option AV} {B:Nat} {ctx:List (Nat × LI)} {lk:List Nat} {callF:List Nat→Nat→List AV→St→Option (AV × St)} {n:Nat} {all:List Oper} {eff:List Nat} {AN:List (List Nat)}
theorem SR.nx {σ:Sg} {s:St} {w:World} (h:SR glob B ctx lk σ s w) (x:Nat):SR glob B ctx lk σ ⟨s.h,x⟩ w:=⟨h.srt,h.obj,h.dom,h.rng,h.inj,h.gl,h.lk,h.big⟩
theorem gd_chain {M:Nat→Nat→Prop} {Stt:Nat→Addr→Value→Prop} {w0:World} {K:Env→World→Prop} {i:Nat} {r:Ord} {kn kn':List (Nat × Option Bool)} {σ:Sg} {e:T} {ē:Env} {w:World} {o:Oper} {b:Bool} (hio:all[i]?=some o) (hE:ER n σ e ē) (hg:gdE all o i kn e=some (b,kn'))
  (hx:b=true→cexec P ok eff M Stt w0 o i (ev ē) (fun v w'=>chainT P ok n all eff M Stt w0 K r kn' (updO n ē o.dst v) w') w) (hs:b=false→chainT P ok n all eff M Stt w0 K r kn' (updO n ē o.dst undef) w):chainT P ok n all eff M Stt w0 K (.op i r) kn ē w:=by
 unfold chainT
 rw [hio]
 unfold gdE at hg
 cases hgd:o.guard with
 | none=>
  simp only [hgd,Option.some.injEq,Prod.mk.injEq] at hg ⊢
  obtain ⟨rfl,rfl⟩:=hg
  exact hx rfl
 | some gw=>
  obtain ⟨j,want⟩:=gw
  simp only [hgd] at hg ⊢
  cases hlk:lookK kn j with
  | some ob=>
   cases ob with
   | some c=>
    simp only [hlk] at hg ⊢
    cases hb:sameB c want with
    | true=>
     simp only [hb,cond_true,Option.some.injEq,Prod.mk.injEq] at hg ⊢
     obtain ⟨rfl,rfl⟩:=hg
     exact hx rfl
    | false=>
     simp only [hb,cond_false,Option.some.injEq,Prod.mk.injEq] at hg ⊢
     obtain ⟨rfl,rfl⟩:=hg
     exact hs rfl
   | none=>
    simp only [hlk,Option.some.injEq,Prod.mk.injEq] at hg ⊢
    obtain ⟨rfl,rfl⟩:=hg
    exact hs rfl
  | none=>
   simp only [hlk] at hg ⊢
   cases hd:dstAt all j with
   | none=>simp only [hd,reduceCtorEq] at hg
   | some d=>
    simp only [hd] at hg ⊢
    cases hc2:clash o.dst ((j,none) :: kn) all with
    | true=>simp only [hc2,cond_true,reduceCtorEq] at hg
    | false=>
     simp only [hc2,cond_false] at hg
     split at hg
     ·rename_i c hb
      have hv:=bool_of hE hb
      rw [hv]
      cases c with
      | true=>
       show (bif want then _ else _)
       rw [upd_self hv]
       cases want with
       | true=>
        simp only [sameB,cond_true,Option.some.injEq,Prod.mk.injEq] at hg ⊢
        obtain ⟨rfl,rfl⟩:=hg
        exact hx rfl
       | false=>
        simp only [sameB,cond_false,Option.some.injEq,Prod.mk.injEq] at hg ⊢
        obtain ⟨rfl,rfl⟩:=hg
        exact hs rfl
      | false=>
       show (bif want then _ else _)
       rw [upd_self hv]
       cases want with
       | true=>
        simp only [sameB,cond_true,cond_false,Option.some.injEq,Prod.mk.injEq] at hg ⊢
        obtain ⟨rfl,rfl⟩:=hg
        exact hs rfl
       | false=>
        simp only [sameB,cond_true,cond_false,Option.some.injEq,Prod.mk.injEq] at hg ⊢
        obtain ⟨rfl,rfl⟩:=hg
        exact hx rfl
     ·cases hg
theorem nd_pure {o:Oper} {h:HP} {A:Operand→AV} {ρ:Operand→Value} {σ:Sg} {w:World} {Stt:Addr→Value→Prop} {i:Nat} {k:Value→Prop} {a:AV} {L:List Nat} (e:ndE P glob h o A=some (a,L)) (hl:isLd o=false) (hi:memB eff i=false) (hA:∀ x,rel σ (A x) (ρ x)) (hρ:∀ v,ρ (.const v)=v) (hk:∀ v,rel σ a v→k v) :
  wexec P ok eff (fun _ _ _=>True) Stt w o i ρ k:=by
 obtain ⟨dst,op,type,pos,after,guard⟩:=o
 unfold wexec
 rw [hi]
 simp only [cond_false]
 have pu:(bif pureOp P ⟨dst,op,type,pos,after,guard⟩ then (pureE P ⟨dst,op,type,pos,after,guard⟩ A).bind fun a=>some (a,[]) else none)=some (a,L)→bif pureOp P ⟨dst,op,type,pos,after,guard⟩ then opD P ok ⟨dst,op,type,pos,after,guard⟩ ρ (fun v _=>k v) w else False:=fun e=>by
  cases hp:pureOp P ⟨dst,op,type,pos,after,guard⟩ with
  | false=>simp only [hp,cond_false,reduceCtorEq] at e
  | true=>
   simp only [hp,cond_true,Option.bind_eq_some_iff,Option.some.injEq,Prod.mk.injEq] at e ⊢
   obtain ⟨a',e1,rfl,_⟩:=e
   exact pureE_ok e1 hA hρ hk
 cases op with
 | load t x=>cases hl
 | binOp op t x y yt=>
  simp only [ndE,Option.bind_eq_some_iff,Option.some.injEq,Prod.mk.injEq] at e ⊢
  obtain ⟨a',e1,rfl,_⟩:=e
  rcases bin_all e1 (hA x) (hA y) (fun c e=>by rw [e];exact hρ c) with ⟨h1,h2⟩ | ⟨h1,⟨r,h2,h3⟩,_⟩
  ·rw [h1];exact h2 _ _ hk
  ·rw [h1];exact ⟨r,h3,hk r h2⟩
 | _=>exact pu e
theorem nd_load {o:Oper} {A:Operand→AV} {ρ:Operand→Value} {σ:Sg} {s:St} {w:World} {M:Nat→Nat→Prop} {i:Nat} {k:Value→Prop} {a:AV} {L:List Nat} {lks:Nat→List Nat} (hS:SR glob B ctx lk σ s w) (e:ndE P glob s.h o A=some (a,L)) (hl:isLd o=true) (hi:memB eff i=false) (hA:∀ x,rel σ (A x) (ρ x)) (hM:∀ j b,M j b→lkM B (lks j) σ b) (hL:∀ x ∈ L,∀ j ∈ effI eff AN i,x ∈ lks j) (hk:∀ v,rel σ a v→k v) :
  wexec P ok eff (fun _ _ _=>True) (StI eff AN M w i) w o i ρ k:=by
 obtain ⟨dst,op,type,pos,after,guard⟩:=o
 cases op with
 | load t x=>
  simp only [ndE,Option.bind_eq_some_iff,Option.some.injEq,Prod.mk.injEq] at e
  obtain ⟨a',e1,rfl,rfl⟩:=e
  obtain ⟨ad,e2,e3,e4⟩:=load_ok hS e1 (hA x)
  have nm:∀ j ∈ effI eff AN i,¬ M j ad.block:=fun j hj hm=>by
   have hm:=hM j _ hm
   rcases e3 with ⟨y,b,C,y1,y2,y3,_⟩ | e3
   ·subst y3
    exact hm.2 y (hL y (by rw [y1];exact List.mem_singleton.2 rfl) j hj) C y2
   ·have:=hm.1;omega
  unfold wexec
  rw [hi]
  simp only [cond_false]
  rw [e2]
  rcases e4 with ⟨q,r,f1,f2,f3⟩ | ⟨q,vs,f1,f2,f3,f4⟩
  ·rw [f1];exact ⟨ad,r,rfl,⟨f2,nm⟩,hk r f3⟩
  ·rw [f1];exact ⟨ad,vs,rfl,f2,fun j u hu=>⟨f3 j u hu,fun j' hj'=>by rw [add_block];exact nm j' hj'⟩,hk _ f4⟩
 | _=>cases hl
theorem nd_nil {o:Oper} {h:HP} {A:Operand→AV} {a:AV} {L:List Nat} (h1:ndE P glob h o A=some (a,L)) (hl:isLd o=false):L=[]:=by
 obtain ⟨dst,op,type,pos,after,guard⟩:=o
 have pu:(bif pureOp P ⟨dst,op,type,pos,after,guard⟩ then (pureE P ⟨dst,op,type,pos,after,guard⟩ A).bind fun a=>some (a,[]) else none)=some (a,L)→L=[]:=fun e=>by
  cases hp:pureOp P ⟨dst,op,type,pos,after,guard⟩ with
  | false=>simp only [hp,cond_false,reduceCtorEq] at e
  | true=>
   simp only [hp,cond_true,Option.bind_eq_some_iff,Option.some.injEq,Prod.mk.injEq] at e
   obtain ⟨_,_,_,h⟩:=e
   exact h.symm
 cases op with
 | load t x=>cases hl
 | binOp op t x y yt=>
  simp only [ndE,Option.bind_eq_some_iff,Option.some.injEq,Prod.mk.injEq] at h1
  obtain ⟨_,_,_,h⟩:=h1
  exact h.symm
 | _=>exact pu h1
theorem pre_sub {h:HP} {kn':List (Nat × Option Bool)} {e':T} {L':List (Nat × Nat)}:∀ (l:List Nat) (kn:List (Nat × Option Bool)) (e:T) (L:List (Nat × Nat)),preE P glob h all eff l kn e L=some (kn',e',L')→∀ x ∈ L,x ∈ L':=by
 intro l
 induction l with
 | nil=>
  intro kn e L h x hx
  simp only [preE,Option.some.injEq,Prod.mk.injEq] at h
  rw [←h.2.2];exact hx
 | cons i r ih=>
  intro kn e L h x hx
  simp only [preE,lsetF_eq] at h
  cases hi:memB eff i with
  | true=>simp only [hi,cond_true,reduceCtorEq] at h
  | false=>
   simp only [hi,cond_false] at h
   split at h
   ·cases h
   ·simp only [Option.bind_eq_some_iff] at h
    obtain ⟨⟨g1,g2⟩,_,h⟩:=h
    cases g1 with
    | true=>
     simp only [cond_true,Option.bind_eq_some_iff] at h
     obtain ⟨⟨a,La⟩,_,h2⟩:=h
     exact ih _ _ _ h2 x (List.mem_append_right _ hx)
    | false=>exact ih _ _ _ h x hx
theorem pre_ok {σ:Sg} {s:St} {w:World} {M:Nat→Nat→Prop} {K:Env→World→Prop} {t:Ord} {lks:Nat→List Nat} (hS:SR glob B ctx lk σ s w) (hM:∀ j b,M j b→lkM B (lks j) σ b) {kn':List (Nat × Option Bool)} {e':T} {L':List (Nat × Nat)} (hLf:∀ p ∈ L',∀ j ∈ effI eff AN p.1,p.2 ∈ lks j)
  (hK:∀ ē',ER n σ e' ē'→chainT P ok n all eff M (StI eff AN M w) w K t kn' ē' w):∀ (l:List Nat) (kn:List (Nat × Option Bool)) (e:T) (L:List (Nat × Nat)) (ē:Env),
  preE P glob s.h all eff l kn e L=some (kn',e',L')→ER n σ e ē→chainT P ok n all eff M (StI eff AN M w) w K (l.foldr Ord.op t) kn ē w:=by
 intro l
 induction l with
 | nil=>
  intro kn e L ē h hE
  simp only [preE,Option.some.injEq,Prod.mk.injEq] at h
  obtain ⟨rfl,rfl,rfl⟩:=h
  exact hK ē hE
 | cons i r ih=>
  intro kn e L ē h hE
  simp only [preE,lsetF_eq] at h
  cases hi:memB eff i with
  | true=>simp only [hi,cond_true,reduceCtorEq] at h
  | false=>
   simp only [hi,cond_false] at h
   split at h
   ·cases h
   ·rename_i o hio
    simp only [Option.bind_eq_some_iff] at h
    obtain ⟨⟨g1,g2⟩,hg,h⟩:=h
    cases g1 with
    | true=>
     simp only [cond_true,Option.bind_eq_some_iff] at h
     obtain ⟨⟨a,La⟩,h1,h2⟩:=h
     refine gd_chain hio hE hg (fun _=>?_) fun h=>by cases h
     unfold cexec
     rw [hi]
     simp only [cond_false]
     cases hl:isLd o with
     | false=>
      have hLa:=nd_nil h1 hl
      subst hLa
      exact nd_pure h1 hl hi hE.ev (fun _=>rfl) fun v hv=>ih _ _ _ _ h2 (hE.setO o.dst hv)
     | true=>
      exact nd_load hS h1 hl hi hE.ev hM (fun x hx=>hLf (i,x) (pre_sub _ _ _ _ h2 _ (List.mem_append_left _ (List.mem_map.2 ⟨x,hx,rfl⟩)))) fun v hv=>ih _ _ _ _ h2 (hE.setO o.dst hv)
    | false=>
     simp only [cond_false] at h
     exact gd_chain hio hE hg (fun h=>by cases h) fun _=>ih _ _ _ _ h (hE.setO o.dst undef_rel)
theorem SR.more {σ:Sg} {s:St} {w:World} (h:SR glob B ctx lk σ s w) {L:List Nat} (hL:L.all (liveE s.h)=true):SR glob B ctx (L++lk) σ s w:=
 ⟨h.srt,h.obj,h.dom,h.rng,h.inj,h.gl,fun x hx=>by
  rcases List.mem_append.1 hx with hx | hx
  ·have:=List.all_eq_true.1 hL x hx
   unfold liveE at this
   split at this
   ·cases this
   ·rename_i o hne hg;exact ⟨o,hg,fun e=>hne e⟩
   ·cases this
  ·exact h.lk x hx,h.big⟩
theorem ch_ok {callF:List Nat→Nat→List AV→St→Option (AV × St)} {ex:Nat→Oper→T→St→Option (AV × St)} {bs:Nat→Nat→Nat} {M:Nat→Nat→Prop} {Stt:Nat→Addr→Value→Prop} {w0:World} {K:Env→World→Prop} {σ0:Sg} {L:List (Nat × Nat)} (hC:∀ lk,CallOk P ok glob B ctx lk (callF lk)) (hex:ex=fun j o e s=>bif (lksE AN [] L j).all (liveE s.h) then effE P ok glob (lksE AN lk L j) (callF (lksE AN lk L j)) (fun _ _ _=>none) o (evA e) s else none) (hM:∀ i b,lkM B (lksE AN lk L i) σ0 b→M i b) :
  ∀ (t:Ord) {e':T} {s':St} (kn:List (Nat × Option Bool)) (e:T) (s:St) (σ:Sg) (ē:Env) (w:World),chE P ex bs all eff t kn e s=some (e',s')→SR glob B ctx lk σ s w→Le σ0 σ→ER n σ e ē→
   (∀ σ' w' ē',Ext B lk σ w σ' w'→SR glob B ctx lk σ' s' w'→ER n σ' e' ē'→K ē' w')→chainT P ok n all eff M Stt w0 K t kn ē w:=by
 intro t
 induction t with
 | nil=>
  intro e' s' kn e s σ ē w h hS hle hE hK
  simp only [chE,Option.some.injEq,Prod.mk.injEq] at h
  obtain ⟨rfl,rfl⟩:=h
  exact hK σ w ē Ext.refl hS hE
 | br a b iha ihb=>
  intro e' s' kn e s σ ē w h hS hle hE hK
  simp only [chE,Option.bind_eq_some_iff] at h
  obtain ⟨p,h1,q,h2,h3⟩:=h
  cases hb:(beqT p.1 q.1 && beqH p.2.h q.2.h) with
  | false=>simp only [hb,cond_false,reduceCtorEq] at h3
  | true=>
   simp only [hb,cond_true,Option.some.injEq] at h3
   subst h3
   simp only [Bool.and_eq_true] at hb
   have e1:=beqT_eq hb.1
   have e2:=beqH_eq hb.2
   refine ⟨iha kn e s σ ē w h1 hS hle hE hK,?_⟩
   obtain ⟨q1,q2,q3⟩:=q
   simp only at e1 e2
   subst e1
   subst e2
   refine ihb kn e s σ ē w h2 hS hle hE fun σ' w' ē' x1 x2 x3=>hK σ' w' ē' x1 (x2.nx _) x3
 | op i r ih=>
  intro e' s' kn e s σ ē w h hS hle hE hK
  simp only [chE,lsetF_eq,fN_eq] at h
  split at h
  ·cases h
  ·rename_i o hio
   simp only [Option.bind_eq_some_iff] at h
   obtain ⟨⟨g1,g2⟩,hg,h⟩:=h
   cases g1 with
   | true=>
    simp only [cond_true] at h
    refine gd_chain hio hE hg (fun _=>?_) fun h=>by cases h
    unfold cexec
    cases hi:memB eff i with
    | true=>
     simp only [hi,cond_true,Option.bind_eq_some_iff] at h ⊢
     obtain ⟨⟨a,s1⟩,h1,h2⟩:=h
     rw [hex] at h1
     simp only at h1
     cases hlv:(lksE AN [] L i).all (liveE s.h) with
     | false=>simp only [hlv,cond_false,reduceCtorEq] at h1
     | true=>
      simp only [hlv,cond_true] at h1
      have hS1:SR glob B ctx (lksE AN lk L i) σ s w:=by
       have:=hS.more hlv
       simpa [lksE] using this
      have sub:∀ x ∈ lk,x ∈ lksE AN lk L i:=fun x hx=>List.mem_append_right _ hx
      have hY:YieldOk P glob B ctx (lksE AN lk L i) fun _ _ _=>none:=fun l args s a s' σ w vs b C K h=>by cases h
      rcases effE_ok (K:=fun v w'=>Mod (M i) w w'∧chainT P ok n all eff M Stt w0 K r g2 (updO n ē o.dst v) w') (hC _) hY (hS1.nx (bs i s.nx)) h1 hE.ev (fun _=>rfl) (fun _=>rfl) (fun σ' w' v x1 x2 x3=>⟨x1.mod.mono fun b _ hb=>hM i b ⟨hb.1,fun x hx C hC=>hb.2 x hx C (hle _ _ hC)⟩,ih g2 _ s1 σ' _ w' h2 (x2.fewer sub) (hle.trans x1.le) ((hE.le x1.le).setO o.dst x3) fun σ'' w'' ē'' y1 y2 y3=>hK σ'' w'' ē'' ((x1.fewer sub).trans y1) y2 y3⟩) with h | ⟨_,_,_,_,_,_,_,_,_,_,z,_⟩
      ·exact h
      ·cases z
    | false=>
     simp only [hi,cond_false] at h ⊢
     cases hl:isLd o with
     | true=>simp only [hl,cond_true,reduceCtorEq] at h
     | false=>
      simp only [hl,cond_false,Option.bind_eq_some_iff] at h
      obtain ⟨⟨a,La⟩,h1,h2⟩:=h
      exact nd_pure h1 hl hi hE.ev (fun _=>rfl) fun v hv=>ih g2 _ s σ _ w h2 hS hle (hE.setO o.dst hv) hK
   | false=>
    simp only [cond_false] at h
    exact gd_chain hio hE hg (fun h=>by cases h) fun _=>ih g2 _ s σ _ w h hS hle (hE.setO o.dst undef_rel) hK
noncomputable def regE (P:Program) (ok:Nat→Bool) (glob:Nat→Nat→Option AV) (callF:List Nat→Nat→Nat→List AV→St→Option (AV × St)) (yieldF:Nat→List AV→St→Option (AV × St)) (W n:Nat) (lk:List Nat) (ops:List Oper) (draw:Bool) (e:T) (s:St):Option (T × St):=
 bif draw then drawE P glob (fun lk' o e s=>effE P ok glob lk' (callF lk' (W / 1048576)) (fun _ _ _=>none) o (evA e) s) W lk n ops e s
 else opsE (fun o e s=>effE P ok glob lk (callF lk W) yieldF o (evA e) s) ops ops 0 [] e s
theorem reg_ok {callF:List Nat→Nat→Nat→List AV→St→Option (AV × St)} {yieldF:Nat→List AV→St→Option (AV × St)} {W:Nat} (hok:GoodFns P ok) (hm:P.follows .mixedOrders=true) (hC:∀ lk W,CallOk P ok glob B ctx lk (callF lk W)) (hY:YieldOk P glob B ctx lk yieldF) {id:Nat} {ops:Array Oper} {draw:Bool} {e e':T} {s s':St} {σ:Sg} {ē:Env} {w:World} {ds:List Deferred} {ro:Option Nat} {a:Act} {Q:Exit→Act→World→Prop}
  (h:regE P ok glob callF yieldF W n lk ops.toList draw e s=some (e',s')) (hS:SR glob B ctx lk σ s w) (hE:ER n σ e ē) (hF:Fr ds n ē a)
  (hQ:∀ σ' w' ē' a',Ext B lk σ w σ' w'→SR glob B ctx lk σ' s' w'→ER n σ' e' ē'→Fr ds n ē' a'→Q .normal a' w'):(Code.region id ops draw).wpIn (Wd ro) 0 P Q a w:=by
 let Q':EQ:=fun ex e2 w2=>ex=.normal∧∃ σ',Ext B lk σ w σ' w2∧SR glob B ctx lk σ' s' w2∧ER n σ' e' e2
 have fin:∀ (an:Ann),(ro=none∨rdB (.region id ops draw)=true)→D P ok n (.region id ops draw) an Q' ē w→(Code.region id ops draw).wpIn (Wd ro) 0 P Q a w:=fun an hr hD=>by
  refine wpIn_mono (D_sound (m:=0) hok hm (.region id ops draw) an Q' ē w a hr hF hD) ?_
  rintro ex a' w' ⟨e2,f1,_,rfl,σ',f2,f3,f4⟩
  exact hQ σ' w' e2 a' f2 f3 f4 f1
 cases draw with
 | false=>
  simp only [regE,cond_false] at h
  refine fin .nil (.inr rfl) ?_
  simp only [D]
  exact opsE_ok (hC lk W) hY ops.toList 0 [] e s σ ē w h hS hE fun σ' w' ē' x1 x2 x3=>⟨rfl,σ',x1,x2,x3⟩
 | true=>
  simp only [regE,cond_true] at h
  obtain ⟨x,h⟩:=drawE_1 h
  unfold drawE1 at h
  split at h
  ·cases h
  ·rename_i pre eff AN t br han
   obtain ⟨Gs,hg,hnd⟩:=annE_ok han
   simp only [Option.bind_eq_some_iff] at h
   obtain ⟨⟨kn1,e1,L⟩,hp,h⟩:=h
   refine fin (.dt eff AN Gs (pre.foldr Ord.op t)) (.inr ?_) ?_
   ·simp only [rdB,Bool.not_true,Bool.false_or]
    exact hnd
   ·simp only [D]
    rw [hg]
    simp only [cond_true]
    have gd:Grow w w.drew:=Mod.drew _ _
    have hSd:=hS.grow gd
    refine ⟨fun j=>lkM B (lksE AN lk L j) σ,?_⟩
    refine pre_ok (lks:=lksE AN lk L) hSd (fun j b hb=>hb) (fun p hp j hj=>?_) (fun ē1 hE1=>?_) pre [] e [] ē hp hE
    ·have hj2:=(List.mem_filter.1 hj).2
     exact List.mem_append_left _ (List.mem_map.2 ⟨p,List.mem_filter.2 ⟨hp,hj2⟩,rfl⟩)
    have post:∀ {s1:St} {bs:Nat→Nat→Nat} {e2:T},chE P (fun j o e s=>bif (lksE AN [] L j).all (liveE s.h) then effE P ok glob (lksE AN lk L j) (callF (lksE AN lk L j) (W / 1048576)) (fun _ _ _=>none) o (evA e) s else none) bs ops.toList eff t kn1 e1 s=some (e2,s1)→e2=e'→s1.h=s'.h→chainT P ok n ops.toList eff (fun j=>lkM B (lksE AN lk L j) σ) (StI eff AN (fun j=>lkM B (lksE AN lk L j) σ) w.drew) w.drew (fun e' w'=>Q' .normal e' w') t kn1 ē1 w.drew:=fun {s1 bs e2} hc he hh=>by
     subst he
     refine ch_ok (callF:=fun lk=>callF lk (W / 1048576)) (σ0:=σ) (fun lk=>hC lk _) rfl (fun _ _ h=>h) t kn1 e1 s σ ē1 w.drew hc hSd (Le.refl _) hE1 fun σ' w' ē' x1 x2 x3=>?_
     refine ⟨rfl,σ',(Ext.grow gd).trans x1,?_,x3⟩
     have:=x2.nx s'.nx
     rw [hh] at this
     exact this
    cases br with
    | true=>
     simp only [cond_true,fN_eq,Option.bind_eq_some_iff,Option.some.injEq,Prod.mk.injEq] at h
     obtain ⟨⟨e2,s2⟩,hc,rfl,rfl⟩:=h
     exact post hc rfl rfl
    | false=>
     simp only [cond_false] at h
     exact post h rfl rfl
end
end Go.K

namespace Go.K
open Go

noncomputable section
def gK {R:Type}:Operand→Cl (T→(AV→Option R)→Option R)
 | .tmp t=>bif Nat.blt t 4000 then gP (pth t) else .mk fun _ k=>k (.tup [])
 | .const v=>fA (ofV v) fun a=>.mk fun _ k=>k a
 | .global g=>.mk fun _ k=>k (.gp g 0)
 | .func f=>.mk fun _ k=>k (.f f [] [])
theorem gK_eq {R:Type} (x:Operand) (e:T) (k:AV→Option R):(gK x).f e k=k (evA e x):=by
 cases x with
 | tmp t=>
  simp only [gK,evA,tget]
  cases Nat.blt t 4000 with
  | true=>exact gP_eq (pth t) e k
  | false=>rfl
 | const v=>simp only [gK,fA_eq];rfl
 | global g=>rfl
 | func f=>rfl
def gKs {R:Type}:List Operand→Cl (T→(List AV→Option R)→Option R)
 | []=>.mk fun _ k=>k []
 | x :: l=>match gK x,gKs l with
  | .mk f,.mk g=>.mk fun e k=>f e fun a=>g e fun l=>k (a :: l)
theorem gKs_eq {R:Type}:∀ (l:List Operand) (e:T) (k:List AV→Option R),(gKs l).f e k=k (l.map (evA e))
 | [],_,_=>rfl
 | x :: l,e,k=>by
  have h1:=gK_eq (R:=R) x e
  have h2:=gKs_eq (R:=R) l e
  simp only [gKs]
  generalize gK x=a at h1
  generalize gKs l=b at h2
  obtain ⟨f⟩:=a
  obtain ⟨g⟩:=b
  simp only [Cl.f] at h1 h2 ⊢
  rw [h1,h2]
  rfl
def nC {R:Type}:Nat→Cl (List AV→(AV→Option R)→Option R)
 | 0=>.mk fun l k=>List.rec (motive:=fun _=>Option R) none (fun a _ _=>k a) l
 | n+1=>match nC n with
  | .mk f=>.mk fun l k=>List.rec (motive:=fun _=>Option R) none (fun _ r _=>f r k) l
theorem nC_eq {R:Type}:∀ (n:Nat) (l:List AV) (k:AV→Option R),(nC n).f l k=(l[n]?).bind k
 | 0,[],_=>rfl
 | 0,_ :: _,_=>rfl
 | n+1,l,k=>by
  have h:=nC_eq (R:=R) n
  simp only [nC]
  generalize nC n=a at h
  obtain ⟨f⟩:=a
  cases l with
  | nil=>rfl
  | cons a l=>rw [List.getElem?_cons_succ];exact h l k
def nthK {R:Type} (l:List AV) (n:Nat) (k:AV→Option R):Option R:=match nC (R:=R) n with | .mk f=>f l k
theorem nthK_eq {R:Type} (l:List AV) (n:Nat) (k:AV→Option R):nthK l n k=(l[n]?).bind k:=by
 have h:=nC_eq n l k
 unfold nthK
 generalize nC (R:=R) n=a at h
 obtain ⟨f⟩:=a
 exact h
noncomputable def hgK {R:Type} (h:HP) (x:Nat) (k:AO→Option R):Option R:=HP.rec (motive:=fun _=>Option R) none (fun _ a o _ il ir=>Bool.rec (motive:=fun _=>Option R) il (Bool.rec (motive:=fun _=>Option R) ir (k o) (Nat.beq a x)) (Nat.ble a x)) h
theorem hgK_eq {R:Type} (x:Nat) (k:AO→Option R):∀ h:HP,hgK h x k=(hget h x).bind k
 | .nil=>rfl
 | .node l a o r=>by
  have h1:=hgK_eq (R:=R) x k l
  have h2:=hgK_eq (R:=R) x k r
  show Bool.rec (motive:=fun _=>Option R) (hgK l x k) (Bool.rec (motive:=fun _=>Option R) (hgK r x k) (k o) (Nat.beq a x)) (Nat.ble a x)=_
  rw [h1,h2,hget_node,ble_d,beq_d]
  by_cases h:a≤x
  ·rw [decide_eq_true h,if_neg (by omega)]
   by_cases e:a=x
   ·rw [decide_eq_true e,if_pos e.symm];rfl
   ·rw [decide_eq_false e,if_neg (fun h=>e h.symm)]
  ·rw [decide_eq_false h,if_pos (by omega)]
noncomputable def cellK {R:Type} (h:HP) (x:Nat) (k:List AV→Nat→Option R):Option R:=hgK h x fun o=>match o with | .cells l n=>k l n | _=>none
theorem cellK_eq {R:Type} (h:HP) (x:Nat) (k:List AV→Nat→Option R):cellK h x k=(cellsOf h x).bind fun c=>k c.1 c.2:=by
 unfold cellK cellsOf
 rw [hgK_eq]
 cases hget h x with
 | none=>rfl
 | some o=>cases o <;> rfl
noncomputable def fOff (P:Program) (s:TypeId) (f:Nat):Option Nat:=
 match unE P s with
 | some (.struct fs)=>match fs.toList[f]? with
  | some f=>match inE P f.type with
   | some i=>bif Nat.beq i.size 0 then none else some f.offset
   | none=>none
  | none=>none
 | _=>none
def ltB (a b:Int):Bool:=match a,b with
 | .ofNat m,.ofNat n=>Nat.blt m n
 | .ofNat _,.negSucc _=>false
 | .negSucc _,.ofNat _=>true
 | .negSucc m,.negSucc n=>Nat.blt n m
theorem ltB_eq (a b:Int):ltB a b=decide (a < b):=by
 have dec:∀ (m n:Nat) (p:Prop) [Decidable p],(m < n↔p)→Nat.blt m n=decide p:=fun m n p _ h=>by
  by_cases k:m < n
  ·rw [blt_true k,decide_eq_true (h.1 k)]
  ·rw [blt_false k,decide_eq_false (fun e=>k (h.2 e))]
 cases a <;> cases b <;> simp only [ltB]
 ·exact dec _ _ _ (by simp)
 ·symm;rw [decide_eq_false_iff_not,Int.negSucc_eq,Int.ofNat_eq_natCast];omega
 ·symm;rw [decide_eq_true_eq,Int.negSucc_eq,Int.ofNat_eq_natCast];omega
 ·exact dec _ _ _ (by omega)
def eqB (a b:Int):Bool:=beqZ a b
theorem eqB_eq (a b:Int):eqB a b=decide (a=b):=by
 by_cases h:a=b
 ·subst h
  rw [decide_eq_true rfl]
  cases a <;> simp [eqB,beqZ]
 ·rw [decide_eq_false h]
  cases hb:eqB a b with
  | false=>rfl
  | true=>exact (h (beqZ_eq hb)).elim
def bK {R:Type} (b:Bool) (k:AV→Option R):Option R:=match b with | true=>k (.b true) | false=>k (.b false)
theorem bK_eq {R:Type} (b:Bool) (k:AV→Option R):bK b k=k (.b b):=by cases b <;> rfl
def iK {R:Type} (q:IntKind):BinOp→Option (Int→Int→(AV→Option R)→Option R)
 | .add=>some fun a b k=>fZ (q.wrap (a+b)) fun z=>k (.i q z)
 | .sub=>some fun a b k=>fZ (q.wrap (a - b)) fun z=>k (.i q z)
 | .mul=>some fun a b k=>fZ (q.wrap (a * b)) fun z=>k (.i q z)
 | .lss=>some fun a b k=>bK (ltB a b) k
 | .leq=>some fun a b k=>bK (!ltB b a) k
 | .gtr=>some fun a b k=>bK (ltB b a) k
 | .geq=>some fun a b k=>bK (!ltB a b) k
 | .eql=>some fun a b k=>bK (eqB a b) k
 | .neq=>some fun a b k=>bK (!eqB a b) k
 | _=>none
theorem iK_eq {R:Type} {q:IntKind} {op:BinOp} {f:Int→Int→(AV→Option R)→Option R} (h:iK q op=some f) (a b:Int) (k:AV→Option R):f a b k=(intE q op a b).bind k:=by
 have ile:∀ a b:Int,(!ltB b a)=decide (a≤b):=fun a b=>by
  rw [ltB_eq]
  by_cases h:a≤b
  ·rw [decide_eq_true h,decide_eq_false (by omega)];rfl
  ·rw [decide_eq_false h,decide_eq_true (by omega)];rfl
 cases op <;> simp only [iK,Option.some.injEq,reduceCtorEq] at h <;> subst h <;> simp only [intE,Option.bind_some,fZ_eq,bK_eq,ile] <;> try simp only [ltB_eq,eqB_eq]
abbrev CF:=Nat→List AV→St→Option (AV × St)
noncomputable def opS {R:Type} (P:Program) (ok:Nat→Bool) (glob:Nat→Nat→Option AV) (o:Oper):Cl (List Nat→CF→CF→T→St→(AV→St→Option R)→Option R):=
 match o.op with
 | .move x=>match gK x with | .mk f=>.mk fun _ _ _ e s k=>f e fun a=>k a s
 | .assign x=>match gK x with | .mk f=>.mk fun _ _ _ e s k=>f e fun a=>k a s
 | .pick c x y=>match gK c,gK x,gK y with
  | .mk f,.mk g,.mk h=>.mk fun _ _ _ e s k=>f e fun a=>match a with | .b true=>g e fun a=>k a s | .b false=>h e fun a=>k a s | _=>none
 | .nilCheck x=>match gK x with | .mk f=>.mk fun _ _ _ e s k=>f e fun a=>match a with | .p y o=>k (.p y o) s | .gp y o=>k (.gp y o) s | _=>none
 | .extract t i=>match gK t,nC (R:=R) i with | .mk f,.mk g=>.mk fun _ _ _ e s k=>f e fun a=>match a with | .tup l=>g l fun a=>k a s | _=>none
 | .fieldAddr t x f=>match fOff P t f,gK x with
  | some d,.mk f=>fN d fun d=>.mk fun _ _ _ e s k=>f e fun a=>match a with
   | .p y o=>fN (o+d) fun o=>k (.p y o) s
   | .gp y o=>fN (o+d) fun o=>k (.gp y o) s
   | _=>none
  | none,_=>.mk fun _ _ _ _ _ _=>none
 | .load t x=>match agE P t,gK x with
  | some (false,_),.mk f=>.mk fun _ _ _ e s k=>f e fun a=>match a with
   | .p y o=>cellK s.h y fun l _=>nthK l o fun a=>k a s
   | .gp g o=>(glob g o).bind fun a=>fA a fun a=>k a s
   | _=>none
  | some (true,n),.mk f=>.mk fun _ _ _ e s k=>f e fun a=>match a with
   | .p y o=>cellK s.h y fun l _=>bif Nat.ble (o+n) l.length then fS ((l.drop o).take n) fun l=>k (.agg l) s else none
   | _=>none
  | none,_=>.mk fun _ _ _ _ _ _=>none
 | .store t x v=>match gK x,gK v with | .mk f,.mk g=>.mk fun lk _ _ e s k=>f e fun a=>g e fun b=>(storeE P lk s t a b).bind fun s=>k (.tup []) s
 | .binOp op t x y _=>match gK x,gK y with
  | .mk f,.mk g=>match unE P t with
   | some (.int q)=>match iK (R:=R) q op with
    | some h=>.mk fun _ _ _ e s k=>f e fun a=>g e fun b=>match a,b with
     | .i q1 m,.i q2 n=>bif beqI q1 q && beqI q2 q then h m n fun r=>k r s else none
     | _,_=>none
    | none=>.mk fun _ _ _ e s k=>f e fun a=>g e fun b=>(binE P op t x y a b).bind fun r=>fA r fun r=>k r s
   | _=>.mk fun _ _ _ e s k=>f e fun a=>g e fun b=>(binE P op t x y a b).bind fun r=>fA r fun r=>k r s
 | .call c=>match c.callee with
  | .value (.func g)=>bif ok g then (match gKs c.args.toList with | .mk f=>.mk fun _ cf _ e s k=>f e fun l=>(cf g l s).bind fun q=>match q with | (a,s)=>k a s) else .mk fun _ _ _ _ _ _=>none
  | _=>.mk fun lk cf yf e s k=>(effE P ok glob lk cf yf o (evA e) s).bind fun q=>fA q.1 fun a=>k a q.2
 | _=>.mk fun lk cf yf e s k=>(effE P ok glob lk cf yf o (evA e) s).bind fun q=>fA q.1 fun a=>k a q.2
theorem gK_mk {R:Type} {x:Operand} {f:T→(AV→Option R)→Option R} (h:gK x=.mk f) (e:T) (k:AV→Option R):f e k=k (evA e x):=by
 have:=gK_eq x e k
 rw [h] at this
 exact this
theorem opS_eq {R:Type} (P:Program) (ok:Nat→Bool) (glob:Nat→Nat→Option AV) (o:Oper) (lk:List Nat) (cf yf:CF) (e:T) (s:St) (k:AV→St→Option R):(opS P ok glob o).f lk cf yf e s k=(effE P ok glob lk cf yf o (evA e) s).bind fun q=>k q.1 q.2:=by
 have slow:(effE P ok glob lk cf yf o (evA e) s).bind (fun q=>fA q.1 fun a=>k a q.2)=(effE P ok glob lk cf yf o (evA e) s).bind fun q=>k q.1 q.2:=by simp only [fA_eq]
 have pu:effE P ok glob lk cf yf o (evA e) s=(pureE P o (evA e)).bind (fun a=>some (a,s))→(pureE P o (evA e)).bind (fun a=>k a s)=(effE P ok glob lk cf yf o (evA e) s).bind fun q=>k q.1 q.2:=fun h=>by
  rw [h]
  cases pureE P o (evA e) <;> rfl
 obtain ⟨dst,op,type,pos,after,guard⟩:=o
 cases op with
 | move x=>
  simp only [opS]
  rcases h:gK (R:=R) x with ⟨f⟩
  simp only [Cl.f,gK_mk h]
  exact pu rfl
 | assign x=>
  simp only [opS]
  rcases h:gK (R:=R) x with ⟨f⟩
  simp only [Cl.f,gK_mk h]
  exact pu rfl
 | pick c x y=>
  simp only [opS]
  rcases h1:gK (R:=R) c with ⟨f1⟩
  rcases h2:gK (R:=R) x with ⟨f2⟩
  rcases h3:gK (R:=R) y with ⟨f3⟩
  simp only [Cl.f,gK_mk h1,gK_mk h2,gK_mk h3]
  refine Eq.trans ?_ (pu rfl)
  simp only [pureE]
  cases evA e c <;> first | rfl | skip
  rename_i b;cases b <;> rfl
 | nilCheck x=>
  simp only [opS]
  rcases h:gK (R:=R) x with ⟨f⟩
  simp only [Cl.f,gK_mk h]
  refine Eq.trans ?_ (pu rfl)
  simp only [pureE]
  cases evA e x <;> rfl
 | extract t i=>
  simp only [opS]
  rcases h:gK (R:=R) t with ⟨f⟩
  have hn:=nC_eq (R:=R) i
  generalize nC (R:=R) i=c at hn
  obtain ⟨g⟩:=c
  simp only [Cl.f,gK_mk h] at hn ⊢
  refine Eq.trans ?_ (pu rfl)
  simp only [pureE]
  cases evA e t <;> first | rfl | exact hn _ _
 | fieldAddr t x f=>
  simp only [opS]
  refine Eq.trans ?_ (pu rfl)
  simp only [pureE]
  rcases h:gK (R:=R) x with ⟨g⟩
  unfold fOff
  cases unE P t with
  | none=>rfl
  | some d=>cases d with
   | struct fs=>
    simp only
    cases fs.toList[f]? with
    | none=>rfl
    | some fd=>
     simp only
     cases inE P fd.type with
     | none=>rfl
     | some i=>
      simp only
      cases Nat.beq i.size 0 with
      | true=>rfl
      | false=>
       simp only [cond_false,fN_eq,Cl.f,gK_mk h]
       cases evA e x <;> rfl
   | _=>rfl
 | load t x=>
  simp only [opS,effE,loadE]
  rcases h:gK (R:=R) x with ⟨g⟩
  cases agE P t with
  | none=>rfl
  | some bn=>
   obtain ⟨b,n⟩:=bn
   cases b with
   | false=>
    simp only [Cl.f,gK_mk h]
    cases evA e x with
    | p y o=>
     simp only [cellK_eq,nthK_eq]
     cases cellsOf s.h y with
     | none=>rfl
     | some c=>
      simp only [Option.bind_some]
      cases c.1[o]? <;> rfl
    | gp g o=>
     simp only [fA_eq]
     cases glob g o <;> rfl
    | _=>rfl
   | true=>
    simp only [Cl.f,gK_mk h]
    cases evA e x with
    | p y o=>
     simp only [cellK_eq,fL_eq,fS_eq]
     cases cellsOf s.h y with
     | none=>rfl
     | some c=>
      simp only [Option.bind_some]
      cases Nat.ble (o+n) c.1.length <;> rfl
    | _=>rfl
 | store t x v=>
  simp only [opS,effE]
  rcases h1:gK (R:=R) x with ⟨f1⟩
  rcases h2:gK (R:=R) v with ⟨f2⟩
  simp only [Cl.f,gK_mk h1,gK_mk h2]
  cases storeE P lk s t (evA e x) (evA e v) <;> rfl
 | binOp op t x y yt=>
  simp only [opS]
  refine Eq.trans ?_ (pu rfl)
  rcases h1:gK (R:=R) x with ⟨f1⟩
  rcases h2:gK (R:=R) y with ⟨f2⟩
  simp only [pureE]
  have gen:(Cl.f (Cl.mk fun (_:List Nat) (_ _:CF) (e:T) (s:St) (k:AV→St→Option R)=>f1 e fun a=>f2 e fun b=>(binE P op t x y a b).bind fun r=>fA r fun r=>k r s) lk cf yf e s k)=(binE P op t x y (evA e x) (evA e y)).bind fun a=>k a s:=by
   simp only [Cl.f,gK_mk h1,gK_mk h2,fA_eq]
  split
  ·rename_i q hu
   split
   ·rename_i h hh
    simp only [Cl.f,gK_mk h1,gK_mk h2]
    unfold binE
    simp only [hu]
    have hop:(match op with | .add | .sub | .mul | .lss | .leq | .gtr | .geq | .eql | .neq=>(match evA e x,evA e y with | .i k1 a,.i k2 b=>bif beqI k1 q && beqI k2 q then intE q op a b else none | _,_=>none) | _=>dataB P op t x y (evA e x) (evA e y))=(match evA e x,evA e y with | .i k1 a,.i k2 b=>bif beqI k1 q && beqI k2 q then intE q op a b else none | _,_=>none):=by
     cases op <;> first | rfl | (simp [iK] at hh)
    refine Eq.trans ?_ (congrArg (fun z:Option AV=>z.bind fun a=>k a s) hop.symm)
    cases evA e x <;> first | rfl | skip
    cases evA e y <;> first | rfl | skip
    rename_i q1 m q2 n
    simp only
    cases (beqI q1 q && beqI q2 q) with
    | false=>rfl
    | true=>exact iK_eq hh m n _
   ·exact gen
  ·exact gen
 | call c=>
  obtain ⟨callee,args,ats⟩:=c
  cases callee with
  | value f=>
   cases f with
   | func g=>
    simp only [opS,effE]
    cases ok g with
    | false=>rfl
    | true=>
     simp only [cond_true]
     have h:=gKs_eq (R:=R) args.toList e
     generalize gKs (R:=R) args.toList=a at h
     obtain ⟨f⟩:=a
     simp only [Cl.f,fA_eq] at h ⊢
     rw [h]
   | _=>exact slow
  | _=>exact slow
 | _=>exact slow
def opsC {R:Type} (P:Program) (ok:Nat→Bool) (glob:Nat→Nat→Option AV):List Oper→Cl (List Nat→CF→CF→T→St→(T→St→Option R)→Option R)
 | []=>.mk fun _ _ _ e s k=>k e s
 | o :: r=>match opS (R:=R) P ok glob o,opsC P ok glob r with
  | .mk f,.mk g=>match o.dst with
   | none=>.mk fun lk cf yf e s k=>f lk cf yf e s fun _ s=>g lk cf yf e s k
   | some d=>bif Nat.blt d 4000 then (match sP (R:=Option R) (pth d) with
     | .mk h=>.mk fun lk cf yf e s k=>f lk cf yf e s fun a s=>h e a fun e=>g lk cf yf e s k)
    else .mk fun lk cf yf e s k=>f lk cf yf e s fun _ s=>g lk cf yf e s k
theorem opsC_eq {R:Type} (P:Program) (ok:Nat→Bool) (glob:Nat→Nat→Option AV) (all:List Oper) (lk:List Nat) (cf yf:CF):∀ (l:List Oper) (i:Nat) (e:T) (s:St) (k:T→St→Option R),(l.all fun o=>o.guard.isNone)=true→
  (opsC P ok glob l).f lk cf yf e s k=(opsE (fun o e s=>effE P ok glob lk cf yf o (evA e) s) all l i [] e s).bind fun q=>k q.1 q.2
 | [],_,_,_,_,_=>rfl
 | o :: r,i,e,s,k,hg=>by
  simp only [List.all_cons,Bool.and_eq_true] at hg
  have hgd:o.guard=none:=by
   cases h:o.guard with
   | none=>rfl
   | some _=>rw [h] at hg;cases hg.1
  have ih:=fun e s k=>opsC_eq (R:=R) P ok glob all lk cf yf r (i+1) e s k hg.2
  have ho:=opS_eq (R:=R) P ok glob o lk cf yf
  simp only [opsC]
  generalize opsC (R:=R) P ok glob r=b at ih
  generalize opS (R:=R) P ok glob o=a at ho
  obtain ⟨f⟩:=a
  obtain ⟨g⟩:=b
  simp only [Cl.f] at ih ho
  have hc:clash o.dst [] all=false:=by unfold clash;cases o.dst <;> rfl
  simp only [opsE,hc,cond_false,gdE,hgd,Option.bind_some,cond_true,lsetF_eq]
  have step:(effE P ok glob lk cf yf o (evA e) s).bind (fun q=>(opsE (fun o e s=>effE P ok glob lk cf yf o (evA e) s) all r (i+1) [] (lsetO e o.dst q.1) q.2).bind fun q=>k q.1 q.2)=((effE P ok glob lk cf yf o (evA e) s).bind fun q=>opsE (fun o e s=>effE P ok glob lk cf yf o (evA e) s) all r (i+1) [] (lsetO e o.dst q.1) q.2).bind fun q=>k q.1 q.2:=by
   cases effE P ok glob lk cf yf o (evA e) s <;> rfl
  rw [←step]
  cases hd:o.dst with
  | none=>
   simp only [Cl.f]
   rw [ho]
   simp only [ih]
   rfl
  | some d=>
   simp only
   cases hb:Nat.blt d 4000 with
   | false=>
    simp only [cond_false,Cl.f]
    rw [ho]
    simp only [ih,lsetO,tset,hb,cond_false]
   | true=>
    simp only [cond_true]
    have hs:=sP_eq (R:=Option R) (pth d)
    generalize sP (R:=Option R) (pth d)=c at hs
    obtain ⟨h⟩:=c
    simp only [Cl.f] at hs ⊢
    rw [ho]
    simp only [hs,ih,lsetO,tset,hb,cond_true]
def setG {R:Type} (d:Option Nat):Cl (T→AV→(T→Option R)→Option R):=match d with
 | none=>.mk fun e _ k=>k e
 | some d=>bif Nat.blt d 4000 then sP (R:=Option R) (pth d) else .mk fun e _ k=>k e
theorem setG_eq {R:Type} (d:Option Nat) (e:T) (a:AV) (k:T→Option R):(setG d).f e a k=k (lsetO e d a):=by
 cases d with
 | none=>rfl
 | some d=>
  simp only [setG,lsetO,tset]
  cases hb:Nat.blt d 4000 with
  | false=>rfl
  | true=>exact sP_eq (R:=Option R) (pth d) e a k
def opsG {R:Type} (P:Program) (ok:Nat→Bool) (glob:Nat→Nat→Option AV) (all:List Oper):List Oper→Nat→Cl (List Nat→CF→CF→List (Nat × Option Bool)→T→St→(T→St→Option R)→Option R)
 | [],_=>.mk fun _ _ _ _ e s k=>k e s
 | o :: r,i=>match opS (R:=R) P ok glob o,opsG P ok glob all r (i+1),setG (R:=R) o.dst with
  | .mk f,.mk g,.mk h=>.mk fun lk cf yf kn e s k=>bif clash o.dst kn all then none else (gdE all o i kn e).bind fun q=>
    bif q.1 then f lk cf yf e s fun a s=>h e a fun e=>g lk cf yf q.2 e s k else h e (.tup []) fun e=>g lk cf yf q.2 e s k
theorem opsG_eq {R:Type} (P:Program) (ok:Nat→Bool) (glob:Nat→Nat→Option AV) (all:List Oper) (lk:List Nat) (cf yf:CF):∀ (l:List Oper) (i:Nat) (kn:List (Nat × Option Bool)) (e:T) (s:St) (k:T→St→Option R),
  (opsG P ok glob all l i).f lk cf yf kn e s k=(opsE (fun o e s=>effE P ok glob lk cf yf o (evA e) s) all l i kn e s).bind fun q=>k q.1 q.2
 | [],_,_,_,_,_=>rfl
 | o :: r,i,kn,e,s,k=>by
  have ih:=fun kn e s k=>opsG_eq (R:=R) P ok glob all lk cf yf r (i+1) kn e s k
  have ho:=opS_eq (R:=R) P ok glob o lk cf yf
  have hs:=setG_eq (R:=R) o.dst
  simp only [opsG]
  generalize opsG (R:=R) P ok glob all r (i+1)=b at ih
  generalize opS (R:=R) P ok glob o=a at ho
  generalize setG (R:=R) o.dst=c at hs
  obtain ⟨f⟩:=a
  obtain ⟨g⟩:=b
  obtain ⟨h⟩:=c
  simp only [Cl.f] at ih ho hs ⊢
  simp only [opsE,lsetF_eq]
  cases clash o.dst kn all with
  | true=>rfl
  | false=>
   simp only [cond_false]
   cases gdE all o i kn e with
   | none=>rfl
   | some q=>
    obtain ⟨q1,q2⟩:=q
    cases q1 with
    | true=>
     simp only [Option.bind_some,cond_true]
     rw [ho]
     simp only [hs,ih]
     cases effE P ok glob lk cf yf o (evA e) s <;> rfl
    | false=>
     simp only [Option.bind_some,cond_false]
     rw [hs,ih]
end
end Go.K
