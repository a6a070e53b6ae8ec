/- The small machine: code, calls, ranges over iterators; that what it reckons is what the model does. No conditions. -/
import Derived.Test.YtaimlfomodfekaaGreatDoorZScriptPrefix4
import Derived.LoopNIn
import Derived.RangeFuncNested
set_option linter.unusedSimpArgs false
set_option linter.unusedVariables false
namespace Go.K
open Go

inductive Xt where
 | n
 | x (i:Nat)
 | r
def Xt.ex:Xt→Exit
 | .n=>.normal
 | .x i=>.exit i
 | .r=>.ret
abbrev RR:=Xt × T × List Nat × St
abbrev Rc:=Nat→Nat→Option Nat→List (Nat × LI)→List Nat→Code→T→List Nat→St→Option RR
noncomputable section
def resE (P:Program) (glob:Nat→Nat→Option AV) (h:HP) (e:T):List ResultVar→Option (List AV)
 | []=>some []
 | .tmp t :: r=>(resE P glob h e r).bind fun l=>some (tget e t :: l)
 | .cell x t :: r=>(loadE P glob h t (tget e x)).bind fun a=>(resE P glob h e r).bind fun l=>some (a :: l)
def tupA:List AV→AV
 | [a]=>a
 | l=>.tup l
def endM (lk:List Nat):List Nat→St→Option St
 | [],s=>some s
 | d :: ds,s=>match hget s.h d with
  | some .df=>bif memB lk d then none else hsetS s.h d .dead fun h=>endM lk ds ⟨h,s.nx⟩
  | _=>none
def argsK {R:Type}:List AV→Nat→T→(T→R)→R
 | [],_,t,k=>k t
 | a :: l,i,t,k=>fN i fun i=>tsetK t i a fun t=>argsK l (i+1) t k
def argsT:List AV→Nat→T→T
 | [],_,t=>t
 | a :: l,i,t=>argsT l (i+1) (tset t i a)
theorem argsK_eq {R:Type}:∀ (l:List AV) (i:Nat) (t:T) (k:T→R),argsK l i t k=k (argsT l i t)
 | [],_,_,_=>rfl
 | a :: l,i,t,k=>by simp only [argsK,argsT,fN_eq,tsetK_eq,argsK_eq l]
def callC (P:Program) (glob:Nat→Nat→Option AV) (rec:Rc) (ctx:List (Nat × LI)) (lk:List Nat) (W g:Nat) (args:List AV) (s:St):Option (AV × St):=
 match fnE P g with
 | some fn=>match fn.body with
  | some c=>fN fn.ntmps fun n=>bif Nat.ble args.length n && Nat.ble n 4000 then
    (argsK args 0 (mkT n) fun e=>rec W n none ctx lk c e [] s).bind fun q=>match q.1 with
     | .x _=>none
     | _=>(endM lk q.2.2.1 q.2.2.2).bind fun s2=>(resE P glob s2.h q.2.1 fn.results.toList).bind fun r=>fL r fun r=>some (tupA r,s2)
   else none
  | none=>none
 | none=>none
def fillK {R:Type}:T→List Nat→List AV→(T→R)→R
 | e,[],_,k=>k e
 | e,p :: ps,vs,k=>fA (vs.headD (.tup [])) fun a=>tsetK e p a fun e=>fillK e ps vs.tail k
def fillA:T→List Nat→List AV→T
 | e,[],_=>e
 | e,p :: ps,vs=>fillA (tset e p (vs.headD (.tup []))) ps vs.tail
theorem fillK_eq {R:Type}:∀ (ps:List Nat) (e:T) (vs:List AV) (k:T→R),fillK e ps vs k=k (fillA e ps vs)
 | [],_,_,_=>rfl
 | p :: ps,e,vs,k=>by simp only [fillK,fillA,fA_eq,tsetK_eq,fillK_eq ps]
def yieldC (rec:Rc) (ctx:List (Nat × LI)) (lk:List Nat) (W l:Nat) (args:List AV) (s:St):Option (AV × St):=
 match cget ctx l with
 | none=>none
 | some i=>match hget s.h l with
  | some (.loop _ _)=>bif !memB lk l && Nat.beq args.length i.ps.size then
    (fillK i.e i.ps.toList args fun e=>rec W i.n (some l) ctx lk i.asg e [] s).bind fun q=>match q.1 with
     | .n=>match hget q.2.2.2.h l with
      | some (.loop .ready pd)=>(hsetS q.2.2.2.h l (.loop .busy pd) fun h=>rec W i.n (some l) ctx lk i.body q.2.1 q.2.2.1 ⟨h,q.2.2.2.nx⟩).bind fun r=>match hget r.2.2.2.h l with
       | some (.loop _ _)=>match r.1 with
        | .n=>hsetS r.2.2.2.h l (.loop .ready none) fun h=>some (.b true,⟨h,r.2.2.2.nx⟩)
        | .r=>hsetS r.2.2.2.h l (.loop .done (some none)) fun h=>some (.b false,⟨h,r.2.2.2.nx⟩)
        | .x j=>hsetS r.2.2.2.h l (.loop .done (some (some j))) fun h=>some (.b false,⟨h,r.2.2.2.nx⟩)
       | _=>none
      | _=>none
     | _=>none
    else none
  | _=>none
def notBusy:LoopState→Bool
 | .busy=>false
 | _=>true
def xtOf:Option (Option Nat)→Xt
 | none=>.n
 | some none=>.r
 | some (some i)=>.x i
def rangeC (P:Program) (glob:Nat→Nat→Option AV) (rec:Rc) (W n:Nat) (ctx:List (Nat × LI)) (lk:List Nat) (gf:Nat) (cs:List AV) (ps:Array Nat) (x y:Code) (e:T) (d:Nat) (ds:List Nat) (s:St):Option RR:=
 (newE s (.loop .ready none)).bind fun s1=>(callC P glob rec ((s.nx,⟨n,e,ps,x,y,d⟩) :: ctx) lk W gf (.y s.nx :: cs) s1).bind fun q=>match hget q.2.h s.nx with
  | some (.loop st pd)=>bif notBusy st && !memB lk s.nx then (hsetS q.2.h s.nx .dead fun h=>some (xtOf pd,e,ds,⟨h,q.2.nx⟩)) else none
  | _=>none
def loopC (f:T→List Nat→St→Option RR):Nat→T→List Nat→St→Option RR
 | 0,_,_,_=>none
 | m+1,e,ds,s=>(f e ds s).bind fun q=>match q.1 with
  | .n=>loopC f m q.2.1 q.2.2.1 q.2.2.2
  | _=>some q
def rgS (P:Program) (ok:Nat→Bool) (glob:Nat→Nat→Option AV) (rec:Rc) (g:Operand) (ps:Array Nat) (x y:Code) (W n:Nat) (ro:Option Nat) (ctx:List (Nat × LI)) (lk:List Nat) (e:T) (ds:List Nat) (s:St):Option RR:=
 match evA e g with
 | .f gf [] cs=>bif ok gf then match ro with
   | none=>(newE s .df).bind fun s1=>rangeC P glob rec W n ctx lk gf cs ps x y e s.nx (s.nx :: ds) s1
   | some l0=>match cget ctx l0 with
    | some i0=>match hget s.h l0 with
     | some (.loop _ _)=>rangeC P glob rec W n ctx lk gf cs ps x y e i0.df ds s
     | _=>none
    | none=>none
  else none
 | _=>none
def rnd (W:Nat):Nat:=W+100000
def stS (P:Program) (ok:Nat→Bool) (glob:Nat→Nat→Option AV) (rec:Rc):Code→Nat→Nat→Option Nat→List (Nat × LI)→List Nat→T→List Nat→St→Option RR
 | .skip,_,_,_,_,_,e,ds,s=>some (.n,e,ds,s)
 | .region _ ops draw,W,n,_,ctx,lk,e,ds,s=>(regE P ok glob (fun lk W=>callC P glob rec ctx lk W) (yieldC rec ctx lk W) W n lk ops.toList draw e s).bind fun q=>some (.n,q.1,ds,q.2)
 | .seq x y,W,n,ro,ctx,lk,e,ds,s=>(stS P ok glob rec x W n ro ctx lk e ds s).bind fun q=>match q.1 with
  | .n=>stS P ok glob rec y W n ro ctx lk q.2.1 q.2.2.1 q.2.2.2
  | _=>some q
 | .cond c x y,W,n,ro,ctx,lk,e,ds,s=>match evA e c with
  | .b true=>stS P ok glob rec x W n ro ctx lk e ds s
  | .b false=>stS P ok glob rec y W n ro ctx lk e ds s
  | _=>none
 | .block id x,W,n,ro,ctx,lk,e,ds,s=>(stS P ok glob rec x W n ro ctx lk e ds s).bind fun q=>match q.1 with
  | .x i=>bif Nat.beq i id then some (.n,q.2) else some q
  | _=>some q
 | .loop x,W,n,ro,ctx,lk,e,ds,s=>loopC (fun e ds s=>stS P ok glob rec x W n ro ctx lk e ds s) (rnd W) e ds s
 | .exit id,_,_,_,_,_,e,ds,s=>some (.x id,e,ds,s)
 | .ret,_,_,_,_,_,e,ds,s=>some (.r,e,ds,s)
 | .label _,_,_,_,_,_,e,ds,s=>some (.n,e,ds,s)
 | .scope x,W,n,ro,ctx,lk,e,ds,s=>match ro with
  | none=>stS P ok glob rec x W n none ctx lk e ds s
  | some _=>none
 | .rangeFunc g ps x y,W,n,ro,ctx,lk,e,ds,s=>rgS P ok glob rec g ps x y W n ro ctx lk e ds s
 | .goto _,_,_,_,_,_,_,_,_=>none
 | .refuse _,_,_,_,_,_,_,_,_=>none
abbrev CT (R:Type):=Rc→Nat→Nat→Option Nat→List (Nat × LI)→List Nat→T→List Nat→St→(T→List Nat→St→Option R)→(Xt→T→List Nat→St→Option R)→Option R
def loopK {R:Type} (f:T→List Nat→St→(T→List Nat→St→Option R)→(Xt→T→List Nat→St→Option R)→Option R) (kn:T→List Nat→St→Option R) (kx:Xt→T→List Nat→St→Option R):Nat→T→List Nat→St→Option R
 | 0,_,_,_=>none
 | m+1,e,ds,s=>f e ds s (fun e ds s=>loopK f kn kx m e ds s) kx
def loopL {R:Type} (g:Nat→Nat) (f:CT R):Cl (CT R):=.mk fun rec W n ro ctx lk e ds s kn kx=>loopK (f rec W n ro ctx lk) kn kx (g W) e ds s
theorem loopL_f {R:Type} (g:Nat→Nat) (f:CT R) (rec:Rc) (W n:Nat) (ro:Option Nat) (ctx:List (Nat × LI)) (lk:List Nat) (e:T) (ds:List Nat) (s:St) (kn:T→List Nat→St→Option R) (kx:Xt→T→List Nat→St→Option R):(loopL g f).f rec W n ro ctx lk e ds s kn kx=loopK (f rec W n ro ctx lk) kn kx (g W) e ds s:=rfl
def codeC {R:Type} (P:Program) (ok:Nat→Bool) (glob:Nat→Nat→Option AV):Code→Cl (CT R)
 | .skip=>.mk fun _ _ _ _ _ _ e ds s kn _=>kn e ds s
 | .region _ ops draw=>bif !draw && ops.toList.all fun o=>o.guard.isNone then
   (match opsC (R:=R) P ok glob ops.toList with | .mk f=>.mk fun rec W _ _ ctx lk e ds s kn _=>f lk (callC P glob rec ctx lk W) (yieldC rec ctx lk W) e s fun e s=>kn e ds s)
   else bif !draw then (match opsG (R:=R) P ok glob ops.toList ops.toList 0 with | .mk f=>.mk fun rec W _ _ ctx lk e ds s kn _=>f lk (callC P glob rec ctx lk W) (yieldC rec ctx lk W) [] e s fun e s=>kn e ds s)
   else .mk fun rec W n _ ctx lk e ds s kn _=>(regE P ok glob (fun lk W=>callC P glob rec ctx lk W) (yieldC rec ctx lk W) W n lk ops.toList draw e s).bind fun q=>kn q.1 ds q.2
 | .seq x y=>match codeC P ok glob x,codeC P ok glob y with
  | .mk f,.mk g=>.mk fun rec W n ro ctx lk e ds s kn kx=>f rec W n ro ctx lk e ds s (fun e ds s=>g rec W n ro ctx lk e ds s kn kx) kx
 | .cond c x y=>match gK (R:=R) c,codeC P ok glob x,codeC P ok glob y with
  | .mk h,.mk f,.mk g=>.mk fun rec W n ro ctx lk e ds s kn kx=>h e fun a=>match a with
   | .b true=>f rec W n ro ctx lk e ds s kn kx
   | .b false=>g rec W n ro ctx lk e ds s kn kx
   | _=>none
 | .block id x=>match codeC P ok glob x with
  | .mk f=>.mk fun rec W n ro ctx lk e ds s kn kx=>f rec W n ro ctx lk e ds s kn fun t e ds s=>match t with
   | .x i=>bif Nat.beq i id then kn e ds s else kx (.x i) e ds s
   | .n=>kn e ds s
   | .r=>kx .r e ds s
 | .loop x=>match codeC P ok glob x with
  | .mk f=>loopL rnd f
 | .exit id=>.mk fun _ _ _ _ _ _ e ds s _ kx=>kx (.x id) e ds s
 | .ret=>.mk fun _ _ _ _ _ _ e ds s _ kx=>kx .r e ds s
 | .label _=>.mk fun _ _ _ _ _ _ e ds s kn _=>kn e ds s
 | .scope x=>match codeC P ok glob x with
  | .mk f=>.mk fun rec W n ro ctx lk e ds s kn kx=>match ro with
   | none=>f rec W n none ctx lk e ds s kn kx
   | some _=>none
 | .rangeFunc g ps x y=>.mk fun rec W n ro ctx lk e ds s kn kx=>(rgS P ok glob rec g ps x y W n ro ctx lk e ds s).bind fun q=>match q.1 with
  | .n=>kn q.2.1 q.2.2.1 q.2.2.2
  | .x i=>kx (.x i) q.2.1 q.2.2.1 q.2.2.2
  | .r=>kx .r q.2.1 q.2.2.1 q.2.2.2
 | .goto _=>.mk fun _ _ _ _ _ _ _ _ _ _ _=>none
 | .refuse _=>.mk fun _ _ _ _ _ _ _ _ _ _ _=>none
def evC (P:Program) (ok:Nat→Bool) (glob:Nat→Nat→Option AV):Nat→Rc
 | 0=>fun _ _ _ _ _ _ _ _ _=>none
 | k+1=>fun W n ro ctx lk c e ds s=>match codeC (R:=RR) P ok glob c with
  | .mk f=>f (evC P ok glob k) W n ro ctx lk e ds s (fun e ds s=>some (.n,e,ds,s)) fun x e ds s=>some (x,e,ds,s)
def two {R:Type} (kn:T→List Nat→St→Option R) (kx:Xt→T→List Nat→St→Option R) (q:RR):Option R:=match q.1 with
 | .n=>kn q.2.1 q.2.2.1 q.2.2.2
 | .x i=>kx (.x i) q.2.1 q.2.2.1 q.2.2.2
 | .r=>kx .r q.2.1 q.2.2.1 q.2.2.2
theorem loopK_eq {R:Type} (f:T→List Nat→St→(T→List Nat→St→Option R)→(Xt→T→List Nat→St→Option R)→Option R) (g:T→List Nat→St→Option RR) (kn:T→List Nat→St→Option R) (kx:Xt→T→List Nat→St→Option R) (h1:∀ e ds s kn kx,f e ds s kn kx=(g e ds s).bind (two kn kx)):∀ (m:Nat) (e:T) (ds:List Nat) (s:St),loopK f kn kx m e ds s=(loopC g m e ds s).bind (two kn kx)
 | 0,_,_,_=>rfl
 | m+1,e,ds,s=>by
  simp only [loopK,loopC]
  rw [h1]
  cases g e ds s with
  | none=>rfl
  | some q=>
   obtain ⟨t,q⟩:=q
   cases t <;> simp only [Option.bind_some,two]
   exact loopK_eq f g kn kx h1 m _ _ _
theorem codeC_eq {R:Type} (P:Program) (ok:Nat→Bool) (glob:Nat→Nat→Option AV) (rec:Rc):∀ (c:Code) (W n:Nat) (ro:Option Nat) (ctx:List (Nat × LI)) (lk:List Nat) (e:T) (ds:List Nat) (s:St) (kn:T→List Nat→St→Option R) (kx:Xt→T→List Nat→St→Option R),
  (codeC P ok glob c).f rec W n ro ctx lk e ds s kn kx=(stS P ok glob rec c W n ro ctx lk e ds s).bind (two kn kx):=by
 intro c
 induction c with
 | skip=>intros;rfl
 | exit id=>intros;rfl
 | ret=>intros;rfl
 | label l=>intros;rfl
 | goto l=>intros;rfl
 | refuse y=>intros;rfl
 | region id ops draw=>
  intro W n ro ctx lk e ds s kn kx
  simp only [codeC,stS]
  have slow:(regE P ok glob (fun lk W=>callC P glob rec ctx lk W) (yieldC rec ctx lk W) W n lk ops.toList draw e s).bind (fun q=>kn q.1 ds q.2)=((regE P ok glob (fun lk W=>callC P glob rec ctx lk W) (yieldC rec ctx lk W) W n lk ops.toList draw e s).bind fun q=>some (.n,q.1,ds,q.2)).bind (two kn kx):=by
   cases regE P ok glob (fun lk W=>callC P glob rec ctx lk W) (yieldC rec ctx lk W) W n lk ops.toList draw e s <;> rfl
  cases hb:(!draw && ops.toList.all fun o=>o.guard.isNone) with
  | false=>
   simp only [cond_false]
   cases draw with
   | true=>simp only [Bool.not_true,cond_false,Cl.f];exact slow
   | false=>
    simp only [Bool.not_false,cond_true]
    have h:=fun k=>opsG_eq (R:=R) P ok glob ops.toList lk (callC P glob rec ctx lk W) (yieldC rec ctx lk W) ops.toList 0 [] e s k
    generalize opsG (R:=R) P ok glob ops.toList ops.toList 0=a at h
    obtain ⟨f⟩:=a
    simp only [Cl.f] at h ⊢
    rw [h]
    exact slow
  | true=>
   simp only [cond_true]
   simp only [Bool.and_eq_true,Bool.not_eq_true'] at hb
   obtain ⟨rfl,hg⟩:=hb
   have h:=fun k=>opsC_eq (R:=R) P ok glob ops.toList lk (callC P glob rec ctx lk W) (yieldC rec ctx lk W) ops.toList 0 e s k hg
   generalize opsC (R:=R) P ok glob ops.toList=a at h
   obtain ⟨f⟩:=a
   simp only [Cl.f] at h ⊢
   rw [h]
   exact slow
 | seq x y ihx ihy=>
  intro W n ro ctx lk e ds s kn kx
  have h1:=ihx W n ro ctx lk e ds s
  have h2:=fun e ds s=>ihy W n ro ctx lk e ds s kn kx
  simp only [codeC,stS]
  generalize codeC (R:=R) P ok glob x=a at h1
  generalize codeC (R:=R) P ok glob y=b at h2
  obtain ⟨f⟩:=a
  obtain ⟨g⟩:=b
  simp only [Cl.f] at h1 h2 ⊢
  rw [h1]
  cases stS P ok glob rec x W n ro ctx lk e ds s with
  | none=>rfl
  | some q=>
   obtain ⟨t,q⟩:=q
   cases t <;> simp only [Option.bind_some,two]
   exact h2 _ _ _
 | cond c x y ihx ihy=>
  intro W n ro ctx lk e ds s kn kx
  have h1:=ihx W n ro ctx lk e ds s kn kx
  have h2:=ihy W n ro ctx lk e ds s kn kx
  have h3:=gK_eq (R:=R) c e
  simp only [codeC,stS]
  generalize codeC (R:=R) P ok glob x=a at h1
  generalize codeC (R:=R) P ok glob y=b at h2
  generalize gK (R:=R) c=d at h3
  obtain ⟨f⟩:=a
  obtain ⟨g⟩:=b
  obtain ⟨h⟩:=d
  simp only [Cl.f] at h1 h2 h3 ⊢
  rw [h3]
  cases evA e c <;> first | rfl | skip
  rename_i q
  cases q
  ·exact h2
  ·exact h1
 | block id x ih=>
  intro W n ro ctx lk e ds s kn kx
  have h1:=ih W n ro ctx lk e ds s
  simp only [codeC,stS]
  generalize codeC (R:=R) P ok glob x=a at h1
  obtain ⟨f⟩:=a
  simp only [Cl.f] at h1 ⊢
  rw [h1]
  cases stS P ok glob rec x W n ro ctx lk e ds s with
  | none=>rfl
  | some q=>
   obtain ⟨t,q⟩:=q
   cases t <;> simp only [Option.bind_some,two]
   rename_i i
   cases Nat.beq i id <;> rfl
 | loop x ih=>
  intro W n ro ctx lk e ds s kn kx
  have h1:=fun e ds s=>ih W n ro ctx lk e ds s
  simp only [codeC,stS]
  generalize codeC (R:=R) P ok glob x=a at h1
  obtain ⟨f⟩:=a
  have h2:∀ e ds s kn kx,f rec W n ro ctx lk e ds s kn kx=(stS P ok glob rec x W n ro ctx lk e ds s).bind (two kn kx):=h1
  show Cl.f (loopL rnd f) rec W n ro ctx lk e ds s kn kx=_
  rw [loopL_f]
  exact loopK_eq _ _ kn kx h2 _ e ds s
 | scope x ih=>
  intro W n ro ctx lk e ds s kn kx
  have h1:=ih W n none ctx lk e ds s kn kx
  simp only [codeC,stS]
  generalize codeC (R:=R) P ok glob x=a at h1
  obtain ⟨f⟩:=a
  simp only [Cl.f] at h1 ⊢
  cases ro with
  | none=>exact h1
  | some _=>rfl
 | rangeFunc g ps x y _ _=>
  intro W n ro ctx lk e ds s kn kx
  rfl
theorem evC_eq (P:Program) (ok:Nat→Bool) (glob:Nat→Nat→Option AV) (k W n:Nat) (ro:Option Nat) (ctx:List (Nat × LI)) (lk:List Nat) (c:Code) (e:T) (ds:List Nat) (s:St):evC P ok glob (k+1) W n ro ctx lk c e ds s=stS P ok glob (evC P ok glob k) c W n ro ctx lk e ds s:=by
 have h:=codeC_eq (R:=RR) P ok glob (evC P ok glob k) c W n ro ctx lk e ds s (fun e ds s=>some (.n,e,ds,s)) fun x e ds s=>some (x,e,ds,s)
 simp only [evC]
 generalize codeC (R:=RR) P ok glob c=a at h
 obtain ⟨f⟩:=a
 simp only [Cl.f] at h
 refine Eq.trans h ?_
 cases stS P ok glob (evC P ok glob k) c W n ro ctx lk e ds s with
 | none=>rfl
 | some q=>
  obtain ⟨t,q⟩:=q
  cases t <;> rfl
end

section
variable {P:Program} {ok:Nat→Bool} {glob:Nat→Nat→Option AV} {B:Nat}
def DR (σ:Sg):List Nat→List Nat→Prop
 | [],dc=>dc=[]
 | d :: ds,dc=>∃ b r,dc=b :: r∧(∃ C,σ d=some (b,C))∧DR σ ds r
theorem DR.le {σ σ':Sg} (h:Le σ σ'):∀ {ds dc:List Nat},DR σ ds dc→DR σ' ds dc
 | [],_,e=>e
 | _ :: _,_,⟨b,r,e1,⟨C,e2⟩,e3⟩=>⟨b,r,e1,⟨C,h _ _ e2⟩,DR.le h e3⟩
def RO (σ:Sg):Option Nat→Option Nat→Prop
 | none,none=>True
 | some l,some b=>∃ C,σ l=some (b,C)
 | _,_=>False
theorem RO.le {σ σ':Sg} (h:Le σ σ') {a b:Option Nat} (k:RO σ a b):RO σ' a b:=by
 cases a <;> cases b <;> first | exact k | exact k.imp fun C e=>h _ _ e
def RecOk (P:Program) (glob:Nat→Nat→Option AV) (B:Nat) (rec:Rc):Prop:=
 ∀ (W n:Nat) (ro:Option Nat) (ctx:List (Nat × LI)) (lk:List Nat) (c:Code) (e:T) (ds:List Nat) (s:St) (x:Xt) (e':T) (ds':List Nat) (s':St),rec W n ro ctx lk c e ds s=some (x,e',ds',s')→
  ∀ (σ:Sg) (w:World) (ē:Env) (a:Act) (dc:List Nat) (roc:Option Nat) (Q:Exit→Act→World→Prop),SR glob B ctx lk σ s w→ER n σ e ē→Fr (marksD dc) n ē a→DR σ ds dc→RO σ ro roc→
   (∀ σ' w' ē' a' dc',Ext B lk σ w σ' w'→SR glob B ctx lk σ' s' w'→ER n σ' e' ē'→Fr (marksD dc') n ē' a'→DR σ' ds' dc'→Q x.ex a' w')→c.wpIn (Wd roc) 0 P Q a w
variable {rec:Rc} {ctx:List (Nat × LI)} {lk:List Nat}
theorem res_ok {σ:Sg} {s:St} {w:World} {n:Nat} {e:T} {ē:Env} (hS:SR glob B ctx lk σ s w) (hE:ER n σ e ē):∀ (rs:List ResultVar) (l:List AV) (K:List Value→Prop),resE P glob s.h e rs=some l→(∀ vs,relL σ l vs→K vs)→resD P rs ē w K:=by
 intro rs
 induction rs with
 | nil=>intro l K h hK;simp only [resE,Option.some.injEq] at h;subst h;exact hK [] rfl
 | cons r rs ih=>
  intro l K h hK
  cases r with
  | tmp t=>
   simp only [resE,Option.bind_eq_some_iff,Option.some.injEq] at h
   obtain ⟨l',h1,rfl⟩:=h
   exact ih l' _ h1 fun vs hvs=>hK _ ⟨_,_,rfl,hE.get t,hvs⟩
  | cell x t=>
   simp only [resE,Option.bind_eq_some_iff,Option.some.injEq] at h
   obtain ⟨a,h1,l',h2,rfl⟩:=h
   have:=loadD_ok (K:=fun v w'=>w'=w→resD P rs ē w' fun vs=>K (v :: vs)) hS h1 (hE.get x) fun v hv _=>ih l' _ h2 fun vs hvs=>hK _ ⟨_,_,rfl,hv,hvs⟩
   simp only [resD]
   revert this
   cases aggOf P t with
   | none=>exact fun h=>h
   | some bk=>
    obtain ⟨b,k⟩:=bk
    cases b with
    | false=>rintro ⟨ad,v,g1,g2,g3⟩;exact ⟨ad,v,g1,g2,g3 rfl⟩
    | true=>rintro ⟨ad,vs,g1,g2,g3,g4⟩;exact ⟨ad,vs,g1,g2,g3,g4 rfl⟩
theorem tup_rel {σ:Sg} {l:List AV} {vs:List Value} (h:relL σ l vs):rel σ (tupA l) (tupK vs):=by
 match l,vs,h with
 | [],_,h=>cases (show _=_ from h);exact ⟨[],rfl,rfl⟩
 | [a],_,⟨v,r,e1,e2,e3⟩=>cases (show _=_ from e3);subst e1;exact e2
 | a :: b :: l,_,⟨v,r,e1,e2,⟨v',r',e3,e4,e5⟩⟩=>subst e3;subst e1;exact ⟨_,⟨_,_,rfl,e2,_,_,rfl,e4,e5⟩,rfl⟩
theorem end_ok {n:Nat} {e:T} {ē:Env} {K:World→Prop} {s':St}:∀ (ds:List Nat) (s:St) (σ:Sg) (w:World) (dc:List Nat),endM lk ds s=some s'→SR glob B ctx lk σ s w→DR σ ds dc→(∀ w',Ext B lk σ w σ w'→SR glob B ctx lk σ s' w'→K w')→marksK dc K w:=by
 intro ds
 induction ds with
 | nil=>
  intro s σ w dc h hS hD hK
  cases (show _=_ from hD)
  simp only [endM,Option.some.injEq] at h
  subst h
  exact hK w Ext.refl hS
 | cons d ds ih=>
  rintro s σ w _ h hS ⟨b,r,rfl,⟨C,hσ⟩,hD⟩ hK
  simp only [endM,hsetS_eq] at h
  split at h
  ·rename_i hg
   cases hm:memB lk d with
   | true=>simp only [hm,cond_true,reduceCtorEq] at h
   | false=>
    simp only [hm,cond_false] at h
    obtain ⟨b',C',q,g1,g2,g3⟩:=hS.live hg (by simp)
    rw [hσ] at g1;cases g1
    have g3':q=.deferred (some []):=g3
    subst g3'
    obtain ⟨x1,x2⟩:=hS.put (o':=.dead) (q:=.deferred none) (w':=w.putObj b (.deferred none)) hg (by simp) (memB_false.1 hm) hσ (Mod.putObj w b _ rfl) (fun h=>(h rfl).elim) fun h=>(h rfl).elim
    exact ⟨g2,ih _ σ _ r h x2 hD fun w' y1 y2=>hK w' (x1.trans y1) y2⟩
  ·cases h
theorem mkT_er {n:Nat} {σ:Sg} (hn:n≤4000):ER n σ (mkT n) (nth []):=by
 have e:(2:Nat) ^ 12=4096:=by decide
 refine ⟨hn,fun i hi=>mkTF_has 12 n i (by rw [e];omega),fun j=>?_⟩
 have hnil:∀ j,nth [] j=undef:=fun j=>by
  induction j with
  | zero=>rfl
  | succ j ih=>exact ih
 have:tget (mkT n) j=.tup []:=by
  unfold tget mkT
  cases Nat.blt j 4000 with
  | true=>exact mkTF_get 12 n _
  | false=>rfl
 rw [this,hnil]
 exact undef_rel
def layN (n:Nat):Env→Nat→List Value→Env
 | e,_,[]=>e
 | e,i,v :: l=>layN n (upd n e i v) (i+1) l
theorem lay_er {n:Nat} {σ:Sg}:∀ {args:List AV} {vs:List Value} (i:Nat) {t:T} {e:Env},relL σ args vs→ER n σ t e→ER n σ (argsT args i t) (layN n e i vs)
 | [],_,_,_,_,h,hE=>by cases (show _=_ from h);exact hE
 | _ :: _,_,i,_,_,⟨v,r,e1,e2,e3⟩,hE=>by subst e1;exact lay_er (i+1) e3 (hE.set i e2)
theorem lay_nth {n:Nat}:∀ (vs:List Value) (i:Nat) (e:Env),i+vs.length≤n→layN n e i vs=fun j=>if i≤j∧j < i+vs.length then nth vs (j - i) else e j
 | [],i,e,_=>by
  funext j
  simp only [layN,List.length_nil,Nat.add_zero]
  rw [if_neg (by omega)]
 | v :: l,i,e,h=>by
  simp only [List.length_cons] at h
  simp only [layN]
  rw [lay_nth l (i+1) _ (by omega)]
  funext j
  simp only [List.length_cons]
  by_cases h1:i=j
  ·subst h1
   rw [if_neg (by omega),if_pos (by omega),Nat.sub_self]
   simp [upd,blt_true (show i < n by omega),nth]
  ·by_cases h2:i+1≤j∧j < i+1+l.length
   ·rw [if_pos h2,if_pos (by omega)]
    have:j - i=(j - (i+1))+1:=by omega
    rw [this]
    rfl
   ·rw [if_neg h2,if_neg (by omega)]
    simp [upd,nbf (show j≠i from fun e=>h1 e.symm)]
theorem nth_big:∀ (vs:List Value) (j:Nat),vs.length≤j→nth vs j=nth [] j
 | [],_,_=>rfl
 | _ :: l,0,h=>by simp at h
 | _ :: l,j+1,h=>by
  have:=nth_big l j (by simpa using h)
  show nth l j=nth [] (j+1)
  rw [this]
  rfl
theorem args_er {n:Nat} {σ:Sg} {args:List AV} {vs:List Value} (h:relL σ args vs) (hl:args.length≤n) (hn:n≤4000):ER n σ (argsT args 0 (mkT n)) (nth vs):=by
 have:=lay_er 0 h (mkT_er (σ:=σ) hn)
 have hv:=relL_len h
 rw [lay_nth vs 0 _ (by omega)] at this
 have e:(fun j=>if 0≤j∧j < 0+vs.length then nth vs (j - 0) else nth [] j)=nth vs:=by
  funext j
  by_cases hj:j < vs.length
  ·rw [if_pos (by omega)];rfl
  ·rw [if_neg (by omega),nth_big vs j (by omega)]
 rw [e] at this
 exact this
theorem call_ok (hR:RecOk P glob B rec) (W:Nat):CallOk P ok glob B ctx lk (callC P glob rec ctx lk W):=by
 intro g args s a s' σ w vs K h _ hS hA hK
 simp only [callC,fnE_eq,fL_eq,fN_eq,argsK_eq] at h
 split at h
 ·rename_i fn hf
  split at h
  ·rename_i c hb
   cases hl:(Nat.ble args.length fn.ntmps && Nat.ble fn.ntmps 4000) with
   | false=>simp only [hl,cond_false,reduceCtorEq] at h
   | true=>
    simp only [hl,cond_true,Option.bind_eq_some_iff] at h
    obtain ⟨⟨x,e',ds',s1⟩,h1,h2⟩:=h
    rw [Bool.and_eq_true] at hl
    have hle:=Nat.le_of_ble_eq_true hl.1
    have hle2:=Nat.le_of_ble_eq_true hl.2
    have hvl:=relL_len hA
    refine callsIn_wide.1 (callsIn_of_wp_marks (F:=Fence.wide) (n:=0) hf hb trivial ?_)
    have hxn:∀ i,x≠.x i:=fun i e=>by subst e;cases h2
    have h2':(endM lk ds' s1).bind (fun s2=>(resE P glob s2.h e' fn.results.toList).bind fun r=>some (tupA r,s2))=some (a,s'):=by
     cases x with
     | x i=>exact (hxn i rfl).elim
     | n=>exact h2
     | r=>exact h2
    simp only [Option.bind_eq_some_iff,Option.some.injEq,Prod.mk.injEq] at h2'
    obtain ⟨s2,h3,r,h4,rfl,rfl⟩:=h2'
    refine hR W fn.ntmps none ctx lk c _ [] s x e' ds' s1 h1 σ w (nth vs) _ [] none _ hS (args_er hA hle hle2) (fr_args (by omega)) rfl trivial ?_
    intro σ' w' ē' a' dc' x1 x2 x3 x4 x5
    have hm:marksK dc' (fun w=>resD P fn.results.toList ē' w fun vs=>K (tupK vs) w) w':=end_ok (n:=fn.ntmps) (e:=e') (ē:=ē') ds' s1 σ' w' dc' h3 x2 x5 fun w'' y1 y2=>res_ok y2 x3 _ r _ h4 fun vs hvs=>hK σ' w'' _ (x1.trans y1) y2 (tup_rel hvs)
    have key:∀ (ms0:List Nat) (w0:World),marksK ms0 (fun w=>resD P fn.results.toList ē' w fun vs=>K (tupK vs) w) w0→LeavesInM Fence.wide 0 P fn a'.tmps (fun e w'=>∃ v,e=.returned v∧K v w') (marksD ms0) .returning w0:=by
     intro ms0
     induction ms0 with
     | nil=>
      intro w0 h
      obtain ⟨v,h4,h5⟩:=results_run x4 h
      exact ⟨v,h4,v,rfl,h5⟩
     | cons m ms0 ih=>
      rintro w0 ⟨h3,h4⟩
      exact ⟨by simp,.inl ⟨_,_,rfl,run_takeDeferred h3,ih _ h4⟩⟩
    cases x with
    | x i=>exact (hxn i rfl).elim
    | n=>
     show LeavesInM _ _ _ _ _ _ _ _ _
     rw [x4.defers];exact key dc' w' hm
    | r=>
     show LeavesInM _ _ _ _ _ _ _ _ _
     rw [x4.defers];exact key dc' w' hm
  ·cases h
 ·cases h
theorem fill_fr {n:Nat} {σ:Sg} {ds:List Deferred}:∀ (ps:List Nat) (args:List AV) (vs:List Value) (e:T) (ē:Env) (a:Act),args.length=ps.length→relL σ args vs→ER n σ e ē→Fr ds n ē a→
  ∃ ē',ER n σ (fillA e ps args) ē'∧Fr ds n ē' { a with tmps:=(ps.zip vs).foldl (fun t x=>t.setIfInBounds x.1 x.2) a.tmps }:=by
 intro ps
 induction ps with
 | nil=>intro args vs e ē a hl hr hE hF;exact ⟨ē,hE,hF⟩
 | cons p ps ih=>
  intro args vs e ē a hl hr hE hF
  cases args with
  | nil=>simp at hl
  | cons b args=>
   obtain ⟨v,r,rfl,h2,h3⟩:=hr
   obtain ⟨ē',k1,k2⟩:=ih args r (tset e p b) (upd n ē p v) (a.put (some p) v) (by simpa using hl) h3 (hE.set p h2) (hF.put (some p) v)
   exact ⟨ē',k1,k2⟩
theorem yield_ok (hR:RecOk P glob B rec) (W:Nat):YieldOk P glob B ctx lk (yieldC rec ctx lk W):=by
 intro l args s a s' σ w vs b C K h hσ hS hA hK
 simp only [yieldC,fillK_eq,hsetS_eq] at h
 split at h
 ·cases h
 ·rename_i i hc
  split at h
  ·rename_i st pd hg
   cases hb:(!memB lk l && Nat.beq args.length i.ps.size) with
   | false=>simp only [hb,cond_false,reduceCtorEq] at h
   | true=>
    simp only [hb,cond_true,Option.bind_eq_some_iff] at h
    simp only [Bool.and_eq_true,Bool.not_eq_true'] at hb
    obtain ⟨⟨x,e1,ds1,s1⟩,h1,h2⟩:=h
    have hlk:=memB_false.1 hb.1
    have hal:=Nat.eq_of_beq_eq_true hb.2
    obtain ⟨b',C',q,g1,g2,i',r,g3,rfl,gI,gs,gp⟩:=hS.live hg (by simp)
    rw [hσ] at g1;cases g1
    rw [hc] at g3;cases g3
    have hvl:=relL_len hA
    refine ⟨_,_,_,_,run_yield g2 (by rw [gI.ps];simp;omega),?_⟩
    rw [gI.ps,gI.asg,gI.body]
    have hE0:ER i.n σ i.e (fun t=>r.tmps.getD t undef):=⟨gI.nl,gI.has,gI.tm⟩
    obtain ⟨ē1,hE1,hF1⟩:=fill_fr (ds:=[]) i.ps.toList args vs i.e _ { tmps:=r.tmps,defers:=[] } (by simpa using hal) hA hE0 ⟨gI.sz,fun _=>rfl,rfl⟩
    have etm:(i.ps.zip vs.toArray).foldl (fun t x=>t.setIfInBounds x.1 x.2) r.tmps=(i.ps.toList.zip vs).foldl (fun t x=>t.setIfInBounds x.1 x.2) r.tmps:=by
     rw [←Array.foldl_toList];simp
    refine roundIn_of_wpIn (F:=Fence.wide) trivial ?_
    rw [show (fun (tmps:Array Value) (x:Nat × Value)=>match x with | (t,a)=>tmps.setIfInBounds t a)=(fun t x=>t.setIfInBounds x.1 x.2) from rfl,etm]
    cases x with
    | x j=>cases h2
    | r=>cases h2
    | n=>
     simp only at h2
     refine hR W i.n (some l) ctx lk i.asg _ [] s .n e1 ds1 s1 h1 σ w ē1 _ [] (some b) _ hS hE1 hF1 rfl ⟨C,hσ⟩ ?_
     intro σ1 w1 ē2 a1 dc1 x1 x2 x3 x4 x5
     split at h2
     ·rename_i pd1 hg1
      simp only [Option.bind_eq_some_iff] at h2
      obtain ⟨⟨x,e2,ds2,s2⟩,h3,h4⟩:=h2
      obtain ⟨b1,C1,q1,k1,k2,i1,r1,k3,rfl,kI,ks,kp⟩:=x2.live hg1 (by simp)
      have hσ1:=x1.le _ _ hσ
      rw [hσ1] at k1;cases k1
      rw [hc] at k3;cases k3
      refine ⟨_,run_beginRound k2 ks,?_⟩
      obtain ⟨y1,y2⟩:=x2.put (o':=.loop .busy pd1) (q:=.loop { r1 with state:=.busy }) (w':=w1.putObj b (.loop { r1 with state:=.busy })) hg1 (by simp) hlk hσ1 (Mod.putObj w1 b _ rfl) (fun _=>World.putObj_heap_same (x2.rng l b C hσ1).2) fun _=>⟨i,_,hc,rfl,⟨kI.ps,kI.asg,kI.body,kI.sz,kI.nl,kI.has,kI.tm,kI.df⟩,rfl,kp⟩
      refine hR W i.n (some l) ctx lk i.body _ ds1 _ x e2 ds2 s2 h3 σ1 _ ē2 a1 dc1 (some b) _ y2 x3 x4 x5 ⟨C,hσ1⟩ ?_
      intro σ2 w2 ē3 a2 dc2 z1 z2 z3 z4 z5
      have hσ2:=z1.le _ _ hσ1
      split at h4
      ·rename_i st2 pd2 hg2
       obtain ⟨b2,C2,q2,m1,m2,i2,r2,m3,rfl,mI,ms,mp⟩:=z2.live hg2 (by simp)
       rw [hσ2] at m1;cases m1
       rw [hc] at m3;cases m3
       have fin:∀ (jump:Option Code) (st':LoopState) (pd':Option (Option Nat)) (bo:Bool),(if jump.isNone then LoopState.ready else .done)=st'→jump=pdC pd'→jump.isNone=bo→(a=.b bo∧s'=⟨hset s2.h l (.loop st' pd'),s2.nx⟩)→
         ∃ v w',(Instr.endRound b jump).run P w2=.ok v w'∧∃ v',(Ending.returned v)=.returned v'∧K v' w':=fun jump st' pd' bo e1 e2 e3 e4=>by
        obtain ⟨rfl,rfl⟩:=e4
        obtain ⟨u1,u2⟩:=z2.put (o':=.loop st' pd') (q:=.loop { r2 with state:=if jump.isNone then .ready else .done,pending:=jump }) (w':=w2.putObj b (.loop { r2 with state:=if jump.isNone then .ready else .done,pending:=jump })) hg2 (by simp) hlk hσ2 (Mod.putObj w2 b _ rfl) (fun _=>World.putObj_heap_same (z2.rng l b C hσ2).2) fun _=>⟨i,_,hc,rfl,⟨mI.ps,mI.asg,mI.body,mI.sz,mI.nl,mI.has,mI.tm,mI.df⟩,e1,e2⟩
        exact ⟨_,_,run_endRound jump m2,_,rfl,hK σ2 _ _ (((x1.trans y1).trans z1).trans u1) u2 (by rw [e3];rfl)⟩
       cases x with
       | n=>
        simp only [Option.some.injEq,Prod.mk.injEq] at h4
        exact fin none .ready none true rfl rfl rfl ⟨h4.1.symm,h4.2.symm⟩
       | r=>
        simp only [Option.some.injEq,Prod.mk.injEq] at h4
        exact fin (some .ret) .done (some none) false rfl rfl rfl ⟨h4.1.symm,h4.2.symm⟩
       | x j=>
        simp only [Option.some.injEq,Prod.mk.injEq] at h4
        exact fin (some (.exit j)) .done (some (some j)) false rfl rfl rfl ⟨h4.1.symm,h4.2.symm⟩
      ·cases h4
     ·cases h2
  ·cases h
theorem _root_.Go.K.Mod.below_grow {lk:List Nat} {σ:Sg} {w w':World} (h:Mod (lkM w.heap.size lk σ) w w'):Grow w w':=⟨h.os,h.tape,h.output,h.size,fun b hb _=>h.same b hb fun e=>by have:=e.1;omega⟩
theorem cget_other {i:LI} {x l:Nat} (h:x≠l):cget ((l,i) :: ctx) x=cget ctx x:=by
 simp only [cget]
 rw [nbf (fun e=>h e.symm)]
 rfl
theorem SR.addC {σ:Sg} {s:St} {w:World} {l:Nat} {i:LI} (h:SR glob B ctx lk σ s w) (hl:hget s.h l=none):SR glob B ((l,i) :: ctx) lk σ s w:=by
 refine ⟨h.srt,fun x o hx=>?_,h.dom,h.rng,h.inj,h.gl,h.lk,h.big⟩
 obtain ⟨b,C,e1,e2⟩:=h.obj x o hx
 refine ⟨b,C,e1,fun hd=>?_⟩
 obtain ⟨q,e3,e4⟩:=e2 hd
 refine ⟨q,e3,?_⟩
 have hxl:x≠l:=by rintro rfl;rw [hl] at hx;cases hx
 cases o with
 | loop st pd=>
  obtain ⟨j,r,f1,f2⟩:=e4
  exact ⟨j,r,by rw [cget_other hxl];exact f1,f2⟩
 | _=>exact e4
theorem SR.unctx {σ:Sg} {s:St} {w:World} {l:Nat} {i:LI} (h:SR glob B ((l,i) :: ctx) lk σ s w) (hl:hget s.h l=some .dead):SR glob B ctx lk σ s w:=by
 refine ⟨h.srt,fun x o hx=>?_,h.dom,h.rng,h.inj,h.gl,h.lk,h.big⟩
 obtain ⟨b,C,e1,e2⟩:=h.obj x o hx
 refine ⟨b,C,e1,fun hd=>?_⟩
 obtain ⟨q,e3,e4⟩:=e2 hd
 refine ⟨q,e3,?_⟩
 have hxl:x≠l:=by rintro rfl;rw [hl] at hx;cases hx;exact hd rfl
 cases o with
 | loop st pd=>
  obtain ⟨j,r,f1,f2⟩:=e4
  exact ⟨j,r,by rw [cget_other hxl] at f1;exact f1,f2⟩
 | _=>exact e4
theorem range_ok (hR:RecOk P glob B rec) (hok:GoodFns P ok) {W gf:Nat} {cs:List AV} {cap:List Value} {ps:Array Nat} {x y:Code} {e:T} {d db dC:Nat} {ds ds':List Nat} {s s':St} {xt:Xt} {e':T} {n:Nat} {σ:Sg} {w w1:World} {ē:Env} {a:Act} {mk:List Deferred} {dc:List Nat} {roc:Option Nat} {Q:Exit→Act→World→Prop} {g:Operand} (hgf:ok gf=true)
  (h:rangeC P glob rec W n ctx lk gf cs ps x y e d ds s=some (xt,e',ds',s')) (hS:SR glob B ctx lk σ s w1) (hE:ER n σ e ē) (hF:Fr (marksD dc) n ē { a with defers:=mk++a.defers }) (hD:DR σ ds dc) (hd:σ d=some (db,dC)) (hcap:relL σ cs cap) (hev:a.eval g=.func (.func gf) #[] cap.toArray)
  (hent:∀ fn,(Instr.enterLoop fn a.tmps ps x y roc).run P w=.ok (w1.heap.size,mk) (w1.alloc (.loop { state:=.ready,pending:=none,fn,tmps:=a.tmps,params:=ps,assign:=x,body:=y,defers:=db })))
  (hQ:∀ σ' w' ē' a' dc',Ext B lk σ w1 σ' w'→SR glob B ctx lk σ' s' w'→ER n σ' e' ē'→Fr (marksD dc') n ē' a'→DR σ' ds' dc'→Q xt.ex a' w'):(Code.rangeFunc g ps x y).wpIn (Wd roc) 0 P Q a w:=by
 simp only [rangeC,hsetS_eq,Option.bind_eq_some_iff] at h
 obtain ⟨s1,h1,⟨v,s2⟩,h2,h3⟩:=h
 refine wpIn_rangeFunc fun fn _=>?_
 have hne:hget s.h s.nx=none:=by
  simp only [newE,fO_eq,fN_eq,hinsS_eq,Option.bind_eq_some_iff] at h1
  obtain ⟨h',e1,_⟩:=h1
  obtain ⟨m,hm⟩:=hS.srt
  have hlt':hlt s.h (m+s.nx+1):=by
   exact hlt_mono hm (by omega)
  exact (hlt_ins hlt' (by omega) e1).2.1
 have hS':=hS.addC (i:=⟨n,e,ps,x,y,d⟩) hne
 have htm:∀ j,rel σ (tget e j) (a.tmps.getD j undef):=fun j=>by
  have h1:=hE.get j
  rw [←hF.get j] at h1
  exact h1
 obtain ⟨σ1,e1,x1,x2⟩:=new_ok' (q:=.loop { state:=.ready,pending:=none,fn,tmps:=a.tmps,params:=ps,assign:=x,body:=y,defers:=db }) hS' h1 (.inl rfl) 0 fun σ' hle _=>⟨⟨n,e,ps,x,y,d⟩,_,by simp [cget],rfl,⟨rfl,rfl,rfl,hF.size,hE.len,hE.has,fun j=>rel_le hle (htm j),dC,hle _ _ hd⟩,rfl,rfl⟩
 have hen:=hent fn
 generalize w1.alloc (.loop { state:=.ready,pending:=none,fn,tmps:=a.tmps,params:=ps,assign:=x,body:=y,defers:=db })=wl at hen x1 x2
 refine ⟨w1.heap.size,mk,wl,{ target:=.fn (.func gf) cap.toArray,args:=#[.func (.yield w1.heap.size) #[] #[]] },wl,gf,(.func (.yield w1.heap.size) #[] #[] :: cap).toArray,wl,hen,?_,fun _ _=>trivial,?_,(fun h=>by cases h),?_⟩
 ·simp only [resolve,hev]
  simp [go_sem]
 ·have:=hok gf hgf
  simp [invoke,go_sem]
  exact this _ _
 have hcall:callK P gf (.func (.yield w1.heap.size) #[] #[] :: cap) (fun v w'=>rangePost (Wd roc) 0 P w1.heap.size Q { a with defers:=mk++a.defers } (.returned v) w') wl:=by
  refine call_ok (ok:=ok) hR W gf _ s1 v s2 σ1 wl _ _ h2 hgf x2 ⟨_,_,rfl,⟨_,_,e1,rfl⟩,relL_le x1.le hcap⟩ ?_
  intro σ2 w2 u y1 y2 _
  split at h3
  ·rename_i st pd hg
   cases hb:(notBusy st && !memB lk s.nx) with
   | false=>simp only [hb,cond_false,reduceCtorEq] at h3
   | true=>
    simp only [hb,cond_true,Option.some.injEq,Prod.mk.injEq] at h3
    obtain ⟨rfl,rfl,rfl,rfl⟩:=h3
    simp only [Bool.and_eq_true,Bool.not_eq_true'] at hb
    obtain ⟨b2,C2,q2,m1,m2,i2,r2,m3,rfl,mI,ms,mp⟩:=y2.live hg (by simp)
    have hσ2:=y1.le _ _ e1
    rw [hσ2] at m1;cases m1
    have hnb:r2.state≠.busy:=by rw [ms];intro e;subst e;exact absurd hb.1 (by simp [notBusy])
    obtain ⟨u1,u2⟩:=y2.put (o':=.dead) (q:=.loop { r2 with state:=.exhausted }) (w':=w2.putObj w1.heap.size (.loop { r2 with state:=.exhausted })) hg (by simp) (memB_false.1 hb.2) hσ2 (Mod.putObj w2 _ _ rfl) (fun h=>(h rfl).elim) fun h=>(h rfl).elim
    have u3:=u2.unctx (by simp only [hget_set hg];simp)
    have hle:Le σ σ2:=x1.le.trans y1.le
    have fin:=hQ σ2 _ ē { a with defers:=mk++a.defers } dc ((x1.trans y1).trans u1) u3 (hE.le hle) hF (hD.le hle)
    refine ⟨_,_,run_endLoop m2 hnb,?_⟩
    rw [mp] at fin ⊢
    cases pd with
    | none=>exact fin
    | some j=>cases j with
     | none=>exact wpIn_ret fin
     | some i=>exact wpIn_exit fin
  ·cases h3
 refine (callsIn_wide.2 (Calls.mono hcall ?_):CallsIn Fence.wide _ _ _ _ _ _)
 rintro en w2 ⟨v,rfl,hh⟩
 exact hh
def CodeOk (P:Program) (glob:Nat→Nat→Option AV) (B:Nat) (c:Code) (f:Nat→Nat→Option Nat→List (Nat × LI)→List Nat→T→List Nat→St→Option RR):Prop:=
 ∀ (W n:Nat) (ro:Option Nat) (ctx:List (Nat × LI)) (lk:List Nat) (e:T) (ds:List Nat) (s:St) (x:Xt) (e':T) (ds':List Nat) (s':St),f W n ro ctx lk e ds s=some (x,e',ds',s')→
  ∀ (σ:Sg) (w:World) (ē:Env) (a:Act) (dc:List Nat) (roc:Option Nat) (Q:Exit→Act→World→Prop),SR glob B ctx lk σ s w→ER n σ e ē→Fr (marksD dc) n ē a→DR σ ds dc→RO σ ro roc→
   (∀ σ' w' ē' a' dc',Ext B lk σ w σ' w'→SR glob B ctx lk σ' s' w'→ER n σ' e' ē'→Fr (marksD dc') n ē' a'→DR σ' ds' dc'→Q x.ex a' w')→c.wpIn (Wd roc) 0 P Q a w
theorem loop_rounds {f:Nat→Nat→Option Nat→List (Nat × LI)→List Nat→T→List Nat→St→Option RR} {c:Code} (hR:CodeOk P glob B c f) {W n:Nat} {ro:Option Nat}:∀ (m:Nat) (e:T) (ds:List Nat) (s:St) (x:Xt) (e':T) (ds':List Nat) (s':St),loopC (fun e ds s=>f W n ro ctx lk e ds s) m e ds s=some (x,e',ds',s')→
  ∀ (σ:Sg) (w:World) (ē:Env) (a:Act) (dc:List Nat) (roc:Option Nat) (Q:Exit→Act→World→Prop),SR glob B ctx lk σ s w→ER n σ e ē→Fr (marksD dc) n ē a→DR σ ds dc→RO σ ro roc→
   (∀ σ' w' ē' a' dc',Ext B lk σ w σ' w'→SR glob B ctx lk σ' s' w'→ER n σ' e' ē'→Fr (marksD dc') n ē' a'→DR σ' ds' dc'→Q x.ex a' w')→Code.roundsIn (Wd roc) 0 P c Q m a w:=by
 intro m
 induction m with
 | zero=>intro e ds s x e' ds' s' h;cases h
 | succ m ih=>
  intro e ds s x e' ds' s' h σ w ē a dc roc Q hS hE hF hD hO hQ
  simp only [loopC,Option.bind_eq_some_iff] at h
  obtain ⟨⟨x1,e1,ds1,s1⟩,h1,h2⟩:=h
  rw [roundsIn_succ]
  refine hR W n ro ctx lk e ds s x1 e1 ds1 s1 h1 σ w ē a dc roc _ hS hE hF hD hO ?_
  intro σ1 w1 ē1 a1 dc1 x1' x2 x3 x4 x5
  cases x1 with
  | n=>exact ih e1 ds1 s1 x e' ds' s' h2 σ1 w1 ē1 a1 dc1 roc Q x2 x3 x4 x5 (hO.le x1'.le) fun σ' w' ē' a' dc' y1=>hQ σ' w' ē' a' dc' (x1'.trans y1)
  | x i=>
   simp only [Option.some.injEq,Prod.mk.injEq] at h2
   obtain ⟨rfl,rfl,rfl,rfl⟩:=h2
   exact hQ σ1 w1 ē1 a1 dc1 x1' x2 x3 x4 x5
  | r=>
   simp only [Option.some.injEq,Prod.mk.injEq] at h2
   obtain ⟨rfl,rfl,rfl,rfl⟩:=h2
   exact hQ σ1 w1 ē1 a1 dc1 x1' x2 x3 x4 x5
theorem step_ok (hok:GoodFns P ok) (hm:P.follows .mixedOrders=true) (hR:RecOk P glob B rec):∀ c,CodeOk P glob B c (stS P ok glob rec c):=by
 intro c
 induction c with
 | skip=>
  intro W n ro ctx lk e ds s x e' ds' s' h σ w ē a dc roc Q hS hE hF hD hO hQ
  simp only [stS,Option.some.injEq,Prod.mk.injEq] at h
  obtain ⟨rfl,rfl,rfl,rfl⟩:=h
  exact wpIn_skip (hQ σ w ē a dc Ext.refl hS hE hF hD)
 | label l=>
  intro W n ro ctx lk e ds s x e' ds' s' h σ w ē a dc roc Q hS hE hF hD hO hQ
  simp only [stS,Option.some.injEq,Prod.mk.injEq] at h
  obtain ⟨rfl,rfl,rfl,rfl⟩:=h
  exact wpIn_label (hQ σ w ē a dc Ext.refl hS hE hF hD)
 | exit id=>
  intro W n ro ctx lk e ds s x e' ds' s' h σ w ē a dc roc Q hS hE hF hD hO hQ
  simp only [stS,Option.some.injEq,Prod.mk.injEq] at h
  obtain ⟨rfl,rfl,rfl,rfl⟩:=h
  exact wpIn_exit (hQ σ w ē a dc Ext.refl hS hE hF hD)
 | ret=>
  intro W n ro ctx lk e ds s x e' ds' s' h σ w ē a dc roc Q hS hE hF hD hO hQ
  simp only [stS,Option.some.injEq,Prod.mk.injEq] at h
  obtain ⟨rfl,rfl,rfl,rfl⟩:=h
  exact wpIn_ret (hQ σ w ē a dc Ext.refl hS hE hF hD)
 | goto l=>intro W n ro ctx lk e ds s x e' ds' s' h;cases h
 | refuse y=>intro W n ro ctx lk e ds s x e' ds' s' h;cases h
 | region id ops draw=>
  intro W n ro ctx lk e ds s x e' ds' s' h σ w ē a dc roc Q hS hE hF hD hO hQ
  simp only [stS,Option.bind_eq_some_iff,Option.some.injEq,Prod.mk.injEq] at h
  obtain ⟨⟨e1,s1⟩,h1,rfl,rfl,rfl,rfl⟩:=h
  exact reg_ok (Q:=Q) hok hm (fun lk W=>call_ok hR W) (yield_ok hR W) h1 hS hE hF fun σ' w' ē' a' x1 x2 x3 x4=>hQ σ' w' ē' a' dc x1 x2 x3 x4 (hD.le x1.le)
 | seq c1 c2 ih1 ih2=>
  intro W n ro ctx lk e ds s x e' ds' s' h σ w ē a dc roc Q hS hE hF hD hO hQ
  simp only [stS,Option.bind_eq_some_iff] at h
  obtain ⟨⟨x1,e1,ds1,s1⟩,h1,h2⟩:=h
  refine wpIn_seq (ih1 W n ro ctx lk e ds s x1 e1 ds1 s1 h1 σ w ē a dc roc _ hS hE hF hD hO ?_)
  intro σ1 w1 ē1 a1 dc1 y1 y2 y3 y4 y5
  cases x1 with
  | n=>exact ih2 W n ro ctx lk e1 ds1 s1 x e' ds' s' h2 σ1 w1 ē1 a1 dc1 roc Q y2 y3 y4 y5 (hO.le y1.le) fun σ' w' ē' a' dc' z1=>hQ σ' w' ē' a' dc' (y1.trans z1)
  | x i=>
   simp only [Option.some.injEq,Prod.mk.injEq] at h2
   obtain ⟨rfl,rfl,rfl,rfl⟩:=h2
   exact hQ σ1 w1 ē1 a1 dc1 y1 y2 y3 y4 y5
  | r=>
   simp only [Option.some.injEq,Prod.mk.injEq] at h2
   obtain ⟨rfl,rfl,rfl,rfl⟩:=h2
   exact hQ σ1 w1 ē1 a1 dc1 y1 y2 y3 y4 y5
 | cond c c1 c2 ih1 ih2=>
  intro W n ro ctx lk e ds s x e' ds' s' h σ w ē a dc roc Q hS hE hF hD hO hQ
  simp only [stS] at h
  have hev:=hE.ev c
  split at h
  ·rename_i hc
   rw [hc] at hev
   exact wpIn_cond_true (by rw [hF.eval];exact hev) (ih1 W n ro ctx lk e ds s x e' ds' s' h σ w ē a dc roc Q hS hE hF hD hO hQ)
  ·rename_i hc
   rw [hc] at hev
   exact wpIn_cond_false (by rw [hF.eval];exact hev) (ih2 W n ro ctx lk e ds s x e' ds' s' h σ w ē a dc roc Q hS hE hF hD hO hQ)
  ·cases h
 | block id c1 ih=>
  intro W n ro ctx lk e ds s x e' ds' s' h σ w ē a dc roc Q hS hE hF hD hO hQ
  simp only [stS,Option.bind_eq_some_iff] at h
  obtain ⟨⟨x1,e1,ds1,s1⟩,h1,h2⟩:=h
  refine wpIn_block (ih W n ro ctx lk e ds s x1 e1 ds1 s1 h1 σ w ē a dc roc _ hS hE hF hD hO ?_)
  intro σ1 w1 ē1 a1 dc1 y1 y2 y3 y4 y5
  cases x1 with
  | n=>
   simp only [Option.some.injEq,Prod.mk.injEq] at h2
   obtain ⟨rfl,rfl,rfl,rfl⟩:=h2
   exact hQ σ1 w1 ē1 a1 dc1 y1 y2 y3 y4 y5
  | r=>
   simp only [Option.some.injEq,Prod.mk.injEq] at h2
   obtain ⟨rfl,rfl,rfl,rfl⟩:=h2
   exact hQ σ1 w1 ē1 a1 dc1 y1 y2 y3 y4 y5
  | x i=>
   simp only at h2
   show (if i=id then Q .normal a1 w1 else Q (.exit i) a1 w1)
   cases hb:Nat.beq i id with
   | true=>
    simp only [hb,cond_true,Option.some.injEq,Prod.mk.injEq] at h2
    obtain ⟨rfl,rfl,rfl,rfl⟩:=h2
    rw [if_pos (Nat.eq_of_beq_eq_true hb)]
    exact hQ σ1 w1 ē1 a1 dc1 y1 y2 y3 y4 y5
   | false=>
    simp only [hb,cond_false,Option.some.injEq,Prod.mk.injEq] at h2
    obtain ⟨rfl,rfl,rfl,rfl⟩:=h2
    rw [if_neg (by intro e1;subst e1;simp at hb)]
    exact hQ σ1 w1 ē1 a1 dc1 y1 y2 y3 y4 y5
 | loop c1 ih=>
  intro W n ro ctx lk e ds s x e' ds' s' h σ w ē a dc roc Q hS hE hF hD hO hQ
  exact wpIn_loop_rounds (rnd W) (loop_rounds ih (rnd W) e ds s x e' ds' s' h σ w ē a dc roc Q hS hE hF hD hO hQ)
 | scope c1 ih=>
  intro W n ro ctx lk e ds s x e' ds' s' h σ w ē a dc roc Q hS hE hF hD hO hQ
  simp only [stS] at h
  split at h
  ·have hro:roc=none:=by cases roc with
    | none=>rfl
    | some _=>exact hO.elim
   subst hro
   refine (wpIn_wide (n:=0)).2 (wp_scope_straight (wp_mono ((wpIn_wide (n:=0)).1 (ih W n none ctx lk e ds s x e' ds' s' h σ w ē a dc none (fun ex a' w'=>(∀ l,ex≠.goto l)∧Q ex a' w') hS hE hF hD trivial fun σ' w' ē' a' dc' z1 z2 z3 z4 z5=>⟨fun l=>by cases x <;> simp [Xt.ex],hQ σ' w' ē' a' dc' z1 z2 z3 z4 z5⟩)) ?_))
   rintro ex a' w' ⟨h1,h2⟩
   cases ex with
   | goto l=>exact absurd rfl (h1 l)
   | normal=>exact h2
   | exit i=>exact h2
   | ret=>exact h2
   | panic c=>exact h2
   | outgrown=>exact h2
  ·cases h
 | rangeFunc g ps x1 y1 _ _=>
  intro W n ro ctx lk e ds s x e' ds' s' h σ w ē a dc roc Q hS hE hF hD hO hQ
  simp only [stS,rgS] at h
  have hev:=hE.ev g
  split at h
  ·rename_i gf cs hg
   rw [hg] at hev
   obtain ⟨vf,cap,hf,hcap,hv⟩:=hev
   cases (show _=_ from hf)
   cases hgf:ok gf with
   | false=>simp only [hgf,cond_false,reduceCtorEq] at h
   | true=>
    simp only [hgf,cond_true] at h
    have hevg:a.eval g=.func (.func gf) #[] cap.toArray:=by rw [hF.eval];exact hv
    split at h
    ·have hro:roc=none:=by cases roc with
      | none=>rfl
      | some _=>exact hO.elim
     subst hro
     simp only [Option.bind_eq_some_iff] at h
     obtain ⟨s1,h1,h2⟩:=h
     obtain ⟨σ1,e1,z1,z2⟩:=new_ok' (q:=.deferred (some [])) hS h1 (.inl rfl) 0 fun σ' _ _=>rfl
     refine range_ok (n:=n) (σ:=σ1) (w1:=w.alloc (.deferred (some []))) (ē:=ē) (mk:=[{ target:=.collected w.heap.size,args:=#[] }]) (dc:=w.heap.size :: dc) (cap:=cap) hR hok hgf h2 z2 (hE.le z1.le) ⟨hF.size,hF.get,by simp [hF.defers,marksD]⟩ ⟨_,_,rfl,⟨_,e1⟩,hD.le z1.le⟩ e1 (relL_le z1.le hcap) hevg (fun fn=>?_) fun σ' w' ē' a' dc' y1=>hQ σ' w' ē' a' dc' (z1.trans y1)
     have:=run_enterLoop_outer (P:=P) (w:=w) fn a.tmps ps x1 y1
     rw [World.size_alloc]
     exact this
    ·rename_i l0
     split at h
     ·rename_i i0 hc
      split at h
      ·rename_i st pd hg0
       obtain ⟨b,C,q,m1,m2,i2,r2,m3,rfl,mI,ms,mp⟩:=hS.live hg0 (by simp)
       rw [hc] at m3;cases m3
       obtain ⟨C2,hdf⟩:=mI.df
       have hro:roc=some b:=by cases roc with
        | none=>exact hO.elim
        | some b'=>obtain ⟨C',hb'⟩:=hO;rw [m1] at hb';cases hb';rfl
       subst hro
       refine range_ok (n:=n) (σ:=σ) (w1:=w) (ē:=ē) (mk:=[]) (dc:=dc) (cap:=cap) hR hok hgf h hS hE (by simpa using hF) hD hdf hcap hevg (fun fn=>?_) hQ
       exact run_enterLoop_inner m2 fn a.tmps ps x1 y1
      ·cases h
     ·cases h
  ·cases h
theorem evC_ok (hok:GoodFns P ok) (hm:P.follows .mixedOrders=true):∀ k,RecOk P glob B (evC P ok glob k)
 | 0=>fun W n ro ctx lk c e ds s x e' ds' s' h=>by cases h
 | k+1=>fun W n ro ctx lk c e ds s x e' ds' s' h=>by
  rw [evC_eq] at h
  exact step_ok hok hm (evC_ok hok hm k) c W n ro ctx lk e ds s x e' ds' s' h
theorem run_ok (hok:GoodFns P ok) (hm:P.follows .mixedOrders=true) {k g W:Nat} {a:AV} {s:St} {w:World} {K:Cont} (hg:ok g=true) (h:callC P glob (evC P ok glob k) [] [] W g [] ⟨.nil,0⟩=some (a,s)) (hgl:∀ g o a,glob g o=some a→g < w.heap.size∧∃ v,w.cell? ⟨g,o,none⟩=some v∧rel (fun _=>none) a v)
  (hK:∀ σ w' v,Grow w w'→rel σ a v→K v w'):callK P g [] K w:=by
 refine call_ok (ok:=ok) (B:=w.heap.size) (evC_ok hok hm k) W g [] ⟨.nil,0⟩ a s (fun _=>none) w [] K h hg ⟨⟨0,trivial⟩,fun x o hx=>(by cases hx),fun x hx=>(by cases hx),fun x b C hx=>(by cases hx),fun x y o p b C C' hx=>(by cases hx),hgl,fun x hx=>(nomatch hx),Nat.le_refl _⟩ rfl ?_
 intro σ' w' v x1 _ x3
 exact hK σ' w' v (x1.mod.below_grow) x3
end
end Go.K
