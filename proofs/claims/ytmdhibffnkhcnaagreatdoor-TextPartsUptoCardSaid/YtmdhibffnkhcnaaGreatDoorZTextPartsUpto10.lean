/- parts of the proof, written short by a program of ours -/
import Derived.Test.YtmdhibffnkhcnaaGreatDoorZTextPartsUpto9
set_option linter.unusedSimpArgs false
set_option linter.unusedVariables false
namespace Go.Proofs.YtmdhibffnkhcnaaGreatDoor
open Go Go.K Proofs.Tryz
theorem Ry{r:Int}{w:World}:AB prog 249 [.int .i32 r] (fun v' w'=>v'=.bool (decide (Du r))/\w'=w) w:=by
 apply Wn;have key:∀{b:Bool},(b=true↔Du r)->Value.bool b=.bool (decide (Du r))/\w=w:=fun h=>⟨by congr 1;rw[Bool.eq_iff_iff,h,decide_eq_true_eq],rfl⟩;unfold Du at key ⊢;rw[HR];refine AE (fun h0=>?_) fun h0=>?_
 .rw[Av];refine AE (fun h1=>key (by simp;omega)) fun h1=>?_;rw[Av];refine AE (fun i=>?_) fun i=>key (by simp;omega);rw[HR];exact AE (fun j=>key (by simp;omega)) fun j=>key (by simp;omega)
 .rw[Av];refine AE (fun i=>?_) fun i=>key (by simp;omega);rw[HR];exact AE (fun j=>key (by simp;omega)) fun j=>key (by simp;omega)
theorem Ui{r:Int}{w:World}:AB prog 194 [.int .i32 r] (fun v' w'=>v'=.bool (decide (Du r))/\w'=w) w:=by
 apply YC;exact Ry
theorem R7{S:Nat->Prop}{v:Value}{l:List Int}{w:World}(h:Lf S w v l) :
  AB prog 224 [v,.func (.func 280) #[] #[]] (fun v' w'=>v'=.bool (!decide (∀r∈l,Du r))/\w'=w) w:=by
 apply RC;refine AA (K:=fun v' w'=>w'=w/\((v'=.int .i64 (-1)/\∀r∈l,Du r)\/∃i:Nat,v'=.int .i64 i/\¬∀r∈l,Du r)) ?_ ?_
 .apply Qq;obtain⟨a,c,rfl,hm⟩:=h.shape;simp only[maxLen] at hm;rw[AT];refine Af (fun vs W=>∃i:Nat,i<=l.length/\vs=[.int .i64 i]/\W=w/\∀c∈l.take i,Du c) (fun vs _=>l.length-EF vs 0) ⟨0,Nat.zero_le _,rfl,rfl,by simp⟩ ?_;rintro vs _ ⟨i,I,rfl,rfl,j⟩ _;rename World=>w
  rw[CM,List.headD_cons,Av];refine AE (fun y=>?_) fun B=>?_
  .have o:i<l.length:=by omega
   obtain⟨q,r,rfl,_,hr,hc,rfl⟩:=h.get o;refine Ab o (AL (by have:=hc 0 _ rfl;exact this) ?_);refine HB (by kernel_rfl) ?_;apply XG;refine AA Ui ?_;rintro _ _ ⟨rfl,rfl⟩;rename World=>w
   rw[An];by_cases x:Du l[i]
   .rw[decide_eq_true x];refine AS ?_;rw[AR,AQ (by omega)];refine⟨⟨i+1,o,rfl,rfl,fun c hc=>?_⟩,by rw[DI,DI];omega⟩;rw[List.take_add_one,List.getElem?_eq_getElem o] at hc;rcases List.mem_append.1 hc with hc|hc
    .exact j c hc
    .simp at hc;subst hc;exact x
   .rw[decide_eq_false x];exact Ao ⟨rfl,.inr ⟨i,rfl,fun j=>x (j _ (List.getElem_mem o))⟩⟩
  .have:i=l.length:=by omega
   subst this;exact⟨rfl,.inl ⟨rfl,fun c hc=>j c (by rw[List.take_length];exact hc)⟩⟩
 .rintro _ _ ⟨rfl,⟨rfl,j⟩|⟨i,rfl,E⟩⟩
  .rw[Da];exact⟨by rw[decide_eq_true j];rfl,rfl⟩
  .rw[Da];exact⟨by rw[decide_eq_false E,decide_eq_true (by omega:(i:Int) ≥ 0)];rfl,rfl⟩
def Jk(o:Dop):Prop:=(o.kind=1/\o.BA=[]/\o.set=[])\/(o.kind=3/\o.BA=[]/\o.set=[]/\o.patch=[])\/(o.kind=2/\o.n=0/\o.patch=[]/\∀r∈o.BA,Du r)
instance (o:Dop):Decidable (Jk o):=by unfold Jk;infer_instance
theorem Hb(o:Dop):FI o↔Jk o/\1<=Lk o/\Lk o<=536870912:=by
 unfold FI Jk Lk;constructor
 .rintro(⟨h1,i,j,y,x⟩|⟨h1,i,j,y,x,B⟩|⟨h1,i,j,y,x,B⟩)
  .exact⟨.inl ⟨h1,i,j⟩,by rw[h1,if_neg (by decide)];exact y,by rw[h1,if_neg (by decide)];exact x⟩
  .exact⟨.inr (.inl ⟨h1,i,j,y⟩),by rw[h1,if_neg (by decide)];exact x,by rw[h1,if_neg (by decide)];exact B⟩
  .exact⟨.inr (.inr ⟨h1,j,y,i⟩),by rw[if_pos h1];omega,by rw[if_pos h1];omega⟩
 .rintro⟨⟨h1,i,j⟩|⟨h1,i,j,y⟩|⟨h1,i,j,y⟩,x,B⟩
  .rw[h1,if_neg (by decide)] at x B;exact .inl ⟨h1,i,j,x,B⟩
  .rw[h1,if_neg (by decide)] at x B;exact .inr (.inl ⟨h1,i,j,y,x,B⟩)
  .rw[if_pos h1] at x B;exact .inr (.inr ⟨h1,y,i,j,by omega,by omega⟩)
theorem Sq{D:Nat->Prop}{r:List Value}{o:Dop}{w:World}(h:Jy D w r o) :
  AB prog 239 [.agg r.toArray] (fun v w'=>v=.bool (decide (Jk o))/\Grow w w') w:=by
 apply XI;have O:=h.one;obtain⟨V,sv,X,rfl,h1,Q,S⟩:=h;refine Db fun b j _ Y g hc _=>?_;have B:=h1.grow g (by decide) fun _ _ h=>h;obtain⟨Z,c1,rfl,m1⟩:=h1.shape;obtain⟨a2,c2,rfl,m2⟩:=Q.shape;obtain⟨a3,c3,rfl,m3⟩:=S.shape;have key:∀{x:Bool},(x=true↔Jk o)->Value.bool x=.bool (decide (Jk o))/\Grow w j:=fun h=>⟨by congr 1;rw[Bool.eq_iff_iff,h,decide_eq_true_eq],g⟩;unfold Jk at key ⊢;refine AU (fun vs w2=>w2=j/\vs=[.bool (decide (¬(o.BA=[]/\o.set=[])))]) ?_ ?_;rotate_left
 .rw[AG];refine AL (hc 2 _ rfl) ?_;rw[AT,BL];refine AE (fun e=>?_) fun e=>?_
  .refine⟨rfl,?_⟩;rw[decide_eq_true];rintro⟨T,_⟩;rw[T] at e;simp at e
  .have U:o.BA=[]:=List.eq_nil_of_length_eq_zero (by omega);rw[AG];refine AL (hc 3 _ rfl) ?_;rw[AT,BL];refine⟨rfl,?_⟩;congr 2
   rw[decide_eq_decide];constructor
   .rintro y ⟨_,E⟩;rw[E] at y;simp at y
   .intro y;have:o.set≠[]:=fun E=>y ⟨U,E⟩;have:=List.length_pos_iff.2 this;omega
 rintro _ _ ⟨rfl,rfl⟩ _;rename World=>j
 rw[CM,List.headD_cons,AG];refine AL (hc 0 _ rfl) ?_;rw[Am];refine AE (fun k1=>?_) fun k1=>?_
 .rw[An];refine key ?_;simp only[k1,decide_not,Bool.not_not,decide_eq_true_eq];constructor
  .exact fun h=>.inl ⟨trivial,h⟩
  .rintro(h|h|h)
   .exact h.2
   .omega
   .omega
 rw[Am];refine AE (fun I=>?_) fun I=>?_
 .rw[An];by_cases i:o.BA=[]/\o.set=[]
  .rw[show(!decide ¬(o.BA=[]/\o.set=[]))=true by simp[i]];refine Ao ?_;rw[AG];refine AL (hc 4 _ rfl) ?_;rw[AT,Am];refine key ?_;rw[decide_eq_true_eq,bH];constructor
   .exact fun h=>.inr (.inl ⟨I,i.1,i.2,h⟩)
   .rintro(h|h|h)
    .omega
    .exact h.2.2.2
    .omega
  .rw[show(!decide ¬(o.BA=[]/\o.set=[]))=false by simp[i]];refine AS (key ?_);simp only[Bool.false_eq_true,false_iff];rintro(h|h|h)
   .omega
   .exact i ⟨h.2.1,h.2.2.1⟩
   .omega
 rw [Am];refine AE (fun k2=>?_) fun k2=>key (by simp only [Bool.false_eq_true,false_iff];rintro (h | h | h) <;> omega);rw [AG];refine AL (hc 1 _ rfl) ?_;rw [Am];refine AE (fun J=>?_) fun J=>key (by simp only [Bool.false_eq_true,false_iff];rintro (h | h | h) <;> omega);rw [AG];refine AL (hc 4 _ rfl) ?_;rw [AT,Am];refine AE (fun hp=>?_) fun hp=>key (by
  simp only[Bool.false_eq_true,false_iff];rintro(h|h|h)
  .omega
  .omega
  .exact hp (bH.2 h.2.2.1))
 rw[bH] at hp;rw[AG];refine AL (hc 2 _ rfl) ?_;refine AA (R7 B) ?_;rintro _ _ ⟨rfl,rfl⟩;rename World=>j
 rw[An,Bool.not_not];refine key ?_;rw[decide_eq_true_eq];constructor
 .exact fun h=>.inr (.inr ⟨k2,J,hp,h⟩)
 .rintro(h|h|h)
  .omega
  .omega
  .exact h.2.2.2
theorem Kg{D:Nat->Prop}{r:List Value}{o:Dop}{w:World}(h:Jy D w r o) :
  AB prog 155 [.agg r.toArray] (fun v w'=>v=.int .i64 (Lk o)/\Grow w w') w:=by
 apply WV;obtain⟨i,sv,j,rfl,h1,x,y⟩:=h;obtain⟨B,c1,rfl,E⟩:=h1.shape;refine Db fun b I _ J g hc _=>?_;rw[AG];refine AL (hc 0 _ rfl) ?_;rw[Am];refine AE (fun k1=>?_) fun k1=>?_
 .rw[AG];refine AL (hc 2 _ rfl) ?_;rw[AT];exact⟨by rw[Lk,if_pos k1],g⟩
 .rw[AG];refine AL (hc 1 _ rfl) ?_;exact⟨by rw[Lk,if_neg k1],g⟩
theorem JO{S D:Nat->Prop}{v:Value}{x:List Dop}{w:World}(h:Bi S D w v x) :
  AB prog 81 [v] (fun v' w'=>v'=.int .i64 (Cg B0 x)/\Grow w w') w:=by
 apply aU;obtain⟨a,c,rfl,hm⟩:=h.shape;simp only[maxLen] at hm;rw[AT];refine Af (fun vs E=>∃k:Nat,k<=x.length/\vs=[.int .i64 (Cg B0 (x.take k)),.int .i64 k]/\Grow w E) (fun vs _=>x.length-EF vs 1) ⟨0,Nat.zero_le _,rfl,Mod.refl _ _⟩ ?_;rintro vs E ⟨k,hk,rfl,g⟩ _;simp only[GJ];refine Hq (fun J=>?_) fun O=>?_
 .have i:k<x.length:=by omega
  obtain⟨p,r,rfl,Q,hr,hc,o⟩:=(Bi.grow h g).get i;refine Ab i (Ah hr (fun j u hu=>by rw[Addr.add_add];exact hc j u hu) ?_);refine BO hr rfl o.one fun b w2 hb T I y _=>?_;obtain⟨U,sv,V,rfl,h1,X,Y⟩:=o;rw[AG];refine AL (y 0 _ rfl) ?_;rw[Bg];refine AY (fun e=>?_) fun e=>?_
  .rw[AR,AQ (by omega)];refine⟨⟨k+1,i,?_,g.trans I⟩,by rw[BJ,BJ];omega⟩;rw[Ez i,B0,if_pos e,Int.add_zero];have:IntKind.i64.wrap (Cg B0 (x.take k))=Cg B0 (x.take k):=by
    by_cases h0:k=0
    .subst h0;simp[Cg];rfl
    .obtain⟨B,rfl⟩:∃B,k=B+1:=⟨k-1,by omega⟩;rw[Ez (by omega)];have:=KG (Cg B0 (x.take B)+B0 x[B]);rw[wrap64 (by omega) (by omega)]
   rw[this]
  .rw[AG];refine AL (y 1 _ rfl) ?_;rw[AR,AR,AQ (by omega)];refine⟨⟨k+1,i,?_,g.trans I⟩,by rw[BJ,BJ];omega⟩;rw[Ez i,B0,if_neg e]
 .have:k=x.length:=by omega
  subst this;rw[List.take_length];exact⟨rfl,g⟩
theorem MH{S D:Nat->Prop}{v:Value}{x:List Dop}{w:World}(h:Bi S D w v x) :
  AB prog 84 [v] (fun v' w'=>v'=.int .i64 (Cg CO x)/\Grow w w') w:=by
 apply bK;obtain⟨a,c,rfl,hm⟩:=h.shape;simp only[maxLen] at hm;rw[AT];refine Af (fun vs J=>∃k:Nat,k<=x.length/\vs=[.int .i64 (Cg CO (x.take k)),.int .i64 k]/\Grow w J) (fun vs _=>x.length-EF vs 1) ⟨0,Nat.zero_le _,rfl,Mod.refl _ _⟩ ?_;rintro vs J ⟨k,hk,rfl,g⟩ _;simp only[GJ];refine Hq (fun O=>?_) fun Q=>?_
 .have i:k<x.length:=by omega
  obtain⟨p,r,rfl,U,hr,hc,o⟩:=(Bi.grow h g).get i;refine Ab i (Ah hr (fun j u hu=>by rw[Addr.add_add];exact hc j u hu) ?_);refine BO hr rfl o.one fun b w2 hb V I y _=>?_;have B:=o.mod (D':=D) I (fun _ _ _ h=>h) fun _ _ h=>h;obtain⟨X,sv,Y,rfl,h1,Z,h3⟩:=id o;rw[AG];refine AL (y 0 _ rfl) ?_;rw[Bg];refine AY (fun e=>?_) fun e=>?_
  .rw[AR,AQ (by omega)];refine⟨⟨k+1,i,?_,g.trans I⟩,by rw[BJ,BJ];omega⟩;rw[Ez i,CO,if_pos e,Int.add_zero];have:IntKind.i64.wrap (Cg CO (x.take k))=Cg CO (x.take k):=by
    by_cases h0:k=0
    .subst h0;simp[Cg];rfl
    .obtain⟨E,rfl⟩:∃E,k=E+1:=⟨k-1,by omega⟩;rw[Ez (by omega)];have:=KG (Cg CO (x.take E)+CO x[E]);rw[wrap64 (by omega) (by omega)]
   rw[this]
  .refine Ah hr y ?_;refine AA (Kg B) ?_;rintro _ w3 ⟨rfl,T⟩;rw[AR,AR,AQ (by omega)];refine⟨⟨k+1,i,?_,(g.trans I).trans T⟩,by rw[BJ,BJ];omega⟩;rw[Ez i,CO,if_neg e]
 .have:k=x.length:=by omega
  subst this;rw[List.take_length];exact⟨rfl,g⟩
theorem NM{α:Type}{p q:Prop}[Decidable p][Decidable q]{a b:α}(h:p↔q):(if p then a else b)=if q then a else b:=by
 by_cases hp:p
 .rw[if_pos hp,if_pos (h.1 hp)]
 .rw[if_neg hp,if_neg fun i=>hp (h.2 i)]
def PZ(c:Chg):Prop:=(c.gone=true/\c.val≠BE.zero)\/(c.gone=false/\¬DK c.val)
def Ye(ks:List DKey)(c:Chg):Prop:=BX ks c.key=none\/(c.gone=false/\¬Gv ks c.key c.val)
set_option maxRecDepth 20000 in
open Classical in
theorem UB{D S:Nat->Prop}{sv v:Value}{ks:List DKey}{p:List Chg}{w:World}(hS:DG D w sv ks)(h:Hj S w v p)(hT:EV w)(hI:∀c∈p,0<=c.val.f) :
  AB prog 240 [sv,v] (fun v' w'=>v'=.int .i64 (DB ks p)/\Grow w w') w:=by
 apply XW;obtain⟨a,c,rfl,hm⟩:=h.shape;simp only[maxLen] at hm;have bad:∀w',Grow w w'->KO p->Value.int .i64 3=.int .i64 (DB ks p)/\Grow w w':=fun w' g hb=>⟨by rw[DB,if_pos hb],g⟩;rw[AT,BL];refine AE (fun h6=>bad _ (Mod.refl _ _) (.inr (.inl (by omega)))) fun h6=>?_;rw[AT];refine Af (fun vs W=>∃i:Nat,i<=p.length/\vs=[.int .i64 (if GU ks (p.take i) then 4 else 0),.int .i64 i]/\Grow w W/\(∀a∈p.take i,¬PZ a)/\Lh Chg.key p i) (fun vs _=>p.length-EF vs 1)
  ⟨0,Nat.zero_le _,by rw[if_neg (by rintro⟨a,ha,_⟩;simp at ha)];rfl,Mod.refl _ _,by simp,fun j hj=>by omega⟩ ?_
 rintro vs W ⟨i,hi,rfl,g,hv,a1⟩ _;simp only[GJ];refine Hq (fun ax=>?_) fun a6=>?_;rotate_left
 .have:i=p.length:=by omega
  subst this;rw[List.take_length] at hv ⊢;refine⟨?_,g⟩;have E:¬KO p:=by
   rintro(O|O|⟨c,hc,O⟩)
   .exact O a1
   .omega
   .exact hv c hc O
  unfold DB;rw[if_neg E]
 have o:i<p.length:=by omega
 have Q:=List.getElem_mem o;have a8:=hI p[i] Q;have e1:p.take (i+1)=p.take i++[p[i]]:=by rw[List.take_add_one,List.getElem?_eq_getElem o];rfl
 have T:GU ks (p.take (i+1))↔GU ks (p.take i)\/Ye ks p[i]:=by
  unfold GU Ye;rw[e1];constructor
  .rintro⟨a,ha,O⟩;rcases List.mem_append.1 ha with ha|ha
   .exact .inl ⟨a,ha,O⟩
   .simp at ha;subst ha;exact .inr O
  .rintro(⟨a,ha,O⟩|O)
   .exact⟨a,List.mem_append_left _ ha,O⟩
   .exact⟨p[i],List.mem_append_right _ (List.mem_singleton.2 rfl),O⟩
 refine AU (fun vs W2=>Grow w W2/\vs=[.int .i64 (if GU ks (p.take (i+1)) then 4 else 0)]/\¬PZ p[i]/\Lh Chg.key p (i+1)) ?_ ?_
 .rintro vs W2 ⟨g2,rfl,E,hr⟩ _;simp only[GJ];rw[AR,AQ (by omega)];refine⟨⟨i+1,o,rfl,g2,fun a ha=>?_,hr⟩,by rw[BJ,BJ];omega⟩;rw[e1] at ha;rcases List.mem_append.1 ha with ha|ha
  .exact hv a ha
  .simp at ha;subst ha;exact E
 obtain⟨q,r,rfl,_,hr,hc,rfl⟩:=(h.grow g (by decide) fun _ _ h=>h).get o;refine Ab o (Ah hr (fun j u hu=>by rw[Addr.add_add];exact hc j u hu) ?_);refine BO (vs:=p[i].cells) rfl rfl (Hm.one (w:=w) (x:=p[i]) rfl) fun b7 W1 ay b0 g7 ak _=>?_;rw[AG];refine AL (ak 0 _ rfl) ?_;refine AA (Iu (hS.grow (g.trans g7)) p[i].key) ?_;rintro _ W2 ⟨rfl,g2⟩;refine BK ?_;refine BO (vs:=((BX ks p[i].key).getD DKey.zero).cells) rfl rfl (Fy.one (w:=W2) (x:=(BX ks p[i].key).getD DKey.zero) rfl) fun b8 W3 b1 b2 g3 _ _=>?_;have B:=((g.trans g7).trans g2).trans g3;have U:∀j u,p[i].cells[j]?=some u->W3.cell? ((⟨b7,0,none⟩:Addr).add j)=some u:=fun j u hu=>(g2.trans g3).cell (ak j u hu) fun h=>h;have V:p[i].cells[1]?=some (.bool p[i].gone):=rfl;have a7:∀j u,p[i].val.cells[j]?=some u->p[i].cells[2+j]?=some u:=fun j u hu=>by rw[Nat.add_comm];exact hu
 refine AU (fun vs W4=>Grow W3 W4/\((vs=[.bool true]/\KO p)\/(vs=[.bool false]/\¬PZ p[i]/\Lh Chg.key p (i+1)))) ?_ ?_
 .rintro vs W4 ⟨y,⟨rfl,hb⟩|⟨rfl,E,I⟩⟩ _
  .exact Ao (bad _ (B.trans y) hb)
  refine AS ?_;rw[An];cases hk:BX ks p[i].key with
  |none=>
   refine Ao ⟨B.trans y,?_,E,I⟩;rw[if_pos (T.2 (.inr (.inl hk)))]
  |some k=>
   refine AS ?_;rw[AG];refine AL (y.cell (U 1 _ V) fun h=>h) ?_;rw[An];cases X:p[i].gone with
   |true=>
    refine AS ⟨B.trans y,?_,E,I⟩;congr 2
    refine NM ?_;rw[T];constructor
    .exact .inl
    .rintro(h|h|h)
     .exact h
     .rw[hk] at h;cases h
     .rw[X] at h;cases h.1
   |false=>
    refine Ao ?_;rw[AG];refine AL (y.cell (U 0 _ rfl) fun h=>h) ?_;rw[AG];refine Ah (vs:=p[i].val.cells) rfl (fun j u hu=>y.cell (by rw[Addr.add_add];exact U (2+j) u (a7 j u hu)) fun h=>h) ?_;refine AA (Nz (hS.grow (B.trans y)) (hT.grow (B.trans y)) a8) ?_;rintro _ W5 ⟨rfl,g5⟩;rw[An];by_cases J:Gv ks p[i].key p[i].val
    .rw[decide_eq_true J];refine AS ⟨(B.trans y).trans g5,?_,E,I⟩;congr 2
     refine NM ?_;rw[T];constructor
     .exact .inl
     .rintro(h|h|h)
      .exact h
      .rw[hk] at h;cases h
      .exact(h.2 J).elim
    .rw[decide_eq_false J];refine Ao ⟨(B.trans y).trans g5,?_,E,I⟩;rw[if_pos (T.2 (.inr (.inr ⟨X,J⟩)))]
 refine AU (fun vs W4=>Grow W3 W4/\((vs=[.bool true]/\KO p)\/(vs=[.bool false]/\Lh Chg.key p (i+1)))) ?_ ?_
 .rintro vs W4 ⟨y,⟨rfl,hb⟩|⟨rfl,I⟩⟩ _
  .exact Ao ⟨y,.inl ⟨rfl,hb⟩⟩
  refine AS ?_;rw[AG];refine AL (y.cell (U 1 _ V) fun h=>h) ?_;cases X:p[i].gone with
  |true=>
   refine Ao ?_;rw[AG];refine Ah (vs:=p[i].val.cells) rfl (fun j u hu=>y.cell (by rw[Addr.add_add];exact U (2+j) u (a7 j u hu)) fun h=>h) ?_;refine⟨BE.zero.cells.toArray,by kernel_rfl,?_⟩;refine Ai (Ph _ _ p[i].val BE.zero W4) ?_;by_cases hz:p[i].val=BE.zero
   .rw[decide_eq_true hz];refine AS ?_;rw[AG];refine AL (y.cell (U 1 _ V) fun h=>h) ?_;rw[An,X];refine AS ⟨y,.inr ⟨rfl,?_,I⟩⟩;rintro(h|h)
    .exact h.2 hz
    .rw[X] at h;cases h.1
   .rw[decide_eq_false hz];exact Ao ⟨y,.inl ⟨rfl,.inr (.inr ⟨p[i],Q,.inl ⟨X,hz⟩⟩)⟩⟩
  |false=>
   refine AS ?_;rw[AG];refine AL (y.cell (U 1 _ V) fun h=>h) ?_;rw[An,X];refine Ao ?_;rw[AG];refine Ah (vs:=p[i].val.cells) rfl (fun j u hu=>y.cell (by rw[Addr.add_add];exact U (2+j) u (a7 j u hu)) fun h=>h) ?_;refine AA (Mh (hT.grow (B.trans y)) a8) ?_;rintro _ W5 ⟨rfl,g5⟩;rw[An];refine⟨y.trans g5,?_⟩;by_cases Y:DK p[i].val
   .refine .inr ⟨by rw[decide_eq_true Y];rfl,?_,I⟩;rintro(h|h)
    .rw[X] at h;cases h.1
    .exact h.2 Y
   .exact .inl ⟨by rw[decide_eq_false Y];rfl,.inr (.inr ⟨p[i],Q,.inr ⟨X,Y⟩⟩)⟩
 refine CZ (fun W=>Grow W3 W) (Mod.drew _ _) ?_;rw[BL];refine AE (fun an=>?_) fun an W4 y=>⟨y,.inr ⟨rfl,fun j hj=>by omega⟩⟩;rw[A6,wrap64 (by omega) (by omega),show((i:Int)-1)=((i-1:Nat):Int) by omega];have Z:i-1<p.length:=by omega
 obtain⟨_,r2,e2,_,b3,av,rfl⟩:=(h.grow B (by decide) fun _ _ h=>h).get Z;cases e2;refine Ab Z ?_;rw[AG,Addr.add_add];refine Au (fun W hW=>hW.cell (av 0 _ rfl) fun h=>h) ?_;rw[AG];refine Au (fun W hW=>hW.cell (U 0 _ rfl) fun h=>h) ?_;rw[Da];intro W4 y;by_cases a6:p[i-1].key ≥ p[i].key
 .rw[decide_eq_true a6];refine⟨y,.inl ⟨rfl,.inl fun al=>?_⟩⟩;have:=al i (by omega) o _ _ (List.getElem?_eq_getElem Z) (List.getElem?_eq_getElem o);omega
 .rw[decide_eq_false a6];refine⟨y,.inr ⟨rfl,fun j h1 h2 a b ha hb=>?_⟩⟩;by_cases e:j=i
  .subst e;rw[List.getElem?_eq_getElem Z] at ha;rw[List.getElem?_eq_getElem o] at hb;cases ha;cases hb;omega
  .exact a1 j h1 (by omega) a b ha hb
def dD(o:Dop):Prop:=(∀a∈o.set,0<=a.val.f)/\∀c∈o.patch,0<=c.val.f
open Classical in
noncomputable def Hh(ks:List DKey)(o:Dop):Int:=if ¬FI o then 3 else if Bb ks o.set≠0 then Bb ks o.set else DB ks o.patch
open Classical in
theorem Xd{E D:Nat->Prop}{sv:Value}{ks:List DKey}{r:List Value}{o:Dop}{w:World}(S:DG E w sv ks)(h:Jy D w r o)(T:EV w)(U:dD o) :
  AB prog 153 [sv,.agg r.toArray] (fun v w'=>v=.int .i64 (Hh ks o)/\Grow w w') w:=by
 apply We;refine Db fun b V _ I g hc _=>?_;have y:r.length=5:=by obtain⟨_,_,_,rfl,_⟩:=h;rfl
 have h1:=h.mod (D':=D) g (fun _ _ _ h=>h) fun _ _ h=>h;refine AU (fun vs w2=>Grow V w2/\FI o) ?_ ?_
 .rintro vs w2 ⟨i,B⟩ _;obtain⟨rv,uv,pv,rfl,q1,X,Y⟩:=h1.mod (D':=D) i (fun _ _ _ h=>h) fun _ _ h=>h;rw[AG];refine AL (i.cell (hc 3 _ rfl) fun h=>h) ?_;refine AA (Q6 (S.grow (g.trans i)) X (T.grow (g.trans i)) U.1) ?_;rintro _ Z ⟨rfl,x⟩;rw[Bg];have e0:Hh ks o=if Bb ks o.set≠0 then Bb ks o.set else DB ks o.patch:=by rw[Hh,if_neg (not_not_intro B)]
  refine AY (fun I=>?_) fun I=>⟨by rw[e0,if_pos I],(g.trans i).trans x⟩;rw[AG];refine AL ((i.trans x).cell (hc 4 _ rfl) fun h=>h) ?_;refine AA (UB (S.grow ((g.trans i).trans x)) (Y.grow x (by decide) fun _ _ h=>h) (T.grow ((g.trans i).trans x)) U.2) ?_;rintro _ w4 ⟨rfl,J⟩;exact⟨by rw[e0,if_neg (not_not_intro I)],((g.trans i).trans x).trans J⟩
 have O:∀w',Grow V w'->¬FI o->Value.int .i64 3=.int .i64 (Hh ks o)/\Grow w w':=fun w' g' hn=>⟨by rw[Hh,if_pos hn],g.trans g'⟩;refine Ah y hc ?_;refine AA (Sq h1) ?_;rintro _ w2 ⟨rfl,i⟩;rw[An];refine AY (fun hp=>?_) fun hp=>O _ i fun B=>hp ((Hb o).1 B).1;refine Ah y (fun j u hu=>i.cell (hc j u hu) fun h=>h) ?_;refine AA (Kg (h1.mod (D':=D) i (fun _ _ _ h=>h) fun _ _ h=>h)) ?_;rintro _ Z ⟨rfl,x⟩;rw[Av];refine AE (fun hl=>O _ (i.trans x) fun B=>by have:=((Hb o).1 B).2.1;omega) fun hl=>?_;refine Ah y (fun j u hu=>(i.trans x).cell (hc j u hu) fun h=>h) ?_;refine AA (Kg (h1.mod (D':=D) (i.trans x) (fun _ _ _ h=>h) fun _ _ h=>h)) ?_;rintro _ w4 ⟨rfl,J⟩;rw[BL];refine AE (fun Q=>O _ ((i.trans x).trans J) fun B=>by have:=((Hb o).1 B).2.2;omega) fun Q=>⟨(i.trans x).trans J,(Hb o).2 ⟨hp,by omega,by omega⟩⟩
theorem LP(ks:List DKey):Bb ks []=0:=GN.2 HS
theorem QA(ks:List DKey):DB ks []=0:=IX.2 HT
theorem Tt(ks:List DKey)(l:List Attr):Bb ks l=0\/Bb ks l=3\/Bb ks l=4:=by
 unfold Bb;split
 .exact .inr (.inl rfl)
 .split
  .exact .inr (.inr rfl)
  .exact .inl rfl
theorem VB(ks:List DKey)(l:List Chg):DB ks l=0\/DB ks l=3\/DB ks l=4:=by
 unfold DB;split
 .exact .inr (.inl rfl)
 .split
  .exact .inr (.inr rfl)
  .exact .inl rfl
theorem VU(ks:List DKey)(o:Dop):(Hh ks o=3↔¬FI o\/Bb ks o.set=3\/DB ks o.patch=3)/\(Hh ks o=0\/Hh ks o=3\/Hh ks o=4)/\(Hh ks o≠3->(Hh ks o=0↔Bb ks o.set=0/\DB ks o.patch=0)):=by
 have v1:=Tt ks o.set;have v2:=VB ks o.patch;by_cases i:FI o
 .have x:Bb ks o.set=0\/DB ks o.patch=0:=by
   rcases i with⟨_,_,h,_⟩|⟨_,_,h,_⟩|⟨_,_,_,h,_⟩
   .left;rw[h];exact LP ks
   .left;rw[h];exact LP ks
   .right;rw[h];exact QA ks
  unfold Hh;rw[if_neg (not_not_intro i)];by_cases j:Bb ks o.set=0
  .rw[if_neg (not_not_intro j)];exact⟨⟨fun h=>.inr (.inr h),fun h=>by rcases h with h|h|h;exact(h i).elim;omega;exact h⟩,v2,fun _=>⟨fun h=>⟨j,h⟩,fun h=>h.2⟩⟩
  .rw[if_pos j];refine⟨⟨fun h=>.inr (.inl h),fun h=>by rcases h with h|h|h;exact(h i).elim;exact h;omega⟩,v1,fun _=>⟨fun h=>⟨h,by omega⟩,fun h=>h.1⟩⟩
 .unfold Hh;rw[if_pos i];exact⟨⟨fun _=>.inl i,fun _=>rfl⟩,.inr (.inl rfl),fun h=>(h rfl).elim⟩
open Classical in
theorem T5{E S D:Nat->Prop}{sv v:Value}{ks:List DKey}{x:List Dop}{w:World}(hS:DG E w sv ks)(h:Bi S D w v x)(hT:EV w)(hI:∀o∈x,dD o) :
  AB prog 80 [sv,v] (fun v' w'=>v'=.int .i64 (Dq ks x)/\Grow w w') w:=by
 apply ai;have B:=h;obtain⟨a,c,rfl,hm⟩:=h.shape;simp only[maxLen] at hm;have bad:∀w',Grow w w'->PL ks x->Value.int .i64 3=.int .i64 (Dq ks x)/\Grow w w':=fun w' g hb=>⟨by rw[Dq,if_pos hb],g⟩;rw[AT];refine Af (fun vs w1=>∃k:Nat,k<=x.length/\vs=[.int .i64 (if HH ks (x.take k) then 4 else 0),.int .i64 k]/\Grow w w1/\∀o∈x.take k,Hh ks o≠3) (fun vs _=>x.length-EF vs 1)
  ⟨0,Nat.zero_le _,by rw[if_neg (by rintro⟨a,ha,_⟩;simp at ha)];rfl,Mod.refl _ _,by simp⟩ ?_
 rintro vs w1 ⟨k,hk,rfl,g,I⟩ _;simp only[GJ];refine Hq (fun a7=>?_) fun a8=>?_
 .have i:k<x.length:=by omega
  have Q:=List.getElem_mem i;obtain⟨p,r,rfl,_,hr,hc,V⟩:=(Bi.grow h g).get i;refine Ab i (Ah hr (fun j u hu=>by rw[Addr.add_add];exact hc j u hu) ?_);refine BO hr rfl V.one fun b w2 hb hz O a1 _=>?_;refine Ah hr a1 ?_;refine AA (Xd (hS.grow (g.trans O)) (V.mod (D':=D) O (fun _ _ _ h=>h) fun _ _ h=>h) (hT.grow (g.trans O)) (hI _ Q)) ?_;rintro _ w3 ⟨rfl,Z⟩;have T:=(g.trans O).trans Z;obtain⟨m1,m2,m3⟩:=VU ks x[k];rw[Am];refine AE (fun U=>?_) fun U=>?_
  .rw[U];exact bad _ T (.inl ⟨_,Q,m1.1 U⟩)
  have e1:x.take (k+1)=x.take k++[x[k]]:=by rw[List.take_add_one,List.getElem?_eq_getElem i];rfl
  have J:∀o∈x.take (k+1),Hh ks o≠3:=fun o B=>by
   rw[e1] at B;rcases List.mem_append.1 B with B|B
   .exact I o B
   .simp at B;subst B;exact U
  have X:HH ks (x.take (k+1))↔HH ks (x.take k)\/Hh ks x[k]≠0:=by
   unfold HH;rw[e1];constructor
   .rintro⟨a,ha,y⟩;rcases List.mem_append.1 ha with ha|ha
    .exact .inl ⟨a,ha,y⟩
    .simp at ha;subst ha;exact .inr fun h0=>by have:=(m3 U).1 h0;rcases y with y|y;exact y this.1;exact y this.2
   .rintro(⟨a,ha,y⟩|y)
    .exact⟨a,List.mem_append_left _ ha,y⟩
    .refine⟨x[k],List.mem_append_right _ (List.mem_singleton.2 rfl),?_⟩;by_cases hz:Bb ks x[k].set=0
     .exact .inr fun h0=>y ((m3 U).2 ⟨hz,h0⟩)
     .exact .inl hz
  rw[Bg];refine AY (fun h0=>?_) fun h0=>?_
  .rw[AR,AQ (by omega)];refine⟨⟨k+1,i,?_,T,J⟩,by rw[BJ,BJ];omega⟩;congr 2
   refine NM ?_;rw[X];exact⟨.inl,fun Y=>by rcases Y with Y|Y;exact Y;exact(Y h0).elim⟩
  .rw[AR,AQ (by omega)];refine⟨⟨k+1,i,?_,T,J⟩,by rw[BJ,BJ];omega⟩;rw[if_pos (X.2 (.inr h0))];congr 2
   omega
 .have:k=x.length:=by omega
  subst this;rw[List.take_length] at I ⊢;refine AA (JO (Bi.grow B g)) ?_;rintro _ w2 ⟨rfl,O⟩;rw[BL];refine AE (fun h1=>bad _ (g.trans O) (.inr (.inl h1))) fun h1=>?_;refine AA (MH (Bi.grow B (g.trans O))) ?_;rintro _ w3 ⟨rfl,Z⟩;rw[BL];refine AE (fun h2=>bad _ ((g.trans O).trans Z) (.inr (.inr h2))) fun h2=>?_;refine⟨?_,(g.trans O).trans Z⟩;have a6:¬PL ks x:=by
   rintro(⟨o,B,y⟩|y|y)
   .exact I o B ((VU ks o).1.2 y)
   .exact h1 y
   .exact h2 y
  unfold Dq;rw[if_neg a6]
theorem Nb{S:Nat->Prop}{v:Value}{l:List Int}{w:World}(h:Lf S w v l):AB prog 154 [v] (fun v' w'=>v'=.int .i64 (BW l:Int)/\w'=w) w:=by
 apply Vk;obtain⟨a,c,rfl,hm⟩:=h.shape;simp only[maxLen] at hm;rw[AT];refine Af (fun vs w'=>∃i:Nat,i<=l.length/\vs=[.int .i64 (BW (l.take i):Int),.int .i64 i]/\w'=w) (fun vs _=>l.length-EF vs 1) ⟨0,Nat.zero_le _,rfl,rfl⟩ ?_;rintro vs _ ⟨i,B,rfl,rfl⟩ _;rename World=>w
 simp only[GJ];refine Hq (fun x=>?_) fun y=>?_
 .have j:i<l.length:=by omega
  obtain⟨p,r,rfl,_,hr,hc,rfl⟩:=h.get j;refine Ab j (AL (hc 0 _ rfl) ?_);rw[Am];have e:BW (l.take (i+1))=BW (l.take i)+if l[i]=10 then 1 else 0:=by
   have:l.take (i+1)=l.take i++[l[i]]:=by rw[List.take_add_one];simp[j]
   rw[this,Ex];by_cases o:l[i]=(10:Int)<;>simp[BW,o]
  have hb:=DO (l.take i);rw[List.length_take] at hb;refine AE (fun o=>?_) fun o=>?_
  .rw[AR,AR,AQ (by omega),AQ (by omega)];refine⟨⟨i+1,j,?_,rfl⟩,by rw[BJ,BJ];omega⟩;rw[e,if_pos o]
  .rw[AR,AQ (by omega)];refine⟨⟨i+1,j,?_,rfl⟩,by rw[BJ,BJ];omega⟩;rw[e,if_neg o];rfl
 .obtain rfl:i=l.length:=by omega
  rw[List.take_length];exact⟨rfl,trivial⟩
theorem Di.dG{ks:List DKey}{o:Dop}(h:Di ks o):B0 o=(Co o:Int)-o.BA.length/\CO o=(Co o:Int)-(if o.kind=3 then o.n else 0)/\0<=B0 o/\B0 o<=Co o/\0<=CO o/\CO o<=Co o:=by
 unfold B0 CO Co Lk;rcases h with⟨h1,i,j,x,y⟩|⟨h1,i,j,x,y⟩|⟨h1,i,j,x,y,B⟩
 .rw[h1,i];simp;omega
 .rw[h1,i];simp;omega
 .rw[h1];simp
def FR(n:Int):Int->List Dop->Prop
 |_,[]=>True
 |p,o::x=>if o.kind=2 then p≠n/\FR n p x else if o.kind=3 then p+o.n≠n/\FR n (p+o.n) x else FR n (p+o.n) x
def Fq(ks:List DKey)(o:Dop):Prop:=o.kind=2->o.set≠[]->(0<(Dk ks true o.set).length\/0<BW o.BA)->(Dk ks true o.set).length=o.set.length/\BW o.BA=o.BA.length
open Classical in
noncomputable def FE(ks:List DKey)(x:List Dop)(n most:Int):Int:=if Dq ks x≠0 then Dq ks x else if n<1\/most<n\/n<Cg B0 x then 5 else if ¬FR n 0 x then 6 else if ¬(∀o∈x,Fq ks o) then 7 else if most<n-Cg B0 x+Cg CO x then 8 else 0
open Classical in
theorem Vy{S D:Nat->Prop}{v:Value}{x:List Dop}{ks:List DKey}{n:Int}{w:World}(h:Bi S D w v x)(X:∀o∈x,Di ks o/\Co o<=536870912)(hl:x.length<=1048576) :
  AB prog 82 [v,.int .i64 n] (fun v' w'=>v'=.bool (decide (FR n 0 x))/\Grow w w') w:=by
 apply Zs;obtain⟨a,c,rfl,hm⟩:=h.shape;rw[AT];refine Af (fun vs w'=>∃(i p:Nat),i<=x.length/\vs=[.int .i64 (p:Int),.int .i64 i]/\p<=i*536870912/\Grow w w'/\(FR n 0 x↔FR n p (x.drop i))) (fun vs _=>x.length-EF vs 1) ⟨0,0,Nat.zero_le _,rfl,Nat.zero_le _,Mod.refl _ _,Iff.rfl⟩ ?_;rintro vs w1 ⟨i,p,hi,rfl,hp,g,y⟩ _;simp only[GJ];refine Hq (fun Y=>?_) fun Z=>?_;rotate_left
 .obtain rfl:i=x.length:=by omega
  rw[List.drop_length] at y;exact⟨by rw[decide_eq_true (y.2 trivial)],g⟩
 have B:i<x.length:=by omega
 obtain⟨q,r,rfl,hS,hr,hc,Q⟩:=(Bi.grow h g).get B;refine Ab B (Ah hr (fun j u hu=>by rw[Addr.add_add];exact hc j u hu) ?_);refine BO hr rfl Q.one fun b w2 hb hz g2 I _=>?_;obtain⟨rv,sv,pv,rfl,h1,h2,h3⟩:=id Q;rw[List.drop_eq_getElem_cons B,FR] at y;obtain⟨U,T⟩:=X x[i] (List.getElem_mem B);have E:=g.trans g2;have V:x[i].kind≠2->0<=x[i].n/\x[i].n<=536870912:=fun hk=>by
  rcases U with⟨h1,_,_,h4,_⟩|⟨h1,_,_,_,h4⟩|⟨h1,_⟩
  .rw[Co,if_neg hk] at T;omega
  .rw[Co,if_neg hk] at T;omega
  .exact absurd h1 hk
 refine AU (fun _ w'=>x[i].kind≠2/\w'=w2/\(FR n 0 x↔FR n ((p:Int)+x[i].n) (x.drop (i+1)))) ?_ ?_
 .rintro _ _ ⟨hk,rfl,J⟩ _;obtain⟨n1,n2⟩:=V hk;rw[AG];refine AL (I 1 _ rfl) ?_;rw[AR,wrap64 (by omega) (by omega),AR,AQ (by omega)];refine⟨⟨i+1,p+x[i].n.toNat,B,?_,by omega,E,?_⟩,by rw[BJ,BJ];omega⟩
  .rw[show(p:Int)+x[i].n=((p+x[i].n.toNat:Nat):Int) by omega]
  .rw[J,show(p:Int)+x[i].n=((p+x[i].n.toNat:Nat):Int) by omega]
 .rw[AG];refine AL (I 0 _ rfl) ?_;rw[Am];refine AE (fun hk=>?_) fun hk=>?_
  .rw[if_pos hk] at y;rw[Am];refine AE (fun e=>⟨by rw[decide_eq_false fun h=>(y.1 h).1 e],E⟩) fun e=>?_;rw[AR,AQ (by omega)];refine⟨⟨i+1,p,B,rfl,?_,E,y.trans ⟨fun h=>h.2,fun h=>⟨e,h⟩⟩⟩,by rw[BJ,BJ];omega⟩;exact Nat.le_trans hp (Nat.mul_le_mul_right _ (Nat.le_succ i))
  .rw[if_neg hk] at y;obtain⟨n1,n2⟩:=V hk;rw[Am];refine AE (fun O=>?_) fun O=>?_
   .rw[if_pos O] at y;rw[AG];refine AL (I 1 _ rfl) ?_;rw[AR,wrap64 (by omega) (by omega),Am];refine AE (fun e=>⟨by rw[decide_eq_false fun h=>(y.1 h).1 e],E⟩) fun e=>?_;exact⟨hk,rfl,y.trans ⟨fun h=>h.2,fun h=>⟨e,h⟩⟩⟩
   .rw[if_neg O] at y;exact⟨hk,rfl,y⟩
open Classical in
theorem XQ{E S D:Nat->Prop}{sv v:Value}{x:List Dop}{ks:List DKey}{w:World}(hS:DG E w sv ks)(h:Bi S D w v x)(hb:∀o∈x,o.set.length<=64) :
  AB prog 83 [sv,v] (fun v' w'=>v'=.bool (decide (∀o∈x,Fq ks o))/\Grow w w') w:=by
 apply ZZ;obtain⟨a,c,rfl,hm⟩:=h.shape;simp only[maxLen] at hm;rw[AT];refine Af (fun vs w'=>∃(i:Nat),i<=x.length/\vs=[.int .i64 i]/\Grow w w'/\∀o∈x.take i,Fq ks o) (fun vs _=>x.length-EF vs 0) ⟨0,Nat.zero_le _,rfl,Mod.refl _ _,fun o I=>by simp at I⟩ ?_;rintro vs w1 ⟨i,hi,rfl,g,T⟩ _;simp only[GJ];refine Hq (fun b5=>?_) fun b6=>?_;rotate_left
 .obtain rfl:i=x.length:=by omega
  rw[List.take_length] at T;exact⟨by rw[decide_eq_true T],g⟩
 have y:i<x.length:=by omega
 refine AU (fun _ w'=>Fq ks x[i]/\Grow w1 w') ?_ ?_
 .rintro _ w' ⟨hp,g'⟩ _;rw[AR,AQ (by omega)];refine⟨⟨i+1,y,rfl,g.trans g',fun o I=>?_⟩,by rw[DI,DI];omega⟩;rw[List.take_add_one,List.getElem?_eq_getElem y] at I;rcases List.mem_append.1 I with I|I
  .exact T o I
  .simp at I;subst I;exact hp
 obtain⟨q,r,rfl,b7,hr,hc,Z⟩:=(Bi.grow h g).get y;refine Ab y (Ah hr (fun j u hu=>by rw[Addr.add_add];exact hc j u hu) ?_);refine BO hr rfl Z.one fun b w2 b8 hz Y B _=>?_;obtain⟨rv,ak,pv,rfl,h1,h2,h3⟩:=id Z;have b9:=hb x[i] (List.getElem_mem y);obtain⟨ra,rc,al,an⟩:=h1.shape;obtain⟨sa,sc,a1,_⟩:=h2.shape;simp only[maxLen] at an;refine AU (fun _ w'=>w'=w2/\x[i].kind=2/\x[i].set≠[]) ?_ ?_;rotate_left
 .rw[AG];refine AL (B 0 _ rfl) ?_;rw[Bg];refine AY (fun hk=>?_) fun hk=>⟨fun h=>absurd h hk,Y⟩;rw[AG];refine AL (B 3 _ rfl) ?_;rw[a1,AT,Am];refine AE (fun e=>⟨fun _ U=>absurd (List.eq_nil_of_length_eq_zero (by omega)) U,Y⟩) fun e=>⟨rfl,hk,fun h=>e (by rw[h];rfl)⟩
 rintro _ _ ⟨rfl,hk,U⟩ _;rename World=>w2
 have V:Grow w2 w2.drew:=Mod.drew _ _;refine Ag (fun _ _=>False) ?_;rw[AG];refine Aa ⟨V.cell (B 3 _ rfl) fun h=>h,fun j hj e=>e⟩ ?_;refine AA (Kb (b:=true) (((hS.grow g).grow Y).grow V) ((h2.grow Y (by decide) fun _ _ h=>h).grow V (by decide) fun _ _ h=>h) (by omega)) ?_;rintro bv w3 ⟨av,g3⟩;obtain⟨ba,bc,rfl,_⟩:=av.shape;refine⟨g3.mono fun _ _ h=>h.elim,?_⟩;rw[AT,AG];refine Aa ⟨V.cell (B 2 _ rfl) fun h=>h,fun j hj e=>e⟩ ?_;refine AA (Nb (((h1.grow Y (by decide) fun _ _ h=>h).grow V (by decide) fun _ _ h=>h).grow g3 (by decide) fun _ _ h=>h)) ?_;rintro _ _ ⟨rfl,rfl⟩;rename World=>w3
 refine⟨Mod.refl _ _,?_⟩;have X:=(Y.trans V).trans g3;have J:=g.trans X;have a6:∀(j:Nat) (v:Value),[Value.int .u8 x[i].kind,.int .i64 x[i].n,rv,ak,pv][j]?=some v->w3.cell? ((⟨b,0,none⟩:Addr).add j)=some v:=fun j v hv=>g3.cell (V.cell (B j v hv) fun h=>h) fun h=>h;have bd:(Dk ks true x[i].set).length<=x[i].set.length:=List.length_filter_le _ _;have bk:=DO x[i].BA;have bad:(0<(Dk ks true x[i].set).length\/0<BW x[i].BA)->((Dk ks true x[i].set).length<x[i].set.length\/BW x[i].BA<x[i].BA.length)->¬∀o∈x,Fq ks o:=fun h1 h2 a7=>by
  have:=a7 x[i] (List.getElem_mem y) hk U h1;omega
 have O:(0<(Dk ks true x[i].set).length\/0<BW x[i].BA)->
   AM 3 (.pointer (some ⟨b,0,none⟩)) (fun ax=>AK ax (fun ay w9=>Ak ay fun b0=>Be .i64 (.int .i64 ((Dk ks true x[i].set).length:Int)) b0 fun b1=>AD b1 (Value.bool false=.bool (decide (∀ o ∈ x,Fq ks o))/\Grow w w9)
    (AM 2 (.pointer (some ⟨b,0,none⟩)) fun t46=>AK t46 (fun b2 a8=>Ak b2 fun b3=>Be .i64 (.int .i64 (BW x[i].BA:Int)) b3 fun b4=>AD b4 (Value.bool false=.bool (decide (∀ o ∈ x,Fq ks o))/\Grow w a8) (Fq ks x[i]/\Grow w1 a8)) w9)) w3):=fun Q=>by
  rw[AG];refine AL (a6 3 _ rfl) ?_;rw[a1,AT,Av];refine AE (fun e=>⟨by rw[decide_eq_false (bad Q (.inl (by omega)))],J⟩) fun e1=>?_;rw[AG];refine AL (a6 2 _ rfl) ?_;rw[al,AT,Av];refine AE (fun e=>⟨by rw[decide_eq_false (bad Q (.inr (by omega)))],J⟩) fun e2=>⟨fun _ _ _=>⟨by omega,by omega⟩,X⟩
 rw[BL];refine AE (fun e=>O (.inl (by omega))) fun e1=>?_;rw[BL];refine AE (fun e=>O (.inr (by omega))) fun e2=>⟨fun _ _ h=>by omega,X⟩
theorem YS{E S D:Nat->Prop}{sv v:Value}{x:List Dop}{ks:List DKey}{w:World}{n:Nat}{most:Int}(Y:DG E w sv ks)(h:Bi S D w v x)(hT:EV w)(hI:∀o∈x,dD o)(hl:x.length<=1048576)(hn:n<=1099511627776) :
  AB prog 42 [sv,v,.int .i64 (n:Int),.int .i64 most] (fun v' w'=>v'=.int .i64 (FE ks x n most)/\Grow w w') w:=by
 classical
 apply ZJ;refine AA (T5 Y h hT hI) ?_;rintro _ w1 ⟨rfl,U⟩;unfold FE;rw [Bg];refine AY (fun hm=>?_) fun hm=>⟨by rw [if_pos hm],U⟩;rw [if_neg (by simpa using hm)];have y:=OR hm;obtain ⟨_,t1,t2⟩:=ER (f:=B0) (m:=536870912) (by decide) x (fun o i=>by
  obtain ⟨_,_,h1,Q,_⟩:=(y o i).1.dG;have:=(y o i).2;exact ⟨h1,by omega⟩) (by omega)
 obtain ⟨_,u1,u2⟩:=ER (f:=CO) (m:=536870912) (by decide) x (fun o i=>by
  obtain ⟨_,_,_,_,h1,Q⟩:=(y o i).1.dG;have:=(y o i).2;exact ⟨h1,by omega⟩) (by omega)
 have h1:=Bi.grow h U;refine AU (fun vs w'=>vs=[.bool (decide ((n:Int)<1\/most<n\/(n:Int)<Cg B0 x))]/\Grow w1 w') ?_ ?_;rotate_left
 .rw[Av];refine AE (fun e=>⟨by rw[decide_eq_true (.inl e)],Mod.refl _ _⟩) fun e1=>?_;rw[BL];refine AE (fun e=>⟨by rw[decide_eq_true (.inr (.inl e))],Mod.refl _ _⟩) fun e2=>?_;refine AA (JO h1) ?_;rintro _ w2 ⟨rfl,T⟩;rw[BL];refine⟨?_,T⟩;congr 2
  exact decide_eq_decide.2 ⟨fun h=>.inr (.inr h),fun h=>by rcases h with h|h|h;exact absurd h e1;exact absurd h e2;exact h⟩
 rintro _ w2 ⟨rfl,T⟩ _;rw[CM,List.headD_cons];have I:=U.trans T;have Q:=Bi.grow h1 T;refine AE (fun e=>⟨by rw[if_pos e],I⟩) fun e=>?_;rw[if_neg e];refine AA (Vy (n:=n) Q y hl) ?_;rintro _ w3 ⟨rfl,Z⟩;rw[An];have j:=I.trans Z;refine AY (fun V=>?_) fun V=>⟨by rw[if_pos V],j⟩;rw[if_neg (fun h=>h V)];have B:=Bi.grow Q Z;refine AA (XQ (Y.grow j) B fun o i=>?_) ?_
 .rcases(y o i).1 with⟨_,_,B,_⟩|⟨_,_,B,_⟩|⟨_,_,_,_,_,h6⟩
  .rw[B];simp
  .rw[B];simp
  .exact h6.2.1
 rintro _ w4 ⟨rfl,g4⟩;rw[An];have J:=j.trans g4;refine AY (fun X=>?_) fun X=>⟨by rw[if_pos X],J⟩;rw[if_neg (fun h=>h X)];have h4:=Bi.grow B g4;refine AA (JO h4) ?_;rintro _ w5 ⟨rfl,g5⟩;rw[A6,wrap64 (by omega) (by omega)];refine AA (MH (Bi.grow h4 g5)) ?_;rintro _ w6 ⟨rfl,g6⟩;rw[AR,wrap64 (by omega) (by omega),BL];have O:=(J.trans g5).trans g6;refine AE (fun e=>⟨by rw[if_pos e],O⟩) fun e=>⟨by rw[if_neg e],O⟩
def dM(v:BE):List Int:=uv v.kind.toNat++(if v.kind=1\/v.kind=2 then uv (Gr v.n) else if v.kind=3 then uv v.f.toNat else if v.kind=4 then uv v.s.size++Bk v.s else[])
section
variable {b:List Int}{p q r s:Nat}{bad dm dn dj:Bool}
def hC(c:Bool×BE):List Int:=if c.1 then uv 0 else dM c.2
variable {m:Nat}
end
def JU(v:BE):Prop:=(-9223372036854775808<=v.n/\v.n<=9223372036854775807)/\(0<=v.f/\v.f<18446744073709551616)
def PK(o:Dop):Prop:=(∀a∈o.set,a.key<=9223372036854775807/\JU a.val)/\∀c∈o.patch,c.key<=9223372036854775807/\JU c.val
theorem PK.o{o:Dop}(h:PK o):dD o:=⟨fun a ha=>(h.1 a ha).2.2.1,fun c hc=>(h.2 c hc).2.2.1⟩
variable {ks:List DKey}
end Go.Proofs.YtmdhibffnkhcnaaGreatDoor
namespace Go.Proofs.YtmdhibffnkhcnaaGreatDoor
open Go Go.K Proofs.Tryz
def N8(ks:List DKey):List Cel->List Dop->List Cel
 |d,[]=>d
 |d,o::x=>if o.kind=1 then(d.take o.n.toNat).map (EA ks o.patch)++N8 ks (d.drop o.n.toNat) x else if o.kind=2 then o.BA.map (fun r=>(⟨r,o.set⟩:Cel))++N8 ks d x else N8 ks (d.drop o.n.toNat) x
def MX(ks:List DKey):List Cel->List Dop->List Cel
 |d,[]=>d
 |d,o::x=>if o.kind=1 then(d.take o.n.toNat).map (EA ks o.patch)++MX ks (d.drop o.n.toNat) x else if o.kind=2 then MX ks d x else MX ks (d.drop o.n.toNat) x
def Hi:List Dop->Nat
 |[]=>0
 |o::x=>(if o.kind=2 then 0 else o.n.toNat)+Hi x
def Jz:List Dop->Nat
 |[]=>0
 |o::x=>(if o.kind=3 then 0 else if o.kind=2 then o.BA.length else o.n.toNat)+Jz x
theorem OE{ks:List DKey}{x:List Dop}(j:∀o∈x,Di ks o/\Co o<=536870912)(hl:x.length<=1048576):Cg B0 x=Hi x/\Cg CO x=Jz x:=by
 have y:∀o∈x,0<=B0 o/\B0 o<=536870912:=fun o i=>by
  obtain⟨h1,E⟩:=j o i;obtain⟨_,_,a,b,_⟩:=h1.dG;exact⟨a,by omega⟩
 have B:∀o∈x,0<=CO o/\CO o<=536870912:=fun o i=>by
  obtain⟨h1,E⟩:=j o i;obtain⟨_,_,_,_,a,b⟩:=h1.dG;exact⟨a,by omega⟩
 rw[(ER (m:=536870912) (by decide) x y (by omega)).1,(ER (m:=536870912) (by decide) x B (by omega)).1];clear hl y B;induction x with
 |nil=>exact⟨rfl,rfl⟩
 |cons o x I=>
  obtain⟨J,O⟩:=I fun o i=>j o (by simp[i]);obtain⟨h1,_⟩:=j o (by simp);rw[List.map_cons,List.sum_cons,J,List.map_cons,List.sum_cons,O,Hi,Jz,B0,CO,Lk];rcases h1 with⟨k,_,_,Q,_⟩|⟨k,_,_,_,Q⟩|⟨k,_⟩
  .simp only[k,show ¬(1:Int)=2 by decide,show ¬(1:Int)=3 by decide,if_false];omega
  .simp only[k,show ¬(3:Int)=2 by decide,if_false,if_true];omega
  .simp only[k,show ¬(2:Int)=3 by decide,if_false,if_true];omega
structure X0 (ks:List DKey) (x:List Dop) (n:Nat) (most:Int):Prop where
 may:Dq ks x=0
 FM:∀o∈x,Di ks o/\Co o<=536870912
 pos:1<=n/\(n:Int)<=most
 dB:Hi x<=n
 fin:FR n 0 x
 pl:∀o∈x,Fq ks o
 most:(n:Int)-Hi x+Jz x<=most
theorem HZ{ks:List DKey}{x:List Dop}{n:Nat}{most:Int}(hl:x.length<=1048576):FE ks x n most=0↔X0 ks x n most:=by
 classical
 unfold FE;constructor
 .intro h;split at h
  .rename_i hm;exact absurd h hm
  rename_i hm;have i:Dq ks x=0:=by simpa using hm
  have E:=OR i;obtain⟨j,o⟩:=OE E hl;split at h
  .cases h
  rename_i y;split at h
  .cases h
  rename_i B;split at h
  .cases h
  rename_i I;split at h
  .cases h
  rename_i J;rw[j] at y J;rw[o] at J;exact⟨i,E,⟨by omega,by omega⟩,by omega,Classical.not_not.1 B,Classical.not_not.1 I,by omega⟩
 .rintro⟨h1,O,Q,S,y,B,I⟩;obtain⟨j,o⟩:=OE O hl;rw[if_neg (by simp[h1]),if_neg (by rw[j];omega),if_neg (fun h=>h y),if_neg (fun h=>h B),if_neg (by rw[j,o];omega)]
theorem LV.of{ks:List DKey}(x:∀k∈ks,EK k){k:Int}{v:BE}(h1:BX ks k≠none)(j:DK v\/v=BE.zero)(o:JU v):LV ⟨k,v⟩:=by
 have hk:=TA h1;obtain⟨y,B,e⟩:=List.mem_map.1 hk;have i:=x y B;have k1:=i.1;have k2:=i.2.1;rw[e] at k1 k2;refine⟨⟨?_,?_⟩,?_,o.1,o.2,?_⟩
 .show _<=k;omega
 .show k<=_;omega
 .show 0<=v.kind/\v.kind<256;rcases j with(⟨h,_⟩|⟨h,_⟩|⟨h,_⟩|⟨h,_⟩)|h
  .rw[h];decide
  .rw[h];decide
  .rw[h];decide
  .rw[h];decide
  .rw[h];decide
 .show v.s.size<_;rcases j with(⟨_,h,_⟩|⟨_,h⟩|⟨_,h,_⟩|⟨_,_,h,_⟩)|h
  .rw[h];simp[Fc,ByteArray.size]
  .rw[h];simp[Fc,ByteArray.size]
  .rw[h];simp[Fc,ByteArray.size]
  .omega
  .rw[h];simp[BE.zero,Fc,ByteArray.size]
theorem EC.of{ks:List DKey}(i:∀k∈ks,EK k){s:List Attr}(h:Jv ks s)(j:∀a∈s,JU a.val):EC ks s:=by
 refine⟨h,fun a ha=>?_⟩;obtain⟨h1,k,o,_⟩:=h.2.2 a ha;exact LV.of i (by rw[o];simp) (.inl h1) (j a ha)
theorem ID.of{ks:List DKey}(j:∀k∈ks,EK k){p:List Chg}(h:On ks p)(o:∀c∈p,JU c.val):ID ks p:=by
 refine⟨h,fun c hc=>?_⟩;obtain⟨h1,x,y⟩:=h.2.2 c hc;refine LV.of j y ?_ (o c hc);cases i:c.gone with
 |true=>exact .inr (h1 i)
 |false=>exact .inl (x i).1
theorem eD{ks:List DKey}(x:∀k∈ks,EK k){o:Dop}(h:Di ks o)(y:(∀a∈o.set,JU a.val)/\∀c∈o.patch,JU c.val):EC ks o.set/\ID ks o.patch:=by
 rcases h with⟨_,_,i,_,B⟩|⟨_,_,i,j,_⟩|⟨_,_,_,j,_,E⟩
 .exact⟨by rw[i];exact EC.nil,ID.of x B y.2⟩
 .exact⟨by rw[i];exact EC.nil,by rw[j];exact ID.nil⟩
 .exact⟨EC.of x E y.1,by rw[j];exact ID.nil⟩
theorem OH{ks:List DKey}{o:Dop}(hk:o.kind=2)(J:Jv ks o.set)(hp:Fq ks o):o.BA.map (cellOf ks o.set)=o.BA.map fun r=>(⟨r,o.set⟩:Cel):=by
 by_cases y:o.set=[]
 .rw[y];rfl
 refine List.map_congr_left fun r hr=>?_;unfold cellOf;have j:∀a∈o.set,∃k,BX ks a.key=some k:=fun a ha=>by
  obtain⟨_,k,h,_⟩:=J.2.2 a ha;exact⟨k,h⟩
 by_cases B:0<(Dk ks true o.set).length\/0<BW o.BA
 .obtain⟨O,Q⟩:=hp hk y B;have I:Dk ks true o.set=o.set:=List.filter_eq_self.2 (List.length_filter_eq_length_iff.1 O);have S:∀r∈o.BA,r=10:=fun r hr=>by
   have:=(List.count_eq_length.1 Q) r hr;exact this.symm
  rw[S r hr,decide_eq_true rfl,I]
 .have h1:(Dk ks true o.set).length=0:=by omega
  have T:BW o.BA=0:=by omega
  have E:r≠10:=fun e=>List.count_eq_zero.1 T (e▸hr);have I:Dk ks false o.set=o.set:=List.filter_eq_self.2 fun a ha=>by
   obtain⟨k,hk⟩:=j a ha;have x:=List.filter_eq_nil_iff.1 (List.eq_nil_of_length_eq_zero h1) a ha;unfold Ly at x ⊢;rw[hk] at x ⊢;have i:¬decide (k.block=true)=true:=x;show decide (k.block=false)=true;cases hb:k.block with
   |true=>rw[hb] at i;exact absurd rfl i
   |false=>rfl
  rw[decide_eq_false E,I]
theorem UY{ks:List DKey}{n:Nat}:∀{x:List Dop} {d:List Cel},(∀o∈x,Di ks o)->Hi x<=d.length->d.length<=n->FR n ((n:Int)-d.length) x->(Ap d).getLast?=some 10->(Ap (MX ks d x)).getLast?=some 10:=by
 intro x;induction x with
 |nil=>intro d _ _ _ _ h;exact h
 |cons o x E=>
  intro d S ht T j hl;have I:=S o (by simp);have y:∀o∈x,Di ks o:=fun o U=>S o (by simp[U]);rw[Hi] at ht;rw[FR] at j;rw[MX];have i:∀m:Nat,m<d.length->(Ap (d.drop m)).getLast?=some 10:=fun m hm=>by
   rw[Ap,List.map_drop,List.getLast?_drop,if_neg (by rw[List.length_map];omega)];exact hl
  rcases I with⟨k,_,_,V,_⟩|⟨k,_,_,_,V⟩|⟨k,_⟩
  .rw[if_pos k];rw[if_neg (by omega)] at ht;rw[if_neg (by omega),if_neg (by omega)] at j;by_cases hm:o.n.toNat<d.length
   .have:=E y (d:=d.drop o.n.toNat) (by rw[List.length_drop];omega) (by rw[List.length_drop];omega) (by rw[List.length_drop,show(n:Int)-((d.length-o.n.toNat:Nat):Int)=(n:Int)-d.length+o.n by omega];exact j) (i _ hm);rw[Ap,List.map_append,List.getLast?_append];rw[Ap] at this;rw[this];rfl
   .have J:x=[]:=by
     cases x with
     |nil=>rfl
     |cons o' x=>
      exfalso;have B:=y o' (by simp);rw[Hi] at ht;rw[FR] at j;rcases B with⟨O,_,_,Q,_⟩|⟨O,_,_,_,Q⟩|⟨O,_⟩
      .rw[if_neg (by omega)] at ht;omega
      .rw[if_neg (by omega)] at ht;omega
      .rw[if_pos O] at j;exact j.1 (by omega)
    subst J;rw[MX,List.drop_eq_nil_of_le (by omega),List.append_nil,List.take_of_length_le (by omega),Ap,List.map_map];exact hl
  .rw[if_neg (by omega),if_neg (by omega)];rw[if_neg (by omega)] at ht;rw[if_neg (by omega),if_pos k] at j;have hm:o.n.toNat<d.length:=by omega
   exact E y (by rw[List.length_drop];omega) (by rw[List.length_drop];omega) (by rw[List.length_drop,show(n:Int)-((d.length-o.n.toNat:Nat):Int)=(n:Int)-d.length+o.n by omega];exact j.2) (i _ hm)
  .rw[if_neg (by omega),if_pos k];rw[if_pos k] at ht j;exact E y (by omega) T j.2 hl
theorem Xm{ks:List DKey}:∀{x:List Dop} {d:List Cel},(MX ks d x).length<=d.length:=by
 intro x;induction x with
 |nil=>intro d;exact Nat.le_refl _
 |cons o x i=>
  intro d;rw[MX];split
  .rw[List.length_append,List.length_map,List.length_take];have:=i (d:=d.drop o.n.toNat);rw[List.length_drop] at this;omega
  .split
   .exact i
   .have:=i (d:=d.drop o.n.toNat);rw[List.length_drop] at this;omega
theorem XM{ks:List DKey}:∀{x:List Dop} {d:List Cel},(∀o∈x,Di ks o)->Hi x<=d.length->(N8 ks d x).length+Hi x=d.length+Jz x:=by
 intro x;induction x with
 |nil=>intro d _ _;rfl
 |cons o x j=>
  intro d y ht;have i:∀o∈x,Di ks o:=fun o B=>y o (by simp[B]);rw[Hi] at ht ⊢;rw[N8,Jz];rcases y o (by simp) with⟨k,_,_,E,_⟩|⟨k,_,_,_,E⟩|⟨k,_⟩
  .simp only[k,show ¬(1:Int)=2 by decide,show ¬(1:Int)=3 by decide,if_true,if_false] at ht ⊢;rw[List.length_append,List.length_map,List.length_take];have:=j i (d:=d.drop o.n.toNat) (by rw[List.length_drop];omega);rw[List.length_drop] at this;omega
  .simp only[k,show ¬(3:Int)=2 by decide,show ¬(3:Int)=1 by decide,if_true,if_false] at ht ⊢;have:=j i (d:=d.drop o.n.toNat) (by rw[List.length_drop];omega);rw[List.length_drop] at this;omega
  .simp only[k,show ¬(2:Int)=3 by decide,show ¬(2:Int)=1 by decide,if_true,if_false] at ht ⊢;rw[List.length_append,List.length_map];have:=j i (d:=d) (by omega);omega
theorem Lr.Ln{ks:List DKey}(o:ks.length<=64){d:List Cel}{p:List Chg}(h:Lr ks d)(hp:ID ks p){i j:Nat}(x:i<=j):Lr ks (Ln d i j (EA ks p)):=by
 refine⟨fun c hc=>?_,by rw[Tj d (EA ks p) x fun _=>rfl];exact h.last⟩;unfold Go.Proofs.YtmdhibffnkhcnaaGreatDoor.Ln at hc;rcases List.mem_append.1 hc with hc|hc
 .rcases List.mem_append.1 hc with hc|hc
  .exact h.set c (List.mem_of_mem_take hc)
  .obtain⟨c0,y,rfl⟩:=List.mem_map.1 hc;exact(h.set c0 (List.mem_of_mem_take (List.mem_of_mem_drop y))).app o (hp.part _)
 .exact h.set c (List.mem_of_mem_drop hc)
theorem NA{a b:List Cel}(hb:b≠[]):(Ap (a++b)).getLast?=(Ap b).getLast?:=by
 rw[Ap,List.map_append,List.getLast?_append];cases h:(b.map Cel.r).getLast? with
 |none=>rw[List.getLast?_eq_none_iff,List.map_eq_nil_iff] at h;exact absurd h hb
 |some x=>rfl
theorem Yt{b:List Cel}(h:(Ap b).getLast?=some 10):b≠[]:=fun e=>by rw[e] at h;cases h
def ML(B:Nat)(x:List Dop):Nat:=2*x.length*(22*B+50)
section
variable {w0:World}{F:Nat->Prop}{W:World}{a:TxA}{σ:SKs}{most:Int}{N:Nat}{d:List Cel}
theorem Gn{S D:Nat->Prop}{v:Value}{x:List Dop}{B:Nat}(h:FY .f w0 F W a σ most d N)(hT:EV w0)(hG:Lr σ.ks d)(ba:σ.ks.length<=64)(hK:∀k∈σ.ks,EK k)(hx:Bi S D W v x)(av:∀y,S y\/D y->¬F y)(hI:∀o∈x,PK o)
 (hl:x.length<=1048576)(e7:d.length<=B)(hB:X0 σ.ks x d.length most->d.length+Jz x<=B)(e8:B<=1000000)(hN:N+ML B x<=1000000000) :
  AB prog 12 [.pointer (some ⟨a.b,0,none⟩),v] (fun v' w'=>v'=.int .i64 (FE σ.ks x d.length most)/\Jp .f w0 F W w' a σ most (if FE σ.ks x d.length most=0 then N8 σ.ks d x else d) (N+ML B x)/\(FE σ.ks x d.length most=0->Lr σ.ks (N8 σ.ks d x))) W:=by
 apply af;unfold S12;refine AA (EH h.box.1) ?_;rintro _ _ ⟨rfl,rfl⟩;rename World=>W
 rw[An];refine AS ?_;have gd:Grow W W.drew:=Mod.drew _ _;have hd:=h.grow gd;refine Ag (fun _ _=>False) ?_;refine AH ?_;rw[AG,AI];refine Aa ⟨hd.box.1.cells 0 _ rfl,fun j hj e=>e⟩ ?_;obtain⟨l1,Fr,bt,c6,hO⟩:=hd.GZ;refine AA (TX hd.box.1 hO) ?_;rintro _ W1 ⟨rfl,g1⟩;have c7:(BS l1).length=d.length:=by rw[c6,Ap,List.length_map]
 rw[c7];refine⟨g1.mono fun _ _ h=>h.elim,?_⟩;refine AH ?_;rw[AG,AI];refine Aa ⟨hd.box.1.cells 1 _ rfl,fun j hj e=>e⟩ ?_;have h1:=hd.grow g1;have bc:=gd.trans g1;have c8:Bi (fun y=>S y/\y<W.heap.size) (fun y=>D y/\y<W.heap.size) W v x:=BH.sub hx (fun y Y hs=>⟨hs,Y⟩) (by decide) fun r o ho=>ho.mod (Mod.refl (fun _=>False) _) (fun _ _ _ h=>h) fun y Y hd=>⟨hd,Y⟩;have bd:=Bi.grow c8 bc;refine AA (YS h1.IV.1 bd (hT.grow h1.g) (fun o ho=>(hI o ho).o) hl (by omega)) ?_;rintro _ W2 ⟨rfl,g2⟩;refine⟨g2.mono fun _ _ h=>h.elim,?_⟩;have b5:=bc.trans g2;have h2:=h1.grow g2;have b6:=Bi.grow bd g2;rw[Bg];refine AY (fun e0=>?_) fun e0=>⟨rfl,by rw[if_neg e0];exact Jp.up ⟨F,fun _ h=>.inl h,h2,b5.mono fun _ _ h=>h.elim⟩ (by omega),fun e=>absurd e e0⟩;rw[if_pos e0,e0];have hF:=(HZ hl).1 e0;have hB:=hB hF;have b1:∀o∈x,Di σ.ks o:=fun o ho=>(hF.FM o ho).1;have bk:∀o∈x,EC σ.ks o.set/\ID σ.ks o.patch:=fun o ho=>eD hK (b1 o ho) ⟨fun a ha=>((hI o ho).1 a ha).2,fun c hc=>((hI o ho).2 c hc).2⟩;obtain⟨va,vc,rfl,hm⟩:=b6.shape;simp only[maxLen] at hm;rw[AT];have e9:=b5.size;have b3:∀{F':Nat->Prop} {W':World},(∀y,F' y->F y\/W2.heap.size<=y)->∀y,(S y/\y<W.heap.size)\/(D y/\y<W.heap.size)->¬F' y:=fun c9 y Y e=>by
  rcases c9 y e with e|e
  .exact av y (Y.imp And.left And.left) e
  .rcases Y with Y|Y
   .have:=Y.2;omega
   .have:=Y.2;omega
 let G:Nat:=22*B+50
 have ca:ML B x=2*x.length*G:=rfl;have b4:∀i,i<=x.length->i*G<=x.length*G:=fun i hi=>Nat.mul_le_mul_right _ hi;have V:∀i,(i+1)*G=i*G+G:=fun i=>by rw[Nat.add_mul,Nat.one_mul]
 have cc:2*x.length*G=x.length*G+x.length*G:=by rw[Nat.mul_assoc,Nat.two_mul]
 refine Af (fun vs W'=>∃ (i:Nat) (E I:List Cel) (F':Nat->Prop),i<=x.length/\vs=[.int .i64 (E.length:Int),.int .i64 i]/\(∀ y,F' y->F y\/W2.heap.size<=y)/\FY .f w0 F' W' a σ most (E++I) (N+i * G)/\Mod F W2 W'/\Lr σ.ks (E++I)/\
   E++MX σ.ks I (x.drop i)=MX σ.ks d x/\Hi (x.drop i)<=I.length/\I.length<=d.length/\FR d.length ((d.length:Int) - I.length) (x.drop i)/\E.length+I.length<=d.length) (fun vs _=>x.length - EF vs 1)
  ⟨0,[],d,F,Nat.zero_le _,rfl,fun _ h=>.inl h,h2.up (by omega),Mod.refl _ _,hG,rfl,hF.dB,Nat.le_refl _,by rw[Int.sub_self];exact hF.fin,by simp⟩ ?_
 rintro vs W3 ⟨i,E,I,F3,hi,rfl,f3,h3,M3,Q,O,Z,ax,T,U⟩ _;simp only[GJ];rw[Av];have z3:=M3.size;have b2:Bi (fun y=>S y/\y<W.heap.size) (fun y=>D y/\y<W.heap.size) W3 (.slice va x.length vc) x:=Bi.mod b6 M3 (fun y _ Y e=>av y (.inl Y.1) e) (fun y _ Y e=>av y (.inr Y.1) e);refine AE (fun cd=>?_) fun ch=>?_
 .have J:i<x.length:=by omega
  have b7:=b4 (i+1) J;rw[V] at b7;obtain⟨q,r,rfl,hS,hr,hc,a6⟩:=b2.get J;refine Ab J (Ah hr (fun j u hu=>by rw[Addr.add_add];exact hc j u hu) ?_);refine BO hr rfl a6.one fun b W4 hb cn g4 X _=>?_;obtain⟨rv,sv,pv,rfl,o1,o2,o3⟩:=id a6;have h4:=h3.grow g4;have z4:=g4.size;rw[List.drop_eq_getElem_cons J] at O Z T;rw[Hi] at Z;rw[FR] at T;rw[MX] at O;have a8:=List.getElem_mem J;have ak:=b3 (W':=W4) f3;have al:=h3.hl;have an:Mod F W2 W4:=M3.next g4 fun _ _ e=>e.elim;have b8:∀{W5:World},Mod F3 W4 W5->∀(j:Nat) (u:Value),[Value.int .u8 x[i].kind,.int .i64 x[i].n,rv,sv,pv][j]?=some u->W5.cell? ((⟨b,0,none⟩:Addr).add j)=some u:=fun hm j u hu=>hm.cell (X j u hu) fun e=>by rw[BP] at e;have:=(al _ e).2.1;simp only at this;omega
  have liftM:∀{W5:World},Mod F3 W4 W5->Mod F W2 W5:=fun hm=>an.next hm fun y Y e=>by
   rcases f3 y e with e|e
   .exact e
   .omega
  rw[AG];refine AL (X 0 _ rfl) ?_;rw[Am];rcases b1 x[i] a8 with⟨k,e1,e2,n1,e4⟩|⟨k,e1,e2,e3,n1⟩|⟨k,e1,e2,e3,e4,e5⟩
  .refine AE (fun _=>?_) fun e=>absurd k e;rw[if_neg (by omega)] at Z;rw[if_neg (by omega),if_neg (by omega)] at T;rw[if_pos k] at O;have en:x[i].n=(x[i].n.toNat:Int):=by omega
   generalize hn:x[i].n.toNat=n at *;rw[AG];refine AL (X 1 _ rfl) ?_;rw[en,AR,wrap64 (by omega) (by omega),show((E.length:Int)+(n:Int))=((E.length+n:Nat):Int) by omega,AG];refine AL (X 4 _ rfl) ?_;have bl:=(bk x[i] a8).2;refine AA (VI (i:=E.length) (j:=E.length+n) h4 hT Q ba (by omega) (by rw[List.length_append];omega) (o3.grow g4 (by decide) fun _ _ h=>h) (fun y Y=>ak y (.inr Y)) bl (by rw[List.length_append];omega) (by rw[List.length_append];show N+i*G+22*_+50<=_;have:G=22*B+50:=rfl;omega)) ?_;rintro _ W5 ⟨rfl,F5,f5,h5,M5⟩;rw[AG];refine AL (b8 M5 1 _ rfl) ?_;rw[en,AR,wrap64 (by omega) (by omega),show((E.length:Int)+(n:Int))=((E.length+n:Nat):Int) by omega,AR,AQ (by omega)];have ay:Ln (E++I) E.length (E.length+n) (EA σ.ks x[i].patch)=(E++(I.take n).map (EA σ.ks x[i].patch))++I.drop n:=by
    unfold Ln;rw[List.take_left' rfl,List.take_append,List.take_of_length_le (by omega),show E.length+n-E.length=n by omega,List.drop_left' rfl,List.drop_append,List.drop_eq_nil_of_le (by omega),show E.length+n-E.length=n by omega,List.nil_append]
   have bp:=Q.Ln ba bl (i:=E.length) (j:=E.length+n) (by omega);rw[ay] at h5 bp;have ll:(E++(I.take n).map (EA σ.ks x[i].patch)).length=E.length+n:=by rw[List.length_append,List.length_map,List.length_take];omega
   refine⟨⟨i+1,E++(I.take n).map (EA σ.ks x[i].patch),I.drop n,F5,J,by rw[ll],fun y Y=>?_,h5.up ?_,liftM M5,bp,by rw[List.append_assoc];exact O,by rw[List.length_drop];omega,by rw[List.length_drop];omega,?_,by rw[ll,List.length_drop];omega⟩,by rw[BJ,BJ];omega⟩
   .rcases f5 y Y with e|e
    .exact f3 y e
    .exact .inr (by omega)
   .rw[V,List.length_append];show _<=N+(i*G+(22*B+50));omega
   .rw[List.length_drop,show(d.length:Int)-((I.length-n:Nat):Int)=(d.length:Int)-I.length+x[i].n by omega];exact T
  .refine AE (fun e=>by omega) fun _=>?_;rw[Am];refine AE (fun _=>?_) fun e=>absurd k e;rw[if_neg (by omega)] at Z;rw[if_neg (by omega),if_pos k] at T;rw[if_neg (by omega),if_neg (by omega)] at O;have en:x[i].n=(x[i].n.toNat:Int):=by omega
   generalize hn:x[i].n.toNat=n at *;have a7:n<I.length:=by omega
   rw[AG];refine AL (X 1 _ rfl) ?_;rw[en,AR,wrap64 (by omega) (by omega),show((E.length:Int)+(n:Int))=((E.length+n:Nat):Int) by omega];refine AA (VE (i:=E.length) (j:=E.length+n) h4 (by omega) (by rw[List.length_append];omega) (by rw[List.length_append];omega) (by have:G=22*B+50:=rfl;omega)) ?_;rintro _ W5 ⟨rfl,F5,f5,h5,M5⟩;rw[AR,AQ (by omega)];have ay:(E++I).take E.length++(E++I).drop (E.length+n)=E++I.drop n:=by
    rw[List.take_left' rfl,List.drop_append,List.drop_eq_nil_of_le (by omega),show E.length+n-E.length=n by omega,List.nil_append]
   rw[ay] at h5;have b9:I≠[]:=fun e=>by rw[e] at a7;simp at a7
   have I7:I.drop n≠[]:=fun e=>by have:=congrArg List.length e;rw[List.length_drop] at this;simp at this;omega
   have bs:=Q.last;rw[NA b9] at bs;refine⟨⟨i+1,E,I.drop n,F5,J,rfl,fun y Y=>?_,h5.up ?_,liftM M5,⟨fun c hc=>Q.set c ?_,?_⟩,O,by rw[List.length_drop];omega,by rw[List.length_drop];omega,?_,by rw[List.length_drop];omega⟩,by rw[BJ,BJ];omega⟩
   .rcases f5 y Y with e|e
    .exact f3 y e
    .exact .inr (by omega)
   .rw[V];show _<=N+(i*G+(22*B+50));omega
   .rcases List.mem_append.1 hc with hc|hc
    .exact List.mem_append_left _ hc
    .exact List.mem_append_right _ (List.mem_of_mem_drop hc)
   .rw[NA I7,Ap,List.map_drop,List.getLast?_drop,if_neg (by rw[List.length_map];omega)];exact bs
   .rw[List.length_drop,show(d.length:Int)-((I.length-n:Nat):Int)=(d.length:Int)-I.length+x[i].n by omega];exact T.2
  .refine AE (fun e=>by omega) fun _=>?_;rw[Am];refine AE (fun e=>by omega) fun _=>?_;rw[if_pos k] at Z T;rw[if_neg (by omega),if_pos k] at O;rw[AR,AQ (by omega)];exact⟨⟨i+1,E,I,F3,J,rfl,f3,h4.up (by rw[V];omega),an,Q,O,by omega,ax,T.2,U⟩,by rw[BJ,BJ];omega⟩
 obtain rfl:i=x.length:=by omega
 rw[List.drop_length,MX] at O;rw[O] at h3 Q;clear O Z ax T U;have cv:∀y:List Dop,∀o∈y,o.kind=2->o.BA.length<=Jz y:=by
  intro y;induction y with
  |nil=>intro o ho;cases ho
  |cons o' y ih=>
   intro o ho hk;rw[Jz];rcases List.mem_cons.1 ho with rfl|ho
   .rw[if_neg (by omega),if_pos hk];omega
   .have:=ih o ho hk;omega
 rw [AT];refine Af (fun vs W'=>∃ (i:Nat) (E I:List Cel) (F':Nat->Prop),i<=x.length/\vs=[.int .i64 (E.length:Int),.int .i64 i]/\(∀ y,F' y->F y\/W2.heap.size<=y)/\FY .f w0 F' W' a σ most (E++MX σ.ks I (x.drop i)) (N+x.length * G+i * G)/\Mod F W2 W'/\Lr σ.ks (E++MX σ.ks I (x.drop i))/\
   E++N8 σ.ks I (x.drop i)=N8 σ.ks d x/\Hi (x.drop i)<=I.length/\I.length<=d.length/\FR d.length ((d.length:Int) - I.length) (x.drop i)/\(I≠[]->(Ap I).getLast?=some 10)/\E.length+I.length+Jz (x.drop i)<=d.length+Jz x+Hi (x.drop i)) (fun vs _=>x.length - EF vs 1)
  ⟨0,[],d,F3,Nat.zero_le _,rfl,f3,h3.up (by omega),M3,Q,rfl,hF.dB,Nat.le_refl _,by rw[Int.sub_self];exact hF.fin,fun _=>hG.last,by simp⟩ ?_
 clear b2 Q h3 f3 M3 z3;rintro vs W3 ⟨i,E,I,F3,hi,rfl,f3,h3,M3,Q,O,Z,ax,T,a1,U⟩ _;simp only[GJ];rw[Av];have z3:=M3.size;have b2:Bi (fun y=>S y/\y<W.heap.size) (fun y=>D y/\y<W.heap.size) W3 (.slice va x.length vc) x:=Bi.mod b6 M3 (fun y _ Y e=>av y (.inl Y.1) e) (fun y _ Y e=>av y (.inr Y.1) e);refine AE (fun cd=>?_) fun ch=>?_;rotate_left
 .obtain rfl:i=x.length:=by omega
  rw[List.drop_length] at h3 O Q;rw[MX] at h3 Q;rw[N8] at O;rw[O] at h3 Q;refine⟨trivial,Jp.next (fun _ h=>.inl h) (b5.mono fun _ _ h=>h.elim) (Jp.up ⟨F3,f3,h3,M3⟩ (by rw[ca,cc];omega)),fun _=>Q⟩
 have J:i<x.length:=by omega
 have b7:=b4 (i+1) J;rw[V] at b7;obtain⟨q,r,rfl,hS,hr,hc,a6⟩:=b2.get J;refine Ab J (Ah hr (fun j u hu=>by rw[Addr.add_add];exact hc j u hu) ?_);refine BO hr rfl a6.one fun b W4 hb cn g4 X _=>?_;obtain⟨rv,sv,pv,rfl,o1,o2,o3⟩:=id a6;have h4:=h3.grow g4;have z4:=g4.size;rw[List.drop_eq_getElem_cons J] at O Z T h4 Q U;rw[Hi] at Z U;rw[Jz] at U;rw[FR] at T;rw[MX] at h4 Q;rw[N8] at O;have a8:=List.getElem_mem J;have ak:=b3 (W':=W4) f3;have al:=h3.hl;have an:Mod F W2 W4:=M3.next g4 fun _ _ e=>e.elim;rcases b1 x[i] a8 with⟨k,e1,e2,n1,e4⟩|⟨k,e1,e2,e3,n1⟩|⟨k,e1,e2,e3,e4,e5⟩
 .simp only[k,show ¬(1:Int)=2 by decide,show ¬(1:Int)=3 by decide,if_true,if_false] at Z U T h4 Q O;have en:x[i].n=(x[i].n.toNat:Int):=by omega
  generalize hn:x[i].n.toNat=n at *;have ll:(E++(I.take n).map (EA σ.ks x[i].patch)).length=E.length+n:=by rw[List.length_append,List.length_map,List.length_take];omega
  refine AU (fun vs W'=>vs=[.int .i64 ((E.length+n:Nat):Int)]/\W'=W4) ?_ ?_
  .rintro _ _ ⟨rfl,rfl⟩ _;rw[AG];refine AL (X 0 _ rfl) ?_;rw[Am];refine AE (fun e=>by omega) fun _=>?_;rw[List.headD_cons,AR,AQ (by omega)];refine⟨⟨i+1,E++(I.take n).map (EA σ.ks x[i].patch),I.drop n,F3,J,by rw[ll],f3,by rw[List.append_assoc];exact h4.up (by rw[V];omega),an,by rw[List.append_assoc];exact Q,by rw[List.append_assoc];exact O,by rw[List.length_drop];omega,by rw[List.length_drop];omega,?_,fun bx=>?_,by rw[ll,List.length_drop];omega⟩,by rw[BJ,BJ];omega⟩
   .rw[List.length_drop,show(d.length:Int)-((I.length-n:Nat):Int)=(d.length:Int)-I.length+x[i].n by omega];exact T
   .have a7:n<I.length:=Nat.lt_of_not_le fun e=>bx (List.drop_eq_nil_of_le e);rw[Ap,List.map_drop,List.getLast?_drop,if_neg (by rw[List.length_map];omega)];exact a1 fun e=>by rw[e] at a7;simp at a7
  .rw[AG];refine AL (X 0 _ rfl) ?_;rw[Am];refine AE (fun _=>?_) fun e=>absurd k e;rw[AG];refine AL (X 1 _ rfl) ?_;rw[en,AR,wrap64 (by omega) (by omega)];exact⟨by rw[show((E.length:Int)+(n:Int))=((E.length+n:Nat):Int) by omega],rfl⟩
 .simp only[k,show ¬(3:Int)=2 by decide,show ¬(3:Int)=1 by decide,if_true,if_false] at Z U T h4 Q O;have en:x[i].n=(x[i].n.toNat:Int):=by omega
  generalize hn:x[i].n.toNat=n at *;have a7:n<I.length:=by omega
  refine AU (fun vs W'=>vs=[.int .i64 (E.length:Int)]/\W'=W4) ?_ ?_
  .rintro _ _ ⟨rfl,rfl⟩ _;rw[AG];refine AL (X 0 _ rfl) ?_;rw[Am];refine AE (fun e=>by omega) fun _=>?_;rw[List.headD_cons,AR,AQ (by omega)];refine⟨⟨i+1,E,I.drop n,F3,J,rfl,f3,h4.up (by rw[V];omega),an,Q,O,by rw[List.length_drop];omega,by rw[List.length_drop];omega,?_,fun bx=>?_,by rw[List.length_drop];omega⟩,by rw[BJ,BJ];omega⟩
   .rw[List.length_drop,show(d.length:Int)-((I.length-n:Nat):Int)=(d.length:Int)-I.length+x[i].n by omega];exact T.2
   .rw[Ap,List.map_drop,List.getLast?_drop,if_neg (by rw[List.length_map];omega)];exact a1 fun e=>by rw[e] at a7;simp at a7
  .rw[AG];refine AL (X 0 _ rfl) ?_;rw[Am];exact AE (fun e=>by omega) fun _=>⟨rfl,rfl⟩
 .simp only[k,show ¬(2:Int)=3 by decide,show ¬(2:Int)=1 by decide,if_true,if_false] at Z U T h4 Q O;obtain⟨sG,_⟩:=bk x[i] a8;have cx:=OH k sG.1 (hF.pl x[i] a8);have e6:=cv x x[i] a8 k;have b9:I≠[]:=fun e=>T.1 (by rw[e];simp);have b0:=UY (ks:=σ.ks) (n:=d.length) (x:=x.drop (i+1)) (d:=I) (fun o ho=>b1 o (List.mem_of_mem_drop ho)) (by omega) ax T.2 (a1 b9);have ea:=Xm (ks:=σ.ks) (x:=x.drop (i+1)) (d:=I);obtain⟨ra,rc,dk,dT⟩:=o1.shape;simp only[maxLen] at dT;refine AU (fun vs W'=>vs=[.int .i64 (E.length:Int)]/\W'=W4) ?_ ?_
  .rintro _ _ ⟨rfl,rfl⟩ _;rename World=>W4
   rw[AG];refine AL (X 0 _ rfl) ?_;rw[Am];refine AE (fun _=>?_) fun e=>absurd k e;rw[AG];refine AL (X 2 _ rfl) ?_;rw[AG];refine AL (X 3 _ rfl) ?_;rw[List.headD_cons];refine AA (N7 (at':=E.length) (S:=fun y=>D y/\y<W.heap.size) h4 hT (by rw[List.length_append];omega) (o1.grow g4 (by decide) fun _ _ h=>h) (o2.grow g4 (by decide) fun _ _ h=>h) (fun y Y=>ak y (.inr Y)) e1 (GN.2 (sG.part false).1) sG.2 sG.len (by rw[List.length_append];omega) (by have:G=22*B+50:=rfl;omega)) ?_;rintro _ W5 ⟨rfl,F5,f5,h5,M5⟩;rw[AG];refine AL (M5.cell (X 2 _ rfl) fun e=>by rw[BP] at e;have:=(al _ e).2.1;simp only at this;omega) ?_;rw[dk,AT,AR,wrap64 (by omega) (by omega),show((E.length:Int)+(x[i].BA.length:Int))=((E.length+x[i].BA.length:Nat):Int) by omega,AR,AQ (by omega)];have c4:(E++MX σ.ks I (x.drop (i+1))).take E.length++x[i].BA.map (cellOf σ.ks x[i].set)++(E++MX σ.ks I (x.drop (i+1))).drop E.length=(E++x[i].BA.map fun r=>(⟨r,x[i].set⟩:Cel))++MX σ.ks I (x.drop (i+1)):=by
    rw[List.take_left' rfl,List.drop_left' rfl,cx]
   rw[c4] at h5;have ll:(E++x[i].BA.map fun r=>(⟨r,x[i].set⟩:Cel)).length=E.length+x[i].BA.length:=by rw[List.length_append,List.length_map]
   refine⟨⟨i+1,E++x[i].BA.map fun r=>(⟨r,x[i].set⟩:Cel),I,F5,J,by rw[ll],fun y Y=>?_,h5.up ?_,?_,⟨fun c hc=>?_,?_⟩,by rw[List.append_assoc];exact O,by omega,ax,T.2,a1,by rw[ll];omega⟩,by rw[BJ,BJ];omega⟩
   .rcases f5 y Y with e|e
    .exact f3 y e
    .exact .inr (by omega)
   .rw[V];show _<=N+x.length*G+(i*G+(22*B+50));omega
   .refine an.next M5 fun y Y e=>?_;rcases f3 y e with e|e
    .exact e
    .omega
   .rcases List.mem_append.1 hc with hc|hc
    .rcases List.mem_append.1 hc with hc|hc
     .exact Q.set c (List.mem_append_left _ hc)
     .obtain⟨r,_,rfl⟩:=List.mem_map.1 hc;exact sG
    .exact Q.set c (List.mem_append_right _ hc)
   .rw[NA (Yt b0)];exact b0
  .rw[AG];refine AL (X 0 _ rfl) ?_;rw[Am];exact AE (fun e=>by omega) fun _=>⟨rfl,rfl⟩
end
variable {v0 v1 v2 v3 v4 v5 v6 v7 v8 v9:Value}{K:Cont}{w:World}
theorem U2(h: AB prog 41 [v0] (fun bx w1=>
 Br bx fun t22=>
 AD t22
 (K (.tuple #[(.slice none 0 0),(.int .i64 1)]) w1)
 (AJ v0 fun t25=>
 AM 2 t25 fun c4=>
 AK c4 (fun c6 w2=>
 AB prog 47 [c6,v1,v2] (fun al w3=>
 AO 0 al fun c7=>
 AO 1 al fun an=>
 Dm .i64 an (.int .i64 0) fun c8=>
 AD c8
 (K (.tuple #[(.slice none 0 0),an]) w3)
 (AJ v0 fun c9=>
 AM 3 c9 fun t39=>
 AK t39 (fun ca w4=>
 AB prog 48 [ca,v1,v2] (fun av w5=>
 AO 0 av fun ax=>
 AO 1 av fun _t45=>
 Aw [6,9,10] [[],[0],[0,1],[0,1,2],[],[],[4,5],[],[],[4,5,6,7,8],[0,1,2,3,4,5,6,7,8,9],[0,1,2,3,4,5,6,7,8,9,10],[0,1,2,3,4,5,6,7,8,9,10,11],[0,1,2,3,4,5,6,7,8,9,10,11],[0,1,2,3,4,5,6,7,8,9,10,11,12],[0,1,2,3,4,5,6,7,8,9,10,11,12,13,14]] w5.drew (fun M St=>
 AJ v0 fun cc=>
 AM 4 cc fun cd=>
 BC (St 3) cd fun t50=>
 AB prog 50 [v0,v1] (fun t53 w6=>
 Mod (M 6) w5.drew w6/\
 AB prog 50 [v0,v2] (fun ch w7=>
 Mod (M 9) w6 w7/\
 AB prog 49 [t50,t53,ch] (fun ay w8=>
 Mod (M 10) w7 w8/\
 AO 0 ay fun cn=>
 AO 1 ay fun _t59=>
 Ak ax fun cv=>
 Ay [cn,(.slice none 0 0),(.int .i64 0)] (fun vs Q w9=>∀_:Env,
 Be .i64 (nth vs 2) cv fun cx=>
 AD cx
 (Bf 2 ax (nth vs 2) fun dk=>
 Ac 2 dk (fun dT e1=>
 Al 108 [(.int .i64 0),(.int .i64 0)] (fun S e2=>
 AZ 2 S dT (fun T=>
 Aw [6] [[],[0],[0,1],[0,1,2],[],[4],[0,1,2,3,4,5],[0,1,2,3,4,5,6],[0,1,2,3,4,5,6,7],[0,1,2,3,4,5,6,7],[0,1,2,3,4,5,6,7,8],[0,1,2,3,4,5,6,7,8,9,10]] T.drew (fun e3 O=>
 AJ v0 fun e4=>
 AM 5 e4 fun e5=>
 BC (O 3) e5 fun t70=>
 AM 1 S fun e6=>
 BC (O 5) e6 fun e7=>
 AB prog 51 [t70,e7] (fun b0 b1=>
 Mod (e3 6) T.drew b1/\
 AO 0 b0 fun b2=>
 AO 1 b0 fun _t75=>
 AM 0 S fun t76=>
 AK t76 (fun t77 e8=>
 Ay [(nth vs 0),(nth vs 1),(.int .i64 0)] (fun i y j=>∀_:Env,
 Be .i64 (nth i 2) t77 fun e9=>
 AD e9
 (Ar (fun B ea=>∀_:Env,
 Ar (fun b3 ec=>∀_:Env,
 Ac 2 (nth B 0) (fun ed ee=>
 Bc 45 2 1 [(.int .i32 0),(.slice none 0 0)] [(0,ed)] (fun ef eg=>
 runK prog (Builtin.append_ #[40,40] 40 [(nth i 1),ef].toArray) (fun b4 eh=>
 AX .i64 (nth i 2) (.int .i64 1) fun b5=>
 y [(nth b3 0),b4,b5] eh) eg) ee) ec) (fun U=>
 AM 0 (nth B 0) fun ei=>
 AK ei (fun ej o=>
 DT .i32 ej (.int .i32 10) fun ek=>
 AD ek
 (Aw [4,6] [[],[0],[0,1],[],[3],[0,1,2],[0,1,2,5],[0,1,2,3,4,5,6]] o.drew (fun I b6=>
 Bf 1 (nth i 0) (.int .i64 0) fun en=>
 BC (b6 2) en fun b7=>
 AM 1 (nth B 0) fun b8=>
 (runK prog (Instr.sliceAt 50 (nth i 0) (some (.int .i64 1)) none none) (fun eo V=>
 Mod (I 4) o.drew V/\
 BD b8 b7 (fun b9=>
 Mod (I 6) V b9/\
 U [eo] b9) V) o.drew)/\
 (BD b8 b7 (fun X=>
 Mod (I 6) o.drew X/\
 runK prog (Instr.sliceAt 50 (nth i 0) (some (.int .i64 1)) none none) (fun Y ba=>
 Mod (I 4) X ba/\
 U [Y] ba) X) o.drew)))
 (U [(nth i 0)] o)) ea)) (fun J=>
 Aw [6,8,9] [[],[],[1],[0,1,2],[0,1,2,3],[],[5],[0,1,2,3,4,5,6],[],[0,1,2,3,4,5,6,7,8]] j.drew (fun x bc=>
 Ak (nth i 1) fun ep=>
 Bf 1 c7 ep fun er=>
 BC (bc 4) er fun bd=>
 (AB prog 52 [b2] (fun et Z=>
 Mod (x 6) j.drew Z/\
 Ae [(0,1),(1,1)] [(.int .i32 0),(.slice none 0 0)] [(0,bd),(1,et)] fun eu=>
 Al 45 [(.int .i32 0),(.slice none 0 0)] (fun bk a1=>
 Mod (x 8) Z a1/\
 AZ 2 bk eu (fun bl=>
 Mod (x 9) a1 bl/\
 J [bk] bl) a1) Z) j.drew)/\
 (Al 45 [(.int .i32 0),(.slice none 0 0)] (fun E a6=>
 Mod (x 8) j.drew a6/\
 AB prog 52 [b2] (fun a7 a8=>
 Mod (x 6) a6 a8/\
 Ae [(0,1),(1,1)] [(.int .i32 0),(.slice none 0 0)] [(0,bd),(1,a7)] fun ak=>
 AZ 2 E ak (fun bp=>
 Mod (x 9) a8 bp/\
 J [E] bp) a8) a6) j.drew))))
 (AX .i64 (nth vs 2) (.int .i64 1) fun bs=>
 Q [(nth i 0),(nth i 1),bs] j)) e8) b1) T.drew)) e2) e1) w9)
 (K (.tuple #[(nth vs 1),(.int .i64 0)]) w9)) w8) w7) w6) w5.drew)) w4) w3)) w2) w1)) w):AB prog 15 [v0,v1,v2] K w:=cO (aN (aO (aN (aO aE .nil)) (aN (aO (aN (aO aE .nil)) (aN (aO (.dc [6,9,10] [[],[0],[0,1],[0,1,2],[],[],[4,5],[],[],[4,5,6,7,8],(aR 10),(aR 11),(aR 12),(aR 12),(aR 13),(aR 15)] []) (aN (aO (aN (.node [12,14,62] [(12,12),(14,14),(16,19),(62,102)] (aN (aO aE (aO (aN (aO (.dc [6] [[],[0],[0,1],[0,1,2],[],[4],(aR 6),(aR 7),(aR 8),(aR 8),(aR 9),(aR 11)] []) (aN (.node [12,14,78] [(12,12),(14,14),(19,19),(78,101)] (aN (aO aE (aO (.cut [19] [(19,19),(80,87)] (.dt [6,8,9] [[],[],[1],[0,1,2],(aR 4),[],[5],(aR 7),[],(aR 9)] [[6]] (.op 0 (.op 1 (.op 2 (.op 3 (.op 4 (.op 5 (.br (.op 6 (.op 7 (.op 8 (.op 9 .nil)))) (.op 8 (.op 6 (.op 7 (.op 9 .nil)))))))))))) (.cut [12] [(12,12),(88,96)] (aN (aO (.dt [4,6] [[],[0],[0,1],[],[3],[0,1,2],[0,1,2,5],(aR 7)] [] (.op 0 (.op 1 (.op 2 (.op 3 (.op 5 (.br (.op 4 (.op 6 (.op 7 .nil))) (.op 6 (.op 4 (.op 7 .nil)))))))))) .nil)) .nil)) .nil))) .nil)))) .nil))) .nil)) aE)))))))) func15 h (by kernel_rfl)
theorem cH(h: AB prog 8 [v0] (fun ak w1=>
 AO 0 ak fun bx=>
 AO 1 ak fun c4=>
 Ar (fun _vs w2=>∀_:Env,
 AB prog 11 [bx,v1] (fun t45 w3=>
 AO 0 t45 fun t46=>
 AO 1 t45 fun c6=>
 Dm .i64 c6 (.int .i64 0) fun c7=>
 AD c7
 (AB prog 10 [] (fun t50 w4=>
 K t50 w4) w3)
 (Ak v2 fun c8=>
 Ay [(.int .i64 0)] (fun o U w5=>∀_:Env,
 Be .i64 (nth o 0) c8 fun c9=>
 AD c9
 (Bf 3 v2 (nth o 0) fun ca=>
 AM 0 ca fun cc=>
 AK cc (fun cd w6=>
 AB prog 12 [t46,cd] (fun _t62 w7=>
 AX .i64 (nth o 0) (.int .i64 1) fun ch=>
 U [ch] w7) w6) w5)
 (AB prog 15 [t46,v3,v4] (fun al w8=>
 AO 0 al fun cn=>
 AO 1 al fun t70=>
 AB prog 15 [t46,v4,v5] (fun an w9=>
 AO 0 an fun t76=>
 AO 1 an fun t77=>
 Ar (fun _vs_2 cv=>∀_:Env,
 AB prog 15 [t46,v3,v5] (fun av ax=>
 AO 0 av fun y=>
 AO 1 av fun cx=>
 Ar (fun _vs_3 dk=>∀_:Env,
 Ak y fun ay=>
 Ay [(.int .i64 0)] (fun i x b0=>∀_:Env,
 Be .i64 (nth i 0) ay fun b1=>
 AD b1
 (Ar (fun _vs_5 dT=>∀_:Env,
 AX .i64 (nth i 0) (.int .i64 1) fun b2=>
 x [b2] dT) (fun b3=>
 AX .i64 v3 (nth i 0) fun b4=>
 AB prog 23 [t46,b4] (fun Q e1=>
 AO 0 Q fun b5=>
 AO 1 Q fun b6=>
 Al 45 [(.int .i32 0),(.slice none 0 0)] (fun t25 e2=>
 AZ 2 t25 b5 (fun j=>
 Aw [4,9,10] [[],[0],[0,1],[0,1,2],[0,1,2,3],[0,1,2],[0,1,2],[0,1,2],[0,1,2,7],[0,1,2,5,6,7,8],[0,1,2,3,4,5,6,7,8,9],[0,1,2,3,4,5,6,7,8,9,10],[0,1,2,3,4,5,6,7,8,9,10,11]] j.drew (fun M St=>
 Dm .i64 b6 (.int .i64 0) fun b7=>
 AD b7
 ((K (.bool false) j.drew)/\
 (K (.bool false) j.drew))
 (Dv (St 3) 2 t25 fun S=>
 AX .i64 (nth i 0) (.int .i64 1) fun T=>
 (Bc 45 2 1 [(.int .i32 0),(.slice none 0 0)] [(0,S)] (fun b8 V=>
 Mod (M 4) j.drew V/\
 runK prog (Instr.sliceAt 40 y (some (nth i 0)) (some T) none) (fun b9 X=>
 Mod (M 9) V X/\
 AB prog 22 [b8,b9] (fun ba Y=>
 Mod (M 10) X Y/\
 Br ba fun bc=>
 AD bc
 (K (.bool false) Y)
 (b3 [] Y)) X) V) j.drew)/\
 (runK prog (Instr.sliceAt 40 y (some (nth i 0)) (some T) none) (fun B Z=>
 Mod (M 9) j.drew Z/\
 Bc 45 2 1 [(.int .i32 0),(.slice none 0 0)] [(0,S)] (fun E a1=>
 Mod (M 4) Z a1/\
 AB prog 22 [E,B] (fun I a6=>
 Mod (M 10) a1 a6/\
 Br I fun O=>
 AD O
 (K (.bool false) a6)
 (b3 [] a6)) a1) Z) j.drew)))) e2) e1) b0))
 (AB prog 10 [] (fun bd e3=>
 K bd e3) b0)) dk) (fun e4=>
 Dm .i64 cx (.int .i64 0) fun e5=>
 AD e5
 (K (.bool false) ax)
 (Bc 45 2 0 [] [] (fun e6 e7=>
 runK prog (Builtin.append_ #[40,40] 40 [e6,cn].toArray) (fun e8 e9=>
 runK prog (Builtin.append_ #[40,40] 40 [e8,t76].toArray) (fun ea ec=>
 AB prog 22 [ea,y] (fun bk bl=>
 Br bk fun bp=>
 AD bp
 (K (.bool false) bl)
 (e4 [] bl)) ec) e9) e7) ax))) cv) (fun ed=>
 Dm .i64 t70 (.int .i64 0) fun ee=>
 AD ee
 (AB prog 10 [] (fun ef eg=>
 K ef eg) w9)
 (Dm .i64 t77 (.int .i64 0) fun eh=>
 AD eh
 (AB prog 10 [] (fun a7 ei=>
 K a7 ei) w9)
 (ed [] w9)))) w8) w5)) w3)) w2) (fun J=>
 Dm .i64 c4 (.int .i64 0) fun ej=>
 AD ej
 (AB prog 10 [] (fun ek en=>
 K ek en) w1)
 (AB prog 9 [v0,v1,v2] (fun eo bs=>
 Br eo fun t39=>
 AD t39
 (AB prog 10 [] (fun a8 ep=>
 K a8 ep) bs)
 (J [] bs)) w1))) w):AB prog 5 [v0,v1,v2,v3,v4,v5] K w:=cO (aN (aN (.cut [] [(12,12),(32,41)] (aN (aO aE .nil)) (aN (aO (aN (aO aE .nil)) (aO (aN (.node [53] [(17,17),(53,63)] (aN (aO aE (aO aE .nil))) .nil)) (aN (aN (.cut [] [(12,12),(78,84)] (aN (aO aE .nil)) (aN (.cut [] [(12,12),(92,103)] (aN (aO aE .nil)) (aO (aN (.node [106] [(12,12),(24,26),(106,130)] (aN (aO aE (.cut [] [(12,12),(24,26),(108,129)] (aN (aN (aO (.dt [4,9,10] [[],[0],[0,1],[0,1,2],(aR 4),[0,1,2],[0,1,2],[0,1,2],[0,1,2,7],[0,1,2,5,6,7,8],(aR 10),(aR 11),(aR 12)] [] (.op 0 (.op 1 (.op 2 (.op 3 (.op 5 (.op 6 (.op 7 (.op 8 (.br (.op 4 (.op 9 (.op 10 (.op 11 (.op 12 .nil))))) (.op 9 (.op 4 (.op 10 (.op 11 (.op 12 .nil))))))))))))))) (aO aE .nil)))) .nil))) .nil)) aE)))))))))))) func5 h (by kernel_rfl)
end Go.Proofs.YtmdhibffnkhcnaaGreatDoor
namespace Go.Proofs.YtmdhibffnkhcnaaGreatDoor
open Go Go.K Proofs.Tryz
def G1(A B:Nat)(W:World)(ov:Value)(l:List Cel):Prop:=∃D:Nat->Prop,AF B 45 2 (Gf D) W ov l/\∀x,D x->A<=x/\x<W.heap.size/\ov.ownBlock≠some x
theorem G1.nil{A B:Nat}{W:World}:G1 A B W (.slice none 0 0) []:=⟨fun _=>False,AF.nil,fun _ h=>h.elim⟩
theorem G1.grow{A B:Nat}{W W':World}{ov:Value}{l:List Cel}(h:G1 A B W ov l)(g:Grow W W'):G1 A B W' ov l:=by
 obtain⟨D,h1,j⟩:=h;have:=g.size;exact⟨D,AF.mod h1 g (fun _ _ h=>h) fun r x _ i=>i.mod g (fun _ _ _ h=>h) fun _ _ h=>h,fun x i=>⟨(j x i).1,by have:=(j x i).2.1;omega,(j x i).2.2⟩⟩
theorem G1.rd{A B:Nat}{W:World}{ov:Value}{l:List Cel}(h:G1 A B W ov l)(j:A<=B):Ep (fun x=>A<=x/\x<W.heap.size) (fun x=>A<=x/\x<W.heap.size) W ov l:=by
 obtain⟨D,h1,o⟩:=h;exact BH.sub (AF.sl h1) (fun x i h=>⟨by have:=h.1;omega,i⟩) (by decide) fun r x i=>i.mod (Mod.refl (fun _=>False) _) (fun _ _ _ h=>h) fun b hb h=>⟨(o b h).1,hb⟩
theorem Rn{A B:Nat}{W:World}{ov sv:Value}{l:List Cel}{c:Cel}{D':Nat->Prop}{K:Cont}(h:G1 A B W ov l)(S:B<=W.heap.size)(O:Cv D' W sv c.set)(E:∀x,D' x->A<=x/\x<W.heap.size/\ov.ownBlock≠some x)(hl:l.length<=1099511627776)
 (T:∀i W',G1 A B W' i (l++[c])->Mod (fun b=>ov.ownBlock=some b) W W'->(∀g,i.ownBlock=some g->ov.ownBlock=some g\/W.heap.size<=g)->K i W') :
  Bc 45 2 1 [(.int .i32 0),(.slice none 0 0)] [(0,.agg #[.int .i32 c.r,sv])] (fun s Q=>runK prog (Builtin.append_ #[40,40] 40 [ov,s].toArray) K Q) W:=by
 obtain⟨D,h1,U⟩:=h;obtain⟨sa,sc,I,_⟩:=O.shape;have hb:∀x,(D x\/D' x)->A<=x/\x<W.heap.size/\ov.ownBlock≠some x:=fun x j=>j.elim (U x) (E x);have J:AF B 45 2 (Gf fun x=>D x\/D' x) W ov l:=AF.mod h1 (Mod.refl (fun _=>False) _) (fun _ _ h=>h) fun r x _ j=>j.mod (Mod.refl (fun _=>False) _) (fun _ _ _ h=>h) fun _ _ h=>.inl h;have V:sv.cells=#[sv]:=by rw[I];rfl
 refine DP Kt J S (cs:=[.int .i32 c.r,sv]) (x:=c) (Cw (v:=.agg #[.int .i32 c.r,sv]) rfl (by decide) rfl rfl) rfl ⟨sv,rfl,O.sub (fun _ _ h=>.inr h) (by decide) fun _ _ h=>h⟩ (fun _ _ _ h=>h.one) (fun Q w2 r y hz hm X=>X.mod hm (fun b _ j e=>?_) fun _ _ h=>h) (by omega) (by simp only[maxLen];omega) fun i W' o m n=>?_
 .obtain⟨_,Y,t3⟩:=hb b j;rcases e with e|e
  .exact t3 e
  .omega
 .refine T i W' ⟨_,o,fun x j=>?_⟩ m n;obtain⟨Z,Y,t3⟩:=hb x j;have zm:=m.size;refine⟨Z,by omega,fun e=>?_⟩;rcases n x e with e|e
  .exact t3 e
  .omega
theorem DD.Z2{α:Type}{g:AvT α}{F C:Nat->Prop}{W:World}{b bt N:Nat}{l:List α}(h:DD g F C W b bt l N):l.length<=N:=by
 obtain⟨A,T,h1,i,j,rfl,o⟩:=h.Dh;have x:=ES (A:=A) rfl i j;have y:=Tr.Qa T;omega
theorem Wj{i j n:Int}:IK i j n=0↔0<=i/\i<=j/\j<=n:=by unfold IK;repeat' split<;>omega
theorem bJ{i j n:Int}:IK i j n=0\/IK i j n=5:=by unfold IK;repeat' split<;>omega
theorem NC{F:Nat->Prop}{W:World}{b bt N:Nat}{l:List Ck}{i j:Int}(h:DD Aq.toAvT F FN W b bt l N)(he:IK i j (BS l).length≠0) :
  AB prog 47 [.pointer (some ⟨b,0,none⟩),.int .i64 i,.int .i64 j] (fun v' w'=>v'=.tuple #[.slice none 0 0,.int .i64 5]/\Grow W w') W:=by
 apply UM;refine Bx.zero fun c O hc o B=>?_;refine AA (Hp Dt (h.grow o)) ?_;rintro _ w2 ⟨rfl,y⟩;rw[show Tr.sz Aq.toAvT.k.μ l=(BS l).length from FB l,Bg];refine AY (fun e=>absurd e he) fun _=>?_;refine(B.grow y).st (q:=0) (show 0<1 by decide) rfl rfl fun Q E I=>?_;refine AL (E.cells 0 _ rfl) ?_;have J:IK i j (BS l).length=5:=bJ.resolve_left he;rw[J];have:=o.size;exact⟨rfl,(o.trans y).next I fun x S e=>by omega⟩
theorem R2(c:Cel)(d:List Cel):Bz (c::d)=(if c.r=10 then[c.set] else[])++Bz d:=by by_cases h:c.r=10<;>simp[Bz,h]
section
variable {w0:World}{F:Nat->Prop}{W:World}{a:TxA}{σ:SKs}{most:Int}{N:Nat}{d:List Cel}
theorem Nc{i j:Int}(h:FY .f w0 F W a σ most d N)(he:¬(0<=i/\i<=j/\j<=d.length)) :
  AB prog 15 [.pointer (some ⟨a.b,0,none⟩),.int .i64 i,.int .i64 j] (fun v' w'=>v'=.tuple #[.slice none 0 0,.int .i64 5]/\Grow W w') W:=by
 apply U2;refine AA (EH h.box.1) ?_;rintro _ _ ⟨rfl,rfl⟩;rename World=>W
 rw[An];refine AS ?_;refine AH ?_;refine Bm (h.box.1.cells 2 _ rfl) ?_;obtain⟨l1,Fr,bt,o,x⟩:=h.GZ;refine AA (NC x fun e=>he ?_) ?_
 .rw[Wj,o,Ap,List.length_map] at e;exact e
 rintro _ B ⟨rfl,y⟩;refine BK ?_;rw[Bg];exact AY (fun e=>by cases e) fun _=>⟨rfl,y⟩
theorem IJ{i j:Nat}(h:FY .f w0 F W a σ most d N)(bl:i<=j)(hj:j<=d.length)(hG:∀c∈d,EC σ.ks c.set)(hz:d.length<=10000000)(hN:N<=1000000000) :
  AB prog 15 [.pointer (some ⟨a.b,0,none⟩),.int .i64 (i:Int),.int .i64 (j:Int)] (fun v' w'=>∃cv,v'=.tuple #[cv,.int .i64 0]/\G1 W.heap.size W.heap.size w' cv ((d.take j).drop i)/\Grow W w') W:=by
 have h0:=h;obtain⟨z,l2,t,f,ey,hM,ez,hu,hh,fi,gg⟩:=h;have eA:z.length=d.length:=by rw[<-ey,List.length_map]
 have ch:(Ap d).length=d.length:=List.length_map _;have eB:=congrArg List.length hu;rw[List.length_map,eA] at eB;apply U2;refine AA (EH hM.box.1) ?_;rintro _ _ ⟨rfl,rfl⟩;rename World=>W
 rw[An];refine AS ?_;refine AH ?_;refine Bm (hM.box.1.cells 2 _ rfl) ?_;obtain⟨l1,Fr,br,e3,bx,_,_⟩:=hM.Qr;have gh:(BS l1).length=d.length:=by rw[e3,ch]
 have fT:=bx.Z2;refine AA (Sk (i:=i) (j:=j) bx (by omega) bl (by omega) (by omega) (by omega)) ?_;rintro _ W1 ⟨lv,rfl,oL,g1⟩;rw[e3] at oL;refine BK ?_;refine Mo ?_;have e4:=hM.grow g1;refine AH ?_;refine Bm (e4.box.1.cells 3 _ rfl) ?_;obtain⟨Fs,bs,fj,_,_⟩:=e4.Pc;have fU:ED l2=d.length:=by rw[DW,eB]
 have gi:=Spn.Eu ez;refine AA (I8 (i:=i) (j:=j) fj (by omega) bl (by omega) (by omega) (by omega)) ?_;rintro _ W2 ⟨rv,rfl,oR,g2⟩;refine BK ?_;have eC:=Spn.GO ez i j;have eG:(Spn.kd.over l2 i j).flatMap Spn.u=((z.map Prod.snd).take j).drop i:=by rw[Spn.Df.over,hu]
 have a7:((Spn.kd.over l2 i j).flatMap Spn.u).length=j-i:=by rw[eG,List.length_drop,List.length_take,List.length_map,eA];omega
 have e5:=Spn.Eu eC;rw [a7] at e5;generalize Spn.kd.over l2 i j=row at *;have fk:=e4.grow g2;have gd:Grow W2 W2.drew:=Mod.drew _ _;have ay:=fk.grow gd;refine Ag (fun _ _=>False) ?_;refine AH ?_;rw [AG,AI];refine Aa ⟨ay.box.1.cells 4 _ rfl,fun j hj e=>e⟩ ?_;have eH:=(g1.trans g2).trans gd;refine AA (GV ay.box.1 (bx.grow eH) (i:=i) (by omega) (by omega)) ?_;rintro _ W3 ⟨rfl,g3⟩;refine ⟨g3.mono fun _ _ h=>h.elim,?_⟩;have eI:=ay.grow g3;refine AA (GV eI.box.1 ((bx.grow eH).grow g3) (i:=j) (by omega) (by omega)) ?_;rintro _ W4 ⟨rfl,g4⟩;refine ⟨g4.mono fun _ _ h=>h.elim,?_⟩;have eJ:=eI.grow g4;rw [e3];obtain ⟨Fp,Cp,bp,fo,_,_⟩:=eJ.US;have fp:BW ((Ap d).take i)<=BW ((Ap d).take j):=List.Sublist.count_le _ (by
  rw [<-Nat.min_eq_left bl,<-List.take_take];exact List.take_sublist _ _)
 have fq:BW ((Ap d).take j)<=BW (Ap d):=List.Sublist.count_le _ (List.take_sublist _ _);have gj:=DO (Ap d);refine AA (Ql fo (by omega) fp (by rw [Dj];exact fq) (by rw [Dj];omega) (fun x E=>by
  obtain ⟨c,hc,rfl⟩:=List.mem_map.1 E;have:=(hG c (List.mem_filter.1 hc).1).len;omega)) ?_
 rintro _ S ⟨pv,Wp,rfl,gA,gB,oP⟩;have e6:=gA.trans gB;refine⟨e6.mono fun _ _ h=>h.elim,?_⟩;refine BK ?_;have eK:=(gd.trans g3).trans g4;have b0:=eK.trans e6;have fs:=(g1.trans g2).trans b0;have fu:=eJ.grow e6;have z1:=g1.size;have z2:=g2.size;have gk:=eK.size;have zA:=gA.size;have zB:=gB.size;have eL:((Bz d).take (BW ((Ap d).take j))).drop (BW ((Ap d).take i))=Bz ((d.take j).drop i):=by
  rw[(Cz (d.take j) i).2,(Cz d j).1,show Ap (d.take j)=(Ap d).take j from List.map_take,List.take_take,Nat.min_eq_left bl]
 rw[eL] at oP;have hP:BH (fun x=>W.heap.size<=x/\x<S.heap.size) 1 (CY fun x=>W.heap.size<=x/\x<S.heap.size) S pv (Bz ((d.take j).drop i)):=
  BH.sub (AF.sl oP) (fun x E h=>⟨by have:=h.1;omega,E⟩) (by decide) fun r x E=>Az.rsub E fun y hy h=>⟨by have:=h.1;omega,hy⟩
 have fv:BH (fun x=>W.heap.size<=x/\x<S.heap.size) 1 CH S lv (((Ap d).take j).drop i):=BH.grow (BH.sub (AF.sl oL) (fun x E h=>⟨h.1,by have:=g2.size;have:=b0.size;omega⟩) (by decide) fun _ _ h=>h) (g2.trans b0) (by decide) fun _ _ h=>h;have eM:BH (fun x=>W.heap.size<=x/\x<S.heap.size) 2 DU S rv row:=BH.grow (BH.sub (AF.sl oR) (fun x E h=>⟨by have:=h.1;omega,by have:=b0.size;omega⟩) (by decide) fun _ _ h=>h) b0 (by decide) fun _ _ h=>h;clear oP oL oR
 let B:Nat->Nat:=fun m=>((row.take m).flatMap Spn.u).length
 have b1:∀(m:Nat) (hm:m<row.length) (q:Nat),q<row[m].n->∃c,d[i+(B m+q)]?=some c/\(c.r≠10->f row[m].id=c.set)/\i+(B m+q)<j/\0<Spn.rn row[m].id none (z.map Prod.snd):=by
  intro m hm q hq;have e1:(row.flatMap Spn.u)[B m+q]?=some row[m].id:=by
   have:row=row.take m++(row[m]::row.drop (m+1)):=by rw[<-List.drop_eq_getElem_cons hm,List.take_append_drop]
   conv=>lhs;rw[this]
   rw[List.flatMap_append,List.getElem?_append_right (by show B m<=_;omega),show B m+q-((row.take m).flatMap Spn.u).length=q by show B m+q-B m=q;omega,List.flatMap_cons,List.getElem?_append_left (by rw[Spn.u,List.length_replicate];exact hq),Spn.u,List.getElem?_replicate,if_pos hq]
  have e7:=(List.getElem?_eq_some_iff.1 e1).1;rw[eG,List.getElem?_drop,List.getElem?_take,if_pos (by rw[a7] at e7;omega),List.getElem?_map] at e1;rw[a7] at e7;cases c4:z[i+(B m+q)]? with
  |none=>rw[c4] at e1;cases e1
  |some p=>
   rw[c4,Option.map_some,Option.some.injEq] at e1;have hp:=List.mem_of_getElem? c4;refine⟨p.1,by rw[<-ey,List.getElem?_map,c4];rfl,fun fw=>?_,by omega,?_⟩
   .rw[<-e1];exact(fi p hp).2 fw
   .rw[<-e1];exact Spn.H6 (List.mem_map.2 ⟨p,hp,rfl⟩) (by simp)
 have b2:∀m (hm:m<row.length),B (m+1)=B m+row[m].n:=fun m hm=>by
  show((row.take (m+1)).flatMap Spn.u).length=_;rw[List.take_add_one,List.getElem?_eq_getElem hm,List.flatMap_append,List.length_append];simp[Spn.u,B]
 have e8:B row.length=j-i:=by show((row.take row.length).flatMap Spn.u).length=_;rw[List.take_length,a7]
 let GS:Nat->Value->Value->World->Prop:=fun e pv ov W'=>Grow S W'/\G1 W.heap.size S.heap.size W' ov ((d.take (i+e)).drop i)/\BH (fun x=>W.heap.size<=x/\x<S.heap.size) 1 (CY fun x=>W.heap.size<=x/\x<S.heap.size) W' pv (Bz ((d.take j).drop (i+e)))
 obtain⟨qa,qc,eN,_⟩:=eM.shape;have eO:Ak rv=Ak (.slice qa row.length qc):=by rw[eN]
 rw[eO,AT];refine Af (fun vs W'=>∃(m:Nat) (pv ov:Value),m<=row.length/\vs=[pv,ov,.int .i64 m]/\GS (B m) pv ov W') (fun vs _=>row.length-EF vs 2) ⟨0,pv,_,Nat.zero_le _,rfl,Mod.refl _ _,by show G1 _ _ _ _ ((d.take (i+0)).drop i);rw[Nat.add_zero,List.drop_take_self];exact G1.nil,hP⟩ ?_;rintro vs W6 ⟨m,fx,eP,hm,rfl,g6,o6,p6⟩ _;simp only[GJ];refine Hq (fun e7=>?_) fun gl=>?_;rotate_left
 .obtain rfl:m=row.length:=by omega
  rw[e8,show i+(j-i)=j by omega] at o6;obtain⟨D,q1,q2⟩:=o6;exact⟨eP,rfl,⟨D,q1.base fun g hg=>by have:=(AF.BM q1 g hg).1;omega,q2⟩,fs.trans g6⟩
 have Z:m<row.length:=by omega
 have fy:=eM.grow g6 (by decide) fun _ _ h=>h;subst eN;obtain⟨p,r,rfl,_,hr,hc,rfl⟩:=fy.get Z;refine Ab Z (Ah (vs:=row[m].cells) rfl (fun j u hu=>by rw[Addr.add_add];exact hc j u hu) ?_);refine Bx.new (vs:=row[m].cells) rfl rfl (Spn.one _) fun gm W7 fV g7 fz=>?_;have eQ:Grow W7 W7.drew:=Mod.drew _ _;have e9:=g7.trans eQ;have fA:=g6.trans e9;have eR:=fu.grow fA;have cx:=fz.grow eQ;have ea:=Spn.Hc eC row[m] (List.getElem_mem Z);obtain⟨_,_,_,_,a8⟩:=b1 m Z 0 ea;refine Ag (fun _ _=>False) ?_;refine AH ?_;rw[AG,AI];refine Aa ⟨eR.box.1.cells 5 _ rfl,fun j hj e=>e⟩ ?_;rw[AG,AI];refine Aa ⟨cx.cells 1 _ rfl,fun j hj e=>e⟩ ?_;obtain⟨Ft,eS,_,_⟩:=eR.PI;obtain⟨d1,d2⟩:=hh.idle (.inl a8);obtain⟨cn,dk⟩:=hh.ask a8;refine AA (Mw eS (by omega) (by omega) (by omega)) ?_;rintro v8 W8 ⟨g8,eT⟩;rw[dk] at eT;obtain⟨gn,rfl,o8⟩:=eT;simp only at o8;refine⟨g8.mono fun _ _ h=>h.elim,?_⟩;refine BK ?_;have fW:(f row[m].id).length<=64:=by
  obtain⟨C,pl,fr,bm,hR⟩:=eS;exact NO hR.core dk
 refine Bm ((cx.grow g8).cells 0 _ rfl) ?_;have c6:=e9.trans g8;have fB:=(AF.sl o8).HL (by decide);have gp:=e9.size;have z8:=g8.size;have gq:j<=10000000:=by omega
 have fX:B m+row[m].n<=j-i:=by
  have:=b2 m Z;have h2:B (m+1)<=B row.length:=by
   show((row.take (m+1)).flatMap Spn.u).length<=((row.take row.length).flatMap Spn.u).length;rw[List.take_length];conv=>rhs;rw[<-List.take_append_drop (m+1) row,List.flatMap_append,List.length_append]
   omega
  omega
 refine Af (fun vs W'=>∃(q:Nat) (pv ov:Value),q<=row[m].n/\vs=[pv,ov,.int .i64 q]/\GS (B m+q) pv ov W'/\Mod (fun x=>x<W6.heap.size) W8 W'/\∀g,ov.ownBlock=some g->g<W6.heap.size\/W8.heap.size<=g) (fun vs _=>row[m].n-EF vs 2) ⟨0,fx,eP,Nat.zero_le _,rfl,⟨g6.trans c6,o6.grow c6,BH.grow p6 c6 (by decide) fun r x E=>Az.BR E c6 fun _ _ _ h=>h⟩,Mod.refl _ _,fun g hg=>by obtain⟨D6,o,_⟩:=o6;exact .inl (AF.BM o g hg).2⟩ ?_;rintro vs W9 ⟨q,ec,c7,hq,rfl,⟨c8,o9,p9⟩,ed,b3⟩ _;simp only[GJ];refine Hq (fun fY=>?_) fun fZ=>?_;rotate_left
 .obtain rfl:q=row[m].n:=by omega
  rw[AR,AQ (by omega)];refine⟨⟨m+1,ec,c7,Z,rfl,?_⟩,by rw[XA,XA];omega⟩;rw[b2 m Z];exact⟨c8,o9,p9⟩
 have eU:q<row[m].n:=by omega
 obtain⟨c,ax,fC,gr,_⟩:=b1 m Z q eU;generalize he:B m+q=e at *;have fD:=(List.getElem?_eq_some_iff.1 ax).1;have ga:c∈d:=List.mem_of_getElem? ax;have fE:(((Ap d).take j).drop i)[e]?=some c.r:=by rw[List.getElem?_drop,List.getElem?_take,if_pos (by omega),Ap,List.getElem?_map,ax];rfl
 have ee:(((Ap d).take j).drop i).length=j-i:=by rw[List.length_drop,List.length_take,ch];omega
 have ef:(d.take j).drop (i+e)=c::(d.take j).drop (i+(e+1)):=by
  rw[List.drop_eq_getElem_cons (by rw[List.length_take];omega),List.getElem_take];rw[List.getElem?_eq_getElem fD] at ax;rw[Option.some.inj ax];rfl
 have eg:(d.take (i+(e+1))).drop i=(d.take (i+e)).drop i++[c]:=by
  rw[show i+(e+1)=i+e+1 by omega,List.take_add_one,ax,List.drop_append,show i-(d.take (i+e)).length=0 by rw[List.length_take];omega];rfl
 rw[ef,R2] at p9;have gu:=c8.size;have dT:((d.take (i+e)).drop i).length=e:=by rw[List.length_drop,List.length_take];omega
 obtain⟨D9,eh,fG⟩:=o9;obtain⟨oa,oc,fH,_⟩:=AF.shape eh;have ak:=AF.BM eh;have fI:G1 W.heap.size S.heap.size W9 c7 ((d.take (i+e)).drop i):=⟨D9,eh,fG⟩;have eV:=fv.grow c8 (by decide) fun _ _ h=>h;obtain⟨la,lc,eW,_⟩:=eV.shape;rw[ee] at eW;have ei:(q:Int)+1<=9223372036854775807:=by omega
 refine AU (fun vs W'=>∃b J D',vs=[.pointer (some ⟨b,0,none⟩)]/\Bx W' b [.int .i32 c.r,J]/\W9.heap.size<=b/\Grow W9 W'/\Cv D' W' J (f row[m].id)/\(∀x,D' x->W9.heap.size<=x/\x<W'.heap.size)) ?_ ?_;rotate_left
 .have b4:Grow W9 W9.drew:=Mod.drew _ _;have gv:=b4.size;have eX:=(fB.mod ed (fun x _ E e'=>by have:=E.1.1;omega) (by decide) fun _ _ h=>h).grow b4 (by decide) fun _ _ h=>h;have fJ:Ak c7=Ak (.slice oa e oc):=by rw[fH,dT]
  refine Ag (fun n y=>n=9/\W9.heap.size<=y) ?_;rw[fJ,AT];subst eW;obtain⟨pl,rl,rfl,eY,_,fK,eZ⟩:=eV.get (i:=e) (by rw[ee];omega);have ej:rl=[.int .i32 c.r]:=by
   have h':rl=_:=eZ;rw[h'];congr 2
   have:=List.getElem?_eq_getElem (l:=((Ap d).take j).drop i) (i:=e) (by rw[ee];omega);rw[fE] at this;exact(Option.some.inj this).symm
  subst ej;refine Ab (by omega) ?_;refine Aa ⟨b4.cell (by have:=fK 0 _ rfl;exact this) fun h=>h,fun n hn e'=>by have h1:=e'.2;have h2:=eY.2;rw[BP] at h1;omega⟩ ?_;constructor
  .refine AA (G4 eX (by omega)) ?_;rintro J a1 ⟨a6,Q⟩;refine⟨Q.mono fun _ _ h=>h.elim,?_⟩;obtain⟨ca,cc,b5,_⟩:=AF.shape a6;refine⟨#[.int .i32 c.r,J],by rw[b5];kernel_rfl,?_⟩;refine Bx.zero fun b X hb Y T=>⟨Y.mono fun _ _ h=>h.elim,?_⟩;have fa:=Q.size;have c9:=Y.size;refine T.over (us:=[.int .i32 c.r,J]) rfl rfl (fun u hu=>by simp only[List.mem_cons,List.not_mem_nil,or_false] at hu;rcases hu with rfl|rfl;rfl;rw[b5];rfl) fun b6 ek O=>⟨O.mono fun x _ e'=>⟨rfl,by omega⟩,?_⟩;have en:AF W9.drew.heap.size 79 5 Cx X J (f row[m].id):=AF.mod (R':=Cx) a6 Y (fun _ _ h=>h) fun _ _ _ h=>h;have b7:=AF.BM a6;have b8:AF W9.drew.heap.size 79 5 Cx b6 J (f row[m].id):=AF.mod (R':=Cx) en O (fun x E e'=>by have:=b7 x E;omega) fun _ _ _ h=>h;have fe:=O.size;exact⟨b,J,_,rfl,ek,by omega,((b4.trans Q).trans Y).next O fun x E e'=>by omega,AF.sl b8,fun x E=>by have:=b7 x E.2;omega⟩
  .refine Bx.zero fun b X hb Y T=>⟨Y.mono fun _ _ h=>h.elim,?_⟩;refine AA (G4 (eX.grow Y (by decide) fun _ _ h=>h) (by omega)) ?_;rintro J a1 ⟨a6,Q⟩;refine⟨Q.mono fun _ _ h=>h.elim,?_⟩;obtain⟨ca,cc,b5,_⟩:=AF.shape a6;refine⟨#[.int .i32 c.r,J],by rw[b5];kernel_rfl,?_⟩;have fa:=Q.size;have c9:=Y.size;have gb:=T.lt (Nat.succ_pos _);refine(T.grow Q).over (us:=[.int .i32 c.r,J]) rfl rfl (fun u hu=>by simp only[List.mem_cons,List.not_mem_nil,or_false] at hu;rcases hu with rfl|rfl;rfl;rw[b5];rfl) fun b6 ek O=>⟨O.mono fun x _ e'=>⟨rfl,by omega⟩,?_⟩;have b7:=AF.BM a6;have b8:AF X.heap.size 79 5 Cx b6 J (f row[m].id):=AF.mod (R':=Cx) a6 O (fun x E e'=>by have:=b7 x E;omega) fun _ _ _ h=>h;have fe:=O.size;exact⟨b,J,_,rfl,ek,by omega,((b4.trans Y).trans Q).next O fun x E e'=>by omega,AF.sl b8,fun x E=>by have:=b7 x E.2;omega⟩
 rintro _ a1 ⟨b,J,D',rfl,eo,hb,Q,ep,fL⟩ _;rw [List.headD_cons];have fa:=Q.size;have cd:BH (fun x=>W.heap.size<=x/\x < S.heap.size) 1 (CY fun x=>W.heap.size<=x/\x < S.heap.size) a1 ec ((if c.r=10 then [c.set] else [])++Bz ((d.take j).drop (i+(e+1)))):=BH.grow p9 Q (by decide) fun r x E=>Az.BR E Q fun _ _ _ h=>h;refine AU (fun vs W'=>∃ U b9 er,vs=[U]/\Bx W' b [.int .i32 c.r,b9]/\Mod (fun x=>x=b) a1 W'/\Cv er W' b9 c.set/\(∀ x,er x->W.heap.size<=x/\x < W'.heap.size/\(x < S.heap.size\/W9.heap.size<=x))/\
   BH (fun x=>W.heap.size<=x/\x < S.heap.size) 1 (CY fun x=>W.heap.size<=x/\x < S.heap.size) W' U (Bz ((d.take j).drop (i+(e+1))))) ?_ ?_
 .rintro _ X ⟨U,b9,er,rfl,T,I,et,ff,ba⟩ _;rw[List.headD_cons];have c9:=I.size;have bc:Grow W9 X:=Q.next I fun x E e'=>by omega
  have en:G1 W.heap.size S.heap.size X c7 ((d.take (i+e)).drop i):=fI.grow bc;refine T.Er rfl ?_;refine Rn en (by omega) et (fun x E=>?_) (by rw[dT];omega) fun fM b6 b8 O fN=>?_
  .have:=ff x E;refine⟨this.1,this.2.1,fun e'=>?_⟩;have:=ak x e';omega
  rw[AR,AQ ei];have fg:Grow S b6:=(c8.trans bc).next O fun x E e'=>by have:=ak x e';omega
  have gw:=ed.size;have fe:=O.size;refine⟨⟨q+1,U,fM,eU,rfl,?_,?_⟩,by rw[XA,XA];omega⟩
  .rw[show B m+(q+1)=e+1 by omega];refine⟨?_,by rw[eg];exact b8,BH.mod ba O (fun x _ E e'=>by have:=ak x e';omega) (by decide) fun r x E=>Az.BR E O fun y _ hy e'=>by have:=ak y e';omega⟩;exact fg
  .refine⟨(ed.next bc fun _ _ h=>h.elim).next O fun x E e'=>?_,fun g hg=>?_⟩
   .rcases b3 x e' with h|h
    .exact h
    .omega
   .rcases fN g hg with h|h
    .exact b3 g h
    .exact .inr (by omega)
 .refine Bm (eo.cells 0 _ rfl) ?_;rw[Am];refine AE (fun eu=>?_) fun eu=>?_;rotate_left
  .have al:c.r≠10:=eu;rw[if_neg al,List.nil_append] at cd;rw[<-fC al];exact⟨ec,J,D',rfl,eo,Mod.refl _ _,ep,fun x E=>by have:=fL x E;exact⟨by omega,this.2,.inr this.1⟩,cd⟩
  have al:c.r=10:=eu;rw[if_pos al] at cd;have V:Grow a1 a1.drew:=Mod.drew _ _;have gf:=V.size;have an:=BH.grow cd V (by decide) fun r x E=>Az.BR E V fun _ _ _ h=>h;obtain⟨pa,pc,fO,_⟩:=an.shape;subst fO;obtain⟨pp,rr,rfl,fP,_,fQ,ew,rfl,fR⟩:=an.get (i:=0) (by simp);have bd:Cv (fun x=>W.heap.size<=x/\x<S.heap.size) a1.drew ew c.set:=fR;have e2:=eo.grow V;obtain⟨gx,gy,av,_⟩:=bd.shape;refine Ag (fun n y=>n=6/\y=b) ?_;refine Ab (by simp) ?_;refine Aa ⟨by have:=fQ 0 _ rfl;exact this,fun n hn e'=>by have h1:=e'.2;have h2:=fP.2;rw[BP] at h1;omega⟩ ?_;rw[AG,AI];have fS:([c.set]++Bz ((d.take j).drop (i+(e+1)))).length=(Bz ((d.take j).drop (i+(e+1)))).length+1:=by simp
  constructor
  .refine IW (e:=43) (k:=1) (i:=Tryz.t43) (j:=1) (by kernel_rfl) (by kernel_rfl) (by kernel_rfl) an (by simp) fun U ba=>⟨Mod.refl _ _,?_⟩;have bk:BH (fun x=>W.heap.size<=x/\x<S.heap.size) 1 (CY fun x=>W.heap.size<=x/\x<S.heap.size) a1.drew U (Bz ((d.take j).drop (i+(e+1)))):=ba;refine e2.st (q:=1) (show 1<2 by decide) (by rw[av];rfl) (by rw[av];rfl) fun X T I=>⟨I.mono fun x _ e'=>⟨rfl,e'⟩,?_⟩;have c9:=I.size;refine⟨U,ew,_,rfl,T,(V.mono fun _ _ h=>h.elim).trans I,bd.mod I (fun x _ E e'=>by have:=E.2;omega) (by decide) (fun _ _ h=>h),fun x E=>⟨E.1,by have:=E.2;omega,.inl E.2⟩,BH.mod bk I (fun x _ E e'=>by have:=E.2;omega) (by decide) fun r x E=>Az.BR E I fun y _ hy e'=>by have:=hy.2;omega⟩
  .refine e2.st (q:=1) (show 1<2 by decide) (by rw[av];rfl) (by rw[av];rfl) fun X T I=>⟨I.mono fun x _ e'=>⟨rfl,e'⟩,?_⟩;have c9:=I.size;have fh:=BH.mod an I (fun x _ E e'=>by have:=E.2;omega) (by decide) fun r x E=>Az.BR E I fun y _ hy e'=>by have:=hy.2;omega
   refine IW (e:=43) (k:=1) (i:=Tryz.t43) (j:=1) (by kernel_rfl) (by kernel_rfl) (by kernel_rfl) fh (by simp) fun U ba=>⟨Mod.refl _ _,?_⟩;have bk:BH (fun x=>W.heap.size<=x/\x<S.heap.size) 1 (CY fun x=>W.heap.size<=x/\x<S.heap.size) X U (Bz ((d.take j).drop (i+(e+1)))):=ba;refine⟨U,ew,_,rfl,T,(V.mono fun _ _ h=>h.elim).trans I,bd.mod I (fun x _ E e'=>by have:=E.2;omega) (by decide) (fun _ _ h=>h),fun x E=>⟨E.1,by have:=E.2;omega,.inl E.2⟩,bk⟩
end
def Ho:List Cel->List (List Attr)
 |[]=>[]
 |c::d=>if c.r=10\/c.set=[]\/c.set∈Ho d then Ho d else c.set::Ho d
theorem Sb{s:List Attr}{d:List Cel}:s∈Ho d↔s≠[]/\∃c∈d,c.r≠10/\c.set=s:=by
 induction d with
 |nil=>simp[Ho]
 |cons c d x=>
  rw[Ho];split
  .rename_i h;rw[x];constructor
   .rintro⟨h1,o,i,j⟩;exact⟨h1,o,List.mem_cons_of_mem _ i,j⟩
   .rintro⟨h1,o,i,j,rfl⟩;rcases List.mem_cons.1 i with rfl|i
    .rcases h with h|h|h
     .exact absurd h j
     .exact absurd h h1
     .exact x.1 h
    .exact⟨h1,o,i,j,rfl⟩
  .rename_i h;rw[List.mem_cons,x];constructor
   .rintro(rfl|⟨h1,o,i,j⟩)
    .exact⟨fun e=>h (.inr (.inl e)),c,List.mem_cons_self,fun e=>h (.inl e),rfl⟩
    .exact⟨h1,o,List.mem_cons_of_mem _ i,j⟩
   .rintro⟨h1,o,i,j,rfl⟩;rcases List.mem_cons.1 i with rfl|i
    .exact .inl rfl
    .exact .inr ⟨h1,o,i,j,rfl⟩
theorem Np(d:List Cel):(Ho d).Nodup:=by
 induction d with
 |nil=>exact List.nodup_nil
 |cons c d i=>
  rw[Ho];split
  .exact i
  .rename_i h;exact List.nodup_cons.2 ⟨fun e=>h (.inr (.inr e)),i⟩
section
variable {w0:World}{F:Nat->Prop}{W:World}{a:TxA}{σ:SKs}{most:Int}{N:Nat}{d:List Cel}
theorem T8(h:FY .f w0 F W a σ most d N):AB prog 17 [.pointer (some ⟨a.b,0,none⟩)] (fun v' w'=>v'=.int .i64 (d.length:Int)/\Grow W w') W:=by
 obtain⟨l1,Fr,bt,i,o⟩:=h.GZ;have j:(BS l1).length=d.length:=by rw[i,Ap,List.length_map]
 have:=TX h.box.1 o;rwa [j] at this
theorem P1(h:FY .f w0 F W a σ most d N):AB prog 13 [.pointer (some ⟨a.b,0,none⟩)] (fun v' w'=>v'=.int .i64 (BW (Ap d):Int)/\Grow W w') W:=by
 obtain⟨l1,Fr,bt,i,j⟩:=h.GZ;have:=UD h.box.1 j;rwa [i] at this
theorem SN{k:Nat}(h:FY .f w0 F W a σ most d N)(x:d.length<=10000000):AB prog 14 [.pointer (some ⟨a.b,0,none⟩),.int .i64 (k:Int)] (fun v' w'=>v'=K5 (Ap d) k/\Grow W w') W:=by
 obtain⟨l1,Fr,bt,i,j⟩:=h.GZ;have o:(BS l1).length=d.length:=by rw[i,Ap,List.length_map]
 have:=OW (k:=k) h.box.1 j (by omega);rwa [i] at this
theorem Rg(h:FY .f w0 F W a σ most d N)(T:N<=1000000000):AB prog 27 [.pointer (some ⟨a.b,0,none⟩)] (fun v' w'=>v'=.int .i64 (((Ho d).length+1:Nat):Int)/\Grow W w') W:=by
 obtain⟨z,l2,t,f,j,B,O,hu,J,i,Q⟩:=h;apply aS;refine AA (EH B.box.1) ?_;rintro _ _ ⟨rfl,rfl⟩;rename World=>W
 rw[An];refine AS ?_;refine AH ?_;refine Bm (B.box.1.cells 5 _ rfl) ?_;obtain⟨U,o,_,_⟩:=B.PI;refine AA (Wv o (by omega)) ?_;rintro _ V ⟨rfl,S⟩;refine⟨?_,S⟩;have hl:=J.len o.inv FT.ne (Np d) fun s=>by
  rw[Sb];constructor
  .rintro⟨h1,c,hc,E,x⟩;rw[<-j] at hc;obtain⟨p,hp,rfl⟩:=List.mem_map.1 hc;exact⟨h1,p.2,Spn.H6 (List.mem_map.2 ⟨p,hp,rfl⟩) (by simp),by rw[(i p hp).2 E,x]⟩
  .rintro⟨h1,id,E,x⟩;obtain⟨p,hp,e⟩:=List.mem_map.1 (Spn.Tl E);have y:p.1.r≠10:=fun I=>by
    have:=(i p hp).1 I;rw[<-e,this,J.1] at x;exact h1 x.symm
   exact⟨h1,p.1,by rw[<-j];exact List.mem_map.2 ⟨p,hp,rfl⟩,y,by rw[<-(i p hp).2 y,e,x]⟩
 rw[hl];congr 1
 omega
theorem YK{i:Nat}(h:FY .f w0 F W a σ most d N)(Z:i<d.length)(hG:∀c∈d,EC σ.ks c.set)(hz:d.length<=10000000)(hN:N<=1000000000) :
  AB prog 23 [.pointer (some ⟨a.b,0,none⟩),.int .i64 (i:Int)] (fun v' w'=>∃r,v'=.tuple #[.agg r.toArray,.int .i64 0]/\Gf (fun x=>W.heap.size<=x/\x<w'.heap.size) w' r d[i]/\Grow W w') W:=by
 apply Zg;refine Bx.zero fun b U hb J B=>?_;have h1:=h.grow J;refine AA (EH h1.box.1) ?_;rintro _ _ ⟨rfl,rfl⟩;rename World=>U
 rw[An];refine AS ?_;refine AU (fun _ W'=>Grow U W') ?_ ?_;rotate_left
 .rw[Av];refine AE (fun e=>by omega) fun _=>?_;refine AA (T8 h1) ?_;rintro _ V ⟨rfl,y⟩;rw[Da];exact AE (fun e=>by omega) fun _=>y
 rintro _ V y _;have h2:=h1.grow y;rw[AR,wrap64 (by omega) (by omega),show((i:Int)+1)=((i+1:Nat):Int) by omega];refine AA (IJ (i:=i) (j:=i+1) h2 (by omega) (by omega) hG hz hN) ?_;rintro _ X ⟨cv,rfl,E,Y⟩;refine BK ?_;refine Mo ?_;have e1:(d.take (i+1)).drop i=[d[i]]:=by
  rw[List.take_add_one,List.getElem?_eq_getElem Z,List.drop_append,List.drop_eq_nil_of_le (by rw[List.length_take];omega),show i-(d.take i).length=0 by rw[List.length_take];omega];rfl
 rw[e1] at E;have I:=E.rd (Nat.le_refl _);obtain⟨ca,cc,O,_⟩:=I.shape;subst O;obtain⟨p,r,rfl,_,hr,hc,Q⟩:=I.get (i:=0) (by simp);have o:Gf (fun x=>V.heap.size<=x/\x<X.heap.size) X r d[i]:=Q;refine Ab (by simp) ?_;refine Ah hr (fun j u hu=>by rw[Addr.add_add];exact hc j u hu) ?_;have B3:=(B.grow y).grow Y;have z1:=J.size;have z2:=y.size;have a1:=B.lt (Nat.succ_pos _);refine B3.over hr rfl o.one fun W4 B4 S=>?_;refine B4.Er hr ?_;have z4:=S.size;refine⟨r,rfl,o.mod S (fun x _ T e=>by have:=T.1;omega) fun x T h=>⟨by have:=h.1;omega,by have:=h.2;omega⟩,?_⟩;exact((J.trans y).trans Y).next S fun x T e=>by omega
end
def EM(f:Int->List Attr)(l:List Spn):List Fo:=l.map fun s=>⟨(s.n:Int),f s.id⟩
theorem WX{t:Tab (List Attr)}{f:Int->List Attr}{G:List Attr->Prop}{h:Int->Nat}(x:t.Holds [] f h)(y:t.Inv G):∀{l:List Spn} {p:Option Int},Spn.Gx p l->(∀s∈l,0<h s.id)->Ec (EM f l)/\pl (EM f l)=(l.flatMap Spn.u).map f:=by
 intro l;induction l with
 |nil=>intro p _ _;exact⟨trivial,rfl⟩
 |cons s l B=>
  intro p hp j;obtain⟨h1,E⟩:=B hp.2.2 fun i I=>j i (by simp[I]);refine⟨⟨by show(0:Int)<(s.n:Int);have:=hp.1;omega,fun c hc=>?_,h1⟩,?_⟩
  .cases l with
   |nil=>cases hc
   |cons i l=>
    have o:(⟨(i.n:Int),f i.id⟩:Fo)=c:=by simpa[EM] using hc
    subst o;intro e;have:=(x.inj y (j s (by simp)) (j i (by simp))).2 e;exact hp.2.2.2.1 (by rw[this])
  .show pl (⟨(s.n:Int),f s.id⟩::EM f l)=_;rw[Fh,E,List.flatMap_cons,List.map_append];congr 1
   show List.replicate (s.n:Int).toNat (f s.id)=(List.replicate s.n s.id).map f;rw[List.map_replicate,Int.toNat_natCast]
def dO(A B c m:Nat)(i:Nat->Prop)(W:World)(out:Value)(l:List Fo):Prop:=
 Bx W c [out]/\(∀g,out.ownBlock=some g->g≠c/\g≠m/\g≠m+1/\¬i g)/\∃D:Nat->Prop,AF B 53 2 (Lb D) W out l/\∀x,D x->A<=x/\x<W.heap.size/\out.ownBlock≠some x/\x≠c/\x≠m/\x≠m+1/\¬i x
section
variable {w0:World}{F:Nat->Prop}{W:World}{a:TxA}{σ:SKs}{most:Int}{N:Nat}{d:List Cel}
theorem Se(h:FY .f w0 F W a σ most d N)(hz:d.length<=10000000)(hN:N<=1000000000) :
  AB prog 18 [.pointer (some ⟨a.b,0,none⟩)] (fun v' w'=>Qv (fun x=>W.heap.size<=x/\x<w'.heap.size) (fun x=>W.heap.size<=x/\x<w'.heap.size) w' v' (bQ d)/\Grow W w') W:=by
 obtain⟨z,l2,t,f,b4,hM,ak,hu,hh,c4,e3⟩:=h;have c6:z.length=d.length:=by rw[<-b4,List.length_map]
 have b6:=congrArg List.length hu;rw[List.length_map,c6] at b6;have e1:ED l2=d.length:=by rw[DW,b6]
 have e4:=Spn.Eu ak;have Q:=Spn.Hc ak;have c7:=hM.hl;have a6:∀s∈l2,0<Spn.rn s.id none (z.map Prod.snd):=fun s hs=>by
  have:=Spn.JJ hs (Q s hs);rw[hu] at this;exact Spn.H6 this (by simp)
 have al:EM f l2=bQ d:=by
  obtain⟨Ft,an,_,_⟩:=hM.PI;obtain⟨h1,O⟩:=WX hh an.inv ak a6;have a7:d.length<=U3:=by show _<=4611686018427387904;omega
  refine uniq _ _ h1 (UH a7) ?_;rw[O,(aj a7).1,hu,<-b4,List.map_map,List.map_map];refine List.map_congr_left fun p hp=>?_;obtain⟨o1,o2⟩:=c4 p hp;show f p.2=p.1.inl;unfold Cel.inl;split
  .rename_i e;rw[o1 e,hh.1]
  .rename_i e;exact o2 e
 rw[<-al];apply ZG;refine FK rfl fun b1 W1 e5 g1 B1=>?_;refine Bx.zero fun c W2 hc g2 B2=>?_;refine AL ((B1.grow g2).cells 0 _ rfl) ?_;have c8:=g1.trans g2;have V:=hM.grow c8;refine AA (EH V.box.1) ?_;rintro _ _ ⟨rfl,rfl⟩;rename World=>W2
 rw[An];refine AS ?_;refine AL ((B1.grow g2).cells 0 _ rfl) ?_;refine AH ?_;refine Bm (V.box.1.cells 3 _ rfl) ?_;obtain⟨Fs,bs,c9,_,_⟩:=V.Pc;refine AA (aQ c9 (by omega) (by omega) (by omega) Q) ?_;rintro _ o ⟨cb,Rd,rfl,g3,I7,b7⟩;have z1:=g1.size;have z2:=g2.size;have z3:=g3.size;have ca:=B1.lt (Nat.succ_pos _);have e2:=B2.lt (Nat.succ_pos _);have B3:=B2.grow g3;have cc:=(B1.grow g2).grow g3;have cd:=V.grow g3;refine⟨True,_,_,_,_,_,rfl,by kernel_rfl,b7,fun k _=>rfl,?_⟩;refine⟨fun k X W'=>∃out,dO o.heap.size o.heap.size c o.heap.size X W' out (EM f (l2.take k))/\Mod (fun x=>x=c) o W'/\k<=l2.length,fun _ _ _=>False,⟨_,⟨B3,(fun g E=>nomatch E),fun _=>False,AF.nil,fun _ h=>h.elim⟩,Mod.refl _ _,Nat.zero_le _⟩,?_,fun x X ch W W' h=>h.elim,?_,?_,?_,fun x X W h=>h.elim⟩
 .rintro k X ch W' e6 ⟨out,⟨q1,S,D,U,Y⟩,m,hk⟩ hm B;have hn:∀x,x<o.heap.size->¬((¬True/\X x)\/x=o.heap.size\/x=o.heap.size+1):=fun x i=>by rintro(⟨h,_⟩|h|h);exact h trivial;all_goals omega
  have zm:=hm.size;refine⟨out,⟨q1.mod hm (hn c (by omega)),fun g E=>?_,D,AF.mod U hm (fun g E=>?_) fun r x _ i=>i.mod hm (fun b _ hb=>?_) fun _ _ h=>h,fun x i=>?_⟩,m.next hm fun x i=>?_,hk⟩
  .obtain⟨h1,O,I,Z⟩:=S g E;refine⟨h1,O,I,fun h=>?_⟩;rcases(B g h).1 with h|h
   .exact Z h
   .have:=(AF.BM U g E).2;omega
  .obtain⟨_,O,I,_⟩:=S g E;rintro(⟨h,_⟩|h|h)
   .exact h trivial
   .exact O h
   .exact I h
  .obtain⟨_,_,_,_,O,I,_⟩:=Y b hb;rintro(⟨h,_⟩|h|h)
   .exact h trivial
   .exact O h
   .exact I h
  .obtain⟨h1,O,I,Z,h5,h6,h7⟩:=Y x i;refine⟨h1,by omega,I,Z,h5,h6,fun h=>?_⟩;rcases(B x h).1 with h|h
   .exact h7 h
   .omega
  .intro e;exact absurd e (hn x i)
 .rintro k X W' ⟨out,q,m,hk⟩ b hb hr;exact m.same b hb fun e=>by
   subst e;have:=I7 b hr;omega
 .rintro k X W' hk ⟨out,⟨q1,S,D,U,Y⟩,m,e7⟩ b8 B;have av:(nth [Value.agg ((l2[k]?.getD ⟨0,0⟩).cells.toArray)] 0)=.agg l2[k].cells.toArray:=by
   show Value.agg _=_;rw[List.getElem?_eq_getElem hk];rfl
  rw[av];have cv:EM f (l2.take (k+1))=EM f (l2.take k)++[⟨(l2[k].n:Int),f l2[k].id⟩]:=by
   unfold EM;rw[List.take_add_one,List.getElem?_eq_getElem hk,List.map_append];rfl
  refine Bx.new (vs:=l2[k].cells) rfl rfl (Spn.one _) fun b5 W5 e8 g5 B5=>?_;refine Kj g5 b8 B (fun _ _ h=>h.elim) fun W6 J=>?_;have z5:=g5.size;have e9:=J.size;have ea:=q1.lt (Nat.succ_pos _);have cx:=B5.lt (Nat.succ_pos _);have zm:=m.size;have C6:=(q1.grow g5).mod J (by omega);have b9:=B5.mod J (by omega);have gd:Grow W6 W6.drew:=Mod.drew _ _;have zd:=gd.size;have ba:Mod (fun x=>x=c\/x=o.heap.size+1) o W6:=((m.mono fun _ _ e=>.inl e).trans (g5.mono fun _ _ h=>h.elim)).trans (J.mono fun _ _ e=>.inr e);have bc:=((cd.mod ba fun x i=>⟨fun e=>by have:=c7 x e;omega,fun e=>by have:=hM.IV.2 x e;omega,by have:=hM.g.size;omega⟩).grow gd);have dk:Bx W6.drew b1 [.pointer (some ⟨a.b,0,none⟩)]:=(cc.mod ba (by omega)).grow gd;have o6:AF o.heap.size 53 2 (Lb D) W6 out (EM f (l2.take k)):=AF.mod (AF.mod U g5 (fun _ _ h=>h) fun r x _ i=>i.mod g5 (fun _ _ _ h=>h) fun _ _ h=>h) J (fun g E=>(S g E).2.2.1) fun r x _ i=>i.mod J (fun b _ hb=>(Y b hb).2.2.2.2.2.1) fun _ _ h=>h;refine Ag (fun _ _=>False) ?_;refine Aa ⟨dk.cells 0 _ rfl,fun j hj e=>e⟩ ?_;refine AH ?_;rw[AG,AI];refine Aa ⟨bc.box.1.cells 5 _ rfl,fun j hj e=>e⟩ ?_;rw[AG,AI];refine Aa ⟨(b9.grow gd).cells 1 _ rfl,fun j hj e=>e⟩ ?_;obtain⟨Ft,an,_,_⟩:=bc.PI;have a8:=a6 l2[k] (List.getElem_mem hk);obtain⟨d1,d2⟩:=hh.idle (.inl a8);obtain⟨cn,bd⟩:=hh.ask a8;refine AA (Mw an (by omega) (by omega) (by omega)) ?_;rintro v7 W7 ⟨g7,bk⟩;rw[bd] at bk;obtain⟨sv,rfl,a1⟩:=bk;simp only at a1;refine⟨g7.mono fun _ _ h=>h.elim,?_⟩;refine BK ?_;have z7:=g7.size;have ax:=AF.BM a1;have C7:=(C6.grow gd).grow g7;refine AL (C7.cells 0 _ rfl) ?_;refine Bm (((b9.grow gd).grow g7).cells 0 _ rfl) ?_;obtain⟨sa,sc,dT,_⟩:=AF.shape a1;refine⟨#[.int .i64 (l2[k].n:Int),sv],by rw[dT];kernel_rfl,?_⟩
  let D':Nat->Prop:=fun x=>D x\/sv.ownBlock=some x
  have ay:∀x,D' x->o.heap.size<=x/\x<W7.heap.size/\out.ownBlock≠some x/\x≠c/\x≠o.heap.size/\x≠o.heap.size+1/\¬X x:=fun x i=>by
   rcases i with i|i
   .obtain⟨h1,O,I,Z,h5,h6,h7⟩:=Y x i;exact⟨h1,by omega,I,Z,h5,h6,h7⟩
   .have:=ax x i;refine⟨by omega,this.2,fun e=>?_,by omega,by omega,by omega,fun e=>?_⟩
    .have:=(AF.BM U x e).2;omega
    .have:=(B x e).1;omega
  have b0:=gd.trans g7;have o7:AF o.heap.size 53 2 (Lb D') W7 out (EM f (l2.take k)):=AF.mod o6 b0 (fun _ _ h=>h) fun r x _ i=>i.mod b0 (fun _ _ _ h=>h) fun _ _ h=>.inl h;have bl:Cv D' W7 sv (f l2[k].id):=BH.sub (AF.sl a1) (fun x _ h=>.inr h.2) (by decide) fun _ _ h=>h;have ec:(EM f (l2.take k)).length<=l2.length:=by unfold EM;rw[List.length_map,List.length_take];omega
  refine DP Ve o7 (by omega) (cs:=[.int .i64 (l2[k].n:Int),sv]) (x:=(⟨(l2[k].n:Int),f l2[k].id⟩:Fo)) (Cw (v:=.agg #[.int .i64 (l2[k].n:Int),sv]) rfl (by decide) rfl rfl) rfl ⟨sv,rfl,bl⟩ (fun _ _ _ h=>h.one) (fun w1 w2 r y hz hm hy=>hy.mod hm (fun b _ i e=>?_) fun _ _ h=>h) (by omega) (by simp only[maxLen];omega) fun bp W8 o8 m8 n8=>?_
  .obtain⟨_,O,I,_⟩:=ay b i;rcases e with e|e
   .exact I e
   .omega
  have z8:=m8.size;have C8:=C7.mod m8 fun e=>(S c e).1 rfl;obtain⟨b2,b3⟩:=o8.one;refine C8.st (q:=0) (show 0<1 by decide) b2 b3 fun W9 C9 m9=>?_;have z9:=m9.size;have bx:Mod (fun x=>x=c\/out.ownBlock=some x) W6 W9:=((b0.mono fun _ _ h=>h.elim).trans (m8.mono fun _ _ e=>.inr e)).trans (m9.mono fun _ _ e=>.inl e);refine⟨OB bx (by omega) (fun b hb=>by have:=(B b hb).1;omega) (fun b _ e=>?_),bp,⟨C9,fun g E=>?_,D',?_,fun x i=>?_⟩,?_,by omega⟩
  .rcases e with rfl|e
   .exact⟨fun h=>by have:=(B b h).2;omega,by omega,by omega⟩
   .obtain⟨h1,O,I,Z⟩:=S b e;exact⟨Z,O,I⟩
  .rcases n8 g E with h|h
   .exact S g h
   .refine⟨by omega,by omega,by omega,fun hI=>by have:=(B g hI).1;omega⟩
  .rw [cv];exact AF.mod o8 m9 (fun g E e=>by
    rcases n8 g E with h|h
    .exact(S g h).1 e
    .omega) fun r x _ i=>i.mod m9 (fun b _ hb e=>(ay b hb).2.2.2.1 e) fun _ _ h=>h
  .obtain⟨h1,O,I,Z,h5,h6,h7⟩:=ay x i;refine⟨h1,by omega,fun e=>?_,Z,h5,h6,h7⟩;rcases n8 x e with h|h
   .exact I h
   .omega
  .refine((m.next g5 fun _ _ h=>h.elim).next J fun x i e=>by omega).next bx fun x i e=>?_;rcases e with e|e
   .exact e
   .have:=(AF.BM U x e).1;omega
 .rintro X W' ⟨out,⟨q1,S,D,U,Y⟩,m,hk⟩ _ b8 hd;refine AL (q1.cells 0 _ rfl) ?_;obtain⟨b2,b3⟩:=U.one;refine q1.st (q:=0) (show 0<1 by decide) b2 b3 fun W4 C4 m4=>?_;have z4:=m4.size;refine⟨?_,?_⟩
  .rw[m4.same _ (by omega) (by omega)];exact hd
  have T:Mod (fun b=>b=o.heap.size) W4 (W4.putObj o.heap.size (.deferred none)):=Mod.putObj _ _ _ rfl;have C5:=C4.mod T (by omega);have zp:=T.size;refine AL (C5.cells 0 _ rfl) ⟨?_,?_⟩
  .rw[List.take_length] at U;have o5:AF o.heap.size 53 2 (Lb D) (W4.putObj o.heap.size (.deferred none)) out (EM f l2):=AF.mod (AF.mod U m4 (fun g E=>(S g E).1) fun r x _ i=>i.mod m4 (fun b _ hb=>(Y b hb).2.2.2.1) fun _ _ h=>h) T (fun g E=>(S g E).2.1) fun r x _ i=>i.mod T (fun b _ hb=>(Y b hb).2.2.2.2.1) fun _ _ h=>h;exact BH.sub (AF.sl o5) (fun x i h=>⟨by have:=h.1;omega,i⟩) (by decide) fun r x i=>i.mod (Mod.refl (fun _=>False) _) (fun _ _ _ h=>h) fun b hb h=>⟨by have:=(Y b h).1;omega,hb⟩
  .exact((((g1.trans g2).trans g3).next m fun x i e=>by omega).next m4 fun x i e=>by omega).next T fun x i e=>by omega
end
theorem LW{w w':World}{q:Int}{g:Nat}(hc:∀j v,[Value.int .i32 q][j]?=some v->w'.cell? ((⟨g,0,none⟩:Addr).add j)=some v):Lf (fun _=>True) w' (.slice (some ⟨g,0,none⟩) 1 1) [q]:=by
 refine⟨_,_,rfl,Nat.le_refl _,by simp[maxLen],fun i x o=>⟨_,[.int .i32 x],rfl,trivial,rfl,fun j u hu=>?_,rfl⟩⟩;have y:i=0:=by have:=(List.getElem?_eq_some_iff.1 o).1;simp at this;exact this
 subst y;simp at o;subst o;rw[Nat.zero_mul,Nat.zero_add];exact hc j u hu
def DZ:DKey:=⟨1,false,1,false,false,0⟩
def CU:List Attr:=[⟨1,⟨1,1,0,Fc⟩⟩]
def FF:List Dop:=[⟨2,0,[97,98],CU,[]⟩]
def JH:List Dop:=[⟨1,1,[],[],[]⟩,⟨2,0,[10],[],[]⟩]
def Gu:List Dop:=[⟨3,4,[],[],[]⟩]
def GX:List Cel:=[⟨97,CU⟩,⟨98,CU⟩,⟨10,[]⟩]
def H7:List Cel:=[⟨97,CU⟩,⟨10,[]⟩,⟨98,CU⟩,⟨10,[]⟩]
theorem Nf:EK DZ:=by unfold EK;decide
theorem UL:Jv [DZ] CU:=by
 have i:DK (⟨1,1,0,Fc⟩:BE):=.inl ⟨rfl,rfl,.inr rfl⟩;refine⟨by simp[CU],by simp[CU],fun a ha=>?_⟩;simp only[CU,List.mem_singleton] at ha;subst ha;exact⟨i,DZ,rfl,i,rfl⟩
theorem Yl{r:Int}(h:r=97\/r=98\/r=10):Du r:=.inl (by omega)
theorem LM:(∀o∈FF,Di [DZ] o)/\(∀o∈JH,Di [DZ] o)/\∀o∈Gu,Di [DZ] o:=by
 refine⟨fun o i=>?_,fun o i=>?_,fun o i=>?_⟩
 .simp only[FF,List.mem_singleton] at i;subst i;refine .inr (.inr ⟨rfl,fun r hr=>Yl ?_,rfl,rfl,by simp,UL⟩);simp only[List.mem_cons,List.not_mem_nil,or_false] at hr;rcases hr with rfl|rfl
  .exact .inl rfl
  .exact .inr (.inl rfl)
 .simp only[JH,List.mem_cons,List.not_mem_nil,or_false] at i;rcases i with rfl|rfl
  .exact .inl ⟨rfl,rfl,rfl,by decide,HT⟩
  .refine .inr (.inr ⟨rfl,fun r hr=>Yl ?_,rfl,rfl,by simp,HS⟩);simp only[List.mem_singleton] at hr;exact .inr (.inr hr)
 .simp only[Gu,List.mem_singleton] at i;subst i;exact .inr (.inl ⟨rfl,rfl,rfl,rfl,by decide⟩)
theorem OZ:total FF=2/\total JH=2/\total Gu=4:=⟨rfl,rfl,rfl⟩
theorem Ya{x:List Dop}{n:Nat}(h:total x=n)(j:n<=4){o:Dop}(i:o∈x):Co o<=536870912:=by
 have:=L9 i;omega
theorem Zr:X0 [DZ] FF 1 100:=by
 have hm:Dq [DZ] FF=0:=Kr LM.1 (by rw[OZ.1];omega);refine⟨hm,fun o i=>⟨LM.1 o i,Ya OZ.1 (by omega) i⟩,by omega,by decide,?_,fun o i=>?_,by decide⟩
 .simp[FR,FF]
 .simp only[FF,List.mem_singleton] at i;subst i;intro _ _ h;exact absurd h (by decide +kernel)
theorem ZI:X0 [DZ] JH 3 100:=by
 have hm:Dq [DZ] JH=0:=Kr LM.2.1 (by rw[OZ.2.1];omega);refine⟨hm,fun o i=>⟨LM.2.1 o i,Ya OZ.2.1 (by omega) i⟩,by omega,by decide,?_,fun o i=>?_,by decide⟩
 .simp[FR,JH]
 .simp only[JH,List.mem_cons,List.not_mem_nil,or_false] at i;rcases i with rfl|rfl
  .intro h;exact absurd h (by decide)
  .intro _ h;exact absurd rfl h
theorem bL:FE [DZ] Gu 4 100=6:=by
 classical
 have hm:Dq [DZ] Gu=0:=Kr LM.2.2 (by rw[OZ.2.2];omega);have ht:Cg B0 Gu=4:=by decide +kernel
 have i:¬FR 4 0 Gu:=by simp[FR,Gu]
 unfold FE;rw[if_neg (by simp[hm]),if_neg (by rw[ht];omega),if_pos i]
theorem cq:N8 [DZ] [⟨10,[]⟩] FF=GX/\N8 [DZ] GX JH=H7:=⟨rfl,rfl⟩
theorem RB:bQ GX=[⟨2,CU⟩,⟨1,[]⟩]/\Ho GX=[CU]/\BW (Ap H7)=2/\K5 (Ap H7) 1=.tuple #[.int .i64 2,.int .i64 0]:=by
 refine⟨by decide +kernel,by decide +kernel,by decide +kernel,by kernel_rfl⟩
theorem TL:(∀o∈FF,PK o)/\(∀o∈JH,PK o)/\∀o∈Gu,PK o:=by
 refine⟨fun o i=>?_,fun o i=>?_,fun o i=>?_⟩
 .simp only[FF,List.mem_singleton] at i;subst i;refine⟨fun a ha=>?_,fun c hc=>(nomatch hc)⟩;simp only[CU,List.mem_singleton] at ha;subst ha;exact⟨by decide,⟨by decide,by decide⟩,by decide,by decide⟩
 .simp only[JH,List.mem_cons,List.not_mem_nil,or_false] at i;rcases i with rfl|rfl
  .exact⟨fun a ha=>(nomatch ha),fun c hc=>(nomatch hc)⟩
  .exact⟨fun a ha=>(nomatch ha),fun c hc=>(nomatch hc)⟩
 .simp only[Gu,List.mem_singleton] at i;subst i;exact⟨fun a ha=>(nomatch ha),fun c hc=>(nomatch hc)⟩
theorem Z3:Lr [DZ] [⟨10,[]⟩]:=⟨fun c hc=>by simp only[List.mem_singleton] at hc;subst hc;exact EC.nil,rfl⟩
theorem Rp{k:DKey}{w w0:World}{K:Cont}(hk:EK k)(y:Grow w0 w)(B:∀w' sv C,Grow w w'->DG C w' sv [k]->(∀x,x<w'.heap.size->C x->w0.heap.size<=x)->K (.tuple #[sv,.int .i64 0]) w') :
  AB prog 8 [.slice (some ⟨w.heap.size,0,none⟩) 1 1] K (w.alloc (.cells k.cells.toArray 65)):=by
 have i:=Wb (w:=w) [k] (by simp);have o:Grow w (w.alloc (.cells k.cells.toArray 65)):=Mod.alloc _ _ _;have e:(([k].map DKey.cells).flatten:List Value)=k.cells:=by simp
 rw[e] at i;have Q:=o.size;have z0:=y.size;refine AA (Kn i) ?_;rintro _ w2 ⟨E,hr⟩;have I:Ew [k]:=LF.2 ⟨by simp,fun x j=>by simp only[List.mem_singleton] at j;subst j;exact hk,by unfold Lq;simp⟩;rcases hr with⟨_,sv,ks,rfl,hp,S,J⟩|⟨O,_⟩
 .have:ks=[k]:=List.perm_singleton.1 hp;subst this;exact B _ _ _ (o.trans E) J fun x _ j=>by omega
 .exact absurd I O
theorem NI{D:Nat->Prop}{w:World}{l:List Dop}(rows:List (List Value))(hl:rows.length=l.length)(j:l.length<=10)(h:∀(i:Nat) r o,rows[i]?=some r->l[i]?=some o->Jy D w r o) :
  Bi (fun b=>b=w.heap.size) D (w.alloc (.cells rows.flatten.toArray 83)) (.slice (some ⟨w.heap.size,0,none⟩) l.length l.length) l:=by
 have g:Grow w (w.alloc (.cells rows.flatten.toArray 83)):=Mod.alloc _ _ _;refine BH.made (t:=83) rows (fun r hr=>?_) hl (by simp only[maxLen];omega) fun i r o hr x=>(h i r o hr x).mod g (fun _ _ _ h=>h) fun _ _ h=>h;obtain⟨i,y,e⟩:=List.mem_iff_getElem.1 hr;obtain⟨_,_,_,e',_⟩:=h i r l[i] (by rw[List.getElem?_eq_getElem y,e]) (List.getElem?_eq_getElem (by omega));rw[e'];rfl
theorem QM{w:World}(hT:EV w):AB prog 10 [] (fun v w'=>v=.bool true/\Grow w w') w:=by
 apply aT;refine⟨DZ.cells.toArray,by kernel_rfl,?_⟩;refine Fx (cs:=DZ.cells) (by kernel_rfl) ?_;refine Rp (w0:=w) Nf (Mod.refl _ _) fun w2 sv C g2 hS hC=>?_;refine BK ?_
 let σ:SKs:=⟨sv,[DZ],fun x=>C x/\x<w2.heap.size⟩
 have b0:DG σ.S w2 σ.sv σ.ks:=hS.sub fun x j h=>⟨h,j⟩;refine AA (N5 (w0:=w) (σ:=σ) (most:=100) b0 (fun x j=>j.2) hT g2) ?_;rintro v3 I ⟨g3,h3⟩;have h3:=h3.resolve_right fun h=>by have:=h.1;omega
 obtain⟨_,_,a,F3,rfl,bx,b1⟩:=h3;refine BK ?_;have b8:=g2.trans g3;have al:σ.ks.length<=64:=by show[DZ].length<=64;decide
 have T:∀k∈σ.ks,EK k:=fun k hk=>by
  have b2:k∈[DZ]:=hk;simp only[List.mem_singleton] at b2;subst b2;exact Nf
 refine AU (fun _ W=>I=W) ?_ ?_;rotate_left
 .refine Mo ?_;refine Mo ?_;exact Cs (AS rfl)
 rintro _ _ rfl _;refine⟨(⟨1,1,0,Fc⟩:BE).cells.toArray,by kernel_rfl,⟨(⟨1,⟨1,1,0,Fc⟩⟩:Attr).cells.toArray,by kernel_rfl,?_⟩⟩;refine Fx (cs:=(⟨1,⟨1,1,0,Fc⟩⟩:Attr).cells) (by kernel_rfl) ?_;have z3:=g3.size;have E:=b1.hl;have o4:AF I.heap.size 79 5 Cx (I.alloc (.cells (⟨1,⟨1,1,0,Fc⟩⟩:Attr).cells.toArray 79)) (.slice (some ⟨I.heap.size,0,none⟩) 1 1) CU:=AF.Ms (Nat.le_refl _) rfl (fun u hu=>Cx.one (w:=I) (x:=⟨1,⟨1,1,0,Fc⟩⟩) rfl u hu) rfl;have g4:Grow I (I.alloc (.cells (⟨1,⟨1,1,0,Fc⟩⟩:Attr).cells.toArray 79)):=Mod.alloc _ _ _;generalize I.alloc (.cells (⟨1,⟨1,1,0,Fc⟩⟩:Attr).cells.toArray 79)=w4 at o4 g4 ⊢;generalize Value.slice (some ⟨I.heap.size,0,none⟩) 1 1=bv at o4 ⊢;have b3:=AF.sl o4;have b9:=b1.grow g4;have z4:=g4.size;obtain⟨J,O,bd,_⟩:=b3.shape;have a6:Cv (fun x=>I.heap.size<=x/\x<w4.heap.size) w4 bv CU:=BH.sub b3 (fun x j h=>⟨h.1,j⟩) (by decide) fun _ _ h=>h;refine AU (fun _ W=>∃F5,FY .f w F5 W a σ 100 GX 1000000/\Grow w W) ?_ ?_
 .rintro _ w5 ⟨F5,b4,g5⟩ _;have z5:=g5.size;have a7:=b4.hl;refine AU (fun _ W=>∃F6,FY .f w F6 W a σ 100 H7 2000000/\Grow w W) ?_ ?_
  .rintro _ w6 ⟨F6,an,U⟩ _;have a8:=an.hl;refine AA (SN (k:=1) an (by decide)) ?_;rintro _ w7 ⟨rfl,V⟩;rw[RB.2.2.2];refine BK ?_;rw[Am];refine AE (fun _=>?_) fun e=>(e rfl).elim;rw[Am];refine AE (fun _=>?_) fun e=>(e rfl).elim;refine⟨#[.int .u8 3,.int .i64 4,.slice none 0 0,.slice none 0 0,.slice none 0 0],by kernel_rfl,?_⟩;refine Fx (cs:=([[Value.int .u8 3,.int .i64 4,.slice none 0 0,.slice none 0 0,.slice none 0 0]]:List (List Value)).flatten) (by kernel_rfl) ?_;have hR:=NI (D:=fun _=>False) (w:=w7) (l:=Gu) [[.int .u8 3,.int .i64 4,.slice none 0 0,.slice none 0 0,.slice none 0 0]] rfl (by decide) fun i r o hr ho=>by
    match i with
    |0=>cases hr;cases ho;exact⟨_,_,_,rfl,BH.nil,BH.nil,BH.nil⟩
    |i+1=>simp at hr
   have g8:Grow w7 (w7.alloc (.cells ([[Value.int .u8 3,.int .i64 4,.slice none 0 0,.slice none 0 0,.slice none 0 0]]:List (List Value)).flatten.toArray 83)):=Mod.alloc _ _ _;generalize w7.alloc (.cells ([[Value.int .u8 3,.int .i64 4,.slice none 0 0,.slice none 0 0,.slice none 0 0]]:List (List Value)).flatten.toArray 83)=w8 at hR g8 ⊢;have z7:=V.size;have bk:=an.grow (V.trans g8);refine AA (Gn (B:=4) bk hT ⟨fun c hc=>?_,rfl⟩ al T hR (fun y Q e=>?_) TL.2.2 (by decide) (by decide) (fun _=>by decide) (by decide) (by decide)) ?_
   .simp only[H7,List.mem_cons,List.not_mem_nil,or_false] at hc;have hb:EC [DZ] CU:=EC.of T UL fun a ha=>((TL.1 ⟨2,0,[97,98],CU,[]⟩ (by simp[FF])).1 a ha).2;rcases hc with rfl|rfl|rfl|rfl
    .exact hb
    .exact EC.nil
    .exact hb
    .exact EC.nil
   .have:=a8 y e;rcases Q with Q|Q
    .omega
    .exact Q
   rintro _ w9 ⟨rfl,⟨F9,f9,_,M9⟩,_⟩;rw[show FE σ.ks Gu (H7.length:Nat) 100=6 from bL,Am];refine⟨rfl,?_⟩;have gg:=U.trans (V.trans g8);exact gg.next M9 fun x j e=>by have:=(a8 x e).1;omega
  .refine⟨#[.int .u8 1,.int .i64 1,.slice none 0 0,.slice none 0 0,.slice none 0 0],by kernel_rfl,?_⟩;refine Fx (cs:=[.int .i32 10]) (by kernel_rfl) ?_;have o6:AF w5.heap.size 21 1 CH (w5.alloc (.cells [Value.int .i32 10].toArray 21)) (.slice (some ⟨w5.heap.size,0,none⟩) 1 1) [10]:=AF.Ms (Nat.le_refl _) rfl (fun u hu=>by simp at hu;subst hu;rfl) rfl;have U:Grow w5 (w5.alloc (.cells [Value.int .i32 10].toArray 21)):=Mod.alloc _ _ _;generalize w5.alloc (.cells [Value.int .i32 10].toArray 21)=w6 at o6 U ⊢;generalize Value.slice (some ⟨w5.heap.size,0,none⟩) 1 1=rv at o6 ⊢;have b5:=AF.sl o6;obtain⟨X,Y,rfl,_⟩:=b5.shape;have z6:=U.size;refine⟨#[.int .u8 2,.int .i64 0,.slice X 1 Y,.slice none 0 0,.slice none 0 0],by kernel_rfl,?_⟩;refine Fx (cs:=([[Value.int .u8 1,.int .i64 1,.slice none 0 0,.slice none 0 0,.slice none 0 0],[.int .u8 2,.int .i64 0,.slice X 1 Y,.slice none 0 0,.slice none 0 0]]:List (List Value)).flatten) (by kernel_rfl) ?_;have hR:=NI (D:=fun x=>w5.heap.size<=x) (w:=w6) (l:=JH) [[.int .u8 1,.int .i64 1,.slice none 0 0,.slice none 0 0,.slice none 0 0],[.int .u8 2,.int .i64 0,.slice X 1 Y,.slice none 0 0,.slice none 0 0]] rfl (by decide) fun i r o hr ho=>by
    match i with
    |0=>cases hr;cases ho;exact⟨_,_,_,rfl,BH.nil,BH.nil,BH.nil⟩
    |1=>cases hr;cases ho;exact⟨_,_,_,rfl,BH.sub b5 (fun x _ h=>h.1) (by decide) fun _ _ h=>h,BH.nil,BH.nil⟩
    |i+2=>simp at hr
   have V:Grow w6 (w6.alloc (.cells ([[Value.int .u8 1,.int .i64 1,.slice none 0 0,.slice none 0 0,.slice none 0 0],[.int .u8 2,.int .i64 0,.slice X 1 Y,.slice none 0 0,.slice none 0 0]]:List (List Value)).flatten.toArray 83)):=Mod.alloc _ _ _;generalize w6.alloc (.cells ([[Value.int .u8 1,.int .i64 1,.slice none 0 0,.slice none 0 0,.slice none 0 0],[.int .u8 2,.int .i64 0,.slice X 1 Y,.slice none 0 0,.slice none 0 0]]:List (List Value)).flatten.toArray 83)=w7 at hR V ⊢;have av:=b4.grow (U.trans V);refine AA (Gn (B:=5) av hT ⟨fun c hc=>?_,rfl⟩ al T hR (fun y Q e=>?_) TL.2.1 (by decide) (by decide) (fun _=>by decide) (by decide) (by decide)) ?_
   .simp only[GX,List.mem_cons,List.not_mem_nil,or_false] at hc;have hb:EC [DZ] CU:=EC.of T UL fun a ha=>((TL.1 ⟨2,0,[97,98],CU,[]⟩ (by simp[FF])).1 a ha).2;rcases hc with rfl|rfl|rfl
    .exact hb
    .exact hb
    .exact EC.nil
   .have:=a7 y e;rcases Q with Q|Q
    .omega
    .omega
   rintro _ w8 ⟨rfl,⟨F8,f8,h8,M8⟩,_⟩;have e0:FE σ.ks JH (GX.length:Nat) 100=0:=(HZ (by decide)).2 ZI;rw[e0,if_pos rfl,show N8 σ.ks GX JH=H7 from cq.2] at h8;rw[e0,Bg];refine AY (fun _=>?_) fun e=>(e rfl).elim;refine AA (P1 h8) ?_;rintro _ w9 ⟨rfl,g9⟩;rw[RB.2.2.1,Bg];refine AY (fun _=>?_) fun e=>(e rfl).elim;refine⟨F8,(h8.grow g9).up (by decide),?_⟩;exact((g5.trans (U.trans V)).next M8 fun x j e=>by have:=(a7 x e).1;omega).trans g9
 .refine Fx (cs:=[.int .i32 97,.int .i32 98]) (by kernel_rfl) ?_;have o6:Lf (fun x=>x=w4.heap.size) (w4.alloc (.cells [Value.int .i32 97,.int .i32 98].toArray 21)) (.slice (some ⟨w4.heap.size,0,none⟩) 2 2) [97,98]:=by
   have:=BH.made (R:=CH) (w:=w4) (l:=([97,98]:List Int)) (t:=21) [[.int .i32 97],[.int .i32 98]] (fun r hr=>by simp only[List.mem_cons,List.not_mem_nil,or_false] at hr;rcases hr with rfl|rfl<;>rfl) rfl (by simp[maxLen]) fun i r x hr j=>by
    match i with
    |0=>cases hr;cases j;rfl
    |1=>cases hr;cases j;rfl
    |i+2=>simp at hr
   exact this
  have U:Grow w4 (w4.alloc (.cells [Value.int .i32 97,.int .i32 98].toArray 21)):=Mod.alloc _ _ _;generalize w4.alloc (.cells [Value.int .i32 97,.int .i32 98].toArray 21)=w6 at o6 U ⊢;generalize Value.slice (some ⟨w4.heap.size,0,none⟩) 2 2=rv at o6 ⊢;obtain⟨X,Y,rfl,_⟩:=o6.shape;have z6:=U.size;subst bd;refine⟨#[.int .u8 2,.int .i64 0,.slice X 2 Y,.slice J 1 O,.slice none 0 0],by kernel_rfl,?_⟩;refine Fx (cs:=([[Value.int .u8 2,.int .i64 0,.slice X 2 Y,.slice J 1 O,.slice none 0 0]]:List (List Value)).flatten) (by kernel_rfl) ?_;have hR:=NI (D:=fun x=>I.heap.size<=x) (w:=w6) (l:=FF) [[.int .u8 2,.int .i64 0,.slice X 2 Y,.slice J 1 O,.slice none 0 0]] rfl (by decide) fun i r o hr ho=>by
   match i with
   |0=>
    cases hr;cases ho;exact⟨_,_,_,rfl,BH.sub o6 (fun x _ h=>by omega) (by decide) fun _ _ h=>h,BH.sub (a6.grow U (by decide) fun _ _ h=>h) (fun x _ h=>h.1) (by decide) fun _ _ h=>h,BH.nil⟩
   |i+1=>simp at hr
  have V:Grow w6 (w6.alloc (.cells ([[Value.int .u8 2,.int .i64 0,.slice X 2 Y,.slice J 1 O,.slice none 0 0]]:List (List Value)).flatten.toArray 83)):=Mod.alloc _ _ _;generalize w6.alloc (.cells ([[Value.int .u8 2,.int .i64 0,.slice X 2 Y,.slice J 1 O,.slice none 0 0]]:List (List Value)).flatten.toArray 83)=w7 at hR V ⊢;have ax:=U.trans V;have z7:=V.size;have av:=b9.grow ax;refine AA (Gn (B:=3) av hT Z3 al T hR (fun y Q e=>?_) TL.1 (by decide) (by decide) (fun _=>by decide) (by decide) (by decide)) ?_
  .have:=E y e;rcases Q with Q|Q
   .omega
   .omega
  rintro _ w8 ⟨rfl,⟨F8,f8,h8,M8⟩,_⟩;have e0:FE σ.ks FF (([⟨10,[]⟩]:List Cel).length:Nat) 100=0:=(HZ (by decide)).2 Zr;rw[e0,if_pos rfl,show N8 σ.ks [⟨10,[]⟩] FF=GX from cq.1] at h8;rw[e0,Bg];refine AY (fun _=>?_) fun e=>(e rfl).elim;have z8:=M8.size;have bl:Cv (fun x=>I.heap.size<=x/\x<w4.heap.size) w8 (.slice J 1 O) CU:=(a6.grow ax (by decide) fun _ _ h=>h).mod M8 (fun x _ j e=>by have:=(E x e).2.1;have:=j.1;omega) (by decide) fun _ _ h=>h;refine AA (Se h8 (by decide) (by decide)) ?_;rintro c4 w9 ⟨b6,g9⟩;rw[RB.1] at b6;have bp:=bl.grow g9 (by decide) fun _ _ h=>h;refine⟨#[.int .i64 2,.slice J 1 O],by kernel_rfl,⟨#[.int .i64 1,.slice none 0 0],by kernel_rfl,?_⟩⟩;refine Fx (cs:=([[Value.int .i64 2,.slice J 1 O],[.int .i64 1,.slice none 0 0]]:List (List Value)).flatten) (by kernel_rfl) ?_;have Z:Grow w9 (w9.alloc (.cells ([[Value.int .i64 2,.slice J 1 O],[.int .i64 1,.slice none 0 0]]:List (List Value)).flatten.toArray 53)):=Mod.alloc _ _ _;have ak:Qv (fun x=>x=w9.heap.size) (fun x=>I.heap.size<=x/\x<w4.heap.size) (w9.alloc (.cells ([[Value.int .i64 2,.slice J 1 O],[.int .i64 1,.slice none 0 0]]:List (List Value)).flatten.toArray 53)) (.slice (some ⟨w9.heap.size,0,none⟩) 2 2) [⟨2,CU⟩,⟨1,[]⟩]:=by
   refine BH.made (l:=([⟨2,CU⟩,⟨1,[]⟩]:List Fo)) (t:=53) [[.int .i64 2,.slice J 1 O],[.int .i64 1,.slice none 0 0]] (fun r hr=>by simp only[List.mem_cons,List.not_mem_nil,or_false] at hr;rcases hr with rfl|rfl<;>rfl) rfl (by simp[maxLen]) fun i r x hr j=>?_;match i with
   |0=>cases hr;cases j;exact⟨_,rfl,bp.grow Z (by decide) fun _ _ h=>h⟩
   |1=>cases hr;cases j;exact⟨_,rfl,BH.nil⟩
   |i+2=>simp at hr
  generalize w9.alloc (.cells ([[Value.int .i64 2,.slice J 1 O],[.int .i64 1,.slice none 0 0]]:List (List Value)).flatten.toArray 53)=c6 at ak Z ⊢;have ay:=BH.grow b6 Z (by decide) fun r x j=>j.mod Z (fun _ _ _ h=>h) fun _ _ h=>h;refine AA (SZ ay ak) ?_;rintro _ c7 ⟨rfl,bs⟩;rw[An];refine AY (fun _=>?_) fun e=>(e rfl).elim;have a1:=(g9.trans Z).trans bs;refine AA (Rg (h8.grow a1) (by decide)) ?_;rintro _ c8 ⟨rfl,b7⟩;rw[RB.2.1,Bg];refine AY (fun _=>?_) fun e=>(e rfl).elim;refine⟨F8,((h8.grow a1).grow b7).up (by decide),?_⟩;exact(((b8.trans g4).trans ax).next M8 fun x j e=>by have:=(E x e).1;omega).trans (a1.trans b7)
structure Qm where
 x:List Dop
 i:Int
 j:Int
def Rj(S:Nat->Prop):World->List Value->Qm->Prop:=fun w r s=>∃o,r=[o,.int .i64 s.i,.int .i64 s.j]/\Bi S S w o s.x
theorem Rj.mod{S x M:Nat->Prop}{w w':World}{r:List Value}{s:Qm}(h:Rj S w r s)(hm:Mod M w w')(j:∀b,b<w.heap.size->S b->¬M b)(i:∀b,b<w.heap.size->S b->x b):Rj x w' r s:=by
 obtain⟨y,e,h1⟩:=h;have I:=Bi.mod h1 hm j j;have z:=hm.size;refine⟨y,e,BH.mono h1 i (fun b hb B=>hm.same b hb (j b hb B)) (by decide) fun r o E=>E.mod hm j i⟩
abbrev Hs(S:Nat->Prop)(w:World)(v:Value)(l:List Qm):Prop:=BH S 3 (Rj S) w v l
theorem Hs.HL{S:Nat->Prop}{w:World}{v:Value}{l:List Qm}(h:Hs S w v l):Hs (fun b=>S b/\b<w.heap.size) w v l:=
 BH.mono h (fun b hb i=>⟨i,hb⟩) (fun _ _ _=>rfl) (by decide) fun r s i=>i.mod (Mod.refl (fun _=>False) _) (fun _ _ _ h=>h) fun b hb i=>⟨i,hb⟩
theorem Hs.mod{S M:Nat->Prop}{w w':World}{v:Value}{l:List Qm}(h:Hs S w v l)(hm:Mod M w w')(j:∀b,b<w.heap.size->S b->¬M b):Hs S w' v l:=
 BH.mono h (fun _ _ h=>h) (fun b hb i=>hm.same b hb (j b hb i)) (by decide) fun r s i=>i.mod hm j fun _ _ h=>h
def Ur(most:Int)(l:List Qm):Prop:=l.length<=30/\most<=2000/\∀s∈l,Cf s.x<=100
open Classical in
theorem RI{S:Nat->Prop}{B v:Value}{most:Int}{l:List Qm}{w:World}(h:Hs S w v l)(hb:∀s∈l,Cf s.x<=1099511627776) :
  AB prog 9 [B,.int .i64 most,v] (fun v' w'=>v'=.bool (decide (Ur most l))/\Grow w w') w:=by
 apply cZ;obtain⟨a,c,rfl,hm⟩:=h.shape;simp only[maxLen] at hm;refine AU (fun _ w'=>w=w'/\l.length<=30/\most<=2000) ?_ ?_;rotate_left
 .rw[AT,BL];refine AE (fun e=>⟨by rw[decide_eq_false fun h=>by have:=h.1;omega],Mod.refl _ _⟩) fun Q=>?_;rw[BL];refine AE (fun e=>⟨by rw[decide_eq_false fun h=>by have:=h.2.1;omega],Mod.refl _ _⟩) fun T=>⟨rfl,by omega,by omega⟩
 rintro _ _ ⟨rfl,h1,E⟩ _;rw[AT];refine Af (fun vs w'=>∃(i:Nat),i<=l.length/\vs=[.int .i64 i]/\Grow w w'/\∀s∈l.take i,Cf s.x<=100) (fun vs _=>l.length-EF vs 0) ⟨0,Nat.zero_le _,rfl,Mod.refl _ _,fun s o=>by simp at o⟩ ?_;rintro vs U ⟨i,V,rfl,g,ht⟩ _;simp only[CM,List.headD_cons];refine Hq (fun I=>?_) fun J=>?_;rotate_left
 .obtain rfl:i=l.length:=by omega
  rw[List.take_length] at ht;exact⟨by rw[decide_eq_true ⟨h1,E,ht⟩],g⟩
 have j:i<l.length:=by omega
 obtain⟨p,r,rfl,_,hr,hc,X,rfl,O⟩:=h.get j;refine Ab j ?_;rw[AG,Addr.add_add];refine AL (g.cell (hc 0 _ rfl) fun h=>h) ?_;refine AA (Wz (Bi.grow O g) (hb _ (List.getElem_mem j))) ?_;rintro _ w2 ⟨rfl,y⟩;rw[BL];refine AE (fun e=>⟨by rw[decide_eq_false fun h=>by have:=h.2.2 _ (List.getElem_mem j);omega],g.trans y⟩) fun e=>?_;rw[AR,AQ (by omega)];refine⟨⟨i+1,j,rfl,g.trans y,fun s o=>?_⟩,by rw[DI,DI];omega⟩;rw[List.take_add_one,List.getElem?_eq_getElem j] at o;rcases List.mem_append.1 o with o|o
 .exact ht s o
 .simp at o;subst o;omega
noncomputable def Kl(ks:List DKey)(most:Int)(d:List Cel)(x:List Dop):List Cel:=if FE ks x d.length most=0 then N8 ks d x else d
structure DocM (ks:List DKey) (most:Int) (d:List Cel):Prop where
 g:Lr ks d
 pos:1<=d.length
 le:(d.length:Int)<=most
theorem Ug{ks:List DKey}{most:Int}(h:1<=most):DocM ks most [⟨10,[]⟩]:=⟨⟨fun c hc=>by simp only[List.mem_singleton] at hc;subst hc;exact EC.nil,rfl⟩,Nat.le_refl _,h⟩
theorem VK(o:Dop):1<=NB o:=by unfold NB;omega
theorem Sd(x:List Dop):x.length<=Cf x:=by
 induction x with
 |nil=>exact Nat.le_refl _
 |cons o x i=>
  have e:Cf (o::x)=NB o+Cf x:=by simp[Cf]
  have:=VK o;rw[e,List.length_cons];omega
abbrev GF:Nat:=17610000
section
variable {w0:World}{F:Nat->Prop}{W:World}{a:TxA}{σ:SKs}{most:Int}{N:Nat}{d:List Cel}
theorem Rx{S:Nat->Prop}{v:Value}{x:List Dop}(h:FY .f w0 F W a σ most d N)(Q:EV w0)(j:DocM σ.ks most d)(E:σ.ks.length<=64)(T:∀k∈σ.ks,EK k)(U:Bi S S W v x)(I:∀y,S y->¬F y)(V:∀o∈x,PK o)(hl:x.length<=1048576)(hm:most<=2000)(hN:N+ML 4000 x<=1000000000) :
  AB prog 12 [.pointer (some ⟨a.b,0,none⟩),v] (fun v' w'=>v'=.int .i64 (FE σ.ks x d.length most)/\Jp .f w0 F W w' a σ most (Kl σ.ks most d x) (N+ML 4000 x)/\DocM σ.ks most (Kl σ.ks most d x)) W:=by
 have J:=j.le;refine AA (Gn (B:=4000) h Q j.g E T U (fun y X=>I y (X.elim id id)) V (by omega) (by omega) (fun i=>?_) (by omega) (by omega)) ?_
 .have:=i.most;have:=i.dB;omega
 rintro _ w' ⟨rfl,h1,Y⟩;refine⟨rfl,h1,?_⟩;unfold Kl;split
 .rename_i e;have i:=(HZ (by omega)).1 e;have:=XM (ks:=σ.ks) (x:=x) (d:=d) (fun o Z=>(i.FM o Z).1) i.dB;have:=i.most;have O:=Y e;refine⟨O,?_,by omega⟩;have:N8 σ.ks d x≠[]:=Yt O.last;exact List.length_pos_iff.2 this
 .exact j
theorem TS{S:Nat->Prop}{v:Value}{x:List Dop}(h:FY .f w0 F W a σ most d N)(B:EV w0)(E:DocM σ.ks most d)(i:σ.ks.length<=64)(I:∀k∈σ.ks,EK k)(J:Bi S S W v x)(j:∀y,S y->¬F y)(O:∀o∈x,PK o)(hl:x.length<=100)(hm:most<=2000)(U:N+GF<=1000000000) :
  AB prog 12 [.pointer (some ⟨a.b,0,none⟩),v] (fun v' w'=>v'=.int .i64 (FE σ.ks x d.length most)/\Jp .f w0 F W w' a σ most (Kl σ.ks most d x) (N+GF)/\DocM σ.ks most (Kl σ.ks most d x)) W:=by
 have Q:ML 4000 x<=GF:=by
  show 2*x.length*(22*4000+50)<=17610000;omega
 refine AA (Rx h B E i I J j O (by omega) hm (by omega)) ?_;rintro _ w' ⟨rfl,h1,T⟩;exact⟨rfl,h1.up (by omega),T⟩
theorem Zh{W:World}{sv:Value}{ks:List DKey}{C:Nat->Prop}(i:DG C W sv ks)(j:EV w0)(g:Grow w0 W) :
  AB prog 11 [sv,.int .i64 most] (fun v' w'=>Grow W w'/\((1<=most/\most<536870912/\∃a F,v'=.tuple #[.pointer (some ⟨a.b,0,none⟩),.int .i64 0]/\(∀x,F x->W.heap.size<=x)/\FY .f w0 F w' a ⟨sv,ks,fun x=>C x/\x<W.heap.size⟩ most [⟨10,[]⟩] 24)\/((most<1\/536870912<=most)/\v'=.tuple #[.pointer none,.int .i64 2]))) W:=
 N5 (σ:=⟨sv,ks,fun x=>C x/\x<W.heap.size⟩) (i.sub fun _ o h=>⟨h,o⟩) (fun _ h=>h.2) j g
end
noncomputable def N4(ks:List DKey)(most:Int)(d:List Cel)(l:List Qm):List Cel:=l.foldl (fun d s=>Kl ks most d s.x) d
section
variable {w0:World}{F:Nat->Prop}{W:World}{a:TxA}{σ:SKs}{most:Int}{N:Nat}{d:List Cel}
theorem QD{S:Nat->Prop}{lv:Value}{l:List Qm}{n:Nat}{Kend:World->Prop}(hn:n<=l.length)(ak:n<=30)(hl:Hs S W lv l)(hS:∀b,S b->b<w0.heap.size)(T:∀s∈l,(∀o∈s.x,PK o)/\Cf s.x<=100)
 (h:FY .f w0 F W a σ most d N)(hT:EV w0)(hM:DocM σ.ks most d)(U:σ.ks.length<=64)(hK:∀k∈σ.ks,EK k)(hm:most<=2000)(hN:N+30*GF<=1000000000)
 (hE:∀W',Jp .f w0 F W W' a σ most (N4 σ.ks most d (l.take n)) (N+n*GF)->DocM σ.ks most (N4 σ.ks most d (l.take n))->Kend W') :
  Ay [(.int .i64 0)] (fun vs B w5=>∀_:Env,
   Be .i64 (nth vs 0) (.int .i64 (n:Int)) fun t50=>
   AD t50
   (Bf 3 lv (nth vs 0) fun t55=>
   AM 0 t55 fun V=>
   AK V (fun X w6=>
   AB prog 12 [.pointer (some ⟨a.b,0,none⟩),X] (fun _t58 w7=>
   AX .i64 (nth vs 0) (.int .i64 1) fun Y=>
   B [Y] w7) w6) w5)
   (Kend w5)) W:=by
 obtain⟨la,lc,rfl,_⟩:=hl.shape;refine Af (fun vs W'=>∃(i:Nat) (F':Nat->Prop),i<=n/\vs=[.int .i64 i]/\(∀x,F' x->F x\/W.heap.size<=x)/\FY .f w0 F' W' a σ most (N4 σ.ks most d (l.take i)) (N+i*GF)/\Mod F W W'/\DocM σ.ks most (N4 σ.ks most d (l.take i))) (fun vs _=>n-EF vs 0) ⟨0,F,Nat.zero_le _,rfl,fun _ h=>.inl h,h.up (by omega),Mod.refl _ _,hM⟩ ?_;rintro vs W1 ⟨i,F1,hi,rfl,Z,h1,O,E⟩ _;simp only[CM,List.headD_cons];rw[Av];have a1:=h.hl;have I:=h1.hl;refine AE (fun al=>?_) fun an=>?_;rotate_left
 .obtain rfl:i=n:=by omega
  exact hE W1 ⟨F1,Z,h1,O⟩ E
 have a6:i<n:=by omega
 have j:i<l.length:=by omega
 have a7:=hl.mod O fun b _ hb e=>by have:=(a1 b e).1;have:=hS b hb;omega
 obtain⟨p,r,rfl,_,hr,hc,xv,rfl,Q⟩:=a7.get j;refine Ab j ?_;rw[AG,Addr.add_add];refine AL (hc 0 _ rfl) ?_;obtain⟨q1,q2⟩:=T l[i] (List.getElem_mem j);have av:=Sd l[i].x;have ax:(GF:Nat)=17610000:=rfl;have ay:i*GF+GF<=30*GF:=by
  have:(i+1)*GF<=30*GF:=Nat.mul_le_mul_right _ (by omega);rw[Nat.add_mul,Nat.one_mul] at this;exact this
 refine AA (TS h1 hT E U hK Q (fun y hy e=>by have:=(I y e).1;have:=hS y hy;omega) q1 (by omega) hm (by omega)) ?_;rintro _ W2 ⟨rfl,⟨F2,f2,h2,m2⟩,a8⟩;rw[AR,AQ (by omega)];have J:N4 σ.ks most d (l.take (i+1))=Kl σ.ks most (N4 σ.ks most d (l.take i)) l[i].x:=by
  unfold N4;rw[List.take_add_one,List.getElem?_eq_getElem j,List.foldl_append];rfl
 have z1:=O.size;refine⟨⟨i+1,F2,a6,rfl,fun x Q=>?_,by rw[J];exact h2.up (by rw[Nat.add_mul,Nat.one_mul];omega),O.next m2 fun x Q e=>?_,by rw[J];exact a8⟩,by rw[DI,DI];omega⟩
 .rcases f2 x Q with e|e
  .exact Z x e
  .exact .inr (by omega)
 .rcases Z x e with e|e
  .exact e
  .omega
end
theorem K0{S Z D D':Nat->Prop}{a b:Value}{l m:List Cel}{w:World}(ha:Ep S D w a l)(hb:Ep Z D' w b m) :
  AB prog 22 [a,b] (fun v w'=>v=.bool (decide (l=m))/\Grow w w') w:=by
 apply Zc;obtain⟨pa,ca,rfl,I⟩:=ha.shape;obtain⟨pb,cb,rfl,J⟩:=hb.shape;simp only[maxLen] at I J;rw[AT,AT,Bg];refine AY (fun o=>?_) fun o=>?_;rotate_left
 .refine⟨?_,Mod.refl _ _⟩;congr 1;symm
  rw[decide_eq_false_iff_not];intro e;exact o (by rw[e])
 have x:l.length=m.length:=by omega
 refine Af (fun vs w'=>∃k:Nat,k<=l.length/\vs=[.int .i64 k]/\Grow w w'/\l.take k=m.take k) (fun vs _=>l.length-EF vs 0) ⟨0,Nat.zero_le _,rfl,Mod.refl _ _,rfl⟩ ?_;rintro vs X ⟨k,hk,rfl,Y,ht⟩ h;simp only[CM,List.headD_cons];rw[AT,Av];refine AE (fun a1=>?_) fun a6=>?_;rotate_left
 .refine⟨?_,Y⟩;congr 1;symm
  rw[decide_eq_true_eq];obtain rfl:k=l.length:=by omega
  rw[List.take_length] at ht;rw[ht,x,List.take_length]
 have i:k<l.length:=by omega
 have gd:Grow X X.drew:=Mod.drew _ _;have y:=Y.trans gd;have O:=ha.grow y;have Q:=hb.grow y;obtain⟨p,r,rfl,_,hr,hc,sv,rfl,hs⟩:=O.get i;obtain⟨q,r',rfl,_,a7,B,a8,rfl,T⟩:=Q.get (show k<m.length by omega);refine Ag (fun _ _=>False) ?_;refine Ab i ?_;rw[AG,Addr.add_add];refine Aa ⟨hc 0 _ rfl,fun j U e=>e⟩ ?_;refine Ab (by omega) ?_;rw[AG,Addr.add_add];refine Aa ⟨B 0 _ rfl,fun j U e=>e⟩ ?_;rw[Bg];refine AY (fun E=>?_) fun E=>?_;rotate_left
 .refine⟨?_,y⟩;congr 1;symm
  rw[decide_eq_false_iff_not];intro e;subst e;exact E rfl
 refine Ab i ?_;rw[AG,Addr.add_add];refine Aa ⟨hc 1 _ rfl,fun j U e=>e⟩ ?_;refine Ab (by omega) ?_;rw[AG,Addr.add_add];refine Aa ⟨B 1 _ rfl,fun j U e=>e⟩ ?_;refine AA (L7 hs T) ?_;rintro _ w2 ⟨rfl,V⟩;refine⟨V.mono fun _ _ h=>h.elim,?_⟩;rw[An];by_cases he:l[k].set=m[k].set
 .rw[decide_eq_true he];refine AS ?_;rw[AR,AQ (by omega)];refine⟨⟨k+1,i,rfl,y.trans V,?_⟩,by rw[DI,DI];omega⟩;have e:l[k]=m[k]:=by
   cases h1:l[k];cases h2:m[k];rw[h1,h2] at E he;simp only at E he;rw[E,he]
  rw[List.take_add_one,List.take_add_one,ht];simp[i,show k<m.length by omega,e]
 .rw[decide_eq_false he];refine Ao ⟨?_,y.trans V⟩;congr 1;symm
  rw[decide_eq_false_iff_not];intro e;subst e;exact he rfl
end Go.Proofs.YtmdhibffnkhcnaaGreatDoor
namespace Go.K
open Go
theorem PE{α:Type}{P:Program}{t e k:Nat}{i:TypeInfo}{R:World->List Value->α->Prop}{S:Nat->Prop}{w:World}{a:Option Addr}{n c:Nat}{l:List α}{j q:Nat}{K:Cont}(ht:P.underlying t=some (.slice e))(E:P.info? e=some i)(hk:i.size=k)
 (h:BH S k R w (.slice a n c) l)(I:j<=q)(V:q<=l.length)(J:∀v',BH S k R w v' ((l.take q).drop j)->K v' w):runK P (Instr.sliceAt t (.slice a n c) (some (.int .i64 j)) (some (.int .i64 q)) none) K w:=by
 obtain⟨X,Y,O,h1,Z,Q⟩:=h;cases O;have o:P.elem t=e:=by simp[Program.elem,ht]
 refine⟨sliced a j q c k,w,?_,J _ ?_⟩
 .rw[run_sliceAt_slice _ _ _ _ _ _ (by rw[o];exact ht),run_slice_lh _ _ _ _ _ (by rw[o];exact ht) _ _ _ _ (by omega) (by omega) (by omega),o];simp[sizeOf,typeInfo,E,hk]
 .unfold sliced;have hl:((l.take q).drop j).length=q-j:=by simp;omega
  refine⟨_,_,by rw[hl],by rw[hl];omega,by omega,fun m x B=>?_⟩;rw[List.getElem?_drop,List.getElem?_take] at B;split at B
  .obtain⟨p,r,rfl,T,hr,hc,U⟩:=Q _ x B;rw[if_neg (by omega)];refine⟨p.add (j*k),r,rfl,by rw[BP];exact T,hr,fun y u hu=>?_,U⟩;rw[Addr.add_add,<-Nat.add_assoc,<-Nat.add_mul];exact hc y u hu
  .cases B
end Go.K
namespace Go.Proofs.YtmdhibffnkhcnaaGreatDoor
open Go Go.K Proofs.Tryz
section
variable {w0:World}{F:Nat->Prop}{W:World}{a:TxA}{σ:SKs}{most:Int}{N:Nat}{d:List Cel}
theorem Js{i j:Int}(h:FY .f w0 F W a σ most d N)(B:∀c∈d,EC σ.ks c.set)(E:d.length<=10000000)(I:N<=1000000000) :
  AB prog 15 [.pointer (some ⟨a.b,0,none⟩),.int .i64 i,.int .i64 j] (fun v' w'=>Grow W w'/\∃ o x,v'=.tuple #[o,.int .i64 x]/\
   ((x=0/\∃ p q:Nat,i=p/\j=q/\p<=q/\q<=d.length/\G1 W.heap.size W.heap.size w' o ((d.take q).drop p))\/x=5)) W:=by
 by_cases he:0<=i/\i<=j/\j<=d.length
 .obtain⟨p,rfl⟩:∃p:Nat,i=p:=⟨i.toNat,by omega⟩;obtain⟨q,rfl⟩:∃q:Nat,j=q:=⟨j.toNat,by omega⟩;refine AA (IJ h (by omega) (by omega) B E I) ?_;rintro _ w' ⟨o,rfl,y,g⟩;exact⟨g,o,0,rfl,.inl ⟨rfl,p,q,rfl,rfl,by omega,by omega,y⟩⟩
 .refine AA (Nc h he) ?_;rintro _ w' ⟨rfl,g⟩;exact⟨g,_,5,rfl,.inr rfl⟩
end
theorem parts_eq{α:Type}(d:List α){i j k:Nat}(h1:i<=j)(o:j<=k):(d.take j).drop i++(d.take k).drop j=(d.take k).drop i:=by
 have e:d.take j=(d.take k).take j:=by rw[List.take_take,Nat.min_eq_left o]
 rw[e];generalize d.take k=l;conv=>rhs;rw[<-List.take_append_drop j l]
 by_cases y:j<=l.length
 .rw[List.drop_append_of_le_length (by rw[List.length_take];omega)]
 .have x:l.drop j=[]:=List.drop_eq_nil_of_le (by omega);rw[x,List.append_nil,List.append_nil]
theorem VH{S D X D':Nat->Prop}{W:World}{E bv:Value}{l m:List Cel}{K:Cont}(ha:Ep S D W E l)(hb:Ep X D' W bv m)(hl:l.length<=10000000)(hm:m.length<=10000000)
 (Y:∀v' W' (I:Nat->Prop),Ep (fun _=>True) I W' v' (l++m)->Grow W W'->K v' W') :
  Bc 45 2 0 [] [] (fun t Z=>runK prog (Builtin.append_ #[40,40] 40 [t,E].toArray) (fun t' w2=>runK prog (Builtin.append_ #[40,40] 40 [t',bv].toArray) K w2) Z) W:=by
 refine Gk ?_;have J:Grow W (W.alloc (.cells #[] 45)):=Mod.alloc _ _ _;have a1:(W.alloc (.cells #[] 45)).heap.size=W.heap.size+1:=World.size_alloc _ _;have low:∀{S D:Nat->Prop} {v:Value} {l:List Cel},Ep S D W v l->Ep S (fun x=>x<W.heap.size) W v l:=fun h=>h.sub (fun _ _ h=>h) (by decide) fun r x B=>Gf.low B;have O:Ep S (fun x=>x<W.heap.size) (W.alloc (.cells #[] 45)) E l:=(low ha).grow J;have Q:Ep X (fun x=>x<W.heap.size) (W.alloc (.cells #[] 45)) bv m:=(low hb).grow J;obtain⟨v',w',h1,o1,i,n1⟩:=QE (ty:=40) (R:=Gf fun x=>x<W.heap.size) Kt (heap_alloc_new W _) O (fun _ _ _=>Gf.one) (by omega) fun w' j r y T=>T.mod (Mod.of_grownBy j) (fun x _ B e=>by simp only[Option.some.injEq] at e;omega) fun _ _ h=>h;refine Ai h1 ?_;have U:=Q.grow i;have z1:=i.size;have o:∀g,v'.ownBlock=some g->W.heap.size<=g:=fun g j=>by rcases n1 g j with h|h<;>omega
 obtain⟨v2,w2,h2,o2,V,n2⟩:=AF.append (ty:=40) Kt o1 U (fun _ _=>Gf.one) (by omega) (by omega) (by simp only[maxLen];omega) fun w' j r y T=>T.mod (Mod.of_grownBy j) (fun x _ B e=>by have:=o x e;omega) fun _ _ h=>h;refine Ai h2 (Y _ _ _ ((AF.sl o2).sub (fun _ _ _=>trivial) (by decide) fun _ _ h=>h) ?_);exact(J.trans i).next (Mod.of_grownBy V) fun x B e=>by have:=o x e;omega
theorem NF{S T:Nat->Prop}{kv lv:Value}{ay:List DKey}{most i j k:Int}{l:List Qm}{w:World}(hk:L0 S w kv ay)(hl:Hs T w lv l)(hT:EV w)
 (hI:∀s∈l,(∀o∈s.x,PK o)/\Cf s.x<=1048576) :
  AB prog 5 [kv,.int .i64 most,lv,.int .i64 i,.int .i64 j,.int .i64 k] (fun v w'=>v=.bool true/\Grow w w') w:=by
 classical
 apply cH;have kn:∀{w1},Grow w w1->AB prog 10 [] (fun v w'=>v=.bool true/\Grow w w') w1:=fun hg=>AA (QM (hT.grow hg)) fun v w' ⟨e,h⟩=>⟨e,hg.trans h⟩;have bp:=hl.HL;refine AA (Kn hk) ?_;rintro _ w1 ⟨g1,hr⟩;rcases hr with⟨b0,sv,ks,rfl,E,_,hS⟩|⟨_,rfl⟩;rotate_left
 .refine BK ?_;refine AU (fun _ _=>False) (fun _ _ h=>h.elim) ?_;rw[Bg];exact AY (fun e=>by cases e) fun _=>kn g1
 refine BK ?_;obtain⟨b1,b2,_⟩:=LF.1 b0;have bs:ks.length<=64:=by rw[E.length_eq];exact b1
 have hK:∀k∈ks,EK k:=fun k hk=>b2 k (E.mem_iff.1 hk);refine AU (fun _ w'=>Grow w w'/\Grow w1 w'/\Ur most l) ?_ ?_;rotate_left
 .refine Mo ?_;refine AA (RI (hl.mod g1 fun _ _ _ h=>h) fun s hs=>by have:=(hI s hs).2;omega) ?_;rintro _ w2 ⟨rfl,g2⟩;rw[An];refine AY (fun ht=>⟨g1.trans g2,g2,ht⟩) fun _=>kn (g1.trans g2)
 rintro _ w2 ⟨b3,bx,a1,c4,c7⟩ _;refine AA (Zh (most:=most) (hS.grow bx) hT b3) ?_;rintro v3 w3 ⟨g3,h3⟩;have b4:=b3.trans g3;rcases h3 with⟨c8,eh,a,F,rfl,hF,hX⟩|⟨_,rfl⟩;rotate_left
 .refine BK ?_;rw[Bg];exact AY (fun e=>by cases e) fun _=>kn b4
 refine BK ?_;refine Mo ?_;have b5:=bp.mod b4 fun _ _ _ h=>h;obtain⟨la,lc,c9,_⟩:=b5.shape;have b6:Ak lv=Ak (.slice la l.length lc):=by rw[c9]
 rw[b6,AT];refine QD (n:=l.length) (Nat.le_refl _) a1 b5 (fun b hb=>hb.2) (fun s hs=>⟨(hI s hs).1,c7 s hs⟩) hX hT (Ug c8) bs hK c4 (by decide) fun w4 h4 O=>?_;obtain⟨F4,f4,I,m4⟩:=h4;rw[List.take_length] at I O;have Q:24+l.length*GF<=1000000000:=Nat.le_trans (Nat.add_le_add_left (Nat.mul_le_mul_right _ a1) _) (by decide);generalize N4 _ most [⟨10,[]⟩] l=d at I O;have ei:=O.le;have U:d.length<=10000000:=by omega
 have hG:=O.g.set;have cd:Grow w w4:=I.g;refine AA (Js (i:=i) (j:=j) I hG U Q) ?_;rintro _ w5 ⟨g5,c5,ch,rfl,h5⟩;have b7:=I.grow g5;refine BK ?_;refine AA (Js (i:=j) (j:=k) b7 hG U Q) ?_;rintro _ w6 ⟨g6,c6,cn,rfl,h6⟩;have b8:=b7.grow g6;have ak:=(cd.trans g5).trans g6;refine BK ?_;refine AU (fun _ w'=>w6=w'/\ch=0/\cn=0) ?_ ?_;rotate_left
 .rw[Bg];refine AY (fun e5=>?_) fun _=>kn ak;rw[Bg];exact AY (fun e6=>⟨rfl,e5,e6⟩) fun _=>kn ak
 rintro _ _ ⟨rfl,rfl,rfl⟩ _;obtain⟨p,q,rfl,rfl,cx,hq,dk⟩:∃p q:Nat,i=p/\j=q/\p<=q/\q<=d.length/\G1 w4.heap.size w4.heap.size w5 c5 ((d.take q).drop p):=by
  rcases h5 with⟨_,h⟩|h
  .exact h
  .cases h
 obtain⟨q',r,e1,rfl,dT,hr,e2⟩:∃q' r:Nat,((q:Nat):Int)=q'/\k=r/\q'<=r/\r<=d.length/\G1 w5.heap.size w5.heap.size w6 c6 ((d.take r).drop q'):=by
  rcases h6 with⟨_,h⟩|h
  .exact h
  .cases h
 obtain rfl:q=q':=by omega
 clear h5 h6;refine AA (IJ (i:=p) (j:=r) b8 (by omega) hr hG U Q) ?_;rintro _ w7 ⟨cv,rfl,e3,g7⟩;have e4:=b8.grow g7;have e7:=ak.trans g7;refine BK ?_;have b9:=e3.rd (Nat.le_refl _);have e8:=((dk.grow g6).grow g7).rd (Nat.le_refl _);have e9:=(e2.grow g7).rd (Nat.le_refl _);have a6:((d.take r).drop p).length=r-p:=by rw[List.length_drop,List.length_take];omega
 refine AU (fun _ w'=>Grow w7 w') ?_ ?_;rotate_left
 .refine Mo ?_;refine VH e8 e9 (by rw[List.length_drop,List.length_take];omega) (by rw[List.length_drop,List.length_take];omega) fun v' w8 ej ea g8=>?_;refine AA (K0 ea (b9.grow g8)) ?_;rintro _ w9 ⟨rfl,g9⟩;rw[An,decide_eq_true (parts_eq d cx dT)];exact AS (g8.trans g9)
 rintro _ w8 al _;have a7:=b9.grow al;have ec:=e4.grow al;have ed:=e7.trans al;obtain⟨ca,cc,rfl,_⟩:=a7.shape;rw[AT];refine Af (fun vs w'=>∃n:Nat,n<=r-p/\vs=[.int .i64 n]/\Grow w8 w') (fun vs _=>r-p-EF vs 0) ⟨0,Nat.zero_le _,rfl,Mod.refl _ _⟩ ?_;rintro vs w9 ⟨n,hn,rfl,V⟩ _;simp only[CM,List.headD_cons];rw[a6,Av];refine AE (fun ek=>?_) fun en=>?_;rotate_left
 .exact kn (ed.trans V)
 have ee:n<r-p:=by omega
 refine AU (fun _ w'=>Grow w9 w') ?_ ?_
 .rintro _ ba an _;rw[AR,AQ (by omega)];exact⟨⟨n+1,ee,rfl,V.trans an⟩,by rw[DI,DI];omega⟩
 rw[AR,wrap64 (by omega) (by omega),show((p:Int)+(n:Int))=((p+n:Nat):Int) by omega];have ef:=ec.grow V;refine AA (YK (i:=p+n) ef (by omega) hG U Q) ?_;rintro _ ba ⟨y,rfl,X,an⟩;refine BK ?_;have Y:y.length=2:=by obtain⟨_,rfl,_⟩:=X;rfl
 refine Bx.new (vs:=y) Y rfl X.one fun b Z hb bc B=>?_;have gd:Grow Z Z.drew:=Mod.drew _ _;have Bd:=B.grow gd;have av:=(an.trans bc).trans gd;have bd:Gf (fun x=>w9.heap.size<=x/\x<ba.heap.size) Z.drew y d[p+n]:=X.mod (bc.trans gd) (fun _ _ _ h=>h) fun _ _ h=>h;have J:=(a7.grow V).grow av;rw[a6] at J;have bk:(((d.take r).drop p).take (n+1)).drop n=[d[p+n]]:=by
  have bl:n<((d.take r).drop p).length:=by omega
  rw[List.take_add_one,List.getElem?_eq_getElem bl,List.drop_append,List.drop_eq_nil_of_le (by rw[List.length_take];omega),show n-(((d.take r).drop p).take n).length=0 by rw[List.length_take];omega];simp[List.getElem_drop,List.getElem_take]
 refine Ag (fun _ _=>False) ?_;refine Mo ?_;refine CL Y (fun j v hv=>⟨by rw[AI];exact Bd.cells j v hv,fun _ _ e=>e⟩) ?_;rw[AR,wrap64 (by omega) (by omega),show((n:Int)+1)=((n+1:Nat):Int) by omega];have a8:∀{W:World} {v1 v2:Value} {S1 D1 S2 D2:Nat->Prop} {M:Nat->Prop},Grow w9 W->Ep S1 D1 W v1 [d[p+n]]->Ep S2 D2 W v2 [d[p+n]]->
   AB prog 22 [v1,v2] (fun t w'=>Mod M W w'/\Br t fun t'=>AD t' ((Value.bool false=.bool true)/\Grow w w') (Grow w9 w')) W:=fun g h1 h2=>AA (K0 h1 h2) fun _ w' ⟨e,g'⟩=>by
  subst e;refine⟨g'.mono fun _ _ h=>h.elim,?_⟩;rw[An,decide_eq_true rfl];exact AS (g.trans g')
 have one:∀{W:World} {K:Cont},Grow Z.drew W->(∀v' W',Grow W W'->Ep (fun _=>True) (fun _=>True) W' v' [d[p+n]]->K v' W')->Bc 45 2 1 [(.int .i32 0),(.slice none 0 0)] [(0,.agg y.toArray)] K W:=fun{W K} g hK=>by
  refine Fx (Cw (k:=2) rfl (by decide) rfl Y) ?_;have ga:Grow W (W.alloc (.cells y.toArray 45)):=Mod.alloc _ _ _;have eg:Gf (fun _=>True) (W.alloc (.cells y.toArray 45)) y d[p+n]:=bd.mod (g.trans ga) (fun _ _ _ h=>h) fun _ _ _=>trivial;exact hK _ _ ga ((AF.sl (AF.Ms (Nat.le_refl _) Y X.one eg)).sub (fun _ _ _=>trivial) (by decide) fun _ _ h=>h)
 constructor
 .refine one (Mod.refl _ _) fun v1 W1 h1 ax=>⟨h1.mono fun _ _ h=>h.elim,?_⟩;refine PE (l:=(d.take r).drop p) (e:=45) (k:=2) (i:=Tryz.t45) (by kernel_rfl) (by kernel_rfl) rfl (J.grow h1) (by omega) (by omega) fun v2 h2=>⟨Mod.refl _ _,?_⟩;rw[bk] at h2;exact a8 (av.trans h1) ax h2
 .refine PE (l:=(d.take r).drop p) (e:=45) (k:=2) (i:=Tryz.t45) (by kernel_rfl) (by kernel_rfl) rfl J (by omega) (by omega) fun v2 h2=>⟨Mod.refl _ _,?_⟩;rw[bk] at h2;refine one (Mod.refl _ _) fun v1 W1 h1 ax=>⟨h1.mono fun _ _ h=>h.elim,?_⟩;exact a8 (av.trans h1) ax (BH.grow h2 h1 (by decide) fun r x hx=>hx.mod h1 (fun _ _ _ h=>h) fun _ _ h=>h)
end Go.Proofs.YtmdhibffnkhcnaaGreatDoor
