/- parts of the proof, written short by a program of ours -/
import Derived.Test.YtmdhibffnkhcnaaGreatDoorZTextLinesUpto9
import Derived.Test.YtmdhibffnkhcnaaGreatDoorRows
import Derived.Lib.LaidU8
import Derived.Lib.LaidIn
import Derived.LaidHandle
import Derived.LaidMore
import Derived.MakeChecks
set_option linter.unusedSimpArgs false
set_option linter.unusedVariables false
namespace Go.Proofs.YtmdhibffnkhcnaaGreatDoor
open Go Go.K Proofs.Tryz
theorem Rs{r:Int}{w:World}:AB prog 249 [.int .i32 r] (fun v' w'=>v'=.bool (decide (Dt r))/\w'=w) w:=by
 apply Wc;have key:∀{b:Bool},(b=true↔Dt r)->Value.bool b=.bool (decide (Dt r))/\w=w:=fun h=>⟨by congr 1;rw[Bool.eq_iff_iff,h,decide_eq_true_eq],rfl⟩;unfold Dt at key ⊢;rw[HO];refine AE (fun h0=>?_) fun h0=>?_
 .rw[Ax];refine AE (fun h1=>key (by simp;omega)) fun h1=>?_;rw[Ax];refine AE (fun i=>?_) fun i=>key (by simp;omega);rw[HO];exact AE (fun j=>key (by simp;omega)) fun j=>key (by simp;omega)
 .rw[Ax];refine AE (fun i=>?_) fun i=>key (by simp;omega);rw[HO];exact AE (fun j=>key (by simp;omega)) fun j=>key (by simp;omega)
theorem Uc{r:Int}{w:World}:AB prog 194 [.int .i32 r] (fun v' w'=>v'=.bool (decide (Dt r))/\w'=w) w:=by
 apply Xz;exact Rs
theorem Ry{S:Nat->Prop}{v:Value}{l:List Int}{w:World}(h:La S w v l) :
  AB prog 224 [v,.func (.func 280) #[] #[]] (fun v' w'=>v'=.bool (!decide (∀r∈l,Dt r))/\w'=w) w:=by
 apply Q6;refine AA (K:=fun v' w'=>w'=w/\((v'=.int .i64 (-1)/\∀r∈l,Dt r)\/∃i:Nat,v'=.int .i64 i/\¬∀r∈l,Dt r)) ?_ ?_
 .apply Qk;obtain⟨a,c,rfl,hm⟩:=h.shape;simp only[maxLen] at hm;rw[AS];refine Ae (fun vs W=>∃i:Nat,i<=l.length/\vs=[.int .i64 i]/\W=w/\∀c∈l.take i,Dt c) (fun vs _=>l.length-ED vs 0) ⟨0,Nat.zero_le _,rfl,rfl,by simp⟩ ?_;rintro vs _ ⟨i,I,rfl,rfl,j⟩ _;rename World=>w
  rw[CN,List.headD_cons,Ax];refine AE (fun y=>?_) fun B=>?_
  .have o:i<l.length:=by omega
   obtain⟨q,r,rfl,_,hr,hc,rfl⟩:=h.get o;refine AZ o (AL (by have:=hc 0 _ rfl;exact this) ?_);refine G7 (by kernel_rfl) ?_;apply Ww;refine AA Uc ?_;rintro _ _ ⟨rfl,rfl⟩;rename World=>w
   rw[Aq];by_cases x:Dt l[i]
   .rw[decide_eq_true x];refine AT ?_;rw[AR,AQ (by omega)];refine⟨⟨i+1,o,rfl,rfl,fun c hc=>?_⟩,by rw[DW,DW];omega⟩;rw[List.take_add_one,List.getElem?_eq_getElem o] at hc;rcases List.mem_append.1 hc with hc|hc
    .exact j c hc
    .simp at hc;subst hc;exact x
   .rw[decide_eq_false x];exact Ao ⟨rfl,.inr ⟨i,rfl,fun j=>x (j _ (List.getElem_mem o))⟩⟩
  .have:i=l.length:=by omega
   subst this;exact⟨rfl,.inl ⟨rfl,fun c hc=>j c (by rw[List.take_length];exact hc)⟩⟩
 .rintro _ _ ⟨rfl,⟨rfl,j⟩|⟨i,rfl,E⟩⟩
  .rw[Dl];exact⟨by rw[decide_eq_true j];rfl,rfl⟩
  .rw[Dl];exact⟨by rw[decide_eq_false E,decide_eq_true (by omega:(i:Int) ≥ 0)];rfl,rfl⟩
def Ji(o:Dop):Prop:=(o.kind=1/\o.BA=[]/\o.set=[])\/(o.kind=3/\o.BA=[]/\o.set=[]/\o.patch=[])\/(o.kind=2/\o.n=0/\o.patch=[]/\∀r∈o.BA,Dt r)
instance (o:Dop):Decidable (Ji o):=by unfold Ji;infer_instance
theorem HZ(o:Dop):FG o↔Ji o/\1<=Lg o/\Lg o<=536870912:=by
 unfold FG Ji Lg;constructor
 .rintro(⟨h1,i,j,y,x⟩|⟨h1,i,j,y,x,B⟩|⟨h1,i,j,y,x,B⟩)
  .exact⟨.inl ⟨h1,i,j⟩,by rw[h1,if_neg (by decide)];exact y,by rw[h1,if_neg (by decide)];exact x⟩
  .exact⟨.inr (.inl ⟨h1,i,j,y⟩),by rw[h1,if_neg (by decide)];exact x,by rw[h1,if_neg (by decide)];exact B⟩
  .exact⟨.inr (.inr ⟨h1,j,y,i⟩),by rw[if_pos h1];omega,by rw[if_pos h1];omega⟩
 .rintro⟨⟨h1,i,j⟩|⟨h1,i,j,y⟩|⟨h1,i,j,y⟩,x,B⟩
  .rw[h1,if_neg (by decide)] at x B;exact .inl ⟨h1,i,j,x,B⟩
  .rw[h1,if_neg (by decide)] at x B;exact .inr (.inl ⟨h1,i,j,y,x,B⟩)
  .rw[if_pos h1] at x B;exact .inr (.inr ⟨h1,y,i,j,by omega,by omega⟩)
theorem Sj{D:Nat->Prop}{r:List Value}{o:Dop}{w:World}(h:Ju D w r o) :
  AB prog 239 [.agg r.toArray] (fun v w'=>v=.bool (decide (Ji o))/\Grow w w') w:=by
 apply Wy;have O:=h.one;obtain⟨V,sv,X,rfl,h1,Q,S⟩:=h;refine Da fun b j _ Y g hc _=>?_;have B:=h1.grow g (by decide) fun _ _ h=>h;obtain⟨Z,c1,rfl,m1⟩:=h1.shape;obtain⟨a2,c2,rfl,m2⟩:=Q.shape;obtain⟨a3,c3,rfl,m3⟩:=S.shape;have key:∀{x:Bool},(x=true↔Ji o)->Value.bool x=.bool (decide (Ji o))/\Grow w j:=fun h=>⟨by congr 1;rw[Bool.eq_iff_iff,h,decide_eq_true_eq],g⟩;unfold Ji at key ⊢;refine AW (fun vs w2=>w2=j/\vs=[.bool (decide (¬(o.BA=[]/\o.set=[])))]) ?_ ?_;rotate_left
 .rw[AG];refine AL (hc 2 _ rfl) ?_;rw[AS,BK];refine AE (fun e=>?_) fun e=>?_
  .refine⟨rfl,?_⟩;rw[decide_eq_true];rintro⟨T,_⟩;rw[T] at e;simp at e
  .have U:o.BA=[]:=List.eq_nil_of_length_eq_zero (by omega);rw[AG];refine AL (hc 3 _ rfl) ?_;rw[AS,BK];refine⟨rfl,?_⟩;congr 2
   rw[decide_eq_decide];constructor
   .rintro y ⟨_,E⟩;rw[E] at y;simp at y
   .intro y;have:o.set≠[]:=fun E=>y ⟨U,E⟩;have:=List.length_pos_iff.2 this;omega
 rintro _ _ ⟨rfl,rfl⟩ _;rename World=>j
 rw[CN,List.headD_cons,AG];refine AL (hc 0 _ rfl) ?_;rw[Am];refine AE (fun k1=>?_) fun k1=>?_
 .rw[Aq];refine key ?_;simp only[k1,decide_not,Bool.not_not,decide_eq_true_eq];constructor
  .exact fun h=>.inl ⟨trivial,h⟩
  .rintro(h|h|h)
   .exact h.2
   .omega
   .omega
 rw[Am];refine AE (fun I=>?_) fun I=>?_
 .rw[Aq];by_cases i:o.BA=[]/\o.set=[]
  .rw[show(!decide ¬(o.BA=[]/\o.set=[]))=true by simp[i]];refine Ao ?_;rw[AG];refine AL (hc 4 _ rfl) ?_;rw[AS,Am];refine key ?_;rw[decide_eq_true_eq,aw];constructor
   .exact fun h=>.inr (.inl ⟨I,i.1,i.2,h⟩)
   .rintro(h|h|h)
    .omega
    .exact h.2.2.2
    .omega
  .rw[show(!decide ¬(o.BA=[]/\o.set=[]))=false by simp[i]];refine AT (key ?_);simp only[Bool.false_eq_true,false_iff];rintro(h|h|h)
   .omega
   .exact i ⟨h.2.1,h.2.2.1⟩
   .omega
 rw [Am];refine AE (fun k2=>?_) fun k2=>key (by simp only [Bool.false_eq_true,false_iff];rintro (h | h | h) <;> omega);rw [AG];refine AL (hc 1 _ rfl) ?_;rw [Am];refine AE (fun J=>?_) fun J=>key (by simp only [Bool.false_eq_true,false_iff];rintro (h | h | h) <;> omega);rw [AG];refine AL (hc 4 _ rfl) ?_;rw [AS,Am];refine AE (fun hp=>?_) fun hp=>key (by
  simp only[Bool.false_eq_true,false_iff];rintro(h|h|h)
  .omega
  .omega
  .exact hp (aw.2 h.2.2.1))
 rw[aw] at hp;rw[AG];refine AL (hc 2 _ rfl) ?_;refine AA (Ry B) ?_;rintro _ _ ⟨rfl,rfl⟩;rename World=>j
 rw[Aq,Bool.not_not];refine key ?_;rw[decide_eq_true_eq];constructor
 .exact fun h=>.inr (.inr ⟨k2,J,hp,h⟩)
 .rintro(h|h|h)
  .omega
  .omega
  .exact h.2.2.2
theorem Kb{D:Nat->Prop}{r:List Value}{o:Dop}{w:World}(h:Ju D w r o) :
  AB prog 155 [.agg r.toArray] (fun v w'=>v=.int .i64 (Lg o)/\Grow w w') w:=by
 apply WM;obtain⟨i,sv,j,rfl,h1,x,y⟩:=h;obtain⟨B,c1,rfl,E⟩:=h1.shape;refine Da fun b I _ J g hc _=>?_;rw[AG];refine AL (hc 0 _ rfl) ?_;rw[Am];refine AE (fun k1=>?_) fun k1=>?_
 .rw[AG];refine AL (hc 2 _ rfl) ?_;rw[AS];exact⟨by rw[Lg,if_pos k1],g⟩
 .rw[AG];refine AL (hc 1 _ rfl) ?_;exact⟨by rw[Lg,if_neg k1],g⟩
theorem JL{S D:Nat->Prop}{v:Value}{x:List Dop}{w:World}(h:Bg S D w v x) :
  AB prog 81 [v] (fun v' w'=>v'=.int .i64 (Cg CA x)/\Grow w w') w:=by
 apply aH;obtain⟨a,c,rfl,hm⟩:=h.shape;simp only[maxLen] at hm;rw[AS];refine Ae (fun vs E=>∃k:Nat,k<=x.length/\vs=[.int .i64 (Cg CA (x.take k)),.int .i64 k]/\Grow w E) (fun vs _=>x.length-ED vs 1) ⟨0,Nat.zero_le _,rfl,Mod.refl _ _⟩ ?_;rintro vs E ⟨k,hk,rfl,g⟩ _;simp only[Fx];refine HU (fun J=>?_) fun O=>?_
 .have i:k<x.length:=by omega
  obtain⟨p,r,rfl,Q,hr,hc,o⟩:=(Bg.grow h g).get i;refine AZ i (Ah hr (fun j u hu=>by rw[Addr.add_add];exact hc j u hu) ?_);refine BO hr rfl o.one fun b w2 hb T I y _=>?_;obtain⟨U,sv,V,rfl,h1,X,Y⟩:=o;rw[AG];refine AL (y 0 _ rfl) ?_;rw[Br];refine Ab (fun e=>?_) fun e=>?_
  .rw[AR,AQ (by omega)];refine⟨⟨k+1,i,?_,g.trans I⟩,by rw[BH,BH];omega⟩;rw[Ey i,CA,if_pos e,Int.add_zero];have:IntKind.i64.wrap (Cg CA (x.take k))=Cg CA (x.take k):=by
    by_cases h0:k=0
    .subst h0;simp[Cg];rfl
    .obtain⟨B,rfl⟩:∃B,k=B+1:=⟨k-1,by omega⟩;rw[Ey (by omega)];have:=KC (Cg CA (x.take B)+CA x[B]);rw[wrap64 (by omega) (by omega)]
   rw[this]
  .rw[AG];refine AL (y 1 _ rfl) ?_;rw[AR,AR,AQ (by omega)];refine⟨⟨k+1,i,?_,g.trans I⟩,by rw[BH,BH];omega⟩;rw[Ey i,CA,if_neg e]
 .have:k=x.length:=by omega
  subst this;rw[List.take_length];exact⟨rfl,g⟩
theorem MB{S D:Nat->Prop}{v:Value}{x:List Dop}{w:World}(h:Bg S D w v x) :
  AB prog 84 [v] (fun v' w'=>v'=.int .i64 (Cg CM x)/\Grow w w') w:=by
 apply bA;obtain⟨a,c,rfl,hm⟩:=h.shape;simp only[maxLen] at hm;rw[AS];refine Ae (fun vs J=>∃k:Nat,k<=x.length/\vs=[.int .i64 (Cg CM (x.take k)),.int .i64 k]/\Grow w J) (fun vs _=>x.length-ED vs 1) ⟨0,Nat.zero_le _,rfl,Mod.refl _ _⟩ ?_;rintro vs J ⟨k,hk,rfl,g⟩ _;simp only[Fx];refine HU (fun O=>?_) fun Q=>?_
 .have i:k<x.length:=by omega
  obtain⟨p,r,rfl,U,hr,hc,o⟩:=(Bg.grow h g).get i;refine AZ i (Ah hr (fun j u hu=>by rw[Addr.add_add];exact hc j u hu) ?_);refine BO hr rfl o.one fun b w2 hb V I y _=>?_;have B:=o.mod (D':=D) I (fun _ _ _ h=>h) fun _ _ h=>h;obtain⟨X,sv,Y,rfl,h1,Z,h3⟩:=id o;rw[AG];refine AL (y 0 _ rfl) ?_;rw[Br];refine Ab (fun e=>?_) fun e=>?_
  .rw[AR,AQ (by omega)];refine⟨⟨k+1,i,?_,g.trans I⟩,by rw[BH,BH];omega⟩;rw[Ey i,CM,if_pos e,Int.add_zero];have:IntKind.i64.wrap (Cg CM (x.take k))=Cg CM (x.take k):=by
    by_cases h0:k=0
    .subst h0;simp[Cg];rfl
    .obtain⟨E,rfl⟩:∃E,k=E+1:=⟨k-1,by omega⟩;rw[Ey (by omega)];have:=KC (Cg CM (x.take E)+CM x[E]);rw[wrap64 (by omega) (by omega)]
   rw[this]
  .refine Ah hr y ?_;refine AA (Kb B) ?_;rintro _ w3 ⟨rfl,T⟩;rw[AR,AR,AQ (by omega)];refine⟨⟨k+1,i,?_,(g.trans I).trans T⟩,by rw[BH,BH];omega⟩;rw[Ey i,CM,if_neg e]
 .have:k=x.length:=by omega
  subst this;rw[List.take_length];exact⟨rfl,g⟩
theorem ND{α:Type}{p q:Prop}[Decidable p][Decidable q]{a b:α}(h:p↔q):(if p then a else b)=if q then a else b:=by
 by_cases hp:p
 .rw[if_pos hp,if_pos (h.1 hp)]
 .rw[if_neg hp,if_neg fun i=>hp (h.2 i)]
def PT(c:Chg):Prop:=(c.gone=true/\c.val≠BE.zero)\/(c.gone=false/\¬DK c.val)
def YU(ks:List DKey)(c:Chg):Prop:=BY ks c.key=none\/(c.gone=false/\¬Gr ks c.key c.val)
set_option maxRecDepth 20000 in
open Classical in
theorem T5{D S:Nat->Prop}{sv v:Value}{ks:List DKey}{p:List Chg}{w:World}(hS:DG D w sv ks)(h:Hh S w v p)(hT:ET w)(hI:∀c∈p,0<=c.val.f) :
  AB prog 240 [sv,v] (fun v' w'=>v'=.int .i64 (DA ks p)/\Grow w w') w:=by
 apply XM;obtain⟨a,c,rfl,hm⟩:=h.shape;simp only[maxLen] at hm;have bad:∀w',Grow w w'->KJ p->Value.int .i64 3=.int .i64 (DA ks p)/\Grow w w':=fun w' g hb=>⟨by rw[DA,if_pos hb],g⟩;rw[AS,BK];refine AE (fun h6=>bad _ (Mod.refl _ _) (.inr (.inl (by omega)))) fun h6=>?_;rw[AS];refine Ae (fun vs W=>∃i:Nat,i<=p.length/\vs=[.int .i64 (if GQ ks (p.take i) then 4 else 0),.int .i64 i]/\Grow w W/\(∀a∈p.take i,¬PT a)/\Ld Chg.key p i) (fun vs _=>p.length-ED vs 1)
  ⟨0,Nat.zero_le _,by rw[if_neg (by rintro⟨a,ha,_⟩;simp at ha)];rfl,Mod.refl _ _,by simp,fun j hj=>by omega⟩ ?_
 rintro vs W ⟨i,hi,rfl,g,hv,a1⟩ _;simp only[Fx];refine HU (fun ax=>?_) fun a6=>?_;rotate_left
 .have:i=p.length:=by omega
  subst this;rw[List.take_length] at hv ⊢;refine⟨?_,g⟩;have E:¬KJ p:=by
   rintro(O|O|⟨c,hc,O⟩)
   .exact O a1
   .omega
   .exact hv c hc O
  unfold DA;rw[if_neg E]
 have o:i<p.length:=by omega
 have Q:=List.getElem_mem o;have a8:=hI p[i] Q;have e1:p.take (i+1)=p.take i++[p[i]]:=by rw[List.take_add_one,List.getElem?_eq_getElem o];rfl
 have T:GQ ks (p.take (i+1))↔GQ ks (p.take i)\/YU ks p[i]:=by
  unfold GQ YU;rw[e1];constructor
  .rintro⟨a,ha,O⟩;rcases List.mem_append.1 ha with ha|ha
   .exact .inl ⟨a,ha,O⟩
   .simp at ha;subst ha;exact .inr O
  .rintro(⟨a,ha,O⟩|O)
   .exact⟨a,List.mem_append_left _ ha,O⟩
   .exact⟨p[i],List.mem_append_right _ (List.mem_singleton.2 rfl),O⟩
 refine AW (fun vs W2=>Grow w W2/\vs=[.int .i64 (if GQ ks (p.take (i+1)) then 4 else 0)]/\¬PT p[i]/\Ld Chg.key p (i+1)) ?_ ?_
 .rintro vs W2 ⟨g2,rfl,E,hr⟩ _;simp only[Fx];rw[AR,AQ (by omega)];refine⟨⟨i+1,o,rfl,g2,fun a ha=>?_,hr⟩,by rw[BH,BH];omega⟩;rw[e1] at ha;rcases List.mem_append.1 ha with ha|ha
  .exact hv a ha
  .simp at ha;subst ha;exact E
 obtain⟨q,r,rfl,_,hr,hc,rfl⟩:=(h.grow g (by decide) fun _ _ h=>h).get o;refine AZ o (Ah hr (fun j u hu=>by rw[Addr.add_add];exact hc j u hu) ?_);refine BO (vs:=p[i].cells) rfl rfl (Hj.one (w:=w) (x:=p[i]) rfl) fun b7 W1 ay b0 g7 ak _=>?_;rw[AG];refine AL (ak 0 _ rfl) ?_;refine AA (Ip (hS.grow (g.trans g7)) p[i].key) ?_;rintro _ W2 ⟨rfl,g2⟩;refine BM ?_;refine BO (vs:=((BY ks p[i].key).getD DKey.zero).cells) rfl rfl (Fv.one (w:=W2) (x:=(BY ks p[i].key).getD DKey.zero) rfl) fun b8 W3 b1 b2 g3 _ _=>?_;have B:=((g.trans g7).trans g2).trans g3;have U:∀j u,p[i].cells[j]?=some u->W3.cell? ((⟨b7,0,none⟩:Addr).add j)=some u:=fun j u hu=>(g2.trans g3).cell (ak j u hu) fun h=>h;have V:p[i].cells[1]?=some (.bool p[i].gone):=rfl;have a7:∀j u,p[i].val.cells[j]?=some u->p[i].cells[2+j]?=some u:=fun j u hu=>by rw[Nat.add_comm];exact hu
 refine AW (fun vs W4=>Grow W3 W4/\((vs=[.bool true]/\KJ p)\/(vs=[.bool false]/\¬PT p[i]/\Ld Chg.key p (i+1)))) ?_ ?_
 .rintro vs W4 ⟨y,⟨rfl,hb⟩|⟨rfl,E,I⟩⟩ _
  .exact Ao (bad _ (B.trans y) hb)
  refine AT ?_;rw[Aq];cases hk:BY ks p[i].key with
  |none=>
   refine Ao ⟨B.trans y,?_,E,I⟩;rw[if_pos (T.2 (.inr (.inl hk)))]
  |some k=>
   refine AT ?_;rw[AG];refine AL (y.cell (U 1 _ V) fun h=>h) ?_;rw[Aq];cases X:p[i].gone with
   |true=>
    refine AT ⟨B.trans y,?_,E,I⟩;congr 2
    refine ND ?_;rw[T];constructor
    .exact .inl
    .rintro(h|h|h)
     .exact h
     .rw[hk] at h;cases h
     .rw[X] at h;cases h.1
   |false=>
    refine Ao ?_;rw[AG];refine AL (y.cell (U 0 _ rfl) fun h=>h) ?_;rw[AG];refine Ah (vs:=p[i].val.cells) rfl (fun j u hu=>y.cell (by rw[Addr.add_add];exact U (2+j) u (a7 j u hu)) fun h=>h) ?_;refine AA (Nq (hS.grow (B.trans y)) (hT.grow (B.trans y)) a8) ?_;rintro _ W5 ⟨rfl,g5⟩;rw[Aq];by_cases J:Gr ks p[i].key p[i].val
    .rw[decide_eq_true J];refine AT ⟨(B.trans y).trans g5,?_,E,I⟩;congr 2
     refine ND ?_;rw[T];constructor
     .exact .inl
     .rintro(h|h|h)
      .exact h
      .rw[hk] at h;cases h
      .exact(h.2 J).elim
    .rw[decide_eq_false J];refine Ao ⟨(B.trans y).trans g5,?_,E,I⟩;rw[if_pos (T.2 (.inr (.inr ⟨X,J⟩)))]
 refine AW (fun vs W4=>Grow W3 W4/\((vs=[.bool true]/\KJ p)\/(vs=[.bool false]/\Ld Chg.key p (i+1)))) ?_ ?_
 .rintro vs W4 ⟨y,⟨rfl,hb⟩|⟨rfl,I⟩⟩ _
  .exact Ao ⟨y,.inl ⟨rfl,hb⟩⟩
  refine AT ?_;rw[AG];refine AL (y.cell (U 1 _ V) fun h=>h) ?_;cases X:p[i].gone with
  |true=>
   refine Ao ?_;rw[AG];refine Ah (vs:=p[i].val.cells) rfl (fun j u hu=>y.cell (by rw[Addr.add_add];exact U (2+j) u (a7 j u hu)) fun h=>h) ?_;refine⟨BE.zero.cells.toArray,by kernel_rfl,?_⟩;refine Ai (Pb _ _ p[i].val BE.zero W4) ?_;by_cases hz:p[i].val=BE.zero
   .rw[decide_eq_true hz];refine AT ?_;rw[AG];refine AL (y.cell (U 1 _ V) fun h=>h) ?_;rw[Aq,X];refine AT ⟨y,.inr ⟨rfl,?_,I⟩⟩;rintro(h|h)
    .exact h.2 hz
    .rw[X] at h;cases h.1
   .rw[decide_eq_false hz];exact Ao ⟨y,.inl ⟨rfl,.inr (.inr ⟨p[i],Q,.inl ⟨X,hz⟩⟩)⟩⟩
  |false=>
   refine AT ?_;rw[AG];refine AL (y.cell (U 1 _ V) fun h=>h) ?_;rw[Aq,X];refine Ao ?_;rw[AG];refine Ah (vs:=p[i].val.cells) rfl (fun j u hu=>y.cell (by rw[Addr.add_add];exact U (2+j) u (a7 j u hu)) fun h=>h) ?_;refine AA (Ma (hT.grow (B.trans y)) a8) ?_;rintro _ W5 ⟨rfl,g5⟩;rw[Aq];refine⟨y.trans g5,?_⟩;by_cases Y:DK p[i].val
   .refine .inr ⟨by rw[decide_eq_true Y];rfl,?_,I⟩;rintro(h|h)
    .rw[X] at h;cases h.1
    .exact h.2 Y
   .exact .inl ⟨by rw[decide_eq_false Y];rfl,.inr (.inr ⟨p[i],Q,.inr ⟨X,Y⟩⟩)⟩
 refine CZ (fun W=>Grow W3 W) (Mod.drew _ _) ?_;rw[BK];refine AE (fun an=>?_) fun an W4 y=>⟨y,.inr ⟨rfl,fun j hj=>by omega⟩⟩;rw[Av,wrap64 (by omega) (by omega),show((i:Int)-1)=((i-1:Nat):Int) by omega];have Z:i-1<p.length:=by omega
 obtain⟨_,r2,e2,_,b3,av,rfl⟩:=(h.grow B (by decide) fun _ _ h=>h).get Z;cases e2;refine AZ Z ?_;rw[AG,Addr.add_add];refine Ar (fun W hW=>hW.cell (av 0 _ rfl) fun h=>h) ?_;rw[AG];refine Ar (fun W hW=>hW.cell (U 0 _ rfl) fun h=>h) ?_;rw[Dl];intro W4 y;by_cases a6:p[i-1].key ≥ p[i].key
 .rw[decide_eq_true a6];refine⟨y,.inl ⟨rfl,.inl fun al=>?_⟩⟩;have:=al i (by omega) o _ _ (List.getElem?_eq_getElem Z) (List.getElem?_eq_getElem o);omega
 .rw[decide_eq_false a6];refine⟨y,.inr ⟨rfl,fun j h1 h2 a b ha hb=>?_⟩⟩;by_cases e:j=i
  .subst e;rw[List.getElem?_eq_getElem Z] at ha;rw[List.getElem?_eq_getElem o] at hb;cases ha;cases hb;omega
  .exact a1 j h1 (by omega) a b ha hb
def cm(o:Dop):Prop:=(∀a∈o.set,0<=a.val.f)/\∀c∈o.patch,0<=c.val.f
open Classical in
noncomputable def Hf(ks:List DKey)(o:Dop):Int:=if ¬FG o then 3 else if Bb ks o.set≠0 then Bb ks o.set else DA ks o.patch
open Classical in
theorem XT{E D:Nat->Prop}{sv:Value}{ks:List DKey}{r:List Value}{o:Dop}{w:World}(S:DG E w sv ks)(h:Ju D w r o)(T:ET w)(U:cm o) :
  AB prog 153 [sv,.agg r.toArray] (fun v w'=>v=.int .i64 (Hf ks o)/\Grow w w') w:=by
 apply WU;refine Da fun b V _ I g hc _=>?_;have y:r.length=5:=by obtain⟨_,_,_,rfl,_⟩:=h;rfl
 have h1:=h.mod (D':=D) g (fun _ _ _ h=>h) fun _ _ h=>h;refine AW (fun vs w2=>Grow V w2/\FG o) ?_ ?_
 .rintro vs w2 ⟨i,B⟩ _;obtain⟨rv,uv,pv,rfl,q1,X,Y⟩:=h1.mod (D':=D) i (fun _ _ _ h=>h) fun _ _ h=>h;rw[AG];refine AL (i.cell (hc 3 _ rfl) fun h=>h) ?_;refine AA (Qx (S.grow (g.trans i)) X (T.grow (g.trans i)) U.1) ?_;rintro _ Z ⟨rfl,x⟩;rw[Br];have e0:Hf ks o=if Bb ks o.set≠0 then Bb ks o.set else DA ks o.patch:=by rw[Hf,if_neg (not_not_intro B)]
  refine Ab (fun I=>?_) fun I=>⟨by rw[e0,if_pos I],(g.trans i).trans x⟩;rw[AG];refine AL ((i.trans x).cell (hc 4 _ rfl) fun h=>h) ?_;refine AA (T5 (S.grow ((g.trans i).trans x)) (Y.grow x (by decide) fun _ _ h=>h) (T.grow ((g.trans i).trans x)) U.2) ?_;rintro _ w4 ⟨rfl,J⟩;exact⟨by rw[e0,if_neg (not_not_intro I)],((g.trans i).trans x).trans J⟩
 have O:∀w',Grow V w'->¬FG o->Value.int .i64 3=.int .i64 (Hf ks o)/\Grow w w':=fun w' g' hn=>⟨by rw[Hf,if_pos hn],g.trans g'⟩;refine Ah y hc ?_;refine AA (Sj h1) ?_;rintro _ w2 ⟨rfl,i⟩;rw[Aq];refine Ab (fun hp=>?_) fun hp=>O _ i fun B=>hp ((HZ o).1 B).1;refine Ah y (fun j u hu=>i.cell (hc j u hu) fun h=>h) ?_;refine AA (Kb (h1.mod (D':=D) i (fun _ _ _ h=>h) fun _ _ h=>h)) ?_;rintro _ Z ⟨rfl,x⟩;rw[Ax];refine AE (fun hl=>O _ (i.trans x) fun B=>by have:=((HZ o).1 B).2.1;omega) fun hl=>?_;refine Ah y (fun j u hu=>(i.trans x).cell (hc j u hu) fun h=>h) ?_;refine AA (Kb (h1.mod (D':=D) (i.trans x) (fun _ _ _ h=>h) fun _ _ h=>h)) ?_;rintro _ w4 ⟨rfl,J⟩;rw[BK];refine AE (fun Q=>O _ ((i.trans x).trans J) fun B=>by have:=((HZ o).1 B).2.2;omega) fun Q=>⟨(i.trans x).trans J,(HZ o).2 ⟨hp,by omega,by omega⟩⟩
theorem LK(ks:List DKey):Bb ks []=0:=GL.2 HP
theorem P4(ks:List DKey):DA ks []=0:=IS.2 HQ
theorem Tm(ks:List DKey)(l:List Attr):Bb ks l=0\/Bb ks l=3\/Bb ks l=4:=by
 unfold Bb;split
 .exact .inr (.inl rfl)
 .split
  .exact .inr (.inr rfl)
  .exact .inl rfl
theorem U4(ks:List DKey)(l:List Chg):DA ks l=0\/DA ks l=3\/DA ks l=4:=by
 unfold DA;split
 .exact .inr (.inl rfl)
 .split
  .exact .inr (.inr rfl)
  .exact .inl rfl
theorem VM(ks:List DKey)(o:Dop):(Hf ks o=3↔¬FG o\/Bb ks o.set=3\/DA ks o.patch=3)/\(Hf ks o=0\/Hf ks o=3\/Hf ks o=4)/\(Hf ks o≠3->(Hf ks o=0↔Bb ks o.set=0/\DA ks o.patch=0)):=by
 have v1:=Tm ks o.set;have v2:=U4 ks o.patch;by_cases i:FG o
 .have x:Bb ks o.set=0\/DA ks o.patch=0:=by
   rcases i with⟨_,_,h,_⟩|⟨_,_,h,_⟩|⟨_,_,_,h,_⟩
   .left;rw[h];exact LK ks
   .left;rw[h];exact LK ks
   .right;rw[h];exact P4 ks
  unfold Hf;rw[if_neg (not_not_intro i)];by_cases j:Bb ks o.set=0
  .rw[if_neg (not_not_intro j)];exact⟨⟨fun h=>.inr (.inr h),fun h=>by rcases h with h|h|h;exact(h i).elim;omega;exact h⟩,v2,fun _=>⟨fun h=>⟨j,h⟩,fun h=>h.2⟩⟩
  .rw[if_pos j];refine⟨⟨fun h=>.inr (.inl h),fun h=>by rcases h with h|h|h;exact(h i).elim;exact h;omega⟩,v1,fun _=>⟨fun h=>⟨h,by omega⟩,fun h=>h.1⟩⟩
 .unfold Hf;rw[if_pos i];exact⟨⟨fun _=>.inl i,fun _=>rfl⟩,.inr (.inl rfl),fun h=>(h rfl).elim⟩
open Classical in
theorem Tw{E S D:Nat->Prop}{sv v:Value}{ks:List DKey}{x:List Dop}{w:World}(hS:DG E w sv ks)(h:Bg S D w v x)(hT:ET w)(hI:∀o∈x,cm o) :
  AB prog 80 [sv,v] (fun v' w'=>v'=.int .i64 (Dq ks x)/\Grow w w') w:=by
 apply aY;have B:=h;obtain⟨a,c,rfl,hm⟩:=h.shape;simp only[maxLen] at hm;have bad:∀w',Grow w w'->PE ks x->Value.int .i64 3=.int .i64 (Dq ks x)/\Grow w w':=fun w' g hb=>⟨by rw[Dq,if_pos hb],g⟩;rw[AS];refine Ae (fun vs w1=>∃k:Nat,k<=x.length/\vs=[.int .i64 (if HD ks (x.take k) then 4 else 0),.int .i64 k]/\Grow w w1/\∀o∈x.take k,Hf ks o≠3) (fun vs _=>x.length-ED vs 1)
  ⟨0,Nat.zero_le _,by rw[if_neg (by rintro⟨a,ha,_⟩;simp at ha)];rfl,Mod.refl _ _,by simp⟩ ?_
 rintro vs w1 ⟨k,hk,rfl,g,I⟩ _;simp only[Fx];refine HU (fun a7=>?_) fun a8=>?_
 .have i:k<x.length:=by omega
  have Q:=List.getElem_mem i;obtain⟨p,r,rfl,_,hr,hc,V⟩:=(Bg.grow h g).get i;refine AZ i (Ah hr (fun j u hu=>by rw[Addr.add_add];exact hc j u hu) ?_);refine BO hr rfl V.one fun b w2 hb hz O a1 _=>?_;refine Ah hr a1 ?_;refine AA (XT (hS.grow (g.trans O)) (V.mod (D':=D) O (fun _ _ _ h=>h) fun _ _ h=>h) (hT.grow (g.trans O)) (hI _ Q)) ?_;rintro _ w3 ⟨rfl,Z⟩;have T:=(g.trans O).trans Z;obtain⟨m1,m2,m3⟩:=VM ks x[k];rw[Am];refine AE (fun U=>?_) fun U=>?_
  .rw[U];exact bad _ T (.inl ⟨_,Q,m1.1 U⟩)
  have e1:x.take (k+1)=x.take k++[x[k]]:=by rw[List.take_add_one,List.getElem?_eq_getElem i];rfl
  have J:∀o∈x.take (k+1),Hf ks o≠3:=fun o B=>by
   rw[e1] at B;rcases List.mem_append.1 B with B|B
   .exact I o B
   .simp at B;subst B;exact U
  have X:HD ks (x.take (k+1))↔HD ks (x.take k)\/Hf ks x[k]≠0:=by
   unfold HD;rw[e1];constructor
   .rintro⟨a,ha,y⟩;rcases List.mem_append.1 ha with ha|ha
    .exact .inl ⟨a,ha,y⟩
    .simp at ha;subst ha;exact .inr fun h0=>by have:=(m3 U).1 h0;rcases y with y|y;exact y this.1;exact y this.2
   .rintro(⟨a,ha,y⟩|y)
    .exact⟨a,List.mem_append_left _ ha,y⟩
    .refine⟨x[k],List.mem_append_right _ (List.mem_singleton.2 rfl),?_⟩;by_cases hz:Bb ks x[k].set=0
     .exact .inr fun h0=>y ((m3 U).2 ⟨hz,h0⟩)
     .exact .inl hz
  rw[Br];refine Ab (fun h0=>?_) fun h0=>?_
  .rw[AR,AQ (by omega)];refine⟨⟨k+1,i,?_,T,J⟩,by rw[BH,BH];omega⟩;congr 2
   refine ND ?_;rw[X];exact⟨.inl,fun Y=>by rcases Y with Y|Y;exact Y;exact(Y h0).elim⟩
  .rw[AR,AQ (by omega)];refine⟨⟨k+1,i,?_,T,J⟩,by rw[BH,BH];omega⟩;rw[if_pos (X.2 (.inr h0))];congr 2
   omega
 .have:k=x.length:=by omega
  subst this;rw[List.take_length] at I ⊢;refine AA (JL (Bg.grow B g)) ?_;rintro _ w2 ⟨rfl,O⟩;rw[BK];refine AE (fun h1=>bad _ (g.trans O) (.inr (.inl h1))) fun h1=>?_;refine AA (MB (Bg.grow B (g.trans O))) ?_;rintro _ w3 ⟨rfl,Z⟩;rw[BK];refine AE (fun h2=>bad _ ((g.trans O).trans Z) (.inr (.inr h2))) fun h2=>?_;refine⟨?_,(g.trans O).trans Z⟩;have a6:¬PE ks x:=by
   rintro(⟨o,B,y⟩|y|y)
   .exact I o B ((VM ks o).1.2 y)
   .exact h1 y
   .exact h2 y
  unfold Dq;rw[if_neg a6]
theorem NT{S:Nat->Prop}{v:Value}{l:List Int}{w:World}(h:La S w v l):AB prog 154 [v] (fun v' w'=>v'=.int .i64 (BQ l:Int)/\w'=w) w:=by
 apply Vc;obtain⟨a,c,rfl,hm⟩:=h.shape;simp only[maxLen] at hm;rw[AS];refine Ae (fun vs w'=>∃i:Nat,i<=l.length/\vs=[.int .i64 (BQ (l.take i):Int),.int .i64 i]/\w'=w) (fun vs _=>l.length-ED vs 1) ⟨0,Nat.zero_le _,rfl,rfl⟩ ?_;rintro vs _ ⟨i,B,rfl,rfl⟩ _;rename World=>w
 simp only[Fx];refine HU (fun x=>?_) fun y=>?_
 .have j:i<l.length:=by omega
  obtain⟨p,r,rfl,_,hr,hc,rfl⟩:=h.get j;refine AZ j (AL (hc 0 _ rfl) ?_);rw[Am];have e:BQ (l.take (i+1))=BQ (l.take i)+if l[i]=10 then 1 else 0:=by
   have:l.take (i+1)=l.take i++[l[i]]:=by rw[List.take_add_one];simp[j]
   rw[this,EZ];by_cases o:l[i]=(10:Int)<;>simp[BQ,o]
  have hb:=Cz (l.take i);rw[List.length_take] at hb;refine AE (fun o=>?_) fun o=>?_
  .rw[AR,AR,AQ (by omega),AQ (by omega)];refine⟨⟨i+1,j,?_,rfl⟩,by rw[BH,BH];omega⟩;rw[e,if_pos o]
  .rw[AR,AQ (by omega)];refine⟨⟨i+1,j,?_,rfl⟩,by rw[BH,BH];omega⟩;rw[e,if_neg o];rfl
 .obtain rfl:i=l.length:=by omega
  rw[List.take_length];exact⟨rfl,trivial⟩
theorem Dh.cu{ks:List DKey}{o:Dop}(h:Dh ks o):CA o=(Co o:Int)-o.BA.length/\CM o=(Co o:Int)-(if o.kind=3 then o.n else 0)/\0<=CA o/\CA o<=Co o/\0<=CM o/\CM o<=Co o:=by
 unfold CA CM Co Lg;rcases h with⟨h1,i,j,x,y⟩|⟨h1,i,j,x,y⟩|⟨h1,i,j,x,y,B⟩
 .rw[h1,i];simp;omega
 .rw[h1,i];simp;omega
 .rw[h1];simp
def FP(n:Int):Int->List Dop->Prop
 |_,[]=>True
 |p,o::x=>if o.kind=2 then p≠n/\FP n p x else if o.kind=3 then p+o.n≠n/\FP n (p+o.n) x else FP n (p+o.n) x
def Fl(ks:List DKey)(o:Dop):Prop:=o.kind=2->o.set≠[]->(0<(Dj ks true o.set).length\/0<BQ o.BA)->(Dj ks true o.set).length=o.set.length/\BQ o.BA=o.BA.length
open Classical in
noncomputable def FC(ks:List DKey)(x:List Dop)(n most:Int):Int:=if Dq ks x≠0 then Dq ks x else if n<1\/most<n\/n<Cg CA x then 5 else if ¬FP n 0 x then 6 else if ¬(∀o∈x,Fl ks o) then 7 else if most<n-Cg CA x+Cg CM x then 8 else 0
open Classical in
theorem Vq{S D:Nat->Prop}{v:Value}{x:List Dop}{ks:List DKey}{n:Int}{w:World}(h:Bg S D w v x)(X:∀o∈x,Dh ks o/\Co o<=536870912)(hl:x.length<=1048576) :
  AB prog 82 [v,.int .i64 n] (fun v' w'=>v'=.bool (decide (FP n 0 x))/\Grow w w') w:=by
 apply Zh;obtain⟨a,c,rfl,hm⟩:=h.shape;rw[AS];refine Ae (fun vs w'=>∃(i p:Nat),i<=x.length/\vs=[.int .i64 (p:Int),.int .i64 i]/\p<=i*536870912/\Grow w w'/\(FP n 0 x↔FP n p (x.drop i))) (fun vs _=>x.length-ED vs 1) ⟨0,0,Nat.zero_le _,rfl,Nat.zero_le _,Mod.refl _ _,Iff.rfl⟩ ?_;rintro vs w1 ⟨i,p,hi,rfl,hp,g,y⟩ _;simp only[Fx];refine HU (fun Y=>?_) fun Z=>?_;rotate_left
 .obtain rfl:i=x.length:=by omega
  rw[List.drop_length] at y;exact⟨by rw[decide_eq_true (y.2 trivial)],g⟩
 have B:i<x.length:=by omega
 obtain⟨q,r,rfl,hS,hr,hc,Q⟩:=(Bg.grow h g).get B;refine AZ B (Ah hr (fun j u hu=>by rw[Addr.add_add];exact hc j u hu) ?_);refine BO hr rfl Q.one fun b w2 hb hz g2 I _=>?_;obtain⟨rv,sv,pv,rfl,h1,h2,h3⟩:=id Q;rw[List.drop_eq_getElem_cons B,FP] at y;obtain⟨U,T⟩:=X x[i] (List.getElem_mem B);have E:=g.trans g2;have V:x[i].kind≠2->0<=x[i].n/\x[i].n<=536870912:=fun hk=>by
  rcases U with⟨h1,_,_,h4,_⟩|⟨h1,_,_,_,h4⟩|⟨h1,_⟩
  .rw[Co,if_neg hk] at T;omega
  .rw[Co,if_neg hk] at T;omega
  .exact absurd h1 hk
 refine AW (fun _ w'=>x[i].kind≠2/\w'=w2/\(FP n 0 x↔FP n ((p:Int)+x[i].n) (x.drop (i+1)))) ?_ ?_
 .rintro _ _ ⟨hk,rfl,J⟩ _;obtain⟨n1,n2⟩:=V hk;rw[AG];refine AL (I 1 _ rfl) ?_;rw[AR,wrap64 (by omega) (by omega),AR,AQ (by omega)];refine⟨⟨i+1,p+x[i].n.toNat,B,?_,by omega,E,?_⟩,by rw[BH,BH];omega⟩
  .rw[show(p:Int)+x[i].n=((p+x[i].n.toNat:Nat):Int) by omega]
  .rw[J,show(p:Int)+x[i].n=((p+x[i].n.toNat:Nat):Int) by omega]
 .rw[AG];refine AL (I 0 _ rfl) ?_;rw[Am];refine AE (fun hk=>?_) fun hk=>?_
  .rw[if_pos hk] at y;rw[Am];refine AE (fun e=>⟨by rw[decide_eq_false fun h=>(y.1 h).1 e],E⟩) fun e=>?_;rw[AR,AQ (by omega)];refine⟨⟨i+1,p,B,rfl,?_,E,y.trans ⟨fun h=>h.2,fun h=>⟨e,h⟩⟩⟩,by rw[BH,BH];omega⟩;exact Nat.le_trans hp (Nat.mul_le_mul_right _ (Nat.le_succ i))
  .rw[if_neg hk] at y;obtain⟨n1,n2⟩:=V hk;rw[Am];refine AE (fun O=>?_) fun O=>?_
   .rw[if_pos O] at y;rw[AG];refine AL (I 1 _ rfl) ?_;rw[AR,wrap64 (by omega) (by omega),Am];refine AE (fun e=>⟨by rw[decide_eq_false fun h=>(y.1 h).1 e],E⟩) fun e=>?_;exact⟨hk,rfl,y.trans ⟨fun h=>h.2,fun h=>⟨e,h⟩⟩⟩
   .rw[if_neg O] at y;exact⟨hk,rfl,y⟩
open Classical in
theorem XG{E S D:Nat->Prop}{sv v:Value}{x:List Dop}{ks:List DKey}{w:World}(hS:DG E w sv ks)(h:Bg S D w v x)(hb:∀o∈x,o.set.length<=64) :
  AB prog 83 [sv,v] (fun v' w'=>v'=.bool (decide (∀o∈x,Fl ks o))/\Grow w w') w:=by
 apply ZP;obtain⟨a,c,rfl,hm⟩:=h.shape;simp only[maxLen] at hm;rw[AS];refine Ae (fun vs w'=>∃(i:Nat),i<=x.length/\vs=[.int .i64 i]/\Grow w w'/\∀o∈x.take i,Fl ks o) (fun vs _=>x.length-ED vs 0) ⟨0,Nat.zero_le _,rfl,Mod.refl _ _,fun o I=>by simp at I⟩ ?_;rintro vs w1 ⟨i,hi,rfl,g,T⟩ _;simp only[Fx];refine HU (fun b5=>?_) fun b6=>?_;rotate_left
 .obtain rfl:i=x.length:=by omega
  rw[List.take_length] at T;exact⟨by rw[decide_eq_true T],g⟩
 have y:i<x.length:=by omega
 refine AW (fun _ w'=>Fl ks x[i]/\Grow w1 w') ?_ ?_
 .rintro _ w' ⟨hp,g'⟩ _;rw[AR,AQ (by omega)];refine⟨⟨i+1,y,rfl,g.trans g',fun o I=>?_⟩,by rw[DW,DW];omega⟩;rw[List.take_add_one,List.getElem?_eq_getElem y] at I;rcases List.mem_append.1 I with I|I
  .exact T o I
  .simp at I;subst I;exact hp
 obtain⟨q,r,rfl,b7,hr,hc,Z⟩:=(Bg.grow h g).get y;refine AZ y (Ah hr (fun j u hu=>by rw[Addr.add_add];exact hc j u hu) ?_);refine BO hr rfl Z.one fun b w2 b8 hz Y B _=>?_;obtain⟨rv,ak,pv,rfl,h1,h2,h3⟩:=id Z;have b9:=hb x[i] (List.getElem_mem y);obtain⟨ra,rc,al,an⟩:=h1.shape;obtain⟨sa,sc,a1,_⟩:=h2.shape;simp only[maxLen] at an;refine AW (fun _ w'=>w'=w2/\x[i].kind=2/\x[i].set≠[]) ?_ ?_;rotate_left
 .rw[AG];refine AL (B 0 _ rfl) ?_;rw[Br];refine Ab (fun hk=>?_) fun hk=>⟨fun h=>absurd h hk,Y⟩;rw[AG];refine AL (B 3 _ rfl) ?_;rw[a1,AS,Am];refine AE (fun e=>⟨fun _ U=>absurd (List.eq_nil_of_length_eq_zero (by omega)) U,Y⟩) fun e=>⟨rfl,hk,fun h=>e (by rw[h];rfl)⟩
 rintro _ _ ⟨rfl,hk,U⟩ _;rename World=>w2
 have V:Grow w2 w2.drew:=Mod.drew _ _;refine Ag (fun _ _=>False) ?_;rw[AG];refine Aa ⟨V.cell (B 3 _ rfl) fun h=>h,fun j hj e=>e⟩ ?_;refine AA (KX (b:=true) (((hS.grow g).grow Y).grow V) ((h2.grow Y (by decide) fun _ _ h=>h).grow V (by decide) fun _ _ h=>h) (by omega)) ?_;rintro bv w3 ⟨av,g3⟩;obtain⟨ba,bc,rfl,_⟩:=av.shape;refine⟨g3.mono fun _ _ h=>h.elim,?_⟩;rw[AS,AG];refine Aa ⟨V.cell (B 2 _ rfl) fun h=>h,fun j hj e=>e⟩ ?_;refine AA (NT (((h1.grow Y (by decide) fun _ _ h=>h).grow V (by decide) fun _ _ h=>h).grow g3 (by decide) fun _ _ h=>h)) ?_;rintro _ _ ⟨rfl,rfl⟩;rename World=>w3
 refine⟨Mod.refl _ _,?_⟩;have X:=(Y.trans V).trans g3;have J:=g.trans X;have a6:∀(j:Nat) (v:Value),[Value.int .u8 x[i].kind,.int .i64 x[i].n,rv,ak,pv][j]?=some v->w3.cell? ((⟨b,0,none⟩:Addr).add j)=some v:=fun j v hv=>g3.cell (V.cell (B j v hv) fun h=>h) fun h=>h;have bd:(Dj ks true x[i].set).length<=x[i].set.length:=List.length_filter_le _ _;have bk:=Cz x[i].BA;have bad:(0<(Dj ks true x[i].set).length\/0<BQ x[i].BA)->((Dj ks true x[i].set).length<x[i].set.length\/BQ x[i].BA<x[i].BA.length)->¬∀o∈x,Fl ks o:=fun h1 h2 a7=>by
  have:=a7 x[i] (List.getElem_mem y) hk U h1;omega
 have O:(0<(Dj ks true x[i].set).length\/0<BQ x[i].BA)->
   AM 3 (.pointer (some ⟨b,0,none⟩)) (fun ax=>AK ax (fun ay w9=>Al ay fun b0=>Bc .i64 (.int .i64 ((Dj ks true x[i].set).length:Int)) b0 fun b1=>AD b1 (Value.bool false=.bool (decide (∀ o ∈ x,Fl ks o))/\Grow w w9)
    (AM 2 (.pointer (some ⟨b,0,none⟩)) fun t46=>AK t46 (fun b2 a8=>Al b2 fun b3=>Bc .i64 (.int .i64 (BQ x[i].BA:Int)) b3 fun b4=>AD b4 (Value.bool false=.bool (decide (∀ o ∈ x,Fl ks o))/\Grow w a8) (Fl ks x[i]/\Grow w1 a8)) w9)) w3):=fun Q=>by
  rw[AG];refine AL (a6 3 _ rfl) ?_;rw[a1,AS,Ax];refine AE (fun e=>⟨by rw[decide_eq_false (bad Q (.inl (by omega)))],J⟩) fun e1=>?_;rw[AG];refine AL (a6 2 _ rfl) ?_;rw[al,AS,Ax];refine AE (fun e=>⟨by rw[decide_eq_false (bad Q (.inr (by omega)))],J⟩) fun e2=>⟨fun _ _ _=>⟨by omega,by omega⟩,X⟩
 rw[BK];refine AE (fun e=>O (.inl (by omega))) fun e1=>?_;rw[BK];refine AE (fun e=>O (.inr (by omega))) fun e2=>⟨fun _ _ h=>by omega,X⟩
theorem YH{E S D:Nat->Prop}{sv v:Value}{x:List Dop}{ks:List DKey}{w:World}{n:Nat}{most:Int}(Y:DG E w sv ks)(h:Bg S D w v x)(hT:ET w)(hI:∀o∈x,cm o)(hl:x.length<=1048576)(hn:n<=1099511627776) :
  AB prog 42 [sv,v,.int .i64 (n:Int),.int .i64 most] (fun v' w'=>v'=.int .i64 (FC ks x n most)/\Grow w w') w:=by
 classical
 apply Y9;refine AA (Tw Y h hT hI) ?_;rintro _ w1 ⟨rfl,U⟩;unfold FC;rw [Br];refine Ab (fun hm=>?_) fun hm=>⟨by rw [if_pos hm],U⟩;rw [if_neg (by simpa using hm)];have y:=OK hm;obtain ⟨_,t1,t2⟩:=EO (f:=CA) (m:=536870912) (by decide) x (fun o i=>by
  obtain ⟨_,_,h1,Q,_⟩:=(y o i).1.cu;have:=(y o i).2;exact ⟨h1,by omega⟩) (by omega)
 obtain ⟨_,u1,u2⟩:=EO (f:=CM) (m:=536870912) (by decide) x (fun o i=>by
  obtain ⟨_,_,_,_,h1,Q⟩:=(y o i).1.cu;have:=(y o i).2;exact ⟨h1,by omega⟩) (by omega)
 have h1:=Bg.grow h U;refine AW (fun vs w'=>vs=[.bool (decide ((n:Int)<1\/most<n\/(n:Int)<Cg CA x))]/\Grow w1 w') ?_ ?_;rotate_left
 .rw[Ax];refine AE (fun e=>⟨by rw[decide_eq_true (.inl e)],Mod.refl _ _⟩) fun e1=>?_;rw[BK];refine AE (fun e=>⟨by rw[decide_eq_true (.inr (.inl e))],Mod.refl _ _⟩) fun e2=>?_;refine AA (JL h1) ?_;rintro _ w2 ⟨rfl,T⟩;rw[BK];refine⟨?_,T⟩;congr 2
  exact decide_eq_decide.2 ⟨fun h=>.inr (.inr h),fun h=>by rcases h with h|h|h;exact absurd h e1;exact absurd h e2;exact h⟩
 rintro _ w2 ⟨rfl,T⟩ _;rw[CN,List.headD_cons];have I:=U.trans T;have Q:=Bg.grow h1 T;refine AE (fun e=>⟨by rw[if_pos e],I⟩) fun e=>?_;rw[if_neg e];refine AA (Vq (n:=n) Q y hl) ?_;rintro _ w3 ⟨rfl,Z⟩;rw[Aq];have j:=I.trans Z;refine Ab (fun V=>?_) fun V=>⟨by rw[if_pos V],j⟩;rw[if_neg (fun h=>h V)];have B:=Bg.grow Q Z;refine AA (XG (Y.grow j) B fun o i=>?_) ?_
 .rcases(y o i).1 with⟨_,_,B,_⟩|⟨_,_,B,_⟩|⟨_,_,_,_,_,h6⟩
  .rw[B];simp
  .rw[B];simp
  .exact h6.2.1
 rintro _ w4 ⟨rfl,g4⟩;rw[Aq];have J:=j.trans g4;refine Ab (fun X=>?_) fun X=>⟨by rw[if_pos X],J⟩;rw[if_neg (fun h=>h X)];have h4:=Bg.grow B g4;refine AA (JL h4) ?_;rintro _ w5 ⟨rfl,g5⟩;rw[Av,wrap64 (by omega) (by omega)];refine AA (MB (Bg.grow h4 g5)) ?_;rintro _ w6 ⟨rfl,g6⟩;rw[AR,wrap64 (by omega) (by omega),BK];have O:=(J.trans g5).trans g6;refine AE (fun e=>⟨by rw[if_pos e],O⟩) fun e=>⟨by rw[if_neg e],O⟩
def dC(v:BE):List Int:=uv v.kind.toNat++(if v.kind=1\/v.kind=2 then uv (Gn v.n) else if v.kind=3 then uv v.f.toNat else if v.kind=4 then uv v.s.size++Bj v.s else[])
section
variable {b:List Int}{p q r s:Nat}{bad dZ da dY:Bool}
def hC(c:Bool×BE):List Int:=if c.1 then uv 0 else dC c.2
variable {m:Nat}
end
def JS(v:BE):Prop:=(-9223372036854775808<=v.n/\v.n<=9223372036854775807)/\(0<=v.f/\v.f<18446744073709551616)
def PD(o:Dop):Prop:=(∀a∈o.set,a.key<=9223372036854775807/\JS a.val)/\∀c∈o.patch,c.key<=9223372036854775807/\JS c.val
theorem PD.o{o:Dop}(h:PD o):cm o:=⟨fun a ha=>(h.1 a ha).2.2.1,fun c hc=>(h.2 c hc).2.2.1⟩
variable {ks:List DKey}
end Go.Proofs.YtmdhibffnkhcnaaGreatDoor
namespace Go.Proofs.YtmdhibffnkhcnaaGreatDoor
open Go Go.K Proofs.Tryz
def Nz(ks:List DKey):List Cel->List Dop->List Cel
 |d,[]=>d
 |d,o::x=>if o.kind=1 then(d.take o.n.toNat).map (D0 ks o.patch)++Nz ks (d.drop o.n.toNat) x else if o.kind=2 then o.BA.map (fun r=>(⟨r,o.set⟩:Cel))++Nz ks d x else Nz ks (d.drop o.n.toNat) x
def MR(ks:List DKey):List Cel->List Dop->List Cel
 |d,[]=>d
 |d,o::x=>if o.kind=1 then(d.take o.n.toNat).map (D0 ks o.patch)++MR ks (d.drop o.n.toNat) x else if o.kind=2 then MR ks d x else MR ks (d.drop o.n.toNat) x
def Hg:List Dop->Nat
 |[]=>0
 |o::x=>(if o.kind=2 then 0 else o.n.toNat)+Hg x
def Jv:List Dop->Nat
 |[]=>0
 |o::x=>(if o.kind=3 then 0 else if o.kind=2 then o.BA.length else o.n.toNat)+Jv x
theorem N6{ks:List DKey}{x:List Dop}(j:∀o∈x,Dh ks o/\Co o<=536870912)(hl:x.length<=1048576):Cg CA x=Hg x/\Cg CM x=Jv x:=by
 have y:∀o∈x,0<=CA o/\CA o<=536870912:=fun o i=>by
  obtain⟨h1,E⟩:=j o i;obtain⟨_,_,a,b,_⟩:=h1.cu;exact⟨a,by omega⟩
 have B:∀o∈x,0<=CM o/\CM o<=536870912:=fun o i=>by
  obtain⟨h1,E⟩:=j o i;obtain⟨_,_,_,_,a,b⟩:=h1.cu;exact⟨a,by omega⟩
 rw[(EO (m:=536870912) (by decide) x y (by omega)).1,(EO (m:=536870912) (by decide) x B (by omega)).1];clear hl y B;induction x with
 |nil=>exact⟨rfl,rfl⟩
 |cons o x I=>
  obtain⟨J,O⟩:=I fun o i=>j o (by simp[i]);obtain⟨h1,_⟩:=j o (by simp);rw[List.map_cons,List.sum_cons,J,List.map_cons,List.sum_cons,O,Hg,Jv,CA,CM,Lg];rcases h1 with⟨k,_,_,Q,_⟩|⟨k,_,_,_,Q⟩|⟨k,_⟩
  .simp only[k,show ¬(1:Int)=2 by decide,show ¬(1:Int)=3 by decide,if_false];omega
  .simp only[k,show ¬(3:Int)=2 by decide,if_false,if_true];omega
  .simp only[k,show ¬(2:Int)=3 by decide,if_false,if_true];omega
structure Xq (ks:List DKey) (x:List Dop) (n:Nat) (most:Int):Prop where
 may:Dq ks x=0
 FK:∀o∈x,Dh ks o/\Co o<=536870912
 pos:1<=n/\(n:Int)<=most
 cj:Hg x<=n
 fin:FP n 0 x
 pl:∀o∈x,Fl ks o
 most:(n:Int)-Hg x+Jv x<=most
theorem HX{ks:List DKey}{x:List Dop}{n:Nat}{most:Int}(hl:x.length<=1048576):FC ks x n most=0↔Xq ks x n most:=by
 classical
 unfold FC;constructor
 .intro h;split at h
  .rename_i hm;exact absurd h hm
  rename_i hm;have i:Dq ks x=0:=by simpa using hm
  have E:=OK i;obtain⟨j,o⟩:=N6 E hl;split at h
  .cases h
  rename_i y;split at h
  .cases h
  rename_i B;split at h
  .cases h
  rename_i I;split at h
  .cases h
  rename_i J;rw[j] at y J;rw[o] at J;exact⟨i,E,⟨by omega,by omega⟩,by omega,Classical.not_not.1 B,Classical.not_not.1 I,by omega⟩
 .rintro⟨h1,O,Q,S,y,B,I⟩;obtain⟨j,o⟩:=N6 O hl;rw[if_neg (by simp[h1]),if_neg (by rw[j];omega),if_neg (fun h=>h y),if_neg (fun h=>h B),if_neg (by rw[j,o];omega)]
theorem LP.of{ks:List DKey}(x:∀k∈ks,EG k){k:Int}{v:BE}(h1:BY ks k≠none)(j:DK v\/v=BE.zero)(o:JS v):LP ⟨k,v⟩:=by
 have hk:=Sv h1;obtain⟨y,B,e⟩:=List.mem_map.1 hk;have i:=x y B;have k1:=i.1;have k2:=i.2.1;rw[e] at k1 k2;refine⟨⟨?_,?_⟩,?_,o.1,o.2,?_⟩
 .show _<=k;omega
 .show k<=_;omega
 .show 0<=v.kind/\v.kind<256;rcases j with(⟨h,_⟩|⟨h,_⟩|⟨h,_⟩|⟨h,_⟩)|h
  .rw[h];decide
  .rw[h];decide
  .rw[h];decide
  .rw[h];decide
  .rw[h];decide
 .show v.s.size<_;rcases j with(⟨_,h,_⟩|⟨_,h⟩|⟨_,h,_⟩|⟨_,_,h,_⟩)|h
  .rw[h];simp[FY,ByteArray.size]
  .rw[h];simp[FY,ByteArray.size]
  .rw[h];simp[FY,ByteArray.size]
  .omega
  .rw[h];simp[BE.zero,FY,ByteArray.size]
theorem EN.of{ks:List DKey}(i:∀k∈ks,EG k){s:List Attr}(h:Js ks s)(j:∀a∈s,JS a.val):EN ks s:=by
 refine⟨h,fun a ha=>?_⟩;obtain⟨h1,k,o,_⟩:=h.2.2 a ha;exact LP.of i (by rw[o];simp) (.inl h1) (j a ha)
theorem H8.of{ks:List DKey}(j:∀k∈ks,EG k){p:List Chg}(h:Og ks p)(o:∀c∈p,JS c.val):H8 ks p:=by
 refine⟨h,fun c hc=>?_⟩;obtain⟨h1,x,y⟩:=h.2.2 c hc;refine LP.of j y ?_ (o c hc);cases i:c.gone with
 |true=>exact .inr (h1 i)
 |false=>exact .inl (x i).1
theorem dn{ks:List DKey}(x:∀k∈ks,EG k){o:Dop}(h:Dh ks o)(y:(∀a∈o.set,JS a.val)/\∀c∈o.patch,JS c.val):EN ks o.set/\H8 ks o.patch:=by
 rcases h with⟨_,_,i,_,B⟩|⟨_,_,i,j,_⟩|⟨_,_,_,j,_,E⟩
 .exact⟨by rw[i];exact EN.nil,H8.of x B y.2⟩
 .exact⟨by rw[i];exact EN.nil,by rw[j];exact H8.nil⟩
 .exact⟨EN.of x E y.1,by rw[j];exact H8.nil⟩
theorem N9{ks:List DKey}{o:Dop}(hk:o.kind=2)(J:Js ks o.set)(hp:Fl ks o):o.BA.map (cellOf ks o.set)=o.BA.map fun r=>(⟨r,o.set⟩:Cel):=by
 by_cases y:o.set=[]
 .rw[y];rfl
 refine List.map_congr_left fun r hr=>?_;unfold cellOf;have j:∀a∈o.set,∃k,BY ks a.key=some k:=fun a ha=>by
  obtain⟨_,k,h,_⟩:=J.2.2 a ha;exact⟨k,h⟩
 by_cases B:0<(Dj ks true o.set).length\/0<BQ o.BA
 .obtain⟨O,Q⟩:=hp hk y B;have I:Dj ks true o.set=o.set:=List.filter_eq_self.2 (List.length_filter_eq_length_iff.1 O);have S:∀r∈o.BA,r=10:=fun r hr=>by
   have:=(List.count_eq_length.1 Q) r hr;exact this.symm
  rw[S r hr,decide_eq_true rfl,I]
 .have h1:(Dj ks true o.set).length=0:=by omega
  have T:BQ o.BA=0:=by omega
  have E:r≠10:=fun e=>List.count_eq_zero.1 T (e▸hr);have I:Dj ks false o.set=o.set:=List.filter_eq_self.2 fun a ha=>by
   obtain⟨k,hk⟩:=j a ha;have x:=List.filter_eq_nil_iff.1 (List.eq_nil_of_length_eq_zero h1) a ha;unfold Lu at x ⊢;rw[hk] at x ⊢;have i:¬decide (k.block=true)=true:=x;show decide (k.block=false)=true;cases hb:k.block with
   |true=>rw[hb] at i;exact absurd rfl i
   |false=>rfl
  rw[decide_eq_false E,I]
theorem UR{ks:List DKey}{n:Nat}:∀{x:List Dop} {d:List Cel},(∀o∈x,Dh ks o)->Hg x<=d.length->d.length<=n->FP n ((n:Int)-d.length) x->(Ak d).getLast?=some 10->(Ak (MR ks d x)).getLast?=some 10:=by
 intro x;induction x with
 |nil=>intro d _ _ _ _ h;exact h
 |cons o x E=>
  intro d S ht T j hl;have I:=S o (by simp);have y:∀o∈x,Dh ks o:=fun o U=>S o (by simp[U]);rw[Hg] at ht;rw[FP] at j;rw[MR];have i:∀m:Nat,m<d.length->(Ak (d.drop m)).getLast?=some 10:=fun m hm=>by
   rw[Ak,List.map_drop,List.getLast?_drop,if_neg (by rw[List.length_map];omega)];exact hl
  rcases I with⟨k,_,_,V,_⟩|⟨k,_,_,_,V⟩|⟨k,_⟩
  .rw[if_pos k];rw[if_neg (by omega)] at ht;rw[if_neg (by omega),if_neg (by omega)] at j;by_cases hm:o.n.toNat<d.length
   .have:=E y (d:=d.drop o.n.toNat) (by rw[List.length_drop];omega) (by rw[List.length_drop];omega) (by rw[List.length_drop,show(n:Int)-((d.length-o.n.toNat:Nat):Int)=(n:Int)-d.length+o.n by omega];exact j) (i _ hm);rw[Ak,List.map_append,List.getLast?_append];rw[Ak] at this;rw[this];rfl
   .have J:x=[]:=by
     cases x with
     |nil=>rfl
     |cons o' x=>
      exfalso;have B:=y o' (by simp);rw[Hg] at ht;rw[FP] at j;rcases B with⟨O,_,_,Q,_⟩|⟨O,_,_,_,Q⟩|⟨O,_⟩
      .rw[if_neg (by omega)] at ht;omega
      .rw[if_neg (by omega)] at ht;omega
      .rw[if_pos O] at j;exact j.1 (by omega)
    subst J;rw[MR,List.drop_eq_nil_of_le (by omega),List.append_nil,List.take_of_length_le (by omega),Ak,List.map_map];exact hl
  .rw[if_neg (by omega),if_neg (by omega)];rw[if_neg (by omega)] at ht;rw[if_neg (by omega),if_pos k] at j;have hm:o.n.toNat<d.length:=by omega
   exact E y (by rw[List.length_drop];omega) (by rw[List.length_drop];omega) (by rw[List.length_drop,show(n:Int)-((d.length-o.n.toNat:Nat):Int)=(n:Int)-d.length+o.n by omega];exact j.2) (i _ hm)
  .rw[if_neg (by omega),if_pos k];rw[if_pos k] at ht j;exact E y (by omega) T j.2 hl
theorem Xd{ks:List DKey}:∀{x:List Dop} {d:List Cel},(MR ks d x).length<=d.length:=by
 intro x;induction x with
 |nil=>intro d;exact Nat.le_refl _
 |cons o x i=>
  intro d;rw[MR];split
  .rw[List.length_append,List.length_map,List.length_take];have:=i (d:=d.drop o.n.toNat);rw[List.length_drop] at this;omega
  .split
   .exact i
   .have:=i (d:=d.drop o.n.toNat);rw[List.length_drop] at this;omega
theorem XC{ks:List DKey}:∀{x:List Dop} {d:List Cel},(∀o∈x,Dh ks o)->Hg x<=d.length->(Nz ks d x).length+Hg x=d.length+Jv x:=by
 intro x;induction x with
 |nil=>intro d _ _;rfl
 |cons o x j=>
  intro d y ht;have i:∀o∈x,Dh ks o:=fun o B=>y o (by simp[B]);rw[Hg] at ht ⊢;rw[Nz,Jv];rcases y o (by simp) with⟨k,_,_,E,_⟩|⟨k,_,_,_,E⟩|⟨k,_⟩
  .simp only[k,show ¬(1:Int)=2 by decide,show ¬(1:Int)=3 by decide,if_true,if_false] at ht ⊢;rw[List.length_append,List.length_map,List.length_take];have:=j i (d:=d.drop o.n.toNat) (by rw[List.length_drop];omega);rw[List.length_drop] at this;omega
  .simp only[k,show ¬(3:Int)=2 by decide,show ¬(3:Int)=1 by decide,if_true,if_false] at ht ⊢;have:=j i (d:=d.drop o.n.toNat) (by rw[List.length_drop];omega);rw[List.length_drop] at this;omega
  .simp only[k,show ¬(2:Int)=3 by decide,show ¬(2:Int)=1 by decide,if_true,if_false] at ht ⊢;rw[List.length_append,List.length_map];have:=j i (d:=d) (by omega);omega
theorem Ln.Lj{ks:List DKey}(o:ks.length<=64){d:List Cel}{p:List Chg}(h:Ln ks d)(hp:H8 ks p){i j:Nat}(x:i<=j):Ln ks (Lj d i j (D0 ks p)):=by
 refine⟨fun c hc=>?_,by rw[Td d (D0 ks p) x fun _=>rfl];exact h.last⟩;unfold Go.Proofs.YtmdhibffnkhcnaaGreatDoor.Lj at hc;rcases List.mem_append.1 hc with hc|hc
 .rcases List.mem_append.1 hc with hc|hc
  .exact h.set c (List.mem_of_mem_take hc)
  .obtain⟨c0,y,rfl⟩:=List.mem_map.1 hc;exact(h.set c0 (List.mem_of_mem_take (List.mem_of_mem_drop y))).app o (hp.part _)
 .exact h.set c (List.mem_of_mem_drop hc)
theorem Mu{a b:List Cel}(hb:b≠[]):(Ak (a++b)).getLast?=(Ak b).getLast?:=by
 rw[Ak,List.map_append,List.getLast?_append];cases h:(b.map Cel.r).getLast? with
 |none=>rw[List.getLast?_eq_none_iff,List.map_eq_nil_iff] at h;exact absurd h hb
 |some x=>rfl
theorem Yj{b:List Cel}(h:(Ak b).getLast?=some 10):b≠[]:=fun e=>by rw[e] at h;cases h
def MF(B:Nat)(x:List Dop):Nat:=2*x.length*(22*B+50)
section
variable {w0:World}{F:Nat->Prop}{W:World}{a:TxA}{σ:SKs}{most:Int}{N:Nat}{d:List Cel}
theorem Gk{S D:Nat->Prop}{v:Value}{x:List Dop}{B:Nat}(h:Fw .f w0 F W a σ most d N)(hT:ET w0)(hG:Ln σ.ks d)(ba:σ.ks.length<=64)(hK:∀k∈σ.ks,EG k)(hx:Bg S D W v x)(av:∀y,S y\/D y->¬F y)(hI:∀o∈x,PD o)
 (hl:x.length<=1048576)(dw:d.length<=B)(hB:Xq σ.ks x d.length most->d.length+Jv x<=B)(dx:B<=1000000)(hN:N+MF B x<=1000000000) :
  AB prog 12 [.pointer (some ⟨a.b,0,none⟩),v] (fun v' w'=>v'=.int .i64 (FC σ.ks x d.length most)/\Jn .f w0 F W w' a σ most (if FC σ.ks x d.length most=0 then Nz σ.ks d x else d) (N+MF B x)/\(FC σ.ks x d.length most=0->Ln σ.ks (Nz σ.ks d x))) W:=by
 apply aV;unfold S12;refine AA (Ed h.box.1) ?_;rintro _ _ ⟨rfl,rfl⟩;rename World=>W
 rw[Aq];refine AT ?_;have gd:Grow W W.drew:=Mod.drew _ _;have hd:=h.grow gd;refine Ag (fun _ _=>False) ?_;refine AH ?_;rw[AG,AI];refine Aa ⟨hd.box.1.cells 0 _ rfl,fun j hj e=>e⟩ ?_;obtain⟨l1,Fr,bt,c6,hO⟩:=hd.GX;refine AA (TR hd.box.1 hO) ?_;rintro _ W1 ⟨rfl,g1⟩;have c7:(BU l1).length=d.length:=by rw[c6,Ak,List.length_map]
 rw[c7];refine⟨g1.mono fun _ _ h=>h.elim,?_⟩;refine AH ?_;rw[AG,AI];refine Aa ⟨hd.box.1.cells 1 _ rfl,fun j hj e=>e⟩ ?_;have h1:=hd.grow g1;have bc:=gd.trans g1;have c8:Bg (fun y=>S y/\y<W.heap.size) (fun y=>D y/\y<W.heap.size) W v x:=BJ.sub hx (fun y Y hs=>⟨hs,Y⟩) (by decide) fun r o ho=>ho.mod (Mod.refl (fun _=>False) _) (fun _ _ _ h=>h) fun y Y hd=>⟨hd,Y⟩;have bd:=Bg.grow c8 bc;refine AA (YH h1.IP.1 bd (hT.grow h1.g) (fun o ho=>(hI o ho).o) hl (by omega)) ?_;rintro _ W2 ⟨rfl,g2⟩;refine⟨g2.mono fun _ _ h=>h.elim,?_⟩;have b5:=bc.trans g2;have h2:=h1.grow g2;have b6:=Bg.grow bd g2;rw[Br];refine Ab (fun e0=>?_) fun e0=>⟨rfl,by rw[if_neg e0];exact Jn.up ⟨F,fun _ h=>.inl h,h2,b5.mono fun _ _ h=>h.elim⟩ (by omega),fun e=>absurd e e0⟩;rw[if_pos e0,e0];have hF:=(HX hl).1 e0;have hB:=hB hF;have b1:∀o∈x,Dh σ.ks o:=fun o ho=>(hF.FK o ho).1;have bk:∀o∈x,EN σ.ks o.set/\H8 σ.ks o.patch:=fun o ho=>dn hK (b1 o ho) ⟨fun a ha=>((hI o ho).1 a ha).2,fun c hc=>((hI o ho).2 c hc).2⟩;obtain⟨va,vc,rfl,hm⟩:=b6.shape;simp only[maxLen] at hm;rw[AS];have dy:=b5.size;have b3:∀{F':Nat->Prop} {W':World},(∀y,F' y->F y\/W2.heap.size<=y)->∀y,(S y/\y<W.heap.size)\/(D y/\y<W.heap.size)->¬F' y:=fun c9 y Y e=>by
  rcases c9 y e with e|e
  .exact av y (Y.imp And.left And.left) e
  .rcases Y with Y|Y
   .have:=Y.2;omega
   .have:=Y.2;omega
 let G:Nat:=22*B+50
 have ca:MF B x=2*x.length*G:=rfl;have b4:∀i,i<=x.length->i*G<=x.length*G:=fun i hi=>Nat.mul_le_mul_right _ hi;have V:∀i,(i+1)*G=i*G+G:=fun i=>by rw[Nat.add_mul,Nat.one_mul]
 have cc:2*x.length*G=x.length*G+x.length*G:=by rw[Nat.mul_assoc,Nat.two_mul]
 refine Ae (fun vs W'=>∃ (i:Nat) (E I:List Cel) (F':Nat->Prop),i<=x.length/\vs=[.int .i64 (E.length:Int),.int .i64 i]/\(∀ y,F' y->F y\/W2.heap.size<=y)/\Fw .f w0 F' W' a σ most (E++I) (N+i * G)/\Mod F W2 W'/\Ln σ.ks (E++I)/\
   E++MR σ.ks I (x.drop i)=MR σ.ks d x/\Hg (x.drop i)<=I.length/\I.length<=d.length/\FP d.length ((d.length:Int) - I.length) (x.drop i)/\E.length+I.length<=d.length) (fun vs _=>x.length - ED vs 1)
  ⟨0,[],d,F,Nat.zero_le _,rfl,fun _ h=>.inl h,h2.up (by omega),Mod.refl _ _,hG,rfl,hF.cj,Nat.le_refl _,by rw[Int.sub_self];exact hF.fin,by simp⟩ ?_
 rintro vs W3 ⟨i,E,I,F3,hi,rfl,f3,h3,M3,Q,O,Z,ax,T,U⟩ _;simp only[Fx];rw[Ax];have z3:=M3.size;have b2:Bg (fun y=>S y/\y<W.heap.size) (fun y=>D y/\y<W.heap.size) W3 (.slice va x.length vc) x:=Bg.mod b6 M3 (fun y _ Y e=>av y (.inl Y.1) e) (fun y _ Y e=>av y (.inr Y.1) e);refine AE (fun cd=>?_) fun ch=>?_
 .have J:i<x.length:=by omega
  have b7:=b4 (i+1) J;rw[V] at b7;obtain⟨q,r,rfl,hS,hr,hc,a6⟩:=b2.get J;refine AZ J (Ah hr (fun j u hu=>by rw[Addr.add_add];exact hc j u hu) ?_);refine BO hr rfl a6.one fun b W4 hb cn g4 X _=>?_;obtain⟨rv,sv,pv,rfl,o1,o2,o3⟩:=id a6;have h4:=h3.grow g4;have z4:=g4.size;rw[List.drop_eq_getElem_cons J] at O Z T;rw[Hg] at Z;rw[FP] at T;rw[MR] at O;have a8:=List.getElem_mem J;have ak:=b3 (W':=W4) f3;have al:=h3.hl;have an:Mod F W2 W4:=M3.next g4 fun _ _ e=>e.elim;have b8:∀{W5:World},Mod F3 W4 W5->∀(j:Nat) (u:Value),[Value.int .u8 x[i].kind,.int .i64 x[i].n,rv,sv,pv][j]?=some u->W5.cell? ((⟨b,0,none⟩:Addr).add j)=some u:=fun hm j u hu=>hm.cell (X j u hu) fun e=>by rw[BW] at e;have:=(al _ e).2.1;simp only at this;omega
  have liftM:∀{W5:World},Mod F3 W4 W5->Mod F W2 W5:=fun hm=>an.next hm fun y Y e=>by
   rcases f3 y e with e|e
   .exact e
   .omega
  rw[AG];refine AL (X 0 _ rfl) ?_;rw[Am];rcases b1 x[i] a8 with⟨k,e1,e2,n1,e4⟩|⟨k,e1,e2,e3,n1⟩|⟨k,e1,e2,e3,e4,e5⟩
  .refine AE (fun _=>?_) fun e=>absurd k e;rw[if_neg (by omega)] at Z;rw[if_neg (by omega),if_neg (by omega)] at T;rw[if_pos k] at O;have en:x[i].n=(x[i].n.toNat:Int):=by omega
   generalize hn:x[i].n.toNat=n at *;rw[AG];refine AL (X 1 _ rfl) ?_;rw[en,AR,wrap64 (by omega) (by omega),show((E.length:Int)+(n:Int))=((E.length+n:Nat):Int) by omega,AG];refine AL (X 4 _ rfl) ?_;have bl:=(bk x[i] a8).2;refine AA (VA (i:=E.length) (j:=E.length+n) h4 hT Q ba (by omega) (by rw[List.length_append];omega) (o3.grow g4 (by decide) fun _ _ h=>h) (fun y Y=>ak y (.inr Y)) bl (by rw[List.length_append];omega) (by rw[List.length_append];show N+i*G+22*_+50<=_;have:G=22*B+50:=rfl;omega)) ?_;rintro _ W5 ⟨rfl,F5,f5,h5,M5⟩;rw[AG];refine AL (b8 M5 1 _ rfl) ?_;rw[en,AR,wrap64 (by omega) (by omega),show((E.length:Int)+(n:Int))=((E.length+n:Nat):Int) by omega,AR,AQ (by omega)];have ay:Lj (E++I) E.length (E.length+n) (D0 σ.ks x[i].patch)=(E++(I.take n).map (D0 σ.ks x[i].patch))++I.drop n:=by
    unfold Lj;rw[List.take_left' rfl,List.take_append,List.take_of_length_le (by omega),show E.length+n-E.length=n by omega,List.drop_left' rfl,List.drop_append,List.drop_eq_nil_of_le (by omega),show E.length+n-E.length=n by omega,List.nil_append]
   have bp:=Q.Lj ba bl (i:=E.length) (j:=E.length+n) (by omega);rw[ay] at h5 bp;have ll:(E++(I.take n).map (D0 σ.ks x[i].patch)).length=E.length+n:=by rw[List.length_append,List.length_map,List.length_take];omega
   refine⟨⟨i+1,E++(I.take n).map (D0 σ.ks x[i].patch),I.drop n,F5,J,by rw[ll],fun y Y=>?_,h5.up ?_,liftM M5,bp,by rw[List.append_assoc];exact O,by rw[List.length_drop];omega,by rw[List.length_drop];omega,?_,by rw[ll,List.length_drop];omega⟩,by rw[BH,BH];omega⟩
   .rcases f5 y Y with e|e
    .exact f3 y e
    .exact .inr (by omega)
   .rw[V,List.length_append];show _<=N+(i*G+(22*B+50));omega
   .rw[List.length_drop,show(d.length:Int)-((I.length-n:Nat):Int)=(d.length:Int)-I.length+x[i].n by omega];exact T
  .refine AE (fun e=>by omega) fun _=>?_;rw[Am];refine AE (fun _=>?_) fun e=>absurd k e;rw[if_neg (by omega)] at Z;rw[if_neg (by omega),if_pos k] at T;rw[if_neg (by omega),if_neg (by omega)] at O;have en:x[i].n=(x[i].n.toNat:Int):=by omega
   generalize hn:x[i].n.toNat=n at *;have a7:n<I.length:=by omega
   rw[AG];refine AL (X 1 _ rfl) ?_;rw[en,AR,wrap64 (by omega) (by omega),show((E.length:Int)+(n:Int))=((E.length+n:Nat):Int) by omega];refine AA (U7 (i:=E.length) (j:=E.length+n) h4 (by omega) (by rw[List.length_append];omega) (by rw[List.length_append];omega) (by have:G=22*B+50:=rfl;omega)) ?_;rintro _ W5 ⟨rfl,F5,f5,h5,M5⟩;rw[AR,AQ (by omega)];have ay:(E++I).take E.length++(E++I).drop (E.length+n)=E++I.drop n:=by
    rw[List.take_left' rfl,List.drop_append,List.drop_eq_nil_of_le (by omega),show E.length+n-E.length=n by omega,List.nil_append]
   rw[ay] at h5;have b9:I≠[]:=fun e=>by rw[e] at a7;simp at a7
   have Ix:I.drop n≠[]:=fun e=>by have:=congrArg List.length e;rw[List.length_drop] at this;simp at this;omega
   have bs:=Q.last;rw[Mu b9] at bs;refine⟨⟨i+1,E,I.drop n,F5,J,rfl,fun y Y=>?_,h5.up ?_,liftM M5,⟨fun c hc=>Q.set c ?_,?_⟩,O,by rw[List.length_drop];omega,by rw[List.length_drop];omega,?_,by rw[List.length_drop];omega⟩,by rw[BH,BH];omega⟩
   .rcases f5 y Y with e|e
    .exact f3 y e
    .exact .inr (by omega)
   .rw[V];show _<=N+(i*G+(22*B+50));omega
   .rcases List.mem_append.1 hc with hc|hc
    .exact List.mem_append_left _ hc
    .exact List.mem_append_right _ (List.mem_of_mem_drop hc)
   .rw[Mu Ix,Ak,List.map_drop,List.getLast?_drop,if_neg (by rw[List.length_map];omega)];exact bs
   .rw[List.length_drop,show(d.length:Int)-((I.length-n:Nat):Int)=(d.length:Int)-I.length+x[i].n by omega];exact T.2
  .refine AE (fun e=>by omega) fun _=>?_;rw[Am];refine AE (fun e=>by omega) fun _=>?_;rw[if_pos k] at Z T;rw[if_neg (by omega),if_pos k] at O;rw[AR,AQ (by omega)];exact⟨⟨i+1,E,I,F3,J,rfl,f3,h4.up (by rw[V];omega),an,Q,O,by omega,ax,T.2,U⟩,by rw[BH,BH];omega⟩
 obtain rfl:i=x.length:=by omega
 rw[List.drop_length,MR] at O;rw[O] at h3 Q;clear O Z ax T U;have cv:∀y:List Dop,∀o∈y,o.kind=2->o.BA.length<=Jv y:=by
  intro y;induction y with
  |nil=>intro o ho;cases ho
  |cons o' y ih=>
   intro o ho hk;rw[Jv];rcases List.mem_cons.1 ho with rfl|ho
   .rw[if_neg (by omega),if_pos hk];omega
   .have:=ih o ho hk;omega
 rw [AS];refine Ae (fun vs W'=>∃ (i:Nat) (E I:List Cel) (F':Nat->Prop),i<=x.length/\vs=[.int .i64 (E.length:Int),.int .i64 i]/\(∀ y,F' y->F y\/W2.heap.size<=y)/\Fw .f w0 F' W' a σ most (E++MR σ.ks I (x.drop i)) (N+x.length * G+i * G)/\Mod F W2 W'/\Ln σ.ks (E++MR σ.ks I (x.drop i))/\
   E++Nz σ.ks I (x.drop i)=Nz σ.ks d x/\Hg (x.drop i)<=I.length/\I.length<=d.length/\FP d.length ((d.length:Int) - I.length) (x.drop i)/\(I≠[]->(Ak I).getLast?=some 10)/\E.length+I.length+Jv (x.drop i)<=d.length+Jv x+Hg (x.drop i)) (fun vs _=>x.length - ED vs 1)
  ⟨0,[],d,F3,Nat.zero_le _,rfl,f3,h3.up (by omega),M3,Q,rfl,hF.cj,Nat.le_refl _,by rw[Int.sub_self];exact hF.fin,fun _=>hG.last,by simp⟩ ?_
 clear b2 Q h3 f3 M3 z3;rintro vs W3 ⟨i,E,I,F3,hi,rfl,f3,h3,M3,Q,O,Z,ax,T,a1,U⟩ _;simp only[Fx];rw[Ax];have z3:=M3.size;have b2:Bg (fun y=>S y/\y<W.heap.size) (fun y=>D y/\y<W.heap.size) W3 (.slice va x.length vc) x:=Bg.mod b6 M3 (fun y _ Y e=>av y (.inl Y.1) e) (fun y _ Y e=>av y (.inr Y.1) e);refine AE (fun cd=>?_) fun ch=>?_;rotate_left
 .obtain rfl:i=x.length:=by omega
  rw[List.drop_length] at h3 O Q;rw[MR] at h3 Q;rw[Nz] at O;rw[O] at h3 Q;refine⟨trivial,Jn.next (fun _ h=>.inl h) (b5.mono fun _ _ h=>h.elim) (Jn.up ⟨F3,f3,h3,M3⟩ (by rw[ca,cc];omega)),fun _=>Q⟩
 have J:i<x.length:=by omega
 have b7:=b4 (i+1) J;rw[V] at b7;obtain⟨q,r,rfl,hS,hr,hc,a6⟩:=b2.get J;refine AZ J (Ah hr (fun j u hu=>by rw[Addr.add_add];exact hc j u hu) ?_);refine BO hr rfl a6.one fun b W4 hb cn g4 X _=>?_;obtain⟨rv,sv,pv,rfl,o1,o2,o3⟩:=id a6;have h4:=h3.grow g4;have z4:=g4.size;rw[List.drop_eq_getElem_cons J] at O Z T h4 Q U;rw[Hg] at Z U;rw[Jv] at U;rw[FP] at T;rw[MR] at h4 Q;rw[Nz] at O;have a8:=List.getElem_mem J;have ak:=b3 (W':=W4) f3;have al:=h3.hl;have an:Mod F W2 W4:=M3.next g4 fun _ _ e=>e.elim;rcases b1 x[i] a8 with⟨k,e1,e2,n1,e4⟩|⟨k,e1,e2,e3,n1⟩|⟨k,e1,e2,e3,e4,e5⟩
 .simp only[k,show ¬(1:Int)=2 by decide,show ¬(1:Int)=3 by decide,if_true,if_false] at Z U T h4 Q O;have en:x[i].n=(x[i].n.toNat:Int):=by omega
  generalize hn:x[i].n.toNat=n at *;have ll:(E++(I.take n).map (D0 σ.ks x[i].patch)).length=E.length+n:=by rw[List.length_append,List.length_map,List.length_take];omega
  refine AW (fun vs W'=>vs=[.int .i64 ((E.length+n:Nat):Int)]/\W'=W4) ?_ ?_
  .rintro _ _ ⟨rfl,rfl⟩ _;rw[AG];refine AL (X 0 _ rfl) ?_;rw[Am];refine AE (fun e=>by omega) fun _=>?_;rw[List.headD_cons,AR,AQ (by omega)];refine⟨⟨i+1,E++(I.take n).map (D0 σ.ks x[i].patch),I.drop n,F3,J,by rw[ll],f3,by rw[List.append_assoc];exact h4.up (by rw[V];omega),an,by rw[List.append_assoc];exact Q,by rw[List.append_assoc];exact O,by rw[List.length_drop];omega,by rw[List.length_drop];omega,?_,fun bx=>?_,by rw[ll,List.length_drop];omega⟩,by rw[BH,BH];omega⟩
   .rw[List.length_drop,show(d.length:Int)-((I.length-n:Nat):Int)=(d.length:Int)-I.length+x[i].n by omega];exact T
   .have a7:n<I.length:=Nat.lt_of_not_le fun e=>bx (List.drop_eq_nil_of_le e);rw[Ak,List.map_drop,List.getLast?_drop,if_neg (by rw[List.length_map];omega)];exact a1 fun e=>by rw[e] at a7;simp at a7
  .rw[AG];refine AL (X 0 _ rfl) ?_;rw[Am];refine AE (fun _=>?_) fun e=>absurd k e;rw[AG];refine AL (X 1 _ rfl) ?_;rw[en,AR,wrap64 (by omega) (by omega)];exact⟨by rw[show((E.length:Int)+(n:Int))=((E.length+n:Nat):Int) by omega],rfl⟩
 .simp only[k,show ¬(3:Int)=2 by decide,show ¬(3:Int)=1 by decide,if_true,if_false] at Z U T h4 Q O;have en:x[i].n=(x[i].n.toNat:Int):=by omega
  generalize hn:x[i].n.toNat=n at *;have a7:n<I.length:=by omega
  refine AW (fun vs W'=>vs=[.int .i64 (E.length:Int)]/\W'=W4) ?_ ?_
  .rintro _ _ ⟨rfl,rfl⟩ _;rw[AG];refine AL (X 0 _ rfl) ?_;rw[Am];refine AE (fun e=>by omega) fun _=>?_;rw[List.headD_cons,AR,AQ (by omega)];refine⟨⟨i+1,E,I.drop n,F3,J,rfl,f3,h4.up (by rw[V];omega),an,Q,O,by rw[List.length_drop];omega,by rw[List.length_drop];omega,?_,fun bx=>?_,by rw[List.length_drop];omega⟩,by rw[BH,BH];omega⟩
   .rw[List.length_drop,show(d.length:Int)-((I.length-n:Nat):Int)=(d.length:Int)-I.length+x[i].n by omega];exact T.2
   .rw[Ak,List.map_drop,List.getLast?_drop,if_neg (by rw[List.length_map];omega)];exact a1 fun e=>by rw[e] at a7;simp at a7
  .rw[AG];refine AL (X 0 _ rfl) ?_;rw[Am];exact AE (fun e=>by omega) fun _=>⟨rfl,rfl⟩
 .simp only[k,show ¬(2:Int)=3 by decide,show ¬(2:Int)=1 by decide,if_true,if_false] at Z U T h4 Q O;obtain⟨sG,_⟩:=bk x[i] a8;have cx:=N9 k sG.1 (hF.pl x[i] a8);have dv:=cv x x[i] a8 k;have b9:I≠[]:=fun e=>T.1 (by rw[e];simp);have b0:=UR (ks:=σ.ks) (n:=d.length) (x:=x.drop (i+1)) (d:=I) (fun o ho=>b1 o (List.mem_of_mem_drop ho)) (by omega) ax T.2 (a1 b9);have dz:=Xd (ks:=σ.ks) (x:=x.drop (i+1)) (d:=I);obtain⟨ra,rc,dk,du⟩:=o1.shape;simp only[maxLen] at du;refine AW (fun vs W'=>vs=[.int .i64 (E.length:Int)]/\W'=W4) ?_ ?_
  .rintro _ _ ⟨rfl,rfl⟩ _;rename World=>W4
   rw[AG];refine AL (X 0 _ rfl) ?_;rw[Am];refine AE (fun _=>?_) fun e=>absurd k e;rw[AG];refine AL (X 2 _ rfl) ?_;rw[AG];refine AL (X 3 _ rfl) ?_;rw[List.headD_cons];refine AA (Ny (at':=E.length) (S:=fun y=>D y/\y<W.heap.size) h4 hT (by rw[List.length_append];omega) (o1.grow g4 (by decide) fun _ _ h=>h) (o2.grow g4 (by decide) fun _ _ h=>h) (fun y Y=>ak y (.inr Y)) e1 (GL.2 (sG.part false).1) sG.2 sG.len (by rw[List.length_append];omega) (by have:G=22*B+50:=rfl;omega)) ?_;rintro _ W5 ⟨rfl,F5,f5,h5,M5⟩;rw[AG];refine AL (M5.cell (X 2 _ rfl) fun e=>by rw[BW] at e;have:=(al _ e).2.1;simp only at this;omega) ?_;rw[dk,AS,AR,wrap64 (by omega) (by omega),show((E.length:Int)+(x[i].BA.length:Int))=((E.length+x[i].BA.length:Nat):Int) by omega,AR,AQ (by omega)];have c4:(E++MR σ.ks I (x.drop (i+1))).take E.length++x[i].BA.map (cellOf σ.ks x[i].set)++(E++MR σ.ks I (x.drop (i+1))).drop E.length=(E++x[i].BA.map fun r=>(⟨r,x[i].set⟩:Cel))++MR σ.ks I (x.drop (i+1)):=by
    rw[List.take_left' rfl,List.drop_left' rfl,cx]
   rw[c4] at h5;have ll:(E++x[i].BA.map fun r=>(⟨r,x[i].set⟩:Cel)).length=E.length+x[i].BA.length:=by rw[List.length_append,List.length_map]
   refine⟨⟨i+1,E++x[i].BA.map fun r=>(⟨r,x[i].set⟩:Cel),I,F5,J,by rw[ll],fun y Y=>?_,h5.up ?_,?_,⟨fun c hc=>?_,?_⟩,by rw[List.append_assoc];exact O,by omega,ax,T.2,a1,by rw[ll];omega⟩,by rw[BH,BH];omega⟩
   .rcases f5 y Y with e|e
    .exact f3 y e
    .exact .inr (by omega)
   .rw[V];show _<=N+x.length*G+(i*G+(22*B+50));omega
   .refine an.next M5 fun y Y e=>?_;rcases f3 y e with e|e
    .exact e
    .omega
   .rcases List.mem_append.1 hc with hc|hc
    .rcases List.mem_append.1 hc with hc|hc
     .exact Q.set c (List.mem_append_left _ hc)
     .obtain⟨r,_,rfl⟩:=List.mem_map.1 hc;exact sG
    .exact Q.set c (List.mem_append_right _ hc)
   .rw[Mu (Yj b0)];exact b0
  .rw[AG];refine AL (X 0 _ rfl) ?_;rw[Am];exact AE (fun e=>by omega) fun _=>⟨rfl,rfl⟩
end
variable {v0 v1 v2 v3 v4 v5 v6 v7 v8 v9:Value}{K:Cont}{w:World}
theorem aJ(h: AB prog 41 [v0] (fun bx w1=>
 Bt bx fun t22=>
 AD t22
 (K (.tuple #[(.slice none 0 0),(.int .i64 1)]) w1)
 (AJ v0 fun t25=>
 AM 2 t25 fun c4=>
 AK c4 (fun c6 w2=>
 AB prog 47 [c6,v1,v2] (fun al w3=>
 AO 0 al fun c7=>
 AO 1 al fun an=>
 Dm .i64 an (.int .i64 0) fun c8=>
 AD c8
 (K (.tuple #[(.slice none 0 0),an]) w3)
 (AJ v0 fun c9=>
 AM 3 c9 fun t39=>
 AK t39 (fun ca w4=>
 AB prog 48 [ca,v1,v2] (fun av w5=>
 AO 0 av fun ax=>
 AO 1 av fun _t45=>
 Az [6,9,10] [[],[0],[0,1],[0,1,2],[],[],[4,5],[],[],[4,5,6,7,8],[0,1,2,3,4,5,6,7,8,9],[0,1,2,3,4,5,6,7,8,9,10],[0,1,2,3,4,5,6,7,8,9,10,11],[0,1,2,3,4,5,6,7,8,9,10,11],[0,1,2,3,4,5,6,7,8,9,10,11,12],[0,1,2,3,4,5,6,7,8,9,10,11,12,13,14]] w5.drew (fun M St=>
 AJ v0 fun cc=>
 AM 4 cc fun cd=>
 BD (St 3) cd fun t50=>
 AB prog 50 [v0,v1] (fun t53 w6=>
 Mod (M 6) w5.drew w6/\
 AB prog 50 [v0,v2] (fun ch w7=>
 Mod (M 9) w6 w7/\
 AB prog 49 [t50,t53,ch] (fun ay w8=>
 Mod (M 10) w7 w8/\
 AO 0 ay fun cn=>
 AO 1 ay fun _t59=>
 Al ax fun cv=>
 Ay [cn,(.slice none 0 0),(.int .i64 0)] (fun vs Q w9=>∀_:Env,
 Bc .i64 (nth vs 2) cv fun cx=>
 AD cx
 (Be 2 ax (nth vs 2) fun dk=>
 Ac 2 dk (fun du dv=>
 An 108 [(.int .i64 0),(.int .i64 0)] (fun S dw=>
 AY 2 S du (fun T=>
 Az [6] [[],[0],[0,1],[0,1,2],[],[4],[0,1,2,3,4,5],[0,1,2,3,4,5,6],[0,1,2,3,4,5,6,7],[0,1,2,3,4,5,6,7],[0,1,2,3,4,5,6,7,8],[0,1,2,3,4,5,6,7,8,9,10]] T.drew (fun dx O=>
 AJ v0 fun dy=>
 AM 5 dy fun dz=>
 BD (O 3) dz fun t70=>
 AM 1 S fun dT=>
 BD (O 5) dT fun e1=>
 AB prog 51 [t70,e1] (fun b0 b1=>
 Mod (dx 6) T.drew b1/\
 AO 0 b0 fun b2=>
 AO 1 b0 fun _t75=>
 AM 0 S fun t76=>
 AK t76 (fun t77 e2=>
 Ay [(nth vs 0),(nth vs 1),(.int .i64 0)] (fun i y j=>∀_:Env,
 Bc .i64 (nth i 2) t77 fun e3=>
 AD e3
 (Au (fun B e4=>∀_:Env,
 Au (fun b3 e5=>∀_:Env,
 Ac 2 (nth B 0) (fun e6 e7=>
 Bh 45 2 1 [(.int .i32 0),(.slice none 0 0)] [(0,e6)] (fun e8 e9=>
 runK prog (Builtin.append_ #[40,40] 40 [(nth i 1),e8].toArray) (fun b4 ea=>
 AX .i64 (nth i 2) (.int .i64 1) fun b5=>
 y [(nth b3 0),b4,b5] ea) e9) e7) e5) (fun U=>
 AM 0 (nth B 0) fun ec=>
 AK ec (fun ed o=>
 DI .i32 ed (.int .i32 10) fun ee=>
 AD ee
 (Az [4,6] [[],[0],[0,1],[],[3],[0,1,2],[0,1,2,5],[0,1,2,3,4,5,6]] o.drew (fun I b6=>
 Be 1 (nth i 0) (.int .i64 0) fun ef=>
 BD (b6 2) ef fun b7=>
 AM 1 (nth B 0) fun b8=>
 (runK prog (Instr.sliceAt 50 (nth i 0) (some (.int .i64 1)) none none) (fun eg V=>
 Mod (I 4) o.drew V/\
 BC b8 b7 (fun b9=>
 Mod (I 6) V b9/\
 U [eg] b9) V) o.drew)/\
 (BC b8 b7 (fun X=>
 Mod (I 6) o.drew X/\
 runK prog (Instr.sliceAt 50 (nth i 0) (some (.int .i64 1)) none none) (fun Y ba=>
 Mod (I 4) X ba/\
 U [Y] ba) X) o.drew)))
 (U [(nth i 0)] o)) e4)) (fun J=>
 Az [6,8,9] [[],[],[1],[0,1,2],[0,1,2,3],[],[5],[0,1,2,3,4,5,6],[],[0,1,2,3,4,5,6,7,8]] j.drew (fun x bc=>
 Al (nth i 1) fun eh=>
 Be 1 c7 eh fun ei=>
 BD (bc 4) ei fun bd=>
 (AB prog 52 [b2] (fun ej Z=>
 Mod (x 6) j.drew Z/\
 Af [(0,1),(1,1)] [(.int .i32 0),(.slice none 0 0)] [(0,bd),(1,ej)] fun ek=>
 An 45 [(.int .i32 0),(.slice none 0 0)] (fun bk a1=>
 Mod (x 8) Z a1/\
 AY 2 bk ek (fun bl=>
 Mod (x 9) a1 bl/\
 J [bk] bl) a1) Z) j.drew)/\
 (An 45 [(.int .i32 0),(.slice none 0 0)] (fun E a6=>
 Mod (x 8) j.drew a6/\
 AB prog 52 [b2] (fun a7 a8=>
 Mod (x 6) a6 a8/\
 Af [(0,1),(1,1)] [(.int .i32 0),(.slice none 0 0)] [(0,bd),(1,a7)] fun ak=>
 AY 2 E ak (fun bp=>
 Mod (x 9) a8 bp/\
 J [E] bp) a8) a6) j.drew))))
 (AX .i64 (nth vs 2) (.int .i64 1) fun bs=>
 Q [(nth i 0),(nth i 1),bs] j)) e2) b1) T.drew)) dw) dv) w9)
 (K (.tuple #[(nth vs 1),(.int .i64 0)]) w9)) w8) w7) w6) w5.drew)) w4) w3)) w2) w1)) w):AB prog 15 [v0,v1,v2] K w:=cO (aN (aO (aN (aO aE .nil)) (aN (aO (aN (aO aE .nil)) (aN (aO (.dc [6,9,10] [[],[0],[0,1],[0,1,2],[],[],[4,5],[],[],[4,5,6,7,8],(aR 10),(aR 11),(aR 12),(aR 12),(aR 13),(aR 15)] []) (aN (aO (aN (.node [12,14,62] [(12,12),(14,14),(16,19),(62,102)] (aN (aO aE (aO (aN (aO (.dc [6] [[],[0],[0,1],[0,1,2],[],[4],(aR 6),(aR 7),(aR 8),(aR 8),(aR 9),(aR 11)] []) (aN (.node [12,14,78] [(12,12),(14,14),(19,19),(78,101)] (aN (aO aE (aO (.cut [19] [(19,19),(80,87)] (.dt [6,8,9] [[],[],[1],[0,1,2],(aR 4),[],[5],(aR 7),[],(aR 9)] [[6]] (.op 0 (.op 1 (.op 2 (.op 3 (.op 4 (.op 5 (.br (.op 6 (.op 7 (.op 8 (.op 9 .nil)))) (.op 8 (.op 6 (.op 7 (.op 9 .nil)))))))))))) (.cut [12] [(12,12),(88,96)] (aN (aO (.dt [4,6] [[],[0],[0,1],[],[3],[0,1,2],[0,1,2,5],(aR 7)] [] (.op 0 (.op 1 (.op 2 (.op 3 (.op 5 (.br (.op 4 (.op 6 (.op 7 .nil))) (.op 6 (.op 4 (.op 7 .nil)))))))))) .nil)) .nil)) .nil))) .nil)))) .nil))) .nil)) aE)))))))) func15 h (by kernel_rfl)
end Go.Proofs.YtmdhibffnkhcnaaGreatDoor
namespace Go.Proofs.YtmdhibffnkhcnaaGreatDoor
open Go Go.K Proofs.Tryz
def IG(A B:Nat)(W:World)(ov:Value)(l:List Cel):Prop:=∃D:Nat->Prop,AF B 45 2 (OC D) W ov l/\∀x,D x->A<=x/\x<W.heap.size/\ov.ownBlock≠some x
theorem IG.nil{A B:Nat}{W:World}:IG A B W (.slice none 0 0) []:=⟨fun _=>False,AF.nil,fun _ h=>h.elim⟩
theorem IG.grow{A B:Nat}{W W':World}{ov:Value}{l:List Cel}(h:IG A B W ov l)(g:Grow W W'):IG A B W' ov l:=by
 obtain⟨D,h1,j⟩:=h;have:=g.size;exact⟨D,AF.mod h1 g (fun _ _ h=>h) fun r x _ i=>i.mod g (fun _ _ _ h=>h) fun _ _ h=>h,fun x i=>⟨(j x i).1,by have:=(j x i).2.1;omega,(j x i).2.2⟩⟩
theorem IG.rd{A B:Nat}{W:World}{ov:Value}{l:List Cel}(h:IG A B W ov l)(j:A<=B):bg (fun x=>A<=x/\x<W.heap.size) (fun x=>A<=x/\x<W.heap.size) W ov l:=by
 obtain⟨D,h1,o⟩:=h;exact BJ.sub (AF.sl h1) (fun x i h=>⟨by have:=h.1;omega,i⟩) (by decide) fun r x i=>i.mod (Mod.refl (fun _=>False) _) (fun _ _ _ h=>h) fun b hb h=>⟨(o b h).1,hb⟩
theorem Rh{A B:Nat}{W:World}{ov sv:Value}{l:List Cel}{c:Cel}{D':Nat->Prop}{K:Cont}(h:IG A B W ov l)(S:B<=W.heap.size)(O:Cu D' W sv c.set)(E:∀x,D' x->A<=x/\x<W.heap.size/\ov.ownBlock≠some x)(hl:l.length<=1099511627776)
 (T:∀i W',IG A B W' i (l++[c])->Mod (fun b=>ov.ownBlock=some b) W W'->(∀g,i.ownBlock=some g->ov.ownBlock=some g\/W.heap.size<=g)->K i W') :
  Bh 45 2 1 [(.int .i32 0),(.slice none 0 0)] [(0,.agg #[.int .i32 c.r,sv])] (fun s Q=>runK prog (Builtin.append_ #[40,40] 40 [ov,s].toArray) K Q) W:=by
 obtain⟨D,h1,U⟩:=h;obtain⟨sa,sc,I,_⟩:=O.shape;have hb:∀x,(D x\/D' x)->A<=x/\x<W.heap.size/\ov.ownBlock≠some x:=fun x j=>j.elim (U x) (E x);have J:AF B 45 2 (OC fun x=>D x\/D' x) W ov l:=AF.mod h1 (Mod.refl (fun _=>False) _) (fun _ _ h=>h) fun r x _ j=>j.mod (Mod.refl (fun _=>False) _) (fun _ _ _ h=>h) fun _ _ h=>.inl h;have V:sv.cells=#[sv]:=by rw[I];rfl
 refine DO UQ J S (cs:=[.int .i32 c.r,sv]) (x:=c) (DP (v:=.agg #[.int .i32 c.r,sv]) rfl (by decide) rfl rfl) rfl ⟨sv,rfl,O.sub (fun _ _ h=>.inr h) (by decide) fun _ _ h=>h⟩ (fun _ _ _ h=>h.one) (fun Q w2 r y hz hm X=>X.mod hm (fun b _ j e=>?_) fun _ _ h=>h) (by omega) (by simp only[maxLen];omega) fun i W' o m n=>?_
 .obtain⟨_,Y,t3⟩:=hb b j;rcases e with e|e
  .exact t3 e
  .omega
 .refine T i W' ⟨_,o,fun x j=>?_⟩ m n;obtain⟨Z,Y,t3⟩:=hb x j;have zm:=m.size;refine⟨Z,by omega,fun e=>?_⟩;rcases n x e with e|e
  .exact t3 e
  .omega
theorem DF.Zs{α:Type}{g:AvT α}{F C:Nat->Prop}{W:World}{b bt N:Nat}{l:List α}(h:DF g F C W b bt l N):l.length<=N:=by
 obtain⟨A,T,h1,i,j,rfl,o⟩:=h.Dg;have x:=EP (A:=A) rfl i j;have y:=Tr.QU T;omega
theorem Rv(c:Cel)(d:List Cel):Bz (c::d)=(if c.r=10 then[c.set] else[])++Bz d:=by by_cases h:c.r=10<;>simp[Bz,h]
section
variable {w0:World}{F:Nat->Prop}{W:World}{a:TxA}{σ:SKs}{most:Int}{N:Nat}{d:List Cel}
theorem Pz{i j:Nat}(h:Fw .f w0 F W a σ most d N)(bl:i<=j)(hj:j<=d.length)(hG:∀c∈d,EN σ.ks c.set)(hz:d.length<=10000000)(hN:N<=1000000000) :
  AB prog 15 [.pointer (some ⟨a.b,0,none⟩),.int .i64 (i:Int),.int .i64 (j:Int)] (fun v' w'=>∃cv,v'=.tuple #[cv,.int .i64 0]/\IG W.heap.size W.heap.size w' cv ((d.take j).drop i)/\Grow W w') W:=by
 have h0:=h;obtain⟨z,l2,t,f,eo,hM,ep,hu,hh,eW,fU⟩:=h;have er:z.length=d.length:=by rw[<-eo,List.length_map]
 have ch:(Ak d).length=d.length:=List.length_map _;have et:=congrArg List.length hu;rw[List.length_map,er] at et;apply aJ;refine AA (Ed hM.box.1) ?_;rintro _ _ ⟨rfl,rfl⟩;rename World=>W
 rw[Aq];refine AT ?_;refine AH ?_;refine Bl (hM.box.1.cells 2 _ rfl) ?_;obtain⟨l1,Fr,br,dw,bx,_,_⟩:=hM.Ql;have fV:(BU l1).length=d.length:=by rw[dw,ch]
 have fK:=bx.Zs;refine AA (Se (i:=i) (j:=j) bx (by omega) bl (by omega) (by omega) (by omega)) ?_;rintro _ W1 ⟨lv,rfl,oL,g1⟩;rw[dw] at oL;refine BM ?_;refine LQ ?_;have dx:=hM.grow g1;refine AH ?_;refine Bl (dx.box.1.cells 3 _ rfl) ?_;obtain⟨Fs,bs,eX,_,_⟩:=dx.PW;have fL:EB l2=d.length:=by rw[DV,et]
 have fW:=Spn.Eu ep;refine AA (Iy (i:=i) (j:=j) eX (by omega) bl (by omega) (by omega) (by omega)) ?_;rintro _ W2 ⟨rv,rfl,oR,g2⟩;refine BM ?_;have eu:=Spn.GM ep i j;have ew:(Spn.kd.over l2 i j).flatMap Spn.u=((z.map Prod.snd).take j).drop i:=by rw[Spn.De.over,hu]
 have a7:((Spn.kd.over l2 i j).flatMap Spn.u).length=j-i:=by rw[ew,List.length_drop,List.length_take,List.length_map,er];omega
 have dy:=Spn.Eu eu;rw [a7] at dy;generalize Spn.kd.over l2 i j=row at *;have eY:=dx.grow g2;have gd:Grow W2 W2.drew:=Mod.drew _ _;have ay:=eY.grow gd;refine Ag (fun _ _=>False) ?_;refine AH ?_;rw [AG,AI];refine Aa ⟨ay.box.1.cells 4 _ rfl,fun j hj e=>e⟩ ?_;have ey:=(g1.trans g2).trans gd;refine AA (GR ay.box.1 (bx.grow ey) (i:=i) (by omega) (by omega)) ?_;rintro _ W3 ⟨rfl,g3⟩;refine ⟨g3.mono fun _ _ h=>h.elim,?_⟩;have ez:=ay.grow g3;refine AA (GR ez.box.1 ((bx.grow ey).grow g3) (i:=j) (by omega) (by omega)) ?_;rintro _ W4 ⟨rfl,g4⟩;refine ⟨g4.mono fun _ _ h=>h.elim,?_⟩;have eA:=ez.grow g4;rw [dw];obtain ⟨Fp,Cp,bp,eZ,_,_⟩:=eA.UL;have fa:BQ ((Ak d).take i)<=BQ ((Ak d).take j):=List.Sublist.count_le _ (by
  rw [<-Nat.min_eq_left bl,<-List.take_take];exact List.take_sublist _ _)
 have fe:BQ ((Ak d).take j)<=BQ (Ak d):=List.Sublist.count_le _ (List.take_sublist _ _);have fX:=Cz (Ak d);refine AA (Qf eZ (by omega) fa (by rw [Di];exact fe) (by rw [Di];omega) (fun x E=>by
  obtain ⟨c,hc,rfl⟩:=List.mem_map.1 E;have:=(hG c (List.mem_filter.1 hc).1).len;omega)) ?_
 rintro _ S ⟨pv,Wp,rfl,gA,gB,oP⟩;have dz:=gA.trans gB;refine⟨dz.mono fun _ _ h=>h.elim,?_⟩;refine BM ?_;have eB:=(gd.trans g3).trans g4;have b0:=eB.trans dz;have ff:=(g1.trans g2).trans b0;have fg:=eA.grow dz;have z1:=g1.size;have z2:=g2.size;have fY:=eB.size;have zA:=gA.size;have zB:=gB.size;have eC:((Bz d).take (BQ ((Ak d).take j))).drop (BQ ((Ak d).take i))=Bz ((d.take j).drop i):=by
  rw[(Cx (d.take j) i).2,(Cx d j).1,show Ak (d.take j)=(Ak d).take j from List.map_take,List.take_take,Nat.min_eq_left bl]
 rw[eC] at oP;have hP:BJ (fun x=>W.heap.size<=x/\x<S.heap.size) 1 (CY fun x=>W.heap.size<=x/\x<S.heap.size) S pv (Bz ((d.take j).drop i)):=
  BJ.sub (AF.sl oP) (fun x E h=>⟨by have:=h.1;omega,E⟩) (by decide) fun r x E=>A6.rsub E fun y hy h=>⟨by have:=h.1;omega,hy⟩
 have fh:BJ (fun x=>W.heap.size<=x/\x<S.heap.size) 1 CI S lv (((Ak d).take j).drop i):=BJ.grow (BJ.sub (AF.sl oL) (fun x E h=>⟨h.1,by have:=g2.size;have:=b0.size;omega⟩) (by decide) fun _ _ h=>h) (g2.trans b0) (by decide) fun _ _ h=>h;have eD:BJ (fun x=>W.heap.size<=x/\x<S.heap.size) 2 DT S rv row:=BJ.grow (BJ.sub (AF.sl oR) (fun x E h=>⟨by have:=h.1;omega,by have:=b0.size;omega⟩) (by decide) fun _ _ h=>h) b0 (by decide) fun _ _ h=>h;clear oP oL oR
 let B:Nat->Nat:=fun m=>((row.take m).flatMap Spn.u).length
 have b1:∀(m:Nat) (hm:m<row.length) (q:Nat),q<row[m].n->∃c,d[i+(B m+q)]?=some c/\(c.r≠10->f row[m].id=c.set)/\i+(B m+q)<j/\0<Spn.rn row[m].id none (z.map Prod.snd):=by
  intro m hm q hq;have e1:(row.flatMap Spn.u)[B m+q]?=some row[m].id:=by
   have:row=row.take m++(row[m]::row.drop (m+1)):=by rw[<-List.drop_eq_getElem_cons hm,List.take_append_drop]
   conv=>lhs;rw[this]
   rw[List.flatMap_append,List.getElem?_append_right (by show B m<=_;omega),show B m+q-((row.take m).flatMap Spn.u).length=q by show B m+q-B m=q;omega,List.flatMap_cons,List.getElem?_append_left (by rw[Spn.u,List.length_replicate];exact hq),Spn.u,List.getElem?_replicate,if_pos hq]
  have dT:=(List.getElem?_eq_some_iff.1 e1).1;rw[ew,List.getElem?_drop,List.getElem?_take,if_pos (by rw[a7] at dT;omega),List.getElem?_map] at e1;rw[a7] at dT;cases c4:z[i+(B m+q)]? with
  |none=>rw[c4] at e1;cases e1
  |some p=>
   rw[c4,Option.map_some,Option.some.injEq] at e1;have hp:=List.mem_of_getElem? c4;refine⟨p.1,by rw[<-eo,List.getElem?_map,c4];rfl,fun fi=>?_,by omega,?_⟩
   .rw[<-e1];exact(eW p hp).2 fi
   .rw[<-e1];exact Spn.Hw (List.mem_map.2 ⟨p,hp,rfl⟩) (by simp)
 have b2:∀m (hm:m<row.length),B (m+1)=B m+row[m].n:=fun m hm=>by
  show((row.take (m+1)).flatMap Spn.u).length=_;rw[List.take_add_one,List.getElem?_eq_getElem hm,List.flatMap_append,List.length_append];simp[Spn.u,B]
 have e2:B row.length=j-i:=by show((row.take row.length).flatMap Spn.u).length=_;rw[List.take_length,a7]
 let GS:Nat->Value->Value->World->Prop:=fun e pv ov W'=>Grow S W'/\IG W.heap.size S.heap.size W' ov ((d.take (i+e)).drop i)/\BJ (fun x=>W.heap.size<=x/\x<S.heap.size) 1 (CY fun x=>W.heap.size<=x/\x<S.heap.size) W' pv (Bz ((d.take j).drop (i+e)))
 obtain⟨qa,qc,eE,_⟩:=eD.shape;have eF:Al rv=Al (.slice qa row.length qc):=by rw[eE]
 rw[eF,AS];refine Ae (fun vs W'=>∃(m:Nat) (pv ov:Value),m<=row.length/\vs=[pv,ov,.int .i64 m]/\GS (B m) pv ov W') (fun vs _=>row.length-ED vs 2) ⟨0,pv,_,Nat.zero_le _,rfl,Mod.refl _ _,by show IG _ _ _ _ ((d.take (i+0)).drop i);rw[Nat.add_zero,List.drop_take_self];exact IG.nil,hP⟩ ?_;rintro vs W6 ⟨m,fj,eG,hm,rfl,g6,o6,p6⟩ _;simp only[Fx];refine HU (fun dT=>?_) fun fZ=>?_;rotate_left
 .obtain rfl:m=row.length:=by omega
  rw[e2,show i+(j-i)=j by omega] at o6;obtain⟨D,q1,q2⟩:=o6;exact⟨eG,rfl,⟨D,q1.base fun g hg=>by have:=(AF.BL q1 g hg).1;omega,q2⟩,ff.trans g6⟩
 have Z:m<row.length:=by omega
 have fk:=eD.grow g6 (by decide) fun _ _ h=>h;subst eE;obtain⟨p,r,rfl,_,hr,hc,rfl⟩:=fk.get Z;refine AZ Z (Ah (vs:=row[m].cells) rfl (fun j u hu=>by rw[Addr.add_add];exact hc j u hu) ?_);refine Bx.new (vs:=row[m].cells) rfl rfl (Spn.one _) fun ga W7 fM g7 fo=>?_;have eH:Grow W7 W7.drew:=Mod.drew _ _;have e3:=g7.trans eH;have fp:=g6.trans e3;have eI:=fg.grow fp;have cx:=fo.grow eH;have e4:=Spn.Ha eu row[m] (List.getElem_mem Z);obtain⟨_,_,_,_,a8⟩:=b1 m Z 0 e4;refine Ag (fun _ _=>False) ?_;refine AH ?_;rw[AG,AI];refine Aa ⟨eI.box.1.cells 5 _ rfl,fun j hj e=>e⟩ ?_;rw[AG,AI];refine Aa ⟨cx.cells 1 _ rfl,fun j hj e=>e⟩ ?_;obtain⟨Ft,eJ,_,_⟩:=eI.PB;obtain⟨d1,d2⟩:=hh.idle (.inl a8);obtain⟨cn,dk⟩:=hh.ask a8;refine AA (Mn eJ (by omega) (by omega) (by omega)) ?_;rintro v8 W8 ⟨g8,eK⟩;rw[dk] at eK;obtain⟨gb,rfl,o8⟩:=eK;simp only at o8;refine⟨g8.mono fun _ _ h=>h.elim,?_⟩;refine BM ?_;have fN:(f row[m].id).length<=64:=by
  obtain⟨C,pl,fr,bm,hR⟩:=eJ;exact NG hR.core dk
 refine Bl ((cx.grow g8).cells 0 _ rfl) ?_;have c6:=e3.trans g8;have fq:=(AF.sl o8).HH (by decide);have gf:=e3.size;have z8:=g8.size;have gg:j<=10000000:=by omega
 have fO:B m+row[m].n<=j-i:=by
  have:=b2 m Z;have h2:B (m+1)<=B row.length:=by
   show((row.take (m+1)).flatMap Spn.u).length<=((row.take row.length).flatMap Spn.u).length;rw[List.take_length];conv=>rhs;rw[<-List.take_append_drop (m+1) row,List.flatMap_append,List.length_append]
   omega
  omega
 refine Ae (fun vs W'=>∃(q:Nat) (pv ov:Value),q<=row[m].n/\vs=[pv,ov,.int .i64 q]/\GS (B m+q) pv ov W'/\Mod (fun x=>x<W6.heap.size) W8 W'/\∀g,ov.ownBlock=some g->g<W6.heap.size\/W8.heap.size<=g) (fun vs _=>row[m].n-ED vs 2) ⟨0,fj,eG,Nat.zero_le _,rfl,⟨g6.trans c6,o6.grow c6,BJ.grow p6 c6 (by decide) fun r x E=>A6.BR E c6 fun _ _ _ h=>h⟩,Mod.refl _ _,fun g hg=>by obtain⟨D6,o,_⟩:=o6;exact .inl (AF.BL o g hg).2⟩ ?_;rintro vs W9 ⟨q,e5,c7,hq,rfl,⟨c8,o9,p9⟩,e6,b3⟩ _;simp only[Fx];refine HU (fun fP=>?_) fun fQ=>?_;rotate_left
 .obtain rfl:q=row[m].n:=by omega
  rw[AR,AQ (by omega)];refine⟨⟨m+1,e5,c7,Z,rfl,?_⟩,by rw[Wo,Wo];omega⟩;rw[b2 m Z];exact⟨c8,o9,p9⟩
 have eL:q<row[m].n:=by omega
 obtain⟨c,ax,fs,gh,_⟩:=b1 m Z q eL;generalize he:B m+q=e at *;have fu:=(List.getElem?_eq_some_iff.1 ax).1;have fR:c∈d:=List.mem_of_getElem? ax;have fv:(((Ak d).take j).drop i)[e]?=some c.r:=by rw[List.getElem?_drop,List.getElem?_take,if_pos (by omega),Ak,List.getElem?_map,ax];rfl
 have e7:(((Ak d).take j).drop i).length=j-i:=by rw[List.length_drop,List.length_take,ch];omega
 have e8:(d.take j).drop (i+e)=c::(d.take j).drop (i+(e+1)):=by
  rw[List.drop_eq_getElem_cons (by rw[List.length_take];omega),List.getElem_take];rw[List.getElem?_eq_getElem fu] at ax;rw[Option.some.inj ax];rfl
 have e9:(d.take (i+(e+1))).drop i=(d.take (i+e)).drop i++[c]:=by
  rw[show i+(e+1)=i+e+1 by omega,List.take_add_one,ax,List.drop_append,show i-(d.take (i+e)).length=0 by rw[List.length_take];omega];rfl
 rw[e8,Rv] at p9;have gi:=c8.size;have du:((d.take (i+e)).drop i).length=e:=by rw[List.length_drop,List.length_take];omega
 obtain⟨D9,ea,fw⟩:=o9;obtain⟨oa,oc,fx,_⟩:=AF.shape ea;have ak:=AF.BL ea;have fy:IG W.heap.size S.heap.size W9 c7 ((d.take (i+e)).drop i):=⟨D9,ea,fw⟩;have eM:=fh.grow c8 (by decide) fun _ _ h=>h;obtain⟨la,lc,eN,_⟩:=eM.shape;rw[e7] at eN;have ec:(q:Int)+1<=9223372036854775807:=by omega
 refine AW (fun vs W'=>∃b J D',vs=[.pointer (some ⟨b,0,none⟩)]/\Bx W' b [.int .i32 c.r,J]/\W9.heap.size<=b/\Grow W9 W'/\Cu D' W' J (f row[m].id)/\(∀x,D' x->W9.heap.size<=x/\x<W'.heap.size)) ?_ ?_;rotate_left
 .have b4:Grow W9 W9.drew:=Mod.drew _ _;have gj:=b4.size;have eO:=(fq.mod e6 (fun x _ E e'=>by have:=E.1.1;omega) (by decide) fun _ _ h=>h).grow b4 (by decide) fun _ _ h=>h;have fz:Al c7=Al (.slice oa e oc):=by rw[fx,du]
  refine Ag (fun n y=>n=9/\W9.heap.size<=y) ?_;rw[fz,AS];subst eN;obtain⟨pl,rl,rfl,eP,_,fA,eQ⟩:=eM.get (i:=e) (by rw[e7];omega);have ed:rl=[.int .i32 c.r]:=by
   have h':rl=_:=eQ;rw[h'];congr 2
   have:=List.getElem?_eq_getElem (l:=((Ak d).take j).drop i) (i:=e) (by rw[e7];omega);rw[fv] at this;exact(Option.some.inj this).symm
  subst ed;refine AZ (by omega) ?_;refine Aa ⟨b4.cell (by have:=fA 0 _ rfl;exact this) fun h=>h,fun n hn e'=>by have h1:=e'.2;have h2:=eP.2;rw[BW] at h1;omega⟩ ?_;constructor
  .refine AA (G0 eO (by omega)) ?_;rintro J a1 ⟨a6,Q⟩;refine⟨Q.mono fun _ _ h=>h.elim,?_⟩;obtain⟨ca,cc,b5,_⟩:=AF.shape a6;refine⟨#[.int .i32 c.r,J],by rw[b5];kernel_rfl,?_⟩;refine Bx.zero fun b X hb Y T=>⟨Y.mono fun _ _ h=>h.elim,?_⟩;have eR:=Q.size;have c9:=Y.size;refine T.over (us:=[.int .i32 c.r,J]) rfl rfl (fun u hu=>by simp only[List.mem_cons,List.not_mem_nil,or_false] at hu;rcases hu with rfl|rfl;rfl;rw[b5];rfl) fun b6 ee O=>⟨O.mono fun x _ e'=>⟨rfl,by omega⟩,?_⟩;have ef:AF W9.drew.heap.size 79 5 Cv X J (f row[m].id):=AF.mod (R':=Cv) a6 Y (fun _ _ h=>h) fun _ _ _ h=>h;have b7:=AF.BL a6;have b8:AF W9.drew.heap.size 79 5 Cv b6 J (f row[m].id):=AF.mod (R':=Cv) ef O (fun x E e'=>by have:=b7 x E;omega) fun _ _ _ h=>h;have eS:=O.size;exact⟨b,J,_,rfl,ee,by omega,((b4.trans Q).trans Y).next O fun x E e'=>by omega,AF.sl b8,fun x E=>by have:=b7 x E.2;omega⟩
  .refine Bx.zero fun b X hb Y T=>⟨Y.mono fun _ _ h=>h.elim,?_⟩;refine AA (G0 (eO.grow Y (by decide) fun _ _ h=>h) (by omega)) ?_;rintro J a1 ⟨a6,Q⟩;refine⟨Q.mono fun _ _ h=>h.elim,?_⟩;obtain⟨ca,cc,b5,_⟩:=AF.shape a6;refine⟨#[.int .i32 c.r,J],by rw[b5];kernel_rfl,?_⟩;have eR:=Q.size;have c9:=Y.size;have fS:=T.lt (Nat.succ_pos _);refine(T.grow Q).over (us:=[.int .i32 c.r,J]) rfl rfl (fun u hu=>by simp only[List.mem_cons,List.not_mem_nil,or_false] at hu;rcases hu with rfl|rfl;rfl;rw[b5];rfl) fun b6 ee O=>⟨O.mono fun x _ e'=>⟨rfl,by omega⟩,?_⟩;have b7:=AF.BL a6;have b8:AF X.heap.size 79 5 Cv b6 J (f row[m].id):=AF.mod (R':=Cv) a6 O (fun x E e'=>by have:=b7 x E;omega) fun _ _ _ h=>h;have eS:=O.size;exact⟨b,J,_,rfl,ee,by omega,((b4.trans Y).trans Q).next O fun x E e'=>by omega,AF.sl b8,fun x E=>by have:=b7 x E.2;omega⟩
 rintro _ a1 ⟨b,J,D',rfl,eg,hb,Q,eh,fB⟩ _;rw [List.headD_cons];have eR:=Q.size;have cd:BJ (fun x=>W.heap.size<=x/\x < S.heap.size) 1 (CY fun x=>W.heap.size<=x/\x < S.heap.size) a1 e5 ((if c.r=10 then [c.set] else [])++Bz ((d.take j).drop (i+(e+1)))):=BJ.grow p9 Q (by decide) fun r x E=>A6.BR E Q fun _ _ _ h=>h;refine AW (fun vs W'=>∃ U b9 ei,vs=[U]/\Bx W' b [.int .i32 c.r,b9]/\Mod (fun x=>x=b) a1 W'/\Cu ei W' b9 c.set/\(∀ x,ei x->W.heap.size<=x/\x < W'.heap.size/\(x < S.heap.size\/W9.heap.size<=x))/\
   BJ (fun x=>W.heap.size<=x/\x < S.heap.size) 1 (CY fun x=>W.heap.size<=x/\x < S.heap.size) W' U (Bz ((d.take j).drop (i+(e+1))))) ?_ ?_
 .rintro _ X ⟨U,b9,ei,rfl,T,I,ej,eT,ba⟩ _;rw[List.headD_cons];have c9:=I.size;have bc:Grow W9 X:=Q.next I fun x E e'=>by omega
  have ef:IG W.heap.size S.heap.size X c7 ((d.take (i+e)).drop i):=fy.grow bc;refine T.Er rfl ?_;refine Rh ef (by omega) ej (fun x E=>?_) (by rw[du];omega) fun fC b6 b8 O fD=>?_
  .have:=eT x E;refine⟨this.1,this.2.1,fun e'=>?_⟩;have:=ak x e';omega
  rw[AR,AQ ec];have eU:Grow S b6:=(c8.trans bc).next O fun x E e'=>by have:=ak x e';omega
  have gk:=e6.size;have eS:=O.size;refine⟨⟨q+1,U,fC,eL,rfl,?_,?_⟩,by rw[Wo,Wo];omega⟩
  .rw[show B m+(q+1)=e+1 by omega];refine⟨?_,by rw[e9];exact b8,BJ.mod ba O (fun x _ E e'=>by have:=ak x e';omega) (by decide) fun r x E=>A6.BR E O fun y _ hy e'=>by have:=ak y e';omega⟩;exact eU
  .refine⟨(e6.next bc fun _ _ h=>h.elim).next O fun x E e'=>?_,fun g hg=>?_⟩
   .rcases b3 x e' with h|h
    .exact h
    .omega
   .rcases fD g hg with h|h
    .exact b3 g h
    .exact .inr (by omega)
 .refine Bl (eg.cells 0 _ rfl) ?_;rw[Am];refine AE (fun ek=>?_) fun ek=>?_;rotate_left
  .have al:c.r≠10:=ek;rw[if_neg al,List.nil_append] at cd;rw[<-fs al];exact⟨e5,J,D',rfl,eg,Mod.refl _ _,eh,fun x E=>by have:=fB x E;exact⟨by omega,this.2,.inr this.1⟩,cd⟩
  have al:c.r=10:=ek;rw[if_pos al] at cd;have V:Grow a1 a1.drew:=Mod.drew _ _;have fT:=V.size;have an:=BJ.grow cd V (by decide) fun r x E=>A6.BR E V fun _ _ _ h=>h;obtain⟨pa,pc,fE,_⟩:=an.shape;subst fE;obtain⟨pp,rr,rfl,fG,_,fH,en,rfl,fI⟩:=an.get (i:=0) (by simp);have bd:Cu (fun x=>W.heap.size<=x/\x<S.heap.size) a1.drew en c.set:=fI;have dv:=eg.grow V;obtain⟨gl,gm,av,_⟩:=bd.shape;refine Ag (fun n y=>n=6/\y=b) ?_;refine AZ (by simp) ?_;refine Aa ⟨by have:=fH 0 _ rfl;exact this,fun n hn e'=>by have h1:=e'.2;have h2:=fG.2;rw[BW] at h1;omega⟩ ?_;rw[AG,AI];have fJ:([c.set]++Bz ((d.take j).drop (i+(e+1)))).length=(Bz ((d.take j).drop (i+(e+1)))).length+1:=by simp
  constructor
  .refine IQ (e:=43) (k:=1) (i:=Tryz.t43) (j:=1) (by kernel_rfl) (by kernel_rfl) (by kernel_rfl) an (by simp) fun U ba=>⟨Mod.refl _ _,?_⟩;have bk:BJ (fun x=>W.heap.size<=x/\x<S.heap.size) 1 (CY fun x=>W.heap.size<=x/\x<S.heap.size) a1.drew U (Bz ((d.take j).drop (i+(e+1)))):=ba;refine dv.st (q:=1) (show 1<2 by decide) (by rw[av];rfl) (by rw[av];rfl) fun X T I=>⟨I.mono fun x _ e'=>⟨rfl,e'⟩,?_⟩;have c9:=I.size;refine⟨U,en,_,rfl,T,(V.mono fun _ _ h=>h.elim).trans I,bd.mod I (fun x _ E e'=>by have:=E.2;omega) (by decide) (fun _ _ h=>h),fun x E=>⟨E.1,by have:=E.2;omega,.inl E.2⟩,BJ.mod bk I (fun x _ E e'=>by have:=E.2;omega) (by decide) fun r x E=>A6.BR E I fun y _ hy e'=>by have:=hy.2;omega⟩
  .refine dv.st (q:=1) (show 1<2 by decide) (by rw[av];rfl) (by rw[av];rfl) fun X T I=>⟨I.mono fun x _ e'=>⟨rfl,e'⟩,?_⟩;have c9:=I.size;have eV:=BJ.mod an I (fun x _ E e'=>by have:=E.2;omega) (by decide) fun r x E=>A6.BR E I fun y _ hy e'=>by have:=hy.2;omega
   refine IQ (e:=43) (k:=1) (i:=Tryz.t43) (j:=1) (by kernel_rfl) (by kernel_rfl) (by kernel_rfl) eV (by simp) fun U ba=>⟨Mod.refl _ _,?_⟩;have bk:BJ (fun x=>W.heap.size<=x/\x<S.heap.size) 1 (CY fun x=>W.heap.size<=x/\x<S.heap.size) X U (Bz ((d.take j).drop (i+(e+1)))):=ba;refine⟨U,en,_,rfl,T,(V.mono fun _ _ h=>h.elim).trans I,bd.mod I (fun x _ E e'=>by have:=E.2;omega) (by decide) (fun _ _ h=>h),fun x E=>⟨E.1,by have:=E.2;omega,.inl E.2⟩,bk⟩
end
def Hl:List Cel->List (List Attr)
 |[]=>[]
 |c::d=>if c.r=10\/c.set=[]\/c.set∈Hl d then Hl d else c.set::Hl d
theorem SU{s:List Attr}{d:List Cel}:s∈Hl d↔s≠[]/\∃c∈d,c.r≠10/\c.set=s:=by
 induction d with
 |nil=>simp[Hl]
 |cons c d x=>
  rw[Hl];split
  .rename_i h;rw[x];constructor
   .rintro⟨h1,o,i,j⟩;exact⟨h1,o,List.mem_cons_of_mem _ i,j⟩
   .rintro⟨h1,o,i,j,rfl⟩;rcases List.mem_cons.1 i with rfl|i
    .rcases h with h|h|h
     .exact absurd h j
     .exact absurd h h1
     .exact x.1 h
    .exact⟨h1,o,i,j,rfl⟩
  .rename_i h;rw[List.mem_cons,x];constructor
   .rintro(rfl|⟨h1,o,i,j⟩)
    .exact⟨fun e=>h (.inr (.inl e)),c,List.mem_cons_self,fun e=>h (.inl e),rfl⟩
    .exact⟨h1,o,List.mem_cons_of_mem _ i,j⟩
   .rintro⟨h1,o,i,j,rfl⟩;rcases List.mem_cons.1 i with rfl|i
    .exact .inl rfl
    .exact .inr ⟨h1,o,i,j,rfl⟩
theorem Nb(d:List Cel):(Hl d).Nodup:=by
 induction d with
 |nil=>exact List.nodup_nil
 |cons c d i=>
  rw[Hl];split
  .exact i
  .rename_i h;exact List.nodup_cons.2 ⟨fun e=>h (.inr (.inr e)),i⟩
section
variable {w0:World}{F:Nat->Prop}{W:World}{a:TxA}{σ:SKs}{most:Int}{N:Nat}{d:List Cel}
theorem OQ{i:Nat}(h:Fw .f w0 F W a σ most d N)(B:i<=d.length)(E:d.length<=10000000) :
  AB prog 16 [.pointer (some ⟨a.b,0,none⟩),.int .i64 (i:Int)] (fun v' w'=>v'=.tuple #[.int .i64 (BQ ((Ak d).take i):Int),.int .i64 0]/\Grow W w') W:=by
 apply ZW;refine AA (Ed h.box.1) ?_;rintro _ _ ⟨rfl,rfl⟩;rename World=>W
 rw[Aq];refine AT ?_;refine AH ?_;refine Bl (h.box.1.cells 2 _ rfl) ?_;obtain⟨l1,Fr,bt,j,o⟩:=h.GX;have x:(BU l1).length=d.length:=by rw[j,Ak,List.length_map]
 refine AA (JG (i:=i) o (by omega) (by omega)) ?_;rintro _ I ⟨rfl,y⟩;rw[j];exact B0 (vs:=[_,_]) (by rfl) (B0 (vs:=[_,_]) (by rfl) ⟨rfl,y⟩)
theorem Tz(h:Fw .f w0 F W a σ most d N):AB prog 17 [.pointer (some ⟨a.b,0,none⟩)] (fun v' w'=>v'=.int .i64 (d.length:Int)/\Grow W w') W:=by
 obtain⟨l1,Fr,bt,i,o⟩:=h.GX;have j:(BU l1).length=d.length:=by rw[i,Ak,List.length_map]
 have:=TR h.box.1 o;rwa [j] at this
theorem Ko(h:Fw .f w0 F W a σ most d N):AB prog 13 [.pointer (some ⟨a.b,0,none⟩)] (fun v' w'=>v'=.int .i64 (BQ (Ak d):Int)/\Grow W w') W:=by
 obtain⟨l1,Fr,bt,i,j⟩:=h.GX;have:=T7 h.box.1 j;rwa [i] at this
theorem JX{k:Nat}(h:Fw .f w0 F W a σ most d N)(x:d.length<=10000000):AB prog 14 [.pointer (some ⟨a.b,0,none⟩),.int .i64 (k:Int)] (fun v' w'=>v'=IF (Ak d) k/\Grow W w') W:=by
 obtain⟨l1,Fr,bt,i,j⟩:=h.GX;have o:(BU l1).length=d.length:=by rw[i,Ak,List.length_map]
 have:=OP (k:=k) h.box.1 j (by omega);rwa [i] at this
theorem RY(h:Fw .f w0 F W a σ most d N)(T:N<=1000000000):AB prog 27 [.pointer (some ⟨a.b,0,none⟩)] (fun v' w'=>v'=.int .i64 (((Hl d).length+1:Nat):Int)/\Grow W w') W:=by
 obtain⟨z,l2,t,f,j,B,O,hu,J,i,Q⟩:=h;apply aF;refine AA (Ed B.box.1) ?_;rintro _ _ ⟨rfl,rfl⟩;rename World=>W
 rw[Aq];refine AT ?_;refine AH ?_;refine Bl (B.box.1.cells 5 _ rfl) ?_;obtain⟨U,o,_,_⟩:=B.PB;refine AA (Wj o (by omega)) ?_;rintro _ V ⟨rfl,S⟩;refine⟨?_,S⟩;have hl:=J.len o.inv FQ.ne (Nb d) fun s=>by
  rw[SU];constructor
  .rintro⟨h1,c,hc,E,x⟩;rw[<-j] at hc;obtain⟨p,hp,rfl⟩:=List.mem_map.1 hc;exact⟨h1,p.2,Spn.Hw (List.mem_map.2 ⟨p,hp,rfl⟩) (by simp),by rw[(i p hp).2 E,x]⟩
  .rintro⟨h1,id,E,x⟩;obtain⟨p,hp,e⟩:=List.mem_map.1 (Spn.Tf E);have y:p.1.r≠10:=fun I=>by
    have:=(i p hp).1 I;rw[<-e,this,J.1] at x;exact h1 x.symm
   exact⟨h1,p.1,by rw[<-j];exact List.mem_map.2 ⟨p,hp,rfl⟩,y,by rw[<-(i p hp).2 y,e,x]⟩
 rw[hl];congr 1
 omega
end
def EJ(f:Int->List Attr)(l:List Spn):List Fk:=l.map fun s=>⟨(s.n:Int),f s.id⟩
theorem WO{t:Tab (List Attr)}{f:Int->List Attr}{G:List Attr->Prop}{h:Int->Nat}(x:t.Holds [] f h)(y:t.Inv G):∀{l:List Spn} {p:Option Int},Spn.Gu p l->(∀s∈l,0<h s.id)->Ec (EJ f l)/\pl (EJ f l)=(l.flatMap Spn.u).map f:=by
 intro l;induction l with
 |nil=>intro p _ _;exact⟨trivial,rfl⟩
 |cons s l B=>
  intro p hp j;obtain⟨h1,E⟩:=B hp.2.2 fun i I=>j i (by simp[I]);refine⟨⟨by show(0:Int)<(s.n:Int);have:=hp.1;omega,fun c hc=>?_,h1⟩,?_⟩
  .cases l with
   |nil=>cases hc
   |cons i l=>
    have o:(⟨(i.n:Int),f i.id⟩:Fk)=c:=by simpa[EJ] using hc
    subst o;intro e;have:=(x.inj y (j s (by simp)) (j i (by simp))).2 e;exact hp.2.2.2.1 (by rw[this])
  .show pl (⟨(s.n:Int),f s.id⟩::EJ f l)=_;rw[Fe,E,List.flatMap_cons,List.map_append];congr 1
   show List.replicate (s.n:Int).toNat (f s.id)=(List.replicate s.n s.id).map f;rw[List.map_replicate,Int.toNat_natCast]
def dE(A B c m:Nat)(i:Nat->Prop)(W:World)(out:Value)(l:List Fk):Prop:=
 Bx W c [out]/\(∀g,out.ownBlock=some g->g≠c/\g≠m/\g≠m+1/\¬i g)/\∃D:Nat->Prop,AF B 53 2 (LX D) W out l/\∀x,D x->A<=x/\x<W.heap.size/\out.ownBlock≠some x/\x≠c/\x≠m/\x≠m+1/\¬i x
section
variable {w0:World}{F:Nat->Prop}{W:World}{a:TxA}{σ:SKs}{most:Int}{N:Nat}{d:List Cel}
theorem SY(h:Fw .f w0 F W a σ most d N)(hz:d.length<=10000000)(hN:N<=1000000000) :
  AB prog 18 [.pointer (some ⟨a.b,0,none⟩)] (fun v' w'=>Qp (fun x=>W.heap.size<=x/\x<w'.heap.size) (fun x=>W.heap.size<=x/\x<w'.heap.size) w' v' (bG d)/\Grow W w') W:=by
 obtain⟨z,l2,t,f,b4,hM,ak,hu,hh,c4,dx⟩:=h;have c6:z.length=d.length:=by rw[<-b4,List.length_map]
 have b6:=congrArg List.length hu;rw[List.length_map,c6] at b6;have dv:EB l2=d.length:=by rw[DV,b6]
 have dy:=Spn.Eu ak;have Q:=Spn.Ha ak;have c7:=hM.hl;have a6:∀s∈l2,0<Spn.rn s.id none (z.map Prod.snd):=fun s hs=>by
  have:=Spn.JH hs (Q s hs);rw[hu] at this;exact Spn.Hw this (by simp)
 have al:EJ f l2=bG d:=by
  obtain⟨Ft,an,_,_⟩:=hM.PB;obtain⟨h1,O⟩:=WO hh an.inv ak a6;have a7:d.length<=Uw:=by show _<=4611686018427387904;omega
  refine uniq _ _ h1 (UB a7) ?_;rw[O,(aZ a7).1,hu,<-b4,List.map_map,List.map_map];refine List.map_congr_left fun p hp=>?_;obtain⟨o1,o2⟩:=c4 p hp;show f p.2=p.1.inl;unfold Cel.inl;split
  .rename_i e;rw[o1 e,hh.1]
  .rename_i e;exact o2 e
 rw[<-al];apply Y6;refine FI rfl fun b1 W1 dz g1 B1=>?_;refine Bx.zero fun c W2 hc g2 B2=>?_;refine AL ((B1.grow g2).cells 0 _ rfl) ?_;have c8:=g1.trans g2;have V:=hM.grow c8;refine AA (Ed V.box.1) ?_;rintro _ _ ⟨rfl,rfl⟩;rename World=>W2
 rw[Aq];refine AT ?_;refine AL ((B1.grow g2).cells 0 _ rfl) ?_;refine AH ?_;refine Bl (V.box.1.cells 3 _ rfl) ?_;obtain⟨Fs,bs,c9,_,_⟩:=V.PW;refine AA (aD c9 (by omega) (by omega) (by omega) Q) ?_;rintro _ o ⟨cb,Rd,rfl,g3,Ix,b7⟩;have z1:=g1.size;have z2:=g2.size;have z3:=g3.size;have ca:=B1.lt (Nat.succ_pos _);have dw:=B2.lt (Nat.succ_pos _);have B3:=B2.grow g3;have cc:=(B1.grow g2).grow g3;have cd:=V.grow g3;refine⟨True,_,_,_,_,_,rfl,by kernel_rfl,b7,fun k _=>rfl,?_⟩;refine⟨fun k X W'=>∃out,dE o.heap.size o.heap.size c o.heap.size X W' out (EJ f (l2.take k))/\Mod (fun x=>x=c) o W'/\k<=l2.length,fun _ _ _=>False,⟨_,⟨B3,(fun g E=>nomatch E),fun _=>False,AF.nil,fun _ h=>h.elim⟩,Mod.refl _ _,Nat.zero_le _⟩,?_,fun x X ch W W' h=>h.elim,?_,?_,?_,fun x X W h=>h.elim⟩
 .rintro k X ch W' dT ⟨out,⟨q1,S,D,U,Y⟩,m,hk⟩ hm B;have hn:∀x,x<o.heap.size->¬((¬True/\X x)\/x=o.heap.size\/x=o.heap.size+1):=fun x i=>by rintro(⟨h,_⟩|h|h);exact h trivial;all_goals omega
  have zm:=hm.size;refine⟨out,⟨q1.mod hm (hn c (by omega)),fun g E=>?_,D,AF.mod U hm (fun g E=>?_) fun r x _ i=>i.mod hm (fun b _ hb=>?_) fun _ _ h=>h,fun x i=>?_⟩,m.next hm fun x i=>?_,hk⟩
  .obtain⟨h1,O,I,Z⟩:=S g E;refine⟨h1,O,I,fun h=>?_⟩;rcases(B g h).1 with h|h
   .exact Z h
   .have:=(AF.BL U g E).2;omega
  .obtain⟨_,O,I,_⟩:=S g E;rintro(⟨h,_⟩|h|h)
   .exact h trivial
   .exact O h
   .exact I h
  .obtain⟨_,_,_,_,O,I,_⟩:=Y b hb;rintro(⟨h,_⟩|h|h)
   .exact h trivial
   .exact O h
   .exact I h
  .obtain⟨h1,O,I,Z,h5,h6,h7⟩:=Y x i;refine⟨h1,by omega,I,Z,h5,h6,fun h=>?_⟩;rcases(B x h).1 with h|h
   .exact h7 h
   .omega
  .intro e;exact absurd e (hn x i)
 .rintro k X W' ⟨out,q,m,hk⟩ b hb hr;exact m.same b hb fun e=>by
   subst e;have:=Ix b hr;omega
 .rintro k X W' hk ⟨out,⟨q1,S,D,U,Y⟩,m,e1⟩ b8 B;have av:(nth [Value.agg ((l2[k]?.getD ⟨0,0⟩).cells.toArray)] 0)=.agg l2[k].cells.toArray:=by
   show Value.agg _=_;rw[List.getElem?_eq_getElem hk];rfl
  rw[av];have cv:EJ f (l2.take (k+1))=EJ f (l2.take k)++[⟨(l2[k].n:Int),f l2[k].id⟩]:=by
   unfold EJ;rw[List.take_add_one,List.getElem?_eq_getElem hk,List.map_append];rfl
  refine Bx.new (vs:=l2[k].cells) rfl rfl (Spn.one _) fun b5 W5 e2 g5 B5=>?_;refine Kf g5 b8 B (fun _ _ h=>h.elim) fun W6 J=>?_;have z5:=g5.size;have e3:=J.size;have e4:=q1.lt (Nat.succ_pos _);have cx:=B5.lt (Nat.succ_pos _);have zm:=m.size;have C6:=(q1.grow g5).mod J (by omega);have b9:=B5.mod J (by omega);have gd:Grow W6 W6.drew:=Mod.drew _ _;have zd:=gd.size;have ba:Mod (fun x=>x=c\/x=o.heap.size+1) o W6:=((m.mono fun _ _ e=>.inl e).trans (g5.mono fun _ _ h=>h.elim)).trans (J.mono fun _ _ e=>.inr e);have bc:=((cd.mod ba fun x i=>⟨fun e=>by have:=c7 x e;omega,fun e=>by have:=hM.IP.2 x e;omega,by have:=hM.g.size;omega⟩).grow gd);have dk:Bx W6.drew b1 [.pointer (some ⟨a.b,0,none⟩)]:=(cc.mod ba (by omega)).grow gd;have o6:AF o.heap.size 53 2 (LX D) W6 out (EJ f (l2.take k)):=AF.mod (AF.mod U g5 (fun _ _ h=>h) fun r x _ i=>i.mod g5 (fun _ _ _ h=>h) fun _ _ h=>h) J (fun g E=>(S g E).2.2.1) fun r x _ i=>i.mod J (fun b _ hb=>(Y b hb).2.2.2.2.2.1) fun _ _ h=>h;refine Ag (fun _ _=>False) ?_;refine Aa ⟨dk.cells 0 _ rfl,fun j hj e=>e⟩ ?_;refine AH ?_;rw[AG,AI];refine Aa ⟨bc.box.1.cells 5 _ rfl,fun j hj e=>e⟩ ?_;rw[AG,AI];refine Aa ⟨(b9.grow gd).cells 1 _ rfl,fun j hj e=>e⟩ ?_;obtain⟨Ft,an,_,_⟩:=bc.PB;have a8:=a6 l2[k] (List.getElem_mem hk);obtain⟨d1,d2⟩:=hh.idle (.inl a8);obtain⟨cn,bd⟩:=hh.ask a8;refine AA (Mn an (by omega) (by omega) (by omega)) ?_;rintro v7 W7 ⟨g7,bk⟩;rw[bd] at bk;obtain⟨sv,rfl,a1⟩:=bk;simp only at a1;refine⟨g7.mono fun _ _ h=>h.elim,?_⟩;refine BM ?_;have z7:=g7.size;have ax:=AF.BL a1;have C7:=(C6.grow gd).grow g7;refine AL (C7.cells 0 _ rfl) ?_;refine Bl (((b9.grow gd).grow g7).cells 0 _ rfl) ?_;obtain⟨sa,sc,du,_⟩:=AF.shape a1;refine⟨#[.int .i64 (l2[k].n:Int),sv],by rw[du];kernel_rfl,?_⟩
  let D':Nat->Prop:=fun x=>D x\/sv.ownBlock=some x
  have ay:∀x,D' x->o.heap.size<=x/\x<W7.heap.size/\out.ownBlock≠some x/\x≠c/\x≠o.heap.size/\x≠o.heap.size+1/\¬X x:=fun x i=>by
   rcases i with i|i
   .obtain⟨h1,O,I,Z,h5,h6,h7⟩:=Y x i;exact⟨h1,by omega,I,Z,h5,h6,h7⟩
   .have:=ax x i;refine⟨by omega,this.2,fun e=>?_,by omega,by omega,by omega,fun e=>?_⟩
    .have:=(AF.BL U x e).2;omega
    .have:=(B x e).1;omega
  have b0:=gd.trans g7;have o7:AF o.heap.size 53 2 (LX D') W7 out (EJ f (l2.take k)):=AF.mod o6 b0 (fun _ _ h=>h) fun r x _ i=>i.mod b0 (fun _ _ _ h=>h) fun _ _ h=>.inl h;have bl:Cu D' W7 sv (f l2[k].id):=BJ.sub (AF.sl a1) (fun x _ h=>.inr h.2) (by decide) fun _ _ h=>h;have e5:(EJ f (l2.take k)).length<=l2.length:=by unfold EJ;rw[List.length_map,List.length_take];omega
  refine DO VW o7 (by omega) (cs:=[.int .i64 (l2[k].n:Int),sv]) (x:=(⟨(l2[k].n:Int),f l2[k].id⟩:Fk)) (DP (v:=.agg #[.int .i64 (l2[k].n:Int),sv]) rfl (by decide) rfl rfl) rfl ⟨sv,rfl,bl⟩ (fun _ _ _ h=>h.one) (fun w1 w2 r y hz hm hy=>hy.mod hm (fun b _ i e=>?_) fun _ _ h=>h) (by omega) (by simp only[maxLen];omega) fun bp W8 o8 m8 n8=>?_
  .obtain⟨_,O,I,_⟩:=ay b i;rcases e with e|e
   .exact I e
   .omega
  have z8:=m8.size;have C8:=C7.mod m8 fun e=>(S c e).1 rfl;obtain⟨b2,b3⟩:=o8.one;refine C8.st (q:=0) (show 0<1 by decide) b2 b3 fun W9 C9 m9=>?_;have z9:=m9.size;have bx:Mod (fun x=>x=c\/out.ownBlock=some x) W6 W9:=((b0.mono fun _ _ h=>h.elim).trans (m8.mono fun _ _ e=>.inr e)).trans (m9.mono fun _ _ e=>.inl e);refine⟨N3 bx (by omega) (fun b hb=>by have:=(B b hb).1;omega) (fun b _ e=>?_),bp,⟨C9,fun g E=>?_,D',?_,fun x i=>?_⟩,?_,by omega⟩
  .rcases e with rfl|e
   .exact⟨fun h=>by have:=(B b h).2;omega,by omega,by omega⟩
   .obtain⟨h1,O,I,Z⟩:=S b e;exact⟨Z,O,I⟩
  .rcases n8 g E with h|h
   .exact S g h
   .refine⟨by omega,by omega,by omega,fun hI=>by have:=(B g hI).1;omega⟩
  .rw [cv];exact AF.mod o8 m9 (fun g E e=>by
    rcases n8 g E with h|h
    .exact(S g h).1 e
    .omega) fun r x _ i=>i.mod m9 (fun b _ hb e=>(ay b hb).2.2.2.1 e) fun _ _ h=>h
  .obtain⟨h1,O,I,Z,h5,h6,h7⟩:=ay x i;refine⟨h1,by omega,fun e=>?_,Z,h5,h6,h7⟩;rcases n8 x e with h|h
   .exact I h
   .omega
  .refine((m.next g5 fun _ _ h=>h.elim).next J fun x i e=>by omega).next bx fun x i e=>?_;rcases e with e|e
   .exact e
   .have:=(AF.BL U x e).1;omega
 .rintro X W' ⟨out,⟨q1,S,D,U,Y⟩,m,hk⟩ _ b8 hd;refine AL (q1.cells 0 _ rfl) ?_;obtain⟨b2,b3⟩:=U.one;refine q1.st (q:=0) (show 0<1 by decide) b2 b3 fun W4 C4 m4=>?_;have z4:=m4.size;refine⟨?_,?_⟩
  .rw[m4.same _ (by omega) (by omega)];exact hd
  have T:Mod (fun b=>b=o.heap.size) W4 (W4.putObj o.heap.size (.deferred none)):=Mod.putObj _ _ _ rfl;have C5:=C4.mod T (by omega);have zp:=T.size;refine AL (C5.cells 0 _ rfl) ⟨?_,?_⟩
  .rw[List.take_length] at U;have o5:AF o.heap.size 53 2 (LX D) (W4.putObj o.heap.size (.deferred none)) out (EJ f l2):=AF.mod (AF.mod U m4 (fun g E=>(S g E).1) fun r x _ i=>i.mod m4 (fun b _ hb=>(Y b hb).2.2.2.1) fun _ _ h=>h) T (fun g E=>(S g E).2.1) fun r x _ i=>i.mod T (fun b _ hb=>(Y b hb).2.2.2.2.1) fun _ _ h=>h;exact BJ.sub (AF.sl o5) (fun x i h=>⟨by have:=h.1;omega,i⟩) (by decide) fun r x i=>i.mod (Mod.refl (fun _=>False) _) (fun _ _ _ h=>h) fun b hb h=>⟨by have:=(Y b h).1;omega,hb⟩
  .exact((((g1.trans g2).trans g3).next m fun x i e=>by omega).next m4 fun x i e=>by omega).next T fun x i e=>by omega
end
theorem LR{w w':World}{q:Int}{g:Nat}(hc:∀j v,[Value.int .i32 q][j]?=some v->w'.cell? ((⟨g,0,none⟩:Addr).add j)=some v):La (fun _=>True) w' (.slice (some ⟨g,0,none⟩) 1 1) [q]:=by
 refine⟨_,_,rfl,Nat.le_refl _,by simp[maxLen],fun i x o=>⟨_,[.int .i32 x],rfl,trivial,rfl,fun j u hu=>?_,rfl⟩⟩;have y:i=0:=by have:=(List.getElem?_eq_some_iff.1 o).1;simp at this;exact this
 subst y;simp at o;subst o;rw[Nat.zero_mul,Nat.zero_add];exact hc j u hu
def DZ:DKey:=⟨1,false,1,false,false,0⟩
def CU:List Attr:=[⟨1,⟨1,1,0,FY⟩⟩]
def FD:List Dop:=[⟨2,0,[97,98],CU,[]⟩]
def JD:List Dop:=[⟨1,1,[],[],[]⟩,⟨2,0,[10],[],[]⟩]
def Gq:List Dop:=[⟨3,4,[],[],[]⟩]
def GV:List Cel:=[⟨97,CU⟩,⟨98,CU⟩,⟨10,[]⟩]
def Hx:List Cel:=[⟨97,CU⟩,⟨10,[]⟩,⟨98,CU⟩,⟨10,[]⟩]
theorem NU:EG DZ:=by unfold EG;decide
theorem UF:Js [DZ] CU:=by
 have i:DK (⟨1,1,0,FY⟩:BE):=.inl ⟨rfl,rfl,.inr rfl⟩;refine⟨by simp[CU],by simp[CU],fun a ha=>?_⟩;simp only[CU,List.mem_singleton] at ha;subst ha;exact⟨i,DZ,rfl,i,rfl⟩
theorem Yb{r:Int}(h:r=97\/r=98\/r=10):Dt r:=.inl (by omega)
theorem LH:(∀o∈FD,Dh [DZ] o)/\(∀o∈JD,Dh [DZ] o)/\∀o∈Gq,Dh [DZ] o:=by
 refine⟨fun o i=>?_,fun o i=>?_,fun o i=>?_⟩
 .simp only[FD,List.mem_singleton] at i;subst i;refine .inr (.inr ⟨rfl,fun r hr=>Yb ?_,rfl,rfl,by simp,UF⟩);simp only[List.mem_cons,List.not_mem_nil,or_false] at hr;rcases hr with rfl|rfl
  .exact .inl rfl
  .exact .inr (.inl rfl)
 .simp only[JD,List.mem_cons,List.not_mem_nil,or_false] at i;rcases i with rfl|rfl
  .exact .inl ⟨rfl,rfl,rfl,by decide,HQ⟩
  .refine .inr (.inr ⟨rfl,fun r hr=>Yb ?_,rfl,rfl,by simp,HP⟩);simp only[List.mem_singleton] at hr;exact .inr (.inr hr)
 .simp only[Gq,List.mem_singleton] at i;subst i;exact .inr (.inl ⟨rfl,rfl,rfl,rfl,by decide⟩)
theorem OT:total FD=2/\total JD=2/\total Gq=4:=⟨rfl,rfl,rfl⟩
theorem YP{x:List Dop}{n:Nat}(h:total x=n)(j:n<=4){o:Dop}(i:o∈x):Co o<=536870912:=by
 have:=L3 i;omega
theorem Zg:Xq [DZ] FD 1 100:=by
 have hm:Dq [DZ] FD=0:=Kn LH.1 (by rw[OT.1];omega);refine⟨hm,fun o i=>⟨LH.1 o i,YP OT.1 (by omega) i⟩,by omega,by decide,?_,fun o i=>?_,by decide⟩
 .simp[FP,FD]
 .simp only[FD,List.mem_singleton] at i;subst i;intro _ _ h;exact absurd h (by decide +kernel)
theorem Y8:Xq [DZ] JD 3 100:=by
 have hm:Dq [DZ] JD=0:=Kn LH.2.1 (by rw[OT.2.1];omega);refine⟨hm,fun o i=>⟨LH.2.1 o i,YP OT.2.1 (by omega) i⟩,by omega,by decide,?_,fun o i=>?_,by decide⟩
 .simp[FP,JD]
 .simp only[JD,List.mem_cons,List.not_mem_nil,or_false] at i;rcases i with rfl|rfl
  .intro h;exact absurd h (by decide)
  .intro _ h;exact absurd rfl h
theorem bB:FC [DZ] Gq 4 100=6:=by
 classical
 have hm:Dq [DZ] Gq=0:=Kn LH.2.2 (by rw[OT.2.2];omega);have ht:Cg CA Gq=4:=by decide +kernel
 have i:¬FP 4 0 Gq:=by simp[FP,Gq]
 unfold FC;rw[if_neg (by simp[hm]),if_neg (by rw[ht];omega),if_pos i]
theorem cV:Nz [DZ] [⟨10,[]⟩] FD=GV/\Nz [DZ] GV JD=Hx:=⟨rfl,rfl⟩
theorem Q5:bG GV=[⟨2,CU⟩,⟨1,[]⟩]/\Hl GV=[CU]/\BQ (Ak Hx)=2/\IF (Ak Hx) 1=.tuple #[.int .i64 2,.int .i64 0]:=by
 refine⟨by decide +kernel,by decide +kernel,by decide +kernel,by kernel_rfl⟩
theorem TF:(∀o∈FD,PD o)/\(∀o∈JD,PD o)/\∀o∈Gq,PD o:=by
 refine⟨fun o i=>?_,fun o i=>?_,fun o i=>?_⟩
 .simp only[FD,List.mem_singleton] at i;subst i;refine⟨fun a ha=>?_,fun c hc=>(nomatch hc)⟩;simp only[CU,List.mem_singleton] at ha;subst ha;exact⟨by decide,⟨by decide,by decide⟩,by decide,by decide⟩
 .simp only[JD,List.mem_cons,List.not_mem_nil,or_false] at i;rcases i with rfl|rfl
  .exact⟨fun a ha=>(nomatch ha),fun c hc=>(nomatch hc)⟩
  .exact⟨fun a ha=>(nomatch ha),fun c hc=>(nomatch hc)⟩
 .simp only[Gq,List.mem_singleton] at i;subst i;exact⟨fun a ha=>(nomatch ha),fun c hc=>(nomatch hc)⟩
theorem Zt:Ln [DZ] [⟨10,[]⟩]:=⟨fun c hc=>by simp only[List.mem_singleton] at hc;subst hc;exact EN.nil,rfl⟩
theorem Rj{k:DKey}{w w0:World}{K:Cont}(hk:EG k)(y:Grow w0 w)(B:∀w' sv C,Grow w w'->DG C w' sv [k]->(∀x,x<w'.heap.size->C x->w0.heap.size<=x)->K (.tuple #[sv,.int .i64 0]) w') :
  AB prog 8 [.slice (some ⟨w.heap.size,0,none⟩) 1 1] K (w.alloc (.cells k.cells.toArray 65)):=by
 have i:=WS (w:=w) [k] (by simp);have o:Grow w (w.alloc (.cells k.cells.toArray 65)):=Mod.alloc _ _ _;have e:(([k].map DKey.cells).flatten:List Value)=k.cells:=by simp
 rw[e] at i;have Q:=o.size;have z0:=y.size;refine AA (Kj i) ?_;rintro _ w2 ⟨E,hr⟩;have I:Ew [k]:=K8.2 ⟨by simp,fun x j=>by simp only[List.mem_singleton] at j;subst j;exact hk,by unfold Lm;simp⟩;rcases hr with⟨_,sv,ks,rfl,hp,S,J⟩|⟨O,_⟩
 .have:ks=[k]:=List.perm_singleton.1 hp;subst this;exact B _ _ _ (o.trans E) J fun x _ j=>by omega
 .exact absurd I O
theorem M0{D:Nat->Prop}{w:World}{l:List Dop}(rows:List (List Value))(hl:rows.length=l.length)(j:l.length<=10)(h:∀(i:Nat) r o,rows[i]?=some r->l[i]?=some o->Ju D w r o) :
  Bg (fun b=>b=w.heap.size) D (w.alloc (.cells rows.flatten.toArray 83)) (.slice (some ⟨w.heap.size,0,none⟩) l.length l.length) l:=by
 have g:Grow w (w.alloc (.cells rows.flatten.toArray 83)):=Mod.alloc _ _ _;refine BJ.made (t:=83) rows (fun r hr=>?_) hl (by simp only[maxLen];omega) fun i r o hr x=>(h i r o hr x).mod g (fun _ _ _ h=>h) fun _ _ h=>h;obtain⟨i,y,e⟩:=List.mem_iff_getElem.1 hr;obtain⟨_,_,_,e',_⟩:=h i r l[i] (by rw[List.getElem?_eq_getElem y,e]) (List.getElem?_eq_getElem (by omega));rw[e'];rfl
theorem QG{w:World}(hT:ET w):AB prog 10 [] (fun v w'=>v=.bool true/\Grow w w') w:=by
 apply aG;refine⟨DZ.cells.toArray,by kernel_rfl,?_⟩;refine Ge (cs:=DZ.cells) (by kernel_rfl) ?_;refine Rj (w0:=w) NU (Mod.refl _ _) fun w2 sv C g2 hS hC=>?_;refine BM ?_
 let σ:SKs:=⟨sv,[DZ],fun x=>C x/\x<w2.heap.size⟩
 have b0:DG σ.S w2 σ.sv σ.ks:=hS.sub fun x j h=>⟨h,j⟩;refine AA (Nw (w0:=w) (σ:=σ) (most:=100) b0 (fun x j=>j.2) hT g2) ?_;rintro v3 I ⟨g3,h3⟩;have h3:=h3.resolve_right fun h=>by have:=h.1;omega
 obtain⟨_,_,a,F3,rfl,bx,b1⟩:=h3;refine BM ?_;have b8:=g2.trans g3;have al:σ.ks.length<=64:=by show[DZ].length<=64;decide
 have T:∀k∈σ.ks,EG k:=fun k hk=>by
  have b2:k∈[DZ]:=hk;simp only[List.mem_singleton] at b2;subst b2;exact NU
 refine AW (fun _ W=>I=W) ?_ ?_;rotate_left
 .refine LQ ?_;refine LQ ?_;exact Cs (AT rfl)
 rintro _ _ rfl _;refine⟨(⟨1,1,0,FY⟩:BE).cells.toArray,by kernel_rfl,⟨(⟨1,⟨1,1,0,FY⟩⟩:Attr).cells.toArray,by kernel_rfl,?_⟩⟩;refine Ge (cs:=(⟨1,⟨1,1,0,FY⟩⟩:Attr).cells) (by kernel_rfl) ?_;have z3:=g3.size;have E:=b1.hl;have o4:AF I.heap.size 79 5 Cv (I.alloc (.cells (⟨1,⟨1,1,0,FY⟩⟩:Attr).cells.toArray 79)) (.slice (some ⟨I.heap.size,0,none⟩) 1 1) CU:=AF.Pt (Nat.le_refl _) rfl (fun u hu=>Cv.one (w:=I) (x:=⟨1,⟨1,1,0,FY⟩⟩) rfl u hu) rfl;have g4:Grow I (I.alloc (.cells (⟨1,⟨1,1,0,FY⟩⟩:Attr).cells.toArray 79)):=Mod.alloc _ _ _;generalize I.alloc (.cells (⟨1,⟨1,1,0,FY⟩⟩:Attr).cells.toArray 79)=w4 at o4 g4 ⊢;generalize Value.slice (some ⟨I.heap.size,0,none⟩) 1 1=bv at o4 ⊢;have b3:=AF.sl o4;have b9:=b1.grow g4;have z4:=g4.size;obtain⟨J,O,bd,_⟩:=b3.shape;have a6:Cu (fun x=>I.heap.size<=x/\x<w4.heap.size) w4 bv CU:=BJ.sub b3 (fun x j h=>⟨h.1,j⟩) (by decide) fun _ _ h=>h;refine AW (fun _ W=>∃F5,Fw .f w F5 W a σ 100 GV 1000000/\Grow w W) ?_ ?_
 .rintro _ w5 ⟨F5,b4,g5⟩ _;have z5:=g5.size;have a7:=b4.hl;refine AW (fun _ W=>∃F6,Fw .f w F6 W a σ 100 Hx 2000000/\Grow w W) ?_ ?_
  .rintro _ w6 ⟨F6,an,U⟩ _;have a8:=an.hl;refine AA (JX (k:=1) an (by decide)) ?_;rintro _ w7 ⟨rfl,V⟩;rw[Q5.2.2.2];refine BM ?_;rw[Am];refine AE (fun _=>?_) fun e=>(e rfl).elim;rw[Am];refine AE (fun _=>?_) fun e=>(e rfl).elim;refine⟨#[.int .u8 3,.int .i64 4,.slice none 0 0,.slice none 0 0,.slice none 0 0],by kernel_rfl,?_⟩;refine Ge (cs:=([[Value.int .u8 3,.int .i64 4,.slice none 0 0,.slice none 0 0,.slice none 0 0]]:List (List Value)).flatten) (by kernel_rfl) ?_;have hR:=M0 (D:=fun _=>False) (w:=w7) (l:=Gq) [[.int .u8 3,.int .i64 4,.slice none 0 0,.slice none 0 0,.slice none 0 0]] rfl (by decide) fun i r o hr ho=>by
    match i with
    |0=>cases hr;cases ho;exact⟨_,_,_,rfl,BJ.nil,BJ.nil,BJ.nil⟩
    |i+1=>simp at hr
   have g8:Grow w7 (w7.alloc (.cells ([[Value.int .u8 3,.int .i64 4,.slice none 0 0,.slice none 0 0,.slice none 0 0]]:List (List Value)).flatten.toArray 83)):=Mod.alloc _ _ _;generalize w7.alloc (.cells ([[Value.int .u8 3,.int .i64 4,.slice none 0 0,.slice none 0 0,.slice none 0 0]]:List (List Value)).flatten.toArray 83)=w8 at hR g8 ⊢;have z7:=V.size;have bk:=an.grow (V.trans g8);refine AA (Gk (B:=4) bk hT ⟨fun c hc=>?_,rfl⟩ al T hR (fun y Q e=>?_) TF.2.2 (by decide) (by decide) (fun _=>by decide) (by decide) (by decide)) ?_
   .simp only[Hx,List.mem_cons,List.not_mem_nil,or_false] at hc;have hb:EN [DZ] CU:=EN.of T UF fun a ha=>((TF.1 ⟨2,0,[97,98],CU,[]⟩ (by simp[FD])).1 a ha).2;rcases hc with rfl|rfl|rfl|rfl
    .exact hb
    .exact EN.nil
    .exact hb
    .exact EN.nil
   .have:=a8 y e;rcases Q with Q|Q
    .omega
    .exact Q
   rintro _ w9 ⟨rfl,⟨F9,f9,_,M9⟩,_⟩;rw[show FC σ.ks Gq (Hx.length:Nat) 100=6 from bB,Am];refine⟨rfl,?_⟩;have gg:=U.trans (V.trans g8);exact gg.next M9 fun x j e=>by have:=(a8 x e).1;omega
  .refine⟨#[.int .u8 1,.int .i64 1,.slice none 0 0,.slice none 0 0,.slice none 0 0],by kernel_rfl,?_⟩;refine Ge (cs:=[.int .i32 10]) (by kernel_rfl) ?_;have o6:AF w5.heap.size 21 1 CI (w5.alloc (.cells [Value.int .i32 10].toArray 21)) (.slice (some ⟨w5.heap.size,0,none⟩) 1 1) [10]:=AF.Pt (Nat.le_refl _) rfl (fun u hu=>by simp at hu;subst hu;rfl) rfl;have U:Grow w5 (w5.alloc (.cells [Value.int .i32 10].toArray 21)):=Mod.alloc _ _ _;generalize w5.alloc (.cells [Value.int .i32 10].toArray 21)=w6 at o6 U ⊢;generalize Value.slice (some ⟨w5.heap.size,0,none⟩) 1 1=rv at o6 ⊢;have b5:=AF.sl o6;obtain⟨X,Y,rfl,_⟩:=b5.shape;have z6:=U.size;refine⟨#[.int .u8 2,.int .i64 0,.slice X 1 Y,.slice none 0 0,.slice none 0 0],by kernel_rfl,?_⟩;refine Ge (cs:=([[Value.int .u8 1,.int .i64 1,.slice none 0 0,.slice none 0 0,.slice none 0 0],[.int .u8 2,.int .i64 0,.slice X 1 Y,.slice none 0 0,.slice none 0 0]]:List (List Value)).flatten) (by kernel_rfl) ?_;have hR:=M0 (D:=fun x=>w5.heap.size<=x) (w:=w6) (l:=JD) [[.int .u8 1,.int .i64 1,.slice none 0 0,.slice none 0 0,.slice none 0 0],[.int .u8 2,.int .i64 0,.slice X 1 Y,.slice none 0 0,.slice none 0 0]] rfl (by decide) fun i r o hr ho=>by
    match i with
    |0=>cases hr;cases ho;exact⟨_,_,_,rfl,BJ.nil,BJ.nil,BJ.nil⟩
    |1=>cases hr;cases ho;exact⟨_,_,_,rfl,BJ.sub b5 (fun x _ h=>h.1) (by decide) fun _ _ h=>h,BJ.nil,BJ.nil⟩
    |i+2=>simp at hr
   have V:Grow w6 (w6.alloc (.cells ([[Value.int .u8 1,.int .i64 1,.slice none 0 0,.slice none 0 0,.slice none 0 0],[.int .u8 2,.int .i64 0,.slice X 1 Y,.slice none 0 0,.slice none 0 0]]:List (List Value)).flatten.toArray 83)):=Mod.alloc _ _ _;generalize w6.alloc (.cells ([[Value.int .u8 1,.int .i64 1,.slice none 0 0,.slice none 0 0,.slice none 0 0],[.int .u8 2,.int .i64 0,.slice X 1 Y,.slice none 0 0,.slice none 0 0]]:List (List Value)).flatten.toArray 83)=w7 at hR V ⊢;have av:=b4.grow (U.trans V);refine AA (Gk (B:=5) av hT ⟨fun c hc=>?_,rfl⟩ al T hR (fun y Q e=>?_) TF.2.1 (by decide) (by decide) (fun _=>by decide) (by decide) (by decide)) ?_
   .simp only[GV,List.mem_cons,List.not_mem_nil,or_false] at hc;have hb:EN [DZ] CU:=EN.of T UF fun a ha=>((TF.1 ⟨2,0,[97,98],CU,[]⟩ (by simp[FD])).1 a ha).2;rcases hc with rfl|rfl|rfl
    .exact hb
    .exact hb
    .exact EN.nil
   .have:=a7 y e;rcases Q with Q|Q
    .omega
    .omega
   rintro _ w8 ⟨rfl,⟨F8,f8,h8,M8⟩,_⟩;have e0:FC σ.ks JD (GV.length:Nat) 100=0:=(HX (by decide)).2 Y8;rw[e0,if_pos rfl,show Nz σ.ks GV JD=Hx from cV.2] at h8;rw[e0,Br];refine Ab (fun _=>?_) fun e=>(e rfl).elim;refine AA (Ko h8) ?_;rintro _ w9 ⟨rfl,g9⟩;rw[Q5.2.2.1,Br];refine Ab (fun _=>?_) fun e=>(e rfl).elim;refine⟨F8,(h8.grow g9).up (by decide),?_⟩;exact((g5.trans (U.trans V)).next M8 fun x j e=>by have:=(a7 x e).1;omega).trans g9
 .refine Ge (cs:=[.int .i32 97,.int .i32 98]) (by kernel_rfl) ?_;have o6:La (fun x=>x=w4.heap.size) (w4.alloc (.cells [Value.int .i32 97,.int .i32 98].toArray 21)) (.slice (some ⟨w4.heap.size,0,none⟩) 2 2) [97,98]:=by
   have:=BJ.made (R:=CI) (w:=w4) (l:=([97,98]:List Int)) (t:=21) [[.int .i32 97],[.int .i32 98]] (fun r hr=>by simp only[List.mem_cons,List.not_mem_nil,or_false] at hr;rcases hr with rfl|rfl<;>rfl) rfl (by simp[maxLen]) fun i r x hr j=>by
    match i with
    |0=>cases hr;cases j;rfl
    |1=>cases hr;cases j;rfl
    |i+2=>simp at hr
   exact this
  have U:Grow w4 (w4.alloc (.cells [Value.int .i32 97,.int .i32 98].toArray 21)):=Mod.alloc _ _ _;generalize w4.alloc (.cells [Value.int .i32 97,.int .i32 98].toArray 21)=w6 at o6 U ⊢;generalize Value.slice (some ⟨w4.heap.size,0,none⟩) 2 2=rv at o6 ⊢;obtain⟨X,Y,rfl,_⟩:=o6.shape;have z6:=U.size;subst bd;refine⟨#[.int .u8 2,.int .i64 0,.slice X 2 Y,.slice J 1 O,.slice none 0 0],by kernel_rfl,?_⟩;refine Ge (cs:=([[Value.int .u8 2,.int .i64 0,.slice X 2 Y,.slice J 1 O,.slice none 0 0]]:List (List Value)).flatten) (by kernel_rfl) ?_;have hR:=M0 (D:=fun x=>I.heap.size<=x) (w:=w6) (l:=FD) [[.int .u8 2,.int .i64 0,.slice X 2 Y,.slice J 1 O,.slice none 0 0]] rfl (by decide) fun i r o hr ho=>by
   match i with
   |0=>
    cases hr;cases ho;exact⟨_,_,_,rfl,BJ.sub o6 (fun x _ h=>by omega) (by decide) fun _ _ h=>h,BJ.sub (a6.grow U (by decide) fun _ _ h=>h) (fun x _ h=>h.1) (by decide) fun _ _ h=>h,BJ.nil⟩
   |i+1=>simp at hr
  have V:Grow w6 (w6.alloc (.cells ([[Value.int .u8 2,.int .i64 0,.slice X 2 Y,.slice J 1 O,.slice none 0 0]]:List (List Value)).flatten.toArray 83)):=Mod.alloc _ _ _;generalize w6.alloc (.cells ([[Value.int .u8 2,.int .i64 0,.slice X 2 Y,.slice J 1 O,.slice none 0 0]]:List (List Value)).flatten.toArray 83)=w7 at hR V ⊢;have ax:=U.trans V;have z7:=V.size;have av:=b9.grow ax;refine AA (Gk (B:=3) av hT Zt al T hR (fun y Q e=>?_) TF.1 (by decide) (by decide) (fun _=>by decide) (by decide) (by decide)) ?_
  .have:=E y e;rcases Q with Q|Q
   .omega
   .omega
  rintro _ w8 ⟨rfl,⟨F8,f8,h8,M8⟩,_⟩;have e0:FC σ.ks FD (([⟨10,[]⟩]:List Cel).length:Nat) 100=0:=(HX (by decide)).2 Zg;rw[e0,if_pos rfl,show Nz σ.ks [⟨10,[]⟩] FD=GV from cV.1] at h8;rw[e0,Br];refine Ab (fun _=>?_) fun e=>(e rfl).elim;have z8:=M8.size;have bl:Cu (fun x=>I.heap.size<=x/\x<w4.heap.size) w8 (.slice J 1 O) CU:=(a6.grow ax (by decide) fun _ _ h=>h).mod M8 (fun x _ j e=>by have:=(E x e).2.1;have:=j.1;omega) (by decide) fun _ _ h=>h;refine AA (SY h8 (by decide) (by decide)) ?_;rintro c4 w9 ⟨b6,g9⟩;rw[Q5.1] at b6;have bp:=bl.grow g9 (by decide) fun _ _ h=>h;refine⟨#[.int .i64 2,.slice J 1 O],by kernel_rfl,⟨#[.int .i64 1,.slice none 0 0],by kernel_rfl,?_⟩⟩;refine Ge (cs:=([[Value.int .i64 2,.slice J 1 O],[.int .i64 1,.slice none 0 0]]:List (List Value)).flatten) (by kernel_rfl) ?_;have Z:Grow w9 (w9.alloc (.cells ([[Value.int .i64 2,.slice J 1 O],[.int .i64 1,.slice none 0 0]]:List (List Value)).flatten.toArray 53)):=Mod.alloc _ _ _;have ak:Qp (fun x=>x=w9.heap.size) (fun x=>I.heap.size<=x/\x<w4.heap.size) (w9.alloc (.cells ([[Value.int .i64 2,.slice J 1 O],[.int .i64 1,.slice none 0 0]]:List (List Value)).flatten.toArray 53)) (.slice (some ⟨w9.heap.size,0,none⟩) 2 2) [⟨2,CU⟩,⟨1,[]⟩]:=by
   refine BJ.made (l:=([⟨2,CU⟩,⟨1,[]⟩]:List Fk)) (t:=53) [[.int .i64 2,.slice J 1 O],[.int .i64 1,.slice none 0 0]] (fun r hr=>by simp only[List.mem_cons,List.not_mem_nil,or_false] at hr;rcases hr with rfl|rfl<;>rfl) rfl (by simp[maxLen]) fun i r x hr j=>?_;match i with
   |0=>cases hr;cases j;exact⟨_,rfl,bp.grow Z (by decide) fun _ _ h=>h⟩
   |1=>cases hr;cases j;exact⟨_,rfl,BJ.nil⟩
   |i+2=>simp at hr
  generalize w9.alloc (.cells ([[Value.int .i64 2,.slice J 1 O],[.int .i64 1,.slice none 0 0]]:List (List Value)).flatten.toArray 53)=c6 at ak Z ⊢;have ay:=BJ.grow b6 Z (by decide) fun r x j=>j.mod Z (fun _ _ _ h=>h) fun _ _ h=>h;refine AA (SR ay ak) ?_;rintro _ c7 ⟨rfl,bs⟩;rw[Aq];refine Ab (fun _=>?_) fun e=>(e rfl).elim;have a1:=(g9.trans Z).trans bs;refine AA (RY (h8.grow a1) (by decide)) ?_;rintro _ c8 ⟨rfl,b7⟩;rw[Q5.2.1,Br];refine Ab (fun _=>?_) fun e=>(e rfl).elim;refine⟨F8,((h8.grow a1).grow b7).up (by decide),?_⟩;exact(((b8.trans g4).trans ax).next M8 fun x j e=>by have:=(E x e).1;omega).trans (a1.trans b7)
structure Qg where
 x:List Dop
 i:Int
 j:Int
def Rb(S:Nat->Prop):World->List Value->Qg->Prop:=fun w r s=>∃o,r=[o,.int .i64 s.i,.int .i64 s.j]/\Bg S S w o s.x
theorem Rb.mod{S x M:Nat->Prop}{w w':World}{r:List Value}{s:Qg}(h:Rb S w r s)(hm:Mod M w w')(j:∀b,b<w.heap.size->S b->¬M b)(i:∀b,b<w.heap.size->S b->x b):Rb x w' r s:=by
 obtain⟨y,e,h1⟩:=h;have I:=Bg.mod h1 hm j j;have z:=hm.size;refine⟨y,e,BJ.mono h1 i (fun b hb B=>hm.same b hb (j b hb B)) (by decide) fun r o E=>E.mod hm j i⟩
abbrev Hn(S:Nat->Prop)(w:World)(v:Value)(l:List Qg):Prop:=BJ S 3 (Rb S) w v l
theorem Hn.HH{S:Nat->Prop}{w:World}{v:Value}{l:List Qg}(h:Hn S w v l):Hn (fun b=>S b/\b<w.heap.size) w v l:=
 BJ.mono h (fun b hb i=>⟨i,hb⟩) (fun _ _ _=>rfl) (by decide) fun r s i=>i.mod (Mod.refl (fun _=>False) _) (fun _ _ _ h=>h) fun b hb i=>⟨i,hb⟩
theorem Hn.mod{S M:Nat->Prop}{w w':World}{v:Value}{l:List Qg}(h:Hn S w v l)(hm:Mod M w w')(j:∀b,b<w.heap.size->S b->¬M b):Hn S w' v l:=
 BJ.mono h (fun _ _ h=>h) (fun b hb i=>hm.same b hb (j b hb i)) (by decide) fun r s i=>i.mod hm j fun _ _ h=>h
def Ul(most:Int)(l:List Qg):Prop:=l.length<=30/\most<=2000/\∀s∈l,Cf s.x<=100
open Classical in
theorem RC{S:Nat->Prop}{B v:Value}{most:Int}{l:List Qg}{w:World}(h:Hn S w v l)(hb:∀s∈l,Cf s.x<=1099511627776) :
  AB prog 9 [B,.int .i64 most,v] (fun v' w'=>v'=.bool (decide (Ul most l))/\Grow w w') w:=by
 apply cP;obtain⟨a,c,rfl,hm⟩:=h.shape;simp only[maxLen] at hm;refine AW (fun _ w'=>w=w'/\l.length<=30/\most<=2000) ?_ ?_;rotate_left
 .rw[AS,BK];refine AE (fun e=>⟨by rw[decide_eq_false fun h=>by have:=h.1;omega],Mod.refl _ _⟩) fun Q=>?_;rw[BK];refine AE (fun e=>⟨by rw[decide_eq_false fun h=>by have:=h.2.1;omega],Mod.refl _ _⟩) fun T=>⟨rfl,by omega,by omega⟩
 rintro _ _ ⟨rfl,h1,E⟩ _;rw[AS];refine Ae (fun vs w'=>∃(i:Nat),i<=l.length/\vs=[.int .i64 i]/\Grow w w'/\∀s∈l.take i,Cf s.x<=100) (fun vs _=>l.length-ED vs 0) ⟨0,Nat.zero_le _,rfl,Mod.refl _ _,fun s o=>by simp at o⟩ ?_;rintro vs U ⟨i,V,rfl,g,ht⟩ _;simp only[CN,List.headD_cons];refine HU (fun I=>?_) fun J=>?_;rotate_left
 .obtain rfl:i=l.length:=by omega
  rw[List.take_length] at ht;exact⟨by rw[decide_eq_true ⟨h1,E,ht⟩],g⟩
 have j:i<l.length:=by omega
 obtain⟨p,r,rfl,_,hr,hc,X,rfl,O⟩:=h.get j;refine AZ j ?_;rw[AG,Addr.add_add];refine AL (g.cell (hc 0 _ rfl) fun h=>h) ?_;refine AA (Wn (Bg.grow O g) (hb _ (List.getElem_mem j))) ?_;rintro _ w2 ⟨rfl,y⟩;rw[BK];refine AE (fun e=>⟨by rw[decide_eq_false fun h=>by have:=h.2.2 _ (List.getElem_mem j);omega],g.trans y⟩) fun e=>?_;rw[AR,AQ (by omega)];refine⟨⟨i+1,j,rfl,g.trans y,fun s o=>?_⟩,by rw[DW,DW];omega⟩;rw[List.take_add_one,List.getElem?_eq_getElem j] at o;rcases List.mem_append.1 o with o|o
 .exact ht s o
 .simp at o;subst o;omega
noncomputable def Kh(ks:List DKey)(most:Int)(d:List Cel)(x:List Dop):List Cel:=if FC ks x d.length most=0 then Nz ks d x else d
structure DocM (ks:List DKey) (most:Int) (d:List Cel):Prop where
 g:Ln ks d
 pos:1<=d.length
 le:(d.length:Int)<=most
theorem Ua{ks:List DKey}{most:Int}(h:1<=most):DocM ks most [⟨10,[]⟩]:=⟨⟨fun c hc=>by simp only[List.mem_singleton] at hc;subst hc;exact EN.nil,rfl⟩,Nat.le_refl _,h⟩
theorem VC(o:Dop):1<=Mv o:=by unfold Mv;omega
theorem SX(x:List Dop):x.length<=Cf x:=by
 induction x with
 |nil=>exact Nat.le_refl _
 |cons o x i=>
  have e:Cf (o::x)=Mv o+Cf x:=by simp[Cf]
  have:=VC o;rw[e,List.length_cons];omega
abbrev GD:Nat:=17610000
section
variable {w0:World}{F:Nat->Prop}{W:World}{a:TxA}{σ:SKs}{most:Int}{N:Nat}{d:List Cel}
theorem Rr{S:Nat->Prop}{v:Value}{x:List Dop}(h:Fw .f w0 F W a σ most d N)(Q:ET w0)(j:DocM σ.ks most d)(E:σ.ks.length<=64)(T:∀k∈σ.ks,EG k)(U:Bg S S W v x)(I:∀y,S y->¬F y)(V:∀o∈x,PD o)(hl:x.length<=1048576)(hm:most<=2000)(hN:N+MF 4000 x<=1000000000) :
  AB prog 12 [.pointer (some ⟨a.b,0,none⟩),v] (fun v' w'=>v'=.int .i64 (FC σ.ks x d.length most)/\Jn .f w0 F W w' a σ most (Kh σ.ks most d x) (N+MF 4000 x)/\DocM σ.ks most (Kh σ.ks most d x)) W:=by
 have J:=j.le;refine AA (Gk (B:=4000) h Q j.g E T U (fun y X=>I y (X.elim id id)) V (by omega) (by omega) (fun i=>?_) (by omega) (by omega)) ?_
 .have:=i.most;have:=i.cj;omega
 rintro _ w' ⟨rfl,h1,Y⟩;refine⟨rfl,h1,?_⟩;unfold Kh;split
 .rename_i e;have i:=(HX (by omega)).1 e;have:=XC (ks:=σ.ks) (x:=x) (d:=d) (fun o Z=>(i.FK o Z).1) i.cj;have:=i.most;have O:=Y e;refine⟨O,?_,by omega⟩;have:Nz σ.ks d x≠[]:=Yj O.last;exact List.length_pos_iff.2 this
 .exact j
theorem TM{S:Nat->Prop}{v:Value}{x:List Dop}(h:Fw .f w0 F W a σ most d N)(B:ET w0)(E:DocM σ.ks most d)(i:σ.ks.length<=64)(I:∀k∈σ.ks,EG k)(J:Bg S S W v x)(j:∀y,S y->¬F y)(O:∀o∈x,PD o)(hl:x.length<=100)(hm:most<=2000)(U:N+GD<=1000000000) :
  AB prog 12 [.pointer (some ⟨a.b,0,none⟩),v] (fun v' w'=>v'=.int .i64 (FC σ.ks x d.length most)/\Jn .f w0 F W w' a σ most (Kh σ.ks most d x) (N+GD)/\DocM σ.ks most (Kh σ.ks most d x)) W:=by
 have Q:MF 4000 x<=GD:=by
  show 2*x.length*(22*4000+50)<=17610000;omega
 refine AA (Rr h B E i I J j O (by omega) hm (by omega)) ?_;rintro _ w' ⟨rfl,h1,T⟩;exact⟨rfl,h1.up (by omega),T⟩
theorem ZV{W:World}{sv:Value}{ks:List DKey}{C:Nat->Prop}(i:DG C W sv ks)(j:ET w0)(g:Grow w0 W) :
  AB prog 11 [sv,.int .i64 most] (fun v' w'=>Grow W w'/\((1<=most/\most<536870912/\∃a F,v'=.tuple #[.pointer (some ⟨a.b,0,none⟩),.int .i64 0]/\(∀x,F x->W.heap.size<=x)/\Fw .f w0 F w' a ⟨sv,ks,fun x=>C x/\x<W.heap.size⟩ most [⟨10,[]⟩] 24)\/((most<1\/536870912<=most)/\v'=.tuple #[.pointer none,.int .i64 2]))) W:=
 Nw (σ:=⟨sv,ks,fun x=>C x/\x<W.heap.size⟩) (i.sub fun _ o h=>⟨h,o⟩) (fun _ h=>h.2) j g
end
noncomputable def Nv(ks:List DKey)(most:Int)(d:List Cel)(l:List Qg):List Cel:=l.foldl (fun d s=>Kh ks most d s.x) d
section
variable {w0:World}{F:Nat->Prop}{W:World}{a:TxA}{σ:SKs}{most:Int}{N:Nat}{d:List Cel}
theorem P6{S:Nat->Prop}{lv:Value}{l:List Qg}{n:Nat}{Kend:World->Prop}(hn:n<=l.length)(ak:n<=30)(hl:Hn S W lv l)(hS:∀b,S b->b<w0.heap.size)(T:∀s∈l,(∀o∈s.x,PD o)/\Cf s.x<=100)
 (h:Fw .f w0 F W a σ most d N)(hT:ET w0)(hM:DocM σ.ks most d)(U:σ.ks.length<=64)(hK:∀k∈σ.ks,EG k)(hm:most<=2000)(hN:N+30*GD<=1000000000)
 (hE:∀W',Jn .f w0 F W W' a σ most (Nv σ.ks most d (l.take n)) (N+n*GD)->DocM σ.ks most (Nv σ.ks most d (l.take n))->Kend W') :
  Ay [(.int .i64 0)] (fun vs B w5=>∀_:Env,
   Bc .i64 (nth vs 0) (.int .i64 (n:Int)) fun t50=>
   AD t50
   (Be 3 lv (nth vs 0) fun t55=>
   AM 0 t55 fun V=>
   AK V (fun X w6=>
   AB prog 12 [.pointer (some ⟨a.b,0,none⟩),X] (fun _t58 w7=>
   AX .i64 (nth vs 0) (.int .i64 1) fun Y=>
   B [Y] w7) w6) w5)
   (Kend w5)) W:=by
 obtain⟨la,lc,rfl,_⟩:=hl.shape;refine Ae (fun vs W'=>∃(i:Nat) (F':Nat->Prop),i<=n/\vs=[.int .i64 i]/\(∀x,F' x->F x\/W.heap.size<=x)/\Fw .f w0 F' W' a σ most (Nv σ.ks most d (l.take i)) (N+i*GD)/\Mod F W W'/\DocM σ.ks most (Nv σ.ks most d (l.take i))) (fun vs _=>n-ED vs 0) ⟨0,F,Nat.zero_le _,rfl,fun _ h=>.inl h,h.up (by omega),Mod.refl _ _,hM⟩ ?_;rintro vs W1 ⟨i,F1,hi,rfl,Z,h1,O,E⟩ _;simp only[CN,List.headD_cons];rw[Ax];have a1:=h.hl;have I:=h1.hl;refine AE (fun al=>?_) fun an=>?_;rotate_left
 .obtain rfl:i=n:=by omega
  exact hE W1 ⟨F1,Z,h1,O⟩ E
 have a6:i<n:=by omega
 have j:i<l.length:=by omega
 have a7:=hl.mod O fun b _ hb e=>by have:=(a1 b e).1;have:=hS b hb;omega
 obtain⟨p,r,rfl,_,hr,hc,xv,rfl,Q⟩:=a7.get j;refine AZ j ?_;rw[AG,Addr.add_add];refine AL (hc 0 _ rfl) ?_;obtain⟨q1,q2⟩:=T l[i] (List.getElem_mem j);have av:=SX l[i].x;have ax:(GD:Nat)=17610000:=rfl;have ay:i*GD+GD<=30*GD:=by
  have:(i+1)*GD<=30*GD:=Nat.mul_le_mul_right _ (by omega);rw[Nat.add_mul,Nat.one_mul] at this;exact this
 refine AA (TM h1 hT E U hK Q (fun y hy e=>by have:=(I y e).1;have:=hS y hy;omega) q1 (by omega) hm (by omega)) ?_;rintro _ W2 ⟨rfl,⟨F2,f2,h2,m2⟩,a8⟩;rw[AR,AQ (by omega)];have J:Nv σ.ks most d (l.take (i+1))=Kh σ.ks most (Nv σ.ks most d (l.take i)) l[i].x:=by
  unfold Nv;rw[List.take_add_one,List.getElem?_eq_getElem j,List.foldl_append];rfl
 have z1:=O.size;refine⟨⟨i+1,F2,a6,rfl,fun x Q=>?_,by rw[J];exact h2.up (by rw[Nat.add_mul,Nat.one_mul];omega),O.next m2 fun x Q e=>?_,by rw[J];exact a8⟩,by rw[DW,DW];omega⟩
 .rcases f2 x Q with e|e
  .exact Z x e
  .exact .inr (by omega)
 .rcases Z x e with e|e
  .exact e
  .omega
end
theorem XU{rs:List Int}{p q:Nat}(j:p<=q)(E:q<=rs.length)(o:∀k,p<=k->k<q->rs[k]?≠some 10):BQ (rs.take q)=BQ (rs.take p):=by
 have y:=(List.take_append_drop p (rs.take q)).symm;rw[List.take_take,Nat.min_eq_left j] at y;have B:BQ ((rs.take q).drop p)=0:=by
  refine List.count_eq_zero.2 fun i=>?_;obtain⟨k,hk,e⟩:=List.mem_iff_getElem.1 i;have x:p+k<q:=by rw[List.length_drop,List.length_take] at hk;omega
  refine o (p+k) (by omega) x ?_;rw[List.getElem_drop,List.getElem_take] at e;rw[List.getElem?_eq_getElem (by omega),e]
 rw[y,EZ,B,Nat.add_zero]
theorem Mo{S T:Nat->Prop}{kv lv:Value}{a8:List DKey}{most:Int}{l:List Qg}{w:World}(hk:Lw S w kv a8)(hl:Hn T w lv l)(hT:ET w)
 (hI:∀s∈l,(∀o∈s.x,PD o)/\Cf s.x<=1048576) :
  AB prog 3 [kv,.int .i64 most,lv] (fun v w'=>v=.bool true/\Grow w w') w:=by
 classical
 apply cF;have kn:∀{w1},Grow w w1->AB prog 10 [] (fun v w'=>v=.bool true/\Grow w w') w1:=fun hg=>AA (QG (hT.grow hg)) fun v w' ⟨e,h⟩=>⟨e,hg.trans h⟩;have b9:=hl.HH;refine AA (Kj hk) ?_;rintro _ w1 ⟨g1,hr⟩;rcases hr with⟨ak,sv,ks,rfl,B,_,hS⟩|⟨_,rfl⟩;rotate_left
 .refine BM ?_;refine AW (fun _ _=>False) (fun _ _ h=>h.elim) ?_;rw[Br];exact Ab (fun e=>by cases e) fun _=>kn g1
 refine BM ?_;obtain⟨al,an,_⟩:=K8.1 ak;have ba:ks.length<=64:=by rw[B.length_eq];exact al
 have hK:∀k∈ks,EG k:=fun k hk=>an k (B.mem_iff.1 hk);refine AW (fun _ w'=>Grow w w'/\Grow w1 w'/\Ul most l) ?_ ?_;rotate_left
 .refine LQ ?_;refine AA (RC (hl.mod g1 fun _ _ _ h=>h) fun s hs=>by have:=(hI s hs).2;omega) ?_;rintro _ w2 ⟨rfl,g2⟩;rw[Aq];refine Ab (fun ht=>⟨g1.trans g2,g2,ht⟩) fun _=>kn (g1.trans g2)
 rintro _ w2 ⟨av,bc,V,bd,bk⟩ _;refine AA (ZV (most:=most) (hS.grow bc) hT av) ?_;rintro v3 w3 ⟨g3,h3⟩;have ax:=av.trans g3;rcases h3 with⟨bl,cn,a,F,rfl,hF,hX⟩|⟨_,rfl⟩;rotate_left
 .refine BM ?_;rw[Br];exact Ab (fun e=>by cases e) fun _=>kn ax
 refine BM ?_;refine LQ ?_;have ay:=b9.mod ax fun _ _ _ h=>h;obtain⟨la,lc,bp,_⟩:=ay.shape;have b0:Al lv=Al (.slice la l.length lc):=by rw[bp]
 rw[b0,AS];refine P6 (n:=l.length) (Nat.le_refl _) V ay (fun b hb=>hb.2) (fun s hs=>⟨(hI s hs).1,bk s hs⟩) hX hT (Ua bl) ba hK bd (by decide) fun w4 h4 E=>?_;obtain⟨F4,f4,y,m4⟩:=h4;rw[List.take_length] at y E;have bs:24+l.length*GD<=1000000000:=Nat.le_trans (Nat.add_le_add_left (Nat.mul_le_mul_right _ V) _) (by decide);generalize Nv _ most [⟨10,[]⟩] l=d at y E;have cx:=E.le;have Q:d.length<=10000000:=by omega
 have b1:(Ak d).length=d.length:=List.length_map _;have I:=E.g.last;have b2:Grow w w4:=y.g;refine AA (Ko y) ?_;rintro _ w5 ⟨rfl,g5⟩;have dk:=Cz (Ak d);refine Ae (fun vs w'=>∃(n p:Nat),n<=BQ (Ak d)/\p<=d.length/\vs=[.int .i64 p,.int .i64 n]/\Grow w4 w'/\BQ ((Ak d).take p)=n/\IF (Ak d) n=.tuple #[.int .i64 (p:Int),.int .i64 0]) (fun vs _=>BQ (Ak d)-ED vs 1)
  ⟨0,0,Nat.zero_le _,Nat.zero_le _,rfl,g5,rfl,by unfold IF;rw[if_neg (by omega),if_pos rfl];rfl⟩ ?_
 rintro vs w6 ⟨n,p,hn,hp,rfl,g6,Y,b3⟩ _;simp only[Fx];refine HU (fun du=>?_) fun dv=>?_;rotate_left
 .have U:=y.grow g6;refine AA (Tz U) ?_;rintro _ w7 ⟨rfl,g7⟩;have bx:p=d.length:=by
   refine Classical.byContradiction fun dw=>?_;obtain⟨q,_,_,_,_,_,h6,_⟩:=Mx (rs:=Ak d) (p:=p) (by omega) I;omega
  rw[Am];refine AE (fun _=>kn ((b2.trans g6).trans g7)) fun e=>(e (by rw[bx])).elim
 have c9:n<BQ (Ak d):=by omega
 have dx:p<d.length:=by
  refine Nat.lt_of_le_of_ne hp fun e=>?_;rw[e,<-b1,List.take_length] at Y;omega
 obtain⟨q,q1,q2,q3,q4,q5,q6,q7⟩:=Mx (rs:=Ak d) (p:=p) (by omega) I;rw[Y] at q1 q6 q7;have J:IF (Ak d) (n+1)=.tuple #[.int .i64 ((q+1:Nat):Int),.int .i64 0]:=by
  unfold IF;rw[if_neg (by omega),if_neg (by omega),Nat.add_sub_cancel,q1]
 have U:=y.grow g6;refine AA (JX (k:=n) U Q) ?_;rintro _ w7 ⟨rfl,g7⟩;rw[b3];refine BM ?_;rw[AR,wrap64 (by omega) (by omega),show((n:Int)+1)=((n+1:Nat):Int) by omega];have b4:=U.grow g7;refine AA (JX (k:=n+1) b4 Q) ?_;rintro _ w8 ⟨rfl,g8⟩;rw[J];refine BM ?_;have b5:=b4.grow g8;have hG:=E.g.set;refine AA (Pz (i:=p) (j:=q+1) b5 (by omega) (by omega) hG Q bs) ?_;rintro _ w9 ⟨cv,rfl,c4,g9⟩;refine BM ?_;have Z:=c4.rd (Nat.le_refl _);have c6:=b5.grow g9;have b6:=(g7.trans g8).trans g9;have dy:=(b2.trans g6).trans b6;have c7:((d.take (q+1)).drop p).length=q+1-p:=by rw[List.length_drop,List.length_take];omega
 obtain⟨ca,cc,rfl,_⟩:=Z.shape;rw[c7] at Z ⊢;have X:∀{i:Nat} {w':World} {K:Value->World->Prop},i<q+1-p->Grow w9 w'->(∀r,(Ak d)[p+i]?=some r->K (.int .i32 r) w')->Be 2 (.slice ca (q+1-p) cc) (.int .i64 (i:Int)) (fun t=>AM 0 t fun t=>AK t K w'):=fun{i w' K} hi g hK=>by
  obtain⟨pp,r,rfl,_,_,hc,dz,rfl,_⟩:=Z.get (i:=i) (by omega);refine AZ hi ?_;rw[AG,Addr.add_add];refine AL (g.cell (hc 0 _ rfl) fun h=>h) (hK _ ?_);rw[Ak,List.getElem?_map,List.getElem_drop,List.getElem_take,List.getElem?_eq_getElem (by omega)];rfl
 refine AW (fun _ w'=>w9=w') ?_ ?_
 .rintro _ _ rfl _;rw[AS];refine Ae (fun vs w'=>∃i:Nat,i<=q+1-p/\vs=[.int .i64 i]/\Grow w9 w') (fun vs _=>q+1-p-ED vs 0) ⟨0,Nat.zero_le _,rfl,Mod.refl _ _⟩ ?_;rintro vs dT ⟨i,hi,rfl,a1⟩ _;simp only[CN,List.headD_cons];refine HU (fun cd=>?_) fun ch=>?_;rotate_left
  .rw[AR,AQ (by omega)];exact⟨⟨n+1,q+1,by omega,by omega,rfl,(g6.trans b6).trans a1,q7,J⟩,by rw[BH,BH];omega⟩
  have b7:i<q+1-p:=by omega
  refine AW (fun _ w'=>Grow w9 w') ?_ ?_
  .rintro _ c8 a6 _;rw[AR,AQ (by omega)];exact⟨⟨i+1,b7,rfl,a6⟩,by rw[DW,DW];omega⟩
  rw[AR,wrap64 (by omega) (by omega),show((p:Int)+(i:Int))=((p+i:Nat):Int) by omega];have b8:=c6.grow a1;refine AA (OQ (i:=p+i) b8 (by omega) Q) ?_;rintro _ c8 ⟨rfl,a6⟩;have a7:BQ ((Ak d).take (p+i))=n:=by
   rw[XU (by omega) (by omega) fun k h1 h2=>q5 k h1 (by omega),Y]
  rw[a7];refine BM ?_;refine LQ ?_;refine LQ ?_;have O:=a1.trans a6;rw[AS,Av,wrap64 (by omega) (by omega),Ax];refine AE (fun e1=>?_) fun _=>O;refine X b7 O fun r hr=>?_;rw[Am];refine AE (fun e=>?_) fun _=>O;have e':r=10:=e;exact absurd (e'▸hr) (q5 (p+i) (by omega) (by omega))
 .refine LQ ?_;refine LQ ?_;refine LQ ?_;refine LQ ?_;rw[AS,Am];refine AE (fun e=>by omega) fun _=>?_;rw[AS,Av,wrap64 (by omega) (by omega),show(((q+1-p:Nat):Int)-1)=((q-p:Nat):Int) by omega];refine X (i:=q-p) (by omega) (Mod.refl _ _) fun r hr=>?_;rw[show p+(q-p)=q by omega,q4] at hr;rw[Br];refine Ab (fun _=>rfl) fun e=>(e (Option.some.inj hr).symm).elim
end Go.Proofs.YtmdhibffnkhcnaaGreatDoor
namespace Go.Proofs.YtmdhibffnkhcnaaGreatDoor
open Go Go.K Proofs.Tryz
open Go.ChangeShapes Go.Joins
variable {H:Type}{enc:TypeId×Value->H}{w:World}{base:Nat}{spare:Nat->Bool}{held:Bool}
theorem bN{α:Type}{l:List α}(h:l.length=4):∃a b c d,l=[a,b,c,d]:=by
 match l,h with|[a,b,c,d],_=>exact⟨a,b,c,d,rfl⟩
theorem X5{α:Type}{l:List α}(h:l.length=5):∃a b c d e,l=[a,b,c,d,e]:=by
 match l,h with|[a,b,c,d,e],_=>exact⟨a,b,c,d,e,rfl⟩
theorem ZO{α:Type}{l:List α}(h:l.length=6):∃a b c d e f,l=[a,b,c,d,e,f]:=by
 match l,h with|[a,b,c,d,e,f],_=>exact⟨a,b,c,d,e,f,rfl⟩
theorem UK(l m:List (DataW H)):Rows.uptoBulkAll (l++m)=Rows.uptoBulkAll l+Rows.uptoBulkAll m:=by
 induction l with
 |nil=>simp[Rows.uptoBulkAll]
 |cons d l i=>simp only[List.cons_append,Rows.uptoBulkAll,i];omega
theorem BJ.GH{α:Type}{t e k:Nat}{R:World->List Value->α->Prop}{μ:α->Nat}{fuel:Nat}{cs:List Value}{x:DataW H×List MemPlace}(ht:prog.underlying t=some (.slice e))(hk:prog.cellsOf e=k)
 (O:∀n o y,DataW.trod enc prog w base spare held n e o=some y->∃x,R w o x/\μ x<=Rows.uptoBulk y.1)(h:DataW.trod enc prog w base spare held fuel t cs=some x) :
  ∃v l,cs=[v]/\BJ (fun _=>True) k R w v l/\(l.map μ).sum+1<=Rows.uptoBulk x.1:=by
 rcases Go.Deep.open_slice ht h with⟨rfl,rfl⟩|⟨a,len,Q,m,n,D,Pl,rfl,hb,hl,hm,S,rfl,I⟩
 .exact⟨_,[],rfl,BJ.nil,by simp[Rows.uptoBulk]⟩
 .have Z:len<=m:=by rw[S];split<;>omega
  have one:∀i,i<len->∃(o:List Value) (x:α),o.length=k/\(∀j u,o[j]?=some u->w.cell? (a.add (i*k+j))=some u)/\R w o x/\μ x<=Rows.uptoBulk (D i):=by
   intro i hi;obtain⟨o,h1,J⟩:=I i (by omega);obtain⟨x,T,U⟩:=O n o _ J;obtain⟨_,B,hc⟩:=World.cells?_some h1;rw[hk] at B hc;refine⟨o,x,B,fun j u hu=>?_,T,U⟩;have hj:j<k:=by rw[<-B];exact(List.getElem?_eq_some_iff.1 hu).1
   have:=hc j hj;rw[Addr.add_add] at this;rw[this];exact hu
  have build:∀q,q<=len->∃l:List α,l.length=q/\(l.map μ).sum<=Rows.uptoBulkAll ((List.range q).map D)/\∀i x,l[i]?=some x->∃o:List Value,o.length=k/\(∀j u,o[j]?=some u->w.cell? (a.add (i*k+j))=some u)/\R w o x:=by
   intro q;induction q with
   |zero=>exact fun _=>⟨[],rfl,by simp[Rows.uptoBulkAll],fun i x h=>by simp at h⟩
   |succ q ih=>
    intro hq;obtain⟨l,h1,hs,J⟩:=ih (by omega);obtain⟨o,x,V,X,Y,h6⟩:=one q (by omega);refine⟨l++[x],by simp[h1],?_,fun i y E=>?_⟩
    .rw[List.range_succ,List.map_append (f:=D),UK];simp only[List.map_append,List.sum_append,List.map_cons,List.map_nil,List.sum_cons,List.sum_nil,Rows.uptoBulkAll];omega
    by_cases hi:i<q
    .rw[List.getElem?_append_left (by omega)] at E;exact J i y E
    .have:i=q:=by have:=(List.getElem?_eq_some_iff.1 E).1;simp[h1] at this;omega
     subst this;rw[List.getElem?_append_right (by omega)] at E;simp[h1] at E;subst E;exact⟨o,V,X,Y⟩
  obtain⟨l,h1,hs,J⟩:=build len (Nat.le_refl _);subst h1;refine⟨_,l,rfl,⟨a,Q,rfl,hl,hm,fun i x T=>?_⟩,?_⟩
  .obtain⟨o,V,X,Y⟩:=J i x T;exact⟨a,o,rfl,trivial,V,X,Y⟩
  .simp only[Rows.uptoBulk];omega
theorem Ig{n:Nat}{cs:List Value}{y:DataW H×List MemPlace}(h:DataW.trod enc prog w base spare held n 77 cs=some y):∃x:BE,cs=x.cells/\x.s.size+1<=Rows.uptoBulk y.1:=by
 have E:prog.cellsOf 77=4:=by kernel_rfl
 have I:prog.cellsOf 5=1:=by kernel_rfl
 have J:prog.cellsOf 2=1:=by kernel_rfl
 have O:prog.cellsOf 75=1:=by kernel_rfl
 have Q:prog.cellsOf 9=1:=by kernel_rfl
 obtain⟨z0,z1,z2,z3,m',rfl,hl,i,j,o,B⟩:=trod_struct4 underlying77 h;rw[E] at hl;simp only[I,J,O,Q] at i j o B;match cs,hl with
 |[a0,a1,a2,a3],_=>
  simp only[List.drop_zero,List.take_succ_cons,List.take_zero,List.drop_succ_cons] at i j o B;obtain⟨S,T,e0,_⟩:=DataW.trod_int underlying5 i;obtain⟨k1,U,V,_⟩:=DataW.trod_int underlying2 j;obtain⟨k2,X,Y,_⟩:=DataW.trod_int underlying75 o;obtain⟨Z,f3,e3,_⟩:=DataW.trod_string underlying9 B;cases T;cases U;cases X;cases f3;subst e0;subst V;subst Y;subst e3;refine⟨⟨S,k1,k2,Z⟩,rfl,?_⟩;simp only[Rows.uptoBulk,Rows.uptoBulkAll,Array.length_toList,ByteArray.size_data];omega
theorem Lk{n:Nat}{cs:List Value}{y:DataW H×List MemPlace}(h:DataW.trod enc prog w base spare held n 79 cs=some y):∃x:Attr,Cv w cs x/\MH x<=Rows.uptoBulk y.1:=by
 have c0:prog.cellsOf 79=5:=by kernel_rfl
 have c1:prog.cellsOf 3=1:=by kernel_rfl
 have i:prog.cellsOf 77=4:=by kernel_rfl
 obtain⟨o,B,m,rfl,hl,h0,h1⟩:=trod_struct2 underlying79 h;rw[c0] at hl;simp only[c1,i] at h0 h1;match cs,hl with
 |[a0,E,I,a3,a4],_=>
  simp only[List.drop_zero,List.take_succ_cons,List.take_zero,List.drop_succ_cons] at h0 h1;obtain⟨k,e0,_,_⟩:=DataW.trod_int underlying3 h0;obtain⟨v,j,J⟩:=Ig h1;cases e0;cases j;refine⟨⟨k,v⟩,rfl,?_⟩;simp only[MH,Rows.uptoBulk,Rows.uptoBulkAll];omega
theorem NA{n:Nat}{cs:List Value}{y:DataW H×List MemPlace}(h:DataW.trod enc prog w base spare held n 133 cs=some y):∃x:Chg,Hj w cs x/\Rg x<=Rows.uptoBulk y.1:=by
 have c0:prog.cellsOf 133=6:=by kernel_rfl
 have c1:prog.cellsOf 3=1:=by kernel_rfl
 have B:prog.cellsOf 77=4:=by kernel_rfl
 have E:prog.cellsOf 4=1:=by kernel_rfl
 obtain⟨xs,m,_,rfl,hl,i,j⟩:=DataW.trod_struct underlying133 h;match xs,i with
 |[I,J,O],_=>
  have h0:DataW.trod enc prog w base spare held m 3 ((cs.drop 0).take (prog.cellsOf 3))=some I:=j 0 _ rfl;have h1:DataW.trod enc prog w base spare held m 4 ((cs.drop 1).take (prog.cellsOf 4))=some J:=j 1 _ rfl;have o:DataW.trod enc prog w base spare held m 77 ((cs.drop 2).take (prog.cellsOf 77))=some O:=j 2 _ rfl;rw[c0] at hl;rw[c1] at h0;rw[E] at h1;rw[B] at o;obtain⟨a0,T,U,a3,a4,a5,rfl⟩:=ZO hl
  .clear j;simp only[List.drop_zero,List.take_succ_cons,List.take_zero,List.drop_succ_cons] at h0 h1 o;obtain⟨k,e0,_,_⟩:=DataW.trod_int underlying3 h0;obtain⟨b,Q,_⟩:=DataW.trod_bool underlying4 h1;obtain⟨v,S,V⟩:=Ig o;cases e0;cases Q;cases S;refine⟨⟨k,b,v⟩,rfl,?_⟩;simp only[Rg,List.map_cons,List.map_nil,Rows.uptoBulk,Rows.uptoBulkAll];omega
theorem Lb{n:Nat}{cs:List Value}{y:DataW H×List MemPlace}(h:DataW.trod enc prog w base spare held n 21 cs=some y):∃x:Int,CI w cs x/\1<=Rows.uptoBulk y.1:=by
 obtain⟨k,rfl,e,_⟩:=DataW.trod_int underlying21 h;subst e;exact⟨k,rfl,by simp[Rows.uptoBulk]⟩
theorem KE{n:Nat}{cs:List Value}{y:DataW H×List MemPlace}(h:DataW.trod enc prog w base spare held n 80 cs=some y):∃v l,cs=[v]/\La (fun _=>True) w v l/\l.length+1<=Rows.uptoBulk y.1:=by
 obtain⟨v,l,e,h1,i⟩:=BJ.GH (μ:=fun _:Int=>1) underlying80 (by kernel_rfl) (fun _ _ _ h=>Lb h) h;refine⟨v,l,e,h1,?_⟩;have:(l.map fun _=>1).sum=l.length:=by clear h1 i;induction l with|nil=>rfl|cons a l j=>simp only[List.map_cons,List.sum_cons,List.length_cons,j];omega
 omega
theorem MU{n:Nat}{cs:List Value}{y:DataW H×List MemPlace}(h:DataW.trod enc prog w base spare held n 65 cs=some y):∃x:DKey,Fv w cs x/\1<=Rows.uptoBulk y.1:=by
 have c0:prog.cellsOf 65=6:=by kernel_rfl
 have c1:prog.cellsOf 3=1:=by kernel_rfl
 have O:prog.cellsOf 5=1:=by kernel_rfl
 have o:prog.cellsOf 4=1:=by kernel_rfl
 obtain⟨xs,m,_,rfl,hl,j,i⟩:=DataW.trod_struct underlying65 h;match xs,j with
 |[Q,S,T,U,V,X],_=>
  have h0:DataW.trod enc prog w base spare held m 3 ((cs.drop 0).take (prog.cellsOf 3))=some Q:=i 0 _ rfl;have h1:DataW.trod enc prog w base spare held m 4 ((cs.drop 1).take (prog.cellsOf 4))=some S:=i 1 _ rfl;have B:DataW.trod enc prog w base spare held m 5 ((cs.drop 2).take (prog.cellsOf 5))=some T:=i 2 _ rfl;have E:DataW.trod enc prog w base spare held m 4 ((cs.drop 3).take (prog.cellsOf 4))=some U:=i 3 _ rfl;have I:DataW.trod enc prog w base spare held m 4 ((cs.drop 4).take (prog.cellsOf 4))=some V:=i 4 _ rfl;have J:DataW.trod enc prog w base spare held m 3 ((cs.drop 5).take (prog.cellsOf 3))=some X:=i 5 _ rfl;rw[c0] at hl;rw[c1] at h0;rw[o] at h1;rw[O] at B;rw[o] at E;rw[o] at I;rw[c1] at J;obtain⟨a0,a1,a2,a3,a4,a5,rfl⟩:=ZO hl
  .clear i;simp only[List.drop_zero,List.take_succ_cons,List.take_zero,List.drop_succ_cons] at h0 h1 B E I J;obtain⟨Y,e0,_,_⟩:=DataW.trod_int underlying3 h0;obtain⟨k1,Z,_⟩:=DataW.trod_bool underlying4 h1;obtain⟨k2,e2,_,_⟩:=DataW.trod_int underlying5 B;obtain⟨k3,e3,_⟩:=DataW.trod_bool underlying4 E;obtain⟨k4,e4,_⟩:=DataW.trod_bool underlying4 I;obtain⟨k5,e5,_,_⟩:=DataW.trod_int underlying3 J;cases e0;cases Z;cases e2;cases e3;cases e4;cases e5;refine⟨⟨Y,k1,k2,k3,k4,k5⟩,rfl,?_⟩;simp only[Rows.uptoBulk];omega
theorem Lp{n:Nat}{cs:List Value}{y:DataW H×List MemPlace}(h:DataW.trod enc prog w base spare held n 22 cs=some y):∃v l,cs=[v]/\Lw (fun _=>True) w v l/\l.length+1<=Rows.uptoBulk y.1:=by
 obtain⟨v,l,e,h1,i⟩:=BJ.GH (μ:=fun _:DKey=>1) underlying22 (by kernel_rfl) (fun _ _ _ h=>MU h) h;refine⟨v,l,e,h1,?_⟩;have:(l.map fun _=>1).sum=l.length:=by clear h1 i;induction l with|nil=>rfl|cons a l j=>simp only[List.map_cons,List.sum_cons,List.length_cons,j];omega
 omega
end Go.Proofs.YtmdhibffnkhcnaaGreatDoor
namespace Go.Proofs.YtmdhibffnkhcnaaGreatDoor
open Go Go.K Proofs.Tryz
open Go.ChangeShapes Go.Joins
variable {H:Type}{enc:TypeId×Value->H}{w:World}{base:Nat}{spare:Nat->Bool}{held:Bool}
theorem MQ{n:Nat}{cs:List Value}{y:DataW H×List MemPlace}(h:DataW.trod enc prog w base spare held n 22 cs=some y):∃v l,cs=[v]/\Lw (fun _=>True) w v l:=by
 obtain⟨v,l,e,h1,_⟩:=Lp h;exact⟨v,l,e,h1⟩
end Go.Proofs.YtmdhibffnkhcnaaGreatDoor
namespace Go.Proofs.YtmdhibffnkhcnaaGreatDoor
open Go Go.K Proofs.Tryz
open Go.ChangeShapes Go.WideShapes Go.ChangeAt Go.RowKit Go.Joins
def Tc : List (String × DataW Unit) := [("unicode/utf8.acceptRanges", Rows.laid_unicode_utf8_acceptRanges), ("unicode/utf8.first", Rows.laid_unicode_utf8_first)]
theorem Rl:Rows.laid_unicode_utf8_first=Lib.tabData .u8 (Pinned.utf8FirstZ.map Int.ofNat):=by kernel_rfl
theorem Tu:(List.range 256).all (fun j=>decide (128<=j->(Pinned.utf8FirstZ.map Int.ofNat)[j]?=some (firstT j)))=true:=by decide +kernel
theorem Vy:Rows.laid_unicode_utf8_acceptRanges (H:=Unit)=.agg ((List.range 16).map fun i=>.agg ([accLo i,accHi i].map fun z=>.lit (.int .u8 z))):=by kernel_rfl
theorem Mj{W:World}(h:laidMetH prog Tc W):ET W:=by
 rw[MakeChecks.laidMetH_plain _ _ _ (by kernel_rfl)] at h;have Y:=Lib.laidMet.reads h (.head _);have Z:=Lib.laidMet.reads h (.tail _ (.head _));have hf:∀j:Nat,128<=j->j<256->W.cell? ⟨1,j,none⟩=some (.int .u8 (firstT j)):=by
  intro j Q S;obtain⟨g,t,cs,fuel,p,E,B,o,I⟩:=Z
  obtain rfl := Option.some.inj ((show Tryz.prog.globalNamed "unicode/utf8.first" = some 1 by kernel_rfl).symm.trans E)
  obtain rfl:=Option.some.inj ((show(prog.globals[1]?).map (·.type)=some 381 by kernel_rfl).symm.trans B);rw[Rl] at I;have x:=Lib.cells_of_tab underlying381 underlying5 (by kernel_rfl) (by kernel_rfl) I;have:=World.var?_cell E o j;rw[this,<-Array.getElem?_toList,x];have ha:=List.all_eq_true.1 Tu j (List.mem_range.2 S);rw[decide_eq_true_eq] at ha;rw[List.getElem?_map,ha Q];rfl
 have J:∀j:Nat,j<16->W.cell? ⟨2,j*2,none⟩=some (.int .u8 (accLo j))/\W.cell? ⟨2,j*2+1,none⟩=some (.int .u8 (accHi j)):=by
  intro i U;obtain⟨g,t,cs,fuel,p,E,B,o,I⟩:=Y
  obtain rfl := Option.some.inj ((show Tryz.prog.globalNamed "unicode/utf8.acceptRanges" = some 2 by kernel_rfl).symm.trans E)
  obtain rfl:=Option.some.inj ((show(prog.globals[2]?).map (·.type)=some 384 by kernel_rfl).symm.trans B);rw[Vy] at I;obtain⟨T,d,q,O,he⟩:=Lib.array_elem underlying384 I i U;simp only[List.getElem?_map,List.getElem?_range U,Option.map_some,Option.some.injEq] at O;subst O;have V:prog.cellsOf 383=2:=by kernel_rfl
  rw [V] at he;have x:=Lib.ints_of_struct underlying383 (fun j f y=>by
   match j,y with
   |0,y=>simp at y;subst y;exact⟨underlying5,rfl,by kernel_rfl⟩
   |1,y=>simp at y;subst y;exact⟨underlying5,rfl,by kernel_rfl⟩
   | j+2,y=>simp at y) (by rw [V];rfl) he
  have e0:=congrArg (·[0]?) x;have X:=congrArg (·[1]?) x;simp at e0 X;have w0:=World.var?_cell E o (i*2);have w1:=World.var?_cell E o (i*2+1);rw[w0,w1,<-Array.getElem?_toList,<-Array.getElem?_toList];exact⟨by simpa using e0,by simpa using X⟩
 have:=World.block_lt_of_cell? W _ (J 0 (by decide)).1;exact⟨this,hf,J⟩
noncomputable def Ly(os:Os):World:=
 let w0:=World.holding prog os ⟨#[],#[],[]⟩
 let put (h:Array Obj) (g:Nat) (cs:Array Value):Array Obj:=h.modify g fun
  |.cells _ t frozen=>.cells cs t frozen
  |o=>o
 let h1:=put w0.heap 1 (Pinned.utf8FirstZ.map fun(z:Nat)=>Value.int .u8 (Int.ofNat z)).toArray
 let j:=put h1 2 ((List.range 16).flatMap fun i=>[Value.int .u8 (accLo i),Value.int .u8 (accHi i)]).toArray
 { w0 with heap:=j }
theorem LW(os:Os)(args:Array Value):laidMetH prog Tc ((Ly os).forCall (fun _ _=>0) ⟨#[],args,[]⟩).memory:=by
 rw[MakeChecks.laidMetH_plain _ _ _ (by kernel_rfl)];exact(LaidIn.of_run (l:=Tc) [2,1] 8 (by kernel_rfl) (by kernel_rfl) (by kernel_rfl) (by kernel_rfl)).met
def dj(v:BE):Prop:=(0<=v.kind/\v.kind<256)/\(-9223372036854775808<=v.n/\v.n<=9223372036854775807)/\(0<=v.f/\v.f<18446744073709551616)/\v.s.size<18446744073709551616
variable {H:Type}{enc:TypeId×Value->H}{w:World}{base:Nat}{spare:Nat->Bool}{held:Bool}
theorem HB{k:IntKind}{n:Int}(h:(Lit.int k n).wf=true):k.min<=n/\n<=k.max:=by
 simpa[Lit.wf] using h
theorem IZ{n:Nat}{cs:List Value}{y:DataW H×List MemPlace}(h:DataW.trod enc prog w base spare held n 77 cs=some y):∃x:BE,cs=x.cells/\dj x:=by
 have V:prog.cellsOf 77=4:=by kernel_rfl
 have X:prog.cellsOf 5=1:=by kernel_rfl
 have Y:prog.cellsOf 2=1:=by kernel_rfl
 have Z:prog.cellsOf 75=1:=by kernel_rfl
 have c6:prog.cellsOf 9=1:=by kernel_rfl
 obtain⟨z0,z1,z2,z3,m',_,hl,i,j,o,B⟩:=trod_struct4 underlying77 h;rw[V] at hl;simp only[X,Y,Z,c6] at i j o B;match cs,hl with
 |[a1,a2,a3,a4],_=>
  simp only[List.drop_zero,List.take_succ_cons,List.take_zero,List.drop_succ_cons] at i j o B;obtain⟨I,f0,_,w0⟩:=DataW.trod_int underlying5 i;obtain⟨k1,f1,_,w1⟩:=DataW.trod_int underlying2 j;obtain⟨k2,f2,_,w2⟩:=DataW.trod_int underlying75 o;obtain⟨E,f3,_,J⟩:=DataW.trod_string underlying9 B;cases f0;cases f1;cases f2;cases f3;refine⟨⟨I,k1,k2,E⟩,rfl,?_⟩;have O:=HB w0;have r1:=HB w1;have Q:=HB w2;have S:IntKind.u8.min=0/\IntKind.u8.max=255:=by decide
  have T:IntKind.i64.min=-9223372036854775808/\IntKind.i64.max=9223372036854775807:=by decide
  have U:IntKind.u64.min=0/\IntKind.u64.max=18446744073709551615:=by decide
  rw[S.1,S.2] at O;rw[T.1,T.2] at r1;rw[U.1,U.2] at Q;have r3:E.size<=9223372036854775807:=by
   simp only[Lit.wf,maxLen] at J;simpa using J
  exact⟨⟨O.1,show I<256 by omega⟩,r1,⟨Q.1,show k2<18446744073709551616 by omega⟩,show E.size<18446744073709551616 by omega⟩
end Go.Proofs.YtmdhibffnkhcnaaGreatDoor
namespace Go.K
open Go
theorem BJ.strip{α:Type}{S:Nat->Prop}{k:Nat}{R:World->List Value->α->Prop}{P:α->Prop}{w:World}{v:Value}{l:List α}(h:BJ S k (fun w r x=>R w r x/\P x) w v l):BJ S k R w v l/\∀x∈l,P x:=by
 obtain⟨a,c,e,h1,B,y⟩:=h;refine⟨⟨a,c,e,h1,B,fun i x j=>?_⟩,fun x j=>?_⟩
 .obtain⟨p,r,E,I,J,O,o⟩:=y i x j;exact⟨p,r,E,I,J,O,o.1⟩
 .obtain⟨i,Q⟩:=List.mem_iff_getElem?.1 j;obtain⟨_,_,_,_,_,_,o⟩:=y i x Q;exact o.2
end Go.K
namespace Go.Proofs.YtmdhibffnkhcnaaGreatDoor
open Go Go.K Proofs.Tryz
open Go.ChangeShapes Go.WideShapes Go.ChangeAt Go.RowKit Go.Joins
variable {H:Type}{enc:TypeId×Value->H}{w:World}{base:Nat}{spare:Nat->Bool}{held:Bool}
theorem Lf{n:Nat}{cs:List Value}{y:DataW H×List MemPlace}(h:DataW.trod enc prog w base spare held n 79 cs=some y):∃x:Attr,cs=x.cells/\LP x:=by
 have c0:prog.cellsOf 79=5:=by kernel_rfl
 have c1:prog.cellsOf 3=1:=by kernel_rfl
 have o:prog.cellsOf 77=4:=by kernel_rfl
 obtain⟨E,I,m,_,hl,h0,h1⟩:=trod_struct2 underlying79 h;rw[c0] at hl;simp only[c1,o] at h0 h1;match cs,hl with
 |[a0,J,O,a3,a4],_=>
  simp only[List.drop_zero,List.take_succ_cons,List.take_zero,List.drop_succ_cons] at h0 h1;obtain⟨k,e0,_,w0⟩:=DataW.trod_int underlying3 h0;obtain⟨x,ex,B⟩:=IZ h1;cases e0;have i:=HB w0;have j:IntKind.i64.min=-9223372036854775808/\IntKind.i64.max=9223372036854775807:=by decide
  rw[j.1,j.2] at i;refine⟨⟨k,x⟩,?_,i,B⟩;show _=Value.int .i64 k::x.cells;rw[<-ex]
end Go.Proofs.YtmdhibffnkhcnaaGreatDoor
namespace Go.Proofs.YtmdhibffnkhcnaaGreatDoor
open Go Go.K Proofs.Tryz
open Go.ChangeShapes Go.WideShapes Go.ChangeAt Go.RowKit Go.Joins
variable {H:Type}{enc:TypeId×Value->H}{w:World}{base:Nat}{spare:Nat->Bool}{held:Bool}
theorem RM{x y:Attr}(h:x.cells=y.cells):x=y:=by
 obtain⟨k,v,n,f,s⟩:=x;obtain⟨i,v',j,o,B⟩:=y;simp only[Attr.cells,BE.cells,List.cons.injEq,Value.int.injEq,Value.string.injEq,true_and,and_true] at h;obtain⟨rfl,rfl,rfl,rfl,rfl⟩:=h;rfl
theorem val_inj{x y:BE}(h:x.cells=y.cells):x=y:=by
 obtain⟨v,n,f,s⟩:=x;obtain⟨v',i,j,o⟩:=y;simp only[BE.cells,List.cons.injEq,Value.int.injEq,Value.string.injEq,true_and,and_true] at h;obtain⟨rfl,rfl,rfl,rfl⟩:=h;rfl
theorem XH{α:Type}{μ:α->Nat}{l:List α}{a:α}(h:a∈l):μ a<=(l.map μ).sum:=by
 induction l with
 |nil=>cases h
 |cons b l i=>
  simp only[List.map_cons,List.sum_cons];rcases List.mem_cons.1 h with rfl|h
  .omega
  .have:=i h;omega
end Go.Proofs.YtmdhibffnkhcnaaGreatDoor
