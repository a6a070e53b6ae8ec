/- parts of the proof, written short by a program of ours -/
import Derived.Test.YtbdjachmndlplaaGreatDoorZEngineNone2
set_option maxRecDepth 100000
set_option linter.unusedSimpArgs false
set_option linter.unusedVariables false
set_option linter.defProp false
namespace Go.Proofs.YtbdjachmndlplaaGreatDoor
open Go Proofs.Tryz
variable {w W W' w0:World}{F S:Nat->Prop}{v sv:Value}{most:Int}{cs:List Value}{α:Type}{a:List Dop}{rs:List Int}{K:Cont}{ks:List DKey}{P:Program}
def XD{a:Attr}:(Ky a).length<=50+a.val.s.size:=by
 have h1:=(GP 9 (Hz a.key)).2;have i:=(GP 9 a.val.kind.toNat).2;have j:=(GP 9 (Hz a.val.n)).2;have m:=(GP 9 a.val.f.toNat).2;have o:=(GP 9 a.val.s.size).2;simp only[Ky,BW,uv,DK];omega
def YQ:∀{l:List Attr},(∀a∈l,a.val.s.size<=64)->(Fy l).length<=114*l.length:=by
 intro l;induction l with
 |nil=>intro _;simp[Fy]
 |cons a l i=>
  intro h;have h1:=@XD a;have m:=h a lb;have o:=i λx j=>h x (kx _ j);simp only[Fy,mE,BW,gD] at *;omega
def FY.low{B i:Nat}{l:List Int}(h:FY B w v l)(hb:i<=B):FY i w v l:=h.base λg j=>by have:=(AE.Aj h g j).1;omega
def QP{l:List Attr}(h:Ba S w v l)(hI:∀a∈l,NR a)(hs:∀a∈l,a.val.s.size<=64)(hl:l.length<=64) :
  AB prog 277 [v] (λv' w'=>v'=.string (El l)/\Grow w w') w:=by
 refine uS1 (dB 2256826270532297 [([3,8],[(3,3),(5,5),(8,38)])] []) func277 (λ_ _ _=>⟨by conv=>lhs;reduce,by dsimp only[PI,AF],by kernel_rfl⟩) ?_;unfold uI;obtain⟨a,c,rfl,_⟩:=h.shape;rw[AO];refine AU (λvs W=>∃(i:Nat) (lv:Value),i<=l.length/\vs=[lv,zI i]/\FY w.heap.size W lv (Fy (l.take i))/\Grow w W) (λvs _=>l.length-Dh vs 1)
  ⟨0,_,Nn _,rfl,AE.nil,Mod.refl _ _⟩ ?_
 rintro vs W ⟨i,lv,hi,rfl,U,g⟩ _;simp only[FC];refine G9 (λa7=>?_) λa8=>?_
 .have m:i<l.length:=by omega
  have V:=hI l[i] (ku m);have ak:=hs l[i] (ku m);have a6:(Fy (l.take i)).length<=114*i:=by
   have:=@YQ (l.take i) λa ha=>hs a (lJ ha);rw[Lc] at this;omega
  have X:Fy (l.take (i+1))=Fy (l.take i)++Ky l[i]:=by
   have e:l.take (i+1)=l.take i++[l[i]]:=by rw[S5,Bq m];rfl
   rw[e];unfold Fy;rw[mf];simp only[mE,oq,lA]
  obtain⟨p,r,rfl,_,hr,hc,rfl⟩:=(h.grow g (by decide) λ_ _ h=>h).get m;generalize l[i]=x at *;obtain⟨i1,i2,i3,i4,i5⟩:=V;refine AS m (AV hr (λj u hu=>by rw[Addr.add_add];exact hc j u hu) ?_);refine BH (vs:=x.cells) rfl rfl (CR.one (w:=w) (x:=x) rfl) λb5 W1 al an g5 o _=>?_;have q0:=o 0 _ rfl;have q1:=o 1 _ rfl;have q2:=o 2 _ rfl;have q3:=o 3 _ rfl;have q4:=o 4 _ rfl;have B:=g.trans g5;have o1:FY w.heap.size W1 lv (Fy (l.take i)):=AE.mod U g5 (λ_ _ h=>h) λ_ _ _ h=>h;rw[AH];refine AJ q0 ?_;refine AA (TS o1.sl (by omega) i1.1 i1.2) ?_;rintro v2 W2 ⟨o2,g2⟩;have q:∀n,(uv n).length<=10:=λn=>(GP 9 n).2;have u1:=q (Hz x.key);have u2:=q x.val.kind.toNat;have u3:=q (Hz x.val.n);have u4:=q x.val.f.toNat;rw[AH,AH,Addr.add_add];refine AJ (g2.cell q1 λh=>h) ?_;refine AX (EG (k:=.u64) W2 (by kernel_rfl) (by kernel_rfl)) ?_;rw[Fi ⟨i2.1,by omega⟩];have ek:(Value.int .u64 x.val.kind)=.int .u64 ((x.val.kind.toNat:Nat):Int):=by rw[Int.toNat_of_nonneg i2.1]
  rw[ek];refine AA (KF o2.sl (by simp only[BW];omega) (by omega)) ?_;rintro v3 W3 ⟨o3,g3⟩;have I:=g2.trans g3;rw[AH,AH,Addr.add_add];refine AJ (I.cell q2 λh=>h) ?_;refine AA (TS o3.sl (by simp only[BW];omega) i3.1 i3.2) ?_;rintro v4 W4 ⟨o4,g4⟩;have J:=I.trans g4;rw[AH,AH,Addr.add_add];refine AJ (J.cell q3 λh=>h) ?_;have ef:(Value.int .u64 x.val.f)=.int .u64 ((x.val.f.toNat:Nat):Int):=by rw[Int.toNat_of_nonneg i4.1]
  rw[ef];refine AA (KF o4.sl (by simp only[BW];omega) (by omega)) ?_;rintro v5 W5 ⟨o5,Y⟩;have O:=J.trans Y;rw[AH,AH,Addr.add_add];refine AJ (O.cell q4 λh=>h) ?_;refine Pj (by omega) λv6 W6 g6 Z=>?_;have Q:=O.trans g6;have o6:FY W4.heap.size W6 v5 _:=AE.mod (R':=H9) o5 g6 (λ_ _ h=>h) λ_ _ _ h=>h;refine AA (Vu o6.sl Z (by simp only[BW,DK];omega)) ?_;rintro v7 W7 ⟨o7,g7⟩;have a1:=Q.trans g7;rw[AM,AK (by omega)];refine⟨⟨i+1,v7,m,rfl,?_,B.trans a1⟩,by rw[Ar,Ar];omega⟩;rw[X];have e7:Fy (l.take i)++Ky x=Fy (l.take i)++uv (Hz x.key)++uv x.val.kind.toNat++uv (Hz x.val.n)++uv x.val.f.toNat++(uv (Bm x.val.s).length++Bm x.val.s):=by
   rw[DK];simp only[Ky,P9]
  rw[e7];exact o7.low (lx B.size Q.size)
 .have:i=l.length:=by omega
  subst this;rw[S7] at U;exact AX (Tk U.sl (Kl hI)) ⟨rfl,g⟩
def Ln{D S:Nat->Prop}{l:List Attr}(hS:CK D w sv ks)(h:Ba S w v l)(hT:EA w)(hI:∀a∈l,0<=a.val.f) :
  AB prog 258 [sv,v] (λv' w'=>v'=zI (BY ks l)/\Grow w w') w:=by
 classical
 refine uS2 (dB 37862157583722626683993 [([5,13],[(4,7),(13,46)]),([18],[(18,37)])] [(dC [16] [0,1,3,7,7,23,63,127,255,7,519,2047,4095,8191,16383,32767,65535,131071,262143,524287] [])]) func258 (λ_ _ _ _=>⟨by conv=>lhs;reduce,by dsimp only[PI,AF],by kernel_rfl⟩) ?_;unfold uI;obtain⟨a,c,rfl,hm⟩:=h.shape;simp only[maxLen] at hm;have Z:∀w',Grow w w'->KZ l->zI 3=zI (BY ks l)/\Grow w w':=λw' g hb=>⟨by rw[BY,DN hb],g⟩;rw[AO,BE];refine AD (λh6=>Z _ (Mod.refl _ _) (.inr (.inl (by omega)))) λh6=>?_;rw[AO];refine AU (λvs W=>∃i:Nat,i<=l.length/\vs=[zI (if G8 ks (l.take i) then 4 else 0),zI i]/\Grow w W/\(∀a∈l.take i,DT a.val)/\Nc Attr.key l i) (λvs _=>l.length-Dh vs 1)
  ⟨0,Nn _,by rw[Bp (by rintro⟨a,ha,_⟩;simp at ha)];rfl,Mod.refl _ _,by simp,λj hj=>by omega⟩ ?_
 rintro vs W ⟨i,hi,rfl,g,hv,Q⟩ _;simp only[FC];refine G9 (λb6=>?_) λa8=>?_
 .have m:i<l.length:=by omega
  obtain⟨p,r,rfl,_,hr,hc,rfl⟩:=(h.grow g (by decide) λ_ _ h=>h).get m;refine AS m (AV hr (λj u hu=>by rw[Addr.add_add];exact hc j u hu) ?_);refine BH (vs:=l[i].cells) rfl rfl (CR.one (w:=w) (x:=l[i]) rfl) λb7 V b8 b9 g7 I _=>?_;have B:=g.trans g7;have a1:=hI l[i] (ku m);have e1:l.take (i+1)=l.take i++[l[i]]:=by rw[S5,Bq m];rfl
  refine AR (λvs W2=>Grow V W2/\((vs=[.bool true]/\KZ l)\/(vs=[.bool false]/\DT l[i].val/\Nc Attr.key l (i+1)))) ?_ ?_
  .rintro vs W2 ⟨X,ak⟩ _;rcases ak with⟨rfl,hb⟩|⟨rfl,q,J⟩
   .exact AQ (Z _ (B.trans X) hb)
   .refine AL ?_;rw[AH];refine AJ (X.cell (I 0 _ rfl) λh=>h) ?_;rw[AH];refine AV (vs:=l[i].val.cells) rfl (λj u hu=>X.cell (by rw[Addr.add_add];exact I (1+j) u (by rw[qC];exact hu)) λh=>h) ?_;refine AA (P6 (hS.grow (B.trans X)) (hT.grow (B.trans X)) a1) ?_;rintro _ W3 ⟨rfl,g3⟩;have a6:=(B.trans X).trans g3;rw[Ah];have a7:∀a∈l.take (i+1),DT a.val:=λa ha=>by
     rw[e1] at ha;rcases By.1 ha with ha|ha
     .exact hv a ha
     .simp at ha;subst ha;exact q
    by_cases o:Gy ks l[i].key l[i].val
    .rw[lq o];refine AL ?_;rw[AM,AK (by omega)];refine⟨⟨i+1,m,?_,a6,a7,J⟩,by rw[Ar,Ar];omega⟩;have e:G8 ks (l.take (i+1))↔G8 ks (l.take i):=by
      unfold G8;rw[e1];constructor
      .rintro⟨a,ha,hn⟩;rcases By.1 ha with ha|ha
       .exact⟨a,ha,hn⟩
       .simp at ha;subst ha;exact absurd o hn
      .rintro⟨a,ha,hn⟩;exact⟨a,lC _ ha,hn⟩
     simp only[e]
    .rw[lh o];refine AQ ?_;rw[AM,AK (by omega)];refine⟨⟨i+1,m,?_,a6,a7,J⟩,by rw[Ar,Ar];omega⟩;rw[DN (show G8 ks (l.take (i+1)) from⟨l[i],by rw[e1];exact lE _ (S6.2 rfl),o⟩)]
  .refine AT (λ_ _=>False) ?_;have Y:Grow V V.drew:=Mod.drew _ _;have U:Nc Attr.key l (i+1)->BC 1 (.pointer (some (⟨b7,0,none⟩:Addr))) λal=>GD (Uh [16] [[],[0],[0,1],[0,1,2],[0,1,2],[0,1,2,4],[0,1,2,3,4,5],[0,1,2,3,4,5,6],[0,1,2,3,4,5,6,7],[0,1,2],[0,1,2,9],[0,1,2,3,4,5,6,7,8,9,10],[0,1,2,3,4,5,6,7,8,9,10,11],[0,1,2,3,4,5,6,7,8,9,10,11,12],[0,1,2,3,4,5,6,7,8,9,10,11,12,13],[0,1,2,3,4,5,6,7,8,9,10,11,12,13,14],[0,1,2,3,4,5,6,7,8,9,10,11,12,13,14,15],[0,1,2,3,4,5,6,7,8,9,10,11,12,13,14,15,16],[0,1,2,3,4,5,6,7,8,9,10,11,12,13,14,15,16,17],[0,1,2,3,4,5,6,7,8,9,10,11,12,13,14,15,16,17,18]] (λ_ _=>False) V.drew 15) 4 al λan=>
     AB prog 130 [an] (λav w9=>Mod (λ_=>False) V.drew w9/\Ke av λax=>(λvs W2=>Grow V W2/\((vs=[.bool true]/\KZ l)\/(vs=[.bool false]/\DT l[i].val/\Nc Attr.key l (i+1)))) [ax] w9) V.drew:=by
    intro J;rw[AH];refine CG (vs:=l[i].val.cells) rfl (λj u hu=>⟨Y.cell (by rw[Addr.add_add];exact I (1+j) u (by rw[qC];exact hu)) λh=>h,λ_ _ h=>h⟩) ?_;refine AA (Ox (hT.grow (B.trans Y)) a1) ?_;rintro _ W3 ⟨rfl,g3⟩;refine⟨g3,?_⟩;rw[Ah];refine⟨Y.trans g3,?_⟩;by_cases q:DT l[i].val
    .exact .inr ⟨by rw[lq q];rfl,q,J⟩
    .exact .inl ⟨by rw[lh q];rfl,.inr (.inr ⟨l[i],ku m,q⟩)⟩
   rw[BE];refine AD (λay=>?_) λay=>U (λj hj=>by omega);rw[Am,wrap64 (by omega) (by omega),show((i:Int)-1)=((i-1:Nat):Int) by omega];have O:i-1<l.length:=by omega
   obtain⟨_,r2,e2,_,ba,aZ,rfl⟩:=(h.grow g (by decide) λ_ _ h=>h).get O;cases e2;refine AS O ?_;rw[AH,Addr.add_add];refine AP ⟨(g7.trans Y).cell (aZ 0 _ rfl) λh=>h,λ_ _ h=>h⟩ ?_;rw[AH];refine AP ⟨Y.cell (I 0 _ rfl) λh=>h,λ_ _ h=>h⟩ ?_;rw[Cu];refine AD (λa8=>⟨Y,.inl ⟨rfl,.inl λhr=>?_⟩⟩) λb2=>U ?_
   .have:=hr i (by omega) m _ _ (Bq O) (Bq m);omega
   .intro j b0 bb x y hx hy;by_cases b1:j<i
    .exact Q j b0 b1 x y hx hy
    .have:j=i:=by omega
     subst this;rw[Bq O] at hx;rw[Bq m] at hy;cases hx;cases hy;omega
 .have:i=l.length:=by omega
  subst this;rw[S7] at hv;refine⟨?_,g⟩;have ok:¬KZ l:=by
   rintro(h|h|⟨a,ha,h⟩)
   .exact h Q
   .omega
   .exact h (hv a ha)
  rw[S7,BY,Bp ok]
def An.strip{k:Nat}{R:World->List Value->α->Prop}{P:α->Prop}{l:List α}(h:An S k (λw r x=>R w r x/\P x) w v l):An S k R w v l/\∀x∈l,P x:=by
 obtain⟨a,c,e,h1,q,o⟩:=h;refine⟨⟨a,c,e,h1,q,λi x j=>?_⟩,λx j=>?_⟩
 .obtain⟨p,r,B,I,J,O,m⟩:=o i x j;exact⟨p,r,B,I,J,O,m.1⟩
 .obtain⟨i,hi⟩:=lz.1 j;obtain⟨_,_,_,_,_,_,m⟩:=o i x hi;exact m.2
section
open Go.ChangeShapes Go.WideShapes Go.ChangeAt Go.RowKit Go.Joins
variable {H:Type}{enc:TypeId×Value->H}{w:World}{base:Nat}{spare:Nat->Bool}{held:Bool}
def Nh{n:Nat}{y:DataW H×List MemPlace}(h:DataW.trod enc prog w base spare held n 83 cs=some y):∃x:Attr,cs=x.cells/\NR x:=by
 have c0:prog.cellsOf 83=5:=by kernel_rfl
 have c1:prog.cellsOf 3=1:=by kernel_rfl
 have c2:prog.cellsOf 54=4:=by kernel_rfl
 obtain⟨q,B,m,_,hl,h0,h1⟩:=trod_struct2 underlying83 h;rw[c0] at hl;simp only[c1,c2] at h0 h1;match cs,hl with
 |[a0,I,J,a3,a4],_=>
  simp only[mz,nL,nx,nN] at h0 h1;obtain⟨k,e0,_,w0⟩:=mK underlying3 h0;obtain⟨x,ex,o⟩:=Jl h1;cases e0;have i:=HA w0;have j:IntKind.i64.min=-9223372036854775808/\IntKind.i64.max=9223372036854775807:=by decide
  rw[j.1,j.2] at i;refine⟨⟨k,x⟩,?_,i,o⟩;show _=zI k::x.cells;rw[<-ex]
end
def WU(r:Int):List Int:=
 if r<128 then[r] else if r<2048 then[192+r/64,128+r%64] else if r<65536 then[224+r/4096,128+r/64%64,128+r%64]
 else[240+r/262144,128+r/4096%64,128+r/64%64,128+r%64]
def QB(l:List Int):List Int:=l.flatMap WU
def Ya(r:Int):1<=(WU r).length/\(WU r).length<=4:=by
 unfold WU;split
 .simp
 split
 .simp
 split<;>simp
abbrev Ld(l:List Chg):Prop:=l.Pairwise λa b=>a.key<b.key
abbrev Fw(l:List Attr):Prop:=l.Pairwise λa b=>a.key<b.key
def Ju(c:Chg):List Attr->List Attr
 |[]=>[]
 |a::s=>if a.key<c.key then a::Ju c s else[]
def Ey(c:Chg):List Attr->List Attr
 |[]=>[]
 |a::s=>if a.key<c.key then Ey c s else if a.key=c.key then s else a::s
def Mb(c:Chg):List Attr:=if c.gone then[] else[⟨c.key,c.val⟩]
def BZ:List Attr->List Chg->List Attr
 |s,[]=>s
 |s,c::p=>Ju c s++Mb c++BZ (Ey c s) p
def HK{c:Chg}{p:List Attr}{x:Attr}(h:x∈Ju c p):x∈p/\x.key<c.key:=by
 induction p with
 |nil=>simp[Ju] at h
 |cons a p i=>
  simp only[Ju] at h;split at h
  .rcases Mp.1 h with rfl|h
   .exact⟨by simp,by assumption⟩
   .exact⟨by simp[(i h).1],(i h).2⟩
  .simp at h
def Vy{c:Chg}{p:List Attr}{x:Attr}(h:x∈Ey c p):x∈p:=by
 induction p with
 |nil=>simp[Ey] at h
 |cons a p i=>
  simp only[Ey] at h;split at h
  .simp[i h]
  .split at h
   .simp[h]
   .exact h
def MO{c:Chg}{p:List Attr}(hp:Fw p){x:Attr}(h:x∈Ey c p):c.key<x.key:=by
 induction p with
 |nil=>simp[Ey] at h
 |cons a p i=>
  rw[Fw,mb] at hp;simp only[Ey] at h;split at h
  .exact i hp.2 h
  .split at h
   .have:=hp.1 x h;omega
   .rcases Mp.1 h with rfl|h
    .omega
    .have:=hp.1 x h;omega
def Yl{c:Chg}{p:List Attr}(hp:Fw p):Fw (Ju c p):=by
 induction p with
 |nil=>exact List.Pairwise.nil
 |cons a p i=>
  rw[Fw,mb] at hp;simp only[Ju];split
  .exact mb.2 ⟨λx j=>hp.1 x (HK j).1,i hp.2⟩
  .exact List.Pairwise.nil
def ON{c:Chg}{p:List Attr}(hp:Fw p):Fw (Ey c p):=by
 induction p with
 |nil=>exact List.Pairwise.nil
 |cons a p j=>
  have i:=hp;rw[Fw,mb] at hp;simp only[Ey];split
  .exact j hp.2
  .split
   .exact hp.2
   .exact i
def L6{c:Chg}{x:Attr}(h:x∈Mb c):c.gone=false/\x=⟨c.key,c.val⟩:=by
 unfold Mb at h;split at h
 .simp at h
 .rename_i i;exact⟨by simpa using i,by simpa using h⟩
def NO{s:List Attr}{p:List Chg}{x:Attr}(h:x∈BZ s p):x∈s\/∃c∈p,c.gone=false/\x=⟨c.key,c.val⟩:=by
 induction p generalizing s with
 |nil=>exact .inl h
 |cons c p i=>
  simp only[BZ] at h;rcases By.1 h with h|h
  .rcases By.1 h with h|h
   .exact .inl (HK h).1
   .exact .inr ⟨c,by simp,L6 h⟩
  .rcases i h with h|⟨d,j,h⟩
   .exact .inl (Vy h)
   .exact .inr ⟨d,by simp[j],h⟩
def Jo{s:List Attr}{p:List Chg}(i:Fw s)(hp:Ld p):Fw (BZ s p):=by
 induction p generalizing s with
 |nil=>exact i
 |cons c p j=>
  rw[Ld,mb] at hp;simp only[BZ];have m:∀x∈BZ (Ey c s) p,c.key<x.key:=λx o=>by
   rcases NO o with h|⟨d,q,_,rfl⟩
   .exact MO i h
   .exact hp.1 d q
  refine qO.2 ⟨qO.2 ⟨Yl i,?_,λa ha b hb=>?_⟩,j (ON i) hp.2,λa ha b hb=>?_⟩
  .unfold Mb;split
   .exact List.Pairwise.nil
   .exact List.pairwise_singleton _ _
  .obtain⟨_,rfl⟩:=L6 hb;exact(HK ha).2
  .have B:=m b hb;rcases By.1 ha with h|h
   .have:=(HK h).2;omega
   .obtain⟨_,rfl⟩:=L6 h;exact B
def kT{key:α->Int}{l:List α}{ids:List Int}(h:l.Pairwise λa b=>key a<key b)(hm:∀x∈l,key x∈ids):l.length<=ids.length:=by
 induction l generalizing ids with
 |nil=>simp
 |cons a l j=>
  rw[mb] at h;have ha:=hm a (by simp);have:=j (ids:=ids.erase (key a)) h.2 λx i=>by
   rw[ri]
   .exact hm x (by simp[i])
   .have:=h.1 x i;omega
  rw[qy ha] at this;have:0<ids.length:=qB ha;simp only[gD];omega
def Wo{key:α->Int}{l:List α}(h:∀i,1<=i->i<l.length->∀a b,l[i-1]?=some a->l[i]?=some b->key a<key b):l.Pairwise λa b=>key a<key b:=by
 rw[nE];intro i j hi m o;obtain⟨d,rfl⟩:∃d,j=i+1+d:=⟨j-i-1,by omega⟩;clear o;induction d with
 |zero=>exact h (i+1) (by omega) m _ _ (by simp) (Bq m)
 |succ d q=>
  have:=q (by omega);have:=h (i+1+d+1) (by omega) m (l[i+1+d]'(by omega)) _ (by simp) (Bq m);simp only[mo] at *;omega
def ZK{key:α->Int}{l:List α}(h:l.Pairwise λa b=>key a<key b):∀i,1<=i->i<l.length->∀a b,l[i-1]?=some a->l[i]?=some b->key a<key b:=by
 intro i h1 j a b ha hb;rw[nE] at h;have:=h (i-1) i (by omega) j (by omega);rw[Bq (by omega)] at ha;rw[Bq j] at hb;cases ha;cases hb;exact this
structure GJ where
 done:List Dop
 ins:List Dop
 gone:Int
def GJ.z:GJ:=⟨[],[],0⟩
def A6(ins:List Dop)(gone:Int):List Dop:=if 0<gone then ins++[⟨3,gone,[],[],[]⟩] else ins
def FU(d:List Dop)(n:Int)(p:List Chg):List Dop:=
 match d.getLast? with
 |some o=>if o.kind=1/\o.patch=p then d.set (d.length-1) ⟨o.kind,IntKind.i64.wrap (o.n+n),o.Ab,o.set,o.patch⟩ else d++[⟨1,n,[],[],p⟩]
 |none=>d++[⟨1,n,[],[],p⟩]
def KQ(s:GJ)(n:Int)(p:List Chg):GJ:=if n<1 then s else⟨FU (s.done++A6 s.ins s.gone) n p,[],0⟩
def Ff(ins:List Dop)(rs:List Int)(set:List Attr):List Dop:=
 match ins.getLast? with
 |some o=>if o.set=set then ins.set (ins.length-1) ⟨o.kind,o.n,o.Ab++rs,o.set,o.patch⟩ else ins++[⟨2,0,rs,set,[]⟩]
 |none=>ins++[⟨2,0,rs,set,[]⟩]
def NM(s:GJ)(rs:List Int)(set:List Attr):GJ:=if rs=[] then s else⟨s.done,Ff s.ins rs set,s.gone⟩
def RX(s:GJ)(n:Int):GJ:=⟨s.done,s.ins,IntKind.i64.wrap (s.gone+KM n 0)⟩
def Bu(s:GJ)(o:Dop):GJ:=if o.kind=1 then KQ s o.n o.patch else if o.kind=2 then NM s o.Ab o.set else RX s o.n
def EH(l:List Dop):List Dop:=match l.getLast? with|some o=>if o.kind=1/\o.patch=[] then l.dropLast else l|none=>l
def QI(s:GJ):List Dop:=EH (s.done++A6 s.ins s.gone)
def BG(x:List Dop):GJ:=x.foldl Bu GJ.z
def BV(x:List Dop):List Dop:=QI (BG x)
def FT(o:Dop):Prop:=(o.kind=1/\o.Ab=[]/\o.set=[]/\1<=o.n/\o.n<=536870912)\/(o.kind=3/\o.Ab=[]/\o.set=[]/\o.patch=[]/\1<=o.n/\o.n<=536870912)\/(o.kind=2/\o.n=0/\o.patch=[]/\o.Ab≠[])
inductive Ew:List Dop->Prop
 |nil:Ew []
 |snoc (i:List Dop) (rs:List Int) (set:List Attr) (h:Ew i) (hr:rs≠[]) (hs:∀q,i.getLast?=some q->q.set≠set):Ew (i++[⟨2,0,rs,set,[]⟩])
inductive EP:List Dop->Prop
 |nil:EP []
 |snoc (d ins:List Dop) (gone n:Int) (p:List Chg) (h:EP d) (hi:Ew ins) (hg:0<=gone) (hb:gone<=4611686018427387904) (hn:1<=n) (hp:ins=[]->gone=0->∀q,d.getLast?=some q->q.patch≠p):EP (d++A6 ins gone++[⟨1,n,[],[],p⟩])
def Ew.add(h:Ew a)(hr:rs≠[])(set:List Attr):Ew (Ff a rs set):=by
 cases h with
 |nil=>exact Ew.snoc [] rs set .nil hr λq B=>by simp at B
 |snoc i m j h o I=>
  unfold Ff;simp only[cq,kY,lu];by_cases e:j=set
  .rw[DN e];have:(i++[(⟨2,0,m,j,[]⟩:Dop)]).set ((i++[(⟨2,0,m,j,[]⟩:Dop)]).length-1) ⟨2,0,m++rs,j,[]⟩=i++[⟨2,0,m++rs,j,[]⟩]:=by simp
   rw[this];exact Ew.snoc i _ j h (by simp[o]) I
  .rw[Bp e];exact Ew.snoc _ rs set (Ew.snoc i m j h o I) hr λq B=>by
    simp only[cq,kY,lu,gM] at B;subst B;exact e
def Ew.kinds(h:Ew a):∀o∈a,o.kind=2:=by
 induction h with
 |nil=>intro o j;simp at j
 |snoc i rs set h hr q m=>
  intro o j;rcases By.1 j with j|j
  .exact m o j
  .simp at j;subst j;rfl
def Ew.run(h:Ew a)(d:List Dop)(g:Int):a.foldl Bu ⟨d,[],g⟩=⟨d,a,g⟩:=by
 induction h with
 |nil=>rfl
 |snoc i rs set h hr j m=>
  rw[mY,m];simp only[mr,pN,Bu,show ¬(2:Int)=1 by decide,mF,lW,NM,Bp hr,Ff];cases e:i.getLast? with
  |none=>rfl
  |some q=>simp only;rw[Bp (j q e)]
def Ic(h:Ew a):∀o,(A6 a most).getLast?=some o->o.kind≠1:=by
 intro o i;unfold A6 at i;split at i
 .simp only[cq,kY,lu,gM] at i;subst i;intro h;cases h
 .have:=h.kinds o (nP i);omega
def Ji(h0:0<=most)(h:A6 a most=[]):a=[]/\most=0:=by
 unfold A6 at h;split at h
 .simp at h
 .exact⟨h,by omega⟩
def MH{d g:List Dop}:(d++g).getLast?=match g.getLast? with|some o=>some o|none=>d.getLast?:=by
 rw[cq];cases g.getLast?<;>rfl
def TQ(h:Ew a)(d:List Dop){g:Int}(i:0<=g)(hb:g<=4611686018427387904):(A6 a g).foldl Bu ⟨d,[],0⟩=⟨d,a,g⟩:=by
 unfold A6;split
 .rw[mY,h.run];simp only[mr,pN,Bu,show ¬(3:Int)=1 by decide,show ¬(3:Int)=2 by decide,lW,RX];have:KM g 0=g:=by unfold KM;rw[Bp (by omega)]
  rw[this,wrap64 (by omega) (by omega)];congr 1;omega
 .rw[h.run];congr 1;omega
def TR{d g:List Dop}{n:Int}{p:List Chg}(h1:∀o,g.getLast?=some o->o.kind≠1)(i:g=[]->∀q,d.getLast?=some q->q.patch≠p):FU (d++g) n p=d++g++[⟨1,n,[],[],p⟩]:=by
 unfold FU;rw[MH];cases e:g.getLast? with
 |some o=>simp only;rw[Bp (λh=>h1 o e h.1)]
 |none=>
  have:g=[]:=ns.1 e;subst this;simp only[lA];cases j:d.getLast? with
  |none=>rfl
  |some q=>simp only;rw[Bp (λh=>i rfl q j h.2)]
def EP.run{d:List Dop}(h:EP d):d.foldl Bu GJ.z=⟨d,[],0⟩:=by
 induction h with
 |nil=>rfl
 |snoc d ins gone n p h hi i hb m hp j=>
  rw[mY,mY,j,TQ hi d i hb];simp only[mr,pN,Bu,mF,KQ,Bp (show ¬n<1 by omega)];rw[TR (Ic hi) λe=>hp (Ji i e).1 (Ji i e).2]
def Ev(l:List Dop):Int:=(l.map (·.n)).sum
def Cr(l m:List Dop):Ev (l++m)=Ev l+Ev m:=by simp[Ev]
def Ej(o:Dop):Ev [o]=o.n:=by simp[Ev]
def Ew.sum(h:Ew a):Ev a=0:=by
 induction h with
 |nil=>rfl
 |snoc i rs set h hr m j=>rw[Cr,Ej,j];rfl
def HJ{g:Int}(h:Ew a)(i:0<=g):Ev (A6 a g)=g:=by
 unfold A6;split
 .rw[Cr,Ej,h.sum];simp
 .rw[h.sum];omega
def EP.nn{d:List Dop}(h:EP d):0<=Ev d:=by
 induction h with
 |nil=>simp[Ev]
 |snoc d ins gone n p h hi i hb j hp m=>rw[Cr,Cr,Ej,HJ hi i];simp only;omega
structure Canon (s:GJ) (t:Int):Prop where
 done:EP s.done
 ins:Ew s.ins
 gone:0<=s.gone
 sum:Ev s.done+s.gone=t
def Canon.step{s:GJ}{t:Int}(h:Canon s t){o:Dop}(ho:FT o)(ht:t+o.n<=4611686018427387904):Canon (Bu s o) (t+o.n):=by
 obtain⟨done,ins,gone⟩:=s;obtain⟨h1,J,Q,X⟩:=h;simp only at h1 J Q X;obtain⟨k,n,rs,set,p⟩:=o;have a6:=h1.nn;rcases ho with⟨m,O,U,j,Z⟩|⟨m,O,U,j,Z,e6⟩|⟨m,O,U,j⟩
 .simp only at m O U j Z ht;subst m;simp only[Bu,mF,KQ,Bp (show ¬n<1 by omega)];have key:EP (FU (done++A6 ins gone) n p)/\Ev (FU (done++A6 ins gone) n p)=t+n:=by
   by_cases i:A6 ins gone=[]
   .obtain⟨e8,e9⟩:=Ji Q i;subst e8;subst e9;rw[i,lA];cases h1 with
    |nil=>exact⟨EP.snoc [] [] 0 n p .nil .nil (by omega) (by omega) j λ_ _ q Y=>by simp at Y,by simp only[FU,qv,Cr,Ej] at X ⊢;omega⟩
    |snoc d ins gone I B h hi V hb hn hp=>
     unfold FU;rw[cq,kY,lu];simp only[pr];rw[Cr,Cr,Ej,HJ hi V] at X;simp only at X;have a7:=h.nn;by_cases e:B=p
     .rw[DN e];have a1:(d++A6 ins gone++[(⟨1,I,[],[],B⟩:Dop)]).set ((d++A6 ins gone++[(⟨1,I,[],[],B⟩:Dop)]).length-1) ⟨1,IntKind.i64.wrap (I+n),[],[],B⟩=d++A6 ins gone++[⟨1,IntKind.i64.wrap (I+n),[],[],B⟩]:=by
       rw[mJ _ _ (by simp)];simp
      rw[a1,wrap64 (by omega) (by omega)];refine⟨EP.snoc d ins gone (I+n) B h hi V hb (by omega) hp,?_⟩;rw[Cr,Cr,Ej,HJ hi V];simp only;omega
     .rw[Bp e];have:=EP.snoc (d++A6 ins gone++[⟨1,I,[],[],B⟩]) [] 0 n p (EP.snoc d ins gone I B h hi V hb hn hp) .nil (by omega) (by omega) j λ_ _ q Y=>by
       rw[cq,kY,lu] at Y;cases Y;exact e
      simp only[A6,show ¬(0:Int)<0 by decide,lW,lA] at this;refine⟨this,?_⟩;simp only[Cr,Ej,HJ hi V];omega
   .rw[TR (Ic J) λe=>(i e).elim];refine⟨EP.snoc done ins gone n p h1 J Q (by omega) j λe8 e9=>(i (by subst e8;subst e9;rfl)).elim,?_⟩;rw[Cr,Cr,Ej,HJ J Q];simp only;omega
  exact⟨key.1,.nil,by simp,by simp only;omega⟩
 .simp only at m O U j Z e6 ht;subst m;simp only[Bu,show ¬(3:Int)=1 by decide,show ¬(3:Int)=2 by decide,lW,RX];have:KM n 0=n:=by unfold KM;rw[Bp (by omega)]
  rw[this,wrap64 (by omega) (by omega)];exact⟨h1,J,by simp only;omega,by simp only;omega⟩
 .simp only at m O U j ht;subst m;subst O;simp only[Bu,show ¬(2:Int)=1 by decide,mF,lW,NM,Bp j];exact⟨h1,J.add j set,Q,by simp only;omega⟩
def FT.nn{o:Dop}(h:FT o):0<=o.n/\o.n<=536870912:=by
 rcases h with⟨_,_,_,h,h'⟩|⟨_,_,_,_,h,h'⟩|⟨_,h,_⟩<;>omega
def Il(x:List Dop)(h:∀o∈x,FT o):0<=Ev x/\Ev x<=x.length*536870912:=by
 induction x with
 |nil=>simp[Ev]
 |cons o x i=>
  have h1:=i λo j=>h o (by simp[j]);have m:=(h o (by simp)).nn;have:Ev (o::x)=o.n+Ev x:=by simp[Ev]
  rw[this];simp only[gD];omega
def Ih(x:List Dop)(h:∀o∈x,FT o)(hl:x.length<=8589934592):Canon (BG x) (Ev x):=by
 induction x using Ij with
 |h0=>exact⟨.nil,.nil,by decide,by decide⟩
 |h1 x o m=>
  have j:∀o∈x,FT o:=λo i=>h o (by simp[i]);have i:=h o (by simp);simp only[BW,gD,lX] at hl;have h1:=m (λo i=>j o i) (by omega);have q:=Il x λo i=>j o i;have B:=i.nn;unfold BG at h1 ⊢;rw[mY,Cr,Ej];exact h1.step i (by omega)
def YJ{d ins:List Dop}{g:Int}(Q:EP d)(hi:Ew ins)(U:0<=g)(hb:g<=4611686018427387904):BV (EH (d++A6 ins g))=EH (d++A6 ins g):=by
 have same:∀(d ins:List Dop) (g:Int),EP d->Ew ins->0<=g->g<=4611686018427387904->BV (d++A6 ins g)=EH (d++A6 ins g):=by
  intro d ins g Q hi U hb;unfold BV BG QI;rw[mY,Q.run,TQ hi d U hb]
 by_cases j:A6 ins g=[]
 .rw[j,lA];cases Q with
  |nil=>rfl
  |snoc d i g' n p h m B J X hp=>
   by_cases e:p=[]
   .subst e;have I:EH (d++A6 i g'++[(⟨1,n,[],[],[]⟩:Dop)])=d++A6 i g':=by
     unfold EH;rw[cq,kY,lu];simp only[and_self,mF,mW]
    rw[I,same d i g' h m B J];unfold EH;rw[MH];cases O:(A6 i g').getLast? with
    |some o=>simp only;rw[Bp (λh=>Ic m o O h.1)]
    |none=>
     have V:A6 i g'=[]:=ns.1 O;obtain⟨Y,Z⟩:=Ji B V;rw[V,lA];simp only;cases e6:d.getLast? with
     |none=>rfl
     |some q=>simp only;rw[Bp (λh=>hp Y Z q e6 h.2)]
   .have hD:=EP.snoc d i g' n p h m B J X hp;have I:EH (d++A6 i g'++[(⟨1,n,[],[],p⟩:Dop)])=d++A6 i g'++[⟨1,n,[],[],p⟩]:=by
     unfold EH;rw[cq,kY,lu];simp only[e,and_false,lW]
    rw[I];have:=same _ [] 0 hD .nil (by omega) (by omega);simp only[A6,show ¬(0:Int)<0 by decide,lW,lA] at this;exact this.trans I
 .have I:EH (d++A6 ins g)=d++A6 ins g:=by
   unfold EH;rw[MH];cases O:(A6 ins g).getLast? with
   |some o=>simp only;rw[Bp (λh=>Ic hi o O h.1)]
   |none=>exact(j (ns.1 O)).elim
  rw[I,same d ins g Q hi U hb,I]
def Sj(x:List Dop)(h:∀o∈x,FT o)(hl:x.length<=8589934592):BV (BV x)=BV x:=by
 have c:=Ih x h hl;have i:=Il x h;have j:=c.done.nn;have m:=c.sum;exact YJ c.done c.ins c.gone (by omega)
def Bg(l:List Dop):Nat:=(l.map λo=>o.Ab.length).sum
def Cc(l:List Dop):Int:=(l.map λo=>if o.kind=3 then o.n else 0).sum
def DP(l m:List Dop):Bg (l++m)=Bg l+Bg m:=by simp[Bg]
def FE(l m:List Dop):Cc (l++m)=Cc l+Cc m:=by simp[Cc]
def EU(o:Dop):Bg [o]=o.Ab.length:=by simp[Bg]
def HG(o:Dop):Cc [o]=if o.kind=3 then o.n else 0:=by simp[Cc]
def Jd(i:List Dop)(b o:Dop):(i++[b]).set ((i++[b]).length-1) o=i++[o]:=by
 rw[mJ _ _ (by simp)];simp
def fx(d:List Dop)(n:Int)(p:List Chg):Bg (FU d n p)=Bg d/\Cc (FU d n p)=Cc d/\(FU d n p).length<=d.length+1:=by
 rcases E9 d with rfl|⟨i,b,rfl⟩
 .exact⟨by simp[FU,Bg],by simp[FU,Cc],by simp[FU]⟩
 .unfold FU;rw[cq,kY,lu];simp only;by_cases e:b.kind=1/\b.patch=p
  .rw[DN e,Jd];refine⟨by simp only[DP,EU],?_,by simp⟩;simp only[FE,HG,e.1,show ¬(1:Int)=3 by decide,lW]
  .rw[Bp e];exact⟨by simp only[DP,EU,lX,lf],by simp only[FE,HG,show ¬(1:Int)=3 by decide,lW,sC],by simp⟩
def fJ(d:List Dop)(rs:List Int)(set:List Attr):Bg (Ff d rs set)=Bg d+rs.length/\(Ff d rs set).length<=d.length+1:=by
 rcases E9 d with rfl|⟨i,b,rfl⟩
 .exact⟨by simp[Ff,Bg],by simp[Ff]⟩
 .unfold Ff;rw[cq,kY,lu];simp only;by_cases e:b.set=set
  .rw[DN e,Jd];exact⟨by simp only[DP,EU,BW];omega,by simp⟩
  .rw[Bp e];exact⟨by simp only[DP,EU],by simp⟩
def XU{g:Int}(h:Ew a)(B:0<=g):Bg (A6 a g)=Bg a/\Cc (A6 a g)=g/\(A6 a g).length=a.length+if 0<g then 1 else 0:=by
 have i:Cc a=0:=by
  have hk:=h.kinds;clear h;induction a with
  |nil=>rfl
  |cons o l j=>
   have:=j λo m=>hk o (by simp[m]);have q:=hk o (by simp);have e:Cc (o::l)=(if o.kind=3 then o.n else 0)+Cc l:=by simp[Cc]
   rw[e,this,q];rfl
 unfold A6;by_cases h0:0<g
 .rw[DN h0,DN h0];refine⟨by simp only[DP,EU,lX,lf],?_,by simp⟩;simp only[FE,HG,mF,i];omega
 .rw[Bp h0,Bp h0];exact⟨rfl,by omega,by simp⟩
def EP.bare{d:List Dop}(h:EP d):∀o∈d,o.kind=1->o.Ab=[]:=by
 induction h with
 |nil=>intro o i;simp at i
 |snoc d ins gone n p h hi m hb q hp j=>
  intro o i hk;rcases By.1 i with i|i
  .rcases By.1 i with i|i
   .exact j o i hk
   .unfold A6 at i;split at i
    .rcases By.1 i with i|i
     .have:=hi.kinds o i;omega
     .simp at i;subst i;rfl
    .have:=hi.kinds o i;omega
  .simp at i;subst i;rfl
def Vs(x:List Dop)(h:∀o∈x,FT o)(hl:x.length<=8589934592) :
  Bg (BG x).done+Bg (BG x).ins=Bg x/\Cc (BG x).done+(BG x).gone=Cc x/\(BG x).done.length+(BG x).ins.length+(if 0<(BG x).gone then 1 else 0)<=x.length:=by
 induction x using Ij with
 |h0=>exact⟨rfl,rfl,by simp[BG,GJ.z]⟩
 |h1 x o U=>
  have I:∀o∈x,FT o:=λo i=>h o (by simp[i]);have i:=h o (by simp);simp only[BW,gD,lX] at hl;have J:=U (λo i=>I o i) (by omega);have c:=Ih x (λo i=>I o i) (by omega);have h2:=Il x λo i=>I o i;rw[DP,FE,EU,HG,BW,nT];unfold BG at J c ⊢;simp only[mY,mr,pN];generalize x.foldl Bu GJ.z=s at J c ⊢;obtain⟨done,ins,gone⟩:=s;obtain⟨c1,c2,Q,V⟩:=c;obtain⟨i1,i2,i3⟩:=J;obtain⟨k,n,rs,set,p⟩:=o;simp only at c1 c2 Q V i1 i2 i3 ⊢;have X:=c1.nn;rcases i with⟨j,m,q,B,O⟩|⟨j,m,q,B,O,Y⟩|⟨j,m,q,B⟩
  .simp only at j m q B O;subst j;subst m;subst q;simp only[Bu,mF,KQ,Bp (show ¬n<1 by omega)];obtain⟨Z,p2,p3⟩:=fx (done++A6 ins gone) n p;obtain⟨g1,g2,g3⟩:=XU c2 Q;rw[Z,p2,DP,FE,g1,g2];rw[BW,g3] at p3;refine⟨by simp[Bg] at i1 ⊢;omega,?_,?_⟩
   .simp only[show ¬(1:Int)=3 by decide,lW];omega
   .simp only[lX,show ¬(0:Int)<0 by decide,lW];omega
  .simp only at j m q B O Y;subst j;subst m;subst q;subst B;have:KM n 0=n:=by unfold KM;rw[Bp (by omega)]
   simp only[Bu,show ¬(3:Int)=1 by decide,show ¬(3:Int)=2 by decide,lW,RX,this,mF];rw[wrap64 (by omega) (by omega)];refine⟨by simp;omega,by omega,?_⟩;split<;>split at i3<;>omega
  .simp only at j m q B;subst j;subst m;subst q;simp only[Bu,show ¬(2:Int)=1 by decide,show ¬(2:Int)=3 by decide,mF,lW,NM,Bp B];obtain⟨a1,a2⟩:=fJ ins rs set;rw[a1];refine⟨by omega,by omega,by omega⟩
def Sn(x:List Dop)(h:∀o∈x,FT o)(hl:x.length<=8589934592):Bg (BV x)=Bg x/\Cc (BV x)=Cc x/\(BV x).length<=x.length:=by
 obtain⟨h1,J,V⟩:=Vs x h hl;have c:=Ih x h hl;obtain⟨O,Q,U⟩:=XU c.ins c.gone;have m:Bg ((BG x).done++A6 (BG x).ins (BG x).gone)=Bg x:=by rw[DP,O];exact h1
 have q:Cc ((BG x).done++A6 (BG x).ins (BG x).gone)=Cc x:=by rw[FE,Q];exact J
 have B:((BG x).done++A6 (BG x).ins (BG x).gone).length<=x.length:=by rw[BW,U];omega
 have I:∀o∈(BG x).done++A6 (BG x).ins (BG x).gone,o.kind=1->o.Ab=[]:=by
  intro o j hk;rcases By.1 j with j|j
  .exact c.done.bare o j hk
  .unfold A6 at j;split at j
   .rcases By.1 j with j|j
    .have:=c.ins.kinds o j;omega
    .simp at j;subst j;rfl
   .have:=c.ins.kinds o j;omega
 unfold BV QI;generalize (BG x).done++A6 (BG x).ins (BG x).gone=l at m q B I;unfold EH;rcases E9 l with rfl|⟨i,b,rfl⟩
 .exact⟨m,q,B⟩
 .rw[cq,kY,lu];simp only;by_cases e:b.kind=1/\b.patch=[]
  .rw[DN e,mW];have:=I b (by simp) e.1;rw[DP,EU,this] at m;rw[FE,HG,Bp (by rw[e.1];decide)] at q;simp at m q B;exact⟨m,q,by omega⟩
  .rw[Bp e];exact⟨m,q,B⟩
def Bk(o:Dop):Nat:=if o.kind=2 then o.Ab.length else o.n.toNat
def Mx{x:Int}(h0:0<=x)(h1:x<=1099511627776):IntKind.i64.wrap x=x:=by
 simp only[IntKind.wrap,IntKind.bits,IntKind.signed];simp;omega
def total(x:List Dop):Nat:=(x.map Bk).sum
section
variable {one:Dop->Dop->List Dop}
end
def CP(ks:List DKey)(b:Bool)(p:List Chg):List Chg:=p.filter λc=>match BK ks c.key with|some k=>decide (k.block=b)|none=>false
def Mk(ks:List DKey)(set:List Attr)(p:List Chg)(r:Int):List Attr:=BZ set (CP ks (decide (r=10)) p)
def Ri(i:List DKey)(x:List Dop):Prop:=(∃o∈x,¬FZ o\/BY i o.set=3\/Db i o.patch=3)\/536870912<Cq Bh x\/536870912<Cq Bn x
def IK(i:List DKey)(x:List Dop):Prop:=∃o∈x,BY i o.set≠0\/Db i o.patch≠0
open Classical in
noncomputable def DJ(i:List DKey)(x:List Dop):Int:=if Ri i x then 3 else if IK i x then 4 else 0
def Good(PS:List Attr->Prop)(PP:List Chg->Prop)(o:Dop):Prop:=(o.kind=1/\o.Ab=[]/\o.set=[]/\1<=o.n/\PP o.patch)\/(o.kind=3/\o.Ab=[]/\o.set=[]/\o.patch=[]/\1<=o.n)\/
 (o.kind=2/\(∀r∈o.Ab,EK r)/\o.n=0/\o.patch=[]/\o.Ab≠[]/\PS o.set)
def DE(x y:List Dop):total (x++y)=total x+total y:=by simp[total]
def Eb(o:Dop):total [o]=Bk o:=by simp[total]
def OI{x:List Dop}{o:Dop}(h:o∈x):Bk o<=total x:=by
 induction x with
 |nil=>simp at h
 |cons a x i=>
  simp only[total,lO,nf] at *;rcases Mp.1 h with rfl|h
  .omega
  .have:=i h;omega
def T5(i:List Dop)(b o:Dop):(i++[b]).set ((i++[b]).length-1) o=i++[o]:=by
 rw[mJ _ _ (by simp)];simp
section
variable {PS:List Attr->Prop}{PP:List Chg->Prop}
def RP{g:Int}(h:∀o∈a,Good PS PP o/\o.kind=2):∀o∈A6 a g,Good PS PP o:=by
 intro o i;unfold A6 at i;split at i
 .rcases By.1 i with h'|h'
  .exact(h o h').1
  .simp at h';subst h';exact .inr (.inl ⟨rfl,rfl,rfl,rfl,by simp only;omega⟩)
 .exact(h o i).1
def Oa(ins:List Dop)(g:Int):total (A6 ins g)=total ins+g.toNat:=by
 unfold A6;split
 .rw[DE,Eb];simp[Bk]
 .omega
structure RW (PS:List Attr->Prop) (PP:List Chg->Prop) (s:GJ) (t:Nat):Prop where
 done:∀o∈s.done,Good PS PP o
 ins:∀o∈s.ins,Good PS PP o/\o.kind=2
 gone:0<=s.gone
 EC:total s.done+total s.ins+s.gone.toNat<=t
def UK{s:GJ}{t:Nat}{o:Dop}(h:RW PS PP s t)(j:Good PS PP o)(ht:t+Bk o<=1099511627776):RW PS PP (Bu s o) (t+Bk o):=by
 obtain⟨done,ins,gone⟩:=s;obtain⟨h1,U,h3,h4⟩:=h;simp only at h1 U h3 h4;obtain⟨k,n,rs,set,p⟩:=o;rcases j with⟨J,B,O,Q,m⟩|⟨J,B,O,Q,m⟩|⟨J,B,O,Q,m,e6⟩
 .simp only at J B O Q m;subst J;subst B;subst O;simp only[Bk,show ¬(1:Int)=2 by decide,lW] at ht ⊢;simp only[Bu,mF,KQ,Bp (show ¬n<1 by omega)];have hd:∀o∈done++A6 ins gone,Good PS PP o:=λo j=>by
   rcases By.1 j with h|h
   .exact h1 o h
   .exact RP U o h
  have V:total (done++A6 ins gone)<=t:=by rw[DE,Oa];omega
  generalize done++A6 ins gone=d at hd V ⊢;have new:RW PS PP ⟨d++[⟨1,n,[],[],p⟩],[],0⟩ (t+n.toNat):=by
   refine⟨λo j=>?_,by simp,by simp,?_⟩
   .rcases By.1 j with h|h
    .exact hd o h
    .simp at h;subst h;exact .inl ⟨rfl,rfl,rfl,Q,m⟩
   .simp only[DE,Eb,Bk,show ¬(1:Int)=2 by decide,lW];simp[total];simp[total] at V;omega
  unfold FU;rcases lS d with rfl|⟨i,q,rfl⟩
  .exact new
  .simp only[mB,cq,kY,lu] at *;by_cases e:q.kind=1/\q.patch=p
   .rw[DN e];have X:=hd q (by simp);obtain⟨kq,nq,rq,sq,pq⟩:=q;simp only at e;obtain⟨rfl,rfl⟩:=e;rcases X with⟨I,Y,Z,f4,f5⟩|⟨I,_⟩|⟨I,_⟩
    .simp only at Y Z f4;subst Y;subst Z;rw[DE,Eb] at V;simp only[Bk,show ¬(1:Int)=2 by decide,lW] at V;dsimp only;rw[Mx (by omega) (by omega),T5];refine⟨λo j=>?_,by simp,by simp,?_⟩
     .rcases By.1 j with h|h
      .exact hd o (by simp[h])
      .simp at h;subst h;exact .inl ⟨rfl,rfl,rfl,by simp only;omega,m⟩
     .simp only[DE,Eb,Bk,show ¬(1:Int)=2 by decide,lW];simp[total];simp[total] at V;omega
    .simp at I
    .simp at I
   .rw[Bp e];exact new
 .simp only at J B O Q m;subst J;subst B;subst O;subst Q;simp only[Bk,show ¬(3:Int)=2 by decide,lW] at ht ⊢;simp only[Bu,show ¬(3:Int)=1 by decide,show ¬(3:Int)=2 by decide,lW,RX];have:KM n 0=n:=by unfold KM;rw[Bp (by omega)]
  rw[this,Mx (by omega) (by omega)];exact⟨h1,U,by simp only;omega,by simp only;omega⟩
 .simp only at J B O Q m e6;subst J;subst O;subst Q;simp only[Bk,mF] at ht ⊢;simp only[Bu,show ¬(2:Int)=1 by decide,mF,lW,NM,Bp m];have new:RW PS PP ⟨done,ins++[⟨2,0,rs,set,[]⟩],gone⟩ (t+rs.length):=by
   refine⟨h1,λo j=>?_,h3,?_⟩
   .rcases By.1 j with h|h
    .exact U o h
    .simp at h;subst h;exact⟨.inr (.inr ⟨rfl,B,rfl,rfl,m,e6⟩),rfl⟩
   .simp only[DE,Eb,Bk,mF];omega
  unfold Ff;rcases lS ins with rfl|⟨i,q,rfl⟩
  .exact new
  .simp only[mB,cq,kY,lu] at *;by_cases e:q.set=set
   .rw[DN e];have X:=U q (by simp);obtain⟨kq,nq,rq,sq,pq⟩:=q;simp only at e;subst e;obtain⟨X,hk⟩:=X;simp only at hk;subst hk;rcases X with⟨I,_⟩|⟨I,_⟩|⟨I,Y,Z,f4,f5,f6⟩
    .simp at I
    .simp at I
    .simp only at Y Z f4 f5 f6;subst Z;subst f4;rw[T5];refine⟨h1,λo j=>?_,h3,?_⟩
     .rcases By.1 j with h|h
      .exact U o (by simp[h])
      .simp at h;subst h;exact⟨.inr (.inr ⟨rfl,λr hr=>by rcases By.1 hr with h|h;exact Y r h;exact B r h,rfl,rfl,by simp[m],f6⟩),rfl⟩
     .simp only[DE,Eb,Bk,mF,BW] at h4 ⊢;omega
   .rw[Bp e];exact new
def Xy(x:List Dop)(h:∀o∈x,Good PS PP o)(hb:total x<=1099511627776):RW PS PP (BG x) (total x):=by
 induction x using Ij with
 |h0=>exact⟨by simp[BG,GJ.z],by simp[BG,GJ.z],by simp[BG,GJ.z],by simp[BG,GJ.z,total]⟩
 |h1 x o i=>
  rw[DE,Eb] at hb ⊢;have:=UK (i (λo j=>h o (by simp[j])) (by omega)) (h o (by simp)) hb;simpa[BG] using this
def Vc(x:List Dop)(h:∀o∈x,Good PS PP o)(hb:total x<=1099511627776):(∀o∈BV x,Good PS PP o)/\total (BV x)<=total x:=by
 obtain⟨h1,I,J,O⟩:=Xy x h hb;have j:∀o∈(BG x).done++A6 (BG x).ins (BG x).gone,Good PS PP o:=λo B=>by
  rcases By.1 B with h|h
  .exact h1 o h
  .exact RP I o h
 have m:total ((BG x).done++A6 (BG x).ins (BG x).gone)<=total x:=by rw[DE,Oa];omega
 unfold BV QI;generalize (BG x).done++A6 (BG x).ins (BG x).gone=d at j m;unfold EH;rcases lS d with rfl|⟨i,q,rfl⟩
 .exact⟨j,m⟩
 .simp only[mB,cq,kY,lu,mW] at *;split
  .rw[DE] at m;exact⟨λo B=>j o (by simp[B]),by omega⟩
  .exact⟨j,m⟩
end
section
variable {ks:List DKey}
def JP(ks:List DKey)(l:List Attr):Prop:=Fw l/\l.length<=64/\∀a∈l,DT a.val/\Gy ks a.key a.val
def KL(ks:List DKey)(p:List Chg):Prop:=Ld p/\p.length<=64/\∀c∈p,(c.gone=true->c.val=As.zero)/\(c.gone=false->DT c.val/\Gy ks c.key c.val)/\BK ks c.key≠none
def EJ{l:List Attr}:BY ks l=0↔JP ks l:=by
 unfold BY;constructor
 .intro h;split at h
  .cases h
  .split at h
   .cases h
   .rename_i h1 j;refine⟨lN λi=>h1 (.inl λhr=>i (Wo hr)),lN λi=>h1 (.inr (.inl (by omega))),λa ha=>⟨lN λi=>h1 (.inr (.inr ⟨a,ha,i⟩)),lN λi=>j ⟨a,ha,i⟩⟩⟩
 .rintro⟨h1,j,m⟩;rw[Bp,Bp]
  .rintro⟨a,ha,i⟩;exact i (m a ha).2
  .rintro(i|i|⟨a,ha,i⟩)
   .exact i (ZK h1)
   .omega
   .exact i (m a ha).1
def G0{l:List Chg}:Db ks l=0↔KL ks l:=by
 unfold Db;constructor
 .intro h;split at h
  .cases h
  .split at h
   .cases h
   .rename_i h1 o;refine⟨lN λi=>h1 (.inl λhr=>i (Wo hr)),lN λi=>h1 (.inr (.inl (by omega))),λa ha=>⟨λj=>lN λi=>h1 (.inr (.inr ⟨a,ha,.inl ⟨j,i⟩⟩)),λj=>⟨lN λi=>h1 (.inr (.inr ⟨a,ha,.inr ⟨j,i⟩⟩)),lN λi=>o ⟨a,ha,.inr ⟨j,i⟩⟩⟩,λi=>o ⟨a,ha,.inl i⟩⟩⟩
 .rintro⟨h1,o,m⟩;rw[Bp,Bp]
  .rintro⟨a,ha,i|⟨j,i⟩⟩
   .exact(m a ha).2.2 i
   .exact i ((m a ha).2.1 j).2
  .rintro(i|i|⟨a,ha,⟨j,i⟩|⟨j,i⟩⟩)
   .exact i (ZK h1)
   .omega
   .exact i ((m a ha).1 j)
   .exact i ((m a ha).2.1 j).1
def IW:JP ks []:=⟨List.Pairwise.nil,by simp,by simp⟩
def KU:KL ks []:=⟨List.Pairwise.nil,by simp,by simp⟩
def TO{id:Int}{k:DKey}(h:BK ks id=some k):id∈ks.map DKey.id:=by
 have h1:=qU h;simp at h1;exact lT.2 ⟨k,pV h,h1⟩
def Pk{id:Int}(h:BK ks id≠none):id∈ks.map DKey.id:=by
 cases e:BK ks id with
 |none=>exact(h e).elim
 |some k=>exact TO e
def YY(m:ks.length<=64){s:List Attr}{p:List Chg}(j:JP ks s)(hp:Ld p)(i:∀c∈p,c.gone=false->DT c.val/\Gy ks c.key c.val):JP ks (BZ s p):=by
 have hm:∀a∈BZ s p,DT a.val/\Gy ks a.key a.val:=λa ha=>by
  rcases NO ha with h|⟨c,hc,o,rfl⟩
  .exact j.2.2 a h
  .exact i c hc o
 have hr:=Jo j.1 hp;refine⟨hr,?_,hm⟩;have:=kT (key:=Attr.key) (ids:=ks.map DKey.id) hr λa ha=>by
  obtain⟨k,hk,_⟩:=(hm a ha).2;exact TO hk
 rw[I3] at this;omega
abbrev BX(ks:List DKey)(o:Dop):Prop:=Good (JP ks) (KL ks) o
def BX.form{o:Dop}(h:BX ks o)(hl:Bk o<=536870912):FZ o/\JP ks o.set/\KL ks o.patch:=by
 rcases h with⟨h1,m,i,j,q⟩|⟨h1,m,i,j,q⟩|⟨h1,m,i,j,q,B⟩
 .simp only[Bk,h1,show ¬(1:Int)=2 by decide,lW] at hl;exact⟨.inl ⟨h1,m,i,j,by omega⟩,by rw[i];exact IW,q⟩
 .simp only[Bk,h1,show ¬(3:Int)=2 by decide,lW] at hl;exact⟨.inr (.inl ⟨h1,m,i,j,q,by omega⟩),by rw[i];exact IW,by rw[j];exact KU⟩
 .simp only[Bk,h1,mF] at hl;exact⟨.inr (.inr ⟨h1,m,i,j,mN.2 q,hl⟩),B,by rw[j];exact KU⟩
def FZ.DV{o:Dop}(h:FZ o)(I:JP ks o.set)(hp:KL ks o.patch):BX ks o/\Bk o<=536870912:=by
 rcases h with⟨h1,i,j,m,q⟩|⟨h1,i,j,m,q,B⟩|⟨h1,i,j,m,q,B⟩
 .exact⟨.inl ⟨h1,i,j,m,hp⟩,by simp only[Bk,h1,show ¬(1:Int)=2 by decide,lW];omega⟩
 .exact⟨.inr (.inl ⟨h1,i,j,m,q⟩),by simp only[Bk,h1,show ¬(3:Int)=2 by decide,lW];omega⟩
 .exact⟨.inr (.inr ⟨h1,i,j,m,by intro e;rw[e] at q;simp at q,I⟩),by simp only[Bk,h1,mF];exact B⟩
def J7{x:List Dop}(h:DJ ks x=0):∀o∈x,BX ks o/\Bk o<=536870912:=by
 unfold DJ at h;split at h
 .cases h
 .split at h
  .cases h
  .rename_i h1 m;intro o j;refine FZ.DV (lN λi=>h1 (.inl ⟨o,j,.inl i⟩)) (EJ.1 (lN λi=>m ⟨o,j,.inl i⟩)) (G0.1 (lN λi=>m ⟨o,j,.inr i⟩))
def NA{f:Dop->Int}(x:List Dop)(h:∀o∈x,0<=f o/\f o<=Bk o)(hb:total x<=1099511627776):0<=Cq f x/\Cq f x<=total x:=by
 induction x using Ij with
 |h0=>exact⟨by simp[Cq],by simp[Cq]⟩
 |h1 x o i=>
  rw[DE,Eb] at hb ⊢;have i1:=i (λo j=>h o (by simp[j])) (by omega);have i2:=h o (by simp);have e:Cq f (x++[o])=IntKind.i64.wrap (Cq f x+f o):=by simp[Cq]
  rw[e,Mx (by omega) (by omega)];omega
def Xz{x:List Dop}(h:∀o∈x,BX ks o)(hb:total x<=536870912):DJ ks x=0:=by
 have m:∀o∈x,FZ o/\JP ks o.set/\KL ks o.patch:=λo j=>BX.form (h o j) (by have:=OI j;omega);have i:∀o∈x,0<=o.n:=λo j=>by
  rcases h o j with⟨_,_,_,q,_⟩|⟨_,_,_,_,q⟩|⟨_,_,q,_⟩<;>omega
 have ht:=NA (f:=Bh) x (λo j=>by
  have:=i o j;unfold Bh Bk;split <;> omega) (by omega)
 have hm:=NA (f:=Bn) x (λo j=>by
  have:=i o j;unfold Bn Bk MP;split
  .split<;>omega
  .split <;> omega) (by omega)
 unfold DJ;rw[Bp,Bp]
 .rintro⟨o,j,i|i⟩
  .exact i (EJ.2 (m o j).2.1)
  .exact i (G0.2 (m o j).2.2)
 .rintro(⟨o,j,i|i|i⟩|i|i)
  .exact i (m o j).1
  .rw[EJ.2 (m o j).2.1] at i;cases i
  .rw[G0.2 (m o j).2.2] at i;cases i
  .omega
  .omega
end
def eG(v:As):Prop:=((v.kind=1\/v.kind=2)/\(-9223372036854775808<=v.n/\v.n<=9223372036854775807)/\v.f=0/\v.s=⟨#[]⟩)\/(v.kind=3/\v.n=0/\(0<=v.f/\v.f<18446744073709551616)/\v.s=⟨#[]⟩)\/(v.kind=4/\v.n=0/\v.f=0/\v.s.size<9223372036854775808)
def dM(k:Int):Prop:=0<=k/\k<9223372036854775808
def iT(a:Attr):Prop:=dM a.key/\eG a.val
def iL(c:Chg):Prop:=dM c.key/\((c.gone=true/\c.val=As.zero)\/(c.gone=false/\eG c.val))
def Wg{α:Type}(R:α->Prop)(l:List α):Prop:=l.length<9223372036854775808/\∀x∈l,R x
def iO(m:Int)(o:Dop):Prop:=(o.kind=1/\(0<=o.n/\o.n<=m)/\o.Ab=[]/\o.set=[]/\Wg iL o.patch)\/(o.kind=2/\o.n=0/\(∀r∈o.Ab,EK r)/\(QB o.Ab).length<9223372036854775808/\Wg iT o.set/\o.patch=[])\/(o.kind=3/\(0<=o.n/\o.n<=m)/\o.Ab=[]/\o.set=[]/\o.patch=[])
abbrev gR:Dop->Prop:=iO 536870912
def im{t e k bytes:Nat}{R:World->List Value->α->Prop}{v x:Value}{l m:List α}(B:Ch P t e k bytes)(h:AE w0.heap.size e k R w v l)(q:Grow w0 w)(I:An S k R w x m)
 (i:∀r y,R w r y->∀u∈r,u.oneCell'=true)(J:∀O w2 r y,R O r y->R w2 r y)(j:(l.length+m.length)*bytes<=140737488355328)(o:l.length+m.length<=maxLen)
 (Q:∀v' w',AE w0.heap.size e k R w' v' (l++m)->Grow w0 w'->K v' w'):runK P (Builtin.append_ #[t,t] t [v,x].toArray) K w:=by
 obtain⟨v',w',h1,U,V,_⟩:=AE.append (ty:=t) B h I i j q.size o λw' _ r y X=>J _ _ _ _ X;exact AX h1 (Q v' w' U (q.next (Mod.of_grownBy V) λb hb e=>by have:=(AE.Aj h b e).1;omega))
def G4(Rf:Value)(w4 W:World)(ov:Value):Prop:=Mod (λb=>Rf.ownBlock=some b) w4 W/\∀b,ov.ownBlock=some b->Rf.ownBlock=some b\/w4.heap.size<=b
section
variable {Rf ov v':Value}{w w4 W W':World}
def G4.start:G4 ov w4 w4 ov:=⟨Mod.refl _ _,λ_ h=>.inl h⟩
def G4.grow(h:G4 Rf w4 W ov)(g:Grow W W'):G4 Rf w4 W' ov:=⟨h.1.next g λ_ _ e=>e.elim,h.2⟩
def G4.push(h:G4 Rf w4 W ov)(m:Mod (λb=>ov.ownBlock=some b) W W')(i:∀g,v'.ownBlock=some g->ov.ownBlock=some g\/W.heap.size<=g):G4 Rf w4 W' v':=
 ⟨h.1.next m λb hb e=>by rcases h.2 b e with e | e;exact e;omega,λb hb=>by
  rcases i b hb with e|e
  .exact h.2 b e
  .exact .inr (lx h.1.size e)⟩
def G4.g(h:G4 Rf w4 W ov)(g:Grow w w4)(i:∀b,Rf.ownBlock=some b->w.heap.size<=b):Grow w W:=g.next h.1 λb hb e=>by have:=i b e;omega
end
section
def drop_cons{l:List α}{i:Nat}(h:i<l.length):l.drop i=l[i]::l.drop (i+1):=mI h
def PT{s:List Attr}{p:List Chg}(hs:Ba S w sv s)(hp:EV F w v p)(hb:s.length+p.length<=1099511627776) :
  AB prog 142 [sv,v] (λv' w'=>Ho w.heap.size w' v' (BZ s p)/\Grow w w') w:=by
 refine uS2 (dB 1329593170800108097104882947870208585 [([5,6,11],[(5,6),(8,8),(11,70)]),([5,6],[(5,6),(8,8),(13,69)]),([5,6],[(5,6),(15,58)]),([5,6],[(5,6),(21,47)])] []) func142 (λ_ _ _ _=>⟨by conv=>lhs;reduce,by dsimp only[PI,AF],by kernel_rfl⟩) ?_;unfold uI;obtain⟨sa,sc,rfl,_⟩:=hs.shape;obtain⟨pa,pc,rfl,_⟩:=hp.shape;rw[AO];refine AU (λvs W=>∃(k i:Nat) (ov:Value) (out:List Attr),k<=p.length/\i<=s.length/\vs=[ov,zI i,zI k]/\Ho w.heap.size W ov out/\Grow w W/\out.length+(s.length-i)+(p.length-k)<=s.length+p.length/\out++BZ (s.drop i) (p.drop k)=BZ s p) (λvs _=>p.length-Dh vs 2) ⟨0,0,_,[],by omega,by omega,rfl,AE.nil,Mod.refl _ _,by simp,rfl⟩ ?_;rintro vs W ⟨k,i,Rf,out,hk,hi,rfl,B,g,m,he⟩ _;simp only[FC];refine G9 (λY=>?_) λav=>?_
 .have I:k<p.length:=by omega
  rw[drop_cons I] at he;simp only[BZ] at he;refine AR (λvs W=>∃(i:Nat) (ov:Value) (out:List Attr),i<=s.length/\vs=[ov,zI i]/\Ho w.heap.size W ov out/\Grow w W/\out.length+(s.length-i)+(p.length-(k+1))<=s.length+p.length/\out++BZ (s.drop i) (p.drop (k+1))=BZ s p) ?_ ?_
  .rintro vs W ⟨i,ov,out,hi,rfl,B,V,m,he⟩ _;simp only[FC];rw[AM,AK (by omega)];refine⟨⟨k+1,i,ov,out,I,hi,rfl,B,V,m,he⟩,?_⟩;show p.length-((k+1:Nat):Int).toNat<p.length-(k:Int).toNat;omega
  obtain⟨a,r,rfl,_,hr,hc,rfl⟩:=(hp.grow g (by decide) λ_ _ h=>h).get I;refine AS I (AV hr (λj u hu=>by rw[Addr.add_add];exact hc j u hu) ?_);refine BH (vs:=p[k].cells) rfl rfl (Ef.one (w:=W) (x:=p[k]) rfl) λZ w4 bl bp g4 a7 _=>?_;have a8:=g.trans g4;have hB:∀b,Rf.ownBlock=some b->w.heap.size<=b:=λb e=>(AE.Aj B b e).1;have h8:Rf.ownBlock≠some Z:=λe=>by have:=(AE.Aj B Z e).2;omega
  have ak:Ho w.heap.size w4 Rf out:=AE.mod B g4 (λ_ _ h=>h) λ_ _ _ h=>h;have put:∀(i:Nat) (ov:Value) (out:List Attr) (X:World),Ho w.heap.size X ov out->G4 Rf w4 X ov->i<=s.length->out.length+(s.length-i)+(p.length-k)<=s.length+p.length->out++Mb p[k]++BZ (s.drop i) (p.drop (k+1))=BZ s p->
    (BC 1 (.pointer (some ⟨Z,0,none⟩)) λax=>Ay ax (λay w8=>Ke ay λt50=>AZ t50
     (BC 0 (.pointer (some ⟨Z,0,none⟩)) λaZ=>Ay aZ (λt53 w9=>BC 2 (.pointer (some ⟨Z,0,none⟩)) λb0=>CX 4 b0 (λt55 b1=>
      CV [(0,1),(1,4)] [(zI 0),(.int .u8 0),(zI 0),(.int .u64 0),(.string (ByteArray.mk #[]))] [(0,t53),(1,t55)] λb2=>
      Dg 83 5 1 [(zI 0),(.int .u8 0),(zI 0),(.int .u64 0),(.string (ByteArray.mk #[]))] [(0,b2)] (λb6 b7=>
      runK prog (Builtin.append_ #[64,64] 64 [ov,b6].toArray) (λb9 al=>
       ∃ (J:Nat) (O:Value) (o:List Attr),J<=s.length/\[b9,zI (i:Int)]=[O,zI (J:Int)]/\Ho w.heap.size al O o/\Grow w al/\o.length+(s.length - J)+(p.length - (k+1))<=s.length+p.length/\o++BZ (s.drop J) (p.drop (k+1))=BZ s p) b7) b1) w9) w8)
     (∃ (J:Nat) (O:Value) (o:List Attr),J<=s.length/\[ov,zI (i:Int)]=[O,zI (J:Int)]/\Ho w.heap.size w8 O o/\Grow w w8/\o.length+(s.length - J)+(p.length - (k+1))<=s.length+p.length/\o++BZ (s.drop J) (p.drop (k+1))=BZ s p)) X):=by
   intro i ov out X B V hi m he;have c8:∀j u,p[k].cells[j]?=some u->X.cell? ((⟨Z,0,none⟩:Addr).add j)=some u:=λj u hu=>V.1.cell (a7 j u hu) (by rw[Ac];exact h8);rw[AH];refine AJ (c8 1 _ rfl) ?_;rw[Ah];have Q:=V.g a8 hB;cases hg:p[k].gone with
   |true=>
    refine AL ?_;rw[Mb,hg,DN rfl,lA] at he;exact⟨i,ov,out,hi,rfl,B,Q,by omega,he⟩
   |false=>
    refine AQ ?_;rw[Mb,hg,Bp (by decide)] at he;rw[AH];refine AJ (c8 0 _ rfl) ?_;rw[AH];refine AV (vs:=p[k].val.cells) rfl (λj u hu=>by rw[Addr.add_add];exact c8 (2+j) u (by rw[qC];exact hu)) ?_;refine⟨(⟨p[k].key,p[k].val⟩:Attr).cells.toArray,by kernel_rfl,?_⟩;refine Kh (w0:=w) HE B Q (cs:=(⟨p[k].key,p[k].val⟩:Attr).cells) (x:=⟨p[k].key,p[k].val⟩) (by kernel_rfl) rfl rfl (λ_ _ _=>CR.one) (λ_ _ _ _ _ _ h=>h) (by omega) (by simp only[maxLen];omega) λv' w' o' g'=>?_;exact⟨i,v',_,hi,rfl,o',g',by simp only[BW,gD,lX];omega,he⟩
  refine AU (λvs W=>∃(i:Nat) (ov:Value) (out:List Attr),i<=s.length/\vs=[ov,zI i]/\Ho w.heap.size W ov out/\G4 Rf w4 W ov/\out.length+(s.length-i)+(p.length-k)<=s.length+p.length/\out++(Ju p[k] (s.drop i)++Mb p[k]++BZ (Ey p[k] (s.drop i)) (p.drop (k+1)))=BZ s p) (λvs _=>s.length-Dh vs 1) ⟨i,Rf,out,hi,rfl,ak,G4.start,m,he⟩ ?_;clear B ak m he hi;rintro vs X ⟨i,ov,out,hi,rfl,B,V,m,he⟩ _;have Q:=V.g a8 hB;have c8:X.cell? ((⟨Z,0,none⟩:Addr).add 0)=some (zI p[k].key):=V.1.cell (a7 0 _ rfl) (by rw[Ac];exact h8);simp only[FC];rw[AO,Ai];refine AD (λhl=>?_) λav=>?_
  .have q:i<s.length:=by omega
   rw[drop_cons q] at he;simp only[Ju,Ey] at he;refine AR (λvs W=>∃(i:Nat),i<=s.length/\vs=[ov,zI i]/\Grow X W/\out.length+(s.length-i)+(p.length-k)<=s.length+p.length/\out++Mb p[k]++BZ (s.drop i) (p.drop (k+1))=BZ s p) ?_ ?_
   .rintro vs W2 ⟨J,ba,rfl,U,a1,bb⟩ _;simp only[FC];exact put J ov out W2 (AE.mod B U (λ_ _ h=>h) λ_ _ _ h=>h) (V.grow U) ba a1 bb
   obtain⟨a,r,e,_,hr,hc,hx⟩:=(hs.grow Q (by decide) λ_ _ h=>h).get q;subst hx;cases e;refine Cv (λW=>Grow X W) (Mod.drew _ _) ?_;refine AS q ?_;rw[AH,Addr.add_add];refine Aw (λW hW=>hW.cell (hc 0 _ rfl) λh=>h) ?_;rw[AH];refine Aw (λW hW=>hW.cell c8 λh=>h) ?_;rw[Ai];intro W2 U;have bc:Ho w.heap.size W2 ov out:=AE.mod B U (λ_ _ h=>h) λ_ _ _ h=>h;refine AD (λY=>?_) λan=>?_
   .rw[DN Y,DN Y] at he;refine AS q (AV hr (λj u hu=>by rw[Addr.add_add];exact U.cell (hc j u hu) λh=>h) ?_);refine Dp HE bc (Q.trans U).size (cs:=s[i].cells) (x:=s[i]) (by kernel_rfl) rfl rfl (λ_ _ _=>CR.one) (λ_ _ _ _ _ _ h=>h) (by omega) (by simp only[maxLen];omega) λv' w' o' m' a6=>?_;rw[AM,AK (by omega)];refine⟨⟨i+1,v',out++[s[i]],q,rfl,o',(V.grow U).push m' a6,by simp only[BW,gD,lX];omega,by rw[<-he];simp⟩,by rw[Ar,Ar];omega⟩
   .rw[Bp an,Bp an] at he;refine Cv (λW=>Grow W2 W) (Mod.drew _ _) ?_;refine AS q ?_;rw[AH,Addr.add_add];refine Aw (λW hW=>hW.cell (U.cell (hc 0 _ rfl) λh=>h) λh=>h) ?_;rw[AH];refine Aw (λW hW=>hW.cell (U.cell c8 λh=>h) λh=>h) ?_;rw[Aa];intro W3 g7;refine AD (λbd=>?_) λbk=>?_
    .rw[DN bd] at he;rw[AM,AK (by omega)];exact⟨i+1,q,rfl,U.trans g7,by omega,by rw[<-he];simp⟩
    .rw[Bp bk] at he;exact⟨i,hi,rfl,U.trans g7,m,by rw[drop_cons q,<-he];simp⟩
  .have e:s.drop i=[]:=mn (by omega);rw[e] at he;simp only[Ju,Ey,lg] at he;exact put i ov out X B V hi m (by rw[e,<-he];simp)
 .obtain rfl:k=p.length:=by omega
  rw[nd] at he;simp only[BZ] at he;refine Fm (e:=83) (k:=5) (i:=Tryz.t83) (by kernel_rfl) (by kernel_rfl) (by kernel_rfl) (hs.grow g (by decide) λ_ _ h=>h) hi λv' a6=>?_;refine im (w0:=w) HE B g a6 (λ_ _=>CR.one (w:=W)) (λ_ _ _ _ h=>h) (by rw[Hy];omega) (by simp only[maxLen,Hy];omega) λbs w' o' g'=>?_;rw[he] at o';exact⟨o',g'⟩
def Uy{r:Int}:AB prog 317 [.int .i32 r] (λv' w'=>v'=.bool (decide (EK r))/\w'=w) w:=by
 refine uS1 (dB 1094981209 [] []) func317 (λ_ _ _=>⟨by conv=>lhs;reduce,by dsimp only[PI,AF],by kernel_rfl⟩) ?_;unfold uI;have key:∀{b:Bool},(b=true↔EK r)->Value.bool b=.bool (decide (EK r))/\w=w:=λh=>⟨by congr 1;rw[oE,h,jD],rfl⟩;unfold EK at key ⊢;rw[HT];refine AD (λh0=>?_) λh0=>?_
 .rw[Ai];refine AD (λh1=>key (by simp;omega)) λh1=>?_;rw[Ai];refine AD (λi=>?_) λi=>key (by simp;omega);rw[HT];exact AD (λj=>key (by simp;omega)) λj=>key (by simp;omega)
 .rw[Ai];refine AD (λi=>?_) λi=>key (by simp;omega);rw[HT];exact AD (λj=>key (by simp;omega)) λj=>key (by simp;omega)
def Qr{r:Int}:AB prog 262 [.int .i32 r] (λv' w'=>v'=.bool (decide (EK r))/\w'=w) w:=by
 refine uS1 (dB 9 [] []) func262 (λ_ _ _=>⟨by conv=>lhs;reduce,by dsimp only[PI,AF],by kernel_rfl⟩) ?_;unfold uI;exact Uy
def VM{l:List Int}(h:I6 S w v l) :
  AB prog 314 [v,.func (.func 315) #[] #[]] (λv' w'=>v'=.bool (!decide (∀r∈l,EK r))/\w'=w) w:=by
 refine uS2 (dB 9 [] []) func314 (λ_ _ _ _=>⟨by conv=>lhs;reduce,by dsimp only[PI,AF],by kernel_rfl⟩) ?_;unfold uI;refine AA (K:=λv' w'=>w'=w/\((v'=zI (-1)/\∀r∈l,EK r)\/∃i:Nat,v'=zI i/\¬∀r∈l,EK r)) ?_ ?_
 .refine uS2 (dB 35271513315417 [([8],[(4,5),(8,18)])] []) func374 (λ_ _ _ _=>⟨by conv=>lhs;reduce,by dsimp only[PI,AF],by kernel_rfl⟩) ?_;unfold uI;obtain⟨a,c,rfl,hm⟩:=h.shape;simp only[maxLen] at hm;rw[AO];refine AU (λvs W=>∃i:Nat,i<=l.length/\vs=[zI i]/\W=w/\∀c∈l.take i,EK c) (λvs _=>l.length-Dh vs 0) ⟨0,Nn _,rfl,rfl,by simp⟩ ?_;rintro vs _ ⟨i,hi,rfl,rfl,j⟩ _;rename World=>w
  rw[BQ,Nr,Ai];refine AD (λB=>?_) λI=>?_
  .have m:i<l.length:=by omega
   obtain⟨q,r,rfl,_,hr,hc,rfl⟩:=h.get m;refine AS m (AJ (by have:=hc 0 _ rfl;exact this) ?_);refine Ek (by kernel_rfl) ?_;refine uS1 (dB 9 [] []) func315 (λ_ _ _=>⟨by conv=>lhs;reduce,by dsimp only[PI,AF],by kernel_rfl⟩) ?_;unfold uI;refine AA Qr ?_;rintro _ _ ⟨rfl,rfl⟩;rename World=>w
   rw[Ah];by_cases o:EK l[i]
   .rw[lq o];refine AL ?_;rw[AM,AK (by omega)];refine⟨⟨i+1,m,rfl,rfl,λc hc=>?_⟩,by rw[Bw,Bw];omega⟩;rw[S5,Bq m] at hc;rcases By.1 hc with hc|hc
    .exact j c hc
    .simp at hc;subst hc;exact o
   .rw[lh o];exact AQ ⟨rfl,.inr ⟨i,rfl,λj=>o (j _ (ku m))⟩⟩
  .have:i=l.length:=by omega
   subst this;exact⟨rfl,.inl ⟨rfl,λc hc=>j c (by rw[S7];exact hc)⟩⟩
 .rintro _ _ ⟨rfl,⟨rfl,j⟩|⟨i,rfl,J⟩⟩
  .rw[Cu];exact⟨by rw[lq j];rfl,rfl⟩
  .rw[Cu];exact⟨by rw[lh J,lq (by omega:(i:Int) ≥ 0)];rfl,rfl⟩
def LG(o:Dop):Prop:=(o.kind=1/\o.Ab=[]/\o.set=[])\/(o.kind=3/\o.Ab=[]/\o.set=[]/\o.patch=[])\/(o.kind=2/\o.n=0/\o.patch=[]/\∀r∈o.Ab,EK r)
instance (o:Dop):Decidable (LG o):=by unfold LG;infer_instance
def Io(o:Dop):FZ o↔LG o/\1<=MP o/\MP o<=536870912:=by
 unfold FZ LG MP;constructor
 .rintro(⟨h1,i,j,q,m⟩|⟨h1,i,j,q,m,B⟩|⟨h1,i,j,q,m,B⟩)
  .exact⟨.inl ⟨h1,i,j⟩,by rw[h1,Bp (by decide)];exact q,by rw[h1,Bp (by decide)];exact m⟩
  .exact⟨.inr (.inl ⟨h1,i,j,q⟩),by rw[h1,Bp (by decide)];exact m,by rw[h1,Bp (by decide)];exact B⟩
  .exact⟨.inr (.inr ⟨h1,j,q,i⟩),by rw[DN h1];omega,by rw[DN h1];omega⟩
 .rintro⟨⟨h1,i,j⟩|⟨h1,i,j,q⟩|⟨h1,i,j,q⟩,m,B⟩
  .rw[h1,Bp (by decide)] at m B;exact .inl ⟨h1,i,j,m,B⟩
  .rw[h1,Bp (by decide)] at m B;exact .inr (.inl ⟨h1,i,j,q,m,B⟩)
  .rw[DN h1] at m B;exact .inr (.inr ⟨h1,q,i,j,by omega,by omega⟩)
def WI{D:Nat->Prop}{r:List Value}{o:Dop}(h:Cf D w r o) :
  AB prog 256 [.agg r.toArray] (λv w'=>v=.bool (decide (LG o))/\Grow w w') w:=by
 refine uS1 (dB 2296341982909993 [([3],[(3,13)])] []) func256 (λ_ _ _=>⟨by conv=>lhs;reduce,by dsimp only[PI,AF],by kernel_rfl⟩) ?_;unfold uI;have O:=h.one;obtain⟨rv,sv,Y,rfl,h1,Q,U⟩:=h;refine DC λb j _ Z g hc _=>?_;have q:=h1.grow g (by decide) λ_ _ h=>h;obtain⟨a1,c1,rfl,m1⟩:=h1.shape;obtain⟨a2,c2,rfl,m2⟩:=Q.shape;obtain⟨a3,c3,rfl,m3⟩:=U.shape;have key:∀{x:Bool},(x=true↔LG o)->Value.bool x=.bool (decide (LG o))/\Grow w j:=λh=>⟨by congr 1;rw[oE,h,jD],g⟩;unfold LG at key ⊢;refine AR (λvs w2=>w2=j/\vs=[.bool (decide (¬(o.Ab=[]/\o.set=[])))]) ?_ ?_;rotate_left
 .rw[AH];refine AJ (hc 2 _ rfl) ?_;rw[AO,BE];refine AD (λe=>?_) λe=>?_
  .refine⟨rfl,?_⟩;rw[lq];rintro⟨V,_⟩;rw[V] at e;simp at e
  .have X:o.Ab=[]:=Of (by omega);rw[AH];refine AJ (hc 3 _ rfl) ?_;rw[AO,BE];refine⟨rfl,?_⟩;congr 2
   rw[qK];constructor
   .rintro m ⟨_,B⟩;rw[B] at m;simp at m
   .intro m;have:o.set≠[]:=λB=>m ⟨X,B⟩;have:=mN.2 this;omega
 rintro _ _ ⟨rfl,rfl⟩ _;rename World=>j
 rw[BQ,Nr,AH];refine AJ (hc 0 _ rfl) ?_;rw[Aa];refine AD (λk1=>?_) λk1=>?_
 .rw[Ah];refine key ?_;simp only[k1,decide_not,rI,jD];constructor
  .exact λh=>.inl ⟨trivial,h⟩
  .rintro(h|h|h)
   .exact h.2
   .omega
   .omega
 rw[Aa];refine AD (λI=>?_) λI=>?_
 .rw[Ah];by_cases i:o.Ab=[]/\o.set=[]
  .rw[show(!decide ¬(o.Ab=[]/\o.set=[]))=true by simp[i]];refine AQ ?_;rw[AH];refine AJ (hc 4 _ rfl) ?_;rw[AO,Aa];refine key ?_;rw[jD,TH];constructor
   .exact λh=>.inr (.inl ⟨I,i.1,i.2,h⟩)
   .rintro(h|h|h)
    .omega
    .exact h.2.2.2
    .omega
  .rw[show(!decide ¬(o.Ab=[]/\o.set=[]))=false by simp[i]];refine AL (key ?_);simp only[nY,ry];rintro(h|h|h)
   .omega
   .exact i ⟨h.2.1,h.2.2.1⟩
   .omega
 rw [Aa];refine AD (λk2=>?_) λk2=>key (by simp only [nY,ry];rintro (h | h | h) <;> omega);rw [AH];refine AJ (hc 1 _ rfl) ?_;rw [Aa];refine AD (λJ=>?_) λJ=>key (by simp only [nY,ry];rintro (h | h | h) <;> omega);rw [AH];refine AJ (hc 4 _ rfl) ?_;rw [AO,Aa];refine AD (λhp=>?_) λhp=>key (by
  simp only[nY,ry];rintro(h|h|h)
  .omega
  .omega
  .exact hp (TH.2 h.2.2.1))
 rw[TH] at hp;rw[AH];refine AJ (hc 2 _ rfl) ?_;refine AA (VM q) ?_;rintro _ _ ⟨rfl,rfl⟩;rename World=>j
 rw[Ah,rI];refine key ?_;rw[jD];constructor
 .exact λh=>.inr (.inr ⟨k2,J,hp,h⟩)
 .rintro(h|h|h)
  .omega
  .omega
  .exact h.2.2.2
def MK{D:Nat->Prop}{r:List Value}{o:Dop}(h:Cf D w r o) :
  AB prog 257 [.agg r.toArray] (λv w'=>v=zI (MP o)/\Grow w w') w:=by
 refine uS1 (dB 267353 [] []) func257 (λ_ _ _=>⟨by conv=>lhs;reduce,by dsimp only[PI,AF],by kernel_rfl⟩) ?_;unfold uI;obtain⟨rv,sv,i,rfl,h1,j,m⟩:=h;obtain⟨q,c1,rfl,B⟩:=h1.shape;refine DC λb I _ J g hc _=>?_;rw[AH];refine AJ (hc 0 _ rfl) ?_;rw[Aa];refine AD (λk1=>?_) λk1=>?_
 .rw[AH];refine AJ (hc 2 _ rfl) ?_;rw[AO];exact⟨by rw[MP,DN k1],g⟩
 .rw[AH];refine AJ (hc 1 _ rfl) ?_;exact⟨by rw[MP,Bp k1],g⟩
def Km{S D:Nat->Prop}{x:List Dop}(h:Ak S D w v x) :
  AB prog 165 [v] (λv' w'=>v'=zI (Cq Bh x)/\Grow w w') w:=by
 refine uS1 (dB 35263026610889 [([3,8],[(3,3),(5,5),(8,19)])] []) func165 (λ_ _ _=>⟨by conv=>lhs;reduce,by dsimp only[PI,AF],by kernel_rfl⟩) ?_;unfold uI;obtain⟨a,c,rfl,hm⟩:=h.shape;simp only[maxLen] at hm;rw[AO];refine AU (λvs B=>∃k:Nat,k<=x.length/\vs=[zI (Cq Bh (x.take k)),zI k]/\Grow w B) (λvs _=>x.length-Dh vs 1) ⟨0,Nn _,rfl,Mod.refl _ _⟩ ?_;rintro vs B ⟨k,hk,rfl,g⟩ _;simp only[FC];refine G9 (λJ=>?_) λO=>?_
 .have i:k<x.length:=by omega
  obtain⟨p,r,rfl,Q,hr,hc,m⟩:=(Ak.grow h g).get i;refine AS i (AV hr (λj u hu=>by rw[Addr.add_add];exact hc j u hu) ?_);refine BH hr rfl m.one λb w2 hb U I o _=>?_;obtain⟨rv,sv,V,rfl,h1,X,Y⟩:=m;rw[AH];refine AJ (o 0 _ rfl) ?_;rw[BL];refine AW (λe=>?_) λe=>?_
  .rw[AM,AK (by omega)];refine⟨⟨k+1,i,?_,g.trans I⟩,by rw[Ar,Ar];omega⟩;rw[Fj i,Bh,DN e,sC];have:IntKind.i64.wrap (Cq Bh (x.take k))=Cq Bh (x.take k):=by
    by_cases h0:k=0
    .subst h0;simp[Cq];rfl
    .obtain⟨q,rfl⟩:∃q,k=q+1:=⟨k-1,by omega⟩;rw[Fj (by omega)];have:=Lv (Cq Bh (x.take q)+Bh x[q]);rw[wrap64 (by omega) (by omega)]
   rw[this]
  .rw[AH];refine AJ (o 1 _ rfl) ?_;rw[AM,AM,AK (by omega)];refine⟨⟨k+1,i,?_,g.trans I⟩,by rw[Ar,Ar];omega⟩;rw[Fj i,Bh,Bp e]
 .have:k=x.length:=by omega
  subst this;rw[S7];exact⟨rfl,g⟩
def OW{S D:Nat->Prop}{x:List Dop}(h:Ak S D w v x) :
  AB prog 166 [v] (λv' w'=>v'=zI (Cq Bn x)/\Grow w w') w:=by
 refine uS1 (dB 35263026610889 [([3,8],[(3,3),(5,5),(8,19)])] []) func166 (λ_ _ _=>⟨by conv=>lhs;reduce,by dsimp only[PI,AF],by kernel_rfl⟩) ?_;unfold uI;obtain⟨a,c,rfl,hm⟩:=h.shape;simp only[maxLen] at hm;rw[AO];refine AU (λvs J=>∃k:Nat,k<=x.length/\vs=[zI (Cq Bn (x.take k)),zI k]/\Grow w J) (λvs _=>x.length-Dh vs 1) ⟨0,Nn _,rfl,Mod.refl _ _⟩ ?_;rintro vs J ⟨k,hk,rfl,g⟩ _;simp only[FC];refine G9 (λO=>?_) λQ=>?_
 .have i:k<x.length:=by omega
  obtain⟨p,r,rfl,V,hr,hc,m⟩:=(Ak.grow h g).get i;refine AS i (AV hr (λj u hu=>by rw[Addr.add_add];exact hc j u hu) ?_);refine BH hr rfl m.one λb w2 hb X I o _=>?_;have q:=m.mod (D':=D) I (λ_ _ _ h=>h) λ_ _ h=>h;obtain⟨rv,sv,Y,rfl,h1,Z,h3⟩:=id m;rw[AH];refine AJ (o 0 _ rfl) ?_;rw[BL];refine AW (λe=>?_) λe=>?_
  .rw[AM,AK (by omega)];refine⟨⟨k+1,i,?_,g.trans I⟩,by rw[Ar,Ar];omega⟩;rw[Fj i,Bn,DN e,sC];have:IntKind.i64.wrap (Cq Bn (x.take k))=Cq Bn (x.take k):=by
    by_cases h0:k=0
    .subst h0;simp[Cq];rfl
    .obtain⟨B,rfl⟩:∃B,k=B+1:=⟨k-1,by omega⟩;rw[Fj (by omega)];have:=Lv (Cq Bn (x.take B)+Bn x[B]);rw[wrap64 (by omega) (by omega)]
   rw[this]
  .refine AV hr o ?_;refine AA (MK q) ?_;rintro _ w3 ⟨rfl,U⟩;rw[AM,AM,AK (by omega)];refine⟨⟨k+1,i,?_,(g.trans I).trans U⟩,by rw[Ar,Ar];omega⟩;rw[Fj i,Bn,Bp e]
 .have:k=x.length:=by omega
  subst this;rw[S7];exact⟨rfl,g⟩
def PM{p q:Prop}[Decidable p][Decidable q]{a b:α}(h:p↔q):(if p then a else b)=if q then a else b:=by
 by_cases hp:p
 .rw[DN hp,DN (h.1 hp)]
 .rw[Bp hp,Bp λi=>hp (h.2 i)]
def Rx(c:Chg):Prop:=(c.gone=true/\c.val≠As.zero)\/(c.gone=false/\¬DT c.val)
def cg(ks:List DKey)(c:Chg):Prop:=BK ks c.key=none\/(c.gone=false/\¬Gy ks c.key c.val)
open Classical in
def Xg{D S:Nat->Prop}{p:List Chg}(hS:CK D w sv ks)(h:EV S w v p)(hT:EA w)(hI:∀c∈p,0<=c.val.f) :
  AB prog 67 [sv,v] (λv' w'=>v'=zI (Db ks p)/\Grow w w') w:=by
 refine uS2 (dB 79249975210178343186861397081 [([5,15],[(4,9),(15,75)]),([5],[(4,9),(17,74)]),([27],[(27,57)]),([27],[(27,40)])] []) func67 (λ_ _ _ _=>⟨by conv=>lhs;reduce,by dsimp only[PI,AF],by kernel_rfl⟩) ?_;unfold uI;obtain⟨a,c,rfl,hm⟩:=h.shape;simp only[maxLen] at hm;have al:∀w',Grow w w'->L3 p->zI 3=zI (Db ks p)/\Grow w w':=λw' g hb=>⟨by rw[Db,DN hb],g⟩;rw[AO,BE];refine AD (λh6=>al _ (Mod.refl _ _) (.inr (.inl (by omega)))) λh6=>?_;rw[AO];refine AU (λvs W=>∃i:Nat,i<=p.length/\vs=[zI (if HR ks (p.take i) then 4 else 0),zI i]/\Grow w W/\(∀a∈p.take i,¬Rx a)/\Nc Chg.key p i) (λvs _=>p.length-Dh vs 1)
  ⟨0,Nn _,by rw[Bp (by rintro⟨a,ha,_⟩;simp at ha)];rfl,Mod.refl _ _,by simp,λj hj=>by omega⟩ ?_
 rintro vs W ⟨i,hi,rfl,g,hv,a7⟩ _;simp only[FC];refine G9 (λb0=>?_) λa8=>?_;rotate_left
 .have:i=p.length:=by omega
  subst this;rw[S7] at hv ⊢;refine⟨?_,g⟩;have I:¬L3 p:=by
   rintro(Q|Q|⟨c,hc,Q⟩)
   .exact Q a7
   .omega
   .exact hv c hc Q
  unfold Db;rw[Bp I]
 have m:i<p.length:=by omega
 have U:=ku m;have an:=hI p[i] U;have e1:p.take (i+1)=p.take i++[p[i]]:=by rw[S5,Bq m];rfl
 have V:HR ks (p.take (i+1))↔HR ks (p.take i)\/cg ks p[i]:=by
  unfold HR cg;rw[e1];constructor
  .rintro⟨a,ha,Q⟩;rcases By.1 ha with ha|ha
   .exact .inl ⟨a,ha,Q⟩
   .simp at ha;subst ha;exact .inr Q
  .rintro(⟨a,ha,Q⟩|Q)
   .exact⟨a,lC _ ha,Q⟩
   .exact⟨p[i],lE _ (S6.2 rfl),Q⟩
 refine AR (λvs W2=>Grow w W2/\vs=[zI (if HR ks (p.take (i+1)) then 4 else 0)]/\¬Rx p[i]/\Nc Chg.key p (i+1)) ?_ ?_
 .rintro vs W2 ⟨g2,rfl,I,hr⟩ _;simp only[FC];rw[AM,AK (by omega)];refine⟨⟨i+1,m,rfl,g2,λa ha=>?_,hr⟩,by rw[Ar,Ar];omega⟩;rw[e1] at ha;rcases By.1 ha with ha|ha
  .exact hv a ha
  .simp at ha;subst ha;exact I
 obtain⟨q,r,rfl,_,hr,hc,rfl⟩:=(h.grow g (by decide) λ_ _ h=>h).get m;refine AS m (AV hr (λj u hu=>by rw[Addr.add_add];exact hc j u hu) ?_);refine BH (vs:=p[i].cells) rfl rfl (Ef.one (w:=w) (x:=p[i]) rfl) λb7 W1 b1 b2 g7 av _=>?_;rw[AH];refine AJ (av 0 _ rfl) ?_;refine AA (IP (hS.grow (g.trans g7)) p[i].key) ?_;rintro _ W2 ⟨rfl,g2⟩;refine BI ?_;refine BH (vs:=((BK ks p[i].key).getD DKey.zero).cells) rfl rfl (Gv.one (w:=W2) (x:=(BK ks p[i].key).getD DKey.zero) rfl) λb8 W3 b6 b9 g3 _ _=>?_;have B:=((g.trans g7).trans g2).trans g3;have X:∀j u,p[i].cells[j]?=some u->W3.cell? ((⟨b7,0,none⟩:Addr).add j)=some u:=λj u hu=>(g2.trans g3).cell (av j u hu) λh=>h;have Y:p[i].cells[1]?=some (.bool p[i].gone):=rfl;have ak:∀j u,p[i].val.cells[j]?=some u->p[i].cells[2+j]?=some u:=λj u hu=>by rw[qC];exact hu
 refine AR (λvs W4=>Grow W3 W4/\((vs=[.bool true]/\L3 p)\/(vs=[.bool false]/\¬Rx p[i]/\Nc Chg.key p (i+1)))) ?_ ?_
 .rintro vs W4 ⟨o,⟨rfl,hb⟩|⟨rfl,I,J⟩⟩ _
  .exact AQ (al _ (B.trans o) hb)
  refine AL ?_;rw[Ah];cases hk:BK ks p[i].key with
  |none=>
   refine AQ ⟨B.trans o,?_,I,J⟩;rw[DN (V.2 (.inr (.inl hk)))]
  |some k=>
   refine AL ?_;rw[AH];refine AJ (o.cell (X 1 _ Y) λh=>h) ?_;rw[Ah];cases Z:p[i].gone with
   |true=>
    refine AL ⟨B.trans o,?_,I,J⟩;congr 2
    refine PM ?_;rw[V];constructor
    .exact .inl
    .rintro(h|h|h)
     .exact h
     .rw[hk] at h;cases h
     .rw[Z] at h;cases h.1
   |false=>
    refine AQ ?_;rw[AH];refine AJ (o.cell (X 0 _ rfl) λh=>h) ?_;rw[AH];refine AV (vs:=p[i].val.cells) rfl (λj u hu=>o.cell (by rw[Addr.add_add];exact X (2+j) u (ak j u hu)) λh=>h) ?_;refine AA (P6 (hS.grow (B.trans o)) (hT.grow (B.trans o)) an) ?_;rintro _ W5 ⟨rfl,g5⟩;rw[Ah];by_cases O:Gy ks p[i].key p[i].val
    .rw[lq O];refine AL ⟨(B.trans o).trans g5,?_,I,J⟩;congr 2
     refine PM ?_;rw[V];constructor
     .exact .inl
     .rintro(h|h|h)
      .exact h
      .rw[hk] at h;cases h
      .exact(h.2 O).elim
    .rw[lh O];refine AQ ⟨(B.trans o).trans g5,?_,I,J⟩;rw[DN (V.2 (.inr (.inr ⟨Z,O⟩)))]
 refine AR (λvs W4=>Grow W3 W4/\((vs=[.bool true]/\L3 p)\/(vs=[.bool false]/\Nc Chg.key p (i+1)))) ?_ ?_
 .rintro vs W4 ⟨o,⟨rfl,hb⟩|⟨rfl,J⟩⟩ _
  .exact AQ ⟨o,.inl ⟨rfl,hb⟩⟩
  refine AL ?_;rw[AH];refine AJ (o.cell (X 1 _ Y) λh=>h) ?_;cases Z:p[i].gone with
  |true=>
   refine AQ ?_;rw[AH];refine AV (vs:=p[i].val.cells) rfl (λj u hu=>o.cell (by rw[Addr.add_add];exact X (2+j) u (ak j u hu)) λh=>h) ?_;refine⟨As.zero.cells.toArray,by kernel_rfl,?_⟩;refine AX (ME _ _ p[i].val As.zero W4) ?_;by_cases hz:p[i].val=As.zero
   .rw[lq hz];refine AL ?_;rw[AH];refine AJ (o.cell (X 1 _ Y) λh=>h) ?_;rw[Ah,Z];refine AL ⟨o,.inr ⟨rfl,?_,J⟩⟩;rintro(h|h)
    .exact h.2 hz
    .rw[Z] at h;cases h.1
   .rw[lh hz];exact AQ ⟨o,.inl ⟨rfl,.inr (.inr ⟨p[i],U,.inl ⟨Z,hz⟩⟩)⟩⟩
  |false=>
   refine AL ?_;rw[AH];refine AJ (o.cell (X 1 _ Y) λh=>h) ?_;rw[Ah,Z];refine AQ ?_;rw[AH];refine AV (vs:=p[i].val.cells) rfl (λj u hu=>o.cell (by rw[Addr.add_add];exact X (2+j) u (ak j u hu)) λh=>h) ?_;refine AA (Ox (hT.grow (B.trans o)) an) ?_;rintro _ W5 ⟨rfl,g5⟩;rw[Ah];refine⟨o.trans g5,?_⟩;by_cases a1:DT p[i].val
   .refine .inr ⟨by rw[lq a1];rfl,?_,J⟩;rintro(h|h)
    .rw[Z] at h;cases h.1
    .exact h.2 a1
   .exact .inl ⟨by rw[lh a1];rfl,.inr (.inr ⟨p[i],U,.inr ⟨Z,a1⟩⟩)⟩
 refine Cv (λW=>Grow W3 W) (Mod.drew _ _) ?_;rw[BE];refine AD (λay=>?_) λay W4 o=>⟨o,.inr ⟨rfl,λj hj=>by omega⟩⟩;rw[Am,wrap64 (by omega) (by omega),show((i:Int)-1)=((i-1:Nat):Int) by omega];have a6:i-1<p.length:=by omega
 obtain⟨_,r2,e2,_,ba,aZ,rfl⟩:=(h.grow B (by decide) λ_ _ h=>h).get a6;cases e2;refine AS a6 ?_;rw[AH,Addr.add_add];refine Aw (λW hW=>hW.cell (aZ 0 _ rfl) λh=>h) ?_;rw[AH];refine Aw (λW hW=>hW.cell (X 0 _ rfl) λh=>h) ?_;rw[Cu];intro W4 o;by_cases a8:p[i-1].key ≥ p[i].key
 .rw[lq a8];refine⟨o,.inl ⟨rfl,.inl λax=>?_⟩⟩;have:=ax i (by omega) m _ _ (Bq a6) (Bq m);omega
 .rw[lh a8];refine⟨o,.inr ⟨rfl,λj h1 h2 a b ha hb=>?_⟩⟩;by_cases e:j=i
  .subst e;rw[Bq a6] at ha;rw[Bq m] at hb;cases ha;cases hb;omega
  .exact a7 j h1 (by omega) a b ha hb
def jA(o:Dop):Prop:=(∀a∈o.set,0<=a.val.f)/\∀c∈o.patch,0<=c.val.f
open Classical in
noncomputable def Iy(ks:List DKey)(o:Dop):Int:=if ¬FZ o then 3 else if BY ks o.set≠0 then BY ks o.set else Db ks o.patch
open Classical in
def bJ{E D:Nat->Prop}{r:List Value}{o:Dop}(U:CK E w sv ks)(h:Cf D w r o)(V:EA w)(X:jA o) :
  AB prog 164 [sv,.agg r.toArray] (λv w'=>v=zI (Iy ks o)/\Grow w w') w:=by
 refine uS2 (dB 70081320041 [([],[(4,4),(6,18)])] []) func164 (λ_ _ _ _=>⟨by conv=>lhs;reduce,by dsimp only[PI,AF],by kernel_rfl⟩) ?_;unfold uI;refine DC λb Y _ I g hc _=>?_;have q:r.length=5:=by obtain⟨_,_,_,rfl,_⟩:=h;rfl
 have h1:=h.mod (D':=D) g (λ_ _ _ h=>h) λ_ _ h=>h;refine AR (λvs w2=>Grow Y w2/\FZ o) ?_ ?_
 .rintro vs w2 ⟨i,B⟩ _;obtain⟨rv,uv,pv,rfl,q1,Z,q3⟩:=h1.mod (D':=D) i (λ_ _ _ h=>h) λ_ _ h=>h;rw[AH];refine AJ (i.cell (hc 3 _ rfl) λh=>h) ?_;refine AA (Ln (U.grow (g.trans i)) Z (V.grow (g.trans i)) X.1) ?_;rintro _ w3 ⟨rfl,m⟩;rw[BL];have e0:Iy ks o=if BY ks o.set≠0 then BY ks o.set else Db ks o.patch:=by rw[Iy,Bp (qz B)]
  refine AW (λI=>?_) λI=>⟨by rw[e0,DN I],(g.trans i).trans m⟩;rw[AH];refine AJ ((i.trans m).cell (hc 4 _ rfl) λh=>h) ?_;refine AA (Xg (U.grow ((g.trans i).trans m)) (q3.grow m (by decide) λ_ _ h=>h) (V.grow ((g.trans i).trans m)) X.2) ?_;rintro _ w4 ⟨rfl,J⟩;exact⟨by rw[e0,Bp (qz I)],((g.trans i).trans m).trans J⟩
 have O:∀w',Grow Y w'->¬FZ o->zI 3=zI (Iy ks o)/\Grow w w':=λw' g' hn=>⟨by rw[Iy,DN hn],g.trans g'⟩;refine AV q hc ?_;refine AA (WI h1) ?_;rintro _ w2 ⟨rfl,i⟩;rw[Ah];refine AW (λhp=>?_) λhp=>O _ i λB=>hp ((Io o).1 B).1;refine AV q (λj u hu=>i.cell (hc j u hu) λh=>h) ?_;refine AA (MK (h1.mod (D':=D) i (λ_ _ _ h=>h) λ_ _ h=>h)) ?_;rintro _ w3 ⟨rfl,m⟩;rw[Ai];refine AD (λhl=>O _ (i.trans m) λB=>by have:=((Io o).1 B).2.1;omega) λhl=>?_;refine AV q (λj u hu=>(i.trans m).cell (hc j u hu) λh=>h) ?_;refine AA (MK (h1.mod (D':=D) (i.trans m) (λ_ _ _ h=>h) λ_ _ h=>h)) ?_;rintro _ w4 ⟨rfl,J⟩;rw[BE];refine AD (λQ=>O _ ((i.trans m).trans J) λB=>by have:=((Io o).1 B).2.2;omega) λQ=>⟨(i.trans m).trans J,(Io o).2 ⟨hp,by omega,by omega⟩⟩
def NN(ks:List DKey):BY ks []=0:=EJ.2 IW
def Sr(ks:List DKey):Db ks []=0:=G0.2 KU
def XV(ks:List DKey)(l:List Attr):BY ks l=0\/BY ks l=3\/BY ks l=4:=by
 unfold BY;split
 .exact .inr (.inl rfl)
 .split
  .exact .inr (.inr rfl)
  .exact .inl rfl
def Yo(ks:List DKey)(l:List Chg):Db ks l=0\/Db ks l=3\/Db ks l=4:=by
 unfold Db;split
 .exact .inr (.inl rfl)
 .split
  .exact .inr (.inr rfl)
  .exact .inl rfl
def ZA(ks:List DKey)(o:Dop):(Iy ks o=3↔¬FZ o\/BY ks o.set=3\/Db ks o.patch=3)/\(Iy ks o=0\/Iy ks o=3\/Iy ks o=4)/\(Iy ks o≠3->(Iy ks o=0↔BY ks o.set=0/\Db ks o.patch=0)):=by
 have v1:=XV ks o.set;have v2:=Yo ks o.patch;by_cases i:FZ o
 .have m:BY ks o.set=0\/Db ks o.patch=0:=by
   rcases i with⟨_,_,h,_⟩|⟨_,_,h,_⟩|⟨_,_,_,h,_⟩
   .left;rw[h];exact NN ks
   .left;rw[h];exact NN ks
   .right;rw[h];exact Sr ks
  unfold Iy;rw[Bp (qz i)];by_cases j:BY ks o.set=0
  .rw[Bp (qz j)];exact⟨⟨λh=>.inr (.inr h),λh=>by rcases h with h|h|h;exact(h i).elim;omega;exact h⟩,v2,λ_=>⟨λh=>⟨j,h⟩,λh=>h.2⟩⟩
  .rw[DN j];refine⟨⟨λh=>.inr (.inl h),λh=>by rcases h with h|h|h;exact(h i).elim;exact h;omega⟩,v1,λ_=>⟨λh=>⟨h,by omega⟩,λh=>h.1⟩⟩
 .unfold Iy;rw[DN i];exact⟨⟨λ_=>.inl i,λ_=>rfl⟩,.inr (.inl rfl),λh=>(h rfl).elim⟩
open Classical in
def QT{E S D:Nat->Prop}{x:List Dop}(hS:CK E w sv ks)(h:Ak S D w v x)(hT:EA w)(hI:∀o∈x,jA o) :
  AB prog 86 [sv,v] (λv' w'=>v'=zI (DJ ks x)/\Grow w w') w:=by
 refine uS2 (dB 38529486301856977961673 [([5,11],[(4,5),(7,8),(11,26)])] []) func86 (λ_ _ _ _=>⟨by conv=>lhs;reduce,by dsimp only[PI,AF],by kernel_rfl⟩) ?_;unfold uI;have q:=h;obtain⟨a,c,rfl,hm⟩:=h.shape;simp only[maxLen] at hm;have Q:∀w',Grow w w'->Ri ks x->zI 3=zI (DJ ks x)/\Grow w w':=λw' g hb=>⟨by rw[DJ,DN hb],g⟩;rw[AO];refine AU (λvs w1=>∃k:Nat,k<=x.length/\vs=[zI (if IK ks (x.take k) then 4 else 0),zI k]/\Grow w w1/\∀o∈x.take k,Iy ks o≠3) (λvs _=>x.length-Dh vs 1)
  ⟨0,Nn _,by rw[Bp (by rintro⟨a,ha,_⟩;simp at ha)];rfl,Mod.refl _ _,by simp⟩ ?_
 rintro vs w1 ⟨k,hk,rfl,g,B⟩ _;simp only[FC];refine G9 (λa7=>?_) λa8=>?_
 .have i:k<x.length:=by omega
  have O:=ku i;obtain⟨p,r,rfl,_,hr,hc,X⟩:=(Ak.grow h g).get i;refine AS i (AV hr (λj u hu=>by rw[Addr.add_add];exact hc j u hu) ?_);refine BH hr rfl X.one λb w2 hb hz J a1 _=>?_;refine AV hr a1 ?_;refine AA (bJ (hS.grow (g.trans J)) (X.mod (D':=D) J (λ_ _ _ h=>h) λ_ _ h=>h) (hT.grow (g.trans J)) (hI _ O)) ?_;rintro _ w3 ⟨rfl,Z⟩;have U:=(g.trans J).trans Z;obtain⟨m1,m2,m3⟩:=ZA ks x[k];rw[Aa];refine AD (λV=>?_) λV=>?_
  .rw[V];exact Q _ U (.inl ⟨_,O,m1.1 V⟩)
  have e1:x.take (k+1)=x.take k++[x[k]]:=by rw[S5,Bq i];rfl
  have I:∀o∈x.take (k+1),Iy ks o≠3:=λo q=>by
   rw[e1] at q;rcases By.1 q with q|q
   .exact B o q
   .simp at q;subst q;exact V
  have Y:IK ks (x.take (k+1))↔IK ks (x.take k)\/Iy ks x[k]≠0:=by
   unfold IK;rw[e1];constructor
   .rintro⟨a,ha,m⟩;rcases By.1 ha with ha|ha
    .exact .inl ⟨a,ha,m⟩
    .simp at ha;subst ha;exact .inr λh0=>by have:=(m3 V).1 h0;rcases m with m|m;exact m this.1;exact m this.2
   .rintro(⟨a,ha,m⟩|m)
    .exact⟨a,lC _ ha,m⟩
    .refine⟨x[k],lE _ (S6.2 rfl),?_⟩;by_cases hz:BY ks x[k].set=0
     .exact .inr λh0=>m ((m3 V).2 ⟨hz,h0⟩)
     .exact .inl hz
  rw[BL];refine AW (λh0=>?_) λh0=>?_
  .rw[AM,AK (by omega)];refine⟨⟨k+1,i,?_,U,I⟩,by rw[Ar,Ar];omega⟩;congr 2
   refine PM ?_;rw[Y];exact⟨.inl,λh'=>by rcases h' with h'|h';exact h';exact(h' h0).elim⟩
  .rw[AM,AK (by omega)];refine⟨⟨k+1,i,?_,U,I⟩,by rw[Ar,Ar];omega⟩;rw[DN (Y.2 (.inr h0))];congr 2
   omega
 .have:k=x.length:=by omega
  subst this;rw[S7] at B ⊢;refine AA (Km (Ak.grow q g)) ?_;rintro _ w2 ⟨rfl,J⟩;rw[BE];refine AD (λh1=>Q _ (g.trans J) (.inr (.inl h1))) λh1=>?_;refine AA (OW (Ak.grow q (g.trans J))) ?_;rintro _ w3 ⟨rfl,Z⟩;rw[BE];refine AD (λh2=>Q _ ((g.trans J).trans Z) (.inr (.inr h2))) λh2=>?_;refine⟨?_,(g.trans J).trans Z⟩;have a6:¬Ri ks x:=by
   rintro(⟨o,q,m⟩|m|m)
   .exact B o q ((ZA ks o).1.2 m)
   .exact h1 m
   .exact h2 m
  unfold DJ;rw[Bp a6]
def Hg(v:As):Prop:=(-9223372036854775808<=v.n/\v.n<=9223372036854775807)/\(0<=v.f/\v.f<18446744073709551616)
def NT(o:Dop):Prop:=(∀a∈o.set,a.key<=9223372036854775807/\Hg a.val)/\∀c∈o.patch,c.key<=9223372036854775807/\Hg c.val
def NT.o{o:Dop}(h:NT o):jA o:=⟨λa ha=>(h.1 a ha).2.2.1,λc hc=>(h.2 c hc).2.2.1⟩
variable {ks:List DKey}
abbrev ju(ks:List DKey)(l:List Attr):Prop:=JP ks l/\∀a∈l,a.key<=9223372036854775807/\Hg a.val
abbrev jy(ks:List DKey)(p:List Chg):Prop:=KL ks p/\∀c∈p,c.key<=9223372036854775807/\Hg c.val
abbrev II(ks:List DKey)(o:Dop):Prop:=Good (ju ks) (jy ks) o
def II.k{o:Dop}(h:II ks o):BX ks o:=by
 rcases h with⟨h1,i,j,m,q⟩|h|⟨h1,i,j,m,q,B⟩
 .exact .inl ⟨h1,i,j,m,q.1⟩
 .exact .inr (.inl h)
 .exact .inr (.inr ⟨h1,i,j,m,q,B.1⟩)
def II.b{o:Dop}(h:II ks o):NT o:=by
 rcases h with⟨h1,q,i,j,m⟩|⟨h1,q,i,j,m⟩|⟨h1,q,i,j,m,B⟩
 .exact⟨by rw[i];simp,m.2⟩
 .exact⟨by rw[i];simp,by rw[j];simp⟩
 .exact⟨B.2,by rw[j];simp⟩
def BX.b{o:Dop}(h:BX ks o)(hb:NT o):II ks o:=by
 rcases h with⟨h1,i,j,m,q⟩|h|⟨h1,i,j,m,q,B⟩
 .exact .inl ⟨h1,i,j,m,q,hb.2⟩
 .exact .inr (.inl h)
 .exact .inr (.inr ⟨h1,i,j,m,q,B,hb.1⟩)
def DT.rep{v:As}(h:DT v)(hi:Hg v):eG v:=by
 rcases h with⟨h1,i,j⟩|⟨h1,i⟩|⟨h1,i,_⟩|⟨h1,i,j,_⟩
 .exact .inl ⟨.inl h1,hi.1,by rw[i],by rw[i];rfl⟩
 .exact .inl ⟨.inr h1,hi.1,by rw[i],by rw[i];rfl⟩
 .exact .inr (.inl ⟨h1,by rw[i],hi.2,by rw[i];rfl⟩)
 .exact .inr (.inr ⟨h1,by rw[i],by rw[i],by omega⟩)
def Ql(hk:∀k∈ks,0<=k.id){id:Int}(h:BK ks id≠none):0<=id:=by
 obtain⟨k,h1,i⟩:=lT.1 (Pk h);rw[<-i];exact hk k h1
def JP.rep(hk:∀k∈ks,0<=k.id){l:List Attr}(h:ju ks l):Wg iT l:=
 ⟨by have:=h.1.2.1;omega,λa ha=>by
  obtain ⟨h1,k,i,_⟩:=h.1.2.2 a ha;have j:=h.2 a ha;exact ⟨⟨Ql hk (by rw [i];simp),by omega⟩,h1.rep j.2⟩⟩
def KL.rep(hk:∀k∈ks,0<=k.id){l:List Chg}(h:jy ks l):Wg iL l:=
 ⟨by have:=h.1.2.1;omega,λc hc=>by
  obtain⟨h1,j,m⟩:=h.1.2.2 c hc;have o:=h.2 c hc;refine⟨⟨Ql hk m,by omega⟩,?_⟩;cases i:c.gone
  .exact .inr ⟨rfl,(j i).1.rep o.2⟩
  .exact .inl ⟨rfl,h1 i⟩⟩
def Rs:∀l:List Int,(QB l).length<=l.length*4:=by
 intro l;induction l with
 |nil=>simp[QB]
 |cons r l i=>
  have:=(Ya r).2;have e:QB (r::l)=WU r++QB l:=rfl;rw[e,BW,gD];omega
def II.rep(hk:∀k∈ks,0<=k.id){o:Dop}(h:II ks o)(hl:Bk o<=536870912):gR o:=by
 unfold Bk at hl;rcases h with⟨h1,i,j,m,q⟩|⟨h1,i,j,m,q⟩|⟨h1,i,j,m,q,B⟩
 .rw[Bp (by omega)] at hl;exact .inl ⟨h1,by omega,i,j,KL.rep hk q⟩
 .rw[Bp (by omega)] at hl;exact .inr (.inr ⟨h1,by omega,i,j,m⟩)
 .rw[DN h1] at hl;exact .inr (.inl ⟨h1,j,i,by have:=Rs o.Ab;omega,JP.rep hk B,m⟩)
def BX.dD{o:Dop}(h:BX ks o)(hl:Bk o<=536870912):FT o:=by
 unfold Bk at hl;rcases h with⟨h1,m,i,j,q⟩|⟨h1,m,i,j,q⟩|⟨h1,m,i,j,q,B⟩
 .rw[Bp (by omega)] at hl;exact .inl ⟨h1,m,i,j,by omega⟩
 .rw[Bp (by omega)] at hl;exact .inr (.inl ⟨h1,m,i,j,q,by omega⟩)
 .exact .inr (.inr ⟨h1,i,j,q⟩)
def BX.tm{o:Dop}(h:BX ks o):Bh o=(Bk o:Int)-o.Ab.length/\Bn o=(Bk o:Int)-(if o.kind=3 then o.n else 0)/\0<=Bh o/\Bh o<=Bk o/\0<=Bn o/\Bn o<=Bk o:=by
 unfold Bh Bn Bk MP;rcases h with⟨h1,i,j,m,q⟩|⟨h1,i,j,m,q⟩|⟨h1,i,j,m,q,B⟩
 .rw[h1,i];simp;omega
 .rw[h1,i];simp;omega
 .rw[h1];simp
def gQ{x:List Dop}(h:∀o∈x,BX ks o/\Bk o<=536870912)(hl:x.length<=1048576):Cq Bh x=(total x:Int)-Bg x/\Cq Bn x=(total x:Int)-Cc x:=by
 have j:=(Ez (f:=Bh) (m:=536870912) (by decide) x (λo i=>by have:=(h o i).1.tm;have:=(h o i).2;omega) (by omega)).1;have q:=(Ez (f:=Bn) (m:=536870912) (by decide) x (λo i=>by have:=(h o i).1.tm;have:=(h o i).2;omega) (by omega)).1;rw[j,q];clear j q hl;induction x with
 |nil=>simp[total,Bg,Cc]
 |cons o x B=>
  obtain⟨i1,i2⟩:=B λo i=>h o (by simp[i]);have:=(h o (by simp)).1.tm;simp only[lO,nf,total,Bg,Cc] at i1 i2 ⊢
  push_cast
  omega
def OG{x:List Dop}(h:∀o∈x,BX ks o/\Bk o<=536870912)(ht:Cq Bh x<=536870912)(hm:Cq Bn x<=536870912):DJ ks x=0:=by
 have m:∀o∈x,FZ o/\JP ks o.set/\KL ks o.patch:=λo j=>BX.form (h o j).1 (h o j).2;unfold DJ;rw[Bp,Bp]
 .rintro⟨o,j,i|i⟩
  .exact i (EJ.2 (m o j).2.1)
  .exact i (G0.2 (m o j).2.2)
 .rintro(⟨o,j,i|i|i⟩|i|i)
  .exact i (m o j).1
  .rw[EJ.2 (m o j).2.1] at i;cases i
  .rw[G0.2 (m o j).2.2] at i;cases i
  .omega
  .omega
def X6{x:List Dop}(h:DJ ks x=0):Cq Bh x<=536870912/\Cq Bn x<=536870912:=by
 unfold DJ at h;split at h
 .cases h
 .rename_i h1;exact⟨lN λi=>h1 (.inr (.inl (by omega))),lN λi=>h1 (.inr (.inr (by omega)))⟩
def OU{x:List Dop}(h:∀o∈x,BX ks o):((Bg x:Int)+Cc x<=total x)/\0<=Cc x:=by
 induction x with
 |nil=>simp[total,Bg,Cc]
 |cons o x I=>
  have:=I λo j=>h o (by simp[j]);have j:=h o (by simp);simp only[lO,nf,total,Bg,Cc,Bk] at this ⊢
  push_cast
  rcases j with⟨h1,i,m,q,B⟩|⟨h1,i,m,q,B⟩|⟨h1,i,m,q,B,J⟩
  .rw[h1,i];simp;omega
  .rw[h1,i];simp;omega
  .rw[h1];simp;omega
def one_le{x:List Dop}(h:∀o∈x,BX ks o){z:Dop}(q:z∈x):(z.kind≠2->(Bk z:Int)+Bg x<=total x)/\(z.kind=2->(Bk z:Int)+Cc x<=total x):=by
 induction x with
 |nil=>simp at q
 |cons o x J=>
  have I:∀o∈x,BX ks o:=λo j=>h o (by simp[j]);have hr:=OU I;have j:=h o (by simp);have m:=j.tm;have i:(o.Ab.length:Int)<=Bk o/\(if o.kind=3 then o.n else 0)<=Bk o/\0<=(if o.kind=3 then o.n else 0)/\(o.kind≠2->o.Ab.length=0)/\(o.kind=2->(if o.kind=3 then o.n else 0)=0):=by
   have:=m.2.2.1;have:=m.2.2.2.2.1;refine⟨by omega,by omega,?_,λe=>?_,λe=>by rw[e];rfl⟩
   .split
    .rcases j with⟨h1,_⟩|⟨_,_,_,_,O⟩|⟨h1,_⟩<;>omega
    .omega
   .rcases j with⟨_,B,_⟩|⟨_,B,_⟩|⟨h1,_⟩
    .rw[B];rfl
    .rw[B];rfl
    .exact(e h1).elim
  simp only[lO,nf,total,Bg,Cc] at hr ⊢
  push_cast
  rcases Mp.1 q with rfl|q
  .refine⟨λe=>?_,λe=>?_⟩
   .have:=i.2.2.2.1 e;omega
   .have:=i.2.2.2.2 e;omega
  .have i1:=J I q;simp only[total,Bg,Cc] at i1;refine⟨λe=>?_,λe=>?_⟩
   .have:=i1.1 e;omega
   .have:=i1.2 e;omega
def Yw(hk:∀k∈ks,0<=k.id){x:List Dop}(h:DJ ks x=0)(hb:∀o∈x,NT o)(hl:x.length<=1048576) :
  DJ ks (BV x)=0/\(∀z∈BV x,II ks z/\Bk z<=536870912)/\Wg gR (BV x)/\BV (BV x)=BV x/\(BV x).length<=x.length:=by
 have m:=J7 h;obtain⟨Z,e2⟩:=gQ m hl;obtain⟨m1,m2⟩:=X6 h;have U:=OU λo j=>(m o j).1;have J:∀o∈x,FT o:=λo j=>(m o j).1.dD (m o j).2;obtain⟨B,n2⟩:=Vc x (λo j=>(m o j).1.b (hb o j)) (by omega);obtain⟨O,Q,V⟩:=Sn x J (by omega);have I:∀z∈BV x,Bk z<=536870912:=by
  intro z i;have hr:=one_le (λo j=>II.k (B o j)) i;rw[O,Q] at hr;by_cases e:z.kind=2
  .have:=hr.2 e;omega
  .have:=hr.1 e;omega
 have q:∀z∈BV x,BX ks z/\Bk z<=536870912:=λz i=>⟨II.k (B z i),I z i⟩;obtain⟨X,Y⟩:=gQ q (by omega);rw[O] at X;rw[Q] at Y;exact⟨OG q (by omega) (by omega),λz i=>⟨B z i,I z i⟩,⟨by omega,λz i=>II.rep hk (B z i) (I z i)⟩,Sj x J (by omega),V⟩
end
section
open Go.ChangeShapes Go.WideShapes Go.ChangeAt Go.RowKit Go.Joins
variable {H:Type}{enc:TypeId×Value->H}{w:World}{base:Nat}{spare:Nat->Bool}{held:Bool}
def UT{x y:Attr}(h:x.cells=y.cells):x=y:=by
 obtain⟨k,v,n,f,s⟩:=x;obtain⟨i,v',j,m,o⟩:=y;simp only[Attr.cells,As.cells,np,Value.int.injEq,pd,pr,sD] at h;obtain⟨rfl,rfl,rfl,rfl,rfl⟩:=h;rfl
def val_inj{x y:As}(h:x.cells=y.cells):x=y:=by
 obtain⟨v,n,f,s⟩:=x;obtain⟨v',i,j,m⟩:=y;simp only[As.cells,np,Value.int.injEq,pd,pr,sD] at h;obtain⟨rfl,rfl,rfl,rfl⟩:=h;rfl
end
section
open Go.ChangeShapes Go.WideShapes Go.ChangeAt Go.RowKit Go.Joins
variable {H:Type}{enc:TypeId×Value->H}{w:World}{base:Nat}{spare:Nat->Bool}{held:Bool}
def Pb{n:Nat}{y:DataW H×List MemPlace}(h:DataW.trod enc prog w base spare held n 5 cs=some y):∃x:Int,H9 w cs x/\(0<=x/\x<256):=by
 obtain⟨k,e,_,i⟩:=mK underlying5 h;have hr:=HA i;have j:IntKind.u8.min=0:=by decide
 have m:IntKind.u8.max=255:=by decide
 rw[j,m] at hr;exact⟨k,e,hr.1,by omega⟩
def Nf{n:Nat}{y:DataW H×List MemPlace}(h:DataW.trod enc prog w base spare held n 23 cs=some y):∃v l,cs=[v]/\(Bv (λ_=>True) w v l/\∀x∈l,0<=x/\x<256):=by
 obtain⟨v,l,e,hl⟩:=An.bO (k:=1) (R:=λ(w:World) r (x:Int)=>H9 w r x/\(0<=x/\x<256)) underlying23 (by kernel_rfl) (λ_ _ _ h=>Pb h) h;exact⟨v,l,e,hl.strip⟩
def Ni{n:Nat}{y:DataW H×List MemPlace}(h:DataW.trod enc prog w base spare held n 83 cs=some y):∃x:Attr,(CR w cs x/\(x.key<=9223372036854775807/\Hg x.val))/\LQ x<=Rows.uptoBulk y.1:=by
 obtain⟨x,e,i⟩:=Nh h;obtain⟨x',e',hm⟩:=Np h;have j:cs=x'.cells:=e';have:x=x':=UT (e.symm.trans j);subst this;exact⟨x,⟨e,i.1.2,⟨i.2.2.1,i.2.2.2.1⟩⟩,hm⟩
def Ow{n:Nat}{y:DataW H×List MemPlace}(h:DataW.trod enc prog w base spare held n 56 cs=some y):∃x:Chg,(Ef w cs x/\(x.key<=9223372036854775807/\Hg x.val))/\QF x<=Rows.uptoBulk y.1:=by
 have c2:prog.cellsOf 54=4:=by kernel_rfl
 obtain⟨x,e,hm⟩:=PK h;obtain⟨xs,m,_,_,hl,i,j⟩:=p4 underlying56 h;match xs,i with
 |[B,U,I],_=>
  have o:DataW.trod enc prog w base spare held m 54 ((cs.drop 2).take (prog.cellsOf 54))=some I:=j 2 _ rfl;rw[c2] at o;obtain⟨v,ev,q⟩:=Jl o;have e':cs=x.cells:=e;subst e';have:v=x.val:=val_inj (ev.symm.trans (by rfl));subst this;have c1:prog.cellsOf 3=1:=by kernel_rfl
  have h0:DataW.trod enc prog w base spare held m 3 ((x.cells.drop 0).take (prog.cellsOf 3))=some B:=j 0 _ rfl;rw[c1] at h0;obtain⟨k,J,_,O⟩:=mK underlying3 h0;have hk:x.key=k:=by
   have:[zI x.key]=[zI k]:=J;simpa using this
  have hr:=(HA O).2;have Q:IntKind.i64.max=9223372036854775807:=by decide
  rw[Q] at hr;exact⟨x,⟨rfl,by omega,⟨q.2.1,q.2.2.1⟩⟩,hm⟩
def PU{n:Nat}{y:DataW H×List MemPlace}(h:DataW.trod enc prog w base spare held n 64 cs=some y):∃v l,cs=[v]/\(Ba (λ_=>True) w v l/\∀a∈l,a.key<=9223372036854775807/\Hg a.val)/\IE l+1<=Rows.uptoBulk y.1:=by
 obtain⟨v,l,e,hl,hm⟩:=An.J6 (k:=5) (μ:=LQ) (R:=λ(w:World) r (x:Attr)=>CR w r x/\(x.key<=9223372036854775807/\Hg x.val)) underlying64 (by kernel_rfl) (λ_ _ _ h=>Ni h) h;exact⟨v,l,e,hl.strip,hm⟩
def Jy{n:Nat}{y:DataW H×List MemPlace}(h:DataW.trod enc prog w base spare held n 24 cs=some y):∃v l,cs=[v]/\(EV (λ_=>True) w v l/\∀a∈l,a.key<=9223372036854775807/\Hg a.val)/\JJ l+1<=Rows.uptoBulk y.1:=by
 obtain⟨v,l,e,hl,hm⟩:=An.J6 (k:=6) (μ:=QF) (R:=λ(w:World) r (x:Chg)=>Ef w r x/\(x.key<=9223372036854775807/\Hg x.val)) underlying24 (by kernel_rfl) (λ_ _ _ h=>Ow h) h;exact⟨v,l,e,hl.strip,hm⟩
def Oz{n:Nat}{y:DataW H×List MemPlace}(h:DataW.trod enc prog w base spare held n 81 cs=some y):∃x:Dop,(Cf (λ_=>True) w cs x/\NT x)/\Eu x<=Rows.uptoBulk y.1:=by
 have c0:prog.cellsOf 81=5:=by kernel_rfl
 have c1:prog.cellsOf 3=1:=by kernel_rfl
 have c2:prog.cellsOf 5=1:=by kernel_rfl
 have J:prog.cellsOf 79=1:=by kernel_rfl
 have O:prog.cellsOf 64=1:=by kernel_rfl
 have Q:prog.cellsOf 24=1:=by kernel_rfl
 obtain⟨xs,m,_,rfl,hl,j,i⟩:=p4 underlying81 h;match xs,j with
 |[U,V,X,Y,Z],_=>
  have h0:DataW.trod enc prog w base spare held m 5 ((cs.drop 0).take (prog.cellsOf 5))=some U:=i 0 _ rfl;have h1:DataW.trod enc prog w base spare held m 3 ((cs.drop 1).take (prog.cellsOf 3))=some V:=i 1 _ rfl;have o:DataW.trod enc prog w base spare held m 79 ((cs.drop 2).take (prog.cellsOf 79))=some X:=i 2 _ rfl;have q:DataW.trod enc prog w base spare held m 64 ((cs.drop 3).take (prog.cellsOf 64))=some Y:=i 3 _ rfl;have B:DataW.trod enc prog w base spare held m 24 ((cs.drop 4).take (prog.cellsOf 24))=some Z:=i 4 _ rfl;rw[c0] at hl;rw[c2] at h0;rw[c1] at h1;rw[J] at o;rw[O] at q;rw[Q] at B;obtain⟨a0,a1,a2,a3,a4,rfl⟩:=cI hl
  .clear i;simp only[mz,nL,nx,nN] at h0 h1 o q B;obtain⟨k,e0,_,_⟩:=mK underlying5 h0;obtain⟨n,e1,_,_⟩:=mK underlying3 h1;obtain⟨rv,rl,e2,hr,b2⟩:=Lw o;obtain⟨sv,sl,e3,⟨hs,i3⟩,b3⟩:=PU q;obtain⟨pv,I,e4,⟨hp,i4⟩,b4⟩:=Jy B;cases e0;cases e1;cases e2;cases e3;cases e4;refine⟨⟨k,n,rl,sl,I⟩,⟨⟨a2,a3,a4,rfl,hr,hs,hp⟩,i3,i4⟩,?_⟩;simp only[Eu,lO,mh,Rows.uptoBulk,Rows.uptoBulkAll];omega
def Nj{n:Nat}{y:DataW H×List MemPlace}(h:DataW.trod enc prog w base spare held n 22 cs=some y):∃v l,cs=[v]/\(Ak (λ_=>True) (λ_=>True) w v l/\∀o∈l,NT o)/\Aq l+1<=Rows.uptoBulk y.1:=by
 obtain⟨v,l,e,hl,hm⟩:=An.J6 (k:=5) (μ:=Eu) (R:=λ(w:World) r (x:Dop)=>Cf (λ_=>True) w r x/\NT x) underlying22 (by kernel_rfl) (λ_ _ _ h=>Oz h) h;exact⟨v,l,e,hl.strip,hm⟩
end
structure AvK where
 E:Nat
 one:Bool
 zE:List Value
 te:Nat
 tn:Nat
 ts:Nat
 tp:Nat
 tps:Nat
 tt:Nat
 tT:Nat
 tk:Nat
 tA:Nat
 fat:Nat
 ftotals:Nat
 fset:Nat
 flift:Nat
 flean:Nat
 fbalance:Nat
 fjoin:Nat
 ffirst:Nat
 flast:Nat
 fconcat:Nat
 fsplit:Nat
 fdrop:Nat
 fpick:Nat
 fmelded:Nat
 fReplace:Nat
 fover:Nat
 fOver:Nat
 fOverf:Nat
 fSize:Nat
 fNew:Nat
 aTake:Nat
 aasked:Nat
 aFree:Nat
 aAt:Nat
 aPut:Nat
 aNew:Nat
 vm:Value
 vc:Value
 vd:Value
def AvK.zN(g:AvK):List Value:=g.zE++[zI 0,zI 0,zI 0,zI 0,zI 0]
def AvK.zP(g:AvK):List Value:=g.zE++[zI 0,zI 0,zI 0,zI 0,zI 0,.bool false]
def Om(g:AvK)(i:Addr->Value->Prop)(x:Value)(k:Value->Prop):Prop:=bif g.one then DQ i x k else GD i g.E x k
def ja(g:AvK)(v0 v1:Value)(K:Cont)(w:World):Prop:=
 Bt g.tn g.zN (λt4 B=>
 Af v0 λt9=>
 BC 3 t9 λj=>
 Ay j (λm w2=>
 AB prog g.aAt [m,v1] (λi I=>
 Ag 0 i λo=>
 Ag 1 i λ_t15=>
 Bt g.tn g.zN (λt5 w4=>
 BP (g.E+5) t5 o (λJ=>
 CX (g.E+5) t5 (λq O=>
 BP (g.E+5) t4 q (λQ=>
 CX (g.E+5) t4 (λU V=>
 K U V) Q) O) J) w4) I) w2) B) w
def Tc(g:AvK)(v0 v1:Value)(K:Cont)(w:World):Prop:=
 Nw .i64 v1 (zI (-1)) λt9=>
 AZ t9
 (K (.tuple #[(zI 0),(zI 0),(zI 0)]) w)
 (AB prog g.fat [v0,v1] (λj O=>
 Bt g.tn g.zN (λi w2=>
 BP (g.E+5) i j (λQ=>
 Jt Q (λC=>
 BC (g.E+2) i λm=>
 HS C m λo=>
 BC (g.E+3) i λq=>
 HS C q λB=>
 BC (g.E+4) i λI=>
 HS C I λJ=>
 ∀w4:World,C w4->
 K (.tuple #[o,B,J]) w4)) w2) O) w)
def gV(g:AvK)(v0 v1 v2:Value)(K:Cont)(w:World):Prop:=
 Gf g.tn v2 (λt5 w1=>
 BC g.E t5 λB=>
 Ay B (λI w2=>
 AB prog g.ftotals [v0,I] (λj w3=>
 Ag 0 j λJ=>
 Ag 1 j λO=>
 Ag 2 j λQ=>
 BC (g.E+1) t5 λU=>
 Ay U (λt25 w4=>
 AB prog g.ftotals [v0,t25] (λm V=>
 Ag 0 m λX=>
 Ag 1 m λY=>
 Ag 2 m λZ=>
 CM [7] [[],[0],[0,1],[0,1,2],[0,1,2,3],[],[5],[0,1,2,3,4,5,6],[0,1,2,3,4,5,6,7],[0,1,2,3,4,5,6,7,8],[0,1,2,3,4,5,6,7,8],[0,1,2,3,4,5,6,7,8,9],[0,1,2,3,4,5,6,7,8,9,10,11]] V.drew (λM St=>
 Af v0 λa1=>
 BC 0 a1 λa6=>
 BC 0 a6 λa7=>
 DQ (St 4) a7 λa8=>
 BC 0 t5 λak=>
 Om g (St 6) ak λal=>
 BF prog CS a8 [al] (λo w6=>
 Mod (M 7) V.drew w6/\
 Ag 0 o λt39=>
 Ag 1 o λan=>
 LV .i64 J X λav=>
 CW .i64 (zI 1) av λax=>
 CW .i64 O Y λay=>
 CW .i64 ay t39 λaZ=>
 CW .i64 Q Z λb0=>
 CW .i64 b0 an λb1=>
 BC (g.E+2) t5 λt55=>
 CB t55 ax (λw7=>
 BC (g.E+3) t5 λb2=>
 CB b2 aZ (λw8=>
 BC (g.E+4) t5 λb6=>
 CB b6 b1 (λw9=>
 CM [6] [[],[0],[0,1],[0,1,2],[],[],[0,1,2,3,4,5]] w9.drew (λb7 i=>
 Af v0 λb8=>
 BC 3 b8 λb9=>
 DQ (i 3) b9 λba=>
 GD (i 5) (g.E+5) t5 λbb=>
 AB prog g.aPut [ba,v1,bb] (λ_t64 q=>
 Mod (b7 6) w9.drew q/\
 K (.tuple #[]) q) w9.drew)) w8) w7) w6) V.drew)) w4) w3) w2) w1) w
def YT(g:AvK)(v0 v1 v2:Value)(K:Cont)(w:World):Prop:=
 AB prog g.fat [v0,v1] (λq w1=>
 Bt g.tn g.zN (λj w2=>
 BP (g.E+5) j q (λw3=>
 AZ v2
 (BC g.E j λB=>
 Ay B (λm w4=>
 AB prog g.fat [v0,m] (λI w5=>
 Bt g.tn g.zN (λt9 w6=>
 BP (g.E+5) t9 I (λw7=>
 BC (g.E+1) t9 λJ=>
 Ay J (λO w8=>
 BC g.E j λt22=>
 CB t22 O (λw9=>
 CX (g.E+5) j (λt25 Q=>
 AB prog g.fset [v0,v1,t25] (λ_t26 U=>
 BC (g.E+1) t9 λV=>
 CB V v1 (λX=>
 CX (g.E+5) t9 (λY Z=>
 AB prog g.fset [v0,m,Y] (λ_t32 a1=>
 K m a1) Z) X) U) Q) w9) w8) w7) w6) w5) w4) w3)
 (BC (g.E+1) j λa6=>
 Ay a6 (λo a7=>
 AB prog g.fat [v0,o] (λa8 ak=>
 Bt g.tn g.zN (λi al=>
 BP (g.E+5) i a8 (λan=>
 BC g.E i λav=>
 Ay av (λt39 ax=>
 BC (g.E+1) j λay=>
 CB ay t39 (λaZ=>
 CX (g.E+5) j (λb0 b1=>
 AB prog g.fset [v0,v1,b0] (λ_t44 b2=>
 BC g.E i λt46=>
 CB t46 v1 (λb6=>
 CX (g.E+5) i (λb7 b8=>
 AB prog g.fset [v0,o,b7] (λ_t50 b9=>
 K o b9) b8) b6) b2) b1) aZ) ax) an) al) ak) a7) w3)) w2) w1) w
def dP(g:AvK)(v0 v1:Value)(K:Cont)(w:World):Prop:=
 AB prog g.fat [v0,v1] (λm Q=>
 Bt g.tn g.zN (λt5 w2=>
 BP (g.E+5) t5 m (λU=>
 BC g.E t5 λo=>
 Ay o (λq w4=>
 AB prog g.ftotals [v0,q] (λi V=>
 Ag 0 i λB=>
 Ag 1 i λ_t21=>
 Ag 2 i λ_t22=>
 BC (g.E+1) t5 λt25=>
 Ay t25 (λI X=>
 AB prog g.ftotals [v0,I] (λj Y=>
 Ag 0 j λJ=>
 Ag 1 j λ_t29=>
 Ag 2 j λ_t30=>
 DR .i64 B J λO=>
 K O Y) X) V) w4) U) w2) Q) w
def Pg(g:AvK)(v0 v1 v2:Value)(K:Cont)(w:World):Prop:=
 Gf g.tn v2 (λt5 w1=>
 CX (g.E+5) t5 (λq w2=>
 AB prog g.fset [v0,v1,q] (λ_t11 w3=>
 AB prog g.flean [v0,v1] (λm w4=>
 T8 .i64 m (zI 1) λB=>
 AZ B
 (BC g.E t5 λI=>
 Ay I (λJ w5=>
 AB prog g.flean [v0,J] (λO w6=>
 GI .i64 O (zI 0) λt22=>
 AZ t22
 (BC g.E t5 λQ=>
 Ay Q (λt25 w7=>
 AB prog g.flift [v0,t25,(.bool false)] (λU w8=>
 BC g.E t5 λV=>
 CB V U (λw9=>
 CX (g.E+5) t5 (λX Y=>
 AB prog g.fset [v0,v1,X] (λ_t31 Z=>
 AB prog g.flift [v0,v1,(.bool true)] (λa1 a6=>
 K a1 a6) Z) Y) w9) w8) w7) w6)
 (AB prog g.flift [v0,v1,(.bool true)] (λi a7=>
 K i a7) w6)) w5) w4)
 (GI .i64 m (zI (-1)) λa8=>
 AZ a8
 (BC (g.E+1) t5 λt39=>
 Ay t39 (λak al=>
 AB prog g.flean [v0,ak] (λan o=>
 T8 .i64 an (zI 0) λav=>
 AZ av
 (BC (g.E+1) t5 λax=>
 Ay ax (λt45 ay=>
 AB prog g.flift [v0,t45,(.bool true)] (λt46 aZ=>
 BC (g.E+1) t5 λb0=>
 CB b0 t46 (λb1=>
 CX (g.E+5) t5 (λt50 b2=>
 AB prog g.fset [v0,v1,t50] (λ_t51 b6=>
 AB prog g.flift [v0,v1,(.bool false)] (λb7 b8=>
 K b7 b8) b6) b2) b1) aZ) ay) o)
 (AB prog g.flift [v0,v1,(.bool false)] (λj b9=>
 K j b9) o)) al) w4)
 (K v1 w4))) w3) w2) w1) w
def cZ(g:AvK)(v0 v1 v2 v3:Value)(K:Cont)(w:World):Prop:=
 AB prog g.ftotals [v0,v1] (λo w1=>
 Ag 0 o λt22=>
 Ag 1 o λ_t23=>
 Ag 2 o λ_t24=>
 AB prog g.ftotals [v0,v3] (λq w2=>
 Ag 0 q λB=>
 Ag 1 q λ_t30=>
 Ag 2 q λ_t31=>
 CW .i64 B (zI 1) λI=>
 T8 .i64 t22 I λJ=>
 AZ J
 (AB prog g.fat [v0,v1] (λt39 w3=>
 Bt g.tn g.zN (λi w4=>
 BP (g.E+5) i t39 (λw5=>
 BC (g.E+1) i λO=>
 Ay O (λQ w6=>
 AB prog g.fjoin [v0,Q,v2,v3] (λt45 w7=>
 BC (g.E+1) i λt46=>
 CB t46 t45 (λw8=>
 CX (g.E+5) i (λU w9=>
 AB prog g.fbalance [v0,v1,U] (λt50 V=>
 K t50 V) w9) w8) w7) w6) w5) w4) w3) w2)
 (CW .i64 t22 (zI 1) λX=>
 T8 .i64 B X λt55=>
 AZ t55
 (AB prog g.fat [v0,v3] (λY Z=>
 Bt g.tn g.zN (λj a1=>
 BP (g.E+5) j Y (λa6=>
 BC g.E j λa7=>
 Ay a7 (λa8 ak=>
 AB prog g.fjoin [v0,v1,v2,a8] (λal an=>
 BC g.E j λav=>
 CB av al (λax=>
 CX (g.E+5) j (λay aZ=>
 AB prog g.fbalance [v0,v3,ay] (λb0 b1=>
 K b0 b1) aZ) ax) an) ak) a6) a1) Z) w2)
 (AB prog g.fat [v0,v2] (λb2 b6=>
 Bt g.tn g.zN (λm b7=>
 BP (g.E+5) m b2 (λb8=>
 BC g.E m λb9=>
 CB b9 v1 (λba=>
 BC (g.E+1) m λt76=>
 CB t76 v3 (λbb=>
 CX (g.E+5) m (λbc bd=>
 AB prog g.fset [v0,v2,bc] (λ_t80 bk=>
 K v2 bk) bd) bb) ba) b8) b7) b6) w2))) w1) w
def Xc(g:AvK)(v0 v1:Value)(K:Cont)(w:World):Prop:=
 AB prog g.fat [v0,v1] (λt9 Z=>
 Bt g.tn g.zN (λi w2=>
 BP (g.E+5) i t9 (λw3=>
 BC g.E i λm=>
 Ay m (λo w4=>
 Nw .i64 o (zI (-1)) λq=>
 AZ q
 (BC (g.E+1) i λB=>
 Ay B (λI w5=>
 K (.tuple #[I,v1]) w5) w4)
 (BC g.E i λJ=>
 Ay J (λO w6=>
 AB prog g.ffirst [v0,O] (λj w7=>
 Ag 0 j λQ=>
 Ag 1 j λt22=>
 BC g.E i λU=>
 CB U Q (λw8=>
 CX (g.E+5) i (λV w9=>
 AB prog g.fbalance [v0,v1,V] (λX Y=>
 K (.tuple #[X,t22]) Y) w9) w8) w7) w6) w4)) w3) w2) Z) w
def dR(g:AvK)(v0 v1:Value)(K:Cont)(w:World):Prop:=
 AB prog g.fat [v0,v1] (λt9 Z=>
 Bt g.tn g.zN (λi w2=>
 BP (g.E+5) i t9 (λw3=>
 BC (g.E+1) i λm=>
 Ay m (λo w4=>
 Nw .i64 o (zI (-1)) λq=>
 AZ q
 (BC g.E i λB=>
 Ay B (λI w5=>
 K (.tuple #[I,v1]) w5) w4)
 (BC (g.E+1) i λJ=>
 Ay J (λO w6=>
 AB prog g.flast [v0,O] (λj w7=>
 Ag 0 j λQ=>
 Ag 1 j λt22=>
 BC (g.E+1) i λU=>
 CB U Q (λw8=>
 CX (g.E+5) i (λV w9=>
 AB prog g.fbalance [v0,v1,V] (λX Y=>
 K (.tuple #[X,t22]) Y) w9) w8) w7) w6) w4)) w3) w2) Z) w
def Tt(g:AvK)(v0 v1 v2:Value)(K:Cont)(w:World):Prop:=
 Nw .i64 v1 (zI (-1)) λj=>
 AZ j
 (K v2 w)
 (AB prog g.flast [v0,v1] (λi q=>
 Ag 0 i λm=>
 Ag 1 i λo=>
 AB prog g.fjoin [v0,m,o,v2] (λt22 w2=>
 K t22 w2) q) w)
def SC(g:AvK)(v0 v1 v2:Value)(K:Cont)(w:World):Prop:=
 Nw .i64 v1 (zI (-1)) λeI=>
 AZ eI
 (K (.tuple #[(zI (-1)),(zI (-1))]) w)
 (AB prog g.fat [v0,v1] (λt22 w1=>
 Bt g.tn g.zN (λo w2=>
 BP (g.E+5) o t22 (λw3=>
 BC g.E o λt25=>
 Ay t25 (λeL w4=>
 AB prog g.ftotals [v0,eL] (λb0 w5=>
 Ag 0 b0 λ_t28=>
 Ag 1 b0 λan=>
 Ag 2 b0 λ_t30=>
 CM [7] [[],[0],[0,1],[0,1,2],[0,1,2,3],[],[5],[0,1,2,3,4,5,6],[0,1,2,3,4,5,6,7],[0,1,2,3,4,5,6,7,8],[0,1,2,3,4,5,6,7,8],[0,1,2,3,4,5,6,7,8,9],[0,1,2,3,4,5,6,7,8,9,10,11]] w5.drew (λM St=>
 Af v0 λeN=>
 BC 0 eN λeR=>
 BC 0 eR λeX=>
 DQ (St 4) eX λfa=>
 BC 0 o λfo=>
 Om g (St 6) fo λfs=>
 BF prog CS fa [fs] (λt39 w6=>
 Mod (M 7) w5.drew w6/\
 Ag 0 t39 λdA=>
 Ag 1 t39 λ_t41=>
 Xn .i64 v2 an λt45=>
 AZ t45
 (BC g.E o λfv=>
 Ay fv (λga w7=>
 AB prog g.fsplit [v0,ga,v2] (λdB w8=>
 Ag 0 dB λgb=>
 Ag 1 dB λt53=>
 BC (g.E+1) o λgd=>
 Ay gd (λgf w9=>
 AB prog g.fjoin [v0,t53,v1,gf] (λgg gl=>
 K (.tuple #[gb,gg]) gl) w9) w8) w7) w6)
 (CW .i64 an dA λgm=>
 Rh .i64 v2 gm λt66=>
 AZ t66
 (BC (g.E+1) o λgr=>
 Ay gr (λt70 gv=>
 DR .i64 v2 an λgw=>
 DR .i64 gw dA λgA=>
 AB prog g.fsplit [v0,t70,gA] (λt76 gB=>
 Ag 0 t76 λt77=>
 Ag 1 t76 λgW=>
 BC g.E o λh0=>
 Ay h0 (λh2 h3=>
 AB prog g.fjoin [v0,h2,v1,t77] (λh4 h5=>
 K (.tuple #[h4,gW]) h5) h3) gB) gv) w6)
 (Cl (λvs h6=>∀_:Env,
 Jt h6 (λC=>
 BC g.E o λdC=>
 HS C dC λdT=>
 BC (g.E+1) o λe1=>
 HS C e1 λe2=>
 ∀e3:World,C e3->
 CX g.E (nth vs 0) (λe4 h7=>
 BC 0 o λe5=>
 BP g.E e5 e4 (λb1=>
 CM [6] [[],[0],[0,1],[0,1,2],[],[],[0,1,2,3,4,5]] b1.drew (λh8 ax=>
 Af v0 λe6=>
 BC 3 e6 λe7=>
 DQ (ax 3) e7 λe8=>
 GD (ax 5) (g.E+5) o λe9=>
 AB prog g.aPut [e8,v1,e9] (λ_t112 av=>
 Mod (h8 6) b1.drew av/\
 CM [3,11,13] [[],[],[],[0,1,2],[],[],[5],[5,6],[5,6,7],[],[9],[0,1,2,3,5,6,7,8,9,10],[],[0,1,2,3,4,5,6,7,8,9,10,11,12],[0,1,2,3,4,5,6,7,8,9,10,11,12,13],[0,1,2,3,4,5,6,7,8,9,10,11,12,13,14]] av.drew (λb2 ay=>
 AB prog g.fjoin [v0,dT,v1,(zI (-1))] (λea b6=>
 Mod (b2 3) av.drew b6/\
 Af v0 λec=>
 BC 3 ec λed=>
 DQ (ay 8) ed λee=>
 GD (ay 9) g.E (nth vs 1) λef=>
 CV [(0,g.E),(g.E,1),(g.E+1,1),(g.E+2,1),(g.E+3,1),(g.E+4,1)] g.zN [(0,ef)] λeh=>
 AB prog g.aTake [ee,eh] (λej b7=>
 Mod (b2 11) b6 b7/\
 AB prog g.fjoin [v0,(zI (-1)),ej,e2] (λek en=>
 Mod (b2 13) b7 en/\
 K (.tuple #[ea,ek]) en) b7) b6) av.drew)) b1.drew)) h7) e3)) (λJ=>
 CM [10,14,15,16,17] [[],[0],[0,1],[0,1,2],[0,1,2,3],[],[5],[],[],[7,8],[0,1,2,3,4,5,6,7,8,9],[0,1,2,3,4,5,6,7,8,9,10],[0,1,2,3,4,5,6,7,8,9,10,11],[0,1,2,3,4,5,6,7,8,9,10,11],[],[],[0,1,2,3,4,5,6,7,8,9,10,11,12,14,15],[0,1,2,3,4,5,6,7,8,9,10,11,12,13,14,15,16]] w6.drew (λi aZ=>
 Af v0 λh9=>
 BC 0 h9 λhd=>
 BC 1 hd λhf=>
 DQ (aZ 4) hf λq=>
 BC 0 o λhg=>
 GD (aZ 6) g.E hg λB=>
 DR .i64 v2 an λI=>
 (BF prog CS q [B,I] (λeo O=>
 Mod (i 10) w6.drew O/\
 Ag 0 eo λep=>
 Ag 1 eo λer=>
 (Bt g.te g.zE (λet b8=>
 Mod (i 14) O b8/\
 Bt g.te g.zE (λeu b9=>
 Mod (i 15) b8 b9/\
 BP g.E et ep (λba=>
 Mod (i 16) b9 ba/\
 BP g.E eu er (λew=>
 Mod (i 17) ba ew/\
 J [et,eu] ew) ba) b9) b8) O)/\
 (Bt g.te g.zE (λQ bb=>
 Mod (i 15) O bb/\
 Bt g.te g.zE (λU bc=>
 Mod (i 14) bb bc/\
 BP g.E U ep (λbd=>
 Mod (i 16) bc bd/\
 BP g.E Q er (λey=>
 Mod (i 17) bd ey/\
 J [U,Q] ey) bd) bc) bb) O)) w6.drew)/\
 ((Bt g.te g.zE (λj V=>
 Mod (i 14) w6.drew V/\
 (BF prog CS q [B,I] (λX bk=>
 Mod (i 10) V bk/\
 Ag 0 X λbl=>
 Ag 1 X λbp=>
 Bt g.te g.zE (λY bs=>
 Mod (i 15) bk bs/\
 BP g.E j bl (λbx=>
 Mod (i 16) bs bx/\
 BP g.E Y bp (λez=>
 Mod (i 17) bx ez/\
 J [j,Y] ez) bx) bs) bk) V)/\
 (Bt g.te g.zE (λZ bZ=>
 Mod (i 15) V bZ/\
 BF prog CS q [B,I] (λa1 c4=>
 Mod (i 10) bZ c4/\
 Ag 0 a1 λc6=>
 Ag 1 a1 λc7=>
 BP g.E j c6 (λc8=>
 Mod (i 16) c4 c8/\
 BP g.E Z c7 (λeA=>
 Mod (i 17) c8 eA/\
 J [j,Z] eA) c8) c4) bZ) V)) w6.drew)/\
 (Bt g.te g.zE (λm a6=>
 Mod (i 15) w6.drew a6/\
 (BF prog CS q [B,I] (λa7 c9=>
 Mod (i 10) a6 c9/\
 Ag 0 a7 λca=>
 Ag 1 a7 λcc=>
 Bt g.te g.zE (λa8 cd=>
 Mod (i 14) c9 cd/\
 BP g.E a8 ca (λch=>
 Mod (i 16) cd ch/\
 BP g.E m cc (λeB=>
 Mod (i 17) ch eB/\
 J [a8,m] eB) ch) cd) c9) a6)/\
 (Bt g.te g.zE (λak cu=>
 Mod (i 14) a6 cu/\
 BF prog CS q [B,I] (λal cx=>
 Mod (i 10) cu cx/\
 Ag 0 al λda=>
 Ag 1 al λdk=>
 BP g.E ak da (λdr=>
 Mod (i 16) cx dr/\
 BP g.E m dk (λeC=>
 Mod (i 17) dr eC/\
 J [ak,m] eC) dr) cx) cu) a6)) w6.drew))))))) w5.drew)) w4) w3) w2) w1) w)
def ZF(g:AvK)(v0 v1:Value)(K:Cont)(w:World):Prop:=
 Nw .i64 v1 (zI (-1)) λJ=>
 AZ J
 (K (.tuple #[]) w)
 (AB prog g.fat [v0,v1] (λt9 O=>
 Bt g.tn g.zN (λt4 w2=>
 BP (g.E+5) t4 t9 (λQ=>
 BC g.E t4 λi=>
 Ay i (λj w4=>
 AB prog g.fdrop [v0,j] (λ_t13 U=>
 BC (g.E+1) t4 λm=>
 Ay m (λo V=>
 AB prog g.fdrop [v0,o] (λ_t17 X=>
 Af v0 λq=>
 BC 3 q λB=>
 Ay B (λI Y=>
 AB prog g.aFree [I,v1] (λ_t23 Z=>
 K (.tuple #[]) Z) Y) X) V) U) w4) Q) w2) O) w)
def dZ(g:AvK)(v0 v1:Value)(K:Cont)(w:World):Prop:=
 Bt g.te g.zE (λt4 B=>
 AB prog g.fat [v0,v1] (λI w2=>
 runK prog (Instr.field g.tn I 0) (λt9 J=>
 Bt g.te g.zE (λt5 w4=>
 BP g.E t5 t9 (λO=>
 Af v0 λi=>
 BC 3 i λj=>
 Ay j (λm Q=>
 AB prog g.aFree [m,v1] (λ_t15 U=>
 CX g.E t5 (λo V=>
 BP g.E t4 o (λX=>
 CX g.E t4 (λY q=>
 K Y q) X) V) U) Q) O) w4) J) w2) B) w
def UC(g:AvK)(v0 v1:Value)(K:Cont)(w:World):Prop:=
 Dr v1 λay=>
 FK [(.slice none 0 0),(zI 0)] (λvs i w1=>∀_:Env,
 GI .i64 (nth vs 1) ay λaZ=>
 AZ aZ
 (Ip g.E v1 (nth vs 1) λb0=>
 CX g.E b0 (λb1 w2=>
 Bt g.te g.zE (λt6 w3=>
 BP g.E t6 b1 (λw4=>
 CM [6] [[],[0],[0,1],[0,1,2],[0,1,2,3],[],[0,1,2,3,4,5],[0,1,2,3,4,5,6],[0,1,2,3,4,5,6,7],[0,1,2,3,4,5,6,7],[0,1,2,3,4,5,6,7,8],[0,1,2,3,4,5,6,7,8,9,10]] w4.drew (λM St=>
 Af v0 λb2=>
 BC 0 b2 λb6=>
 BC 0 b6 λt22=>
 DQ (St 4) t22 λb7=>
 GD (St 5) g.E t6 λb8=>
 BF prog CS b7 [b8] (λt25 B=>
 Mod (M 6) w4.drew B/\
 Ag 0 t25 λb9=>
 Ag 1 t25 λ_t27=>
 Nw .i64 b9 (zI 0) λba=>
 AZ ba
 (CW .i64 (nth vs 1) (zI 1) λbb=>
 i [(nth vs 0),bb] B)
 (Cl (λ_vs_1 w6=>∀_:Env,
 CX g.E t6 (λt55 w7=>
 Dg g.te g.E 1 g.zE [(0,t55)] (λbc w8=>
 runK prog (Builtin.append_ #[g.ts,g.ts] g.ts [(nth vs 0),bc].toArray) (λbd w9=>
 CW .i64 (nth vs 1) (zI 1) λO=>
 i [bd,O] w9) w8) w7) w6) (λJ=>
 Dr (nth vs 0) λbk=>
 DR .i64 bk (zI 1) λQ=>
 Rh .i64 Q (zI 0) λbl=>
 AZ bl
 (Cl (λI a7=>∀_:Env,
 AZ (nth I 1)
 (CX g.E (nth I 0) (λbp bs=>
 Ip g.E (nth vs 0) Q λt53=>
 BP g.E t53 bp (λbx=>
 CW .i64 (nth vs 1) (zI 1) λU=>
 i [(nth vs 0),U] bx) bs) a7)
 (J [] a7)) (λa8=>
 CM [10,14,15] [[],[0],[0,1],[0,1,2],[0,1,2,3],[],[],[5,6],[5,6,7],[],[0,1,2,3,4,5,6,7,8,9],[0,1,2,3,4,5,6,7,8,9,10],[0,1,2,3,4,5,6,7,8,9,10,11],[0,1,2,3,4,5,6,7,8,9,10,11],[],[0,1,2,3,4,5,6,7,8,9,10,11,12,14],[0,1,2,3,4,5,6,7,8,9,10,11,12,13,14,15]] B.drew (λj m=>
 Af v0 λbZ=>
 BC 0 bZ λc4=>
 BC 2 c4 λt39=>
 DQ (m 4) t39 λak=>
 Ip g.E (nth vs 0) Q λc6=>
 GD (m 8) g.E c6 λal=>
 GD (m 9) g.E t6 λt45=>
 (BF prog CS ak [al,t45] (λt46 V=>
 Mod (j 10) B.drew V/\
 Ag 0 t46 λc7=>
 Ag 1 t46 λc8=>
 Bt g.te g.zE (λan X=>
 Mod (j 14) V X/\
 BP g.E an c7 (λav=>
 Mod (j 15) X av/\
 a8 [an,c8] av) X) V) B.drew)/\
 (Bt g.te g.zE (λo Y=>
 Mod (j 14) B.drew Y/\
 BF prog CS ak [al,t45] (λq Z=>
 Mod (j 10) Y Z/\
 Ag 0 q λa1=>
 Ag 1 q λa6=>
 BP g.E o a1 (λax=>
 Mod (j 15) Z ax/\
 a8 [o,a6] ax) Z) Y) B.drew))))
 (J [] B)))) w4.drew)) w3) w2) w1)
 (K (nth vs 0) w1)) w
def RE(g:AvK)(v0 v1 v2 v3:Value)(K:Cont)(w:World):Prop:=
 Af v0 λt22=>
 BC 4 t22 λa1=>
 Ay a1 (λa6 w1=>
 AB prog g.fsplit [v0,a6,v1] (λO w2=>
 Ag 0 O λm=>
 Ag 1 O λa7=>
 DR .i64 v2 v1 λa8=>
 AB prog g.fsplit [v0,a7,a8] (λQ w3=>
 Ag 0 Q λak=>
 Ag 1 Q λo=>
 AB prog g.fdrop [v0,ak] (λ_t40 w4=>
 Cl (λvs w5=>∀_:Env,
 runK prog (Builtin.append_ #[g.ts,g.ts] g.ts [(nth vs 1),v3].toArray) (λU w6=>
 Cl (λj w7=>∀_:Env,
 AB prog g.fmelded [v0,(nth j 1)] (λt76 w8=>
 Dr t76 λt77=>
 FK [(nth vs 0),(zI 0)] (λi q w9=>∀_:Env,
 GI .i64 (nth i 1) t77 λal=>
 AZ al
 (Ip g.E t76 (nth i 1) λan=>
 CX g.E an (λav ax=>
 Bt g.te g.zE (λV ay=>
 BP g.E V av (λB=>
 CM [8,9] [[],[],[],[2],[2,3],[2,3,4],[],[6],[2,3,4,5,6,7],[0,1,2,3,4,5,6,7,8],[0,1,2,3,4,5,6,7,8,9]] B.drew (λM St=>
 Af v0 λaZ=>
 BC 3 aZ λb0=>
 DQ (St 5) b0 λb1=>
 GD (St 6) g.E V λb2=>
 CV [(0,g.E),(g.E,1),(g.E+1,1),(g.E+2,1),(g.E+3,1),(g.E+4,1)] g.zN [(0,b2)] λb6=>
 AB prog g.aTake [b1,b6] (λb7 I=>
 Mod (M 8) B.drew I/\
 AB prog g.fjoin [v0,(nth i 0),b7,(zI (-1))] (λb8 X=>
 Mod (M 9) I X/\
 CW .i64 (nth i 1) (zI 1) λb9=>
 q [b8,b9] X) I) B.drew)) ay) ax) w9)
 (AB prog g.fconcat [v0,(nth i 0),(nth j 0)] (λba bb=>
 Af v0 λbc=>
 BC 4 bc λbd=>
 CB bd ba (λbk=>
 K (.tuple #[]) bk) bb) w9)) w8) w7) (λY=>
 PH .i64 o (zI (-1)) λbl=>
 AZ bl
 (AB prog g.ffirst [v0,o] (λZ bp=>
 Ag 0 Z λbs=>
 Ag 1 Z λt66=>
 AB prog g.fpick [v0,t66] (λbx bZ=>
 Dg g.te g.E 1 g.zE [(0,bx)] (λc4 c6=>
 runK prog (Builtin.append_ #[g.ts,g.ts] g.ts [U,c4].toArray) (λc7 c8=>
 Y [bs,c7] c8) c6) bZ) bp) w6)
 (Y [o,U] w6))) w5) (λJ=>
 PH .i64 m (zI (-1)) λc9=>
 AZ c9
 (AB prog g.flast [v0,m] (λt46 ca=>
 Ag 0 t46 λcc=>
 Ag 1 t46 λcd=>
 AB prog g.fpick [v0,cd] (λt53 ch=>
 Dg g.te g.E 1 g.zE [(0,t53)] (λcu cx=>
 runK prog (Builtin.append_ #[g.ts,g.ts] g.ts [(.slice none 0 0),cu].toArray) (λt55 da=>
 J [cc,t55] da) cx) ch) ca) w4)
 (J [m,(.slice none 0 0)] w4))) w3) w2) w1) w
def Wh(g:AvK)(v0 v1 v2 v3 v4:Value)(K:Cont)(w:World):Prop:=
 Cl (λ_vs w1=>∀_:Env,
 AB prog g.fat [v0,v1] (λbx w2=>
 Bt g.tn g.zN (λj w3=>
 BP (g.E+5) j bx (λw4=>
 BC g.E j λbZ=>
 Ay bZ (λc4 w5=>
 AB prog g.ftotals [v0,c4] (λU w6=>
 Ag 0 U λ_t35=>
 Ag 1 U λi=>
 Ag 2 U λ_t37=>
 CM [7] [[],[0],[0,1],[0,1,2],[0,1,2,3],[],[5],[0,1,2,3,4,5,6],[0,1,2,3,4,5,6,7],[0,1,2,3,4,5,6,7,8],[0,1,2,3,4,5,6,7,8],[0,1,2,3,4,5,6,7,8,9],[0,1,2,3,4,5,6,7,8,9,10,11]] w6.drew (λM St=>
 Af v0 λc6=>
 BC 0 c6 λc7=>
 BC 0 c7 λc8=>
 DQ (St 4) c8 λc9=>
 BC 0 j λca=>
 Om g (St 6) ca λt45=>
 BF prog CS c9 [t45] (λt46 w7=>
 Mod (M 7) w6.drew w7/\
 Ag 0 t46 λo=>
 Ag 1 t46 λ_t48=>
 Cl (λ_vs_1 w8=>∀_:Env,
 DR .i64 v2 i λt66=>
 LV .i64 t66 (zI 0) λV=>
 DR .i64 v3 i λt70=>
 MI .i64 t70 o λX=>
 Cl (λ_vs_2 w9=>∀_:Env,
 CW .i64 i o λa1=>
 Xn .i64 v3 a1 λa6=>
 AZ a6
 (K (.bool true) w9)
 (BC (g.E+1) j λa7=>
 Ay a7 (λa8 cc=>
 DR .i64 v2 i λak=>
 DR .i64 ak o λal=>
 LV .i64 al (zI 0) λan=>
 DR .i64 v3 i λav=>
 DR .i64 av o λax=>
 AB prog g.fover [v0,a8,an,ax,v4] (λay cd=>
 K ay cd) cc) w9)) (λaZ=>
 GI .i64 V X λch=>
 AZ ch
 (BC 0 j λt76=>
 CX g.E t76 (λt77 cu=>
 Bt g.te g.zE (λm cx=>
 BP g.E m t77 (λq=>
 Cl (λ_vs_3 B=>∀_:Env,
 Cl (λ_vs_4 da=>∀_:Env,
 CX g.E m (λb0 dk=>
 Cs prog CS v4 [b0] (λb1 b2=>
 Ke b1 λb6=>
 AZ b6
 (K (.bool false) b2)
 (aZ [] b2)) dk) da) (λb7=>
 T8 .i64 V (zI 0) λdr=>
 AZ dr
 (CM [7,11] [[],[0],[0,1],[0,1,2],[0,1,2,3],[],[],[0,1,2,3,4,5,6],[0,1,2,3,4,5,6,7],[0,1,2,3,4,5,6,7,8],[0,1,2,3,4,5,6,7,8],[0,1,2,3,4,5,6,7,8,9,10]] B.drew (λb8 I=>
 Af v0 λdA=>
 BC 0 dA λdB=>
 BC 1 dB λdC=>
 DQ (I 4) dC λdT=>
 GD (I 5) g.E m λb9=>
 BF prog CS dT [b9,V] (λO Y=>
 Mod (b8 7) B.drew Y/\
 Ag 0 O λ_t103=>
 Ag 1 O λba=>
 BP g.E m ba (λbb=>
 Mod (b8 11) Y bb/\
 b7 [] bb) Y) B.drew))
 (b7 [] B))) (λbc=>
 GI .i64 X o λe1=>
 AZ e1
 (CM [7,11] [[],[0],[0,1],[0,1,2],[0,1,2,3],[],[],[0,1,2,3,4,5,6],[0,1,2,3,4,5,6,7],[0,1,2,3,4,5,6,7,8],[0,1,2,3,4,5,6,7,8],[0,1,2,3,4,5,6,7,8,9]] q.drew (λbd Q=>
 Af v0 λe2=>
 BC 0 e2 λe3=>
 BC 1 e3 λe4=>
 DQ (Q 4) e4 λe5=>
 GD (Q 5) g.E m λe6=>
 BF prog CS e5 [e6,X] (λbk Z=>
 Mod (bd 7) q.drew Z/\
 Ag 0 bk λe7=>
 Ag 1 bk λ_t91=>
 BP g.E m e7 (λbl=>
 Mod (bd 11) Z bl/\
 bc [] bl) Z) q.drew))
 (bc [] q))) cx) cu) w8)
 (aZ [] w8))) (λbp=>
 GI .i64 v2 i λe8=>
 AZ e8
 (BC g.E j λe9=>
 Ay e9 (λt55 ea=>
 MI .i64 v3 i λec=>
 AB prog g.fover [v0,t55,v2,ec,v4] (λed bs=>
 Ke ed λee=>
 AZ ee
 (K (.bool false) bs)
 (bp [] bs)) ea) w7)
 (bp [] w7))) w6.drew)) w5) w4) w3) w2) w1) (λJ=>
 Nw .i64 v1 (zI (-1)) λef=>
 AZ ef
 (K (.bool true) w)
 (Rh .i64 v2 v3 λt25=>
 AZ t25
 (K (.bool true) w)
 (J [] w)))
def YE(g:AvK)(v0 v1 v2:Value)(K:Cont)(w:World):Prop:=
 KH g.tt v0 (λt3 i=>
 KH 3 v1 (λt4 w2=>
 KH 3 v2 (λt5 j=>
 K (.func (.func g.fOverf) #[] #[t3,t4,t5]) j) w2) i) w
def Wn(g:AvK)(v0 v1 v2 v3:Value)(K:Cont)(w:World):Prop:=
 CM [8] [[],[],[1],[1,2],[1,2,3],[],[],[],[0,1,2,3,4,5,6,7]] w.drew (λM i=>
 DQ (i 0) v1 λt5=>
 DQ (i 1) v1 λq=>
 Af q λB=>
 BC 4 B λI=>
 DQ (i 4) I λt9=>
 DQ (i 5) v2 λj=>
 DQ (i 6) v3 λm=>
 AB prog g.fover [t5,t9,j,m,v0] (λ_t13 o=>
 Mod (M 8) w.drew o/\
 K (.tuple #[]) o) w.drew)
def cW(g:AvK)(v0:Value)(K:Cont)(w:World):Prop:=
 Af v0 λt9=>
 BC 4 t9 λj=>
 Ay j (λm q=>
 AB prog g.ftotals [v0,m] (λi w2=>
 Ag 0 i λ_t13=>
 Ag 1 i λo=>
 Ag 2 i λ_t15=>
 K o w2) q) w
def Wm(g:AvK)(v0 v1:Value)(K:Cont)(w:World):Prop:=
 Gf g.tn v1 (λt3 w1=>
 Ge v0 λb8=>
 AZ (.bool b8)
 (K (zI (-1)) w1)
 (Af v0 λI=>
 BC 1 I λJ=>
 Ay J (λO w2=>
 Dr O λQ=>
 DR .i64 Q (zI 1) λj=>
 Rh .i64 j (zI 0) λU=>
 AZ U
 (Af v0 λV=>
 BC 1 V λX=>
 Ay X (λY w3=>
 Ip 1 Y j λt22=>
 Ay t22 (λq w4=>
 Af v0 λZ=>
 BC 1 Z λa1=>
 Ay a1 (λa6 w5=>
 runK prog (Instr.sliceAt 115 a6 none (some j) none) (λa7 w6=>
 Af v0 λa8=>
 BC 1 a8 λak=>
 CB ak a7 (λw7=>
 CM [8] [[],[0],[0,1],[0,1,2],[],[],[5],[0,1,2,3,4,5,6],[0,1,2,3,4,5,6,7]] w7.drew (λM St=>
 Af v0 λal=>
 BC 0 al λan=>
 DQ (St 3) an λav=>
 GD (St 5) (g.E+5) t3 λax=>
 CV [(0,g.E+5),(g.E+5,1)] g.zP [(0,ax),(1,(.bool true))] λt39=>
 Ip (g.E+6) av q λay=>
 BP (g.E+6) ay t39 (λw8=>
 Mod (M 8) w7.drew w8/\
 K q w8) w7.drew)) w6) w5) w4) w3) w2)
 (CM [7,8,11] [[],[],[1],[1,2],[1,2,3],[],[5],[5,6],[1,2,3,4,5,6,7],[0,1,2,3,4,5,6,7,8],[0,1,2,3,4,5,6,7,8,9],[0,1,2,3,4,5,6,7,8,9,10]] w2.drew (λm i=>
 Af v0 λaZ=>
 BC 0 aZ λt45=>
 DQ (i 4) t45 λt46=>
 GD (i 5) (g.E+5) t3 λb0=>
 CV [(0,g.E+5),(g.E+5,1)] g.zP [(0,b0),(1,(.bool true))] λb1=>
 Dg g.tp (g.E+6) 1 g.zP [(0,b1)] (λb2 w9=>
 Mod (m 7) w2.drew w9/\
 runK prog (Builtin.append_ #[g.tps,g.tps] g.tps [t46,b2].toArray) (λt50 o=>
 Mod (m 8) w9 o/\
 Af v0 λb6=>
 BC 0 b6 λb7=>
 CB b7 t50 (λB=>
 Mod (m 11) o B/\
 Af v0 λb9=>
 BC 0 b9 λt55=>
 Ay t55 (λba bb=>
 Dr ba λbc=>
 DR .i64 bc (zI 1) λbd=>
 K bd bb) B) o) w9) w2.drew))) w1)) w
def T4(g:AvK)(v0 v1:Value)(K:Cont)(w:World):Prop:=
 Ge v0 λZ=>
 AZ (.bool Z)
 (K (zI 1) w)
 (GI .i64 v1 (zI 0) λi=>
 AZ i
 (K (zI 5) w)
 (Af v0 λj=>
 BC 0 j λm=>
 Ay m (λo X=>
 Dr o λq=>
 Rh .i64 v1 q λB=>
 AZ B
 (K (zI 5) X)
 (Af v0 λt22=>
 BC 0 t22 λI=>
 Ay I (λJ w2=>
 Ip (g.E+6) J v1 λO=>
 BC (g.E+5) O λQ=>
 Ay Q (λU Y=>
 Ke U λV=>
 AZ V
 (K (zI 5) Y)
 (K (zI 0) Y)) w2) X)) w))
def XO(g:AvK)(v0 v1:Value)(K:Cont)(w:World):Prop:=
 AB prog g.aasked [v0,v1] (λV X=>
 PH .i64 V (zI 0) λi=>
 AZ i
 (K V X)
 (Af v0 λj=>
 BC 0 j λm=>
 Ay m (λo w2=>
 CV [(0,g.E+5),(g.E+5,1)] g.zP [] λq=>
 Ip (g.E+6) o v1 λB=>
 BP (g.E+6) B q (λY=>
 Af v0 λI=>
 BC 1 I λt22=>
 Ay t22 (λJ w4=>
 Dg 3 1 1 [(zI 0)] [(0,v1)] (λt25 Z=>
 runK prog (Builtin.append_ #[115,115] 115 [J,t25].toArray) (λO w6=>
 Af v0 λQ=>
 BC 1 Q λU=>
 CB U O (λw7=>
 K (zI 0) w7) w6) Z) w4) Y) w2) X)) w
def ij(g:AvK)(v0 v1:Value)(K:Cont)(w:World):Prop:=
 Bt g.tn g.zN (λt4 U=>
 AB prog g.aasked [v0,v1] (λi w2=>
 PH .i64 i (zI 0) λm=>
 AZ m
 (Bt g.tn g.zN (λV X=>
 CX (g.E+5) V (λo w4=>
 BP (g.E+5) t4 o (λY=>
 CX (g.E+5) t4 (λZ w6=>
 K (.tuple #[Z,i]) w6) Y) w4) X) w2)
 (Af v0 λq=>
 BC 0 q λB=>
 Ay B (λI w7=>
 Ip (g.E+6) I v1 λJ=>
 BC 0 J λO=>
 CX (g.E+5) O (λt22 w8=>
 BP (g.E+5) t4 t22 (λw9=>
 CX (g.E+5) t4 (λj Q=>
 K (.tuple #[j,(zI 0)]) Q) w9) w8) w7) w2)) U) w
def dH(g:AvK)(v0 v1 v2:Value)(K:Cont)(w:World):Prop:=
 Gf g.tn v2 (λt5 U=>
 AB prog g.aasked [v0,v1] (λi w2=>
 PH .i64 i (zI 0) λj=>
 AZ j
 (K i w2)
 (CM [8] [[],[0],[0,1],[0,1,2],[],[],[0,1,2,3,4,5],[0,1,2,3,4,5,6],[0,1,2,3,4,5,6,7]] w2.drew (λM O=>
 Af v0 λm=>
 BC 0 m λo=>
 DQ (O 3) o λq=>
 GD (O 5) (g.E+5) t5 λB=>
 Ip (g.E+6) q v1 λI=>
 BC 0 I λJ=>
 BP (g.E+5) J B (λQ=>
 Mod (M 8) w2.drew Q/\
 K (zI 0) Q) w2.drew))) U) w
def cX(g:AvK)(v0:Value)(K:Cont)(w:World):Prop:=
 Gf g.tk v0 (λm i=>
 CM [1,3] [[],[],[0,1],[0,1,2],[0,1,2,3]] i.drew (λM o=>
 GD (o 0) 3 m λt3=>
 AB prog g.aNew [] (λt4 w2=>
 Mod (M 1) i.drew w2/\
 CV [(0,3),(3,1),(4,1)] [.nilFunc,.nilFunc,.nilFunc,(.pointer none),(zI 0)] [(0,t3),(1,t4),(2,(zI (-1)))] λt5=>
 Gf g.tT t5 (λq j=>
 Mod (M 3) w2 j/\
 K q j) w2) i.drew)) w
def df(g:AvK)(K:Cont)(w:World):Prop:=
 CV [(0,1),(1,1)] [(.slice none 0 0),(.slice none 0 0)] [] λi=>
 Gf g.tA i (λj m=>
 K j m) w
def Ww(g:AvK)(v0:Value)(K:Cont)(w:World):Prop:=
 Af v0 λt9=>
 BC 4 t9 λj=>
 Ay j (λm q=>
 AB prog g.ftotals [v0,m] (λi w2=>
 Ag 0 i λ_t13=>
 Ag 1 i λ_t14=>
 Ag 2 i λo=>
 K o w2) q) w
def WQ(g:AvK)(v0 v1 v2:Value)(K:Cont)(w:World):Prop:=
 Af v0 λJ=>
 BC 4 J λO=>
 Ay O (λQ w1=>
 FK [v1,(zI 0),Q] (λvs i w2=>∀_:Env,
 PH .i64 (nth vs 2) (zI (-1)) λU=>
 AZ U
 (AB prog g.fat [v0,(nth vs 2)] (λt22 w3=>
 Bt g.tn g.zN (λo w4=>
 BP (g.E+5) o t22 (λw5=>
 BC g.E o λt25=>
 Ay t25 (λV w6=>
 AB prog g.ftotals [v0,V] (λm X=>
 Ag 0 m λ_t28=>
 Ag 1 m λj=>
 Ag 2 m λq=>
 CM [7] [[],[0],[0,1],[0,1,2],[0,1,2,3],[],[5],[0,1,2,3,4,5,6],[0,1,2,3,4,5,6,7],[0,1,2,3,4,5,6,7,8],[0,1,2,3,4,5,6,7,8],[0,1,2,3,4,5,6,7,8,9],[0,1,2,3,4,5,6,7,8,9,10,11]] X.drew (λM St=>
 Af v0 λY=>
 BC 0 Y λZ=>
 BC 0 Z λa1=>
 DQ (St 4) a1 λa6=>
 BC 0 o λa7=>
 Om g (St 6) a7 λa8=>
 BF prog CS a6 [a8] (λt39 I=>
 Mod (M 7) X.drew I/\
 Ag 0 t39 λB=>
 Ag 1 t39 λak=>
 Xn .i64 (nth vs 0) j λal=>
 AZ al
 (BC g.E o λan=>
 Ay an (λav w9=>
 i [(nth vs 0),(nth vs 1),av] w9) I)
 (CW .i64 j B λax=>
 GI .i64 (nth vs 0) ax λay=>
 AZ ay
 (CW .i64 (nth vs 1) q λaZ=>
 BC 0 o λt70=>
 CX g.E t70 (λb0 b1=>
 DR .i64 (nth vs 0) j λb2=>
 Cs prog CS v2 [b0,b2] (λb6 b7=>
 CW .i64 aZ b6 λt76=>
 K t76 b7) b1) I)
 (CW .i64 q ak λt45=>
 CW .i64 (nth vs 1) t45 λt46=>
 CW .i64 j B λt50=>
 DR .i64 (nth vs 0) t50 λb8=>
 BC (g.E+1) o λb9=>
 Ay b9 (λt53 ba=>
 i [b8,t46,t53] ba) I))) X.drew)) w6) w5) w4) w3) w2)
 (K (nth vs 1) w2)) w1) w
def dJ(g:AvK)(v0 v1 v2:Value)(K:Cont)(w:World):Prop:=
 Af v0 λI=>
 BC 4 I λO=>
 Ay O (λQ w1=>
 FK [v1,(zI 0),Q] (λvs i w2=>∀_:Env,
 Cl (λ_vs_1 w3=>∀_:Env,
 AB prog g.fat [v0,(nth vs 2)] (λU w4=>
 Bt g.tn g.zN (λt9 w5=>
 BP (g.E+5) t9 U (λw6=>
 BC g.E t9 λV=>
 Ay V (λX w7=>
 AB prog g.ftotals [v0,X] (λm Y=>
 Ag 0 m λ_t33=>
 Ag 1 m λo=>
 Ag 2 m λj=>
 CM [7] [[],[0],[0,1],[0,1,2],[0,1,2,3],[],[5],[0,1,2,3,4,5,6],[0,1,2,3,4,5,6,7],[0,1,2,3,4,5,6,7,8],[0,1,2,3,4,5,6,7,8],[0,1,2,3,4,5,6,7,8,9],[0,1,2,3,4,5,6,7,8,9,10,11]] Y.drew (λM St=>
 Af v0 λZ=>
 BC 0 Z λt39=>
 BC 0 t39 λa1=>
 DQ (St 4) a1 λa6=>
 BC 0 t9 λa7=>
 Om g (St 6) a7 λa8=>
 BF prog CS a6 [a8] (λq B=>
 Mod (M 7) Y.drew B/\
 Ag 0 q λt45=>
 Ag 1 q λt46=>
 GI .i64 (nth vs 0) j λak=>
 AZ ak
 (BC g.E t9 λal=>
 Ay al (λan av=>
 i [(nth vs 0),(nth vs 1),an] av) B)
 (CW .i64 j t46 λax=>
 GI .i64 (nth vs 0) ax λt70=>
 AZ t70
 (CW .i64 (nth vs 1) o λay=>
 BC 0 t9 λaZ=>
 CX g.E aZ (λt76 b0=>
 DR .i64 (nth vs 0) j λb1=>
 Cs prog CS v2 [t76,b1] (λb2 b6=>
 CW .i64 ay b2 λb7=>
 K (.tuple #[b7,(.bool true)]) b6) b0) B)
 (CW .i64 o t45 λt50=>
 CW .i64 (nth vs 1) t50 λb8=>
 CW .i64 j t46 λt55=>
 DR .i64 (nth vs 0) t55 λb9=>
 BC (g.E+1) t9 λba=>
 Ay ba (λbb bc=>
 i [b9,b8,bb] bc) B))) Y.drew)) w7) w6) w5) w4) w3) (λJ=>
 Rh .i64 (nth vs 0) (zI 0) λbd=>
 AZ bd
 (PH .i64 (nth vs 2) (zI (-1)) λbk=>
 AZ bk
 (J [] w2)
 (K (.tuple #[(zI 0),(.bool false)]) w2))
 (K (.tuple #[(zI 0),(.bool false)]) w2))) w1) w
def Pd(g:AvK)(v0 v1 v2:Value)(K:Cont)(w:World):Prop:=
 Nw .i64 v1 (zI (-1)) λbb=>
 AZ bb
 (K (.tuple #[(zI (-1)),(zI (-1))]) w)
 (AB prog g.fat [v0,v1] (λt22 w1=>
 Bt g.tn g.zN (λi w2=>
 BP (g.E+5) i t22 (λw3=>
 BC g.E i λt25=>
 Ay t25 (λbc w4=>
 AB prog g.ftotals [v0,bc] (λB w5=>
 Ag 0 B λ_t28=>
 Ag 1 B λj=>
 Ag 2 B λ_t30=>
 CM [7] [[],[0],[0,1],[0,1,2],[0,1,2,3],[],[5],[0,1,2,3,4,5,6],[0,1,2,3,4,5,6,7],[0,1,2,3,4,5,6,7,8],[0,1,2,3,4,5,6,7,8],[0,1,2,3,4,5,6,7,8,9],[0,1,2,3,4,5,6,7,8,9,10,11]] w5.drew (λM St=>
 Af v0 λbd=>
 BC 0 bd λbk=>
 BC 0 bk λbl=>
 DQ (St 4) bl λbp=>
 BC 0 i λbs=>
 Om g (St 6) bs λbx=>
 BF prog CS bp [bx] (λt39 U=>
 Mod (M 7) w5.drew U/\
 Ag 0 t39 λV=>
 Ag 1 t39 λ_t41=>
 Xn .i64 v2 j λt45=>
 AZ t45
 (BC g.E i λbZ=>
 Ay bZ (λc4 w7=>
 AB prog g.fsplit [v0,c4,v2] (λX w8=>
 Ag 0 X λc6=>
 Ag 1 X λt53=>
 BC (g.E+1) i λc7=>
 Ay c7 (λc8 w9=>
 AB prog g.fjoin [v0,t53,v1,c8] (λc9 ca=>
 K (.tuple #[c6,c9]) ca) w9) w8) w7) U)
 (CW .i64 j V λcc=>
 Rh .i64 v2 cc λt66=>
 AZ t66
 (BC (g.E+1) i λcd=>
 Ay cd (λt70 ch=>
 DR .i64 v2 j λcu=>
 DR .i64 cu V λcx=>
 AB prog g.fsplit [v0,t70,cx] (λt76 da=>
 Ag 0 t76 λt77=>
 Ag 1 t76 λdk=>
 BC g.E i λdr=>
 Ay dr (λdA dB=>
 AB prog g.fjoin [v0,dA,v1,t77] (λdC dT=>
 K (.tuple #[dC,dk]) dT) dB) da) ch) U)
 (CM [10] [[],[0],[0,1],[0,1,2],[0,1,2,3],[],[5],[],[],[7,8],[0,1,2,3,4,5,6,7,8,9],[0,1,2,3,4,5,6,7,8,9,10],[0,1,2,3,4,5,6,7,8,9,10,11],[0,1,2,3,4,5,6,7,8,9,10,11],[0,1,2,3,4,5,6,7,8,9,10,11,12],[0,1,2,3,4,5,6,7,8,9,10,11,12,13,14]] U.drew (λe1 o=>
 Af v0 λe2=>
 BC 0 e2 λe3=>
 BC 1 e3 λe4=>
 DQ (o 4) e4 λe5=>
 BC 0 i λe6=>
 DQ (o 6) e6 λe7=>
 DR .i64 v2 j λe8=>
 BF prog CS e5 [e7,e8] (λY Z=>
 Mod (e1 10) U.drew Z/\
 Ag 0 Y λe9=>
 Ag 1 Y λea=>
 Jt Z (λC=>
 BC g.E i λa1=>
 HS C a1 λa6=>
 BC (g.E+1) i λa7=>
 HS C a7 λa8=>
 ∀ak:World,C ak->
 BC 0 i λal=>
 CB al e9 (λI=>
 CM [6] [[],[0],[0,1],[0,1,2],[],[],[0,1,2,3,4,5]] I.drew (λec q=>
 Af v0 λan=>
 BC 3 an λav=>
 DQ (q 3) av λax=>
 GD (q 5) (g.E+5) i λay=>
 AB prog g.aPut [ax,v1,ay] (λ_t112 m=>
 Mod (ec 6) I.drew m/\
 CM [3,11,13] [[],[],[],[0,1,2],[],[],[5],[5,6],[5,6,7],[],[9],[0,1,2,3,5,6,7,8,9,10],[],[0,1,2,3,4,5,6,7,8,9,10,11,12],[0,1,2,3,4,5,6,7,8,9,10,11,12,13],[0,1,2,3,4,5,6,7,8,9,10,11,12,13,14]] m.drew (λJ aZ=>
 AB prog g.fjoin [v0,a6,v1,(zI (-1))] (λb0 O=>
 Mod (J 3) m.drew O/\
 Af v0 λb1=>
 BC 3 b1 λb2=>
 DQ (aZ 8) b2 λb6=>
 CV [(0,g.E),(g.E,1),(g.E+1,1),(g.E+2,1),(g.E+3,1),(g.E+4,1)] g.zN [(0,ea)] λb7=>
 AB prog g.aTake [b6,b7] (λb8 Q=>
 Mod (J 11) O Q/\
 AB prog g.fjoin [v0,(zI (-1)),b8,a8] (λb9 ba=>
 Mod (J 13) Q ba/\
 K (.tuple #[b0,b9]) ba) Q) O) m.drew)) I.drew)) ak)) U.drew)))) w5.drew)) w4) w3) w2) w1) w)
def Yt(g:AvK)(v0 v1:Value)(K:Cont)(w:World):Prop:=
 AB prog g.fat [v0,v1] (λo q=>
 runK prog (Instr.field g.tn o 0) (λt9 w2=>
 Af v0 λi=>
 BC 3 i λj=>
 Ay j (λm B=>
 AB prog g.aFree [m,v1] (λ_t15 w4=>
 K t9 w4) B) w2) q) w
def Qj(g:AvK)(v0 v1:Value)(K:Cont)(w:World):Prop:=
 Dr v1 λB=>
 FK [(.slice none 0 0),(zI 0)] (λvs i w1=>∀_:Env,
 GI .i64 (nth vs 1) B λI=>
 AZ I
 (Ip g.E v1 (nth vs 1) λO=>
 Ay O (λj w2=>
 Af v0 λQ=>
 BC 0 Q λU=>
 BC 0 U λt22=>
 Ay t22 (λV w3=>
 Cs prog CS V [j] (λt25 w4=>
 Ag 0 t25 λX=>
 Ag 1 t25 λ_t27=>
 Nw .i64 X (zI 0) λY=>
 AZ Y
 (CW .i64 (nth vs 1) (zI 1) λZ=>
 i [(nth vs 0),Z] w4)
 (Cl (λ_vs_1 w5=>∀_:Env,
 Dg g.te g.E 1 g.zE [(0,j)] (λa1 w6=>
 runK prog (Builtin.append_ #[g.ts,g.ts] g.ts [(nth vs 0),a1].toArray) (λa6 w7=>
 CW .i64 (nth vs 1) (zI 1) λm=>
 i [a6,m] w7) w6) w5) (λJ=>
 Dr (nth vs 0) λa7=>
 DR .i64 a7 (zI 1) λo=>
 Rh .i64 o (zI 0) λa8=>
 AZ a8
 (CM [10] [[],[0],[0,1],[0,1,2],[0,1,2,3],[],[],[5,6],[5,6,7],[],[0,1,2,3,4,5,6,7,8,9],[0,1,2,3,4,5,6,7,8,9,10],[0,1,2,3,4,5,6,7,8,9,10,11],[0,1,2,3,4,5,6,7,8,9,10,11],[0,1,2,3,4,5,6,7,8,9,10,11,12],[0,1,2,3,4,5,6,7,8,9,10,11,12,13,14]] w4.drew (λM St=>
 Af v0 λak=>
 BC 0 ak λal=>
 BC 2 al λt39=>
 DQ (St 4) t39 λan=>
 Ip g.E (nth vs 0) o λav=>
 DQ (St 8) av λax=>
 BF prog CS an [ax,j] (λt46 w8=>
 Mod (M 10) w4.drew w8/\
 Ag 0 t46 λay=>
 Ag 1 t46 λaZ=>
 AZ aZ
 (Ip g.E (nth vs 0) o λt53=>
 CB t53 ay (λw9=>
 CW .i64 (nth vs 1) (zI 1) λq=>
 i [(nth vs 0),q] w9) w8)
 (J [] w8)) w4.drew))
 (J [] w4)))) w3) w2) w1)
 (K (nth vs 0) w1)) w
def Oe(g:AvK)(v0 v1 v2 v3:Value)(K:Cont)(w:World):Prop:=
 Af v0 λt22=>
 BC 4 t22 λV=>
 Ay V (λX w1=>
 AB prog g.fsplit [v0,X,v1] (λB w2=>
 Ag 0 B λm=>
 Ag 1 B λY=>
 DR .i64 v2 v1 λZ=>
 AB prog g.fsplit [v0,Y,Z] (λI w3=>
 Ag 0 I λa1=>
 Ag 1 I λo=>
 AB prog g.fdrop [v0,a1] (λ_t40 w4=>
 Cl (λvs w5=>∀_:Env,
 runK prog (Builtin.append_ #[g.ts,g.ts] g.ts [(nth vs 1),v3].toArray) (λO w6=>
 Cl (λj w7=>∀_:Env,
 AB prog g.fmelded [v0,(nth j 1)] (λt76 w8=>
 Dr t76 λt77=>
 FK [(nth vs 0),(zI 0)] (λi q w9=>∀_:Env,
 GI .i64 (nth i 1) t77 λa6=>
 AZ a6
 (Ip g.E t76 (nth i 1) λa7=>
 Ay a7 (λa8 ak=>
 Af v0 λal=>
 BC 3 al λan=>
 Ay an (λav ax=>
 CV [(0,g.E),(g.E,1),(g.E+1,1),(g.E+2,1),(g.E+3,1),(g.E+4,1)] g.zN [(0,a8)] λay=>
 AB prog g.aTake [av,ay] (λaZ b0=>
 AB prog g.fjoin [v0,(nth i 0),aZ,(zI (-1))] (λb1 b2=>
 CW .i64 (nth i 1) (zI 1) λb6=>
 q [b1,b6] b2) b0) ax) ak) w9)
 (AB prog g.fconcat [v0,(nth i 0),(nth j 0)] (λb7 b8=>
 Af v0 λb9=>
 BC 4 b9 λba=>
 CB ba b7 (λbb=>
 K (.tuple #[]) bb) b8) w9)) w8) w7) (λQ=>
 PH .i64 o (zI (-1)) λbc=>
 AZ bc
 (AB prog g.ffirst [v0,o] (λU bd=>
 Ag 0 U λbk=>
 Ag 1 U λt66=>
 AB prog g.fpick [v0,t66] (λbl bp=>
 Dg g.te g.E 1 g.zE [(0,bl)] (λbs bx=>
 runK prog (Builtin.append_ #[g.ts,g.ts] g.ts [O,bs].toArray) (λbZ c4=>
 Q [bk,bZ] c4) bx) bp) bd) w6)
 (Q [o,O] w6))) w5) (λJ=>
 PH .i64 m (zI (-1)) λc6=>
 AZ c6
 (AB prog g.flast [v0,m] (λt46 c7=>
 Ag 0 t46 λc8=>
 Ag 1 t46 λc9=>
 AB prog g.fpick [v0,c9] (λt53 ca=>
 Dg g.te g.E 1 g.zE [(0,t53)] (λcc cd=>
 runK prog (Builtin.append_ #[g.ts,g.ts] g.ts [(.slice none 0 0),cc].toArray) (λt55 ch=>
 J [c8,t55] ch) cd) ca) c7) w4)
 (J [m,(.slice none 0 0)] w4))) w3) w2) w1) w
def TB(g:AvK)(v0 v1 v2 v3 v4:Value)(K:Cont)(w:World):Prop:=
 Cl (λ_vs w1=>∀_:Env,
 AB prog g.fat [v0,v1] (λb9 w2=>
 Bt g.tn g.zN (λj w3=>
 BP (g.E+5) j b9 (λw4=>
 BC g.E j λba=>
 Ay ba (λbb w5=>
 AB prog g.ftotals [v0,bb] (λB w6=>
 Ag 0 B λ_t35=>
 Ag 1 B λi=>
 Ag 2 B λ_t37=>
 CM [7] [[],[0],[0,1],[0,1,2],[0,1,2,3],[],[5],[0,1,2,3,4,5,6],[0,1,2,3,4,5,6,7],[0,1,2,3,4,5,6,7,8],[0,1,2,3,4,5,6,7,8],[0,1,2,3,4,5,6,7,8,9],[0,1,2,3,4,5,6,7,8,9,10,11]] w6.drew (λM St=>
 Af v0 λbc=>
 BC 0 bc λbd=>
 BC 0 bd λbk=>
 DQ (St 4) bk λbl=>
 BC 0 j λbp=>
 Om g (St 6) bp λt45=>
 BF prog CS bl [t45] (λt46 w7=>
 Mod (M 7) w6.drew w7/\
 Ag 0 t46 λm=>
 Ag 1 t46 λ_t48=>
 Cl (λ_vs_1 w8=>∀_:Env,
 DR .i64 v2 i λt66=>
 LV .i64 t66 (zI 0) λI=>
 DR .i64 v3 i λt70=>
 MI .i64 t70 m λO=>
 Cl (λ_vs_2 w9=>∀_:Env,
 CW .i64 i m λQ=>
 Xn .i64 v3 Q λU=>
 AZ U
 (K (.bool true) w9)
 (BC (g.E+1) j λV=>
 Ay V (λX bs=>
 DR .i64 v2 i λY=>
 DR .i64 Y m λZ=>
 LV .i64 Z (zI 0) λa1=>
 DR .i64 v3 i λa6=>
 DR .i64 a6 m λa7=>
 AB prog g.fover [v0,X,a1,a7,v4] (λa8 bx=>
 K a8 bx) bs) w9)) (λak=>
 GI .i64 I O λbZ=>
 AZ bZ
 (BC 0 j λt76=>
 Ay t76 (λt77 al=>
 Cl (λo an=>∀_:Env,
 Cl (λav c4=>∀_:Env,
 Cs prog CS v4 [(nth av 0)] (λax ay=>
 Ke ax λaZ=>
 AZ aZ
 (K (.bool false) ay)
 (ak [] ay)) c4) (λb0=>
 T8 .i64 I (zI 0) λc6=>
 AZ c6
 (Af v0 λc7=>
 BC 0 c7 λc8=>
 BC 1 c8 λc9=>
 Ay c9 (λca cc=>
 Cs prog CS ca [(nth o 0),I] (λq cd=>
 Ag 0 q λ_t103=>
 Ag 1 q λb1=>
 b0 [b1] cd) cc) an)
 (b0 [(nth o 0)] an))) (λb2=>
 GI .i64 O m λch=>
 AZ ch
 (Af v0 λcu=>
 BC 0 cu λcx=>
 BC 1 cx λda=>
 Ay da (λdk dr=>
 Cs prog CS dk [t77,O] (λb6 dA=>
 Ag 0 b6 λdB=>
 Ag 1 b6 λ_t91=>
 b2 [dB] dA) dr) al)
 (b2 [t77] al))) w8)
 (ak [] w8))) (λb7=>
 GI .i64 v2 i λdC=>
 AZ dC
 (BC g.E j λdT=>
 Ay dT (λt55 e1=>
 MI .i64 v3 i λe2=>
 AB prog g.fover [v0,t55,v2,e2,v4] (λe3 b8=>
 Ke e3 λe4=>
 AZ e4
 (K (.bool false) b8)
 (b7 [] b8)) e1) w7)
 (b7 [] w7))) w6.drew)) w5) w4) w3) w2) w1) (λJ=>
 Nw .i64 v1 (zI (-1)) λe5=>
 AZ e5
 (K (.bool true) w)
 (Rh .i64 v2 v3 λt25=>
 AZ t25
 (K (.bool true) w)
 (J [] w)))
def AE.conv{B e k:Nat}{Q R:World->List Value->α->Prop}{g n c:Nat}{l:List α}(h:AE B e k Q w (.slice (some ⟨g,0,none⟩) n c) l)
 (U:∀i (hi:i<l.length) (r:List Value),r.length=k->(∀u∈r,u.oneCell'=true)->(∀q u,r[q]?=some u->w.cell? ⟨g,i*k+q,none⟩=some u)->R w r l[i]):AE B e k R w (.slice (some ⟨g,0,none⟩) n c) l:=by
 obtain⟨rows,h1,V,m,h4⟩:=h;have j:∀r∈rows,r.length=k:=λr hr=>(m r hr).1;have X:n=l.length:=by
  rcases h1.2 with⟨h',_⟩|⟨g',O,Y,h',_⟩
  .simp at h'
  .simp only[ny] at h';exact h'.2.1
 subst X;refine⟨rows,h1,V,m,λi r x hr o=>?_⟩;have hi:i<l.length:=(Ad.1 o).1;have I:x=l[i]:=by rw[Bq hi] at o;exact(lK o).symm
 subst I;have hm:=ln hr;refine U i hi r (j r hm) (m r hm).2 λq u hu=>?_;have Z:q<k:=by rw[<-j r hm];exact(Ad.1 hu).1
 have J:i*k+q<l.length*k:=by
  have:(i+1)*k<=l.length*k:=mV _ hi;rw[mC] at this;omega
 have:=h1.cellAt _ J;rw[IB rows i q r j hr Z] at this;rw[<-hu];exact this
def AE.any{B e k:Nat}{i:World->List Value->α->Prop}{l:List α}(h:AE B e k i w v l):AE B e k (λ_ _ _=>True) w v l:=by
 obtain⟨rows,h1,j,m,_⟩:=h;exact⟨rows,h1,j,m,λ_ _ _ _ _=>trivial⟩
def AE.Kz{B e k:Nat}{g n c:Nat}{l:List α}(h:AE B e k (λ_ _ _=>True) w (.slice (some ⟨g,0,none⟩) n c) l){i j:Nat}(hi:i<l.length)(q:j<k){u:Value}(hu:u.oneCell'=true) :
  AE B e k (λ_ _ _=>True) (w.setCell ⟨g,i*k+j,none⟩ u) (.slice (some ⟨g,0,none⟩) n c) l:=by
 have o:=(AE.store (R':=λ_ _ _=>True) (x':=l[i]) h hi q hu (λ_ _ _ _=>trivial) λ_ _=>trivial).2.2.1;have e:l.set i l[i]=l:=rV hi;rw[e] at o;have m:(⟨g,0,none⟩:Addr).add (i*k+j)=⟨g,i*k+j,none⟩:=by unfold Addr.add;split<;>simp_all
 rw[m] at o;exact o
def LW(W:World)(g o:Nat)(u:Value):Mod (λb=>b=g) W (W.setCell ⟨g,o,none⟩ u):=Mod.setCell _ _ _ rfl
def AE.cellsOf{B e k:Nat}{R:World->List Value->α->Prop}{g n c:Nat}{l:List α}(h:AE B e k R w (.slice (some ⟨g,0,none⟩) n c) l){i:Nat}(hi:i<l.length) :
  ∃r,r.length=k/\(∀q u,r[q]?=some u->w.cell? ⟨g,i*k+q,none⟩=some u)/\R w r l[i]/\∀q,q<k->Live w ⟨g,i*k+q,none⟩:=by
 obtain⟨p,r,m,_,hr,hc,o⟩:=(AE.sl h).get hi;cases m;have j:∀q,(⟨g,0,none⟩:Addr).add (i*k+q)=⟨g,i*k+q,none⟩:=λq=>by unfold Addr.add;split<;>simp_all
 refine⟨r,hr,λq u hu=>by rw[<-j];exact hc q u hu,o,λq I=>?_⟩;obtain⟨g',J,_,hl⟩:=AE.live h hi I;cases J;rw[j] at hl;exact hl
def Nk(W:World)(g j:Nat)(o:Dop)(rv sv i:Value):Prop:=∀q u,[Value.int .u8 o.kind,zI o.n,rv,sv,i][q]?=some u->W.cell? ⟨g,j*5+q,none⟩=some u
def Nk.jW{g j:Nat}{o:Dop}{rv sv i:Value}(h:Nk W g j o rv sv i)(m:∀q,q<5->W'.cell? ⟨g,j*5+q,none⟩=W.cell? ⟨g,j*5+q,none⟩):Nk W' g j o rv sv i:=by
 intro q u hu;have:=(Ad.1 hu).1;simp only[gD,lX] at this;rw[m q (by omega)];exact h q u hu
def EZ{S D:Nat->Prop}{x:List Dop}(h:Ak S D w v x)(hb:Aq x<=1099511627776) :
  AB prog 115 [v] (λv' w'=>Em w.heap.size w' v' x/\Grow w w') w:=by
 refine uS1 (dB 611230466761 [([9],[(4,4),(9,42)])] [(dC [11,17,23,26,29,32] [0,0,0,0,0,0,0,0,192,448,960,1984,0,0,12288,28672,61440,131008,0,0,786432,1835008,3932160,8388544,16777155,33554371,67108803,134217679,268435407,536870863,1073741823,2147483647,4294967295] [[11,17,23],[11,17,23,26],[11,17,23,26,29]])]) func115 (λ_ _ _=>⟨by conv=>lhs;reduce,by dsimp only[PI,AF],by kernel_rfl⟩) ?_;unfold uI;have c6:=Dv x;refine AA (L2 h (by omega)) ?_;rintro v1 w1 ⟨o1,g1⟩;obtain⟨a1,c1,rfl,c7,bd,hp,hn⟩:=AE.shape o1;simp only[maxLen] at bd;rw[AO];cases a1 with
 |none=>
  have:=hn rfl;subst this;refine AU (λvs w2=>vs=[zI 0]/\w2=w1) (λ_ _=>0) ⟨rfl,rfl⟩ ?_;rintro vs _ ⟨rfl,rfl⟩ _;rename World=>w1
  rw[BQ,Nr,Ai];exact AD (λh=>by simp at h) λ_=>⟨AE.mod o1 (Mod.refl (λ_=>False) _) (λ_ _ h=>h) λr y hy=>by simp at hy,g1⟩
 |some p1=>
  obtain⟨g,rfl,c8,c9,_⟩:=hp _ rfl;have Iz:∀o∈x,o.Ab.length*4<=140737488355328/\o.set.length*48<=140737488355328/\o.patch.length*56<=140737488355328:=by
   intro o ho;have:=Ik ho;simp only[Eu,TW,cA] at this;omega
  let F:Nat->Prop:=λb=>w.heap.size<=b/\b≠g
  let D0:Nat->Prop:=λb=>D b/\b<w.heap.size
  let Inv:Nat->World->Prop:=λi W=>AE w.heap.size 81 5 (λ_ _ _=>True) W (.slice (some ⟨g,0,none⟩) x.length c1) x/\Mod (λb=>b=g) w1 W/\
   ∀j (O:j<x.length),∃rv sv U,Nk W g j x[j] rv sv U/\(j<i->Pm F W [.int .u8 x[j].kind,zI x[j].n,rv,sv,U] x[j])/\(i<=j->Cf D0 W [.int .u8 x[j].kind,zI x[j].n,rv,sv,U] x[j])
  have av:Inv 0 w1:=by
   refine⟨o1.any,Mod.refl _ _,λj O=>?_⟩;obtain⟨r,hr,a8,ho,_⟩:=AE.cellsOf o1 O;obtain⟨rv,sv,U,rfl,q1,q2,q3⟩:=ho;exact⟨rv,sv,U,a8,λh=>by omega,λ_=>⟨rv,sv,U,rfl,q1,q2,q3⟩⟩
  have ca:=g1.size;refine AU (λvs W=>∃i:Nat,i<=x.length/\vs=[zI i]/\Inv i W) (λvs _=>x.length-Dh vs 0) ⟨0,Nn _,rfl,av⟩ ?_;rintro vs w2 ⟨i,hi,rfl,a7⟩ _;rw[BQ,Nr,Ai];refine AD (λcc=>?_) λcd=>?_
  .have m:i<x.length:=by omega
   obtain⟨oA,mA,rows⟩:=a7;have ch:=mA.size;obtain⟨rv,sv,U,V,_,bk⟩:=rows i m;obtain⟨_,_,_,e,q1,q2,q3⟩:=bk (K8 _);simp only[np,sD,pr] at e;obtain⟨rfl,rfl,rfl⟩:=e;have ax:x[i]∈x:=by simp
   obtain⟨z1,z2,z3⟩:=Iz _ ax;have gd:Grow w2 w2.drew:=Mod.drew _ _;refine AT (λk b=>(k=26\/k=29\/k=32)/\b=g) ?_;have ld:∀q u,[Value.int .u8 x[i].kind,zI x[i].n,rv,sv,U][q]?=some u->w2.drew.cell? ((⟨g,0,none⟩:Addr).add (i*5+q))=some u:=λq u hu=>by rw[AI];exact V q u hu
   have lv:∀q,q<5->Live w2 ⟨g,i*5+q,none⟩:=by
    obtain⟨_,_,_,_,hl⟩:=AE.cellsOf oA m;exact hl
   refine AS m ?_;rw[AH,Addr.add_add];refine AP ⟨ld 2 _ rfl,λj O h=>by rcases h with⟨rfl|rfl|rfl,_⟩<;>exact absurd O (by decide)⟩ ?_;refine AA (Kk (q1.grow gd (by decide) λ_ _ h=>h) z1) ?_;rintro t1 w3 ⟨n1,g3⟩;refine⟨Grow.mod g3,?_⟩;have ay:=gd.trans g3;refine AS m ?_;rw[AH,Addr.add_add];refine AP ⟨ld 3 _ rfl,λj O h=>by rcases h with⟨rfl|rfl|rfl,_⟩<;>exact absurd O (by decide)⟩ ?_;refine AA (Eh (q2.grow ay (by decide) λ_ _ h=>h) z2) ?_;rintro t2 w4 ⟨n2,g4⟩;refine⟨Grow.mod g4,?_⟩;have aZ:=ay.trans g4;refine AS m ?_;rw[AH,Addr.add_add];refine AP ⟨ld 4 _ rfl,λj O h=>by rcases h with⟨rfl|rfl|rfl,_⟩<;>exact absurd O (by decide)⟩ ?_;refine AA (Qh (q3.grow aZ (by decide) λ_ _ h=>h) z3) ?_;rintro t3 Q ⟨n3,g5⟩;refine⟨Grow.mod g5,?_⟩;have B:=aZ.trans g5;have cu:=B.size;have zd:w2.drew.heap.size=w2.heap.size:=rfl;have cx:=g3.size;have da:=g4.size;have Z:∀q,q<5->Live Q ⟨g,i*5+q,none⟩:=λq X=>(lv q X).mod B λh=>h;have b0:AE 0 21 1 Be Q t1 x[i].Ab:=AE.base (AE.mod n1 (g4.trans g5) (λ_ _ h=>h) λ_ _ _ h=>h) λ_ _=>Nn _;have b6:Ho 0 Q t2 x[i].set:=AE.base (AE.mod n2 g5 (λ_ _ h=>h) λ_ _ _ h=>h) λ_ _=>Nn _;have b7:AE 0 56 6 Ef Q t3 x[i].patch:=AE.base n3 λ_ _=>Nn _;have b1:∀b,t1.ownBlock=some b->F b:=λb hb=>by have:=(AE.Aj n1 b hb).1;exact⟨by omega,by omega⟩
   have b2:∀b,t2.ownBlock=some b->F b:=λb hb=>by have:=(AE.Aj n2 b hb).1;exact⟨by omega,by omega⟩
   have b3:∀b,t3.ownBlock=some b->F b:=λb hb=>by have:=(AE.Aj n3 b hb).1;exact⟨by omega,by omega⟩
   have bl:AE w.heap.size 81 5 (λ_ _ _=>True) Q (.slice (some ⟨g,0,none⟩) x.length c1) x:=AE.mod oA B (λ_ _ h=>h) λ_ _ _ _=>trivial;have ak:=AE.one b0;have al:=AE.one b6;have an:=AE.one b7;refine AS m ?_;rw[AH,Addr.add_add,AI];refine(Z 2 (by decide)).st ak.1 ak.2 ⟨Mod.setCell _ _ _ ⟨.inl rfl,rfl⟩,?_⟩;refine AS m ?_;rw[AH,Addr.add_add,AI];refine((Z 3 (by decide)).set _ _).st al.1 al.2 ⟨Mod.setCell _ _ _ ⟨.inr (.inl rfl),rfl⟩,?_⟩;refine AS m ?_;rw[AH,Addr.add_add,AI];refine(((Z 4 (by decide)).set _ _).set _ _).st an.1 an.2 ⟨Mod.setCell _ _ _ ⟨.inr (.inr rfl),rfl⟩,?_⟩;rw[AM,AK (by omega)];refine⟨⟨i+1,m,rfl,?_⟩,by rw[Bw,Bw];omega⟩;have b8:=AE.Kz (AE.Kz (AE.Kz bl m (show 2<5 by decide) ak.1) m (show 3<5 by decide) al.1) m (show 4<5 by decide) an.1;have I:Mod (λb=>b=g) Q (((Q.setCell ⟨g,i*5+2,none⟩ t1).setCell ⟨g,i*5+3,none⟩ t2).setCell ⟨g,i*5+4,none⟩ t3):=((LW _ _ _ _).trans (LW _ _ _ _)).trans (LW _ _ _ _);have a6:∀j q,q<5->(j≠i\/q<2)->(((Q.setCell ⟨g,i*5+2,none⟩ t1).setCell ⟨g,i*5+3,none⟩ t2).setCell ⟨g,i*5+4,none⟩ t3).cell? ⟨g,j*5+q,none⟩=Q.cell? ⟨g,j*5+q,none⟩:=by
    intro j q X O;have ne:∀q',q'<5->2<=q'->(⟨g,i*5+q',none⟩:Addr)≠⟨g,j*5+q,none⟩:=by
     intro q' h1 h2 e;simp only[Addr.mk.injEq,sD,pr] at e;omega
    rw[S4 _ _ _ _ (ne 4 (by omega) (by omega)),S4 _ _ _ _ (ne 3 (by omega) (by omega)),S4 _ _ _ _ (ne 2 (by omega) (by omega))]
   have same:∀j q u,w2.cell? ⟨g,j*5+q,none⟩=some u->Q.cell? ⟨g,j*5+q,none⟩=some u:=λj q u hu=>B.cell hu λh=>h;generalize hW:(((Q.setCell ⟨g,i*5+2,none⟩ t1).setCell ⟨g,i*5+3,none⟩ t2).setCell ⟨g,i*5+4,none⟩ t3)=W at b8 I a6 ⊢;refine⟨b8,mA.trans ((Grow.mod B).trans I),λj O=>?_⟩;by_cases b9:j=i
   .subst b9;refine⟨t1,t2,t3,λq u hu=>?_,λ_=>⟨t1,t2,t3,rfl,Ii ⟨b0,b1⟩ I (λb _ hb e=>hb.2 e) (λ_ _ h=>h) λ_ _ h=>h,Ii ⟨b6,b2⟩ I (λb _ hb e=>hb.2 e) (λ_ _ h=>h) λ_ _ h=>h,Ii ⟨b7,b3⟩ I (λb _ hb e=>hb.2 e) (λ_ _ h=>h) λ_ _ h=>h⟩,λh=>by omega⟩;have X:=(Ad.1 hu).1;simp only[gD,lX] at X;have ne:∀q q',q≠q'->(⟨g,j*5+q',none⟩:Addr)≠⟨g,j*5+q,none⟩:=by
     intro q q' h e;simp only[Addr.mk.injEq,sD,pr] at e;omega
    have J:∀q,q<5->∃u,Q.cell? ⟨g,j*5+q,none⟩=some u:=λq X=>lD.1 (Z q X).1;rw[<-hW];match q,X,hu with
    |0,_,hu=>rw[hW,a6 j 0 (by omega) (.inr (by omega))];exact same _ _ _ (V 0 u hu)
    |1,_,hu=>rw[hW,a6 j 1 (by omega) (.inr (by omega))];exact same _ _ _ (V 1 u hu)
    |2,_,hu=>
     simp only[ot,ow,gM] at hu;subst hu;obtain⟨u',Y⟩:=J 2 (by omega);rw[S4 _ _ _ _ (ne 2 4 (by decide)),S4 _ _ _ _ (ne 2 3 (by decide))];exact lM _ _ _ Y
    |3,_,hu=>
     simp only[ot,ow,gM] at hu;subst hu;obtain⟨u',Y⟩:=J 3 (by omega);rw[S4 _ _ _ _ (ne 3 4 (by decide))];exact lM _ _ _ ((S4 _ _ _ _ (ne 3 2 (by decide))).trans Y)
    |4,_,hu=>
     simp only[ot,ow,gM] at hu;subst hu;obtain⟨u',Y⟩:=J 4 (by omega);exact lM _ _ _ ((S4 _ _ _ _ (ne 4 3 (by decide))).trans ((S4 _ _ _ _ (ne 4 2 (by decide))).trans Y))
   .obtain⟨bp,bs,bx,ba,bb,bc⟩:=rows j O;refine⟨bp,bs,bx,Nk.jW (W:=Q) (λq u hu=>same _ _ _ (ba q u hu)) λq X=>a6 j q X (.inl b9),λh=>?_,λh=>?_⟩
    .exact(Pm.mod (bb (by omega)) (D':=F) B (λ_ _ _ h=>h) λ_ _ h=>h).mod I (λb _ hb e=>hb.2 e) λ_ _ h=>h
    .exact(Cf.mod (bc (by omega)) (D':=D0) B (λ_ _ _ h=>h) λ_ _ h=>h).mod I (λb _ hb e=>by have:=hb.2;omega) λ_ _ h=>h
  .have:i=x.length:=by omega
   subst this;obtain⟨oA,mA,rows⟩:=a7;refine⟨AE.conv oA λj O r hr c4 a8=>?_,g1.next mA λb hb e=>by omega⟩;obtain⟨rv,sv,U,V,bZ,_⟩:=rows j O;have e:r=[.int .u8 x[j].kind,zI x[j].n,rv,sv,U]:=by
    refine mj λq=>?_;by_cases X:q<5
    .have h1:r[q]?=some r[q]:=Bq (by omega);have h2:([Value.int .u8 x[j].kind,zI x[j].n,rv,sv,U])[q]?=some ([Value.int .u8 x[j].kind,zI x[j].n,rv,sv,U])[q]:=Bq (by simpa using X);have h3:=a8 q _ h1;rw[V q _ h2] at h3;rw[h1,h2,h3]
    .rw[lP (by omega),lP (by simp;omega)]
   subst e;exact(bZ O).mod (Mod.refl (λ_=>False) _) (λ_ _ _ h=>h) λb _ hb=>⟨hb.1,λe=>hb.2 (by simpa[Value.ownBlock] using e.symm)⟩
end Go.Proofs.YtbdjachmndlplaaGreatDoor
