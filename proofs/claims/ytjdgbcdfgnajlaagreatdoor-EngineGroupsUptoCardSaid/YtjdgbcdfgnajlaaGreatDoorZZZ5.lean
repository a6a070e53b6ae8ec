/- parts of the proof, written short by a program of ours -/
import Derived.Test.YtjdgbcdfgnajlaaGreatDoorZZZ4
set_option linter.all false
set_option maxRecDepth 100000
namespace Go.Proofs.YtjdgbcdfgnajlaaGreatDoor
open Go Proofs.Tryz
variable {e B bt:Nat}{S F C M S':d_}{w W w' W' w0:c_}{v sv:b_}{most:Int}{cs:U_}{a:U'}{α:Type}{rs:V'}{ks:X'}{s:V_}{K:Cont}{P:Program}
def WE:Go.Shelf.Ren:=⟨λ|6=>53|15=>103|14=>102|28=>182|29=>183|20=>174|21=>175|22=>176|23=>177|24=>178|25=>179|26=>180|27=>181|46=>260|47=>261|48=>262|49=>263|50=>264|57=>337|n=>n,λ|22=>22|24=>44|25=>97|3=>3|39=>168|0=>0|53=>261|55=>76|4=>4|46=>255|45=>254|50=>202|5=>5|9=>9|66=>351|70=>355|76=>417|77=>361|n=>n,λ|n=>n⟩
def Z6:Go.Proofs.SlLaysF0.n6 prog WE:={mixed:=D_,f6:=⟨Tryz.f53.name,C0,func53.trans (r9 some D_)⟩,f14:=⟨Tryz.f102.name,C0,func102.trans (r9 some D_)⟩,f15:=func103.trans (r9 some D_),f20:=⟨Tryz.f174.name,C0,func174.trans (r9 some D_)⟩,f21:=⟨Tryz.f175.name,C0,func175.trans (r9 some D_)⟩,f22:=⟨Tryz.f176.name,C0,func176.trans (r9 some D_)⟩,f23:=⟨Tryz.f177.name,C0,func177.trans (r9 some D_)⟩,f24:=⟨Tryz.f178.name,C0,func178.trans (r9 some D_)⟩,f25:=⟨Tryz.f179.name,C0,func179.trans (r9 some D_)⟩,f26:=⟨Tryz.f180.name,C0,func180.trans (r9 some D_)⟩,f27:=⟨Tryz.f181.name,C0,func181.trans (r9 some D_)⟩,f28:=func182.trans (r9 some D_),f29:=func183.trans (r9 some D_),f46:=⟨Tryz.f260.name,C0,func260.trans (r9 some D_)⟩,f47:=func261.trans (r9 some D_),f48:=func262.trans (r9 some D_),f49:=⟨Tryz.f263.name,C0,func263.trans (r9 some D_)⟩,f50:=⟨Tryz.f264.name,C0,func264.trans (r9 some D_)⟩,f57:=⟨Tryz.f337.name,C0,func337.trans (r9 some D_)⟩,t0:=underlying0,a0:=Tryz.isAgg0,z0:=Tryz.sizeOf0,v0:=Tryz.zeroValue0,t3:=underlying3,a3:=Tryz.isAgg3,z3:=Tryz.sizeOf3,v3:=Tryz.zeroValue3,t4:=underlying4,a4:=Tryz.isAgg4,z4:=Tryz.sizeOf4,v4:=Tryz.zeroValue4,t5:=underlying5,a5:=Tryz.isAgg5,z5:=Tryz.sizeOf5,v5:=Tryz.zeroValue5,t9:=underlying9,a9:=Tryz.isAgg9,z9:=Tryz.sizeOf9,v9:=Tryz.zeroValue9,t22:=underlying22,a22:=Tryz.isAgg22,z22:=Tryz.sizeOf22,v22:=Tryz.zeroValue22,t25:=underlying97,a25:=Tryz.isAgg97,z25:=Tryz.sizeOf97,v25:=Tryz.zeroValue97,t39:=underlying168,a39:=Tryz.isAgg168,z39:=Tryz.sizeOf168,v39:=Tryz.zeroValue168,t45:=underlying254,a45:=Tryz.isAgg254,z45:=Tryz.sizeOf254,v45:=Tryz.zeroValue254,t46:=underlying255,a46:=Tryz.isAgg255,z46:=Tryz.sizeOf255,v46:=Tryz.zeroValue255,t50:=underlying202,a50:=Tryz.isAgg202,z50:=Tryz.sizeOf202,v50:=Tryz.zeroValue202,t53:=underlying261,a53:=Tryz.isAgg261,z53:=Tryz.sizeOf261,v53:=Tryz.zeroValue261,t55:=underlying76,a55:=Tryz.isAgg76,z55:=Tryz.sizeOf76,v55:=Tryz.zeroValue76,t66:=underlying351,a66:=Tryz.isAgg351,z66:=Tryz.sizeOf351,v66:=Tryz.zeroValue351,t70:=underlying355,a70:=Tryz.isAgg355,z70:=Tryz.sizeOf355,v70:=Tryz.zeroValue355,t76:=underlying417,a76:=Tryz.isAgg417,z76:=Tryz.sizeOf417,v76:=Tryz.zeroValue417,t77:=underlying361,a77:=Tryz.isAgg361,z77:=Tryz.sizeOf361,v77:=Tryz.zeroValue361 }
def pK(x y:DKey)(W:c_):Calls prog 54 #[.agg x.cells.toArray,.agg y.cells.toArray] W λe w'=>e=.returned (zIq (Md x.id y.id))/\∃q I,w'=Sort.grow (W.drewN q) I:=by
 have h:l_ 54 [.agg x.cells.toArray,.agg y.cells.toArray] (λv w'=>v=zIq (Md x.id y.id)/\∃I,w'=Sort.grow W I) W:=by
  refine H_ func54 ?_;refine⟨x.cells,rfl,⟨y.cells,rfl,YG ?_⟩⟩;rw[AE];have c1:∀j u,x.cells[j]?=some u->((W.alloc (.cells x.cells.toArray 44)).alloc (.cells y.cells.toArray 44)).cell? ((⟨W.heap.size,0,none⟩:Addr).add j)=some u:=λj u hu=>(AF.alloc (λ_=>False) _ _).cell (Ia hu) F_;have c2:∀j u,y.cells[j]?=some u->((W.alloc (.cells x.cells.toArray 44)).alloc (.cells y.cells.toArray 44)).cell? ((⟨(W.alloc (.cells x.cells.toArray 44)).heap.size,0,none⟩:Addr).add j)=some u:=λj u hu=>Ia hu;apply AI (c1 0 _ rfl);rw[AE];apply AI (c2 0 _ rfl);apply AA YB;rintro _ _ ⟨rfl,rfl⟩;grind[Go.Sort.alloc_eq_grow,Go.Sort.grow_grow]
 apply aBu h;rintro e w' ⟨v,rfl,rfl,I,rfl⟩;exact⟨rfl,0,I,rfl⟩
def vD:Sort.SWO (Go.Proofs.ltOf λx y:DKey=>Md x.id y.id):=by
 have e:∀x y:DKey,Go.Proofs.ltOf (λx y:DKey=>Md x.id y.id) x y=decide (x.id<y.id):=λx y=>by
  unfold Go.Proofs.ltOf Md;grind
 exact⟨B_,B_,B_⟩
instance:Inhabited DKey:=⟨DKey.zero⟩
def iK{I:X'}(h:AB B 44 6 Hg w v I)(hl:I.length<=1099511627776) : l_ 53 [v,.func (.func 54) #[] #[]] (λ_ w'=>∃ks:X',ks.Perm I/\ks.Pairwise (λx y=>x.id<=y.id)/\AB B 44 6 Hg w' v ks/\AF (λb=>v.ownBlock=some b) w w') w:=by
 obtain⟨a,c,rfl,_,_,hp,Y⟩:=h.AK;cases a with
 |none=>
  have e:=Y rfl;subst e;apply aBu (Go.Proofs.AnyF.slices_SortFunc_none Z6 none c _ w);rintro _ _ ⟨rfl,rfl⟩;exact⟨_,rfl,[],aA1 _,List.Pairwise.nil,h,AF.refl _ _⟩
 |some p=>
  obtain⟨g,rfl,_,Q,Z⟩:=hp p rfl;obtain⟨_,_,hH,hS⟩:=AB.YY (enc:=DKey.cells) I' (λx=>Hg.one (w:=w) (x:=x) rfl) (λ_ _ _=>aCU) h;have hc:=Go.Proofs.AnyQ.slices_SortFunc Z6 6 Tryz.isAgg44 Tryz.sizeOf44 DKey.cells I' (λx=>Hg.one (w:=w) (x:=x) rfl) (λx y=>Md x.id y.id) vD 54 #[] g 0 c I.toArray w (Eo _ rfl) (λm os dk _ x y=>pK x y _) hH Q B_;rw[aAy] at hc;apply aBu hc;rintro _ _ ⟨rfl,J,m,os,N,O,rfl⟩;obtain⟨h1,V,h3⟩:=N;have hd:J.size=I.length:=by rw[h1,aAy]
  obtain⟨o1,o2⟩:=hS m J os hd;refine⟨_,rfl,J.toList,?_,?_,o1,o2.mono B_⟩;grind[Array.extract_size];rw[aAq];intro i j hi X U;simp only[aBW] at hi X;have:=O i j (Lc _) U E;rw[aDF J i hi,aDF J j X] at this;have e:Go.Proofs.ltOf (λx y:DKey=>Md x.id y.id) J[j] J[i]=decide (J[j].id<J[i].id):=by
   unfold Go.Proofs.ltOf Md;by_cases h1:J[j].id<J[i].id;grind;by_cases V:J[i].id<J[j].id<;>simp[h1,V]
  grind
def R2(j:X'):Prop:=j.Pairwise λx y=>x.id≠y.id
theorem SD:FL ks↔ks.length<=64/\(∀k∈ks,E9 k)/\R2 ks:=by
 unfold FL ud R2;rw[aAq];constructor;rintro⟨h1,N⟩;refine⟨h1,λk hk=>?_,λi j hi O J=>?_⟩;obtain⟨i,hi,rfl⟩:=List.getElem_of_mem hk;exact(N i hi _ (Hc hi)).1;exact(N j O _ (Hc O)).2 i J _ (Hc hi);grind
def Qu{L:X'}{id:Int}:(L.map λk=>(k.id,(Value.agg k.cells.toArray))).find? (λp=>decide (p.1=id))=(BW L id).map λk=>(k.id,.agg k.cells.toArray):=by
 unfold BW;rw[List.find?_map];rfl
theorem dH{L:X'}(j:R2 L){id:Int}{k:DKey}:BW L id=some k↔k∈L/\k.id=id:=by
 induction L<;>grind[BW,R2,List.pairwise_cons]
theorem R2.Kb{L L':X'}(hp:L.Perm L')(h:R2 L):R2 L':=(hp.pairwise_iff (R:=λx y:DKey=>x.id≠y.id) λh=>h.symm).1 h
def ZZ{L L':X'}(hp:L.Perm L')(j:R2 L)(id:Int):BW L id=BW L' id:=by
 refine Option.ext λk=>?_;grind[dH,R2.Kb]
def eP{L:X'}(j:R2 L)(I:L.Pairwise λx y=>x.id<=y.id):L.Pairwise λx y=>x.id<y.id:=by
 refine(List.Pairwise.and j I).imp λ{x y} h=>?_;omega
structure X8 (w0 W:c_) (b m:Nat) (kv:b_) (keys:X') (i:Nat):Prop where
 c0:W.cell? ⟨b,0,none⟩=some kv
 c1:W.cell? ⟨b,1,none⟩=some (.map (some m))
 row:AB w0.heap.size 44 6 Hg W kv keys
 mp:NH W m ((keys.take i).map λk=>(k.id,.agg k.cells.toArray))
 hb:w0.heap.size<=b
 hm:w0.heap.size<=m
 ne:m≠b
 Ba:∀g,kv.ownBlock=some g->g≠m/\g≠b
 g:AG w0 W
def X8.S_{b m i:Nat}{J:b_}{j:X'}(h:X8 w0 W b m J j i)(I:AG W W'):X8 w0 W' b m J j i:=⟨I.cell h.c0 F_,I.cell h.c1 F_,AB.T_ h.row I C_ E',h.mp.T_ I F_,h.hb,h.hm,h.ne,h.Ba,h.g.trans I⟩
open Classical in
def Yu{J:X'}(h:Mh S w sv J) : l_ 19 [sv] (λv' w'=>AG w w'/\((FL J/\∃ (kv:b_) (ks:X'),v'=.tuple #[kv,zIq 0]/\ks.Perm J/\ks.Pairwise (λx y=>x.id < y.id)/\CG (λb=>w.heap.size<=b) w' kv ks)\/ (¬ FL J/\v'=.tuple #[.pointer none,zIq 3]))) w:=by
 refine I_ func19 ?_ (.y (.y (.y (.x (.y (.node [19] [(2,3),(6,8),(19,46)] (.y (.y (.x (.y (.cut [] [(2,3),(7,8),(23,38)] (.cut [8] [(7,8),(23,32)] (.dt [6,10,11] (i_ [0,1,3,7,0,16,63,127,255,255,0,1535,4095]) [[6]] (.op 0 (.op 1 (.op 2 (.op 3 (.op 4 (.op 5 (.br (.op 6 (.op 7 (.op 8 (.op 9 (.op 10 (.op 11 (.op 12 .nil))))))) (.op 10 (.op 6 (.op 7 (.op 8 (.op 9 (.op 11 (.op 12 .nil))))))))))))))) .nil) (.dm [7] [0,1,3,7,0,16,0,127])))))) .nil))))));obtain⟨a,c,rfl,bp⟩:=h.AK;rw[AO];refine gtP (λh6=>⟨AF.refl _ _,.inr ⟨by rintro⟨h,_⟩;omega,rfl⟩⟩) λh6=>?_;refine AA (bj h E) ?_;rintro v1 O ⟨o1,g1⟩;apply AY (v:=.map (some O.heap.size)) (w':=O.alloc (.map #[] 0)) rfl;have g2:AG O (O.alloc (.map #[] 0)):=AF.alloc _ _ _;have av:NH (O.alloc (.map #[] 0)) O.heap.size []:=NH.make O;have ax:(O.alloc (.map #[] 0)).heap.size=O.heap.size+1:=E_;generalize O.alloc (.map #[] 0)=w2 at g2 av ax ⊢;obtain⟨ra,rc,rfl,_,_,_,_⟩:=o1.AK;refine⟨#[.slice ra J.length rc,.map (some O.heap.size)],D_,?_⟩;refine CN (vs:=[.slice ra J.length rc,.map (some O.heap.size)]) λb w3 hb bs g3 a8 _=>?_;have z1:=g1.size;have aa:∀g,(Value.slice ra J.length rc).ownBlock=some g->g<O.heap.size:=λg hg=>(AB.Am o1 g hg).2;have I0:X8 w w3 b O.heap.size (.slice ra J.length rc) J 0:=
  ⟨by have:=a8 0 _ rfl;rwa [AH] at this,by have:=a8 1 _ rfl;rwa [AH] at this,AB.T_ o1 (g2.trans g3) C_ E',by grind[NH.T_],E,E,E,B_,(g1.trans g2).trans g3⟩
 generalize Value.slice ra J.length rc=rv at I0 aa ⊢;generalize O.heap.size=m at *;rw[AO];refine Aa (λvs W=>∃i:Nat,i<=J.length/\vs=[zIq i]/\X8 w W b m rv J i/\ud J i) (λvs _=>J.length-Da vs 0) ⟨0,Lc _,rfl,I0,λi hi=>by omega⟩ ?_;rintro vs W ⟨i,hi,rfl,I,a1⟩ _;rw[Bh,HK];refine Cn (λbx=>?_) λc4=>?_
 .have N:i < J.length:=E;have a6:J[i]?=some J[i]:=Hc N;obtain ⟨p,r,rfl,_,hr,hc,rfl⟩:=(h.S_ I.g C0 C_).get N;refine AV N (AX hr (by grind[Addr.add_add]) ?_);refine BA (vs:=J[i].cells) rfl rfl (Hg.one (w:=w) (x:=J[i]) rfl) λb6 W1 c7 c8 g6 ay _=>?_;have I1:=I.S_ g6;have an:∀ Z,AG W1 Z->¬ FL J->(λv' w'=>AG w w'/\((FL J/\∃ (kv:b_) (ks:X'),v'=.tuple #[kv,zIq 0]/\ks.Perm J/\ks.Pairwise (λx y=>x.id < y.id)/\CG (λb=>w.heap.size<=b) w' kv ks)\/
   (¬ FL J/\v'=.tuple #[.pointer none,zIq 3]))) (Value.tuple #[.pointer none,zIq 3]) Z:=λZ g hn=>⟨I1.g.trans g,.inr ⟨hn,rfl⟩⟩
  refine AT (λ_ W2=>AG W1 W2/\BW (J.take i) J[i].id=none/\E9 J[i]) ?_ ?_;rintro _ W2 ⟨X,Y,b0⟩ _;have I2:=I1.S_ X;apply Ac (λk y=>k=7/\y=m);have V:=gdr W2;have U:=I2.S_ V;have c6:∀j u,J[i].cells[j]?=some u->W2.drew.cell? ((⟨b6,0,none⟩:Addr).add j)=some u:=by grind[AF.cell]
  apply AJ;rw[AE];refine AP ⟨by rw[AH];exact U.c1,λj Q e=>by obtain⟨rfl,_⟩:=e;exact absurd Q C0⟩ ?_;rw[AE];refine AP ⟨c6 0 _ rfl,λj Q e=>by obtain⟨rfl,_⟩:=e;exact absurd Q C0⟩ ?_;refine DH (vs:=J[i].cells) rfl (λj u hu=>⟨c6 j u hu,λj Q e=>by obtain⟨rfl,_⟩:=e;exact absurd Q C0⟩) ?_;obtain⟨W4,bk,bl,m4⟩:=YW underlying90 underlying3 U.mp J[i].id (.agg J[i].cells.toArray) (by rw[Qu,Y];rfl);refine AY (v:=undef) (w':=W4) (by grind[Sem.run_bind,Result.andThen_ok,Sem.run_pure]) ⟨B_,?_⟩;rw[AQ,AL E];refine⟨⟨i+1,N,rfl,⟨m4.cell U.c0 (λe=>U.ne e.symm),m4.cell U.c1 (λe=>U.ne e.symm),AB.T_ U.row m4 B_ E',?_,U.hb,U.hm,U.ne,U.Ba,U.g.next m4 E⟩,λq hq k hk=>?_⟩,by grind[DW]⟩;grind[List.take_add_one];by_cases e:q=i;subst e;rw[a6] at hk;cases hk;refine⟨b0,λj Q k' b8 e=>?_⟩;unfold BW at Y;rw[List.find?_eq_none] at Y;exact Y k' (aAk (by rw[aAr,Ix Q];exact b8)) (by simpa using e);exact a1 q E k hk
  .refine AT (λvs W2=>AG W1 W2/\vs=[.bool (BW (J.take i) J[i].id).isSome]) ?_ ?_
   .rintro _ W2 ⟨X,rfl⟩ _;rw[Bh,HK];cases hf:BW (J.take i) J[i].id with
    |some k'=>
     refine Ab (an _ X λhM=>?_);have h1:=aDK hf;obtain⟨j,Q,e⟩:=List.getElem_of_mem (aCK hf);rw[S5] at Q;rw[aBg] at e;exact(hM.2 i N _ a6).2 j E k' B_ (by simpa using h1)
    |none=>
     refine AM (AX (vs:=J[i].cells) rfl (by grind[AF.cell]) ?_);apply AA ql;rintro _ W3 ⟨rfl,b9⟩;rw[Aj];refine BM (by grind[AF.trans]) λak=>an _ (X.trans b9) λhM=>ak (hM.2 i N _ a6).1
   .apply Ac (λk y=>k=11/\W1.heap.size<=y);have V:=gdr W1;have Id:=I1.S_ V;apply AJ;rw[AE];refine AP ⟨by rw[AH];exact Id.c1,λj Q e=>by obtain⟨rfl,_⟩:=e;exact absurd Q C0⟩ ?_;rw[AE];refine AP ⟨V.cell (ay 0 _ rfl) F_,λj Q e=>by obtain⟨rfl,_⟩:=e;exact absurd Q C0⟩ ?_;have look:∀Z,AG W1.drew Z->(Instr.lookup 90 (.map (some m)) (zIq J[i].id) true).run prog Z=.ok (.tuple #[.agg (((BW (J.take i) J[i].id)).getD DKey.zero).cells.toArray,.bool (BW (J.take i) J[i].id).isSome]) Z:=λZ g'=>by
     have:=Ql underlying90 underlying3 (Wu Z) (Id.mp.T_ g' F_) J[i].id;rw[this,Qu];cases BW (J.take i) J[i].id<;>rfl
    generalize (BW (J.take i) J[i].id).getD DKey.zero=kz at look;have one:=Hg.one (w:=w) (x:=kz) rfl;refine⟨?_,?_⟩
    .refine AY (look _ (AF.refl _ _)) ⟨AF.refl _ _,BD ?_⟩;refine Ce λb7 W5 ba bb g7 _ a7=>⟨B_,?_⟩;refine BI rfl one a7 λW6 m6 _ _=>⟨m6.mono λy _ e=>⟨rfl,by have:=V.size;omega⟩,?_,rfl⟩;exact(V.trans g7).next m6 λx hx e=>by have:=V.size;omega
    .refine Ce λb7 W5 ba bb g7 _ a7=>⟨B_,?_⟩;refine AY (look _ g7) ⟨AF.refl _ _,BD ?_⟩;refine BI rfl one a7 λW6 m6 _ _=>⟨m6.mono λy _ e=>⟨rfl,by have:=V.size;omega⟩,?_,rfl⟩;exact(V.trans g7).next m6 λx hx e=>by have:=V.size;omega
 have:i=J.length:=E;subst this;apply AJ;rw[AE];apply AI (by rw[AH];exact I.c0);refine AA (iK I.row E) ?_;rintro _ W2 ⟨ks,hp,hs,o2,m2⟩;have hM:FL J:=⟨E,a1⟩;obtain⟨_,_,hd⟩:=SD.1 hM;have al:=hd.Kb hp.symm;refine⟨I.g.next m2 λx hx e=>by have:=(AB.Am I.row x e).1;omega,.inl ⟨hM,_,ks,rfl,hp,eP al hs,b,m,rv,_,rfl,I.hb,I.hm,(by grind[AF.cell,X8.c0]),(by grind[AF.cell,X8.c1]),(AB.sl o2).sub (λ_ _ h=>h.1) C0 C_,I.mp.T_ m2 B_,λid=>?_⟩⟩;rw[WL,Qu,ZZ hp al];cases BW J id<;>rfl
def dL{id:Int}:(En ks id).length<=ks.length:=by
 grind[En]
def pN(l:X')(hl:l.length<=1000):Mh (λb=>b=w.heap.size) (w.alloc (.cells (l.map DKey.cells).flatten.toArray 44)) (.slice (f_ w.heap.size) l.length l.length) l:=by
 refine Al.Rz (t:=44) (l.map DKey.cells) (λr hr=>by obtain⟨x,_,rfl⟩:=WJ.1 hr;rfl) E_ (by simp[maxLen];omega) λi r x hr j=>?_;grind
open Classical in
def V1{D:d_}{id:Int}{x:As}(h:CG D w v ks)(Q:CH w)(h0:0<=x.f) : l_ 118 [v,zIq id,.agg x.cells.toArray] (λv' w'=>v'=.bool (decide (I8 ks id x))/\AG w w') w:=by
 refine J_ func118 ?_;have no:∀w',AG w w'->¬I8 ks id x->Value.bool false=.bool (decide (I8 ks id x))/\AG w w':=B_;refine CN λb w1 _ hz g hc _=>?_;apply AA (IW (h.S_ g) id);rintro _ w2 ⟨rfl,U⟩;apply BD;generalize hk:(BW ks id).getD DKey.zero=k;refine BA (vs:=k.cells) rfl rfl (Hg.one (w:=w) (x:=k) rfl) λb5 w3 V X Y J _=>?_;have I:=U.trans Y;have j:=g.trans I;cases O:BW ks id with
 |none=>
  rw[Option.isSome_none];exact no _ j (by rintro⟨k,e,_⟩;grind)
 |some Z=>
  rw[O] at hk;subst hk;rw[Option.isSome_some];apply Ab;rw[AE];apply AI (J 2 _ rfl);rw[AE];refine AI (I.cell (hc 0 _ rfl) F_) ?_;refine eqP (λhe=>?_) λhe=>no _ j (by rintro⟨k,e,_,h⟩;grind);refine AX (vs:=x.cells) rfl (by grind[AF.cell]) (AA (Um (Q.S_ j) h0) ?_);rintro _ w4 ⟨rfl,g4⟩;refine⟨?_,j.trans g4⟩;congr 1;rw[aBo];constructor;intro N;exact⟨Z,O,N,he.symm⟩;rintro⟨_,_,N,_⟩;exact N
def UC{B e k:Nat}{R:c_->U_->α->Prop}{a:Addr}{n c:Nat}{l:List α}{i j:Nat}{u:b_}{x':α}{K:c_->Prop}(h:AB B e k R W (.slice (some a) n c) l)(hi:i<l.length)(N:j<k) (hu:u.oneCell'=true)(I:u.cells=#[u])(O:∀J w2 r y,R J r y->R w2 r y)(Q:∀J w2 r,R J r l[i]->R w2 (r.set j u) x') (U:∀W',AB B e k R W' (.slice (some a) n c) (l.set i x')->AF (λb=>b=a.block) W W'->K W'):Cc (.pointer (some (a.add (i*k+j)))) u K W:=by
 obtain⟨⟨v,V⟩,X,Y,hm⟩:=AB.store (R':=R) (u:=u) (x':=x') (j:=j) h hi N hu (λr y _ hr=>O _ _ _ _ hr) (λr hr=>Q _ _ _ hr);exact O6 hu I V X (U _ Y hm)
section
def TZ:Kd V_ where
 μ:=λ_=>(1,0)
 cut:=λx _=>(x,[])
 meld:=λ_ _=>none
def bz(v:b_):Bb prog EP O2.vm [v] (λv w'=>v=.tuple #[zIq 1,zIq 0]/\AG w w') w:=by
 refine⟨_,[],[],rfl,D_,?_⟩;refine I_ func239 ?_;grind[S239,AF.refl]
def dn(a b:b_):Bb prog EP O2.vd [a,b] (λv w'=>AG w w'/\∃u,v=.tuple #[u,.bool false]) w:=by
 refine⟨_,[],[],rfl,D_,?_⟩;refine H_ func241 ?_;grind[S241,AF.refl]
abbrev Cu(C:d_)(w:c_)(r:U_)(x:V_):Prop:=∃sv,r=[sv]/\Bo C w sv x
def BN:Av1 V_ where
 toAvK:=O2
 k:=TZ
 R:=Cu
 pb:=72
 eb:=24
 pb_le:=by decide
 eb_le:=by decide
 Epos:=by decide
 E1:=λ_=>rfl
 rlen:=λ⟨_,e,_⟩=>by subst e;rfl
 rone:=λ⟨sv,e,h⟩ u hu=>by
  subst e;obtain⟨a,c,rfl,_⟩:=h.AK;simp at hu;subst hu;rfl
 rcell:=λ⟨sv,e,h⟩=>by
  subst e;obtain⟨a,c,rfl,_⟩:=h.AK;rfl
 rheap:=λ⟨sv,e,h⟩ j=>⟨sv,e,h.mono (λ_ _ h=>h) j (by decide) λ_ _ h=>h⟩
 rsub:=λ⟨sv,e,h⟩ j=>⟨sv,e,h.sub j (by decide) λ_ _ h=>h⟩
 zlen:=rfl
 zone:=λu hu=>by
  have hu:u∈[g_]:=hu;simp at hu;subst hu;rfl
 elP:=⟨Tryz.t429,.agg #[g_,zIq 0,zIq 0,zIq 0,zIq 0,zIq 0,.bool false],by kernel_rfl,by kernel_rfl,by kernel_rfl,by kernel_rfl,by kernel_rfl,by rfl,by decide⟩
 elE:=⟨Tryz.t47,g_,by kernel_rfl,by kernel_rfl,by kernel_rfl,by kernel_rfl,by kernel_rfl,by rfl,by decide⟩
 field0:=λr t w hr J ht=>by
  match r,hr with
  |[a],_=>
   have hu:=underlying367;have I:=Tryz.isAgg47;have e:(Instr.field 367 (.agg ([a]++t).toArray) 0).run prog w=.ok a w:=by
    simp[Instr.field,run_underlying hu,part,I,asAgg]
   exact e
 ok:=px
 cutμ:=by grind[TZ]
 meldμ:=λx y z h=>by cases h
 meas:=λ{C w r x} _=>bz _
 one1:=rfl
 ok1:=jW
 μ1:=λ_=>rfl
 meld0:=λ_ _=>rfl
 meldc:=λ{C w r s x y} _ _=>dn _ _
def gY(g:AvK)(v0:b_)(K:Cont)(w:c_):Prop:=Dm (λ_vs X=>∀_:Env,Aw v0 λj=>BX 0 j λI=>BR I (λN w2=>K N w2) X) (λJ=>Aw v0 λt4=>BX 0 t4 λt5=>BR t5 (λY V=>JI Y λZ=>Af (.bool Z) (DQ [(0,1),(1,1),(2,1)] [.nilFunc,.nilFunc,.nilFunc] [(0,g.vm),(1,g.vc),(2,g.vd)] λt9=>l_ g.fNew [t9] (λO w4=>Aw v0 λQ=>BX 0 Q λU=>Cc U O (λw5=>J [] w5) w4) V) (J [] V)) w)
def ve(g:AvK)(ft:Nat)(v0:b_)(K:Cont)(w:c_):Prop:=JI v0 λb4=>Af (.bool b4) (K (zIq 0) w) (l_ ft [v0] (λj I=>l_ g.fSize [j] (λJ w2=>K J w2) I) w)
def oh(fl:Nat)(v0 v1 v2:b_)(K:Cont)(w:c_):Prop:=JI v0 λO=>Af (.bool O) (K (zIq 1) w) (HZ .i64 v1 (zIq 0) λj=>Af j (K (zIq 5) w) (Xq .i64 v1 v2 λI=>Af I (K (zIq 5) w) (l_ fl [v0] (λJ N=>Xq .i64 v2 J λt22=>Af t22 (K (zIq 5) N) (K (zIq 0) N)) w)))
structure sw (g:AvK) where
 ft:Nat
 fl:Nat
 fb:Nat
 cP:∀{v0 K w},gY g v0 K w->l_ ft [v0] K w
 len:∀{v0 K w},ve g ft v0 K w->l_ fl [v0] K w
 bet:∀{v0 v1 v2 K w},oh fl v0 v1 v2 K w->l_ fb [v0,v1,v2] K w
 cvm:g.vm.cells=#[g.vm]
 cvc:g.vc.cells=#[g.vc]
 cvd:g.vd.cells=#[g.vd]
def Mz:sw NQ:=⟨137,194,135,λh=>oZ (.y (.cut [] [(3,12)] .nil .nil)) func137 h (by kernel_rfl),λh=>oZ .nil func194 h (by kernel_rfl),λh=>oZ .nil func135 h (by kernel_rfl),rfl,rfl,rfl⟩
def Gn:sw O2:=⟨142,162,139,λh=>oZ (.y (.cut [] [(3,12)] .nil .nil)) func142 h (by kernel_rfl),λh=>oZ .nil func162 h (by kernel_rfl),λh=>oZ .nil func139 h (by kernel_rfl),rfl,rfl,rfl⟩
def Fz:sw JT:=⟨132,81,131,λh=>oZ (.y (.cut [] [(3,12)] .nil .nil)) func132 h (by kernel_rfl),λh=>oZ .nil func81 h (by kernel_rfl),λh=>oZ .nil func131 h (by kernel_rfl),rfl,rfl,rfl⟩
variable {α:Type}{g:AvT α}
def jU(g:AvT α)(F C:d_)(W:c_)(b:Nat)(l:List α):Prop:=∃A T,Ea g F C W b T.root A/\Tr.AW g.k.μ A.f T/\Tr.Ic T/\T.toL=l/\A.lv=T.Cz/\g.k.SY l
def jU.T_{b:Nat}{l:List α}(h:jU g F C W b l)(hm:AF M W W')(j:∀x,F x\/C x->¬M x):jU g F C W' b l:=by
 obtain⟨A,T,h,r⟩:=h;exact⟨A,T,h.T_ hm j,r⟩
def gT(hC:∀x,C x->x<W.heap.size) : l_ g.fNew [.agg #[g.vm,g.vc,g.vd]] (λv' w'=>∃b F,v'=e_ b/\W.heap.size<=b/\(∀x,F x->W.heap.size<=x)/\jU g F C w' b []/\AG W w') W:=by
 apply g.ok.new;unfold sS;refine Bx.box (vs:=[g.vm,g.vc,g.vd]) λb1 J Q U V=>?_;have N:=gdr J;have z1:=U.size;have zd:=N.size;apply Ac (λ_ _=>False);refine DH (vs:=[g.vm,g.vc,g.vd]) rfl (λj v X=>⟨by rw[AH];exact(V.S_ N).cells j v X,C_⟩) ?_;refine AA (oF (g:=g) (C:=C) B_) ?_;rintro _ w2 ⟨rfl,Y,Z,hA⟩;refine⟨E,?_⟩;have I:Instr.fill (λi=>[(0,3),(3,1),(4,1)][i]?) [Value.nilFunc,.nilFunc,.nilFunc,.pointer none,zIq 0].toArray [(0,.agg [g.vm,g.vc,g.vd].toArray),(1,e_ J.drew.heap.size),(2,zIq (-1))]=some (sO g J.drew.heap.size (-1)).toArray:=by
  rw[EH (vs:=[g.vm,g.vc,g.vd]) (off:=0) (len:=3) rfl rfl rfl C0,EH (vs:=[e_ J.drew.heap.size]) (off:=3) (len:=1) rfl rfl rfl (by simp[My]),EH (vs:=[zIq (-1)]) (off:=4) (len:=1) rfl rfl rfl (by simp[My]),HX];rfl
 refine⟨_,I,?_⟩;refine Bx.box λO w3 a1 g3 B3=>⟨E,?_⟩;have z2:=Z.size;refine⟨O,λx=>x=J.drew.heap.size\/x=O,rfl,E,E,⟨ArS.z,.nil,⟨J.drew.heap.size,g_,g_,B3,?_,.inr rfl,B_⟩,trivial,aBq,rfl,rfl,λ_ h=>nomatch h⟩,(by grind[AF.trans])⟩;grind[FG.S_]
structure Ep (g:AvT α) (F C:d_) (W:c_) (b bt:Nat) (l:List α):Prop where
 box:Bx W b [e_ bt]
 FR:jU g (λx=>F x/\x≠b) C W bt l
 fb:F b/\¬C b
theorem Ep.T_{b bt:Nat}{l:List α}(h:Ep g F C W b bt l)(hm:AF M W W')(j:∀x,F x\/C x->¬M x):Ep g F C W' b bt l:=⟨h.box.T_ hm (j b (.inl h.fb.1)),h.FR.T_ hm B_,h.fb⟩
def Ep.S_{b bt:Nat}{l:List α}(h:Ep g F C W b bt l)(hm:AG W W'):Ep g F C W' b bt l:=by grind[Ep.T_]
def Ep.lt{b bt:Nat}{l:List α}(h:Ep g F C W b bt l):∀x,F x\/C x->x<W.heap.size:=by
 obtain⟨A,T,h1,_⟩:=h.FR;intro x j;by_cases e:x=b;subst e;exact h.box.lt (P9 _);exact h1.lt x B_
def Ep.NO{b bt:Nat}{l:List α}(h:Ep g F C W b bt l):∀x,F x->¬C x:=by
 obtain⟨A,T,h1,_⟩:=h.FR;intro x j;by_cases e:x=b;grind[Ep.fb];exact h1.NO x ⟨j,e⟩
theorem Ep.le{b bt:Nat}{l:List α}(h:Ep g F C W b bt l):l.length<=Tr.sz g.k.μ l:=by
 obtain⟨_,_,_,_,_,_,_,h⟩:=h.FR;exact h.len
def Fm{b bt:Nat}{l:List α}(o:sw g.toAvK)(h:Ep g F C W b bt l):l_ o.ft [e_ b] (λv' w'=>v'=e_ bt/\w'=W) W:=by
 apply o.cP;unfold gY;refine AT (λ_ j=>j=W) ?_ ?_;rintro _ _ rfl _;exact nfl_i (h.box.cells 0 _ rfl) ⟨rfl,rfl⟩;apply nfl_i (h.box.cells 0 _ rfl);exact Dq (AM rfl)
def uT{b:Nat}(o:sw g.toAvK)(J:Bx W b [.pointer none])(hb:¬C b)(hC:∀x,C x->x<W.heap.size) : l_ o.ft [e_ b] (λv' w'=>∃bt F,v'=e_ bt/\Ep g F C w' b bt []/\(∀x,F x->x=b\/W.heap.size<=x)/\AF (λx=>x=b) W w') W:=by
 apply o.cP;unfold gY;have Q:=J.lt (P9 _);refine AT (λ_ O=>∃bt F,Ep g F C O b bt []/\(∀x,F x->x=b\/W.heap.size<=x)/\AF (λx=>x=b) W O) ?_ ?_;rintro _ O ⟨bt,F,h,X,Y⟩ _;exact nfl_i (h.box.cells 0 _ rfl) ⟨bt,F,rfl,h,X,Y⟩;apply nfl_i (J.cells 0 _ rfl);refine⟨none,rfl,Ab ?_⟩;have j:Instr.fill (λi=>[(0,1),(1,1),(2,1)][i]?) [Value.nilFunc,.nilFunc,.nilFunc].toArray [(0,g.vm),(1,g.vc),(2,g.vd)]=some [g.vm,g.vc,g.vd].toArray:=by
  rw[EH (vs:=[g.vm]) (off:=0) (len:=1) rfl o.cvm rfl C0,EH (vs:=[g.vc]) (off:=1) (len:=1) rfl o.cvc rfl (by simp[My]),EH (vs:=[g.vd]) (off:=2) (len:=1) rfl o.cvd rfl (by simp[My]),HX];rfl
 refine⟨_,j,?_⟩;apply AA (gT (g:=g) hC);rintro _ w4 ⟨bt,F,rfl,Z,hF,hT,U⟩;apply AJ;rw[AE,AH];refine(J.S_ U).st (q:=0) (show 0<1 by decide) rfl rfl λw5 B5 V=>?_;have N:=hT.T_ V λx I e=>by
  rcases I with I|I;have:=hF x I;omega;exact hb (e▸I)
 refine⟨bt,λx=>F x\/x=b,⟨B5,?_,.inr rfl,hb⟩,λx I=>?_,(U.mono G_).trans V⟩;have e:(λx=>(F x\/x=b)/\x≠b)=F:=by
  grind
 rw[e];exact N;grind
theorem SF{b bt:Nat}{l:List α}(o:sw g.toAvK)(h:Ep g F C W b bt l):l_ o.fl [e_ b] (λv' w'=>v'=zIq (Tr.sz g.k.μ l)/\AG W w') W:=by
 apply o.len;unfold ve;refine Dq (AM ?_);apply AA (Fm o h);rintro _ _ ⟨rfl,rfl⟩;obtain⟨A,T,h1,j,I,J,_⟩:=h.FR;have:=Ww h1 j;grind
def gk{b:Nat}(o:sw g.toAvK)(I:Bx W b [.pointer none])(hb:¬C b)(hC:∀x,C x->x<W.heap.size) : l_ o.fl [e_ b] (λv' w'=>v'=zIq 0/\∃bt F,Ep g F C w' b bt []/\(∀x,F x->x=b\/W.heap.size<=x)/\AF (λx=>x=b) W w') W:=by
 apply o.len;unfold ve;refine Dq (AM ?_);apply AA (uT o I hb hC);rintro _ Q ⟨bt,F,rfl,h,J,N⟩;obtain⟨A,T,k1,k2,U,O,_⟩:=h.FR;have:=Ww k1 k2;rw[O] at this;apply AA this;rintro _ V ⟨rfl,j⟩;exact⟨rfl,bt,F,h.S_ j,J,N.trans (j.mono G_)⟩
def OI(i j n:Int):Int:=if i<0 then 5 else if j<i then 5 else if n<j then 5 else 0
def Mi{b bt:Nat}{l:List α}{i j:Int}(o:sw g.toAvK)(h:Ep g F C W b bt l):l_ o.fb [e_ b,zIq i,zIq j] (λv' w'=>v'=zIq (OI i j (Tr.sz g.k.μ l))/\AG W w') W:=by
 apply o.bet;grind[oh,OI,Dq,AM,DX,Ae,AF.refl,Hj,AA,SF]
def Mw{b bt i j:Nat}{l L:List α}(U:Y9 g)(h:Ep g F C W b bt l)(hN:Tr.sz g.k.μ l+L.length<=109951162000)(V:Al S g.E (g.R C) W v L)(hS:∀x,S x->¬F x)(I:i<=j)(X:j<=1099511627776) (b1:FU g l)(b2:FU g (g.k.CV l i j L))(b3:FU g ((g.k.split l i).1.getLast?.toList++L++(g.k.split (g.k.split l i).2 (j-i)).2.head?.toList)) : l_ g.fReplace [e_ bt,zIq (i:Int),zIq (j:Int),v] (λ_ w'=>∃F',(∀x,F x->F' x)/\(∀x,F' x->F x\/W.heap.size<=x)/\Ep g F' C w' b bt (g.k.CV l i j L)/\AF F W w') W:=by
 obtain⟨A,T,h1,Y,Z,rfl,h5,N⟩:=h.FR;have J:=N.len;rw[(Tr.Dk T).2] at J;have O:=h.box.lt (P9 _);refine AA (U h1 h5 E Y Z V B_ I X b1 b2 b3) ?_;rintro _ w' ⟨T',A',e1,⟨F',k1,k2,k3,Q⟩,e2,e3,e4⟩;refine⟨λx=>F' x\/x=b,λx hx=>?_,λx hx=>?_,⟨h.box.T_ Q λe=>e.2 rfl,⟨A',T',?_,e2,e3,e1,e4,Kd.SY.CV (by grind[AvT.cutμ]) (by grind[AvT.meldμ]) N⟩,.inr rfl,h.fb.2⟩,Q.mono λx _ e=>e.1⟩;by_cases e:x=b;exact .inr e;exact B_;grind[Ep.fb];have e:(λx=>(F' x\/x=b)/\x≠b)=F':=by
  grind
 grind
end
abbrev CM(l:a_):V':=l.flatMap Ck.l
def Jl:Ck.kd.Fi Ck.l where
 size:=I'
 cut1:=λ_ _ _ _=>⟨rfl,rfl⟩
 melds:=by grind[Ck.kd,Ck.jn]
theorem Gw(l:a_):Tr.sz Ck.kd.μ l=(CM l).length:=Jl.sz l
theorem VQ(l:a_):Tr.mk Ck.kd.μ l=CX (CM l):=by
 induction l with
 |nil=>rfl
 |cons c l j=>rw[Tr.FK,j];show CX c.l+CX (CM l)=CX (c.l++CM l);grind
def Xx(l r:Tr Ck)(i:Nat)(x:Ck):CM (Tr.node l i x r).toL=CM l.toL++(x.l++CM r.toL):=by
 simp[CM,Tr.toL]
theorem Em(l:V'):CX l<=l.length:=List.count_le_length
def MS(a b:V'):CX (a++b)=CX a+CX b:=List.count_append
def Qq(a b:V')(k:Nat):Iw (a++b) k=if k<CX a then Iw a k else(Iw b (k-CX a)).map (·+a.length):=by
 induction a generalizing k with
 |nil=>simp[CX]
 |cons r a I=>
  have j:∀o:Option Nat,(o.map (·+a.length)).map (·+1)=o.map (·+(r::a).length):=λo=>by cases o<;>simp;omega
  rw[aAN,Ji,Ji];by_cases h:r=10;grind;grind
def N1{l:V'}{k:Nat}(h:k<CX l):∃i,Iw l k=some i/\i<l.length:=by
 induction l generalizing k with
 |nil=>grind
 |cons r a j=>
  rw[Ji];by_cases e:r=10;rw[Ix e];cases k with
  |zero=>grind
  |succ k=>
   obtain⟨i,h1,I⟩:=j (k:=k) B_;grind
  rw[By e];obtain⟨i,h1,I⟩:=j (k:=k) B_;grind
def Zs(A:ArS Ck)(v:b_):Nat:=match v with
 |.int _ i=>if i<0 then 0 else match A.f i.toNat with
  |some n=>(n.h:Int).toNat
  |none=>0
 |_=>0
def HH{A:ArS Ck}{t:Tr Ck}(h:Tr.AW Ck.kd.μ A.f t):Zs A (zIq t.root)=t.ht:=by
 cases t with
 |nil=>rfl
 |node l i x r=>
  obtain⟨_,_,hi⟩:=h;have e:Zs A (.int .i64 ((i:Nat):Int))=match A.f i with
   |some n=>(n.h:Int).toNat
   |none=>0:=by
   grind[Zs]
  show Zs A (zIq ((i:Nat):Int))=_;grind[Tr.Ey]
def Ym{v0 v1 v2:b_}(h:gE JT v0 v1 v2 K w):l_ 244 [v0,v1,v2] K w:=oZ (.y (.x (.y (.node [1,6,7] [(1,1),(6,13),(18,76)] (.y (.y (.y (.x (.dm [7] [0,1,3,7,15,0,32,127,255,511,511,1023,4095]))))) .nil)))) func244 h (by kernel_rfl)
def bg{v0 v1 v2:b_}(h:sr JT v0 v1 v2 K w):l_ 250 [v0,v1,v2] K w:=oZ (.y (.x (.y (.node [1,6,8] [(1,1),(6,14),(19,81)] (.cut [] [(19,24)] .nil (.y (.y (.x (.dm [7] [0,1,3,7,15,0,32,127,255,511,511,1023,4095]))))) .nil)))) func250 h (by kernel_rfl)
def YC{v0:b_}(h:iL JT v0 K w):l_ 317 [v0] K w:=oZ .nil func317 h (by kernel_rfl)
def Xr{b p:Nat}{A:ArS Ck}{T:Tr Ck}(h:Ea BH.toAvT F C W b T.root A)(hh:Tr.AW BH.k.μ A.f T)(hp:p<=1099511627776)(hb:FU BH.toAvT T.toL) : l_ 244 [e_ b,zIq (p:Int),.func (.func 245) #[] #[]] (λv' w'=>v'=zIq (CX ((CM T.toL).take p):Int)/\AG W w') W:=by
 apply Ym;unfold gE;apply AJ;obtain⟨c,pl,fr,Z⟩:=id h;apply fl_i (Z.box.cells 4 _ rfl);have a1:(CM T.toL).length<=1099511627776:=by rw[<-Gw];exact hb.1
 have hN:CX ((CM T.toL).take p)<=1099511627776:=by grind[Em]
 generalize an:CX ((CM T.toL).take p)=N at hN;refine Aa (λvs W'=>∃(t:Tr Ck) (q m:Nat),vs=[zIq (q:Int),zIq (m:Int),zIq t.root]/\Tr.AW BH.k.μ A.f t/\(CM t.toL).length<=1099511627776/\q<=p/\m+CX ((CM t.toL).take q)=N/\AG W W')
  (λvs _=>Zs A (Bf vs 2)) ⟨T,p,0,rfl,hh,a1,DN _,E,AF.refl _ _⟩ ?_
 rintro vs W1 ⟨t,q,m,rfl,J,Q,hq,hm,Y⟩ _;simp only[Ha];rw[FQ];cases t with
 |nil=>
  refine BM (λ_=>?_) λe=>(e rfl).elim;grind[Tr.toL]
 |node l i x r=>
  obtain⟨hl,hr,hi⟩:=id J;rw[(Xx l r i x)] at hm Q;rw[Bp,Bp] at Q;have h1:=h.S_ Y;refine BM (by grind[Tr.root]) λ_=>?_;simp only[Tr.root];refine FD h1 hi λrc bx w3 g3 av B U=>?_;have I:=BH.rlen U;obtain rfl:rc=x.cells:=U;have h3:=h1.S_ g3;apply fl_i (B.cells (BH.E+0) _ (by rw[Ap I];rfl));apply AA (Ct h3 hl);rintro _ w5 ⟨rfl,g5⟩;apply Hz;have V:=gdr w5;have X:=(g3.trans g5).trans V;obtain⟨c,pl,fr,Z⟩:=id h1;have a6:=Z.T_ X C_;have B5:=(B.S_ g5).S_ V;apply Ac (λ_ _=>False);apply AJ;rw[AE,AH,AE,AH];refine AP ⟨a6.box.cells 0 _ rfl,C_⟩ ?_;rw[AE,AH];refine NK (g:=BH.toAvT) (r:=x.cells) I (λj v hv=>⟨B5.cells j v B_,C_⟩) ?_;apply BL (BH.meas (C:=C) (x:=x) rfl);rintro _ w6 ⟨rfl,g6⟩;refine⟨E,?_⟩;apply BD;have O:=X.trans g6;have B6:=B5.S_ g6;have es:Tr.sz BH.k.μ l.toL=(CM l.toL).length:=Gw _;have em:Tr.mk BH.k.μ l.toL=CX (CM l.toL):=VQ _;have a7:(BH.k.μ x).1=x.l.length:=rfl;have a8:(BH.k.μ x).2=CX x.l:=rfl;rw[es,em,a7,a8,Py];have ax:=Em x.l;have ay:=Em (CM l.toL);refine Ae (λb0=>?_) λal=>?_;rw[aA8 E] at hm;apply fl_i (B6.cells (BH.E+0) _ (by rw[Ap I];rfl));refine⟨⟨l,q,m,rfl,hl,E,hq,hm,Y.trans O⟩,?_⟩;have e1:Zs A (zIq (i:Int))=(Tr.node l i x r).ht:=HH J;have e2:Zs A (zIq (Tr.Ey BH.k.μ (.node l i x r) x l.root r.root).l)=l.ht:=HH hl;grind[Tr.ht];have aa:(CM l.toL).length<q:=E;rw[aCG,aAZ (by omega:(CM l.toL).length<=q),MS] at hm;refine DI E ?_;refine Cn (λb6=>?_) λb7=>?_;rw[aA8 E] at hm;refine DI E ?_;rw[AE,AH];apply AX (vs:=x.cells) I (λj u hu=>by grind[AH,Bx.cells]);refine JV E E ?_;refine Ee D_ ?_;apply AA (Wm x _);rintro _ b8 ⟨rfl,ak⟩;refine DI E ⟨?_,(Y.trans O).trans ak⟩;grind;rw[aCG,aAZ (by omega:x.l.length<=q-(CM l.toL).length),MS] at hm;refine DI E (DI E (DI E (JV E E ?_)));apply fl_i (B6.cells (BH.E+1) _ (by rw[Ap I];rfl));refine⟨⟨r,q-((CM l.toL).length+x.l.length),m+(CX (CM l.toL)+CX x.l),rfl,hr,E,E,?_,Y.trans O⟩,?_⟩;grind;have e1:Zs A (zIq (i:Int))=(Tr.node l i x r).ht:=HH J;have e2:Zs A (zIq (Tr.Ey BH.k.μ (.node l i x r) x l.root r.root).r)=r.ht:=HH hr;grind[Tr.ht]
def we(c:Ck){k i:Nat}(hk:k<=1099511627776)(h:Iw c.l k=some i):l_ 251 [.agg c.cells.toArray,zIq (k:Int)] (λv w'=>v=zIq (i:Int)/\AG w w') w:=by
 refine H_ func251 ?_;refine Bx.box λb J hb j B=>?_;apply B.GJ c.len;apply AA (VS c hk);rintro _ N ⟨rfl,I⟩;rw[h,nlV];exact Bt (vs:=[_,_]) (by rfl) (Bt (vs:=[_,_]) (by rfl) ⟨rfl,j.trans I⟩)
def rG{b k p:Nat}{A:ArS Ck}{T:Tr Ck}(h:Ea BH.toAvT F C W b T.root A)(hh:Tr.AW BH.k.μ A.f T)(hk:k<=1099511627776)(hb:FU BH.toAvT T.toL)(hp:Iw (CM T.toL) k=some p) : l_ 250 [e_ b,zIq (k:Int),.func (.func 251) #[] #[]] (λv' w'=>v'=.tuple #[zIq (p:Int),.bool true]/\AG W w') W:=by
 apply bg;unfold sr;apply AJ;obtain⟨c,pl,fr,Z⟩:=id h;apply fl_i (Z.box.cells 4 _ rfl);have ax:(CM T.toL).length<=1099511627776:=by rw[<-Gw];exact hb.1
 refine Aa (λvs W'=>∃(t:Tr Ck) (q m z:Nat),vs=[zIq (q:Int),zIq (m:Int),zIq t.root]/\Tr.AW BH.k.μ A.f t/\m+(CM t.toL).length<=1099511627776/\q<=k/\Iw (CM t.toL) q=some z/\m+z=p/\AG W W')
  (λvs _=>Zs A (Bf vs 2)) ⟨T,k,0,p,rfl,hh,E,DN _,hp,aBy _,AF.refl _ _⟩ ?_
 rintro vs W1 ⟨t,q,m,z,rfl,N,Q,hq,I,a1,Y⟩ _;simp only[Ha];refine AT (λ_ W'=>W'=W1) ?_ ?_;rotate_left;refine geP (λ_=>?_) E;refine neP (λe=>?_) I';cases t with
 |nil=>cases I
 |node l i x r=>grind[Tr.root]
 rintro _ _ rfl _;cases t with
 |nil=>cases I
 |node l i x r=>
  obtain⟨hl,hr,hi⟩:=id N;rw[(Xx l r i x)] at I Q;rw[Bp,Bp] at Q;have h1:=h.S_ Y;simp only[Tr.root];refine FD h1 hi λrc bx w3 g3 ay B U=>?_;have J:=BH.rlen U;obtain rfl:rc=x.cells:=U;have h3:=h1.S_ g3;apply fl_i (B.cells (BH.E+0) _ (by rw[Ap J];rfl));apply AA (Ct h3 hl);rintro _ w5 ⟨rfl,g5⟩;apply Hz;have V:=gdr w5;have X:=(g3.trans g5).trans V;obtain⟨c,pl,fr,Z⟩:=id h1;have a6:=Z.T_ X C_;have B5:=(B.S_ g5).S_ V;apply Ac (λ_ _=>False);apply AJ;rw[AE,AH,AE,AH];refine AP ⟨a6.box.cells 0 _ rfl,C_⟩ ?_;rw[AE,AH];refine NK (g:=BH.toAvT) (r:=x.cells) J (λj v hv=>⟨B5.cells j v B_,C_⟩) ?_;apply BL (BH.meas (C:=C) (x:=x) rfl);rintro _ w6 ⟨rfl,g6⟩;refine⟨E,?_⟩;apply BD;have O:=X.trans g6;have B6:=B5.S_ g6;have es:Tr.sz BH.k.μ l.toL=(CM l.toL).length:=Gw _;have em:Tr.mk BH.k.μ l.toL=CX (CM l.toL):=VQ _;have a7:(BH.k.μ x).1=x.l.length:=rfl;have a8:(BH.k.μ x).2=CX x.l:=rfl;rw[es,em,a7,a8,DX];have b0:=Em x.l;have b6:=Em (CM l.toL);rw[Qq] at I;refine Ae (λb7=>?_) λan=>?_;rw[Ix E] at I;apply fl_i (B6.cells (BH.E+0) _ (by rw[Ap J];rfl));refine⟨⟨l,q,m,z,rfl,hl,E,hq,I,a1,Y.trans O⟩,?_⟩;have e1:Zs A (zIq (i:Int))=(Tr.node l i x r).ht:=HH N;have e2:Zs A (zIq (Tr.Ey BH.k.μ (.node l i x r) x l.root r.root).l)=l.ht:=HH hl;grind[Tr.ht];rw[By E,Qq] at I;refine DI E ?_;refine Cn (λb8=>?_) λb9=>?_;rw[Ix E] at I;obtain⟨i',aa,rfl⟩:=aBX.1 I;have av:i'<x.l.length:=by
   obtain⟨i2,k1,k2⟩:=N1 (l:=x.l) (k:=q-CX (CM l.toL)) E;grind
  refine DI E ?_;rw[AE,AH];apply AX (vs:=x.cells) J (λj u hu=>by grind[AH,Bx.cells]);refine JV E E ?_;refine Ee D_ ?_;refine AA (we x E aa) ?_;rintro _ ba ⟨rfl,ak⟩;refine DI E ⟨?_,(Y.trans O).trans ak⟩;grind;rw[By E] at I;obtain⟨z1,al,rfl⟩:=aBX.1 I;obtain⟨z2,bb,rfl⟩:=aBX.1 al;refine DI E (DI E (DI E (JV E E ?_)));apply fl_i (B6.cells (BH.E+1) _ (by rw[Ap J];rfl));refine⟨⟨r,q-(CX (CM l.toL)+CX x.l),m+((CM l.toL).length+x.l.length),z2,rfl,hr,E,E,?_,E,Y.trans O⟩,?_⟩;grind;have e1:Zs A (zIq (i:Int))=(Tr.node l i x r).ht:=HH N;have e2:Zs A (zIq (Tr.Ey BH.k.μ (.node l i x r) x l.root r.root).r)=r.ht:=HH hr;grind[Tr.ht]
def QG.S_{st:Prop}{I N:Nat}{j:Nat->U_}{Rd:d_}(h:QG st P I cs j N Rd w)(g:AG w w'):QG st P I cs j N Rd w':=by
 refine λl J O Q U h0 hJ VZ QI hr=>h l J O Q (g.trans U) h0 hJ VZ (λk X W hk b hb V=>?_) hr;grind[AF.Ak]
structure Iz {α:Type} (e k:Nat) (R:c_->U_->α->Prop) (B c m:Nat) (It:d_) (W:c_) (out:b_) (l:List α):Prop where
 box:Bx W c [out]
 row:AB B e k R W out l
 hc:∀g,out.ownBlock=some g->g≠c/\g≠m/\g≠m+1/\¬It g
def Uu{cap vals:U_}{Rd:d_}{X:Y'}(hs:QG True prog bt cap (λk=>[vals.getD k undef]) vals.length Rd W)(a8:EP bt=true)(hv:vals.length=X.length)(hx:∀m (h1:m<vals.length) (h2:m<X.length),vals[m]=.agg X[m].cells.toArray)(QI:∀x,Rd x->x<W.heap.size)(hl:X.length<=109951162777) : l_ 136 [.func (.func bt) #[] cap.toArray] (λv' w'=>AB W.heap.size 138 2 (λ_ r x=>r=Spn.cells x) w' v' X/\AG W w') W:=by
 refine I_ func136 ?_;refine P' func229 ?_;refine DV rfl λc J hc g1 B=>?_;have b6:=B.lt (P9 _);have z1:=g1.size;refine Nf ⟨True,bt,cap,_,_,_,rfl,a8,hs.S_ g1,λk _=>rfl,?_⟩;refine⟨λk V Q=>∃out,Iz 138 2 (λ_ r x=>r=Spn.cells x) J.heap.size c J.heap.size V Q out (X.take k)/\AF (λx=>x=c) J Q/\k<=X.length,λ_ _ _=>False,⟨_,⟨B,AB.nil,λg N=>nomatch N⟩,AF.refl _ _,Lc _⟩,?_,λx V aa W Q h=>h.elim,?_,?_,?_,B_⟩;rintro k V aa Q b8 ⟨out,q,m,hk⟩ hm j;have Y:=q.box.lt (P9 _);have hn:∀x,x<J.heap.size->¬((¬True/\V x)\/x=J.heap.size\/x=J.heap.size+1):=B_;refine⟨out,⟨q.box.T_ hm (hn c E),AB.T_ q.row hm (λg N=>?_) E',λg N=>?_⟩,m.next hm λx hx=>?_,hk⟩;grind[Iz.hc];obtain⟨h1,h2,h3,h4⟩:=q.hc g N;refine⟨h1,h2,h3,λh=>?_⟩;rcases(j g h).1 with h|h;grind;have:=(AB.Am q.row g N).2;omega;grind;grind[AF.Ak]
 .rintro k V Q hk ⟨out,q,m,b9⟩ hz j;have b7:k<X.length:=E;have U:(Bf [vals.getD k undef] 0)=.agg X[k].cells.toArray:=by
   show vals.getD k undef=_;grind
  rw[U];refine Bx.new (vs:=X[k].cells) rfl rfl (Spn.one _) λb5 W5 ba Z B5=>?_;refine La Z hz j G_ λW6 I=>?_;have z5:=Z.size;have z6:=I.size;have Y:=q.box.lt (P9 _);have ak:=B5.lt (P9 _);have B6:=(q.box.S_ Z).T_ I E;have al:=B5.T_ I E;have o6:AB J.heap.size 138 2 (λ_ r x=>r=Spn.cells x) W6 out (X.take k):=AB.T_ (AB.T_ (R':=λ_ r x=>r=Spn.cells x) q.row Z C_ E') I (by grind[Iz.hc]) E';apply AI (B6.cells 0 _ rfl);apply al.GJ rfl;have bb:(X.take k).length<=X.length:=B_;refine Dv Eg.elE o6 E (cs:=X[k].cells) (x:=X[k]) (CY (v:=.agg X[k].cells.toArray) rfl C0 rfl rfl) rfl rfl (by grind[Spn.one]) B_ (by show _*16<=_;omega) M' λa1 W9 o9 m9 n9=>?_;have z9:=m9.size;have bk:=AB.Am o6;obtain⟨an,av⟩:=o9.one;refine(B6.T_ m9 λe=>(q.hc c e).1 rfl).st (q:=0) (show 0<1 by decide) an av λax ay a6=>?_;have bl:=a6.size;have O:AF (λx=>x=c\/out.ownBlock=some x) W6 ax:=(m9.mono λ_ _ e=>.inr e).trans (by grind[AF.mono]);refine⟨Pa O E (λb hb=>by have:=(j b hb).1;omega) (λb _ e=>?_),a1,⟨ay,?_,λg N=>?_⟩,?_,E⟩;rcases e with rfl|e;exact⟨λh=>by have:=(j b h).2;omega,E,E⟩;grind[Iz.hc];have b0:X.take (k+1)=X.take k++[X[k]]:=by grind[List.take_add_one]
  rw[b0];exact AB.T_ o9 a6 B_ E';rcases n9 g N with h|h;grind[Iz.hc];refine⟨E,E,E,λhI=>by have:=(j g hI).1;omega⟩;refine((m.next Z G_).next I E).next O λx hx e=>?_
  rcases e with e|e;exact e;have:=(AB.Am q.row x e).1;omega
 rintro V Q ⟨out,q,m,hk⟩ _ _ hd;refine AI (q.box.cells 0 _ rfl) ⟨hd,?_⟩;have a7:AF (λb=>b=J.heap.size) Q (Q.putObj J.heap.size (.deferred none)):=AF.putObj _ _ _ rfl;rw[hv,WL] at q;refine⟨AB.BY (AB.T_ q.row a7 (by grind[Iz.hc]) E') λg N=>?_,?_⟩;have:=(AB.Am q.row g N).1;omega;exact(g1.next m E).next a7 E
abbrev JB:d_:=λ_=>False
abbrev Gh:c_->U_->Spn->Prop:=λ_ r x=>r=Spn.cells x
abbrev HY(l:Y'):Nat:=Tr.sz Spn.kd.μ l
def mkS(l:Y'):Tr.mk Spn.kd.μ l=0:=by
 induction l with
 |nil=>rfl
 |cons x l j=>rw[Tr.FK,j];rfl
def sJ{l:Y'}(h:HY l<=1099511627776):FU Eg.toAvT l:=⟨h,by show Tr.mk Spn.kd.μ l<=_;rw[mkS];omega⟩
def GF(l:Y'):HY l=(l.flatMap Spn.u).length:=Spn.FV.sz l
def gF(l:Y')(i j:Nat):(Spn.kd.Ax l i j).length<=l.length:=by
 induction l generalizing i j<;>grind[Kd.Ax]
def QW{b bt i j:Nat}{l:Y'}(h:Ep Eg.toAvT F JB W b bt l)(Y:i<=j)(hj:j<=HY l)(hs:HY l<=536870912) : l_ 76 [e_ b,zIq (i:Int),zIq (j:Int)] (λv' w'=>∃rv,v'=.tuple #[rv,zIq 0]/\AB W.heap.size 138 2 Gh w' rv (Spn.kd.Ax l i j)/\AG W w') W:=by
 refine J_ func76 ?_;apply AA (Mi Mz h);rintro _ w1 ⟨rfl,J⟩;have hb:OI (i:Int) (j:Int) ((Tr.sz Eg.k.μ l:Nat):Int)=0:=by
  grind[Eg,OI]
 rw[hb];refine neP (λ_=>?_) λe=>(e rfl).elim;apply AA (Fm Mz (h.S_ J));rintro _ _ ⟨rfl,rfl⟩;have Z:l.length<=HY l:=h.le;obtain⟨A,T,h1,h2,h3,rfl,h5⟩:=(h.S_ J).FR;refine AA (Zu (g:=Eg) h1 h2 h3 (sJ E) E E) ?_;rintro _ w3 ⟨cap,V,Rd,rfl,Q,N,O,QI,I⟩;have ho:=gF T.toL i j;refine AA (Uu (X:=Spn.kd.Ax T.toL i j) I D_ N (λm q1 q2=>?_) B_ E) ?_;obtain⟨r,e1,e2⟩:=O m q1 q2;rw[e1,bM];have e3:r=Spn.cells (Spn.kd.Ax T.toL i j)[m]:=e2;rw[e3];rintro rv w4 ⟨U,g4⟩;have s1:=J.size;have s3:=Q.size;exact⟨rv,rfl,AB.BY U λg hg=>by have:=(AB.Am U g hg).1;omega,(J.trans Q).trans g4⟩
def sB{L:Y'}(N:Al S 2 Gh W v L)(I:∀s∈L,0<=s.id)(hl:L.length<=109951162777) : l_ 292 [v,.func (.func 293) #[] #[]] (λv' w'=>v'=.bool false/\AG W w') W:=by
 refine H_ func292 ?_;have key:l_ 349 [v,.func (.func 293) #[] #[]] (λv' w'=>v'=zIq (-1)/\AG W w') W:=by
  refine H_ func349 ?_ (.y (.x (.y (.node [8] [(4,5),(8,18)] .nil .nil))));obtain⟨a,c,rfl,hm⟩:=N.AK;have J:=N.JW C0;rw[AO];apply Aa (λvs Q=>∃i:Nat,i<=L.length/\vs=[zIq i]/\AG W Q) (λvs _=>L.length-Da vs 0) (by grind[AF.refl]);rintro vs U ⟨i,hi,rfl,V⟩ _;simp only[Bh,HK];refine Cn (λO=>?_) B_;have j:i<L.length:=E;obtain⟨p,r,rfl,_,hr,hc,rfl⟩:=J.get j;refine AV j (AX (vs:=L[i].cells) rfl (by grind[Addr.add_add,AF.cell]) ?_);refine Ee D_ ?_;refine I_ func293 ?_;refine Bx.box λb Y hb X B=>?_;apply fl_i (B.cells 0 _ rfl);refine Cn E λ_=>?_;apply fl_i (B.cells 1 _ rfl);rw[DX];have:=I L[i] (S7 j);refine Ae E λ_=>?_;rw[AQ,AL E];grind[AF.trans,DW]
 grind[AA,JP]
theorem aT{l L:Y'}{i j:Nat}(h:HY l+HY L<=1099511627776)(I:i<=j)(U:j<=HY l):HY (Spn.kd.CV l i j L)+(j-i)=HY l+HY L/\HY ((Spn.kd.split l i).1.getLast?.toList++L++(Spn.kd.split (Spn.kd.split l i).2 (j-i)).2.head?.toList)<=HY l+HY L:=by
 have J:=r9 List.length (Spn.FV.CV l L I);rw[<-GF,Bp,Bp,S5,I3,<-GF,<-GF] at J;refine⟨E,?_⟩;have N:=G8 (g:=Eg.toAvT) (Spn.kd.split l i).2 (j-i);have O:∀m:Y',HY m.getLast?.toList<=HY m:=λm=>by
  rcases l9 m with rfl|⟨o,y,rfl⟩<;>grind[Tr.sz]
 have Q:∀m:Y',HY m.head?.toList<=HY m:=λm=>by
  cases m<;>grind[Tr.sz]
 have h1:=O (Spn.kd.split l i).1;have V:=Q (Spn.kd.split (Spn.kd.split l i).2 (j-i)).2;unfold HY at *;rw[Tr.Dh,Tr.Dh];have X:Tr.sz Spn.kd.μ (Spn.kd.split l i).1+Tr.sz Spn.kd.μ (Spn.kd.split l i).2=Tr.sz Spn.kd.μ l:=(G8 (g:=Eg.toAvT) l i).1;have Y:Tr.sz Spn.kd.μ (Spn.kd.split (Spn.kd.split l i).2 (j-i)).1+Tr.sz Spn.kd.μ (Spn.kd.split (Spn.kd.split l i).2 (j-i)).2=Tr.sz Spn.kd.μ (Spn.kd.split l i).2:=N.1;omega
def bU{b bt i j:Nat}{l L:Y'}(h:Ep Eg.toAvT F JB W b bt l)(hN:L.length<=1000000000)(J:i<=j)(hj:j<=HY l)(a1:HY l<=536870912)(hs:HY l+HY L<=536870912+(j-i))(O:Al S 2 Gh W v L)(hS:∀x,S x->¬F x)(Q:∀s∈L,0<=s.id) : l_ 195 [e_ b,zIq (i:Int),zIq (j:Int),v] (λv' w'=>v'=zIq 0/\∃F',(∀x,F x->F' x)/\(∀x,F' x->F x\/W.heap.size<=x)/\Ep Eg.toAvT F' JB w' b bt (Spn.kd.CV l i j L)/\AF F W w') W:=by
 refine N_ func195 ?_ (.y (.y (.y (.y (.y (.x (.y (.node [10,33] [(8,8),(10,10),(12,12),(33,45)] .nil .nil))))))));refine Dq (AM ?_);refine AA (sB O Q E) ?_;rintro _ w1 ⟨rfl,V⟩;apply AM;have h1:=h.S_ V;apply AA (Mi Mz h1);rintro _ w2 ⟨rfl,X⟩;have hb:OI (i:Int) (j:Int) ((Tr.sz Eg.k.μ l:Nat):Int)=0:=by
  grind[Eg,OI]
 rw[hb];refine neP (λ_=>?_) λe=>(e rfl).elim;apply AA (SF Mz (h1.S_ X));rintro _ w3 ⟨rfl,g3⟩;have KM:Tr.sz Eg.k.μ l=HY l:=rfl;rw[KM,A6,wrap64 E E,AQ,wrap64 E E,A6,wrap64 E E];obtain⟨a,c,rfl,hm⟩:=O.AK;have U:=O.JW C0;rw[AO];refine Aa (λvs W'=>∃k:Nat,k<=L.length/\vs=[zIq ((536870912:Int)-HY l+j-i-HY (L.take k)),zIq k]/\AG W W') (λvs _=>L.length-Da vs 1) ⟨0,Lc _,by simp[HY,Tr.sz],(V.trans X).trans g3⟩ ?_;rintro vs W1 ⟨k,hk,rfl,N⟩ _;simp only[Ha];refine Cn (λa6=>?_) λa7=>?_;have I:k<L.length:=E;have a8:L.take (k+1)=L.take k++[L[k]]:=by grind[List.take_add_one]
 have aa:HY L=HY (L.take (k+1))+HY (L.drop (k+1)):=by grind[Tr.Dh,List.take_append_drop]
 have Y:HY (L.take (k+1))=HY (L.take k)+L[k].n:=by grind[Tr.sz,Spn.kd]
 obtain⟨p,r,rfl,_,hr,hc,rfl⟩:=U.get I;refine AV I (AX (vs:=L[k].cells) rfl (by grind[Addr.add_add,AF.cell]) ?_);refine Bx.new (vs:=L[k].cells) rfl rfl (Spn.one _) λak w7 hb g7 B=>?_;apply fl_i (B.cells 0 _ rfl);refine gtP E λ_=>?_;apply fl_i (B.cells 0 _ rfl);rw[A6,wrap64 E E,AQ,AL E];refine⟨⟨k+1,I,?_,N.trans g7⟩,by grind[BV]⟩;grind;have Z:=h.S_ N;apply AA (Fm Mz Z);rintro _ _ ⟨rfl,rfl⟩;obtain⟨q1,q2⟩:=aT (l:=l) (L:=L) (i:=i) (j:=j) E J hj;refine AA (Mw (mn (g:=Eg)) Z E (O.T_ N E' C0 C_) hS J E (sJ E) (sJ (l:=Spn.kd.CV l i j L) E) (sJ (l:=(Spn.kd.split l i).1.getLast?.toList++L++(Spn.kd.split (Spn.kd.split l i).2 (j-i)).2.head?.toList) E)) ?_;rintro _ al ⟨F',k1,k2,k3,k4⟩;have:=N.size;exact⟨trivial,F',k1,B_,k3,(N.mono G_).trans k4⟩
theorem Sr{l:a_}(h:(CM l).length<=1099511627776):FU BH.toAvT l:=⟨by show Tr.sz Ck.kd.μ l<=_;grind[Gw],by show Tr.mk Ck.kd.μ l<=_;grind[VQ]⟩
def NR{i j:Nat}{n:Nat}(I:i<=j)(J:j<=n):OI (i:Int) (j:Int) (n:Int)=0:=by
 grind[OI]
section
variable {F:d_}{W:c_}{b bt:Nat}{l:a_}
def lY(h:Ep BH.toAvT F JB W b bt l):l_ 81 [e_ b] (λv' w'=>v'=zIq ((CM l).length:Int)/\AG W w') W:=by
 apply AA (SF Fz h);grind[BH,Gw]
def WY(h:Ep BH.toAvT F JB W b bt l):l_ 249 [e_ b] (λv' w'=>v'=zIq (CX (CM l):Int)/\AG W w') W:=by
 refine I_ func249 ?_;refine Dq (AM ?_);apply AA (Fm Fz h);rintro _ _ ⟨rfl,rfl⟩;obtain⟨A,T,h1,j,N,rfl,O⟩:=h.FR;apply YC;unfold iL;apply AJ;obtain⟨c,pl,fr,I⟩:=id h1;apply fl_i (I.box.cells 4 _ rfl);apply AA (Ct h1 j);rintro _ Q ⟨rfl,J⟩;refine Bt (vs:=[_,_,_]) (by rfl) (Bt (vs:=[_,_,_]) (by rfl) (Bt (vs:=[_,_,_]) (by rfl) ⟨?_,J⟩));grind[BH,VQ]
def Oa{i:Nat}(h:Ep BH.toAvT F JB W b bt l)(hi:i<=(CM l).length)(I:(CM l).length<=1099511627776) : l_ 144 [e_ b,zIq (i:Int)] (λv' w'=>v'=.tuple #[zIq (CX ((CM l).take i):Int),zIq 0]/\AG W w') W:=by
 refine H_ func144 ?_;apply AA (Mi Fz h);rintro _ N ⟨rfl,j⟩;rw[show Tr.sz BH.toAvT.k.μ l=(CM l).length from Gw l,NR (DN _) hi,FQ];refine BM (λ_=>?_) λe=>(e rfl).elim;apply AA (Fm Fz (h.S_ j));rintro _ _ ⟨rfl,rfl⟩;obtain⟨A,T,h1,J,O,rfl,Q⟩:=(h.S_ j).FR;refine AA (Xr h1 J E (Sr I)) ?_;rintro _ V ⟨rfl,U⟩;grind[AF.trans]
def QF(rs:V')(k:Nat):b_:=if CX rs<k then .tuple #[.int .i64 0,.int .i64 5] else if k=0 then .tuple #[.int .i64 0,.int .i64 0] else match Iw rs (k-1) with
 |some p=>.tuple #[.int .i64 ((p+1:Nat):Int),.int .i64 0]
 |none=>undef
def Pq{k:Nat}(h:Ep BH.toAvT F JB W b bt l)(I:(CM l).length<=1099511627776) : l_ 157 [e_ b,zIq (k:Int)] (λv' w'=>v'=QF (CM l) k/\AG W w') W:=by
 refine H_ func157 ?_ (.y (.cut [] [(4,5),(8,22)] .nil .nil));have X:=Em (CM l);refine AT (λ_ V=>AG W V/\0<k/\k<=CX (CM l)) ?_ ?_;rintro _ Y ⟨j,J,hk⟩ _;apply AA (Fm Fz (h.S_ j));rintro _ _ ⟨rfl,rfl⟩;obtain⟨k,rfl⟩:∃N,k=N+1:=⟨k-1,E⟩;obtain⟨p,hp,O⟩:=N1 (l:=CM l) (k:=k) E;obtain⟨A,T,h1,Q,Z,rfl,h5⟩:=(h.S_ j).FR;rw[A6,wrap64 E E,show(((k+1:Nat):Int)-1)=(k:Int) by omega];refine AA (rG h1 Q E (Sr I) hp) ?_;rintro _ w2 ⟨rfl,U⟩;apply BD;rw[AQ,wrap64 E E];refine⟨?_,j.trans U⟩;grind[QF];refine Dq (AM ?_);refine Cn E λ_=>?_;apply AA (WY h);rintro _ w1 ⟨rfl,j⟩;refine gtP (by grind[QF]) λe=>?_;refine eqP (by grind[QF]) λe0=>?_;exact B_
theorem lj(l:a_)(i j:Nat):CM (Ck.kd.Ax l i j)=((CM l).take j).drop i:=Jl.Ax l i j
def Vq(t l:a_){i j:Nat}(I:i<=j):CM (Ck.kd.CV t i j l)=(CM t).take i++CM l++(CM t).drop j:=Jl.CV t l I
def TO(l L:a_)(i j:Nat):(CM ((Ck.kd.split l i).1.getLast?.toList++L++(Ck.kd.split (Ck.kd.split l i).2 (j-i)).2.head?.toList)).length<=(CM l).length+(CM L).length:=by
 have I:=r9 List.length (Jl.split l i).1;have J:=r9 List.length (Jl.split l i).2;have Q:=r9 List.length (Jl.split (Ck.kd.split l i).2 (j-i)).2;have N:∀m:a_,(CM m.getLast?.toList).length<=(CM m).length:=λm=>by
  rcases l9 m with rfl|⟨o,y,rfl⟩<;>grind
 have O:∀m:a_,(CM m.head?.toList).length<=(CM m).length:=λm=>by
  cases m<;>grind
 have h1:=N (Ck.kd.split l i).1;have U:=O (Ck.kd.split (Ck.kd.split l i).2 (j-i)).2;have e:∀a b c:a_,(CM (a++b++c)).length=(CM a).length+(CM b).length+(CM c).length:=B_;rw[e];rw[S5] at I;rw[I3] at J Q;grind
def cC{i j:Nat}(h:Ep BH.toAvT F JB W b bt l)(I:i<=j)(Q:j<=(CM l).length)(Z:(CM l).length<=536870912) : l_ 160 [e_ b,zIq (i:Int),zIq (j:Int)] (λv' w'=>v'=zIq 0/\∃F' N,(∀x,F x->F' x)/\(∀x,F' x->F x\/W.heap.size<=x)/\Ep BH.toAvT F' JB w' b bt N/\CM N=(CM l).take i++(CM l).drop j/\AF F W w') W:=by
 refine J_ func160 ?_;apply AA (Mi Fz h);rintro _ w1 ⟨rfl,J⟩;rw[show Tr.sz BH.toAvT.k.μ l=(CM l).length from Gw l,NR I Q,FQ];refine BM (λ_=>?_) λe=>(e rfl).elim;have O:=h.S_ J;apply AA (Fm Fz O);rintro _ _ ⟨rfl,rfl⟩;have U:=Vq l [] I;have ep:=TO l [] i j;have e0:(CM []).length=0:=rfl;refine AA (Mw (mn (g:=BH)) (L:=[]) (S:=λ_=>False) O (by rw[show Tr.sz BH.toAvT.k.μ l=(CM l).length from Gw l,aAu];omega) Al.nil L_ I E (Sr E) (Sr (l:=Ck.kd.CV l i j []) (by rw[U];simp[CM] at *;omega)) (Sr (l:=(Ck.kd.split l i).1.getLast?.toList++[]++(Ck.kd.split (Ck.kd.split l i).2 (j-i)).2.head?.toList) E)) ?_;rintro _ V ⟨F',k1,k2,X,Y⟩;have:=J.size;refine⟨rfl,F',_,k1,B_,X,?_,(J.mono G_).trans Y⟩;show CM (Ck.kd.CV l i j [])=_;grind
def fg{i j:Nat}(h:Ep BH.toAvT F JB W b bt l)(aa:i<=j)(hj:j<=(CM l).length)(hs:(CM l).length<=536870912) : l_ 75 [e_ b,zIq (i:Int),zIq (j:Int)] (λv' w'=>∃rv,v'=.tuple #[rv,zIq 0]/\AB W.heap.size 21 1 Bk w' rv (((CM l).take j).drop i)/\AG W w') W:=by
 refine O' func75 ?_ (.y (.y (.x (.y (.y (.dm [2,3,4] [0,0,2,7,15]))))));refine Bx.zero λc w1 hc g1 B=>?_;have b8:=B.lt C0;have h1:=h.S_ g1;have h0:=h;apply AA (Mi Fz h1);rintro _ w2 ⟨rfl,g2⟩;rw[show Tr.sz BH.toAvT.k.μ l=(CM l).length from Gw l,NR aa hj,FQ];refine BM (λ_=>?_) λe=>(e rfl).elim;have hW:=h1.S_ g2;apply AA (Fm Fz hW);rintro _ _ ⟨rfl,rfl⟩;obtain⟨A,T,t1,t2,t3,rfl,t5⟩:=hW.FR;refine AA (Zu (g:=BH) t1 t2 t3 (Sr E) E E) ?_;rintro _ Q ⟨cap,I,Rd,rfl,g6,ak,al,QI,a6⟩;generalize hX:Ck.kd.Ax T.toL i j=X at *;have an:I.length=X.length:=by rw[<-hX];exact ak
 have av:CM X=((CM T.toL).take j).drop i:=by grind[lj]
 have hx:∀m (h1:m<I.length) (h2:m<X.length),I[m]=.agg X[m].cells.toArray:=λm q1 q2=>by
  subst hX;obtain⟨r,e1,e2⟩:=al m q1 q2;rw[e1,bM];have e3:r=Ck.cells (Ck.kd.Ax T.toL i j)[m]:=e2;rw[e3]
 have bk:(CM X).length<=1099511627776:=B_;have z2:=g2.size;have z6:=g6.size;have B6:=(B.S_ g2).S_ g6;refine Nf ⟨True,_,cap,_,_,_,rfl,D_,a6,λk _=>rfl,?_⟩;refine⟨λk U W'=>∃out,Iz 21 1 Bk Q.heap.size c Q.heap.size U W' out (CM (X.take k))/\AF (λx=>x=c) Q W'/\k<=X.length,λ_ _ _=>False,⟨_,⟨B6,AB.nil,λg N=>nomatch N⟩,AF.refl _ _,Lc _⟩,?_,λx U ax W W' h=>h.elim,?_,?_,?_,B_⟩;rintro k U ax W' bl ⟨out,q,m,hk⟩ hm J;have hn:∀x,x<Q.heap.size->¬((¬True/\U x)\/x=Q.heap.size\/x=Q.heap.size+1):=B_;refine⟨out,⟨q.box.T_ hm (hn c E),AB.T_ q.row hm (λg N=>?_) E',λg N=>?_⟩,m.next hm λx hx=>?_,hk⟩;grind[Iz.hc];obtain⟨h1,h2,h3,h4⟩:=q.hc g N;refine⟨h1,h2,h3,λh=>?_⟩;rcases(J g h).1 with h|h;grind;have:=(AB.Am q.row g N).2;omega;grind;rintro k U W' ⟨out,q,m,hk⟩ b hb hr;exact m.Ak b hb λe=>by
  subst e;rcases(QI b hr).1 with h|h|h;have:=h0.lt b (.inl h.1);omega;omega;omega
 .rintro k U W' hk ⟨out,q,m,bp⟩ hz J;have b9:k<X.length:=E;have V:(Bf [I.getD k undef] 0)=.agg X[k].cells.toArray:=by
   show I.getD k undef=_;grind
  rw[V];have bs:X.take (k+1)=X.take k++[X[k]]:=by grind[List.take_add_one]
  have ay:CM (X.take (k+1))=CM (X.take k)++X[k].l:=B_;have ba:(CM (X.take k)).length+X[k].l.length<=(CM X).length:=by
   have e:CM X=CM (X.take (k+1))++CM (X.drop (k+1)):=by grind[List.take_append_drop]
   grind
  refine Bx.new (vs:=X[k].cells) (Ck.len _) rfl (Ck.one _) λb5 W5 bx g5 B5=>?_;refine La g5 hz J G_ λW6 O=>?_;have z5:=g5.size;have c4:=O.size;have bb:=q.box.lt (P9 _);have b0:=B5.lt (by rw [Ck.len];omega);have C6:=(q.box.S_ g5).T_ O E;have b6:=B5.T_ O E;have o6:AB Q.heap.size 21 1 Bk W6 out (CM (X.take k)):=AB.T_ (AB.T_ (R':=Bk) q.row g5 C_ E') O (by grind[Iz.hc]) E';have gd:=gdr W6;have zd:=gd.size;have Cd:=C6.S_ gd;have Bd:=b6.S_ gd;apply Ac (λk y=>(k=3/\out.ownBlock=some y)\/(k=4/\y=c));refine AP ⟨Cd.cells 0 _ rfl,λj hj e=>?_⟩ ?_;have b7:j ∈ [2]:=hj;simp only [uN] at b7;omega;apply DH (Ck.len _) (λj u hu=>⟨by rw [AH];exact Bd.cells j u hu,λj hj=>(aAU (show j ∈ [] from hj)).elim⟩);apply AA (me X[k]);rintro xv W7 ⟨ox,g7⟩;refine ⟨B_,?_⟩;have z7:=g7.size;have o7:AB Q.heap.size 21 1 Bk W7 out (CM (X.take k)):=AB.T_ (AB.T_ (R':=Bk) o6 gd C_ E') g7 C_ E';obtain ⟨a7,W8,r1,o8,r3,n8⟩:=AB.append (P:=prog) (ty:=81) Ju o7 (AB.sl ox) (λ_ _=>Bk.one) E E M' B_;apply AY r1;have m8:=AF.BO r3;refine ⟨B_,?_⟩;obtain ⟨Y,Z⟩:=o8.one;refine (((Cd.S_ g7).T_ m8 λe=>(q.hc c e).1 rfl)).st (q:=0) (show 0 < 1 by decide) Y Z λW9 C9 m9=>⟨B_,?_⟩;have z9:=m9.size;have a8:AF (λx=>x=c\/out.ownBlock=some x) W6 W9:=(((gd.trans g7).mono G_).trans (m8.mono λ_ _ e=>.inr e)).trans (m9.mono λ_ _ e=>.inl e);refine ⟨Pa a8 E (λb hb=>by have:=(J b hb).1;omega) (λb _ e=>?_),a7,⟨C9,?_,λg N=>?_⟩,?_,E⟩;rcases e with rfl | e;exact ⟨λh=>by have:=(J b h).2;omega,E,E⟩;obtain ⟨h1,h2,h3,h4⟩:=q.hc b e;grind;rw [ay];exact AB.T_ o8 m9 (λg N e=>by
   rcases n8 g N with h | h;exact (q.hc g h).1 e;omega) E'
  rcases n8 g N with h|h;exact q.hc g h;refine⟨E,E,E,λhI=>by have:=(J g hI).1;omega⟩;refine((m.next g5 G_).next O E).next a8 λx hx e=>?_
  rcases e with e|e;exact e;have:=(AB.Am q.row x e).1;omega
 rintro U W' ⟨out,q,m,hk⟩ _ hz hd;apply AI (q.box.cells 0 _ rfl);obtain⟨Y,Z⟩:=q.row.one;refine q.box.st (q:=0) (show 0<1 by decide) Y Z λW1 C1 m1=>?_;refine⟨?_,?_⟩;grind[AF.Ak];have a1:AF (λb=>b=Q.heap.size) W1 (W1.putObj Q.heap.size (.deferred none)):=AF.putObj _ _ _ rfl;have C2:=C1.T_ a1 E;refine AI (C2.cells 0 _ rfl) ⟨_,rfl,?_,?_⟩;rw[an,WL,av] at q;refine AB.BY (AB.T_ (AB.T_ (R':=Bk) q.row m1 (by grind[Iz.hc]) E') a1 (by grind[Iz.hc]) E') λg N=>?_;have:=(AB.Am q.row g N).1;omega;exact((((g1.trans g2).trans g6).next m E).next m1 E).next a1 E
end
def YU{t e k:Nat}{i:TypeInfo}{a:Option Addr}{n c l h m:Nat}(ht:P.underlying t=some (.slice e))(hi:P.info? e=some i)(hk:i.size=k)(h1:l<=h)(I:h<=m)(J:m<=c)(w:c_) : (Instr.sliceAt t (.slice a n c) (some (zIq l)) (some (zIq h)) (some (zIq m))).run P w=.ok (sliced a l h m k) w:=by
 have j:P.elem t=e:=by simp[Program.elem,ht]
 rw[aAz _ _ _ _ _ _ (by rw[j];exact ht),run_slice_lhm _ _ _ _ _ (by rw[j];exact ht) _ _ _ _ _ _ E E E E,j];simp[sizeOf,typeInfo,hi,hk]
def pcs(j:b_)(k:Nat):b_:=match j with
 |.slice a n _=>sliced a (32*k) (min (32*k+32) n) (min (32*k+32) n) 1
 |_=>undef
def vY{J:b_}{l:V'}{k:Nat}(h:Al S 1 Bk W J l)(hk:32*k<l.length):Al S 1 Bk W (pcs J k) ((l.drop (32*k)).take 32):=by
 obtain⟨a,c,rfl,h1,Q,N⟩:=h;have j:((l.drop (32*k)).take 32).length=min (32*k+32) l.length-32*k:=B_;refine⟨_,_,by rw[j];rfl,E,E,λm x I=>?_⟩;rw[aAr] at I;split at I;rw[so] at I;obtain⟨p,r,rfl,U,hr,hc,O⟩:=N _ x I;rw[By E];refine⟨p.add (32*k*1),r,rfl,by grind[Ai],hr,λy u hu=>?_,O⟩;grind[Addr.add_add];grind
def pz{Q:b_}{l:V'}(h1:Bx W e [Q])(U:Bx W B [zIq 32])(ho:Al S 1 Bk W Q l)(hl:l.length<=1099511627776) : QG True prog 278 [e_ e,e_ B] (λk=>[pcs Q k]) ((l.length+31)/32) (λb=>b=e\/b=B) W:=by
 intro yl J Jx w1 hg h0 V a1 QI j;refine J_ func278 ?_ (.y (.node [4] [(4,30)] (.y (.x (.x (.dm [3] [0,0,0,6,14,31,63])))) .nil));obtain⟨a,c,rfl,q1,q2,q3⟩:=ho;have l1:=h1.lt (P9 _);have l2:=U.lt (P9 _);have ht:=underlying81;obtain⟨ti,hi,hz⟩:∃i,prog.info? 21=some i/\i.size=1:=⟨Tryz.t21,D_,by rfl⟩;refine Aa (λvs N=>∃k:Nat,k<=(l.length+31)/32/\vs=[zIq ((32*k:Nat):Int)]/\J k (λ_=>False) N) (λvs _=>l.length+32-Da vs 0) B_ ?_;rintro vs N ⟨k,hk,rfl,hJ⟩ _;rw[Bh,HK];have cell:∀{W2:c_} {k:Nat} {b:Nat} {v:b_},J k (λ_=>False) W2->(b=e\/b=B)->W.cell? ⟨b,0,none⟩=some v->W2.cell? ⟨b,0,none⟩=some v:=λX hb hc=>by
  rw[<-hc];exact aB6 (QI _ _ _ X _ (by rcases hb with rfl|rfl<;>omega) hb)
 apply AI (cell hJ (.inl rfl) (h1.cells 0 _ rfl));rw[AO];refine Cn (λa7=>?_) λa8=>?_;rotate_left;obtain rfl:k=(l.length+31)/32:=E;grind;have a6:32*k<l.length:=E;have gd:=gdr N;have I:J k (λ_=>False) N.drew:=V k _ _ _ _ hJ B_ L_;apply Ac (λ_ _=>False);refine AP ⟨cell I (.inr rfl) (U.cells 0 _ rfl),C_⟩ ?_;refine AP ⟨cell I (.inl rfl) (h1.cells 0 _ rfl),C_⟩ ?_;refine AY (EZ ht hi hz E _) ⟨AF.refl _ _,?_⟩;unfold sliced;rw[AO,Hh];have e1:(if((l.length-32*k:Nat):Int)<(32:Int) then((l.length-32*k:Nat):Int) else(32:Int))=((min 32 (l.length-32*k):Nat):Int):=E;rw[e1];apply AI (cell I (.inl rfl) (h1.cells 0 _ rfl));refine DI E (DI E ?_);refine AY (YU ht hi hz E (DN _) E _) ?_;refine .inr ⟨yl,rfl,?_⟩;have Y:=j k _ N.drew E I;have e2:32*k+min 32 (l.length-32*k)=min (32*k+32) l.length:=E;rw[e2];apply HO Y;rintro vv W3 ⟨aa,Z,_,⟨rfl,O⟩|⟨rfl,VZ⟩⟩;rw[Aj];apply AM;apply AI (cell O (.inr rfl) (U.cells 0 _ rfl));rw[AQ,wrap64 E E];refine⟨⟨k+1,E,?_,O⟩,?_⟩;congr 2;rw[DW,DW];omega;rw[Aj];exact Ab ⟨_,.inr VZ⟩
def ny{r:Int}(h:DZ r):l_ 281 [.int .i32 r] (λv' w'=>v'=.bool true/\w'=w) w:=by
 refine I_ func281 ?_;grind[S281,DZ,JP,Ae,Py,DX,Hj]
def sK{l:V'}(h:Al S 1 Bk w v l)(hm:∀r∈l,DZ r) : l_ 279 [v,.func (.func 280) #[] #[]] (λv' w'=>v'=.bool false/\w'=w) w:=by
 refine H_ func279 ?_;refine AA (K:=λv' w'=>v'=zIq (-1)/\w'=w) ?_ ?_;refine H_ func344 ?_ (.y (.x (.y (.node [8] [(4,5),(8,18)] .nil .nil))));obtain⟨a,c,rfl,I⟩:=h.AK;simp only[maxLen] at I;rw[AO];refine Aa (λvs W=>∃i:Nat,i<=l.length/\vs=[zIq i]/\W=w) (λvs _=>l.length-Da vs 0) B_ ?_;rintro vs _ ⟨i,hi,rfl,rfl⟩ _;rw[Bh,HK];refine Cn (λJ=>?_) B_;have j:i<l.length:=E;obtain⟨q,r,rfl,_,hr,hc,rfl⟩:=h.get j;refine AV j (AI (by have:=hc 0 _ rfl;exact this) ?_);refine Ee D_ ?_;refine I_ func280 ?_;apply AA (ny (hm _ (S7 j)));rintro _ _ ⟨rfl,rfl⟩;rw[Aj];apply AM;rw[AQ,AL E];exact(by grind[DW]);rintro _ _ ⟨rfl,rfl⟩;rw[JP];exact⟨rfl,rfl⟩
def wT{l:V'}(h:Al S 1 Bk w v l)(hl:l.length<=32)(hm:∀r∈l,DZ r) : l_ 192 [v] (λv' w'=>v'=.tuple #[.agg (Ck.cells ⟨l,hl⟩).toArray,zIq 0]/\AG w w') w:=by
 refine I_ func192 ?_;refine Bx.zero λb2 w1 av g1 B2=>?_;have h1:=h.S_ g1 C0 C_;apply AA (sK h1 hm);rintro _ _ ⟨rfl,rfl⟩;apply AM;obtain⟨a,c,rfl,hx⟩:=h1.AK;rw[AO];refine gtP E λ_=>?_;refine Bx.zero λJ N ax g7 B4=>?_;have C2:Bx N b2 Ck.nil.cells:=B2.S_ g7;have C4:Bx N J Ck.nil.cells:=B4;have an:=B2.lt C0;have hu:=underlying81;have hs:(prog.info? 21).map (·.size)=some 1:=D_;have h7:=h1.S_ g7 C0 C_;rw[AE,AH];apply SJ;have HA:∀O,Bx O J (My Ck.nil.cells 0 (l.map (Value.int .i32)))->AF (λx=>x=J) N O->(BX 32 (e_ J) λa1=>Cc a1 (zIq (l.length:Int)) (λQ=>DJ 33 (e_ J) (λa6 a7=>Bv 33 (e_ b2) a6 (λU=>DJ 33 (e_ b2) (λV a8=>(λ(v':b_) (w':c_)=>v'=Value.tuple #[.agg (Ck.cells ⟨l,hl⟩).toArray,zIq 0]/\AG w w') (Value.tuple #[V,(zIq 0)]) a8) U) a7) Q) O):=λO D4 m9=>by
  rw[AE,AH];refine D4.st (q:=32) (by rw[QR,Ck.len];omega) rfl rfl λQ E4 X=>?_;rw[Ck.kF hl] at E4;apply E4.GJ (Ck.len _);refine((C2.T_ m9 E).T_ X E).Ax (Ck.len _) (Ck.len _) (Ck.one _) λU F2 aa=>?_;refine F2.GJ (Ck.len _) ⟨rfl,?_⟩;exact(((g1.trans g7).next m9 E).next X E).next aa E
 have Y:(l.map (Value.int .i32)).length=min l.length 32:=B_;by_cases I:l=[];have hn:=run_copy_none N 81 81 3 21 (f_ J) a 32 32 l.length c hu hs (by rw[I];rfl);have ak:Bx N J (My Ck.nil.cells 0 (l.map (Value.int .i32))):=by rw[I];exact C4
 have e0:(goInt 0:b_)=zIq (l.length:Int):=by rw[I];rfl
 rw[e0] at hn;exact AY hn (HA N ak (AF.refl _ _));have Z:0<l.length:=aAH.2 I;obtain⟨p,r',rfl,_,_,_,_⟩:=h7.get (i:=0) Z;refine C4.copy hu hs (us:=l.map (Value.int .i32)) Y (by grind[Ck.len]) (λj v hv=>?_) (Vs _) λO D4 m9=>?_;obtain⟨hj,rfl⟩:=Ad.1 hv;rw[Nn] at hj;obtain⟨p',r2,ep,_,ay,al,rfl⟩:=h7.get hj;cases ep;have:=al 0 _ rfl;grind;rw[Nn];exact HA O D4 m9
def Kn(rs:V')(k:Nat):Ck:=⟨(rs.drop (32*k)).take 32,by grind⟩
def Df(rs:V'):a_:=(List.range ((rs.length+31)/32)).map (Kn rs)
def SO(rs:V'):(Df rs).length=(rs.length+31)/32:=by simp[Df]
def YJ(rs:V'){k:Nat}(h:k<(Df rs).length):(Df rs)[k]=Kn rs k:=by simp[Df]
def YO(rs:V'):CM (Df rs)=rs:=by
 have key:∀n,CM ((List.range n).map (Kn rs))=rs.take (32*n):=by
  intro n;induction n<;>grind[List.range_succ,Kn]
 grind[Df,List.take_of_length_le]
def eU{b bt i:Nat}{l:a_}(h:Ep BH.toAvT F JB W b bt l)(hi:i<=(CM l).length)(hs:(CM l).length+rs.length<=536870912)(hv:Al S 1 Bk W v rs)(hm:∀r∈rs,DZ r) : l_ 108 [e_ b,zIq (i:Int),v] (λv' w'=>v'=zIq 0/\∃F' l',(∀x,F x->F' x)/\(∀x,F' x->F x\/W.heap.size<=x)/\Ep BH.toAvT F' JB w' b bt l'/\CM l'=(CM l).take i++rs++(CM l).drop i/\AF F W w') W:=by
 refine O' func108 ?_ (.y (.y (.y (.y (.y (.y (.x (.dm [1,5] [0,1,0,0,0,31]))))))));have hF:=h.lt;refine Bx.zero λc6 w1 dz g1 B6=>Dq (AM ?_);refine Bx.zero λc7 w4 dT g4 B7=>?_;have l6:=B6.lt C0;have l7:=B7.lt C0;have b8:=hv.JW C0;refine AA (K:=λv' w'=>∃d1 d2,v'=.func (.func 278) #[] #[e_ d1,e_ d2]/\w4.heap.size<=d1/\w4.heap.size<=d2/\Bx w' d1 [v]/\Bx w' d2 [zIq 32]/\AG w4 w') ?_ ?_
 .refine H_ func191 ?_;obtain⟨a,c,rfl,hx⟩:=hv.AK;refine DV rfl λd1 I ba X D1=>DV rfl λd2 w6 bb g6 D2=>?_;have z5:=X.size;apply AI (D2.cells 0 _ rfl);refine Cn E λ_=>?_;exact⟨d1,d2,rfl,E,E,D1.S_ g6,D2,X.trans g6⟩
 rintro _ I ⟨d1,d2,rfl,ba,bb,D1,D2,X⟩;have z5:=X.size;have Y:=(g1.trans g4).trans X;have a8:=b8.S_ Y C0 C_;have e1:=D1.lt (P9 _);have C7:=B7.S_ X;have bk:=SO rs;refine Nf ⟨True,_,[e_ d1,e_ d2],_,_,_,rfl,D_,pz D1 D2 a8 E,λk _=>rfl,?_⟩;refine⟨λk It Q=>∃out,Iz 218 33 (λ_ r x=>r=Ck.cells x) I.heap.size c7 I.heap.size It Q out ((Df rs).take k)/\AF (λx=>x=c7) I Q/\k<=(Df rs).length,λ_ _ _=>False,⟨_,⟨C7,AB.nil,λg Z=>nomatch Z⟩,AF.refl _ _,Lc _⟩,?_,λx It bl W Q h=>h.elim,?_,?_,?_,B_⟩;rintro k It bl Q e2 ⟨out,q,m,hk⟩ hm N;have hn:∀x,x<I.heap.size->¬((¬True/\It x)\/x=I.heap.size\/x=I.heap.size+1):=B_;refine⟨out,⟨q.box.T_ hm B_,AB.T_ q.row hm (λg Z=>?_) E',λg Z=>?_⟩,m.next hm λx hx=>?_,hk⟩;grind[Iz.hc];obtain⟨h1,h2,h3,h4⟩:=q.hc g Z;refine⟨h1,h2,h3,λh=>?_⟩;rcases(N g h).1 with h|h;grind;have:=(AB.Am q.row g Z).2;omega;grind;grind[AF.Ak]
 .rintro k It Q hk ⟨out,q,m,e3⟩ hz N;have aa:32*k<rs.length:=E;have U:k<(Df rs).length:=E;refine La j0 hz N G_ λW6 O=>?_;have e4:=O.size;have dr:=q.box.lt (P9 _);have C6:=q.box.T_ O E;have o6:AB I.heap.size 218 33 (λ_ r x=>r=Ck.cells x) W6 out ((Df rs).take k):=AB.T_ q.row O (by grind[Iz.hc]) E';have ak:Al (λb=>S b/\b<W.heap.size) 1 Bk Q v rs:=Al.mono a8 C_ (by grind[AF.Ak]) C0 C_;have bp:Al (λb=>S b/\b<W.heap.size) 1 Bk W6 v rs:=Al.mono ak C_ (by grind[AF.Ak]) C0 C_;refine AA (wT (vY bp aa) (Kn rs k).le B_) ?_;rintro _ w8 ⟨rfl,g8⟩;apply BD;have z8:=g8.size;show Cv _ _ (λt9 w9=>Bv 33 t9 (.agg (Kn rs k).cells.toArray) _ w9) w8;refine Bx.new (vs:=(Kn rs k).cells) (Ck.len _) rfl (Ck.one _) λb9 W9 e5 g9 B9=>?_;have z9:=g9.size;refine neP (λ_=>?_) λe=>(e rfl).elim;have C9:=(C6.S_ g8).S_ g9;have o9:AB I.heap.size 218 33 (λ_ r x=>r=Ck.cells x) W9 out ((Df rs).take k):=AB.T_ (AB.T_ (R':=λ_ r x=>r=Ck.cells x) o6 g8 C_ E') g9 C_ E';have bs:=B9.lt (by rw[Ck.len];omega);apply AI (C9.cells 0 _ rfl);apply B9.GJ (Ck.len _);have e6:((Df rs).take k).length<=rs.length:=B_;refine Dv BH.elE o9 E (cs:=(Kn rs k).cells) (x:=Kn rs k) (CY (v:=.agg (Kn rs k).cells.toArray) rfl C0 rfl (Ck.len _)) (Ck.len _) rfl (by grind[Ck.one]) B_ (by show _*136<=_;omega) M' λal e7 an a1 bx=>?_;have e8:=a1.size;have e9:=AB.Am o9;obtain⟨c4,c8⟩:=an.one;refine(C9.T_ a1 λe=>(q.hc c7 e).1 rfl).st (q:=0) (show 0<1 by decide) c4 c8 λc9 ca av=>?_;have ea:=av.size;have V:AF (λx=>x=c7\/out.ownBlock=some x) W6 c9:=(((g8.trans g9).mono G_).trans (a1.mono λ_ _ e=>.inr e)).trans (by grind[AF.mono]);refine⟨Pa V E (λb hb=>by have:=(N b hb).1;omega) (λb _ e=>?_),al,⟨ca,?_,λg Z=>?_⟩,?_,E⟩;rcases e with rfl|e;exact⟨λh=>by have:=(N b h).2;omega,E,E⟩;grind[Iz.hc];have cc:(Df rs).take (k+1)=(Df rs).take k++[Kn rs k]:=by rw[No,Hc U,YJ rs U];rfl
  rw[cc];exact AB.T_ an av B_ E';rcases bx g Z with h|h;grind[Iz.hc];refine⟨E,E,E,λhI=>by have:=(N g hI).1;omega⟩;refine(m.next O E).next V λx hx e=>?_
  rcases e with e|e;exact e;have:=(AB.Am q.row x e).1;omega
 rintro It Q ⟨out,q,m,hk⟩ _ hz hd;rw[<-bk,WL] at q;have gW:AF (λx=>x=c7) I Q:=m;have ax:¬F c7:=B_;have h5:Ep BH.toAvT F JB Q b bt l:=(h.S_ Y).T_ m B_;apply AA (Mi Fz h5);rintro _ ec ⟨rfl,ay⟩;rw[show Tr.sz BH.toAvT.k.μ l=(CM l).length from Gw l,NR (DN _) hi,FQ];refine BM (λ_=>?_) λe=>(e rfl).elim;obtain⟨a,c,rfl,hx⟩:=hv.AK;rw[AO];apply AA (lY (h5.S_ ay));rintro _ b0 ⟨rfl,cq⟩;rw[A6,wrap64 E E,Hj];refine Ae E λ_=>?_;have gd:=gdr b0;have J:=(ay.trans cq).trans gd;have hO:=h5.S_ J;have q2:=q.box.S_ J;have o2:AB I.heap.size 218 33 (λ_ r x=>r=Ck.cells x) b0.drew out (Df rs):=AB.T_ q.row J C_ E';have zd:=J.size;apply Ac (λk y=>k=5/\F y);apply AA (Fm Fz hO);rintro _ ed ⟨rfl,cu⟩;subst cu;refine⟨AF.refl _ _,AP ⟨q2.cells 0 _ rfl,λj hj e=>ax e.2⟩ ?_⟩;have er:=Vq l (Df rs) (DN i);have ep:=TO l (Df rs) i i;rw[YO] at er ep;have cx:(CM (Ck.kd.CV l i i (Df rs))).length<=1099511627776:=B_;refine AA (Mw (mn (g:=BH)) (L:=Df rs) hO (by rw[show Tr.sz BH.toAvT.k.μ l=(CM l).length from Gw l];omega) o2.sl B_ (DN i) E (Sr E) (Sr (l:=Ck.kd.CV l i i (Df rs)) cx) (Sr (l:=(Ck.kd.split l i).1.getLast?.toList++Df rs++(Ck.kd.split (Ck.kd.split l i).2 (i-i)).2.head?.toList) E)) ?_;rintro _ da ⟨F',k1,k2,k3,k4⟩;refine⟨B_,?_⟩;have ee:=k4.size;have b6:¬F c6:=B_;have D6:Bx da c6 [zIq 0]:=((((B6.S_ g4).S_ X).T_ m E).S_ J).T_ k4 b6;refine D6.st (q:=0) (show 0<1 by decide) rfl rfl λb7 E6 a6=>?_;have dk:¬F' c6:=B_;have ef:∀x,I.heap.size<=x->x<I.heap.size+1->¬F' x:=B_;refine⟨?_,?_⟩;rw[a6.Ak _ E E,k4.Ak _ E B_,J.Ak _ E F_];exact hd;have a7:AF (λb=>b=I.heap.size) b7 (b7.putObj I.heap.size (.deferred none)):=AF.putObj _ _ _ rfl;refine AI ((E6.T_ a7 E).cells 0 _ rfl) ⟨rfl,F',_,k1,B_,((k3.T_ a6 B_).T_ a7 B_),er,?_⟩;exact((((Y.next m E).trans J).mono G_).trans k4 |>.next a6 E).next a7 E
def QY:Kd Nat where
 μ:=λ_=>(1,0)
 cut:=λx _=>(x,x)
 meld:=λ_ _=>none
def Qv(q:Nat)(l:X_)(i j:Nat):QY.Ax (q::l) i j=(if i<min j 1 then[q] else[])++QY.Ax l (i-1) (j-1):=by
 have e:∀p,QY.part q i p=q:=λp=>by unfold Kd.part QY;grind
 simp[Kd.Ax,e];rfl
def aW(W:c_)(b A_ i:Nat):b_:=match W.cell? ⟨b,3,none⟩ with
 |some (.pointer (some c))=>match W.cell? c with
  |some (.slice (some p) _ _)=>(W.cell? (p.add (i*(A_+6)))).getD undef
  |_=>undef
 |_=>undef
section
variable {α:Type}{g:AvT α}
def Ya{b i:Nat}{A:ArS α}{n:Nd α}(h:Ea g F C W b most A)(hi:A.f i=some n) : ∃(c:Nat) (p:Addr) (m k:Nat),W.cell? ⟨b,3,none⟩=some (e_ c)/\W.cell? ⟨c,0,none⟩=some (.slice (some p) m k)/\F b/\F c/\F p.block/\(∃r,g.R C W r n.x/\∀j u,(r++(Bu n++[.bool true]))[j]?=some u->W.cell? (p.add (i*(g.E+6)+j))=some u):=by
 obtain⟨c,pl,fr,J⟩:=h;obtain⟨U,hp⟩:=ArS.Mk hi;obtain⟨Y,Z,N,_⟩:=J.ar.Iy.sl.AK;have O:=J.ar.Iy.sl;rw[N] at O;obtain⟨q,r,rfl,hq,hr,hc,Q⟩:=O.get U;rw[((Ad.1 hp).2)] at Q;obtain⟨x,rfl,X⟩:=Q;have I:=J.ar.cells 0 pl rfl;rw[N] at I;exact⟨c,q,_,_,J.box.cells 3 _ rfl,I,J.fb.1,J.ar.fc.1,(J.ar.pF q.block B_).1.1,x,X,hc⟩
def uW{b i:Nat}{j:Int}{A:ArS α}{n:Nd α}(h:Ea g F C w b j A)(hi:A.f i=some n)(I:∀x,F x\/C x->W.heap[x]?=w.heap[x]?):aW W b g.E i=aW w b g.E i:=by
 obtain⟨c,p,m,k,h1,J,N,O,Q,_⟩:=Ya h hi;grind[World.cell?_of_block,Ai,aW]
end
section
variable {α:Type}{g:Av1 α}
def qg{b i:Nat}{A:ArS α}{n:Nd α}{K:b_->c_->Prop}(h:Ea g.toAvT F C W b most A)(hi:A.f i=some n) (hK:∀r U w',AG W w'->W.heap.size<=U->Bx w' U (r++Bu n)->g.R C w' r n.x->r=[aW W b g.E i]->K (e_ U) w') : l_ g.fat [e_ b,zIq i] (λV Y=>Cv g.tn g.toAvK.zN (λZ w2=>Bv (g.E+5) Z V (λw3=>K Z w3) w2) Y) W:=by
 have key:l_ g.fat [e_ b,zIq i] (λv' w'=>∃r,v'=.agg (r++Bu n).toArray/\g.R C w' r n.x/\AG W w'/\r=[aW W b g.E i]) W:=by
  apply g.ok.nU;unfold Gat;refine Bx.zero λb4 Y a1 J B4=>?_;obtain⟨c,pl,fr,j⟩:=h;have N:=j.T_ J C_;apply nfl_i (N.box.cells 3 _ rfl);apply AA (Z5 N.ar hi);rintro _ w2 ⟨r,rfl,hr,g2,p,m,k,O,I⟩;apply BD;have hl:=BZ n hr;have ho:=Kc n hr;refine Bx.new hl Li ho λb5 w3 a6 g5 B5=>?_;apply B5.GJ hl;refine((B4.S_ g2).S_ g5).Ax hl (Li) ho λw4 Q m4=>?_;apply Q.GJ hl;have X:=((J.trans g2).trans g5).next m4 E
  refine⟨r,rfl,g.Bw (by grind[AvT.Bw]) m4 λy _ hy e=>by have:=j.ar.lt y (.inr hy);omega,X,?_⟩;have er:=kL hr;generalize g.toAvK.enc r=a at er;subst er;have e1:=j.box.cells 3 _ rfl;have e2:=j.ar.cells 0 pl rfl;rw[O] at e2;have e3:=I a rfl;obtain⟨c',p',m',k',q1,q2,f1,f2,f3,_⟩:=Ya (g:=g.toAvT) ⟨c,pl,fr,j⟩ hi;rw[e1] at q1;cases q1;rw[e2] at q2;have e4:W.cell? (p.add (i*(g.E+6)))=some a:=by
   have a7:=j.ar.lt _ (.inl (j.ar.pF _ (by rw[O];rfl)).1);grind[World.cell?_of_block,Ai,AF.Ak]
  grind[aW]
 apply AA key;rintro _ w4 ⟨r,rfl,hr,J,hv⟩;refine Bx.new (BZ n hr) Li (Kc n hr) λb7 w5 a8 g7 B7=>?_;exact hK r b7 w5 (J.trans g7) (by have:=J.size;omega) B7 (by grind[AvT.Bw]) hv
def uo(t:Tr α):Tr.sz QY.μ t.idx=Tr.sz g.k.μ t.toL:=by
 induction t with
 |nil=>rfl
 |node l i x r h1 j=>rw[Tr.idx,Tr.toL,Tr.Dh,Tr.Dh,Tr.CP,Tr.CP,h1,j,g.μ1];rfl
def ck{b l N:Nat}{A:ArS α}{J:Nat->(d_)->c_->Prop}{Jx:(d_)->c_->Prop}{a6:Nat->U_}(hw:Ea g.toAvT F C w b most A)(H:Vg prog l J Jx w (λx=>F x\/C x) a6 N) : ∀(t:Tr α) (i j k0:Nat) (U:d_) (W:c_),Tr.AW g.k.μ A.f t->FU g.toAvT t.toL->i<=1099511627776->j<=1099511627776->J k0 U W->w.heap.size<=W.heap.size->(∀x,U x->x<W.heap.size)->k0+(QY.Ax t.idx i j).length<=N->(∀m (hm:m<(QY.Ax t.idx i j).length),a6 (k0+m)=[aW w b g.E (QY.Ax t.idx i j)[m]])->l_ g.fover [e_ b,zIq t.root,zIq (i:Int),zIq (j:Int),.func (.yield l) #[] #[]] (Wf J Jx (k0+(QY.Ax t.idx i j).length) U W) W:=by
 intro t;induction t with
 |nil=>
  intro i j k0 U W _ _ _ _ hJ hz an _ _;apply g.ok1.Ax;unfold ZS;simp[Tr.root];apply AT (λ_ _=>False) G_;exact eqP (λ_=>⟨DN _,I',⟨rfl,rfl,rfl⟩,U,M_,an,.inl ⟨rfl,hJ⟩⟩) λe=>(e rfl).elim
 |node lt q x aa e9 ea=>
  intro i j k0 U W hh hb hi hj hJ hz an hN V;obtain⟨hl,hr,hq⟩:=id hh;have eL:(Tr.node lt q x aa).toL=lt.toL++x::aa.toL:=rfl;have eI:(Tr.node lt q x aa).idx=lt.idx++q::aa.idx:=rfl;rw[eL] at hb;rw[eI] at hN V ⊢;have c8:(g.k.μ x).1=1:=by rw[g.μ1]
  have c9:Tr.sz QY.μ lt.idx=Tr.sz g.k.μ lt.toL:=uo lt;have ec:=hb.1;simp[Tr.Dh,Tr.CP] at ec;rw[QY.Xv,c9] at hN V ⊢;apply g.ok1.Ax;unfold ZS;simp only[Tr.root];refine AT (λ_ Q=>Q=W/\i<j) ?_ ?_;rotate_left;refine eqP E λ_=>?_;refine geP (λe=>?_) B_;rw[QY.GD _ (by omega:j<=i),QY.GD _ (by omega:j-Tr.sz g.k.μ lt.toL<=i-Tr.sz g.k.μ lt.toL)];exact⟨DN _,I',⟨rfl,rfl,rfl⟩,U,M_,an,.inl ⟨rfl,hJ⟩⟩;rintro _ Q ⟨rfl,ek⟩ _;rename c_=>W;have FR:∀{k U Q},J k U Q->w.heap.size<=Q.heap.size->Ea g.toAvT F C Q b most A:=λ{k U Q} h1 h2=>hw.heap (λy I=>H.QI k U Q h1 y (hw.lt y I) I) h2;refine qg (FR hJ hz) hq λrc Y w4 g4 eh B b9 ca=>?_;have b6:=g.rlen b9;rw[uW hw hq λy I=>H.QI k0 U W hJ y (hw.lt y I) I] at ca;apply fl_i (B.cells (g.E+0) _ (by rw[Ap b6];rfl));apply AA (Ct ((FR hJ hz).S_ g4) hl);rintro _ w6 ⟨rfl,g6⟩;apply Hz;have ba:=gdr w6;have cc:=(g4.trans g6).trans ba;obtain⟨c,pl,fr,hT⟩:=(FR hJ hz).S_ cc;have B6:=(B.S_ g6).S_ ba;apply Ac (λ_ _=>False);apply AJ;rw[AE,AH,AE,AH];refine AP ⟨hT.box.cells 0 _ rfl,C_⟩ ?_;rw[AE,AH];refine NK (g:=g.toAvT) (r:=rc) b6 (λj v hv=>⟨B6.cells j v (by rw[u6 (Ad.1 hv).1];exact hv),C_⟩) ?_;apply BL (g.meas (C:=C) (x:=x) (g.Bw b9 (g6.trans ba) E'));rintro _ w7 ⟨rfl,g7⟩;refine⟨E,?_⟩;apply BD;have ak:=cc.trans g7;have B7:=B6.S_ g7;have e8:=B7.lt (by rw[BZ _ b9];omega);have en:=ak.size;have av:∀y,(U y\/y=Y)->(U y\/W.heap.size<=y)/\y<w7.heap.size:=λy I=>by
   rcases I with I|I;have:=an y I;exact⟨.inl I,E⟩;omega
  have cq:=H.hJ k0 U (λy=>U y\/y=Y) W w7 hJ ak av;have ed:∀y,U y->w7.heap[y]?=W.heap[y]?:=λy I=>ak.Ak y (an y I) F_;obtain⟨X1,bb⟩:∃X,X=QY.Ax lt.idx i j:=⟨_,rfl⟩;obtain⟨i',cu⟩:∃i',i'=i-Tr.sz g.k.μ lt.toL:=⟨_,rfl⟩;obtain⟨j',bk⟩:∃j',j'=j-Tr.sz g.k.μ lt.toL:=⟨_,rfl⟩;obtain⟨X2,bl⟩:∃X,X=(if i'<min j' (g.k.μ x).1 then[q] else[]):=⟨_,rfl⟩;obtain⟨X3,al⟩:∃X,X=QY.Ax aa.idx (i'-(g.k.μ x).1) (j'-(g.k.μ x).1):=⟨_,rfl⟩;have eX:QY.Ax lt.idx i j++QY.Ax (q::aa.idx) (i-Tr.sz g.k.μ lt.toL) (j-Tr.sz g.k.μ lt.toL)=X1++(X2++X3):=by rw[bb,bl,al,cu,bk,c8,Qv]
  rw[eX] at hN V ⊢;simp[Bp] at hN;have bp:∀m (hm:m<X1.length),a6 (k0+m)=[aW w b g.E X1[m]]:=λm hm=>by
   rw[V m (by simp;omega)];simp[aBQ hm]
  have bs:∀m (hm:m<X2.length),a6 (k0+X1.length+m)=[aW w b g.E X2[m]]:=λm hm=>by
   have:=V (X1.length+m) (by simp;omega);rw[aBh,this];simp[aAp,aBQ hm]
  have bx:∀m (hm:m<X3.length),a6 (k0+X1.length+X2.length+m)=[aW w b g.E X3[m]]:=λm hm=>by
   have:=V (X1.length+(X2.length+m)) (by simp;omega);rw[show k0+X1.length+X2.length+m=k0+(X1.length+(X2.length+m)) by omega,this];simp[aAp]
  let St:Nat->c_->Prop:=λk Q=>∃O,(∀y,U y->O y)/\O Y/\(∀y,O y->y<Q.heap.size)/\J k O Q/\(w7.heap.size<=Q.heap.size/\Quiet w7 Q)/\(∀y,U y\/y=Y->Q.heap[y]?=w7.heap[y]?)
  have done:∀{k Q} (v:b_) (O:d_),(∀y,U y->O y)->(∀y,O y->y<Q.heap.size)->w7.heap.size<=Q.heap.size/\Quiet w7 Q->(∀y,U y->Q.heap[y]?=w7.heap[y]?)->((v=.bool true/\J k O Q)\/(v=.bool false/\Jx O Q))->Wf J Jx k U W v Q:=λv O h1 h2 h3 h4 h5=>
   ⟨E,λy I=>(h4 y I).trans (ed y I),Quiet.trans ⟨ak.os,ak.tape,ak.output⟩ h3.2,O,h1,h2,h5⟩
  refine AT (λ_ Q=>St (k0+X1.length) Q) ?_ ?_;rotate_left;refine Cn (λcx=>?_) λda=>?_;apply fl_i (B7.cells (g.E+0) _ (by rw[Ap b6];rfl));rw[Hh];have em:(if((Tr.sz g.k.μ lt.toL:Nat):Int)<(j:Int) then((Tr.sz g.k.μ lt.toL:Nat):Int) else(j:Int))=((min j (Tr.sz g.k.μ lt.toL):Nat):Int):=E;rw[em];have a8:QY.Ax lt.idx i (min j (Tr.sz g.k.μ lt.toL))=X1:=by rw[bb,<-c9,QY.R7]
  refine AA (e9 i (min j (Tr.sz g.k.μ lt.toL)) k0 (λy=>U y\/y=Y) w7 hl hb.K4.1 hi E cq E (λy I=>(av y I).2) (by rw[a8];omega) (λm hm=>?_)) ?_;have c4:m<X1.length:=by rw[<-a8];exact hm
  rw[bp m c4];simp[a8];rw[a8];rintro v W2 ⟨z1,z2,zq,O,q1,q2,q3⟩;rcases q3 with⟨rfl,c6⟩|⟨rfl,c6⟩;rw[Aj];exact AM ⟨O,λy I=>q1 y (.inl I),q1 Y (.inr rfl),q2,c6,⟨z1,zq⟩,z2⟩;rw[Aj];exact Ab (done (.bool false) O (λy I=>q1 y (.inl I)) q2 ⟨z1,zq⟩ (λy I=>z2 y (.inl I)) (.inr ⟨rfl,c6⟩));have e0:X1=[]:=by rw[bb];exact Ta QY lt.idx j E
  rw[e0];exact⟨λy=>U y\/y=Y,λy I=>.inl I,.inr rfl,λy I=>(av y I).2,cq,⟨DN _,rfl,rfl,rfl⟩,I'⟩;rintro _ W8 ⟨ax,a1,a2,a3,dk,z8,Z⟩ _;have B8:=B7.heap (Z Y (.inr rfl));rw[A6,wrap64 E E,Hi];have ee:(if(0:Int)>(i:Int)-((Tr.sz g.k.μ lt.toL:Nat):Int) then(0:Int) else(i:Int)-((Tr.sz g.k.μ lt.toL:Nat):Int))=(i':Int):=E;rw[ee,A6,wrap64 E E,Hh];obtain⟨to,dr⟩:∃to:Int,to=(if(((g.k.μ x).1:Nat):Int)<(j:Int)-((Tr.sz g.k.μ lt.toL:Nat):Int) then(((g.k.μ x).1:Nat):Int) else(j:Int)-((Tr.sz g.k.μ lt.toL:Nat):Int)):=⟨_,rfl⟩;rw[<-dr];have b7:(i':Int)<to↔i'<min j' (g.k.μ x).1:=by rw[dr,bk];omega
  have dz:i'<min j' (g.k.μ x).1->to=((min j' (g.k.μ x).1:Nat):Int):=E;refine AT (λ_ Q=>St (k0+X1.length+X2.length) Q) ?_ ?_;rintro _ W9 ⟨dT,c1,c2,c3,e4,z9,a7⟩ _;apply DI E;refine leP (λeo=>?_) λep=>?_;have e3:X3=[]:=by rw[al];exact QY.GD _ E
  rw[e3];simp[aO,Bp];exact done (.bool true) dT c1 c3 z9 (λy I=>a7 y (.inl I)) (.inl ⟨rfl,by rw[<-aBh];exact e4⟩);have B9:=B7.heap (a7 Y (.inr rfl));apply fl_i (B9.cells (g.E+1) _ (by rw[Ap b6];rfl));rw[A6,wrap64 E E,A6,wrap64 E E,Hi];have e1:(if(0:Int)>(i:Int)-((Tr.sz g.k.μ lt.toL:Nat):Int)-(((g.k.μ x).1:Nat):Int) then(0:Int) else(i:Int)-((Tr.sz g.k.μ lt.toL:Nat):Int)-(((g.k.μ x).1:Nat):Int))=((i'-(g.k.μ x).1:Nat):Int):=by rw[cu];omega
  rw[e1,A6,wrap64 E E,A6,wrap64 E E];have e2:(j:Int)-((Tr.sz g.k.μ lt.toL:Nat):Int)-(((g.k.μ x).1:Nat):Int)=((j'-(g.k.μ x).1:Nat):Int):=by rw[bk];omega
  rw[e2];refine AA (ea (i'-(g.k.μ x).1) (j'-(g.k.μ x).1) (k0+X1.length+X2.length) dT W9 hr hb.K4.2.cons.1 E E e4 E c3 (by rw[<-al];omega) (λm hm=>?_)) ?_;have c4:m<X3.length:=by rw[al];exact hm
  rw[bx m c4];simp[al];rw[<-al];rintro v W2 ⟨u1,u2,uq,O,q1,q2,q3⟩;apply done v O (λy I=>q1 y (c1 y I)) q2 ⟨E,z9.2.trans uq⟩ (λy I=>(u2 y (c1 y I)).trans (a7 y (.inl I)));simp[Bp];rwa [<-aBh,<-aBh]
  .refine Cn (λcx=>?_) λda=>?_;rotate_left;have e2:X2=[]:=by rw[bl,By λe=>da (b7.2 e)]
   rw[e2];exact⟨ax,a1,a2,a3,dk,z8,Z⟩;have b8:=b7.1 cx;have er:=dz b8;have e2:X2=[q]:=by rw[bl,Ix b8]
   have et:i'=0:=E;have ej:to=1:=E;rw[ca] at B8;apply fl_i (B8.cells 0 _ rfl);refine AT (λvs Q=>vs=[aW w b g.E q]/\Q=W8) ?_ ?_;rotate_left;exact Cn E λ_=>⟨rfl,rfl⟩;rintro _ _ ⟨rfl,rfl⟩ _;rename c_=>W8;refine AT (λvs Q=>vs=[aW w b g.E q]/\Q=W8) ?_ ?_;rotate_left;exact gtP E λ_=>⟨rfl,rfl⟩;rintro _ e5 ⟨rfl,rfl⟩ _;simp[Bh,HK];have eu:=z8.1;refine .inr ⟨l,rfl,?_⟩;have e6:X2.length=1:=by rw[e2];rfl
   have ay:=bs 0 E;simp[aA3,e2,aDE] at ay;rw[<-ay];apply HO (H.qU _ ax e5 E dk);rintro v ef ⟨y1,y2,yq,y3⟩;have b0:∀y,ax y->ef.heap[y]?=e5.heap[y]?:=E;have e7:=z8.2.trans yq;rcases y3 with⟨rfl,c7⟩|⟨rfl,c7⟩;rw[Aj];refine AM ⟨ax,a1,a2,λy I=>by have:=a3 y I;omega,by rw[e6];exact c7,⟨E,e7⟩,λy I=>?_⟩;exact(b0 y (by rcases I with I|rfl;exact a1 y I;exact a2)).trans (Z y I);rw[Aj];exact Ab (done (.bool false) ax a1 (λy I=>by have:=a3 y I;omega) ⟨E,e7⟩ (λy I=>(b0 y (a1 y I)).trans (Z y (.inl I))) (.inr ⟨rfl,c7⟩))
def Ub:Tr α->List (Nat×α)
 |.nil=>[]
 |.node l i x r=>Ub l++(i,x)::Ub r
def pX(t:Tr α):(Ub t).map (·.1)=t.idx:=by
 induction t<;>grind[Ub,Tr.idx]
def pg(t:Tr α):(Ub t).map (·.2)=t.toL:=by
 induction t<;>grind[Ub,Tr.toL]
def bW{f:Nat->Option (Nd α)}{μ:α->Nat×Nat}{t:Tr α}(h:Tr.AW μ f t):∀p∈Ub t,∃n,f p.1=some n/\n.x=p.2:=by
 induction t with
 |nil=>grind[Ub]
 |node l i x r h1 j=>
  obtain⟨a,b,c⟩:=h;intro p hp;simp[Ub,K8,S6] at hp;rcases hp with hp|rfl|hp;grind;exact⟨_,c,rfl⟩;grind
def dg{β:Type}:List β->Nat->Nat->List β
 |[],_,_=>[]
 |x::t,i,j=>(if i<min j 1 then[x] else[])++dg t (i-1) (j-1)
def Zy{β γ:Type}(f:β->γ)(l:List β)(i j:Nat):dg (l.map f) i j=(dg l i j).map f:=by
 induction l generalizing i j<;>grind[dg]
def rE(l:List α)(i j:Nat):∀x∈dg l i j,x∈l:=by
 induction l generalizing i j<;>grind[dg]
def wN(l:X_)(i j:Nat):QY.Ax l i j=dg l i j:=by
 induction l generalizing i j with
 |nil=>rfl
 |cons x l I=>rw[Qv,I];rfl
def xE(l:List α)(i j:Nat):g.k.Ax l i j=dg l i j:=by
 induction l generalizing i j<;>grind[Kd.Ax,dg,Av1.μ1,Kd.part]
def rQ:gj g.toAvT:=by
 intro F C W b i j A T h U hu hb hi hj;apply g.ok.Ax;unfold kX;refine DV rfl λb3 w1 a1 g1 V=>DV rfl λb4 w2 a6 X Y=>DV rfl λb5 N a7 O Z=>?_;have I:=(g1.trans X).trans O;have Q:=h.S_ I;have q3:=V.lt (P9 _);have q4:=Y.lt (P9 _);have q5:=Z.lt (P9 _);have eX:g.k.Ax T.toL i j=(dg (Ub T) i j).map (·.2):=by rw[xE,<-pg,Zy]
 have eI:QY.Ax T.idx i j=(dg (Ub T) i j).map (·.1):=by rw[wN,<-pX,Zy]
 refine⟨[e_ b3,e_ b4,e_ b5],(QY.Ax T.idx i j).map (aW N b g.E),_,rfl,I,B_,λm m1 m2=>?_,λx hx=>?_,UB Q ((V.S_ X).S_ O) (Y.S_ O) Z λl J Jx w4 g4 H hJ hz=>?_⟩;have hm:m<(dg (Ub T) i j).length:=B_;obtain⟨n,hn,hx⟩:=bW U _ (rE _ i j _ (S7 hm));obtain⟨c,p,m',k',e1,e2,_,_,_,r,hr,hc⟩:=Ya Q hn;have er:=kL hr;refine⟨r,?_,?_⟩;simp[aBZ,eI];have e3:N.cell? (p.add ((dg (Ub T) i j)[m].1*(g.E+6)))=some (g.toAvK.enc r):=by
  have:=hc 0 (g.toAvK.enc r) B_;rwa [aA3] at this
 grind[aW];grind;grind[Ea.lt];have H':Vg prog l J Jx N (λx=>F x\/C x) _ _:=⟨H.hJ,H.VZ,λk It W hJ b hb hr=>H.QI k It W hJ b hb B_,H.qU⟩;have key:=ck Q H' T i j 0 (λ_=>False) w4 U hb hi hj hJ hz L_ B_ (λm hm=>?_);grind;grind
end
def aG{W0 J:c_}{g c:Nat}{L M:List V_}{call:b_->Cont->c_->Prop}{Kend:c_->Prop}(a7:M.length=L.length)(hL:L.length<=109951162777)(hg:W0.heap.size<=g)(g1:AG W0 J) (o:AB W0.heap.size 47 1 (Cu S) J (.slice (f_ g) L.length c) L)(a8:∀b,S b->b≠g) (U:∀(j:Nat) (h1:j<L.length) (h2:j<M.length) (sv:b_) (W':c_) (K:Cont),AF (λb=>b=g) J W'->Bo S W' sv L[j]->(∀v' w',Kh W'.heap.size w' v' M[j]->AG W' w'->K v' w')->call sv K W') (hK:∀w',AB W0.heap.size 47 1 (Cu (λb=>W0.heap.size<=b/\b≠g)) w' (.slice (f_ g) L.length c) M->AF (λb=>b=g) J w'->Kend w') : GM [(zIq 0)] (λvs V w2=>∀_:Env,HZ .i64 (Bf vs 0) (zIq (L.length:Int)) λaa=>Af aa (KY 1 (.slice (f_ g) L.length c) (Bf vs 0) λak=>BR ak (λal w3=>call al (λan w4=>KY 1 (.slice (f_ g) L.length c) (Bf vs 0) λav=>Cc av an (λw5=>Cl .i64 (Bf vs 0) (zIq 1) λax=>V [ax] w5) w4) w3) w2) (Kend w2)) J:=by
 have z1:=g1.size
 let Inv:Nat->c_->Prop:=λi W'=>AB W0.heap.size 47 1 (λ_ _ _=>True) W' (.slice (f_ g) L.length c) L/\AF (λb=>b=g) J W'/\
  ∀j (h1:j<L.length) (h2:j<M.length),∃sv,W'.cell? ⟨g,j,none⟩=some sv/\Bg W' ⟨g,j,none⟩/\(j<i->Bo (λb=>W0.heap.size<=b/\b≠g) W' sv M[j])/\(i<=j->Bo S W' sv L[j])
 have bp:Inv 0 J:=by
  refine⟨o.any,AF.refl _ _,λj h1 h2=>?_⟩;obtain⟨r,hr,ay,⟨sv,rfl,hs⟩,X⟩:=AB.cellsOf o h1;have e:∀x,j*1+x=j+x:=E;refine⟨sv,by have:=ay 0 sv rfl;grind,B_,E,λ_=>hs⟩
 refine Aa (λvs W'=>∃i:Nat,i<=L.length/\vs=[zIq i]/\Inv i W') (λvs _=>L.length-Da vs 0) B_ ?_;rintro vs w2 ⟨i,hi,rfl,oA,mA,Ao⟩ _;rw[Bh,HK,DX];have z2:=mA.size;have bs:g<J.heap.size:=(AB.Am o g rfl).2;refine Ae (λbx=>?_) λc4=>?_;have I:i<L.length:=E;obtain⟨sv,hc,X,_,b0⟩:=Ao i I E;apply AV I;rw[AH,aB9];apply AI hc;refine U i I E sv w2 _ mA (b0 (DN _)) λv' w4 oS N=>?_;have z4:=N.size;obtain⟨Y,b6⟩:=oS.one;apply AV I;rw[AH,aB9];refine Bg.st (X.T_ N F_) Y b6 ?_;have b7:AB W0.heap.size 47 1 (λ_ _ _=>True) w4 (.slice (f_ g) L.length c) L:=AB.T_ oA N C_ λ_ _ _ _=>trivial;have Z:=AB.O8 b7 I (j:=0) C0 Y;rw[aB9,aA3] at Z;have m5:=P8 w4 g i v';rw[AQ,AL E];refine⟨⟨i+1,I,rfl,Z,(mA.next N G_).next m5 C_,λj h1 h2=>?_⟩,by rw[DW,DW];omega⟩;obtain⟨b8,b9,a1,ba,a6⟩:=Ao j h1 h2;have O:=N.cell b9 F_;have Q:Bg w4 ⟨g,j,none⟩:=a1.T_ N F_;by_cases e:j=i;subst e;refine⟨v',vk w4 _ v' O,Q.set _ _,λ_=>?_,E⟩;refine Al.mono oS.sl E (by grind[AF.Ak]) C0 C_;refine⟨b8,by rw[S9 w4 _ _ v' B_];exact O,Q.set _ _,λh=>?_,λh=>?_⟩;refine Al.mono (ba E) C_ (λb hb h=>?_) C0 C_;exact(m5.Ak b E h.2).trans (N.Ak b hb F_);refine Al.mono (a6 E) C_ (λb hb h=>?_) C0 C_;exact(m5.Ak b E (a8 b h)).trans (N.Ak b hb F_)
 .have bb:i=L.length:=E;subst bb;refine hK w2 (AB.conv (AB.len oA M a7) λj hj r bk a6 bl=>?_) mA;obtain⟨sv,hc,_,hd,_⟩:=Ao j E hj;obtain⟨u,rfl⟩:∃u,r=[u]:=aCX.1 bk;have:=bl 0 u rfl;grind
def YH{L:List V_}(h:Al S 1 (Cu C) w v L)(hl:L.length*24<=140737488355328) : l_ 236 [v] (λv' w'=>AB w.heap.size 47 1 (Cu λb=>C b/\b<w.heap.size) w' v' L/\AG w w') w:=by
 refine I_ func236 ?_;have N:Al S 1 (Cu λb=>C b/\b<w.heap.size) w v L:=Al.mono h C_ I' C0 λr x j=>BN.rsub j B_;exact L4 BN.elE N hl (λ_ _ _ j=>BN.rone j) (λO U r y Q hm I=>BN.Bw I hm E) λv' w' h1 J=>And.intro h1 J
def OY{L:List V_}(h:Al S 1 (Cu C) w v L)(hl:L.length<=5497558138)(V:∀x∈L,x.length*48<=140737488355328) : l_ 140 [v] (λv' w'=>AB w.heap.size 47 1 (Cu λb=>w.heap.size<=b/\v'.ownBlock≠some b) w' v' L/\AG w w') w:=by
 refine I_ func140 ?_ (.y (.y (.x (.y (.node [9] [(4,4),(9,20)] .nil .nil)))));refine AA (YH h E) ?_;rintro v1 X ⟨J,Q⟩;obtain⟨Y,c1,rfl,Z,a6,hp,hn⟩:=AB.AK J;rw[AO];cases Y with
 |none=>
  have:=hn rfl;subst this;apply Aa (λvs I=>vs=[zIq 0]/\I=X) (λ_ _=>0) ⟨rfl,rfl⟩;rintro vs _ ⟨rfl,rfl⟩ _;rw[Bh,HK];exact Cn (λh=>by simp at h) λ_=>⟨AB.T_ J j0 C_ B_,Q⟩
 |some p1=>
  obtain⟨g,rfl,N,a7,_⟩:=hp _ rfl;refine aG (call:=λsv K U=>l_ 80 [sv] K U) (Kend:=λI=>AB w.heap.size 47 1 (Cu λb=>w.heap.size<=b/\(Value.slice (f_ g) L.length c1).ownBlock≠some b) I (.slice (f_ g) L.length c1) L/\AG w I) (M:=L) rfl E N Q J E (λj q1 q2 sv U K hm O hK=>?_) λw' oM m=>⟨?_,(by grind[AF.next])⟩;apply AA (GL O (V _ (S7 q1)));grind;refine AB.T_ oM j0 C_ λr y _ hy=>BN.rsub hy λb hb h=>⟨h.1,λe=>?_⟩;grind
def XE{cap vals:U_}{Rd C:d_}{X:List V_}(hs:QG True prog bt cap (λk=>[vals.getD k undef]) vals.length Rd W)(aa:EP bt=true)(hv:vals.length=X.length)(hx:∀m (h1:m<vals.length) (h2:m<X.length),Bo C W vals[m] X[m])(QI:∀x,Rd x->x<W.heap.size)(hl:X.length<=5497558138) : l_ 141 [.func (.func bt) #[] cap.toArray] (λv' w'=>AB W.heap.size 47 1 (Cu λb=>C b/\b<W.heap.size) w' v' X/\AG W w') W:=by
 refine I_ func141 ?_;refine P' func237 ?_;refine DV rfl λc J hc g1 B=>?_;have b7:=B.lt (P9 _);have z1:=g1.size;have Gf:∀{M:d_} {w2 w3:c_} {r:U_} {x:V_},AF M w2 w3->(∀b,b<W.heap.size->¬M b)->Cu (λb=>C b/\b<W.heap.size) w2 r x->Cu (λb=>C b/\b<W.heap.size) w3 r x:=λhm hn hy=>BN.Bw hy hm B_;have ak:∀m (h1:m<vals.length) (h2:m<X.length),Cu (λb=>C b/\b<W.heap.size) J [vals[m]] X[m]:=λm q1 q2=>Gf (w2:=W) g1 C_ ⟨_,rfl,(hx m q1 q2).mono B_ I' C0 C_⟩;refine Nf ⟨True,bt,cap,_,_,_,rfl,aa,hs.S_ g1,λk _=>rfl,?_⟩;refine⟨λk It V=>∃out,Iz 47 1 (Cu λb=>C b/\b<W.heap.size) J.heap.size c J.heap.size It V out (X.take k)/\AF (λx=>x=c) J V/\k<=X.length,λ_ _ _=>False,⟨_,⟨B,AB.nil,λg N=>nomatch N⟩,AF.refl _ _,Lc _⟩,?_,λx It al W V h=>h.elim,?_,?_,?_,B_⟩;rintro k It al V b8 ⟨out,q,m,hk⟩ hm j;have a6:=q.box.lt (P9 _);have hn:∀x,x<J.heap.size->¬((¬True/\It x)\/x=J.heap.size\/x=J.heap.size+1):=B_;refine⟨out,⟨q.box.T_ hm (hn c E),AB.T_ q.row hm (λg N=>?_) λ_ _ _ h=>Gf hm B_ h,λg N=>?_⟩,m.next hm λx hx=>?_,hk⟩;grind[Iz.hc];obtain⟨h1,h2,h3,h4⟩:=q.hc g N;refine⟨h1,h2,h3,λh=>?_⟩;rcases(j g h).1 with h|h;grind;have:=(AB.Am q.row g N).2;omega;grind;grind[AF.Ak];rintro k It V hk ⟨out,q,m,b9⟩ hz j;have Q:k<X.length:=E;have Y:(Bf [vals.getD k undef] 0)=vals[k]:=by
  show vals.getD k undef=_;grind
 rw[Y];refine La j0 hz j G_ λW6 I=>?_;have z6:=I.size;have a6:=q.box.lt (P9 _);have B6:=q.box.T_ I E;have o6:AB J.heap.size 47 1 (Cu λb=>C b/\b<W.heap.size) W6 out (X.take k):=AB.T_ q.row I (by grind[Iz.hc]) λ_ _ _ h=>Gf I E h;have a7:=Gf I E (Gf m E (ak k hk Q));apply AI (B6.cells 0 _ rfl);have ba:(X.take k).length<=X.length:=B_;have Z:(vals[k]).cells=[vals[k]].toArray:=by
  obtain⟨sv,e,an⟩:=a7;cases e;obtain⟨a,c,e,_⟩:=an.AK;rw[e];rfl
 refine Dv BN.elE o6 E (cs:=[vals[k]]) (x:=X[k]) (CY (v:=vals[k]) rfl C0 Z rfl) rfl a7 (λ_ _ _ h=>BN.rone h) (λw2 w3 r y bb hm hy=>Gf hm (λb hb e=>?_) hy) (by show _*24<=_;omega) M' λa8 W9 o9 m9 n9=>?_;rcases e with e|e;have:=(AB.Am o6 b e).1;omega;omega;have z9:=m9.size;have bk:=AB.Am o6;have B9:=B6.T_ m9 B_;obtain⟨av,ax⟩:=o9.one;refine B9.st (q:=0) (show 0<1 by decide) av ax λay b0 O=>?_;have bl:=O.size;have U:AF (λx=>x=c\/out.ownBlock=some x) W6 ay:=(m9.mono λ_ _ e=>.inr e).trans (O.mono λ_ _ e=>.inl e);refine⟨Pa U E (λb hb=>by have:=(j b hb).1;omega) (λb _ e=>?_),a8,⟨b0,?_,λg N=>?_⟩,?_,E⟩;rcases e with rfl|e;exact⟨λh=>by have:=(j b h).2;omega,E,E⟩;obtain⟨h1,h2,h3,h4⟩:=q.hc b e;grind;have b6:X.take (k+1)=X.take k++[X[k]]:=by rw[No];simp[Q]
 rw[b6];exact AB.T_ o9 O B_ λ_ _ _ h=>Gf O E h;rcases n9 g N with h|h;exact q.hc g h;refine⟨E,E,E,λhI=>by have:=(j g hI).1;omega⟩;refine(m.next I E).next U λx hx e=>?_
 rcases e with e|e;exact e;have:=(AB.Am q.row x e).1;omega;rintro It V ⟨out,q,m,hk⟩ _ _ hd;refine AI (q.box.cells 0 _ rfl) ⟨hd,?_⟩;have a1:AF (λb=>b=J.heap.size) V (V.putObj J.heap.size (.deferred none)):=AF.putObj _ _ _ rfl;rw[hv,WL] at q;refine⟨AB.BY (AB.T_ q.row a1 (by grind[Iz.hc]) λ_ _ _ h=>Gf a1 E h) λg N=>?_,?_⟩;have:=(AB.Am q.row g N).1;omega;exact(g1.next m E).next a1 E
theorem LN(l:List V_):Tr.sz TZ.μ l=l.length:=by
 induction l with
 |nil=>rfl
 |cons x l j=>rw[Tr.CP,j,cO];show 1+l.length=_;omega
def vF(l:List V_):Tr.mk TZ.μ l=0:=by
 induction l with
 |nil=>rfl
 |cons x l j=>rw[Tr.FK,j];rfl
theorem Oq{l:List V_}(h:l.length<=1099511627776):FU BN.toAvT l:=⟨by show Tr.sz TZ.μ l<=_;grind[LN],by show Tr.mk TZ.μ l<=_;rw[vF];omega⟩
def UA:TZ.Fi (λx:V_=>[x]) where
 size:=I'
 cut1:=B_
 melds:=λa b c h=>by cases h
theorem sU(l:List V_):l.flatMap (λx=>[x])=l:=E_
def lg(l:List V_)(i j:Nat):TZ.Ax l i j=(l.take j).drop i:=by
 have:=UA.Ax l i j;grind[sU]
def Ni(t l:List V_){i j:Nat}(I:i<=j):TZ.CV t i j l=t.take i++l++t.drop j:=by
 have:=UA.CV t l I;grind[sU]
def Ea.sub{g:AvT α}{F C C':d_}{b:Nat}{J:Int}{A:ArS α}(h:Ea g F C W b J A)(hC:∀x,C x->C' x)(N:∀x,F x->¬C' x)(I:∀x,C' x->x<W.heap.size):Ea g F C' W b J A:=by
 obtain⟨c,pl,fr,j⟩:=h;exact⟨c,pl,fr,j.box,j.ar.sub hC B_ I,j.fb.1,N b j.fb.1⟩
def Ep.sub{g:AvT α}{F C C':d_}{b bt:Nat}{l:List α}(h:Ep g F C W b bt l)(hC:∀x,C x->C' x)(I:∀x,F x->¬C' x)(j:∀x,C' x->x<W.heap.size):Ep g F C' W b bt l:=by
 obtain⟨A,T,h1,r⟩:=h.FR;exact⟨h.box,⟨A,T,h1.sub hC (λx J=>I x J.1) j,r⟩,h.fb.1,I b h.fb.1⟩
theorem toList_le(o:Option α):o.toList.length<=1:=B_
section
variable {F C:d_}{W:c_}{b bt:Nat}{L:List V_}
def Ut{k m:Nat}(h:Ep BN.toAvT F C W b bt L)(I:k<=m)(hm:m<=L.length)(hl:L.length<=536870912)(V:∀x∈L,x.length*48<=140737488355328) : l_ 77 [e_ b,zIq (k:Int),zIq (m:Int)] (λv' w'=>∃(rv:b_) (W0:c_),v'=.tuple #[rv,zIq 0]/\AG W W0/\AG W0 w'/\AB W0.heap.size 47 1 (Cu λb=>W0.heap.size<=b/\rv.ownBlock≠some b) w' rv ((L.take m).drop k)) W:=by
 refine J_ func77 ?_;apply AA (Mi Gn h);rintro _ w1 ⟨rfl,Y⟩;rw[show Tr.sz BN.toAvT.k.μ L=L.length from LN L,NR I hm,FQ];refine BM (λ_=>?_) λe=>(e rfl).elim;have Q:=h.S_ Y;apply AA (Fm Gn Q);rintro _ _ ⟨rfl,rfl⟩;obtain⟨A,T,Z,t2,t3,rfl,t5⟩:=Q.FR;refine AA (rQ (g:=BN) Z t2 t3 (Oq E) E E) ?_;rintro _ w3 ⟨cap,U,Rd,rfl,g3,J,N,QI,j⟩;have hX:TZ.Ax T.toL k m=(T.toL.take m).drop k:=lg _ _ _;have a1:(TZ.Ax T.toL k m).length<=536870912:=B_;refine AA (XE (C:=C) (X:=TZ.Ax T.toL k m) j D_ J (λp q1 q2=>?_) B_ E) ?_;obtain⟨r,e1,e2⟩:=N p q1 q2;obtain⟨sv,rfl,O⟩:Cu C w3 r (TZ.Ax T.toL k m)[p]:=e2;rw[e1];exact O;rintro rv w4 ⟨o4,g4⟩;refine AA (OY (AB.sl o4) E λx hx=>V x ?_) ?_;grind;rintro a6 w5 ⟨o5,g5⟩;grind[AF.trans]
def cA{S D:d_}{k:Nat}{R:List V_}(h:Ep BN.toAvT F C W b bt L)(hk:k<=L.length)(hl:L.length+R.length<=536870912)(hv:Al S 1 (Cu D) W v R)(hs:∀x∈R,x.length*48<=140737488355328) : l_ 107 [e_ b,zIq (k:Int),v] (λv' w'=>v'=zIq 0/\∃F' C',(∀x,F x->F' x)/\(∀x,C x->C' x)/\(∀x,F' x->F x\/W.heap.size<=x)/\(∀x,C' x->C x\/W.heap.size<=x)/\Ep BN.toAvT F' C' w' b bt (L.take k++R++L.drop k)/\AF F W w') W:=by
 refine J_ func107 ?_;apply AA (Mi Gn h);rintro _ w1 ⟨rfl,O⟩;have J:∀M:List V_,Tr.sz BN.toAvT.k.μ M=M.length:=LN;rw[J,NR (DN _) hk,FQ];refine BM (λ_=>?_) λe=>(e rfl).elim;obtain⟨a,c,rfl,_⟩:=hv.AK;rw[AO];apply AA (SF Gn (h.S_ O));rintro _ N ⟨rfl,g2⟩;rw[J,A6,wrap64 E E,Hj];refine Ae E λ_=>?_;have h2:=(h.S_ O).S_ g2;apply AA (Fm Gn h2);rintro _ w3 ⟨rfl,e3⟩;subst e3;rename c_=>N;have j:=O.trans g2;have Q:Al (λb=>S b/\b<W.heap.size) 1 (Cu λb=>D b/\b<W.heap.size) N (.slice a R.length c) R:=Al.mono (hv.JW C0) C_ (by grind[AF.Ak]) C0 λr x I=>BN.Bw (BN.rsub I B_) j E';refine AA (OY Q E hs) ?_;rintro v4 Z ⟨o4,U⟩;have a1:=j.size;have z4:=U.size;have hF:=h.lt
 let C':d_:=λx=>C x\/(N.heap.size<=x/\x<Z.heap.size/\v4.ownBlock≠some x)
 have h4:Ep BN.toAvT F C' Z b bt L:=(h2.S_ U).sub (λx I=>.inl I) (λx I e=>by
   rcases e with e | e;exact h.NO x I e;grind) B_
 have V:AB N.heap.size 47 1 (Cu C') Z v4 R:=AB.T_ o4 j0 C_ λr y _ hy=>BN.rsub hy B_;have er:=Ni L R (DN k);have X:(TZ.CV L k k R).length<=1099511627776:=B_;refine AA (Mw (aA (g:=BN)) (L:=R) h4 B_ V.sl B_ (DN k) E (Oq E) (Oq (l:=TZ.CV L k k R) X) (by grind[Oq,toList_le])) ?_;rintro _ w5 ⟨F',k1,k2,k3,k4⟩;have Y:BN.toAvT.k.CV L k k R=L.take k++R++L.drop k:=er;rw[Y] at k3;refine⟨rfl,F',C',k1,λx I=>.inl I,B_,B_,k3,((j.trans U).mono G_).trans k4⟩
def eg{k m:Nat}(h:Ep BN.toAvT F C W b bt L)(j:k<=m)(hm:m<=L.length)(hl:L.length<=536870912) : l_ 159 [e_ b,zIq (k:Int),zIq (m:Int)] (λv' w'=>v'=zIq 0/\∃F',(∀x,F x->F' x)/\(∀x,F' x->F x\/W.heap.size<=x)/\Ep BN.toAvT F' C w' b bt (L.take k++L.drop m)/\AF F W w') W:=by
 refine J_ func159 ?_;apply AA (Mi Gn h);rintro _ Y ⟨rfl,I⟩;rw[show Tr.sz BN.toAvT.k.μ L=L.length from LN L,NR j hm,FQ];refine BM (λ_=>?_) λe=>(e rfl).elim;have O:=h.S_ I;apply AA (Fm Gn O);rintro _ _ ⟨rfl,rfl⟩;have Q:=Ni L [] j;rw[aO] at Q;have J:(TZ.CV L k m []).length<=1099511627776:=B_;refine AA (Mw (aA (g:=BN)) (L:=[]) (S:=λ_=>False) O (by grind[BN,LN]) Al.nil L_ j E (Oq E) (Oq (l:=TZ.CV L k m []) J) (by grind[Oq])) ?_;rintro _ V ⟨F',k1,k2,U,X⟩;have Z:=I.size;have N:BN.toAvT.k.CV L k m []=L.take k++L.drop m:=Q;rw[N] at U;exact⟨rfl,F',k1,B_,U,(I.mono G_).trans X⟩
end
abbrev EA(l:W_):Prop:=l.Pairwise λa b=>a.key<b.key
abbrev Dg(l:V_):Prop:=l.Pairwise λa b=>a.key<b.key
def H7(c:Chg):W_->W_
 |[]=>[]
 |a::p=>if a.key<=c.key then(if a.key<c.key then a::H7 c p else H7 c p) else[]
def Er(c:Chg):W_->W_
 |[]=>[]
 |a::p=>if a.key<=c.key then Er c p else a::p
def GW:W_->W_->W_
 |p,[]=>p
 |p,c::q=>H7 c p++c::GW (Er c p) q
def jv{c:Chg}{b:W_}(h:∀x∈b,c.key<x.key):H7 c b=[]/\Er c b=b:=by
 cases b<;>grind[H7,Er]
def Ls{c:Chg}{p:W_}{x:Chg}(h:x∈H7 c p):x∈p/\x.key<c.key:=by
 induction p<;>grind[H7]
theorem cj{c:Chg}{p:W_}{x:Chg}(h:x∈Er c p):x∈p:=by
 induction p<;>grind[Er]
theorem XH{c:Chg}{p:W_}(hp:EA p){x:Chg}(h:x∈Er c p):c.key<x.key:=by
 induction p<;>grind[Er,List.pairwise_cons]
def mB{c:Chg}{p:W_}(hp:EA p):EA (H7 c p):=by
 induction p with
 |nil=>exact List.Pairwise.nil
 |cons a p j=>
  rw[EA,u9] at hp;simp only[H7];split;split;exact u9.2 ⟨λx I=>hp.1 x (Ls I).1,j hp.2⟩;grind;exact List.Pairwise.nil
theorem UN{c:Chg}{p:W_}(hp:EA p):EA (Er c p):=by
 induction p<;>grind[Er]
theorem LZ{p q:W_}{x:Chg}(h:x∈GW p q):x∈p\/x∈q:=by
 induction q generalizing p with
 |nil=>exact .inl h
 |cons c q j=>
  rcases K8.1 h with h|h;exact .inl (Ls h).1;grind[cj]
def WZ{p q:W_}(hp:EA p)(j:EA q):EA (GW p q):=by
 induction q generalizing p with
 |nil=>exact hp
 |cons c q I=>
  rw[EA,u9] at j;simp only[GW];have J:∀x∈GW (Er c p) q,c.key<x.key:=by grind[LZ,XH]
  refine aCg.2 ⟨mB hp,(by grind[List.pairwise_cons,UN]),λa ha b hb=>?_⟩;have:=(Ls ha).2;grind
def Jh(c:Chg):V_->V_
 |[]=>[]
 |a::s=>if a.key<c.key then a::Jh c s else[]
def E8(c:Chg):V_->V_
 |[]=>[]
 |a::s=>if a.key<c.key then E8 c s else if a.key=c.key then s else a::s
def O0(c:Chg):V_:=if c.Ar then[] else[⟨c.key,c.val⟩]
def CF:V_->W_->V_
 |s,[]=>s
 |s,c::p=>Jh c s++O0 c++CF (E8 c s) p
def kZ{c:Chg}{b:V_}(h:∀x∈b,c.key<x.key):Jh c b=[]/\E8 c b=b:=by
 cases b<;>grind[Jh,E8]
def Jv{c:Chg}{p:V_}{x:Attr}(h:x∈Jh c p):x∈p/\x.key<c.key:=by
 induction p<;>grind[Jh]
theorem fE{c:Chg}{p:V_}{x:Attr}(h:x∈E8 c p):x∈p:=by
 induction p<;>grind[E8]
def RM{c:Chg}{p:V_}(hp:Dg p){x:Attr}(h:x∈E8 c p):c.key<x.key:=by
 induction p<;>grind[E8,List.pairwise_cons]
def lh{c:Chg}{p:V_}(hp:Dg p):Dg (Jh c p):=by
 induction p with
 |nil=>exact List.Pairwise.nil
 |cons a p j=>
  rw[Dg,u9] at hp;simp only[Jh];split;exact u9.2 ⟨λx I=>hp.1 x (Jv I).1,j hp.2⟩;exact List.Pairwise.nil
def Tl{c:Chg}{p:V_}(hp:Dg p):Dg (E8 c p):=by
 induction p<;>grind[E8]
def Qs{c:Chg}{x:Attr}(h:x∈O0 c):c.Ar=false/\x=⟨c.key,c.val⟩:=by
 grind[O0]
def KA{p:W_}{x:Attr}(h:x∈CF s p):x∈s\/∃c∈p,c.Ar=false/\x=⟨c.key,c.val⟩:=by
 induction p generalizing s with
 |nil=>exact .inl h
 |cons c p j=>
  rcases K8.1 h with h|h;rcases K8.1 h with h|h;exact .inl (Jv h).1;exact .inr ⟨c,E_,Qs h⟩;grind[fE]
def FZ{p:W_}(j:Dg s)(hp:EA p):Dg (CF s p):=by
 induction p generalizing s with
 |nil=>exact j
 |cons c p I=>
  rw[EA,u9] at hp;simp only[CF];have J:∀x∈CF (E8 c s) p,c.key<x.key:=λx N=>by
   rcases KA N with h|⟨d,Q,_,rfl⟩;exact RM j h;grind
  refine aCg.2 ⟨aCg.2 ⟨lh j,?_,λa ha b hb=>?_⟩,I (Tl j) hp.2,λa ha b hb=>?_⟩;unfold O0;split;exact List.Pairwise.nil;grind;obtain⟨_,rfl⟩:=Qs hb;exact(Jv ha).2;have O:=J b hb;rcases K8.1 ha with h|h;have:=(Jv h).2;omega;obtain⟨_,rfl⟩:=Qs h;exact O
def few{key:α->Int}{l:List α}{ids:V'}(h:l.Pairwise λa b=>key a<key b)(hm:∀x∈l,key x∈ids):l.length<=ids.length:=by
 induction l generalizing ids with
 |nil=>simp
 |cons a l I=>
  rw[u9] at h;have ha:=hm a E_;have:=I (ids:=ids.erase (key a)) h.2 λx j=>by
   rw[List.mem_erase_of_ne];exact hm x (by simp[j]);have:=h.1 x j;omega
  grind
def iB{key:α->Int}{l:List α}(h:∀i,1<=i->i<l.length->∀a b,l[i-1]?=some a->l[i]?=some b->key a<key b):l.Pairwise λa b=>key a<key b:=by
 rw[aAq];intro i j hi I J;obtain⟨d,rfl⟩:∃d,j=i+1+d:=⟨j-i-1,E⟩;induction d with
 |zero=>exact h (i+1) E I _ _ E_ (Hc I)
 |succ d N=>
  have:=N E;have:=h (i+1+d+1) E I (l[i+1+d]'(E)) _ E_ (Hc I);omega
def nE{key:α->Int}{l:List α}(h:l.Pairwise λa b=>key a<key b):∀i,1<=i->i<l.length->∀a b,l[i-1]?=some a->l[i]?=some b->key a<key b:=by
 grind[List.pairwise_iff_getElem]
def Ah(o:Dop):Nat:=if o.AR=2 then o.AZ.length else o.n.toNat
def DF(o:Dop):U':=if o.AR=2 then o.AZ.map λr=>⟨2,0,[r],o.set,o.AU⟩ else List.replicate o.n.toNat ⟨o.AR,1,[],o.set,o.AU⟩
def CB(x:U'):U':=x.flatMap DF
def EL(one:Dop->Dop->U'):U'->U'->U'
 |a,[]=>a
 |a,c::b=>if c.AR=2 then c::EL one a b else
   a.takeWhile (λo=>decide (o.AR=3)) ++
   match a.dropWhile (λo=>decide (o.AR=3)) with
   |[]=>one ⟨1,1,[],[],[]⟩ c++EL one [] b
   |u::a=>one u c++EL one a b
theorem Tz(a b:Int):IntKind.i64.wrap (IntKind.i64.wrap a+b)=IntKind.i64.wrap (a+b):=by
 simp only[IntKind.wrap,IntKind.bits,IntKind.signed];grind
theorem Lq{x:Int}(h0:0<=x)(h1:x<=1099511627776):IntKind.i64.wrap x=x:=by
 simp only[IntKind.wrap,IntKind.bits,IntKind.signed];grind
theorem qw(s:MkS){a b:Int}(ha:0<=a)(hb:0<=b):Lv (Lv s a) b=Lv s (a+b):=by
 unfold Lv QH;rw[By E,By E,By E];grind[Tz]
theorem oD(s:MkS)(a b:V')(set:V_):I7 (I7 s a set) b set=I7 s (a++b) set:=by
 unfold I7;by_cases ha:a=[];grind;by_cases hb:b=[];grind;rw[By ha,By hb,By (by simp[ha])];have e:Fu (Fu s.Aq a set) b set=Fu s.Aq (a++b) set:=by
  generalize s.Aq=Aq;unfold Fu;rcases l9 Aq with rfl|⟨i,o,rfl⟩;simp;simp only[aAV,lp,aN,aAK];by_cases e:o.set=set;simp[e];simp[e]
 grind
theorem pY(s:MkS){a b:Int}(ha:1<=a)(hb:1<=b)(j:a+b<=1099511627776)(p:W_):FM (FM s a p) b p=FM s (a+b) p:=by
 unfold FM;rw[By E,By E,By E];simp only[BS,Int.lt_irrefl,aAW,aO];generalize s.done++(if 0<s.Ar then s.Aq++[⟨3,s.Ar,[],[],[]⟩] else s.Aq)=d;congr 1;unfold GI;rcases l9 d with rfl|⟨i,o,rfl⟩;grind[Lq];simp only[aAV,lp,aN,aAK];by_cases e:o.AR=1/\o.AU=p;grind[Tz];simp[e,Lq (show 0<=a+b by omega) j]
theorem tD(s:MkS)(n:Nat)(set:V_)(p:W_):(List.replicate n (⟨3,1,[],set,p⟩:Dop)).foldl BF s=Lv s n\/(n=0/\(List.replicate n (⟨3,1,[],set,p⟩:Dop)).foldl BF s=s):=by
 induction n generalizing s<;>grind[BF,qw]
theorem tH(s:MkS)(n:Nat)(h1:1<=n)(j:n<=1099511627776)(set:V_)(p:W_):(List.replicate n (⟨1,1,[],set,p⟩:Dop)).foldl BF s=FM s n p:=by
 induction n generalizing s<;>grind[BF,FM,pY]
def wj(s:MkS)(rs:V')(set:V_)(p:W_):(rs.map λr=>(⟨2,0,[r],set,p⟩:Dop)).foldl BF s=I7 s rs set:=by
 induction rs generalizing s<;>grind[I7,BF,oD]
structure Pf (o:Dop):Prop where
 k:o.AR=1\/o.AR=2\/o.AR=3
 DA:1<=Ah o
 le:Ah o<=536870912
theorem OH(o:Dop):(DF o).length=Ah o:=by grind[DF,Ah]
theorem PJ(s:MkS){o:Dop}(h:Pf o):(DF o).foldl BF s=BF s o:=by
 obtain⟨k,n,rs,set,p⟩:=o;obtain⟨h1,j,I⟩:=h;simp only[Ah] at h1 j I;rcases h1 with rfl|rfl|rfl;grind[DF,tH,BF];simp only[DF,aAh];rw[wj];simp[BF];grind[DF,tD,BF]
def ER(n:Nat)(o:Dop):Dop:=if o.AR=2 then⟨2,o.n,o.AZ.take n,o.set,o.AU⟩ else⟨o.AR,n,o.AZ,o.set,o.AU⟩
def Eh(n:Nat)(o:Dop):Dop:=if o.AR=2 then⟨2,o.n,o.AZ.drop n,o.set,o.AU⟩ else⟨o.AR,o.n-n,o.AZ,o.set,o.AU⟩
def CT(n:Nat):U'->U'
 |[]=>[]
 |o::x=>if n<Ah o then Eh n o::x else x
theorem Rb{n:Nat}{o:Dop}(h:n<=Ah o):DF (ER n o)++DF (Eh n o)=DF o:=by
 obtain⟨k,m,rs,set,p⟩:=o;by_cases e:k=2;grind[DF,ER,Eh,List.take_append_drop];grind[Ah,DF,ER,Eh,List.replicate_append_replicate]
theorem cJ{n:Nat}{o:Dop}{x:U'}(h:n<=Ah o):CB (o::x)=DF (ER n o)++CB (CT n (o::x)):=by
 simp only [CT];split;grind[CB,Rb];have e:n=Ah o:=E;have j:DF (Eh n o)=[]:=aBr.1 (by
  have:=r9 List.length (Rb h);grind[OH,Ah,ER])
 grind[Rb,CB]
theorem Lz{n:Nat}{o:Dop}(h:n<=Ah o):Ah (ER n o)=n:=by
 grind[Ah,ER]
theorem HB{n:Nat}{o:Dop}(h:n<=Ah o):Ah (Eh n o)=Ah o-n:=by
 grind[Ah,Eh]
theorem KJ(n:Nat)(o:Dop):(ER n o).AR=o.AR:=by grind[ER]
def YX(n:Nat)(o:Dop):(Eh n o).AR=o.AR:=by grind[Eh]
def MP{o:Dop}(h:Pf o):ER (Ah o) o=o:=by
 obtain⟨k,m,rs,set,p⟩:=o;obtain⟨_,j,_⟩:=h;grind[ER,Ah]
theorem Gl{o u:Dop}(h:u∈DF o):u.AR=o.AR/\u.set=o.set/\u.AU=o.AU:=by
 grind[DF]
def BB(x:U'):Nat:=(x.map Ah).sum
def N8{n:Nat}{o:Dop}{x:U'}(h:n<=Ah o):BB (CT n (o::x))+n=BB (o::x):=by
 grind[CT,BB,HB]
theorem T8(x:U'):(CB x).length=BB x:=by
 induction x<;>grind[CB,OH,BB]
section
variable {one:Dop->Dop->U'}
theorem mi:∀{A a b:U'},(∀c∈A,c.AR=2)->EL one a (A++b)=A++EL one a b:=by
 intro A;induction A<;>grind[EL]
theorem Wq{A a:U'}{c:Dop}{b:U'}(j:∀u∈A,u.AR=3)(hc:c.AR≠2):EL one (A++a) (c::b)=A++EL one a (c::b):=by
 induction A<;>grind[EL,List.takeWhile_cons,List.dropWhile_cons]
theorem dC:∀{A a B b:U'},A.length=B.length->(∀u∈A,u.AR≠3)->(∀c∈B,c.AR≠2)->EL one (A++a) (B++b)=(A.zipWith one B).flatten++EL one a b:=by
 intro A;induction A with
 |nil=>intro a B b h _ _;cases B with
  |nil=>rfl
  |cons c B=>simp at h
 |cons u A j=>
  intro a B b h I J;cases B with
  |nil=>simp at h
  |cons c B=>
   have hu:=I u E_;have hc:=J c E_;simp only[aAN,EL];rw[By hc,aCq,By (by simp[hu]),aCr,By (by simp[hu])];simp only[aAP,aA5,aBH,Q0];rw[j (by simpa using h) B_ B_]
def bP:∀{B b:U'},(∀c∈B,c.AR≠2)->EL one [] (B++b)=(B.map λc=>one ⟨1,1,[],[],[]⟩ c).flatten++EL one [] b:=by
 intro B;induction B<;>grind[EL,List.takeWhile_nil,List.dropWhile_nil]
def SB{b a:U'}{z:Dop}(h:z∈EL one a b):z∈a\/z∈b\/∃u c,(u∈a\/u=⟨1,1,[],[],[]⟩)/\c∈b/\c.AR≠2/\z∈one u c:=by
 induction b generalizing a with
 |nil=>exact .inl h
 |cons c b j=>
  simp only[EL] at h;split at h;grind;rcases K8.1 h with h|h;grind[List.takeWhile_sublist];have I:∀u∈a.dropWhile (λo=>decide (o.AR=3)),u∈a:=by grind[List.dropWhile_sublist]
  grind
end
def Cg(ks:X')(b:Bool)(p:W_):W_:=p.filter λc=>match BW ks c.key with|some k=>decide (k.block=b)|none=>false
def IZ(ks:X')(set:V_)(p:W_)(r:Int):V_:=CF set (Cg ks (decide (r=10)) p)
def Ez(ks:X')(u c:Dop):U':=if u.AR=1 then(if c.AR=3 then[c] else if c.AR=1 then[⟨1,1,[],[],GW u.AU c.AU⟩] else[]) else if c.AR=1 then[⟨2,0,[u.AZ.headD 0],IZ ks u.set c.AU (u.AZ.headD 0),[]⟩] else[]
def IM(ks:X')(s:MkS)(u v:Dop):MkS:=if u.AR=1 then(if v.AR=1 then FM s v.n (GW u.AU v.AU) else Lv s v.n) else if v.AR=1 then u.AZ.foldl (λs r=>I7 s [r] (IZ ks u.set v.AU r)) s else s
theorem gL{α β γ:Type}(f:α->β->γ)(x:α):∀(B:List β) (n:Nat),B.length=n->(List.replicate n x).zipWith f B=B.map (f x):=by
 intro B;induction B with
 |nil=>intro n h;subst h;rfl
 |cons c B j=>grind[List.zipWith_cons_cons]
theorem Tn(ks:X')(s:MkS){u v:Dop}{n:Nat}(hu:Ah u=n)(j:Ah v=n)(h1:1<=n)(J:n<=536870912)(O:u.AR=1\/u.AR=2)(Q:v.AR=1\/v.AR=3) : ((DF u).zipWith (Ez ks) (DF v)).flatten.foldl BF s=IM ks s u v:=by
 obtain⟨k,m,rs,set,p⟩:=u;obtain⟨V,m',U,N,X⟩:=v;have Y:∀c,Ez ks ⟨1,1,[],set,p⟩ c=if c.AR=3 then[c] else if c.AR=1 then[⟨1,1,[],[],GW p c.AU⟩] else[]:=λc=>rfl;rcases O with rfl|rfl<;>rcases Q with rfl|rfl;grind[Ah,DF,List.flatten_replicate_singleton,tH,IM];grind[Ah,DF,List.flatten_replicate_singleton,tD,IM]
 .simp only[Ah,show ¬(1:Int)=2 by decide,aAh,aAW] at hu j;simp only[DF,show ¬(1:Int)=2 by decide,aAh,aAW,j,IM,show ¬(2:Int)=1 by decide];clear h1 J;induction rs generalizing s n m' with
  |nil=>simp
  |cons r rs I=>
   simp only[cO] at hu;subst hu;rw[aAR,aCs,aA5,aBH,aAj,aAg,<-I (m':=rs.length) (n:=rs.length) _ E rfl];rfl
 .simp only[Ah,show ¬(3:Int)=2 by decide,aAh,aAW] at hu j;simp only[DF,show ¬(3:Int)=2 by decide,aAh,aAW,IM,(by omega)];clear h1 J;induction rs generalizing s n m' with
  |nil=>simp
  |cons r rs I=>
   simp only[cO] at hu;subst hu;rw[aAR,aCs,aA5,aBH,aAj];exact I (m':=rs.length) (n:=rs.length) _ E rfl
def SX(ks:X')(s:MkS)(u v:U'):MkS:=(EL (Ez ks) (CB u) (CB v)).foldl BF s
theorem Fq(o:Dop)(x:U'):CB (o::x)=DF o++CB x:=rfl
def vq{s:MkS}{u v:U'}{o:Dop}(j:Pf o)(hk:o.AR=2):SX ks s u (o::v)=SX ks (BF s o) u v:=by
 grind[SX,Fq,mi,Gl,PJ]
def lW{o:Dop}{x:U'}(j:Pf o):∃c b,CB (o::x)=c::b/\c.AR=o.AR:=by
 rw[Fq];have:=OH o;have hp:=j.DA;cases e:DF o<;>grind[Gl]
def vQ{s:MkS}{u v:U'}{d o:Dop}(I:Pf d)(j:Pf o)(kd:d.AR=3)(hk:o.AR≠2):SX ks s (d::u) (o::v)=SX ks (BF s d) u (o::v):=by
 unfold SX;obtain⟨c,b,e,J⟩:=lW (x:=v) j;grind[Fq,Wq,Gl,PJ]
def qT{s:MkS}{u v:U'}{a o:Dop}{n:Nat}(ha:Pf a)(j:Pf o)(I:a.AR≠3)(hk:o.AR≠2)(J:n=min (Ah a) (Ah o)) : SX ks s (a::u) (o::v)=SX ks (IM ks s (ER n a) (ER n o)) (CT n (a::u)) (CT n (o::v)):=by
 grind[Pf.DA,Pf.le,Ah,SX,cJ,dC,OH,Lz,Gl,KJ,Tn,Pf.k]
def pZ{s:MkS}{v:U'}{o:Dop}(j:Pf o)(hk:o.AR≠2) : SX ks s [] (o::v)=SX ks (IM ks s ⟨1,Ah o,[],[],[]⟩ o) [] v:=by
 have I:=j.DA;unfold SX;rw[Fq,show CB []=[] from rfl,bP (λc hc=>by rw[(Gl hc).1];exact hk),aAj];congr 1;rw[<-Tn ks s (u:=⟨1,Ah o,[],[],[]⟩) (v:=o) (n:=Ah o) (by simp[Ah]) rfl I j.le (.inl rfl) (by rcases j.k with h|h|h<;>simp_all)];grind[DF,Ah,gL]
theorem jJ{x:U'}:∀{s:MkS},(∀o∈x,Pf o)->(CB x).foldl BF s=x.foldl BF s:=by
 induction x with
 |nil=>intro s _;rfl
 |cons o x j=>
  grind[Fq,PJ]
def vw{s:MkS}{u:U'}(h:∀o∈u,Pf o):SX ks s u []=u.foldl BF s:=by
 grind[SX,CB,EL,jJ]
def QJ(PS:V_->Prop)(PP:W_->Prop)(o:Dop):Prop:=(o.AR=1/\o.AZ=[]/\o.set=[]/\1<=o.n/\PP o.AU)\/(o.AR=3/\o.AZ=[]/\o.set=[]/\o.AU=[]/\1<=o.n)\/ (o.AR=2/\(∀r∈o.AZ,DZ r)/\o.n=0/\o.AU=[]/\o.AZ≠[]/\PS o.set)
theorem Ej(x y:U'):BB (x++y)=BB x+BB y:=by simp[BB]
theorem G0(o:Dop):BB [o]=Ah o:=by simp[BB]
def MJ{x:U'}{o:Dop}(h:o∈x):Ah o<=BB x:=by
 induction x<;>grind[BB]
def aj(i:U')(b o:Dop):(i++[b]).set ((i++[b]).length-1) o=i++[o]:=by
 rw[aAd _ _ E_];simp
section
variable {PS:V_->Prop}{PP:W_->Prop}
theorem Xn{g:Int}(h:∀o∈a,QJ PS PP o/\o.AR=2):∀o∈BS a g,QJ PS PP o:=by
 intro o j;unfold BS at j;split at j;rcases K8.1 j with I|I;grind;simp at I;subst I;exact .inr (.inl ⟨rfl,rfl,rfl,rfl,by simp only;omega⟩);grind
def UD(Aq:U')(g:Int):BB (BS Aq g)=BB Aq+g.toNat:=by
 grind[BS,Ej,G0,Ah]
structure Fk (PS:V_->Prop) (PP:W_->Prop) (s:MkS) (t:Nat):Prop where
 done:∀o∈s.done,QJ PS PP o
 Aq:∀o∈s.Aq,QJ PS PP o/\o.AR=2
 Ar:0<=s.Ar
 Ey:BB s.done+BB s.Aq+s.Ar.toNat<=t
theorem Gm{s:MkS}{t:Nat}{o:Dop}(h:Fk PS PP s t)(j:QJ PS PP o)(ht:t+Ah o<=1099511627776):Fk PS PP (BF s o) (t+Ah o):=by
 obtain⟨done,Aq,Ar⟩:=s;obtain⟨h1,Y,Z,h4⟩:=h;simp only at h1 Y Z h4;obtain⟨k,n,rs,set,p⟩:=o;rcases j with⟨J,N,O,Q,I⟩|⟨J,N,O,Q,I⟩|⟨J,N,O,Q,I,e6⟩;simp only at J N O Q I;subst J;subst N;subst O;simp only[Ah,show ¬(1:Int)=2 by decide,aAW] at ht ⊢;simp only[BF,aAh,FM,By (show ¬n<1 by omega)];have hd:∀o∈done++BS Aq Ar,QJ PS PP o:=by grind[Xn]
 have td:BB (done++BS Aq Ar)<=t:=by rw[Ej,UD];omega
 generalize done++BS Aq Ar=d at hd td ⊢;have new:Fk PS PP ⟨d++[⟨1,n,[],[],p⟩],[],0⟩ (t+n.toNat):=by
  refine⟨λo j=>?_,E_,E_,?_⟩;rcases K8.1 j with h|h;grind;simp at h;subst h;exact .inl ⟨rfl,rfl,rfl,Q,I⟩;grind[Ah,BB]
 unfold GI;rcases l9 d with rfl|⟨i,q,rfl⟩;grind;simp only[aAV,lp,aN,aAK] at *;by_cases e:q.AR=1/\q.AU=p;rw[Ix e];have U:=hd q E_;obtain⟨kq,nq,rq,sq,pq⟩:=q;obtain⟨rfl,rfl⟩:=e;rcases U with⟨V,f2,X,f4,f5⟩|⟨V,_⟩|⟨V,_⟩;simp only at f2 X f4;subst f2;subst X;rw[Ej,G0] at td;simp only[Ah,show ¬(1:Int)=2 by decide,aAW] at td;dsimp only;rw[Lq E E,aj];refine⟨λo j=>?_,E_,E_,?_⟩;rcases K8.1 j with h|h;grind;simp at h;subst h;exact .inl ⟨rfl,rfl,rfl,by simp only;omega,I⟩;grind[Ej,G0,Ah];grind;grind;grind;simp only at J N O Q I;subst J;subst N;subst O;subst Q;simp only[Ah,show ¬(3:Int)=2 by decide,aAW] at ht ⊢;simp only[BF,show ¬(3:Int)=1 by decide,show ¬(3:Int)=2 by decide,aAW,Lv];have:QH n 0=n:=by grind[QH]
 rw[this,Lq E E];exact⟨h1,Y,B_,B_⟩;subst J;subst O;subst Q;simp only[Ah,aAh] at ht ⊢;simp only[BF,show ¬(2:Int)=1 by decide,aAh,aAW,I7,By I];have new:Fk PS PP ⟨done,Aq++[⟨2,0,rs,set,[]⟩],Ar⟩ (t+rs.length):=by
  refine⟨h1,λo j=>?_,Z,?_⟩;rcases K8.1 j with h|h;grind;simp at h;subst h;exact⟨.inr (.inr ⟨rfl,N,rfl,rfl,I,e6⟩),rfl⟩;grind[Ej,G0,Ah]
 unfold Fu;rcases l9 Aq with rfl|⟨i,q,rfl⟩;grind;simp only[aAV,lp,aN,aAK] at *;by_cases e:q.set=set;rw[Ix e];have U:=Y q E_;obtain⟨kq,nq,rq,sq,pq⟩:=q;subst e;obtain⟨U,hk⟩:=U;subst hk;rcases U with⟨V,_⟩|⟨V,_⟩|⟨V,f2,X,f4,f5,f6⟩;grind;grind;subst X;subst f4;rw[aj];refine⟨h1,λo j=>?_,Z,?_⟩;rcases K8.1 j with h|h;grind;simp at h;subst h;exact⟨.inr (.inr ⟨rfl,B_,rfl,rfl,by simp[I],f6⟩),rfl⟩;grind[Ej,G0,Ah];grind
def kI(x:U')(h:∀o∈x,QJ PS PP o)(hb:BB x<=1099511627776):Fk PS PP (BE x) (BB x):=by
 induction x using Hu with
 |h0=>exact⟨by simp[BE,MkS.z],by simp[BE,MkS.z],by simp[BE,MkS.z],by simp[BE,MkS.z,BB]⟩
 |h1 x o j=>
  grind[Ej,G0,Gm,BE]
def dw(x:U')(h:∀o∈x,QJ PS PP o)(hb:BB x<=1099511627776):(∀o∈BJ x,QJ PS PP o)/\BB (BJ x)<=BB x:=by
 obtain⟨h1,J,N,O⟩:=kI x h hb;have j:∀o∈(BE x).done++BS (BE x).Aq (BE x).Ar,QJ PS PP o:=by grind[Xn]
 have I:BB ((BE x).done++BS (BE x).Aq (BE x).Ar)<=BB x:=by rw[Ej,UD];omega
 unfold BJ Sm;generalize (BE x).done++BS (BE x).Aq (BE x).Ar=d at j I;unfold FY;rcases l9 d with rfl|⟨i,q,rfl⟩;grind;simp only[aAV,lp,aN,aAK,aAS] at *;grind[Ej]
end
section
variable {ks:X'}
def E3(ks:X')(l:V_):Prop:=Dg l/\l.length<=64/\∀a∈l,EC a.val/\I8 ks a.key a.val
def EX(ks:X')(p:W_):Prop:=EA p/\p.length<=64/\∀c∈p,(c.Ar=true->c.val=As.zero)/\(c.Ar=false->EC c.val/\I8 ks c.key c.val)/\BW ks c.key≠none
theorem FC{l:V_}:CD ks l=0↔E3 ks l:=by
 unfold CD;constructor;intro h;split at h;cases h;split at h;cases h;rename_i h1 I;refine⟨q8 λj=>h1 (.inl λhr=>j (iB hr)),q8 λj=>h1 (.inr (.inl E)),λa ha=>⟨q8 λj=>h1 (.inr (.inr ⟨a,ha,j⟩)),q8 λj=>I ⟨a,ha,j⟩⟩⟩;rintro⟨h1,I,J⟩;rw[By,By];rintro⟨a,ha,j⟩;grind;rintro(j|j|⟨a,ha,j⟩);exact j (nE h1);omega;grind
theorem FX{l:W_}:De ks l=0↔EX ks l:=by
 unfold De;constructor;intro h;split at h;cases h;split at h;cases h;rename_i h1 J;refine⟨q8 λj=>h1 (.inl λhr=>j (iB hr)),q8 λj=>h1 (.inr (.inl E)),λa ha=>⟨λI=>q8 λj=>h1 (.inr (.inr ⟨a,ha,.inl ⟨I,j⟩⟩)),λI=>⟨q8 λj=>h1 (.inr (.inr ⟨a,ha,.inr ⟨I,j⟩⟩)),q8 λj=>J ⟨a,ha,.inr ⟨I,j⟩⟩⟩,λj=>J ⟨a,ha,.inl j⟩⟩⟩;rintro⟨h1,J,N⟩;rw[By,By];rintro⟨a,ha,j|⟨I,j⟩⟩<;>grind;rintro(j|j|⟨a,ha,⟨I,j⟩|⟨I,j⟩⟩);exact j (nE h1);omega;grind;grind
theorem Im:E3 ks []:=⟨List.Pairwise.nil,E_,E_⟩
theorem Io:EX ks []:=⟨List.Pairwise.nil,E_,E_⟩
def US{id:Int}{k:DKey}(h:BW ks id=some k):id∈ks.map DKey.id:=by
 have h1:=aDK h;simp at h1;exact WJ.2 ⟨k,aCK h,h1⟩
theorem Qf{id:Int}(h:BW ks id≠none):id∈ks.map DKey.id:=by
 grind[BW]
def Nz(I:ks.length<=64){p q:W_}(hp:EX ks p)(j:EX ks q):EX ks (GW p q):=by
 have hm:∀c∈GW p q,(c.Ar=true->c.val=As.zero)/\(c.Ar=false->EC c.val/\I8 ks c.key c.val)/\BW ks c.key≠none:=λc hc=>by
  rcases LZ hc with h|h;exact hp.2.2 c h;exact j.2.2 c h
 have hr:=WZ hp.1 j.1;refine⟨hr,?_,hm⟩;have:=few (key:=Chg.key) (ids:=ks.map DKey.id) hr (by grind[Qf]);grind
def XO(I:ks.length<=64){p:W_}(j:E3 ks s)(hp:EA p)(J:∀c∈p,c.Ar=false->EC c.val/\I8 ks c.key c.val):E3 ks (CF s p):=by
 have hm:∀a∈CF s p,EC a.val/\I8 ks a.key a.val:=λa ha=>by
  rcases KA ha with h|⟨c,hc,N,rfl⟩;exact j.2.2 a h;grind
 have hr:=FZ j.1 hp;refine⟨hr,?_,hm⟩;have:=few (key:=Attr.key) (ids:=ks.map DKey.id) hr λa ha=>by
  obtain⟨k,hk,_⟩:=(hm a ha).2;exact US hk
 grind
def L0(j:ks.length<=64){p:W_}(I:E3 ks s)(hp:EX ks p)(r:Int):E3 ks (IZ ks s p r):=by
 refine XO j I (hp.1.filter _) λc hc J=>(hp.2.2 c (aAb.1 hc).1).2.1 J
abbrev An(ks:X')(o:Dop):Prop:=QJ (E3 ks) (EX ks) o
theorem An.Sc{o:Dop}(h:An ks o)(hl:Ah o<=536870912):Pf o:=by
 rcases h with⟨h1,_,_,j,_⟩|⟨h1,_,_,_,j⟩|⟨h1,_,_,_,j,_⟩;exact⟨.inl h1,by grind[Ah],hl⟩;exact⟨.inr (.inr h1),by grind[Ah],hl⟩;refine⟨.inr (.inl h1),?_,hl⟩;grind[Ah]
theorem An.QA{o:Dop}(h:An ks o)(hl:Ah o<=536870912):HQ o/\E3 ks o.set/\EX ks o.AU:=by
 rcases h with⟨h1,J,j,I,N⟩|⟨h1,J,j,I,N⟩|⟨h1,J,j,I,N,O⟩;simp only[Ah,h1,show ¬(1:Int)=2 by decide,aAW] at hl;exact⟨.inl ⟨h1,J,j,I,E⟩,by rw[j];exact Im,N⟩;simp only[Ah,h1,show ¬(3:Int)=2 by decide,aAW] at hl;exact⟨.inr (.inl ⟨h1,J,j,I,N,E⟩),by rw[j];exact Im,by rw[I];exact Io⟩;simp only[Ah,h1,aAh] at hl;exact⟨.inr (.inr ⟨h1,J,j,I,aAH.2 N,hl⟩),O,by rw[I];exact Io⟩
def HQ.Eo{o:Dop}(h:HQ o)(O:E3 ks o.set)(hp:EX ks o.AU):An ks o/\Ah o<=536870912:=by
 rcases h with⟨h1,j,I,J,N⟩|⟨h1,j,I,J,N,Q⟩|⟨h1,j,I,J,N,Q⟩;exact⟨.inl ⟨h1,j,I,J,hp⟩,by grind[Ah]⟩;exact⟨.inr (.inl ⟨h1,j,I,J,N⟩),by grind[Ah]⟩;exact⟨.inr (.inr ⟨h1,j,I,J,by intro e;rw[e] at N;simp at N,O⟩),by grind[Ah]⟩
theorem HN{x:U'}(h:Bl ks x=0):∀o∈x,An ks o/\Ah o<=536870912:=by
 unfold Bl at h;split at h;cases h
 .split at h;cases h
  .rename_i h1 J;refine λo I=>HQ.Eo (q8 λj=>h1 (.inl ⟨o,I,.inl j⟩)) (FC.1 (q8 λj=>J ⟨o,I,.inl j⟩)) (FX.1 (q8 λj=>J ⟨o,I,.inr j⟩))
def SI{f:Dop->Int}(x:U')(h:∀o∈x,0<=f o/\f o<=Ah o)(hb:BB x<=1099511627776):0<=EF f x/\EF f x<=BB x:=by
 induction x using Hu with
 |h0=>grind[EF]
 |h1 x o j=>
  rw[Ej,G0] at hb ⊢;have I:=j B_ E;grind[EF,Lq]
def kJ{x:U'}(h:∀o∈x,An ks o)(hb:BB x<=536870912):Bl ks x=0:=by
 have N:∀o∈x,HQ o/\E3 ks o.set/\EX ks o.AU:=λo I=>An.QA (h o I) (by have:=MJ I;omega);have j:∀o∈x,0<=o.n:=λo I=>by
  rcases h o I with⟨_,_,_,J,_⟩|⟨_,_,_,_,J⟩|⟨_,_,J,_⟩<;>omega
 have ht:=SI (f:=CU) x (by grind[CU,Ah]) E;have hm:=SI (f:=Cr) x (by grind[Cr,Ah,RP]) E;unfold Bl;rw[By,By];rintro⟨o,I,j|j⟩<;>grind[FC,FX];rintro(⟨o,I,j|j|j⟩|j|j)<;>grind[FC,FX]
theorem cX{o u:Dop}(h:An ks o)(hu:u∈DF o):An ks u/\Ah u=1:=by
 rcases h with⟨h1,J,j,I,N⟩|⟨h1,J,j,I,N⟩|⟨h1,J,j,I,N,O⟩;simp only[DF,h1,show ¬(1:Int)=2 by decide,aAW] at hu;rw[aCR] at hu;rw[hu.2];exact⟨.inl ⟨rfl,rfl,j,by simp only;omega,N⟩,rfl⟩;simp only[DF,h1,show ¬(3:Int)=2 by decide,aAW] at hu;rw[aCR] at hu;rw[hu.2];exact⟨.inr (.inl ⟨rfl,rfl,j,I,by simp only;omega⟩),rfl⟩;simp only[DF,h1,aAh,WJ] at hu;obtain⟨r,hr,rfl⟩:=hu;exact⟨.inr (.inr ⟨rfl,by simpa using J r hr,rfl,I,E_,O⟩),by simp[Ah]⟩
def M0{x:U'}(h:∀o∈x,An ks o):∀u∈CB x,An ks u/\Ah u=1:=by
 grind[CB,cX]
def cE(I:ks.length<=64){u c z:Dop}(hu:An ks u/\Ah u=1)(hc:An ks c/\Ah c=1)(j:z∈Ez ks u c):An ks z/\Ah z=1:=by
 unfold Ez at j;split at j;split at j;grind;split at j;simp at j;subst j;refine⟨.inl ⟨rfl,rfl,rfl,(show(1:Int)<=1 by decide),?_⟩,rfl⟩;rcases hu.1 with⟨_,_,_,_,hp⟩|⟨h,_⟩|⟨h,_⟩;rcases hc.1 with⟨_,_,_,_,J⟩|⟨h,_⟩|⟨h,_⟩;exact Nz I hp J;omega;omega;omega;omega;grind;split at j;simp at j;rcases hc.1 with⟨_,_,_,_,J⟩|⟨h,_⟩|⟨h,_⟩;rcases hu.1 with⟨h,_⟩|⟨h,N,O,V,Q⟩|⟨_,N,_,_,Q,U⟩;omega;subst j;refine⟨.inr (.inr ⟨rfl,?_,rfl,rfl,E_,?_⟩),by simp[Ah]⟩;grind[DZ];rw[O];exact L0 I Im J _;subst j;refine⟨.inr (.inr ⟨rfl,?_,rfl,rfl,E_,L0 I U J _⟩),by simp[Ah]⟩;cases e:u.AZ<;>grind;omega;omega;grind
theorem gH{one:Dop->Dop->U'}(h:∀u c,(one u c).length<=1):∀{b a:U'},(EL one a b).length<=a.length+b.length:=by
 intro b;induction b<;>grind[EL,List.takeWhile_append_dropWhile]
theorem Po{x:U'}(h:∀o∈x,Ah o=1):BB x=x.length:=by
 induction x<;>grind[BB]
def Lb(ks:X')(x y:U'):U':=BJ (EL (Ez ks) (CB x) (CB y))
def iM(j:ks.length<=64){x y:U'}(J:∀o∈x,An ks o)(N:∀o∈y,An ks o):(∀z∈EL (Ez ks) (CB x) (CB y),An ks z/\Ah z=1)/\BB (EL (Ez ks) (CB x) (CB y))<=BB x+BB y:=by
 have h1:=M0 J;have O:=M0 N;have I:∀z∈EL (Ez ks) (CB x) (CB y),An ks z/\Ah z=1:=by
  intro z I;rcases SB I with h|h|⟨u,c,hu,hc,_,h⟩;grind;grind
  .refine cE j ?_ (O c hc) h;rcases hu with hu|rfl;grind;exact⟨.inl ⟨rfl,rfl,rfl,C0,Io⟩,rfl⟩
 grind[Po,T8,gH,Ez]
end
def tW{t e k bytes:Nat}{R:c_->U_->α->Prop}{v x:b_}{l m:List α}(O:DD P t e k bytes)(h:AB w0.heap.size e k R w v l)(N:AG w0 w)(Q:Al S k R w x m) (j:∀r y,R w r y->∀u∈r,u.oneCell'=true)(Z:∀U w2 r y,R U r y->R w2 r y)(I:(l.length+m.length)*bytes<=140737488355328)(J:l.length+m.length<=maxLen) (V:∀v' w',AB w0.heap.size e k R w' v' (l++m)->AG w0 w'->K v' w'):runK P (Builtin.append_ #[t,t] t [v,x].toArray) K w:=by
 obtain⟨v',w',h1,X,Y,_⟩:=AB.append (ty:=t) O h Q j I N.size J B_;exact AY h1 (V v' w' X (N.next (AF.BO Y) λb hb e=>by have:=(AB.Am h b e).1;omega))
def Hm(P1:b_)(w4 W:c_)(ov:b_):Prop:=AF (λb=>P1.ownBlock=some b) w4 W/\∀b,ov.ownBlock=some b->P1.ownBlock=some b\/w4.heap.size<=b
section
variable {P1 ov v':b_}{w w4 W W':c_}
def Hm.start:Hm ov w4 w4 ov:=⟨AF.refl _ _,K_⟩
def Hm.S_(h:Hm P1 w4 W ov)(g:AG W W'):Hm P1 w4 W' ov:=⟨h.1.next g G_,h.2⟩
def Hm.push(h:Hm P1 w4 W ov)(m:AF (λb=>ov.ownBlock=some b) W W')(j:∀g,v'.ownBlock=some g->ov.ownBlock=some g\/W.heap.size<=g):Hm P1 w4 W' v':=
 ⟨h.1.next m λb hb e=>by rcases h.2 b e with e | e <;> grind,λb hb=>by
  rcases j b hb with e | e;exact h.2 b e;exact .inr (py h.1.size e)⟩
def Hm.g(h:Hm P1 w4 W ov)(g:AG w w4)(j:∀b,P1.ownBlock=some b->w.heap.size<=b):AG w W:=g.next h.1 B_
end
theorem GA{l:List α}{i:Nat}(h:i<l.length):l.drop i=l[i]::l.drop (i+1):=y8 h
def pj{p q:W_}(hp:DY S w v p)(hq:DY S' w sv q)(hb:p.length+q.length<=1099511627776) : l_ 369 [v,sv] (λv' w'=>AB w.heap.size 80 6 CO w' v' (GW p q)/\AG w w') w:=by
 refine H_ func369 ?_ (.y (.y (.y (.x (.y (.node [5,6,11] [(5,6),(8,8),(11,50)] (.y (.y (.x (.y (.cut [5,6] [(5,6),(15,45)] (.node [5,6] [(5,6),(15,45)] (.cut [] [(15,28)] (.x .Ec) (.x (.x .Ec))) .nil) .nil))))) .nil))))));obtain⟨pa,pc,rfl,_⟩:=hp.AK;obtain⟨qa,qc,rfl,_⟩:=hq.AK;rw[AO];refine Aa (λvs W=>∃(k i:Nat) (J:b_) (out:W_),k<=q.length/\i<=p.length/\vs=[J,zIq i,zIq k]/\AB w.heap.size 80 6 CO W J out/\AG w W/\out.length+(p.length-i)+(q.length-k)<=p.length+q.length/\out++GW (p.drop i) (q.drop k)=GW p q) (λvs _=>q.length-Da vs 2) ⟨0,0,_,[],E,E,rfl,AB.nil,AF.refl _ _,E_,rfl⟩ ?_;rintro vs W ⟨k,i,P1,out,hk,hi,rfl,Q,g,I,he⟩ _;simp only[Ha];refine Cn (λZ=>?_) λaa=>?_;have N:k<q.length:=E;obtain⟨a,r,rfl,_,hr,hc,rfl⟩:=(hq.S_ g C0 C_).get N;refine AV N (AX hr (by grind[Addr.add_add]) ?_);refine BA (vs:=q[k].cells) rfl rfl (CO.one (w:=W) (x:=q[k]) rfl) λb8 w4 an av g4 a1 _=>?_;have a6:=g.trans g4;have hB:∀b,P1.ownBlock=some b->w.heap.size<=b:=λb e=>(AB.Am Q b e).1;have h8:P1.ownBlock≠some b8:=by grind[AB.Am]
 have ak:AB w.heap.size 80 6 CO w4 P1 out:=AB.T_ Q g4 C_ E';rw[GA N] at he;simp[GW] at he;refine AT (λvs W=>∃(i:Nat) (J:b_) (out:W_),i<=p.length/\vs=[J,zIq i]/\AB w.heap.size 80 6 CO W J out/\Hm P1 w4 W J/\out.length+(p.length-i)+(q.length-k)<=p.length+q.length/\out++q[k]::GW (p.drop i) (q.drop (k+1))=GW p q) ?_ ?_;rintro vs W ⟨i,J,out,hi,rfl,Q,U,I,he⟩ _;simp only[HK,aAc];apply AX (vs:=q[k].cells) rfl (λj u hu=>U.1.cell (a1 j u hu) (by grind[Ai]));refine LP (w0:=w) GR Q (U.g a6 hB) (cs:=q[k].cells) (x:=q[k]) D_ rfl rfl (λ_ _ _=>CO.one) B_ E M' λv' w' o' g'=>?_;rw[AQ,AL E];refine⟨⟨k+1,i,v',out++[q[k]],N,hi,rfl,o',g',B_,B_⟩,?_⟩;show q.length-((k+1:Nat):Int).toNat<q.length-(k:Int).toNat;omega;refine Aa (λvs W=>∃(i:Nat) (J:b_) (out:W_),i<=p.length/\vs=[J,zIq i]/\AB w.heap.size 80 6 CO W J out/\Hm P1 w4 W J/\out.length+(p.length-i)+(q.length-k)<=p.length+q.length/\out++H7 q[k] (p.drop i)++q[k]::GW (Er q[k] (p.drop i)) (q.drop (k+1))=GW p q) (λvs _=>p.length-Da vs 1) ⟨i,P1,out,hi,rfl,ak,Hm.start,I,B_⟩ ?_;rintro vs W1 ⟨i,J,out,hi,rfl,Q,U,I,he⟩ _;have V:=U.g a6 hB;have c8:=U.1.cell (a1 0 _ rfl) (by grind[Ai]);simp only[HK,aAc];refine AT (λ_ W=>∃hl:i<p.length,AG W1 W/\p[i].key<=q[k].key) ?_ ?_;rintro _ W2 ⟨hl,O,ax⟩ _;obtain⟨a,r,e,_,hr,hc,hx⟩:=(hp.S_ (V.trans O) C0 C_).get hl;subst hx;cases e;have eL:H7 q[k] (p.drop i)=(if p[i].key<q[k].key then p[i]::H7 q[k] (p.drop (i+1)) else H7 q[k] (p.drop (i+1))):=by
  grind[GA,H7]
 have eH:Er q[k] (p.drop i)=Er q[k] (p.drop (i+1)):=by
  grind[GA,Er]
 rw[eL,eH] at he;apply DL (AG W2) (AF.drew _ _);apply AV hl;rw[AE,Addr.add_add];apply BC (λW X=>X.cell (hc 0 _ rfl) F_);rw[AE];apply BC (λW X=>X.cell (O.cell c8 F_) F_);rw[DX];intro W3 g7;have a7:AB w.heap.size 80 6 CO W3 J out:=AB.T_ Q (O.trans g7) C_ E';refine Ae (λZ=>?_) λal=>?_;refine AV hl (AX hr (by grind[Addr.add_add,AF.cell]) ?_);refine Dv GR a7 ((V.trans O).trans g7).size (cs:=p[i].cells) (x:=p[i]) D_ rfl rfl (λ_ _ _=>CO.one) B_ E (by simp[maxLen];omega) λv' w' o' m' Y=>?_;rw[Ix Z] at he;rw[AQ,AL E];refine⟨⟨i+1,v',out++[p[i]],hl,rfl,o',((U.S_ O).S_ g7).push m' Y,B_,B_⟩,by grind[BV]⟩;rw[By al] at he;rw[AQ,AL E];exact⟨⟨i+1,J,out,hl,rfl,a7,(U.S_ O).S_ g7,E,he⟩,by grind[BV]⟩;apply DL (AG W1) (AF.drew _ _);rw[AO];refine Cn (λhl=>?_) λaa=>?_;have a8:i<p.length:=E;obtain⟨a,r,e,_,hr,hc,hx⟩:=(hp.S_ V C0 C_).get a8;subst hx;cases e;apply AV a8;rw[AE,Addr.add_add];apply BC (λW X=>X.cell (hc 0 _ rfl) F_);rw[AE];apply BC (λW X=>X.cell c8 F_);rw[Py];refine λW2 O=>Ae B_ λay=>?_;have eL:H7 q[k] (p.drop i)=[]:=by grind[GA,H7]
 have eH:Er q[k] (p.drop i)=p.drop i:=by grind[GA,Er]
 rw[eL,eH,aO] at he;exact⟨i,J,out,hi,rfl,AB.T_ Q O C_ E',U.S_ O,I,he⟩;intro W2 O;have e:p.drop i=[]:=aA4 E;rw[e] at he;simp[H7,Er,aO] at he;exact⟨i,J,out,hi,rfl,AB.T_ Q O C_ E',U.S_ O,I,B_⟩;obtain rfl:k=q.length:=E;rw[aAv] at he;simp[GW] at he;refine FW (e:=80) (k:=6) (i:=Tryz.t80) D_ D_ D_ (hp.S_ g C0 C_) hi λv' Y=>?_;refine tW (w0:=w) GR Q g Y (λ_ _=>CO.one (w:=W)) B_ B_ (by simp[maxLen,I3];omega) λb0 w' o' g'=>?_;grind
def QV{p:W_}(hs:Bo S w sv s)(hp:DY S' w v p)(hb:s.length+p.length<=1099511627776) : l_ 128 [sv,v] (λv' w'=>Kh w.heap.size w' v' (CF s p)/\AG w w') w:=by
 refine H_ func128 ?_ (.y (.y (.y (.y (.x (.y (.node [5,6,11] [(5,6),(8,8),(11,70)] (.y (.y (.cut [5,6] [(5,6),(8,8),(13,69)] (.y (.x (.node [5,6] [(5,6),(15,58)] (.y (.x (.cut [5,6] [(5,6),(21,47)] (.z .Ec (.y (.x .Ec))) .nil))) .nil))) .nil))) .nil)))))));obtain⟨sa,sc,rfl,_⟩:=hs.AK;obtain⟨pa,pc,rfl,_⟩:=hp.AK;rw[AO];refine Aa (λvs W=>∃(k i:Nat) (N:b_) (out:V_),k<=p.length/\i<=s.length/\vs=[N,zIq i,zIq k]/\Kh w.heap.size W N out/\AG w W/\out.length+(s.length-i)+(p.length-k)<=s.length+p.length/\out++CF (s.drop i) (p.drop k)=CF s p) (λvs _=>p.length-Da vs 2) ⟨0,0,_,[],E,E,rfl,AB.nil,AF.refl _ _,E_,rfl⟩ ?_;rintro vs W ⟨k,i,P1,out,hk,hi,rfl,U,g,I,he⟩ _;simp only[Ha];refine Cn (λa6=>?_) λav=>?_;have Q:k<p.length:=E;rw[GA Q] at he;refine AT (λvs W=>∃(i:Nat) (N:b_) (out:V_),i<=s.length/\vs=[N,zIq i]/\Kh w.heap.size W N out/\AG w W/\out.length+(s.length-i)+(p.length-(k+1))<=s.length+p.length/\out++CF (s.drop i) (p.drop (k+1))=CF s p) ?_ ?_;rintro vs W ⟨i,N,out,hi,rfl,U,Z,I,he⟩ _;simp only[HK,aAc];rw[AQ,AL E];refine⟨⟨k+1,i,N,out,Q,hi,rfl,U,Z,I,he⟩,?_⟩;show p.length-((k+1:Nat):Int).toNat<p.length-(k:Int).toNat;omega;obtain⟨a,r,rfl,_,hr,hc,rfl⟩:=(hp.S_ g C0 C_).get Q;refine AV Q (AX hr (by grind[Addr.add_add]) ?_);refine BA (vs:=p[k].cells) rfl rfl (CO.one (w:=W) (x:=p[k]) rfl) λb8 w4 cc cq g4 aa _=>?_;have ak:=g.trans g4;have hB:∀b,P1.ownBlock=some b->w.heap.size<=b:=λb e=>(AB.Am U b e).1;have h8:P1.ownBlock≠some b8:=by grind[AB.Am]
 have ax:Kh w.heap.size w4 P1 out:=AB.T_ U g4 C_ E';have put:∀(i:Nat) (N:b_) (out:V_) (W1:c_),Kh w.heap.size W1 N out->Hm P1 w4 W1 N->i<=s.length->out.length+(s.length-i)+(p.length-k)<=s.length+p.length->out++O0 p[k]++CF (s.drop i) (p.drop (k+1))=CF s p->
   (BX 1 (e_ b8) λay=>BR ay (λb0 w8=>MU b0 λc7=>Af c7
    (BX 0 (e_ b8) λb6=>BR b6 (λc9 w9=>BX 2 (e_ b8) λb7=>DJ 4 b7 (λca b9=>
     DQ [(0,1),(1,4)] [(zIq 0),(.int .u8 0),(zIq 0),(.int .u64 0),(.string (ByteArray.mk #[]))] [(0,c9),(1,ca)] λba=>
     EE 143 5 1 [(zIq 0),(.int .u8 0),(zIq 0),(.int .u64 0),(.string (ByteArray.mk #[]))] [(0,ba)] (λbb bk=>
     runK prog (Builtin.append_ #[47,47] 47 [N,bb].toArray) (λbl al=>
      ∃ (V:Nat) (X:b_) (J:V_),V<=s.length/\[bl,zIq (i:Int)]=[X,zIq (V:Int)]/\Kh w.heap.size al X J/\AG w al/\J.length+(s.length - V)+(p.length - (k+1))<=s.length+p.length/\J++CF (s.drop V) (p.drop (k+1))=CF s p) bk) b9) w9) w8)
    (∃ (V:Nat) (X:b_) (J:V_),V<=s.length/\[N,zIq (i:Int)]=[X,zIq (V:Int)]/\Kh w.heap.size w8 X J/\AG w w8/\J.length+(s.length - V)+(p.length - (k+1))<=s.length+p.length/\J++CF (s.drop V) (p.drop (k+1))=CF s p)) W1):=by
  intro i N out W1 U Z hi I he;have c8:∀j u,p[k].cells[j]?=some u->W1.cell? ((⟨b8,0,none⟩:Addr).add j)=some u:=λj u hu=>Z.1.cell (aa j u hu) (by grind[Ai]);rw[AE];apply AI (c8 1 _ rfl);rw[Aj];have a1:=Z.g ak hB;cases hg:p[k].Ar with
  |true=>
   apply AM;rw[O0,hg,Ix rfl,aO] at he;grind
  |false=>
   apply Ab;rw[O0,hg,By C0] at he;rw[AE];apply AI (c8 0 _ rfl);rw[AE];apply AX (vs:=p[k].val.cells) rfl (λj u hu=>by rw[Addr.add_add];exact c8 (2+j) u (by rw[aCZ];exact hu));refine⟨(⟨p[k].key,p[k].val⟩:Attr).cells.toArray,D_,?_⟩;refine LP (w0:=w) GC U a1 (cs:=(⟨p[k].key,p[k].val⟩:Attr).cells) (x:=⟨p[k].key,p[k].val⟩) D_ rfl rfl (λ_ _ _=>CC.one) B_ E (by simp[maxLen];omega) λv' w' o' g'=>?_;exact⟨i,v',_,hi,rfl,o',g',B_,he⟩
 apply Aa (λvs W=>∃(i:Nat) (N:b_) (out:V_),i<=s.length/\vs=[N,zIq i]/\Kh w.heap.size W N out/\Hm P1 w4 W N/\out.length+(s.length-i)+(p.length-k)<=s.length+p.length/\out++(Jh p[k] (s.drop i)++O0 p[k]++CF (E8 p[k] (s.drop i)) (p.drop (k+1)))=CF s p) (λvs _=>s.length-Da vs 1) ⟨i,P1,out,hi,rfl,ax,Hm.start,I,he⟩;rintro vs W1 ⟨i,N,out,hi,rfl,U,Z,I,he⟩ _;have a1:=Z.g ak hB;have c8:=Z.1.cell (aa 0 _ rfl) (by rw[Ai];exact h8);simp only[HK,aAc];rw[AO];refine Cn (λhl=>?_) λav=>?_;have O:i<s.length:=E;rw[GA O] at he;simp[Jh,E8] at he;refine AT (λvs W=>∃(i:Nat),i<=s.length/\vs=[N,zIq i]/\AG W1 W/\out.length+(s.length-i)+(p.length-k)<=s.length+p.length/\out++O0 p[k]++CF (s.drop i) (p.drop (k+1))=CF s p) ?_ ?_;rintro vs W2 ⟨V,bp,rfl,Y,a7,bs⟩ _;simp only[HK,aAc];exact put V N out W2 (AB.T_ U Y C_ E') (Z.S_ Y) bp a7 bs;obtain⟨a,r,e,_,hr,hc,hx⟩:=(hs.S_ a1 C0 C_).get O;subst hx;cases e;apply DL (AG W1) (AF.drew _ _);apply AV O;rw[AE,Addr.add_add];apply BC (λW hW=>hW.cell (hc 0 _ rfl) F_);rw[AE];apply BC (λW hW=>hW.cell c8 F_);rw[DX];intro W2 Y;have bx:Kh w.heap.size W2 N out:=AB.T_ U Y C_ E';refine Ae (λa6=>?_) λan=>?_;rw[Ix a6,Ix a6] at he;refine AV O (AX hr (λj u hu=>by rw[Addr.add_add];exact Y.cell (hc j u hu) F_) ?_);refine Dv GC bx (a1.trans Y).size (cs:=s[i].cells) (x:=s[i]) D_ rfl rfl (λ_ _ _=>CC.one) B_ E (by simp[maxLen];omega) λv' w' o' m' a8=>?_;rw[AQ,AL E];refine⟨⟨i+1,v',out++[s[i]],O,rfl,o',(Z.S_ Y).push m' a8,by simp only[Bp,cO,aAu];omega,by rw[<-he];simp⟩,by rw[BV,BV];omega⟩;rw[By an,By an] at he;apply DL (AG W2) (AF.drew _ _);apply AV O;rw[AE,Addr.add_add];apply BC (λW hW=>hW.cell (Y.cell (hc 0 _ rfl) F_) F_);rw[AE];apply BC (λW hW=>hW.cell (Y.cell c8 F_) F_);rw[CI];refine λW3 g7=>Ae (λc4=>?_) λc6=>?_;rw[Ix c4] at he;rw[AQ,AL E];exact⟨i+1,O,rfl,Y.trans g7,E,B_⟩;rw[By c6] at he;exact⟨i,hi,rfl,Y.trans g7,I,by rw[GA O,<-he];simp⟩;have e:s.drop i=[]:=aA4 E;rw[e] at he;simp only[Jh,E8,aAP] at he;exact put i N out W1 U Z hi I B_;obtain rfl:k=p.length:=E;rw[aAv] at he;simp[CF] at he;refine FW (e:=143) (k:=5) (i:=Tryz.t143) D_ D_ D_ (hs.S_ g C0 C_) hi λv' a8=>?_;refine tW (w0:=w) GC U g a8 (λ_ _=>CC.one (w:=W)) B_ B_ (by simp[maxLen,I3];omega) λcu w' o' g'=>?_;grind
section
variable {F C:d_}{W:c_}{b bt:Nat}{L:List V_}
def uz(h:Ep BN.toAvT F C W b bt L):l_ 162 [e_ b] (λv' w'=>v'=zIq (L.length:Int)/\AG W w') W:=by
 apply AA (SF Gn h);grind[BN,LN]
def mh{k m:Nat}{p:W_}(h:Ep BN.toAvT F C W b bt L)(N:k<=m)(hm:m<=L.length)(hl:L.length<=536870912)(hs:∀x∈L,x.length*48<=140737488355328)(hp:DY S W v p)(hb:∀x∈L,x.length+p.length<=1099511627776) : l_ 156 [e_ b,zIq (k:Int),zIq (m:Int),v] (λv' w'=>v'=zIq 0/\∃F' C',(∀x,F x->F' x)/\(∀x,C x->C' x)/\(∀x,F' x->F x\/W.heap.size<=x)/\(∀x,C' x->C x\/W.heap.size<=x)/\Ep BN.toAvT F' C' w' b bt (L.take k++((L.take m).drop k).map (λx=>CF x p)++L.drop m)/\AF F W w') W:=by
 refine N_ func156 ?_ (.y (.y (.y (.x (.y (.node [24] [(11,11),(24,36)] .nil .nil))))));apply AA (Ut h N hm hl hs);rintro _ O ⟨U,W0,rfl,gA,Z,o⟩;apply BD;refine neP (λ_=>?_) λe=>(e rfl).elim;have zA:=gA.size;have zB:=Z.size;have hF:=h.lt;have Q:=gA.trans Z;generalize hX:(L.take m).drop k=X at *;have b6:X.length<=L.length:=B_;have b7:∀x∈X,x∈L:=B_;have a6:=hp.JW C0;have HA:∀(I:c_) (Y:d_),(∀x,Y x->W0.heap.size<=x/\U.ownBlock≠some x)->AB W0.heap.size 47 1 (Cu Y) I U (X.map λx=>CF x p)->AF (λx=>U.ownBlock=some x) O I->
   l_ 142 [e_ b] (λa7 w6=>l_ 190 [a7,zIq (k:Int),zIq (m:Int),U] (λ_ w'=>(zIq 0:b_)=zIq 0/\∃F' C',(∀x,F x->F' x)/\(∀x,C x->C' x)/\(∀x,F' x->F x\/W.heap.size<=x)/\(∀x,C' x->C x\/W.heap.size<=x)/\Ep BN.toAvT F' C' w' b bt (L.take k++X.map (λx=>CF x p)++L.drop m)/\AF F W w') w6) I:=by
  intro I Y b8 o2 m2;have z2:=m2.size;have a8:=AB.Am o;have b0:=AB.Am o2
  let C':d_:=λx=>C x\/(Y x/\x<I.heap.size)
  have h2:Ep BN.toAvT F C I b bt L:=(h.S_ Q).T_ m2 B_;have h4:Ep BN.toAvT F C' I b bt L:=h2.sub (λx J=>.inl J) (λx J e=>by
    rcases e with e | e;exact h.NO x J e;grind) B_
  have o4:AB W0.heap.size 47 1 (Cu C') I U (X.map λx=>CF x p):=AB.T_ o2 j0 C_ λr y _ hy=>BN.rsub hy B_;have er:=Ni L (X.map λx=>CF x p) N;have aa:(X.map λx=>CF x p).length=X.length:=Nn _;have ak:(TZ.CV L k m (X.map λx=>CF x p)).length<=1099511627776:=by rw[er];simp only[Bp,S5,I3,aa];omega
  apply AA (Fm Gn h4);rintro _ w3 ⟨rfl,e3⟩;subst e3;refine AA (Mw (aA (g:=BN)) (L:=X.map λx=>CF x p) h4 (by rw[show Tr.sz BN.toAvT.k.μ L=L.length from LN L];omega) o4.sl B_ N E (Oq E) (Oq (l:=TZ.CV L k m (X.map λx=>CF x p)) ak) (by grind[Oq,toList_le,List.length_append])) ?_;rintro _ w5 ⟨F',k1,k2,k3,k4⟩;have al:BN.toAvT.k.CV L k m (X.map λx=>CF x p)=L.take k++X.map (λx=>CF x p)++L.drop m:=er;rw[al] at k3;obtain⟨A,T,t1,t2,t3,t4,t5⟩:=k3.FR;refine⟨rfl,F',C',k1,λx J=>.inl J,B_,B_,E,((Q.next m2 λx J e=>by have:=(a8 x e).1;omega).mono G_).trans k4⟩
 obtain⟨a1,c1,rfl,b9,ba,hq,hn⟩:=AB.AK o;rw[AO];cases a1 with
 |none=>
  have:=hn rfl;subst this;apply Aa (λvs I=>vs=[zIq 0]/\I=O) (λ_ _=>0) ⟨rfl,rfl⟩;rintro vs _ ⟨rfl,rfl⟩ _;rename c_=>O;rw[Bh,HK];exact Cn (λh=>by simp at h) λ_=>HA O (λ_=>False) L_ (AB.T_ (R':=Cu λ_=>False) o j0 C_ B_) (AF.refl _ _)
 |some p1=>
  obtain⟨g,rfl,an,bb,_⟩:=hq _ rfl;refine aG (W0:=W0) (call:=λsv K W'=>l_ 128 [sv,v] K W') (M:=X.map λx=>CF x p) (Nn _) E an Z o B_ (λj q1 q2 sv W' K av ax hK=>?_) λw' oM mm=>?_;have bk:=av.size;have ay:DY (λx=>S x/\x<W.heap.size) W' v p:=Al.mono (Al.mono (R':=CO) (w':=O) a6 C_ (by grind[AF.Ak]) C0 C_) C_ (by grind[AF.Ak]) C0 C_;refine AA (QV ax ay B_) ?_;grind;refine HA w' _ (λx J=>⟨J.1,λe=>?_⟩) oM B_;grind
end
end Go.Proofs.YtjdgbcdfgnajlaaGreatDoor
