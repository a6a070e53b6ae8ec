/- parts of the proof, written short by a program of ours -/
import Derived.Test.YtjdgbcdfgnajlaaGreatDoorZZZ5
set_option linter.all false
set_option maxRecDepth 100000
namespace Go.Proofs.YtjdgbcdfgnajlaaGreatDoor
open Go Proofs.Tryz
variable {e c B bt:Nat}{S F C M S':d_}{w W w' W':c_}{v sv fr xv:b_}{α:Type}{rs:V'}{ks:X'}{s:V_}{K:Cont}{P:Program}{yo xo:Operand}
def vV:l_ 56 [] (λv' w'=>∃b,v'=e_ b/\W.heap.size<=b/\Bx w' b [.pointer none]/\AG W w') W:=by
 refine O_ func56 ?_;refine⟨[Value.pointer none].toArray,D_,?_⟩;exact Bx.box B_
def uB:l_ 57 [] (λv' w'=>∃b,v'=e_ b/\W.heap.size<=b/\Bx w' b [.pointer none]/\AG W w') W:=by
 refine O_ func57 ?_;refine⟨[Value.pointer none].toArray,D_,?_⟩;exact Bx.box B_
def uX:l_ 58 [] (λv' w'=>∃b,v'=e_ b/\W.heap.size<=b/\Bx w' b [.pointer none]/\AG W w') W:=by
 refine O_ func58 ?_;refine⟨[Value.pointer none].toArray,D_,?_⟩;exact Bx.box B_
def Xs{b:Nat}(j:Bx W b [.pointer none]) : l_ 144 [e_ b,zIq 0] (λv' w'=>v'=.tuple #[zIq 0,zIq 0]/\∃bt F,Ep BH.toAvT F JB w' b bt []/\(∀x,F x->x=b\/W.heap.size<=x)/\AF (λx=>x=b) W w') W:=by
 refine H_ func144 ?_;have I:=j.lt (P9 _);refine AA (K:=λv' w'=>v'=zIq 0/\∃bt F,Ep BH.toAvT F JB w' b bt []/\(∀x,F x->x=b\/W.heap.size<=x)/\AF (λx=>x=b) W w') ?_ ?_;apply Fz.bet;unfold oh;refine Dq (AM ?_);refine Cn E λ_=>?_;refine gtP E λ_=>?_;refine AA (gk (g:=BH.toAvT) (C:=JB) Fz j F_ L_) ?_;rintro _ J ⟨rfl,h⟩;exact gtP E B_;rintro _ J ⟨rfl,bt,F,h,hF,U⟩;refine neP (λ_=>?_) λe=>(e rfl).elim;apply AA (Fm Fz h);rintro _ _ ⟨rfl,rfl⟩;obtain⟨A,T,N,O,V,X,Y⟩:=h.FR;apply AA (Xr (p:=0) N O (Lc _) (by grind[Sr]));rintro _ Z ⟨rfl,Q⟩;refine⟨B_,bt,F,h.S_ Q,hF,(by grind[AF.next])⟩
def XL{S D:d_}{b:Nat}{R:List V_}(hB:Bx W b [.pointer none])(hl:R.length<=536870912)(hv:Al S 1 (Cu D) W v R)(hS:∀x,S x\/D x->x≠b)(hs:∀x∈R,x.length*48<=140737488355328) : l_ 107 [e_ b,zIq 0,v] (λv' w'=>v'=zIq 0/\∃bt F' C',(∀x,F' x->x=b\/W.heap.size<=x)/\(∀x,C' x->W.heap.size<=x)/\Ep BN.toAvT F' C' w' b bt R/\AF (λx=>x=b) W w') W:=by
 refine J_ func107 ?_;have a1:=hB.lt (P9 _);refine AA (K:=λv' w'=>v'=zIq 0/\∃bt F,Ep BN.toAvT F JB w' b bt []/\(∀x,F x->x=b\/W.heap.size<=x)/\AF (λx=>x=b) W w') ?_ ?_;apply Gn.bet;unfold oh;refine Dq (AM ?_);refine Cn E λ_=>?_;refine gtP E λ_=>?_;refine AA (gk (g:=BN.toAvT) (C:=JB) Gn hB F_ L_) ?_;rintro _ w1 ⟨rfl,h⟩;exact gtP E B_;rintro _ w1 ⟨rfl,bt,F,h1,hF,m1⟩;refine neP (λ_=>?_) λe=>(e rfl).elim;obtain⟨a,c,rfl,_⟩:=hv.AK;have N:∀M:List V_,Tr.sz BN.toAvT.k.μ M=M.length:=LN;rw[AO];apply AA (SF Gn h1);rintro _ J ⟨rfl,g2⟩;rw[N,A6,wrap64 E_ E_,Hj];refine Ae (λe=>by simp only[aAu] at e;omega) λ_=>?_;have O:=h1.S_ g2;apply AA (Fm Gn O);rintro _ w3 ⟨rfl,e3⟩;subst e3;rename c_=>J;have z1:=m1.size;have z2:=g2.size;have I:AF (λx=>x=b) W J:=by grind[AF.next]
 have Q:Al (λx=>(S x/\x<W.heap.size)/\x≠b) 1 (Cu λx=>(D x/\x<W.heap.size)/\x≠b) J (.slice a R.length c) R:=Al.mono (hv.JW C0) B_ (by grind[AF.Ak]) C0 λr x U=>BN.Bw (BN.rsub U B_) I E;refine AA (OY Q E hs) ?_;rintro v4 w4 ⟨o4,V⟩;have z4:=V.size;have a6:=O.lt
 let C':d_:=λx=>J.heap.size<=x/\x<w4.heap.size/\v4.ownBlock≠some x
 have h4:Ep BN.toAvT F C' w4 b bt []:=(O.S_ V).sub L_ B_ λx e=>e.2.1;have X:AB J.heap.size 47 1 (Cu C') w4 v4 R:=AB.T_ o4 j0 C_ λr y _ hy=>BN.rsub hy B_;have Y:=Ni [] R (DN 0);simp only[List.take_nil,List.drop_nil,aAP,aO] at Y;refine AA (Mw (aA (g:=BN)) (i:=0) (j:=0) (L:=R) h4 B_ X.sl B_ (DN 0) E (by grind[Oq]) (Oq (l:=TZ.CV [] 0 0 R) (by rw[Y];omega)) (by grind[Oq])) ?_;rintro _ w5 ⟨F',k1,k2,k3,k4⟩;have Z:BN.toAvT.k.CV [] 0 0 R=R:=Y;rw[Z] at k3;refine⟨rfl,bt,F',C',λx U=>?_,E,k3,(I.next V G_).next k4 λx U e=>?_⟩;grind;rcases hF x e with e|e;exact e;omega
theorem FI(g o x:Nat):(⟨g,o,none⟩:Addr).add x=⟨g,o+x,none⟩:=by unfold Addr.add;grind
def ao{g off:Nat}:∀(vs:U_) (q:Nat) (W:c_),(∀j,q<=j->j<q+vs.length->Bg W ⟨g,off+j,none⟩)->AF (λx=>x=g) W (Fj W ⟨g,off,none⟩ q vs)/\(∀j u,vs[j]?=some u->(Fj W ⟨g,off,none⟩ q vs).cell? ⟨g,off+q+j,none⟩=some u)/\(∀j,(j<off+q\/off+q+vs.length<=j)->(Fj W ⟨g,off,none⟩ q vs).cell? ⟨g,j,none⟩=W.cell? ⟨g,j,none⟩)/\(∀a,Bg W a->Bg (Fj W ⟨g,off,none⟩ q vs) a):=by
 intro vs;induction vs with
 |nil=>intro q W _;exact⟨AF.refl _ _,B_,I',M_⟩
 |cons x vs I=>
  intro q W hl;simp[Fj];rw[FI];obtain⟨N,V,X,Y⟩:=I (q+1) (W.setCell ⟨g,off+q,none⟩ x) λj h1 O=>(hl j E (by simp;omega)).set _ _;refine⟨(AF.setCell (M:=λx=>x=g) W ⟨g,off+q,none⟩ x rfl).trans N,λj u hu=>?_,λj Q=>?_,(by grind[Bg.set])⟩;cases j with
  |zero=>
   simp at hu;subst hu;obtain⟨U,J⟩:=lP.1 (hl q (DN _) E_).1;grind[World.cell?_setCell_same]
  |succ j=>
   grind
  grind[World.cell?_setCell_other]
structure Kx {α:Type} (k:Nat) (cs:α->U_) (W:c_) (g:Nat) (L:List α):Prop where
 cells:∀m (h:m<L.length) j u,(cs L[m])[j]?=some u->W.cell? ⟨g,m*k+j,none⟩=some u
 Cq:∀m j,m<L.length->j<k->Bg W ⟨g,m*k+j,none⟩
section
variable {α:Type}{k:Nat}{cs:α->U_}{W W':c_}{g:Nat}{L:List α}
def Kx.T_(h:Kx k cs W g L)(m:AF M W W')(I:¬M g):Kx k cs W' g L:=⟨(by grind[AF.cell,Kx.cells]),λi j hi J=>(h.Cq i j hi J).T_ m I⟩
def Kx.store{i:Nat}{x:α}{K:c_->Prop}(h:Kx k cs W g L)(hi:i<L.length)(hk:∀y,(cs y).length=k)(h1:∀v∈cs x,v.oneCell'=true) (J:∀W',Kx k cs W' g (L.set i x)->AF (λb=>b=g) W W'->K W'):Bv k (.pointer (some ⟨g,i*k,none⟩)) (.agg (cs x).toArray) K W:=by
 have lv:∀j,j<k->Bg W ((⟨g,i*k,none⟩:Addr).add j):=by grind[FI,Kx.Cq]
 obtain⟨N,V,O,X⟩:=ao (g:=g) (off:=i*k) (cs x) 0 W λj _ Q=>h.Cq i j hi (by have:=hk x;omega);refine⟨_,cs x,rfl,rfl,hk x,h1,lv,J _ ⟨λm hm j u hu=>?_,(by grind[Kx.Cq])⟩ N⟩;rw[List.getElem_set] at hu;split at hu;grind;rename_i I;have U:m<L.length:=by simpa using hm
 have Q:j<k:=B_;rw[O];grind[Kx.cells];rw[hk];rcases Nat.lt_or_gt_of_ne I with e|e;right;have:(i+1)*k<=m*k:=y9 _ e;grind;left;have:(m+1)*k<=i*k:=y9 _ e;grind
theorem Kx.of{B e n c:Nat}{R:c_->U_->α->Prop}(h:AB B e k R W (.slice (f_ g) n c) L)(hk:0<k)(I:∀r x,R W r x->r=cs x):Kx k cs W g L:=by
 refine⟨λm hm j u hu=>?_,λm j hm J=>?_⟩;obtain⟨a,r,N,_,hr,hc,O⟩:=(AB.sl h).get hm;grind[FI];grind[AB.Cq,FI]
end
def jy{zero:Array b_}{n:Nat}(I:0<zero.size)(h1:∀v∈zero.toList,v.oneCell'=true):∀v∈(Builtin.zeroCells zero n).toList,v.oneCell'=true:=by
 intro v j;simp[Builtin.zeroCells,Array.toList_map,WJ] at j;grind[Nat.mod_lt]
def TK{t e k:Nat}{i:TypeInfo}{zv:b_}{g off m c:Nat}(hu:P.underlying t=some (.slice e))(hi:P.info? e=some i)(N:i.zero=some zv)(hk:zv.cells.size=k)(O:0<k)(h1:∀v∈zv.cells.toList,v.oneCell'=true)(hm:0<m) (hl:∀j,j<m*k->Bg W ⟨g,off+j,none⟩):∃W',(Builtin.clear_ #[t] 0 [.slice (some ⟨g,off,none⟩) m c].toArray).run P W=.ok (.tuple #[]) W'/\AF (λx=>x=g) W W'/\∀j,j<off->W'.cell? ⟨g,j,none⟩=W.cell? ⟨g,j,none⟩:=by
 have J:(Builtin.zeroCells zv.cells m).toList.length=m*k:=by rw[aBW,aCx,hk]
 have lv:∀j,0<=j->j<0+(Builtin.zeroCells zv.cells m).toList.length->Bg W ⟨g,off+j,none⟩:=B_;obtain⟨Q,_,X,_⟩:=ao (g:=g) (off:=off) (Builtin.zeroCells zv.cells m).toList 0 W lv;have I:=SG (P:=P) (⟨g,off,none⟩:Addr) (Builtin.zeroCells zv.cells m).toList 0 W (jy E h1) (λj h0 U=>by rw[FI];exact lv j h0 U);refine⟨_,?_,Q,B_⟩;have V:(zeroValue e).run P W=.ok zv W:=by simp[zeroValue,typeInfo,hi,N]
 obtain⟨m,rfl⟩:∃q,m=q+1:=⟨m-1,E⟩;simp[Builtin.clear_,run_underlying hu,V,I]
def jF(G:c_->Prop)(I:b_)(j:Chg->Bool):Prop:=∀W c (K:Cont),G W->(∀W',AG W W'->K (.bool (j c)) W')->Co prog EP I [.agg c.cells.toArray] K W
def pG{v J:b_}{p:W_}{j:Chg->Bool}(h:DY S w v p)(O:jF (AG w) J j) : l_ 305 [v,J] (λv' w'=>AG w w'/\((v'=zIq (-1)/\∀c∈p,j c=false)\/∃i:Nat,∃hi:i<p.length,v'=zIq i/\j p[i]=true/\∀c∈p.take i,j c=false)) w:=by
 refine H_ func305 ?_ (.y (.x (.y (.node [8] [(4,5),(8,18)] .nil .nil))));obtain⟨a,c,rfl,hm⟩:=h.AK;simp[maxLen] at hm;rw[AO];refine Aa (λvs W=>∃i:Nat,i<=p.length/\vs=[zIq i]/\AG w W/\∀c∈p.take i,j c=false) (λvs _=>p.length-Da vs 0) ⟨0,Lc _,rfl,AF.refl _ _,E_⟩ ?_;rintro vs W ⟨i,hi,rfl,g,N⟩ _;rw[Bh,HK];refine Cn (λQ=>?_) λU=>?_;have I:i<p.length:=E;obtain⟨q,r,rfl,_,hr,hc,rfl⟩:=(h.S_ g C0 C_).get I;refine AV I (AX hr (by grind[Addr.add_add]) ?_);refine O W p[i] _ g λX V=>?_;cases e:j p[i] with
 |true=>exact Ab (by grind[AF.trans])
 |false=>
  apply AM;rw[AQ,AL E];refine⟨⟨i+1,I,rfl,g.trans V,λc hc=>?_⟩,by grind[DW]⟩;grind[List.take_add_one]
 have:i=p.length:=E;grind
def Chg.len(c:Chg):c.cells.length=6:=rfl
def ph{p:W_}{I:Chg->Bool}(Z:AB B 80 6 CO w v p)(KM:p.length<=1099511627776)(hf:jF (AF (λb=>v.ownBlock=some b) w) sv I) : l_ 212 [v,sv] (λv' w'=>DY (λb=>v.ownBlock=some b) w' v' (p.filter λc=>!I c)/\AF (λb=>v.ownBlock=some b) w w') w:=by
 refine H_ func212 ?_ (.y (.y (.y (.x (.y (.node [5,6] [(5,7),(16,35)] .nil .nil))))));apply AA (pG (AB.sl Z) λW c K g hK=>hf W c K (g.mono G_) hK);rintro _ w1 ⟨X,⟨rfl,N⟩|⟨i0,O,rfl,hd,N⟩⟩;refine eqP (λ_=>?_) λe=>(e rfl).elim;rw[aA7.2 λc hc=>by rw[N c hc];rfl];exact⟨Al.sub (AB.sl (AB.T_ Z X C_ λ_ _ _ h=>h)) (λb _ h=>h.2) C0 C_,X.mono G_⟩;refine eqP (λe=>absurd e E) λ_=>?_;obtain⟨a,c,rfl,al,an,hp,hn⟩:=AB.AK Z;cases a with
 |none=>rw[hn rfl] at O;simp at O
 |some q=>
 obtain⟨g,rfl,av,a1,ak⟩:=hp q rfl;have a6:∀b,(Value.slice (f_ g) p.length c).ownBlock=some b↔b=g:=B_;simp only[a6] at hf ⊢;have R0:Kx 6 Chg.cells w g p:=by grind[Kx.of]
 rw[AQ,AL E];refine Aa (λvs W=>∃(i j:Nat) (L:W_),i<j/\j<=p.length/\vs=[zIq i,zIq j]/\L.length=p.length/\Kx 6 Chg.cells W g L/\L.take i=(p.take j).filter (λc=>!I c)/\L.drop j=p.drop j/\AF (λb=>b=g) w W) (λvs _=>p.length-Da vs 1)
  ⟨i0,i0+1,p,E,O,rfl,rfl,R0.T_ X F_,?_,rfl,X.mono G_⟩ ?_
 grind[List.take_add_one,List.filter_eq_self];rintro vs W ⟨i,j,L,ax,hj,rfl,hL,Y,ht,a7,hm⟩ _;simp only[Ha];rw[AO];refine Cn (λQ=>?_) λay=>?_;have J:j<p.length:=E;have b0:L[j]'(E)=p[j]:=by
  grind[List.head?_drop]
 apply AV J;rw[AH];refine AX (vs:=p[j].cells) rfl (λq u hu=>by rw[FI];exact Y.cells j E q u B_) ?_;refine BA (vs:=p[j].cells) rfl rfl (CO.one (w:=W) (x:=p[j]) rfl) λb7 w4 b6 b8 g4 a8 _=>?_;have b9:=Mp a1 hm.size;apply AX (vs:=p[j].cells) rfl a8;refine hf w4 p[j] _ (by grind[AF.next]) λW5 g5=>?_;have R5:=(Y.T_ g4 F_).T_ g5 F_;have m5:=(hm.next g4 G_).next g5 G_
 have et:(p.take (j+1)).filter (λc=>!I c)=(p.take j).filter (λc=>!I c)++if I p[j] then[] else[p[j]]:=by
  grind[List.take_add_one]
 have U:L.drop (j+1)=p.drop (j+1):=by have:=r9 (List.drop 1) a7;simpa[aA0] using this
 cases e:I p[j] with
 |true=>
  rw[Aj];apply AM;rw[AQ,AL E];rw[e,Ix rfl,aO] at et;refine⟨⟨i,j+1,L,E,J,rfl,hL,R5,B_,?_,m5⟩,by rw[BV,BV];omega⟩;exact U
 |false=>
  rw[Aj];apply Ab;apply AX (vs:=p[j].cells) rfl (by grind[AF.cell]);refine AV E ?_;rw[AH];refine R5.store (i:=i) (x:=p[j]) E Chg.len (CO.one (w:=W) (x:=p[j]) rfl) λW6 R6 m6=>?_;rw[AQ,AQ,AL E,AL E];rw[e,By C0] at et;refine⟨⟨i+1,j+1,L.set i p[j],E,J,rfl,by simp[hL],R6,?_,?_,m5.trans m6⟩,by grind[BV]⟩;rw[et,<-ht,List.take_set,No,Hc E,aAd _ _ (by simp;omega)];simp[aAD (show i<=L.length by omega)];grind[List.drop_set_of_lt]
 obtain rfl:j=p.length:=E;rw[WL] at ht;apply AY (EZ (e:=80) (k:=6) (i:=Tryz.t80) D_ D_ D_ E W);have aa:sliced (some (⟨g,0,none⟩:Addr)) i p.length c 6=.slice (some ⟨g,i*6,none⟩) (p.length-i) (c-i):=by
  unfold sliced;grind[AH]
 rw[aa];obtain⟨W2,hr,m2,h2⟩:=TK (P:=prog) (t:=33) (e:=80) (k:=6) (i:=Tryz.t80) (zv:=.agg (⟨0,false,As.zero⟩:Chg).cells.toArray) (W:=W) (g:=g) (off:=i*6) (m:=p.length-i) (c:=c-i) D_ D_ D_ D_ C0
  (λu hu=>CO.one (w:=W) (x:=⟨0,false,As.zero⟩) rfl u (by simpa[Value.cells] using hu)) E λq hq=>by
   have:=Y.Cq (i+q/6) (q%6) E E;grind
 apply AY hr;apply AY (GY (e:=80) (k:=6) (i:=Tryz.t80) D_ D_ D_ E W2);refine⟨?_,hm.trans m2⟩;rw[<-ht];have Q:(L.take i).length=i:=B_;refine⟨_,_,by rw[Q],E,E,λm x hx=>?_⟩;obtain⟨ba,V⟩:=Ad.1 hx;rw[aBg] at V;subst V;refine⟨⟨g,0,none⟩,_,rfl,rfl,rfl,λq u hu=>?_,rfl⟩;have hq:q<6:=(Ad.1 hu).1;rw[AH,h2 _ E];exact Y.cells m E q u hu
def Zd(ks:X')(b:Bool)(c:Chg):Bool:=match BW ks c.key with|some k=>decide (k.block=b)|none=>false
def kE{D:d_}{b:Bool}{c:Chg}(O:CG D w sv ks)(Q:w.cell? ⟨B,0,none⟩=some sv)(U:w.cell? ⟨bt,0,none⟩=some (.bool b)) : l_ 213 [.agg c.cells.toArray,e_ B,e_ bt] (λv' w'=>v'=.bool (!Zd ks b c)/\AG w w') w:=by
 refine J_ func213 ?_;refine CN λb0 w1 V X J N _=>?_;apply AI (J.cell Q F_);rw[AE];apply AI (N 0 _ rfl);apply AA (IW (O.S_ J) c.key);rintro _ w2 ⟨rfl,Y⟩;apply BD;refine BA (vs:=((BW ks c.key).getD DKey.zero).cells) rfl rfl (Hg.one (w:=w2) (x:=(BW ks c.key).getD DKey.zero) rfl) λb4 w3 Z a1 g3 I _=>?_;have j:=(J.trans Y).trans g3;rw[Aj];unfold Zd;cases e:BW ks c.key with
 |none=>exact Ab ⟨rfl,j⟩
 |some k=>
  rw[e] at I;apply AM;rw[AE];apply AI (I 1 _ rfl);apply AI (j.cell U F_);rw[YF];refine⟨?_,j⟩;grind
def Jt{D S:d_}{b:Bool}{p:W_}(hS:CG D w sv ks)(hp:DY S w v p)(hl:p.length<=1099511627776) : l_ 119 [sv,v,.bool b] (λv' w'=>DY (λx=>w.heap.size<=x) w' v' (Cg ks b p)/\AG w w') w:=by
 refine J_ func119 ?_;have I:sv.cells=#[sv]:=by
  obtain⟨b,m,kv,l,rfl,_⟩:=hS;rfl
 have J:CG (λx=>D x/\x<w.heap.size) w sv ks:=by grind[CG.sub]
 refine⟨I,Ce λV w1 a6 a7 g1 N _=>⟨rfl,Ce λX Y a8 aa O Q _=>?_⟩⟩;apply AA (Ol (hp.S_ (g1.trans O) C0 C_) E);rintro v3 w3 ⟨o3,U⟩;have c3:Y.cell? ⟨V,0,none⟩=some sv:=by have:=O.cell (N 0 _ rfl) F_;rwa [AH] at this
 have c5:Y.cell? ⟨X,0,none⟩=some (.bool b):=by have:=Q 0 _ rfl;rwa [AH] at this
 have a1:∀x,v3.ownBlock=some x->Y.heap.size<=x:=λx e=>(AB.Am o3 x e).1;have j:=(g1.trans O).trans U;have tl:jF (AF (λx=>v3.ownBlock=some x) w3) (.func (.func 213) #[] #[e_ V,e_ X]) λc=>!Zd ks b c:=by
  refine λW c K m hK=>.inl ⟨_,[],[e_ V,e_ X],rfl,D_,?_⟩;refine AA (kE ((J.S_ j).T_ m λx _ hx e=>?_) (m.cell (U.cell c3 F_) λe=>?_) (m.cell (U.cell c5 F_) λe=>?_)) ?_;grind;grind;grind;grind
 apply AA (ph o3 hl tl);rintro v4 w4 ⟨h4,m4⟩;have e:(p.filter λc=>!(!Zd ks b c))=Cg ks b p:=by simp[aDh];rfl
 rw[e] at h4;refine⟨Al.sub h4 B_ C0 C_,?_⟩;exact j.next m4 B_
def Xw{D S S':d_}{r:Int}{p:W_}(hS:CG D w sv ks)(hs:Bo S w v s)(hp:DY S' w fr p)(hl:s.length+p.length<=1099511627776) : l_ 326 [sv,.agg #[.int .i32 r,v],fr] (λv' w'=>∃I,v'=.agg #[.int .i32 r,I]/\Kh w.heap.size w' I (IZ ks s p r)/\AG w w') w:=by
 refine J_ func326 ?_ (.y (.x (.dc [9,10,12] (i_ [0,1,0,4,0,0,0,64,192,496,1020,2047,4095]) [[9,10]])));refine CN (vs:=[.int .i32 r,v]) λb4 w1 a1 a6 g1 a7 _=>Ce λb6 U a8 aa g2 ak V=>?_;have gd:=gdr U;have zd:U.drew.heap.size=U.heap.size:=rfl;have O:=(g1.trans g2).trans gd;have X:∀j u,([.int .i32 r,v]:U_)[j]?=some u->U.drew.cell? ((⟨b4,0,none⟩:Addr).add j)=some u:=by grind[AF.cell]
 have ne:b4≠b6:=E;apply Ac (λk y=>k=12/\y=b6);rw[AE];refine AP ⟨X 0 _ rfl,λj _ e=>by rw[Ai] at e;exact ne e.2⟩ ?_;rw[AE];refine AP ⟨X 1 _ rfl,λj _ e=>by rw[Ai] at e;exact ne e.2⟩ ?_;rw[AE];refine AP ⟨X 0 _ rfl,λj _ e=>by rw[Ai] at e;exact ne e.2⟩ ?_;rw[CI];apply AA (Jt (hS.S_ O) (hp.S_ O C0 C_) E);rintro v3 w3 ⟨h3,Q⟩;refine⟨B_,?_⟩;have al:(Cg ks (decide (r=10)) p).length<=p.length:=aBB _ _;apply AA (QV (hs.S_ (O.trans Q) C0 C_) h3 E);rintro N w4 ⟨J,g4⟩;refine⟨B_,?_⟩;obtain⟨a4,k4,e4,_⟩:=AB.AK J;refine⟨#[.int .i32 r,N],by subst e4;kernel_rfl,?_⟩;have z3:=Q.size;refine BI (vs:=[.int .i32 r,N]) rfl (λu hu=>by simp at hu;rcases hu with rfl|rfl;rfl;exact(AB.one J).1) (λj hj=>(((V j hj).T_ gd F_).T_ Q F_).T_ g4 F_) λw5 m5 Y _=>?_;refine⟨B_,?_⟩;refine AX (vs:=[.int .i32 r,N]) rfl Y ⟨N,rfl,?_,?_⟩;have:Kh w.heap.size w4 N (IZ ks s p r):=J.BY λg Z=>by have:=(AB.Am J g Z).1;omega
 refine AB.T_ this m5 (λg Z e=>?_) E';have:=(AB.Am J g Z).1;omega;exact((O.trans Q).trans g4).next m5 E
def ZA(G:c_->Prop)(I:b_)(j:Attr->Bool):Prop:=∀W c (K:Cont),G W->(∀W',AG W W'->K (.bool (j c)) W')->Co prog EP I [.agg c.cells.toArray] K W
def rI{v J:b_}{p:V_}{j:Attr->Bool}(h:Bo S w v p)(O:ZA (AG w) J j) : l_ 268 [v,J] (λv' w'=>AG w w'/\((v'=zIq (-1)/\∀c∈p,j c=false)\/∃i:Nat,∃hi:i<p.length,v'=zIq i/\j p[i]=true/\∀c∈p.take i,j c=false)) w:=by
 refine H_ func268 ?_ (.y (.x (.y (.node [8] [(4,5),(8,18)] .nil .nil))));obtain⟨a,c,rfl,hm⟩:=h.AK;simp only[maxLen] at hm;rw[AO];refine Aa (λvs W=>∃i:Nat,i<=p.length/\vs=[zIq i]/\AG w W/\∀c∈p.take i,j c=false) (λvs _=>p.length-Da vs 0) ⟨0,Lc _,rfl,AF.refl _ _,E_⟩ ?_;rintro vs W ⟨i,hi,rfl,g,N⟩ _;rw[Bh,HK];refine Cn (λQ=>?_) λU=>?_;have I:i<p.length:=E;obtain⟨q,r,rfl,_,hr,hc,rfl⟩:=(h.S_ g C0 C_).get I;refine AV I (AX hr (by grind[Addr.add_add]) ?_);refine O W p[i] _ g λX V=>?_;cases e:j p[i] with
 |true=>exact Ab (by grind[AF.trans])
 |false=>
  apply AM;rw[AQ,AL E];refine⟨⟨i+1,I,rfl,g.trans V,λc hc=>?_⟩,by grind[DW]⟩;grind[List.take_add_one]
 have:i=p.length:=E;grind
def Attr.rk(c:Attr):c.cells.length=5:=rfl
def nW{p:V_}{I:Attr->Bool}(Z:AB B 143 5 CC w v p)(KM:p.length<=1099511627776)(hf:ZA (AF (λb=>v.ownBlock=some b) w) sv I) : l_ 188 [v,sv] (λv' w'=>Bo (λb=>v.ownBlock=some b) w' v' (p.filter λc=>!I c)/\AF (λb=>v.ownBlock=some b) w w') w:=by
 refine H_ func188 ?_ (.y (.y (.y (.x (.y (.node [5,6] [(5,7),(16,35)] .nil .nil))))));refine AA (rI (AB.sl Z) λW c K g hK=>hf W c K (g.mono G_) hK) ?_;rintro _ w1 ⟨X,⟨rfl,N⟩|⟨i0,O,rfl,hd,N⟩⟩;refine eqP (λ_=>?_) λe=>(e rfl).elim;rw[aA7.2 λc hc=>by rw[N c hc];rfl];exact⟨Al.sub (AB.sl (AB.T_ Z X C_ λ_ _ _ h=>h)) (λb _ h=>h.2) C0 C_,X.mono G_⟩;refine eqP (λe=>absurd e E) λ_=>?_;obtain⟨a,c,rfl,al,an,hp,hn⟩:=AB.AK Z;cases a with
 |none=>rw[hn rfl] at O;simp at O
 |some q=>
 obtain⟨g,rfl,av,a1,ak⟩:=hp q rfl;have a6:∀b,(Value.slice (f_ g) p.length c).ownBlock=some b↔b=g:=B_;simp only[a6] at hf ⊢;have R0:Kx 5 Attr.cells w g p:=by grind[Kx.of]
 have R1:=R0.T_ X F_;rw[AQ,AL E];refine Aa (λvs W=>∃(i j:Nat) (L:V_),i<j/\j<=p.length/\vs=[zIq i,zIq j]/\L.length=p.length/\Kx 5 Attr.cells W g L/\L.take i=(p.take j).filter (λc=>!I c)/\L.drop j=p.drop j/\AF (λb=>b=g) w W) (λvs _=>p.length-Da vs 1)
  ⟨i0,i0+1,p,E,O,rfl,rfl,R1,?_,rfl,X.mono G_⟩ ?_
 grind[List.take_add_one,List.filter_eq_self];rintro vs W ⟨i,j,L,ax,hj,rfl,hL,Y,ht,a7,hm⟩ _;simp only[Ha];rw[AO];refine Cn (λQ=>?_) λay=>?_;have J:j<p.length:=E;have b0:L[j]'(E)=p[j]:=by
  grind[List.head?_drop]
 apply AV J;rw[AH];refine AX (vs:=p[j].cells) rfl (λq u hu=>by rw[FI];exact Y.cells j E q u B_) ?_;refine BA (vs:=p[j].cells) rfl rfl (CC.one (w:=W) (x:=p[j]) rfl) λb7 w4 b6 b8 g4 a8 _=>?_;have b9:g<W.heap.size:=Mp a1 hm.size;apply AX (vs:=p[j].cells) rfl a8;refine hf w4 p[j] _ (by grind[AF.next]) λW5 g5=>?_;have R5:=(Y.T_ g4 F_).T_ g5 F_;have m5:=(hm.next g4 G_).next g5 G_
 have et:(p.take (j+1)).filter (λc=>!I c)=(p.take j).filter (λc=>!I c)++if I p[j] then[] else[p[j]]:=by
  grind[List.take_add_one]
 have U:L.drop (j+1)=p.drop (j+1):=by have:=r9 (List.drop 1) a7;simpa[aA0] using this
 cases e:I p[j] with
 |true=>
  rw[Aj];apply AM;rw[AQ,AL E];rw[e,Ix rfl,aO] at et;refine⟨⟨i,j+1,L,E,J,rfl,hL,R5,B_,?_,m5⟩,by rw[BV,BV];omega⟩;exact U
 |false=>
  rw[Aj];apply Ab;apply AX (vs:=p[j].cells) rfl (by grind[AF.cell]);refine AV E ?_;rw[AH];refine R5.store (i:=i) (x:=p[j]) E Attr.rk (CC.one (w:=W) (x:=p[j]) rfl) λW6 R6 m6=>?_;rw[AQ,AQ,AL E,AL E];rw[e,By C0] at et;refine⟨⟨i+1,j+1,L.set i p[j],E,J,rfl,by simp[hL],R6,?_,?_,m5.trans m6⟩,by grind[BV]⟩;rw[et,<-ht,List.take_set,No,Hc E,aAd _ _ (by simp;omega)];simp[aAD (show i<=L.length by omega)];grind[List.drop_set_of_lt]
 obtain rfl:j=p.length:=E;rw[WL] at ht;refine AY (EZ (e:=143) (k:=5) (i:=Tryz.t143) D_ D_ D_ E W) ?_;have aa:sliced (some (⟨g,0,none⟩:Addr)) i p.length c 5=.slice (some ⟨g,i*5,none⟩) (p.length-i) (c-i):=by
  unfold sliced;grind[AH]
 rw[aa];obtain⟨W2,hr,m2,h2⟩:=TK (P:=prog) (t:=47) (e:=143) (k:=5) (i:=Tryz.t143) (zv:=.agg (⟨0,As.zero⟩:Attr).cells.toArray) (W:=W) (g:=g) (off:=i*5) (m:=p.length-i) (c:=c-i) D_ D_ D_ D_ C0
  (λu hu=>CC.one (w:=W) (x:=⟨0,As.zero⟩) rfl u (by simpa[Value.cells] using hu)) E λq hq=>by
   have:=Y.Cq (i+q/5) (q%5) E E;grind
 apply AY hr;refine AY (GY (e:=143) (k:=5) (i:=Tryz.t143) D_ D_ D_ E W2) ?_;refine⟨?_,hm.trans m2⟩;rw[<-ht];have Q:(L.take i).length=i:=B_;refine⟨_,_,by rw[Q],E,E,λm x hx=>?_⟩;obtain⟨ba,V⟩:=Ad.1 hx;rw[aBg] at V;subst V;refine⟨⟨g,0,none⟩,_,rfl,rfl,rfl,λq u hu=>?_,rfl⟩;have hq:q<5:=(Ad.1 hu).1;rw[AH,h2 _ E];exact Y.cells m E q u hu
def LJ(ks:X')(b:Bool)(c:Attr):Bool:=match BW ks c.key with|some k=>decide (k.block=b)|none=>false
def bu{D:d_}{b:Bool}{c:Attr}(O:CG D w sv ks)(Q:w.cell? ⟨B,0,none⟩=some sv)(U:w.cell? ⟨bt,0,none⟩=some (.bool b)) : l_ 189 [.agg c.cells.toArray,e_ B,e_ bt] (λv' w'=>v'=.bool (!LJ ks b c)/\AG w w') w:=by
 refine J_ func189 ?_;refine CN λb0 w1 V X J N _=>?_;refine AI (J.cell Q F_) ?_;rw[AE];apply AI (N 0 _ rfl);apply AA (IW (O.S_ J) c.key);rintro _ w2 ⟨rfl,Y⟩;apply BD;refine BA (vs:=((BW ks c.key).getD DKey.zero).cells) rfl rfl (Hg.one (w:=w2) (x:=(BW ks c.key).getD DKey.zero) rfl) λb4 w3 Z a1 g3 I _=>?_;have j:=(J.trans Y).trans g3;rw[Aj];unfold LJ;cases e:BW ks c.key with
 |none=>exact Ab ⟨rfl,j⟩
 |some k=>
  rw[e] at I;apply AM;rw[AE];apply AI (I 1 _ rfl);refine AI (j.cell U F_) ?_;rw[YF];refine⟨?_,j⟩;grind
def EM(ks:X')(b:Bool)(l:V_):V_:=l.filter (LJ ks b)
def Nu{D S:d_}{b:Bool}{p:V_}(hS:CG D w sv ks)(hp:Bo S w v p)(hl:p.length<=1099511627776) : l_ 106 [sv,v,.bool b] (λv' w'=>Bo (λx=>w.heap.size<=x) w' v' (EM ks b p)/\AG w w') w:=by
 refine J_ func106 ?_;have I:sv.cells=#[sv]:=by
  obtain⟨b,m,kv,l,rfl,_⟩:=hS;rfl
 have J:CG (λx=>D x/\x<w.heap.size) w sv ks:=by grind[CG.sub]
 refine⟨I,Ce λV w1 a6 a7 g1 N _=>⟨rfl,Ce λX Y a8 aa O Q _=>?_⟩⟩;refine AA (MK (hp.S_ (g1.trans O) C0 C_) E) ?_;rintro v3 w3 ⟨o3,U⟩;have c3:Y.cell? ⟨V,0,none⟩=some sv:=by have:=O.cell (N 0 _ rfl) F_;rwa [AH] at this
 have c5:Y.cell? ⟨X,0,none⟩=some (.bool b):=by have:=Q 0 _ rfl;rwa [AH] at this
 have a1:∀x,v3.ownBlock=some x->Y.heap.size<=x:=λx e=>(AB.Am o3 x e).1;have j:=(g1.trans O).trans U;have tl:ZA (AF (λx=>v3.ownBlock=some x) w3) (.func (.func 189) #[] #[e_ V,e_ X]) λc=>!LJ ks b c:=by
  refine λW c K m hK=>.inl ⟨_,[],[e_ V,e_ X],rfl,D_,?_⟩;refine AA (bu ((J.S_ j).T_ m λx _ hx e=>?_) (m.cell (U.cell c3 F_) λe=>?_) (m.cell (U.cell c5 F_) λe=>?_)) ?_;grind;grind;grind;grind
 apply AA (nW o3 hl tl);rintro v4 w4 ⟨h4,m4⟩;have e:(p.filter λc=>!(!LJ ks b c))=EM ks b p:=by simp only[aDh];rfl
 rw[e] at h4;refine⟨Al.sub h4 B_ C0 C_,?_⟩;exact j.next m4 B_
def gQ:Y'->Y'
 |[]=>[]
 |[s]=>[⟨s.n+1,s.id⟩]
 |s::t=>s::gQ t
def Hv(id:Int)(s:Y'×Option Int)(r:Int):Y'×Option Int:=
 (if r=10 then s.1++[⟨1,0⟩] else match s.2 with
  |some q=>if q=10 then s.1++[⟨1,id⟩] else gQ s.1
  | none=>s.1++[⟨1,id⟩],some r)
def Ci(id:Int)(rs:V'):Y'×Option Int:=rs.foldl (Hv id) ([],none)
def Iu(id:Int)(r:Int):Int:=if r=10 then 0 else id
def XG(l:Y')(s:Spn):gQ (l++[s])=l++[⟨s.n+1,s.id⟩]:=by
 induction l with
 |nil=>rfl
 |cons x l j=>
  cases l<;>grind[gQ]
theorem NJ(id:Int)(rs:V')(r:Int):Ci id (rs++[r])=Hv id (Ci id rs) r:=by simp[Ci]
def Rx(id:Int)(rs:V'):(Ci id rs).2=rs.getLast?:=by
 rcases l9 rs with rfl|⟨o,y,rfl⟩;rfl;grind[NJ,Hv]
def R9(id:Int)(rs:V'):(Ci id rs).1.flatMap Spn.u=rs.map (Iu id)/\(∀s∈(Ci id rs).1,0<s.n)/\(∀q,rs.getLast?=some q->∃l n,(Ci id rs).1=l++[⟨n,Iu id q⟩]/\0<n)/\(rs=[]->(Ci id rs).1=[])/\(Ci id rs).1.length<=rs.length:=by
 have key:∀(n:Nat) (rs:V'),rs.length=n->(Ci id rs).1.flatMap Spn.u=rs.map (Iu id)/\(∀s∈(Ci id rs).1,0<s.n)/\(∀q,rs.getLast?=some q->∃l n,(Ci id rs).1=l++[⟨n,Iu id q⟩]/\0<n)/\(rs=[]->(Ci id rs).1=[])/\(Ci id rs).1.length<=rs.length:=by
  intro n;induction n with
  |zero=>
   intro rs h;obtain rfl:=aBr.1 h;exact⟨rfl,λs J=>(nomatch J),(by grind),λ_=>rfl,DN _⟩
  |succ n Q=>
   intro rs h;rcases l9 rs with rfl|⟨o,r,rfl⟩;grind;rw[aAV] at h ⊢;obtain⟨h1,U,V,h4,X⟩:=Q o (by simpa using h);have hp:=Rx id o;have I:∀j:Int,Iu id r=j->((Ci id o).1++[(⟨1,j⟩:Spn)]).flatMap Spn.u=(o++[r]).map (Iu id)/\(∀s∈(Ci id o).1++[(⟨1,j⟩:Spn)],0<s.n)/\(∀q,(o++[r]).getLast?=some q->∃l n,(Ci id o).1++[(⟨1,j⟩:Spn)]=l++[⟨n,Iu id q⟩]/\0<n)/\(o++[r]=[]->(Ci id o).1++[(⟨1,j⟩:Spn)]=[])/\((Ci id o).1++[(⟨1,j⟩:Spn)]).length<=(o++[r]).length:=λj Y=>by
    refine⟨by grind[Spn.u],λs J=>?_,λq N=>?_,(by grind),by grind⟩;rcases K8.1 J with J|J<;>grind;simp at N;subst N;exact⟨_,1,by rw[Y],Nat.one_pos⟩
   rw[NJ,Hv];by_cases hr:r=10;simp only[Ix hr];exact I 0 (by simp[Iu,hr]);simp only[By hr];rw[hp];cases Z:o.getLast? with
   |none=>exact I id (by simp[Iu,hr])
   |some q=>
    by_cases N:q=10;simp only[Ix N];exact I id (by simp[Iu,hr]);simp only[By N];obtain⟨l,m,e,hm⟩:=V q Z;have O:Iu id q=id:=by simp[Iu,N]
    have er:Iu id r=id:=by simp[Iu,hr]
    rw[O] at e;rw[e] at h1 U X ⊢;rw[XG];refine⟨?_,λs J=>?_,λq' a1=>?_,(by grind),by grind⟩;grind[Spn.u,List.replicate_succ'];rcases K8.1 J with J|J;grind;grind;grind
 exact key _ rs rfl
abbrev nP(sv:b_)(most:Int)(r s p t:Nat):U_:=[sv,zIq most,e_ r,e_ s,e_ p,e_ t]
section
variable {W:c_}{b r s p t bt:Nat}{sv:b_}{most:Int}{F:d_}{l:a_}
def KC{i:Nat}(j:Bx W b (nP sv most r s p t))(h:Ep BH.toAvT F JB W r bt l)(hi:i<=(CM l).length)(I:(CM l).length<=1099511627776) : l_ 78 [e_ b,zIq (i:Int)] (λv' w'=>v'=zIq (CX ((CM l).take i):Int)/\AG W w') W:=by
 refine H_ func78 ?_;apply nfl_i (j.cells 2 _ rfl);apply AA (Oa h hi I);rintro _ N ⟨rfl,J⟩;exact Bt (vs:=[_,_]) (by rfl) (Bt (vs:=[_,_]) (by rfl) ⟨rfl,J⟩)
def GN(j:Bx W b (nP sv most r s p t)):l_ 74 [e_ b] (λv' w'=>v'=.bool true/\w'=W) W:=by
 refine I_ func74 ?_;refine⟨_,rfl,?_⟩;apply Ab;apply nfl_i (j.cells 2 _ rfl);exact⟨_,rfl,rfl,rfl⟩
def iD(j:Bx W b (nP sv most r s p t))(h:Ep BH.toAvT F JB W r bt l) : l_ 36 [e_ b] (λv' w'=>v'=zIq ((CM l).length:Int)/\AG W w') W:=by
 refine I_ func36 ?_;apply AA (GN j);rintro _ _ ⟨rfl,rfl⟩;rw[Aj];apply AM;apply nfl_i (j.cells 2 _ rfl);exact lY h
def Wo{k:Nat}(j:Bx W b (nP sv most r s p t))(h:Ep BH.toAvT F JB W r bt l)(I:(CM l).length<=1099511627776) : l_ 92 [e_ b,zIq (k:Int)] (λv' w'=>v'=QF (CM l) k/\AG W w') W:=by
 refine H_ func92 ?_;apply AA (GN j);rintro _ _ ⟨rfl,rfl⟩;rw[Aj];apply AM;apply nfl_i (j.cells 2 _ rfl);have e:∃x y,QF (CM l) k=.tuple #[x,y]:=by
  unfold QF;split;grind;split;grind;obtain⟨q,N,_⟩:=N1 (l:=CM l) (k:=k-1) E;grind
 obtain⟨x,y,e⟩:=e;apply AA (Pq h I);rintro v O ⟨rfl,J⟩;rw[e];exact Bt (vs:=[_,_]) (by rfl) (Bt (vs:=[_,_]) (by rfl) ⟨rfl,J⟩)
end
def kC{S D:d_}{id:Int}{Kend:U_->c_->Prop}(hv:Al S 1 Bk W v rs)(hb:Bo D W sv s)(hl:rs.length<=1099511627) (hK:∀rv cv w',AB W.heap.size 138 2 Gh w' rv (Ci id rs).1->AB W.heap.size 47 1 (Cu λx=>D x/\x<W.heap.size) w' cv (List.replicate (CX rs) s)->(∀g,rv.ownBlock=some g->cv.ownBlock≠some g)->AG W w'->Kend [rv,cv,zIq (rs.length:Int)] w') : GM [g_,g_,(zIq 0)] (λvs aa w5=>∀_:Env,HZ .i64 (Bf vs 2) (zIq (rs.length:Int)) λc8=>Af c8 (Dm (λa6 w6=>∀_:Env,Cl .i64 (Bf vs 2) (zIq 1) λc9=>aa [(Bf a6 0),(Bf a6 1),c9] w6) (λJ=>KY 1 v (Bf vs 2) λca=>BR ca (λcc w7=>P2 .i32 cc (.int .i32 10) λcq=>Af cq (DQ [(0,1),(1,1)] [(zIq 0),(zIq 0)] [(0,(zIq 1))] λt46=>EE 138 2 1 [(zIq 0),(zIq 0)] [(0,t46)] (λak w8=>runK prog (Builtin.append_ #[131,131] 131 [(Bf vs 0),ak].toArray) (λcu w9=>EE 47 1 1 [g_] [(0,sv)] (λcx da=>runK prog (Builtin.append_ #[122,122] 122 [(Bf vs 1),cx].toArray) (λdk dr=>J [cu,dk] dr) da) w9) w8) w7) (Dz (Bf vs 0) λdz=>EO .i64 dz (zIq 1) λt55=>Xf .i64 t55 (zIq 0) λdT=>Af dT (EO .i64 (Bf vs 2) (zIq 1) λe1=>KY 1 v e1 λe2=>BR e2 (λe3 bb=>TB .i32 e3 (.int .i32 10) λe4=>Af e4 (KY 2 (Bf vs 0) t55 λe5=>BX 0 e5 λe6=>BR e6 (λt70 e7=>Cl .i64 t70 (zIq 1) λe8=>KY 2 (Bf vs 0) t55 λe9=>BX 0 e9 λea=>Cc ea e8 (λec=>J [(Bf vs 0),(Bf vs 1)] ec) e7) bb) (DQ [(0,1),(1,1)] [(zIq 0),(zIq 0)] [(0,(zIq 1)),(1,zIq id)] λt76=>EE 138 2 1 [(zIq 0),(zIq 0)] [(0,t76)] (λt77 al=>runK prog (Builtin.append_ #[131,131] 131 [(Bf vs 0),t77].toArray) (λan av=>J [an,(Bf vs 1)] av) al) bb)) w7) (DQ [(0,1),(1,1)] [(zIq 0),(zIq 0)] [(0,(zIq 1)),(1,zIq id)] λax=>EE 138 2 1 [(zIq 0),(zIq 0)] [(0,ax)] (λay ed=>runK prog (Builtin.append_ #[131,131] 131 [(Bf vs 0),ay].toArray) (λb0 ee=>J [b0,(Bf vs 1)] ee) ed) w7))) w5)) (Kend vs w5)) W:=by
 obtain⟨a,c,rfl,_⟩:=hv.AK;have ef:=hv.JW C0;have eh:Cu (λx=>D x/\x<W.heap.size) W [sv] s:=⟨_,rfl,hb.mono B_ I' C0 C_⟩;have Gf:∀{M:d_} {w2 w3:c_} {r:U_} {x:V_},AF M w2 w3->(∀b,b<W.heap.size->¬M b)->Cu (λb=>D b/\b<W.heap.size) w2 r x->Cu (λb=>D b/\b<W.heap.size) w3 r x:=λhm hn hy=>BN.Bw hy hm B_
 let St:V'->b_->b_->c_->Prop:=λq rv cv W'=>AB W.heap.size 138 2 Gh W' rv (Ci id q).1/\AB W.heap.size 47 1 (Cu λx=>D x/\x<W.heap.size) W' cv (List.replicate (CX q) s)/\(∀g,rv.ownBlock=some g->cv.ownBlock≠some g)/\AG W W'
 have ej:St (rs.take 0) g_ g_ W:=And.intro AB.nil (And.intro AB.nil (And.intro (λg V=>by simp[Value.ownBlock] at V) (AF.refl _ _)));apply Aa (λvs W'=>∃(i:Nat) (rv cv:b_),i<=rs.length/\vs=[rv,cv,zIq i]/\St (rs.take i) rv cv W') (λvs _=>rs.length-Da vs 2) ⟨0,_,_,Lc _,rfl,ej⟩;rintro vs W1 ⟨i,rv,cv,hi,rfl,o1,o2,bk,g1⟩ _;simp only[Ha];have z1:=g1.size;refine Cn (λeA=>?_) λeB=>?_;have a7:i<rs.length:=E;have bp:rs.take (i+1)=rs.take i++[rs[i]]:=by grind[List.take_add_one]
 have bs:=(R9 id (rs.take i)).2.2.2.2;rw[S5] at bs;have ek:=Em (rs.take i);rw[S5] at ek;have push:∀{X:c_} {j:Int} {K:b_->c_->Prop},AG W1 X->(∀I W3,AB W.heap.size 138 2 Gh W3 I ((Ci id (rs.take i)).1++[⟨1,j⟩])->AB W.heap.size 47 1 (Cu λx=>D x/\x<W.heap.size) W3 cv (List.replicate (CX (rs.take i)) s)->(∀g,I.ownBlock=some g->cv.ownBlock≠some g)->AG W W3->K I W3)->
   EE 138 2 1 [(zIq 0),(zIq 0)] [(0,.agg (Spn.cells ⟨1,j⟩).toArray)] (λak w8=>runK prog (Builtin.append_ #[131,131] 131 [rv,ak].toArray) K w8) X:=λ{X j K} g2 hk=>by
  have z2:=g2.size;have q1:AB W.heap.size 138 2 Gh X rv (Ci id (rs.take i)).1:=AB.T_ o1 g2 C_ E';have q2:AB W.heap.size 47 1 (Cu λx=>D x/\x<W.heap.size) X cv (List.replicate (CX (rs.take i)) s):=AB.T_ o2 g2 C_ λ_ _ _ h=>Gf g2 C_ h;have eC:=AB.Am q1;have et:=AB.Am q2;refine Dv Eg.elE q1 E (cs:=Spn.cells ⟨1,j⟩) (x:=(⟨1,j⟩:Spn)) (CY (v:=.agg (Spn.cells ⟨1,j⟩).toArray) rfl C0 rfl rfl) rfl rfl (by grind[Spn.one]) B_ (by show _*16<=_;omega) E λI W3 o3 m3 n3=>?_;refine hk I W3 o3 (AB.T_ q2 m3 B_ λ_ _ _ h=>Gf m3 B_ h) (λg V e=>?_) ((g1.trans g2).next m3 B_);grind
 refine AT (λvs W'=>∃I Q,vs=[I,Q]/\St (rs.take (i+1)) I Q W') ?_ ?_;rintro _ X ⟨I,Q,rfl,s1,s2,s3,s4⟩ _;simp only[HK,aAc];rw[AQ,AL E];exact⟨⟨i+1,I,Q,a7,rfl,s1,s2,s3,s4⟩,by show rs.length-Da [I,Q,_] 2<rs.length-Da [rv,cv,_] 2;simp only[Da,XC,Bh,HK,aAc];omega⟩;have rd:∀{X:c_} {q:Nat} {K:b_->c_->Prop} (hq:q<rs.length),AG W X->K (.int .i32 rs[q]) X->KY 1 (.slice a rs.length c) (zIq (q:Int)) (λt=>BR t K X):=λ{X q K} hq g hk=>by
  obtain⟨p,r,rfl,_,hr,hc,rfl⟩:=ef.get hq;exact AV hq (AI (by have:=hc 0 _ rfl;exact g.cell this F_) hk)
 apply rd a7 g1;rw[CI];have b6:CX (rs.take (i+1))=CX (rs.take i)+(if rs[i]=10 then 1 else 0):=by
  rw[bp,MS];by_cases e:rs[i]=(10:Int)<;>simp[CX,e]
 have b7:(Ci id (rs.take (i+1))).1=(Hv id (Ci id (rs.take i)) rs[i]).1:=by rw[bp,NJ]
 have b8:=Rx id (rs.take i);have inl:(Hv id (Ci id (rs.take i)) rs[i]).1=(Ci id (rs.take i)).1++[⟨1,id⟩]->¬rs[i]=10->
   DQ [(0,1),(1,1)] [(zIq 0),(zIq 0)] [(0,(zIq 1)),(1,zIq id)] (λt76=>
    EE 138 2 1 [(zIq 0),(zIq 0)] [(0,t76)] (λt77 al=>
    runK prog (Builtin.append_ #[131,131] 131 [rv,t77].toArray) (λan av=>
    (λvs W'=>∃ I Q,vs=[I,Q]/\St (rs.take (i+1)) I Q W') [an,cv] av) al) W1):=λe Y=>by
  refine⟨(Spn.cells ⟨1,id⟩).toArray,D_,?_⟩;refine push (j:=id) (AF.refl _ _) λI W3 s1 s2 s3 s4=>⟨I,cv,rfl,by rw[b7,e];exact s1,by rw[b6,By Y,aA3];exact s2,s3,s4⟩
 refine Ae (λY=>?_) λY=>?_;have N:rs[i]=(10:Int):=Y;refine⟨(Spn.cells ⟨1,0⟩).toArray,D_,?_⟩;refine push (j:=0) (AF.refl _ _) λI W3 s1 s2 s3 s4=>?_;have zs:=s4.size;have a8:=AB.Am s2;have bx:=AB.Am s1;have c4:sv.cells=[sv].toArray:=by
  obtain⟨a,c,e,_⟩:=hb.AK;rw[e];rfl
 refine Dv BN.elE s2 E (cs:=[sv]) (x:=s) (CY (v:=sv) rfl C0 c4 rfl) rfl (Gf s4 C_ eh) (λ_ _ _ h=>BN.rone h) (λw2 w3 r y eH hm hy=>Gf hm (λb hb e=>by
  rcases e with e | e;have:=(a8 b e).1;omega;omega) hy) (by rw [aBN];show _ * 24<=_;omega) (by rw [aBN];omega) λQ W4 o4 m4 n4=>?_
 refine⟨I,Q,rfl,?_,?_,λg V e=>?_,s4.next m4 λb hb e=>by have:=(a8 b e).1;omega⟩;rw[b7,Hv,Ix N];exact AB.T_ s1 m4 E E';rw[b6,Ix N,List.replicate_succ'];exact o4;rcases n4 g e with h|h;exact s3 g V h;have:=(bx g V).2;omega;have N:¬rs[i]=(10:Int):=Y;obtain⟨ra,rc,en,eI,_,eN,eR⟩:=AB.AK o1;subst en;rw[AO,A6,wrap64 E E,JP];have O:(Hv id (Ci id (rs.take i)) rs[i]).1=match (rs.take i).getLast? with
   |some q=>if q=10 then(Ci id (rs.take i)).1++[⟨1,id⟩] else gQ (Ci id (rs.take i)).1
   |none=>(Ci id (rs.take i)).1++[⟨1,id⟩]:=by rw[Hv,By N,b8];first | done | (cases(rs.take i).getLast?<;>rfl)
 obtain⟨f1,f2,f3,f4,f5⟩:=R9 id (rs.take i);refine Ae (λeu=>?_) λew=>?_;have eX:0<i:=by
  omega
 have Z:(rs.take i).getLast?=some rs[i-1]:=by
  rw[List.getLast?_take,By E,Hc E];rfl
 rw[Z] at O;simp only at O;rw[A6,wrap64 E E,show((i:Int)-1)=((i-1:Nat):Int) by omega];refine rd E g1 ?_;refine neP (λe=>?_) λe=>?_;exact inl (by rw[O,Ix e]) N;obtain⟨L,n,eL,fa⟩:=f3 _ Z;have hq:Iu id rs[i-1]=id:=by simp only[Iu];omega
 rw[hq] at eL;have fo:n<=i:=by
  have:=r9 List.length f1;rw[eL] at this;simp[Spn.u] at this;omega
 have b9:(Ci id (rs.take i)).1.length=L.length+1:=by rw[eL];simp
 have a1:=o1;rw[b9] at a1 ⊢;rw[eL] at a1;have eo:=AB.sl a1;rw[show((L.length+1:Nat):Int)-1=((L.length:Nat):Int) by omega];obtain⟨p,r,rfl,ep,hr,hc,er⟩:=eo.get (i:=L.length) E_;have c6:r=Spn.cells ⟨n,id⟩:=by have h':r=_:=er;rw[h'];simp
 subst c6;refine AV E ?_;rw[AE,Addr.add_add];apply AI (v:=zIq (n:Int)) (hc 0 _ rfl);rw[AQ,wrap64 E E];refine AV E ?_;rw[AE,Addr.add_add];refine UC (k:=2) (i:=L.length) (j:=0) (x':=(⟨n+1,id⟩:Spn)) a1 E_ C0 rfl rfl (λ_ _ _ _ h=>h) (λ_ _ r hr=>?_) λW' o' m'=>?_;have h':r=_:=hr;rw[h'];simp[Spn.cells,Gh];have ez:(Value.slice (some p) (L.length+1) rc).ownBlock=some p.block->W.heap.size<=p.block:=E;have c7:(L++[(⟨n,id⟩:Spn)]).set L.length ⟨n+1,id⟩=L++[⟨n+1,id⟩]:=E_;rw[c7] at o';refine⟨_,_,rfl,?_,?_,λg V=>bk g ?_,?_⟩;rw[b7,O,By e,eL,XG];exact o';rw[b6,By N,aA3];exact AB.T_ o2 m' (λg V e=>bk g (by rw[b9,e];exact ep.2) V) λ_ _ _ h=>Gf m' E h;rw[b9];exact V;exact g1.next m' E;have hz:(Ci id (rs.take i)).1.length=0:=E;have ba:(rs.take i).getLast?=none:=by
  cases V:(rs.take i).getLast? with
  |none=>rfl
  |some q=>
   obtain⟨L,n,eL,_⟩:=f3 q V;rw[eL] at hz;simp at hz
 exact inl (by rw[O,ba]) N;grind
section
open MapKept
def Jz(d:TypeDesc)(w:c_)(b:Nat)(f:b_->Option b_):Prop:=∃I j,w.heap[b]?=some (.map I j)/\(∀x∈I.toList,IsKey d x.key)/\I.toList.Pairwise (λx y=>x.key≠y.key)/\∀k v,IsKey d k->(f k=some v↔∃x∈I.toList,x.key=k/\x.val=v)
def Jz.lt{d:TypeDesc}{b:Nat}{f:b_->Option b_}(h:Jz d w b f):b<w.heap.size:=by
 obtain⟨j,c,hb,_⟩:=h;grind
theorem Jz.T_{d:TypeDesc}{b:Nat}{f:b_->Option b_}(h:Jz d w b f)(hm:AF M w w')(hb:¬M b):Jz d w' b f:=by
 have hl:=h.lt;obtain⟨j,c,h1,I⟩:=h;exact⟨j,c,(hm.Ak b hl hb).trans h1,I⟩
def Jz.make(d:TypeDesc)(w:c_):Jz d (w.alloc (.map #[] 0)) w.heap.size (λ_=>none):=⟨#[],0,(heap_alloc w _).1,E_,E_,B_⟩
def XY{d:TypeDesc}{t kt et:TypeId}{z:b_}{b:Nat}{f:b_->Option b_}{k:b_}(ht:P.underlying t=some (.map kt et))(hk:P.underlying kt=some d)(hi:IsKey d k)(N:(zeroValue et).run P w=.ok z w)(h:Jz d w b f) : (Instr.lookup t (.map (some b)) k true).run P w=.ok (.tuple #[(f k).getD z,.bool (f k).isSome]) w:=by
 obtain⟨O,I,hb,J,hp,U⟩:=h;have hc:=λem=>aBe (w:=w) hk hi em 9999;rcases findNow_spec hi O.toList 0 J with⟨h1,Q⟩|⟨j,e,h1,Q,V⟩;have h0:f k=none:=by
  cases X:f k<;>grind
 simp[Instr.lookup,run_underlying ht,aAs hb,hc,aBJ hk h1,N,Result.andThen,h0];have h0:f k=some e.val:=B_;simp[Instr.lookup,run_underlying ht,aAs hb,hc,aBJ hk h1,Result.andThen,h0]
open Classical in
def WR{d:TypeDesc}{t kt et:TypeId}{b:Nat}{f:b_->Option b_}{k v:b_}(ht:P.underlying t=some (.map kt et))(hk:P.underlying kt=some d)(hi:IsKey d k)(h:Jz d w b f)(O:f k=none) : ∃w',(Instr.mapUpdate t (.map (some b)) k v).run P w=.ok () w'/\Jz d w' b (λJ=>if J=k then some v else f J)/\AF (λx=>x=b) w w':=by
 obtain⟨Q,I,hb,N,hp,V⟩:=h;have hc:=λem=>aBe (w:=w) hk hi em 9999;rcases findNow_spec hi Q.toList 0 N with⟨h1,U⟩|⟨j,e,h1,U,X⟩;refine⟨{ w with heap:=w.heap.setIfInBounds b (.map (Q.push ⟨k,v,I⟩) (I+1)) },by simp[Instr.mapUpdate,run_underlying ht,aAs hb,hc,aBJ hk h1,aBw _ hb,Result.andThen],⟨_,_,(heap_set hb).1,?_,?_,?_⟩,⟨rfl,rfl,rfl,E_,B_⟩⟩;grind;grind;intro J Z Y;simp only[Array.toList_push,K8,uN];by_cases e:J=k;subst e;rw[Ix rfl];constructor;intro e;cases e;exact⟨_,.inr rfl,rfl,rfl⟩;grind;grind;rw[(V k e.val hi).2 ⟨e,aAk U,X,rfl⟩] at O;cases O
def Ot{l:List α}{j:Nat}{x:α}:x∈l.eraseIdx j↔∃i,i≠j/\l[i]?=some x:=by
 rw[List.mem_eraseIdx_iff_getElem?]
open Classical in
def Xz{d:TypeDesc}{t kt et ty:TypeId}{b:Nat}{f:b_->Option b_}{k:b_}(ht:P.underlying t=some (.map kt et))(hk:P.underlying kt=some d)(hi:IsKey d k)(h:Jz d w b f) : ∃w',(Builtin.delete_ #[t,kt] ty #[.map (some b),k]).run P w=.ok (.tuple #[]) w'/\Jz d w' b (λU=>if U=k then none else f U)/\AF (λx=>x=b) w w':=by
 obtain⟨J,I,hb,N,hp,hf⟩:=h;have hc:=λem=>aBe (w:=w) hk hi em 9999;rcases findNow_spec hi J.toList 0 N with⟨h1,V⟩|⟨j,e,h1,V,h3⟩;refine⟨{ w with heap:=w.heap.setIfInBounds b (.map J I) },by simp[Builtin.delete_,run_underlying ht,aAs hb,hc,aBJ hk h1,aBw _ hb,Result.andThen],⟨_,_,(heap_set hb).1,N,hp,?_⟩,⟨rfl,rfl,rfl,E_,B_⟩⟩;grind;have hj:j<J.size:=B_;have Q:(J.eraseIdxIfInBounds (0+j)).toList=J.toList.eraseIdx j:=by
  unfold Array.eraseIdxIfInBounds;rw[dif_pos E];simp
 have O:(J.eraseIdxIfInBounds (0+j)).toList.Sublist J.toList:=B_;have X:∀x,x∈(J.eraseIdxIfInBounds (0+j)).toList↔x∈J.toList/\x.key≠k:=by
  intro x;rw[Q,Ot];constructor;rintro⟨i,Z,Y⟩;refine⟨aAk Y,λe'=>?_⟩;have a1:=(Ad.1 Y).1;have a6:=(Ad.1 V).1;have pw:=aAq.1 hp;grind;grind[List.mem_iff_getElem?]
 refine⟨{ w with heap:=w.heap.setIfInBounds b (.map (J.eraseIdxIfInBounds (0+j)) I) },by simp[Builtin.delete_,run_underlying ht,aAs hb,hc,aBJ hk h1,aBw _ hb,Result.andThen],⟨_,_,(heap_set hb).1,B_,hp.sublist O,?_⟩,⟨rfl,rfl,rfl,E_,B_⟩⟩;grind
end
def Jb:DD prog 32 5 1 1:=⟨Tryz.t5,.int .u8 0,D_,D_,D_,D_,D_,by rfl,C0⟩
def LI.one{r:U_}{x:Int}(h:LI w r x):∀u∈r,u.oneCell'=true:=by
 subst h;intro u hu;simp at hu;subst hu;rfl
abbrev Gx(B:Nat)(w:c_)(v:b_)(l:V'):Prop:=AB B 5 1 LI w v l
theorem YZ{x:Int}(h0:0<=x)(h1:x<256):IntKind.u8.wrap x=x:=by
 have j:(2:Int) ^ IntKind.u8.bits=256:=C0;simp only[IntKind.wrap,j,IntKind.signed,aCB];grind
theorem Yt{x:Int}:IntKind.u8.wrap x=x%256:=by
 have j:(2:Int) ^ IntKind.u8.bits=256:=C0;simp only[IntKind.wrap,j,IntKind.signed,aCB];grind
theorem wu:∀a:Nat,a<256->(a ||| 128)=a%128+128:=by decide +kernel
def nV{t:TypeId}{a:Int}(w:c_)(h0:0<=a)(h1:a<256):(Di .or t xo yo (.int .u8 a) (.int .u8 128)).run prog w=.ok (.int .u8 (a%128+128)) w:=by
 rw[(HW w).1];have e:((BitVec.ofInt IntKind.u8.bits a ||| BitVec.ofInt IntKind.u8.bits 128).toNat:Int)=((a.toNat ||| 128:Nat):Int):=by
  show((BitVec.ofInt 8 a ||| BitVec.ofInt 8 128).toNat:Int)=_;grind
 grind[wu,YZ]
def Pn{l:V'}(h:CE S w v l)(hl:l.length<=1099511627776) : l_ 339 [v] (λv' w'=>Gx w.heap.size w' v' l/\AG w w') w:=by
 refine I_ func339 ?_;obtain⟨a,c,rfl,hm⟩:=h.AK;rw[aX];cases a with
 |none=>
  have:l=[]:=by
   cases l with
   |nil=>rfl
   |cons x l=>obtain⟨p,r,e,_⟩:=h.get (i:=0) E_;cases e
  grind[Ab,AB.nil,AF.refl]
 |some p=>
  apply AM;apply EW;have j:AG w (w.alloc (.cells #[] 5)):=AF.alloc _ _ _;have I:Gx w.heap.size (w.alloc (.cells #[] 5)) (.slice (f_ w.heap.size) 0 0) []:=AB.Rz (DN _);obtain⟨v',w',h1,N,J,O⟩:=AB.append (ty:=32) Jb I (h.S_ j C0 C_) (λ_ _=>LI.one) B_ E_ (by simpa using hm) B_;refine AY h1 ⟨?_,j.next (AF.BO J) ?_⟩;grind;intro b hb e;simp only[Value.ownBlock,gn] at e;omega
def RA{n:Int}(h:K (.int .u8 (n%256)) w):runK prog (convert 76 5 (.int .u64 n)) K w:=by
 refine AY (DS (k:=.u8) w D_ D_) ?_;grind[Yt]
theorem OB{l:V'}{n:Nat}(h:CE S w v l)(hl:l.length+20<=1099511627776)(Q:n<18446744073709551616) : l_ 266 [v,.int .u64 n] (λv' w'=>Gx w.heap.size w' v' (l++uv n)/\AG w w') w:=by
 refine H_ func266 ?_ (.y (.y (.x (.node [0,1] [(0,1),(7,16)] .nil .nil))));refine AA (Pn h E) ?_;rintro v1 w1 ⟨o1,U⟩;have I:(128:Nat) ^ (9+1)=1180591620717411303424:=C0;refine Aa (λvs W=>∃(f m:Nat) (pre:V') (lv:b_),vs=[lv,.int .u64 m]/\uv n=pre++P7 f m/\m<128 ^ (f+1)/\m<18446744073709551616/\pre.length+f=9/\Gx w.heap.size W lv (l++pre)/\AG w W) (λvs _=>Da vs 1)
  ⟨9,n,[],v1,rfl,rfl,E,Q,rfl,B_,U⟩ ?_
 rintro vs W ⟨f,m,pre,lv,rfl,hu,hm,V,hf,J,g⟩ _;simp only[Ha];refine gtP (λX=>?_) λY=>?_;cases f with
 |zero=>simp at hm;omega
 |succ f=>
  have j:P7 (f+1) m=((m%128+128:Nat):Int)::P7 f (m/128):=by
   grind[P7]
  refine RA (AY (nV W E E) ?_);have Z:((m:Int)%256%128+128)=((m%128+128:Nat):Int):=E;rw[Z];refine LP (w0:=w) Jb J g (cs:=[.int .u8 ((m%128+128:Nat):Int)]) (x:=((m%128+128:Nat):Int)) D_ rfl rfl (λ_ _ _=>LI.one) B_ B_ (by simp only[Bp,maxLen];omega) λv' w' o' O=>?_;refine AY (Nw (n:=7) w' C0) ?_;have e7:((m:Int)).fdiv (2 ^ 7)=((m/128:Nat):Int):=by
   grind
  rw[e7];refine⟨⟨f,m/128,pre++[((m%128+128:Nat):Int)],v',rfl,B_,?_,E,B_,B_,O⟩,?_⟩;omega;show(((m/128:Nat):Int)).toNat<((m:Nat):Int).toNat;omega
 have N:P7 f m=[(m:Int)]:=by
  cases f<;>grind[P7]
 apply RA;rw[show((m:Int)%256)=m by omega];refine LP (w0:=w) Jb J g (cs:=[.int .u8 (m:Int)]) (x:=(m:Int)) D_ rfl rfl (λ_ _ _=>LI.one) B_ B_ (by simp only[Bp,maxLen];omega) λv' w' o' O=>?_;grind
def cD{t:TypeId}{a b:Int}(w:c_)(ha:MY a)(hb:MY b):(Di .xor t xo yo (.int .u64 a) (.int .u64 b)).run prog w=.ok (.int .u64 ((a.toNat ^^^ b.toNat:Nat):Int)) w:=by
 have I:(Di .xor t xo yo (.int .u64 a) (.int .u64 b)).run prog w=.ok (.int .u64 (IntKind.u64.wrap (BitVec.ofInt IntKind.u64.bits a ^^^ BitVec.ofInt IntKind.u64.bits b).toNat)) w:=by
  simp[Di,eqGuard,binOp,Op.intBits]
 rw[I];have e:((BitVec.ofInt IntKind.u64.bits a ^^^ BitVec.ofInt IntKind.u64.bits b).toNat:Int)=((a.toNat ^^^ b.toNat:Nat):Int):=by
  show((BitVec.ofInt 64 a ^^^ BitVec.ofInt 64 b).toNat:Int)=_;rw[BitVec.toNat_xor,BitVec.toNat_ofInt,BitVec.toNat_ofInt];have e:((2 ^ 64:Nat):Int)=18446744073709551616:=C0;rw[e,Int.emod_eq_of_lt ha.1 ha.2,Int.emod_eq_of_lt hb.1 hb.2]
 have j:a.toNat ^^^ b.toNat<2 ^ 64:=Nat.xor_lt_two_pow (by grind[MY]) (by unfold MY at hb;omega);rw[e,Ds ⟨E,E⟩]
def HS{x:Int}:IntKind.u64.wrap x=x%18446744073709551616:=by
 have j:(2:Int) ^ IntKind.u64.bits=18446744073709551616:=C0;simp only[IntKind.wrap,j,IntKind.signed,aCB];grind
theorem vG{n:Int}(h0:-9223372036854775808<=n)(h1:n<=9223372036854775807) : l_ 338 [zIq n] (λv' w'=>v'=.int .u64 (J7 n:Nat)/\w'=w) w:=by
 refine I_ func338 ?_;refine AY (DS (k:=.u64) w D_ D_) ?_;refine AY (Uv (n:=1) w C0) ?_;refine AY (Nw (n:=63) w C0) ?_;refine AY (DS (k:=.u64) w D_ D_) ?_;have I:MY (IntKind.u64.wrap (IntKind.u64.wrap n*2 ^ 1)):=by
  rw[HS];exact⟨E,E⟩
 have J:MY (IntKind.u64.wrap (n.fdiv (2 ^ 63))):=by
  rw[HS];exact⟨E,E⟩
 refine AY (cD w I J) ⟨?_,rfl⟩;congr 1;rw[HS,HS,HS,Int.fdiv_eq_ediv_of_nonneg _ C0];have j:((2:Int) ^ 63)=9223372036854775808:=C0;have N:((2:Int) ^ 1)=2:=C0;rw[j,N];by_cases O:0<=n;have q:n/9223372036854775808=0:=E;rw[q];grind[J7];have q:n/9223372036854775808=-1:=E;rw[q];grind[Go.Lib.xor_ones64,J7]
def Zp{l:V'}{n:Int}(h:CE S w v l)(hl:l.length+20<=1099511627776)(h0:-9223372036854775808<=n)(h1:n<=9223372036854775807) : l_ 265 [v,zIq n] (λv' w'=>Gx w.heap.size w' v' (l++uv (J7 n))/\AG w w') w:=by
 refine H_ func265 ?_;grind[S265,AA,vG,OB,Hw]
def ei{l x:V'}(h:CE S w v l)(I:CE S' w xv x)(hl:l.length+x.length+40<=1099511627776) : l_ 267 [v,xv] (λv' w'=>Gx w.heap.size w' v' (l++(uv x.length++x))/\AG w w') w:=by
 refine H_ func267 ?_;obtain⟨a,c,rfl,_⟩:=I.AK;rw[AO];refine AY (DS (k:=.u64) w D_ D_) ?_;rw[Ds ⟨E,E⟩];refine AA (OB h E E) ?_;rintro X Q ⟨J,j⟩;have N:(uv x.length).length<=10:=(Na 9 x.length).2;obtain⟨v',w',h1,U,O,V⟩:=AB.append (ty:=32) Jb J (I.S_ j C0 C_) (λ_ _=>LI.one) B_ j.size (by simp only[Bp,maxLen];omega) B_;refine AY h1 ⟨?_,j.next (AF.BO O) λb hb e=>by have:=(AB.Am J b e).1;omega⟩;grind
theorem iZ{a:Attr}:(O7 a).length<=50+a.val.s.size:=by
 grind[Na,O7,List.length_append,uv,CS]
theorem lE:∀{l:V_},(∀a∈l,a.val.s.size<=64)->(Jg l).length<=114*l.length:=by
 intro l;induction l with
 |nil=>grind[Jg]
 |cons a l j=>
  grind[iZ,Jg]
def Gx.low{B j:Nat}{l:V'}(h:Gx B w v l)(hb:j<=B):Gx j w v l:=h.BY λg I=>by have:=(AB.Am h g I).1;omega
def WI{l:V_}(h:Bo S w v l)(hI:∀a∈l,SZ a)(hs:∀a∈l,a.val.s.size<=64)(hl:l.length<=64) : l_ 186 [v] (λv' w'=>v'=.string (GQ l)/\AG w w') w:=by
 refine I_ func186 ?_ (.y (.y (.x (.y (.node [3,8] [(3,3),(5,5),(8,38)] .nil .nil)))));obtain⟨a,c,rfl,_⟩:=h.AK;rw[AO];refine Aa (λvs W=>∃(i:Nat) (lv:b_),i<=l.length/\vs=[lv,zIq i]/\Gx w.heap.size W lv (Jg (l.take i))/\AG w W) (λvs _=>l.length-Da vs 1)
  ⟨0,_,Lc _,rfl,AB.nil,AF.refl _ _⟩ ?_
 rintro vs W ⟨i,lv,hi,rfl,X,g⟩ _;simp only[Ha];refine Cn (λaa=>?_) λak=>?_;have j:i<l.length:=E;have Y:=hI l[i] (S7 j);have al:=hs l[i] (S7 j);have a8:(Jg (l.take i)).length<=114*i:=by
  grind[lE]
 have Z:Jg (l.take (i+1))=Jg (l.take i)++O7 l[i]:=by
  grind[List.take_add_one,Jg]
 obtain⟨p,r,rfl,_,hr,hc,rfl⟩:=(h.S_ g C0 C_).get j;generalize l[i]=x at *;obtain⟨i1,i2,i3,i4,i5⟩:=Y;refine AV j (AX hr (by grind[Addr.add_add]) ?_);refine BA (vs:=x.cells) rfl rfl (CC.one (w:=w) (x:=x) rfl) λb5 W1 an av g5 I _=>?_;have q0:=I 0 _ rfl;have q1:=I 1 _ rfl;have q2:=I 2 _ rfl;have q3:=I 3 _ rfl;have q4:=I 4 _ rfl;have N:=g.trans g5;have o1:Gx w.heap.size W1 lv (Jg (l.take i)):=AB.T_ X g5 C_ E';rw[AE];apply AI q0;refine AA (Zp o1.sl E i1.1 i1.2) ?_;rintro v2 W2 ⟨o2,g2⟩;have J:∀n,(uv n).length<=10:=λn=>(Na 9 n).2;have u1:=J (J7 x.key);have u2:=J x.val.AR.toNat;have u3:=J (J7 x.val.n);have u4:=J x.val.f.toNat;rw[AE,AE,Addr.add_add];refine AI (g2.cell q1 F_) ?_;refine AY (DS (k:=.u64) W2 D_ D_) ?_;rw[Ds ⟨i2.1,E⟩];have ek:(Value.int .u64 x.val.AR)=.int .u64 ((x.val.AR.toNat:Nat):Int):=by rw[Int.toNat_of_nonneg i2.1]
 rw[ek];refine AA (OB o2.sl B_ E) ?_;rintro v3 W3 ⟨o3,g3⟩;have O:=g2.trans g3;rw[AE,AE,Addr.add_add];refine AI (O.cell q2 F_) ?_;refine AA (Zp o3.sl B_ i3.1 i3.2) ?_;rintro v4 W4 ⟨o4,g4⟩;have Q:=O.trans g4;rw[AE,AE,Addr.add_add];refine AI (Q.cell q3 F_) ?_;have ef:(Value.int .u64 x.val.f)=.int .u64 ((x.val.f.toNat:Nat):Int):=by rw[Int.toNat_of_nonneg i4.1]
 rw[ef];refine AA (OB o4.sl (by grind[List.length_append]) E) ?_;rintro v5 W5 ⟨o5,a1⟩;have U:=Q.trans a1;rw[AE,AE,Addr.add_add];refine AI (U.cell q4 F_) ?_;refine Vf E λv6 W6 g6 a6=>?_;have V:=U.trans g6;have o6:Gx W4.heap.size W6 v5 _:=AB.T_ (R':=LI) o5 g6 C_ E';apply AA (ei o6.sl a6 (by grind[List.length_append,CS]));rintro v7 W7 ⟨o7,g7⟩;have a7:=V.trans g7;rw[AQ,AL E];refine⟨⟨i+1,v7,j,rfl,?_,N.trans a7⟩,by rw[BV,BV];omega⟩;rw[Z];have e7:Jg (l.take i)++O7 x=Jg (l.take i)++uv (J7 x.key)++uv x.val.AR.toNat++uv (J7 x.val.n)++uv x.val.f.toNat++(uv (CK x.val.s).length++CK x.val.s):=by
  grind[CS,O7]
 rw[e7];exact o7.low (py N.size V.size);have:i=l.length:=E;subst this;rw[WL] at X;exact AY (Ur X.sl (Om hI)) ⟨rfl,g⟩
def QU{D S:d_}{l:V_}(hS:CG D w sv ks)(h:Bo S w v l)(hT:CH w)(hI:∀a∈l,0<=a.val.f) : l_ 185 [sv,v] (λv' w'=>v'=zIq (CD ks l)/\AG w w') w:=by
 classical
 refine H_ func185 ?_ (.y (.y (.y (.x (.y (.node [5,13] [(4,7),(13,46)] (.y (.y (.x (.y (.cut [18] [(18,37)] (.dm [16] [0,1,3,7,7,23,63,127,255,7,519,2047,4095,8191,16383,32767,65535,131071,262143,524287]) .nil))))) .nil))))));obtain⟨a,c,rfl,hm⟩:=h.AK;have ak:∀w',AG w w'->OW l->zIq 3=zIq (CD ks l)/\AG w w':=by grind[CD]
 rw[AO];refine gtP (λh6=>ak _ (AF.refl _ _) (.inr (.inl E))) λh6=>?_;rw[AO];refine Aa (λvs W=>∃i:Nat,i<=l.length/\vs=[zIq (if Nx ks (l.take i) then 4 else 0),zIq i]/\AG w W/\(∀a∈l.take i,EC a.val)/\Sq Attr.key l i) (λvs _=>l.length-Da vs 1)
  ⟨0,Lc _,by rw[By (by rintro⟨a,ha,_⟩;grind)];rfl,AF.refl _ _,E_,λj hj=>by omega⟩ ?_
 rintro vs W ⟨i,hi,rfl,g,hv,a1⟩ _;simp only[Ha];refine Cn (λbk=>?_) λal=>?_;have I:i<l.length:=E;obtain⟨p,r,rfl,_,hr,hc,rfl⟩:=(h.S_ g C0 C_).get I;refine AV I (AX hr (by grind[Addr.add_add]) ?_);refine BA (vs:=l[i].cells) rfl rfl (CC.one (w:=w) (x:=l[i]) rfl) λb7 X bl bp g7 N _=>?_;have J:=g.trans g7;have a6:=hI l[i] (S7 I);have e1:l.take (i+1)=l.take i++[l[i]]:=by grind[List.take_add_one]
 refine AT (λvs W2=>AG X W2/\((vs=[.bool true]/\OW l)\/(vs=[.bool false]/\EC l[i].val/\Sq Attr.key l (i+1)))) ?_ ?_;rintro vs W2 ⟨Y,an⟩ _;rcases an with⟨rfl,hb⟩|⟨rfl,a7,U⟩;exact Ab (ak _ (J.trans Y) hb);apply AM;rw[AE];refine AI (Y.cell (N 0 _ rfl) F_) ?_;rw[AE];refine AX (vs:=l[i].val.cells) rfl (λj u hu=>Y.cell (by rw[Addr.add_add];exact N (1+j) u (by rw[aCZ];exact hu)) F_) ?_;apply AA (V1 (hS.S_ (J.trans Y)) (hT.S_ (J.trans Y)) a6);rintro _ W3 ⟨rfl,g3⟩;have a8:=(J.trans Y).trans g3;rw[Aj];have aa:∀a∈l.take (i+1),EC a.val:=B_;by_cases O:I8 ks l[i].key l[i].val;rw[ys O];apply AM;rw[AQ,AL E];refine⟨⟨i+1,I,?_,a8,aa,U⟩,by grind[BV]⟩;grind[Nx];rw[zk O];apply Ab;rw[AQ,AL E];refine⟨⟨i+1,I,?_,a8,aa,U⟩,by grind[BV]⟩;grind[Nx];apply Ac (λ_ _=>False);have Z:=gdr X;have Q:Sq Attr.key l (i+1)->BX 1 (.pointer (some (⟨b7,0,none⟩:Addr))) λav=>Ij (cF [16] (i_ [0,1,3,7,7,23,63,127,255,7,519,2047,4095,8191,16383,32767,65535,131071,262143,524287]) (λ_ _=>False) X.drew 15) 4 av λax=>
   l_ 117 [ax] (λay w9=>AF (λ_=>False) X.drew w9/\MU ay λb0=>(λvs W2=>AG X W2/\((vs=[.bool true]/\OW l)\/(vs=[.bool false]/\EC l[i].val/\Sq Attr.key l (i+1)))) [b0] w9) X.drew:=by
  intro U;rw[AE];refine DH (vs:=l[i].val.cells) rfl (λj u hu=>⟨Z.cell (by rw[Addr.add_add];exact N (1+j) u (by rw[aCZ];exact hu)) F_,C_⟩) ?_;apply AA (Um (hT.S_ (J.trans Z)) a6);rintro _ W3 ⟨rfl,g3⟩;refine⟨g3,?_⟩;rw[Aj];refine⟨Z.trans g3,?_⟩;by_cases a7:EC l[i].val;grind;exact .inl ⟨B_,.inr (.inr ⟨l[i],S7 I,a7⟩)⟩
 refine gtP (λb6=>?_) λb6=>Q (λj hj=>by omega);rw[A6,wrap64 E E,show((i:Int)-1)=((i-1:Nat):Int) by omega];have V:i-1<l.length:=E;obtain⟨_,r2,e2,_,bs,b8,rfl⟩:=(h.S_ g C0 C_).get V;cases e2;apply AV V;rw[AE,Addr.add_add];refine AP ⟨(g7.trans Z).cell (b8 0 _ rfl) F_,C_⟩ ?_;rw[AE];refine AP ⟨Z.cell (N 0 _ rfl) F_,C_⟩ ?_;refine geP (λal=>⟨Z,.inl ⟨rfl,.inl λhr=>?_⟩⟩) λbb=>Q ?_;have:=hr i E I _ _ (Hc V) (Hc I);omega;intro j b9 bx x y hx hy;by_cases ba:j<i;exact a1 j b9 ba x y hx hy;grind;grind[OW,CD]
def ZE(s:ByteArray):MapKept.IsKey .string (.string s):=trivial
def Tab.Mb{α:Type}(t:Tab α)(z:α)(id:Int):Option (Ent α):=if id=0 then some ⟨z,t.empty⟩ else if id<0 then none else match t.AS[(id-1).toNat]? with
 |some p=>if p.held=0 then none else some p
 |none=>none
structure Tab.Small {α:Type} (t:Tab α) (n:Nat):Prop where
 pl:t.AS.length<=n
 em:t.empty<=n
 he:∀p∈t.AS,p.held<=n
def Tab.N4{t:Tab α}{z:α}{id:Int}{p:Ent α}(h:t.Mb z id=some p)(h0:id≠0):∃i:Nat,id=(i:Int)+1/\t.AS[i]?=some p/\0<p.held:=by
 unfold Tab.Mb at h;rw[By h0] at h;split at h;cases h;cases hp:t.AS[(id-1).toNat]? with
 |none=>grind
 |some q=>
  rw[hp] at h;simp only at h;split at h;cases h;cases h;exact⟨(id-1).toNat,E,hp,E⟩
def Tab.iJ{t:Tab α}{z:α}{i:Nat}{p:Ent α}(h:t.AS[i]?=some p)(h0:0<p.held):t.Mb z ((i:Int)+1)=some p:=by
 grind[Tab.Mb]
abbrev Y1:Nat:=232
def FT(C:d_):c_->U_->Ent V_->Prop:=λw r x=>∃sv,r=[sv,zIq x.held]/\Bo C w sv x.set
def FT.one{r:U_}{x:Ent V_}(h:FT C w r x):∀u∈r,u.oneCell'=true:=by
 obtain⟨sv,rfl,j⟩:=h;obtain⟨a,c,rfl,_⟩:=j.AK;intro u hu;simp at hu;rcases hu with rfl|rfl<;>rfl
theorem FT.T_{r:U_}{x:Ent V_}(h:FT C w r x)(hm:AF M w w')(hC:∀b,b<w.heap.size->C b->¬M b):FT C w' r x:=by
 obtain⟨sv,e,j⟩:=h;exact⟨sv,e,j.T_ hm hC C0 C_⟩
theorem FT.sub{C C':d_}{r:U_}{x:Ent V_}(h:FT C w r x)(hC:∀b,b<w.heap.size->C b->C' b):FT C' w r x:=by
 obtain⟨sv,e,j⟩:=h;exact⟨sv,e,j.sub hC C0 C_⟩
abbrev IP(ks:X'):V_->Prop:=Xj λs=>CD ks s=0
structure SKs where
 sv:b_
 ks:X'
 S:d_
structure RF (F C:d_) (W:c_) (b:Nat) (ks:SKs) (t:Tab V_) (pl fr:b_) (bm:Nat):Prop where
 Ho:CG ks.S W ks.sv ks.ks
 Iy:AB 0 Y1 2 (FT C) W pl t.AS
 Oh:AB 0 3 1 Ew W fr (t.free.map λi:Nat=>(i:Int))
 map:∃f,Jz .string W bm f/\Ff t f
 Pw:t.Inv (IP ks.ks)
 fb:F b/\¬C b
 fm:F bm/\¬C bm/\bm≠b
 pF:∀g,pl.ownBlock=some g->F g/\¬C g/\g≠b/\g≠bm
 fF:∀g,fr.ownBlock=some g->F g/\¬C g/\g≠b/\g≠bm/\pl.ownBlock≠some g
 cf:∀x,C x->F x/\x<W.heap.size
 sf:∀x,ks.S x->¬F x/\x<W.heap.size
def RF.T_{b:Nat}{ks:SKs}{t:Tab V_}{pl fr:b_}(h:RF F C W b ks t pl fr e)(hm:AF M W W')(J:∀x,F x\/ks.S x->x≠b->¬M x):RF F C W' b ks t pl fr e:=by
 have hC:∀x,x<W.heap.size->C x->¬M x:=by grind[RF.cf,RF.fb]
 obtain ⟨f,N,hi⟩:=h.map;exact ⟨h.Ho.T_ hm (by grind[RF.sf,RF.fb]),AB.T_ h.Iy hm (by grind[RF.pF]) (by grind[FT.T_]),AB.T_ h.Oh hm (λg I=>J g (.inl (h.fF g I).1) (h.fF g I).2.2.1) E',(by grind[Jz.T_,RF.fm]),h.Pw,h.fb,h.fm,h.pF,h.fF,
  λx j=>⟨(h.cf x j).1,Mp (h.cf x j).2 hm.size⟩,λx j=>⟨(h.sf x j).1,Mp (h.sf x j).2 hm.size⟩⟩
abbrev eG(sv pl fr:b_)(bm:Nat)(em:Nat):U_:=[sv,pl,fr,.map (some bm),zIq em]
structure RS (F C:d_) (W:c_) (b:Nat) (ks:SKs) (t:Tab V_) (pl fr:b_) (bm:Nat):Prop where
 cells:∀j v,(eG ks.sv pl fr bm t.empty)[j]?=some v->W.cell? ⟨b,j,none⟩=some v
 Cq:∀j,j<5->Bg W ⟨b,j,none⟩
 core:RF F C W b ks t pl fr bm
def Gi(F:d_)(W:c_)(b:Nat)(ks:SKs)(t:Tab V_):Prop:=∃C pl fr bm,RS F C W b ks t pl fr bm
def RS.T_{b:Nat}{ks:SKs}{t:Tab V_}{pl fr:b_}(h:RS F C W b ks t pl fr e)(hm:AF M W W')(I:∀x,F x\/ks.S x->¬M x):RS F C W' b ks t pl fr e:=⟨λj v J=>hm.cell (h.cells j v J) (I b (.inl h.core.fb.1)),λj N=>(h.Cq j N).T_ hm (I b (.inl h.core.fb.1)),h.core.T_ hm B_⟩
def Gi.T_{b:Nat}{ks:SKs}{t:Tab V_}(h:Gi F W b ks t)(hm:AF M W W')(j:∀x,F x\/ks.S x->¬M x):Gi F W' b ks t:=by
 obtain⟨C,pl,fr,I,h⟩:=h;exact⟨C,pl,fr,I,h.T_ hm j⟩
theorem Gi.S_{b:Nat}{ks:SKs}{t:Tab V_}(h:Gi F W b ks t)(g:AG W W'):Gi F W' b ks t:=h.T_ g C_
def LL(F:d_)(w w':c_)(b:Nat)(ks:SKs)(t:Tab V_):Prop:=∃F',(∀x,F' x->F x\/w.heap.size<=x/\x<w'.heap.size)/\Gi F' w' b ks t/\AF F w w'
theorem LL.Ak{b:Nat}{ks:SKs}{t:Tab V_}(h:Gi F w' b ks t)(hm:AF F w w'):LL F w w' b ks t:=⟨F,K_,h,hm⟩
def Gi.lt{b:Nat}{ks:SKs}{t:Tab V_}(h:Gi F W b ks t):b<W.heap.size/\F b:=by
 obtain⟨C,pl,fr,j,h⟩:=h;exact⟨lA W _ (h.cells 4 _ rfl),h.core.fb.1⟩
def Sh{m:Option Nat}(w:c_):(Di .neq 179 xo yo (.map m) (.map none)).run prog w=.ok (.bool (!m.isNone)) w:=by
 have e:(binOp .neq 179 (.map m) (.map none)).run prog w=.ok (.bool (!m.isNone)) w:=run_neq_map_nil w _ _ _ _ underlying179;simp[Di,eqGuard,e]
def Xk{b:Nat}{ks:SKs}{t:Tab V_}(h:Gi F W b ks t):l_ 184 [e_ b] (λv' w'=>v'=.bool true/\w'=W) W:=by
 obtain⟨C,pl,fr,j,h⟩:=h;refine I_ func184 ?_;refine Dq (Ab (AJ ?_));exact fl_i (h.cells 3 _ rfl) (AY (Sh W) ⟨rfl,rfl⟩)
def qu{ks:SKs}(h:CG ks.S w ks.sv ks.ks)(hS:∀x,ks.S x->x<w.heap.size) : l_ 59 [ks.sv] (λv' w'=>AG w w'/\∃b,w.heap.size<=b/\v'=e_ b/\Gi (λx=>w.heap.size<=x/\x<w'.heap.size) w' b ks (Tab.z _)) w:=by
 refine I_ func59 ?_;apply AY (v:=.map (some w.heap.size)) (w':=w.alloc (.map #[] 0)) rfl;have X:AG w (w.alloc (.map #[] 0)):=AF.alloc _ _ _;have N:Jz .string (w.alloc (.map #[] 0)) w.heap.size (λ_=>none):=Jz.make .string w;have O:(w.alloc (.map #[] 0)).heap.size=w.heap.size+1:=E_;generalize w.alloc (.map #[] 0)=w1 at X N O ⊢;obtain⟨sv,ks,S⟩:=ks;obtain⟨Y,_,_,_,rfl,_⟩:=id h;refine⟨(eG (e_ Y) g_ g_ w.heap.size 0).toArray,D_,?_⟩;refine CN (vs:=eG (e_ Y) g_ g_ w.heap.size 0) λb w2 hb Z g2 Q U=>?_;have I:=X.trans g2;have J:=h.S_ I;refine⟨I,b,E,rfl,λ_=>False,g_,g_,w.heap.size,?_⟩;refine⟨λj v hv=>by have:=Q j v hv;rwa [AH] at this,λj hj=>by have:=U j hj;rwa [AH] at this,?_⟩;refine⟨J,AB.nil,AB.nil,(by grind[Jz.T_,Ff.z]),Tab.Inv.z _,B_,B_,(λg V=>nomatch V),(λg V=>nomatch V),L_,B_⟩
def SE{b:Nat}{ks:SKs}{t:Tab V_}{id:Int}(h:Gi F W b ks t)(hs:t.AS.length<=1099511627776)(h0:-9223372036854775808<=id)(h1:id<=9223372036854775807) :
  l_ 145 [e_ b,.int .i64 id] (λv' w'=>AG W w'/\match t.Mb [] id with
   |some p=>∃sv,v'=.tuple #[.agg #[sv,.int .i64 p.held],.int .i64 0]/\sv.oneCell'=true/\Bo F w' sv p.set
   | none=>v'=.tuple #[.agg #[g_,.int .i64 0],.int .i64 5]) W:=by
 refine H_ func145 ?_ (.y (.cut [] [(5,43)] .nil .nil));refine Ce λb4 w1 an av Y _ ax=>?_;have a1:=h.S_ Y;obtain⟨C,pl,fr,bm,Z⟩:=h;have J:=Z.T_ Y C_;obtain⟨pa,pc,N,_⟩:=Z.core.Iy.sl.AK;have O:=J.core.Iy.sl;rw[N] at O;have box:∀(vs:U_) {X:c_} {K:Cont},vs.length=2->(∀v∈vs,v.oneCell'=true)->AG w1 X->(∀j,AG W j->K (.agg vs.toArray) j)->Bv 2 (e_ b4) (.agg vs.toArray) (λw=>DJ 2 (e_ b4) K w) X:=by
  refine λvs X K hn ho g' hK=>BI hn ho (by grind[Bg.T_]) λj m hc _=>?_;exact AX hn hc (hK _ ((Y.trans g').next m E))
 have no:t.Mb [] id=none->∀{j:c_},AG W j->AG W j/\match t.Mb [] id with
   |some p=>∃sv,Value.tuple #[.agg #[g_,.int .i64 0],.int .i64 5]=.tuple #[.agg #[sv,.int .i64 p.held],.int .i64 0]/\sv.oneCell'=true/\Bo F j sv p.set
   |none=>Value.tuple #[.agg #[g_,.int .i64 0],.int .i64 5]=.tuple #[.agg #[g_,.int .i64 0],.int .i64 5]:=B_
 refine AT (λ_ X=>AG w1 X/\∃(i:Nat) (p:Ent V_),id=(i:Int)+1/\t.AS[i]?=some p/\0<p.held) ?_ ?_;rintro _ W2 ⟨g2,i,p,rfl,hp,a6⟩ _;have hi:=(Ad.1 hp).1;have U:=(Ad.1 hp).2;refine nfl_i (g2.cell (J.cells 1 _ rfl) F_) ?_;rw[A6,wrap64 E E,show((i:Int)+1-1)=(i:Int) by omega,N];obtain⟨q,r,rfl,_,hr,hc,Q⟩:=O.get hi;obtain⟨si,rfl,V⟩:=Q;refine AV hi (AX hr (by grind[Addr.add_add,AF.cell]) ?_);obtain⟨sa,sc,rfl,_⟩:=V.AK;refine box [_,_] rfl j_ g2 λj I=>?_;rw[Tab.iJ hp a6];refine⟨I,_,by rw[U],rfl,?_⟩;have a7:Bo C W (.slice sa t.AS[i].set.length sc) t.AS[i].set:=by
  obtain⟨q',r',e',_,ay,a8,s',e2,b0⟩:=(N▸Z.core.Iy.sl).get hi;cases e';have c0:=Y.cell (a8 0 s' B_) F_;have c1:=hc 0 _ rfl;grind
 rw[<-U];exact(a7.sub (λx _ hx=>(Z.core.cf x hx).1) C0 C_).S_ I C0 C_;apply AA (Xk a1);rintro _ _ ⟨rfl,rfl⟩;rw[Aj];apply AM;refine eqP (λhz=>?_) λhz=>?_;apply nfl_i (J.cells 4 _ rfl);refine⟨#[g_,zIq t.empty],D_,?_⟩;refine box [g_,zIq t.empty] rfl j_ (AF.refl _ _) λj I=>?_;have ea:t.Mb [] id=some ⟨[],t.empty⟩:=by unfold Tab.Mb;rw[Ix hz]
 rw[ea];exact⟨I,_,rfl,rfl,Al.nil⟩;refine Cn (λb6=>?_) λaa=>?_;refine⟨#[g_,zIq 0],D_,?_⟩;exact box [g_,zIq 0] rfl j_ (AF.refl _ _) λj I=>no (by unfold Tab.Mb;grind) I;have ak:0<=id:=E;apply nfl_i (J.cells 1 _ rfl);rw[N,AO];refine gtP (λal=>?_) λb7=>?_;refine⟨#[g_,zIq 0],D_,?_⟩;refine box [g_,zIq 0] rfl j_ (AF.refl _ _) λj I=>no ?_ I;unfold Tab.Mb;rw[By hz,By aa,aBL E];obtain⟨i,rfl⟩:∃i:Nat,id=(i:Int)+1:=⟨(id-1).toNat,E⟩;have hi:i<t.AS.length:=E;apply nfl_i (J.cells 1 _ rfl);rw[A6,wrap64 E E,show((i:Int)+1-1)=(i:Int) by omega,N];obtain⟨q,r,rfl,_,hr,hc,Q⟩:=O.get hi;obtain⟨si,rfl,V⟩:=Q;apply AV hi;rw[AE,Addr.add_add];apply AI (hc 1 _ rfl);refine eqP (λh0=>?_) λh0=>⟨AF.refl _ _,i,t.AS[i],rfl,Hc hi,E⟩;refine⟨#[g_,zIq 0],D_,?_⟩;refine box [g_,zIq 0] rfl j_ (AF.refl _ _) λj I=>no ?_ I;unfold Tab.Mb;grind
def Tab.He{α:Type}(t:Tab α)(z:α)(id:Int):Tab α:=match t.Mb z id with
 |none=>t
 |some p=>if id=0 then { t with empty:=t.empty+1 } else t.Ll (id-1).toNat ⟨p.set,p.held+1⟩
def Tab.EG{α:Type}(t:Tab α)(z:α)(id:Int):Tab α:=match t.Mb z id with
 |none=>t
 |some p=>if id=0 then { t with empty:=t.empty-1 } else if p.held=1 then t.drop z (id-1).toNat else t.Ll (id-1).toNat ⟨p.set,p.held-1⟩
def Qk(h:IP ks s):s.length<=64/\∀a∈s,a.val.s.size<=64:=by
 classical
 have hb:¬OW s:=λhb=>by
  have J:CD ks s=0:=h.2.2;grind[CD]
 refine⟨aCd λj=>hb (.inr (.inl j)),λa ha=>aCd λj=>hb (.inr (.inr ⟨a,ha,λI=>?_⟩))⟩;rcases I with I|I|I|I;rw[I.2.1] at j;exact absurd j (by simp[JF,ByteArray.size]);rw[I.2] at j;exact absurd j (by simp[JF,ByteArray.size]);rw[I.2.1] at j;exact absurd j (by simp[JF,ByteArray.size]);omega
def VI{b:Nat}{ks:SKs}{t:Tab V_}{pl fr:b_}(h:RF F C W b ks t pl fr e){id:Int}{p:Ent V_}(hp:t.Mb [] id=some p):p.set.length<=64:=by
 by_cases h0:id=0;unfold Tab.Mb at hp;grind;obtain⟨i,_,h1,j⟩:=Tab.N4 hp h0;exact(Qk (h.Pw.ok i p h1 j)).1
def aF{b:Nat}{ks:SKs}{t:Tab V_}{id:Int}(h:Gi F W b ks t)(Q:t.AS.length<=1099511627776)(h0:-9223372036854775808<=id)(h1:id<=9223372036854775807) :
  l_ 79 [e_ b,.int .i64 id] (λv' w'=>AG W w'/\match t.Mb [] id with
   |some p=>∃sv,v'=.tuple #[sv,.int .i64 0]/\Kh W.heap.size w' sv p.set
   | none=>v'=.tuple #[g_,.int .i64 5]) W:=by
 refine H_ func79 ?_;apply AA (SE h Q h0 h1);rintro v1 w1 ⟨U,hm⟩;cases ha:t.Mb [] id with
 |none=>
  rw[ha] at hm;subst hm;apply BD;refine BA (vs:=[g_,zIq 0]) rfl rfl j_ λb5 w2 _ _ N j _=>?_;exact neP (λe=>by cases e) (by grind[AF.trans])
 |some p=>
  rw[ha] at hm;obtain⟨sv,rfl,V,I⟩:=hm;apply BD;refine BA (vs:=[sv,zIq p.held]) rfl rfl (λu hu=>by simp at hu;rcases hu with rfl|rfl;exact V;rfl) λb5 w2 _ _ N j _=>?_;refine neP (λ_=>?_) λe=>(e rfl).elim;rw[AE];apply AI (j 0 _ rfl);obtain⟨C,pl,fr,bm,X⟩:=h;have hl:=VI X.core ha;refine AA (GL (I.S_ N C0 C_) E) ?_;rintro v3 w3 ⟨O,Y⟩;have J:=U.trans N;exact⟨J.trans Y,v3,rfl,O.BY λg Z=>by have:=(AB.Am O g Z).1;have:=J.size;omega⟩
def Qg{b:Nat}{ks:SKs}{t:Tab V_}{pl fr:b_}{bm i n:Nat}{p:Ent V_}{K:c_->Prop}{a:Addr}(h:RS F C W b ks t pl fr bm)(hp:t.AS[i]?=some p)(h0:0<p.held)(X:0<n)(I:pl=.slice (some a) t.AS.length c) (hK:∀W',RS F C W' b ks (t.Ll i ⟨p.set,n⟩) pl fr bm->AF F W W'->K W'):Cc (.pointer (some (a.add (i*2+1)))) (zIq n) K W:=by
 have hi:=(Ad.1 hp).1;have Q:=(Ad.1 hp).2;have N:=h.core.Iy;rw[I] at N;have O:pl.ownBlock=some a.block:=by rw[I];rfl
 obtain ⟨f1,f2,Y,f4⟩:=h.core.pF _ O;have U:AF (λx=>x=a.block) W (W.setCell (a.add (i * 2+1)) (zIq n)):=AF.setCell _ _ _ (by rw [Ai]);have hC:∀ x,x < W.heap.size->C x->¬ x=a.block:=B_;obtain ⟨⟨u,hu⟩,hf,ho,hm⟩:=AB.store (R':=FT C) (u:=zIq n) (x':=⟨p.set,n⟩) (j:=1) N hi C0 rfl (by grind[FT.T_]) (λr hr=>by
  obtain ⟨s,rfl,Z⟩:=hr;refine ⟨s,rfl,?_⟩;rw [Q] at Z;exact Z.T_ U hC C0 C_)
 refine O6 rfl rfl hu hf (hK _ ?_ (by grind[AF.mono]));obtain⟨f,a1,V⟩:=h.core.map;refine⟨λj v hv=>hm.cell (h.cells j v hv) (λe=>Y e.symm),λj hj=>(h.Cq j hj).T_ hm (λe=>Y e.symm),?_⟩;exact⟨h.core.Ho.T_ hm λx _ J e=>(h.core.sf x J).1 (e▸f1),by rw[I];exact ho,AB.T_ h.core.Oh hm (λg hg e=>(h.core.fF g hg).2.2.2.2 (by rw[O,e])) E',⟨f,(by grind[Jz.T_]),V.Ll hp h0 X⟩,h.core.Pw.Ll hp h0 X,h.core.fb,h.core.fm,h.core.pF,h.core.fF,λx J=>⟨(h.core.cf x J).1,Mp (h.core.cf x J).2 hm.size⟩,λx J=>⟨(h.core.sf x J).1,Mp (h.core.sf x J).2 hm.size⟩⟩
def Lp{b:Nat}{ks:SKs}{t:Tab V_}{pl fr:b_}{bm n:Nat}{K:c_->Prop}(h:RS F C W b ks t pl fr bm) (j:∀W',RS F C W' b ks { t with empty:=n } pl fr bm->AF F W W'->K W'):Cc (.pointer (some ⟨b,4,none⟩)) (zIq n) K W:=by
 refine DC h.cells h.Cq (q:=4) (show 4<5 by decide) rfl rfl λW' hm hc hl=>?_;refine j W' ⟨hc,B_,?_⟩ (hm.mono λx _ e=>by rw[e];exact h.core.fb.1);have:=h.core.T_ hm C_;exact⟨this.Ho,this.Iy,this.Oh,this.map,⟨this.Pw.Vi,this.Pw.mG,this.Pw.K2,this.Pw.ok⟩,this.fb,this.fm,this.pF,this.fF,this.cf,this.sf⟩
def gM{b:Nat}{ks:SKs}{t:Tab V_}{id:Int}(h:Gi F W b ks t)(V:t.Small 1099511627776)(h0:-9223372036854775808<=id)(h1:id<=9223372036854775807) : l_ 196 [e_ b,zIq id] (λv' w'=>v'=zIq (if(t.Mb [] id).isSome then 0 else 5)/\LL F W w' b ks (t.He [] id)) W:=by
 refine H_ func196 ?_;apply AA (SE h V.pl h0 h1);rintro v1 w1 ⟨g1,hm⟩;unfold Tab.He;cases ha:t.Mb [] id with
 |none=>
  rw[ha] at hm;subst hm;apply BD;refine BA (vs:=[g_,zIq 0]) rfl rfl j_ λb5 w2 _ _ X Y _=>?_;rw[FQ];have I:=g1.trans X;grind[BM,LL.Ak,Gi.S_,AF.mono]
 |some p=>
  rw[ha] at hm;obtain⟨sv,rfl,ho,a7⟩:=hm;apply BD;refine BA (vs:=[sv,zIq p.held]) rfl rfl (λu hu=>by simp at hu;rcases hu with rfl|rfl;exact ho;rfl) λb5 w2 _ _ X Y _=>?_;have I:=g1.trans X;obtain⟨C,pl,fr,bm,hR⟩:=h;have j:=hR.T_ I C_;refine neP (λ_=>?_) λe=>(e rfl).elim;refine eqP (λU=>?_) λU=>?_;apply nfl_i (j.cells 4 _ rfl);have:=V.em;rw[AQ,wrap64 E E];apply AJ;rw[AE,AH];have Z:((t.empty:Int)+1)=((t.empty+1:Nat):Int):=E;rw[Z];refine Lp j λW' J N=>⟨rfl,?_⟩;dsimp only;rw[Ix U];exact .Ak ⟨C,pl,fr,bm,J⟩ ((I.mono G_).trans N);obtain⟨i,rfl,hp,a1⟩:=Tab.N4 ha U;have hi:=(Ad.1 hp).1;have a8:=(Ad.1 hp).2;apply nfl_i (j.cells 1 _ rfl);obtain⟨pa,pc,O,_⟩:=j.core.Iy.sl.AK;have Q:=j.core.Iy.sl;rw[O] at Q;rw[A6,wrap64 E E,show((i:Int)+1-1)=(i:Int) by omega,O];obtain⟨q,r,rfl,_,hr,hc,a6⟩:=Q.get hi;obtain⟨si,rfl,aa⟩:=a6;apply AV hi;rw[AE,Addr.add_add];apply AI (hc 1 _ rfl);have ak:=V.he t.AS[i] (S7 hi);rw[AQ,wrap64 E E];apply AV hi;rw[AE,Addr.add_add];have Z:((t.AS[i].held:Int)+1)=((p.held+1:Nat):Int):=B_;rw[Z];refine Qg j hp a1 (n:=p.held+1) E O λW' J N=>⟨rfl,?_⟩;dsimp only;rw[By U,aAA];exact .Ak ⟨C,pl,fr,bm,J⟩ ((I.mono G_).trans N)
structure Bj (F C:d_) (W:c_) (b:Nat) (ks:SKs) (AS:List (Ent V_)) (free:X_) (em:Nat) (f:b_->Option b_) (pl fr:b_) (bm:Nat):Prop where
 cells:∀j v,(eG ks.sv pl fr bm em)[j]?=some v->W.cell? ⟨b,j,none⟩=some v
 Cq:∀j,j<5->Bg W ⟨b,j,none⟩
 Ho:CG ks.S W ks.sv ks.ks
 Iy:AB 0 Y1 2 (FT C) W pl AS
 Oh:AB 0 3 1 Ew W fr (free.map λi:Nat=>(i:Int))
 map:Jz .string W bm f
 fb:F b/\¬C b
 fm:F bm/\¬C bm/\bm≠b
 pF:∀g,pl.ownBlock=some g->F g/\¬C g/\g≠b/\g≠bm
 fF:∀g,fr.ownBlock=some g->F g/\¬C g/\g≠b/\g≠bm/\pl.ownBlock≠some g
 cf:∀x,C x->F x/\x<W.heap.size
 sf:∀x,ks.S x->¬F x/\x<W.heap.size
section
variable {F C M:d_}{W W':c_}{b:Nat}{ks:SKs}{t:Tab V_}{AS:List (Ent V_)}{free:X_}{em:Nat}{f:b_->Option b_}{pl fr:b_}{bm:Nat}
def RS.m(h:RS F C W b ks t pl fr bm):∃f,Bj F C W b ks t.AS t.free t.empty f pl fr bm/\Ff t f:=by
 obtain⟨f,j,hi⟩:=h.core.map;exact⟨f,⟨h.cells,h.Cq,h.core.Ho,h.core.Iy,h.core.Oh,j,h.core.fb,h.core.fm,h.core.pF,h.core.fF,h.core.cf,h.core.sf⟩,hi⟩
def Bj.r(h:Bj F C W b ks t.AS t.free t.empty f pl fr bm)(hi:Ff t f)(j:t.Inv (IP ks.ks)):RS F C W b ks t pl fr bm:=⟨h.cells,h.Cq,h.Ho,h.Iy,h.Oh,⟨f,h.map,hi⟩,j,h.fb,h.fm,h.pF,h.fF,h.cf,h.sf⟩
def Bj.T_(h:Bj F C W b ks AS free em f pl fr bm)(hm:AF M W W')(J:∀x,F x\/ks.S x->¬M x):Bj F C W' b ks AS free em f pl fr bm:=by
 have hC:∀x,x<W.heap.size->C x->¬M x:=by grind[Bj.cf]
 exact ⟨(by grind[AF.cell,Bj.cells,Bj.fb]),λj N=>(h.Cq j N).T_ hm (J b (.inl h.fb.1)),h.Ho.T_ hm B_,AB.T_ h.Iy hm (by grind[Bj.pF]) (by grind[FT.T_]),AB.T_ h.Oh hm (λg O=>J g (.inl (h.fF g O).1)) E',
  h.map.T_ hm (J bm (.inl h.fm.1)),h.fb,h.fm,h.pF,h.fF,λx I=>⟨(h.cf x I).1,Mp (h.cf x I).2 hm.size⟩,λx I=>⟨(h.sf x I).1,Mp (h.sf x I).2 hm.size⟩⟩
def Bj.jV{J:b_->Option b_}(h:Bj F C W b ks AS free em f pl fr bm)(hm:AF (λx=>x=bm) W W')(N:Jz .string W' bm J):Bj F C W' b ks AS free em J pl fr bm:=by
 have hC:∀x,x<W.heap.size->C x->¬x=bm:=by grind[Bj.fm]
 have hb:¬ b=bm:=λe=>h.fm.2.2 e.symm;exact ⟨(by grind[AF.cell,Bj.cells]),λj O=>(h.Cq j O).T_ hm hb,h.Ho.T_ hm (by grind[Bj.sf,Bj.fm]),AB.T_ h.Iy hm (by grind[Bj.pF]) (by grind[FT.T_]),AB.T_ h.Oh hm (λg Q=>(h.fF g Q).2.2.2.1) E',
  N,h.fb,h.fm,h.pF,h.fF,λx I=>⟨(h.cf x I).1,Mp (h.cf x I).2 hm.size⟩,λx I=>⟨(h.sf x I).1,Mp (h.sf x I).2 hm.size⟩⟩
theorem Bj.NF{I:List (Ent V_)}{g:Nat}(h:Bj F C W b ks AS free em f pl fr bm)(N:pl.ownBlock=some g)(hm:AF (λx=>x=g) W W')(hp:AB 0 Y1 2 (FT C) W' pl I):Bj F C W' b ks I free em f pl fr bm:=by
 obtain ⟨V,X,O,Q⟩:=h.pF g N;have hC:∀ x,x < W.heap.size->C x->¬ x=g:=B_;exact ⟨(by grind[AF.cell,Bj.cells]),λj U=>(h.Cq j U).T_ hm (λe=>O e.symm),h.Ho.T_ hm (by grind[Bj.sf]),hp,AB.T_ h.Oh hm (by grind[Bj.fF]) E',
  h.map.T_ hm (λe=>Q e.symm),h.fb,h.fm,h.pF,h.fF,λx J=>⟨(h.cf x J).1,Mp (h.cf x J).2 hm.size⟩,λx J=>⟨(h.sf x J).1,Mp (h.sf x J).2 hm.size⟩⟩
def Bj.sX{F':d_}{free':X_}{K:c_->Prop}{Mf:d_}(h:Bj F C W b ks AS free em f pl fr bm)(hm:AF Mf W W')(X:∀x,Mf x->fr.ownBlock=some x)(hF:∀x,F x->F' x)(Y:∀x,F' x->F x\/W.heap.size<=x) (Z:AB 0 3 1 Ew W' v (free'.map λi:Nat=>(i:Int)))(hn:∀g,v.ownBlock=some g->fr.ownBlock=some g\/W.heap.size<=g/\F' g)(O:v.oneCell'=true)(U:v.cells=#[v]) (hK:∀N,Bj F' C N b ks AS free' em f pl v bm->AF (λx=>x=b) W' N->K N):Cc (.pointer (some ⟨b,2,none⟩)) v K W':=by
 have hb:∀x,Mf x->F x/\¬C x/\x≠b/\x≠bm/\pl.ownBlock≠some x:=by grind[Bj.fF]
 refine DC (vs:=eG ks.sv pl fr bm em) (by grind[AF.cell,Bj.cells]) (λj hj=>(h.Cq j hj).T_ hm B_) (q:=2) (show 2<5 by decide) O U λN J hc hl=>?_;have a1:=lA W _ (h.cells 4 _ rfl);have a6:∀x,x<W'.heap.size->C x->¬x=b:=by grind[Bj.fb]
 have a7:=AB.Am h.Iy;have a8:=h.map.lt;refine hK N ⟨hc,B_,(h.Ho.T_ hm (by grind[Bj.sf])).T_ J (by grind[Bj.sf,Bj.fb]),AB.T_ (AB.T_ (R':=FT C) h.Iy hm B_ (by grind[FT.T_])) J (by grind[Bj.pF]) (by grind[FT.T_]),AB.T_ Z J (λg V e=>?_) E',
  (h.map.T_ hm B_).T_ J h.fm.2.2,⟨hF _ h.fb.1,h.fb.2⟩,⟨hF _ h.fm.1,h.fm.2⟩,(by grind[Bj.pF]),λg V=>?_,λx Q=>⟨hF _ (h.cf x Q).1,Mp (h.cf x Q).2 (py hm.size J.size)⟩,λx Q=>⟨(by grind[Bj.sf]),Mp (h.sf x Q).2 (py hm.size J.size)⟩⟩ J
 grind[Bj.fF];rcases hn g V with e|⟨e,e'⟩;grind[Bj.fF];grind[Bj.cf]
end
def mf{a:Addr}{n c i:Nat}{l:List (Ent V_)}{K:c_->Prop}(h:AB 0 Y1 2 (FT C) W (.slice (some a) n c) l)(hi:i<l.length)(hC:∀x,x<W.heap.size->C x->¬x=a.block) (X:∀W',AB 0 Y1 2 (FT C) W' (.slice (some a) n c) (l.set i ⟨[],0⟩)->AF (λx=>x=a.block) W W'->K W'):Bv 2 (.pointer (some (a.add (i*2)))) (.agg #[g_,zIq 0]) K W:=by
 have N:AF (λx=>x=a.block) W (W.setCell (a.add (i * 2+0)) g_):=AF.setCell _ _ _ (by rw [Ai]);obtain ⟨⟨u1,Y⟩,Z,O,_⟩:=AB.store (R':=FT C) (u:=g_) (x':=⟨[],l[i].held⟩) (j:=0) h hi C0 rfl (by grind[FT.T_]) (λr hr=>by
  obtain ⟨s,rfl,Q⟩:=hr;exact ⟨_,rfl,Al.nil⟩)
 have U:i < (l.set i ⟨[],l[i].held⟩).length:=B_;have I:AF (λx=>x=a.block) (W.setCell (a.add (i * 2+0)) g_) ((W.setCell (a.add (i * 2+0)) g_).setCell (a.add (i * 2+1)) (zIq 0)):=AF.setCell _ _ _ (by rw [Ai]);have V:∀ x,x < (W.setCell (a.add (i * 2+0)) g_).heap.size->C x->¬ x=a.block:=λx hx hc=>hC x (by simpa using hx) hc;obtain ⟨_,_,J,_⟩:=AB.store (R':=FT C) (u:=zIq 0) (x':=⟨[],0⟩) (j:=1) O U C0 rfl (by grind[FT.T_]) (λr hr=>by
  obtain⟨s,rfl,Q⟩:=hr;refine⟨s,rfl,?_⟩;have e:(l.set i ⟨[],l[i].held⟩)[i].set=[]:=by rw[aB1]
  rw [e] at Q;exact Q.T_ I V C0 C_)
 rw[aDf] at J;obtain⟨⟨u2,a1⟩,a6,_,_⟩:=AB.store (R':=λ_ _ (_:Ent V_)=>True) (u:=zIq 0) (x':=⟨[],0⟩) (j:=1) h hi C0 rfl (λ_ _ _ _=>trivial) (λ_ _=>trivial);refine⟨_,[g_,zIq 0],rfl,rfl,rfl,λu hu=>by simp at hu;rcases hu with rfl|rfl<;>rfl,λj hj=>?_,X _ ?_ ?_⟩;grind[Addr.add_add];simp only[Fj,Addr.add_add];exact J;simp only[Fj,Addr.add_add];exact N.trans I
def iY{b:Nat}{ks:SKs}{t:Tab V_}{id:Int}(h:Gi F W b ks t)(hs:t.Small 10995116277)(h0:-9223372036854775808<=id)(h1:id<=9223372036854775807) : l_ 110 [e_ b,zIq id] (λv' w'=>v'=zIq (if(t.Mb [] id).isSome then 0 else 5)/\LL F W w' b ks (t.EG [] id)) W:=by
 refine H_ func110 ?_ (.y (.y (.x (.y (.y (.y (.y (.y (.x (.x (.dm [6,7] [0,1,3,7,0,16,48,127])))))))))));have cc:=hs.pl;refine AA (SE h E h0 h1) ?_;rintro v1 w1 ⟨g1,hm⟩;unfold Tab.EG;cases ha:t.Mb [] id with
 |none=>
  rw[ha] at hm;subst hm;apply BD;refine BA (vs:=[g_,zIq 0]) rfl rfl j_ λb5 w2 _ _ g2 Z _=>?_;rw[FQ];have J:=g1.trans g2;grind[BM,LL.Ak,Gi.S_,AF.mono]
 |some p=>
  rw[ha] at hm;obtain⟨si,rfl,ho,ay⟩:=hm;apply BD;refine BA (vs:=[si,zIq p.held]) rfl rfl (λu hu=>by simp at hu;rcases hu with rfl|rfl;exact ho;rfl) λb5 w2 _ _ g2 Z _=>?_;have J:=g1.trans g2;obtain⟨C,pl,fr,bm,hR⟩:=h;have I:=hR.T_ J C_;have a1:=ay.S_ g2 C0 C_;refine neP (λ_=>?_) λe=>(e rfl).elim;refine eqP (λhz=>?_) λhz=>?_;apply nfl_i (I.cells 4 _ rfl);have:=hs.em;rw[A6,Hi,wrap64 E E];apply AJ;rw[AE,AH];have en:(if(0:Int)>(t.empty:Int)-1 then(0:Int) else(t.empty:Int)-1)=((t.empty-1:Nat):Int):=E;rw[en];refine Lp I λW' a6 a7=>⟨rfl,?_⟩;dsimp only;rw[Ix hz];exact .Ak ⟨C,pl,fr,bm,a6⟩ ((J.mono G_).trans a7);obtain⟨i,rfl,hp,X⟩:=Tab.N4 ha hz;have hi:=(Ad.1 hp).1;have cu:=(Ad.1 hp).2;have cx:=hs.he t.AS[i] (S7 hi);obtain⟨pa,pc,N,_⟩:=I.core.Iy.sl.AK;rw[AE];apply AI (Z 1 _ rfl);refine eqP (λb0=>?_) λb0=>?_;have a8:p.held=1:=E;have O:=hR.core.Pw.ok i p hp X;obtain⟨bp,bs⟩:=Qk O;apply Ac (λk y=>k=7/\y=bm);have gd:=gdr w2;apply AJ;rw[AE,AH];refine AP ⟨gd.cell (I.cells 3 _ rfl) F_,λj hj e=>by obtain⟨rfl,_⟩:=e;exact absurd hj C0⟩ ?_;rw[AE];refine AP ⟨gd.cell (Z 0 _ rfl) F_,λj hj e=>by obtain⟨rfl,_⟩:=e;exact absurd hj C0⟩ ?_;refine AA (WI (a1.S_ gd C0 C_) O.2.1 bs bp) ?_;rintro _ w4 ⟨rfl,g4⟩;refine⟨B_,?_⟩;have b6:=gd.trans g4;have b7:=J.trans b6;have b8:=I.T_ b6 C_;have Q:=b8.core.Pw;obtain⟨f,b9,ba⟩:=b8.m;obtain⟨w5,bb,aa,ak⟩:=Xz (P:=prog) (ty:=0) (t:=179) (kt:=9) underlying179 underlying9 (ZE (GQ p.set)) b9.map;refine AY bb ⟨B_,?_⟩;have al:=b9.jV ak aa;apply nfl_i (al.cells 1 _ rfl);rw[A6,wrap64 E E,show((i:Int)+1-1)=(i:Int) by omega];refine⟨#[g_,zIq 0],D_,?_⟩;have U:=al.Iy;rw[N] at U ⊢;obtain⟨q,r,rfl,hq,_,_,_⟩:=U.sl.get hi;apply AV hi;have bx:pl.ownBlock=some q.block:=B_;have c4:∀x,x<w5.heap.size->C x->¬x=q.block:=by grind[Bj.pF]
  refine mf U hi c4 λw6 c6 an=>?_;have Y:=al.NF bx an (by rw[N];exact c6);apply nfl_i (Y.cells 2 _ rfl);have da:=Tab.bD Q;rw[A6,wrap64 E E,show((i:Int)+1-1)=(i:Int) by omega];refine Dv IJ Y.Oh (Lc _) (cs:=[zIq i]) (x:=(i:Int)) D_ rfl rfl (λ_ _ _=>Ew.one) B_ B_ (by rw[Nn];simp only[maxLen];omega) λc7 w7 V av dk=>?_;apply AJ;rw[AE,AH];have ax:(t.free.map λi:Nat=>(i:Int))++[(i:Int)]=(t.free++[i]).map λi:Nat=>(i:Int):=E_;rw[ax] at V;have s7:=av.size;have cq:=AB.Am V;refine Bj.sX (F':=λx=>F x\/w6.heap.size<=x/\x<w7.heap.size) Y av M_ K_ B_ V B_ V.one.1 V.one.2 λw8 c8 bk=>⟨rfl,?_⟩;dsimp only;rw[By hz,Ix a8,aAA];have z4:=b7.size;have z5:=ak.size;have z6:=an.size;have z8:=bk.size;refine⟨_,λx hx=>?_,⟨C,pl,c7,bm,Bj.r (t:=t.drop [] i) c8 (ba.drop Q hp X) (Tab.iW Q hp X [])⟩,?_⟩;grind;refine(((((b7.mono G_).trans (ak.mono (by grind[Bj.fm]))).trans (an.mono (by grind[Bj.pF]))).trans (av.mono λx _ e=>(Y.fF x e).1)).trans (bk.mono (by grind[Bj.fb])));apply nfl_i (I.cells 1 _ rfl);have bl:=I.core.Iy.sl;rw[N] at bl;rw[A6,wrap64 E E,show((i:Int)+1-1)=(i:Int) by omega,N];obtain⟨q,r,rfl,_,hr,hc,c9⟩:=bl.get hi;obtain⟨s2,rfl,dr⟩:=c9;apply AV hi;rw[AE,Addr.add_add];apply AI (hc 1 _ rfl);rw[A6,wrap64 E E];apply AV hi;rw[AE,Addr.add_add];have ca:p.held≠1:=E;have en:((t.AS[i].held:Int)-1)=((p.held-1:Nat):Int):=B_;rw[en];refine Qg I hp X (n:=p.held-1) E N λW' a6 a7=>⟨rfl,?_⟩;dsimp only;rw[By hz,By ca,aAA];exact .Ak ⟨C,pl,fr,bm,a6⟩ ((J.mono G_).trans a7)
def gV:DD prog 180 Y1 2 32:=⟨Tryz.t232,.agg #[g_,zIq 0],D_,D_,D_,D_,D_,by rfl,C0⟩
section
variable {F C M:d_}{W W':c_}{b:Nat}{ks:SKs}{t:Tab V_}{AS:List (Ent V_)}{free:X_}{em:Nat}{f:b_->Option b_}{pl fr:b_}{bm:Nat}
def Bj.wS{F':d_}{J:b_}{I:List (Ent V_)}{K:c_->Prop}(h:Bj F C W b ks AS free em f pl fr bm)(hm:AF (λx=>pl.ownBlock=some x) W W')(hF:∀x,F x->F' x)(Y:∀x,F' x->F x\/W.heap.size<=x) (Z:AB 0 Y1 2 (FT C) W' J I)(hn:∀g,J.ownBlock=some g->pl.ownBlock=some g\/W.heap.size<=g/\F' g)(U:J.oneCell'=true)(X:J.cells=#[J]) (hK:∀O,Bj F' C O b ks I free em f J fr bm->AF (λx=>x=b) W' O->K O):Cc (.pointer (some ⟨b,1,none⟩)) J K W':=by
 have hb:∀x,pl.ownBlock=some x->F x/\¬C x/\x≠b/\x≠bm:=h.pF;refine DC (vs:=eG ks.sv pl fr bm em) (by grind[AF.cell,Bj.cells]) (λj hj=>(h.Cq j hj).T_ hm B_) (q:=1) (show 1<5 by decide) U X λO N hc hl=>?_;have a1:b<W.heap.size:=lA W _ (h.cells 4 _ rfl);have a6:∀x,x<W'.heap.size->C x->¬x=b:=by grind[Bj.fb]
 have a7:=AB.Am h.Oh;have a8:=h.map.lt;refine hK O ⟨hc,B_,(h.Ho.T_ hm (by grind[Bj.sf])).T_ N (by grind[Bj.sf,Bj.fb]),AB.T_ Z N (λg Q e=>?_) (by grind[FT.T_]),AB.T_ (AB.T_ (R':=Ew) h.Oh hm (by grind[Bj.fF]) E') N (by grind[Bj.fF]) E',
  (h.map.T_ hm B_).T_ N h.fm.2.2,⟨hF _ h.fb.1,h.fb.2⟩,⟨hF _ h.fm.1,h.fm.2⟩,λg Q=>?_,λg Q=>⟨hF _ (h.fF g Q).1,(h.fF g Q).2.1,(h.fF g Q).2.2.1,(h.fF g Q).2.2.2.1,λe=>?_⟩,λx V=>⟨hF _ (h.cf x V).1,Mp (h.cf x V).2 (py hm.size N.size)⟩,λx V=>⟨(by grind[Bj.sf]),Mp (h.sf x V).2 (py hm.size N.size)⟩⟩ N
 grind;rcases hn g Q with e|⟨e,e'⟩;grind;grind[Bj.cf];grind[Bj.fF]
def Bj.oi{K:c_->Prop}{a:Addr}{c i n:Nat}{p:Ent V_}(h:Bj F C W b ks AS free em f pl fr bm)(hp:AS[i]?=some p)(I:pl=.slice (some a) AS.length c) (X:∀W',Bj F C W' b ks (AS.set i ⟨p.set,n⟩) free em f pl fr bm->AF F W W'->K W'):Cc (.pointer (some (a.add (i*2+1)))) (zIq n) K W:=by
 have hi:=(Ad.1 hp).1;have N:=(Ad.1 hp).2;have J:=h.Iy;rw[I] at J;have O:pl.ownBlock=some a.block:=by rw[I];rfl
 obtain ⟨Y,Z,f3,f4⟩:=h.pF _ O;have Q:AF (λx=>x=a.block) W (W.setCell (a.add (i * 2+1)) (zIq n)):=AF.setCell _ _ _ (by rw [Ai]);have hC:∀ x,x < W.heap.size->C x->¬ x=a.block:=B_;obtain ⟨⟨u,hu⟩,V,ho,hm⟩:=AB.store (R':=FT C) (u:=zIq n) (x':=⟨p.set,n⟩) (j:=1) J hi C0 rfl (by grind[FT.T_]) (λr hr=>by
  obtain ⟨s,rfl,U⟩:=hr;refine ⟨s,rfl,?_⟩;rw [N] at U;exact U.T_ Q hC C0 C_)
 exact O6 rfl rfl hu V (by grind[Bj.NF,AF.mono])
def Bj.ux{K:c_->Prop}{a:Addr}{c i B:Nat}{p:Ent V_}(h:Bj F C W b ks AS free em f pl fr bm)(hp:AS[i]?=some p)(I:pl=.slice (some a) AS.length c)(Y:∀x,F x\/ks.S x->x<B)(N:Kh B W v s) (Z:∀W',Bj (λx=>F x\/v.ownBlock=some x) (λx=>C x\/v.ownBlock=some x) W' b ks (AS.set i ⟨s,p.held⟩) free em f pl fr bm->AF (λx=>x=a.block) W W'->K W'):Cc (.pointer (some (a.add (i*2+0)))) v K W:=by
 have hi:=(Ad.1 hp).1;have V:=(Ad.1 hp).2;have O:pl.ownBlock=some a.block:=by rw[I];rfl
 obtain⟨f1,f2,f3,f4⟩:=h.pF _ O;have X:=AB.Am N;have nF:∀x,v.ownBlock=some x->¬F x:=B_;have Q:Bj (λx=>F x\/v.ownBlock=some x) (λx=>C x\/v.ownBlock=some x) W b ks AS free em f pl fr bm:=
  ⟨h.cells,h.Cq,h.Ho,AB.T_ h.Iy j0 C_ (by grind[FT.sub]),h.Oh,h.map,(by grind[Bj.fb]),(by grind[Bj.fm]),
   B_,(by grind[Bj.fF]),(by grind[Bj.cf]),(by grind[Bj.sf])⟩
 have J:=Q.Iy;rw [I] at J;have U:AF (λx=>x=a.block) W (W.setCell (a.add (i * 2+0)) v):=AF.setCell _ _ _ (by rw [Ai]);have hC:∀ x,x < W.heap.size->(C x\/v.ownBlock=some x)->¬ x=a.block:=B_;obtain ⟨⟨u,hu⟩,hf,ho,hm⟩:=AB.store (R':=FT (λx=>C x\/v.ownBlock=some x)) (u:=v) (x':=⟨s,p.held⟩) (j:=0) J hi C0 N.one.1 (by grind[FT.T_]) (λr hr=>by
  obtain ⟨s',rfl,_⟩:=hr;refine ⟨v,B_,?_⟩;exact (AB.sl N).T_ U B_ C0 C_ |>.sub B_ C0 C_)
 grind[O6,AB.one,Bj.NF]
end
def cg{b:Nat}{ks:SKs}{t:Tab V_}{f:b_->Option b_}{pl fr:b_}(h:Bj F C W b ks t.AS t.free t.empty f pl fr c)(hi:t.Inv (IP ks.ks))(hs:t.Small 10995116277) : l_ 187 [e_ b] (λv' w'=>∃ (i:Nat) (F':d_) (I:List (Ent V_)) (free':X_) (O Z:b_),v'=zIq ((i:Int)+1)/\Bj F' C w' b ks I free' t.empty f O Z c/\AF F W w'/\ (∀ x,F' x->F x\/W.heap.size<=x/\x < w'.heap.size)/\((t.free.getLast?=some i/\I=t.AS/\free'=t.free.dropLast)\/(t.free=[]/\i=t.AS.length/\I=t.AS++[⟨[],0⟩]/\free'=[]))) W:=by
 refine I_ func187 ?_;have an:=Tab.bD hi;have ak:=hs.pl;apply nfl_i (h.cells 2 _ rfl);obtain⟨fa,fc,J,Q,_,a1,av⟩:=h.Oh.AK;rw[Nn] at Q;rw[J,AO,A6,Nn,wrap64 E E,JP];refine Ae (λax=>?_) λay=>?_;have U:0<t.free.length:=E;have a6:t.free≠[]:=aAH.1 U;obtain⟨i,hl⟩:∃i,t.free.getLast?=some i:=⟨_,aBt a6⟩;cases fa with
 |none=>grind
 |some q=>
  obtain⟨g,rfl,_,_,b0⟩:=a1 q rfl;have V:=h.Oh.sl;have N:=h.Oh;rw[J,Nn] at V N;apply nfl_i (h.cells 2 _ rfl);rw[J,Nn];have hj:t.free.length-1<(t.free.map λi:Nat=>(i:Int)).length:=B_;obtain⟨_,r,e1,_,hr,hc,rfl⟩:=V.get hj;cases e1;have ev:(t.free.map λi:Nat=>(i:Int))[t.free.length-1]=(i:Int):=by
   grind
  rw[ev] at hc;have en:((t.free.length:Int)-1)=((t.free.length-1:Nat):Int):=E;rw[en];refine AV E (AI (hc 0 _ rfl) ?_);apply nfl_i (h.cells 2 _ rfl);rw[J,Nn];refine AY (GY (e:=3) (k:=1) (i:=Tryz.t3) D_ D_ D_ E W) ?_;apply AJ;rw[AE,AH];have ht:=AB.take N (j:=t.free.length-1) (by rw[Nn];omega);have ed:(t.free.map λi:Nat=>(i:Int)).take (t.free.length-1)=t.free.dropLast.map λi:Nat=>(i:Int):=by rw[aB2,aAI]
  rw[ed] at ht;refine Bj.sX (F':=F) (free':=t.free.dropLast) (Mf:=λ_=>False) h (AF.refl _ _) L_ M_ K_ ht (λg' a7=>.inl ?_) rfl rfl λw' a8 b6=>?_;rw[J];exact a7;rw[AQ];obtain⟨p,hp,_⟩:=(hi.mG i).1 (aBf hl);have:=(Ad.1 hp).1;rw[wrap64 E E];exact⟨i,F,t.AS,t.free.dropLast,pl,_,rfl,a8,(by grind[AF.mono,Bj.fb]),λx hx=>.inl hx,B_⟩
 have b7:t.free=[]:=Of E;apply nfl_i (h.cells 1 _ rfl);refine⟨#[g_,zIq 0],D_,?_⟩;refine Dv gV h.Iy (Lc _) (cs:=[g_,zIq 0]) (x:=⟨[],0⟩) D_ rfl ⟨_,rfl,Al.nil⟩ (λ_ _ _=>FT.one) (λw1 w2 r y b8 hm hr=>hr.T_ hm λx hx hC e=>?_) E M' λO w1 X hm hn=>?_;rcases e with e|e;grind[Bj.pF];have:=(h.cf x hC).2;omega;apply AJ;rw[AE,AH];have al:=AB.Am X;refine Bj.wS (F':=λx=>F x\/W.heap.size<=x/\x<w1.heap.size) h hm K_ B_ X B_ X.one.1 X.one.2 λw2 Y aa=>?_;apply nfl_i (Y.cells 1 _ rfl);obtain⟨a2,c2,e2,_⟩:=X.sl.AK;have z2:=aa.size;rw[e2,AO];refine⟨t.AS.length,_,_,t.free,O,fr,E_,Y,(hm.mono λx _ e=>(h.pF x e).1).trans (by grind[AF.mono,Bj.fb]),λx hx=>?_,B_⟩;grind
def Tab.Rk{α:Type}(t:Tab α)(z s:α)(id:Int)(t':Tab α):Prop:=(s=z/\id=0/\t'={ t with empty:=t.empty+1 })\/(s≠z/\∃i n:Nat,t.AS[i]?=some ⟨s,n⟩/\0<n/\id=(i:Int)+1/\t'=t.Ll i ⟨s,n+1⟩)\/ (s≠z/\(∀(i:Nat) (p:Ent α),t.AS[i]?=some p->0<p.held->p.set≠s)/\id=((t.put s).1:Int)+1/\t'=(t.put s).2)
def Zr{b:Nat}{ks:SKs}{t:Tab V_}{l:V_}(h:Gi F W b ks t)(hs:t.Small 10995116277)(hv:Bo S W v l)(hT:CH W)(hI:∀a∈l,SZ a)(hF:∀x,F x->1+1<=x/\x<W.heap.size)(eo:∀x,S x->¬F x) : l_ 105 [e_ b,v] (λv' w'=>(CD ks.ks l≠0/\v'=.tuple #[zIq 0,zIq (CD ks.ks l)]/\AG W w')\/ (CD ks.ks l=0/\∃ id t',v'=.tuple #[zIq id,zIq 0]/\t.Rk [] l id t'/\LL F W w' b ks t')) W:=by
 refine H_ func105 ?_ (.y (.y (.y (.y (.y (.y (.cut [8] [(8,8),(43,62)] (.y (.x (.y (.x (.dc [7,10] (i_ [0,1,3,7,0,16,0,64,255,511,1023]) [[7]]))))) .nil)))))));have ek:=hs.pl;have e2:∀ a ∈ l,0<=a.val.f:=λa ha=>(hI a ha).2.2.2.1.1;apply AA (Xk h);rintro _ _ ⟨rfl,rfl⟩;rename c_=>W;obtain ⟨C,pl,fr,bm,hR⟩:=h;rw [Aj];apply AM;apply nfl_i (hR.cells 0 _ rfl);apply AA (QU hR.core.Ho hv hT e2);rintro _ w3 ⟨rfl,g3⟩;refine neP (λan=>?_) λan=>?_;rotate_left;exact B_;have ba:=hR.T_ g3 C_;have e3:=hv.S_ g3 C0 C_;obtain ⟨va,vc,rfl,_⟩:=hv.AK;rw [AO];refine eqP (λhz=>?_) λhz=>?_;have hl:l=[]:=Of E;apply nfl_i (ba.cells 4 _ rfl);have:=hs.em;rw [AQ,wrap64 E E];apply AJ;rw [AE,AH];have en:((t.empty:Int)+1)=((t.empty+1:Nat):Int):=E;rw [en];refine Lp ba λW' e4 av=>.inr ⟨an,0,_,rfl,.inl ⟨hl,rfl,rfl⟩,?_⟩;exact .Ak ⟨C,pl,fr,bm,e4⟩ ((g3.mono G_).trans av);have hl:l≠[]:=B_;have U:IP ks.ks l:=⟨hl,hI,an⟩;obtain ⟨e5,e6⟩:=Qk U;apply AA (WI e3 hI e6 e5);rintro _ w6 ⟨rfl,g6⟩;have ax:=g3.trans g6;have ca:=ba.T_ g6 C_;have O:=ca.core.Pw;obtain ⟨f,X,V⟩:=ca.m;apply nfl_i (X.cells 3 _ rfl);refine AY (XY (P:=prog) (t:=179) (kt:=9) (et:=3) (z:=zIq 0) underlying179 underlying9 (ZE (GQ l)) (Fg D_ w6) X.map) ?_;apply BD;refine AT (λvs w9=>∃ (i n:Nat) (F9 C9:d_) (I:List (Ent V_)) (N:X_) (f9:b_->Option b_) (bb bk:b_),vs=[zIq ((i:Int)+1)]/\Bj F9 C9 w9 b ks I N t.empty f9 bb bk bm/\I[i]?=some ⟨l,n⟩/\n<=1099511627776/\i<=1099511627776/\
   AF F W w9/\(∀ x,F9 x->F x\/W.heap.size<=x/\x < w9.heap.size)/\t.Rk [] l ((i:Int)+1) ⟨I.set i ⟨l,n+1⟩,N,t.empty⟩/\Ff ⟨I.set i ⟨l,n+1⟩,N,t.empty⟩ f9/\(⟨I.set i ⟨l,n+1⟩,N,t.empty⟩:Tab V_).Inv (IP ks.ks)) ?_ ?_
 rintro vs w9 ⟨i,n,F9,C9,I,N,f9,bb,bk,rfl,ay,bl,ep,er,bp,eu,cc,bs,bx⟩ _;rw[Bh,HK];have hi:=(Ad.1 bl).1;have e7:=(Ad.1 bl).2;apply nfl_i (ay.cells 1 _ rfl);obtain⟨pa,pc,Y,_⟩:=ay.Iy.sl.AK;have cq:=ay.Iy.sl;rw[Y] at cq;rw[A6,wrap64 E E,show((i:Int)+1-1)=(i:Int) by omega,Y];obtain⟨q,r,rfl,_,hr,hc,e8⟩:=cq.get hi;obtain⟨si,rfl,ew⟩:=e8;apply AV hi;rw[AE,Addr.add_add];apply AI (hc 1 _ rfl);have eh:I[i].held=n:=by rw[e7]
 rw[AQ,wrap64 E E];apply AV hi;rw[AE,Addr.add_add];have en:((I[i].held:Int)+1)=((n+1:Nat):Int):=E;rw[en];refine ay.oi bl Y λW' e9 av=>.inr ⟨an,_,_,rfl,cc,?_⟩;have s':=av.size;refine⟨F9,λx Z=>?_,⟨C9,bb,bk,bm,e9.r bs bx⟩,bp.next av λx Z e=>?_⟩;grind;grind
 .rw[Aj];cases hf:f (.string (GQ l)) with
  |some v=>
   obtain⟨i,n,hp,hn,rfl⟩:=V.some O hI hf;have hi:=(Ad.1 hp).1;have ea:=hs.he t.AS[i] (S7 hi);rw[((Ad.1 hp).2)] at ea;apply AM;exact⟨i,n,F,C,t.AS,t.free,f,pl,fr,rfl,X,hp,B_,E,ax.mono G_,λx Z=>.inl Z,.inr (.inl ⟨hl,i,n,hp,hn,rfl,rfl⟩),V.Ll hp hn E,O.Ll hp hn E⟩
  |none=>
   apply Ab;have a6:=V.none hf;apply AA (cg X O hs);rintro _ b0 ⟨i,F7,J,a7,c4,ec,rfl,a1,c6,ez,c7⟩;have eA:=X.cf;have eB:=ax.size;have z7:=c6.size;have ed:∀x,F7 x->x<b0.heap.size:=B_;obtain⟨p,cu,c8,Q⟩:∃p,J[i]?=some p/\p.held=0/\((t.put l).1=i/\(t.put l).2=⟨J.set i ⟨l,1⟩,a7,t.empty⟩):=by
    unfold Tab.put;rcases c7 with⟨h1,rfl,rfl⟩|⟨h1,rfl,rfl,rfl⟩;rw[h1];obtain⟨p,hp,eC⟩:=(O.mG i).1 (aBf h1);grind;rw[h1];refine⟨⟨[],0⟩,E_,rfl,rfl,?_⟩;simp
   have c9:=(Ad.1 cu).1;have eH:i<=10995116277:=by
    grind
   apply Ac (λk y=>k=10/\c4.ownBlock=some y);have gd:=gdr b0;apply AJ;rw [AE,AH];refine AP ⟨gd.cell (a1.cells 1 _ rfl) F_,λj hj e=>by obtain ⟨rfl,_⟩:=e;exact absurd hj C0⟩ ?_;obtain ⟨pa,pc,Y,_⟩:=a1.Iy.sl.AK;have b8:=a1.Iy.sl;rw [A6,wrap64 E E,show ((i:Int)+1 - 1)=(i:Int) by omega];have cx:Bo S b0 (.slice va l.length vc) l:=(hv.S_ ax C0 C_).T_ c6 B_ C0 C_;refine AA (GL (cx.S_ gd C0 C_) E) ?_;rintro cv eI ⟨da,dk⟩;refine ⟨B_,?_⟩;have b9:=gd.trans dk;have dr:=a1.T_ b9 C_;rw [Y] at b8 ⊢;obtain ⟨q,r,rfl,hq,_,_,_⟩:=b8.get c9;apply AV c9;rw [AE,Addr.add_add];have zd:=gd.size;have eL:=dk.size;have ee:=AB.Am da;refine dr.ux (B:=b0.drew.heap.size) cu Y (λx Z=>by
    rcases Z with Z | Z;grind;have:=(a1.sf x Z).2;omega) da λeN a8 aa=>?_
   have ef:c4.ownBlock=some q.block:=B_;refine⟨aa.mono B_,?_⟩;apply nfl_i (a8.cells 3 _ rfl);obtain⟨ej,dz,b6,ak⟩:=WR (P:=prog) (t:=179) (kt:=9) (v:=zIq ((i:Int)+1)) underlying179 underlying9 (ZE (GQ l)) a8.map hf;apply AY (v:=undef) (w':=ej) (by simp only[aR,dz,Result.andThen];rfl);obtain⟨b7,e1,_,_,_⟩:=Tab.IV O U a6;have al:=V.put O U hf;rw[Q.2] at b7 al;rw[Q.1] at al;have dT:(J.set i ⟨l,p.held⟩).set i ⟨l,p.held+1⟩=J.set i ⟨l,1⟩:=by rw[aDf,c8]
   refine⟨i,p.held,_,_,_,a7,_,c4,ec,rfl,a8.jV ak b6,by rw[aAF c9],E,E,?_,?_,?_,?_,?_⟩;refine((((ax.mono G_).trans c6).trans (b9.mono G_)).next aa λx Z e=>?_).next ak λx Z e=>?_
   have:=(a1.pF _ ef).1;grind;have:=X.fm.1;grind;have eR:=aa.size;have s16:=ak.size;rintro x (Z|Z);grind;have:=ee x Z;omega;rw[dT];exact .inr (.inr ⟨hl,a6,by rw[Q.1],Q.2.symm⟩);grind;grind
theorem Tab.Small.le{t:Tab α}{N I:Nat}(h:t.Small N)(j:N<=I):t.Small I:=⟨py h.pl j,py h.em j,λp hp=>py (h.he p hp) j⟩
def Tab.Has{α:Type}(t:Tab α)(z s:α)(id:Int)(n:Nat):Prop:=t.Mb z id=some ⟨s,n⟩/\0<n/\(id=0↔s=z)
def Tab.Has.zero{t:Tab α}{z s:α}{n:Nat}(h:t.Has z s 0 n):s=z/\t.empty=n:=by
 have h1:=h.1;grind[Tab.Mb]
theorem Tab.Has.DA{t:Tab α}{z s:α}{id:Int}{n:Nat}(h:t.Has z s id n)(h0:id≠0):∃i:Nat,id=(i:Int)+1/\t.AS[i]?=some ⟨s,n⟩:=by
 obtain⟨i,e,hp,_⟩:=Tab.N4 h.1 h0;grind
def Tab.Has.fk{t:Tab α}{z:α}(h:0<t.empty):t.Has z z 0 t.empty:=⟨by unfold Tab.Mb;rw[Ix rfl],h,E_⟩
theorem Tab.Has.fO{t:Tab α}{z s:α}{i n:Nat}(I:s≠z)(hp:t.AS[i]?=some ⟨s,n⟩)(j:0<n):t.Has z s ((i:Int)+1) n:=⟨Tab.iJ hp j,j,⟨E,λh=>absurd h I⟩⟩
def Tab.Rk.gX[DecidableEq α]{t t':Tab α}{z x s:α}{k id:Int}{n:Nat}{G:α->Prop}(h:t.Rk z x k t')(hi:t.Inv G)(U:x≠z->G x)(J:t.Has z s id n):t'.Has z s id (if x=s then n+1 else n)/\(x=s↔k=id):=by
 by_cases h0:id=0;subst h0;obtain⟨rfl,rfl⟩:=J.zero;rcases h with⟨rfl,rfl,rfl⟩|⟨O,i,n,hp,Z,rfl,rfl⟩|⟨O,N,rfl,rfl⟩;rw[Ix rfl];exact⟨Tab.Has.fk (t:={ t with empty:=t.empty+1 }) (P9 _),E_⟩;rw[By O];exact⟨Tab.Has.fk (t:=t.Ll i _) J.2.1,B_⟩;rw[By O];obtain⟨_,_,_,_,V⟩:=Tab.IV hi (U O) N;refine⟨?_,B_⟩;have:=Tab.Has.fk (t:=(t.put x).2) (z:=s) (by rw[V];exact J.2.1);grind;obtain⟨j,rfl,hp⟩:=J.DA h0;have KM:s≠z:=λe=>h0 (J.2.2.2 e);rcases h with⟨rfl,rfl,rfl⟩|⟨O,i,m,Q,hm,rfl,rfl⟩|⟨O,N,rfl,rfl⟩;rw[By (aC4 KM)];exact⟨Tab.Has.fO (t:={ t with empty:=t.empty+1 }) KM hp J.2.1,B_⟩;by_cases e:x=s;subst e;have I:=hi.K2 i j _ _ Q hp hm J.2.1 rfl;subst I;rw[hp] at Q;cases Q;rw[Ix rfl];exact⟨Tab.Has.fO KM (by show(t.AS.set i _)[i]?=_;rw[aAF ((Ad.1 hp).1)]) (P9 _),E_⟩;rw[By e];have I:i≠j:=B_;exact⟨Tab.Has.fO KM (by show(t.AS.set i _)[j]?=_;grind) J.2.1,B_⟩;have e:x≠s:=λe=>N j _ hp J.2.1 e.symm;rw[By e];obtain⟨_,_,X,Y,_⟩:=Tab.IV hi (U O) N;have I:j≠(t.put x).1:=λI=>by
  have:=X ⟨s,n⟩ (I▸hp);have:=J.2.1;grind
 exact⟨Tab.Has.fO KM ((Y j I).trans hp) J.2.1,B_⟩
theorem Tab.Has.EG{t:Tab α}{z s:α}{k id:Int}{n:Nat}(I:t.Has z s id n)(hk:k≠id\/1<n):(t.EG z k).Has z s id (if k=id then n-1 else n):=by
 by_cases e:k=id;subst e;have U:=hk.resolve_left λh=>h rfl;rw[Ix rfl];unfold Tab.EG;rw[I.1];dsimp only;by_cases h0:k=0;subst h0;obtain⟨rfl,rfl⟩:=I.zero;rw[Ix rfl];exact Tab.Has.fk (t:={ t with empty:=t.empty-1 }) B_;obtain⟨j,rfl,hp⟩:=I.DA h0;rw[By h0,By E,show((j:Int)+1-1).toNat=j by omega];exact Tab.Has.fO (λe=>h0 (I.2.2.2 e)) (by show(t.AS.set j _)[j]?=_;rw[aAF ((Ad.1 hp).1)]) E;rw[By e];unfold Tab.EG;cases ha:t.Mb z k with
 |none=>exact I
 |some p=>
  dsimp only;by_cases J:k=0;rw[Ix J];have h0:id≠0:=E;obtain⟨j,rfl,hp⟩:=I.DA h0;exact Tab.Has.fO (t:={ t with empty:=t.empty-1 }) (λe=>h0 (I.2.2.2 e)) hp I.2.1;rw[By J];obtain⟨i,rfl,hp,N⟩:=Tab.N4 ha J;rw[show((i:Int)+1-1).toNat=i by omega];by_cases h0:id=0;subst h0;obtain⟨rfl,rfl⟩:=I.zero;split;exact Tab.Has.fk (t:=t.drop s i) I.2.1;exact Tab.Has.fk (t:=t.Ll i _) I.2.1;obtain⟨j,rfl,O⟩:=I.DA h0;have Q:=E;split;exact Tab.Has.fO (λe=>h0 (I.2.2.2 e)) (by show(t.AS.set i _)[j]?=_;grind) I.2.1;exact Tab.Has.fO (λe=>h0 (I.2.2.2 e)) (by show(t.AS.set i _)[j]?=_;grind) I.2.1
def Kj{α:Type}[DecidableEq α](r:List (α×Int))(x:α):Nat:=(r.filter λp=>decide (p.1=x)).length
def Xg[DecidableEq α](r:List (α×Int))(x y:α)(k:Int):Kj (r++[(x,k)]) y=Kj r y+if x=y then 1 else 0:=by
 grind[Kj]
theorem G1[DecidableEq α](r:List (α×Int))(x y:α)(k:Int):Kj ((x,k)::r) y=Kj r y+if x=y then 1 else 0:=by
 grind[Kj]
theorem ja[DecidableEq α]{r:List (α×Int)}{p:α×Int}(h:p∈r):0<Kj r p.1:=by
 unfold Kj;exact List.length_pos_of_mem (aAb.2 ⟨h,E_⟩)
def Qx[DecidableEq α]{r:List (α×Int)}{x:α}(h:0<Kj r x):∃p∈r,p.1=x:=by
 obtain⟨p,hp⟩:=List.exists_mem_of_length_pos h;grind
structure Tab.Gz {α:Type} [DecidableEq α] (t:Tab α) (z:α) (r:List (α×Int)):Prop where
 LA:∀p∈r,t.Has z p.1 p.2 (Kj r p.1)
 pl:∀(i:Nat) (q:Ent α),t.AS[i]?=some q->0<q.held->∃p∈r,p.1=q.set
 em:t.empty=Kj r z
def Tab.Gz.z[DecidableEq α](z:α):(Tab.z α).Gz z []:=⟨B_,(by grind[Tab.z]),rfl⟩
theorem Tab.Has.vA{t:Tab α}{z x y:α}{k l:Int}{n m:Nat}{G:α->Prop}(hi:t.Inv G)(h1:t.Has z x k n)(I:t.Has z y l m):k=l↔x=y:=by
 constructor;rintro rfl;have:=h1.1.symm.trans I.1;grind;rintro rfl;by_cases h0:k=0;have:=h1.2.2.1 h0;rw[h0,I.2.2.2 this];obtain⟨i,rfl,hp⟩:=h1.DA h0;have J:l≠0:=λe=>h0 (h1.2.2.2 (I.2.2.1 e));obtain⟨j,rfl,N⟩:=I.DA J;rw[hi.K2 i j _ _ hp N h1.2.1 I.2.1 rfl]
def Tab.Gz.Xy[DecidableEq α]{t t':Tab α}{z x:α}{k:Int}{r:List (α×Int)}{G:α->Prop}(h:t.Gz z r)(ha:t.Rk z x k t')(hi:t.Inv G)(Q:x≠z->G x):t'.Gz z (r++[(x,k)]):=by
 have Y:t'.Has z x k (Kj r x+1):=by
  by_cases V:∃p∈r,p.1=x;obtain⟨p,hp,rfl⟩:=V;obtain⟨h1,h2⟩:=ha.gX hi Q (h.LA p hp);grind;have h0:Kj r x=0:=by
   refine Nat.eq_zero_of_not_pos λU=>V (Qx U)
  rcases ha with⟨rfl,rfl,rfl⟩|⟨J,i,n,hp,X,rfl,rfl⟩|⟨J,I,rfl,rfl⟩;rw[<-h.em];exact Tab.Has.fk (t:={ t with empty:=t.empty+1 }) (P9 _);exact absurd (h.pl i _ hp X) V;rw[h0];obtain⟨_,h1,_⟩:=Tab.IV hi (Q J) I;grind[Tab.Has.fO]
 refine⟨λp hp=>?_,λi q O h0=>?_,?_⟩;rw[Xg];rcases K8.1 hp with hp|hp;have:=(ha.gX hi Q (h.LA p hp)).1;grind;grind;rcases ha with⟨rfl,rfl,rfl⟩|⟨J,j,n,hp,X,rfl,rfl⟩|⟨J,I,rfl,rfl⟩;obtain⟨p,hp,e⟩:=h.pl i q O h0;grind;have N:(t.AS.set j ⟨x,n+1⟩)[i]?=some q:=O;by_cases e:i=j;subst e;rw[aAF (Ad.1 hp).1] at N;cases N;exact⟨(x,(i:Int)+1),E_,rfl⟩;rw[aCA (aC4 e)] at N;obtain⟨p,hp,e⟩:=h.pl i q N h0;grind;obtain⟨_,h1,_,Z,_⟩:=Tab.IV hi (Q J) I;by_cases e:i=(t.put x).1;subst e;rw[h1] at O;cases O;exact⟨_,aAJ _ (uN.2 rfl),rfl⟩;rw[Z i e] at O;obtain⟨p,hp,e⟩:=h.pl i q O h0;grind;rw[Xg];rcases ha with⟨rfl,rfl,rfl⟩|⟨J,j,n,hp,X,rfl,rfl⟩|⟨J,I,rfl,rfl⟩;grind[Tab.Gz.em];rw[By J];exact h.em;rw[By J];obtain⟨_,_,_,_,h4⟩:=Tab.IV hi (Q J) I;grind[Tab.Gz.em]
def Tab.Gz.wy[DecidableEq α]{t:Tab α}{z x:α}{k:Int}{r:List (α×Int)}{G:α->Prop}(h:t.Gz z ((x,k)::r))(hi:t.Inv G)(a7:∀s,G s->s≠z):(t.EG z k).Gz z r:=by
 have Q:=h.LA (x,k) aAE;rw[G1,Ix rfl] at Q;refine⟨λp hp=>?_,λi q J h0=>?_,?_⟩;have X:=h.LA p (aAi _ hp);grind[G1,Tab.Has.vA,Tab.Has.EG,ja];have U:∃V,t.AS[i]?=some V/\0<V.held/\V.set=q.set/\(q.set=x->0<Kj r x):=by
  unfold Tab.EG at J;rw[Q.1] at J;dsimp only at J;by_cases I:k=0;rw[Ix I] at J;exact⟨q,J,h0,rfl,λe=>absurd (e.trans (Q.2.2.1 I)) (by grind[Tab.Inv.ok])⟩;rw[By I] at J;obtain⟨j,rfl,Y⟩:=Q.DA I;have a8:=(Ad.1 Y).1;rw[show((j:Int)+1-1).toNat=j by omega] at J;by_cases Z:i=j;subst Z;split at J;have N:(t.AS.set i ⟨z,0⟩)[i]?=some q:=J;grind;have N:(t.AS.set i _)[i]?=some q:=J;grind;have N:t.AS[i]?=some q:=by
   split at J;have N:(t.AS.set j ⟨z,0⟩)[i]?=some q:=J;grind;have N:(t.AS.set j _)[i]?=some q:=J;grind
  grind[Tab.Inv.K2]
 obtain⟨V,N,a1,es,a6⟩:=U;obtain⟨p,hp,ep⟩:=h.pl i V N a1;rcases S6.1 hp with rfl|hp;obtain⟨p',X,e'⟩:=Qx (a6 (by rw[<-es,<-ep]));grind;grind;have O:=h.em;rw[G1] at O;unfold Tab.EG;rw[Q.1];dsimp only;by_cases I:k=0;rw[Ix I];rw[Ix (Q.2.2.1 I)] at O;grind;rw[By I];rw[By (λe=>I (Q.2.2.2 e))] at O;split<;>exact O
section
variable {α:Type}[DecidableEq α]{t t':Tab α}{z s:α}{f:Int->α}{h:Int->Nat}{id:Int}{G:α->Prop}
def Ti{r q:List (α×Int)}(hp:r.Perm q)(x:α):Kj r x=Kj q x:=(hp.filter _).length_eq
def Tab.Gz.Kb{r q:List (α×Int)}(j:t.Gz z r)(hp:r.Perm q):t.Gz z q:=
 ⟨λp J=>by rw[<-Ti hp];grind[Tab.Gz.LA],λi e h1 I=>by obtain⟨p,N,O⟩:=j.pl i e h1 I;grind,by rw[<-Ti hp];exact j.em⟩
omit [DecidableEq α] in
def Tab.kT{n:Nat}{x:α}{k:Int}(h:t.Has z x k n):(t.He z k).Has z x k (n+1)/\(∀(i:Nat) (q:Ent α),(t.He z k).AS[i]?=some q->0<q.held->∃Q:Ent α,t.AS[i]?=some Q/\0<Q.held/\Q.set=q.set)/\((t.He z k).empty=if k=0 then t.empty+1 else t.empty)/\ (∀{y l m},l≠k->t.Has z y l m->(t.He z k).Has z y l m):=by
 unfold Tab.He;rw[h.1];dsimp only;by_cases h0:k=0;subst h0;obtain⟨rfl,rfl⟩:=h.zero;rw[Ix rfl,Ix rfl];refine⟨Tab.Has.fk (t:={ t with empty:=t.empty+1 }) (P9 _),B_,rfl,λhl I=>?_⟩;obtain⟨j,rfl,hp⟩:=I.DA hl;exact Tab.Has.fO (t:={ t with empty:=t.empty+1 }) (λe=>hl (I.2.2.2 e)) hp I.2.1;obtain⟨i,rfl,hp⟩:=h.DA h0;have N:=(Ad.1 hp).1;rw[By h0,By h0,show((i:Int)+1-1).toNat=i by omega];refine⟨Tab.Has.fO (t:=t.Ll i ⟨x,n+1⟩) (λe=>h0 (h.2.2.2 e)) (by show(t.AS.set i _)[i]?=_;rw[aAF N]) (P9 _),λj q U V=>?_,rfl,λ{y l m} hl I=>?_⟩;have O:(t.AS.set i ⟨x,n+1⟩)[j]?=some q:=U;by_cases e:i=j;subst e;rw[aAF N] at O;cases O;exact⟨_,hp,h.2.1,rfl⟩;grind;by_cases J:l=0;subst J;obtain⟨rfl,rfl⟩:=I.zero;exact Tab.Has.fk (t:=t.Ll i ⟨x,n+1⟩) I.2.1;obtain⟨j,rfl,X⟩:=I.DA J;have Y:i≠j:=E;exact Tab.Has.fO (t:=t.Ll i ⟨x,n+1⟩) (λe=>J (I.2.2.2 e)) (by show(t.AS.set i _)[j]?=_;grind) I.2.1
def Tab.Gz.He{r:List (α×Int)}(j:t.Gz z r)(hi:t.Inv G){p:α×Int}(hp:p∈r):(t.He z p.2).Gz z (p::r):=by
 obtain⟨x,k⟩:=p;have I:=j.LA _ hp;obtain⟨V,O,U,Z⟩:=Tab.kT I;simp only at V O U Z I ⊢;refine⟨λq Q=>?_,λi q Q J=>?_,?_⟩;rw[G1];have N:q∈r:=by
  grind
 have hh:=j.LA q N;grind[Tab.Has.vA];obtain⟨X,h1,Y,h3⟩:=O i q Q J;obtain⟨p',h4,h5⟩:=j.pl i X h1 Y;grind;rw[G1,U,j.em];by_cases h0:k=0;rw[Ix h0,Ix (I.2.2.1 h0)];rw[By h0,By λe=>h0 (I.2.2.2 e),aA3]
theorem Tab.Gz.xP{r:List (α×Int)}(I:t.Gz z r):(t.He z 0).Gz z ((z,0)::r):=by
 have e:t.He z 0={ t with empty:=t.empty+1 }:=by grind[Tab.He,Tab.Mb]
 rw[e];refine⟨λq j=>?_,λi q j N=>?_,?_⟩;rw[G1];rcases S6.1 j with rfl|j;rw[Ix rfl,<-I.em];exact Tab.Has.fk (t:={ t with empty:=t.empty+1 }) (P9 _);have J:=I.LA q j;by_cases h0:q.2=0;have Q:=J.2.2.1 h0;rw[h0,Q,Ix rfl,<-I.em];exact Tab.Has.fk (t:={ t with empty:=t.empty+1 }) (P9 _);obtain⟨i,U,hp⟩:=J.DA h0;have O:q.1≠z:=λe=>h0 (J.2.2.2 e);rw[By (aC4 O),U];exact Tab.Has.fO (t:={ t with empty:=t.empty+1 }) O hp J.2.1;obtain⟨V,X,Y⟩:=I.pl i q j N;grind;grind[G1,Tab.Gz.em]
def Tab.AW(t:Tab α)(z:α)(f:Int->α)(h:Int->Nat):Prop:=f 0=z/\∃r:List (α×Int),t.Gz z r/\(∀p∈r,p.1=f p.2)/\∀id,r.countP (λp=>decide (p.2=id))=h id
def Tab.AW.mem(j:t.AW z f h)(h0:0<h id):∃r:List (α×Int),t.Gz z r/\(∀p∈r,p.1=f p.2)/\(∀id,r.countP (λp=>decide (p.2=id))=h id)/\(f id,id)∈r:=by
 obtain⟨_,r,h1,I,J⟩:=j;grind[List.countP_pos_iff]
def Tab.AW.LA(j:t.AW z f h)(h0:0<h id):∃n,t.Has z (f id) id n:=by
 obtain⟨r,h1,_,_,I⟩:=j.mem h0;exact⟨_,h1.LA _ I⟩
def Tab.AW.Mb(j:t.AW z f h)(h0:0<h id):∃n,t.Mb z id=some ⟨f id,n⟩:=by
 obtain⟨n,h1⟩:=j.LA h0;exact⟨n,h1.1⟩
def Tab.AW.new(z:α):(Tab.z α).AW z (λ_=>z) λ_=>0:=⟨rfl,[],Tab.Gz.z z,B_,I'⟩
def Tab.AW.congr{h':Int->Nat}(j:t.AW z f h)(e:∀x,h x=h' x):t.AW z f h':=by
 obtain⟨h0,r,h1,I,J⟩:=j;exact⟨h0,r,h1,I,B_⟩
def Tab.AW.He(J:t.AW z f h)(hi:t.Inv G)(h0:0<h id\/id=0):(t.He z id).AW z f λx=>h x+if x=id then 1 else 0:=by
 obtain⟨r,j,I,N⟩:∃r:List (O×Int),(∀p∈r,p.1=f p.2)/\(∀id,r.countP (λp=>decide (p.2=id))=h id)/\(t.He z id).Gz z ((f id,id)::r):=by
  rcases h0 with h0|rfl
  .obtain⟨r,h1,j,I,N⟩:=J.mem h0;exact⟨r,j,I,h1.He hi N⟩
  .obtain⟨_,r,h1,j,I⟩:=J;exact⟨r,j,I,by grind[Tab.Gz.xP]⟩
 refine⟨J.1,(f id,id)::r,N,λp hp=>?_,λx=>?_⟩;grind;grind
def Tab.AW.free(j:t.AW z f h)(hi:t.Inv G)(I:∀s,G s->s≠z)(h0:0<h id):(t.EG z id).AW z f λx=>h x-if x=id then 1 else 0:=by
 obtain⟨r,h1,Q,J,N⟩:=j.mem h0;have hp:r.Perm ((f id,id)::r.erase (f id,id)):=List.perm_cons_erase N;refine⟨j.1,r.erase (f id,id),(h1.Kb hp).wy hi I,B_,λx=>?_⟩;have O:=J x;rw[hp.countP_eq,List.countP_cons] at O;grind
def Tab.AW.Xy(J:t.AW z f h)(hi:t.Inv G)(ha:t.Rk z s id t')(N:s≠z->G s):∃I:Int->α,t'.AW z I (λx=>h x+if x=id then 1 else 0)/\I id=s/\(∀x,0<h x->I x=f x):=by
 obtain⟨O,r,h1,Q,U⟩:=J;have j:=h1.Xy ha hi N;have key:∀p∈r,p.2=id->p.1=s:=by
  intro p hp e;have a:=j.LA p (aAT _ hp);rw[e] at a;have:=a.1.symm.trans (j.LA (s,id) (aAJ _ (uN.2 rfl))).1;grind
 refine⟨λx=>if x=id then s else f x,⟨?_,r++[(s,id)],j,λp hp=>?_,λx=>?_⟩,E_,λx V=>?_⟩
 .show(if(0:Int)=id then s else f 0)=z;split
  .rename_i e;exact(j.LA (s,id) (aAJ _ (uN.2 rfl))).2.2.1 e.symm
  omega
 grind;grind;grind[List.countP_pos_iff]
end
def OR{α:Type}(e:Bool)(g:AvT α)(F C:d_)(W:c_)(b:Nat)(l:List α):Prop:=(∃bt,Ep g F C W b bt l)\/(e=true/\Bx W b [.pointer none]/\l=[]/\(∀x,F x↔x=b)/\∀x,¬C x)
section
variable {α:Type}{e:Bool}{g:AvT α}{F C M:d_}{W W':c_}{b:Nat}{l:List α}
def OR.T_(h:OR e g F C W b l)(hm:AF M W W')(j:∀x,F x\/C x->¬M x):OR e g F C W' b l:=by
 rcases h with⟨Q,h⟩|⟨h1,J,N,I,O⟩;exact .inl ⟨Q,h.T_ hm j⟩;exact .inr ⟨h1,J.T_ hm (j b (.inl ((I b).2 rfl))),N,I,O⟩
def OR.lt(h:OR e g F C W b l):∀x,F x\/C x->x<W.heap.size:=by
 rcases h with⟨Q,h⟩|⟨h1,I,N,J,O⟩;exact h.lt;rintro x (j|j);rw[(J x).1 j];exact I.lt (P9 _);grind
def OR.t(h:OR false g F C W b l):∃bt,Ep g F C W b bt l:=h.resolve_right λh=>nomatch h.1
def OR.fb(h:OR e g F C W b l):F b:=by
 rcases h with⟨O,h⟩|⟨h1,j,I,J,N⟩<;>grind[Ep.fb]
end
structure TxA where
 b:Nat
 r:Nat
 s:Nat
 p:Nat
 t:Nat
structure TxK where
 r:Bool
 s:Bool
 p:Bool
structure TxG where
 r:d_
 s:d_
 p:d_
 c:d_
 t:d_
abbrev TxK.f:TxK:=⟨false,false,false⟩
structure Kz (k:TxK) (w0:c_) (Ba:Nat->Nat) (G:TxG) (F:d_) (W:c_) (a:TxA) (σ:SKs) (most:Int) (l1:a_) (l2:Y') (L:List V_) (t:Tab V_):Prop where
 box:Bx W a.b (nP σ.sv most a.r a.s a.p a.t)
 MV:OR k.r BH.toAvT G.r JB W a.r l1
 HG:OR k.s Eg.toAvT G.s JB W a.s l2
 Uy:OR k.p BN.toAvT G.p G.c W a.p L
 nT:Gi G.t W a.t σ t
 Ho:CG σ.S W σ.sv σ.ks
 cb:Ba a.b=0
 cr:∀x,G.r x->Ba x=1
 cs:∀x,G.s x->Ba x=2
 cp:∀x,G.p x\/G.c x->Ba x=3
 ct:∀x,G.t x->Ba x=4
 cS:∀x,σ.S x->Ba x=5/\x<W.heap.size
 lo:∀x,(x=a.b\/G.r x\/G.s x)\/(G.p x\/G.c x)\/G.t x->F x
 hl:∀x,F x->w0.heap.size<=x/\x<W.heap.size/\¬σ.S x
 g:AG w0 W
section
variable {k:TxK}{w0:c_}{Ba:Nat->Nat}{G:TxG}{F M:d_}{W W':c_}{a:TxA}{σ:SKs}{most:Int}{l1 nO:a_}{l2 fU:Y'}{L L':List V_}{t t':Tab V_}{c:Nat}
def Kz.frame(h:Kz k w0 Ba G F W a σ most l1 l2 L t)(h1:1<=c)(N:c<=4)(hm:AF M W W')(J:∀x,M x->Ba x=c/\F x) : Bx W' a.b (nP σ.sv most a.r a.s a.p a.t)/\(c≠1->OR k.r BH.toAvT G.r JB W' a.r l1)/\(c≠2->OR k.s Eg.toAvT G.s JB W' a.s l2)/\(c≠3->OR k.p BN.toAvT G.p G.c W' a.p L)/\(c≠4->Gi G.t W' a.t σ t)/\CG σ.S W' σ.sv σ.ks/\AG w0 W'/\ (∀{j:Nat->Nat},(j=λx=>if x<W.heap.size then Ba x else c)->j a.b=0/\(∀x,G.r x->j x=1)/\(∀x,G.s x->j x=2)/\(∀x,G.p x\/G.c x->j x=3)/\(∀x,G.t x->j x=4)/\(∀x,σ.S x->j x=5/\x<W'.heap.size)/\∀{X Y:d_},(∀x,X x->Ba x=c)->(∀x,Y x->X x\/W.heap.size<=x)->∀x,Y x->j x=c):=by
 have z:=hm.size;have JW:∀x,F x->x<W.heap.size:=λx I=>(h.hl x I).2.1;refine⟨h.box.T_ hm (by grind[Kz.cb]),λhc=>h.MV.T_ hm λx I e=>?_,λhc=>h.HG.T_ hm λx I e=>?_,λhc=>h.Uy.T_ hm λx I e=>?_,λhc=>h.nT.T_ hm λx I e=>?_,h.Ho.T_ hm λx _ I e=>?_,h.g.next hm λx I e=>?_,?_⟩;grind[Kz.cr];grind[Kz.cs];grind[Kz.cp];grind[Kz.ct,Kz.cS];grind[Kz.cS];have:=(h.hl _ (J x e).2).1;omega;rintro j rfl;have key:∀x,F x->(if x<W.heap.size then Ba x else c)=Ba x:=B_;refine⟨by show ite _ _ _=0;rw[key _ (h.lo _ (.inl (.inl rfl)))];exact h.cb,(by grind[Kz.lo,Kz.cr]),λx I=>by show ite _ _ _=2;rw[key _ (h.lo _ (.inl (.inr (.inr I))))];exact h.cs x I,λx I=>by show ite _ _ _=3;rw[key _ (h.lo _ (.inr (.inl I)))];exact h.cp x I,λx I=>by show ite _ _ _=4;rw[key _ (h.lo _ (.inr (.inr I)))];exact h.ct x I,λx I=>?_,λO Q x I=>?_⟩;grind[Kz.cS];grind
def Kz.ni{e:Bool}(h:Kz k w0 Ba G F W a σ most l1 l2 L t)(hm:AF G.r W W')(hF:∀x,C x->G.r x\/W.heap.size<=x)(N:OR e BH.toAvT C JB W' a.r nO) : ∃J,Kz { k with r:=e } w0 J { G with r:=C } (λx=>F x\/C x) W' a σ most nO l2 L t:=by
 obtain⟨O,f2,Q,U,V,f6,X,Y⟩:=h.frame (c:=1) C0 C0 hm (by grind[Kz.cr,Kz.lo]);obtain⟨Z,g2,g3,g4,g5,g6,g7⟩:=Y rfl;have z:=hm.size;have z0:=h.g.size;have hS:∀x,σ.S x->x<W.heap.size:=λx j=>(h.cS x j).2;refine⟨_,O,N,Q C0,U C0,V C0,f6,Z,g7 h.cr hF,g3,g4,g5,g6,λx j=>?_,λx j=>?_,X⟩;rcases j with(j|j|j)|j;exact .inl (h.lo x (.inl (.inl j)));exact .inr j;exact .inl (h.lo x (.inl (.inr (.inr j))));exact .inl (h.lo x (.inr j));have up:F x->w0.heap.size<=x/\x<W'.heap.size/\¬σ.S x:=λj=>by have:=h.hl x j;exact⟨this.1,E,this.2.2⟩
 rcases j with j|j;exact up j;rcases hF x j with e|e;exact up (h.lo x (.inl (.inr (.inl e))));exact⟨E,N.lt x (.inl j),λe=>by have:=hS x e;omega⟩
def Kz.kr{e:Bool}(h:Kz k w0 Ba G F W a σ most l1 l2 L t)(hm:AF G.s W W')(hF:∀x,C x->G.s x\/W.heap.size<=x)(N:OR e Eg.toAvT C JB W' a.s fU) : ∃J,Kz { k with s:=e } w0 J { G with s:=C } (λx=>F x\/C x) W' a σ most l1 fU L t:=by
 obtain⟨O,Q,f3,U,V,f6,X,Y⟩:=h.frame (c:=2) C0 C0 hm (λx j=>⟨h.cs x j,h.lo x (.inl (.inr (.inr j)))⟩);obtain⟨Z,g2,g3,g4,g5,g6,g7⟩:=Y rfl;have z:=hm.size;have z0:=h.g.size;have hS:∀x,σ.S x->x<W.heap.size:=λx j=>(h.cS x j).2;refine⟨_,O,Q C0,N,U C0,V C0,f6,Z,g2,g7 h.cs hF,g4,g5,g6,λx j=>?_,λx j=>?_,X⟩;rcases j with(j|j|j)|j;exact .inl (h.lo x (.inl (.inl j)));exact .inl (h.lo x (.inl (.inr (.inl j))));exact .inr j;exact .inl (h.lo x (.inr j));have up:F x->w0.heap.size<=x/\x<W'.heap.size/\¬σ.S x:=λj=>by have:=h.hl x j;exact⟨this.1,E,this.2.2⟩
 rcases j with j|j;exact up j;rcases hF x j with e|e;exact up (h.lo x (.inl (.inr (.inr e))));exact⟨E,N.lt x (.inl j),λe=>by have:=hS x e;omega⟩
def Kz.qF{I J:d_}{e:Bool}(h:Kz k w0 Ba G F W a σ most l1 l2 L t)(hm:AF G.p W W')(hF:∀x,I x\/J x->(G.p x\/G.c x)\/W.heap.size<=x)(O:OR e BN.toAvT I J W' a.p L') : ∃N,Kz { k with p:=e } w0 N { G with p:=I,c:=J } (λx=>F x\/I x\/J x) W' a σ most l1 l2 L' t:=by
 obtain⟨Q,U,V,f4,X,f6,Y,Z⟩:=h.frame (c:=3) C0 C0 hm (λx j=>⟨h.cp x (.inl j),h.lo x (.inr (.inl (.inl j)))⟩);obtain⟨g1,g2,g3,g4,g5,g6,g7⟩:=Z rfl;have z:=hm.size;have z0:=h.g.size;have hS:∀x,σ.S x->x<W.heap.size:=λx j=>(h.cS x j).2;refine⟨_,Q,U C0,V C0,O,X C0,f6,g1,g2,g3,g7 h.cp hF,g5,g6,λx j=>?_,λx j=>?_,Y⟩;rcases j with j|j|j;exact .inl (h.lo x (.inl j));exact .inr j;exact .inl (h.lo x (.inr (.inr j)));have up:F x->w0.heap.size<=x/\x<W'.heap.size/\¬σ.S x:=λj=>by have:=h.hl x j;exact⟨this.1,E,this.2.2⟩
 rcases j with j|j;exact up j;rcases hF x j with e|e;exact up (h.lo x (.inr (.inl e)));exact⟨E,O.lt x j,λe=>by have:=hS x e;omega⟩
def Kz.vS(h:Kz k w0 Ba G F W a σ most l1 l2 L t)(hm:AF G.t W W')(hF:∀x,C x->G.t x\/W.heap.size<=x/\x<W'.heap.size)(N:Gi C W' a.t σ t') : ∃J,Kz k w0 J { G with t:=C } (λx=>F x\/C x) W' a σ most l1 l2 L t':=by
 obtain⟨O,Q,U,V,f5,f6,X,Y⟩:=h.frame (c:=4) C0 C0 hm (λx j=>⟨h.ct x j,h.lo x (.inr (.inr j))⟩);obtain⟨Z,g2,g3,g4,g5,g6,g7⟩:=Y rfl;have z:=hm.size;have z0:=h.g.size;have hS:∀x,σ.S x->x<W.heap.size:=λx j=>(h.cS x j).2;refine⟨_,O,Q C0,U C0,V C0,N,f6,Z,g2,g3,g4,g7 h.ct (λx j=>(hF x j).imp id And.left),g6,λx j=>?_,λx j=>?_,X⟩;rcases j with j|j|j;exact .inl (h.lo x (.inl j));exact .inl (h.lo x (.inr (.inl j)));exact .inr j;have up:F x->w0.heap.size<=x/\x<W'.heap.size/\¬σ.S x:=λj=>by have:=h.hl x j;exact⟨this.1,E,this.2.2⟩
 rcases j with j|j;exact up j;rcases hF x j with e|e;exact up (h.lo x (.inr (.inr e)));exact⟨E,e.2,λe=>by have:=hS x e;omega⟩
def Kz.T_(h:Kz k w0 Ba G F W a σ most l1 l2 L t)(hm:AF M W W')(I:∀x,M x->¬F x/\¬σ.S x/\w0.heap.size<=x):Kz k w0 Ba G F W' a σ most l1 l2 L t:=by
 have z:=hm.size;exact ⟨h.box.T_ hm λe=>(I _ e).1 (h.lo _ (.inl (.inl rfl))),h.MV.T_ hm (by grind[Kz.lo]),h.HG.T_ hm λx j e=>(I x e).1 (j.elim (λj=>h.lo x (.inl (.inr (.inr j)))) λj=>j.elim),h.Uy.T_ hm λx j e=>(I x e).1 (h.lo x (.inr (.inl j))),
  h.nT.T_ hm λx j e=>j.elim (λj=>(I x e).1 (h.lo x (.inr (.inr j)))) (I x e).2.1,h.Ho.T_ hm B_,h.cb,h.cr,h.cs,h.cp,h.ct,λx j=>⟨(h.cS x j).1,by have:=(h.cS x j).2;omega⟩,h.lo,(by grind[Kz.hl]),h.g.next hm B_⟩
end
def K3(k:TxK)(w0:c_)(F:d_)(W:c_)(a:TxA)(σ:SKs)(most:Int)(rs:V')(l2:Y')(L:List V_)(t:Tab V_):Prop:=∃Ba G l1,CM l1=rs/\Kz k w0 Ba G F W a σ most l1 l2 L t
def Et(k:TxK)(w0:c_)(F:d_)(W W':c_)(a:TxA)(σ:SKs)(most:Int)(rs:V')(l2:Y')(L:List V_)(t:Tab V_):Prop:=∃F',(∀x,F' x->F x\/W.heap.size<=x)/\K3 k w0 F' W' a σ most rs l2 L t/\AF F W W'
section
variable {k:TxK}{w0:c_}{F M:d_}{W W':c_}{a:TxA}{σ:SKs}{most:Int}{rs:V'}{l2:Y'}{L:List V_}{t:Tab V_} 
def K3.MV(h:K3 k w0 F W a σ most rs l2 L t):∃l1 Fr,CM l1=rs/\OR k.r BH.toAvT Fr JB W a.r l1/\(∀x,Fr x->F x/\x≠a.b)/\∀{W' j nO e},AF Fr W W'->(∀x,j x->Fr x\/W.heap.size<=x)->OR e BH.toAvT j JB W' a.r nO->Et { k with r:=e } w0 F W W' a σ most (CM nO) l2 L t:=by
 obtain⟨Ba,G,l1,h1,J⟩:=h;have up:∀x,G.r x->F x:=by grind[Kz.lo]
 refine⟨l1,G.r,h1,J.MV,(by grind[Kz.cr,Kz.cb]),λ{W' j nO e} hm hF N=>?_⟩;obtain⟨I,O⟩:=J.ni hm hF N;exact⟨_,B_,⟨I,_,nO,rfl,O⟩,(by grind[AF.mono])⟩
def K3.HG(h:K3 k w0 F W a σ most rs l2 L t):∃J,OR k.s Eg.toAvT J JB W a.s l2/\(∀x,J x->F x)/\∀{W' j fU e},AF J W W'->(∀x,j x->J x\/W.heap.size<=x)->OR e Eg.toAvT j JB W' a.s fU->Et { k with s:=e } w0 F W W' a σ most rs fU L t:=by
 obtain⟨Ba,G,l1,h1,N⟩:=h;have up:∀x,G.s x->F x:=λx O=>N.lo x (.inl (.inr (.inr O)));refine⟨G.s,N.HG,up,λ{W' j fU e} hm hF Q=>?_⟩;obtain⟨I,U⟩:=N.kr hm hF Q;exact⟨_,B_,⟨I,_,l1,h1,U⟩,(by grind[AF.mono])⟩
def K3.Uy(h:K3 k w0 F W a σ most rs l2 L t):∃N O,OR k.p BN.toAvT N O W a.p L/\(∀x,N x\/O x->F x)/\∀{W' j I L' e},AF N W W'->(∀x,j x\/I x->(N x\/O x)\/W.heap.size<=x)->OR e BN.toAvT j I W' a.p L'->Et { k with p:=e } w0 F W W' a σ most rs l2 L' t:=by
 obtain⟨Ba,G,l1,h1,Q⟩:=h;have up:∀x,G.p x\/G.c x->F x:=λx U=>Q.lo x (.inr (.inl U));refine⟨G.p,G.c,Q.Uy,up,λ{W' j I L' e} hm hF V=>?_⟩;obtain⟨J,X⟩:=Q.qF hm hF V;exact⟨_,B_,⟨J,_,l1,h1,X⟩,(by grind[AF.mono])⟩
def K3.nT(h:K3 k w0 F W a σ most rs l2 L t):∃Ft,Gi Ft W a.t σ t/\(∀x,Ft x->F x)/\∀{W' t'},LL Ft W W' a.t σ t'->Et k w0 F W W' a σ most rs l2 L t':=by
 obtain⟨Ba,G,l1,h1,I⟩:=h;have up:∀x,G.t x->F x:=λx J=>I.lo x (.inr (.inr J));refine⟨G.t,I.nT,up,λ{W' t'} N=>?_⟩;obtain⟨O,hF,Q,hm⟩:=N;obtain⟨j,U⟩:=I.vS hm hF Q;exact⟨_,B_,⟨j,_,l1,h1,U⟩,(by grind[AF.mono])⟩
def K3.box(h:K3 k w0 F W a σ most rs l2 L t):Bx W a.b (nP σ.sv most a.r a.s a.p a.t)/\F a.b:=by
 obtain⟨Ba,G,l1,h1,j⟩:=h;exact⟨j.box,j.lo _ (.inl (.inl rfl))⟩
def K3.Ho(h:K3 k w0 F W a σ most rs l2 L t):CG σ.S W σ.sv σ.ks/\∀x,σ.S x->x<W.heap.size:=by
 obtain⟨Ba,G,l1,h1,j⟩:=h;grind[Kz.Ho,Kz.cS]
def K3.hl(h:K3 k w0 F W a σ most rs l2 L t):∀x,F x->w0.heap.size<=x/\x<W.heap.size/\¬σ.S x:=by
 obtain⟨Ba,G,l1,h1,j⟩:=h;exact j.hl
def K3.g(h:K3 k w0 F W a σ most rs l2 L t):AG w0 W:=by
 obtain⟨Ba,G,l1,h1,j⟩:=h;exact j.g
def K3.T_(h:K3 k w0 F W a σ most rs l2 L t)(hm:AF M W W')(j:∀x,M x->¬F x/\¬σ.S x/\w0.heap.size<=x):K3 k w0 F W' a σ most rs l2 L t:=by
 obtain⟨Ba,G,l1,h1,I⟩:=h;exact⟨Ba,G,l1,h1,I.T_ hm j⟩
def K3.S_(h:K3 k w0 F W a σ most rs l2 L t)(hm:AG W W'):K3 k w0 F W' a σ most rs l2 L t:=h.T_ hm L_
def K3.Ak(h:K3 k w0 F W a σ most rs l2 L t)(hm:AG W W'):Et k w0 F W W' a σ most rs l2 L t:=⟨F,K_,h.S_ hm,hm.mono G_⟩
theorem K3.aC(h:K3 .f w0 F W a σ most rs l2 L t):∃l1 Fr bt,CM l1=rs/\Ep BH.toAvT Fr JB W a.r bt l1/\(∀x,Fr x->F x/\x≠a.b)/\∀{W' j nO},AF Fr W W'->(∀x,j x->Fr x\/W.heap.size<=x)->Ep BH.toAvT j JB W' a.r bt nO->Et .f w0 F W W' a σ most (CM nO) l2 L t:=by
 obtain⟨l1,Fr,h1,I,J,N⟩:=h.MV;obtain⟨bt,I⟩:=I.t;exact⟨l1,Fr,bt,h1,I,J,λhm hF O=>N (e:=false) hm hF (.inl ⟨bt,O⟩)⟩
def K3.ik(h:K3 .f w0 F W a σ most rs l2 L t):∃j bt,Ep Eg.toAvT j JB W a.s bt l2/\(∀x,j x->F x)/\∀{W' I fU},AF j W W'->(∀x,I x->j x\/W.heap.size<=x)->Ep Eg.toAvT I JB W' a.s bt fU->Et .f w0 F W W' a σ most rs fU L t:=by
 obtain⟨j,J,N,O⟩:=h.HG;obtain⟨bt,J⟩:=J.t;exact⟨j,bt,J,N,λhm hF Q=>O (e:=false) hm hF (.inl ⟨bt,Q⟩)⟩
def K3.aI(h:K3 .f w0 F W a σ most rs l2 L t):∃j I bt,Ep BN.toAvT j I W a.p bt L/\(∀x,j x\/I x->F x)/\∀{W' J N L'},AF j W W'->(∀x,J x\/N x->(j x\/I x)\/W.heap.size<=x)->Ep BN.toAvT J N W' a.p bt L'->Et .f w0 F W W' a σ most rs l2 L' t:=by
 obtain⟨j,I,O,Q,U⟩:=h.Uy;obtain⟨bt,O⟩:=O.t;exact⟨j,I,bt,O,Q,λhm hF V=>U (e:=false) hm hF (.inl ⟨bt,V⟩)⟩
def Et.next{I:TxK}{J:c_}{j:V'}{fU:Y'}{L':List V_}{t':Tab V_}(hF:∀x,S x->F x\/W.heap.size<=x)(hm:AF F W J)(h:Et I w0 S J W' a σ most j fU L' t'):Et I w0 F W W' a σ most j fU L' t':=by
 obtain⟨N,h1,O,Q⟩:=h;have z:=hm.size;refine⟨N,λx U=>?_,O,hm.next Q λx U e=>?_⟩;grind;grind
def Et.step{j:c_}(g:AG W j)(h:Et k w0 F j W' a σ most rs l2 L t):Et k w0 F W W' a σ most rs l2 L t:=Et.next K_ (g.mono G_) h
end
section
variable {α:Type}[DecidableEq α]{t t':Tab α}{z s:α}{f:Int->α}{h:Int->Nat}{id:Int}{G:α->Prop}
def Tab.AW.idle(j:t.AW z f h)(h0:0<h id\/id=0):0<=id/\id<=t.AS.length:=by
 rcases h0 with h0|rfl;rotate_left;omega;obtain⟨n,h1⟩:=j.LA h0;grind[Tab.Has.DA]
omit [DecidableEq I] in
theorem Tab.ns:(t.He z id).AS.length=t.AS.length:=by
 unfold Tab.He;cases t.Mb z id with
 |none=>rfl
 |some p=>
  dsimp only;split;rfl;show(t.AS.set _ _).length=_;rw[aAC]
omit [DecidableEq j] in
theorem Tab.RG:(t.EG z id).AS.length=t.AS.length:=by
 unfold Tab.EG;cases t.Mb z id with
 |none=>rfl
 |some p=>
  dsimp only;split;rfl;split<;>(show(t.AS.set _ _).length=_;rw[aAC])
omit [DecidableEq j] in
def aq{r:List (α×Int)}(j:t.Gz z r)(hi:t.Inv G)(J:∀p∈r,p.1=f p.2){p:α×Int}(hp:p∈r):Kj r p.1=r.countP λq=>decide (q.2=p.2):=by
 unfold Kj;rw[List.countP_eq_length_filter];congr 1;refine List.filter_congr λq I=>?_;have hu:=Tab.Has.vA hi (j.LA q I) (j.LA p hp);grind
def Tab.AW.PR(Q:t.AW z f h)(hi:t.Inv G)(hG:∀s,G s->s≠z){H:Nat}(hH:∀x,h x<=H)(hp:t.AS.length<=H):t.Small H:=by
 obtain⟨_,r,h1,X,Y⟩:=Q;refine⟨hp,?_,λq Z=>?_⟩;rw[h1.em];refine aCd λN=>?_;obtain⟨p,I,e⟩:=Qx (r:=r) (x:=z) E;rw[<-e,aq h1 hi X I,Y] at N;grind;refine aCd λN=>?_;obtain⟨i,a1,e⟩:=aA2.1 Z;have J:t.AS[i]?=some q:=B_;obtain⟨p,I,e'⟩:=h1.pl i q J E;have Q:=h1.LA p I;have U:p.2≠0:=by grind[Tab.Inv.ok]
 obtain⟨j,hj,O⟩:=Q.DA U;have V:=hi.K2 i j q _ J O E Q.2.1 e'.symm;subst V;rw[J] at O;have:q.held=Kj r p.1:=B_;rw[aq h1 hi X I,Y] at this;grind
def Tab.AW.room(V:t.AW z f h)(hi:t.Inv G)(Z:∀s,G s->s≠z){M:V'}(hM:∀x,0<h x->x∈M)(h0:t.free=[]):t.AS.length<=M.length:=by
 obtain⟨_,r,h1,h2,h3⟩:=V;have key:∀i,i<t.AS.length->((i:Int)+1)∈M:=λi J=>by
  have N:=Hc J;have I:0<t.AS[i].held:=Nat.pos_of_ne_zero λe=>by
   have:=(hi.mG i).2 ⟨_,N,e⟩;rw[h0] at this;cases this
  obtain⟨p,hp,e⟩:=h1.pl i _ N I;have U:=h1.LA p hp;have O:p.2≠0:=by grind[Tab.Inv.ok]
  obtain⟨j,hj,Q⟩:=U.DA O;have X:=hi.K2 i j _ _ N Q I U.2.1 e.symm;grind[List.countP_pos_iff]
 have:=MO (List.nodup_range (n:=t.AS.length)) (m:=M.map λx=>(x-1).toNat) λi Y=>
  WJ.2 ⟨_,key i (aBb.1 Y),E⟩
 simpa using this
def Tab.AW.Cl(j:t.AW z f h)(hi:t.Inv G)(I:∀s,G s->s≠z){M:V'}(J:∀x,0<h x->x∈M){K:Nat}(Q:M.length<K)(hp:t.AS.length<=K)(ha:t.Rk z s id t'):t'.AS.length<=K:=by
 rcases ha with⟨_,_,rfl⟩|⟨_,i,n,N,U,_,rfl⟩|⟨_,_,_,rfl⟩;omega;show(t.AS.set _ _).length<=_;grind;unfold Tab.put;cases O:t.free.getLast? with
 |some i=>grind
 |none=>
  have:=j.room hi I J (aBK.1 O);grind
end
namespace Spn
theorem Xi(x:Int)(p:Option Int)(l:V'):rn x p l<=l.length:=by
 induction l generalizing p<;>grind[rn]
theorem Q3{x:Int}{p:Option Int}{l:V'}(j:x∈l)(hp:p≠some x):0<rn x p l:=by
 induction l generalizing p<;>grind[rn,Option.some.inj]
def Yd{x:Int}{p:Option Int}{l:V'}(h:0<rn x p l):x∈l:=by
 induction l generalizing p<;>grind[rn]
def qH(s:Spn){i j:Nat}(I:i<j)(N:j<=s.n):kd.part s i j=⟨j-i,s.id⟩:=by
 have J:(kd.μ s).1=s.n:=rfl;unfold Kd.part;rw[J];by_cases h:j<s.n;rw[Ix h];by_cases h0:0<i;rw[Ix h0];rfl;rw[By h0,show i=0 by omega];rfl;rw[By h,show j=s.n by omega];by_cases h0:0<i;rw[Ix h0];rfl;rw[By h0,show i=0 by omega];rfl
def cG{l:Y'}:∀{p:Option Int} (_:ME p l) (i j:Nat),ME (if i=0 then p else none) (kd.Ax l i j):=by
 induction l with
 |nil=>intro p _ i j;exact trivial
 |cons s l J=>
  intro p h i j;obtain⟨h1,U,N⟩:=h;have O:(kd.μ s).1=s.n:=rfl;rw[Kd.Ax,O];by_cases I:i<min j s.n;rw[Ix I,qH s I (Nat.min_le_right _ _)];have:=J N (i-s.n) (j-s.n);rw[Ix E] at this;refine⟨B_,?_,this⟩;grind;rw[By I,aAP];by_cases Q:j<=i;rw[Kd.GD _ _ E];exact trivial;grind[Ra]
def Jw{p:Option Int}{l:Y'}(h:ME p l)(i j:Nat):ME none (kd.Ax l i j):=Ra (cG h i j)
def N5{p:Option Int}{l:Y'}(h:ME p l):l.length<=(l.flatMap u).length:=by
 induction l generalizing p with
 |nil=>grind
 |cons s l j=>
  have:=j h.2.2;have:=h.1;grind[u]
def cY{l:Y'}{x:Int}(h:x∈l.flatMap u):∃s∈l,s.id=x:=by
 obtain⟨s,j,I⟩:=aCJ.1 h;exact⟨s,j,(aCR.1 I).2.symm⟩
def TQ{l:Y'}{s:Spn}(j:s∈l)(I:0<s.n):s.id∈l.flatMap u:=aCJ.2 ⟨s,j,aCR.2 ⟨E,rfl⟩⟩
abbrev Cz(l:Y')(x:Int):Nat:=l.countP λs=>decide (s.id=x)
structure Win (l2 row:Y') (i j:Nat):Prop where
 Ak:∀x,rn x none ((kd.CV l2 i j row).flatMap u)+Cz (kd.Ax l2 (i-1) (min (j+1) (l2.flatMap u).length)) x=rn x none (l2.flatMap u)+Cz (kd.Ax (kd.CV l2 i j row) (i-1) (min (j+1) (l2.flatMap u).length-(j-i)+(row.flatMap u).length)) x
 mem:∀x,0<Cz (kd.Ax (kd.CV l2 i j row) (i-1) (min (j+1) (l2.flatMap u).length-(j-i)+(row.flatMap u).length)) x->x∈l2.flatMap u\/x∈row.flatMap u
 len:(kd.Ax l2 (i-1) (min (j+1) (l2.flatMap u).length)).length<=(l2.flatMap u).length/\(kd.Ax (kd.CV l2 i j row) (i-1) (min (j+1) (l2.flatMap u).length-(j-i)+(row.flatMap u).length)).length<=(l2.flatMap u).length+(row.flatMap u).length
def gN(P Q R:List α){a b:Nat}(ha:a=P.length)(hb:b=P.length+Q.length):((P++Q++R).take b).drop a=Q:=by
 grind
def win{l2:Y'}(row:Y'){i j:Nat}(hp:ME none l2)(a1:i<=j)(hj:j<=(l2.flatMap u).length):Win l2 row i j:=by
 have X:=Lr i j row hp;have eu:(kd.CV l2 i j row).flatMap u=(l2.flatMap u).take i++row.flatMap u++(l2.flatMap u).drop j:=FV.CV l2 row a1;generalize J:l2.flatMap u=I at *;generalize N:row.flatMap u=V at *
 let P:=I.take (i-1)
 let O:=(I.take i).drop (i-1)
 let B:=(I.take j).drop i
 let Q:=(I.drop j).take 1
 let R:=(I.drop j).drop 1
 have eA:I.take i=P++O:=by
  have:=(Nr (i-1) (I.take i)).symm;rwa [aBI,aAD E] at this
 have eC:I.drop j=Q++R:=(Nr 1 _).symm;have eB:I=I.take i++B++I.drop j:=by
  have h1:=(Nr i (I.take j)).symm;grind[List.take_append_drop]
 have e1:I=P++(O++B++Q)++R:=by
  grind
 have e2:(kd.CV l2 i j row).flatMap u=P++(O++V++Q)++R:=by
  grind
 have Y:P.length=i-1:=by show(I.take (i-1)).length=_;rw[S5];omega
 have Z:O.length=i-(i-1):=by show((I.take i).drop (i-1)).length=_;rw[I3,S5];omega
 have lB:B.length=j-i:=by show((I.take j).drop i).length=_;rw[I3,S5];omega
 have lC:Q.length=min 1 (I.length-j):=B_;have lR:R.length=I.length-j-1:=by show((I.drop j).drop 1).length=_;rw[I3,I3]
 have u1:(kd.Ax l2 (i-1) (min (j+1) I.length)).flatMap u=O++B++Q:=by
  rw[FV.Ax,J];have:=gN P (O++B++Q) R (b:=min (j+1) I.length) Y.symm (by rw[Bp,Bp,Y,Z,lB,lC];omega);grind
 have u2:(kd.Ax (kd.CV l2 i j row) (i-1) (min (j+1) I.length-(j-i)+V.length)).flatMap u=O++V++Q:=by
  rw[FV.Ax,e2];exact gN _ _ _ Y.symm (by rw[Bp,Bp,Y,Z,lC];omega)
 have c1:=λx=>gS x none _ (Jw hp (i-1) (min (j+1) I.length));have c2:=λx=>gS x none _ (Jw X (i-1) (min (j+1) I.length-(j-i)+V.length));have n1:=N5 (Jw hp (i-1) (min (j+1) I.length));have n2:=N5 (Jw X (i-1) (min (j+1) I.length-(j-i)+V.length));rw[u1] at n1;rw[u2] at n2;refine⟨λx=>?_,λx hx=>?_,?_,?_⟩;rw[N,J,Cz,Cz,c1,c2,u1,u2,e2];have:=db x P (O++B++Q) (O++V++Q) R (λU=>?_) (λU=>?_);grind;have:P.length≠0:=λh=>U (Of h);cases hA:O with
 |nil=>rw[hA] at Z;simp at Z;omega
 |cons y A2=>simp
 have:R.length≠0:=λh=>U (Of h);have hC:Q≠[]:=λh=>by rw[h] at lC;simp at lC;omega
 exact⟨by simp[lp,aBt hC],by simp[hC],by simp[hC]⟩;rw[N,J,Cz,c2,u2] at hx;have hm:=Yd hx;rw[J,N];rcases K8.1 hm with hm|hm;rcases K8.1 hm with hm|hm;grind[List.mem_of_mem_take];grind;grind;grind[List.length_append];grind[List.length_append]
end Spn
end Go.Proofs.YtjdgbcdfgnajlaaGreatDoor
