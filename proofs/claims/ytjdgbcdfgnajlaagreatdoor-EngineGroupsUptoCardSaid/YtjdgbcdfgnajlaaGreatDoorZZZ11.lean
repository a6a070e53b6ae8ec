/- parts of the proof, written short by a program of ours -/
import Derived.Test.YtjdgbcdfgnajlaaGreatDoorZZZ10
import Derived.Test.YtjdgbcdfgnajlaaGreatDoorRows
import Derived.Test.YtjdgbcdfgnajlaaGreatDoorTie
import Derived.Test.YtjdgbcdfgnajlaaGreatDoorCards
set_option linter.all false
set_option maxRecDepth 100000
namespace Go.Proofs.YtjdgbcdfgnajlaaGreatDoor
open Go Proofs.Tryz
variable {S C M S':d_}{w W w' w0:c_}{v sv xv:b_}{most:Int}{cs vs args:U_}{α:Type}{ks:X'}{K:Cont}
theorem CH.uK(h:CH w)(g:AF M w w')(j:∀b,b<2->¬M b):CH w':=
 ⟨Mp h.size g.size,(by grind[AF.cell,CH.first]),(by grind[AF.cell,CH.Y6])⟩
section
variable {S:d_}{W W':c_}{c:Nat}{bv:b_}{b:V'}{p q:Nat}{bad:Bool}
variable (hb:∀x∈b,0<=x/\x<256)(hl:b.length<=1099511620000)
include hb hl
theorem fN(h:Ex S W c bv b p bad) :
  l_ 203 [e_ c] (λv w'=>∃(a:Attr) (q:Nat) (Ay:Bool),v=.agg a.cells.toArray/\Ex S w' c bv b q Ay/\AF (λz=>z=c) W w'/\DR Hn OJ b p bad a q Ay) W:=by
 refine I_ func203 ?_;have hl:b.length<=1099511627776:=E;have N:=h.lt;refine Gg.new λg Q hg hz O b1=>?_;apply AA (aB hb hl (h.S_ O));rintro _ w2 ⟨key,q2,Es,rfl,hk,U,V,r2⟩;apply AA (Hx hb hl (most:=255) U C0);rintro _ w3 ⟨k,q3,tX,rfl,j,X,Y,Z⟩;apply Ri j;apply AA (XU hb hl X j);rintro _ w4 ⟨v,q4,I,rfl,h4,m4,r4⟩;refine⟨(⟨key,v⟩:Attr).cells.toArray,D_,?_⟩;have J:=(V.trans Y).trans m4;refine(b1.T_ J E).vx (n:=5) (us:=(⟨key,v⟩:Attr).cells) rfl rfl (CC.one (w:=Q) rfl) λw5 b5 m5=>?_;exact b5.ld (n:=5) rfl ⟨⟨key,v⟩,q4,I,rfl,(by grind[Ex.T_]),((O.mono G_).trans J).next m5 E,DR.AAU r2 (DR.value Z r4)⟩
theorem lN(h:Ex S W c bv b p bad) :
  l_ 200 [e_ c] (λv w'=>∃(a:Chg) (q:Nat) (Ay:Bool),v=.agg a.cells.toArray/\Ex S w' c bv b q Ay/\AF (λz=>z=c) W w'/\DR Hl N9 b p bad a q Ay) W:=by
 refine I_ func200 ?_;have hl:b.length<=1099511627776:=E;have V:=h.lt;refine Gg.new λg X hg hz O b1=>?_;apply AA (aB hb hl (h.S_ O));rintro _ w2 ⟨key,q2,Es,rfl,hk,h2,Y,r2⟩;apply AA (Hx hb hl (most:=255) h2 C0);rintro _ w3 ⟨k,q3,tX,rfl,j,Z,m3,r3⟩;apply Ri j;refine eqP (λe=>?_) λe=>?_;refine⟨(⟨key,true,As.zero⟩:Chg).cells.toArray,D_,?_⟩;have I:=Y.trans m3;have ek:k=0:=E;subst ek;refine(b1.T_ I E).vx (n:=6) (us:=(⟨key,true,As.zero⟩:Chg).cells) rfl rfl (CO.one (w:=X) rfl) λw5 U Q=>?_;exact U.ld (n:=6) rfl ⟨⟨key,true,As.zero⟩,q3,tX,rfl,(by grind[Ex.T_]),((O.mono G_).trans I).next Q E,DR.change r2 (DR.tail (c:=(true,As.zero)) r3 (DR.Ar Z.len))⟩;apply AA (XU hb hl Z j);rintro _ w4 ⟨v,q4,J,rfl,h4,m4,r4⟩;refine⟨(⟨key,false,v⟩:Chg).cells.toArray,D_,?_⟩;have N:=(Y.trans m3).trans m4;refine(b1.T_ N E).vx (n:=6) (us:=(⟨key,false,v⟩:Chg).cells) rfl rfl (CO.one (w:=X) rfl) λw5 U Q=>?_;exact U.ld (n:=6) rfl ⟨⟨key,false,v⟩,q4,J,rfl,(by grind[Ex.T_]),((O.mono G_).trans N).next Q E,DR.change r2 (DR.tail (c:=(false,v)) r3 (UT.AAI E r4))⟩
theorem YD(h:Ex S W c bv b p bad)(hf:∀W' p' (K:Cont),Ex S W' c bv b p' false->AF (λz=>z=c) W W'->(∀v (a:Attr) q Ay J,v=.agg a.cells.toArray->Ex S J c bv b q Ay->AF (λz=>z=c) W' J->DR Hn OJ b p' false a q Ay->K v J)->Co prog EP sv [] K W') :
  l_ 202 [e_ c,sv] (λv w'=>∃(l:V_) (q:Nat) (Ay:Bool),AB W.heap.size 143 5 CC w' v l/\l.length<=b.length+1/\Ex S w' c bv b q Ay/\AF (λz=>z=c) W w'/\DR (H0 Hn) (HF OJ) b p bad l q Ay) W:=by
 refine H_ func202 ?_ (.y (.y (.x (.node [4,5] [(4,5),(14,29)] (.cut [] [(14,22)] .nil .nil) .nil))));have ak:=h.lt;have X:b.length<=1099511627776:=E;obtain⟨a,n,Y,_⟩:=h.row.AK;apply nfl_i h.c0;have Q:∀{k:b_->Prop},k (zIq b.length)->Dz bv k:=λ{k} hk=>by subst Y;rw[AO];exact hk
 refine Q (OP E ?_);apply AA (Hx hb X (most:=b.length) h E);rintro _ w1 ⟨U,p1,I,rfl,an,h1,m1,rn⟩;refine Aa (λvs j=>∃(l:V_) (q:Nat) (Ay:Bool) (m:Nat) (O:b_),vs=[O,.int .u64 m]/\VV Hn OJ b p1 I U l q Ay/\l.length+m=U/\Ex S j c bv b q Ay/\AB W.heap.size 143 5 CC j O l/\AF (λz=>z=c) W j/\l.length<=b.length+1) (λvs _=>Da vs 1)
  ⟨[],p1,I,U,g_,rfl,VV.nil h1.len,E_,h1,AB.nil,m1,E_⟩ ?_
 rintro vs j ⟨l,q,Ay,m,O,rfl,hL,av,Z,ho,V,a1⟩ _;simp only[Ha];have s1:=V.size;refine AT (λ_ W'=>W'=j/\0<m/\Ay=false) ?_ ?_;rotate_left;have out:(Ay=false->l.length=U)->∃(l:V_) (q:Nat) (Ay:Bool),AB W.heap.size 143 5 CC j O l/\l.length<=b.length+1/\Ex S j c bv b q Ay/\AF (λz=>z=c) W j/\DR (H0 Hn) (HF OJ) b p bad l q Ay:=λe=>
  ⟨l,q,Ay,ho,a1,Z,V,VV.done fK E rn hL e (DN _) E⟩
 refine gtP (λhm=>?_) λhm=>out E;apply nfl_i Z.c2;rw[Aj];refine Jj B_ λe=>out λe'=>?_;grind;rintro _ _ ⟨rfl,hm,rfl⟩ _;rename c_=>j;have ax:l.length<=b.length:=by
  omega
 apply hf j q _ Z V;rintro v a q2 Es W2 hv a6 N hP;subst hv;have s2:=N.size;have nc:∀g,O.ownBlock=some g->W.heap.size<=g/\g<j.heap.size:=(AB.Am ho);have a7:AB W.heap.size 143 5 CC W2 O l:=AB.T_ ho N B_ E';refine Dv (cs:=a.cells) (x:=a) GC a7 E D_ rfl rfl (λ_ _ _=>CC.one) B_ E E λv3 W3 o3 m3 al=>?_;have a8:=a6.T_ m3 λz hz e=>by have:=(nc z e).1;omega
 have aa:=(V.trans N).next m3 B_
 rw[A6,Ds ⟨E,E⟩,show((m:Int)-1)=((m-1:Nat):Int) by omega];exact⟨⟨l++[a],q2,Es,m-1,v3,rfl,hL.JY ae E hP,B_,a8,o3,aa,B_⟩,by grind[BV]⟩
theorem dJ(h:Ex S W c bv b p bad)(hf:∀W' p' (K:Cont),Ex S W' c bv b p' false->AF (λz=>z=c) W W'->(∀v (a:Chg) q Ay J,v=.agg a.cells.toArray->Ex S J c bv b q Ay->AF (λz=>z=c) W' J->DR Hl N9 b p' false a q Ay->K v J)->Co prog EP sv [] K W') :
  l_ 199 [e_ c,sv] (λv w'=>∃(l:W_) (q:Nat) (Ay:Bool),AB W.heap.size 80 6 CO w' v l/\l.length<=b.length+1/\Ex S w' c bv b q Ay/\AF (λz=>z=c) W w'/\DR (H0 Hl) (HF N9) b p bad l q Ay) W:=by
 refine H_ func199 ?_ (.y (.y (.x (.node [4,5] [(4,5),(14,29)] (.cut [] [(14,22)] .nil .nil) .nil))));have ak:=h.lt;have X:b.length<=1099511627776:=E;obtain⟨a,n,Y,_⟩:=h.row.AK;apply nfl_i h.c0;have Q:∀{k:b_->Prop},k (zIq b.length)->Dz bv k:=λ{k} hk=>by subst Y;rw[AO];exact hk
 refine Q (OP E ?_);apply AA (Hx hb X (most:=b.length) h E);rintro _ w1 ⟨U,p1,I,rfl,an,h1,m1,rn⟩;refine Aa (λvs j=>∃(l:W_) (q:Nat) (Ay:Bool) (m:Nat) (O:b_),vs=[O,.int .u64 m]/\VV Hl N9 b p1 I U l q Ay/\l.length+m=U/\Ex S j c bv b q Ay/\AB W.heap.size 80 6 CO j O l/\AF (λz=>z=c) W j/\l.length<=b.length+1) (λvs _=>Da vs 1)
  ⟨[],p1,I,U,g_,rfl,VV.nil h1.len,E_,h1,AB.nil,m1,E_⟩ ?_
 rintro vs j ⟨l,q,Ay,m,O,rfl,hL,av,Z,ho,V,a1⟩ _;simp only[Ha];have s1:=V.size;refine AT (λ_ W'=>W'=j/\0<m/\Ay=false) ?_ ?_;rotate_left;have out:(Ay=false->l.length=U)->∃(l:W_) (q:Nat) (Ay:Bool),AB W.heap.size 80 6 CO j O l/\l.length<=b.length+1/\Ex S j c bv b q Ay/\AF (λz=>z=c) W j/\DR (H0 Hl) (HF N9) b p bad l q Ay:=λe=>
  ⟨l,q,Ay,ho,a1,Z,V,VV.done ey E rn hL e (DN _) E⟩
 refine gtP (λhm=>?_) λhm=>out E;apply nfl_i Z.c2;rw[Aj];refine Jj B_ λe=>out λe'=>?_;grind;rintro _ _ ⟨rfl,hm,rfl⟩ _;rename c_=>j;have ax:l.length<=b.length:=by
  omega
 apply hf j q _ Z V;rintro v a q2 Es W2 hv a6 N hP;subst hv;have s2:=N.size;have nc:∀g,O.ownBlock=some g->W.heap.size<=g/\g<j.heap.size:=(AB.Am ho);have a7:AB W.heap.size 80 6 CO W2 O l:=AB.T_ ho N B_ E';refine Dv (cs:=a.cells) (x:=a) GR a7 E D_ rfl rfl (λ_ _ _=>CO.one) B_ E E λv3 W3 o3 m3 al=>?_;have a8:=a6.T_ m3 λz hz e=>by have:=(nc z e).1;omega
 have aa:=(V.trans N).next m3 B_
 rw[A6,Ds ⟨E,E⟩,show((m:Int)-1)=((m-1:Nat):Int) by omega];exact⟨⟨l++[a],q2,Es,m-1,v3,rfl,hL.JY nJ E hP,B_,a8,o3,aa,B_⟩,by grind[BV]⟩
theorem mT(h:Ex S W c bv b p bad)(hf:∀W' p' (K:Cont),Ex S W' c bv b p' false->AF (λz=>z=c) W W'->(∀v (r:U_) (o:Dop) q Ay J,v=.agg r.toArray/\B0 (λz=>W'.heap.size<=z) J r o->Ex S J c bv b q Ay->AF (λz=>z=c) W' J->DR IK Gp b p' false o q Ay->K v J)->Co prog EP sv [] K W') :
  l_ 111 [e_ c,sv] (λv w'=>∃(l:U') (q:Nat) (Ay:Bool),AB W.heap.size 126 5 (VM (λz=>W.heap.size<=z) v) w' v l/\l.length<=b.length+1/\Ex S w' c bv b q Ay/\AF (λz=>z=c) W w'/\DR (H0 IK) (HF Gp) b p bad l q Ay) W:=by
 refine H_ func111 ?_ (.y (.y (.x (.node [4,5] [(4,5),(14,29)] (.cut [] [(14,22)] .nil .nil) .nil))));have an:=h.lt;have Z:b.length<=1099511627776:=E;obtain⟨a,n,a6,_⟩:=h.row.AK;apply nfl_i h.c0;have O:∀{k:b_->Prop},k (zIq b.length)->Dz bv k:=λ{k} hk=>by subst a6;rw[AO];exact hk
 refine O (OP E ?_);apply AA (Hx hb Z (most:=b.length) h E);rintro _ w1 ⟨V,p1,N,rfl,av,h1,m1,rn⟩;refine Aa (λvs j=>∃(l:U') (q:Nat) (Ay:Bool) (m:Nat) (I:b_),vs=[I,.int .u64 m]/\VV IK Gp b p1 N V l q Ay/\l.length+m=V/\Ex S j c bv b q Ay/\AB W.heap.size 126 5 (VM (λz=>W.heap.size<=z) I) j I l/\AF (λz=>z=c) W j/\l.length<=b.length+1) (λvs _=>Da vs 1)
  ⟨[],p1,N,V,g_,rfl,VV.nil h1.len,E_,h1,AB.nil,m1,E_⟩ ?_
 rintro vs j ⟨l,q,Ay,m,I,rfl,hL,ax,hR,ho,X,a7⟩ _;simp only[Ha];have s1:=X.size;refine AT (λ_ W'=>W'=j/\0<m/\Ay=false) ?_ ?_;rotate_left;have out:(Ay=false->l.length=V)->∃(l:U') (q:Nat) (Ay:Bool),AB W.heap.size 126 5 (VM (λz=>W.heap.size<=z) I) j I l/\l.length<=b.length+1/\Ex S j c bv b q Ay/\AF (λz=>z=c) W j/\DR (H0 IK) (HF Gp) b p bad l q Ay:=λe=>
  ⟨l,q,Ay,ho,a7,hR,X,VV.done bI E rn hL e (DN _) E⟩
 refine gtP (λhm=>?_) λhm=>out E;apply nfl_i hR.c2;rw[Aj];refine Jj B_ λe=>out λe'=>?_;grind;rintro _ _ ⟨rfl,hm,rfl⟩ _;rename c_=>j;have ay:l.length<=b.length:=by
  omega
 apply hf j q _ hR X;rintro v r o q2 Es W2 Y a8 Q hP;obtain⟨rfl,Y⟩:=Y;have sh:=Y;obtain⟨rv,fv,pv,rfl,r1,r2,r3⟩:=sh;obtain⟨a1,c1,rfl,_⟩:=r1.AK;obtain⟨a2,c2,rfl,_⟩:=r2.AK;obtain⟨a3,c3,rfl,_⟩:=r3.AK;have s2:=Q.size;have nc:∀g,I.ownBlock=some g->W.heap.size<=g/\g<j.heap.size:=(AB.Am ho);have aa:AB W.heap.size 126 5 (B0 λz=>z<W2.heap.size/\I.ownBlock≠some z/\W.heap.size<=z) W2 I l:=by grind[AB.T_,B0.T_]
 refine Dv (cs:=[.int .u8 o.AR,zIq o.n,_,_,_]) (x:=o) GU aa E D_ rfl (B0.T_ Y j0 (D':=λz=>z<W2.heap.size/\I.ownBlock≠some z/\W.heap.size<=z) E' B_) (λ_ _ _=>B0.one) (λw1 w2 r y hz m hy=>B0.T_ hy m B_ C_) E E λv3 W3 o3 m3 U=>?_;have ak:=a8.T_ m3 λz hz e=>by have:=(nc z e).1;omega
 have al:=(X.trans Q).next m3 B_
 rw[A6,Ds ⟨E,E⟩,show((m:Int)-1)=((m-1:Nat):Int) by omega];exact⟨⟨l++[o],q2,Es,m-1,v3,rfl,(by grind[VV.JY,tQ]),B_,ak,ZN o3 U,al,B_⟩,by grind[BV]⟩
theorem pS(h:Ex S W c bv b p bad)(hT:CH W)(bp:2<=c) :
  l_ 112 [e_ c] (λv w'=>∃(r:U_) (o:Dop) (q:Nat) (Ay:Bool),(v=.agg r.toArray/\B0 (λz=>W.heap.size<=z) w' r o)/\Ex S w' c bv b q Ay/\AF (λz=>z=c) W w'/\DR IK Gp b p bad o q Ay) W:=by
 refine I_ func112 ?_ (.y (.y (.cut [] [(4,5),(10,49)] (.y (.y (.y (.y (.x (.y (.cut [] [(33,37)] .nil .nil))))))) .nil)));have Q:b.length<=1099511627776:=E;have bk:=h.lt;refine Gg.new λg w1 hg hz g1 b1=>?_;apply AA (Hx hb Q (most:=255) (h.S_ g1) C0);rintro _ w2 ⟨k,q2,Es,rfl,hk,h2,m2,r2⟩;apply Ri hk;refine⟨(GV ⟨k,0,[],[],[]⟩ g_ g_ g_).toArray,D_,?_⟩;have s1:=g1.size;have s2:=m2.size;refine BA (n:=5) (vs:=GV ⟨k,0,[],[],[]⟩ g_ g_ g_) rfl rfl (by simp[GV,Value.oneCell']) λO w3 c4 c6 U bl c7=>?_;have b3:Gg w3 O (GV ⟨k,0,[],[],[]⟩ g_ g_ g_):=⟨(by grind[AH]),(by grind[AH])⟩;have h3:=h2.S_ U;have bx:=(b1.T_ m2 E).T_ U F_;have V:=((g1.mono G_).trans m2).trans (U.mono G_);refine AT (λ_ X=>∃(rv sv pv:b_) (o:Dop) (q:Nat) (Ay:Bool),Gg X O [.int .u8 o.AR,zIq o.n,rv,sv,pv]/\Gg X g [.int .u8 0,zIq 0,g_,g_,g_]/\(LQ (λz=>W.heap.size<=z/\z≠g/\z≠O) X rv o.AZ/\Bo (λz=>W.heap.size<=z/\z≠g/\z≠O) X sv o.set/\DY (λz=>W.heap.size<=z/\z≠g/\z≠O) X pv o.AU)/\Ex S X c bv b q Ay/\AF (λz=>z=c) W X/\aZ 536870912 k b q2 Es o q Ay) ?_ ?_;rintro _ X ⟨rv,sv,pv,o,q,Ay,b4,av,⟨d1,d2,d3⟩,h4,j,r4⟩ _;have hD:B0 (λz=>W.heap.size<=z/\z≠g/\z≠O) X [.int .u8 o.AR,zIq o.n,rv,sv,pv] o:=⟨rv,sv,pv,rfl,d1,d2,d3⟩;apply b4.ld (n:=5) rfl;refine av.vx (n:=5) (us:=[.int .u8 o.AR,zIq o.n,rv,sv,pv]) rfl rfl hD.one λW5 b5 Y=>b5.ld (n:=5) rfl ⟨_,o,q,Ay,⟨rfl,hD.T_ Y (λz _ hz e=>hz.2.1 e) λz _ hz=>hz.1⟩,(by grind[Ex.T_]),(by grind[AF.next]),DR.op r2 r4⟩
 .have c0:w3.cell? ⟨O,0,none⟩=some (.int .u8 k):=b3.cells 0 _ rfl;apply fl_i c0;refine eqP (λe=>?_) λn1=>?_;have ek:k=1:=E;subst ek;apply AA (Zz hb Q h3);rintro _ w4 ⟨n,q4,I,rfl,hn,h4,j,r4⟩;refine(b3.T_ j E).st (by simp[GV]) rfl rfl λw5 b5 Y=>?_;have h5:=h4.T_ Y E;have ax:=(V.trans j).next Y E
  have s5:=(j.size);have c8:=Y.size;refine AA (dJ hb hl h5 λW' p' K a7 _ hK=>RY (bs:=[_]) (cs:=[]) D_ (AA (lN hb hl a7) B_)) ?_;rintro pv w6 ⟨l,q6,ak,o6,ay,h6,Z,r6⟩;have one:=AB.one o6;refine((b5.T_ Z E)).st (by simp[GV]) one.1 one.2 λw7 b7 m7=>?_;refine⟨g_,g_,pv,⟨1,n,[],[],l⟩,q6,ak,b7,(((bx.T_ j E).T_ Y E).T_ Z E).T_ m7 E,⟨Al.nil,Al.nil,?_⟩,(by grind[Ex.T_]),(ax.trans Z).next m7 E,aZ.ZO C0 r4 r6⟩;exact(Al.sub (AB.sl o6) (S':=λz=>W.heap.size<=z/\z≠g/\z≠O) E C0 C_).T_ m7 E C0 C_;refine eqP (λe=>?_) λn2=>?_
  .have ek:k=2:=E;subst ek;apply AA (ig hb Q h3);rintro xv w4 ⟨x,q4,I,rx,hx,c9,h4,j,r4⟩;have b0:=(((hT.S_ g1).uK m2 E).S_ U).uK j E;apply AA (Rn rx hx b0 E);rintro v5 w5 ⟨g5,hm⟩;have s4:=j.size;have s5:=g5.size;have a8:∃(sl:b_) (rl:V') (e:Int),v5=.tuple #[sl,zIq e]/\AB w4.heap.size 21 1 Bk w5 sl rl/\((e=0/\DR Vk YS b q2 Es rl q4 I)\/(e≠0/\DR Vk YS b q2 Es rl q4 true)):=by
    cases hr:Bn x with
    |some rl=>
     rw[hr] at hm;obtain⟨sl,e1,a1⟩:=hm;grind[DR.text]
    |none=>
     rw[hr] at hm;exact⟨_,[],3,hm,AB.nil,(by grind[DR.jA])⟩
   obtain⟨sl,rl,e5,rfl,a1,aa⟩:=a8;apply BD;have h5:=h4.S_ g5;refine AT (λ_ W'=>∃J:Bool,Ex S W' c bv b q4 J/\AF (λz=>z=c) w5 W'/\DR Vk YS b q2 Es rl q4 J) ?_ ?_;rotate_left
   .rw[FQ];rcases aa with⟨rfl,r5⟩|⟨b6,r5⟩
    .exact BM (by grind[AF.refl]) λe=>(e rfl).elim
    .exact BM (λe=>(b6 e).elim) λ_=>h5.SS B_
   rintro _ w6 ⟨J,h6,Z,r6⟩ _;have s6:=Z.size;refine AA (YD hb hl h6 λW' p' K a7 _ hK=>RY (bs:=[_]) (cs:=[]) D_ (AA (fN hb hl a7) B_)) ?_;rintro sv w7 ⟨l,q7,al,o7,ay,h7,m7,r7⟩;have s7:=m7.size;have one1:=AB.one a1;have a6:=AB.one o7;have b7:=(((b3.T_ j E).T_ g5 F_).T_ Z E).T_ m7 E;have ba:=(((bx.T_ j E).T_ g5 F_).T_ Z E).T_ m7 E;have an:=(AB.T_ (R':=Bk) a1 (Z.trans m7) (λz hz e=>by have:=(AB.Am a1 z hz).1;omega) E');have bb:=((V.trans j).trans (g5.mono G_)).trans (Z.trans m7);refine b7.st (by simp[GV]) one1.1 one1.2 λw8 b8 m8=>?_;refine b8.st (by simp[GV]) a6.1 a6.2 λw9 b9 m9=>?_;have N:=m8.trans m9;refine⟨sl,sv,g_,⟨2,0,rl,l,[]⟩,q7,al,b9,ba.T_ N E,⟨?_,?_,Al.nil⟩,h7.T_ N E,bb.next N E,aZ.insert r6 r7⟩;exact(Al.sub (AB.sl an) (S':=λz=>W.heap.size<=z/\z≠g/\z≠O) E C0 C_).T_ N E C0 C_;exact(Al.sub (AB.sl o7) (S':=λz=>W.heap.size<=z/\z≠g/\z≠O) E C0 C_).T_ N E C0 C_
  refine eqP (λe=>?_) λn3=>?_;have ek:k=3:=E;subst ek;apply AA (Zz hb Q h3);rintro _ w4 ⟨n,q4,I,rfl,hn,h4,j,r4⟩;refine(b3.T_ j E).st (by simp[GV]) rfl rfl λw5 b5 Y=>?_;refine⟨g_,g_,g_,⟨3,n,[],[],[]⟩,q4,I,b5,(bx.T_ j E).T_ Y E,⟨Al.nil,Al.nil,Al.nil⟩,(by grind[Ex.T_]),(V.trans j).next Y E,aZ.delete r4⟩;exact h3.SS λw4 h4 j=>⟨g_,g_,g_,⟨k,0,[],[],[]⟩,q2,true,b3.T_ j E,bx.T_ j E,⟨Al.nil,Al.nil,Al.nil⟩,h4,V.trans j,aZ.SS h2.len E⟩
end
theorem cH(v:As):(if v.AR=4 then v.s.size else 0)<=(Ns v).length:=by
 grind[Ns,CS]
theorem Jc.size{v:As}(h:Jc v):v.s.size<=(Ns v).length:=by
 have:=cH v;rcases h with⟨_,_,_,h⟩|⟨_,_,_,h⟩|⟨h,_⟩;rw[h];exact Lc _;rw[h];exact Lc _;grind
theorem Q7{f:α->V'}{m:α->Nat}{R:α->Prop}(h:∀a,R a->m a<=(f a).length):∀l:List α,(∀a∈l,R a)->(l.map m).sum<=(l.flatMap f).length:=by
 intro l;induction l<;>grind
theorem OJ.size{a:Attr}(h:OJ a):Pz a<=(Hn a).length:=by
 grind[O5,Hn,Pz]
theorem N9.size{a:Chg}(h:N9 a):V6 a<=(Hl a).length:=by
 grind[O5,Hl,V6]
theorem dj(l:V'):l.length<=(GO l).length:=LF (λr=>(XP r).1) l
theorem Gp.size{m:Int}{o:Dop}(h:Mn m o):EN o<=(IK o).length:=by
 have h1:=O5 o.AR.toNat;unfold EN;have O:=Q7 (m:=Pz) (λa (h:OJ a)=>h.size) o.set;have Q:(o.set.map Pz).sum=JS o.set:=rfl;have U:(o.AU.map V6).sum=Jd o.AU:=rfl;have hr:=dj o.AZ;unfold IK;rw[Bp];rcases h with⟨h1,I,J,N,j⟩|⟨h1,I,J,N,j,V⟩|⟨h1,I,J,N,j⟩
 .have:=(Q7 (m:=V6) (λa (h:N9 a)=>h.size) o.AU) j.2;grind[H0]
 have:=O j.2;grind[H0,Hs];grind
theorem TS{m:Int}{x:U'}(h:HF (Mn m) x):Av x<=(P5 x).length:=by
 have h1:=Q7 (m:=EN) (λa (h:Mn m a)=>Gp.size h) x h.2;grind[Av,P5,H0]
theorem Jc.Pw{v:As}(h:Jc v):Ev v:=by
 unfold Ev;rcases h with⟨_,h,j,_⟩|⟨_,I,h,_⟩|⟨_,I,j,_⟩<;>grind
theorem Gp.inb{o:Dop}(h:Gp o):Is o:=by
 have j:∀k,Pp k->k<=9223372036854775807:=by grind[Pp]
 have Q:Ev As.zero:=⟨⟨C0,C0⟩,C0,C0⟩;rcases h with⟨h1,N,O,J,I⟩|⟨h1,N,O,J,I,U⟩|⟨h1,N,O,J,I⟩;refine⟨B_,λc hc=>?_⟩;have:=I.2 c hc;refine⟨j _ this.1,?_⟩;rcases this.2 with⟨_,e⟩|⟨_,e⟩<;>grind[Jc.Pw];refine⟨λa ha=>?_,B_⟩;have:=I.2 a ha;exact⟨j _ this.1,this.2.Pw⟩;exact⟨by rw[J];simp,by rw[I];simp⟩
theorem dB{A_ S:d_}{sv bv:b_}{b:V'}(hS:CG A_ w sv ks)(h:CE S w bv b)(hb:∀x∈b,0<=x/\x<256)(hT:CH w)(hl:b.length<=1048576) :
  l_ 61 [sv,bv] (λv' w'=>AG w w'/\∃xv,v'=.tuple #[xv,zIq (Jm ks b).2]/\Ag (λz=>w.heap.size<=z) (λz=>w.heap.size<=z) w' xv (Jm ks b).1) w:=by
 refine H_ func61 ?_ (.y (.y (.y (.cut [] [(4,5),(16,28)] .nil .nil))));obtain⟨a,n,Y,_⟩:=h.AK;refine⟨#[bv,zIq 0,.bool false],by subst Y;kernel_rfl,?_⟩;refine CN (vs:=[bv,zIq 0,.bool false]) λc w1 hc hz g1 a8 Q=>?_;have k1:∀j u,[bv,zIq 0,.bool false][j]?=some u->w1.cell? ⟨c,j,none⟩=some u:=by grind[AH]
 have k2:∀j,j<3->Bg w1 ⟨c,j,none⟩:=λj hj=>by have:=Q j (by simpa using hj);rwa [AH] at this
 have hr:Ex (λz=>z<w.heap.size) w1 c bv b 0 false:=
  ⟨k1 0 _ rfl,k1 1 _ rfl,k1 2 _ rfl,B_,B_,h.mono (λz hz _=>hz) (by grind[AF.Ak]) C0 C_,E,Lc _⟩
 have ax:=hT.S_ g1;have aa:2<=c:=by
  grind[CH.size]
 have Z:b.length<=1099511620000:=E;refine AA (mT hb Z hr λW' p' K ak ay hK=>RY (bs:=[_]) (cs:=[]) D_ (AA (pS hb Z ak (by grind[CH.uK]) aa) B_)) ?_;rintro xv w2 ⟨x,q,a7,o2,b0,h2,m2,r2⟩;have s1:=g1.size;have s2:=m2.size;have N:AG w w2:=by grind[AF.next]
 have a1:Ag (λz=>w.heap.size<=z) (λz=>w.heap.size<=z) w2 xv x:=Al.sub (AB.sl o2) E C0 λr y V=>B0.T_ V j0 E' E;have O:∀{w3:c_},AG w w3->Jm ks b=([],3)->AG w w3/\∃yv,(.tuple #[g_,zIq 3]:b_)=.tuple #[yv,zIq (Jm ks b).2]/\Ag (λz=>w.heap.size<=z) (λz=>w.heap.size<=z) w3 yv (Jm ks b).1:=λg e=>⟨g,_,by rw[e],by grind[Al.nil]⟩;refine AT (λ_ W=>W=w2/\a7=false/\q=b.length) ?_ ?_;rintro _ _ ⟨rfl,rfl,rfl⟩ _;obtain⟨I,hd⟩:=r2.ED rfl;rw[aAG,aAv,aO] at hd;have he:P5 x=b:=hd.symm;have hm:=TS I;rw[he] at hm;apply AA (LY (hS.S_ N) a1 (hT.S_ N) λo ho=>(Gp.inb (I.2 o ho)).o);rintro _ w3 ⟨rfl,g3⟩;refine eqP (λe=>?_) λn3=>?_;rw[e];refine O (N.trans g3) (Oi λy V U=>.inl ?_);grind[Qi];refine AA (qZ (a1.S_ g3) E) ?_;rintro _ w4 ⟨rfl,g4⟩;have b6:=Bi x;have an:=oQ n3 E;rw[Aj];refine Jj (λe=>?_) λe=>?_;refine O ((N.trans g3).trans g4) (Oi λy V U=>.inr ?_);grind[Qi];have a6:qJ x=x:=B_;have J:=jX I n3 a6;rw[he] at J;refine neP (λX=>?_) λX=>?_;rw[Ix X] at J;rw[J];grind[AF.trans,Ag.S_];rw[By X] at J;rw[J];grind[AF.trans,Al.nil]
 .have no:¬(a7=false/\q=b.length)->Jm ks b=([],3):=λhn=>Oi λy V U=>by
   have X:b.drop 0=H0 IK y++[]:=by rw[aAG,aO];exact U.symm
   have al:=r2.TF rfl y [] V X;obtain⟨I,hd⟩:=r2.ED al;rw[X] at hd;have:=(jk y x [] _ V I hd).2;grind[Ex.len]
  apply nfl_i h2.c2;refine Jj B_ λe=>?_;apply nfl_i h2.c1;have av:∀{k:b_->Prop},k (zIq b.length)->Dz bv k:=λ{k} hk=>by subst Y;rw[AO];exact hk
  grind[FQ,BM]
theorem XS{S : Nat -> Prop}{X : b_}{j : X'}{most mx : Int}(hk : Mh S w X j)(hT : CH w0)(Y : AG w0 w) :
    l_ 6 [X, zIq most, zIq mx] (λv' w' => AG w w' /\
      ((1 <= most /\ most < 536870912 /\ 0 <= mx /\ mx <= 65536 /\ FL j /\ ∃ (e : EgA) (sv : b_) (ks : X') (C F : Nat -> Prop), v' = .tuple #[.pointer (some ⟨e.b, 0, none⟩), zIq 0] /\ ks.Perm j /\ ks.Pairwise (λx y => x.id < y.id) /\ (∀ x, F x \/ C x -> w.heap.size <= x) /\ Ku w0 F w' e ⟨sv, ks, C⟩ most [⟨10, []⟩] [] ⟨mx.toNat, [], [], false, []⟩) \/
       (¬ (1 <= most /\ most < 536870912 /\ 0 <= mx /\ mx <= 65536 /\ FL j) /\ ∃ c : Int, c ≠ 0 /\ v' = .tuple #[.pointer none, zIq c]))) w := by
  refine J_ func6 ?_ (.y (.cut [] [(6,7),(12,25)] .nil .nil));refine AT (λ_ W' => W' = w /\ 1 <= most /\ most<536870912 /\ 0 <= mx /\ mx <= 65536) ?_ ?_;rotate_left;refine Cn (by grind[AF.refl]) λh1 => ?_;refine geP (by grind[AF.refl]) λJ => ?_;refine Cn (by grind[AF.refl]) λh3 => ?_;exact gtP (by grind[AF.refl]) B_;rintro _ _ ⟨rfl, q1, q2, q3, q4⟩ _;rename c_ => w;apply AA (Yu hk);rintro _ Z ⟨g1, hr⟩;rcases hr with⟨hM, sv, ks, rfl, hp, hs, hS⟩|⟨hn, rfl⟩;rotate_left;apply BD;exact neP (λe => absurd e C0) B_;apply BD;refine neP (λ_ => ?_) λe => (e rfl).elim
  let σ : SKs := ⟨sv, ks, λx => w.heap.size <= x /\ x<Z.heap.size⟩
  have I : CG σ.S Z σ.sv σ.ks := by grind[CG.sub]
  have z0 := Y.size;have z1 := g1.size;apply AA (iq (w0 := w0) (σ := σ) (most := most) I (λx hx => hx.2) hT (Y.trans g1));rintro _ w2 ⟨N, J⟩;rcases J with⟨_, _, a, Ft, rfl, a6, hX⟩|⟨J, _⟩;rotate_left;omega;apply BD;refine neP (λ_ => ?_) λe => (e rfl).elim;obtain⟨n, rfl⟩ : ∃n : Nat, mx = n := ⟨mx.toNat, E⟩;have z2 := N.size;refine AA (om (mx := n) (ks := ⟨ks, σ.S⟩) (I.S_ N) E E) ?_;rintro _ O ⟨Q, hb, a7, rfl, hH⟩;apply BD;refine neP (λ_ => ?_) λe => (e rfl).elim;have z3 := Q.size;have a1 := (I.S_ N).S_ Q;obtain⟨bs, _, _, _, U, _⟩ := id hS;obtain rfl : sv = .pointer (some ⟨bs, 0, none⟩) := U;refine⟨(yf (.pointer (some ⟨bs, 0, none⟩)) ⟨0, a, hb⟩ most g_).toArray, D_, ?_⟩;refine Bx.box λb w4 a8 g4 B => ?_;have V : HL w0 (λx => w2.heap.size <= x /\ x<O.heap.size) O hb ⟨ks, σ.S⟩ ⟨n, [], [], false, []⟩ := ⟨hH, E, (by grind[AF.trans])⟩;have aa := hX.hl;have hR : K1 w0 Ft (λx => w2.heap.size <= x /\ x<O.heap.size) (λ_ => False) w4 ⟨b, a, hb⟩ g_ σ most [⟨10, []⟩] [] ⟨n, [], [], false, []⟩ :=
    ⟨B, (hX.S_ Q).S_ g4, V.S_ g4, Al.nil, L_, B_, B_, B_, C_⟩
  refine⟨(by grind[AF.trans]), .inl ⟨q1, q2, q3, q4, hM, ⟨b, a, hb⟩, _, ks, σ.S, _, rfl, hp, hs, ?_, by rw[aAA]; exact hR.i⟩⟩;grind
section
variable {w0 w:c_}{F D:d_}{W W':c_}{e:EgA}{σ:SKs}{most:Int}{s:Est}{r:Int×Est}
theorem Yr{x:U'}(h:Ku w0 F W e σ most s.d s.clip s.H)(I:St σ.ks most s.d s.clip s.H)(J:CH w0)(N:Ag S S W xv x)(j:∀y,S y->¬F y)(O:∀o∈x,Is o)(hl:x.length<=4294967296) :
  l_ 22 [e_ e.b,xv] (Fl w0 F W e σ most (Tw σ.ks most s x)) W:=by
 have h0:=h;obtain⟨U,V,X,Y,Q,hF⟩:=h;refine H_ func22 ?_;apply AA (CZ Q.box);rintro _ _ ⟨rfl,rfl⟩;exact AM (MF h0 I J N j O hl)
theorem aP{b:V'}(h:(Jm ks b).2=0):(∀o∈(Jm ks b).1,Is o)/\(Jm ks b).1.length<=b.length:=by
 obtain⟨h1,j,_⟩:=rz (ks:=ks) (b:=b) (x:=(Jm ks b).1) (by rw[<-h]);have I:=TS h1;have N:=Bi (Jm ks b).1;rw[j] at I;exact⟨λo J=>Gp.inb (h1.2 o J),E⟩
noncomputable def bA(ks:X')(most:Int)(s:Est)(b:V'):Int×Est:=if(Jm ks b).2≠0 then((Jm ks b).2,s) else Tw ks most s (Jm ks b).1
theorem de{bv:b_}{b:V'}(h:Ku w0 F W e σ most s.d s.clip s.H)(Q:St σ.ks most s.d s.clip s.H)(N:CH w0)(hb:CE S W bv b)(I:∀x∈b,0<=x/\x<256)(J:b.length<=1048576) :
  l_ 23 [e_ e.b,bv] (Fl w0 F W e σ most (bA σ.ks most s b)) W:=by
 have h0:=h;obtain⟨Ft,Fh,Fc,cv,j,hF⟩:=h;refine H_ func23 ?_;apply AA (CZ j.box);rintro _ _ ⟨rfl,rfl⟩;rename c_=>W;apply AM;apply nfl_i (j.box.cells 0 _ rfl);apply AA (dB j.tx.Ho.1 hb I (N.S_ j.tx.g) J);rintro _ Z ⟨U,xv,rfl,V⟩;apply BD;unfold bA;refine neP (λO=>?_) (by grind[Fl.no]);rw[By λh=>h O];obtain⟨X,i2⟩:=aP O;exact AA (MF (S:=λy=>W.heap.size<=y) (j.S_ U).i Q N V (λy hy Y=>by have:=(j.lt y Y).2;omega) X E) (by grind[Fl.Ma])
theorem fA(h:Ku w0 F W e σ most s.d s.clip s.H):l_ 9 [e_ e.b] (λv' w'=>v'=.bool s.H.op/\AG W w') W:=by
 obtain⟨I,J,N,O,j,hF⟩:=h;refine I_ func9 ?_;apply AA (CZ j.box);rintro _ _ ⟨rfl,rfl⟩;rw[Aj];apply Ab;apply nfl_i (j.box.cells 2 _ rfl);apply AA (pQ j.hi.Yz);rintro _ _ ⟨rfl,rfl⟩;grind[AF.refl]
structure K5 (w:c_) (D:d_) (W:c_) (e:EgA) (σ:SKs) (most:Int) (s:Est):Prop where
 i:∃F,Ku w F W e σ most s.d s.clip s.H/\∀x,F x->(w.heap.size<=x/\¬D x)/\x<W.heap.size
 g:AG w W
 s:St σ.ks most s.d s.clip s.H
 d:∀x,D x->x<W.heap.size
theorem K5.S_(h:K5 w D W e σ most s)(g:AG W W'):K5 w D W' e σ most s:=by
 obtain⟨F,h1,I⟩:=h.i;exact⟨⟨F,h1.S_ g,λx j=>⟨(I x j).1,Mp (I x j).2 g.size⟩⟩,h.g.trans g,h.s,λx j=>Mp (h.d x j) g.size⟩
theorem K5.Gf(h:K5 w D W e σ most s)(g:AG W W'):K5 w (λx=>D x\/(W.heap.size<=x/\x<W'.heap.size)) W' e σ most s:=by
 obtain⟨F,h1,j⟩:=h.i;exact⟨⟨F,h1.S_ g,(by grind[Nat.lt_of_lt_of_le,AF.size])⟩,h.g.trans g,h.s,(by grind[Nat.lt_of_lt_of_le,K5.d,AF.size])⟩
abbrev fQ(w:c_)(D:d_)(W W':c_):Prop:=AF (λx=>w.heap.size<=x/\¬D x) W W'
theorem Fl.Ba(h:Fl w F W e σ most r v W')(hF:∀x,F x->w.heap.size<=x/\¬D x)(J:∀x,D x->x<W.heap.size)(g:AG w W):v=zIq r.1/\K5 w D W' e σ most r.2/\fQ w D W W':=by
 obtain⟨rfl,⟨U,Q,⟨V,X,Y,Z,I,N⟩,m⟩,O⟩:=h;have z:=g.size;refine⟨rfl,⟨⟨_,I.i,λx j=>⟨?_,(I.lt x j).2⟩⟩,(by grind[AF.next]),O,λx j=>Mp (J x j) m.size⟩,(by grind[AF.mono])⟩;grind
theorem K5.run{f:Nat}(h:K5 w D W e σ most s)(hc:∀F,Ku w F W e σ most s.d s.clip s.H->l_ f args (Fl w F W e σ most r) W):l_ f args (λv' w'=>v'=zIq r.1/\K5 w D w' e σ most r.2/\fQ w D W w') W:=by
 obtain⟨F,h1,j⟩:=h.i;exact AA (hc F h1) (by grind[Fl.Ba,K5.d,K5.g])
theorem St.new{ks j:X'}{mx:Int}(I:FL j)(hp:ks.Perm j)(h1:1<=most)(J:most<536870912)(N:mx<=65536):St ks most [⟨10,[]⟩] [] ⟨mx.toNat,[],[],false,[]⟩:=by
 obtain⟨k1,k2,_⟩:=SD.1 I;exact⟨B_,by grind[List.Perm.length_eq],E,⟨kf h1,λc hc=>by rw[uN.1 hc];exact⟨.inl C0,B_⟩⟩,B_,B_,Lc _,B_,_,_,_,rfl,rfl,rfl⟩
theorem aY(h:Ku w F W e σ most s.d s.clip s.H)(hF:∀x,F x->w.heap.size<=x):∃F,Ku w F W e σ most s.d s.clip s.H/\∀x,F x->(w.heap.size<=x/\¬False)/\x<W.heap.size:=by
 obtain⟨I,J,N,O,h,j⟩:=h;exact⟨_,h.i,(by grind[K1.lt])⟩
theorem fB{J:b_}{j:X'}{mx:Int}(hk:Mh S W J j)(N:CH w)(I:AG w W) :
  l_ 6 [J,zIq most,zIq mx] (λv' w'=>(∃(e:EgA) (σ:SKs),v'=.tuple #[e_ e.b,zIq 0]/\0<=mx/\mx<=65536/\σ.ks.Perm j/\K5 w (λ_=>False) w' e σ most ⟨[⟨10,[]⟩],[],⟨mx.toNat,[],[],false,[]⟩⟩)\/(AG W w'/\∃c:Int,c≠0/\v'=.tuple #[.pointer none,zIq c])) W:=by
 apply AA (XS hk N I);rintro v w' ⟨g,⟨V,X,O,Q,Y,e,sv,ks,C,F,rfl,hp,_,hF,U⟩|⟨_,h⟩⟩;have z:=I.size;exact .inl ⟨e,⟨sv,ks,C⟩,rfl,O,Q,hp,⟨aY (s:=⟨[⟨10,[]⟩],[],⟨mx.toNat,[],[],false,[]⟩⟩) U B_,I.trans g,(by grind[St.new]),L_⟩⟩;grind
theorem eS{J:b_}{j:X'}{mx:Int}(hk:Mh S W J j)(N:CH w)(I:AG w W)(h1:1<=most)(Q:most<536870912)(U:0<=mx)(V:mx<=65536)(X:FL j) :
  l_ 6 [J,zIq most,zIq mx] (λv' w'=>∃(e:EgA) (σ:SKs),v'=.tuple #[e_ e.b,zIq 0]/\σ.ks.Perm j/\K5 w (λ_=>False) w' e σ most ⟨[⟨10,[]⟩],[],⟨mx.toNat,[],[],false,[]⟩⟩) W:=by
 apply AA (XS hk N I);rintro v w' ⟨g,⟨_,_,_,_,_,e,sv,ks,C,F,rfl,hp,_,hF,O⟩|⟨Y,_⟩⟩;have z:=I.size;exact⟨e,⟨sv,ks,C⟩,rfl,hp,⟨aY (s:=⟨[⟨10,[]⟩],[],⟨mx.toNat,[],[],false,[]⟩⟩) O B_,I.trans g,(by grind[St.new]),L_⟩⟩;grind
end
section
open Go.ChangeShapes Go.Joins
variable {H:Type}{enc:TypeId×b_->H}{w:c_}{BY:Nat}{spare:Nat->Bool}{held:Bool}
theorem rk{l:List α}(h:l.length=5):∃a b c d e,l=[a,b,c,d,e]:=by
 match l,h with|[a,b,c,d,e],_=>exact⟨a,b,c,d,e,rfl⟩
theorem uI{l:List α}(h:l.length=6):∃a b c d e f,l=[a,b,c,d,e,f]:=by
 match l,h with|[a,b,c,d,e,f],_=>exact⟨a,b,c,d,e,f,rfl⟩
theorem kG(l m:List (DataW H)):Rows.uptoBulkAll (l++m)=Rows.uptoBulkAll l+Rows.uptoBulkAll m:=by
 induction l with
 |nil=>simp[Rows.uptoBulkAll]
 |cons d l j=>simp only[aAN,Rows.uptoBulkAll,j];omega
theorem Al.IT{t e k:Nat}{R:c_->U_->α->Prop}{μ:α->Nat}{fuel:Nat}{x:DataW H×List MemPlace}(ht:prog.underlying t=some (.slice e))(hk:prog.cellsOf e=k)
 (U:∀n I y,DataW.trod enc prog w BY spare held n e I=some y->∃x,R w I x/\μ x<=Rows.uptoBulk y.1)(h:DataW.trod enc prog w BY spare held fuel t cs=some x) :
  ∃v l,cs=[v]/\Al (λ_=>True) k R w v l/\(l.map μ).sum+1<=Rows.uptoBulk x.1:=by
 rcases Go.Deep.open_slice ht h with⟨rfl,rfl⟩|⟨a,len,cap,m,n,D,Pl,rfl,hb,hl,hm,V,rfl,O⟩
 .exact⟨_,[],rfl,Al.nil,by simp[Rows.uptoBulk]⟩
 .have a1:len<=m:=by rw[V];split<;>omega
  have one:∀i,i<len->∃(I:U_) (x:α),I.length=k/\(∀j u,I[j]?=some u->w.cell? (a.add (i*k+j))=some u)/\R w I x/\μ x<=Rows.uptoBulk (D i):=by
   intro i hi;obtain⟨I,h1,Q⟩:=O i (by omega);obtain⟨x,X,Y⟩:=U n I _ Q;obtain⟨_,J,hc⟩:=World.cells?_some h1;rw[hk] at J hc;refine⟨I,x,J,λj u hu=>?_,X,Y⟩;have hj:j<k:=by rw[<-J];exact(Ad.1 hu).1
   have:=hc j hj;rw[Addr.add_add] at this;rw[this];exact hu
  have build:∀q,q<=len->∃l:List α,l.length=q/\(l.map μ).sum<=Rows.uptoBulkAll ((List.range q).map D)/\∀i x,l[i]?=some x->∃I:U_,I.length=k/\(∀j u,I[j]?=some u->w.cell? (a.add (i*k+j))=some u)/\R w I x:=by
   intro q;induction q with
   |zero=>exact λ_=>⟨[],rfl,by simp[Rows.uptoBulkAll],λi x h=>by simp at h⟩
   |succ q ih=>
    intro hq;obtain⟨l,h1,hs,Q⟩:=ih (by omega);obtain⟨I,x,Z,h4,h5,h6⟩:=one q (by omega);refine⟨l++[x],by simp[h1],?_,λi y N=>?_⟩
    .rw[List.range_succ,u7 (f:=D),kG];simp only[u7,List.sum_append,aAR,aCI,aBi,aDg,Rows.uptoBulkAll];omega
    by_cases hi:i<q
    .rw[u6 (by omega)] at N;exact Q i y N
    .have:i=q:=by have:=(Ad.1 N).1;simp[h1] at this;omega
     subst this;rw[nm (by omega)] at N;simp[h1] at N;subst N;exact⟨I,Z,h4,h5⟩
  obtain⟨l,h1,hs,Q⟩:=build len (DN _);subst h1;refine⟨_,l,rfl,⟨a,cap,rfl,hl,hm,λi x X=>?_⟩,?_⟩
  .obtain⟨I,Z,h4,h5⟩:=Q i x X;exact⟨a,I,rfl,trivial,Z,h4,h5⟩
  .simp only[Rows.uptoBulk];omega
theorem Ny{n:Nat}{y:DataW H×List MemPlace}(h:DataW.trod enc prog w BY spare held n 78 cs=some y):∃x:As,cs=x.cells/\x.s.size+1<=Rows.uptoBulk y.1:=by
 have c2:prog.cellsOf 78=4:=by kernel_rfl
 have O:prog.cellsOf 5=1:=by kernel_rfl
 have Q:prog.cellsOf 2=1:=by kernel_rfl
 have U:prog.cellsOf 76=1:=by kernel_rfl
 have V:prog.cellsOf 9=1:=by kernel_rfl
 obtain⟨z0,z1,z2,z3,m',rfl,hl,j,I,J,N⟩:=trod_struct4 underlying78 h;rw[c2] at hl;simp only[O,Q,U,V] at j I J N;match cs,hl with
 |[a0,a1,a2,a3],_=>
  simp only[aAG,aAX,aBS,aAQ] at j I J N;obtain⟨X,Y,e0,_⟩:=zR underlying5 j;obtain⟨k1,Z,e1,_⟩:=zR underlying2 I;obtain⟨k2,f2,e2,_⟩:=zR underlying76 J;obtain⟨k3,f3,e3,_⟩:=DataW.trod_string underlying9 N;cases Y;cases Z;cases f2;cases f3;subst e0;subst e1;subst e2;subst e3;refine⟨⟨X,k1,k2,k3⟩,rfl,?_⟩;simp only[Rows.uptoBulk,Rows.uptoBulkAll,aBW,ByteArray.size_data];omega
theorem Sw{n:Nat}{y:DataW H×List MemPlace}(h:DataW.trod enc prog w BY spare held n 143 cs=some y):∃x:Attr,CC w cs x/\Zb x<=Rows.uptoBulk y.1:=by
 have c0:prog.cellsOf 143=5:=by kernel_rfl
 have c1:prog.cellsOf 3=1:=by kernel_rfl
 have c2:prog.cellsOf 78=4:=by kernel_rfl
 obtain⟨J,N,m,rfl,hl,h0,h1⟩:=trod_struct2 underlying143 h;rw[c0] at hl;simp only[c1,c2] at h0 h1;match cs,hl with
 |[V,O,Q,X,Y],_=>
  simp only[aAG,aAX,aBS,aAQ] at h0 h1;obtain⟨k,I,_,_⟩:=zR underlying3 h0;obtain⟨v,j,U⟩:=Ny h1;cases I;cases j;refine⟨⟨k,v⟩,rfl,?_⟩;simp only[Zb,Rows.uptoBulk,Rows.uptoBulkAll];omega
theorem VF{n:Nat}{y:DataW H×List MemPlace}(h:DataW.trod enc prog w BY spare held n 80 cs=some y):∃x:Chg,CO w cs x/\qS x<=Rows.uptoBulk y.1:=by
 have c0:prog.cellsOf 80=6:=by kernel_rfl
 have c1:prog.cellsOf 3=1:=by kernel_rfl
 have c2:prog.cellsOf 78=4:=by kernel_rfl
 have N:prog.cellsOf 4=1:=by kernel_rfl
 obtain⟨O,m,_,rfl,hl,j,I⟩:=aB4 underlying80 h;match O,j with
 |[Q,U,V],_=>
  have h0:DataW.trod enc prog w BY spare held m 3 ((cs.drop 0).take (prog.cellsOf 3))=some Q:=I 0 _ rfl;have h1:DataW.trod enc prog w BY spare held m 4 ((cs.drop 1).take (prog.cellsOf 4))=some U:=I 1 _ rfl;have J:DataW.trod enc prog w BY spare held m 78 ((cs.drop 2).take (prog.cellsOf 78))=some V:=I 2 _ rfl;rw[c0] at hl;rw[c1] at h0;rw[N] at h1;rw[c2] at J;obtain⟨a0,a1,a2,a3,a4,a5,rfl⟩:=uI hl
  .clear I;simp only[aAG,aAX,aBS,aAQ] at h0 h1 J;obtain⟨k,Z,_,_⟩:=zR underlying3 h0;obtain⟨b,X,_⟩:=aCn underlying4 h1;obtain⟨v,Y,hs⟩:=Ny J;cases Z;cases X;cases Y;refine⟨⟨k,b,v⟩,rfl,?_⟩;simp only[qS,aAR,aCI,Rows.uptoBulk,Rows.uptoBulkAll];omega
theorem Sn{n:Nat}{y:DataW H×List MemPlace}(h:DataW.trod enc prog w BY spare held n 21 cs=some y):∃x:Int,Bk w cs x/\1<=Rows.uptoBulk y.1:=by
 obtain⟨k,rfl,e,_⟩:=zR underlying21 h;subst e;exact⟨k,rfl,by simp[Rows.uptoBulk]⟩
theorem Qj{n:Nat}{y:DataW H×List MemPlace}(h:DataW.trod enc prog w BY spare held n 81 cs=some y):∃v l,cs=[v]/\LQ (λ_=>True) w v l/\l.length+1<=Rows.uptoBulk y.1:=by
 obtain⟨v,l,e,h1,j⟩:=Al.IT (μ:=λ_:Int=>1) underlying81 (by kernel_rfl) (λ_ _ _ h=>Sn h) h;refine⟨v,l,e,h1,?_⟩;have:(l.map λ_=>1).sum=l.length:=by clear h1 j;induction l with|nil=>rfl|cons a l I=>simp only[aAR,aBi,cO,I];omega
 omega
theorem Uf{n:Nat}{y:DataW H×List MemPlace}(h:DataW.trod enc prog w BY spare held n 44 cs=some y):∃x:DKey,Hg w cs x/\1<=Rows.uptoBulk y.1:=by
 have c0:prog.cellsOf 44=6:=by kernel_rfl
 have c1:prog.cellsOf 3=1:=by kernel_rfl
 have c2:prog.cellsOf 5=1:=by kernel_rfl
 have J:prog.cellsOf 4=1:=by kernel_rfl
 obtain⟨V,m,_,rfl,hl,I,j⟩:=aB4 underlying44 h;match V,I with
 |[X,Y,Z,y3,y4,y5],_=>
  have h0:DataW.trod enc prog w BY spare held m 3 ((cs.drop 0).take (prog.cellsOf 3))=some X:=j 0 _ rfl;have h1:DataW.trod enc prog w BY spare held m 4 ((cs.drop 1).take (prog.cellsOf 4))=some Y:=j 1 _ rfl;have N:DataW.trod enc prog w BY spare held m 5 ((cs.drop 2).take (prog.cellsOf 5))=some Z:=j 2 _ rfl;have O:DataW.trod enc prog w BY spare held m 4 ((cs.drop 3).take (prog.cellsOf 4))=some y3:=j 3 _ rfl;have Q:DataW.trod enc prog w BY spare held m 4 ((cs.drop 4).take (prog.cellsOf 4))=some y4:=j 4 _ rfl;have U:DataW.trod enc prog w BY spare held m 3 ((cs.drop 5).take (prog.cellsOf 3))=some y5:=j 5 _ rfl;rw[c0] at hl;rw[c1] at h0;rw[J] at h1;rw[c2] at N;rw[J] at O;rw[J] at Q;rw[c1] at U;obtain⟨a0,a1,a2,a3,a4,a5,rfl⟩:=uI hl
  .clear j;simp only[aAG,aAX,aBS,aAQ] at h0 h1 N O Q U;obtain⟨k0,e0,_,_⟩:=zR underlying3 h0;obtain⟨k1,e1,_⟩:=aCn underlying4 h1;obtain⟨k2,e2,_,_⟩:=zR underlying5 N;obtain⟨k3,e3,_⟩:=aCn underlying4 O;obtain⟨k4,e4,_⟩:=aCn underlying4 Q;obtain⟨k5,e5,_,_⟩:=zR underlying3 U;cases e0;cases e1;cases e2;cases e3;cases e4;cases e5;refine⟨⟨k0,k1,k2,k3,k4,k5⟩,rfl,?_⟩;simp only[Rows.uptoBulk];omega
theorem TG{n:Nat}{y:DataW H×List MemPlace}(h:DataW.trod enc prog w BY spare held n 22 cs=some y):∃v l,cs=[v]/\Mh (λ_=>True) w v l/\l.length+1<=Rows.uptoBulk y.1:=by
 obtain⟨v,l,e,h1,j⟩:=Al.IT (μ:=λ_:DKey=>1) underlying22 (by kernel_rfl) (λ_ _ _ h=>Uf h) h;refine⟨v,l,e,h1,?_⟩;have:(l.map λ_=>1).sum=l.length:=by clear h1 j;induction l with|nil=>rfl|cons a l I=>simp only[aAR,aBi,cO,I];omega
 omega
end
section
open Go.ChangeShapes Go.Joins
variable {H:Type}{enc:TypeId×b_->H}{w:c_}{BY:Nat}{spare:Nat->Bool}{held:Bool}
theorem Uc{n:Nat}{y:DataW H×List MemPlace}(h:DataW.trod enc prog w BY spare held n 22 cs=some y):∃v l,cs=[v]/\Mh (λ_=>True) w v l:=by
 obtain⟨v,l,e,h1,_⟩:=TG h;exact⟨v,l,e,h1⟩
end
section
open Go.ChangeShapes Go.WideShapes Go.ChangeAt Go.RowKit Go.Joins
def ib : List (String × DataW Unit) := [("unicode/utf8.acceptRanges", Rows.laid_unicode_utf8_acceptRanges), ("unicode/utf8.first", Rows.laid_unicode_utf8_first)]
theorem cV:Rows.laid_unicode_utf8_first=Lib.tabData .u8 (Pinned.utf8FirstZ.map Int.ofNat):=by kernel_rfl
theorem jY:(List.range 256).all (λj=>decide (128<=j->(Pinned.utf8FirstZ.map Int.ofNat)[j]?=some (Qz j)))=true:=by decide +kernel
theorem oU:Rows.laid_unicode_utf8_acceptRanges (H:=Unit)=.agg ((List.range 16).map λi=>.agg ([RQ i,Rq i].map λz=>.lit (.int .u8 z))):=by kernel_rfl
theorem Uw(h:laidMetH prog ib W):CH W:=by
 rw[aC1 _ _ _ (by kernel_rfl)] at h;have h4:=Lib.laidMet.reads h (.head _);have h3:=Lib.laidMet.reads h (.tail _ (.head _));have hf:∀j:Nat,128<=j->j<256->W.cell? ⟨0,j,none⟩=some (.int .u8 (Qz j)):=by
  intro j Z a1;obtain⟨g,t,cs,Y,p,Q,O,I,U⟩:=h3
  obtain rfl := aAO ((show Tryz.prog.globalNamed "unicode/utf8.first" = some 0 by kernel_rfl).symm.trans Q)
  obtain rfl:=aAO ((show(prog.globals[0]?).map (·.type)=some 240 by kernel_rfl).symm.trans O);rw[cV] at U;have J:=Lib.cells_of_tab underlying240 underlying5 (by kernel_rfl) (by kernel_rfl) U;have:=aDM Q I j;rw[this,<-aBA,J];have ha:=aAf.1 jY j (aBb.2 a1);rw[ub] at ha;rw[aAM,ha Z];rfl
 have V:∀j:Nat,j<16->W.cell? ⟨1,j*2,none⟩=some (.int .u8 (RQ j))/\W.cell? ⟨1,j*2+1,none⟩=some (.int .u8 (Rq j)):=by
  intro i hi;obtain⟨g,t,cs,Y,p,Q,O,I,U⟩:=h4
  obtain rfl := aAO ((show Tryz.prog.globalNamed "unicode/utf8.acceptRanges" = some 1 by kernel_rfl).symm.trans Q)
  obtain rfl:=aAO ((show(prog.globals[1]?).map (·.type)=some 243 by kernel_rfl).symm.trans O);rw[oU] at U;obtain⟨a6,d,q,X,he⟩:=Lib.array_elem underlying243 U i hi;simp only[aAM,aCt hi,aAa,gn] at X;subst X;have c2:prog.cellsOf 242=2:=by kernel_rfl
  rw [c2] at he;have J:=Lib.ints_of_struct underlying242 (λj f N=>by
   match j,N with
   |0,N=>simp at N;subst N;exact⟨underlying5,rfl,by kernel_rfl⟩
   |1,N=>simp at N;subst N;exact⟨underlying5,rfl,by kernel_rfl⟩
   | j+2,N=>simp at N) (by rw [c2];rfl) he
  have e0:=r9 (·[0]?) J;have e1:=r9 (·[1]?) J;simp at e0 e1;have w0:=aDM Q I (i*2);have w1:=aDM Q I (i*2+1);rw[w0,w1,<-aBA,<-aBA];exact⟨by simpa using e0,by simpa using e1⟩
 have:=lA W _ (V 0 (by decide)).1;exact⟨this,hf,V⟩
noncomputable def TW(os:Os):c_:=
 let w0:=World.holding prog os ⟨#[],#[],[]⟩
 let put (h:Array Obj) (g:Nat) (cs:Array b_):Array Obj:=h.modify g fun
  |.cells _ t X9=>.cells cs t X9
  |o=>o
 let h1:=put w0.heap 0 (Pinned.utf8FirstZ.map λ(z:Nat)=>Value.int .u8 (Int.ofNat z)).toArray
 let j:=put h1 1 ((List.range 16).flatMap λi=>[Value.int .u8 (RQ i),Value.int .u8 (Rq i)]).toArray
 { w0 with heap:=j }
theorem Si(os:Os)(args:Array b_):laidMetH prog ib ((TW os).forCall (λ_ _=>0) ⟨#[],args,[]⟩).memory:=by
 rw[aC1 _ _ _ (by kernel_rfl)];exact(LaidIn.of_run (l:=ib) [1,0] 8 (by kernel_rfl) (by kernel_rfl) (by kernel_rfl) (by kernel_rfl)).met
def InV(v:As):Prop:=(0<=v.AR/\v.AR<256)/\(-9223372036854775808<=v.n/\v.n<=9223372036854775807)/\(0<=v.f/\v.f<18446744073709551616)/\v.s.size<18446744073709551616
variable {H:Type}{enc:TypeId×b_->H}{w:c_}{BY:Nat}{spare:Nat->Bool}{held:Bool}
theorem Jk{k:IntKind}{n:Int}(h:(Lit.int k n).wf=true):k.min<=n/\n<=k.max:=by
 simpa[Lit.wf] using h
theorem Nj{n:Nat}{y:DataW H×List MemPlace}(h:DataW.trod enc prog w BY spare held n 78 cs=some y):∃x:As,cs=x.cells/\InV x:=by
 have c2:prog.cellsOf 78=4:=by kernel_rfl
 have c3:prog.cellsOf 5=1:=by kernel_rfl
 have c4:prog.cellsOf 2=1:=by kernel_rfl
 have c5:prog.cellsOf 76=1:=by kernel_rfl
 have c6:prog.cellsOf 9=1:=by kernel_rfl
 obtain⟨z0,z1,z2,z3,m',_,hl,j,I,J,N⟩:=trod_struct4 underlying78 h;rw[c2] at hl;simp only[c3,c4,c5,c6] at j I J N;match cs,hl with
 |[a1,a2,a3,a4],_=>
  simp only[aAG,aAX,aBS,aAQ] at j I J N;obtain⟨Q,f0,_,w0⟩:=zR underlying5 j;obtain⟨k1,f1,_,w1⟩:=zR underlying2 I;obtain⟨k2,f2,_,w2⟩:=zR underlying76 J;obtain⟨O,f3,_,U⟩:=DataW.trod_string underlying9 N;cases f0;cases f1;cases f2;cases f3;refine⟨⟨Q,k1,k2,O⟩,rfl,?_⟩;have V:=Jk w0;have r1:=Jk w1;have r2:=Jk w2;have X:IntKind.u8.min=0/\IntKind.u8.max=255:=by decide
  have Y:IntKind.i64.min=-9223372036854775808/\IntKind.i64.max=9223372036854775807:=by decide
  have Z:IntKind.u64.min=0/\IntKind.u64.max=18446744073709551615:=by decide
  rw[X.1,X.2] at V;rw[Y.1,Y.2] at r1;rw[Z.1,Z.2] at r2;have r3:O.size<=9223372036854775807:=by
   simp only[Lit.wf,maxLen] at U;simpa using U
  exact⟨⟨V.1,show Q<256 by omega⟩,r1,⟨r2.1,show k2<18446744073709551616 by omega⟩,show O.size<18446744073709551616 by omega⟩
end
theorem Al.Tc{k:Nat}{R:c_->U_->α->Prop}{P:α->Prop}{l:List α}(h:Al S k (λw r x=>R w r x/\P x) w v l):Al S k R w v l/\∀x∈l,P x:=by
 obtain⟨a,c,e,h1,N,J⟩:=h;refine⟨⟨a,c,e,h1,N,λi x j=>?_⟩,λx j=>?_⟩
 .obtain⟨p,r,O,Q,U,V,I⟩:=J i x j;exact⟨p,r,O,Q,U,V,I.1⟩
 .obtain⟨i,hi⟩:=aAB.1 j;obtain⟨_,_,_,_,_,_,I⟩:=J i x hi;exact I.2
section
open Go.ChangeShapes Go.WideShapes Go.ChangeAt Go.RowKit Go.Joins
variable {H:Type}{enc:TypeId×b_->H}{w:c_}{BY:Nat}{spare:Nat->Bool}{held:Bool}
theorem Ss{n:Nat}{y:DataW H×List MemPlace}(h:DataW.trod enc prog w BY spare held n 143 cs=some y):∃x:Attr,cs=x.cells/\SZ x:=by
 have c0:prog.cellsOf 143=5:=by kernel_rfl
 have c1:prog.cellsOf 3=1:=by kernel_rfl
 have c2:prog.cellsOf 78=4:=by kernel_rfl
 obtain⟨Q,U,m,_,hl,h0,h1⟩:=trod_struct2 underlying143 h;rw[c0] at hl;simp only[c1,c2] at h0 h1;match cs,hl with
 |[Y,V,X,Z,a4],_=>
  simp only[aAG,aAX,aBS,aAQ] at h0 h1;obtain⟨k,N,_,O⟩:=zR underlying3 h0;obtain⟨x,ex,J⟩:=Nj h1;cases N;have j:=Jk O;have I:IntKind.i64.min=-9223372036854775808/\IntKind.i64.max=9223372036854775807:=by decide
  rw[I.1,I.2] at j;refine⟨⟨k,x⟩,?_,j,J⟩;show _=zIq k::x.cells;rw[<-ex]
end
section
open Go.ChangeShapes Go.WideShapes Go.ChangeAt Go.RowKit Go.Joins
variable {H:Type}{enc:TypeId×b_->H}{w:c_}{BY:Nat}{spare:Nat->Bool}{held:Bool}
theorem bY{x y:Attr}(h:x.cells=y.cells):x=y:=by
 obtain⟨k,v,n,f,s⟩:=x;obtain⟨j,N,I,J,O⟩:=y;grind[Attr.cells,As.cells]
theorem rJ{x y:As}(h:x.cells=y.cells):x=y:=by
 obtain⟨v,n,f,s⟩:=x;obtain⟨J,j,I,N⟩:=y;grind[As.cells]
end
section
open Go.ChangeShapes Go.WideShapes Go.ChangeAt Go.RowKit Go.Joins
variable {H:Type}{enc:TypeId×b_->H}{w:c_}{BY:Nat}{spare:Nat->Bool}{held:Bool}
theorem Su{n:Nat}{y:DataW H×List MemPlace}(h:DataW.trod enc prog w BY spare held n 143 cs=some y):∃x:Attr,(CC w cs x/\(x.key<=9223372036854775807/\Ev x.val))/\Pz x<=Rows.uptoBulk y.1:=by
 obtain⟨x,e,j⟩:=Ss h;obtain⟨J,N,hm⟩:=Sw h;have I:cs=J.cells:=N;have:x=J:=bY (e.symm.trans I);subst this;exact⟨x,⟨e,j.1.2,⟨j.2.2.1,j.2.2.2.1⟩⟩,py (show 1<=Zb _ by unfold Zb;omega) hm⟩
theorem Ul{n:Nat}{y:DataW H×List MemPlace}(h:DataW.trod enc prog w BY spare held n 80 cs=some y):∃x:Chg,(CO w cs x/\(x.key<=9223372036854775807/\Ev x.val))/\V6 x<=Rows.uptoBulk y.1:=by
 have c2:prog.cellsOf 78=4:=D_;obtain⟨x,e,hm⟩:=VF h;obtain⟨O,m,_,_,hl,j,I⟩:=aB4 underlying80 h;match O,j with
 |[Q,y1,U],_=>
  have J:DataW.trod enc prog w BY spare held m 78 ((cs.drop 2).take (prog.cellsOf 78))=some U:=I 2 _ rfl;rw[c2] at J;obtain⟨v,ev,N⟩:=Nj J;have Z:cs=x.cells:=e;subst Z;have:v=x.val:=rJ (ev.symm.trans (by rfl));subst this;have c1:prog.cellsOf 3=1:=D_;have h0:DataW.trod enc prog w BY spare held m 3 ((x.cells.drop 0).take (prog.cellsOf 3))=some Q:=I 0 _ rfl;rw[c1] at h0;obtain⟨k,V,_,X⟩:=zR underlying3 h0;have hk:x.key=k:=by
   have:[zIq x.key]=[zIq k]:=V;simpa using this
  have hr:=(Jk X).2;have Y:IntKind.i64.max=9223372036854775807:=C0;rw[Y] at hr;exact⟨x,⟨rfl,E,⟨N.2.1,N.2.2.1⟩⟩,py (show 1<=qS _ by unfold qS;omega) hm⟩
theorem VL{n:Nat}{y:DataW H×List MemPlace}(h:DataW.trod enc prog w BY spare held n 47 cs=some y):∃v l,cs=[v]/\(Bo (λ_=>True) w v l/\∀a∈l,a.key<=9223372036854775807/\Ev a.val)/\JS l+1<=Rows.uptoBulk y.1:=by
 obtain⟨v,l,e,hl,hm⟩:=Al.IT (k:=5) (μ:=Pz) (R:=λ(w:c_) r (x:Attr)=>CC w r x/\(x.key<=9223372036854775807/\Ev x.val)) underlying47 D_ (λ_ _ _ h=>Su h) h;exact⟨v,l,e,hl.Tc,hm⟩
theorem N0{n:Nat}{y:DataW H×List MemPlace}(h:DataW.trod enc prog w BY spare held n 33 cs=some y):∃v l,cs=[v]/\(DY (λ_=>True) w v l/\∀a∈l,a.key<=9223372036854775807/\Ev a.val)/\Jd l+1<=Rows.uptoBulk y.1:=by
 obtain⟨v,l,e,hl,hm⟩:=Al.IT (k:=6) (μ:=V6) (R:=λ(w:c_) r (x:Chg)=>CO w r x/\(x.key<=9223372036854775807/\Ev x.val)) underlying33 D_ (λ_ _ _ h=>Ul h) h;exact⟨v,l,e,hl.Tc,hm⟩
theorem Uo{n:Nat}{y:DataW H×List MemPlace}(h:DataW.trod enc prog w BY spare held n 126 cs=some y):∃x:Dop,(B0 (λ_=>True) w cs x/\Is x)/\EN x<=Rows.uptoBulk y.1:=by
 have c0:prog.cellsOf 126=5:=D_;have c1:prog.cellsOf 3=1:=D_;have c2:prog.cellsOf 5=1:=D_;have U:prog.cellsOf 81=1:=D_;have V:prog.cellsOf 47=1:=D_;have X:prog.cellsOf 33=1:=D_;obtain⟨Y,m,_,rfl,hl,j,I⟩:=aB4 underlying126 h;match Y,j with
 |[Z,y1,y2,y3,y4],_=>
  have h0:DataW.trod enc prog w BY spare held m 5 ((cs.drop 0).take (prog.cellsOf 5))=some Z:=I 0 _ rfl;have h1:DataW.trod enc prog w BY spare held m 3 ((cs.drop 1).take (prog.cellsOf 3))=some y1:=I 1 _ rfl;have J:DataW.trod enc prog w BY spare held m 81 ((cs.drop 2).take (prog.cellsOf 81))=some y2:=I 2 _ rfl;have N:DataW.trod enc prog w BY spare held m 47 ((cs.drop 3).take (prog.cellsOf 47))=some y3:=I 3 _ rfl;have O:DataW.trod enc prog w BY spare held m 33 ((cs.drop 4).take (prog.cellsOf 33))=some y4:=I 4 _ rfl;rw[c0] at hl;rw[c2] at h0;rw[c1] at h1;rw[U] at J;rw[V] at N;rw[X] at O;obtain⟨a0,a1,a2,a3,a4,rfl⟩:=rk hl;simp only[aAG,aAX,aBS,aAQ] at h0 h1 J N O;obtain⟨k,e0,_,_⟩:=zR underlying5 h0;obtain⟨n,e1,_,_⟩:=zR underlying3 h1;obtain⟨rv,rl,e2,hr,b2⟩:=Qj J;obtain⟨sv,sl,e3,⟨hs,i3⟩,b3⟩:=VL N;obtain⟨pv,Q,e4,⟨hp,i4⟩,b4⟩:=N0 O;cases e0;cases e1;cases e2;cases e3;cases e4;refine⟨⟨k,n,rl,sl,Q⟩,⟨⟨a2,a3,a4,rfl,hr,hs,hp⟩,i3,i4⟩,?_⟩;simp only[EN,aAR,aCI,Rows.uptoBulk,Rows.uptoBulkAll];omega
theorem Sv{n:Nat}{y:DataW H×List MemPlace}(h:DataW.trod enc prog w BY spare held n 31 cs=some y):∃v l,cs=[v]/\(Ag (λ_=>True) (λ_=>True) w v l/\∀o∈l,Is o)/\Av l+1<=Rows.uptoBulk y.1:=by
 obtain⟨v,l,e,hl,hm⟩:=Al.IT (k:=5) (μ:=EN) (R:=λ(w:c_) r (x:Dop)=>B0 (λ_=>True) w r x/\Is x) underlying31 D_ (λ_ _ _ h=>Uo h) h;exact⟨v,l,e,hl.Tc,hm⟩
end
def Cy:DKey:=⟨1,false,1,false,false,0⟩
def IX:U':=[⟨2,0,[97,98],[],[]⟩]
def Mq:Y_:=[⟨97,[]⟩,⟨98,[]⟩,⟨10,[]⟩]
theorem iP:E9 Cy:=by unfold E9;decide
theorem gr:∀o∈IX,An [Cy] o:=by
 intro o j;simp only[IX,uN] at j;subst j;refine .inr (.inr ⟨rfl,λr hr=>.inl ?_,rfl,rfl,E_,Im⟩);grind
theorem tF:BB IX=2:=rfl
theorem uy:Ii [Cy] IX 1 100:=by
 have hm:Bl [Cy] IX=0:=kJ gr (by rw[tF];omega);refine⟨hm,λo j=>⟨gr o j,?_⟩,E,C0,?_,λo j=>?_,C0⟩;have h1:=MJ j;grind[tF];simp[Cj,IX];simp only[IX,uN] at j;subst j;intro _ h;grind
theorem xM:Ef [Cy] IX ((1:Nat):Int) 100=0:=(Ca C0).2 uy
def Ko:Grp:=⟨IX,[⟨3,2,[],[],[]⟩]⟩
def Hr(d:Y_)(us rs:Z_)(op:Bool):Est:=⟨d,[],⟨10,us,rs,op,[]⟩⟩
theorem xV:BJ (QE [Cy] [⟨10,[]⟩] 0 [97,98])=IX:=by decide +kernel
theorem uO:BJ (EY [Cy] [⟨10,[]⟩] IX)=[⟨3,2,[],[],[]⟩]:=by decide +kernel
theorem AAb:eT [Cy] 100 (Hr [⟨10,[]⟩] [] [] false) 0 [97,98]=(0,Hr Mq [Ko] [] false):=by
 unfold eT;rw[show Bn [97,98]=some [97,98] by decide];show(if Uk (1:Int) 0 2 100≠0 then _ else Tw [Cy] 100 (Hr [⟨10,[]⟩] [] [] false) (BJ (QE [Cy] [⟨10,[]⟩] 0 [97,98])))=_;rw[By C0,xV];unfold Tw;rw[Ix (show Ef [Cy] IX ((Hr [⟨10,[]⟩] [] [] false).d.length:Int) 100=0 from xM)];show(0,(⟨Bz [Cy] [⟨10,[]⟩] IX,[],Hist.put [Cy] ⟨10,[],[],false,[]⟩ ⟨IX,BJ (EY [Cy] [⟨10,[]⟩] IX)⟩⟩:Est))=_;rw[uO];rfl
theorem UO{t:TypeId}{f:Nat×Nat}{j:Nat}(h:vs[j]?=some v):(w.alloc (.cells vs.toArray t f)).cell? ((⟨w.heap.size,0,none⟩:Addr).add j)=some v:=by
 have I:(⟨w.heap.size,0,none⟩:Addr).add j=⟨w.heap.size,j,none⟩:=by unfold Addr.add;grind
 have e:(w.alloc (.cells vs.toArray t f)).heap[w.heap.size]?=some (.cells vs.toArray t f):=by
  show(w.heap.push _)[w.heap.size]?=_;simp
 rw[I];unfold World.cell?;grind
theorem eM{t:TypeId}{f:Nat×Nat}{a b:Int}:CE (λy=>y=w.heap.size) (w.alloc (.cells #[.int .u8 a,.int .u8 b] t f)) (.slice (f_ w.heap.size) 2 2) [a,b]:=by
 refine⟨_,_,rfl,DN _,by simp[maxLen],λi x I=>?_⟩;rcases i with _|_|i;cases I;refine⟨_,[.int .u8 a],rfl,rfl,rfl,λj u hu=>?_,rfl⟩;grind[UO];cases I;refine⟨_,[.int .u8 b],rfl,rfl,rfl,λj u hu=>?_,rfl⟩;grind[UO];grind
theorem YV(U:CH w):l_ 5 [] (λv w'=>v=.bool true/\AG w w') w:=by
 refine O_ func5 ?_ (.y (.y (.cut [] [(0,0),(10,38)] .nil .nil)));refine⟨Cy.cells.toArray,D_,?_⟩;refine ET (cs:=Cy.cells) D_ ?_;have J:=pN (w:=w) [Cy] E_;have e0:(([Cy].map DKey.cells).flatten:U_)=Cy.cells:=E_;rw[e0] at J;have g1:AG w (w.alloc (.cells Cy.cells.toArray 44)):=AF.alloc _ _ _;have hM:FL [Cy]:=by grind[SD,iP,R2]
 refine AA (eS (most:=100) (mx:=10) (w:=w) J U g1 C0 C0 C0 C0 hM) ?_;rintro _ I ⟨e,⟨sv,ks,C⟩,rfl,hp,V⟩;obtain rfl:ks=[Cy]:=List.perm_singleton.1 hp;have V:K5 w (λ_=>False) I e ⟨sv,[Cy],C⟩ 100 (Hr [⟨10,[]⟩] [] [] false):=V;apply BD;have len:∀{W:c_} {d:Y_} {us rs:Z_} {op:Bool},K5 w (λ_=>False) W e ⟨sv,[Cy],C⟩ 100 (Hr d us rs op)->l_ 18 [e_ e.b] (λQ w'=>Q=zIq (d.length:Int)/\K5 w (λ_=>False) w' e ⟨sv,[Cy],C⟩ 100 (Hr d us rs op)) W:=λh=>by
  obtain⟨F,h1,_⟩:=h.i;exact AA (kO h1) λ_ _ ⟨a,b⟩=>⟨a,h.S_ b⟩
 have Wv:∀{W:c_} {d:Y_} {us rs:Z_} {op:Bool},K5 w (λ_=>False) W e ⟨sv,[Cy],C⟩ 100 (Hr d us rs op)->l_ 14 [e_ e.b] (λQ w'=>Q=zIq (LB [Cy] (Hr d us rs op)).1/\K5 w (λ_=>False) w' e ⟨sv,[Cy],C⟩ 100 (LB [Cy] (Hr d us rs op)).2) W:=λh=>AA (h.run λF h1=>On h1 h.s U) B_;have Yk:∀{W:c_} {d:Y_} {us rs:Z_} {op:Bool},K5 w (λ_=>False) W e ⟨sv,[Cy],C⟩ 100 (Hr d us rs op)->l_ 15 [e_ e.b] (λQ w'=>Q=zIq (Lf [Cy] (Hr d us rs op)).1/\K5 w (λ_=>False) w' e ⟨sv,[Cy],C⟩ 100 (Lf [Cy] (Hr d us rs op)).2) W:=λh=>AA (h.run λF h1=>Oc h1 h.s U) B_;refine AT (λ_ W=>K5 w (λ_=>False) W e ⟨sv,[Cy],C⟩ 100 (Hr Mq [Ko] [] false)) ?_ ?_;rotate_left;refine neP (λ_=>?_) λe=>(e rfl).elim;refine ET (cs:=[.int .u8 97,.int .u8 98]) D_ ?_;apply AY (Lib.run_convert_bytes_const I 32 5 #[.int .u8 97,.int .u8 98] 2 2 underlying32 underlying5);have gb:AG I (I.alloc (.cells #[.int .u8 97,.int .u8 98] 5 (2,2+1))):=AF.alloc _ _ _;have hB:=eM (w:=I) (t:=5) (f:=(2,2+1)) (a:=97) (b:=98);show AD _ _ [_,_,.slice (f_ I.heap.size) 2 2] _ (I.alloc (.cells #[.int .u8 97,.int .u8 98] 5 (2,2+1)));generalize I.alloc (.cells #[.int .u8 97,.int .u8 98] 5 (2,2+1))=w3 at hB gb ⊢;have h3:=V.S_ gb;refine AA (h3.run λF h1=>Tk (p:=0) (b:=[97,98]) h1 h3.s U hB B_ C0) ?_;rw[AAb];rintro _ w4 ⟨rfl,h4,_⟩;refine neP (λ_=>?_) λe=>(e rfl).elim;apply AA (len h4);rintro _ w5 ⟨rfl,h5⟩;refine neP (λ_=>?_) λe=>(e rfl).elim;apply AA (Wv h5);rw[show LB [Cy] (Hr Mq [Ko] [] false)=(0,Hr [⟨10,[]⟩] [] [Ko] false) from rfl];rintro _ w6 ⟨rfl,h6⟩;refine neP (λ_=>?_) λe=>(e rfl).elim;apply AA (len h6);rintro _ w7 ⟨rfl,h7⟩;refine neP (λ_=>?_) λe=>(e rfl).elim;apply AA (Yk h7);rw[show Lf [Cy] (Hr [⟨10,[]⟩] [] [Ko] false)=(0,Hr Mq [Ko] [] false) from rfl];rintro _ w8 ⟨rfl,h8⟩;exact neP (λ_=>h8) λe=>(e rfl).elim;rintro _ W X _;obtain⟨F,Y,_⟩:=X.i;refine AA (Mu Y X.s.NT.m.g.set C0) ?_;rintro cv w9 ⟨hc,g9⟩;have N:=hc.rd (DN _);obtain⟨ca,cc,rfl,_⟩:=N.AK;rw[AO];refine eqP (λ_=>?_) λe=>(e rfl).elim;obtain⟨p,r,rfl,_,hr,Z,a7,rfl,_⟩:=N.get (i:=1) C0;refine AV (j:=1) C0 ?_;rw[AE,Addr.add_add];apply AI (by have:=Z 0 _ rfl;exact this);refine eqP (λ_=>?_) λe=>(e rfl).elim;apply AA (Yk (X.S_ g9));rw[show Lf [Cy] (Hr Mq [Ko] [] false)=(10,Hr Mq [Ko] [] false) from rfl];rintro _ a8 ⟨rfl,O⟩;refine eqP (λ_=>?_) λe=>(e rfl).elim;apply AA (O.run λF h1=>NM h1 O.s);rw[show NG (Hr Mq [Ko] [] false)=(0,Hr Mq [Ko] [] true) from rfl];rintro _ aa ⟨rfl,a1,_⟩;refine eqP (λ_=>?_) λe=>(e rfl).elim;apply AA (Wv a1);rw[show LB [Cy] (Hr Mq [Ko] [] true)=(9,Hr Mq [Ko] [] true) from rfl];rintro _ ak ⟨rfl,a6⟩;rw[CI];exact⟨rfl,a6.g⟩
section
variable {W W':c_}{g:b_}
abbrev tL(k i j key n:Int)(xv bv I:b_):U_:=[zIq k,zIq i,zIq j,zIq key,zIq n,xv,bv,I]
end
theorem dG{S D:d_}{x:U'}(h:Ag S D w v x) :
  l_ 44 [v] (λv' w'=>(∃z,v'=zIq z)/\AG w w') w:=by
 refine I_ func44 ?_ (.y (.y (.x (.y (.node [3,4] [(3,81)] (.y (.x (.z .Ec (.z (.y (.node [3,5] [(3,3),(5,5),(36,58)] .nil .nil)) (.y (.node [3,6] [(3,3),(6,6),(59,81)] .nil .nil)))))) .nil)))));obtain⟨a,c,rfl,hm⟩:=h.AK;simp only[maxLen] at hm;refine Aa (λvs U=>∃(k:Nat) (z:Int),k<=x.length/\vs=[zIq z,zIq k]/\AG w U) (λvs _=>x.length-Da vs 1) ⟨0,0,Lc _,rfl,AF.refl _ _⟩ ?_;rintro vs U ⟨k,z,hk,rfl,Y⟩ _;simp only[Ha];rw[AO,DX];refine Ae (λa8=>?_) λaa=>⟨⟨_,rfl⟩,Y⟩;have I:k<x.length:=by omega
 obtain⟨p,r,rfl,_,hr,hc,rv,sv,pv,rfl,h1,h2,h3⟩:=(Ag.S_ h Y).get I;obtain⟨a1,c1,rfl,m1⟩:=h1.AK;obtain⟨a2,c2,rfl,m2⟩:=h2.AK;obtain⟨a3,c3,rfl,m3⟩:=h3.AK;simp only[maxLen] at m1 m2 m3;have cl:∀{W},AG U W->∀j u,[Value.int .u8 x[k].AR,zIq x[k].n,.slice a1 x[k].AZ.length c1,.slice a2 x[k].set.length c2,.slice a3 x[k].AU.length c3][j]?=some u->W.cell? ((p.add (k*5)).add j)=some u:=λN j u hu=>by rw[Addr.add_add];exact N.cell (hc j u hu) λh=>h
 refine DL (λw2=>AG U w2) (AF.drew _ _) ?_;rw[AQ];refine AV I ?_;rw[AE];refine BC (λW N=>cl N 2 _ rfl) ?_;rw[AO,AQ];refine AV I ?_;rw[AE];refine BC (λW N=>cl N 3 _ rfl) ?_;rw[AO,AQ];refine AV I ?_;rw[AE];refine BC (λW N=>cl N 4 _ rfl) ?_;rw[AO,AQ];intro w2 g2;refine Aa (λvs w3=>∃(i:Nat) (z:Int),i<=x[k].set.length/\vs=[zIq z,zIq i]/\AG U w3) (λvs _=>x[k].set.length-Da vs 1) ⟨0,_,Lc _,rfl,g2⟩ ?_;rintro vs w3 ⟨i,z3,hi,rfl,V⟩ _;simp only[Ha];refine AV I ?_;rw[AE];refine AI (cl V 3 _ rfl) ?_;rw[AO,DX];refine Ae (λZ=>?_) λa6=>?_
 .have J:i<x[k].set.length:=by omega
  refine AV I ?_;rw[AE];refine AI (cl V 3 _ rfl) ?_;obtain⟨q,r',rfl,_,a7,O,Q⟩:=(h2.S_ V (by decide) λ_ _ h=>h).get J;subst Q;refine AV J ?_;rw[AE,AE,Addr.add_add,Addr.add_add];refine AI (O 4 _ rfl) ?_;rw[QN,AQ,AQ,AL (by omega)];exact⟨⟨i+1,_,J,rfl,V⟩,by rw[BV,BV];omega⟩
 .refine Aa (λvs w4=>∃(i:Nat) (z:Int),i<=x[k].AU.length/\vs=[zIq z,zIq i]/\AG U w4) (λvs _=>x[k].AU.length-Da vs 1) ⟨0,_,Lc _,rfl,V⟩ ?_;rintro vs w4 ⟨i,z4,hi,rfl,X⟩ _;simp only[Ha];refine AV I ?_;rw[AE];refine AI (cl X 4 _ rfl) ?_;rw[AO,DX];refine Ae (λZ=>?_) λa6=>?_
  .have J:i<x[k].AU.length:=by omega
   refine AV I ?_;rw[AE];refine AI (cl X 4 _ rfl) ?_;obtain⟨q,r',rfl,_,a7,O,Q⟩:=(h3.S_ X (by decide) λ_ _ h=>h).get J;subst Q;refine AV J ?_;rw[AE,AE,Addr.add_add,Addr.add_add];refine AI (O 5 _ rfl) ?_;rw[QN,AQ,AQ,AL (by omega)];exact⟨⟨i+1,_,J,rfl,X⟩,by rw[BV,BV];omega⟩
  .rw[AQ,AL (by omega)];exact⟨⟨k+1,_,I,rfl,Y.trans X⟩,by rw[BV,BV];omega⟩
theorem dO{S D Sb X:d_}{k i j key n:Int}{xv bv N:b_}{x:U'}{b:V'}{p:W_}(hx:Ag S D w xv x)(hb:CE Sb w bv b)(hp:DY X w N p) :
  l_ 16 [.agg (tL k i j key n xv bv N).toArray] (λv' w'=>(∃z,v'=zIq z)/\AG w w') w:=by
 refine I_ func16 ?_ (.y (.z (.dm [2] [0,1,3,0,8,24,63,0,128,384,1023,2047]) (.x (.y (.node [3,4] [(3,4),(16,32)] .nil .nil)))));refine Bx.box λb1 Y a1 Z B=>?_;have O:AG Y Y.drew:=AF.drew _ _;have J:=B.S_ O;refine Ac (λ_ _=>False) ?_;rw[AE,AH];refine AP ⟨J.cells 5 _ rfl,λj hj e=>e⟩ ?_;refine AA (dG (Ag.S_ hx (Z.trans O))) ?_;rintro _ W2 ⟨⟨z,rfl⟩,Q⟩;refine⟨Q.mono λ_ _ h=>h.elim,?_⟩;have B2:=J.S_ Q;have G2:=(Z.trans O).trans Q;rw[AE,AH];refine AP ⟨J.cells 6 _ rfl,λj hj e=>e⟩ ?_;obtain⟨ba,bc,rfl,_⟩:=hb.AK;rw[AO,AQ,AE,AH];refine AP ⟨J.cells 7 _ rfl,λj hj e=>e⟩ ?_;have U:DY X W2 N p:=hp.S_ G2 (by decide) λ_ _ h=>h;obtain⟨pa,pc,rfl,V⟩:=hp.AK;simp only[maxLen] at V;rw[AO,AQ];refine Aa (λvs W=>W=W2/\∃(m:Nat) (q:Int),m<=p.length/\vs=[zIq q,zIq m]) (λvs _=>p.length-Da vs 1) ⟨rfl,0,_,Lc _,rfl⟩ ?_;rintro vs W ⟨rfl,m,q,hm,rfl⟩ _;simp only[Ha];refine fl0 (B2.cells 7 _ rfl) ?_;rw[AO,DX];refine Ae (λa6=>?_) λa7=>⟨⟨q,rfl⟩,G2⟩;have I:m<p.length:=by omega
 refine fl0 (B2.cells 7 _ rfl) ?_;obtain⟨pp,r,rfl,_,hr,hc,rfl⟩:=U.get I;refine AV I ?_;rw[AE,AE,Addr.add_add,Addr.add_add];refine AI (by have:=hc 5 _ rfl;exact this) ?_;refine⟨_,rfl,?_⟩;show Cl .i64 (zIq q) (zIq ((p[m].val.s.size:Nat):Int)) _;rw[AQ,AQ,AL (by omega)];exact⟨⟨rfl,m+1,_,I,rfl⟩,by rw[BV,BV];omega⟩
section
open Go.ChangeShapes Go.WideShapes Go.ChangeAt Go.RowKit Go.Joins
structure DoR where
 k:Int
 i:Int
 j:Int
 key:Int
 n:Int
 x:U'
 b:V'
 p:W_
def ia(S:d_):c_->U_->DoR->Prop:=λw r o=>∃xv bv I,r=tL o.k o.i o.j o.key o.n xv bv I/\Ag S S w xv o.x/\CE S w bv o.b/\DY S w I o.p
variable {H:Type}{enc:TypeId×b_->H}{w:c_}{BY:Nat}{spare:Nat->Bool}{held:Bool}
theorem oY{n:Int}(h:(Lit.int .u8 n).wf=true):0<=n/\n<256:=by
 have hr:=Jk h;have j:IntKind.u8.min=0/\IntKind.u8.max=255:=by decide
 rw[j.1,j.2] at hr;exact⟨hr.1,by omega⟩
theorem mX(l:List α):(l.map λ_=>1).sum=l.length:=by
 induction l with
 |nil=>rfl
 |cons a l j=>simp only[aAR,aBi,cO,j];omega
theorem Sj{n:Nat}{y:DataW H×List MemPlace}(h:DataW.trod enc prog w BY spare held n 5 cs=some y):∃x:Int,(LI w cs x/\(0<=x/\x<256))/\1<=Rows.uptoBulk y.1:=by
 obtain⟨k,rfl,e,j⟩:=zR underlying5 h;subst e;exact⟨k,⟨rfl,oY j⟩,by simp[Rows.uptoBulk]⟩
theorem Qa{n:Nat}{y:DataW H×List MemPlace}(h:DataW.trod enc prog w BY spare held n 32 cs=some y):∃v l,cs=[v]/\(CE (λ_=>True) w v l/\∀x∈l,0<=x/\x<256)/\l.length+1<=Rows.uptoBulk y.1:=by
 obtain⟨v,l,e,hl,hm⟩:=Al.IT (k:=1) (μ:=λ_:Int=>1) (R:=λ(w:c_) r (x:Int)=>LI w r x/\(0<=x/\x<256)) underlying32 (by kernel_rfl) (λ_ _ _ h=>Sj h) h;exact⟨v,l,e,hl.Tc,by have:=mX l;omega⟩
theorem V0{n:Nat}{y:DataW H×List MemPlace}(h:DataW.trod enc prog w BY spare held n 35 cs=some y):∃o:DoR,(ia (λ_=>True) w cs o/\(∀d∈o.x,Is d)/\(∀b∈o.b,0<=b/\b<256)/\∀c∈o.p,c.key<=9223372036854775807/\Ev c.val)/\Av o.x+o.b.length+o.p.length<=Rows.uptoBulk y.1:=by
 have c0:prog.cellsOf 35=8:=by kernel_rfl
 have c1:prog.cellsOf 3=1:=by kernel_rfl
 have c2:prog.cellsOf 31=1:=by kernel_rfl
 have X:prog.cellsOf 32=1:=by kernel_rfl
 have Y:prog.cellsOf 33=1:=by kernel_rfl
 obtain⟨Z,m,_,rfl,hl,I,j⟩:=aB4 underlying35 h;match Z,I with
 |[y0,y1,y2,y3,y4,y5,y6,y7],_=>
  have h0:DataW.trod enc prog w BY spare held m 3 ((cs.drop 0).take (prog.cellsOf 3))=some y0:=j 0 _ rfl;have h1:DataW.trod enc prog w BY spare held m 3 ((cs.drop 1).take (prog.cellsOf 3))=some y1:=j 1 _ rfl;have J:DataW.trod enc prog w BY spare held m 3 ((cs.drop 2).take (prog.cellsOf 3))=some y2:=j 2 _ rfl;have N:DataW.trod enc prog w BY spare held m 3 ((cs.drop 3).take (prog.cellsOf 3))=some y3:=j 3 _ rfl;have O:DataW.trod enc prog w BY spare held m 3 ((cs.drop 4).take (prog.cellsOf 3))=some y4:=j 4 _ rfl;have Q:DataW.trod enc prog w BY spare held m 31 ((cs.drop 5).take (prog.cellsOf 31))=some y5:=j 5 _ rfl;have U:DataW.trod enc prog w BY spare held m 32 ((cs.drop 6).take (prog.cellsOf 32))=some y6:=j 6 _ rfl;have V:DataW.trod enc prog w BY spare held m 33 ((cs.drop 7).take (prog.cellsOf 33))=some y7:=j 7 _ rfl;rw[c0] at hl;rw[c1] at h0 h1 J N O;rw[c2] at Q;rw[X] at U;rw[Y] at V;match cs,hl with
  |[a0,a1,a2,a3,a4,a5,a6,a7],_=>
   clear j;simp only[aAG,aAX,aBS,aAQ] at h0 h1 J N O Q U V;obtain⟨k0,e0,_,_⟩:=zR underlying3 h0;obtain⟨k1,e1,_,_⟩:=zR underlying3 h1;obtain⟨k2,e2,_,_⟩:=zR underlying3 J;obtain⟨k3,e3,_,_⟩:=zR underlying3 N;obtain⟨k4,e4,_,_⟩:=zR underlying3 O;obtain⟨v5,l5,e5,⟨q5,i5⟩,m5⟩:=Sv Q;obtain⟨v6,l6,e6,⟨q6,i6⟩,m6⟩:=Qa U;obtain⟨v7,l7,e7,⟨q7,i7⟩,m7⟩:=N0 V;cases e0;cases e1;cases e2;cases e3;cases e4;cases e5;cases e6;cases e7;refine⟨⟨k0,k1,k2,k3,k4,l5,l6,l7⟩,⟨⟨_,_,_,rfl,q5,q6,q7⟩,i5,i6,i7⟩,?_⟩;simp only[aAR,aCI,Rows.uptoBulk,Rows.uptoBulkAll];rw[Kf] at m7;omega
end
structure Ud (o:DoR):Prop where
 x:∀d∈o.x,Is d
 b:∀b∈o.b,0<=b/\b<256
 p:∀c∈o.p,c.key<=9223372036854775807/\Ev c.val
 n:Av o.x<=1048576/\o.b.length<=1048576/\o.p.length<=1048576
theorem lS{t e k bytes:Nat}{cs:α->U_}{x:b_}{m:List α}(N:DD prog t e k bytes)(hk:0<k)(O:Al S k (λ_ r a=>r=cs a) w x m)(I:∀y,∀u∈cs y,u.oneCell'=true)(hl:m.length*bytes<=140737488355328)
 (Q:∀v' w',AB w.heap.size e k (λ_ r a=>r=cs a) w' v' m->AG w w'->K v' w'):runK prog (Builtin.append_ #[t,t] t [.slice (f_ w.heap.size) 0 0,x].toArray) K (w.alloc (.cells #[] e)):=by
 have hm:m.length<=maxLen:=by grind[Al.AK]
 have j:AG w (w.alloc (.cells #[] e)):=AF.alloc _ _ _;have J:AB w.heap.size e k (λ_ r a=>r=cs a) (w.alloc (.cells #[] e)) (.slice (f_ w.heap.size) 0 0) ([]:List α):=AB.Rz (DN _);have z:=j.size;refine J0 (AB.append N J (Al.S_ O j hk C_) B_ (by simpa using hl) z (by simpa using hm) B_) λv' w' ⟨o,U,_⟩=>?_;rw[aAP] at o;exact Q v' w' o (j.next (AF.BO U) λb hb e=>by have:=(AB.Am J b e).1;omega)
theorem bN{r:U_}{o:DoR}(h:ia S w r o)(hI:Ud o) :
  l_ 8 [.agg r.toArray] (λv' w'=>∃r',v'=.agg r'.toArray/\ia (λy=>w.heap.size<=y/\y<w'.heap.size) w' r' o/\AG w w') w:=by
 refine I_ func8 ?_;obtain⟨xv,bv,pv,rfl,hx,hb,hp⟩:=h;obtain⟨n1,n2,n3⟩:=hI.n;refine Bx.box (vs:=tL o.k o.i o.j o.key o.n xv bv pv) λb w1 an g1 B=>Bx.zero λc w2 hc g2 C=>?_;have av:=B.lt E_;have ax:=C.lt E_;have B2:=B.S_ g2;have V:=g1.trans g2;apply fl_i (B2.cells 5 _ rfl);refine AA (Y2 (Ag.S_ hx V) E) ?_;rintro I w3 ⟨ox,g3⟩;have z3:=g3.size;obtain⟨x1,x2⟩:=AB.one ox;rw[AE,AH];refine(B2.S_ g3).st (q:=5) E_ x1 x2 λw4 B4 m4=>?_;have z4:=m4.size;have X:AG w w4:=(V.trans g3).next m4 E
 have a6:Ag (λy=>w2.heap.size<=y/\y<w3.heap.size) (λy=>w2.heap.size<=y/\y<w3.heap.size) w4 I o.x:=(Bs.reads ox).T_ m4 E E;apply EW;have ga:AG w4 (w4.alloc (.cells #[] 5)):=AF.alloc _ _ _;apply fl_i ((B4.S_ ga).cells 6 _ rfl);refine lS Jb C0 (hb.S_ X C0 C_) (cs:=λx=>[.int .u8 x]) (λy u hu=>by simp at hu;subst hu;rfl) E λJ w5 ob Y=>?_;have z5:=Y.size;obtain⟨y1,y2⟩:=AB.one ob;rw[AE,AH];refine(B4.S_ Y).st (q:=6) E_ y1 y2 λZ B6 m6=>?_;have z6:=m6.size;have a1:AG w Z:=(X.trans Y).next m6 E
 have a7:CE (λy=>w4.heap.size<=y/\y<w5.heap.size) Z J o.b:=Al.T_ (Al.sub (AB.sl ob) (λy O h=>⟨h.1,O⟩) C0 C_) m6 E C0 C_;have a8:=(Ag.S_ a6 Y).T_ m6 E E;apply EW;have gb:AG Z (Z.alloc (.cells #[] 80)):=AF.alloc _ _ _;apply fl_i ((B6.S_ gb).cells 7 _ rfl);refine lS GR C0 (hp.S_ a1 C0 C_) (cs:=Chg.cells) (λy=>CO.one (w:=w) (x:=y) rfl) E λN w7 op Q=>?_;have z7:=Q.size;obtain⟨q1,q2⟩:=AB.one op;rw[AE,AH];refine(B6.S_ Q).st (q:=7) E_ q1 q2 λw8 B8 U=>?_;have z8:=U.size;have ay:AG w w8:=(a1.trans Q).next U E
 have aa:DY (λy=>Z.heap.size<=y/\y<w7.heap.size) w8 N o.p:=Al.T_ (Al.sub (AB.sl op) (λy O h=>⟨h.1,O⟩) C0 C_) U E C0 C_;have ak:=(Ag.S_ a8 Q).T_ U E E;have al:=Al.T_ (a7.S_ Q C0 C_) U (λy _ O e=>by have:=O.1;omega) C0 C_;have hv:∀u∈tL o.k o.i o.j o.key o.n I J N,u.oneCell'=true:=λu hu=>by
  simp at hu;rcases hu with rfl|rfl|rfl|rfl|rfl|rfl|rfl|rfl;all_goals first|rfl|assumption
 apply B8.GJ (vs:=tL o.k o.i o.j o.key o.n I J N) rfl;have C8:Bx w8 c _:=(((((C.S_ g3).T_ m4 E).S_ Y).T_ m6 E).S_ Q).T_ U E;refine C8.Ax (us:=tL o.k o.i o.j o.key o.n I J N) rfl rfl hv λw9 C9 m9=>?_;have z9:=m9.size;apply C9.GJ (vs:=tL o.k o.i o.j o.key o.n I J N) rfl;refine⟨_,rfl,⟨I,J,N,rfl,?_,?_,?_⟩,(by grind[AF.next])⟩;exact(ak.T_ m9 (λy _ O e=>by have:=O.1;omega) λy _ O e=>by have:=O.1;omega).sub E C0 λr x h=>h.T_ j0 E' E;exact Al.sub (Al.T_ al m9 E C0 C_) E C0 C_;exact Al.sub (Al.T_ aa m9 E C0 C_) E C0 C_
noncomputable def IS(ks:X')(most:Int)(s:Est)(o:DoR):Int×Est:=
 if o.k=1 then Tw ks most s o.x else if o.k=2 then bA ks most s o.b else if o.k=3 then eT ks most s o.i o.b else if o.k=4 then rZ ks most s o.i o.j else if o.k=5 then qL ks most s o.i o.j o.p else if o.k=6 then rP ks most s o.i o.j o.p else if o.k=7 then qx ks most s o.i o.j o.key o.n else if o.k=8 then PY s o.i o.j else if o.k=9 then rS ks most s o.i o.j else if o.k=10 then oX ks most s o.i else if o.k=11 then NG s else if o.k=12 then ZF s else if o.k=13 then LB ks s else Lf ks s
theorem rX{w W0 W:c_}{D:d_}{e:EgA}{σ:SKs}{s:Est}{r:U_}{o:DoR}(h:K5 w D W0 e σ most s)(J:CH w)(g:AG W0 W)(hr:ia (λy=>W0.heap.size<=y/\y<W.heap.size) W r o)(X:Ud o) :
  l_ 7 [e_ e.b,.agg r.toArray] (λv' w'=>v'=zIq (IS σ.ks most s o).1/\K5 w D w' e σ most (IS σ.ks most s o).2/\fQ w D W w') W:=by
 refine H_ func7 ?_;obtain⟨xv,bv,pv,rfl,Y,hb,hp⟩:=hr;obtain⟨n1,n2,n3⟩:=X.n;refine Bx.box (vs:=tL o.k o.i o.j o.key o.n xv bv pv) λb w1 al N B=>?_;obtain⟨F,a7,a8⟩:=h.i;have I:=a7.S_ (g.trans N);have aa:=h.g.trans (g.trans N);have ak:=Ag.S_ Y N;have Z:=hb.S_ N C0 C_;have a6:=hp.S_ N C0 C_;have run:∀{f:Nat} {args:U_} {r:Int×Est},l_ f args (Fl w F w1 e σ most r) w1->l_ f args (λv' w'=>v'=zIq r.1/\K5 w D w' e σ most r.2/\fQ w D W w') w1:=λhc=>AA hc λ_ _ hQ=>by
  obtain⟨a1,a2,a3⟩:=hQ.Ba (λx Y=>(a8 x Y).1) (λx Y=>by have:=h.d x Y;have:=(g.trans N).size;omega) aa;exact⟨a1,a2,(N.mono λ_ _ h=>h.elim:fQ w D W w1).trans a3⟩
 unfold IS;apply fl_i (B.cells 0 _ rfl);refine eqP (λe1=>?_) λe1=>?_
 .rw[Ix e1,AE,AH];apply AI (B.cells 5 _ rfl);exact run (Yr I h.s J ak B_ X.x (by grind[Bi]))
 rw[By e1,CI];refine Ae (λe2=>?_) λe2=>?_
 .rw[Ix e2,AE,AH];apply AI (B.cells 6 _ rfl);exact run (de I h.s J Z X.b n2)
 rw[By e2,CI];refine Ae (λe3=>?_) λe3=>?_
 .rw[Ix e3,AE,AH];apply AI (B.cells 1 _ rfl);apply fl_i (B.cells 6 _ rfl);exact run (Tk I h.s J Z X.b n2)
 rw[By e3,CI];refine Ae (λe4=>?_) λe4=>?_
 .rw[Ix e4,AE,AH];apply AI (B.cells 1 _ rfl);apply fl_i (B.cells 2 _ rfl);exact run (Vj I h.s J)
 rw[By e4,CI];refine Ae (λe5=>?_) λe5=>?_
 .rw[Ix e5,AE,AH];apply AI (B.cells 1 _ rfl);apply fl_i (B.cells 2 _ rfl);apply fl_i (B.cells 7 _ rfl);exact run (XK I h.s J a6 X.p)
 rw[By e5,CI];refine Ae (λe6=>?_) λe6=>?_
 .rw[Ix e6,AE,AH];apply AI (B.cells 1 _ rfl);apply fl_i (B.cells 2 _ rfl);apply fl_i (B.cells 7 _ rfl);exact run (SU I h.s J a6 X.p)
 rw[By e6,CI];refine Ae (λe7=>?_) λe7=>?_
 .rw[Ix e7,AE,AH];apply AI (B.cells 1 _ rfl);apply fl_i (B.cells 2 _ rfl);apply fl_i (B.cells 3 _ rfl);apply fl_i (B.cells 4 _ rfl);exact run (dV I h.s J)
 rw[By e7,CI];refine Ae (λe8=>?_) λe8=>?_
 .rw[Ix e8,AE,AH];apply AI (B.cells 1 _ rfl);apply fl_i (B.cells 2 _ rfl);exact run (T6 I h.s)
 rw[By e8,CI];refine Ae (λe9=>?_) λe9=>?_
 .rw[Ix e9,AE,AH];apply AI (B.cells 1 _ rfl);apply fl_i (B.cells 2 _ rfl);exact run (jb I h.s J)
 rw[By e9,CI];refine Ae (λO=>?_) λO=>?_
 .rw[Ix O,AE,AH];apply AI (B.cells 1 _ rfl);exact run (YK I h.s J)
 rw[By O,CI];refine Ae (λQ=>?_) λQ=>?_;rw[Ix Q];exact run (NM I h.s);rw[By Q,CI];refine Ae (λU=>?_) λU=>?_;rw[Ix U];exact run (Ry I h.s);rw[By U,CI];refine Ae (λV=>?_) λV=>?_;rw[Ix V];exact run (On I h.s J);rw[By V];exact run (Oc I h.s J)
section
variable {ks:X'}{most:Int}{s:Est}{o:DoR}
def Ed(ks:X')(most:Int)(s:Est)(r:Int×Est):Prop:=(r.1=0/\∃g,Lk ks most s.d r.2.d g/\r.2.H=s.H.put ks g)\/(r.1≠0/\r.2.d=s.d/\r.2.H=s.H)
theorem Ed.no{c:Int}(h:c≠0):Ed ks most s (c,s):=.inr ⟨h,rfl,rfl⟩
theorem gU{clip:Y_}{x:U'}(j:St ks most s.d s.clip s.H)(I:∀o∈x,Is o)(hl:x.length<=4294967296):Ed ks most s (Tw ks most ⟨s.d,clip,s.H⟩ x):=by
 unfold Tw;by_cases e:Ef ks x s.d.length most=0;rw[Ix e];exact .inl ⟨rfl,_,Lk.new j.k j.IN j.NT ((Ca hl).1 e) I,rfl⟩;rw[By e];exact .inr ⟨e,rfl,rfl⟩
theorem pV(J:St ks most s.d s.clip s.H)(p:Int):(∀o∈BJ (Gq p s.clip),Is o)/\(BJ (Gq p s.clip)).length<=4294967296:=by
 obtain⟨j,N⟩:=J.cl;have IN:=J.IN;obtain⟨O,Q⟩:=HI (x:=Gq p s.clip) λo I=>by
  rcases S6.1 I with rfl|I;exact⟨λ_ h=>(nomatch h),λ_ h=>nomatch h⟩;obtain⟨c,hc,rfl⟩:=WJ.1 I;exact⟨(j c hc).1.vh,λc hc=>(nomatch hc)⟩
 grind[Gq]
theorem Tm(I:St ks most s.d s.clip s.H)(J:Ud o)(h1:1<=o.k)(h2:o.k<=10)(h8:o.k≠8):Ed ks most s (IS ks most s o):=by
 have IN:=I.IN;have a1:=I.NT.m.le;obtain⟨n1,n2,n3⟩:=J.n;have N:∀{x:U'},(∀o∈x,Is o)/\x.length<=4294967296->Ed ks most s (Tw ks most s x):=λh=>gU (clip:=s.clip) I h.1 h.2;have O:∀{x:U'},(∀o∈x,Is o)->x.length<=4294967296->(∀o∈BJ x,Is o)/\(BJ x).length<=4294967296:=by grind[HI]
 unfold IS;by_cases e1:o.k=1;grind[Ud.x,Bi];rw[By e1];by_cases e2:o.k=2;grind[bA,Ed.no,aP];rw[By e2];by_cases e3:o.k=3;rw[Ix e3];unfold eT;cases hr:Bn o.b with
 |none=>grind[Ed.no]
 |some l=>
  simp only;split;grind[Ed.no];have a6:=UM _ (DN _) hr;grind[Z3]
 rw[By e3];by_cases e4:o.k=4;grind[rZ,L8,Ed.no];rw[By e4];by_cases e5:o.k=5;rw[Ix e5];unfold qL;split;grind[Ed.no];split;grind[Ed.no];split;grind[Ed.no];refine N (O (λx hx=>?_) E_);simp at hx;rcases hx with rfl|rfl;exact⟨λ_ h=>(nomatch h),λ_ h=>nomatch h⟩;exact⟨λ_ h=>(nomatch h),J.p⟩;rw[By e5];by_cases e6:o.k=6;rw[Ix e6];unfold rP;split;grind[Ed.no];rename_i Q;cases hq:Qd ks o.p with
 |none=>grind[Ed.no]
 |some q=>
  simp only;split;grind[Ed.no];rename_i U;split;grind[Ed.no];split;grind[Ed.no];have V:=QM I.SV (FX.1 (by simpa using Q)) hq;have hz:=(Rg (σ:=⟨.pointer none,ks,λ_=>False⟩) I.NT.m.g (i:=o.i.toNat) (j:=o.j.toNat) E E).1;obtain⟨X,Y⟩:=QQ (l:=(Ox s.d o.i.toNat o.j.toNat).map (·,q)) (λa ha=>by obtain⟨x,_,rfl⟩:=WJ.1 ha;exact V.vh I.k J.p) 0;rw[Nn,QK] at Y;have y:=O X E;exact N y
 rw[By e6];by_cases e7:o.k=7;rw[Ix e7];unfold qx;split;grind[Ed.no];split;grind[Ed.no];rename_i U;split;grind[Ed.no];split;grind[Ed.no];rename_i Z;have Z:Hq ks o.key=0:=by simpa using Z
 have hz:=(Rg (σ:=⟨.pointer none,ks,λ_=>False⟩) I.NT.m.g (i:=o.i.toNat) (j:=o.j.toNat) E E).1;obtain ⟨X,Y⟩:=QQ (l:=(Ox s.d o.i.toNat o.j.toNat).zip ((VY s.d o.i.toNat o.j.toNat).map (Lm ks · o.key o.n))) (λa ha=>by
  obtain ⟨x,_,e⟩:=WJ.1 (aDL (a:=a.1) (b:=a.2) ha).2;rw [<-e];exact (aS I.k I.SV Z).1) 0
 rw[List.length_zip,QK] at Y;have y:=O X E;exact N y;grind[rS,PY,gU,L8,Ed.no,oX,pV]
theorem T4(j:o.k=8):(IS ks most s o).2.d=s.d/\(IS ks most s o).2.H=s.H:=by
 grind[IS,PY]
theorem qC(H:Hist)(g:Grp):(H.put ks g).max=H.max:=by grind[Hist.put]
theorem iT(j:St ks most s.d s.clip s.H)(I:Ud o):(IS ks most s o).2.H.max=s.H.max:=by
 by_cases J:o.k=8;grind[T4];by_cases h:1<=o.k/\o.k<=10;rcases Tm j I h.1 h.2 J with⟨_,g,_,e⟩|⟨_,_,e⟩<;>grind[qC];unfold IS;rw[By E,By E,By E,By E,By E,By E,By E,By E,By E,By E];grind[NG,ZF,LB,Lf]
end
theorem pE{D D':d_}{r Q:U_}{a b:Cel}(ha:Ky D w r a)(hb:Ky D' w Q b) :
  l_ 39 [.agg r.toArray,.agg Q.toArray] (λv w'=>v=.bool (decide (a=b))/\AG w w') w:=by
 refine H_ func39 ?_;have no:∀w',AG w w'->a≠b->Value.bool false=.bool (decide (a=b))/\AG w w':=B_;obtain⟨sv,rfl,h1⟩:=ha;obtain⟨U,rfl,N⟩:=hb;refine CN λb1 Y _ _ V I _=>CN λb2 w2 _ _ O J _=>?_;have j:=V.trans O;simp only[AE];refine AI (O.cell (I 0 _ rfl) F_) (AI (J 0 _ rfl) ?_);refine eqP (λe0=>?_) B_;refine AI (O.cell (I 1 _ rfl) F_) (AI (J 1 _ rfl) ?_);refine AA (OM (h1.S_ j C0 C_) (N.S_ j C0 C_)) ?_;rintro v3 Z ⟨rfl,X⟩;refine⟨?_,j.trans X⟩;congr 1;rw[aBo];constructor;intro e4;cases a;cases b<;>grind;grind
theorem gG{S S' D D':d_}{a b:b_}{l m:Y_}(ha:Be S D w a l)(hb:Be S' D' w b m) :
  l_ 38 [a,b,.func (.func 39) #[] #[]] (λv w'=>v=.bool (decide (l=m))/\AG w w') w:=by
 refine J_ func38 ?_ (.y (.y (.x (.y (.node [17] [(6,9),(17,31)] .nil .nil)))));have a6:=ha;have a7:=hb;obtain⟨pa,ca,rfl,Q⟩:=ha.AK;obtain⟨pb,cb,rfl,U⟩:=hb.AK;simp only[maxLen] at Q U;have no:∀w',AG w w'->l≠m->Value.bool false=.bool (decide (l=m))/\AG w w':=B_;rw[AO,AO];refine neP (λa1=>?_) (by grind[AF.refl]);rw[AO];apply Aa (λvs V=>∃k:Nat,k<=l.length/\vs=[zIq k]/\AG w V/\l.take k=m.take k) (λvs _=>l.length-Da vs 0) ⟨0,Lc _,rfl,AF.refl _ _,rfl⟩;rintro vs V ⟨k,hk,rfl,X,ht⟩ _;rw[Bh,HK];refine Cn (λa8=>?_) λaa=>?_
 .have j:k<l.length:=E;have I:k<m.length:=E;obtain⟨p,r,rfl,_,hr,hc,ho⟩:=(Be.S_ ha X).get j;obtain⟨p',r',rfl,_,J,ak,O⟩:=(Be.S_ hb X).get I;refine AV j (AX hr (by grind[Addr.add_add]) ?_);refine BA (vs:=r) hr rfl ho.one λb1 w2 al an g2 av _=>AV I (AX J (by grind[Addr.add_add,AF.cell]) ?_);refine BA (vs:=r') J rfl O.one λb2 w3 ax ay g3 Y _=>?_;apply AX hr (by grind[AF.cell]);apply AX J Y;have N:AG V w3:=g2.trans g3;refine Ee D_ ?_;refine AA (pE (ho.T_ (D':=D) N E' C_) (O.T_ (D':=D') N E' C_)) ?_;rintro v4 w4 ⟨rfl,g4⟩;have Z:=N.trans g4;rw[Aj];refine BM (λhe=>?_) (by grind[AF.trans]);rw[AQ,AL E];refine⟨⟨k+1,j,rfl,X.trans Z,?_⟩,by grind[DW]⟩;grind[List.take_add_one]
 have:k=l.length:=E;grind
theorem Rw{S S' D D':d_}{a b:b_}{l m:Y_}(ha:Be S D w a l)(hb:Be S' D' w b m) :
  l_ 13 [a,b] (λv w'=>v=.bool (decide (l=m))/\AG w w') w:=by
 refine H_ func13 ?_;exact gG ha hb
theorem ia.to{r:U_}{o:DoR}(h:ia S w r o)(m:AF M w w')(J:∀y,S y->¬M y):ia S w' r o:=by
 obtain⟨I,bv,j,e,N,hb,hp⟩:=h;exact⟨I,bv,j,e,(by grind[Ag.T_]),hb.T_ m B_ C0 C_,hp.T_ m B_ C0 C_⟩
abbrev Xe(S:d_)(w:c_)(v:b_)(l:List DoR):Prop:=Al S 8 (ia S) w v l
theorem Xe.S_{l:List DoR}(h:Xe S w v l)(g:AG w w'):Xe S w' v l:=by grind[Al.S_,ia.to]
theorem TJ{J lv:b_}{L:List DoR}{n:Int}(hk:Mh S' w J ks)(hl:Xe S w lv L) :
  l_ 4 [J,lv,zIq n] (λv' w'=>(∃b,v'=.bool b)/\AG w w') w:=by
 refine J_ func4 ?_ (.y (.y (.x (.y (.node [7,11] [(7,8),(11,21)] .nil .nil)))));obtain⟨X,Y,rfl,hm⟩:=hl.AK;obtain⟨Z,kc,rfl,_⟩:=hk.AK;simp only[maxLen] at hm;rw[AO];apply Aa (λvs W=>∃(k:Nat) (z:Int),k<=L.length/\vs=[zIq z,zIq k]/\AG w W) (λvs _=>L.length-Da vs 1) ⟨0,_,Lc _,rfl,AF.refl _ _⟩;rintro vs W ⟨k,z,N,rfl,g⟩ _;simp only[Ha];refine Cn (λO=>?_) λQ=>?_;have j:k<L.length:=E;obtain⟨q,r,rfl,_,hr,hc,xv,bv,pv,rfl,U,hb,hp⟩:=(Xe.S_ hl g).get j;refine AV j (AX hr (by grind[Addr.add_add]) ?_);apply AA (dO U hb hp);rintro _ w' ⟨⟨z',rfl⟩,V⟩;rw[AQ,AQ,AL E];exact⟨⟨k+1,_,j,rfl,g.trans V⟩,by grind[BV]⟩;rw[AO];refine leP (λ_=>?_) B_;rw[AO];refine leP (λ_=>?_) B_;rw[Py];grind
structure Vt (ks:X') (most:Int) (d0:Y_) (mx:Nat) (n:Int) (s:Est):Prop where
 op:s.H.op=true
 mx:s.H.max=mx
 ch:Ch ks most d0 s.H.Ba s.d
 z:n=0↔s.H.Ba=[]
theorem Vt.VA{I:Y_}{mx:Nat}{n:Int}{s s':Est}{g:Grp}(h:Vt ks most I mx n s)(j:St ks most s.d s.clip s.H)(J:Lk ks most s.d s'.d g)(e:s'.H=s.H.put ks g)(O:0<=n):Vt ks most I mx (n+1) s':=by
 have N:s'.H={ s.H with Ba:=[P0 ks s.H.Ba g],rs:=[] }:=by grind[Hist.put,Vt.op]
 refine⟨by grind[Vt.op],by grind[Vt.mx],?_,?_⟩;rw[N];exact Ch.one.2 (Rs j.k j.SV j.IN j.Ba.1 h.ch J).1;grind
theorem lT{s:Est}{l:Z_}{g:Grp}(h:s.H.op=false)(e:s.H.us=l++[g]):LB ks s=(0,⟨Bz ks s.d g.u,s.clip,{ s.H with us:=l,rs:=s.H.rs++[g] }⟩):=by
 grind[LB]
theorem iO{s:Est}{l:Z_}{g:Grp}(h:s.H.op=false)(e:s.H.rs=l++[g]):Lf ks s=(0,⟨Bz ks s.d g.d,s.clip,{ s.H with us:=s.H.us++[g],rs:=l }⟩):=by
 grind[Lf]
section
variable {w W:c_}{D:d_}{e:EgA}{σ:SKs}{most:Int}{s:Est}
theorem L3(h:K5 w D W e σ most s):l_ 11 [e_ e.b] (λv' w'=>Be (λx=>W.heap.size<=x/\x<w'.heap.size) (λx=>W.heap.size<=x/\x<w'.heap.size) w' v' s.d/\AG W w') W:=by
 obtain⟨F,h1,_⟩:=h.i;have:=h.s.NT.m.le;have:=h.s.IN;refine AA (Mu h1 h.s.NT.m.g.set E) λv w' ⟨hc,g⟩=>⟨?_,g⟩;grind[G6.rd]
theorem WB{lv:b_}{L:List DoR}{k:Nat}(N:CH w)(h:K5 w D W e σ most s)(hl:Xe S W lv L)(O:∀o∈L,Ud o)(hk:k<L.length)(Q:∀w',K5 w D w' e σ most (IS σ.ks most s L[k]).2->fQ w D W w'->K (zIq (IS σ.ks most s L[k]).1) w') :
  KY 8 lv (zIq (k:Int)) (λt=>DJ 8 t (λv w=>l_ 8 [v] (λv w=>l_ 7 [e_ e.b,v] K w) w) W):=by
 obtain⟨la,lc,rfl,_⟩:=hl.AK;obtain⟨q,r,rfl,_,hr,hc,U⟩:=hl.get hk;refine AV hk (AX hr (by grind[Addr.add_add]) ?_);have j:=O _ (S7 hk);apply AA (bN U j);rintro _ V ⟨r',rfl,I,J⟩;apply AA (rX h N J I j);rintro _ Z ⟨rfl,X,Y⟩;exact Q Z X ((J.mono λ_ _ h=>h.elim:fQ w D W V).trans Y)
theorem P4{kv av lv:b_}{a1:X'}{A L:List DoR}{mx:Int}(hk:Mh S w kv a1)(ha:Xe C w av A)(hl:Xe M w lv L)(hA:∀o∈A,Ud o)(hL:∀o∈L,Ud o)(hT:CH w) :
  l_ 3 [kv,zIq most,zIq mx,av,lv] (λv w'=>v=.bool true/\AG w w') w:=by
 refine P_ func3 ?_ (.y (.cut [] [(10,10),(19,33)] .nil (.y (.y (.z (.y (.node [46] [(13,13),(46,56)] .nil .nil)) (.cut [] [(57,60)] .nil (.y (.y (.y (.x (.y (.node [15,68] [(15,17),(68,98)] (.y (.y (.cut [15] [(15,17),(70,97)] .nil .nil))) .nil))))))))))));have kn:∀{W:c_},AG w W->l_ 5 [] (λv w'=>v=.bool true/\AG w w') W:=λg=>AA (YV (hT.S_ g)) (by grind[AF.trans]);refine AT (λ_ W=>AG w W/\1<=mx) ?_ ?_;rotate_left;apply AA (TJ hk ha);rintro _ w1 ⟨⟨b,rfl⟩,X⟩;rw[Aj];cases b with
 |false=>exact Ab (kn X)
 |true=>
  apply AM;refine AA (TJ (hk.S_ X C0 C_) (hl.S_ X)) ?_;rintro _ w2 ⟨⟨b,rfl⟩,g2⟩;have a6:=X.trans g2;rw[Aj];cases b with
  |false=>exact Ab (kn a6)
  |true=>
   apply AM;exact Cn (λ_=>kn a6) B_
 rintro _ w1 ⟨X,c8⟩ _;refine AA (fB (hk.S_ X C0 C_) hT X) ?_;rintro _ w2 (⟨e,I,rfl,q1,q2,_,h2⟩|⟨g2,c,hc,rfl⟩);rotate_left;apply BD;exact neP (λh=>(hc h).elim) λ_=>kn (X.trans g2);apply BD;refine neP (λ_=>?_) λh=>(h rfl).elim;obtain⟨aa,ac,ax,_⟩:=id ha.AK;subst ax;rw[AO];apply Aa (λvs W=>∃(k:Nat) (s:Est),k<=A.length/\vs=[zIq k]/\K5 w (λ_=>False) W e I most s/\s.H.max=mx.toNat) (λvs _=>A.length-Da vs 0) ⟨0,_,Lc _,rfl,h2,rfl⟩;rintro vs W ⟨k,s,ay,rfl,hW,hm⟩ _;simp only[Bh,HK];rw[DX];have c9:A.length<=9223372036854775807:=by obtain⟨_,_,e',h⟩:=ha.AK;simp only[maxLen] at h;omega
 refine Ae (λb0=>?_) λb6=>?_;have j:k<A.length:=E;refine WB hT hW (ha.S_ hW.g) hA j λw' h' m'=>?_;rw[AQ,AL E];exact⟨⟨k+1,_,j,rfl,h',by grind[iT,K5.s]⟩,by grind[DW]⟩;refine AT (λ_ W=>∃s:Est,K5 w (λ_=>False) W e I most s/\s.H.max=mx.toNat/\s.H.op=false) ?_ ?_;rotate_left;obtain⟨F,hF,_⟩:=hW.i;apply AA (fA hF);rintro _ w3 ⟨rfl,g3⟩;have U:=hW.S_ g3;cases ho:s.H.op with
 |false=>grind[AM]
 |true=>
  refine Ab (AA (U.run λF h1=>Ry h1 U.s) ?_);rintro _ w4 ⟨_,Y,_⟩;grind[ZF]
 rintro _ W ⟨s,hW,hm,ca⟩ _;apply AA (L3 hW);rintro dv J ⟨hd,gd⟩;have h1:=hW.Gf gd;apply AA (h1.run λF hF=>NM hF h1.s);have eb:NG s=(0,⟨s.d,s.clip,{ s.H with op:=true,Ba:=[] }⟩):=by grind[NG]
 rw[eb];rintro _ W2 ⟨rfl,h2,m2⟩;refine neP (λ_=>?_) E;obtain⟨la,lc,b7,_⟩:=id hl.AK;subst b7;rw[AO];have cc:L.length<=9223372036854775807:=by obtain⟨_,_,e',h⟩:=hl.AK;simp only[maxLen] at h;omega
 refine Aa (λvs W'=>∃(k:Nat) (n:Nat) (t:Est),k<=L.length/\n<=k/\vs=[zIq n,zIq k]/\K5 w (λx=>False\/(W.heap.size<=x/\x<J.heap.size)) W' e I most t/\fQ w (λx=>False\/(W.heap.size<=x/\x<J.heap.size)) J W'/\Vt I.ks most s.d mx.toNat n t) (λvs _=>L.length-Da vs 1) ⟨0,0,_,Lc _,DN _,rfl,h2,m2,⟨rfl,hm,rfl,B_⟩⟩ ?_;rintro vs W3 ⟨k,n,t,ay,cq,rfl,U,m3,hb⟩ _;simp only[Ha];refine Cn (λb0=>?_) λb6=>?_
 .have j:k<L.length:=E;have a7:=hl.S_ U.g;have b8:=hL _ (S7 j);refine AT (λvs W'=>∃(n:Nat) (t:Est),n<=k+1/\vs=[zIq n]/\K5 w (λx=>False\/(W.heap.size<=x/\x<J.heap.size)) W' e I most t/\fQ w (λx=>False\/(W.heap.size<=x/\x<J.heap.size)) J W'/\Vt I.ks most s.d mx.toNat n t) ?_ ?_;rintro _ V ⟨n',t',b9,rfl,Y,m4,ba⟩ _;simp only[HK];rw[AQ,AL E];exact⟨⟨k+1,n',t',j,b9,rfl,Y,m4,ba⟩,by grind[BV]⟩;obtain⟨q,r,eq,_,hr,hc,xv,bv,pv,er,_,_,_⟩:=a7.get j;cases eq;subst er;apply AV j;rw[AE];apply AI (by have:=hc 0 _ rfl;rw[Addr.add_add];exact this);have Z:∃(n':Nat) (t':Est),n'<=k+1/\[zIq (n:Int)]=[zIq n']/\K5 w (λx=>False\/(W.heap.size<=x/\x<J.heap.size)) W3 e I most t'/\fQ w (λx=>False\/(W.heap.size<=x/\x<J.heap.size)) J W3/\Vt I.ks most s.d mx.toNat n' t':=⟨n,t,E,rfl,U,m3,hb⟩;refine geP (λk1=>?_) λ_=>Z;refine leP (λk2=>WB hT U a7 hL j λV Y m4=>?_) λ_=>Z;have bb:=m3.trans m4;have Ak:(IS I.ks most t L[k]).2.d=t.d->(IS I.ks most t L[k]).2.H=t.H->Vt I.ks most s.d mx.toNat n (IS I.ks most t L[k]).2:=λe1 e2=>⟨by grind[Vt.op],by grind[Vt.mx],by grind[Vt.ch],by grind[Vt.z]⟩;rw[CI];by_cases h8:L[k].k=8;obtain⟨e1,e2⟩:=T4 (ks:=I.ks) (most:=most) (s:=t) h8;refine Ae (λ_=>?_) B_;exact neP B_ λh=>(h h8).elim;rcases Tm U.s b8 k1 k2 h8 with⟨e0,g,hg,eH⟩|⟨e0,e1,e2⟩;refine Ae (λ_=>?_) λh=>(h e0).elim;refine neP (λh=>(h8 h).elim) λ_=>?_;rw[AQ,wrap64 E E];exact⟨n+1,_,E,rfl,Y,bb,(by grind[Vt.VA,K5.s])⟩;exact Ae (λh=>(e0 h).elim) B_
 have bk:Be (λx=>W.heap.size<=x/\x<J.heap.size) (λx=>W.heap.size<=x/\x<J.heap.size) W3 dv s.d:=hd.T_ m3 E C0 λr c hc=>hc.T_ m3 E C_;apply AA (L3 U);rintro ov V ⟨ho,g4⟩;have Y:=U.Gf g4;have bl:Be _ _ V dv s.d:=Be.S_ bk g4;generalize hD:(λx=>(False\/(W.heap.size<=x/\x<J.heap.size))\/(W3.heap.size<=x/\x<V.heap.size))=D4 at Y;have N:∀{W5:c_},fQ w D4 V W5->Be (λx=>W.heap.size<=x/\x<J.heap.size) (λx=>W.heap.size<=x/\x<J.heap.size) W5 dv s.d:=λm=>bl.T_ m B_ C0 λr c hc=>hc.T_ m B_ C_;have O:∀{W5:c_},fQ w D4 V W5->Be (λx=>W3.heap.size<=x/\x<V.heap.size) (λx=>W3.heap.size<=x/\x<V.heap.size) W5 ov t.d:=λm=>ho.T_ m B_ C0 λr c hc=>hc.T_ m B_ C_;apply AA (Y.run λF hF=>Ry hF Y.s);have ee:ZF t=(0,⟨t.d,t.clip,{ t.H with us:=cz t.H.max t.H.us t.H.Ba,op:=false,Ba:=[] }⟩):=by grind[ZF,Vt.op]
 rw[ee];rintro _ W5 ⟨rfl,h5,m5⟩;refine neP (λ_=>?_) E;refine eqP (λe0=>?_) λe0=>?_;have Q:=hb.z.1 E;have a8:=hb.ch;rw[Q] at a8;have bp:s.d=t.d:=a8;apply AA (Rw (O m5) (N m5));rintro _ W6 ⟨rfl,g6⟩;rw[ys bp.symm];exact Ab (kn (h5.g.trans g6));obtain⟨a,Q⟩:∃a,t.H.Ba=[a]:=by
  have h1:=U.s.Ba.1;cases hh:t.H.Ba with
  |nil=>grind[Vt.z]
  |cons a l=>
   rw[hh] at h1;have:l=[]:=by simpa using h1
   grind
 have cu:Lk I.ks most s.d t.d a:=by have:=hb.ch;grind[Ch.one]
 obtain⟨l,bs⟩:∃l,cz t.H.max t.H.us t.H.Ba=l++[a]:=by
  rw[Q];show ∃l,HT t.H.max t.H.us a=l++[a];have c7:1<=t.H.max:=by rw[hb.mx];omega
  unfold HT;split;grind;refine⟨t.H.us.drop 1,?_⟩;grind
 rw[bs] at h5;apply AA (h5.run λF hF=>On hF h5.s hT);have eu:LB I.ks ⟨t.d,t.clip,{ t.H with us:=l++[a],op:=false,Ba:=[] }⟩=(0,⟨s.d,t.clip,{ t.H with us:=l,rs:=t.H.rs++[a],op:=false,Ba:=[] }⟩):=by
  apply(lT (g:=a) rfl rfl).trans;grind[Lk.uu]
 rw[eu];rintro _ W6 ⟨rfl,h6,m6⟩;have ak:=m5.trans m6;refine eqP (λ_=>?_) E;apply AA (L3 h6);rintro cv W7 ⟨bx,g7⟩;have h7:=h6.S_ g7;apply AA (Rw bx (Be.S_ (N ak) g7));rintro _ W8 ⟨rfl,g8⟩;rw[ys rfl];apply Ab;have h8:=h7.S_ g8;apply AA (h8.run λF hF=>Oc hF h8.s hT);have er:Lf I.ks ⟨s.d,t.clip,{ t.H with us:=l,rs:=t.H.rs++[a],op:=false,Ba:=[] }⟩=(0,⟨t.d,t.clip,{ t.H with us:=l++[a],rs:=t.H.rs,op:=false,Ba:=[] }⟩):=by
  apply(iO (g:=a) rfl rfl).trans;grind[Lk.dd]
 rw[er];rintro _ W9 ⟨rfl,h9,m9⟩;refine eqP (λ_=>?_) E;apply AA (L3 h9);rintro cx da ⟨al,an⟩;have c4:fQ w D4 V W9:=(ak.trans ((g7.trans g8).mono G_)).trans m9;apply AA (Rw al (Be.S_ (O c4) an));rintro _ dk ⟨rfl,c6⟩;rw[ys rfl];exact Ab (kn (h9.g.trans (an.trans c6)))
end
section
open Go.ChangeShapes Go.WideShapes Go.ChangeAt Go.RowKit Go.Joins
variable {H:Type}{enc:TypeId×b_->H}{w:c_}{BY:Nat}{spare:Nat->Bool}{held:Bool}
theorem Pk{n:Nat}{y:DataW H×List MemPlace}(h:DataW.trod enc prog w BY spare held n 23 cs=some y):∃v l,cs=[v]/\Al (λ_=>True) 8 (ia λ_=>True) w v l/\(Rows.uptoBulk y.1<=1048576->∀o∈l,Ud o):=by
 obtain⟨v,l,e,hl,hm⟩:=Al.IT (k:=8) (μ:=λo:DoR=>Av o.x+o.b.length+o.p.length) (R:=λ(w:c_) r (o:DoR)=>ia (λ_=>True) w r o/\((∀d∈o.x,Is d)/\(∀b∈o.b,0<=b/\b<256)/\∀c∈o.p,c.key<=9223372036854775807/\Ev c.val)) underlying23 (by kernel_rfl) (λ_ _ _ h=>V0 h) h;refine⟨v,l,e,hl.Tc.1,λhb o j=>?_⟩;obtain⟨h1,I,J⟩:=hl.Tc.2 o j;have N:∀l:List DoR,o∈l->Av o.x+o.b.length+o.p.length<=(l.map λo:DoR=>Av o.x+o.b.length+o.p.length).sum:=by
  intro l;induction l with
  |nil=>intro h;cases h
  |cons a l O=>
   intro h;rw[aAR,aBi];rcases S6.1 h with rfl|h
   .omega
   .have:=O h;omega
 have:=N l j;exact⟨h1,I,J,by omega,by omega,by omega⟩
end
section
open Go.ChangeShapes Go.WideShapes Go.ChangeAt Go.RowKit
theorem AAA:ownKnob prog.godebug=none:=by kernel_rfl
theorem U4:laidOutB prog=true:=by kernel_rfl
theorem MX(os:Os)(J:os.Started)(H:Type)(enc:TypeId×b_->H)(F0:Stop.Interp) :
  ReturnsInHanded {} Tryz.checked os 3 .any ((Rows.OpenSpec.upto Rows.engineGroupsSpec).preRow enc prog Tryz.f3 [] false Rows.engineGroupsUptoRow.laid) (((Rows.OpenSpec.upto Rows.engineGroupsSpec).at F0).post enc prog Tryz.f3 false true false false):=by
 refine returnsInHanded_of_row (C:=Tryz.checked) (s:=(Rows.OpenSpec.upto Rows.engineGroupsSpec)) AAA J (by kernel_rfl) func3
  (witness_row_at (enc:=enc) (C:=Tryz.checked) (s:=(Rows.OpenSpec.upto Rows.engineGroupsSpec)) false (TW os) #[g_,zIq 0,zIq 0,g_,g_] rfl (by kernel_rfl) (by kernel_rfl) (by kernel_rfl)
   ⟨⟨(OpenSpec.pre_some (k:=Rows.uptoSmall) rfl [] false _ _).2 ⟨_,_,_,DataW.Whole_of_whole (fuel:=8) (x:=([.nil,.lit (.int .i64 0),.lit (.int .i64 0),.nil,.nil],[],[])) (by kernel_rfl),by kernel_rfl,by kernel_rfl⟩,Si os _⟩,sizedMet_of_sizedB (fuel:=8) (by kernel_rfl)⟩) ?_
 intro W BY args ds gs Ib N hW _ V _ hL _ _;have X:=hW;obtain⟨p,q,Q,hV,rfl,ax,ay⟩:=hW;have hA:DataW.TrodAll enc prog W 0 (λ_=>true) true Tryz.f3.params.toList args.toList ds p:=Q;have I:∀(j:Nat) t v,Tryz.f3.params[j]?=some t->args[j]?=some v->Value.okWide prog W .any BY t v:=N;rw[Tryz.params3] at hA I;have U:CH W:=Uw hL;obtain⟨v0,b0,d0,b6,p0,q0,Y,rfl,rfl,h0,r0⟩:=trodAll_cons hA;obtain⟨v1,b7,d1,b8,p1,q1,rfl,rfl,rfl,h1,r1⟩:=trodAll_cons r0;obtain⟨v2,b9,d2,ba,p2,q2,rfl,rfl,rfl,h2,r2⟩:=trodAll_cons r1;obtain⟨v3,bb,d3,bk,p3,q3,rfl,rfl,rfl,Z,r3⟩:=trodAll_cons r2;obtain⟨v4,bl,d4,bp,p4,q4,rfl,rfl,rfl,h4,r4⟩:=trodAll_cons r3;obtain⟨rfl,rfl,rfl⟩:=trodAll_nil r4;obtain rfl:args=#[v0,v1,v2,v3,v4]:=by cases args;simp_all
 obtain⟨rfl,rfl⟩:=trodVars_none hV;have hk:=aB5 (V _ rfl);simp only[aO,Rows.uptoBulkAll] at hk;have a1:∀x∈p0,x.block<W.heap.size:=by obtain⟨m,hm⟩:=h0;exact aDb m _ _ _ hm
 obtain⟨a6,a7⟩:=id h0;obtain⟨u0,l0,e0,s0⟩:=Uc a7;try dsimp only at s0
 obtain⟨a0,n0,c0,rfl⟩:=okWide_slice underlying22 (I 0 22 v0 rfl rfl);simp only[Value.cells,aBU,aCV] at e0;subst e0;obtain⟨x1,rfl,rfl,rfl,w1⟩:=open_int underlying3 (I 1 3 v1 rfl rfl) h1;obtain⟨x2,rfl,rfl,rfl,w2⟩:=open_int underlying3 (I 2 3 v2 rfl rfl) h2;have a8:∀x∈p3,x.block<W.heap.size:=by obtain⟨m,hm⟩:=Z;exact aDb m _ _ _ hm
 obtain⟨aa,ak⟩:=id Z;obtain⟨u3,l3,e3,s3⟩:=Pk ak;try dsimp only at s3
 obtain⟨a3,n3,c3,rfl⟩:=okWide_slice underlying23 (I 3 23 v3 rfl rfl);simp only[Value.cells,aBU,aCV] at e3;subst e3;have al:∀x∈p4,x.block<W.heap.size:=by obtain⟨m,hm⟩:=h4;exact aDb m _ _ _ hm
 obtain⟨an,av⟩:=id h4;obtain⟨u4,l4,e4,s4⟩:=Pk av;try dsimp only at s4
 obtain⟨a4,n4,c4,rfl⟩:=okWide_slice underlying23 (I 4 23 v4 rfl rfl);simp only[Value.cells,aBU,aCV] at e4;subst e4;clear Q N;refine(P4 s0 s3.1 s4.1 (s3.2 (by omega)) (s4.2 (by omega)) U).mono λe W' ⟨v,he,hv,hg⟩=>?_;subst he;subst hv;have O:Below W.heap.size W W':=AF.below hg (DN _) λ_ h=>h.elim;exact⟨_,rfl,_,_,_,[],_,[],X,trodAll_mk1 (shut_bool underlying4 _),(aCN (Below.trod U4 (by kernel_rfl) (aB5 (by kernel_rfl)) h0 O a1) (aCN (shut_int underlying3 w1) (aCN (shut_int underlying3 w2) (aCN (Below.trod U4 (by kernel_rfl) (aB5 (by kernel_rfl)) Z O a8) (aCN (Below.trod U4 (by kernel_rfl) (aB5 (by kernel_rfl)) h4 O al) trodAll_mk0))))),rfl,O.frame _,λh=>by cases h⟩
theorem xD{a0 a1 a2 a3 a4 a5 a6 a7 a8 a9 j I J N O Q U V X Y Z aa a22 ak al a25 an av ax ay b0 b6:Bool}(h0:a0=true)(h1:a1=true)(h2:a2=true)(h3:a3=true)(h4:a4=true)(h5:a5=true)(h6:a6=true)(h7:a7=true)(h8:a8=true)(h9:a9=true)(b7:j=true)(b8:I=true)(b9:J=true)(ba:N=true)(bb:O=true)(bk:Q=true)(bl:U=true)(bp:V=true)(bs:X=true)(bx:Y=true)(c4:Z=true)(c6:aa=true)(c7:a22=true)(c8:ak=true)(c9:al=true)(ca:a25=true)(cc:an=true)(cq:av=true)(cu:ax=true)(cx:ay=true)(da:b0=true)(dk:b6=true):(((((((((((((((((((((((((((((((a0&&a1)&&a2)&&a3)&&a4)&&a5)&&a6)&&a7)&&a8)&&a9)&&j)&&I)&&J)&&N)&&O)&&Q)&&U)&&V)&&X)&&Y)&&Z)&&aa)&&a22)&&ak)&&al)&&a25)&&an)&&av)&&ax)&&ay)&&b0)&&b6)=true:=by simp only[h0,h1,h2,h3,h4,h5,h6,h7,h8,h9,b7,b8,b9,ba,bb,bk,bl,bp,bs,bx,c4,c6,c7,c8,c9,ca,cc,cq,cu,cx,da,dk];rfl
set_option maxHeartbeats 0 in
theorem Mc:joinedFacts prog 3 Tryz.f3 (Rows.OpenSpec.upto Rows.engineGroupsSpec).bare Rows.engineGroupsUptoRow=true:=by
 unfold joinedFacts;refine xD ?_ ?_ ?_ ?_ ?_ ?_ ?_ ?_ ?_ ?_ ?_ ?_ ?_ ?_ ?_ ?_ ?_ ?_ ?_ ?_ ?_ ?_ ?_ ?_ ?_ ?_ ?_ ?_ ?_ ?_ ?_ ?_ ;all_goals (as_aux_lemma=>kernel_rfl)
theorem OG:Rows.EngineGroupsUptoSaid:=
 OpenClaim.holds_of_cond 3 Tryz.f3 rfl rfl rfl rfl rfl rfl rfl ⟨rfl,rfl,rfl,rfl,rfl⟩ rfl rfl rfl rfl rfl (by kernel_rfl) func3 Mc
  (aB5 (by kernel_rfl)) (by unfold Func.isWrapper;first|(rw[Ix (by decide +kernel)];kernel_rfl)|(rw[By (by decide +kernel)];exact⟨rfl,rfl⟩))
  (λos j H enc _ F0=>MX os j H enc F0)
end
section
open Go.ChangeShapes Go.WideShapes Go.ChangeAt Go.RowKit
theorem EngineGroupsUpto_proved:Rows.EngineGroupsUptoCardSaid:=
 Claim7.holds_tied_plain_at .later [] [.data,.pinned] true Rows.engineGroupsUptoCard.stood.harness false
  OG (λ_ h=>by cases h) (by as_aux_lemma=>kernel_rfl) (λ_ h=>by cases h) engineGroupsUpto_row_tie rfl ⟨rfl,rfl⟩ (by as_aux_lemma=>kernel_rfl) rfl
  (λf fn N J=>by
   obtain rfl : f = 3 := aAO ((show Tryz.prog.funcNamed "rubric/rubriclaw28.EngineGroups" = some 3 by as_aux_lemma => kernel_rfl).symm.trans N) |>.symm
   obtain rfl:fn=Tryz.f3:=(aAO (func3.symm.trans J)).symm;exact ⟨by as_aux_lemma=>kernel_rfl,λj t ht=>by
    rw[Tryz.params3] at ht;have hm:t∈[22,3,3,23,23]:=by simpa using Array.mem_of_getElem? ht
    have I:([22,3,3,23,23].all λu=>!prog.wantsStandIn u)=true:=by as_aux_lemma=>kernel_rfl
    exact (show prog.wantsStandIn t=false by simpa using aAf.1 I t hm)⟩)
  (by as_aux_lemma=>kernel_rfl)
#print axioms EngineGroupsUpto_proved
end
end Go.Proofs.YtjdgbcdfgnajlaaGreatDoor
