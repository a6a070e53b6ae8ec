/- parts of the proof, written short by a program of ours -/
import Derived.Test.YtmdhibffnkhcnaaGreatDoorZTextNormalUpto6
import Derived.Laws.BytesArg
import Derived.Laws.IdiomStrings
import Derived.MapKept
import Derived.Shelf.GgSortFunc.InsertionK
import Derived.Shelf.SlSortCmp.WholeK
import Derived.Shelf.SlSortCmp.NoneTotal
set_option linter.unusedSimpArgs false
set_option linter.unusedVariables false
namespace Go.Proofs.YtmdhibffnkhcnaaGreatDoor
open Go Proofs.Tryz
variable {i j e B I:Nat}{w W w' W' w0:World}{F S C M:Nat->Prop}{v fr:Value}{α:Type}{ty:TypeId}{ks:List DKey}{K:Cont}{P:Program}{yo xo:Operand}
theorem Er{t e k:Nat}{i:TypeInfo}{a:Option Addr}{n c j:Nat}(ht:P.underlying t=some (.slice e))(hi:P.info? e=some i)(hk:i.size=k)(B:j<=n)(w:World):(Instr.sliceAt t (.slice a n c) (some (.int .i64 j)) none none).run P w=.ok (sliced a j n c k) w:=by
 have o:P.elem t=e:=by simp[Program.elem,ht]
 rw[me _ _ _ _ _ _ (by rw[o];exact ht),run_slice_l _ _ _ _ _ (by rw[o];exact ht) _ _ (by omega) (by omega),o];simp[sizeOf,typeInfo,hi,hk]
theorem Kr{k:Nat}{R:World->List Value->α->Prop}{a:Option Addr}{n c:Nat}{l:List α}(h:BB S k R w (.slice a n c) l)(O:j<=l.length):BB S k R w (sliced a j n c k) (l.drop j):=by
 obtain⟨Q,T,o,h1,U,B⟩:=h;cases o;unfold sliced;refine⟨_,_,by rw[K8],by rw[K8];omega,by omega,fun q x i=>?_⟩;rw[lL] at i;obtain⟨p,r,rfl,E,hr,hc,I⟩:=B _ x i;have J:=(Bp.1 i).1;rw[C3 (by omega)];refine⟨p.add (j*k),r,rfl,by rw[BO];exact E,hr,fun m u hu=>?_,I⟩;rw[Addr.add_add,<-mB,<-ku];exact hc m u hu
theorem Mn{t e k:Nat}{i:TypeInfo}{a:Option Addr}{n c:Nat}(ht:P.underlying t=some (.slice e))(hi:P.info? e=some i)(hk:i.size=k)(hc:n<=c)(w:World):∃o,(Instr.sliceAt t (.slice a n c) none (some (.int .i64 n)) (some (.int .i64 n))).run P w=.ok (.slice o n n) w/\(0<n->o=a):=by
 have j:P.elem t=e:=by simp[Program.elem,ht]
 refine⟨if n=0 then a else a.map (·.add (0*k)),?_,fun h=>?_⟩
 .rw[me _ _ _ _ _ _ (by rw[j];exact ht)];simp[Instr.slice,run_underlying ht,Instr.sliceBounds,run_sliceBound,hc,sizeOf,typeInfo,hi,hk,Result.andThen]
 .rw[C3 (by omega)];cases a with
  |none=>rfl
  |some a=>simp[Addr.add]
theorem Hm{t e n s:Nat}{i:TypeInfo}{k:IntKind}{a:Addr}{j:Int}(ht:P.underlying t=some (.array n e))(hi:P.info? e=some i)(o:i.size=s)(h0:0<=j)(h1:j<n):(Instr.indexAt t (.pointer (some a)) (.int k j)).run P w=.ok (.pointer (some (a.add (j.toNat*s)))) w:=by
 simp[Instr.indexAt,Instr.sureAddr,run_underlying ht,asIntOf,sizeOf,typeInfo,hi,o,h0,h1,Result.andThen]
theorem FF{s d:TypeId}{q k:IntKind}{n:Int}(w:World)(i:(P.underlying s).isSome=true)(j:P.underlying d=some (.int k)):(convert s d (.int q n)).run P w=.ok (.int k (k.wrap n)) w:=by
 obtain⟨e,he⟩:=jV.mp i;simp[convert,run_underlying he,run_underlying j,Conv.intToInt]
theorem SP{t:TypeId}{k q:IntKind}{a:Int}{n:Nat}(w:World)(i:n<=k.bits):(BX .shl t xo yo (.int k a) (.int q n)).run P w=.ok (.int k (k.wrap (a*2 ^ n))) w:=by
 have h0:¬((n:Int)<0):=by omega
 simp[BX,eqGuard,binOp,Op.shift,kY i,h0]
theorem OK{t:TypeId}{k q:IntKind}{a:Int}{n:Nat}(w:World)(i:n<=k.bits):(BX .shr t xo yo (.int k a) (.int q n)).run P w=.ok (.int k (a.fdiv (2 ^ n))) w:=by
 have h0:¬((n:Int)<0):=by omega
 simp[BX,eqGuard,binOp,Op.shift,kY i,h0]
theorem KA{t:TypeId}{k:IntKind}{a b:Int}(w:World):(BX .or t xo yo (.int k a) (.int k b)).run P w=.ok (.int k (k.wrap (BitVec.ofInt k.bits a ||| BitVec.ofInt k.bits b).toNat)) w/\(BX .and t xo yo (.int k a) (.int k b)).run P w=.ok (.int k (k.wrap (BitVec.ofInt k.bits a &&& BitVec.ofInt k.bits b).toNat)) w:=by
 constructor<;>simp[BX,eqGuard,binOp,Op.intBits]
theorem Du{t:TypeId}{a b:Int}(w:World)(ha:IZ a)(hb:IZ b):(BX .or t xo yo (.int .u64 a) (.int .u64 b)).run prog w=.ok (.int .u64 (MK a b)) w:=by
 rw[(KA w).1];have e:((BitVec.ofInt IntKind.u64.bits a ||| BitVec.ofInt IntKind.u64.bits b).toNat:Int)=MK a b:=gz ha hb;rw[e,Gq (Ea ha hb)]
theorem Kn{t:TypeId}{a b:Int}(w:World)(ha:IZ a)(hb:IZ b):(BX .and t xo yo (.int .u64 a) (.int .u64 b)).run prog w=.ok (.int .u64 ((a.toNat &&& b.toNat:Nat):Int)) w:=by
 rw[(KA w).2];have e:((BitVec.ofInt IntKind.u64.bits a &&& BitVec.ofInt IntKind.u64.bits b).toNat:Int)=((a.toNat &&& b.toNat:Nat):Int):=bv_and ha hb;rw[e,Gq ⟨by omega,?_⟩];have:=Nat.and_le_left (n:=a.toNat) (m:=b.toNat);have:=ha.2;have:=ha.1;omega
def Xw(x:Int)(j:Nat):Int:=x*2 ^ (8*j)
def HJ(b:List Int):Int:=MK (MK (MK (MK (MK (MK (MK (b.getD 0 0) (Xw (b.getD 1 0) 1)) (Xw (b.getD 2 0) 2)) (Xw (b.getD 3 0) 3)) (Xw (b.getD 4 0) 4)) (Xw (b.getD 5 0) 5)) (Xw (b.getD 6 0) 6)) (Xw (b.getD 7 0) 7)
abbrev Bv(b:List Int):Prop:=∀x∈b,0<=x/\x<256
theorem Bv.getD{b:List Int}(h:Bv b)(j:Nat):0<=b.getD j 0/\b.getD j 0<256:=by
 rw[lE];cases e:b[j]? with
 |none=>simp
 |some x=>exact h x (lY.2 ⟨j,e⟩)
theorem Bv.drop{b:List Int}(h:Bv b)(j:Nat):Bv (b.drop j):=fun x i=>h x (kP i)
theorem OJ{x:Int}(h:0<=x/\x<256):IZ x:=⟨h.1,by omega⟩
theorem HS{b:List Int}(h:Bv b):IZ (HJ b):=by
 have u:∀j,j<8->IZ (Xw (b.getD j 0) j):=fun j i=>WS i (h.getD j).1 (h.getD j).2;unfold HJ;exact Ea (Ea (Ea (Ea (Ea (Ea (Ea (OJ (h.getD 0)) (u 1 (by decide))) (u 2 (by decide))) (u 3 (by decide))) (u 4 (by decide))) (u 5 (by decide))) (u 6 (by decide))) (u 7 (by decide))
theorem Wf{b:List Int}(h:Bv b)(o:j<8)(B:128<=b.getD j 0):Tz (HJ b) j:=by
 have i:=(Wz o B (h.getD j).2).2;unfold HJ;rcases(show j=0\/j=1\/j=2\/j=3\/j=4\/j=5\/j=6\/j=7 by omega) with rfl|rfl|rfl|rfl|rfl|rfl|rfl|rfl
 .rw[show b.getD 0 0*2 ^ (8*0)=b.getD 0 0 by omega] at i;exact .l (.l (.l (.l (.l (.l (.l i))))))
 .exact .l (.l (.l (.l (.l (.l (.r i))))))
 .exact .l (.l (.l (.l (.l (.r i)))))
 .exact .l (.l (.l (.l (.r i))))
 .exact .l (.l (.l (.r i)))
 .exact .l (.l (.r i))
 .exact .l (.r i)
 .exact .r i
theorem Ez{C:World->Prop}{p:Addr}{n c:Nat}{b:Int}{m:Int}{k:Value->Prop}(I:j<n)(hm:m=8*j)(i:j<8)(hb:0<=b/\b<256)(hc:∀w,C w->w.cell? (p.add (j*1))=some (.int .u8 b))(hk:k (.int .u64 (Xw b j))) :
  BQ 1 (.slice (some p) n c) (.int .i64 j) fun o=>BJ C o fun B=>Bk prog C (convert 5 75 B) fun E=>Bk prog C (BX .shl 75 xo yo E (.int .u64 m)) k:=by
 refine AU I (Au hc ⟨.int .u64 (IntKind.u64.wrap b),fun w _=>FF (k:=.u64) w (by kernel_rfl) (by kernel_rfl),?_⟩);rw[Gq (OJ hb)];subst hm;refine⟨_,fun w _=>?_,hk⟩;have e:=SP (P:=prog) (t:=75) (xo:=xo) (yo:=yo) (k:=.u64) (q:=.u64) (a:=b) (n:=8*j) w (by show 8*j<=64;omega);rw[Gq (WS i hb.1 hb.2)] at e;have J:((8*j:Nat):Int)=8*(j:Int):=by omega
 rw[J] at e;exact e
theorem R4{b:List Int}(h:DF S w v b)(hb:Bv b)(hl:8<=b.length) :
  AB prog 300 [v] (fun v' w'=>v'=.int .u64 (HJ b)/\Grow w w') w:=by
 apply aF;obtain⟨a,c,rfl,hm⟩:=h.shape;have cell:∀j (i:j<b.length),∃p,a=some p/\w.cell? (p.add (j*1))=some (.int .u8 (b.getD j 0)):=by
  intro j i;obtain⟨p,r,rfl,_,hr,hc,rfl⟩:=h.get i;refine⟨p,rfl,?_⟩;rw[lE,By i];exact hc 0 _ rfl
 obtain⟨p,rfl,c0⟩:=cell 0 (by omega);have o:∀j,j<b.length->w.cell? (p.add (j*1))=some (.int .u8 (b.getD j 0)):=fun j i=>by obtain⟨U,e,hc⟩:=cell j i;cases e;exact hc
 refine Ce (fun w2=>Grow w w2) (Mod.drew _ _) ?_;have hc:∀j,j<b.length->∀w2,Grow w w2->w2.cell? (p.add (j*1))=some (.int .u8 (b.getD j 0)):=fun j i w2 g=>g.cell (o j i) fun h=>h;have u:∀j,j<8->IZ (Xw (b.getD j 0) j):=fun j i=>WS i (hb.getD j).1 (hb.getD j).2;refine AU (j:=0) (by omega) (Au (hc 0 (by omega)) ⟨.int .u64 (IntKind.u64.wrap (b.getD 0 0)),fun w _=>FF (k:=.u64) w (by kernel_rfl) (by kernel_rfl),?_⟩);rw[Gq (OJ (hb.getD 0))];have B:=OJ (hb.getD 0);refine Ez (j:=1) (by omega) rfl (by decide) (hb.getD 1) (hc 1 (by omega)) ⟨_,fun w _=>Du w B (u 1 (by decide)),?_⟩;have E:=Ea B (u 1 (by decide));refine Ez (j:=2) (by omega) rfl (by decide) (hb.getD 2) (hc 2 (by omega)) ⟨_,fun w _=>Du w E (u 2 (by decide)),?_⟩;have I:=Ea E (u 2 (by decide));refine Ez (j:=3) (by omega) rfl (by decide) (hb.getD 3) (hc 3 (by omega)) ⟨_,fun w _=>Du w I (u 3 (by decide)),?_⟩;have J:=Ea I (u 3 (by decide));refine Ez (j:=4) (by omega) rfl (by decide) (hb.getD 4) (hc 4 (by omega)) ⟨_,fun w _=>Du w J (u 4 (by decide)),?_⟩;have O:=Ea J (u 4 (by decide));refine Ez (j:=5) (by omega) rfl (by decide) (hb.getD 5) (hc 5 (by omega)) ⟨_,fun w _=>Du w O (u 5 (by decide)),?_⟩;have Q:=Ea O (u 5 (by decide));refine Ez (j:=6) (by omega) rfl (by decide) (hb.getD 6) (hc 6 (by omega)) ⟨_,fun w _=>Du w Q (u 6 (by decide)),?_⟩;have T:=Ea Q (u 6 (by decide));refine Ez (j:=7) (by omega) rfl (by decide) (hb.getD 7) (hc 7 (by omega)) ⟨_,fun w _=>Du w T (u 7 (by decide)),?_⟩;exact fun w2 g=>⟨rfl,g⟩
theorem EP{b:List Int}(hb:Bv b)(h:((HJ b).toNat &&& 9259542123273814144:Nat)=0)(i:j<8):b.getD j 0<128:=by
 have:=Vi h i;have o:¬128<=b.getD j 0:=fun o=>this (Wf hb i o);omega
def firstT(x:Int):Int:=if x<194 then 241 else if x<224 then 2 else if x=224 then 19 else if x=237 then 35 else if x<240 then 3 else if x=240 then 52 else if x<244 then 4 else if x=244 then 68 else 241
def accLo(j:Nat):Int:=if j=1 then 160 else if j=3 then 144 else if j<5 then 128 else 0
def accHi(j:Nat):Int:=if j=2 then 159 else if j=4 then 143 else if j<5 then 191 else 0
structure E2 (w:World):Prop where
 size:2<w.heap.size
 first:∀j:Nat,128<=j->j<256->w.cell? ⟨1,j,none⟩=some (.int .u8 (firstT j))
 acc:∀j:Nat,j<16->w.cell? ⟨2,j*2,none⟩=some (.int .u8 (accLo j))/\w.cell? ⟨2,j*2+1,none⟩=some (.int .u8 (accHi j))
theorem E2.grow(h:E2 w)(g:Grow w w'):E2 w':=
 ⟨WL h.size g.size,fun j h1 o=>g.cell (h.first j h1 o) fun h=>h,fun j i=>⟨g.cell (h.acc j i).1 fun h=>h,g.cell (h.acc j i).2 fun h=>h⟩⟩
theorem eV{x:Int}(h0:128<=x)(h1:x<256):∃(f:Int) (z j:Nat),firstT x=f/\0<=f/\f<256/\(f.toNat &&& 7)=z/\f/16=j/\j<16/\(z=CS x\/CS x=0/\z=1)/\(CS x≠0->accLo j=JP x/\accHi j=I6 x):=by
 unfold firstT CS JP I6;by_cases i:x<194
 .exact⟨241,1,15,by rw[Io i],by decide,by decide,by decide,by decide,by decide,by rw[Io i];exact .inr ⟨rfl,rfl⟩,by rw[Io i];exact fun h=>absurd rfl h⟩
 rw[C3 i,C3 i];by_cases o:x<224
 .rw[Io o,Io o];exact⟨2,2,0,rfl,by decide,by decide,by decide,by decide,by decide,.inl rfl,fun _=>⟨by rw[C3 (by omega),C3 (by omega)];rfl,by rw[C3 (by omega),C3 (by omega)];rfl⟩⟩
 rw[C3 o,C3 o];by_cases a3:x=224
 .subst a3;exact⟨19,3,1,rfl,by decide,by decide,by decide,by decide,by decide,.inl rfl,fun _=>⟨rfl,rfl⟩⟩
 rw[C3 a3,C3 a3];by_cases a4:x=237
 .subst a4;exact⟨35,3,2,rfl,by decide,by decide,by decide,by decide,by decide,.inl rfl,fun _=>⟨rfl,rfl⟩⟩
 rw[C3 a4,C3 a4];by_cases a5:x<240
 .rw[Io a5,Io a5];exact⟨3,3,0,rfl,by decide,by decide,by decide,by decide,by decide,.inl rfl,fun _=>⟨by rw[C3 (by omega)];rfl,by rw[C3 (by omega)];rfl⟩⟩
 rw[C3 a5,C3 a5];by_cases B:x=240
 .subst B;exact⟨52,4,3,rfl,by decide,by decide,by decide,by decide,by decide,.inl rfl,fun _=>⟨rfl,rfl⟩⟩
 rw[C3 B,C3 B];by_cases E:x<244
 .rw[Io E,Io (by omega)];exact⟨4,4,0,rfl,by decide,by decide,by decide,by decide,by decide,.inl rfl,fun _=>⟨rfl,by rw[C3 (by omega)];rfl⟩⟩
 rw[C3 E];by_cases I:x=244
 .subst I;exact⟨68,4,4,rfl,by decide,by decide,by decide,by decide,by decide,.inl rfl,fun _=>⟨rfl,rfl⟩⟩
 rw[C3 I,C3 (by omega)];exact⟨241,1,15,rfl,by decide,by decide,by decide,by decide,by decide,.inr ⟨rfl,rfl⟩,fun h=>absurd rfl h⟩
theorem QH(x:Int):CS x=0\/CS x=2\/CS x=3\/CS x=4:=by
 unfold CS
 (repeat' split)<;>simp
theorem XB{t:TypeId}{a:Int}{z:Nat}(w:World)(h0:0<=a)(h1:a<256)(i:(a.toNat &&& 7)=z):(BX .and t xo yo (.int .u8 a) (.int .u8 7)).run prog w=.ok (.int .u8 z) w:=by
 rw[(KA w).2];have e:((BitVec.ofInt IntKind.u8.bits a &&& BitVec.ofInt IntKind.u8.bits 7).toNat:Int)=((a.toNat &&& 7:Nat):Int):=by
  show((BitVec.ofInt 8 a &&& BitVec.ofInt 8 7).toNat:Int)=_;rw[BitVec.toNat_and,lx,lx];have e:((2 ^ 8:Nat):Int)=256:=by decide
  rw[e,mN h0 h1];rfl
 have j:z<=7:=i▸Nat.and_le_right;rw[e,i];congr 2
 have o:(2:Int) ^ IntKind.u8.bits=256:=by decide
 simp only[IntKind.wrap,o,IntKind.signed,og];rw[C3 (by decide)];omega
def Rz(v:Value):Nat:=match v with|.slice _ n _=>n|_=>0
theorem LC{l:List Int}{k:Nat}(hl:Bv l)(hk:k<=l.length)(h:∀j,j<k->l.getD j 0<128):(Bs l).isSome=(Bs (l.drop k)).isSome:=by
 refine RQ hk fun j x o i=>?_;have:=h j o;rw[lE,i] at this;exact⟨(hl x (lY.2 ⟨j,i⟩)).1,this⟩
theorem Ic(l:List Int)(k j:Nat):(l.drop k).getD j 0=l.getD (k+j) 0:=by
 rw[lE,lE,lL]
theorem Gg{a b c:Nat}(h:((a ||| b) &&& c)=0):(a &&& c)=0/\(b &&& c)=0:=by
 rw[Nat.and_or_distrib_right] at h;exact Nat.or_eq_zero_iff.1 h
theorem Oo{n:Nat}(h:((n &&& (9259542123273814144:Int).toNat:Nat):Int)=0):(n &&& 9259542123273814144)=0:=Int.ofNat_inj.1 h
set_option maxRecDepth 10000 in
theorem Vw{b:List Int}(h:DF S w v b)(hb:Bv b)(hT:E2 w) :
  AB prog 297 [v] (fun v' w'=>v'=.bool (Bs b).isSome/\Grow w w') w:=by
 apply ab;have hu:prog.underlying 293=some (.slice 5):=by kernel_rfl
 have hi:prog.info? 5=some Tryz.t5:=by kernel_rfl
 have hs:Tryz.t5.size=1:=by kernel_rfl
 obtain⟨a,c,rfl,hm⟩:=h.shape;obtain⟨_,_,e0,e4,_,_⟩:=id h;cases e0;rw[AP,AP];obtain⟨a',e5,e6⟩:=Mn (a:=a) (n:=b.length) (c:=c) hu hi hs e4 w;refine Ag e5 ?_;have h':DF S w (.slice a' b.length b.length) b:=by
  obtain⟨_,_,e0,h1,h2,h3⟩:=h;cases e0;refine⟨_,_,rfl,Lc _,hm,fun i x hx=>?_⟩;obtain⟨p,r,rfl,q⟩:=h3 i x hx;have:=(Bp.1 hx).1;exact⟨p,r,e6 (by omega),q⟩
 refine Ab (fun vs W=>∃l v1,vs=[v1]/\DF S W v1 l/\Bv l/\(Bs b).isSome=(Bs l).isSome/\Grow w W) (fun vs _=>Rz (nth vs 0)) ⟨b,_,rfl,h',hb,rfl,Mod.refl _ _⟩ ?_;rintro vs W ⟨l,v1,rfl,hl,hB,b5,gW⟩ _;rw[B0,Of];obtain⟨p1,c1,rfl,e7⟩:=hl.shape;simp only[maxLen] at e7;rw[AP,BR];refine AF (fun bl=>?_) fun en=>?_;rotate_left
 .have:l=[]:=QC (by omega);subst this;exact⟨by rw[b5,Nq];rfl,gW⟩
 have E:∀{W':World} {v':Value} {Q:List Int},DF S W' v' Q->Bv Q->(Bs l).isSome=(Bs Q).isSome->Q.length<l.length->Grow w W'->
   ((∃l v1,[v']=[v1]/\DF S W' v1 l/\Bv l/\(Bs b).isSome=(Bs l).isSome/\Grow w W')/\Rz (nth [v'] 0)<Rz (nth [Value.slice p1 l.length c1] 0)):=by
  intro W' v' Q h1 h2 h3 h4 h5;obtain⟨q,d,rfl,_⟩:=h1.shape;exact⟨⟨Q,_,rfl,h1,h2,b5.trans h3,h5⟩,h4⟩
 have sl:∀{W':World} {q:Option Addr} {n d j:Nat} {Q:List Int} {K:Cont},DF S W' (.slice q n d) Q->j<=Q.length->(∀v',DF S W' v' (Q.drop j)->K v' W')->runK prog (Instr.sliceAt 293 (.slice q n d) (some (.int .i64 j)) none none) K W':=
  fun h1 h2 h3=>Hq (e:=5) (i:=Tryz.t5) hu hi hs h1 h2 h3
 have ge:∀{W1 U:World} {v':Value} {Q:List Int},DF S W1 v' Q->Grow W1 U->DF S U v' Q:=fun h1 g=>h1.grow g (by decide) fun _ _ h=>h;have wq:∀{W1:World} {v':Value} {Q:List Int} {K:Value->Prop},DF S W1 v' Q->Bv Q->8<=Q.length->K (.int .u64 (HJ Q))->Fa prog (fun U=>Grow W1 U) 300 [v'] K:=by
  intro W1 v' Q K h1 h2 h3 h4;refine⟨_,fun w2 g=>AA (R4 (ge h1 g) h2 h3) ?_,h4⟩;rintro _ w3 ⟨rfl,g3⟩;exact⟨rfl,g.trans g3⟩
 obtain⟨x,t,rfl⟩:∃x t,l=x::t:=by cases l with|nil=>simp at bl|cons x t=>exact⟨x,t,rfl⟩
 have hx:=hB x kf;have I:Bv t:=fun y hy=>hB y (fX _ hy);obtain⟨p,r,rfl,_,hr,hc,rfl⟩:=hl.get (i:=0) (by simp);have cx:W.cell? (p.add (0*1+0))=some (.int .u8 x):=hc 0 _ rfl;refine AU (j:=0) (by simp) (AK cx ?_);show Bb .u8 (.int .u8 x) _ _;refine H6 (fun e8=>?_) fun er=>?_
 .have bn:(Bs (x::t)).isSome=(Bs t).isSome:=by
   have:=LC (l:=x::t) (k:=1) hB (by simp) fun j hj=>by
    have:j=0:=by omega
    subst this;exact e8
   simpa using this
  refine sl hl (j:=1) (by simp) fun v2 a7=>?_;rw[lZ,lh] at a7;obtain⟨q2,d2,rfl,_⟩:=a7.shape;refine AT (fun vs U=>Grow W U/\∃q:Bool,vs=[.bool q]/\(q=true->8<=t.length/\∀j,j<8->t.getD j 0<128)) ?_ ?_
  .rintro vs U ⟨g2,q,rfl,hq⟩ _;rw[B0,Of];cases q with
   |false=>exact AV (E (ge a7 g2) I bn (by simp) (gW.trans g2))
   |true=>
    obtain⟨h8,e9⟩:=hq rfl;refine As (sl (ge a7 g2) (j:=8) h8 fun v3 J=>?_);have O:Bv (t.drop 8):=Bv.drop I 8;have b4:(Bs (x::t)).isSome=(Bs (t.drop 8)).isSome:=bn.trans (LC I h8 e9);have bp:(t.drop 8).length<(x::t).length:=by simp;omega
    generalize t.drop 8=l3 at J O b4 bp;obtain⟨q3,d3,rfl,_⟩:=J.shape;refine AT (fun vs W3=>Grow W W3/\Grow U W3/\∃q:Bool,vs=[.bool q]/\(q=true->16<=l3.length/\∀j,j<16->l3.getD j 0<128)) ?_ ?_
    .rintro vs W3 ⟨g3,bs,q,rfl,hq⟩ _;rw[B0,Of];cases q with
     |false=>exact AV (E (ge J bs) O b4 bp (gW.trans g3))
     |true=>
      obtain⟨b7,bx⟩:=hq rfl;refine As (sl (ge J bs) (j:=16) b7 fun v4 ea=>?_);refine Ab (fun vs W4=>∃l4 v5,vs=[v5]/\DF S W4 v5 l4/\Bv l4/\(Bs (x::t)).isSome=(Bs l4).isSome/\l4.length<(x::t).length/\Grow W W4) (fun vs _=>Rz (nth vs 0))
       ⟨_,_,rfl,ea,Bv.drop O 16,b4.trans (LC O b7 bx),by simp only[K8];omega,g3⟩ ?_
      rintro vs W4 ⟨l4,v5,rfl,a6,B,b8,c4,g4⟩ _;rw[B0,Of];obtain⟨q5,d5,rfl,_⟩:=a6.shape;refine Ce (fun W'=>Grow W4 W') (Mod.drew _ _) ?_;rw[AP,BR];refine AF (fun et=>?_) fun _=>fun W' g'=>E (ge a6 g') B b8 c4 (gW.trans (g4.trans g'));have eo:32<l4.length:=by omega
      have run:=fun(j:Nat) (hj:j<=l4.length) (w':World)=>Er (a:=q5) (n:=l4.length) (c:=d5) hu hi hs hj w';have b9:=fun(j:Nat) (hj:j<=l4.length)=>Kr a6 hj;refine wq a6 B (by omega) ?_;refine⟨_,fun w' _=>run 8 (by omega) w',?_⟩;refine wq (b9 8 (by omega)) (Bv.drop B 8) (by simp only[K8];omega) ?_;have u0:=HS B;have u1:=HS (Bv.drop B 8);have u2:=HS (Bv.drop B 16);have u3:=HS (Bv.drop B 24);refine⟨_,fun w' _=>Du w' u0 u1,?_⟩;refine⟨_,fun w' _=>run 16 (by omega) w',?_⟩;refine wq (b9 16 (by omega)) (Bv.drop B 16) (by simp only[K8];omega) ?_;refine⟨_,fun w' _=>run 24 (by omega) w',?_⟩;refine wq (b9 24 (by omega)) (Bv.drop B 24) (by simp only[K8];omega) ?_;refine⟨_,fun w' _=>Du w' u2 u3,?_⟩;refine⟨_,fun w' _=>Du w' (Ea u0 u1) (Ea u2 u3),?_⟩;refine⟨_,fun w' _=>Kn w' (Ea (Ea u0 u1) (Ea u2 u3)) (by unfold IZ;decide),?_⟩;show DJ .u64 (.int .u64 _) _ _;rw[Al];intro W' g';refine AF (fun hz=>?_) fun _=>E (ge a6 g') B b8 c4 (gW.trans (g4.trans g'));have a8:((MK (MK (HJ l4) (HJ (l4.drop 8))) (MK (HJ (l4.drop 16)) (HJ (l4.drop 24)))).toNat &&& 9259542123273814144:Nat)=0:=Oo hz;simp only[MK,lI] at a8;obtain⟨z1,z2⟩:=Gg a8;obtain⟨z3,z4⟩:=Gg z1;obtain⟨z5,z6⟩:=Gg z2;have ec:∀j,j<32->l4.getD j 0<128:=by
       intro j hj;rcases(show j<8\/8<=j/\j<16\/16<=j/\j<24\/24<=j by omega) with h|h|h|h
       .exact EP B z3 h
       .have:=EP (Bv.drop B 8) z4 (j:=j-8) (by omega);rw[Ic,show 8+(j-8)=j by omega] at this;exact this
       .have:=EP (Bv.drop B 16) z5 (j:=j-16) (by omega);rw[Ic,show 16+(j-16)=j by omega] at this;exact this
       .have:=EP (Bv.drop B 24) z6 (j:=j-24) (by omega);rw[Ic,show 24+(j-24)=j by omega] at this;exact this
      refine sl (ge a6 g') (j:=32) (by omega) fun v6 c6=>?_;obtain⟨q6,d6,rfl,_⟩:=c6.shape;refine⟨⟨_,_,rfl,c6,Bv.drop B 32,b8.trans (LC B (by omega) ec),by simp only[K8];omega,g4.trans g'⟩,?_⟩;show(l4.drop 32).length<l4.length;rw[K8];omega
    .refine Ce (fun W'=>Grow U W') (Mod.drew _ _) ?_;rw[AP,BR];refine AF (fun b7=>?_) fun _=>fun W' g'=>⟨g2.trans g',g',false,rfl,fun h=>(nomatch h)⟩;have ep:16<l3.length:=by omega
     refine wq J O (by omega) ?_;refine⟨_,fun w' _=>Er (a:=q3) (n:=l3.length) (c:=d3) hu hi hs (j:=8) (by omega) w',?_⟩;refine wq (Kr J (by omega)) (Bv.drop O 8) (by simp only[K8];omega) ?_;have u0:=HS O;have u1:=HS (Bv.drop O 8);refine⟨_,fun w' _=>Du w' u0 u1,?_⟩;refine⟨_,fun w' _=>Kn w' (Ea u0 u1) (by unfold IZ;decide),?_⟩;show DJ .u64 (.int .u64 _) _ _;rw[Al];intro W' g';refine⟨g2.trans g',g',_,rfl,fun hz=>?_⟩;rw[S6] at hz;have a8:((MK (HJ l3) (HJ (l3.drop 8))).toNat &&& 9259542123273814144:Nat)=0:=Oo hz;simp only[MK,lI] at a8;obtain⟨z1,z2⟩:=Gg a8;refine⟨by omega,fun j hj=>?_⟩;rcases(show j<8\/8<=j by omega) with h|h
     .exact EP O z1 h
     .have:=EP (Bv.drop O 8) z2 (j:=j-8) (by omega);rw[Ic,show 8+(j-8)=j by omega] at this;exact this
  .rw[AP,BR];refine AF (fun h8=>?_) fun _=>⟨Mod.refl _ _,false,rfl,fun h=>(nomatch h)⟩;have eu:8<t.length:=by omega
   refine AA (R4 a7 I (by omega)) ?_;rintro _ U ⟨rfl,g2⟩;refine Ag (Kn U (HS I) (by unfold IZ;decide)) ?_;rw[Al];refine⟨g2,_,rfl,fun hz=>?_⟩;rw[S6] at hz;exact⟨by omega,fun j hj=>EP I (Oo hz) hj⟩
 .have bad:Cv (x::t)=(0,0)->∀{W'},Grow w W'->Value.bool false=.bool (Bs b).isSome/\Grow w W':=fun e W' g=>⟨by rw[b5,JA (by simp),e];rfl,g⟩;have Fc:∀{n:Nat} {r:Int},Cv (x::t)=(r,n)->0<n->(Bs (x::t)).isSome=(Bs ((x::t).drop n)).isSome:=by
   intro n r e V;rw[JA (by simp),e];show(decide (n≠0)&&_)=_;rw[kj (show n≠0 by omega),nf]
  obtain⟨f,z,j,hf,ed,ee,hz,hj,c7,ew,ak⟩:=eV (x:=x) (by omega) hx.2;have c8:=hT.grow gW;have cf:W.cell? (Addr.add ⟨1,0,none⟩ (x.toNat*1))=some (.int .u8 f):=by
   rw[AH,nA,<-hf];have:=c8.first x.toNat (by omega) (by omega);rwa [show((x.toNat:Nat):Int)=x by omega] at this
  refine Ag (Hm (n:=256) (e:=5) (i:=Tryz.t5) (s:=1) (by kernel_rfl) (by kernel_rfl) (by kernel_rfl) hx.1 (by omega)) (AK cf ?_);refine Ag (XB W ed ee hz) ?_;refine Ag (FF (k:=.i64) W (by kernel_rfl) (by kernel_rfl)) ?_;have eA:z<=7:=hz▸Nat.and_le_right;rw[wrap64 (by omega) (by omega)];refine Ag (OK (n:=4) W (by decide)) ?_;have ej:f.fdiv (2 ^ 4)=(j:Int):=by
   rw[nu _ (by decide),<-hj];rfl
  rw[ej];refine Ag (Hm (n:=16) (e:=383) (i:=Tryz.t383) (s:=2) (by kernel_rfl) (by kernel_rfl) (by kernel_rfl) (by omega) (by omega)) ?_;rw[lI,AH];obtain⟨ca,cb⟩:=c8.acc j c7;refine Aj (vs:=[.int .u8 (accLo j),.int .u8 (accHi j)]) rfl (fun q u hu=>?_) ?_
  .rcases q with _|_|q
   .cases hu;exact ca
   .cases hu;exact cb
   .simp at hu
  refine BS (vs:=[.int .u8 (accLo j),.int .u8 (accHi j)]) rfl rfl (fun u hu=>by simp at hu;rcases hu with rfl|rfl<;>rfl) fun b6 U c9 eB g6 cc _=>?_;have ba:=cc 0 _ rfl;have bb:=cc 1 _ rfl;have o:=gW.trans g6;have T:=ge hl g6;have dT:0<(x::t).length:=by simp
  rw[Al];refine AF (fun h2=>?_) fun h2=>?_
  .have eC:z=2:=by omega
   have X:CS x=2:=by omega
   obtain⟨cd,ch⟩:=ak (by omega);refine AT (fun _ W3=>Grow U W3/\2<=(x::t).length/\(Bs (x::t)).isSome=(Bs ((x::t).drop 2)).isSome) ?_ ?_
   .rintro vs W3 ⟨g3,al,an⟩ _;refine sl (ge T g3) (j:=2) al fun v3 J=>?_;exact E J (Bv.drop hB 2) an (by rw[K8];omega) (o.trans g3)
   refine Ce (fun W'=>Grow U W') (Mod.drew _ _) ?_;rw[AP,Ap];refine AF (fun cn=>fun W' g'=>bad (DT hx.2 (by rw[X];omega)) (o.trans g')) fun Y=>?_;obtain⟨y1,t1,rfl⟩:∃y t',t=y::t':=by cases t with|nil=>simp at Y|cons y t'=>exact⟨y,t',rfl⟩
   have Z:=I y1 kf;have V:=Xr (t:=t1) X Z.1 Z.2;obtain⟨_,r1,e1,_,cv,av,rfl⟩:=T.get (i:=1) (by simp);cases e1;have a1:=av 0 _ rfl;refine AU (j:=1) (by simp) (Au (fun w' g=>g.cell a1 fun h=>h) ?_);rw[AG];refine Au (fun w' g=>g.cell ba fun h=>h) ?_;show Bb .u8 (.int .u8 y1) _ _;rw[Ap];refine AF (fun ax=>fun W' g'=>bad (by rw[V,C3 (by omega)]) (o.trans g')) fun ax=>?_;rw[AG];refine Au (fun w' g=>g.cell bb fun h=>h) ?_;refine AU (j:=1) (by simp) (Au (fun w' g=>g.cell a1 fun h=>h) ?_);show Bb .u8 _ (.int .u8 y1) _;rw[Ap];intro W' g';refine AF (fun ay=>bad (by rw[V,C3 (by omega)]) (o.trans g')) fun ay=>?_;exact⟨g',by simp,Fc (by rw[V,Io (by omega)]) (by decide)⟩
  rw[Al];refine AF (fun h3=>?_) fun h3=>?_
  .have eI:z=3:=by omega
   have X:CS x=3:=by omega
   obtain⟨cd,ch⟩:=ak (by omega);refine AT (fun _ W3=>Grow U W3/\3<=(x::t).length/\(Bs (x::t)).isSome=(Bs ((x::t).drop 3)).isSome) ?_ ?_
   .rintro vs W3 ⟨g3,al,an⟩ _;refine sl (ge T g3) (j:=3) al fun v3 J=>?_;exact E J (Bv.drop hB 3) an (by rw[K8];omega) (o.trans g3)
   refine Ce (fun W'=>Grow U W') (Mod.drew _ _) ?_;rw[AP,Ap];refine AF (fun cn=>fun W' g'=>bad (DT hx.2 (by rw[X];omega)) (o.trans g')) fun Y=>?_;obtain⟨y1,y2,t1,rfl⟩:∃y y2 t',t=y::y2::t':=by
    rcases t with _|⟨y,_|⟨y2,t'⟩⟩
    .simp at Y
    .simp at Y
    .exact⟨y,y2,t',rfl⟩
   have Z:=I y1 kf;have b0:=I y2 (fX _ kf);have V:=XP (t:=t1) X Z.1 Z.2 b0.1 b0.2;obtain⟨_,r1,e1,_,cv,av,rfl⟩:=T.get (i:=1) (by simp);cases e1;have a1:=av 0 _ rfl;obtain⟨_,r2,e2,_,ef,bc,rfl⟩:=T.get (i:=2) (by simp);cases e2;have b3:=bc 0 _ rfl;refine AU (j:=1) (by simp) (Au (fun w' g=>g.cell a1 fun h=>h) ?_);rw[AG];refine Au (fun w' g=>g.cell ba fun h=>h) ?_;show Bb .u8 (.int .u8 y1) _ _;rw[Ap];refine AF (fun ax=>fun W' g'=>bad (by rw[V,C3 (by omega)]) (o.trans g')) fun ax=>?_;rw[AG];refine Au (fun w' g=>g.cell bb fun h=>h) ?_;refine AU (j:=1) (by simp) (Au (fun w' g=>g.cell a1 fun h=>h) ?_);show Bb .u8 _ (.int .u8 y1) _;rw[Ap];refine AF (fun ay=>fun W' g'=>bad (by rw[V,C3 (by omega)]) (o.trans g')) fun ay=>?_;refine AU (j:=2) (by simp) (Au (fun w' g=>g.cell b3 fun h=>h) ?_);show Bb .u8 (.int .u8 y2) _ _;rw[Ap];refine AF (fun bd=>fun W' g'=>bad (by rw[V,C3 (by omega)]) (o.trans g')) fun bd=>?_;refine AU (j:=2) (by simp) (Au (fun w' g=>g.cell b3 fun h=>h) ?_);show Bb .u8 _ (.int .u8 y2) _;rw[Ap];intro W' g';refine AF (fun bk=>bad (by rw[V,C3 (by omega)]) (o.trans g')) fun bk=>?_;exact⟨g',by simp,Fc (by rw[V,Io (by omega)]) (by decide)⟩
  rw[Al];refine AF (fun h4=>?_) fun h4=>?_
  .have eL:z=4:=by omega
   have X:CS x=4:=by omega
   obtain⟨cd,ch⟩:=ak (by omega);refine AT (fun _ W3=>Grow U W3/\4<=(x::t).length/\(Bs (x::t)).isSome=(Bs ((x::t).drop 4)).isSome) ?_ ?_
   .rintro vs W3 ⟨g3,al,an⟩ _;refine sl (ge T g3) (j:=4) al fun v3 J=>?_;exact E J (Bv.drop hB 4) an (by rw[K8];omega) (o.trans g3)
   refine Ce (fun W'=>Grow U W') (Mod.drew _ _) ?_;rw[AP,Ap];refine AF (fun cn=>fun W' g'=>bad (DT hx.2 (by rw[X];omega)) (o.trans g')) fun Y=>?_;obtain⟨y1,y2,y3,t1,rfl⟩:∃y y2 y3 t',t=y::y2::y3::t':=by
    rcases t with _|⟨y,_|⟨y2,_|⟨y3,t'⟩⟩⟩
    .simp at Y
    .simp at Y
    .simp at Y
    .exact⟨y,y2,y3,t',rfl⟩
   have Z:=I y1 kf;have b0:=I y2 (fX _ kf);have dk:=I y3 (fX _ (fX _ kf));have V:=Wo (t:=t1) X Z.1 Z.2 b0.1 b0.2 dk.1 dk.2;obtain⟨_,r1,e1,_,cv,av,rfl⟩:=T.get (i:=1) (by simp);cases e1;have a1:=av 0 _ rfl;obtain⟨_,r2,e2,_,ef,bc,rfl⟩:=T.get (i:=2) (by simp);cases e2;have b3:=bc 0 _ rfl;obtain⟨_,r3,e3,_,b4,eh,rfl⟩:=T.get (i:=3) (by simp);cases e3;have dv:=eh 0 _ rfl;refine AU (j:=1) (by simp) (Au (fun w' g=>g.cell a1 fun h=>h) ?_);rw[AG];refine Au (fun w' g=>g.cell ba fun h=>h) ?_;show Bb .u8 (.int .u8 y1) _ _;rw[Ap];refine AF (fun ax=>fun W' g'=>bad (by rw[V,C3 (by omega)]) (o.trans g')) fun ax=>?_;rw[AG];refine Au (fun w' g=>g.cell bb fun h=>h) ?_;refine AU (j:=1) (by simp) (Au (fun w' g=>g.cell a1 fun h=>h) ?_);show Bb .u8 _ (.int .u8 y1) _;rw[Ap];refine AF (fun ay=>fun W' g'=>bad (by rw[V,C3 (by omega)]) (o.trans g')) fun ay=>?_;refine AU (j:=2) (by simp) (Au (fun w' g=>g.cell b3 fun h=>h) ?_);show Bb .u8 (.int .u8 y2) _ _;rw[Ap];refine AF (fun bd=>fun W' g'=>bad (by rw[V,C3 (by omega)]) (o.trans g')) fun bd=>?_;refine AU (j:=2) (by simp) (Au (fun w' g=>g.cell b3 fun h=>h) ?_);show Bb .u8 _ (.int .u8 y2) _;rw[Ap];refine AF (fun bk=>fun W' g'=>bad (by rw[V,C3 (by omega)]) (o.trans g')) fun bk=>?_;refine AU (j:=3) (by simp) (Au (fun w' g=>g.cell dv fun h=>h) ?_);show Bb .u8 (.int .u8 y3) _ _;rw[Ap];refine AF (fun ek=>fun W' g'=>bad (by rw[V,C3 (by omega)]) (o.trans g')) fun ek=>?_;refine AU (j:=3) (by simp) (Au (fun w' g=>g.cell dv fun h=>h) ?_);show Bb .u8 _ (.int .u8 y3) _;rw[Ap];intro W' g';refine AF (fun c9=>bad (by rw[V,C3 (by omega)]) (o.trans g')) fun c9=>?_;exact⟨g',by simp,Fc (by rw[V,Io (by omega)]) (by decide)⟩
  .exact bad (Pq hB (by omega) (by have:=QH x;omega)) o
def OC:Nat->Nat->List Int
 |0,n=>[(n:Int)]
 |f+1,n=>if n<=127 then[(n:Int)] else((n%128+128:Nat):Int)::OC f (n/128)
def uv(n:Nat):List Int:=OC 9 n
def Hd(n:Int):Nat:=if 0<=n then(2*n).toNat else(-2*n-1).toNat
theorem QL{a b:Int}(h:Hd a=Hd b):a=b:=by
 unfold Hd at h;split at h<;>split at h<;>omega
theorem HX{n:Int}(h0:-9223372036854775808<=n)(h1:n<=9223372036854775807):Hd n<18446744073709551616:=by
 unfold Hd;split<;>omega
theorem YJ:∀{f n m:Nat} {x y:List Int},n<128 ^ (f+1)->m<128 ^ (f+1)->OC f n++x=OC f m++y->n=m/\x=y:=by
 intro f;induction f with
 |zero=>
  intro n m x y _ _ h;simp only[OC,qQ,mE] at h;exact⟨by omega,h.2⟩
 |succ f j=>
  intro n m x y o hm h;rw[qm] at o hm;simp only[OC] at h;by_cases h1:n<=127<;>by_cases i:m<=127
  .rw[Io h1,Io i] at h;simp only[qQ,mE] at h;exact⟨by omega,h.2⟩
  .rw[Io h1,C3 i] at h;simp only[WJ,mE] at h;omega
  .rw[C3 h1,Io i] at h;simp only[WJ,mE] at h;omega
  .rw[C3 h1,C3 i] at h;simp only[WJ,mE] at h;have:=j (nw (by omega)) (nw (by omega)) h.2;exact⟨by omega,this.2⟩
theorem Mb{n m:Nat}{x y:List Int}(i:n<18446744073709551616)(hm:m<18446744073709551616)(h:uv n++x=uv m++y):n=m/\x=y:=by
 have e:(18446744073709551616:Nat)<=128 ^ (9+1):=by decide
 exact YJ (by omega) (by omega) h
theorem Ga:∀(f n:Nat),1<=(OC f n).length/\(OC f n).length<=f+1:=by
 intro f;induction f with
 |zero=>intro n;simp[OC]
 |succ f i=>
  intro n;simp only[OC];split
  .simp
  .have:=i (n/128);simp only[Vn];omega
theorem Wq:∀(f n:Nat),n<128 ^ (f+1)->∀x∈OC f n,0<=x/\x<256:=by
 intro f;induction f with
 |zero=>intro n j x i;simp only[OC,P9] at i;subst i;simp at j;omega
 |succ f o=>
  intro n j x i;rw[qm] at j;simp only[OC] at i;split at i
  .simp only[P9] at i;omega
  .rcases I3.1 i with rfl|i
   .omega
   .exact o _ (nw (by omega)) x i
theorem J6{n:Nat}(i:n<18446744073709551616):∀x∈uv n,0<=x/\x<256:=by
 have e:(18446744073709551616:Nat)<=128 ^ (9+1):=by decide
 exact Wq 9 n (by omega)
def Mk(a:Attr):Prop:=(-9223372036854775808<=a.key/\a.key<=9223372036854775807)/\(0<=a.val.kind/\a.val.kind<256)/\(-9223372036854775808<=a.val.n/\a.val.n<=9223372036854775807)/\(0<=a.val.f/\a.val.f<18446744073709551616)/\a.val.s.size<18446744073709551616
def Kg(a:Attr):List Int:=uv (Hd a.key)++(uv a.val.kind.toNat++(uv (Hd a.val.n)++(uv a.val.f.toNat++(uv a.val.s.size++Bu a.val.s))))
def GD(l:List Attr):List Int:=l.flatMap Kg
theorem RA{s t:ByteArray}(h:Bu s=Bu t):s=t:=by
 unfold Bu at h;have i:=(List.map_inj_right (f:=fun b:UInt8=>(b.toNat:Int)) (fun a b e=>UInt8.toNat_inj.1 (Int.ofNat_inj.1 e))).1 h;cases s;cases t;simp only[ByteArray.mk.injEq];exact ot.1 i
theorem DO(s:ByteArray):(Bu s).length=s.size:=by simp[Bu]
theorem Wv{a b:Attr}(ha:Mk a)(hb:Mk b){x y:List Int}(h:Kg a++x=Kg b++y):a=b/\x=y:=by
 obtain⟨i,T,a3,a4,a5⟩:=ha;obtain⟨b1,b2,j,U,o⟩:=hb;unfold Kg at h;simp only[PF] at h;obtain⟨B,h⟩:=Mb (HX i.1 i.2) (HX b1.1 b1.2) h;obtain⟨V,h⟩:=Mb (by omega) (by omega) h;obtain⟨E,h⟩:=Mb (HX a3.1 a3.2) (HX j.1 j.2) h;obtain⟨X,h⟩:=Mb (by omega) (by omega) h;obtain⟨I,h⟩:=Mb a5 o h;obtain⟨J,h⟩:=List.append_inj h (by rw[DO,DO,I]);refine⟨?_,h⟩;obtain⟨Y,O⟩:=a;obtain⟨Z,bv⟩:=b;obtain⟨v1,v2,v3,v4⟩:=O;obtain⟨Q,u2,S,u4⟩:=bv;simp only at *;have:=QL B;have:=QL E;have:=RA J;have:v1=Q:=by omega
 have:v3=S:=by omega
 subst_vars
 rfl
theorem Ve:∀{l m:List Attr},(∀a∈l,Mk a)->(∀a∈m,Mk a)->GD l=GD m->l=m:=by
 have ne:∀a x,Kg a++x≠[]:=fun a x e=>by
  have:=Ga 9 (Hd a.key);have h:=kM List.length e;simp only[Kg,Bq,kl,uv] at h;omega
 intro l;induction l with
 |nil=>
  intro m _ hm h;cases m with
  |nil=>rfl
  |cons b m=>exact absurd h.symm (by simpa[GD] using ne b (GD m))
 |cons a l j=>
  intro m hl hm h;cases m with
  |nil=>exact absurd h (by simpa[GD] using ne a (GD l))
  |cons b m=>
   simp only[GD,kp] at h;obtain⟨rfl,o⟩:=Wv (hl a kf) (hm b kf) h;rw[j (fun x i=>hl x (fX _ i)) (fun x i=>hm x (fX _ i)) (show GD l=GD m from o)]
def strOf(l:List Int):ByteArray:=⟨(l.map fun x=>UInt8.ofNat x.toNat).toArray⟩
theorem HU{l:List Int}(h:∀x∈l,0<=x/\x<256):Bu (strOf l)=l:=by
 unfold Bu strOf;simp only[mH];conv=>rhs;rw[<-List.map_id l]
 refine mj fun x i=>?_;have:=h x i;simp only[Function.comp,UInt8.toNat_ofNat',id];omega
theorem UP{a:Attr}(h:Mk a):∀x∈Kg a,0<=x/\x<256:=by
 obtain⟨j,o,a3,a4,a5⟩:=h;intro x i;simp only[Kg,DN] at i;rcases i with i|i|i|i|i|i
 .exact J6 (HX j.1 j.2) x i
 .exact J6 (by omega) x i
 .exact J6 (HX a3.1 a3.2) x i
 .exact J6 (by omega) x i
 .exact J6 a5 x i
 .simp only[Bu,kQ] at i;obtain⟨b,_,rfl⟩:=i;have:=b.toNat_lt;omega
theorem KU{l:List Attr}(h:∀a∈l,Mk a):∀x∈GD l,0<=x/\x<256:=by
 intro x i;simp only[GD,qA] at i;obtain⟨a,ha,i⟩:=i;exact UP (h a ha) x i
def Ei(l:List Attr):ByteArray:=strOf (GD l)
theorem JG{l m:List Attr}(hl:∀a∈l,Mk a)(hm:∀a∈m,Mk a)(h:Ei l=Ei m):l=m:=by
 refine Ve hl hm ?_;rw[<-HU (KU hl),<-HU (KU hm)];exact kM Bu h
def Eb(t:Tab (List Attr))(f:Value->Option Value):Prop:=∀s v,f (.string s)=some v↔∃(i:Nat) (p:Ent (List Attr)),t.places[i]?=some p/\0<p.held/\s=Ei p.set/\v=.int .i64 ((i:Int)+1)
def QW(ks:List Attr->Prop)(s:List Attr):Prop:=s≠[]/\(∀a∈s,Mk a)/\ks s
theorem Eb.some{K:List Attr->Prop}{t:Tab (List Attr)}{f:Value->Option Value}(h:Eb t f)(hi:t.Inv (QW K)){s:List Attr}(o:∀a∈s,Mk a)(B:f (.string (Ei s))=some v):∃i n:Nat,t.places[i]?=.some ⟨s,n⟩/\0<n/\v=.int .i64 ((i:Int)+1):=by
 obtain⟨i,p,h1,j,E,I⟩:=(h _ _).1 B;have:=JG o (hi.ok i p h1 j).2.1 E;subst this;exact⟨i,p.held,h1,j,I⟩
theorem Eb.none{t:Tab (List Attr)}{f:Value->Option Value}(h:Eb t f){s:List Attr}(j:f (.string (Ei s))=Option.none):∀(i:Nat) (p:Ent (List Attr)),t.places[i]?=.some p->0<p.held->p.set≠s:=by
 rintro i p h1 o rfl;have:=(h (Ei p.set) _).2 ⟨i,p,h1,o,rfl,rfl⟩;rw[j] at this;cases this
theorem Eb.ID{t:Tab (List Attr)}{f:Value->Option Value}(h:Eb t f){p:Ent (List Attr)}(hp:t.places[i]?=.some p)(h0:0<p.held){n:Nat}(J:0<n):Eb (t.ID i ⟨p.set,n⟩) f:=by
 intro s v;rw[h s v];have hi:=(Bp.1 hp).1;constructor
 .rintro⟨j,q,h1,I,B,E⟩;by_cases e:j=i
  .subst e;rw[hp] at h1;cases h1;exact⟨j,⟨p.set,n⟩,by show(t.places.set j _)[j]?=_;rw[kI hi],J,B,E⟩
  .exact⟨j,q,by show(t.places.set i _)[j]?=_;rw[kh (mW e)];exact h1,I,B,E⟩
 .rintro⟨j,q,h1,I,B,E⟩;have o:(t.places.set i ⟨p.set,n⟩)[j]?=.some q:=h1;by_cases e:j=i
  .subst e;rw[kI hi] at o;cases o;exact⟨j,p,hp,h0,B,E⟩
  .rw[kh (mW e)] at o;exact⟨j,q,o,I,B,E⟩
open Classical in
theorem Eb.put{K:List Attr->Prop}{t:Tab (List Attr)}{f:Value->Option Value}(h:Eb t f)(hi:t.Inv (QW K)){s:List Attr}(O:QW K s)(Q:f (.string (Ei s))=Option.none) :
  Eb (t.put s).2 (fun S=>if S=.string (Ei s) then Option.some (.int .i64 (((t.put s).1:Int)+1)) else f S):=by
 obtain⟨_,h1,V,T,_⟩:=Tab.GK hi O (h.none Q);intro U v;simp only[oO];constructor
 .intro J;split at J
  .rename_i e;subst e;cases J;exact⟨_,_,h1,Nat.one_pos,rfl,rfl⟩
  .obtain⟨j,p,i,B,o,E⟩:=(h U v).1 J;have I:j≠(t.put s).1:=by
    rintro rfl;have:=V p i;omega
   exact⟨j,p,(T j I).trans i,B,o,E⟩
 .rintro⟨j,p,i,B,o,E⟩;by_cases I:j=(t.put s).1
  .subst I;rw[h1] at i;cases i;rw[Io o,E]
  .rw[T j I] at i;rw[C3]
   .exact(h U v).2 ⟨j,p,i,B,o,E⟩
   .intro e;rw[e] at o;exact h.none Q j p i B (JG (hi.ok j p i B).2.1 O.2.1 o.symm)
open Classical in
theorem Eb.drop{K:List Attr->Prop}{t:Tab (List Attr)}{f:Value->Option Value}(h:Eb t f)(hi:t.Inv (QW K)){p:Ent (List Attr)}(hp:t.places[i]?=.some p)(h0:0<p.held) :
  Eb (t.drop [] i) (fun V=>if V=.string (Ei p.set) then Option.none else f V):=by
 have S:=(Bp.1 hp).1;have E:(t.places.set i ⟨[],0⟩)[i]?=.some ⟨[],0⟩:=kI S;have B:∀j:Nat,j≠i->(t.places.set i (⟨[],0⟩:Ent (List Attr)))[j]?=t.places[j]?:=fun j I=>kh (mW I);intro X v;simp only[oO];constructor
 .intro T;split at T
  .cases T
  .rename_i e;obtain⟨j,q,Q,J,O,U⟩:=(h X v).1 T;have I:j≠i:=by
    rintro rfl;rw[hp] at Q;cases Q;exact e O
   exact⟨j,q,(B j I).trans Q,J,O,U⟩
 .rintro⟨j,q,Q,J,O,U⟩;have o:(t.places.set i (⟨[],0⟩:Ent (List Attr)))[j]?=.some q:=Q;by_cases I:j=i
  .subst I;rw[E] at o;cases o;exact absurd J (pC _)
  .rw[B j I] at o;rw[C3]
   .exact(h X v).2 ⟨j,q,o,J,O,U⟩
   .intro e;rw[e] at O;exact I (hi.Ho j i q p o hp J h0 (JG (hi.ok j q o J).2.1 (hi.ok i p hp h0).2.1 O.symm))
theorem Eb.z:Eb (Tab.z _) (fun _=>Option.none):=fun s v=>by simp[Tab.z]
def QR(w:World)(r:Nat):Nat:=match w.heap[r]? with|some (.stringIter _ p)=>p|_=>0
theorem Oa{r:Nat}{s:ByteArray}(h:w.heap[r]?=some (.stringIter s i))(hp:i<s.size) :
  (Instr.next (.pointer (some ⟨r,0,none⟩)) true ty).run P w=.ok (.tuple #[.bool true,.int .i64 i,.int .i32 (Utf8.decode s i).1]) { w with heap:=w.heap.setIfInBounds r (.stringIter s (i+(Utf8.decode s i).2)) }:=by
 simp only[Instr.next,getObj,setObj,kD,Sem.run,h,Result.andThen,hp,km];simp[goInt]
theorem NG{r:Nat}{s:ByteArray}(h:w.heap[r]?=some (.stringIter s i))(hp:¬i<s.size) :
  (Instr.next (.pointer (some ⟨r,0,none⟩)) true ty).run P w=.ok (.tuple #[.bool false]) w:=by
 simp only[Instr.next,getObj,kD,Sem.run,h,Result.andThen,hp,kZ];rfl
theorem Mod.setObj(w:World)(r:Nat)(o o':Obj)(h:w.heap[r]?=some o):Mod (fun b=>b=r) w { w with heap:=w.heap.setIfInBounds r o' }:=
 ⟨rfl,rfl,rfl,by simp,fun x _ i=>(oy h).2 x i⟩
theorem SM{b:List Int}(h:DF S w v b)(hb:Bv b):(convert 293 9 v).run prog w=.ok (.string (strOf b)) w:=by
 obtain⟨a,c,rfl,hm⟩:=h.shape;cases a with
 |none=>
  have:b=[]:=by
   cases b with
   |nil=>rfl
   |cons x b=>obtain⟨p,r,e,_⟩:=h.get (i:=0) (by simp);cases e
  subst this;exact run_convert_bytes_nil w 293 5 (by kernel_rfl) (by kernel_rfl) _ _ _ (by kernel_rfl)
 |some p=>
  have hl:(b.map fun x=>UInt8.ofNat x.toNat).length=b.length:=by simp
  have:=run_convert_bytes_back (P:=prog) w 293 9 5 p c (b.map fun x=>UInt8.ofNat x.toNat) (by kernel_rfl) (by kernel_rfl) (by kernel_rfl) (fun j o=>by
   rw[hl] at o;obtain⟨_,r,e,_,hr,hc,rfl⟩:=h.get o;cases e;have:=hc 0 _ rfl;rw[nA,kg] at this;rw[this];have B:=hb b[j] (gC o);simp only[lV,UInt8.toNat_ofNat'];congr 2
   omega)
  rw[hl] at this;exact this
theorem PL{s:ByteArray}{r:Int}{n:Nat}(hp:e<s.size)(h:Cv ((Bu s).drop e)=(r,n))(O:n≠0):((Utf8.decode s e).1:Int)=r/\(Utf8.decode s e).2=n:=by
 have o:∀k c,((Bu s).drop e)[k]?=some c->e+k<s.size/\(((s.get! (e+k)).toNat:Nat):Int)=c:=by
  intro k c hc;rw[lL] at hc;have S:e+k<s.size:=by
   have:=(Bp.1 hc).1;rwa [DO] at this
  refine⟨S,?_⟩;have hg:s.get! (e+k)=s[e+k]'S:=by
   simp[ByteArray.get!,oE,S];rfl
  rw[hg];simp only[Bu,kr] at hc;have Y:e+k<s.data.toList.length:=by simpa using S
  rw[By Y] at hc;have:=kK hc;exact this
 have T:Bv ((Bu s).drop e):=fun x hx=>by
  have:=kP hx;simp only[Bu,kQ] at this;obtain⟨b,_,rfl⟩:=this;have:=b.toNat_lt;omega
 have Z:((Bu s).drop e).length≠0:=by rw[K8,DO];omega
 generalize (Bu s).drop e=l at h o T Z;obtain⟨i,t,rfl⟩:∃x t,l=x::t:=by cases l with|nil=>simp at Z|cons x t=>exact⟨x,t,rfl⟩
 obtain⟨_,e0⟩:=o 0 i rfl;have h0:=T i kf;generalize U:(s.get! (e+0)).toNat=Q at e0;by_cases ha:i<128
 .rw[LV h0.1 ha] at h;cases h;simp only[Utf8.decode,U];rw[Io (by omega)];exact⟨e0,rfl⟩
 rcases QH i with j|j|j|j
 .rw[Pq T (by omega) j] at h;cases h;exact absurd rfl O
 .cases t with
  |nil=>rw[DT h0.2 (by rw[j];simp)] at h;cases h;exact absurd rfl O
  |cons c1 t=>
   have h1:=T c1 (by simp);obtain⟨l1,e1⟩:=o 1 c1 rfl;generalize J:(s.get! (e+1)).toNat=I at e1;rw[Xr j h1.1 h1.2] at h;split at h
   .rename_i hc;cases h;have a1:194<=i/\i<224:=by
     unfold CS at j
     (repeat' split at j)<;>omega
    have B:128<=JP i:=by
     unfold JP;split
     .decide
     .split<;>decide
    have E:I6 i<=191:=by
     unfold I6;split
     .decide
     .split<;>decide
    have q1:(Q/32==6&&(decide (e+1<s.size)&&I/64==2))=true:=by
     simp only[TC,nV,S6];exact⟨by omega,l1,by omega⟩
    simp only[Utf8.decode,U,J];rw[C3 (by omega),Io q1,Io (by omega)];exact⟨by omega,rfl⟩
   .cases h;exact absurd rfl O
 .rcases t with _|⟨c1,_|⟨c2,t⟩⟩
  .rw[DT h0.2 (by rw[j];simp)] at h;cases h;exact absurd rfl O
  .rw[DT h0.2 (by rw[j];simp)] at h;cases h;exact absurd rfl O
  .have h1:=T c1 (by simp);have h2:=T c2 (by simp);obtain⟨l1,e1⟩:=o 1 c1 rfl;obtain⟨l2,e2⟩:=o 2 c2 rfl;generalize J:(s.get! (e+1)).toNat=I at e1;generalize X:(s.get! (e+2)).toNat=V at e2;rw[XP j h1.1 h1.2 h2.1 h2.2] at h;split at h
   .rename_i hc;cases h;have a1:224<=i/\i<240:=by
     unfold CS at j
     (repeat' split at j)<;>omega
    have B:(if i=224 then(160:Int) else 128)<=c1:=by
     refine qH ?_ hc.1.1;unfold JP;split
     .decide
     .split<;>decide
    have E:c1<=(if i=237 then(159:Int) else 191):=by
     refine qH hc.1.2 ?_;unfold I6;split
     .decide
     .split<;>decide
    have a6:128<=c1:=by split at B<;>omega
    have a7:c1<=191:=by split at E<;>omega
    have q1:¬(Q/32==6&&(decide (e+1<s.size)&&I/64==2))=true:=by
     simp only[TC,nV,S6];rintro⟨x,_⟩;omega
    have q2:(Q/16==14&&(decide (e+1<s.size)&&I/64==2)&&(decide (e+2<s.size)&&V/64==2))=true:=by
     simp only[TC,nV,S6];exact⟨⟨by omega,l1,by omega⟩,l2,by omega⟩
    have q3:(decide (Q%16*4096+I%64*64+V%64 ≥ 2048)&&Utf8.valid ((Q%16*4096+I%64*64+V%64:Nat):Int))=true:=by
     simp only[Utf8.valid,TC,mQ,S6];refine⟨by split at B<;>omega,?_⟩;split at E
     .left;omega
     .by_cases hb:i<237
      .left;omega
      .right;omega
    simp only[Utf8.decode,U,J,X];rw[C3 (by omega),C3 q1,Io q2,Io q3];exact⟨by omega,rfl⟩
   .cases h;exact absurd rfl O
 .rcases t with _|⟨c1,_|⟨c2,_|⟨c3,t⟩⟩⟩
  .rw[DT h0.2 (by rw[j];simp)] at h;cases h;exact absurd rfl O
  .rw[DT h0.2 (by rw[j];simp)] at h;cases h;exact absurd rfl O
  .rw[DT h0.2 (by rw[j];simp)] at h;cases h;exact absurd rfl O
  .have h1:=T c1 (by simp);have h2:=T c2 (by simp);have h3:=T c3 (by simp);obtain⟨l1,e1⟩:=o 1 c1 rfl;obtain⟨l2,e2⟩:=o 2 c2 rfl;obtain⟨l3,e3⟩:=o 3 c3 rfl;generalize J:(s.get! (e+1)).toNat=I at e1;generalize X:(s.get! (e+2)).toNat=V at e2;generalize a8:(s.get! (e+3)).toNat=m3 at e3;rw[Wo j h1.1 h1.2 h2.1 h2.2 h3.1 h3.2] at h;split at h
   .rename_i hc;cases h;have a1:240<=i/\i<245:=by
     unfold CS at j
     (repeat' split at j)<;>omega
    have B:(if i=240 then(144:Int) else 128)<=c1:=by
     refine qH ?_ hc.1.1;unfold JP;rw[C3 (show ¬i=224 by omega)];exact Int.le_refl _
    have E:c1<=(if i=244 then(143:Int) else 191):=by
     refine qH hc.1.2 ?_;unfold I6;rw[C3 (show ¬i=237 by omega)];exact Int.le_refl _
    have a6:128<=c1:=by split at B<;>omega
    have a7:c1<=191:=by split at E<;>omega
    have q1:¬(Q/32==6&&(decide (e+1<s.size)&&I/64==2))=true:=by
     simp only[TC,nV,S6];rintro⟨x,_⟩;omega
    have q2:¬(Q/16==14&&(decide (e+1<s.size)&&I/64==2)&&(decide (e+2<s.size)&&V/64==2))=true:=by
     simp only[TC,nV,S6];rintro⟨⟨x,_⟩,_⟩;omega
    have q3:(Q/8==30&&(decide (e+1<s.size)&&I/64==2)&&(decide (e+2<s.size)&&V/64==2)&&(decide (e+3<s.size)&&m3/64==2))=true:=by
     simp only[TC,nV,S6];exact⟨⟨⟨by omega,l1,by omega⟩,l2,by omega⟩,l3,by omega⟩
    have q4:(decide (Q%8*262144+I%64*4096+V%64*64+m3%64 ≥ 65536)&&Utf8.valid ((Q%8*262144+I%64*4096+V%64*64+m3%64:Nat):Int))=true:=by
     simp only[Utf8.valid,TC,mQ,S6];refine⟨by split at B<;>omega,?_⟩;right;split at E<;>omega
    simp only[Utf8.decode,U,J,X,a8];rw[C3 (by omega),C3 q1,C3 q2,Io q3,Io q4];exact⟨by omega,rfl⟩
   .cases h;exact absurd rfl O
theorem Wi{b:List Int}(h:DF S w v b)(hb:Bv b)(hT:E2 w)(hl:b.length*4<=140737488355328) :
  AB prog 286 [v] (fun v' w'=>Grow w w'/\match Bs b with
   |some l=>∃sl,v'=.tuple #[sl,.int .i64 0]/\AE w.heap.size 21 1 Bo w' sl l
   | none=>v'=.tuple #[.slice none 0 0,.int .i64 3]) w:=by
 apply YP;refine AA (Vw h hb hT) ?_;rintro _ J ⟨rfl,V⟩;rw[Ar];cases hr:Bs b with
 |none=>exact As ⟨V,rfl⟩
 |some rs=>
  refine AV (Ag (SM (h.grow V (by decide) fun _ _ h=>h) hb) ?_);have X:Bu (strOf b)=b:=HU hb;have Y:(strOf b).size=b.length:=by rw[<-DO,X]
  generalize strOf b=s at X Y;refine Ag (run_range_string J 9 s (by kernel_rfl)) ?_;have hit:=World.iter_heap J s 0;have g2:Grow J (J.iter s 0):=Mod.alloc _ _ _;have al:=V.size;generalize J.iter s 0=w2 at hit g2;generalize an:J.heap.size=r at hit;have av:w.heap.size<=r:=by omega
  refine Ab (fun vs W=>∃(pos:Nat) (lv:Value) (acc:List Int),pos<=b.length/\acc.length<=pos/\vs=[lv]/\W.heap[r]?=some (.stringIter s pos)/\AE w.heap.size 21 1 Bo W lv acc/\lv.ownBlock≠some r/\Grow w W/\Bs b=(Bs (b.drop pos)).map (acc++·)) (fun _ W=>b.length-QR W r)
   ⟨0,_,[],Nn _,Lc _,rfl,hit,AE.nil,(fun h=>nomatch h),V.trans g2,by simp⟩ ?_
  rintro vs W ⟨pos,lv,acc,a7,a8,rfl,hi,ho,B,gW,i⟩ _;have o:QR W r=pos:=by simp[QR,hi]
  by_cases E:pos<s.size
  .have ak:pos<b.length:=by omega
   have Z:b.drop pos≠[]:=by intro e;have:=kM List.length e;simp at this;omega
   have I:=UO (b.drop pos);rw[K8] at I;rw[Mj Z] at i;have a1:∃q n,Cv (b.drop pos)=(q,n):=⟨_,_,rfl⟩;obtain⟨q,n,hq⟩:=a1;rw[hq] at i I;simp only at i I;have hn:n≠0:=by
    intro e;rw[Io e,hr] at i;cases i
   rw[C3 hn] at i;obtain⟨d1,d2⟩:=PL (s:=s) E (by rw[X];exact hq) hn;refine Ag (Oa hi E) ?_;rw[d1,d2];refine CW (vs:=[_,_,_]) (by rfl) (As (CW (vs:=[_,_,_]) (by rfl) ?_));have m3:=Mod.setObj W r _ (.stringIter s (pos+n)) hi;have a6:=(oy (o':=.stringIter s (pos+n)) hi).1;have j:({ W with heap:=W.heap.setIfInBounds r (.stringIter s (pos+n)) }:World).heap[r]?=some (.stringIter s (pos+n)):=a6;generalize ({ W with heap:=W.heap.setIfInBounds r (.stringIter s (pos+n)) }:World)=W3 at m3 j;have O:AE w.heap.size 21 1 Bo W3 lv acc:=AE.mod ho m3 (fun g hg e=>B (e▸hg)) fun _ _ _ h=>h;have Q:Grow w W3:=gW.next m3 fun x hx e=>by omega
   show Bg _ _ _ _ [(0,.int .i32 q)] _ _;refine Dr Ie O Q.size (cs:=[.int .i32 q]) (x:=q) (by kernel_rfl) rfl rfl (fun _ _ _=>Bo.one) (fun _ _ _ _ _ _ h=>h) (by omega) (by simp only[maxLen];omega) fun v' w' h1 h2 h3=>?_;have T:r<W3.heap.size:=(lf.1 j).1;have U:w'.heap[r]?=some (.stringIter s (pos+n)):=(h2.same r T B).trans j;refine⟨⟨pos+n,v',acc++[q],by omega,by simp;omega,rfl,U,h1,fun e=>?_,Q.next h2 fun x hx e=>?_,?_⟩,?_⟩
   .rcases h3 r e with e|e
    .exact B e
    .omega
   .have:=(AE.BA O x e).1;omega
   .rw[i,nT];cases Bs (b.drop (pos+n))<;>simp
   .rw[o];have:QR w' r=pos+n:=by simp[QR,U]
    rw[this];omega
  .refine Ag (NG hi E) ?_;refine CW (vs:=[_]) (by rfl) (AV ?_);have:pos=b.length:=by omega
   subst this;rw[mU,Nq,hr] at i;simp only[mF,i6,kG] at i;subst i;exact⟨gW,lv,rfl,ho⟩
theorem Xc{n:Nat}:(callFunc 285 #[.float .f64 n]).run prog w=.ok (.value (.int .u64 n)) w:=by
 have h:prog.funcs[285]?=some Tryz.f285:=func285
 have e0 : (Tryz.f285.name == "runtime.NumGoroutine") = false := by kernel_rfl
 have i:Tryz.f285.body.isNone=true:=by kernel_rfl
 have j:Extern.findNext Tryz.f285=none:=by kernel_rfl
 have o:Extern.find Tryz.f285=some Extern.MathFloatBits.float64bits:=by kernel_rfl
 simp only[callFunc,program,mark,kD,Sem.run,Result.andThen,h,e0,i,j,o,mM,kZ,km];rfl
theorem VL{n:Int}:(callFunc 257 #[.int .u64 n]).run prog w=.ok (.value (.float .f64 n.toNat)) w:=by
 have h:prog.funcs[257]?=some Tryz.f257:=func257
 have e0 : (Tryz.f257.name == "runtime.NumGoroutine") = false := by kernel_rfl
 have i:Tryz.f257.body.isNone=true:=by kernel_rfl
 have j:Extern.findNext Tryz.f257=none:=by kernel_rfl
 have o:Extern.find Tryz.f257=some Extern.MathFloatBits.float64frombits:=by kernel_rfl
 simp only[callFunc,program,mark,kD,Sem.run,Result.andThen,h,e0,i,j,o,mM,kZ,km];rfl
theorem U0{n:Nat}:AB prog 284 [.float .f64 n] (fun v w'=>v=.bool (decide (Gc (n:Int)))/\w'=w) w:=by
 apply Zd;refine Ag (v:=.bool (decide (Gc (n:Int)))) (w':=w) ?_ ⟨rfl,rfl⟩;rw[<-RJ];simp[BX,eqGuard,binOp,Op.floatCmp]
theorem aQ{b:Bool}:AB prog 254 [.bool b] (fun v w'=>v=.agg (⟨1,if b then 1 else 0,0,Fo⟩:BK).cells.toArray/\Grow w w') w:=by
 apply aS;refine Dc fun b2 w1 X Y Z _ E=>?_;refine⟨(⟨1,0,0,Fo⟩:BK).cells.toArray,by kernel_rfl,?_⟩;refine BS (vs:=(⟨1,0,0,Fo⟩:BK).cells) rfl rfl (BK.one _) fun B w2 a1 a6 S I J=>?_;have O:=Z.trans S;cases b with
 |true=>
  refine As ?_;rw[AG];refine(J 1 (by decide)).st rfl rfl ?_;rw[AH];have m:=Mod.setCell (M:=fun x=>x=B) w2 ⟨B,1,none⟩ (.int .i64 1) rfl;have hc:∀j u,(⟨1,1,0,Fo⟩:BK).cells[j]?=some u->(w2.setCell ⟨B,1,none⟩ (.int .i64 1)).cell? ((⟨B,0,none⟩:Addr).add j)=some u:=by
   intro j u hu;rw[AH];by_cases e:j=1
   .subst e;have h1:=(J 1 (by decide)).1;rw[AH] at h1;obtain⟨u',T⟩:=jV.1 h1;cases hu;exact kJ _ _ _ T
   .rw [S4 _ _ _ _ (fun e'=>by simp only [Addr.mk.injEq] at e';exact e e'.2.1.symm)];have:=I j u (by
     rcases j with _|_|_|_|j
     .exact hu
     .exact absurd rfl e
     .exact hu
     .exact hu
     .exact hu)
    rwa [AH] at this
  have i:=fun j Q=>((E j Q).mod S fun h=>h).mod m (fun e=>by rw[AH] at e;have:b2=B:=e;omega);generalize w2.setCell ⟨B,1,none⟩ (.int .i64 1)=w3 at m hc i ⊢;refine Aj (vs:=(⟨1,1,0,Fo⟩:BK).cells) rfl hc ?_;refine CF rfl (BK.one _) (fun j Q=>i j Q) fun w4 U o _=>?_;refine Aj (vs:=(⟨1,1,0,Fo⟩:BK).cells) rfl o ⟨rfl,?_⟩;exact(O.next m fun x V e=>by omega).next U fun x V e=>by omega
 |false=>
  refine AV ?_;refine Aj (vs:=(⟨1,0,0,Fo⟩:BK).cells) rfl I ?_;refine CF rfl (BK.one _) (fun j Q=>(E j Q).mod S fun h=>h) fun w4 U o _=>?_;refine Aj (vs:=(⟨1,0,0,Fo⟩:BK).cells) rfl o ⟨rfl,?_⟩;exact O.next U fun x V e=>by omega
theorem ei{n:Int}:AB prog 255 [.int .i64 n] (fun v w'=>v=.agg (⟨2,n,0,Fo⟩:BK).cells.toArray/\Grow w w') w:=by
 apply ae;refine Dc fun b2 Q B E I _ i=>?_;refine⟨(⟨2,n,0,Fo⟩:BK).cells.toArray,by kernel_rfl,?_⟩;refine CF rfl (BK.one _) (fun j J=>i j J) fun w4 O o _=>?_;refine Aj (vs:=(⟨2,n,0,Fo⟩:BK).cells) rfl o ⟨rfl,?_⟩;exact I.next O fun x S e=>by omega
theorem WZ{n:Nat}:AB prog 256 [.float .f64 n] (fun v w'=>v=.agg (⟨3,0,if Gc (n:Int) then 9221120237041090560 else n,Fo⟩:BK).cells.toArray/\Grow w w') w:=by
 apply X0;refine Dc fun b2 O Q S J _ o=>?_;refine AA U0 ?_;rintro _ _ ⟨rfl,rfl⟩;rename World=>O
 by_cases B:Gc (n:Int)
 .rw[kj B];refine As ⟨(⟨3,0,9221120237041090560,Fo⟩:BK).cells.toArray,by kernel_rfl,?_⟩;refine CF rfl (BK.one _) (fun j E=>o j E) fun w4 I i _=>?_;refine Aj (vs:=(⟨3,0,9221120237041090560,Fo⟩:BK).cells) rfl i ⟨by rw[Io B],?_⟩;exact J.next I fun x T e=>by omega
 .rw[kX B];refine AV ⟨_,_,Xc,?_⟩;refine⟨(⟨3,0,(n:Int),Fo⟩:BK).cells.toArray,by kernel_rfl,?_⟩;refine CF rfl (BK.one _) (fun j E=>o j E) fun w4 I i _=>?_;refine Aj (vs:=(⟨3,0,(n:Int),Fo⟩:BK).cells) rfl i ⟨by rw[C3 B],?_⟩;exact J.next I fun x T e=>by omega
def N8(s:ByteArray):Prop:=s.size<=64/\(Bs (Bu s)).isSome=true
instance (s:ByteArray):Decidable (N8 s):=by unfold N8;infer_instance
theorem QK(s:ByteArray):Bv (Bu s):=fun x i=>by
 simp only[Bu,kQ] at i;obtain⟨b,_,rfl⟩:=i;have:=b.toNat_lt;omega
theorem Yf{s:ByteArray}(hT:E2 w):AB prog 258 [.string s] (fun v w'=>v=(if N8 s then .tuple #[.agg (⟨4,0,0,s⟩:BK).cells.toArray,.int .i64 0] else .tuple #[.agg (⟨0,0,0,Fo⟩:BK).cells.toArray,.int .i64 3])/\Grow w w') w:=by
 apply Zj;refine Dc fun b2 w1 a1 a6 U _ B=>?_;rw[LG,BR];refine AF (fun V=>?_) fun a7=>?_
 .refine⟨(⟨0,0,0,Fo⟩:BK).cells.toArray,by kernel_rfl,?_⟩;refine CF rfl (BK.one _) (fun j i=>B j i) fun w4 m4 O _=>?_;refine Aj (vs:=(⟨0,0,0,Fo⟩:BK).cells) rfl O ⟨by rw[C3 (fun h=>by have:=h.1;omega)],?_⟩;exact U.next m4 fun x X e=>by omega
 .refine O9 (by omega) fun v3 w3 Y Q=>?_;have E:=U.trans Y;have S:∀j,j<4->Live w3 ((⟨b2,0,none⟩:Addr).add j):=fun j i=>(B j i).mod Y fun h=>h;refine AA (Wi Q (QK s) (hT.grow E) (by rw[DO];omega)) ?_;rintro v5 w5 ⟨Z,hm⟩;have I:∀j,j<4->Live w5 ((⟨b2,0,none⟩:Addr).add j):=fun j i=>(S j i).mod Z fun h=>h;have J:=E.trans Z;cases hr:Bs (Bu s) with
  |none=>
   rw[hr] at hm;subst hm;refine BV ?_;rw[Bm];refine AW (fun e=>by cases e) fun _=>?_;refine⟨(⟨0,0,0,Fo⟩:BK).cells.toArray,by kernel_rfl,?_⟩;refine CF rfl (BK.one _) (fun j i=>I j i) fun w6 T o _=>?_;refine Aj (vs:=(⟨0,0,0,Fo⟩:BK).cells) rfl o ⟨by rw[C3 (fun h=>by have:=h.2;rw[hr] at this;cases this)],?_⟩;exact J.next T fun x X e=>by omega
  |some l=>
   rw[hr] at hm;obtain⟨sl,rfl,_⟩:=hm;refine BV ?_;refine Qn ?_;refine⟨(⟨4,0,0,s⟩:BK).cells.toArray,by kernel_rfl,?_⟩;refine CF rfl (BK.one _) (fun j i=>I j i) fun w6 T o _=>?_;refine Aj (vs:=(⟨4,0,0,s⟩:BK).cells) rfl o ⟨by rw[Io ⟨by omega,by rw[hr];rfl⟩],?_⟩;exact J.next T fun x X e=>by omega
theorem ON{v:BK}(Z:E2 w)(h0:0<=v.f) :
  AB prog 208 [.agg v.cells.toArray] (fun v' w'=>v'=.bool (decide (DV v))/\Grow w w') w:=by
 apply ZV;refine Dq fun b S _ hz g hc _=>?_;have l0:=hc 0 _ rfl;have l1:=hc 1 _ rfl;have l2:=hc 2 _ rfl;have l3:=hc 3 _ rfl;have key:∀(b:Bool) w',Grow w w'->(b=true↔DV v)->Value.bool b=.bool (decide (DV v))/\Grow w w':=fun b w' g h=>⟨by congr 1;rw[mi,h,S6],g⟩;have Y:∀w',Grow w w'->¬DV v->Value.bool false=.bool (decide (DV v))/\Grow w w':=fun w' g h=>key false w' g (by simp only[mM,qh];exact h);have o:∀j u,v.cells[j]?=some u->S.cell? ((⟨b,0,none⟩:Addr).add j)=some u:=hc;simp only[AG];refine AK l0 ?_;rw[Al];refine AF (fun k1=>?_) fun k1=>?_
 .refine Ce (fun w2=>Grow S w2) (Mod.drew _ _) ?_;refine Fl (vs:=v.cells) rfl (fun w2 i j u hu=>i.cell (o j u hu) fun h=>h) (Au (fun w2 i=>i.cell l1 fun h=>h) ?_);rw[Al];refine⟨_,fun w2 i=>AA aQ (by rintro _ I ⟨rfl,B⟩;exact⟨rfl,i.trans B⟩),?_⟩;refine⟨_,fun w2 _=>Ha _ _ v ⟨1,if decide (v.n=1) then 1 else 0,0,Fo⟩ w2,?_⟩;intro I B;refine key _ _ (g.trans B) ?_;rw[S6];constructor
  .intro e;refine .inl ⟨k1,?_,?_⟩
   .by_cases h1:v.n=1
    .rw[h1];simpa[h1] using e
    .have en:v.n=0:=by rw[e];simp[h1]
     rw[en];simpa[h1] using e
   .by_cases h1:v.n=1
    .exact .inr h1
    .left;rw[e];simp[h1]
  .rintro(h|h|h|h)
   .obtain⟨_,e,E⟩:=h;rcases E with E|E
    .rw[E] at e ⊢;exact e
    .rw[E] at e ⊢;exact e
   .omega
   .omega
   .omega
 rw[Al];refine AF (fun k2=>?_) fun k2=>?_
 .refine Ce (fun w2=>Grow S w2) (Mod.drew _ _) ?_;refine Fl (vs:=v.cells) rfl (fun w2 i j u hu=>i.cell (o j u hu) fun h=>h) (Au (fun w2 i=>i.cell l1 fun h=>h) ?_);refine⟨_,fun w2 i=>AA ei (by rintro _ I ⟨rfl,B⟩;exact⟨rfl,i.trans B⟩),?_⟩;refine⟨_,fun w2 _=>Ha _ _ v ⟨2,v.n,0,Fo⟩ w2,?_⟩;intro I B;refine key _ _ (g.trans B) ?_;rw[S6];refine⟨fun h=>.inr (.inl ⟨k2,h⟩),fun h=>?_⟩;rcases h with h|h|h|h
  .omega
  .exact h.2
  .omega
  .omega
 rw[Al];refine AF (fun U=>?_) fun U=>?_
 .refine Ce (fun w2=>Grow S w2) (Mod.drew _ _) ?_;refine Fl (vs:=v.cells) rfl (fun w2 i j u hu=>i.cell (o j u hu) fun h=>h) (Au (fun w2 i=>i.cell l2 fun h=>h) ?_);refine⟨_,fun w2 _=>VL,?_⟩;refine⟨_,fun w2 i=>AA WZ (by rintro _ I ⟨rfl,B⟩;exact⟨rfl,i.trans B⟩),?_⟩;refine⟨_,fun w2 _=>Ha _ _ v _ w2,?_⟩;intro I B;refine key _ _ (g.trans B) ?_;have ef:((v.f.toNat:Nat):Int)=v.f:=by omega
  rw[S6,ef];constructor
  .intro e;refine .inr (.inr (.inl ⟨U,?_,?_⟩))
   .by_cases E:Gc v.f
    .rw[Io E] at e;have e2:v.f=9221120237041090560:=kM BK.f e;rw[e2];exact e
    .rw[C3 E] at e;exact e
   .by_cases E:Gc v.f
    .rw[Io E] at e;exact .inr (kM BK.f e)
    .exact .inl E
  .rintro(h|h|h|h)
   .omega
   .omega
   .obtain⟨_,e,E⟩:=h;by_cases V:Gc v.f
    .rw[Io V];rw[E.resolve_left fun x=>x V] at e;exact e
    .rw[C3 V];exact e
   .omega
 rw[Al];refine AF (fun X=>?_) fun X=>Y _ g ?_
 .refine AK l3 (AA (Yf (Z.grow g)) ?_);rintro v3 I ⟨rfl,B⟩;have J:=g.trans B;by_cases O:N8 v.s
  .rw[Io O];refine BV ?_;refine BS (vs:=(⟨4,0,0,v.s⟩:BK).cells) rfl rfl (BK.one _) fun b4 w4 _ _ T Q _=>?_;rw[Al];refine AF (fun _=>?_) fun e=>(e rfl).elim;refine Aj (vs:=v.cells) rfl (fun j u hu=>(B.trans T).cell (o j u hu) fun h=>h) ?_;refine Aj (vs:=(⟨4,0,0,v.s⟩:BK).cells) rfl Q (Ag (Ha _ _ v ⟨4,0,0,v.s⟩ w4) ?_);refine key _ _ (J.trans T) ?_;rw[S6];refine⟨fun e=>.inr (.inr (.inr ⟨X,e,O.1,O.2⟩)),fun h=>?_⟩;rcases h with h|h|h|h
   .omega
   .omega
   .omega
   .exact h.2.1
  .rw[C3 O];refine BV ?_;refine BS (vs:=(⟨0,0,0,Fo⟩:BK).cells) rfl rfl (BK.one _) fun b4 w4 _ _ T Q _=>?_;rw[Al];refine AF (fun e=>by cases e) fun _=>Y _ (J.trans T) ?_;rintro(h|h|h|h)
   .omega
   .omega
   .omega
   .exact O ⟨h.2.2.1,h.2.2.2⟩
 .rintro(h|h|h|h)
  .exact k1 h.1
  .exact k2 h.1
  .exact U h.1
  .exact X h.1
section
variable {α:Type}[Inhabited α]
theorem Jo(enc:α->List Value)(k:Nat)(hk:∀x,(enc x).length=k)(d:Array α):(Sort.flatK enc k d).toList=(d.toList.map enc).flatten:=by
 refine lW fun t=>?_;have hl:∀r∈d.toList.map enc,r.length=k:=fun r hr=>by obtain⟨x,_,rfl⟩:=kQ.1 hr;exact hk x
 have B:(d.toList.map enc).flatten.length=d.size*k:=by rw[FE _ hl,Es,mO]
 by_cases ht:t<d.size*k
 .have i:0<k:=by
   rcases Nat.eq_zero_or_pos k with h|h
   .subst h;simp at ht
   .exact h
  have hi:t/k<d.size:=(qO i).2 ht;have h1:=Sort.get_flatK enc k d t ht;have E:(Sort.flatK enc k d).toList[t]?=some (Sort.flatK enc k d)[t]!:=by
   have j:t<(Sort.flatK enc k d).size:=by simpa using ht
   rw[lJ,oF j,oE _ t j]
  rw[E,h1];have o:=Hv (d.toList.map enc) (t/k) (t%k) (enc d[t/k]!) hl (by simp[hi]) (pU _ i);rw[pz t k] at o;rw[o];have hm:t%k<(enc d[t/k]!).length:=by rw[hk];exact pU _ i
  rw[By hm,oE (enc d[t/k]!) _ hm]
 .rw[kN (by simp;omega),kN (by omega)]
theorem Iw(F i:Array Value)(h:F.size<=i.size):(Sort.putCells id 0 F i).size=i.size/\(Sort.putCells id 0 F i).toList.take F.size=F.toList:=by
 refine⟨by simp[Sort.putCells],lW fun t=>?_⟩;by_cases ht:t<F.size
 .rw[lQ,Io ht,lJ,lJ];have h1:t<i.size:=by omega
  simp[Sort.putCells,ht,h1]
 .rw[lQ,C3 ht,kN (by simp;omega)]
theorem L7{enc:α->List Value}{k:Nat}{g m e:Nat}{d:Array α}{os:Array Obj}{j:Array Value}(E:w.heap[g]?=some (.cells j e (0,0))) :
  (Go.Proofs.sortWorldK enc k w g 0 m d os).heap[g]?=some (.cells (Sort.putCells id 0 (Sort.flatK enc k d) j) e (0,0))/\Mod (fun b=>b=g) w (Go.Proofs.sortWorldK enc k w g 0 m d os):=by
 have o:g<w.heap.size:=(lf.1 E).1;have i:(w.heap.modify g (Sort.onCells (Sort.putCells id 0 (Sort.flatK enc k d)))).size=w.heap.size:=by simp
 have B:(Go.Proofs.sortWorldK enc k w g 0 m d os).heap=w.heap.modify g (Sort.onCells (Sort.putCells id 0 (Sort.flatK enc k d)))++os:=rfl;refine⟨?_,⟨rfl,rfl,rfl,by rw[B,pk,i];omega,fun b hb I=>?_⟩⟩
 .rw[B,pY (by rw[i];exact o),qR,Io rfl,E];rfl
 .rw[B,pY (by rw[i];exact hb),qR,C3 (fun h=>I h.symm)]
theorem AE.sorted{B e k:Nat}{R:World->List Value->α->Prop}{enc:α->List Value}(hk:∀x,(enc x).length=k)(h1:∀x,∀v∈enc x,v.oneCell'=true)(Y:∀w r x,R w r x↔r=enc x){g n c:Nat}{l:List α}(h:AE B e k R w (.slice (some ⟨g,0,none⟩) n c) l) :
  n=l.length/\g<w.heap.size/\Sort.HoldsK enc k w g 0 l.toArray/\∀(m:Nat) (d:Array α) (os:Array Obj),d.size=l.length->AE B e k R (Go.Proofs.sortWorldK enc k w g 0 m d os) (.slice (some ⟨g,0,none⟩) n c) d.toList/\Mod (fun b=>b=g) w (Go.Proofs.sortWorldK enc k w g 0 m d os):=by
 obtain⟨rows,h2,h3,h4,h5⟩:=h;obtain⟨q1,q2⟩:=h2;rcases q2 with⟨q,_⟩|⟨g',a1,E,q,hg,S,Z,hm,o,J⟩
 .cases q
 cases q;have U:g<w.heap.size:=(lf.1 S).1;have I:rows=l.map enc:=by
  refine lW fun i=>?_;rw[kr];by_cases hi:i<l.length
  .have O:i<rows.length:=by omega
   rw[By hi,By O,mF];rw[(Y w rows[i] l[i]).1 (h5 i _ _ (By O) (By hi))]
  .rw[kN (by omega),kN (by omega)];rfl
 have Q:l.length*k<=c*k:=lF _ Z;refine⟨rfl,U,fun j V=>?_,fun m d os T=>?_⟩
 .rw[oI] at V;have X:j<l.length*k:=by simpa using V
  have a6:j<E.size:=by rw[o];omega
  have e0:(Sort.flatK enc k l.toArray).toList=rows.flatten:=by rw[Jo enc k hk,I]
  have e1:rows.flatten[j]?=some (Sort.flatK enc k l.toArray)[j]!:=by
   have hs:j<(Sort.flatK enc k l.toArray).size:=by rw[oI];exact V
   rw[<-e0,lJ,oF hs,oE _ j hs]
  rw[<-J,lQ,Io X,lJ] at e1;rw[lp];refine⟨?_,?_⟩
  .simp only[World.cell?,S];exact e1
  .simp[World.frozen?,S]
 .obtain⟨r1,r2⟩:=L7 (enc:=enc) (k:=k) (m:=m) (d:=d) (os:=os) S;refine⟨⟨d.toList.map enc,⟨?_,.inr ⟨g,c,_,by have e:d.toList.length=l.length:=T;rw[e],hg,r1,?_,hm,?_,?_⟩⟩,by simp,fun r hr=>?_,fun i r x hr hx=>?_⟩,r2⟩
  .have:=FE (d.toList.map enc) (k:=k) fun r hr=>by obtain⟨x,_,rfl⟩:=kQ.1 hr;exact hk x
   simpa using this
  .rw[mO,T];exact Z
  .rw[(Iw (Sort.flatK enc k d) E (by rw[oI,T,o];exact Q)).1];exact o
  .have:=(Iw (Sort.flatK enc k d) E (by rw[oI,T,o];exact Q)).2;rw[oI] at this;rw[mO,this,Jo enc k hk]
  .obtain⟨x,_,rfl⟩:=kQ.1 hr;exact⟨hk x,h1 x⟩
  .rw[kr] at hr;rw[hx] at hr;exact(Y _ _ _).2 (kK hr).symm
end
def Pe:Go.Shelf.Ren:=⟨fun|6=>31|15=>72|14=>71|28=>140|29=>141|20=>132|21=>133|22=>134|23=>135|24=>136|25=>137|26=>138|27=>139|46=>203|47=>204|48=>205|49=>206|50=>207|57=>253|n=>n,fun|22=>22|24=>65|25=>73|3=>3|39=>130|0=>0|53=>211|55=>75|4=>4|46=>205|45=>204|50=>163|5=>5|9=>9|66=>285|70=>289|76=>328|77=>247|n=>n,fun|n=>n⟩
theorem SK:Go.Proofs.SlLaysF0.n6 prog Pe:={
 mixed:=by kernel_rfl,
 f6:=⟨Tryz.f31.name,by decide,func31.trans (kM some (by kernel_rfl))⟩,
 f14:=⟨Tryz.f71.name,by decide,func71.trans (kM some (by kernel_rfl))⟩,
 f15:=func72.trans (kM some (by kernel_rfl)),
 f20:=⟨Tryz.f132.name,by decide,func132.trans (kM some (by kernel_rfl))⟩,
 f21:=⟨Tryz.f133.name,by decide,func133.trans (kM some (by kernel_rfl))⟩,
 f22:=⟨Tryz.f134.name,by decide,func134.trans (kM some (by kernel_rfl))⟩,
 f23:=⟨Tryz.f135.name,by decide,func135.trans (kM some (by kernel_rfl))⟩,
 f24:=⟨Tryz.f136.name,by decide,func136.trans (kM some (by kernel_rfl))⟩,
 f25:=⟨Tryz.f137.name,by decide,func137.trans (kM some (by kernel_rfl))⟩,
 f26:=⟨Tryz.f138.name,by decide,func138.trans (kM some (by kernel_rfl))⟩,
 f27:=⟨Tryz.f139.name,by decide,func139.trans (kM some (by kernel_rfl))⟩,
 f28:=func140.trans (kM some (by kernel_rfl)),
 f29:=func141.trans (kM some (by kernel_rfl)),
 f46:=⟨Tryz.f203.name,by decide,func203.trans (kM some (by kernel_rfl))⟩,
 f47:=func204.trans (kM some (by kernel_rfl)),
 f48:=func205.trans (kM some (by kernel_rfl)),
 f49:=⟨Tryz.f206.name,by decide,func206.trans (kM some (by kernel_rfl))⟩,
 f50:=⟨Tryz.f207.name,by decide,func207.trans (kM some (by kernel_rfl))⟩,
 f57:=⟨Tryz.f253.name,by decide,func253.trans (kM some (by kernel_rfl))⟩,
 t0:=underlying0,
 a0:=Tryz.isAgg0,
 z0:=Tryz.sizeOf0,
 v0:=Tryz.zeroValue0,
 t3:=underlying3,
 a3:=Tryz.isAgg3,
 z3:=Tryz.sizeOf3,
 v3:=Tryz.zeroValue3,
 t4:=underlying4,
 a4:=Tryz.isAgg4,
 z4:=Tryz.sizeOf4,
 v4:=Tryz.zeroValue4,
 t5:=underlying5,
 a5:=Tryz.isAgg5,
 z5:=Tryz.sizeOf5,
 v5:=Tryz.zeroValue5,
 t9:=underlying9,
 a9:=Tryz.isAgg9,
 z9:=Tryz.sizeOf9,
 v9:=Tryz.zeroValue9,
 t22:=underlying22,
 a22:=Tryz.isAgg22,
 z22:=Tryz.sizeOf22,
 v22:=Tryz.zeroValue22,
 t25:=underlying73,
 a25:=Tryz.isAgg73,
 z25:=Tryz.sizeOf73,
 v25:=Tryz.zeroValue73,
 t39:=underlying130,
 a39:=Tryz.isAgg130,
 z39:=Tryz.sizeOf130,
 v39:=Tryz.zeroValue130,
 t45:=underlying204,
 a45:=Tryz.isAgg204,
 z45:=Tryz.sizeOf204,
 v45:=Tryz.zeroValue204,
 t46:=underlying205,
 a46:=Tryz.isAgg205,
 z46:=Tryz.sizeOf205,
 v46:=Tryz.zeroValue205,
 t50:=underlying163,
 a50:=Tryz.isAgg163,
 z50:=Tryz.sizeOf163,
 v50:=Tryz.zeroValue163,
 t53:=underlying211,
 a53:=Tryz.isAgg211,
 z53:=Tryz.sizeOf211,
 v53:=Tryz.zeroValue211,
 t55:=underlying75,
 a55:=Tryz.isAgg75,
 z55:=Tryz.sizeOf75,
 v55:=Tryz.zeroValue75,
 t66:=underlying285,
 a66:=Tryz.isAgg285,
 z66:=Tryz.sizeOf285,
 v66:=Tryz.zeroValue285,
 t70:=underlying289,
 a70:=Tryz.isAgg289,
 z70:=Tryz.sizeOf289,
 v70:=Tryz.zeroValue289,
 t76:=underlying328,
 a76:=Tryz.isAgg328,
 z76:=Tryz.sizeOf328,
 v76:=Tryz.zeroValue328,
 t77:=underlying247,
 a77:=Tryz.isAgg247,
 z77:=Tryz.sizeOf247,
 v77:=Tryz.zeroValue247 }
theorem Yo(x y:DKey)(W:World):Calls prog 32 #[.agg x.cells.toArray,.agg y.cells.toArray] W fun e w'=>e=.returned (.int .i64 (NJ x.id y.id))/\∃q i,w'=Sort.grow (W.drewN q) i:=by
 have h:AB prog 32 [.agg x.cells.toArray,.agg y.cells.toArray] (fun v w'=>v=.int .i64 (NJ x.id y.id)/\∃i,w'=Sort.grow W i) W:=by
  apply bu;refine⟨x.cells,rfl,⟨y.cells,rfl,Qu ?_⟩⟩;rw[AG];have c1:∀j u,x.cells[j]?=some u->((W.alloc (.cells x.cells.toArray 65)).alloc (.cells y.cells.toArray 65)).cell? ((⟨W.heap.size,0,none⟩:Addr).add j)=some u:=fun j u hu=>(Mod.alloc (fun _=>False) _ _).cell (HH hu) fun h=>h;have c2:∀j u,y.cells[j]?=some u->((W.alloc (.cells x.cells.toArray 65)).alloc (.cells y.cells.toArray 65)).cell? ((⟨(W.alloc (.cells x.cells.toArray 65)).heap.size,0,none⟩:Addr).add j)=some u:=fun j u hu=>HH hu;refine AK (c1 0 _ rfl) ?_;rw[AG];refine AK (c2 0 _ rfl) ?_;refine AA cC ?_;rintro _ _ ⟨rfl,rfl⟩;exact⟨rfl,_,by rw[Sort.alloc_eq_grow,Sort.alloc_eq_grow,Sort.grow_grow]⟩
 refine nH h ?_;rintro e w' ⟨v,rfl,rfl,i,rfl⟩;exact⟨rfl,0,i,rfl⟩
theorem eT:Sort.SWO (Go.Proofs.ltOf fun x y:DKey=>NJ x.id y.id):=by
 have e:∀x y:DKey,Go.Proofs.ltOf (fun x y:DKey=>NJ x.id y.id) x y=decide (x.id<y.id):=fun x y=>by
  unfold Go.Proofs.ltOf NJ;by_cases h1:x.id<y.id
  .simp[h1]
  .by_cases i:y.id<x.id<;>simp[h1,i]
 exact⟨fun x=>by rw[e];simp,fun x y z h1 i=>by rw[e] at *;simp at *;omega,fun x y z h1 i=>by rw[e] at *;simp at *;omega⟩
instance:Inhabited DKey:=⟨DKey.zero⟩
theorem VO{o:List DKey}(h:AE B 65 6 G0 w v o)(hl:o.length<=1099511627776) :
  AB prog 31 [v,.func (.func 32) #[] #[]] (fun _ w'=>∃ks:List DKey,ks.Perm o/\ks.Pairwise (fun x y=>x.id<=y.id)/\AE B 65 6 G0 w' v ks/\Mod (fun b=>v.ownBlock=some b) w w') w:=by
 obtain⟨a,c,rfl,_,_,hp,X⟩:=h.shape;cases a with
 |none=>
  have e:=X rfl;subst e;refine nH (Go.Proofs.AnyF.slices_SortFunc_none SK none c _ w) ?_;rintro _ _ ⟨rfl,rfl⟩;exact⟨_,rfl,[],l9 _,List.Pairwise.nil,h,Mod.refl _ _⟩
 |some p=>
  obtain⟨g,rfl,_,O,Y⟩:=hp p rfl;obtain⟨_,_,Z,hS⟩:=AE.sorted (enc:=DKey.cells) (fun _=>rfl) (fun x=>G0.one (w:=w) (x:=x) rfl) (fun _ _ _=>nj) h;have hc:=Go.Proofs.AnyQ.slices_SortFunc SK 6 Tryz.isAgg65 Tryz.sizeOf65 DKey.cells (fun _=>rfl) (fun x=>G0.one (w:=w) (x:=x) rfl) (fun x y=>NJ x.id y.id) eT 32 #[] g 0 c o.toArray w (Fc _ rfl) (fun m os dk _ x y=>Yo x y _) Z O (by simp;omega);rw[mY] at hc;refine nH hc ?_;rintro _ _ ⟨rfl,E,m,os,I,J,rfl⟩;obtain⟨h1,S,T⟩:=I;have U:E.size=o.length:=by rw[h1,mY]
  obtain⟨o1,o2⟩:=hS m E os U;refine⟨_,rfl,E.toList,?_,?_,o1,o2.mono fun b _ e=>by rw[e];rfl⟩
  .have e1:E.extract 0 o.length=E:=by rw[<-U];exact Array.extract_size
   have e2:o.toArray.extract 0 o.length=o.toArray:=by
    have:=Array.extract_size (xs:=o.toArray);rwa [mY] at this
   rw[e1,e2] at T;simpa using T
  .rw[mT];intro i j hi V Q;simp only[mO] at hi V;have:=J i j (Nn _) Q (by omega);rw[oE E i hi,oE E j V] at this;have e:Go.Proofs.ltOf (fun x y:DKey=>NJ x.id y.id) E[j] E[i]=decide (E[j].id<E[i].id):=by
    unfold Go.Proofs.ltOf NJ;by_cases h1:E[j].id<E[i].id
    .simp[h1]
    .by_cases S:E[i].id<E[j].id<;>simp[h1,S]
   rw[e] at this;simp only[kW] at this;simp only[Array.getElem_toList];omega
def NH(i:List DKey):Prop:=i.Pairwise fun x y=>x.id≠y.id
theorem MT{o:List DKey}:Fk o↔o.length<=64/\(∀k∈o,EZ k)/\NH o:=by
 unfold Fk dh NH;rw[mT];constructor
 .rintro⟨h1,E⟩;refine⟨h1,fun k hk=>?_,fun i j hi I J=>?_⟩
  .obtain⟨i,hi,rfl⟩:=List.getElem_of_mem hk;exact(E i hi _ (By hi)).1
  .exact(E j I _ (By I)).2 i J _ (By hi)
 .rintro⟨h1,E,O⟩;refine⟨h1,fun i hi k hk=>?_⟩;rw[By hi] at hk;cases hk;refine⟨E _ (gC hi),fun j I Q B=>?_⟩;rw[By (by omega)] at B;cases B;exact O j i (by omega) hi I
theorem Lf{L:List DKey}{id:Int}:(L.map fun k=>(k.id,(Value.agg k.cells.toArray))).find? (fun p=>decide (p.1=id))=(Bj L id).map fun k=>(k.id,.agg k.cells.toArray):=by
 unfold Bj;rw[List.find?_map];rfl
theorem Nb{L:List DKey}(B:NH L){id:Int}{k:DKey}:Bj L id=some k↔k∈L/\k.id=id:=by
 induction L with
 |nil=>simp[Bj]
 |cons x L E=>
  unfold NH at B;rw[mV] at B;have j:=E B.2;unfold Bj at j ⊢;by_cases o:x.id=id
  .rw[List.find?_cons_of_pos (by simpa using o)];simp only[i6,I3];constructor
   .rintro rfl;exact⟨.inl rfl,o⟩
   .rintro⟨rfl|hk,i⟩
    .rfl
    .exact(B.1 k hk (by rw[o,i])).elim
  .rw[List.find?_cons_of_neg (by simpa using o),j];constructor
   .rintro⟨h1,i⟩;exact⟨fX _ h1,i⟩
   .rintro⟨h1,i⟩;rcases I3.1 h1 with rfl|h1
    .exact(o i).elim
    .exact⟨h1,i⟩
theorem NH.perm{L L':List DKey}(hp:L.Perm L')(h:NH L):NH L':=(hp.pairwise_iff (R:=fun x y:DKey=>x.id≠y.id) fun h=>h.symm).1 h
theorem Rv{L L':List DKey}(hp:L.Perm L')(i:NH L)(id:Int):Bj L id=Bj L' id:=by
 refine Option.ext fun k=>?_;rw[Nb i,Nb (i.perm hp),hp.mem_iff]
theorem UL{L:List DKey}(i:NH L)(j:L.Pairwise fun x y=>x.id<=y.id):L.Pairwise fun x y=>x.id<y.id:=by
 refine(List.Pairwise.and i j).imp fun{x y} h=>?_;obtain⟨h1,o⟩:=h;omega
structure Uk (w0 W:World) (b m:Nat) (kv:Value) (keys:List DKey) (i:Nat):Prop where
 c0:W.cell? ⟨b,0,none⟩=some kv
 c1:W.cell? ⟨b,1,none⟩=some (.map (some m))
 row:AE w0.heap.size 65 6 G0 W kv keys
 mp:Jn W m ((keys.take i).map fun k=>(k.id,.agg k.cells.toArray))
 hb:w0.heap.size<=b
 hm:w0.heap.size<=m
 ne:m≠b
 own:∀g,kv.ownBlock=some g->g≠m/\g≠b
 g:Grow w0 W
theorem Uk.grow{b m i:Nat}{B:Value}{j:List DKey}(h:Uk w0 W b m B j i)(o:Grow W W'):Uk w0 W' b m B j i:=
 ⟨o.cell h.c0 fun h=>h,o.cell h.c1 fun h=>h,AE.mod h.row o (fun _ _ h=>h) fun _ _ _ h=>h,h.mp.mod o fun h=>h,h.hb,h.hm,h.ne,h.own,h.g.trans o⟩
open Classical in
theorem L5{o:List DKey}(h:NS S w fr o) :
  AB prog 8 [fr] (fun v' w'=>Grow w w'/\((Fk o/\∃ (sv:Value) (ks:List DKey),v'=.tuple #[sv,.int .i64 0]/\ks.Perm o/\ks.Pairwise (fun x y=>x.id < y.id)/\De (fun b=>w.heap.size<=b) w' sv ks)\/
   (¬ Fk o/\v'=.tuple #[.pointer none,.int .i64 3]))) w:=by
 apply gi;unfold S8;obtain⟨a,c,rfl,b0⟩:=h.shape;simp only[maxLen] at b0;rw[AP,BR];refine AF (fun h6=>⟨Mod.refl _ _,.inr ⟨by rintro⟨h,_⟩;omega,rfl⟩⟩) fun h6=>?_;refine AA (TN h (by omega)) ?_;rintro v1 E ⟨o1,g1⟩;refine Ag (v:=.map (some E.heap.size)) (w':=E.alloc (.map #[] 0)) rfl ?_;have g2:Grow E (E.alloc (.map #[] 0)):=Mod.alloc _ _ _;have a1:Jn (E.alloc (.map #[] 0)) E.heap.size []:=Jn.make E;have b3:(E.alloc (.map #[] 0)).heap.size=E.heap.size+1:=by simp
 generalize E.alloc (.map #[] 0)=w2 at g2 a1 b3 ⊢;obtain⟨ra,rc,rfl,_,_,_,_⟩:=o1.shape;refine⟨#[.slice ra o.length rc,.map (some E.heap.size)],by kernel_rfl,?_⟩;refine Dq (vs:=[.slice ra o.length rc,.map (some E.heap.size)]) fun b w3 hb b9 g3 a6 _=>?_;have z1:=g1.size;have z2:=g2.size;have Y:∀g,(Value.slice ra o.length rc).ownBlock=some g->g<E.heap.size:=fun g hg=>(AE.BA o1 g hg).2;have I0:Uk w w3 b E.heap.size (.slice ra o.length rc) o 0:=
  ⟨by have:=a6 0 _ rfl;rwa [AH] at this,by have:=a6 1 _ rfl;rwa [AH] at this,AE.mod o1 (g2.trans g3) (fun _ _ h=>h) fun _ _ _ h=>h,by simpa using a1.mod g3 fun h=>h,by omega,by omega,by omega,fun g hg=>by have:=Y g hg;omega,(g1.trans g2).trans g3⟩
 generalize Value.slice ra o.length rc=rv at I0 Y ⊢;clear a6 a1 o1;generalize E.heap.size=m at *;rw[AP];refine Ab (fun vs W=>∃i:Nat,i<=o.length/\vs=[.int .i64 i]/\Uk w W b m rv o i/\dh o i) (fun vs _=>o.length-Ds vs 0) ⟨0,Nn _,rfl,I0,fun i hi=>by omega⟩ ?_;rintro vs W ⟨i,hi,rfl,I,Z⟩ _;rw[B0,Of,Ap];refine AF (fun ba=>?_) fun bb=>?_
 .have B:i<o.length:=by omega
  have U:o[i]?=some o[i]:=By B;obtain ⟨p,r,rfl,_,hr,hc,rfl⟩:=(h.grow I.g (by decide) fun _ _ h=>h).get B;refine AU B (Aj hr (fun j u hu=>by rw [Addr.add_add];exact hc j u hu) ?_);refine BS (vs:=o[i].cells) rfl rfl (G0.one (w:=w) (x:=o[i]) rfl) fun b6 W1 bc bd g6 a7 _=>?_;have I1:=I.grow g6;have bad:∀ W',Grow W1 W'->¬ Fk o->(fun v' w'=>Grow w w'/\((Fk o/\∃ (sv:Value) (ks:List DKey),v'=.tuple #[sv,.int .i64 0]/\ks.Perm o/\ks.Pairwise (fun x y=>x.id < y.id)/\De (fun b=>w.heap.size<=b) w' sv ks)\/
   (¬ Fk o/\v'=.tuple #[.pointer none,.int .i64 3]))) (Value.tuple #[.pointer none,.int .i64 3]) W':=fun W' g hn=>⟨I1.g.trans g,.inr ⟨hn,rfl⟩⟩
  refine AT (fun _ V=>Grow W1 V/\Bj (o.take i) o[i].id=none/\EZ o[i]) ?_ ?_
  .rintro _ V ⟨J,X,a8⟩ _;have I2:=I1.grow J;refine Ai (fun k y=>k=7/\y=m) ?_;have T:Grow V V.drew:=Mod.drew _ _;have O:=I2.grow T;have c6:∀j u,o[i].cells[j]?=some u->V.drew.cell? ((⟨b6,0,none⟩:Addr).add j)=some u:=fun j u hu=>(J.trans T).cell (a7 j u hu) fun h=>h;refine AI ?_;rw[AG];refine AY ⟨by rw[AH];exact O.c1,fun j Q e=>by obtain⟨rfl,_⟩:=e;exact absurd Q (by decide)⟩ ?_;rw[AG];refine AY ⟨c6 0 _ rfl,fun j Q e=>by obtain⟨rfl,_⟩:=e;exact absurd Q (by decide)⟩ ?_;refine CU (vs:=o[i].cells) rfl (fun j u hu=>⟨c6 j u hu,fun j Q e=>by obtain⟨rfl,_⟩:=e;exact absurd Q (by decide)⟩) ?_;obtain⟨W4,al,an,m4⟩:=Q8 underlying66 underlying3 O.mp o[i].id (.agg o[i].cells.toArray) (by rw[Lf,X];rfl);refine Ag (v:=undef) (w':=W4) (by simp only[kD,al,S3,k7]) ⟨m4.mono fun y _ e=>⟨rfl,e⟩,?_⟩;rw[AR,AO (by omega)];refine⟨⟨i+1,B,rfl,⟨m4.cell O.c0 (fun e=>O.ne e.symm),m4.cell O.c1 (fun e=>O.ne e.symm),AE.mod O.row m4 (fun g hg e=>(O.own g hg).1 e) fun _ _ _ h=>h,?_,O.hb,O.hm,O.ne,O.own,O.g.next m4 fun x hx e=>by have:=O.hm;omega⟩,fun q hq k hk=>?_⟩,by rw[DG,DG];omega⟩
   .rw[No,U,S7];exact an
   .by_cases e:q=i
    .subst e;rw[U] at hk;cases hk;refine⟨a8,fun j Q k' b4 e=>?_⟩;unfold Bj at X;rw[List.find?_eq_none] at X;exact X k' (kx (by rw[lQ,Io Q];exact b4)) (by simpa using e)
    .exact Z q (by omega) k hk
  .refine AT (fun vs V=>Grow W1 V/\vs=[.bool (Bj (o.take i) o[i].id).isSome]) ?_ ?_
   .rintro _ V ⟨J,rfl⟩ _;rw[B0,Of];cases hf:Bj (o.take i) o[i].id with
    |some k'=>
     refine As (bad _ J fun hM=>?_);have h1:=List.find?_some hf;have h2:=pg hf;obtain⟨j,Q,e⟩:=List.getElem_of_mem h2;rw[Mp] at Q;rw[nG] at e;exact(hM.2 i B _ U).2 j (by omega) k' (by rw[By (by omega),e]) (by simpa using h1)
    |none=>
     refine AV (Aj (vs:=o[i].cells) rfl (fun j u hu=>J.cell (a7 j u hu) fun h=>h) ?_);refine AA Zp ?_;rintro _ W3 ⟨rfl,av⟩;rw[Ar];refine AW (fun a8=>⟨J.trans av,rfl,a8⟩) fun ax=>bad _ (J.trans av) fun hM=>ax (hM.2 i B _ U).1
   .refine Ai (fun k y=>k=11/\W1.heap.size<=y) ?_;have T:Grow W1 W1.drew:=Mod.drew _ _;have Id:=I1.grow T;refine AI ?_;rw[AG];refine AY ⟨by rw[AH];exact Id.c1,fun j Q e=>by obtain⟨rfl,_⟩:=e;exact absurd Q (by decide)⟩ ?_;rw[AG];refine AY ⟨T.cell (a7 0 _ rfl) fun h=>h,fun j Q e=>by obtain⟨rfl,_⟩:=e;exact absurd Q (by decide)⟩ ?_;have look:∀W',Grow W1.drew W'->(Instr.lookup 66 (.map (some m)) (.int .i64 o[i].id) true).run prog W'=.ok (.tuple #[.agg (((Bj (o.take i) o[i].id)).getD DKey.zero).cells.toArray,.bool (Bj (o.take i) o[i].id).isSome]) W':=fun W' g'=>by
     have:=LU underlying66 underlying3 (P4 W') (Id.mp.mod g' fun h=>h) o[i].id;rw[this,Lf];cases Bj (o.take i) o[i].id<;>rfl
    generalize (Bj (o.take i) o[i].id).getD DKey.zero=kz at look;have one:=G0.one (w:=w) (x:=kz) rfl;refine⟨?_,?_⟩
    .refine Ag (look _ (Mod.refl _ _)) ⟨Mod.refl _ _,?_⟩;refine BV ?_;refine Dc fun b7 W5 b5 b8 g7 _ ak=>⟨g7.mono fun _ _ h=>h.elim,?_⟩;refine CF rfl one ak fun W6 m6 _ _=>⟨m6.mono fun y _ e=>⟨rfl,by have:=T.size;omega⟩,?_,rfl⟩;exact(T.trans g7).next m6 fun x hx e=>by have:=T.size;omega
    .refine Dc fun b7 W5 b5 b8 g7 _ ak=>⟨g7.mono fun _ _ h=>h.elim,?_⟩;refine Ag (look _ g7) ⟨Mod.refl _ _,?_⟩;refine BV ?_;refine CF rfl one ak fun W6 m6 _ _=>⟨m6.mono fun y _ e=>⟨rfl,by have:=T.size;omega⟩,?_,rfl⟩;exact(T.trans g7).next m6 fun x hx e=>by have:=T.size;omega
 .have:i=o.length:=by omega
  subst this;refine AI ?_;rw[AG];refine AK (by rw[AH];exact I.c0) ?_;refine AA (VO I.row (by omega)) ?_;rintro _ V ⟨ks,hp,hs,o2,m2⟩;have hM:Fk o:=⟨by omega,Z⟩;obtain⟨_,_,hd⟩:=MT.1 hM;have ay:=hd.perm hp.symm;refine⟨I.g.next m2 fun x hx e=>by have:=(AE.BA I.row x e).1;omega,.inl ⟨hM,_,ks,rfl,hp,UL ay hs,b,m,rv,_,rfl,I.hb,I.hm,m2.cell I.c0 fun e=>(I.own _ e).2 rfl,m2.cell I.c1 fun e=>(I.own _ e).2 rfl,(AE.sl o2).sub (fun _ _ h=>h.1) (by decide) fun _ _ h=>h,I.mp.mod m2 fun e=>(I.own _ e).1 rfl,fun id=>?_⟩⟩;rw[Nr,Lf,Rv hp ay];cases Bj o id<;>rfl
theorem Yv(l:List DKey)(hl:l.length<=1000):NS (fun b=>b=w.heap.size) (w.alloc (.cells (l.map DKey.cells).flatten.toArray 65)) (.slice (some ⟨w.heap.size,0,none⟩) l.length l.length) l:=by
 refine BB.made (t:=65) (l.map DKey.cells) (fun r hr=>by obtain⟨x,_,rfl⟩:=kQ.1 hr;rfl) (by simp) (by simp only[maxLen];omega) fun i r x hr j=>?_;rw[kr,j] at hr;exact(kK hr).symm
open Classical in
theorem PT{D:Nat->Prop}{id:Int}{x:BK}(h:De D w v ks)(O:E2 w)(h0:0<=x.f) :
  AB prog 209 [v,.int .i64 id,.agg x.cells.toArray] (fun v' w'=>v'=.bool (decide (Hh ks id x))/\Grow w w') w:=by
 apply ag;have J:∀w',Grow w w'->¬Hh ks id x->Value.bool false=.bool (decide (Hh ks id x))/\Grow w w':=fun w' g h=>⟨by rw[kX h],g⟩;refine Dq fun b Y _ Z g hc _=>?_;refine AA (Jw (h.grow g) id) ?_;rintro _ w2 ⟨rfl,Q⟩;refine BV ?_;generalize hk:(Bj ks id).getD DKey.zero=k;refine BS (vs:=k.cells) rfl rfl (G0.one (w:=w) (x:=k) rfl) fun b5 w3 S T U E _=>?_;have o:=Q.trans U;have i:=g.trans o;cases B:Bj ks id with
 |none=>
  rw[Option.isSome_none];exact J _ i (by rintro⟨k,e,_⟩;rw[B] at e;cases e)
 |some V=>
  rw[B] at hk;simp only[nz] at hk;subst hk;rw[Option.isSome_some];refine As ?_;rw[AG];refine AK (E 2 _ rfl) ?_;rw[AG];refine AK (o.cell (hc 0 _ rfl) fun h=>h) ?_;rw[Al];refine AF (fun he=>?_) fun he=>J _ i (by rintro⟨k,e,_,h⟩;rw[B] at e;cases e;exact he h.symm);refine Aj (vs:=x.cells) rfl (fun j u hu=>o.cell (hc j u hu) fun h=>h) (AA (ON (O.grow i) h0) ?_);rintro _ w4 ⟨rfl,X⟩;refine⟨?_,i.trans X⟩;congr 1
  rw[o0];constructor
  .intro I;exact⟨V,B,I,he.symm⟩
  .rintro⟨_,_,I,_⟩;exact I
theorem Ny{B e k:Nat}{R:World->List Value->α->Prop}{a:Addr}{n c:Nat}{l:List α}{u:Value}{x':α}{K:World->Prop}(h:AE B e k R W (.slice (some a) n c) l)(hi:i<l.length)(I:j<k)
 (hu:u.oneCell'=true)(o:u.cells=#[u])(J:∀E w2 r y,R E r y->R w2 r y)(O:∀E w2 r,R E r l[i]->R w2 (r.set j u) x')
 (Q:∀W',AE B e k R W' (.slice (some a) n c) (l.set i x')->Mod (fun b=>b=a.block) W W'->K W'):BC (.pointer (some (a.add (i*k+j)))) u K W:=by
 obtain⟨⟨v,S⟩,T,U,hm⟩:=AE.store (R':=R) (u:=u) (x':=x') (j:=j) h hi I hu (fun r y _ hr=>J _ _ _ _ hr) (fun r hr=>O _ _ _ hr);exact Kf hu o S T (Q _ U hm)
section
def Gi:Kd (List Attr) where
 μ:=fun _=>(1,0)
 cut:=fun x _=>(x,[])
 meld:=fun _ _=>none
theorem TR(v:Value):BM prog Dh Kc.vm [v] (fun v w'=>v=.tuple #[.int .i64 1,.int .i64 0]/\Grow w w') w:=by
 refine⟨_,[],[],rfl,by kernel_rfl,?_⟩;apply YR;exact⟨rfl,Mod.refl _ _⟩
theorem UB(a b:Value):BM prog Dh Kc.vd [a,b] (fun v w'=>Grow w w'/\∃u,v=.tuple #[u,.bool false]) w:=by
 refine⟨_,[],[],rfl,by kernel_rfl,?_⟩;apply Y2;exact⟨Mod.refl _ _,_,rfl⟩
abbrev Cx(C:Nat->Prop)(w:World)(r:List Value)(x:List Attr):Prop:=∃sv,r=[sv]/\Cf C w sv x
def BG:Av1 (List Attr) where
 toAvK:=Kc
 k:=Gi
 R:=Cx
 pb:=72
 eb:=24
 pb_le:=by decide
 eb_le:=by decide
 Epos:=by decide
 E1:=fun _=>rfl
 rlen:=fun⟨_,e,_⟩=>by subst e;rfl
 rone:=fun⟨sv,e,h⟩ u hu=>by
  subst e;obtain⟨a,c,rfl,_⟩:=h.shape;simp at hu;subst hu;rfl
 rcell:=fun⟨sv,e,h⟩=>by
  subst e;obtain⟨a,c,rfl,_⟩:=h.shape;rfl
 rheap:=fun⟨sv,e,h⟩ i=>⟨sv,e,h.mono (fun _ _ h=>h) i (by decide) fun _ _ h=>h⟩
 rsub:=fun⟨sv,e,h⟩ i=>⟨sv,e,h.sub i (by decide) fun _ _ h=>h⟩
 zlen:=rfl
 zone:=fun u hu=>by
  have hu:u∈[Value.slice none 0 0]:=hu;simp at hu;subst hu;rfl
 elP:=⟨Tryz.t347,.agg #[.slice none 0 0,.int .i64 0,.int .i64 0,.int .i64 0,.int .i64 0,.int .i64 0,.bool false],by kernel_rfl,by kernel_rfl,by kernel_rfl,by kernel_rfl,by kernel_rfl,by rfl,by decide⟩
 elE:=⟨Tryz.t43,.slice none 0 0,by kernel_rfl,by kernel_rfl,by kernel_rfl,by kernel_rfl,by kernel_rfl,by rfl,by decide⟩
 field0:=fun r t w hr o ht=>by
  match r,hr with
  |[a],_=>
   have hu:=underlying304;have j:=Tryz.isAgg43;have e:(Instr.field 304 (.agg ([a]++t).toArray) 0).run prog w=.ok a w:=by
    simp[Instr.field,run_underlying hu,part,j,asAgg]
   exact e
 ok:=ZI
 cutμ:=fun x p h0 h1=>by simp only[Gi] at h1;omega
 meldμ:=fun x y z h=>by cases h
 meas:=fun{C w r x} _=>TR _
 one1:=rfl
 ok1:=Vs
 μ1:=fun _=>rfl
 meld0:=fun _ _=>rfl
 meldc:=fun{C w r s x y} _ _=>UB _ _
def VB(g:AvK)(v0:Value)(K:Cont)(w:World):Prop:=
 Ao (fun _vs Q=>∀_:Env,
 AJ v0 fun i=>
 AM 0 i fun j=>
 AL j (fun o w2=>
 K o w2) Q) (fun J=>
 AJ v0 fun t4=>
 AM 0 t4 fun t5=>
 AL t5 (fun S O=>
 CY S fun T=>
 AD (.bool T)
 (Ah [(0,1),(1,1),(2,1)] [.nilFunc,.nilFunc,.nilFunc] [(0,g.vm),(1,g.vc),(2,g.vd)] fun t9=>
 AB prog g.fNew [t9] (fun B w4=>
 AJ v0 fun E=>
 AM 0 E fun I=>
 BC I B (fun U=>
 J [] U) w4) O)
 (J [] O)) w)
def fW(g:AvK)(ft:Nat)(v0:Value)(K:Cont)(w:World):Prop:=
 CY v0 fun i=>
 AD (.bool i)
 (K (.int .i64 0) w)
 (AB prog ft [v0] (fun j o=>
 AB prog g.fSize [j] (fun B w2=>
 K B w2) o) w)
def Yb(fl:Nat)(v0 v1 v2:Value)(K:Cont)(w:World):Prop:=
 CY v0 fun E=>
 AD (.bool E)
 (K (.int .i64 1) w)
 (Bb .i64 v1 (.int .i64 0) fun i=>
 AD i
 (K (.int .i64 5) w)
 (Eu .i64 v1 v2 fun j=>
 AD j
 (K (.int .i64 5) w)
 (AB prog fl [v0] (fun o B=>
 Eu .i64 v2 o fun t22=>
 AD t22
 (K (.int .i64 5) B)
 (K (.int .i64 0) B)) w)))
structure bV (g:AvK) where
 ft:Nat
 fl:Nat
 fb:Nat
 tree:∀{v0 K w},VB g v0 K w->AB prog ft [v0] K w
 len:∀{v0 K w},fW g ft v0 K w->AB prog fl [v0] K w
 iz:∀{v0 v1 v2 K w},Yb fl v0 v1 v2 K w->AB prog fb [v0,v1,v2] K w
 jN:g.vm.cells=#[g.vm]
 jT:g.vc.cells=#[g.vc]
 jO:g.vd.cells=#[g.vd]
def Hu:bV JN:=⟨99,111,97,fun h=>dM h,fun h=>Yn h,fun h=>eU h,rfl,rfl,rfl⟩
def FU:bV Kc:=⟨104,57,101,fun h=>YZ h,fun h=>ff h,fun h=>Y0 h,rfl,rfl,rfl⟩
def El:bV Gy:=⟨89,54,94,fun h=>dP h,fun h=>dB h,fun h=>eF h,rfl,rfl,rfl⟩
variable {α:Type}{g:AvT α}
def Vo(g:AvT α)(F C:Nat->Prop)(W:World)(b:Nat)(l:List α)(N:Nat):Prop:=∃A T,Dl g F C W b T.root A/\Tr.Holds g.k.μ A.f T/\Tr.GO T/\T.toL=l/\A.ps.length<=N
theorem Vo.mod{b N:Nat}{l:List α}(h:Vo g F C W b l N)(hm:Mod M W W')(i:∀x,F x\/C x->¬M x):Vo g F C W' b l N:=by
 obtain⟨A,T,h,r⟩:=h;exact⟨A,T,h.mod hm i,r⟩
theorem U7(hC:∀x,C x->x<W.heap.size) :
  AB prog g.fNew [.agg #[g.vm,g.vc,g.vd]] (fun v' w'=>∃b F,v'=.pointer (some ⟨b,0,none⟩)/\W.heap.size<=b/\(∀x,F x->W.heap.size<=x)/\Vo g F C w' b [] 0/\Grow W w') W:=by
 apply g.ok.new;unfold bB;refine Bx.box (vs:=[g.vm,g.vc,g.vd]) fun b1 o V T X=>?_;have J:Grow o o.drew:=Mod.drew _ _;have z1:=T.size;have zd:=J.size;refine Ai (fun _ _=>False) ?_;refine CU (vs:=[g.vm,g.vc,g.vd]) rfl (fun j v Y=>⟨by rw[AH];exact(X.grow J).cells j v Y,fun _ _ e=>e⟩) ?_;refine AA (YL (g:=g) (C:=C) fun x O=>by have:=hC x O;omega) ?_;rintro _ w2 ⟨rfl,Z,Q,hA⟩;refine⟨Q.mono fun _ _ h=>h.elim,?_⟩;have B:Instr.fill (fun i=>[(0,3),(3,1),(4,1)][i]?) [Value.nilFunc,.nilFunc,.nilFunc,.pointer none,.int .i64 0].toArray [(0,.agg [g.vm,g.vc,g.vd].toArray),(1,.pointer (some ⟨o.drew.heap.size,0,none⟩)),(2,.int .i64 (-1))]=some (az g o.drew.heap.size (-1)).toArray:=by
  rw[DB (vs:=[g.vm,g.vc,g.vd]) (off:=0) (len:=3) rfl rfl rfl (by decide),DB (vs:=[.pointer (some ⟨o.drew.heap.size,0,none⟩)]) (off:=3) (len:=1) rfl rfl rfl (by simp[Iy]),DB (vs:=[.int .i64 (-1)]) (off:=4) (len:=1) rfl rfl rfl (by simp[Iy]),FR];rfl
 refine⟨_,B,?_⟩;refine Bx.box fun E w3 a1 I U=>⟨I.mono fun _ _ h=>h.elim,?_⟩;have z2:=Q.size;have z3:=I.size;have S:=U.lt (Ty _);refine⟨E,fun x=>x=o.drew.heap.size\/x=E,rfl,by omega,fun x O=>by rcases O with e|e<;>omega,⟨ArS.z,.nil,⟨o.drew.heap.size,.slice none 0 0,.slice none 0 0,U,?_,.inr rfl,fun h=>by have:=hC E h;omega⟩,trivial,mq,rfl,Nn _⟩,((T.trans J).trans Q).trans I⟩;have e:(fun x=>(x=o.drew.heap.size\/x=E)/\x≠E)=fun x=>x=o.drew.heap.size:=by
  funext x
  refine propext ⟨fun h=>h.1.elim (fun h=>h) fun e=>(h.2 e).elim,fun h=>⟨.inl h,by omega⟩⟩
 rw[e];exact hA.grow I
structure Dj (g:AvT α) (F C:Nat->Prop) (W:World) (b bt:Nat) (l:List α) (N:Nat):Prop where
 box:Bx W b [.pointer (some ⟨bt,0,none⟩)]
 EH:Vo g (fun x=>F x/\x≠b) C W bt l N
 fb:F b/\¬C b
theorem Dj.mod{b bt N:Nat}{l:List α}(h:Dj g F C W b bt l N)(hm:Mod M W W')(i:∀x,F x\/C x->¬M x):Dj g F C W' b bt l N:=
 ⟨h.box.mod hm (i b (.inl h.fb.1)),h.EH.mod hm fun x j=>i x (j.imp (fun h=>h.1) fun h=>h),h.fb⟩
theorem Dj.grow{b bt N:Nat}{l:List α}(h:Dj g F C W b bt l N)(hm:Grow W W'):Dj g F C W' b bt l N:=h.mod hm fun _ _ h=>h
theorem Dj.lt{b bt N:Nat}{l:List α}(h:Dj g F C W b bt l N):∀x,F x\/C x->x<W.heap.size:=by
 obtain⟨A,T,h1,_⟩:=h.EH;intro x i;by_cases e:x=b
 .subst e;exact h.box.lt (Ty _)
 .exact h1.lt x (i.imp (fun h=>⟨h,e⟩) fun h=>h)
theorem Dj.Is{b bt N:Nat}{l:List α}(h:Dj g F C W b bt l N):∀x,F x->¬C x:=by
 obtain⟨A,T,h1,_⟩:=h.EH;intro x i;by_cases e:x=b
 .subst e;exact h.fb.2
 .exact h1.Is x ⟨i,e⟩
theorem EO{b bt N:Nat}{l:List α}(o:bV g.toAvK)(h:Dj g F C W b bt l N):AB prog o.ft [.pointer (some ⟨b,0,none⟩)] (fun v' w'=>v'=.pointer (some ⟨bt,0,none⟩)/\w'=W) W:=by
 apply o.tree;unfold VB;refine AT (fun _ W'=>W'=W) ?_ ?_
 .rintro _ _ rfl _;rename World=>W
  refine AI ?_;rw[AG,AH];exact AK (h.box.cells 0 _ rfl) ⟨rfl,rfl⟩
 .refine AI ?_;refine Bt (h.box.cells 0 _ rfl) ?_;exact DS (AV rfl)
theorem dU{b:Nat}(o:bV g.toAvK)(E:Bx W b [.pointer none])(hb:¬C b)(hC:∀x,C x->x<W.heap.size) :
  AB prog o.ft [.pointer (some ⟨b,0,none⟩)] (fun v' w'=>∃bt F,v'=.pointer (some ⟨bt,0,none⟩)/\Dj g F C w' b bt [] 0/\(∀x,F x->x=b\/W.heap.size<=x)/\Mod (fun x=>x=b) W w') W:=by
 apply o.tree;unfold VB;have O:=E.lt (Ty _);refine AT (fun _ W'=>∃bt F,Dj g F C W' b bt [] 0/\(∀x,F x->x=b\/W.heap.size<=x)/\Mod (fun x=>x=b) W W') ?_ ?_
 .rintro _ W' ⟨bt,F,h,T,U⟩ _;refine AI ?_;rw[AG,AH];exact AK (h.box.cells 0 _ rfl) ⟨bt,F,rfl,h,T,U⟩
 .refine AI ?_;refine Bt (E.cells 0 _ rfl) ?_;refine⟨none,rfl,As ?_⟩;have B:Instr.fill (fun i=>[(0,1),(1,1),(2,1)][i]?) [Value.nilFunc,.nilFunc,.nilFunc].toArray [(0,g.vm),(1,g.vc),(2,g.vd)]=some [g.vm,g.vc,g.vd].toArray:=by
   rw[DB (vs:=[g.vm]) (off:=0) (len:=1) rfl o.jN rfl (by decide),DB (vs:=[g.vc]) (off:=1) (len:=1) rfl o.jT rfl (by simp[Iy]),DB (vs:=[g.vd]) (off:=2) (len:=1) rfl o.jO rfl (by simp[Iy]),FR];rfl
  refine⟨_,B,?_⟩;refine AA (U7 (g:=g) hC) ?_;rintro _ w4 ⟨bt,F,rfl,V,I,X,Q⟩;refine AI ?_;rw[AG,AH];refine(E.grow Q).st (q:=0) (show 0<1 by decide) rfl rfl fun Z Y S=>?_;have J:=X.mod S fun x j e=>by
   rcases j with j|j
   .have:=I x j;omega
   .exact hb (e▸j)
  refine⟨bt,fun x=>F x\/x=b,⟨Y,?_,.inr rfl,hb⟩,fun x j=>?_,(Q.mono fun _ _ h=>h.elim).trans S⟩
  .have e:(fun x=>(F x\/x=b)/\x≠b)=F:=by
    funext x
    refine propext ⟨fun h=>h.1.elim (fun h=>h) fun e=>(h.2 e).elim,fun h=>⟨.inl h,fun e=>?_⟩⟩;have:=I x h;omega
   rw[e];exact J
  .rcases j with j|j
   .exact .inr (I x j)
   .exact .inl j
theorem MV{b bt N:Nat}{l:List α}(o:bV g.toAvK)(h:Dj g F C W b bt l N):AB prog o.fl [.pointer (some ⟨b,0,none⟩)] (fun v' w'=>v'=.int .i64 (Tr.sz g.k.μ l)/\Grow W w') W:=by
 apply o.len;unfold fW;refine DS (AV ?_);refine AA (EO o h) ?_;rintro _ _ ⟨rfl,rfl⟩;rename World=>W
 obtain⟨A,T,h1,i,B,j,E⟩:=h.EH;have:=P5 h1 i;rw[j] at this;exact this
theorem VH{b:Nat}(o:bV g.toAvK)(j:Bx W b [.pointer none])(hb:¬C b)(hC:∀x,C x->x<W.heap.size) :
  AB prog o.fl [.pointer (some ⟨b,0,none⟩)] (fun v' w'=>v'=.int .i64 0/\∃bt F,Dj g F C w' b bt [] 0/\(∀x,F x->x=b\/W.heap.size<=x)/\Mod (fun x=>x=b) W w') W:=by
 apply o.len;unfold fW;refine DS (AV ?_);refine AA (dU o j hb hC) ?_;rintro _ J ⟨bt,F,rfl,h,B,E⟩;obtain⟨A,T,k1,k2,O,I,Q⟩:=h.EH;have:=P5 k1 k2;rw[I] at this;refine AA this ?_;rintro _ w2 ⟨rfl,i⟩;exact⟨rfl,bt,F,h.grow i,B,E.trans (i.mono fun _ _ h=>h.elim)⟩
def QM(i j n:Int):Int:=if i<0 then 5 else if j<i then 5 else if n<j then 5 else 0
theorem Jg{b bt N:Nat}{l:List α}{i j:Int}(o:bV g.toAvK)(h:Dj g F C W b bt l N):AB prog o.fb [.pointer (some ⟨b,0,none⟩),.int .i64 i,.int .i64 j] (fun v' w'=>v'=.int .i64 (QM i j (Tr.sz g.k.μ l))/\Grow W w') W:=by
 apply o.iz;unfold Yb QM;refine DS (AV ?_);rw[Ap];refine AF (fun e=>⟨by rw[Io e],Mod.refl _ _⟩) fun B=>?_;rw[BR];refine AF (fun e=>⟨by rw[C3 B,Io e],Mod.refl _ _⟩) fun E=>?_;refine AA (MV o h) ?_;rintro _ O ⟨rfl,I⟩;rw[BR];refine AF (fun e=>⟨by rw[C3 B,C3 E,Io e],I⟩) fun J=>⟨by rw[C3 B,C3 E,C3 J],I⟩
theorem Ix{b bt N i j:Nat}{l L:List α}(Q:Re g)(h:Dj g F C W b bt l N)(hN:N+L.length<=109951162000)(U:BB S g.E (g.R C) W v L)(V:∀x,S x->¬F x)(B:i<=j)(X:j<=1099511627776)
 (b1:EA g l)(b2:EA g (g.k.Bw l i j L))(Y:EA g ((g.k.split l i).1.getLast?.toList++L++(g.k.split (g.k.split l i).2 (j-i)).2.head?.toList)) :
  AB prog g.fReplace [.pointer (some ⟨bt,0,none⟩),.int .i64 (i:Int),.int .i64 (j:Int),v] (fun _ w'=>∃F',(∀x,F x->F' x)/\(∀x,F' x->F x\/W.heap.size<=x)/\Dj g F' C w' b bt (g.k.Bw l i j L) (N+L.length+4)/\Mod F W w') W:=by
 obtain⟨A,T,h1,Z,h3,rfl,h5⟩:=h.EH;have I:=h.box.lt (Ty _);refine AA (Q h1 (by omega) Z h3 U (fun x o e=>V x o e.1) B X b1 b2 Y) ?_;rintro _ w' ⟨T',A',e1,⟨F',k1,k2,k3,J⟩,e2,e3,e4⟩;refine⟨fun x=>F' x\/x=b,fun x o=>?_,fun x o=>?_,⟨h.box.mod J fun e=>e.2 rfl,⟨A',T',?_,e2,e3,e1,by omega⟩,.inr rfl,h.fb.2⟩,J.mono fun x _ e=>e.1⟩
 .by_cases e:x=b
  .exact .inr e
  .exact .inl (k1 x ⟨o,e⟩)
 .rcases o with o|rfl
  .exact(k2 x o).imp (fun h=>h.1) fun h=>h
  .exact .inl h.fb.1
 .have e:(fun x=>(F' x\/x=b)/\x≠b)=F':=by
   funext x
   refine propext ⟨fun h=>h.1.elim (fun h=>h) fun e=>(h.2 e).elim,fun o=>⟨.inl o,fun e=>?_⟩⟩;rcases k2 x o with O|O
   .exact O.2 e
   .omega
  rw[e];exact k3
end
abbrev Bf(l:List Ck):List Int:=l.flatMap Ck.l
theorem G8:Ck.kd.FQ Ck.l where
 size:=fun _=>rfl
 cut1:=fun _ _ _ _=>⟨rfl,rfl⟩
 melds:=fun a b c h=>by
  simp only[Ck.kd] at h;split at h
  .rename_i i;cases h;have j:a.jn b=⟨a.l++b.l,by simpa using i⟩:=qj i;rw[j]
  .cases h
theorem Gx(l:List Ck):Tr.sz Ck.kd.μ l=(Bf l).length:=G8.sz l
theorem O0(l:List Ck):Tr.mk Ck.kd.μ l=Bc (Bf l):=by
 induction l with
 |nil=>rfl
 |cons c l i=>rw[Tr.Cy,i];show Bc c.l+Bc (Bf l)=Bc (c.l++Bf l);rw[Bc,Bc,Bc,nE]
theorem Qi(l r:Tr Ck)(i:Nat)(x:Ck):Bf (Tr.node l i x r).toL=Bf l.toL++(x.l++Bf r.toL):=by
 simp[Bf,Tr.toL]
theorem Dn(l:List Int):Bc l<=l.length:=qb
theorem FD(a b:List Int):Bc (a++b)=Bc a+Bc b:=nE
theorem La(a b:List Int)(k:Nat):HQ (a++b) k=if k<Bc a then HQ a k else(HQ b (k-Bc a)).map (·+a.length):=by
 induction a generalizing k with
 |nil=>simp[Bc]
 |cons r a j=>
  have i:∀o:Option Nat,(o.map (·+a.length)).map (·+1)=o.map (·+(r::a).length):=fun o=>by cases o<;>simp;omega
  rw[WJ,G6,G6];by_cases h:r=10
  .have e:Bc (r::a)=Bc a+1:=by rw[h];simp[Bc]
   rw[Io h,Io h,e];cases k with
   |zero=>simp
   |succ k=>
    simp only[j];by_cases hk:k<Bc a
    .rw[Io hk,Io (by omega)]
    .rw[C3 hk,C3 (by omega),i,Nat.add_sub_add_right]
  .have e:Bc (r::a)=Bc a:=by simp[Bc,h]
   rw[C3 h,C3 h,e,j];by_cases hk:k<Bc a
   .rw[Io hk,Io hk]
   .rw[C3 hk,C3 hk,i]
theorem OS{l:List Int}{k:Nat}(h:k<Bc l):∃i,HQ l k=some i/\i<l.length:=by
 induction l generalizing k with
 |nil=>simp[Bc] at h
 |cons r a j=>
  rw[G6];by_cases e:r=10
  .rw[Io e];cases k with
   |zero=>exact⟨0,rfl,by simp⟩
   |succ k=>
    obtain⟨i,h1,o⟩:=j (k:=k) (by rw[e] at h;simp[Bc] at h ⊢;omega);exact⟨i+1,by simp[h1],by simp;omega⟩
  .rw[C3 e];obtain⟨i,h1,o⟩:=j (k:=k) (by simpa[Bc,e] using h);exact⟨i+1,by simp[h1],by simp;omega⟩
def SB(A:ArS Ck)(v:Value):Nat:=match v with
 |.int _ i=>if i<0 then 0 else match A.f i.toNat with
  |some n=>(n.h:Int).toNat
  |none=>0
 |_=>0
theorem FI{A:ArS Ck}{t:Tr Ck}(h:Tr.Holds Ck.kd.μ A.f t):SB A (.int .i64 t.root)=t.ht:=by
 cases t with
 |nil=>rfl
 |node l i x r=>
  obtain⟨_,_,hi⟩:=h;have e:SB A (.int .i64 ((i:Nat):Int))=match A.f i with
   |some n=>(n.h:Int).toNat
   |none=>0:=by
   unfold SB;simp only[lI];exact C3 (by omega)
  show SB A (.int .i64 ((i:Nat):Int))=_;rw[e,hi];simp[Tr.EC]
theorem RO{v0 v1 v2:Value}(h:Uw Gy v0 v1 v2 K w):AB prog 108 [v0,v1,v2] K w:=ZA h
theorem TM{v0 v1 v2:Value}(h:bT Gy v0 v1 v2 K w):AB prog 91 [v0,v1,v2] K w:=fj h
theorem Qr{v0:Value}(h:VP Gy v0 K w):AB prog 90 [v0] K w:=dq h
set_option maxRecDepth 4000 in
theorem Qa{b p:Nat}{A:ArS Ck}{T:Tr Ck}(h:Dl A6.toAvT F C W b T.root A)(hh:Tr.Holds A6.k.μ A.f T)(hp:p<=1099511627776)(hb:EA A6.toAvT T.toL) :
  AB prog 108 [.pointer (some ⟨b,0,none⟩),.int .i64 (p:Int),.func (.func 109) #[] #[]] (fun v' w'=>v'=.int .i64 (Bc ((Bf T.toL).take p):Int)/\Grow W w') W:=by
 apply RO;unfold Uw;refine AI ?_;obtain⟨c,pl,fr,X⟩:=id h;refine Bt (X.box.cells 4 _ rfl) ?_;have Y:(Bf T.toL).length<=1099511627776:=by rw[<-Gx];exact hb.1
 have hN:Bc ((Bf T.toL).take p)<=1099511627776:=k8 (Dn _) (by rw[Mp];omega);generalize Z:Bc ((Bf T.toL).take p)=N at hN;refine Ab (fun vs W'=>∃(t:Tr Ck) (q m:Nat),vs=[.int .i64 (q:Int),.int .i64 (m:Int),.int .i64 t.root]/\Tr.Holds A6.k.μ A.f t/\(Bf t.toL).length<=1099511627776/\q<=p/\m+Bc ((Bf t.toL).take q)=N/\Grow W W')
  (fun vs _=>SB A (nth vs 2)) ⟨T,p,0,rfl,hh,Y,Lc _,by rw[lp];exact Z,Mod.refl _ _⟩ ?_
 rintro vs W1 ⟨t,q,m,rfl,I,O,hq,hm,Q⟩ _;simp only[GJ];rw[Bm];cases t with
 |nil=>
  refine AW (fun _=>?_) fun e=>(e rfl).elim;have:m=N:=by simpa[Bf,Tr.toL,Bc] using hm
  subst this;exact⟨rfl,Q⟩
 |node l i x r=>
  obtain⟨hl,hr,hi⟩:=id I;have a1:=Qi l r i x;rw[a1] at hm O;rw[Bq,Bq] at O;have h1:=h.grow Q;refine AW (fun e=>by simp only[Tr.root] at e;omega) fun _=>?_;simp only[Tr.root];refine Dt h1 hi fun rc bx w3 g3 av B S=>?_;have o:=A6.rlen S;obtain rfl:rc=x.cells:=S;have h3:=h1.grow g3;refine Bt (B.cells (A6.E+0) _ (by rw[AZ o];rfl)) ?_;refine AA (CB h3 hl) ?_;rintro _ w5 ⟨rfl,g5⟩;refine Kh ?_;have U:Grow w5 w5.drew:=Mod.drew _ _;have V:=(g3.trans g5).trans U;obtain⟨c,pl,fr,X⟩:=id h1;have a6:=X.mod V fun _ _ h=>h;have B5:=(B.grow g5).grow U;refine Ai (fun _ _=>False) ?_;refine AI ?_;rw[AG,AH,AG,AH];refine AY ⟨a6.box.cells 0 _ rfl,fun _ _ e=>e⟩ ?_;rw[AG,AH];refine JI (g:=A6.toAvT) (r:=x.cells) o (fun j v hv=>⟨B5.cells j v (by rw[Q0 (Bp.1 hv).1];exact hv),fun _ _ e=>e⟩) ?_;refine Az (A6.meas (C:=C) (x:=x) rfl) ?_;rintro _ w6 ⟨rfl,g6⟩;refine⟨g6.mono fun _ _ h=>h.elim,?_⟩;refine BV ?_;have J:=V.trans g6;have B6:=B5.grow g6;have es:Tr.sz A6.k.μ l.toL=(Bf l.toL).length:=Gx _;have em:Tr.mk A6.k.μ l.toL=Bc (Bf l.toL):=O0 _;have a7:(A6.k.μ x).1=x.l.length:=rfl;have a8:(A6.k.μ x).2=Bc x.l:=rfl;rw[es,em,a7,a8,IJ];have ax:=Dn x.l;have ay:=Dn (Bf l.toL);refine AF (fun b0=>?_) fun an=>?_
  .rw[nU (by omega)] at hm;refine Bt (B6.cells (A6.E+0) _ (by rw[AZ o];rfl)) ?_;refine⟨⟨l,q,m,rfl,hl,by omega,hq,hm,Q.trans J⟩,?_⟩;have e1:SB A (.int .i64 (i:Int))=(Tr.node l i x r).ht:=FI I;have e2:SB A (.int .i64 (Tr.EC A6.k.μ (.node l i x r) x l.root r.root).l)=l.ht:=FI hl;refine oQ (nX e2) (WL ?_ (nX e1.symm));simp only[Tr.ht];omega
  have ak:(Bf l.toL).length<q:=by omega
  rw[mo,lN (by omega:(Bf l.toL).length<=q),FD] at hm;refine CK (by omega) ?_;refine H6 (fun b3=>?_) fun b4=>?_
  .rw[nU (by omega)] at hm;refine CK (by omega) ?_;rw[AG,AH];refine Aj (vs:=x.cells) o (fun j u hu=>by rw[AH];exact B6.cells j u (by rw[Q0 (Bp.1 hu).1];exact hu)) ?_;refine Gz (by omega) (by omega) ?_;refine Hx (by kernel_rfl) ?_;refine AA (P0 x _) ?_;rintro _ b5 ⟨rfl,al⟩;refine CK (by omega) ⟨?_,(Q.trans J).trans al⟩;congr 2;omega
  .rw[mo,lN (by omega:x.l.length<=q-(Bf l.toL).length),FD] at hm;refine CK (by omega) (CK (by omega) (CK (by omega) (Gz (by omega) (by omega) ?_)));refine Bt (B6.cells (A6.E+1) _ (by rw[AZ o];rfl)) ?_;refine⟨⟨r,q-((Bf l.toL).length+x.l.length),m+(Bc (Bf l.toL)+Bc x.l),rfl,hr,by omega,by omega,?_,Q.trans J⟩,?_⟩
   .rw[po] at hm;omega
   .have e1:SB A (.int .i64 (i:Int))=(Tr.node l i x r).ht:=FI I;have e2:SB A (.int .i64 (Tr.EC A6.k.μ (.node l i x r) x l.root r.root).r)=r.ht:=FI hr;refine oQ (nX e2) (WL ?_ (nX e1.symm));simp only[Tr.ht];omega
theorem gY(c:Ck){k i:Nat}(hk:k<=1099511627776)(h:HQ c.l k=some i):AB prog 92 [.agg c.cells.toArray,.int .i64 (k:Int)] (fun v w'=>v=.int .i64 (i:Int)/\Grow w w') w:=by
 apply fP;refine Bx.box fun b E hb j B=>?_;refine B.FZ c.len ?_;refine AA (O1 c hk) ?_;rintro _ w2 ⟨rfl,o⟩;rw[h,iy];exact CW (vs:=[_,_]) (by rfl) (CW (vs:=[_,_]) (by rfl) ⟨rfl,j.trans o⟩)
set_option maxRecDepth 4000 in
theorem Z7{b k p:Nat}{A:ArS Ck}{T:Tr Ck}(h:Dl A6.toAvT F C W b T.root A)(hh:Tr.Holds A6.k.μ A.f T)(hk:k<=1099511627776)(hb:EA A6.toAvT T.toL)(hp:HQ (Bf T.toL) k=some p) :
  AB prog 91 [.pointer (some ⟨b,0,none⟩),.int .i64 (k:Int),.func (.func 92) #[] #[]] (fun v' w'=>v'=.tuple #[.int .i64 (p:Int),.bool true]/\Grow W w') W:=by
 apply TM;unfold bT;refine AI ?_;obtain⟨c,pl,fr,Z⟩:=id h;refine Bt (Z.box.cells 4 _ rfl) ?_;have b0:(Bf T.toL).length<=1099511627776:=by rw[<-Gx];exact hb.1
 refine Ab (fun vs W'=>∃(t:Tr Ck) (q m z:Nat),vs=[.int .i64 (q:Int),.int .i64 (m:Int),.int .i64 t.root]/\Tr.Holds A6.k.μ A.f t/\m+(Bf t.toL).length<=1099511627776/\q<=k/\HQ (Bf t.toL) q=some z/\m+z=p/\Grow W W')
  (fun vs _=>SB A (nth vs 2)) ⟨T,k,0,p,rfl,hh,by omega,Lc _,hp,lp _,Mod.refl _ _⟩ ?_
 rintro vs W1 ⟨t,q,m,z,rfl,J,Q,hq,o,a1,Y⟩ _;simp only[GJ];refine AT (fun _ W'=>W'=W1) ?_ ?_;rotate_left
 .rw[DX];refine AF (fun _=>?_) fun e=>(e (by omega)).elim;rw[Bm];refine AW (fun e=>?_) fun _=>rfl;cases t with
  |nil=>cases o
  |node l i x r=>simp only[Tr.root] at e;omega
 rintro _ _ rfl _;rename World=>W1
 cases t with
 |nil=>cases o
 |node l i x r=>
  obtain⟨hl,hr,hi⟩:=id J;have a6:=Qi l r i x;rw[a6] at o Q;rw[Bq,Bq] at Q;have h1:=h.grow Y;simp only[Tr.root];refine Dt h1 hi fun rc bx w3 g3 b3 B S=>?_;have I:=A6.rlen S;obtain rfl:rc=x.cells:=S;have h3:=h1.grow g3;refine Bt (B.cells (A6.E+0) _ (by rw[AZ I];rfl)) ?_;refine AA (CB h3 hl) ?_;rintro _ w5 ⟨rfl,g5⟩;refine Kh ?_;have U:Grow w5 w5.drew:=Mod.drew _ _;have V:=(g3.trans g5).trans U;obtain⟨c,pl,fr,Z⟩:=id h1;have a7:=Z.mod V fun _ _ h=>h;have B5:=(B.grow g5).grow U;refine Ai (fun _ _=>False) ?_;refine AI ?_;rw[AG,AH,AG,AH];refine AY ⟨a7.box.cells 0 _ rfl,fun _ _ e=>e⟩ ?_;rw[AG,AH];refine JI (g:=A6.toAvT) (r:=x.cells) I (fun j v hv=>⟨B5.cells j v (by rw[Q0 (Bp.1 hv).1];exact hv),fun _ _ e=>e⟩) ?_;refine Az (A6.meas (C:=C) (x:=x) rfl) ?_;rintro _ w6 ⟨rfl,g6⟩;refine⟨g6.mono fun _ _ h=>h.elim,?_⟩;refine BV ?_;have O:=V.trans g6;have B6:=B5.grow g6;have es:Tr.sz A6.k.μ l.toL=(Bf l.toL).length:=Gx _;have em:Tr.mk A6.k.μ l.toL=Bc (Bf l.toL):=O0 _;have a8:(A6.k.μ x).1=x.l.length:=rfl;have ak:(A6.k.μ x).2=Bc x.l:=rfl;rw[es,em,a8,ak,Ap];have b4:=Dn x.l;have b5:=Dn (Bf l.toL);rw[La] at o;refine AF (fun b6=>?_) fun ax=>?_
  .rw[Io (by omega)] at o;refine Bt (B6.cells (A6.E+0) _ (by rw[AZ I];rfl)) ?_;refine⟨⟨l,q,m,z,rfl,hl,by omega,hq,o,a1,Y.trans O⟩,?_⟩;have e1:SB A (.int .i64 (i:Int))=(Tr.node l i x r).ht:=FI J;have e2:SB A (.int .i64 (Tr.EC A6.k.μ (.node l i x r) x l.root r.root).l)=l.ht:=FI hl;refine oQ (nX e2) (WL ?_ (nX e1.symm));simp only[Tr.ht];omega
  rw[C3 (by omega),La] at o;refine CK (by omega) ?_;refine H6 (fun b7=>?_) fun b8=>?_
  .rw[Io (by omega)] at o;obtain⟨i',X,rfl⟩:=oh.1 o;have ay:i'<x.l.length:=by
    obtain⟨i2,k1,k2⟩:=OS (l:=x.l) (k:=q-Bc (Bf l.toL)) (by omega);rw[X] at k1;cases k1;exact k2
   refine CK (by omega) ?_;rw[AG,AH];refine Aj (vs:=x.cells) I (fun j u hu=>by rw[AH];exact B6.cells j u (by rw[Q0 (Bp.1 hu).1];exact hu)) ?_;refine Gz (by omega) (by omega) ?_;refine Hx (by kernel_rfl) ?_;refine AA (gY x (by omega) X) ?_;rintro _ b9 ⟨rfl,al⟩;refine CK (by omega) ⟨?_,(Y.trans O).trans al⟩;have e:m+(Bf l.toL).length+i'=p:=by omega
   rw[e]
  .rw[C3 (by omega)] at o;obtain⟨z1,an,rfl⟩:=oh.1 o;obtain⟨z2,av,rfl⟩:=oh.1 an;refine CK (by omega) (CK (by omega) (CK (by omega) (Gz (by omega) (by omega) ?_)));refine Bt (B6.cells (A6.E+1) _ (by rw[AZ I];rfl)) ?_;refine⟨⟨r,q-(Bc (Bf l.toL)+Bc x.l),m+((Bf l.toL).length+x.l.length),z2,rfl,hr,by omega,by omega,?_,by omega,Y.trans O⟩,?_⟩
   .rw[<-po];exact av
   .have e1:SB A (.int .i64 (i:Int))=(Tr.node l i x r).ht:=FI J;have e2:SB A (.int .i64 (Tr.EC A6.k.μ (.node l i x r) x l.root r.root).r)=r.ht:=FI hr;refine oQ (nX e2) (WL ?_ (nX e1.symm));simp only[Tr.ht];omega
theorem K5.grow{st:Prop}{B N:Nat}{j:List Value}{i:Nat->List Value}{E:Nat->Prop}(h:K5 st P B j i N E w)(g:Grow w w'):K5 st P B j i N E w':=by
 intro l J I O Q h0 hJ Rq J8 hr;refine h l J I O (g.trans Q) h0 hJ Rq (fun k S W hk b hb o=>?_) hr;exact(J8 k S W hk b (WL hb g.size) o).trans (g.same b hb fun h=>h)
structure aI {α:Type} (e k:Nat) (R:World->List Value->α->Prop) (B c m:Nat) (It:Nat->Prop) (W:World) (out:Value) (l:List α):Prop where
 box:Bx W c [out]
 row:AE B e k R W out l
 hc:∀g,out.ownBlock=some g->g≠c/\g≠m/\g≠m+1/\¬It g
theorem OU{S vals:List Value}{X:List Spn}(hs:K5 True prog I S (fun k=>[vals.getD k undef]) vals.length F W)(a7:Dh I=true)(hv:vals.length=X.length)(gf:∀m (h1:m<vals.length) (V:m<X.length),vals[m]=.agg X[m].cells.toArray)(J8:∀x,F x->x<W.heap.size)(hl:X.length<=109951162777) :
  AB prog 98 [.func (.func I) #[] S.toArray] (fun v' w'=>AE W.heap.size 108 2 (fun _ r x=>r=Spn.cells x) w' v' X/\Grow W w') W:=by
 apply dN;apply Z1;refine GN rfl fun c E hc g1 B=>?_;have b3:=B.lt (Ty _);have z1:=g1.size;refine⟨True,I,S,_,_,_,rfl,a7,hs.grow g1,fun k _=>rfl,?_⟩;refine⟨fun k J W'=>∃out,aI 108 2 (fun _ r x=>r=Spn.cells x) E.heap.size c E.heap.size J W' out (X.take k)/\Mod (fun x=>x=c) E W'/\k<=X.length,fun _ _ _=>False,⟨_,⟨B,AE.nil,fun g i=>nomatch i⟩,Mod.refl _ _,Nn _⟩,?_,fun x J a8 W W' h=>h.elim,?_,?_,?_,fun x J W h=>h.elim⟩
 .rintro k J a8 W' b4 ⟨out,q,m,hk⟩ hm j;have Y:=q.box.lt (Ty _);have hn:∀x,x<E.heap.size->¬((¬True/\J x)\/x=E.heap.size\/x=E.heap.size+1):=fun x gf=>by rintro(⟨h,_⟩|h|h);exact h trivial;all_goals omega
  refine⟨out,⟨q.box.mod hm (hn c (by omega)),AE.mod q.row hm (fun g i=>?_) fun _ _ _ h=>h,fun g i=>?_⟩,m.next hm fun x gf=>?_,hk⟩
  .obtain⟨_,V,Z,_⟩:=q.hc g i;rintro(⟨h,_⟩|h|h)
   .exact h trivial
   .exact V h
   .exact Z h
  .obtain⟨h1,V,Z,h4⟩:=q.hc g i;refine⟨h1,V,Z,fun h=>?_⟩;rcases(j g h).1 with h|h
   .exact h4 h
   .have:=(AE.BA q.row g i).2;omega
  .intro e;exact absurd e (hn x gf)
 .rintro k J W' ⟨out,q,m,hk⟩ b hb hr;exact m.same b hb fun e=>by have:=J8 b hr;omega
 .rintro k J W' hk ⟨out,q,m,b6⟩ hz j;have O:k<X.length:=by omega
  have T:(nth [vals.getD k undef] 0)=.agg X[k].cells.toArray:=by
   show vals.getD k undef=_;rw[lE,By hk,nz,gf k hk O]
  rw[T];refine Bx.new (vs:=X[k].cells) rfl rfl (Spn.one _) fun b5 W5 b7 g5 B5=>?_;refine Lz g5 hz j (fun _ _ h=>h.elim) fun W6 o=>?_;have z5:=g5.size;have z6:=o.size;have Y:=q.box.lt (Ty _);have ak:=B5.lt (Ty _);have B6:=(q.box.grow g5).mod o (by omega);have al:=B5.mod o (by omega);have o6:AE E.heap.size 108 2 (fun _ r x=>r=Spn.cells x) W6 out (X.take k):=AE.mod (AE.mod (R':=fun _ r x=>r=Spn.cells x) q.row g5 (fun _ _ h=>h) fun _ _ _ h=>h) o (fun g i=>(q.hc g i).2.2.1) fun _ _ _ h=>h;refine AK (B6.cells 0 _ rfl) ?_;refine al.FZ rfl ?_;have b8:(X.take k).length<=X.length:=by simp;omega
  refine Dr DI.elE o6 (by omega) (cs:=X[k].cells) (x:=X[k]) (DW (v:=.agg X[k].cells.toArray) rfl (by decide) rfl rfl) rfl rfl (fun _ _ _ h=>by subst h;exact Spn.one _) (fun _ _ _ _ _ _ h=>h) (by show _*16<=_;omega) (by simp only[maxLen];omega) fun a1 W9 o9 m9 n9=>?_;have z9:=m9.size;have b9:=AE.BA o6;have B9:=B6.mod m9 fun e=>(q.hc c e).1 rfl;obtain⟨an,av⟩:=o9.one;refine B9.st (q:=0) (show 0<1 by decide) an av fun ax ay U=>?_;have ba:=U.size;have Q:Mod (fun x=>x=c\/out.ownBlock=some x) W6 ax:=(m9.mono fun _ _ e=>.inr e).trans (U.mono fun _ _ e=>.inl e);refine⟨Pd Q (by omega) (fun b hb=>by have:=(j b hb).1;omega) (fun b _ e=>?_),a1,⟨ay,?_,fun g i=>?_⟩,?_,by omega⟩
  .rcases e with rfl|e
   .exact⟨fun h=>by have:=(j b h).2;omega,by omega,by omega⟩
   .obtain⟨h1,V,Z,h4⟩:=q.hc b e;exact⟨h4,V,Z⟩
  .have b0:X.take (k+1)=X.take k++[X[k]]:=by rw[No];simp[O]
   rw [b0];exact AE.mod o9 U (fun g i e=>by
    rcases n9 g i with h|h
    .exact(q.hc g h).1 e
    .omega) fun _ _ _ h=>h
  .rcases n9 g i with h|h
   .exact q.hc g h
   .refine⟨by omega,by omega,by omega,fun hI=>by have:=(j g hI).1;omega⟩
  .refine((m.next g5 fun _ _ h=>h.elim).next o fun x gf e=>by omega).next Q fun x gf e=>?_;rcases e with e|e
   .exact e
   .have:=(AE.BA q.row x e).1;omega
 .rintro J W' ⟨out,q,m,hk⟩ _ _ hd;refine AK (q.box.cells 0 _ rfl) ⟨hd,?_⟩;have a6:Mod (fun b=>b=E.heap.size) W' (W'.putObj E.heap.size (.deferred none)):=Mod.putObj _ _ _ rfl;rw[hv,Nr] at q;refine⟨AE.base (AE.mod q.row a6 (fun g i=>(q.hc g i).2.1) fun _ _ _ h=>h) fun g i=>?_,?_⟩
  .have:=(AE.BA q.row g i).1;omega
  exact(g1.next m fun x gf e=>by omega).next a6 fun x gf e=>by omega
abbrev GV:Nat->Prop:=fun _=>False
abbrev Dx:World->List Value->Spn->Prop:=fun _ r x=>r=Spn.cells x
abbrev Ef(l:List Spn):Nat:=Tr.sz Spn.kd.μ l
theorem jM(l:List Spn):Tr.mk Spn.kd.μ l=0:=by
 induction l with
 |nil=>rfl
 |cons x l i=>rw[Tr.Cy,i];rfl
theorem ah{l:List Spn}(h:Ef l<=1099511627776):EA DI.toAvT l:=⟨h,by show Tr.mk Spn.kd.μ l<=_;rw[jM];omega⟩
theorem Dy(l:List Spn):Ef l=(l.flatMap Spn.u).length:=Spn.EE.sz l
theorem Uy(l:List Spn)(i j:Nat):(Spn.kd.over l i j).length<=l.length:=by
 induction l generalizing i j with
 |nil=>exact Lc _
 |cons x l o=>
  simp only[Kd.over,Bq,Vn];have:=o (i-(Spn.kd.μ x).1) (j-(Spn.kd.μ x).1);split<;>simp<;>omega
theorem J9{b bt N i j:Nat}{l:List Spn}(h:Dj DI.toAvT F GV W b bt l N)(hN:N<=109951162000)(S:i<=j)(U:j<=Ef l)(V:Ef l<=1099511627776)(hl:l.length<=109951162777) :
  AB prog 48 [.pointer (some ⟨b,0,none⟩),.int .i64 (i:Int),.int .i64 (j:Int)] (fun v' w'=>∃B,v'=.tuple #[B,.int .i64 0]/\AE W.heap.size 108 2 Dx w' B (Spn.kd.over l i j)/\Grow W w') W:=by
 apply fH;refine AA (Jg Hu h) ?_;rintro _ Y ⟨rfl,E⟩;have hb:QM (i:Int) (j:Int) ((Tr.sz DI.k.μ l:Nat):Int)=0:=by
  have:j<=Tr.sz DI.k.μ l:=U;unfold QM;rw[C3 (by omega),C3 (by omega),C3 (by omega)]
 rw[hb,Bm];refine AW (fun _=>?_) fun e=>(e rfl).elim;refine AA (EO Hu (h.grow E)) ?_;rintro _ _ ⟨rfl,rfl⟩;rename World=>Y
 obtain⟨A,T,h1,Z,h3,rfl,h5⟩:=(h.grow E).EH;refine AA (SC (g:=DI) h1 (by omega) Z h3 (ah V) (by omega) (by omega)) ?_;rintro _ w3 ⟨a1,vals,Rd,rfl,O,I,J,J8,o⟩;have ho:=Uy T.toL i j;refine AA (OU (X:=Spn.kd.over T.toL i j) o (by kernel_rfl) I (fun m q1 q2=>?_) (fun x hx=>(J8 x hx).2) (by omega)) ?_
 .obtain⟨r,e1,e2⟩:=J m q1 q2;rw[e1,TB];have e3:r=Spn.cells (Spn.kd.over T.toL i j)[m]:=e2;rw[e3]
 rintro B w4 ⟨Q,g4⟩;have s1:=E.size;have s3:=O.size;exact⟨B,rfl,AE.base Q fun g hg=>by have:=(AE.BA Q g hg).1;omega,(E.trans O).trans g4⟩
theorem aa{L:List Spn}(O:BB S 2 Dx W v L)(I:∀s∈L,0<=s.id)(hl:L.length<=109951162777) :
  AB prog 236 [v,.func (.func 237) #[] #[]] (fun v' w'=>v'=.bool false/\Grow W w') W:=by
 apply YB;have key:AB prog 270 [v,.func (.func 237) #[] #[]] (fun v' w'=>v'=.int .i64 (-1)/\Grow W w') W:=by
  apply Z2;obtain⟨a,c,rfl,hm⟩:=O.shape;have J:=O.GQ (by decide);rw[AP];refine Ab (fun vs W'=>∃i:Nat,i<=L.length/\vs=[.int .i64 i]/\Grow W W') (fun vs _=>L.length-Ds vs 0) ⟨0,Nn _,rfl,Mod.refl _ _⟩ ?_;rintro vs V ⟨i,hi,rfl,E⟩ _;simp only[B0,Of];rw[Ap];refine AF (fun Q=>?_) fun T=>⟨trivial,E⟩;have o:i<L.length:=by omega
  obtain⟨p,r,rfl,_,hr,hc,rfl⟩:=J.get o;refine AU o (Aj (vs:=L[i].cells) rfl (fun j u hu=>by rw[Addr.add_add];exact E.cell (hc j u hu) fun h=>h) ?_);refine Hx (by kernel_rfl) ?_;apply YY;refine Bx.box fun b w2 hb U B=>?_;refine Bt (B.cells 0 _ rfl) ?_;rw[Ap];refine AF (fun e=>by omega) fun _=>?_;refine Bt (B.cells 1 _ rfl) ?_;rw[Ap];have:=I L[i] (gC o);refine AF (fun e=>by omega) fun _=>?_;rw[AR,AO (by omega)];exact⟨⟨i+1,o,rfl,E.trans U⟩,by rw[DG,DG];omega⟩
 refine AA key ?_;rintro _ X ⟨rfl,E⟩;rw[DX];exact⟨rfl,E⟩
theorem Sd{l L:List Spn}(h:Ef l+Ef L<=1099511627776)(B:i<=j)(O:j<=Ef l):Ef (Spn.kd.Bw l i j L)+(j-i)=Ef l+Ef L/\Ef ((Spn.kd.split l i).1.getLast?.toList++L++(Spn.kd.split (Spn.kd.split l i).2 (j-i)).2.head?.toList)<=Ef l+Ef L:=by
 have e:=Spn.EE.Bw l L B;have E:=kM List.length e;rw[<-Dy,Bq,Bq,Mp,K8,<-Dy,<-Dy] at E;refine⟨by omega,?_⟩;have s1:=FA (g:=DI.toAvT) l i;have s2:=FA (g:=DI.toAvT) (Spn.kd.split l i).2 (j-i);have I:∀m:List Spn,Ef m.getLast?.toList<=Ef m:=fun m=>by
  rcases kb m with rfl|⟨o,y,rfl⟩
  .exact Lc _
  .simp[Ef,Tr.sz]
 have J:∀m:List Spn,Ef m.head?.toList<=Ef m:=fun m=>by
  cases m with
  |nil=>exact Lc _
  |cons y m=>simp[Ef,Tr.sz]
 have h1:=I (Spn.kd.split l i).1;have Q:=J (Spn.kd.split (Spn.kd.split l i).2 (j-i)).2;unfold Ef at *;rw[Tr.CT,Tr.CT];have S:Tr.sz Spn.kd.μ (Spn.kd.split l i).1+Tr.sz Spn.kd.μ (Spn.kd.split l i).2=Tr.sz Spn.kd.μ l:=s1.1;have T:Tr.sz Spn.kd.μ (Spn.kd.split (Spn.kd.split l i).2 (j-i)).1+Tr.sz Spn.kd.μ (Spn.kd.split (Spn.kd.split l i).2 (j-i)).2=Tr.sz Spn.kd.μ (Spn.kd.split l i).2:=s2.1;omega
theorem TG{b bt N i j:Nat}{l L:List Spn}(h:Dj DI.toAvT F GV W b bt l N)(hN:N+L.length<=109951162000)(I:i<=j)(Y:j<=Ef l)(hs:Ef l+Ef L<=536870912)(O:BB S 2 Dx W v L)(hS:∀x,S x->¬F x)(Q:∀s∈L,0<=s.id) :
  AB prog 151 [.pointer (some ⟨b,0,none⟩),.int .i64 (i:Int),.int .i64 (j:Int),v] (fun v' w'=>v'=.int .i64 0/\∃F',(∀x,F x->F' x)/\(∀x,F' x->F x\/W.heap.size<=x)/\Dj DI.toAvT F' GV w' b bt (Spn.kd.Bw l i j L) (N+L.length+4)/\Mod F W w') W:=by
 apply Yq;refine DS (AV ?_);refine AA (aa O Q (by omega)) ?_;rintro _ w1 ⟨rfl,Z⟩;refine AV ?_;have h1:=h.grow Z;refine AA (Jg Hu h1) ?_;rintro _ w2 ⟨rfl,g2⟩;have hb:QM (i:Int) (j:Int) ((Tr.sz DI.k.μ l:Nat):Int)=0:=by
  have:j<=Tr.sz DI.k.μ l:=Y;unfold QM;rw[C3 (by omega),C3 (by omega),C3 (by omega)]
 rw[hb,Bm];refine AW (fun _=>?_) fun e=>(e rfl).elim;refine AA (MV Hu (h1.grow g2)) ?_;rintro _ w3 ⟨rfl,g3⟩;have T:Tr.sz DI.k.μ l=Ef l:=rfl;rw[T,Av,wrap64 (by omega) (by omega),AR,wrap64 (by omega) (by omega),Av,wrap64 (by omega) (by omega)];obtain⟨a,c,rfl,hm⟩:=O.shape;have U:=O.GQ (by decide);rw[AP];have V:=(Z.trans g2).trans g3;refine Ab (fun vs W'=>∃k:Nat,k<=L.length/\vs=[.int .i64 ((536870912:Int)-Ef l+j-i-Ef (L.take k)),.int .i64 k]/\Grow W W') (fun vs _=>L.length-Ds vs 1) ⟨0,Nn _,by simp[Ef,Tr.sz],V⟩ ?_;rintro vs W1 ⟨k,hk,rfl,E⟩ _;simp only[GJ];refine H6 (fun a1=>?_) fun a6=>?_
 .have o:k<L.length:=by omega
  have X:L.take (k+1)=L.take k++[L[k]]:=by rw[No];simp[o]
  have a7:Ef L=Ef (L.take (k+1))+Ef (L.drop (k+1)):=by unfold Ef;rw[<-Tr.CT,S9]
  have J:Ef (L.take (k+1))=Ef (L.take k)+L[k].n:=by rw[X];unfold Ef;rw[Tr.CT];simp[Tr.sz,Spn.kd]
  obtain⟨p,r,rfl,_,hr,hc,rfl⟩:=U.get o;refine AU o (Aj (vs:=L[k].cells) rfl (fun j u hu=>by rw[Addr.add_add];exact E.cell (hc j u hu) fun h=>h) ?_);refine Bx.new (vs:=L[k].cells) rfl rfl (Spn.one _) fun a8 w7 hb g7 B=>?_;refine Bt (B.cells 0 _ rfl) ?_;rw[BR];refine AF (fun e=>by omega) fun _=>?_;refine Bt (B.cells 0 _ rfl) ?_;rw[Av,wrap64 (by omega) (by omega),AR,AO (by omega)];refine⟨⟨k+1,o,?_,E.trans g7⟩,by rw[BL,BL];omega⟩;rw[J];congr 2
  omega
 .have hW:=h.grow E;refine AA (EO Hu hW) ?_;rintro _ _ ⟨rfl,rfl⟩;rename World=>W1
  obtain⟨q1,q2⟩:=Sd (l:=l) (L:=L) (i:=i) (j:=j) (by omega) I Y;refine AA (Ix (Xl (g:=DI)) hW (by omega) (O.mod E (fun _ _ _ h=>h) (by decide) fun _ _ h=>h) hS I (by omega) (ah (by omega)) (ah (l:=Spn.kd.Bw l i j L) (by omega)) (ah (l:=(Spn.kd.split l i).1.getLast?.toList++L++(Spn.kd.split (Spn.kd.split l i).2 (j-i)).2.head?.toList) (by omega))) ?_;rintro _ ak ⟨F',k1,k2,k3,k4⟩;have:=E.size;exact⟨trivial,F',k1,fun x hx=>(k2 x hx).imp (fun h=>h) fun h=>by omega,k3,(E.mono fun _ _ h=>h.elim).trans k4⟩
theorem My{l:List Ck}(h:(Bf l).length<=1099511627776):EA A6.toAvT l:=⟨by show Tr.sz Ck.kd.μ l<=_;rw[Gx];exact h,by show Tr.mk Ck.kd.μ l<=_;rw[O0];exact k8 (Dn _) h⟩
theorem JQ{n:Nat}(o:i<=j)(B:j<=n):QM (i:Int) (j:Int) (n:Int)=0:=by
 unfold QM;rw[C3 (by omega),C3 (by omega),C3 (by omega)]
section
variable {F:Nat->Prop}{W:World}{b bt N:Nat}{l:List Ck}
theorem XJ(h:Dj A6.toAvT F GV W b bt l N):AB prog 54 [.pointer (some ⟨b,0,none⟩)] (fun v' w'=>v'=.int .i64 ((Bf l).length:Int)/\Grow W w') W:=by
 refine AA (MV El h) ?_;rintro _ w ⟨rfl,g⟩;refine⟨?_,g⟩;rw[show Tr.sz A6.toAvT.k.μ l=(Bf l).length from Gx l]
theorem Kx(h:Dj A6.toAvT F GV W b bt l N):AB prog 45 [.pointer (some ⟨b,0,none⟩)] (fun v' w'=>v'=.int .i64 (Bc (Bf l):Int)/\Grow W w') W:=by
 apply fU;refine DS (AV ?_);refine AA (EO El h) ?_;rintro _ _ ⟨rfl,rfl⟩;rename World=>W
 obtain⟨A,T,h1,i,B,rfl,E⟩:=h.EH;apply Qr;unfold VP;refine AI ?_;obtain⟨c,pl,fr,j⟩:=id h1;refine Bt (j.box.cells 4 _ rfl) ?_;refine AA (CB h1 i) ?_;rintro _ I ⟨rfl,o⟩;refine CW (vs:=[_,_,_]) (by rfl) (CW (vs:=[_,_,_]) (by rfl) (CW (vs:=[_,_,_]) (by rfl) ⟨?_,o⟩));rw[show Tr.mk A6.toAvT.k.μ T.toL=Bc (Bf T.toL) from O0 _]
theorem NT(h:Dj A6.toAvT F GV W b bt l N)(hi:i<=(Bf l).length)(o:(Bf l).length<=1099511627776) :
  AB prog 53 [.pointer (some ⟨b,0,none⟩),.int .i64 (i:Int)] (fun v' w'=>v'=.tuple #[.int .i64 (Bc ((Bf l).take i):Int),.int .i64 0]/\Grow W w') W:=by
 apply U5;refine AA (Jg El h) ?_;rintro _ B ⟨rfl,j⟩;rw[show Tr.sz A6.toAvT.k.μ l=(Bf l).length from Gx l,JQ (Lc _) hi,Bm];refine AW (fun _=>?_) fun e=>(e rfl).elim;refine AA (EO El (h.grow j)) ?_;rintro _ _ ⟨rfl,rfl⟩;rename World=>B
 obtain⟨A,T,h1,E,J,rfl,O⟩:=(h.grow j).EH;refine AA (Qa h1 E (by omega) (My o)) ?_;rintro _ w2 ⟨rfl,I⟩;exact⟨rfl,j.trans I⟩
def ML(rs:List Int)(k:Nat):Value:=if Bc rs<k then .tuple #[.int .i64 0,.int .i64 5] else if k=0 then .tuple #[.int .i64 0,.int .i64 0] else match HQ rs (k-1) with
 |some p=>.tuple #[.int .i64 ((p+1:Nat):Int),.int .i64 0]
 |none=>undef
theorem Kz{k:Nat}(h:Dj A6.toAvT F GV W b bt l N)(j:(Bf l).length<=1099511627776) :
  AB prog 46 [.pointer (some ⟨b,0,none⟩),.int .i64 (k:Int)] (fun v' w'=>v'=ML (Bf l) k/\Grow W w') W:=by
 apply cu;have Q:=Dn (Bf l);refine AT (fun _ W'=>Grow W W'/\0<k/\k<=Bc (Bf l)) ?_ ?_
 .rintro _ o ⟨i,B,hk⟩ _;refine AA (EO El (h.grow i)) ?_;rintro _ _ ⟨rfl,rfl⟩;rename World=>o
  obtain⟨k,rfl⟩:∃E,k=E+1:=⟨k-1,by omega⟩;obtain⟨p,hp,I⟩:=OS (l:=Bf l) (k:=k) (by omega);obtain⟨A,T,h1,J,S,rfl,U⟩:=(h.grow i).EH;rw[Av,wrap64 (by omega) (by omega),show(((k+1:Nat):Int)-1)=(k:Int) by omega];refine AA (Z7 h1 J (by omega) (My j) hp) ?_;rintro _ w2 ⟨rfl,O⟩;refine BV ?_;rw[AR,wrap64 (by omega) (by omega)];refine⟨?_,i.trans O⟩;unfold ML;rw[C3 (by omega),C3 (by omega),oT,hp];rfl
 .refine DS (AV ?_);rw[Ap];refine AF (fun e=>by omega) fun _=>?_;refine AA (Kx h) ?_;rintro _ V ⟨rfl,i⟩;rw[BR];refine AF (fun e=>⟨by unfold ML;rw[Io (by omega)],i⟩) fun e=>?_;rw[Al];refine AF (fun e0=>⟨by unfold ML;rw[C3 (by omega),Io (by omega)],i⟩) fun e0=>?_;exact⟨i,by omega,by omega⟩
theorem XM(l:List Ck)(i j:Nat):Bf (Ck.kd.over l i j)=((Bf l).take j).drop i:=G8.over l i j
theorem PM(t l:List Ck)(o:i<=j):Bf (Ck.kd.Bw t i j l)=(Bf t).take i++Bf l++(Bf t).drop j:=G8.Bw t l o
theorem NR(l L:List Ck)(i j:Nat):(Bf ((Ck.kd.split l i).1.getLast?.toList++L++(Ck.kd.split (Ck.kd.split l i).2 (j-i)).2.head?.toList)).length<=(Bf l).length+(Bf L).length:=by
 have B:=kM List.length (G8.split l i).1;have E:=kM List.length (G8.split l i).2;have a3:=kM List.length (G8.split (Ck.kd.split l i).2 (j-i)).2;have I:∀m:List Ck,(Bf m.getLast?.toList).length<=(Bf m).length:=fun m=>by
  rcases kb m with rfl|⟨o,y,rfl⟩
  .exact Lc _
  .simp[Bf]
 have J:∀m:List Ck,(Bf m.head?.toList).length<=(Bf m).length:=fun m=>by
  cases m with
  |nil=>exact Lc _
  |cons y m=>simp[Bf]
 have h1:=I (Ck.kd.split l i).1;have O:=J (Ck.kd.split (Ck.kd.split l i).2 (j-i)).2;have e:∀a b c:List Ck,(Bf (a++b++c)).length=(Bf a).length+(Bf b).length+(Bf c).length:=fun a b c=>by simp[Bf];omega
 rw[e];rw[Mp] at B;rw[K8] at E a3;show(Bf _).length+_+(Bf _).length<=_;unfold Bf at *;omega
theorem TT(h:Dj A6.toAvT F GV W b bt l N)(Z:N<=109951162000)(o:i<=j)(O:j<=(Bf l).length)(Q:(Bf l).length<=1099511627776) :
  AB prog 88 [.pointer (some ⟨b,0,none⟩),.int .i64 (i:Int),.int .i64 (j:Int)] (fun v' w'=>v'=.int .i64 0/\∃F' E,(∀x,F x->F' x)/\(∀x,F' x->F x\/W.heap.size<=x)/\Dj A6.toAvT F' GV w' b bt E (N+4)/\Bf E=(Bf l).take i++(Bf l).drop j/\Mod F W w') W:=by
 apply fe;refine AA (Jg El h) ?_;rintro _ T ⟨rfl,B⟩;rw[show Tr.sz A6.toAvT.k.μ l=(Bf l).length from Gx l,JQ o O,Bm];refine AW (fun _=>?_) fun e=>(e rfl).elim;have I:=h.grow B;refine AA (EO El I) ?_;rintro _ _ ⟨rfl,rfl⟩;rename World=>T
 have J:=PM l [] o;have ep:=NR l [] i j;have e0:(Bf []).length=0:=rfl;refine AA (Ix (Xl (g:=A6)) (L:=[]) (S:=fun _=>False) I (by simp only[kl];omega) BB.nil (fun _ h=>h.elim) o (by omega) (My Q) (My (l:=Ck.kd.Bw l i j []) (by rw[J];simp[Bf] at *;omega)) (My (l:=(Ck.kd.split l i).1.getLast?.toList++[]++(Ck.kd.split (Ck.kd.split l i).2 (j-i)).2.head?.toList) (by omega))) ?_;rintro _ U ⟨F',k1,k2,V,X⟩;have:=B.size;refine⟨rfl,F',_,k1,fun x Y=>(k2 x Y).imp (fun h=>h) fun h=>by omega,V,?_,(B.mono fun _ _ h=>h.elim).trans X⟩;show Bf (Ck.kd.Bw l i j [])=_;rw[J];simp[Bf]
theorem Ui(h:Dj A6.toAvT F GV W b bt l N)(hN:N<=109951162000)(an:i<=j)(hj:j<=(Bf l).length)(hs:(Bf l).length<=1099511627776)(hl:l.length<=109951162777) :
  AB prog 47 [.pointer (some ⟨b,0,none⟩),.int .i64 (i:Int),.int .i64 (j:Int)] (fun v' w'=>∃rv,v'=.tuple #[rv,.int .i64 0]/\AE W.heap.size 21 1 Bo w' rv (((Bf l).take j).drop i)/\Grow W w') W:=by
 apply dj;refine Bx.zero fun c w1 hc g1 B=>?_;have b8:=B.lt (by decide);have h1:=h.grow g1;have h0:=h;refine AA (Jg El h1) ?_;rintro _ w2 ⟨rfl,g2⟩;rw[show Tr.sz A6.toAvT.k.μ l=(Bf l).length from Gx l,JQ an hj,Bm];refine AW (fun _=>?_) fun e=>(e rfl).elim;have hW:=h1.grow g2;refine AA (EO El hW) ?_;rintro _ _ ⟨rfl,rfl⟩;rename World=>w2
 obtain⟨A,T,t1,t2,t3,rfl,t5⟩:=hW.EH;refine AA (SC (g:=A6) t1 (by omega) t2 t3 (My hs) (by omega) (by omega)) ?_;rintro _ J ⟨av,vals,Rd,rfl,g6,ax,ay,J8,a1⟩;generalize hX:Ck.kd.over T.toL i j=X at *;have b0:vals.length=X.length:=by rw[<-hX];exact ax
 have a6:Bf X=((Bf T.toL).take j).drop i:=by rw[<-hX];exact XM _ _ _
 have O:∀m (h1:m<vals.length) (h2:m<X.length),vals[m]=.agg X[m].cells.toArray:=fun m q1 q2=>by
  subst hX;obtain⟨r,e1,e2⟩:=ay m q1 q2;rw[e1,TB];have e3:r=Ck.cells (Ck.kd.over T.toL i j)[m]:=e2;rw[e3]
 have bb:(Bf X).length<=1099511627776:=by rw[a6,K8,Mp];omega
 have z1:=g1.size;have z2:=g2.size;have z6:=g6.size;have B6:=(B.grow g2).grow g6;refine⟨True,_,av,_,_,_,rfl,by kernel_rfl,a1,fun k _=>rfl,?_⟩;refine⟨fun k Q W'=>∃out,aI 21 1 Bo J.heap.size c J.heap.size Q W' out (Bf (X.take k))/\Mod (fun x=>x=c) J W'/\k<=X.length,fun _ _ _=>False,⟨_,⟨B6,AE.nil,fun g o=>nomatch o⟩,Mod.refl _ _,Nn _⟩,?_,fun x Q b3 W W' h=>h.elim,?_,?_,?_,fun x Q W h=>h.elim⟩
 .rintro k Q b3 W' bc ⟨out,q,m,hk⟩ hm E;have hn:∀x,x<J.heap.size->¬((¬True/\Q x)\/x=J.heap.size\/x=J.heap.size+1):=fun x O=>by rintro(⟨h,_⟩|h|h);exact h trivial;all_goals omega
  refine⟨out,⟨q.box.mod hm (hn c (by omega)),AE.mod q.row hm (fun g o=>?_) fun _ _ _ h=>h,fun g o=>?_⟩,m.next hm fun x O=>?_,hk⟩
  .obtain⟨_,h2,h3,_⟩:=q.hc g o;rintro(⟨h,_⟩|h|h)
   .exact h trivial
   .exact h2 h
   .exact h3 h
  .obtain⟨h1,h2,h3,h4⟩:=q.hc g o;refine⟨h1,h2,h3,fun h=>?_⟩;rcases(E g h).1 with h|h
   .exact h4 h
   .have:=(AE.BA q.row g o).2;omega
  .intro e;exact absurd e (hn x O)
 .rintro k Q W' ⟨out,q,m,hk⟩ b hb hr;exact m.same b hb fun e=>by
   subst e;rcases(J8 b hr).1 with h|h|h
   .have:=h0.lt b (.inl h.1);omega
   .exact h.elim
   .omega
 .rintro k Q W' hk ⟨out,q,m,bd⟩ hz E;have S:k<X.length:=by omega
  have U:(nth [vals.getD k undef] 0)=.agg X[k].cells.toArray:=by
   show vals.getD k undef=_;rw[lE,By hk,nz,O k hk S]
  rw[U];have b4:X.take (k+1)=X.take k++[X[k]]:=by rw[No];simp[S]
  have a7:Bf (X.take (k+1))=Bf (X.take k)++X[k].l:=by rw[b4];simp only[Bf,lU,kp,nS,kG]
  have b9:(Bf (X.take k)).length+X[k].l.length<=(Bf X).length:=by
   have e:Bf X=Bf (X.take (k+1))++Bf (X.drop (k+1)):=by rw[Bf,Bf,Bf,<-lU,S9]
   rw[e,a7,Bq,Bq];omega
  refine Bx.new (vs:=X[k].cells) (Ck.len _) rfl (Ck.one _) fun b5 W5 bk g5 B5=>?_;refine Lz g5 hz E (fun _ _ h=>h.elim) fun W6 I=>?_;have z5:=g5.size;have bl:=I.size;have ba:=q.box.lt (Ty _);have b6:=B5.lt (by rw[Ck.len];omega);have C6:=(q.box.grow g5).mod I (by omega);have b7:=B5.mod I (by omega);have o6:AE J.heap.size 21 1 Bo W6 out (Bf (X.take k)):=AE.mod (AE.mod (R':=Bo) q.row g5 (fun _ _ h=>h) fun _ _ _ h=>h) I (fun g o=>(q.hc g o).2.2.1) fun _ _ _ h=>h;have gd:Grow W6 W6.drew:=Mod.drew _ _;have zd:=gd.size;have Cd:=C6.grow gd;have Bd:=b7.grow gd;refine Ai (fun k y=>(k=3/\out.ownBlock=some y)\/(k=4/\y=c)) ?_;refine AY ⟨Cd.cells 0 _ rfl,fun j hj e=>?_⟩ ?_
  .have a8:j∈[2]:=hj;simp only[P9] at a8;subst a8;rcases e with e|e
   .exact absurd e.1 (by decide)
   .exact absurd e.1 (by decide)
  refine CU (Ck.len _) (fun j u hu=>⟨by rw[AH];exact Bd.cells j u hu,fun j hj=>(kV (show j∈[] from hj)).elim⟩) ?_;refine AA (Xf X[k]) ?_;rintro xv W7 ⟨ox,g7⟩;refine⟨g7.mono fun _ _ h=>h.elim,?_⟩;have z7:=g7.size;have o7:AE J.heap.size 21 1 Bo W7 out (Bf (X.take k)):=AE.mod (AE.mod (R':=Bo) o6 gd (fun _ _ h=>h) fun _ _ _ h=>h) g7 (fun _ _ h=>h) fun _ _ _ h=>h;obtain⟨ak,W8,r1,o8,r3,n8⟩:=AE.append (P:=prog) (ty:=80) Ie o7 (AE.sl ox) (fun _ _=>Bo.one) (by omega) (by omega) (by simp only[maxLen];omega) fun _ _ _ _ h=>h;refine Ag r1 ?_;have m8:=Mod.of_grownBy r3;have z8:=m8.size;refine⟨m8.mono fun _ _ e=>.inl ⟨rfl,e⟩,?_⟩;have C8:=((Cd.grow g7).mod m8 fun e=>(q.hc c e).1 rfl);obtain⟨V,Y⟩:=o8.one;refine C8.st (q:=0) (show 0<1 by decide) V Y fun W9 C9 m9=>⟨m9.mono fun _ _ e=>.inr ⟨rfl,e⟩,?_⟩;have z9:=m9.size;have al:Mod (fun x=>x=c\/out.ownBlock=some x) W6 W9:=(((gd.trans g7).mono fun _ _ h=>h.elim).trans (m8.mono fun _ _ e=>.inr e)).trans (m9.mono fun _ _ e=>.inl e);refine⟨Pd al (by omega) (fun b hb=>by have:=(E b hb).1;omega) (fun b _ e=>?_),ak,⟨C9,?_,fun g o=>?_⟩,?_,by omega⟩
  .rcases e with rfl|e
   .exact⟨fun h=>by have:=(E b h).2;omega,by omega,by omega⟩
   .obtain⟨h1,h2,h3,h4⟩:=q.hc b e;exact⟨h4,h2,h3⟩
  .rw [a7];exact AE.mod o8 m9 (fun g o e=>by
    rcases n8 g o with h|h
    .exact(q.hc g h).1 e
    .omega) fun _ _ _ h=>h
  .rcases n8 g o with h|h
   .exact q.hc g h
   .refine⟨by omega,by omega,by omega,fun hI=>by have:=(E g hI).1;omega⟩
  .refine((m.next g5 fun _ _ h=>h.elim).next I fun x O e=>by omega).next al fun x O e=>?_;rcases e with e|e
   .exact e
   .have:=(AE.BA q.row x e).1;omega
 .rintro Q W' ⟨out,q,m,hk⟩ _ hz hd;refine AK (q.box.cells 0 _ rfl) ?_;obtain⟨V,Y⟩:=q.row.one;refine q.box.st (q:=0) (show 0<1 by decide) V Y fun W1 C1 m1=>?_;refine⟨?_,?_⟩
  .rw[m1.same _ (by omega) (by omega)];exact hd
  have Z:Mod (fun b=>b=J.heap.size) W1 (W1.putObj J.heap.size (.deferred none)):=Mod.putObj _ _ _ rfl;have C2:=C1.mod Z (by omega);refine AK (C2.cells 0 _ rfl) ⟨_,rfl,?_,?_⟩
  .rw[b0,Nr,a6] at q;refine AE.base (AE.mod (AE.mod (R':=Bo) q.row m1 (fun g o=>(q.hc g o).1) fun _ _ _ h=>h) Z (fun g o=>(q.hc g o).2.1) fun _ _ _ h=>h) fun g o=>?_;have:=(AE.BA q.row g o).1;omega
  .exact((((g1.trans g2).trans g6).next m fun x O e=>by omega).next m1 fun x O e=>by omega).next Z fun x O e=>by omega
end
end Go.Proofs.YtmdhibffnkhcnaaGreatDoor
