/- parts of the proof, written short by a program of ours -/
import Derived.Test.YtmdhibffnkhcnaaGreatDoorZTextLinesUpto5
import Derived.Laws.BytesArg
import Derived.Laws.IdiomStrings
import Derived.MapKept
import Derived.Shelf.GgSortFunc.InsertionK
import Derived.Shelf.SlSortCmp.WholeK
import Derived.Shelf.SlSortCmp.NoneTotal
set_option linter.unusedSimpArgs false
set_option linter.unusedVariables false
namespace Go.K
open Go
theorem EM{P:Program}{t e k:Nat}{i:TypeInfo}{a:Option Addr}{n c j:Nat}(ht:P.underlying t=some (.slice e))(x:P.info? e=some i)(hk:i.size=k)(y:j<=n)(w:World):(Instr.sliceAt t (.slice a n c) (some (.int .i64 j)) none none).run P w=.ok (sliced a j n c k) w:=by
 have o:P.elem t=e:=by simp[Program.elem,ht]
 rw[run_sliceAt_slice _ _ _ _ _ _ (by rw[o];exact ht),run_slice_l _ _ _ _ _ (by rw[o];exact ht) _ _ (by omega) (by omega),o];simp[sizeOf,typeInfo,x,hk]
theorem Jg{α:Type}{k:Nat}{R:World->List Value->α->Prop}{S:Nat->Prop}{w:World}{a:Option Addr}{n c:Nat}{l:List α}{j:Nat}(h:BJ S k R w (.slice a n c) l)(J:j<=l.length):BJ S k R w (sliced a j n c k) (l.drop j):=by
 obtain⟨O,Q,o,h1,T,y⟩:=h;cases o;unfold sliced;refine⟨_,_,by rw[List.length_drop],by rw[List.length_drop];omega,by omega,fun q x i=>?_⟩;rw[List.getElem?_drop] at i;obtain⟨p,r,rfl,B,hr,hc,E⟩:=y _ x i;have I:=(List.getElem?_eq_some_iff.1 i).1;rw[if_neg (by omega)];refine⟨p.add (j*k),r,rfl,by rw[BW];exact B,hr,fun m u hu=>?_,E⟩;rw[Addr.add_add,<-Nat.add_assoc,<-Nat.add_mul];exact hc m u hu
theorem LS{P:Program}{t e k:Nat}{i:TypeInfo}{a:Option Addr}{n c:Nat}(ht:P.underlying t=some (.slice e))(x:P.info? e=some i)(hk:i.size=k)(hc:n<=c)(w:World):∃o,(Instr.sliceAt t (.slice a n c) none (some (.int .i64 n)) (some (.int .i64 n))).run P w=.ok (.slice o n n) w/\(0<n->o=a):=by
 have j:P.elem t=e:=by simp[Program.elem,ht]
 refine⟨if n=0 then a else a.map (·.add (0*k)),?_,fun h=>?_⟩
 .rw[run_sliceAt_slice _ _ _ _ _ _ (by rw[j];exact ht)];simp[Instr.slice,run_underlying ht,Instr.sliceBounds,run_sliceBound,hc,sizeOf,typeInfo,x,hk,Result.andThen]
 .rw[if_neg (by omega)];cases a with
  |none=>rfl
  |some a=>simp[Addr.add]
theorem Gx{P:Program}{t e n s:Nat}{i:TypeInfo}{k:IntKind}{a:Addr}{j:Int}{w:World}(ht:P.underlying t=some (.array n e))(o:P.info? e=some i)(x:i.size=s)(h0:0<=j)(h1:j<n):(Instr.indexAt t (.pointer (some a)) (.int k j)).run P w=.ok (.pointer (some (a.add (j.toNat*s)))) w:=by
 simp[Instr.indexAt,Instr.sureAddr,run_underlying ht,asIntOf,sizeOf,typeInfo,o,x,h0,h1,Result.andThen]
theorem Eb{P:Program}{s d:TypeId}{q k:IntKind}{n:Int}(w:World)(i:(P.underlying s).isSome=true)(j:P.underlying d=some (.int k)):(convert s d (.int q n)).run P w=.ok (.int k (k.wrap n)) w:=by
 obtain⟨e,he⟩:=Option.isSome_iff_exists.mp i;simp[convert,run_underlying he,run_underlying j,Conv.intToInt]
theorem Qi{P:Program}{t:TypeId}{xo yo:Operand}{k q:IntKind}{a:Int}{n:Nat}(w:World)(i:n<=k.bits):(BZ .shl t xo yo (.int k a) (.int q n)).run P w=.ok (.int k (k.wrap (a*2 ^ n))) w:=by
 have h0:¬((n:Int)<0):=by omega
 simp[BZ,eqGuard,binOp,Op.shift,Nat.min_eq_left i,h0]
theorem MX{P:Program}{t:TypeId}{xo yo:Operand}{k q:IntKind}{a:Int}{n:Nat}(w:World)(i:n<=k.bits):(BZ .shr t xo yo (.int k a) (.int q n)).run P w=.ok (.int k (a.fdiv (2 ^ n))) w:=by
 have h0:¬((n:Int)<0):=by omega
 simp[BZ,eqGuard,binOp,Op.shift,Nat.min_eq_left i,h0]
theorem Iz{P:Program}{t:TypeId}{xo yo:Operand}{k:IntKind}{a b:Int}(w:World):(BZ .or t xo yo (.int k a) (.int k b)).run P w=.ok (.int k (k.wrap (BitVec.ofInt k.bits a ||| BitVec.ofInt k.bits b).toNat)) w/\(BZ .and t xo yo (.int k a) (.int k b)).run P w=.ok (.int k (k.wrap (BitVec.ofInt k.bits a &&& BitVec.ofInt k.bits b).toNat)) w:=by
 constructor<;>simp[BZ,eqGuard,binOp,Op.intBits]
end Go.K
namespace Go.Proofs.YtmdhibffnkhcnaaGreatDoor
open Go Go.K Proofs.Tryz
theorem DR{t:TypeId}{xo yo:Operand}{a b:Int}(w:World)(ha:HY a)(hb:HY b):(BZ .or t xo yo (.int .u64 a) (.int .u64 b)).run prog w=.ok (.int .u64 (K0 a b)) w:=by
 rw[(Iz w).1];have e:((BitVec.ofInt IntKind.u64.bits a ||| BitVec.ofInt IntKind.u64.bits b).toNat:Int)=K0 a b:=cE ha hb;rw[e,Fi (Dw ha hb)]
theorem Jd{t:TypeId}{xo yo:Operand}{a b:Int}(w:World)(ha:HY a)(hb:HY b):(BZ .and t xo yo (.int .u64 a) (.int .u64 b)).run prog w=.ok (.int .u64 ((a.toNat &&& b.toNat:Nat):Int)) w:=by
 rw[(Iz w).2];have e:((BitVec.ofInt IntKind.u64.bits a &&& BitVec.ofInt IntKind.u64.bits b).toNat:Int)=((a.toNat &&& b.toNat:Nat):Int):=bv_and ha hb;rw[e,Fi ⟨by omega,?_⟩];have:=Nat.and_le_left (n:=a.toNat) (m:=b.toNat);have:=ha.2;have:=ha.1;omega
def VY(x:Int)(j:Nat):Int:=x*2 ^ (8*j)
def GN(b:List Int):Int:=K0 (K0 (K0 (K0 (K0 (K0 (K0 (b.getD 0 0) (VY (b.getD 1 0) 1)) (VY (b.getD 2 0) 2)) (VY (b.getD 3 0) 3)) (VY (b.getD 4 0) 4)) (VY (b.getD 5 0) 5)) (VY (b.getD 6 0) 6)) (VY (b.getD 7 0) 7)
abbrev Bk(b:List Int):Prop:=∀x∈b,0<=x/\x<256
theorem Bk.getD{b:List Int}(h:Bk b)(j:Nat):0<=b.getD j 0/\b.getD j 0<256:=by
 rw[List.getD_eq_getElem?_getD];cases e:b[j]? with
 |none=>simp
 |some x=>exact h x (List.mem_iff_getElem?.2 ⟨j,e⟩)
theorem Bk.drop{b:List Int}(h:Bk b)(j:Nat):Bk (b.drop j):=fun x i=>h x (List.mem_of_mem_drop i)
theorem MW{x:Int}(h:0<=x/\x<256):HY x:=⟨h.1,by omega⟩
theorem GZ{b:List Int}(h:Bk b):HY (GN b):=by
 have u:∀j,j<8->HY (VY (b.getD j 0) j):=fun j i=>UO i (h.getD j).1 (h.getD j).2;unfold GN;exact Dw (Dw (Dw (Dw (Dw (Dw (Dw (MW (h.getD 0)) (u 1 (by decide))) (u 2 (by decide))) (u 3 (by decide))) (u 4 (by decide))) (u 5 (by decide))) (u 6 (by decide))) (u 7 (by decide))
theorem UZ{b:List Int}(h:Bk b){j:Nat}(o:j<8)(x:128<=b.getD j 0):Rz (GN b) j:=by
 have i:=(Us o x (h.getD j).2).2;unfold GN;rcases(show j=0\/j=1\/j=2\/j=3\/j=4\/j=5\/j=6\/j=7 by omega) with rfl|rfl|rfl|rfl|rfl|rfl|rfl|rfl
 .rw[show b.getD 0 0*2 ^ (8*0)=b.getD 0 0 by omega] at i;exact .l (.l (.l (.l (.l (.l (.l i))))))
 .exact .l (.l (.l (.l (.l (.l (.r i))))))
 .exact .l (.l (.l (.l (.l (.r i)))))
 .exact .l (.l (.l (.l (.r i))))
 .exact .l (.l (.l (.r i)))
 .exact .l (.l (.r i))
 .exact .l (.r i)
 .exact .r i
theorem ER{C:World->Prop}{p:Addr}{n c:Nat}{b:Int}{j:Nat}{m:Int}{xo yo:Operand}{k:Value->Prop}(B:j<n)(hm:m=8*j)(i:j<8)(hb:0<=b/\b<256)(hc:∀w,C w->w.cell? (p.add (j*1))=some (.int .u8 b))(hk:k (.int .u64 (VY b j))) :
  Be 1 (.slice (some p) n c) (.int .i64 j) fun o=>BI C o fun x=>Bf prog C (convert 5 75 x) fun y=>Bf prog C (BZ .shl 75 xo yo y (.int .u64 m)) k:=by
 refine AZ B (Ar hc ⟨.int .u64 (IntKind.u64.wrap b),fun w _=>Eb (k:=.u64) w (by kernel_rfl) (by kernel_rfl),?_⟩);rw[Fi (MW hb)];subst hm;refine⟨_,fun w _=>?_,hk⟩;have e:=Qi (P:=prog) (t:=75) (xo:=xo) (yo:=yo) (k:=.u64) (q:=.u64) (a:=b) (n:=8*j) w (by show 8*j<=64;omega);rw[Fi (UO i hb.1 hb.2)] at e;have E:((8*j:Nat):Int)=8*(j:Int):=by omega
 rw[E] at e;exact e
theorem QO{S:Nat->Prop}{v:Value}{b:List Int}{w:World}(h:Ci S w v b)(hb:Bk b)(hl:8<=b.length) :
  AB prog 300 [v] (fun v' w'=>v'=.int .u64 (GN b)/\Grow w w') w:=by
 apply Xp;obtain⟨a,c,rfl,hm⟩:=h.shape;have cell:∀j (i:j<b.length),∃p,a=some p/\w.cell? (p.add (j*1))=some (.int .u8 (b.getD j 0)):=by
  intro j i;obtain⟨p,r,rfl,_,hr,hc,rfl⟩:=h.get i;refine⟨p,rfl,?_⟩;rw[List.getD_eq_getElem?_getD,List.getElem?_eq_getElem i];exact hc 0 _ rfl
 obtain⟨p,rfl,c0⟩:=cell 0 (by omega);have o:∀j,j<b.length->w.cell? (p.add (j*1))=some (.int .u8 (b.getD j 0)):=fun j i=>by obtain⟨Q,e,hc⟩:=cell j i;cases e;exact hc
 refine CZ (fun w2=>Grow w w2) (Mod.drew _ _) ?_;have hc:∀j,j<b.length->∀w2,Grow w w2->w2.cell? (p.add (j*1))=some (.int .u8 (b.getD j 0)):=fun j i w2 g=>g.cell (o j i) fun h=>h;have u:∀j,j<8->HY (VY (b.getD j 0) j):=fun j i=>UO i (hb.getD j).1 (hb.getD j).2;refine AZ (j:=0) (by omega) (Ar (hc 0 (by omega)) ⟨.int .u64 (IntKind.u64.wrap (b.getD 0 0)),fun w _=>Eb (k:=.u64) w (by kernel_rfl) (by kernel_rfl),?_⟩);rw[Fi (MW (hb.getD 0))];have x:=MW (hb.getD 0);refine ER (j:=1) (by omega) rfl (by decide) (hb.getD 1) (hc 1 (by omega)) ⟨_,fun w _=>DR w x (u 1 (by decide)),?_⟩;have y:=Dw x (u 1 (by decide));refine ER (j:=2) (by omega) rfl (by decide) (hb.getD 2) (hc 2 (by omega)) ⟨_,fun w _=>DR w y (u 2 (by decide)),?_⟩;have B:=Dw y (u 2 (by decide));refine ER (j:=3) (by omega) rfl (by decide) (hb.getD 3) (hc 3 (by omega)) ⟨_,fun w _=>DR w B (u 3 (by decide)),?_⟩;have E:=Dw B (u 3 (by decide));refine ER (j:=4) (by omega) rfl (by decide) (hb.getD 4) (hc 4 (by omega)) ⟨_,fun w _=>DR w E (u 4 (by decide)),?_⟩;have I:=Dw E (u 4 (by decide));refine ER (j:=5) (by omega) rfl (by decide) (hb.getD 5) (hc 5 (by omega)) ⟨_,fun w _=>DR w I (u 5 (by decide)),?_⟩;have J:=Dw I (u 5 (by decide));refine ER (j:=6) (by omega) rfl (by decide) (hb.getD 6) (hc 6 (by omega)) ⟨_,fun w _=>DR w J (u 6 (by decide)),?_⟩;have O:=Dw J (u 6 (by decide));refine ER (j:=7) (by omega) rfl (by decide) (hb.getD 7) (hc 7 (by omega)) ⟨_,fun w _=>DR w O (u 7 (by decide)),?_⟩;exact fun w2 g=>⟨rfl,g⟩
theorem Dp{b:List Int}(hb:Bk b)(h:((GN b).toNat &&& 9259542123273814144:Nat)=0){j:Nat}(i:j<8):b.getD j 0<128:=by
 have:=Tj h i;have o:¬128<=b.getD j 0:=fun o=>this (UZ hb i o);omega
def firstT(x:Int):Int:=if x<194 then 241 else if x<224 then 2 else if x=224 then 19 else if x=237 then 35 else if x<240 then 3 else if x=240 then 52 else if x<244 then 4 else if x=244 then 68 else 241
def accLo(j:Nat):Int:=if j=1 then 160 else if j=3 then 144 else if j<5 then 128 else 0
def accHi(j:Nat):Int:=if j=2 then 159 else if j=4 then 143 else if j<5 then 191 else 0
structure ET (w:World):Prop where
 size:2<w.heap.size
 first:∀j:Nat,128<=j->j<256->w.cell? ⟨1,j,none⟩=some (.int .u8 (firstT j))
 acc:∀j:Nat,j<16->w.cell? ⟨2,j*2,none⟩=some (.int .u8 (accLo j))/\w.cell? ⟨2,j*2+1,none⟩=some (.int .u8 (accHi j))
theorem ET.grow{w w':World}(h:ET w)(g:Grow w w'):ET w':=
 ⟨Nat.lt_of_lt_of_le h.size g.size,fun j h1 o=>g.cell (h.first j h1 o) fun h=>h,fun j i=>⟨g.cell (h.acc j i).1 fun h=>h,g.cell (h.acc j i).2 fun h=>h⟩⟩
theorem Z7{x:Int}(h0:128<=x)(h1:x<256):∃(f:Int) (z j:Nat),firstT x=f/\0<=f/\f<256/\(f.toNat &&& 7)=z/\f/16=j/\j<16/\(z=CG x\/CG x=0/\z=1)/\(CG x≠0->accLo j=IK x/\accHi j=Hu x):=by
 unfold firstT CG IK Hu;by_cases i:x<194
 .exact⟨241,1,15,by rw[if_pos i],by decide,by decide,by decide,by decide,by decide,by rw[if_pos i];exact .inr ⟨rfl,rfl⟩,by rw[if_pos i];exact fun h=>absurd rfl h⟩
 rw[if_neg i,if_neg i];by_cases o:x<224
 .rw[if_pos o,if_pos o];exact⟨2,2,0,rfl,by decide,by decide,by decide,by decide,by decide,.inl rfl,fun _=>⟨by rw[if_neg (by omega),if_neg (by omega)];rfl,by rw[if_neg (by omega),if_neg (by omega)];rfl⟩⟩
 rw[if_neg o,if_neg o];by_cases a3:x=224
 .subst a3;exact⟨19,3,1,rfl,by decide,by decide,by decide,by decide,by decide,.inl rfl,fun _=>⟨rfl,rfl⟩⟩
 rw[if_neg a3,if_neg a3];by_cases a4:x=237
 .subst a4;exact⟨35,3,2,rfl,by decide,by decide,by decide,by decide,by decide,.inl rfl,fun _=>⟨rfl,rfl⟩⟩
 rw[if_neg a4,if_neg a4];by_cases a5:x<240
 .rw[if_pos a5,if_pos a5];exact⟨3,3,0,rfl,by decide,by decide,by decide,by decide,by decide,.inl rfl,fun _=>⟨by rw[if_neg (by omega)];rfl,by rw[if_neg (by omega)];rfl⟩⟩
 rw[if_neg a5,if_neg a5];by_cases y:x=240
 .subst y;exact⟨52,4,3,rfl,by decide,by decide,by decide,by decide,by decide,.inl rfl,fun _=>⟨rfl,rfl⟩⟩
 rw[if_neg y,if_neg y];by_cases B:x<244
 .rw[if_pos B,if_pos (by omega)];exact⟨4,4,0,rfl,by decide,by decide,by decide,by decide,by decide,.inl rfl,fun _=>⟨rfl,by rw[if_neg (by omega)];rfl⟩⟩
 rw[if_neg B];by_cases E:x=244
 .subst E;exact⟨68,4,4,rfl,by decide,by decide,by decide,by decide,by decide,.inl rfl,fun _=>⟨rfl,rfl⟩⟩
 rw[if_neg E,if_neg (by omega)];exact⟨241,1,15,rfl,by decide,by decide,by decide,by decide,by decide,.inr ⟨rfl,rfl⟩,fun h=>absurd rfl h⟩
theorem Oc(x:Int):CG x=0\/CG x=2\/CG x=3\/CG x=4:=by
 unfold CG
 (repeat' split)<;>simp
theorem Uu{t:TypeId}{xo yo:Operand}{a:Int}{z:Nat}(w:World)(h0:0<=a)(h1:a<256)(i:(a.toNat &&& 7)=z):(BZ .and t xo yo (.int .u8 a) (.int .u8 7)).run prog w=.ok (.int .u8 z) w:=by
 rw[(Iz w).2];have e:((BitVec.ofInt IntKind.u8.bits a &&& BitVec.ofInt IntKind.u8.bits 7).toNat:Int)=((a.toNat &&& 7:Nat):Int):=by
  show((BitVec.ofInt 8 a &&& BitVec.ofInt 8 7).toNat:Int)=_;rw[BitVec.toNat_and,BitVec.toNat_ofInt,BitVec.toNat_ofInt];have e:((2 ^ 8:Nat):Int)=256:=by decide
  rw[e,Int.emod_eq_of_lt h0 h1];rfl
 have j:z<=7:=i▸Nat.and_le_right;rw[e,i];congr 2
 have o:(2:Int) ^ IntKind.u8.bits=256:=by decide
 simp only[IntKind.wrap,o,IntKind.signed,Bool.false_and];rw[if_neg (by decide)];omega
def QL(v:Value):Nat:=match v with|.slice _ n _=>n|_=>0
theorem Jz{l:List Int}{k:Nat}(hl:Bk l)(hk:k<=l.length)(h:∀j,j<k->l.getD j 0<128):(Bi l).isSome=(Bi (l.drop k)).isSome:=by
 refine Po hk fun j x o i=>?_;have:=h j o;rw[List.getD_eq_getElem?_getD,i] at this;exact⟨(hl x (List.mem_iff_getElem?.2 ⟨j,i⟩)).1,this⟩
theorem Hb(l:List Int)(k j:Nat):(l.drop k).getD j 0=l.getD (k+j) 0:=by
 rw[List.getD_eq_getElem?_getD,List.getD_eq_getElem?_getD,List.getElem?_drop]
theorem FX{a b c:Nat}(h:((a ||| b) &&& c)=0):(a &&& c)=0/\(b &&& c)=0:=by
 rw[Nat.and_or_distrib_right] at h;exact Nat.or_eq_zero_iff.1 h
theorem NC{n:Nat}(h:((n &&& (9259542123273814144:Int).toNat:Nat):Int)=0):(n &&& 9259542123273814144)=0:=Int.ofNat_inj.1 h
set_option maxRecDepth 10000 in
theorem Tx{S:Nat->Prop}{v:Value}{b:List Int}{w:World}(h:Ci S w v b)(hb:Bk b)(hT:ET w) :
  AB prog 297 [v] (fun v' w'=>v'=.bool (Bi b).isSome/\Grow w w') w:=by
 apply X9;have hu:prog.underlying 293=some (.slice 5):=by kernel_rfl
 have hi:prog.info? 5=some Tryz.t5:=by kernel_rfl
 have hs:Tryz.t5.size=1:=by kernel_rfl
 obtain⟨a,c,rfl,hm⟩:=h.shape;obtain⟨_,_,e0,dx,_,_⟩:=id h;cases e0;rw[AS,AS];obtain⟨a',dy,dz⟩:=LS (a:=a) (n:=b.length) (c:=c) hu hi hs dx w;refine Ai dy ?_;have h':Ci S w (.slice a' b.length b.length) b:=by
  obtain⟨_,_,e0,h1,h2,h3⟩:=h;cases e0;refine⟨_,_,rfl,Nat.le_refl _,hm,fun i x hx=>?_⟩;obtain⟨p,r,rfl,q⟩:=h3 i x hx;have:=(List.getElem?_eq_some_iff.1 hx).1;exact⟨p,r,dz (by omega),q⟩
 refine Ae (fun vs W=>∃l v1,vs=[v1]/\Ci S W v1 l/\Bk l/\(Bi b).isSome=(Bi l).isSome/\Grow w W) (fun vs _=>QL (nth vs 0)) ⟨b,_,rfl,h',hb,rfl,Mod.refl _ _⟩ ?_;rintro vs W ⟨l,v1,rfl,hl,hB,b3,gW⟩ _;rw[CN,List.headD_cons];obtain⟨p1,c1,rfl,dT⟩:=hl.shape;simp only[maxLen] at dT;rw[AS,BK];refine AE (fun bl=>?_) fun ee=>?_;rotate_left
 .have:l=[]:=List.eq_nil_of_length_eq_zero (by omega);subst this;exact⟨by rw[b3,L8];rfl,gW⟩
 have E:∀{W':World} {v':Value} {Q:List Int},Ci S W' v' Q->Bk Q->(Bi l).isSome=(Bi Q).isSome->Q.length<l.length->Grow w W'->
   ((∃l v1,[v']=[v1]/\Ci S W' v1 l/\Bk l/\(Bi b).isSome=(Bi l).isSome/\Grow w W')/\QL (nth [v'] 0)<QL (nth [Value.slice p1 l.length c1] 0)):=by
  intro W' v' Q h1 h2 h3 h4 h5;obtain⟨q,d,rfl,_⟩:=h1.shape;exact⟨⟨Q,_,rfl,h1,h2,b3.trans h3,h5⟩,h4⟩
 have sl:∀{W':World} {q:Option Addr} {n d j:Nat} {Q:List Int} {K:Cont},Ci S W' (.slice q n d) Q->j<=Q.length->(∀v',Ci S W' v' (Q.drop j)->K v' W')->runK prog (Instr.sliceAt 293 (.slice q n d) (some (.int .i64 j)) none none) K W':=
  fun h1 h2 h3=>IQ (e:=5) (i:=Tryz.t5) hu hi hs h1 h2 h3
 have ge:∀{W1 U:World} {v':Value} {Q:List Int},Ci S W1 v' Q->Grow W1 U->Ci S U v' Q:=fun h1 g=>h1.grow g (by decide) fun _ _ h=>h;have wq:∀{W1:World} {v':Value} {Q:List Int} {K:Value->Prop},Ci S W1 v' Q->Bk Q->8<=Q.length->K (.int .u64 (GN Q))->Eo prog (fun U=>Grow W1 U) 300 [v'] K:=by
  intro W1 v' Q K h1 h2 h3 h4;refine⟨_,fun w2 g=>AA (QO (ge h1 g) h2 h3) ?_,h4⟩;rintro _ w3 ⟨rfl,g3⟩;exact⟨rfl,g.trans g3⟩
 obtain⟨x,t,rfl⟩:∃x t,l=x::t:=by cases l with|nil=>simp at bl|cons x t=>exact⟨x,t,rfl⟩
 have hx:=hB x List.mem_cons_self;have I:Bk t:=fun y hy=>hB y (List.mem_cons_of_mem _ hy);obtain⟨p,r,rfl,_,hr,hc,rfl⟩:=hl.get (i:=0) (by simp);have cx:W.cell? (p.add (0*1+0))=some (.int .u8 x):=hc 0 _ rfl;refine AZ (j:=0) (by simp) (AL cx ?_);show Bc .u8 (.int .u8 x) _ _;refine HU (fun e4=>?_) fun eh=>?_
 .have bp:(Bi (x::t)).isSome=(Bi t).isSome:=by
   have:=Jz (l:=x::t) (k:=1) hB (by simp) fun j hj=>by
    have:j=0:=by omega
    subst this;exact e4
   simpa using this
  refine sl hl (j:=1) (by simp) fun v2 a7=>?_;rw[List.drop_succ_cons,List.drop_zero] at a7;obtain⟨q2,d2,rfl,_⟩:=a7.shape;refine AW (fun vs U=>Grow W U/\∃q:Bool,vs=[.bool q]/\(q=true->8<=t.length/\∀j,j<8->t.getD j 0<128)) ?_ ?_
  .rintro vs U ⟨g2,q,rfl,hq⟩ _;rw[CN,List.headD_cons];cases q with
   |false=>exact AT (E (ge a7 g2) I bp (by simp) (gW.trans g2))
   |true=>
    obtain⟨h8,e5⟩:=hq rfl;refine Ao (sl (ge a7 g2) (j:=8) h8 fun v3 J=>?_);have O:Bk (t.drop 8):=Bk.drop I 8;have b2:(Bi (x::t)).isSome=(Bi (t.drop 8)).isSome:=bp.trans (Jz I h8 e5);have bs:(t.drop 8).length<(x::t).length:=by simp;omega
    generalize t.drop 8=l3 at J O b2 bs;obtain⟨q3,d3,rfl,_⟩:=J.shape;refine AW (fun vs W3=>Grow W W3/\Grow U W3/\∃q:Bool,vs=[.bool q]/\(q=true->16<=l3.length/\∀j,j<16->l3.getD j 0<128)) ?_ ?_
    .rintro vs W3 ⟨g3,bx,q,rfl,hq⟩ _;rw[CN,List.headD_cons];cases q with
     |false=>exact AT (E (ge J bx) O b2 bs (gW.trans g3))
     |true=>
      obtain⟨b4,c4⟩:=hq rfl;refine Ao (sl (ge J bx) (j:=16) b4 fun v4 e6=>?_);refine Ae (fun vs W4=>∃l4 v5,vs=[v5]/\Ci S W4 v5 l4/\Bk l4/\(Bi (x::t)).isSome=(Bi l4).isSome/\l4.length<(x::t).length/\Grow W W4) (fun vs _=>QL (nth vs 0))
       ⟨_,_,rfl,e6,Bk.drop O 16,b2.trans (Jz O b4 c4),by simp only[List.length_drop];omega,g3⟩ ?_
      rintro vs W4 ⟨l4,v5,rfl,a6,B,b5,c6,g4⟩ _;rw[CN,List.headD_cons];obtain⟨q5,d5,rfl,_⟩:=a6.shape;refine CZ (fun W'=>Grow W4 W') (Mod.drew _ _) ?_;rw[AS,BK];refine AE (fun ei=>?_) fun _=>fun W' g'=>E (ge a6 g') B b5 c6 (gW.trans (g4.trans g'));have ef:32<l4.length:=by omega
      have b7:=fun(j:Nat) (hj:j<=l4.length) (w':World)=>EM (a:=q5) (n:=l4.length) (c:=d5) hu hi hs hj w';have b8:=fun(j:Nat) (hj:j<=l4.length)=>Jg a6 hj;refine wq a6 B (by omega) ?_;refine⟨_,fun w' _=>b7 8 (by omega) w',?_⟩;refine wq (b8 8 (by omega)) (Bk.drop B 8) (by simp only[List.length_drop];omega) ?_;have u0:=GZ B;have u1:=GZ (Bk.drop B 8);have u2:=GZ (Bk.drop B 16);have u3:=GZ (Bk.drop B 24);refine⟨_,fun w' _=>DR w' u0 u1,?_⟩;refine⟨_,fun w' _=>b7 16 (by omega) w',?_⟩;refine wq (b8 16 (by omega)) (Bk.drop B 16) (by simp only[List.length_drop];omega) ?_;refine⟨_,fun w' _=>b7 24 (by omega) w',?_⟩;refine wq (b8 24 (by omega)) (Bk.drop B 24) (by simp only[List.length_drop];omega) ?_;refine⟨_,fun w' _=>DR w' u2 u3,?_⟩;refine⟨_,fun w' _=>DR w' (Dw u0 u1) (Dw u2 u3),?_⟩;refine⟨_,fun w' _=>Jd w' (Dw (Dw u0 u1) (Dw u2 u3)) (by unfold HY;decide),?_⟩;show DI .u64 (.int .u64 _) _ _;rw[Am];intro W' g';refine AE (fun hz=>?_) fun _=>E (ge a6 g') B b5 c6 (gW.trans (g4.trans g'));have a8:((K0 (K0 (GN l4) (GN (l4.drop 8))) (K0 (GN (l4.drop 16)) (GN (l4.drop 24)))).toNat &&& 9259542123273814144:Nat)=0:=NC hz;simp only[K0,Int.toNat_natCast] at a8;obtain⟨z1,z2⟩:=FX a8;obtain⟨z3,z4⟩:=FX z1;obtain⟨z5,z6⟩:=FX z2;have e7:∀j,j<32->l4.getD j 0<128:=by
       intro j hj;rcases(show j<8\/8<=j/\j<16\/16<=j/\j<24\/24<=j by omega) with h|h|h|h
       .exact Dp B z3 h
       .have:=Dp (Bk.drop B 8) z4 (j:=j-8) (by omega);rw[Hb,show 8+(j-8)=j by omega] at this;exact this
       .have:=Dp (Bk.drop B 16) z5 (j:=j-16) (by omega);rw[Hb,show 16+(j-16)=j by omega] at this;exact this
       .have:=Dp (Bk.drop B 24) z6 (j:=j-24) (by omega);rw[Hb,show 24+(j-24)=j by omega] at this;exact this
      refine sl (ge a6 g') (j:=32) (by omega) fun v6 c7=>?_;obtain⟨q6,d6,rfl,_⟩:=c7.shape;refine⟨⟨_,_,rfl,c7,Bk.drop B 32,b5.trans (Jz B (by omega) e7),by simp only[List.length_drop];omega,g4.trans g'⟩,?_⟩;show(l4.drop 32).length<l4.length;rw[List.length_drop];omega
    .refine CZ (fun W'=>Grow U W') (Mod.drew _ _) ?_;rw[AS,BK];refine AE (fun b4=>?_) fun _=>fun W' g'=>⟨g2.trans g',g',false,rfl,fun h=>(nomatch h)⟩;have eg:16<l3.length:=by omega
     refine wq J O (by omega) ?_;refine⟨_,fun w' _=>EM (a:=q3) (n:=l3.length) (c:=d3) hu hi hs (j:=8) (by omega) w',?_⟩;refine wq (Jg J (by omega)) (Bk.drop O 8) (by simp only[List.length_drop];omega) ?_;have u0:=GZ O;have u1:=GZ (Bk.drop O 8);refine⟨_,fun w' _=>DR w' u0 u1,?_⟩;refine⟨_,fun w' _=>Jd w' (Dw u0 u1) (by unfold HY;decide),?_⟩;show DI .u64 (.int .u64 _) _ _;rw[Am];intro W' g';refine⟨g2.trans g',g',_,rfl,fun hz=>?_⟩;rw[decide_eq_true_eq] at hz;have a8:((K0 (GN l3) (GN (l3.drop 8))).toNat &&& 9259542123273814144:Nat)=0:=NC hz;simp only[K0,Int.toNat_natCast] at a8;obtain⟨z1,z2⟩:=FX a8;refine⟨by omega,fun j hj=>?_⟩;rcases(show j<8\/8<=j by omega) with h|h
     .exact Dp O z1 h
     .have:=Dp (Bk.drop O 8) z2 (j:=j-8) (by omega);rw[Hb,show 8+(j-8)=j by omega] at this;exact this
  .rw[AS,BK];refine AE (fun h8=>?_) fun _=>⟨Mod.refl _ _,false,rfl,fun h=>(nomatch h)⟩;have ek:8<t.length:=by omega
   refine AA (QO a7 I (by omega)) ?_;rintro _ U ⟨rfl,g2⟩;refine Ai (Jd U (GZ I) (by unfold HY;decide)) ?_;rw[Am];refine⟨g2,_,rfl,fun hz=>?_⟩;rw[decide_eq_true_eq] at hz;exact⟨by omega,fun j hj=>Dp I (NC hz) hj⟩
 .have bad:CW (x::t)=(0,0)->∀{W'},Grow w W'->Value.bool false=.bool (Bi b).isSome/\Grow w W':=fun e W' g=>⟨by rw[b3,Hy (by simp),e];rfl,g⟩;have FK:∀{n:Nat} {r:Int},CW (x::t)=(r,n)->0<n->(Bi (x::t)).isSome=(Bi ((x::t).drop n)).isSome:=by
   intro n r e V;rw[Hy (by simp),e];show(decide (n≠0)&&_)=_;rw[decide_eq_true (show n≠0 by omega),Bool.true_and]
  obtain⟨f,z,j,hf,e8,e9,hz,hj,c8,en,ak⟩:=Z7 (x:=x) (by omega) hx.2;have c9:=hT.grow gW;have cf:W.cell? (Addr.add ⟨1,0,none⟩ (x.toNat*1))=some (.int .u8 f):=by
   rw[AI,Nat.mul_one,<-hf];have:=c9.first x.toNat (by omega) (by omega);rwa [show((x.toNat:Nat):Int)=x by omega] at this
  refine Ai (Gx (n:=256) (e:=5) (i:=Tryz.t5) (s:=1) (by kernel_rfl) (by kernel_rfl) (by kernel_rfl) hx.1 (by omega)) (AL cf ?_);refine Ai (Uu W e8 e9 hz) ?_;refine Ai (Eb (k:=.i64) W (by kernel_rfl) (by kernel_rfl)) ?_;have eo:z<=7:=hz▸Nat.and_le_right;rw[wrap64 (by omega) (by omega)];refine Ai (MX (n:=4) W (by decide)) ?_;have ej:f.fdiv (2 ^ 4)=(j:Int):=by
   rw[Int.fdiv_eq_ediv_of_nonneg _ (by decide),<-hj];rfl
  rw[ej];refine Ai (Gx (n:=16) (e:=383) (i:=Tryz.t383) (s:=2) (by kernel_rfl) (by kernel_rfl) (by kernel_rfl) (by omega) (by omega)) ?_;rw[Int.toNat_natCast,AI];obtain⟨ca,cb⟩:=c9.acc j c8;refine Ah (vs:=[.int .u8 (accLo j),.int .u8 (accHi j)]) rfl (fun q u hu=>?_) ?_
  .rcases q with _|_|q
   .cases hu;exact ca
   .cases hu;exact cb
   .simp at hu
  refine BO (vs:=[.int .u8 (accLo j),.int .u8 (accHi j)]) rfl rfl (fun u hu=>by simp at hu;rcases hu with rfl|rfl<;>rfl) fun b6 U cc ep g6 cd _=>?_;have b9:=cd 0 _ rfl;have ba:=cd 1 _ rfl;have o:=gW.trans g6;have T:=ge hl g6;have dw:0<(x::t).length:=by simp
  rw[Am];refine AE (fun h2=>?_) fun h2=>?_
  .have er:z=2:=by omega
   have X:CG x=2:=by omega
   obtain⟨ch,cn⟩:=ak (by omega);refine AW (fun _ W3=>Grow U W3/\2<=(x::t).length/\(Bi (x::t)).isSome=(Bi ((x::t).drop 2)).isSome) ?_ ?_
   .rintro vs W3 ⟨g3,al,an⟩ _;refine sl (ge T g3) (j:=2) al fun v3 J=>?_;exact E J (Bk.drop hB 2) an (by rw[List.length_drop];omega) (o.trans g3)
   refine CZ (fun W'=>Grow U W') (Mod.drew _ _) ?_;rw[AS,Ax];refine AE (fun cv=>fun W' g'=>bad (Ct hx.2 (by rw[X];omega)) (o.trans g')) fun Y=>?_;obtain⟨y1,t1,rfl⟩:∃y t',t=y::t':=by cases t with|nil=>simp at Y|cons y t'=>exact⟨y,t',rfl⟩
   have Z:=I y1 List.mem_cons_self;have V:=VU (t:=t1) X Z.1 Z.2;obtain⟨_,r1,e1,_,dk,av,rfl⟩:=T.get (i:=1) (by simp);cases e1;have a1:=av 0 _ rfl;refine AZ (j:=1) (by simp) (Ar (fun w' g=>g.cell a1 fun h=>h) ?_);rw[AG];refine Ar (fun w' g=>g.cell b9 fun h=>h) ?_;show Bc .u8 (.int .u8 y1) _ _;rw[Ax];refine AE (fun ax=>fun W' g'=>bad (by rw[V,if_neg (by omega)]) (o.trans g')) fun ax=>?_;rw[AG];refine Ar (fun w' g=>g.cell ba fun h=>h) ?_;refine AZ (j:=1) (by simp) (Ar (fun w' g=>g.cell a1 fun h=>h) ?_);show Bc .u8 _ (.int .u8 y1) _;rw[Ax];intro W' g';refine AE (fun ay=>bad (by rw[V,if_neg (by omega)]) (o.trans g')) fun ay=>?_;exact⟨g',by simp,FK (by rw[V,if_pos (by omega)]) (by decide)⟩
  rw[Am];refine AE (fun h3=>?_) fun h3=>?_
  .have et:z=3:=by omega
   have X:CG x=3:=by omega
   obtain⟨ch,cn⟩:=ak (by omega);refine AW (fun _ W3=>Grow U W3/\3<=(x::t).length/\(Bi (x::t)).isSome=(Bi ((x::t).drop 3)).isSome) ?_ ?_
   .rintro vs W3 ⟨g3,al,an⟩ _;refine sl (ge T g3) (j:=3) al fun v3 J=>?_;exact E J (Bk.drop hB 3) an (by rw[List.length_drop];omega) (o.trans g3)
   refine CZ (fun W'=>Grow U W') (Mod.drew _ _) ?_;rw[AS,Ax];refine AE (fun cv=>fun W' g'=>bad (Ct hx.2 (by rw[X];omega)) (o.trans g')) fun Y=>?_;obtain⟨y1,y2,t1,rfl⟩:∃y y2 t',t=y::y2::t':=by
    rcases t with _|⟨y,_|⟨y2,t'⟩⟩
    .simp at Y
    .simp at Y
    .exact⟨y,y2,t',rfl⟩
   have Z:=I y1 List.mem_cons_self;have b0:=I y2 (List.mem_cons_of_mem _ List.mem_cons_self);have V:=U5 (t:=t1) X Z.1 Z.2 b0.1 b0.2;obtain⟨_,r1,e1,_,dk,av,rfl⟩:=T.get (i:=1) (by simp);cases e1;have a1:=av 0 _ rfl;obtain⟨_,r2,e2,_,ea,bc,rfl⟩:=T.get (i:=2) (by simp);cases e2;have b1:=bc 0 _ rfl;refine AZ (j:=1) (by simp) (Ar (fun w' g=>g.cell a1 fun h=>h) ?_);rw[AG];refine Ar (fun w' g=>g.cell b9 fun h=>h) ?_;show Bc .u8 (.int .u8 y1) _ _;rw[Ax];refine AE (fun ax=>fun W' g'=>bad (by rw[V,if_neg (by omega)]) (o.trans g')) fun ax=>?_;rw[AG];refine Ar (fun w' g=>g.cell ba fun h=>h) ?_;refine AZ (j:=1) (by simp) (Ar (fun w' g=>g.cell a1 fun h=>h) ?_);show Bc .u8 _ (.int .u8 y1) _;rw[Ax];refine AE (fun ay=>fun W' g'=>bad (by rw[V,if_neg (by omega)]) (o.trans g')) fun ay=>?_;refine AZ (j:=2) (by simp) (Ar (fun w' g=>g.cell b1 fun h=>h) ?_);show Bc .u8 (.int .u8 y2) _ _;rw[Ax];refine AE (fun bd=>fun W' g'=>bad (by rw[V,if_neg (by omega)]) (o.trans g')) fun bd=>?_;refine AZ (j:=2) (by simp) (Ar (fun w' g=>g.cell b1 fun h=>h) ?_);show Bc .u8 _ (.int .u8 y2) _;rw[Ax];intro W' g';refine AE (fun bk=>bad (by rw[V,if_neg (by omega)]) (o.trans g')) fun bk=>?_;exact⟨g',by simp,FK (by rw[V,if_pos (by omega)]) (by decide)⟩
  rw[Am];refine AE (fun h4=>?_) fun h4=>?_
  .have eu:z=4:=by omega
   have X:CG x=4:=by omega
   obtain⟨ch,cn⟩:=ak (by omega);refine AW (fun _ W3=>Grow U W3/\4<=(x::t).length/\(Bi (x::t)).isSome=(Bi ((x::t).drop 4)).isSome) ?_ ?_
   .rintro vs W3 ⟨g3,al,an⟩ _;refine sl (ge T g3) (j:=4) al fun v3 J=>?_;exact E J (Bk.drop hB 4) an (by rw[List.length_drop];omega) (o.trans g3)
   refine CZ (fun W'=>Grow U W') (Mod.drew _ _) ?_;rw[AS,Ax];refine AE (fun cv=>fun W' g'=>bad (Ct hx.2 (by rw[X];omega)) (o.trans g')) fun Y=>?_;obtain⟨y1,y2,y3,t1,rfl⟩:∃y y2 y3 t',t=y::y2::y3::t':=by
    rcases t with _|⟨y,_|⟨y2,_|⟨y3,t'⟩⟩⟩
    .simp at Y
    .simp at Y
    .simp at Y
    .exact⟨y,y2,y3,t',rfl⟩
   have Z:=I y1 List.mem_cons_self;have b0:=I y2 (List.mem_cons_of_mem _ List.mem_cons_self);have du:=I y3 (List.mem_cons_of_mem _ (List.mem_cons_of_mem _ List.mem_cons_self));have V:=Uj (t:=t1) X Z.1 Z.2 b0.1 b0.2 du.1 du.2;obtain⟨_,r1,e1,_,dk,av,rfl⟩:=T.get (i:=1) (by simp);cases e1;have a1:=av 0 _ rfl;obtain⟨_,r2,e2,_,ea,bc,rfl⟩:=T.get (i:=2) (by simp);cases e2;have b1:=bc 0 _ rfl;obtain⟨_,r3,e3,_,b2,ec,rfl⟩:=T.get (i:=3) (by simp);cases e3;have dv:=ec 0 _ rfl;refine AZ (j:=1) (by simp) (Ar (fun w' g=>g.cell a1 fun h=>h) ?_);rw[AG];refine Ar (fun w' g=>g.cell b9 fun h=>h) ?_;show Bc .u8 (.int .u8 y1) _ _;rw[Ax];refine AE (fun ax=>fun W' g'=>bad (by rw[V,if_neg (by omega)]) (o.trans g')) fun ax=>?_;rw[AG];refine Ar (fun w' g=>g.cell ba fun h=>h) ?_;refine AZ (j:=1) (by simp) (Ar (fun w' g=>g.cell a1 fun h=>h) ?_);show Bc .u8 _ (.int .u8 y1) _;rw[Ax];refine AE (fun ay=>fun W' g'=>bad (by rw[V,if_neg (by omega)]) (o.trans g')) fun ay=>?_;refine AZ (j:=2) (by simp) (Ar (fun w' g=>g.cell b1 fun h=>h) ?_);show Bc .u8 (.int .u8 y2) _ _;rw[Ax];refine AE (fun bd=>fun W' g'=>bad (by rw[V,if_neg (by omega)]) (o.trans g')) fun bd=>?_;refine AZ (j:=2) (by simp) (Ar (fun w' g=>g.cell b1 fun h=>h) ?_);show Bc .u8 _ (.int .u8 y2) _;rw[Ax];refine AE (fun bk=>fun W' g'=>bad (by rw[V,if_neg (by omega)]) (o.trans g')) fun bk=>?_;refine AZ (j:=3) (by simp) (Ar (fun w' g=>g.cell dv fun h=>h) ?_);show Bc .u8 (.int .u8 y3) _ _;rw[Ax];refine AE (fun ed=>fun W' g'=>bad (by rw[V,if_neg (by omega)]) (o.trans g')) fun ed=>?_;refine AZ (j:=3) (by simp) (Ar (fun w' g=>g.cell dv fun h=>h) ?_);show Bc .u8 _ (.int .u8 y3) _;rw[Ax];intro W' g';refine AE (fun cc=>bad (by rw[V,if_neg (by omega)]) (o.trans g')) fun cc=>?_;exact⟨g',by simp,FK (by rw[V,if_pos (by omega)]) (by decide)⟩
  .exact bad (OD hB (by omega) (by have:=Oc x;omega)) o
def MP:Nat->Nat->List Int
 |0,n=>[(n:Int)]
 |f+1,n=>if n<=127 then[(n:Int)] else((n%128+128:Nat):Int)::MP f (n/128)
def uv(n:Nat):List Int:=MP 9 n
def Gn(n:Int):Nat:=if 0<=n then(2*n).toNat else(-2*n-1).toNat
theorem Oi{a b:Int}(h:Gn a=Gn b):a=b:=by
 unfold Gn at h;split at h<;>split at h<;>omega
theorem Gf{n:Int}(h0:-9223372036854775808<=n)(h1:n<=9223372036854775807):Gn n<18446744073709551616:=by
 unfold Gn;split<;>omega
theorem Vp:∀{f n m:Nat} {x y:List Int},n<128 ^ (f+1)->m<128 ^ (f+1)->MP f n++x=MP f m++y->n=m/\x=y:=by
 intro f;induction f with
 |zero=>
  intro n m x y _ _ h;simp only[MP,List.singleton_append,List.cons.injEq] at h;exact⟨by omega,h.2⟩
 |succ f j=>
  intro n m x y o hm h;rw[Nat.pow_succ] at o hm;simp only[MP] at h;by_cases h1:n<=127<;>by_cases i:m<=127
  .rw[if_pos h1,if_pos i] at h;simp only[List.singleton_append,List.cons.injEq] at h;exact⟨by omega,h.2⟩
  .rw[if_pos h1,if_neg i] at h;simp only[List.cons_append,List.cons.injEq] at h;omega
  .rw[if_neg h1,if_pos i] at h;simp only[List.cons_append,List.cons.injEq] at h;omega
  .rw[if_neg h1,if_neg i] at h;simp only[List.cons_append,List.cons.injEq] at h;have:=j (Nat.div_lt_of_lt_mul (by omega)) (Nat.div_lt_of_lt_mul (by omega)) h.2;exact⟨by omega,this.2⟩
theorem LI{n m:Nat}{x y:List Int}(i:n<18446744073709551616)(hm:m<18446744073709551616)(h:uv n++x=uv m++y):n=m/\x=y:=by
 have e:(18446744073709551616:Nat)<=128 ^ (9+1):=by decide
 exact Vp (by omega) (by omega) h
theorem FT:∀(f n:Nat),1<=(MP f n).length/\(MP f n).length<=f+1:=by
 intro f;induction f with
 |zero=>intro n;simp[MP]
 |succ f i=>
  intro n;simp only[MP];split
  .simp
  .have:=i (n/128);simp only[List.length_cons];omega
theorem Uk:∀(f n:Nat),n<128 ^ (f+1)->∀x∈MP f n,0<=x/\x<256:=by
 intro f;induction f with
 |zero=>intro n j x i;simp only[MP,List.mem_singleton] at i;subst i;simp at j;omega
 |succ f o=>
  intro n j x i;rw[Nat.pow_succ] at j;simp only[MP] at i;split at i
  .simp only[List.mem_singleton] at i;omega
  .rcases List.mem_cons.1 i with rfl|i
   .omega
   .exact o _ (Nat.div_lt_of_lt_mul (by omega)) x i
theorem Iw{n:Nat}(i:n<18446744073709551616):∀x∈uv n,0<=x/\x<256:=by
 have e:(18446744073709551616:Nat)<=128 ^ (9+1):=by decide
 exact Uk 9 n (by omega)
def LP(a:Attr):Prop:=(-9223372036854775808<=a.key/\a.key<=9223372036854775807)/\(0<=a.val.kind/\a.val.kind<256)/\(-9223372036854775808<=a.val.n/\a.val.n<=9223372036854775807)/\(0<=a.val.f/\a.val.f<18446744073709551616)/\a.val.s.size<18446744073709551616
def JW(a:Attr):List Int:=uv (Gn a.key)++(uv a.val.kind.toNat++(uv (Gn a.val.n)++(uv a.val.f.toNat++(uv a.val.s.size++Bj a.val.s))))
def FA(l:List Attr):List Int:=l.flatMap JW
theorem PY{s t:ByteArray}(h:Bj s=Bj t):s=t:=by
 unfold Bj at h;have i:=(List.map_inj_right (f:=fun b:UInt8=>(b.toNat:Int)) (fun a b e=>UInt8.toNat_inj.1 (Int.ofNat_inj.1 e))).1 h;cases s;cases t;simp only[ByteArray.mk.injEq];exact Array.toList_inj.1 i
theorem Cq(s:ByteArray):(Bj s).length=s.size:=by simp[Bj]
theorem Uo{a b:Attr}(ha:LP a)(hb:LP b){x y:List Int}(h:JW a++x=JW b++y):a=b/\x=y:=by
 obtain⟨i,U,a3,a4,a5⟩:=ha;obtain⟨j,V,o,X,B⟩:=hb;unfold JW at h;simp only[List.append_assoc] at h;obtain⟨E,h⟩:=LI (Gf i.1 i.2) (Gf j.1 j.2) h;obtain⟨Y,h⟩:=LI (by omega) (by omega) h;obtain⟨I,h⟩:=LI (Gf a3.1 a3.2) (Gf o.1 o.2) h;obtain⟨Z,h⟩:=LI (by omega) (by omega) h;obtain⟨J,h⟩:=LI a5 B h;obtain⟨O,h⟩:=List.append_inj h (by rw[Cq,Cq,J]);refine⟨?_,h⟩;obtain⟨ak,Q⟩:=a;obtain⟨bk,bv⟩:=b;obtain⟨v1,v2,v3,v4⟩:=Q;obtain⟨S,u2,T,u4⟩:=bv;simp only at *;have:=Oi E;have:=Oi I;have:=PY O;have:v1=S:=by omega
 have:v3=T:=by omega
 subst_vars
 rfl
theorem Th:∀{l m:List Attr},(∀a∈l,LP a)->(∀a∈m,LP a)->FA l=FA m->l=m:=by
 have ne:∀a x,JW a++x≠[]:=fun a x e=>by
  have:=FT 9 (Gn a.key);have h:=congrArg List.length e;simp only[JW,List.length_append,List.length_nil,uv] at h;omega
 intro l;induction l with
 |nil=>
  intro m _ hm h;cases m with
  |nil=>rfl
  |cons b m=>exact absurd h.symm (by simpa[FA] using ne b (FA m))
 |cons a l j=>
  intro m hl hm h;cases m with
  |nil=>exact absurd h (by simpa[FA] using ne a (FA l))
  |cons b m=>
   simp only[FA,List.flatMap_cons] at h;obtain⟨rfl,o⟩:=Uo (hl a List.mem_cons_self) (hm b List.mem_cons_self) h;rw[j (fun x i=>hl x (List.mem_cons_of_mem _ i)) (fun x i=>hm x (List.mem_cons_of_mem _ i)) (show FA l=FA m from o)]
def strOf(l:List Int):ByteArray:=⟨(l.map fun x=>UInt8.ofNat x.toNat).toArray⟩
theorem Gb{l:List Int}(h:∀x∈l,0<=x/\x<256):Bj (strOf l)=l:=by
 unfold Bj strOf;simp only[List.map_map];conv=>rhs;rw[<-List.map_id l]
 refine List.map_congr_left fun x i=>?_;have:=h x i;simp only[Function.comp,UInt8.toNat_ofNat',id];omega
theorem SN{a:Attr}(h:LP a):∀x∈JW a,0<=x/\x<256:=by
 obtain⟨j,o,a3,a4,a5⟩:=h;intro x i;simp only[JW,List.mem_append] at i;rcases i with i|i|i|i|i|i
 .exact Iw (Gf j.1 j.2) x i
 .exact Iw (by omega) x i
 .exact Iw (Gf a3.1 a3.2) x i
 .exact Iw (by omega) x i
 .exact Iw a5 x i
 .simp only[Bj,List.mem_map] at i;obtain⟨b,_,rfl⟩:=i;have:=b.toNat_lt;omega
theorem JK{l:List Attr}(h:∀a∈l,LP a):∀x∈FA l,0<=x/\x<256:=by
 intro x i;simp only[FA,List.mem_flatMap] at i;obtain⟨a,ha,i⟩:=i;exact SN (h a ha) x i
def EF(l:List Attr):ByteArray:=strOf (FA l)
theorem IA{l m:List Attr}(hl:∀a∈l,LP a)(hm:∀a∈m,LP a)(h:EF l=EF m):l=m:=by
 refine Th hl hm ?_;rw[<-Gb (JK hl),<-Gb (JK hm)];exact congrArg Bj h
def Dx(t:Tab (List Attr))(f:Value->Option Value):Prop:=∀s v,f (.string s)=some v↔∃(i:Nat) (p:Ent (List Attr)),t.places[i]?=some p/\0<p.held/\s=EF p.set/\v=.int .i64 ((i:Int)+1)
def Ox(ks:List Attr->Prop)(s:List Attr):Prop:=s≠[]/\(∀a∈s,LP a)/\ks s
theorem Dx.some{K:List Attr->Prop}{t:Tab (List Attr)}{f:Value->Option Value}(h:Dx t f)(o:t.Inv (Ox K)){s:List Attr}(x:∀a∈s,LP a){v:Value}(y:f (.string (EF s))=some v):∃i n:Nat,t.places[i]?=.some ⟨s,n⟩/\0<n/\v=.int .i64 ((i:Int)+1):=by
 obtain⟨i,p,h1,j,B,E⟩:=(h _ _).1 y;have:=IA x (o.ok i p h1 j).2.1 B;subst this;exact⟨i,p.held,h1,j,E⟩
theorem Dx.none{t:Tab (List Attr)}{f:Value->Option Value}(h:Dx t f){s:List Attr}(j:f (.string (EF s))=Option.none):∀(i:Nat) (p:Ent (List Attr)),t.places[i]?=.some p->0<p.held->p.set≠s:=by
 rintro i p h1 o rfl;have:=(h (EF p.set) _).2 ⟨i,p,h1,o,rfl,rfl⟩;rw[j] at this;cases this
theorem Dx.HG{t:Tab (List Attr)}{f:Value->Option Value}(h:Dx t f){i:Nat}{p:Ent (List Attr)}(hp:t.places[i]?=.some p)(h0:0<p.held){n:Nat}(I:0<n):Dx (t.HG i ⟨p.set,n⟩) f:=by
 intro s v;rw[h s v];have E:=(List.getElem?_eq_some_iff.1 hp).1;constructor
 .rintro⟨j,q,h1,B,x,y⟩;by_cases e:j=i
  .subst e;rw[hp] at h1;cases h1;exact⟨j,⟨p.set,n⟩,by show(t.places.set j _)[j]?=_;rw[List.getElem?_set_self E],I,x,y⟩
  .exact⟨j,q,by show(t.places.set i _)[j]?=_;rw[List.getElem?_set_ne (Ne.symm e)];exact h1,B,x,y⟩
 .rintro⟨j,q,h1,B,x,y⟩;have o:(t.places.set i ⟨p.set,n⟩)[j]?=.some q:=h1;by_cases e:j=i
  .subst e;rw[List.getElem?_set_self E] at o;cases o;exact⟨j,p,hp,h0,x,y⟩
  .rw[List.getElem?_set_ne (Ne.symm e)] at o;exact⟨j,q,o,B,x,y⟩
open Classical in
theorem Dx.put{K:List Attr->Prop}{t:Tab (List Attr)}{f:Value->Option Value}(h:Dx t f)(I:t.Inv (Ox K)){s:List Attr}(J:Ox K s)(O:f (.string (EF s))=Option.none) :
  Dx (t.put s).2 (fun Q=>if Q=.string (EF s) then Option.some (.int .i64 (((t.put s).1:Int)+1)) else f Q):=by
 obtain⟨_,h1,U,S,_⟩:=Tab.FF I J (h.none O);intro T v;simp only[Value.string.injEq];constructor
 .intro E;split at E
  .rename_i e;subst e;cases E;exact⟨_,_,h1,Nat.one_pos,rfl,rfl⟩
  .obtain⟨j,p,i,x,o,y⟩:=(h T v).1 E;have B:j≠(t.put s).1:=by
    rintro rfl;have:=U p i;omega
   exact⟨j,p,(S j B).trans i,x,o,y⟩
 .rintro⟨j,p,i,x,o,y⟩;by_cases B:j=(t.put s).1
  .subst B;rw[h1] at i;cases i;rw[if_pos o,y]
  .rw[S j B] at i;rw[if_neg]
   .exact(h T v).2 ⟨j,p,i,x,o,y⟩
   .intro e;rw[e] at o;exact h.none O j p i x (IA (I.ok j p i x).2.1 J.2.1 o.symm)
open Classical in
theorem Dx.drop{K:List Attr->Prop}{t:Tab (List Attr)}{f:Value->Option Value}(h:Dx t f)(O:t.Inv (Ox K)){i:Nat}{p:Ent (List Attr)}(hp:t.places[i]?=.some p)(h0:0<p.held) :
  Dx (t.drop [] i) (fun U=>if U=.string (EF p.set) then Option.none else f U):=by
 have Q:=(List.getElem?_eq_some_iff.1 hp).1;have y:(t.places.set i ⟨[],0⟩)[i]?=.some ⟨[],0⟩:=List.getElem?_set_self Q;have x:∀j:Nat,j≠i->(t.places.set i (⟨[],0⟩:Ent (List Attr)))[j]?=t.places[j]?:=fun j B=>List.getElem?_set_ne (Ne.symm B);intro V v;simp only[Value.string.injEq];constructor
 .intro S;split at S
  .cases S
  .rename_i e;obtain⟨j,q,J,E,I,T⟩:=(h V v).1 S;have B:j≠i:=by
    rintro rfl;rw[hp] at J;cases J;exact e I
   exact⟨j,q,(x j B).trans J,E,I,T⟩
 .rintro⟨j,q,J,E,I,T⟩;have o:(t.places.set i (⟨[],0⟩:Ent (List Attr)))[j]?=.some q:=J;by_cases B:j=i
  .subst B;rw[y] at o;cases o;exact absurd E (Nat.lt_irrefl _)
  .rw[x j B] at o;rw[if_neg]
   .exact(h V v).2 ⟨j,q,o,E,I,T⟩
   .intro e;rw[e] at I;exact B (O.Gy j i q p o hp E h0 (IA (O.ok j q o E).2.1 (O.ok i p hp h0).2.1 I.symm))
theorem Dx.z:Dx (Tab.z _) (fun _=>Option.none):=fun s v=>by simp[Tab.z]
end Go.Proofs.YtmdhibffnkhcnaaGreatDoor
namespace Go.K
open Go
def Oq(w:World)(r:Nat):Nat:=match w.heap[r]? with|some (.stringIter _ p)=>p|_=>0
theorem Mq{P:Program}{w:World}{r:Nat}{s:ByteArray}{pos:Nat}{ty:TypeId}(h:w.heap[r]?=some (.stringIter s pos))(hp:pos<s.size) :
  (Instr.next (.pointer (some ⟨r,0,none⟩)) true ty).run P w=.ok (.tuple #[.bool true,.int .i64 pos,.int .i32 (Utf8.decode s pos).1]) { w with heap:=w.heap.setIfInBounds r (.stringIter s (pos+(Utf8.decode s pos).2)) }:=by
 simp only[Instr.next,getObj,setObj,Sem.run_bind,Sem.run,h,Result.andThen,hp,if_true];simp[goInt]
theorem Ll{P:Program}{w:World}{r:Nat}{s:ByteArray}{pos:Nat}{ty:TypeId}(h:w.heap[r]?=some (.stringIter s pos))(hp:¬pos<s.size) :
  (Instr.next (.pointer (some ⟨r,0,none⟩)) true ty).run P w=.ok (.tuple #[.bool false]) w:=by
 simp only[Instr.next,getObj,Sem.run_bind,Sem.run,h,Result.andThen,hp,if_false];rfl
theorem Mod.setObj(w:World)(r:Nat)(o o':Obj)(h:w.heap[r]?=some o):Mod (fun b=>b=r) w { w with heap:=w.heap.setIfInBounds r o' }:=
 ⟨rfl,rfl,rfl,by simp,fun x _ i=>(MapKept.heap_set h).2 x i⟩
end Go.K
namespace Go.Proofs.YtmdhibffnkhcnaaGreatDoor
open Go Go.K Proofs.Tryz
theorem Qd{S:Nat->Prop}{v:Value}{b:List Int}{w:World}(h:Ci S w v b)(hb:Bk b):(convert 293 9 v).run prog w=.ok (.string (strOf b)) w:=by
 obtain⟨a,c,rfl,hm⟩:=h.shape;cases a with
 |none=>
  have:b=[]:=by
   cases b with
   |nil=>rfl
   |cons x b=>obtain⟨p,r,e,_⟩:=h.get (i:=0) (by simp);cases e
  subst this;exact run_convert_bytes_nil w 293 5 (by kernel_rfl) (by kernel_rfl) _ _ _ (by kernel_rfl)
 |some p=>
  have hl:(b.map fun x=>UInt8.ofNat x.toNat).length=b.length:=by simp
  have:=run_convert_bytes_back (P:=prog) w 293 9 5 p c (b.map fun x=>UInt8.ofNat x.toNat) (by kernel_rfl) (by kernel_rfl) (by kernel_rfl) (fun j o=>by
   rw[hl] at o;obtain⟨_,r,e,_,hr,hc,rfl⟩:=h.get o;cases e;have:=hc 0 _ rfl;rw[Nat.mul_one,Nat.add_zero] at this;rw[this];have y:=hb b[j] (List.getElem_mem o);simp only[List.getElem_map,UInt8.toNat_ofNat'];congr 2
   omega)
  rw[hl] at this;exact this
theorem Ng{s:ByteArray}{pos:Nat}{r:Int}{n:Nat}(hp:pos<s.size)(h:CW ((Bj s).drop pos)=(r,n))(J:n≠0):((Utf8.decode s pos).1:Int)=r/\(Utf8.decode s pos).2=n:=by
 have o:∀k c,((Bj s).drop pos)[k]?=some c->pos+k<s.size/\(((s.get! (pos+k)).toNat:Nat):Int)=c:=by
  intro k c hc;rw[List.getElem?_drop] at hc;have Q:pos+k<s.size:=by
   have:=(List.getElem?_eq_some_iff.1 hc).1;rwa [Cq] at this
  refine⟨Q,?_⟩;have hg:s.get! (pos+k)=s[pos+k]'Q:=by
   simp[ByteArray.get!,getElem!_pos,Q];rfl
  rw[hg];simp only[Bj,List.getElem?_map] at hc;have X:pos+k<s.data.toList.length:=by simpa using Q
  rw[List.getElem?_eq_getElem X] at hc;have:=Option.some.inj hc;exact this
 have S:Bk ((Bj s).drop pos):=fun x hx=>by
  have:=List.mem_of_mem_drop hx;simp only[Bj,List.mem_map] at this;obtain⟨b,_,rfl⟩:=this;have:=b.toNat_lt;omega
 have Y:((Bj s).drop pos).length≠0:=by rw[List.length_drop,Cq];omega
 generalize (Bj s).drop pos=l at h o S Y;obtain⟨i,t,rfl⟩:∃x t,l=x::t:=by cases l with|nil=>simp at Y|cons x t=>exact⟨x,t,rfl⟩
 obtain⟨_,e0⟩:=o 0 i rfl;have h0:=S i List.mem_cons_self;generalize T:(s.get! (pos+0)).toNat=O at e0;by_cases ha:i<128
 .rw[KH h0.1 ha] at h;cases h;simp only[Utf8.decode,T];rw[if_pos (by omega)];exact⟨e0,rfl⟩
 rcases Oc i with j|j|j|j
 .rw[OD S (by omega) j] at h;cases h;exact absurd rfl J
 .cases t with
  |nil=>rw[Ct h0.2 (by rw[j];simp)] at h;cases h;exact absurd rfl J
  |cons c1 t=>
   have h1:=S c1 (by simp);obtain⟨l1,Z⟩:=o 1 c1 rfl;generalize I:(s.get! (pos+1)).toNat=E at Z;rw[VU j h1.1 h1.2] at h;split at h
   .rename_i hc;cases h;have a1:194<=i/\i<224:=by
     unfold CG at j
     (repeat' split at j)<;>omega
    have y:128<=IK i:=by
     unfold IK;split
     .decide
     .split<;>decide
    have B:Hu i<=191:=by
     unfold Hu;split
     .decide
     .split<;>decide
    have q1:(O/32==6&&(decide (pos+1<s.size)&&E/64==2))=true:=by
     simp only[Bool.and_eq_true,beq_iff_eq,decide_eq_true_eq];exact⟨by omega,l1,by omega⟩
    simp only[Utf8.decode,T,I];rw[if_neg (by omega),if_pos q1,if_pos (by omega)];exact⟨by omega,rfl⟩
   .cases h;exact absurd rfl J
 .rcases t with _|⟨c1,_|⟨c2,t⟩⟩
  .rw[Ct h0.2 (by rw[j];simp)] at h;cases h;exact absurd rfl J
  .rw[Ct h0.2 (by rw[j];simp)] at h;cases h;exact absurd rfl J
  .have h1:=S c1 (by simp);have h2:=S c2 (by simp);obtain⟨l1,Z⟩:=o 1 c1 rfl;obtain⟨l2,e2⟩:=o 2 c2 rfl;generalize I:(s.get! (pos+1)).toNat=E at Z;generalize V:(s.get! (pos+2)).toNat=U at e2;rw[U5 j h1.1 h1.2 h2.1 h2.2] at h;split at h
   .rename_i hc;cases h;have a1:224<=i/\i<240:=by
     unfold CG at j
     (repeat' split at j)<;>omega
    have y:(if i=224 then(160:Int) else 128)<=c1:=by
     refine Int.le_trans ?_ hc.1.1;unfold IK;split
     .decide
     .split<;>decide
    have B:c1<=(if i=237 then(159:Int) else 191):=by
     refine Int.le_trans hc.1.2 ?_;unfold Hu;split
     .decide
     .split<;>decide
    have a6:128<=c1:=by split at y<;>omega
    have a7:c1<=191:=by split at B<;>omega
    have q1:¬(O/32==6&&(decide (pos+1<s.size)&&E/64==2))=true:=by
     simp only[Bool.and_eq_true,beq_iff_eq,decide_eq_true_eq];rintro⟨x,_⟩;omega
    have q2:(O/16==14&&(decide (pos+1<s.size)&&E/64==2)&&(decide (pos+2<s.size)&&U/64==2))=true:=by
     simp only[Bool.and_eq_true,beq_iff_eq,decide_eq_true_eq];exact⟨⟨by omega,l1,by omega⟩,l2,by omega⟩
    have q3:(decide (O%16*4096+E%64*64+U%64 ≥ 2048)&&Utf8.valid ((O%16*4096+E%64*64+U%64:Nat):Int))=true:=by
     simp only[Utf8.valid,Bool.and_eq_true,Bool.or_eq_true,decide_eq_true_eq];refine⟨by split at y<;>omega,?_⟩;split at B
     .left;omega
     .by_cases hb:i<237
      .left;omega
      .right;omega
    simp only[Utf8.decode,T,I,V];rw[if_neg (by omega),if_neg q1,if_pos q2,if_pos q3];exact⟨by omega,rfl⟩
   .cases h;exact absurd rfl J
 .rcases t with _|⟨c1,_|⟨c2,_|⟨c3,t⟩⟩⟩
  .rw[Ct h0.2 (by rw[j];simp)] at h;cases h;exact absurd rfl J
  .rw[Ct h0.2 (by rw[j];simp)] at h;cases h;exact absurd rfl J
  .rw[Ct h0.2 (by rw[j];simp)] at h;cases h;exact absurd rfl J
  .have h1:=S c1 (by simp);have h2:=S c2 (by simp);have h3:=S c3 (by simp);obtain⟨l1,Z⟩:=o 1 c1 rfl;obtain⟨l2,e2⟩:=o 2 c2 rfl;obtain⟨l3,e3⟩:=o 3 c3 rfl;generalize I:(s.get! (pos+1)).toNat=E at Z;generalize V:(s.get! (pos+2)).toNat=U at e2;generalize a8:(s.get! (pos+3)).toNat=m3 at e3;rw[Uj j h1.1 h1.2 h2.1 h2.2 h3.1 h3.2] at h;split at h
   .rename_i hc;cases h;have a1:240<=i/\i<245:=by
     unfold CG at j
     (repeat' split at j)<;>omega
    have y:(if i=240 then(144:Int) else 128)<=c1:=by
     refine Int.le_trans ?_ hc.1.1;unfold IK;rw[if_neg (show ¬i=224 by omega)];exact Int.le_refl _
    have B:c1<=(if i=244 then(143:Int) else 191):=by
     refine Int.le_trans hc.1.2 ?_;unfold Hu;rw[if_neg (show ¬i=237 by omega)];exact Int.le_refl _
    have a6:128<=c1:=by split at y<;>omega
    have a7:c1<=191:=by split at B<;>omega
    have q1:¬(O/32==6&&(decide (pos+1<s.size)&&E/64==2))=true:=by
     simp only[Bool.and_eq_true,beq_iff_eq,decide_eq_true_eq];rintro⟨x,_⟩;omega
    have q2:¬(O/16==14&&(decide (pos+1<s.size)&&E/64==2)&&(decide (pos+2<s.size)&&U/64==2))=true:=by
     simp only[Bool.and_eq_true,beq_iff_eq,decide_eq_true_eq];rintro⟨⟨x,_⟩,_⟩;omega
    have q3:(O/8==30&&(decide (pos+1<s.size)&&E/64==2)&&(decide (pos+2<s.size)&&U/64==2)&&(decide (pos+3<s.size)&&m3/64==2))=true:=by
     simp only[Bool.and_eq_true,beq_iff_eq,decide_eq_true_eq];exact⟨⟨⟨by omega,l1,by omega⟩,l2,by omega⟩,l3,by omega⟩
    have q4:(decide (O%8*262144+E%64*4096+U%64*64+m3%64 ≥ 65536)&&Utf8.valid ((O%8*262144+E%64*4096+U%64*64+m3%64:Nat):Int))=true:=by
     simp only[Utf8.valid,Bool.and_eq_true,Bool.or_eq_true,decide_eq_true_eq];refine⟨by split at y<;>omega,?_⟩;right;split at B<;>omega
    simp only[Utf8.decode,T,I,V,a8];rw[if_neg (by omega),if_neg q1,if_neg q2,if_pos q3,if_pos q4];exact⟨by omega,rfl⟩
   .cases h;exact absurd rfl J
theorem Ud{S:Nat->Prop}{v:Value}{b:List Int}{w:World}(h:Ci S w v b)(hb:Bk b)(hT:ET w)(hl:b.length*4<=140737488355328) :
  AB prog 286 [v] (fun v' w'=>Grow w w'/\match Bi b with
   |some l=>∃sl,v'=.tuple #[sl,.int .i64 0]/\AF w.heap.size 21 1 CI w' sl l
   | none=>v'=.tuple #[.slice none 0 0,.int .i64 3]) w:=by
 apply Vu;refine AA (Tx h hb hT) ?_;rintro _ I ⟨rfl,X⟩;rw[Aq];cases hr:Bi b with
 |none=>exact Ao ⟨X,rfl⟩
 |some rs=>
  refine AT (Ai (Qd (h.grow X (by decide) fun _ _ h=>h) hb) ?_);have Y:Bj (strOf b)=b:=Gb hb;have Z:(strOf b).size=b.length:=by rw[<-Cq,Y]
  generalize strOf b=s at Y Z;refine Ai (run_range_string I 9 s (by kernel_rfl)) ?_;have hit:=World.iter_heap I s 0;have g2:Grow I (I.iter s 0):=Mod.alloc _ _ _;have an:=X.size;generalize I.iter s 0=w2 at hit g2;generalize av:I.heap.size=r at hit;have ax:w.heap.size<=r:=by omega
  refine Ae (fun vs W=>∃(pos:Nat) (J:Value) (acc:List Int),pos<=b.length/\acc.length<=pos/\vs=[J]/\W.heap[r]?=some (.stringIter s pos)/\AF w.heap.size 21 1 CI W J acc/\J.ownBlock≠some r/\Grow w W/\Bi b=(Bi (b.drop pos)).map (acc++·)) (fun _ W=>b.length-Oq W r)
   ⟨0,_,[],Nat.zero_le _,Nat.le_refl _,rfl,hit,AF.nil,(fun h=>nomatch h),X.trans g2,by simp⟩ ?_
  rintro vs W ⟨pos,J,acc,a8,ak,rfl,O,ho,y,gW,i⟩ _;have o:Oq W r=pos:=by simp[Oq,O]
  by_cases B:pos<s.size
  .have al:pos<b.length:=by omega
   have a1:b.drop pos≠[]:=by intro e;have:=congrArg List.length e;simp at this;omega
   have E:=SM (b.drop pos);rw[List.length_drop] at E;rw[LO a1] at i;have a6:∃q n,CW (b.drop pos)=(q,n):=⟨_,_,rfl⟩;obtain⟨q,n,hq⟩:=a6;rw[hq] at i E;simp only at i E;have hn:n≠0:=by
    intro e;rw[if_pos e,hr] at i;cases i
   rw[if_neg hn] at i;obtain⟨d1,d2⟩:=Ng (s:=s) B (by rw[Y];exact hq) hn;refine Ai (Mq O B) ?_;rw[d1,d2];refine B0 (vs:=[_,_,_]) (by rfl) (Ao (B0 (vs:=[_,_,_]) (by rfl) ?_));have m3:=Mod.setObj W r _ (.stringIter s (pos+n)) O;have a7:=(MapKept.heap_set (o':=.stringIter s (pos+n)) O).1;have j:({ W with heap:=W.heap.setIfInBounds r (.stringIter s (pos+n)) }:World).heap[r]?=some (.stringIter s (pos+n)):=a7;generalize ({ W with heap:=W.heap.setIfInBounds r (.stringIter s (pos+n)) }:World)=W3 at m3 j;have Q:AF w.heap.size 21 1 CI W3 J acc:=AF.mod ho m3 (fun g hg e=>y (e▸hg)) fun _ _ _ h=>h;have T:Grow w W3:=gW.next m3 fun x hx e=>by omega
   show Bh _ _ _ _ [(0,.int .i32 q)] _ _;refine DO JU Q T.size (cs:=[.int .i32 q]) (x:=q) (by kernel_rfl) rfl rfl (fun _ _ _=>CI.one) (fun _ _ _ _ _ _ h=>h) (by omega) (by simp only[maxLen];omega) fun v' w' h1 h2 h3=>?_;have U:r<W3.heap.size:=(Array.getElem?_eq_some_iff.1 j).1;have V:w'.heap[r]?=some (.stringIter s (pos+n)):=(h2.same r U y).trans j;refine⟨⟨pos+n,v',acc++[q],by omega,by simp;omega,rfl,V,h1,fun e=>?_,T.next h2 fun x hx e=>?_,?_⟩,?_⟩
   .rcases h3 r e with e|e
    .exact y e
    .omega
   .have:=(AF.BL Q x e).1;omega
   .rw[i,List.drop_drop];cases Bi (b.drop (pos+n))<;>simp
   .rw[o];have:Oq w' r=pos+n:=by simp[Oq,V]
    rw[this];omega
  .refine Ai (Ll O B) ?_;refine B0 (vs:=[_]) (by rfl) (AT ?_);have:pos=b.length:=by omega
   subst this;rw[List.drop_length,L8,hr] at i;simp only[Option.map_some,Option.some.injEq,List.append_nil] at i;subst i;exact⟨gW,J,rfl,ho⟩
theorem VF{n:Nat}{w:World}:(callFunc 285 #[.float .f64 n]).run prog w=.ok (.value (.int .u64 n)) w:=by
 have h:prog.funcs[285]?=some Tryz.f285:=func285
 have e0 : (Tryz.f285.name == "runtime.NumGoroutine") = false := by kernel_rfl
 have i:Tryz.f285.body.isNone=true:=by kernel_rfl
 have j:Extern.findNext Tryz.f285=none:=by kernel_rfl
 have o:Extern.find Tryz.f285=some Extern.MathFloatBits.float64bits:=by kernel_rfl
 simp only[callFunc,program,mark,Sem.run_bind,Sem.run,Result.andThen,h,e0,i,j,o,Bool.false_eq_true,if_false,if_true];rfl
theorem TQ{n:Int}{w:World}:(callFunc 257 #[.int .u64 n]).run prog w=.ok (.value (.float .f64 n.toNat)) w:=by
 have h:prog.funcs[257]?=some Tryz.f257:=func257
 have e0 : (Tryz.f257.name == "runtime.NumGoroutine") = false := by kernel_rfl
 have i:Tryz.f257.body.isNone=true:=by kernel_rfl
 have j:Extern.findNext Tryz.f257=none:=by kernel_rfl
 have o:Extern.find Tryz.f257=some Extern.MathFloatBits.float64frombits:=by kernel_rfl
 simp only[callFunc,program,mark,Sem.run_bind,Sem.run,Result.andThen,h,e0,i,j,o,Bool.false_eq_true,if_false,if_true];rfl
theorem Sw{n:Nat}{w:World}:AB prog 284 [.float .f64 n] (fun v w'=>v=.bool (decide (FV (n:Int)))/\w'=w) w:=by
 apply XJ;refine Ai (v:=.bool (decide (FV (n:Int)))) (w':=w) ?_ ⟨rfl,rfl⟩;rw[<-Pg];simp[BZ,eqGuard,binOp,Op.floatCmp]
theorem Xx{b:Bool}{w:World}:AB prog 254 [.bool b] (fun v w'=>v=.agg (⟨1,if b then 1 else 0,0,FY⟩:BE).cells.toArray/\Grow w w') w:=by
 apply Xy;refine EE fun V w1 X Y Z _ B=>?_;refine⟨(⟨1,0,0,FY⟩:BE).cells.toArray,by kernel_rfl,?_⟩;refine BO (vs:=(⟨1,0,0,FY⟩:BE).cells) rfl rfl (BE.one _) fun y w2 a1 a6 Q E I=>?_;have J:=Z.trans Q;cases b with
 |true=>
  refine Ao ?_;rw[AG];refine(I 1 (by decide)).st rfl rfl ?_;rw[AI];have m:=Mod.setCell (M:=fun x=>x=y) w2 ⟨y,1,none⟩ (.int .i64 1) rfl;have hc:∀j u,(⟨1,1,0,FY⟩:BE).cells[j]?=some u->(w2.setCell ⟨y,1,none⟩ (.int .i64 1)).cell? ((⟨y,0,none⟩:Addr).add j)=some u:=by
   intro j u hu;rw[AI];by_cases e:j=1
   .subst e;have h1:=(I 1 (by decide)).1;rw[AI] at h1;obtain⟨u',S⟩:=Option.isSome_iff_exists.1 h1;cases hu;exact World.cell?_setCell_same _ _ _ S
   .rw [World.cell?_setCell_other _ _ _ _ (fun e'=>by simp only [Addr.mk.injEq] at e';exact e e'.2.1.symm)];have:=E j u (by
     rcases j with _|_|_|_|j
     .exact hu
     .exact absurd rfl e
     .exact hu
     .exact hu
     .exact hu)
    rwa [AI] at this
  have i:=fun j O=>((B j O).mod Q fun h=>h).mod m (fun e=>by rw[AI] at e;have:V=y:=e;omega);generalize w2.setCell ⟨y,1,none⟩ (.int .i64 1)=w3 at m hc i ⊢;refine Ah (vs:=(⟨1,1,0,FY⟩:BE).cells) rfl hc ?_;refine CT rfl (BE.one _) (fun j O=>i j O) fun w4 T o _=>?_;refine Ah (vs:=(⟨1,1,0,FY⟩:BE).cells) rfl o ⟨rfl,?_⟩;exact(J.next m fun x U e=>by omega).next T fun x U e=>by omega
 |false=>
  refine AT ?_;refine Ah (vs:=(⟨1,0,0,FY⟩:BE).cells) rfl E ?_;refine CT rfl (BE.one _) (fun j O=>(B j O).mod Q fun h=>h) fun w4 T o _=>?_;refine Ah (vs:=(⟨1,0,0,FY⟩:BE).cells) rfl o ⟨rfl,?_⟩;exact J.next T fun x U e=>by omega
theorem aB{n:Int}{w:World}:AB prog 255 [.int .i64 n] (fun v w'=>v=.agg (⟨2,n,0,FY⟩:BE).cells.toArray/\Grow w w') w:=by
 apply YB;refine EE fun O Q y B E _ i=>?_;refine⟨(⟨2,n,0,FY⟩:BE).cells.toArray,by kernel_rfl,?_⟩;refine CT rfl (BE.one _) (fun j I=>i j I) fun w4 J o _=>?_;refine Ah (vs:=(⟨2,n,0,FY⟩:BE).cells) rfl o ⟨rfl,?_⟩;exact E.next J fun x S e=>by omega
theorem UU{n:Nat}{w:World}:AB prog 256 [.float .f64 n] (fun v w'=>v=.agg (⟨3,0,if FV (n:Int) then 9221120237041090560 else n,FY⟩:BE).cells.toArray/\Grow w w') w:=by
 apply Vb;refine EE fun T J O Q I _ o=>?_;refine AA Sw ?_;rintro _ _ ⟨rfl,rfl⟩;rename World=>J
 by_cases y:FV (n:Int)
 .rw[decide_eq_true y];refine Ao ⟨(⟨3,0,9221120237041090560,FY⟩:BE).cells.toArray,by kernel_rfl,?_⟩;refine CT rfl (BE.one _) (fun j B=>o j B) fun w4 E i _=>?_;refine Ah (vs:=(⟨3,0,9221120237041090560,FY⟩:BE).cells) rfl i ⟨by rw[if_pos y],?_⟩;exact I.next E fun x S e=>by omega
 .rw[decide_eq_false y];refine AT ⟨_,_,VF,?_⟩;refine⟨(⟨3,0,(n:Int),FY⟩:BE).cells.toArray,by kernel_rfl,?_⟩;refine CT rfl (BE.one _) (fun j B=>o j B) fun w4 E i _=>?_;refine Ah (vs:=(⟨3,0,(n:Int),FY⟩:BE).cells) rfl i ⟨by rw[if_neg y],?_⟩;exact I.next E fun x S e=>by omega
def MM(s:ByteArray):Prop:=s.size<=64/\(Bi (Bj s)).isSome=true
instance (s:ByteArray):Decidable (MM s):=by unfold MM;infer_instance
theorem Oh(s:ByteArray):Bk (Bj s):=fun x i=>by
 simp only[Bj,List.mem_map] at i;obtain⟨b,_,rfl⟩:=i;have:=b.toNat_lt;omega
theorem WB{s:ByteArray}{w:World}(hT:ET w):AB prog 258 [.string s] (fun v w'=>v=(if MM s then .tuple #[.agg (⟨4,0,0,s⟩:BE).cells.toArray,.int .i64 0] else .tuple #[.agg (⟨0,0,0,FY⟩:BE).cells.toArray,.int .i64 3])/\Grow w w') w:=by
 apply XO;refine EE fun T w1 a1 a6 U _ y=>?_;rw[J0,BK];refine AE (fun V=>?_) fun a7=>?_
 .refine⟨(⟨0,0,0,FY⟩:BE).cells.toArray,by kernel_rfl,?_⟩;refine CT rfl (BE.one _) (fun j i=>y j i) fun w4 m4 J _=>?_;refine Ah (vs:=(⟨0,0,0,FY⟩:BE).cells) rfl J ⟨by rw[if_neg (fun h=>by have:=h.1;omega)],?_⟩;exact U.next m4 fun x X e=>by omega
 .refine NW (by omega) fun v3 w3 Y O=>?_;have B:=U.trans Y;have Q:∀j,j<4->Live w3 ((⟨T,0,none⟩:Addr).add j):=fun j i=>(y j i).mod Y fun h=>h;refine AA (Ud O (Oh s) (hT.grow B) (by rw[Cq];omega)) ?_;rintro v5 w5 ⟨Z,hm⟩;have E:∀j,j<4->Live w5 ((⟨T,0,none⟩:Addr).add j):=fun j i=>(Q j i).mod Z fun h=>h;have I:=B.trans Z;cases hr:Bi (Bj s) with
  |none=>
   rw[hr] at hm;subst hm;refine BM ?_;rw[Br];refine Ab (fun e=>by cases e) fun _=>?_;refine⟨(⟨0,0,0,FY⟩:BE).cells.toArray,by kernel_rfl,?_⟩;refine CT rfl (BE.one _) (fun j i=>E j i) fun w6 S o _=>?_;refine Ah (vs:=(⟨0,0,0,FY⟩:BE).cells) rfl o ⟨by rw[if_neg (fun h=>by have:=h.2;rw[hr] at this;cases this)],?_⟩;exact I.next S fun x X e=>by omega
  |some l=>
   rw[hr] at hm;obtain⟨sl,rfl,_⟩:=hm;refine BM ?_;refine LQ ?_;refine⟨(⟨4,0,0,s⟩:BE).cells.toArray,by kernel_rfl,?_⟩;refine CT rfl (BE.one _) (fun j i=>E j i) fun w6 S o _=>?_;refine Ah (vs:=(⟨4,0,0,s⟩:BE).cells) rfl o ⟨by rw[if_pos ⟨by omega,by rw[hr];rfl⟩],?_⟩;exact I.next S fun x X e=>by omega
theorem Ma{v:BE}{w:World}(Y:ET w)(h0:0<=v.f) :
  AB prog 208 [.agg v.cells.toArray] (fun v' w'=>v'=.bool (decide (DK v))/\Grow w w') w:=by
 apply XD;refine Da fun b Q _ hz g hc _=>?_;have Z:=hc 0 _ rfl;have l1:=hc 1 _ rfl;have l2:=hc 2 _ rfl;have l3:=hc 3 _ rfl;have key:∀(b:Bool) w',Grow w w'->(b=true↔DK v)->Value.bool b=.bool (decide (DK v))/\Grow w w':=fun b w' g h=>⟨by congr 1;rw[Bool.eq_iff_iff,h,decide_eq_true_eq],g⟩;have X:∀w',Grow w w'->¬DK v->Value.bool false=.bool (decide (DK v))/\Grow w w':=fun w' g h=>key false w' g (by simp only[Bool.false_eq_true,false_iff];exact h);have o:∀j u,v.cells[j]?=some u->Q.cell? ((⟨b,0,none⟩:Addr).add j)=some u:=hc;simp only[AG];refine AL Z ?_;rw[Am];refine AE (fun k1=>?_) fun k1=>?_
 .refine CZ (fun w2=>Grow Q w2) (Mod.drew _ _) ?_;refine Gl (vs:=v.cells) rfl (fun w2 i j u hu=>i.cell (o j u hu) fun h=>h) (Ar (fun w2 i=>i.cell l1 fun h=>h) ?_);rw[Am];refine⟨_,fun w2 i=>AA Xx (by rintro _ E ⟨rfl,y⟩;exact⟨rfl,i.trans y⟩),?_⟩;refine⟨_,fun w2 _=>Gi _ _ v ⟨1,if decide (v.n=1) then 1 else 0,0,FY⟩ w2,?_⟩;intro E y;refine key _ _ (g.trans y) ?_;rw[decide_eq_true_eq];constructor
  .intro e;refine .inl ⟨k1,?_,?_⟩
   .by_cases h1:v.n=1
    .rw[h1];simpa[h1] using e
    .have en:v.n=0:=by rw[e];simp[h1]
     rw[en];simpa[h1] using e
   .by_cases h1:v.n=1
    .exact .inr h1
    .left;rw[e];simp[h1]
  .rintro(h|h|h|h)
   .obtain⟨_,e,B⟩:=h;rcases B with B|B
    .rw[B] at e ⊢;exact e
    .rw[B] at e ⊢;exact e
   .omega
   .omega
   .omega
 rw[Am];refine AE (fun k2=>?_) fun k2=>?_
 .refine CZ (fun w2=>Grow Q w2) (Mod.drew _ _) ?_;refine Gl (vs:=v.cells) rfl (fun w2 i j u hu=>i.cell (o j u hu) fun h=>h) (Ar (fun w2 i=>i.cell l1 fun h=>h) ?_);refine⟨_,fun w2 i=>AA aB (by rintro _ E ⟨rfl,y⟩;exact⟨rfl,i.trans y⟩),?_⟩;refine⟨_,fun w2 _=>Gi _ _ v ⟨2,v.n,0,FY⟩ w2,?_⟩;intro E y;refine key _ _ (g.trans y) ?_;rw[decide_eq_true_eq];refine⟨fun h=>.inr (.inl ⟨k2,h⟩),fun h=>?_⟩;rcases h with h|h|h|h
  .omega
  .exact h.2
  .omega
  .omega
 rw[Am];refine AE (fun T=>?_) fun T=>?_
 .refine CZ (fun w2=>Grow Q w2) (Mod.drew _ _) ?_;refine Gl (vs:=v.cells) rfl (fun w2 i j u hu=>i.cell (o j u hu) fun h=>h) (Ar (fun w2 i=>i.cell l2 fun h=>h) ?_);refine⟨_,fun w2 _=>TQ,?_⟩;refine⟨_,fun w2 i=>AA UU (by rintro _ E ⟨rfl,y⟩;exact⟨rfl,i.trans y⟩),?_⟩;refine⟨_,fun w2 _=>Gi _ _ v _ w2,?_⟩;intro E y;refine key _ _ (g.trans y) ?_;have ef:((v.f.toNat:Nat):Int)=v.f:=by omega
  rw[decide_eq_true_eq,ef];constructor
  .intro e;refine .inr (.inr (.inl ⟨T,?_,?_⟩))
   .by_cases B:FV v.f
    .rw[if_pos B] at e;have e2:v.f=9221120237041090560:=congrArg BE.f e;rw[e2];exact e
    .rw[if_neg B] at e;exact e
   .by_cases B:FV v.f
    .rw[if_pos B] at e;exact .inr (congrArg BE.f e)
    .exact .inl B
  .rintro(h|h|h|h)
   .omega
   .omega
   .obtain⟨_,e,B⟩:=h;by_cases U:FV v.f
    .rw[if_pos U];rw[B.resolve_left fun x=>x U] at e;exact e
    .rw[if_neg U];exact e
   .omega
 rw[Am];refine AE (fun V=>?_) fun V=>X _ g ?_
 .refine AL l3 (AA (WB (Y.grow g)) ?_);rintro v3 E ⟨rfl,y⟩;have I:=g.trans y;by_cases J:MM v.s
  .rw[if_pos J];refine BM ?_;refine BO (vs:=(⟨4,0,0,v.s⟩:BE).cells) rfl rfl (BE.one _) fun b4 w4 _ _ S O _=>?_;rw[Am];refine AE (fun _=>?_) fun e=>(e rfl).elim;refine Ah (vs:=v.cells) rfl (fun j u hu=>(y.trans S).cell (o j u hu) fun h=>h) ?_;refine Ah (vs:=(⟨4,0,0,v.s⟩:BE).cells) rfl O (Ai (Gi _ _ v ⟨4,0,0,v.s⟩ w4) ?_);refine key _ _ (I.trans S) ?_;rw[decide_eq_true_eq];refine⟨fun e=>.inr (.inr (.inr ⟨V,e,J.1,J.2⟩)),fun h=>?_⟩;rcases h with h|h|h|h
   .omega
   .omega
   .omega
   .exact h.2.1
  .rw[if_neg J];refine BM ?_;refine BO (vs:=(⟨0,0,0,FY⟩:BE).cells) rfl rfl (BE.one _) fun b4 w4 _ _ S O _=>?_;rw[Am];refine AE (fun e=>by cases e) fun _=>X _ (I.trans S) ?_;rintro(h|h|h|h)
   .omega
   .omega
   .omega
   .exact J ⟨h.2.2.1,h.2.2.2⟩
 .rintro(h|h|h|h)
  .exact k1 h.1
  .exact k2 h.1
  .exact T h.1
  .exact V h.1
end Go.Proofs.YtmdhibffnkhcnaaGreatDoor
namespace Go.K
open Go
section
variable {α:Type}[Inhabited α]
theorem Ij(enc:α->List Value)(k:Nat)(hk:∀x,(enc x).length=k)(d:Array α):(Sort.flatK enc k d).toList=(d.toList.map enc).flatten:=by
 refine List.ext_getElem? fun t=>?_;have hl:∀r∈d.toList.map enc,r.length=k:=fun r hr=>by obtain⟨x,_,rfl⟩:=List.mem_map.1 hr;exact hk x
 have y:(d.toList.map enc).flatten.length=d.size*k:=by rw[Ea _ hl,List.length_map,Array.length_toList]
 by_cases ht:t<d.size*k
 .have i:0<k:=by
   rcases Nat.eq_zero_or_pos k with h|h
   .subst h;simp at ht
   .exact h
  have B:t/k<d.size:=(Nat.div_lt_iff_lt_mul i).2 ht;have h1:=Sort.get_flatK enc k d t ht;have E:(Sort.flatK enc k d).toList[t]?=some (Sort.flatK enc k d)[t]!:=by
   have j:t<(Sort.flatK enc k d).size:=by simpa using ht
   rw[Array.getElem?_toList,Array.getElem?_eq_getElem j,getElem!_pos _ t j]
  rw[E,h1];have o:=G5 (d.toList.map enc) (t/k) (t%k) (enc d[t/k]!) hl (by simp[B]) (Nat.mod_lt _ i);rw[Nat.div_add_mod' t k] at o;rw[o];have hm:t%k<(enc d[t/k]!).length:=by rw[hk];exact Nat.mod_lt _ i
  rw[List.getElem?_eq_getElem hm,getElem!_pos (enc d[t/k]!) _ hm]
 .rw[List.getElem?_eq_none (by simp;omega),List.getElem?_eq_none (by omega)]
theorem Hq(F i:Array Value)(h:F.size<=i.size):(Sort.putCells id 0 F i).size=i.size/\(Sort.putCells id 0 F i).toList.take F.size=F.toList:=by
 refine⟨by simp[Sort.putCells],List.ext_getElem? fun t=>?_⟩;by_cases ht:t<F.size
 .rw[List.getElem?_take,if_pos ht,Array.getElem?_toList,Array.getElem?_toList];have h1:t<i.size:=by omega
  simp[Sort.putCells,ht,h1]
 .rw[List.getElem?_take,if_neg ht,List.getElem?_eq_none (by simp;omega)]
theorem Kl{enc:α->List Value}{k:Nat}{w:World}{g m e:Nat}{d:Array α}{os:Array Obj}{j:Array Value}(y:w.heap[g]?=some (.cells j e (0,0))) :
  (Go.Proofs.sortWorldK enc k w g 0 m d os).heap[g]?=some (.cells (Sort.putCells id 0 (Sort.flatK enc k d) j) e (0,0))/\Mod (fun b=>b=g) w (Go.Proofs.sortWorldK enc k w g 0 m d os):=by
 have o:g<w.heap.size:=(Array.getElem?_eq_some_iff.1 y).1;have i:(w.heap.modify g (Sort.onCells (Sort.putCells id 0 (Sort.flatK enc k d)))).size=w.heap.size:=by simp
 have x:(Go.Proofs.sortWorldK enc k w g 0 m d os).heap=w.heap.modify g (Sort.onCells (Sort.putCells id 0 (Sort.flatK enc k d)))++os:=rfl;refine⟨?_,⟨rfl,rfl,rfl,by rw[x,Array.size_append,i];omega,fun b hb B=>?_⟩⟩
 .rw[x,Array.getElem?_append_left (by rw[i];exact o),Array.getElem?_modify,if_pos rfl,y];rfl
 .rw[x,Array.getElem?_append_left (by rw[i];exact hb),Array.getElem?_modify,if_neg (fun h=>B h.symm)]
theorem AF.sorted{B e k:Nat}{R:World->List Value->α->Prop}{enc:α->List Value}(hk:∀x,(enc x).length=k)(h1:∀x,∀v∈enc x,v.oneCell'=true)(X:∀w r x,R w r x↔r=enc x){w:World}{g n c:Nat}{l:List α}(h:AF B e k R w (.slice (some ⟨g,0,none⟩) n c) l) :
  n=l.length/\g<w.heap.size/\Sort.HoldsK enc k w g 0 l.toArray/\∀(m:Nat) (d:Array α) (os:Array Obj),d.size=l.length->AF B e k R (Go.Proofs.sortWorldK enc k w g 0 m d os) (.slice (some ⟨g,0,none⟩) n c) d.toList/\Mod (fun b=>b=g) w (Go.Proofs.sortWorldK enc k w g 0 m d os):=by
 obtain⟨rows,h2,h3,h4,h5⟩:=h;obtain⟨q1,q2⟩:=h2;rcases q2 with⟨q,_⟩|⟨g',a1,y,q,hg,Q,Y,hm,o,I⟩
 .cases q
 cases q;have T:g<w.heap.size:=(Array.getElem?_eq_some_iff.1 Q).1;have E:rows=l.map enc:=by
  refine List.ext_getElem? fun i=>?_;rw[List.getElem?_map];by_cases Z:i<l.length
  .have J:i<rows.length:=by omega
   rw[List.getElem?_eq_getElem Z,List.getElem?_eq_getElem J,Option.map_some];rw[(X w rows[i] l[i]).1 (h5 i _ _ (List.getElem?_eq_getElem J) (List.getElem?_eq_getElem Z))]
  .rw[List.getElem?_eq_none (by omega),List.getElem?_eq_none (by omega)];rfl
 have O:l.length*k<=c*k:=Nat.mul_le_mul_right _ Y;refine⟨rfl,T,fun j U=>?_,fun m d os S=>?_⟩
 .rw[Sort.size_flatK] at U;have V:j<l.length*k:=by simpa using U
  have a6:j<y.size:=by rw[o];omega
  have e0:(Sort.flatK enc k l.toArray).toList=rows.flatten:=by rw[Ij enc k hk,E]
  have e1:rows.flatten[j]?=some (Sort.flatK enc k l.toArray)[j]!:=by
   have hs:j<(Sort.flatK enc k l.toArray).size:=by rw[Sort.size_flatK];exact U
   rw[<-e0,Array.getElem?_toList,Array.getElem?_eq_getElem hs,getElem!_pos _ j hs]
  rw[<-I,List.getElem?_take,if_pos V,Array.getElem?_toList] at e1;rw[Nat.zero_add];refine⟨?_,?_⟩
  .simp only[World.cell?,Q];exact e1
  .simp[World.frozen?,Q]
 .obtain⟨r1,r2⟩:=Kl (enc:=enc) (k:=k) (m:=m) (d:=d) (os:=os) Q;refine⟨⟨d.toList.map enc,⟨?_,.inr ⟨g,c,_,by have e:d.toList.length=l.length:=S;rw[e],hg,r1,?_,hm,?_,?_⟩⟩,by simp,fun r hr=>?_,fun i r x hr hx=>?_⟩,r2⟩
  .have:=Ea (d.toList.map enc) (k:=k) fun r hr=>by obtain⟨x,_,rfl⟩:=List.mem_map.1 hr;exact hk x
   simpa using this
  .rw[Array.length_toList,S];exact Y
  .rw[(Hq (Sort.flatK enc k d) y (by rw[Sort.size_flatK,S,o];exact O)).1];exact o
  .have:=(Hq (Sort.flatK enc k d) y (by rw[Sort.size_flatK,S,o];exact O)).2;rw[Sort.size_flatK] at this;rw[Array.length_toList,this,Ij enc k hk]
  .obtain⟨x,_,rfl⟩:=List.mem_map.1 hr;exact⟨hk x,h1 x⟩
  .rw[List.getElem?_map] at hr;rw[hx] at hr;exact(X _ _ _).2 (Option.some.inj hr).symm
end
end Go.K
namespace Go.Proofs.YtmdhibffnkhcnaaGreatDoor
open Go Go.K Proofs.Tryz
def N4:Go.Shelf.Ren:=⟨fun|6=>31|15=>72|14=>71|28=>140|29=>141|20=>132|21=>133|22=>134|23=>135|24=>136|25=>137|26=>138|27=>139|46=>203|47=>204|48=>205|49=>206|50=>207|57=>253|n=>n,fun|22=>22|24=>65|25=>73|3=>3|39=>130|0=>0|53=>211|55=>75|4=>4|46=>205|45=>204|50=>163|5=>5|9=>9|66=>285|70=>289|76=>328|77=>247|n=>n,fun|n=>n⟩
theorem Qb:Go.Proofs.SlLaysF0.n6 prog N4:={
 mixed:=by kernel_rfl,
 f6:=⟨Tryz.f31.name,by decide,func31.trans (congrArg some (by kernel_rfl))⟩,
 f14:=⟨Tryz.f71.name,by decide,func71.trans (congrArg some (by kernel_rfl))⟩,
 f15:=func72.trans (congrArg some (by kernel_rfl)),
 f20:=⟨Tryz.f132.name,by decide,func132.trans (congrArg some (by kernel_rfl))⟩,
 f21:=⟨Tryz.f133.name,by decide,func133.trans (congrArg some (by kernel_rfl))⟩,
 f22:=⟨Tryz.f134.name,by decide,func134.trans (congrArg some (by kernel_rfl))⟩,
 f23:=⟨Tryz.f135.name,by decide,func135.trans (congrArg some (by kernel_rfl))⟩,
 f24:=⟨Tryz.f136.name,by decide,func136.trans (congrArg some (by kernel_rfl))⟩,
 f25:=⟨Tryz.f137.name,by decide,func137.trans (congrArg some (by kernel_rfl))⟩,
 f26:=⟨Tryz.f138.name,by decide,func138.trans (congrArg some (by kernel_rfl))⟩,
 f27:=⟨Tryz.f139.name,by decide,func139.trans (congrArg some (by kernel_rfl))⟩,
 f28:=func140.trans (congrArg some (by kernel_rfl)),
 f29:=func141.trans (congrArg some (by kernel_rfl)),
 f46:=⟨Tryz.f203.name,by decide,func203.trans (congrArg some (by kernel_rfl))⟩,
 f47:=func204.trans (congrArg some (by kernel_rfl)),
 f48:=func205.trans (congrArg some (by kernel_rfl)),
 f49:=⟨Tryz.f206.name,by decide,func206.trans (congrArg some (by kernel_rfl))⟩,
 f50:=⟨Tryz.f207.name,by decide,func207.trans (congrArg some (by kernel_rfl))⟩,
 f57:=⟨Tryz.f253.name,by decide,func253.trans (congrArg some (by kernel_rfl))⟩,
 t0:=underlying0,
 a0:=Tryz.isAgg0,
 z0:=Tryz.sizeOf0,
 v0:=Tryz.zeroValue0,
 t3:=underlying3,
 a3:=Tryz.isAgg3,
 z3:=Tryz.sizeOf3,
 v3:=Tryz.zeroValue3,
 t4:=underlying4,
 a4:=Tryz.isAgg4,
 z4:=Tryz.sizeOf4,
 v4:=Tryz.zeroValue4,
 t5:=underlying5,
 a5:=Tryz.isAgg5,
 z5:=Tryz.sizeOf5,
 v5:=Tryz.zeroValue5,
 t9:=underlying9,
 a9:=Tryz.isAgg9,
 z9:=Tryz.sizeOf9,
 v9:=Tryz.zeroValue9,
 t22:=underlying22,
 a22:=Tryz.isAgg22,
 z22:=Tryz.sizeOf22,
 v22:=Tryz.zeroValue22,
 t25:=underlying73,
 a25:=Tryz.isAgg73,
 z25:=Tryz.sizeOf73,
 v25:=Tryz.zeroValue73,
 t39:=underlying130,
 a39:=Tryz.isAgg130,
 z39:=Tryz.sizeOf130,
 v39:=Tryz.zeroValue130,
 t45:=underlying204,
 a45:=Tryz.isAgg204,
 z45:=Tryz.sizeOf204,
 v45:=Tryz.zeroValue204,
 t46:=underlying205,
 a46:=Tryz.isAgg205,
 z46:=Tryz.sizeOf205,
 v46:=Tryz.zeroValue205,
 t50:=underlying163,
 a50:=Tryz.isAgg163,
 z50:=Tryz.sizeOf163,
 v50:=Tryz.zeroValue163,
 t53:=underlying211,
 a53:=Tryz.isAgg211,
 z53:=Tryz.sizeOf211,
 v53:=Tryz.zeroValue211,
 t55:=underlying75,
 a55:=Tryz.isAgg75,
 z55:=Tryz.sizeOf75,
 v55:=Tryz.zeroValue75,
 t66:=underlying285,
 a66:=Tryz.isAgg285,
 z66:=Tryz.sizeOf285,
 v66:=Tryz.zeroValue285,
 t70:=underlying289,
 a70:=Tryz.isAgg289,
 z70:=Tryz.sizeOf289,
 v70:=Tryz.zeroValue289,
 t76:=underlying328,
 a76:=Tryz.isAgg328,
 z76:=Tryz.sizeOf328,
 v76:=Tryz.zeroValue328,
 t77:=underlying247,
 a77:=Tryz.isAgg247,
 z77:=Tryz.sizeOf247,
 v77:=Tryz.zeroValue247 }
theorem WL(x y:DKey)(W:World):Calls prog 32 #[.agg x.cells.toArray,.agg y.cells.toArray] W fun e w'=>e=.returned (.int .i64 (Lo x.id y.id))/\∃q i,w'=Sort.grow (W.drewN q) i:=by
 have h:AB prog 32 [.agg x.cells.toArray,.agg y.cells.toArray] (fun v w'=>v=.int .i64 (Lo x.id y.id)/\∃i,w'=Sort.grow W i) W:=by
  apply Yp;refine⟨x.cells,rfl,⟨y.cells,rfl,PJ ?_⟩⟩;rw[AG];have c1:∀j u,x.cells[j]?=some u->((W.alloc (.cells x.cells.toArray 65)).alloc (.cells y.cells.toArray 65)).cell? ((⟨W.heap.size,0,none⟩:Addr).add j)=some u:=fun j u hu=>(Mod.alloc (fun _=>False) _ _).cell (HI hu) fun h=>h;have o:∀j u,y.cells[j]?=some u->((W.alloc (.cells x.cells.toArray 65)).alloc (.cells y.cells.toArray 65)).cell? ((⟨(W.alloc (.cells x.cells.toArray 65)).heap.size,0,none⟩:Addr).add j)=some u:=fun j u hu=>HI hu;refine AL (c1 0 _ rfl) ?_;rw[AG];refine AL (o 0 _ rfl) ?_;refine AA Yu ?_;rintro _ _ ⟨rfl,rfl⟩;exact⟨rfl,_,by rw[Sort.alloc_eq_grow,Sort.alloc_eq_grow,Sort.grow_grow]⟩
 refine Calls.mono h ?_;rintro e w' ⟨v,rfl,rfl,i,rfl⟩;exact⟨rfl,0,i,rfl⟩
theorem Z5:Sort.SWO (Go.Proofs.ltOf fun x y:DKey=>Lo x.id y.id):=by
 have e:∀x y:DKey,Go.Proofs.ltOf (fun x y:DKey=>Lo x.id y.id) x y=decide (x.id<y.id):=fun x y=>by
  unfold Go.Proofs.ltOf Lo;by_cases h1:x.id<y.id
  .simp[h1]
  .by_cases i:y.id<x.id<;>simp[h1,i]
 exact⟨fun x=>by rw[e];simp,fun x y z h1 i=>by rw[e] at *;simp at *;omega,fun x y z h1 i=>by rw[e] at *;simp at *;omega⟩
instance:Inhabited DKey:=⟨DKey.zero⟩
theorem TT{B:Nat}{v:Value}{o:List DKey}{w:World}(h:AF B 65 6 Fv w v o)(hl:o.length<=1099511627776) :
  AB prog 31 [v,.func (.func 32) #[] #[]] (fun _ w'=>∃ks:List DKey,ks.Perm o/\ks.Pairwise (fun x y=>x.id<=y.id)/\AF B 65 6 Fv w' v ks/\Mod (fun b=>v.ownBlock=some b) w w') w:=by
 obtain⟨a,c,rfl,_,_,hp,Y⟩:=h.shape;cases a with
 |none=>
  have e:=Y rfl;subst e;refine Calls.mono (Go.Proofs.AnyF.slices_SortFunc_none Qb none c _ w) ?_;rintro _ _ ⟨rfl,rfl⟩;exact⟨_,rfl,[],List.Perm.refl _,List.Pairwise.nil,h,Mod.refl _ _⟩
 |some p=>
  obtain⟨g,rfl,_,O,Z⟩:=hp p rfl;obtain⟨_,_,hH,hS⟩:=AF.sorted (enc:=DKey.cells) (fun _=>rfl) (fun x=>Fv.one (w:=w) (x:=x) rfl) (fun _ _ _=>Iff.rfl) h;have hc:=Go.Proofs.AnyQ.slices_SortFunc Qb 6 Tryz.isAgg65 Tryz.sizeOf65 DKey.cells (fun _=>rfl) (fun x=>Fv.one (w:=w) (x:=x) rfl) (fun x y=>Lo x.id y.id) Z5 32 #[] g 0 c o.toArray w (FK _ rfl) (fun m os dk _ x y=>WL x y _) hH O (by simp;omega);rw[List.size_toArray] at hc;refine Calls.mono hc ?_;rintro _ _ ⟨rfl,E,m,os,I,J,rfl⟩;obtain⟨h1,S,T⟩:=I;have U:E.size=o.length:=by rw[h1,List.size_toArray]
  obtain⟨o1,o2⟩:=hS m E os U;refine⟨_,rfl,E.toList,?_,?_,o1,o2.mono fun b _ e=>by rw[e];rfl⟩
  .have e1:E.extract 0 o.length=E:=by rw[<-U];exact Array.extract_size
   have e2:o.toArray.extract 0 o.length=o.toArray:=by
    have:=Array.extract_size (xs:=o.toArray);rwa [List.size_toArray] at this
   rw[e1,e2] at T;simpa using T
  .rw[List.pairwise_iff_getElem];intro i j V X Q;simp only[Array.length_toList] at V X;have:=J i j (Nat.zero_le _) Q (by omega);rw[getElem!_pos E i V,getElem!_pos E j X] at this;have e:Go.Proofs.ltOf (fun x y:DKey=>Lo x.id y.id) E[j] E[i]=decide (E[j].id<E[i].id):=by
    unfold Go.Proofs.ltOf Lo;by_cases h1:E[j].id<E[i].id
    .simp[h1]
    .by_cases S:E[i].id<E[j].id<;>simp[h1,S]
   rw[e] at this;simp only[decide_eq_false_iff_not] at this;simp only[Array.getElem_toList];omega
def Lm(i:List DKey):Prop:=i.Pairwise fun x y=>x.id≠y.id
theorem K8{o:List DKey}:Ew o↔o.length<=64/\(∀k∈o,EG k)/\Lm o:=by
 unfold Ew Zm Lm;rw[List.pairwise_iff_getElem];constructor
 .rintro⟨h1,B⟩;refine⟨h1,fun k hk=>?_,fun i j x E I=>?_⟩
  .obtain⟨i,x,rfl⟩:=List.getElem_of_mem hk;exact(B i x _ (List.getElem?_eq_getElem x)).1
  .exact(B j E _ (List.getElem?_eq_getElem E)).2 i I _ (List.getElem?_eq_getElem x)
 .rintro⟨h1,B,J⟩;refine⟨h1,fun i x k hk=>?_⟩;rw[List.getElem?_eq_getElem x] at hk;cases hk;refine⟨B _ (List.getElem_mem x),fun j E O y=>?_⟩;rw[List.getElem?_eq_getElem (by omega)] at y;cases y;exact J j i (by omega) x E
theorem KP{L:List DKey}{id:Int}:(L.map fun k=>(k.id,(Value.agg k.cells.toArray))).find? (fun p=>decide (p.1=id))=(BY L id).map fun k=>(k.id,.agg k.cells.toArray):=by
 unfold BY;rw[List.find?_map];rfl
theorem L2{L:List DKey}(y:Lm L){id:Int}{k:DKey}:BY L id=some k↔k∈L/\k.id=id:=by
 induction L with
 |nil=>simp[BY]
 |cons x L B=>
  unfold Lm at y;rw[List.pairwise_cons] at y;have j:=B y.2;unfold BY at j ⊢;by_cases o:x.id=id
  .rw[List.find?_cons_of_pos (by simpa using o)];simp only[Option.some.injEq,List.mem_cons];constructor
   .rintro rfl;exact⟨.inl rfl,o⟩
   .rintro⟨rfl|hk,i⟩
    .rfl
    .exact(y.1 k hk (by rw[o,i])).elim
  .rw[List.find?_cons_of_neg (by simpa using o),j];constructor
   .rintro⟨h1,i⟩;exact⟨List.mem_cons_of_mem _ h1,i⟩
   .rintro⟨h1,i⟩;rcases List.mem_cons.1 h1 with rfl|h1
    .exact(o i).elim
    .exact⟨h1,i⟩
theorem Lm.perm{L L':List DKey}(hp:L.Perm L')(h:Lm L):Lm L':=(hp.pairwise_iff (R:=fun x y:DKey=>x.id≠y.id) fun h=>h.symm).1 h
theorem QH{L L':List DKey}(hp:L.Perm L')(i:Lm L)(id:Int):BY L id=BY L' id:=by
 refine Option.ext fun k=>?_;rw[L2 i,L2 (i.perm hp),hp.mem_iff]
theorem SJ{L:List DKey}(i:Lm L)(j:L.Pairwise fun x y=>x.id<=y.id):L.Pairwise fun x y=>x.id<y.id:=by
 refine(List.Pairwise.and i j).imp fun{x y} h=>?_;obtain⟨h1,o⟩:=h;omega
structure Sg (w0 W:World) (b m:Nat) (kv:Value) (keys:List DKey) (i:Nat):Prop where
 c0:W.cell? ⟨b,0,none⟩=some kv
 c1:W.cell? ⟨b,1,none⟩=some (.map (some m))
 row:AF w0.heap.size 65 6 Fv W kv keys
 mp:Ii W m ((keys.take i).map fun k=>(k.id,.agg k.cells.toArray))
 hb:w0.heap.size<=b
 hm:w0.heap.size<=m
 ne:m≠b
 own:∀g,kv.ownBlock=some g->g≠m/\g≠b
 g:Grow w0 W
theorem Sg.grow{w0 W W':World}{b m i:Nat}{x:Value}{j:List DKey}(h:Sg w0 W b m x j i)(o:Grow W W'):Sg w0 W' b m x j i:=
 ⟨o.cell h.c0 fun h=>h,o.cell h.c1 fun h=>h,AF.mod h.row o (fun _ _ h=>h) fun _ _ _ h=>h,h.mp.mod o fun h=>h,h.hb,h.hm,h.ne,h.own,h.g.trans o⟩
open Classical in
theorem Kj{S:Nat->Prop}{kv:Value}{o:List DKey}{w:World}(h:Lw S w kv o) :
  AB prog 8 [kv] (fun v' w'=>Grow w w'/\((Ew o/\∃ (sv:Value) (ks:List DKey),v'=.tuple #[sv,.int .i64 0]/\ks.Perm o/\ks.Pairwise (fun x y=>x.id < y.id)/\DG (fun b=>w.heap.size<=b) w' sv ks)\/
   (¬ Ew o/\v'=.tuple #[.pointer none,.int .i64 3]))) w:=by
 apply bj;unfold S8;obtain⟨a,c,rfl,b0⟩:=h.shape;simp only[maxLen] at b0;rw[AS,BK];refine AE (fun h6=>⟨Mod.refl _ _,.inr ⟨by rintro⟨h,_⟩;omega,rfl⟩⟩) fun h6=>?_;refine AA (RQ h (by omega)) ?_;rintro v1 E ⟨o1,g1⟩;refine Ai (v:=.map (some E.heap.size)) (w':=E.alloc (.map #[] 0)) rfl ?_;have g2:Grow E (E.alloc (.map #[] 0)):=Mod.alloc _ _ _;have a1:Ii (E.alloc (.map #[] 0)) E.heap.size []:=Ii.make E;have b1:(E.alloc (.map #[] 0)).heap.size=E.heap.size+1:=by simp
 generalize E.alloc (.map #[] 0)=w2 at g2 a1 b1 ⊢;obtain⟨ra,rc,rfl,_,_,_,_⟩:=o1.shape;refine⟨#[.slice ra o.length rc,.map (some E.heap.size)],by kernel_rfl,?_⟩;refine Da (vs:=[.slice ra o.length rc,.map (some E.heap.size)]) fun b w3 hb b5 g3 a6 _=>?_;have z1:=g1.size;have z2:=g2.size;have Y:∀g,(Value.slice ra o.length rc).ownBlock=some g->g<E.heap.size:=fun g hg=>(AF.BL o1 g hg).2;have I0:Sg w w3 b E.heap.size (.slice ra o.length rc) o 0:=
  ⟨by have:=a6 0 _ rfl;rwa [AI] at this,by have:=a6 1 _ rfl;rwa [AI] at this,AF.mod o1 (g2.trans g3) (fun _ _ h=>h) fun _ _ _ h=>h,by simpa using a1.mod g3 fun h=>h,by omega,by omega,by omega,fun g hg=>by have:=Y g hg;omega,(g1.trans g2).trans g3⟩
 generalize Value.slice ra o.length rc=rv at I0 Y ⊢;clear a6 a1 o1;generalize E.heap.size=m at *;rw[AS];refine Ae (fun vs W=>∃i:Nat,i<=o.length/\vs=[.int .i64 i]/\Sg w W b m rv o i/\Zm o i) (fun vs _=>o.length-ED vs 0) ⟨0,Nat.zero_le _,rfl,I0,fun i hi=>by omega⟩ ?_;rintro vs W ⟨i,hi,rfl,I,Z⟩ _;rw[CN,List.headD_cons,Ax];refine AE (fun b8=>?_) fun b9=>?_
 .have B:i<o.length:=by omega
  have U:o[i]?=some o[i]:=List.getElem?_eq_getElem B;obtain ⟨p,r,rfl,_,hr,hc,rfl⟩:=(h.grow I.g (by decide) fun _ _ h=>h).get B;refine AZ B (Ah hr (fun j u hu=>by rw [Addr.add_add];exact hc j u hu) ?_);refine BO (vs:=o[i].cells) rfl rfl (Fv.one (w:=w) (x:=o[i]) rfl) fun b6 W1 ba bc g6 a7 _=>?_;have I1:=I.grow g6;have bad:∀ W',Grow W1 W'->¬ Ew o->(fun v' w'=>Grow w w'/\((Ew o/\∃ (sv:Value) (ks:List DKey),v'=.tuple #[sv,.int .i64 0]/\ks.Perm o/\ks.Pairwise (fun x y=>x.id < y.id)/\DG (fun b=>w.heap.size<=b) w' sv ks)\/
   (¬ Ew o/\v'=.tuple #[.pointer none,.int .i64 3]))) (Value.tuple #[.pointer none,.int .i64 3]) W':=fun W' g hn=>⟨I1.g.trans g,.inr ⟨hn,rfl⟩⟩
  refine AW (fun _ V=>Grow W1 V/\BY (o.take i) o[i].id=none/\EG o[i]) ?_ ?_
  .rintro _ V ⟨J,X,a8⟩ _;have I2:=I1.grow J;refine Ag (fun k y=>k=7/\y=m) ?_;have T:Grow V V.drew:=Mod.drew _ _;have O:=I2.grow T;have c6:∀j u,o[i].cells[j]?=some u->V.drew.cell? ((⟨b6,0,none⟩:Addr).add j)=some u:=fun j u hu=>(J.trans T).cell (a7 j u hu) fun h=>h;refine AH ?_;rw[AG];refine Aa ⟨by rw[AI];exact O.c1,fun j Q e=>by obtain⟨rfl,_⟩:=e;exact absurd Q (by decide)⟩ ?_;rw[AG];refine Aa ⟨c6 0 _ rfl,fun j Q e=>by obtain⟨rfl,_⟩:=e;exact absurd Q (by decide)⟩ ?_;refine CP (vs:=o[i].cells) rfl (fun j u hu=>⟨c6 j u hu,fun j Q e=>by obtain⟨rfl,_⟩:=e;exact absurd Q (by decide)⟩) ?_;obtain⟨W4,al,an,m4⟩:=PV underlying66 underlying3 O.mp o[i].id (.agg o[i].cells.toArray) (by rw[KP,X];rfl);refine Ai (v:=undef) (w':=W4) (by simp only[Sem.run_bind,al,Result.andThen_ok,Sem.run_pure]) ⟨m4.mono fun y _ e=>⟨rfl,e⟩,?_⟩;rw[AR,AQ (by omega)];refine⟨⟨i+1,B,rfl,⟨m4.cell O.c0 (fun e=>O.ne e.symm),m4.cell O.c1 (fun e=>O.ne e.symm),AF.mod O.row m4 (fun g hg e=>(O.own g hg).1 e) fun _ _ _ h=>h,?_,O.hb,O.hm,O.ne,O.own,O.g.next m4 fun x hx e=>by have:=O.hm;omega⟩,fun q hq k hk=>?_⟩,by rw[DW,DW];omega⟩
   .rw[List.take_add_one,U,List.map_append];exact an
   .by_cases e:q=i
    .subst e;rw[U] at hk;cases hk;refine⟨a8,fun j Q k' b2 e=>?_⟩;unfold BY at X;rw[List.find?_eq_none] at X;exact X k' (List.mem_of_getElem? (by rw[List.getElem?_take,if_pos Q];exact b2)) (by simpa using e)
    .exact Z q (by omega) k hk
  .refine AW (fun vs V=>Grow W1 V/\vs=[.bool (BY (o.take i) o[i].id).isSome]) ?_ ?_
   .rintro _ V ⟨J,rfl⟩ _;rw[CN,List.headD_cons];cases hf:BY (o.take i) o[i].id with
    |some k'=>
     refine Ao (bad _ J fun hM=>?_);have h1:=List.find?_some hf;have h2:=List.mem_of_find?_eq_some hf;obtain⟨j,Q,e⟩:=List.getElem_of_mem h2;rw[List.length_take] at Q;rw[List.getElem_take] at e;exact(hM.2 i B _ U).2 j (by omega) k' (by rw[List.getElem?_eq_getElem (by omega),e]) (by simpa using h1)
    |none=>
     refine AT (Ah (vs:=o[i].cells) rfl (fun j u hu=>J.cell (a7 j u hu) fun h=>h) ?_);refine AA XV ?_;rintro _ W3 ⟨rfl,av⟩;rw[Aq];refine Ab (fun a8=>⟨J.trans av,rfl,a8⟩) fun ax=>bad _ (J.trans av) fun hM=>ax (hM.2 i B _ U).1
   .refine Ag (fun k y=>k=11/\W1.heap.size<=y) ?_;have T:Grow W1 W1.drew:=Mod.drew _ _;have Id:=I1.grow T;refine AH ?_;rw[AG];refine Aa ⟨by rw[AI];exact Id.c1,fun j Q e=>by obtain⟨rfl,_⟩:=e;exact absurd Q (by decide)⟩ ?_;rw[AG];refine Aa ⟨T.cell (a7 0 _ rfl) fun h=>h,fun j Q e=>by obtain⟨rfl,_⟩:=e;exact absurd Q (by decide)⟩ ?_;have look:∀W',Grow W1.drew W'->(Instr.lookup 66 (.map (some m)) (.int .i64 o[i].id) true).run prog W'=.ok (.tuple #[.agg (((BY (o.take i) o[i].id)).getD DKey.zero).cells.toArray,.bool (BY (o.take i) o[i].id).isSome]) W':=fun W' g'=>by
     have:=KG underlying66 underlying3 (OR W') (Id.mp.mod g' fun h=>h) o[i].id;rw[this,KP];cases BY (o.take i) o[i].id<;>rfl
    generalize (BY (o.take i) o[i].id).getD DKey.zero=kz at look;have one:=Fv.one (w:=w) (x:=kz) rfl;refine⟨?_,?_⟩
    .refine Ai (look _ (Mod.refl _ _)) ⟨Mod.refl _ _,?_⟩;refine BM ?_;refine EE fun b7 W5 b3 b4 g7 _ ak=>⟨g7.mono fun _ _ h=>h.elim,?_⟩;refine CT rfl one ak fun W6 m6 _ _=>⟨m6.mono fun y _ e=>⟨rfl,by have:=T.size;omega⟩,?_,rfl⟩;exact(T.trans g7).next m6 fun x hx e=>by have:=T.size;omega
    .refine EE fun b7 W5 b3 b4 g7 _ ak=>⟨g7.mono fun _ _ h=>h.elim,?_⟩;refine Ai (look _ g7) ⟨Mod.refl _ _,?_⟩;refine BM ?_;refine CT rfl one ak fun W6 m6 _ _=>⟨m6.mono fun y _ e=>⟨rfl,by have:=T.size;omega⟩,?_,rfl⟩;exact(T.trans g7).next m6 fun x hx e=>by have:=T.size;omega
 .have:i=o.length:=by omega
  subst this;refine AH ?_;rw[AG];refine AL (by rw[AI];exact I.c0) ?_;refine AA (TT I.row (by omega)) ?_;rintro _ V ⟨ks,hp,hs,o2,m2⟩;have hM:Ew o:=⟨by omega,Z⟩;obtain⟨_,_,hd⟩:=K8.1 hM;have ay:=hd.perm hp.symm;refine⟨I.g.next m2 fun x hx e=>by have:=(AF.BL I.row x e).1;omega,.inl ⟨hM,_,ks,rfl,hp,SJ ay hs,b,m,rv,_,rfl,I.hb,I.hm,m2.cell I.c0 fun e=>(I.own _ e).2 rfl,m2.cell I.c1 fun e=>(I.own _ e).2 rfl,(AF.sl o2).sub (fun _ _ h=>h.1) (by decide) fun _ _ h=>h,I.mp.mod m2 fun e=>(I.own _ e).1 rfl,fun id=>?_⟩⟩;rw[List.take_length,KP,QH hp ay];cases BY o id<;>rfl
theorem WS{w:World}(l:List DKey)(hl:l.length<=1000):Lw (fun b=>b=w.heap.size) (w.alloc (.cells (l.map DKey.cells).flatten.toArray 65)) (.slice (some ⟨w.heap.size,0,none⟩) l.length l.length) l:=by
 refine BJ.made (t:=65) (l.map DKey.cells) (fun r hr=>by obtain⟨x,_,rfl⟩:=List.mem_map.1 hr;rfl) (by simp) (by simp only[maxLen];omega) fun i r x hr j=>?_;rw[List.getElem?_map,j] at hr;exact(Option.some.inj hr).symm
open Classical in
theorem Nq{D:Nat->Prop}{v:Value}{ks:List DKey}{id:Int}{x:BE}{w:World}(h:DG D w v ks)(J:ET w)(h0:0<=x.f) :
  AB prog 209 [v,.int .i64 id,.agg x.cells.toArray] (fun v' w'=>v'=.bool (decide (Gr ks id x))/\Grow w w') w:=by
 apply YD;have I:∀w',Grow w w'->¬Gr ks id x->Value.bool false=.bool (decide (Gr ks id x))/\Grow w w':=fun w' g h=>⟨by rw[decide_eq_false h],g⟩;refine Da fun b X _ Y g hc _=>?_;refine AA (Ip (h.grow g) id) ?_;rintro _ w2 ⟨rfl,O⟩;refine BM ?_;generalize hk:(BY ks id).getD DKey.zero=k;refine BO (vs:=k.cells) rfl rfl (Fv.one (w:=w) (x:=k) rfl) fun Z w3 Q S T B _=>?_;have o:=O.trans T;have i:=g.trans o;cases y:BY ks id with
 |none=>
  rw[Option.isSome_none];exact I _ i (by rintro⟨k,e,_⟩;rw[y] at e;cases e)
 |some U=>
  rw[y] at hk;simp only[Option.getD_some] at hk;subst hk;rw[Option.isSome_some];refine Ao ?_;rw[AG];refine AL (B 2 _ rfl) ?_;rw[AG];refine AL (o.cell (hc 0 _ rfl) fun h=>h) ?_;rw[Am];refine AE (fun he=>?_) fun he=>I _ i (by rintro⟨k,e,_,h⟩;rw[y] at e;cases e;exact he h.symm);refine Ah (vs:=x.cells) rfl (fun j u hu=>o.cell (hc j u hu) fun h=>h) (AA (Ma (J.grow i) h0) ?_);rintro _ w4 ⟨rfl,V⟩;refine⟨?_,i.trans V⟩;congr 1
  rw[decide_eq_decide];constructor
  .intro E;exact⟨U,y,E,he.symm⟩
  .rintro⟨_,_,E,_⟩;exact E
end Go.Proofs.YtmdhibffnkhcnaaGreatDoor
namespace Go.K
open Go
theorem ME{α:Type}{B e k:Nat}{R:World->List Value->α->Prop}{W:World}{a:Addr}{n c:Nat}{l:List α}{i j:Nat}{u:Value}{x':α}{K:World->Prop}(h:AF B e k R W (.slice (some a) n c) l)(E:i<l.length)(I:j<k)
 (hu:u.oneCell'=true)(o:u.cells=#[u])(J:∀x w2 r y,R x r y->R w2 r y)(O:∀x w2 r,R x r l[i]->R w2 (r.set j u) x')
 (Q:∀W',AF B e k R W' (.slice (some a) n c) (l.set i x')->Mod (fun b=>b=a.block) W W'->K W'):BC (.pointer (some (a.add (i*k+j)))) u K W:=by
 obtain⟨⟨v,S⟩,T,U,hm⟩:=AF.store (R':=R) (u:=u) (x':=x') (j:=j) h E I hu (fun r y _ hr=>J _ _ _ _ hr) (fun r hr=>O _ _ _ hr);exact K3 hu o S T (Q _ U hm)
end Go.K
namespace Go.Proofs.YtmdhibffnkhcnaaGreatDoor
open Go Go.K Proofs.Tryz
def Fa:Kd (List Attr) where
 μ:=fun _=>(1,0)
 cut:=fun x _=>(x,[])
 meld:=fun _ _=>none
theorem RU{w:World}(v:Value):BF prog DE JT.vm [v] (fun v w'=>v=.tuple #[.int .i64 1,.int .i64 0]/\Grow w w') w:=by
 refine⟨_,[],[],rfl,by kernel_rfl,?_⟩;apply Vw;exact⟨rfl,Mod.refl _ _⟩
theorem SB{w:World}(a b:Value):BF prog DE JT.vd [a,b] (fun v w'=>Grow w w'/\∃u,v=.tuple #[u,.bool false]) w:=by
 refine⟨_,[],[],rfl,by kernel_rfl,?_⟩;apply WZ;exact⟨Mod.refl _ _,_,rfl⟩
abbrev CY(C:Nat->Prop)(w:World)(r:List Value)(x:List Attr):Prop:=∃sv,r=[sv]/\Cu C w sv x
def A6:Av1 (List Attr) where
 toAvK:=JT
 k:=Fa
 R:=CY
 pb:=72
 eb:=24
 pb_le:=by decide
 eb_le:=by decide
 Epos:=by decide
 E1:=fun _=>rfl
 rlen:=fun⟨_,e,_⟩=>by subst e;rfl
 rone:=fun⟨sv,e,h⟩ u hu=>by
  subst e;obtain⟨a,c,rfl,_⟩:=h.shape;simp at hu;subst hu;rfl
 rcell:=fun⟨sv,e,h⟩=>by
  subst e;obtain⟨a,c,rfl,_⟩:=h.shape;rfl
 rheap:=fun⟨sv,e,h⟩ i=>⟨sv,e,h.mono (fun _ _ h=>h) i (by decide) fun _ _ h=>h⟩
 rsub:=fun⟨sv,e,h⟩ i=>⟨sv,e,h.sub i (by decide) fun _ _ h=>h⟩
 zlen:=rfl
 zone:=fun u hu=>by
  have hu:u∈[Value.slice none 0 0]:=hu;simp at hu;subst hu;rfl
 elP:=⟨Tryz.t347,.agg #[.slice none 0 0,.int .i64 0,.int .i64 0,.int .i64 0,.int .i64 0,.int .i64 0,.bool false],by kernel_rfl,by kernel_rfl,by kernel_rfl,by kernel_rfl,by kernel_rfl,by rfl,by decide⟩
 elE:=⟨Tryz.t43,.slice none 0 0,by kernel_rfl,by kernel_rfl,by kernel_rfl,by kernel_rfl,by kernel_rfl,by rfl,by decide⟩
 field0:=fun r t w hr o ht=>by
  match r,hr with
  |[a],_=>
   have hu:=underlying304;have j:=Tryz.isAgg43;have e:(Instr.field 304 (.agg ([a]++t).toArray) 0).run prog w=.ok a w:=by
    simp[Instr.field,run_underlying hu,part,j,asAgg]
   exact e
 ok:=Ws
 cutμ:=fun x p h0 h1=>by simp only[Fa] at h1;omega
 meldμ:=fun x y z h=>by cases h
 meas:=fun{C w r x} _=>RU _
 one1:=rfl
 ok1:=Tt
 μ1:=fun _=>rfl
 meld0:=fun _ _=>rfl
 meldc:=fun{C w r s x y} _ _=>SB _ _
def TG(g:AvK)(v0:Value)(K:Cont)(w:World):Prop:=
 Au (fun _vs I=>∀_:Env,
 AJ v0 fun i=>
 AM 0 i fun j=>
 AK j (fun o w2=>
 K o w2) I) (fun J=>
 AJ v0 fun t4=>
 AM 0 t4 fun t5=>
 AK t5 (fun O E=>
 CX O fun Q=>
 AD (.bool Q)
 (Af [(0,1),(1,1),(2,1)] [.nilFunc,.nilFunc,.nilFunc] [(0,g.vm),(1,g.vc),(2,g.vd)] fun t9=>
 AB prog g.fNew [t9] (fun x w4=>
 AJ v0 fun y=>
 AM 0 y fun B=>
 BC B x (fun S=>
 J [] S) w4) E)
 (J [] E)) w)
def ae(g:AvK)(ft:Nat)(v0:Value)(K:Cont)(w:World):Prop:=
 CX v0 fun i=>
 AD (.bool i)
 (K (.int .i64 0) w)
 (AB prog ft [v0] (fun j o=>
 AB prog g.fSize [j] (fun x w2=>
 K x w2) o) w)
def V7(fl:Nat)(v0 v1 v2:Value)(K:Cont)(w:World):Prop:=
 CX v0 fun y=>
 AD (.bool y)
 (K (.int .i64 1) w)
 (Bc .i64 v1 (.int .i64 0) fun i=>
 AD i
 (K (.int .i64 5) w)
 (EX .i64 v1 v2 fun j=>
 AD j
 (K (.int .i64 5) w)
 (AB prog fl [v0] (fun o x=>
 EX .i64 v2 o fun t22=>
 AD t22
 (K (.int .i64 5) x)
 (K (.int .i64 0) x)) w)))
structure Yf (g:AvK) where
 ft:Nat
 fl:Nat
 fb:Nat
 tree:∀{v0 K w},TG g v0 K w->AB prog ft [v0] K w
 len:∀{v0 K w},ae g ft v0 K w->AB prog fl [v0] K w
 dR:∀{v0 v1 v2 K w},V7 fl v0 v1 v2 K w->AB prog fb [v0,v1,v2] K w
 dh:g.vm.cells=#[g.vm]
 dq:g.vc.cells=#[g.vc]
 di:g.vd.cells=#[g.vd]
def G4:Yf II:=⟨99,111,97,fun h=>ZT h,fun h=>WK h,fun h=>Z6 h,rfl,rfl,rfl⟩
def El:Yf JT:=⟨104,57,101,fun h=>V5 h,fun h=>ai h,fun h=>WX h,rfl,rfl,rfl⟩
def EI:Yf Fq:=⟨89,54,94,fun h=>ZX h,fun h=>ZK h,fun h=>Zx h,rfl,rfl,rfl⟩
variable {α:Type}{g:AvT α}
def Tn(g:AvT α)(F C:Nat->Prop)(W:World)(b:Nat)(l:List α)(N:Nat):Prop:=∃A T,DJ g F C W b T.root A/\Tr.Holds g.k.μ A.f T/\Tr.FJ T/\T.toL=l/\A.ps.length<=N
theorem Tn.mod{F C M:Nat->Prop}{W W':World}{b N:Nat}{l:List α}(h:Tn g F C W b l N)(hm:Mod M W W')(i:∀x,F x\/C x->¬M x):Tn g F C W' b l N:=by
 obtain⟨A,T,h,r⟩:=h;exact⟨A,T,h.mod hm i,r⟩
theorem TD{C:Nat->Prop}{W:World}(hC:∀x,C x->x<W.heap.size) :
  AB prog g.fNew [.agg #[g.vm,g.vc,g.vd]] (fun v' w'=>∃b F,v'=.pointer (some ⟨b,0,none⟩)/\W.heap.size<=b/\(∀x,F x->W.heap.size<=x)/\Tn g F C w' b [] 0/\Grow W w') W:=by
 apply g.ok.new;unfold YN;refine Bx.box (vs:=[g.vm,g.vc,g.vd]) fun b1 o U S V=>?_;have I:Grow o o.drew:=Mod.drew _ _;have z1:=S.size;have zd:=I.size;refine Ag (fun _ _=>False) ?_;refine CP (vs:=[g.vm,g.vc,g.vd]) rfl (fun j v X=>⟨by rw[AI];exact(V.grow I).cells j v X,fun _ _ e=>e⟩) ?_;refine AA (Vr (g:=g) (C:=C) fun x J=>by have:=hC x J;omega) ?_;rintro _ w2 ⟨rfl,Y,O,Z⟩;refine⟨O.mono fun _ _ h=>h.elim,?_⟩;have y:Instr.fill (fun i=>[(0,3),(3,1),(4,1)][i]?) [Value.nilFunc,.nilFunc,.nilFunc,.pointer none,.int .i64 0].toArray [(0,.agg [g.vm,g.vc,g.vd].toArray),(1,.pointer (some ⟨o.drew.heap.size,0,none⟩)),(2,.int .i64 (-1))]=some (YL g o.drew.heap.size (-1)).toArray:=by
  rw[Ce (vs:=[g.vm,g.vc,g.vd]) (off:=0) (len:=3) rfl rfl rfl (by decide),Ce (vs:=[.pointer (some ⟨o.drew.heap.size,0,none⟩)]) (off:=3) (len:=1) rfl rfl rfl (by simp[Hs]),Ce (vs:=[.int .i64 (-1)]) (off:=4) (len:=1) rfl rfl rfl (by simp[Hs]),Ek];rfl
 refine⟨_,y,?_⟩;refine Bx.box fun B w3 a1 E T=>⟨E.mono fun _ _ h=>h.elim,?_⟩;have z2:=O.size;have z3:=E.size;have Q:=T.lt (Nat.succ_pos _);refine⟨B,fun x=>x=o.drew.heap.size\/x=B,rfl,by omega,fun x J=>by rcases J with e|e<;>omega,⟨ArS.z,.nil,⟨o.drew.heap.size,.slice none 0 0,.slice none 0 0,T,?_,.inr rfl,fun h=>by have:=hC B h;omega⟩,trivial,List.nodup_nil,rfl,Nat.zero_le _⟩,((S.trans I).trans O).trans E⟩;have e:(fun x=>(x=o.drew.heap.size\/x=B)/\x≠B)=fun x=>x=o.drew.heap.size:=by
  funext x
  refine propext ⟨fun h=>h.1.elim (fun h=>h) fun e=>(h.2 e).elim,fun h=>⟨.inl h,by omega⟩⟩
 rw[e];exact Z.grow E
structure DF (g:AvT α) (F C:Nat->Prop) (W:World) (b bt:Nat) (l:List α) (N:Nat):Prop where
 box:Bx W b [.pointer (some ⟨bt,0,none⟩)]
 Dg:Tn g (fun x=>F x/\x≠b) C W bt l N
 fb:F b/\¬C b
theorem DF.mod{F C M:Nat->Prop}{W W':World}{b bt N:Nat}{l:List α}(h:DF g F C W b bt l N)(hm:Mod M W W')(i:∀x,F x\/C x->¬M x):DF g F C W' b bt l N:=
 ⟨h.box.mod hm (i b (.inl h.fb.1)),h.Dg.mod hm fun x j=>i x (j.imp (fun h=>h.1) fun h=>h),h.fb⟩
theorem DF.grow{F C:Nat->Prop}{W W':World}{b bt N:Nat}{l:List α}(h:DF g F C W b bt l N)(hm:Grow W W'):DF g F C W' b bt l N:=h.mod hm fun _ _ h=>h
theorem DF.lt{F C:Nat->Prop}{W:World}{b bt N:Nat}{l:List α}(h:DF g F C W b bt l N):∀x,F x\/C x->x<W.heap.size:=by
 obtain⟨A,T,h1,_⟩:=h.Dg;intro x i;by_cases e:x=b
 .subst e;exact h.box.lt (Nat.succ_pos _)
 .exact h1.lt x (i.imp (fun h=>⟨h,e⟩) fun h=>h)
theorem DF.Ho{F C:Nat->Prop}{W:World}{b bt N:Nat}{l:List α}(h:DF g F C W b bt l N):∀x,F x->¬C x:=by
 obtain⟨A,T,h1,_⟩:=h.Dg;intro x i;by_cases e:x=b
 .subst e;exact h.fb.2
 .exact h1.Ho x ⟨i,e⟩
theorem Dn{F C:Nat->Prop}{W:World}{b bt N:Nat}{l:List α}(o:Yf g.toAvK)(h:DF g F C W b bt l N):AB prog o.ft [.pointer (some ⟨b,0,none⟩)] (fun v' w'=>v'=.pointer (some ⟨bt,0,none⟩)/\w'=W) W:=by
 apply o.tree;unfold TG;refine AW (fun _ W'=>W'=W) ?_ ?_
 .rintro _ _ rfl _;rename World=>W
  refine AH ?_;rw[AG,AI];exact AL (h.box.cells 0 _ rfl) ⟨rfl,rfl⟩
 .refine AH ?_;refine Bl (h.box.cells 0 _ rfl) ?_;exact Cs (AT rfl)
theorem Zb{C:Nat->Prop}{W:World}{b:Nat}(o:Yf g.toAvK)(B:Bx W b [.pointer none])(hb:¬C b)(hC:∀x,C x->x<W.heap.size) :
  AB prog o.ft [.pointer (some ⟨b,0,none⟩)] (fun v' w'=>∃bt F,v'=.pointer (some ⟨bt,0,none⟩)/\DF g F C w' b bt [] 0/\(∀x,F x->x=b\/W.heap.size<=x)/\Mod (fun x=>x=b) W w') W:=by
 apply o.tree;unfold TG;have J:=B.lt (Nat.succ_pos _);refine AW (fun _ W'=>∃bt F,DF g F C W' b bt [] 0/\(∀x,F x->x=b\/W.heap.size<=x)/\Mod (fun x=>x=b) W W') ?_ ?_
 .rintro _ W' ⟨bt,F,h,S,T⟩ _;refine AH ?_;rw[AG,AI];exact AL (h.box.cells 0 _ rfl) ⟨bt,F,rfl,h,S,T⟩
 .refine AH ?_;refine Bl (B.cells 0 _ rfl) ?_;refine⟨none,rfl,Ao ?_⟩;have y:Instr.fill (fun i=>[(0,1),(1,1),(2,1)][i]?) [Value.nilFunc,.nilFunc,.nilFunc].toArray [(0,g.vm),(1,g.vc),(2,g.vd)]=some [g.vm,g.vc,g.vd].toArray:=by
   rw[Ce (vs:=[g.vm]) (off:=0) (len:=1) rfl o.dh rfl (by decide),Ce (vs:=[g.vc]) (off:=1) (len:=1) rfl o.dq rfl (by simp[Hs]),Ce (vs:=[g.vd]) (off:=2) (len:=1) rfl o.di rfl (by simp[Hs]),Ek];rfl
  refine⟨_,y,?_⟩;refine AA (TD (g:=g) hC) ?_;rintro _ w4 ⟨bt,F,rfl,U,E,V,O⟩;refine AH ?_;rw[AG,AI];refine(B.grow O).st (q:=0) (show 0<1 by decide) rfl rfl fun Y X Q=>?_;have I:=V.mod Q fun x j e=>by
   rcases j with j|j
   .have:=E x j;omega
   .exact hb (e▸j)
  refine⟨bt,fun x=>F x\/x=b,⟨X,?_,.inr rfl,hb⟩,fun x j=>?_,(O.mono fun _ _ h=>h.elim).trans Q⟩
  .have e:(fun x=>(F x\/x=b)/\x≠b)=F:=by
    funext x
    refine propext ⟨fun h=>h.1.elim (fun h=>h) fun e=>(h.2 e).elim,fun h=>⟨.inl h,fun e=>?_⟩⟩;have:=E x h;omega
   rw[e];exact I
  .rcases j with j|j
   .exact .inr (E x j)
   .exact .inl j
theorem LA{F C:Nat->Prop}{W:World}{b bt N:Nat}{l:List α}(o:Yf g.toAvK)(h:DF g F C W b bt l N):AB prog o.fl [.pointer (some ⟨b,0,none⟩)] (fun v' w'=>v'=.int .i64 (Tr.sz g.k.μ l)/\Grow W w') W:=by
 apply o.len;unfold ae;refine Cs (AT ?_);refine AA (Dn o h) ?_;rintro _ _ ⟨rfl,rfl⟩;rename World=>W
 obtain⟨A,T,h1,i,x,j,y⟩:=h.Dg;have:=OS h1 i;rw[j] at this;exact this
theorem TL{C:Nat->Prop}{W:World}{b:Nat}(o:Yf g.toAvK)(j:Bx W b [.pointer none])(hb:¬C b)(hC:∀x,C x->x<W.heap.size) :
  AB prog o.fl [.pointer (some ⟨b,0,none⟩)] (fun v' w'=>v'=.int .i64 0/\∃bt F,DF g F C w' b bt [] 0/\(∀x,F x->x=b\/W.heap.size<=x)/\Mod (fun x=>x=b) W w') W:=by
 apply o.len;unfold ae;refine Cs (AT ?_);refine AA (Zb o j hb hC) ?_;rintro _ I ⟨bt,F,rfl,h,y,B⟩;obtain⟨A,T,k1,k2,J,E,O⟩:=h.Dg;have:=OS k1 k2;rw[E] at this;refine AA this ?_;rintro _ w2 ⟨rfl,i⟩;exact⟨rfl,bt,F,h.grow i,y,B.trans (i.mono fun _ _ h=>h.elim)⟩
def Oj(i j n:Int):Int:=if i<0 then 5 else if j<i then 5 else if n<j then 5 else 0
theorem Ib{F C:Nat->Prop}{W:World}{b bt N:Nat}{l:List α}{i j:Int}(o:Yf g.toAvK)(h:DF g F C W b bt l N):AB prog o.fb [.pointer (some ⟨b,0,none⟩),.int .i64 i,.int .i64 j] (fun v' w'=>v'=.int .i64 (Oj i j (Tr.sz g.k.μ l))/\Grow W w') W:=by
 apply o.dR;unfold V7 Oj;refine Cs (AT ?_);rw[Ax];refine AE (fun e=>⟨by rw[if_pos e],Mod.refl _ _⟩) fun x=>?_;rw[BK];refine AE (fun e=>⟨by rw[if_neg x,if_pos e],Mod.refl _ _⟩) fun y=>?_;refine AA (LA o h) ?_;rintro _ I ⟨rfl,B⟩;rw[BK];refine AE (fun e=>⟨by rw[if_neg x,if_neg y,if_pos e],B⟩) fun E=>⟨by rw[if_neg x,if_neg y,if_neg E],B⟩
theorem Hr{F C S:Nat->Prop}{W:World}{b bt N i j:Nat}{l L:List α}{v:Value}(O:P0 g)(h:DF g F C W b bt l N)(hN:N+L.length<=109951162000)(Q:BJ S g.E (g.R C) W v L)(U:∀x,S x->¬F x)(y:i<=j)(V:j<=1099511627776)
 (X:Db g l)(Y:Db g (g.k.Bm l i j L))(Z:Db g ((g.k.split l i).1.getLast?.toList++L++(g.k.split (g.k.split l i).2 (j-i)).2.head?.toList)) :
  AB prog g.fReplace [.pointer (some ⟨bt,0,none⟩),.int .i64 (i:Int),.int .i64 (j:Int),v] (fun _ w'=>∃F',(∀x,F x->F' x)/\(∀x,F' x->F x\/W.heap.size<=x)/\DF g F' C w' b bt (g.k.Bm l i j L) (N+L.length+4)/\Mod F W w') W:=by
 obtain⟨A,T,h1,h2,h3,rfl,h5⟩:=h.Dg;have B:=h.box.lt (Nat.succ_pos _);refine AA (O h1 (by omega) h2 h3 Q (fun x o e=>U x o e.1) y V X Y Z) ?_;rintro _ w' ⟨T',A',e1,⟨F',k1,k2,k3,I⟩,e2,e3,e4⟩;refine⟨fun x=>F' x\/x=b,fun x o=>?_,fun x o=>?_,⟨h.box.mod I fun e=>e.2 rfl,⟨A',T',?_,e2,e3,e1,by omega⟩,.inr rfl,h.fb.2⟩,I.mono fun x _ e=>e.1⟩
 .by_cases e:x=b
  .exact .inr e
  .exact .inl (k1 x ⟨o,e⟩)
 .rcases o with o|rfl
  .exact(k2 x o).imp (fun h=>h.1) fun h=>h
  .exact .inl h.fb.1
 .have e:(fun x=>(F' x\/x=b)/\x≠b)=F':=by
   funext x
   refine propext ⟨fun h=>h.1.elim (fun h=>h) fun e=>(h.2 e).elim,fun o=>⟨.inl o,fun e=>?_⟩⟩;rcases k2 x o with J|J
   .exact J.2 e
   .omega
  rw[e];exact k3
end Go.Proofs.YtmdhibffnkhcnaaGreatDoor
namespace Go.Proofs.YtmdhibffnkhcnaaGreatDoor
open Go Go.K Proofs.Tryz
abbrev BU(l:List Ck):List Int:=l.flatMap Ck.l
theorem GG:Ck.kd.Ej Ck.l where
 size:=fun _=>rfl
 cut1:=fun _ _ _ _=>⟨rfl,rfl⟩
 melds:=fun a b c h=>by
  simp only[Ck.kd] at h;split at h
  .rename_i i;cases h;have j:a.jn b=⟨a.l++b.l,by simpa using i⟩:=dif_pos i;rw[j]
  .cases h
theorem Fo(l:List Ck):Tr.sz Ck.kd.μ l=(BU l).length:=GG.sz l
theorem NM(l:List Ck):Tr.mk Ck.kd.μ l=BQ (BU l):=by
 induction l with
 |nil=>rfl
 |cons c l i=>rw[Tr.Ca,i];show BQ c.l+BQ (BU l)=BQ (c.l++BU l);rw[BQ,BQ,BQ,List.count_append]
theorem O6(l r:Tr Ck)(i:Nat)(x:Ck):BU (Tr.node l i x r).toL=BU l.toL++(x.l++BU r.toL):=by
 simp[BU,Tr.toL]
theorem Cz(l:List Int):BQ l<=l.length:=List.count_le_length
theorem EZ(a b:List Int):BQ (a++b)=BQ a+BQ b:=List.count_append
theorem KL(a b:List Int)(k:Nat):GW (a++b) k=if k<BQ a then GW a k else(GW b (k-BQ a)).map (·+a.length):=by
 induction a generalizing k with
 |nil=>simp[BQ]
 |cons r a j=>
  have i:∀o:Option Nat,(o.map (·+a.length)).map (·+1)=o.map (·+(r::a).length):=fun o=>by cases o<;>simp;omega
  rw[List.cons_append,GC,GC];by_cases h:r=10
  .have e:BQ (r::a)=BQ a+1:=by rw[h];simp[BQ]
   rw[if_pos h,if_pos h,e];cases k with
   |zero=>simp
   |succ k=>
    simp only[j];by_cases hk:k<BQ a
    .rw[if_pos hk,if_pos (by omega)]
    .rw[if_neg hk,if_neg (by omega),i,Nat.add_sub_add_right]
  .have e:BQ (r::a)=BQ a:=by simp[BQ,h]
   rw[if_neg h,if_neg h,e,j];by_cases hk:k<BQ a
   .rw[if_pos hk,if_pos hk]
   .rw[if_neg hk,if_neg hk,i]
theorem Mg{l:List Int}{k:Nat}(h:k<BQ l):∃i,GW l k=some i/\i<l.length:=by
 induction l generalizing k with
 |nil=>simp[BQ] at h
 |cons r a j=>
  rw[GC];by_cases e:r=10
  .rw[if_pos e];cases k with
   |zero=>exact⟨0,rfl,by simp⟩
   |succ k=>
    obtain⟨i,h1,o⟩:=j (k:=k) (by rw[e] at h;simp[BQ] at h ⊢;omega);exact⟨i+1,by simp[h1],by simp;omega⟩
  .rw[if_neg e];obtain⟨i,h1,o⟩:=j (k:=k) (by simpa[BQ,e] using h);exact⟨i+1,by simp[h1],by simp;omega⟩
def QR(A:ArS Ck)(v:Value):Nat:=match v with
 |.int _ i=>if i<0 then 0 else match A.f i.toNat with
  |some n=>(n.h:Int).toNat
  |none=>0
 |_=>0
theorem Ee{A:ArS Ck}{t:Tr Ck}(h:Tr.Holds Ck.kd.μ A.f t):QR A (.int .i64 t.root)=t.ht:=by
 cases t with
 |nil=>rfl
 |node l i x r=>
  obtain⟨_,_,j⟩:=h;have e:QR A (.int .i64 ((i:Nat):Int))=match A.f i with
   |some n=>(n.h:Int).toNat
   |none=>0:=by
   unfold QR;simp only[Int.toNat_natCast];exact if_neg (by omega)
  show QR A (.int .i64 ((i:Nat):Int))=_;rw[e,j];simp[Tr.Dc]
theorem Pm{v0 v1 v2:Value}{K:Cont}{w:World}(h:Sr Fq v0 v1 v2 K w):AB prog 108 [v0,v1,v2] K w:=Wi h
theorem RP{v0 v1 v2:Value}{K:Cont}{w:World}(h:Ye Fq v0 v1 v2 K w):AB prog 91 [v0,v1,v2] K w:=aq h
theorem PG{v0:Value}{K:Cont}{w:World}(h:TU Fq v0 K w):AB prog 90 [v0] K w:=Zq h
set_option maxRecDepth 4000 in
theorem O0{F C:Nat->Prop}{W:World}{b p:Nat}{A:ArS Ck}{T:Tr Ck}(h:DJ As.toAvT F C W b T.root A)(hh:Tr.Holds As.k.μ A.f T)(hp:p<=1099511627776)(hb:Db As.toAvT T.toL) :
  AB prog 108 [.pointer (some ⟨b,0,none⟩),.int .i64 (p:Int),.func (.func 109) #[] #[]] (fun v' w'=>v'=.int .i64 (BQ ((BU T.toL).take p):Int)/\Grow W w') W:=by
 apply Pm;unfold Sr;refine AH ?_;obtain⟨c,pl,fr,V⟩:=id h;refine Bl (V.box.cells 4 _ rfl) ?_;have X:(BU T.toL).length<=1099511627776:=by rw[<-Fo];exact hb.1
 have hN:BQ ((BU T.toL).take p)<=1099511627776:=Nat.le_trans (Cz _) (by rw[List.length_take];omega);generalize Y:BQ ((BU T.toL).take p)=N at hN;refine Ae (fun vs W'=>∃(t:Tr Ck) (q m:Nat),vs=[.int .i64 (q:Int),.int .i64 (m:Int),.int .i64 t.root]/\Tr.Holds As.k.μ A.f t/\(BU t.toL).length<=1099511627776/\q<=p/\m+BQ ((BU t.toL).take q)=N/\Grow W W')
  (fun vs _=>QR A (nth vs 2)) ⟨T,p,0,rfl,hh,X,Nat.le_refl _,by rw[Nat.zero_add];exact Y,Mod.refl _ _⟩ ?_
 rintro vs W1 ⟨t,q,m,rfl,y,J,hq,hm,O⟩ _;simp only[Fx];rw[Br];cases t with
 |nil=>
  refine Ab (fun _=>?_) fun e=>(e rfl).elim;have:m=N:=by simpa[BU,Tr.toL,BQ] using hm
  subst this;exact⟨rfl,O⟩
 |node l i x r=>
  obtain⟨hl,hr,hi⟩:=id y;have Z:=O6 l r i x;rw[Z] at hm J;rw[List.length_append,List.length_append] at J;have h1:=h.grow O;refine Ab (fun e=>by simp only[Tr.root] at e;omega) fun _=>?_;simp only[Tr.root];refine DQ h1 hi fun rc bx w3 g3 an B Q=>?_;have o:=As.rlen Q;obtain rfl:rc=x.cells:=Q;have h3:=h1.grow g3;refine Bl (B.cells (As.E+0) _ (by rw[AU o];rfl)) ?_;refine AA (Bo h3 hl) ?_;rintro _ w5 ⟨rfl,g5⟩;refine JY ?_;have S:Grow w5 w5.drew:=Mod.drew _ _;have U:=(g3.trans g5).trans S;obtain⟨c,pl,fr,V⟩:=id h1;have a1:=V.mod U fun _ _ h=>h;have B5:=(B.grow g5).grow S;refine Ag (fun _ _=>False) ?_;refine AH ?_;rw[AG,AI,AG,AI];refine Aa ⟨a1.box.cells 0 _ rfl,fun _ _ e=>e⟩ ?_;rw[AG,AI];refine IC (g:=As.toAvT) (r:=x.cells) o (fun j v hv=>⟨B5.cells j v (by rw[List.getElem?_append_left (List.getElem?_eq_some_iff.1 hv).1];exact hv),fun _ _ e=>e⟩) ?_;refine Ap (As.meas (C:=C) (x:=x) rfl) ?_;rintro _ w6 ⟨rfl,g6⟩;refine⟨g6.mono fun _ _ h=>h.elim,?_⟩;refine BM ?_;have I:=U.trans g6;have B6:=B5.grow g6;have es:Tr.sz As.k.μ l.toL=(BU l.toL).length:=Fo _;have em:Tr.mk As.k.μ l.toL=BQ (BU l.toL):=NM _;have a6:(As.k.μ x).1=x.l.length:=rfl;have a7:(As.k.μ x).2=BQ x.l:=rfl;rw[es,em,a6,a7,HO];have av:=Cz x.l;have ax:=Cz (BU l.toL);refine AE (fun ay=>?_) fun al=>?_
  .rw[List.take_append_of_le_length (by omega)] at hm;refine Bl (B6.cells (As.E+0) _ (by rw[AU o];rfl)) ?_;refine⟨⟨l,q,m,rfl,hl,by omega,hq,hm,O.trans I⟩,?_⟩;have e1:QR A (.int .i64 (i:Int))=(Tr.node l i x r).ht:=Ee y;have e2:QR A (.int .i64 (Tr.Dc As.k.μ (.node l i x r) x l.root r.root).l)=l.ht:=Ee hl;refine Nat.lt_of_le_of_lt (Nat.le_of_eq e2) (Nat.lt_of_lt_of_le ?_ (Nat.le_of_eq e1.symm));simp only[Tr.ht];omega
  have a8:(BU l.toL).length<q:=by omega
  rw[List.take_append,List.take_of_length_le (by omega:(BU l.toL).length<=q),EZ] at hm;refine Bw (by omega) ?_;refine HU (fun b0=>?_) fun b1=>?_
  .rw[List.take_append_of_le_length (by omega)] at hm;refine Bw (by omega) ?_;rw[AG,AI];refine Ah (vs:=x.cells) o (fun j u hu=>by rw[AI];exact B6.cells j u (by rw[List.getElem?_append_left (List.getElem?_eq_some_iff.1 hu).1];exact hu)) ?_;refine Fu (by omega) (by omega) ?_;refine G7 (by kernel_rfl) ?_;refine AA (OO x _) ?_;rintro _ b2 ⟨rfl,ak⟩;refine Bw (by omega) ⟨?_,(O.trans I).trans ak⟩;congr 2;omega
  .rw[List.take_append,List.take_of_length_le (by omega:x.l.length<=q-(BU l.toL).length),EZ] at hm;refine Bw (by omega) (Bw (by omega) (Bw (by omega) (Fu (by omega) (by omega) ?_)));refine Bl (B6.cells (As.E+1) _ (by rw[AU o];rfl)) ?_;refine⟨⟨r,q-((BU l.toL).length+x.l.length),m+(BQ (BU l.toL)+BQ x.l),rfl,hr,by omega,by omega,?_,O.trans I⟩,?_⟩
   .rw[Nat.sub_sub] at hm;omega
   .have e1:QR A (.int .i64 (i:Int))=(Tr.node l i x r).ht:=Ee y;have e2:QR A (.int .i64 (Tr.Dc As.k.μ (.node l i x r) x l.root r.root).r)=r.ht:=Ee hr;refine Nat.lt_of_le_of_lt (Nat.le_of_eq e2) (Nat.lt_of_lt_of_le ?_ (Nat.le_of_eq e1.symm));simp only[Tr.ht];omega
theorem bb{w:World}(c:Ck){k i:Nat}(hk:k<=1099511627776)(h:GW c.l k=some i):AB prog 92 [.agg c.cells.toArray,.int .i64 (k:Int)] (fun v w'=>v=.int .i64 (i:Int)/\Grow w w') w:=by
 apply aX;refine Bx.box fun b x hb j B=>?_;refine B.Er c.len ?_;refine AA (NN c hk) ?_;rintro _ w2 ⟨rfl,o⟩;rw[h,dQ];exact B0 (vs:=[_,_]) (by rfl) (B0 (vs:=[_,_]) (by rfl) ⟨rfl,j.trans o⟩)
set_option maxRecDepth 4000 in
theorem Xi{F C:Nat->Prop}{W:World}{b k p:Nat}{A:ArS Ck}{T:Tr Ck}(h:DJ As.toAvT F C W b T.root A)(hh:Tr.Holds As.k.μ A.f T)(hk:k<=1099511627776)(hb:Db As.toAvT T.toL)(hp:GW (BU T.toL) k=some p) :
  AB prog 91 [.pointer (some ⟨b,0,none⟩),.int .i64 (k:Int),.func (.func 92) #[] #[]] (fun v' w'=>v'=.tuple #[.int .i64 (p:Int),.bool true]/\Grow W w') W:=by
 apply RP;unfold Ye;refine AH ?_;obtain⟨c,pl,fr,Y⟩:=id h;refine Bl (Y.box.cells 4 _ rfl) ?_;have ay:(BU T.toL).length<=1099511627776:=by rw[<-Fo];exact hb.1
 refine Ae (fun vs W'=>∃(t:Tr Ck) (q m z:Nat),vs=[.int .i64 (q:Int),.int .i64 (m:Int),.int .i64 t.root]/\Tr.Holds As.k.μ A.f t/\m+(BU t.toL).length<=1099511627776/\q<=k/\GW (BU t.toL) q=some z/\m+z=p/\Grow W W')
  (fun vs _=>QR A (nth vs 2)) ⟨T,k,0,p,rfl,hh,by omega,Nat.le_refl _,hp,Nat.zero_add _,Mod.refl _ _⟩ ?_
 rintro vs W1 ⟨t,q,m,z,rfl,I,O,hq,o,Z,X⟩ _;simp only[Fx];refine AW (fun _ W'=>W'=W1) ?_ ?_;rotate_left
 .rw[Dl];refine AE (fun _=>?_) fun e=>(e (by omega)).elim;rw[Br];refine Ab (fun e=>?_) fun _=>rfl;cases t with
  |nil=>cases o
  |node l i x r=>simp only[Tr.root] at e;omega
 rintro _ _ rfl _;rename World=>W1
 cases t with
 |nil=>cases o
 |node l i x r=>
  obtain⟨hl,hr,hi⟩:=id I;have a1:=O6 l r i x;rw[a1] at o O;rw[List.length_append,List.length_append] at O;have h1:=h.grow X;simp only[Tr.root];refine DQ h1 hi fun rc bx w3 g3 b0 B Q=>?_;have y:=As.rlen Q;obtain rfl:rc=x.cells:=Q;have h3:=h1.grow g3;refine Bl (B.cells (As.E+0) _ (by rw[AU y];rfl)) ?_;refine AA (Bo h3 hl) ?_;rintro _ w5 ⟨rfl,g5⟩;refine JY ?_;have S:Grow w5 w5.drew:=Mod.drew _ _;have U:=(g3.trans g5).trans S;obtain⟨c,pl,fr,Y⟩:=id h1;have a6:=Y.mod U fun _ _ h=>h;have B5:=(B.grow g5).grow S;refine Ag (fun _ _=>False) ?_;refine AH ?_;rw[AG,AI,AG,AI];refine Aa ⟨a6.box.cells 0 _ rfl,fun _ _ e=>e⟩ ?_;rw[AG,AI];refine IC (g:=As.toAvT) (r:=x.cells) y (fun j v hv=>⟨B5.cells j v (by rw[List.getElem?_append_left (List.getElem?_eq_some_iff.1 hv).1];exact hv),fun _ _ e=>e⟩) ?_;refine Ap (As.meas (C:=C) (x:=x) rfl) ?_;rintro _ w6 ⟨rfl,g6⟩;refine⟨g6.mono fun _ _ h=>h.elim,?_⟩;refine BM ?_;have J:=U.trans g6;have B6:=B5.grow g6;have es:Tr.sz As.k.μ l.toL=(BU l.toL).length:=Fo _;have em:Tr.mk As.k.μ l.toL=BQ (BU l.toL):=NM _;have a7:(As.k.μ x).1=x.l.length:=rfl;have a8:(As.k.μ x).2=BQ x.l:=rfl;rw[es,em,a7,a8,Ax];have b1:=Cz x.l;have b2:=Cz (BU l.toL);rw[KL] at o;refine AE (fun b3=>?_) fun av=>?_
  .rw[if_pos (by omega)] at o;refine Bl (B6.cells (As.E+0) _ (by rw[AU y];rfl)) ?_;refine⟨⟨l,q,m,z,rfl,hl,by omega,hq,o,Z,X.trans J⟩,?_⟩;have e1:QR A (.int .i64 (i:Int))=(Tr.node l i x r).ht:=Ee I;have e2:QR A (.int .i64 (Tr.Dc As.k.μ (.node l i x r) x l.root r.root).l)=l.ht:=Ee hl;refine Nat.lt_of_le_of_lt (Nat.le_of_eq e2) (Nat.lt_of_lt_of_le ?_ (Nat.le_of_eq e1.symm));simp only[Tr.ht];omega
  rw[if_neg (by omega),KL] at o;refine Bw (by omega) ?_;refine HU (fun b4=>?_) fun b5=>?_
  .rw[if_pos (by omega)] at o;obtain⟨i',V,rfl⟩:=Option.map_eq_some_iff.1 o;have ax:i'<x.l.length:=by
    obtain⟨i2,k1,k2⟩:=Mg (l:=x.l) (k:=q-BQ (BU l.toL)) (by omega);rw[V] at k1;cases k1;exact k2
   refine Bw (by omega) ?_;rw[AG,AI];refine Ah (vs:=x.cells) y (fun j u hu=>by rw[AI];exact B6.cells j u (by rw[List.getElem?_append_left (List.getElem?_eq_some_iff.1 hu).1];exact hu)) ?_;refine Fu (by omega) (by omega) ?_;refine G7 (by kernel_rfl) ?_;refine AA (bb x (by omega) V) ?_;rintro _ b6 ⟨rfl,ak⟩;refine Bw (by omega) ⟨?_,(X.trans J).trans ak⟩;have e:m+(BU l.toL).length+i'=p:=by omega
   rw[e]
  .rw[if_neg (by omega)] at o;obtain⟨z1,al,rfl⟩:=Option.map_eq_some_iff.1 o;obtain⟨z2,an,rfl⟩:=Option.map_eq_some_iff.1 al;refine Bw (by omega) (Bw (by omega) (Bw (by omega) (Fu (by omega) (by omega) ?_)));refine Bl (B6.cells (As.E+1) _ (by rw[AU y];rfl)) ?_;refine⟨⟨r,q-(BQ (BU l.toL)+BQ x.l),m+((BU l.toL).length+x.l.length),z2,rfl,hr,by omega,by omega,?_,by omega,X.trans J⟩,?_⟩
   .rw[<-Nat.sub_sub];exact an
   .have e1:QR A (.int .i64 (i:Int))=(Tr.node l i x r).ht:=Ee I;have e2:QR A (.int .i64 (Tr.Dc As.k.μ (.node l i x r) x l.root r.root).r)=r.ht:=Ee hr;refine Nat.lt_of_le_of_lt (Nat.le_of_eq e2) (Nat.lt_of_lt_of_le ?_ (Nat.le_of_eq e1.symm));simp only[Tr.ht];omega
end Go.Proofs.YtmdhibffnkhcnaaGreatDoor
namespace Go.K
open Go
theorem Jw.grow{st:Prop}{P:Program}{x N:Nat}{j:List Value}{i:Nat->List Value}{y:Nat->Prop}{w w':World}(h:Jw st P x j i N y w)(g:Grow w w'):Jw st P x j i N y w':=by
 intro l J B E I h0 hJ QD Ix hr;refine h l J B E (g.trans I) h0 hJ QD (fun k O W hk b hb o=>?_) hr;exact(Ix k O W hk b (Nat.lt_of_lt_of_le hb g.size) o).trans (g.same b hb fun h=>h)
structure Xr {α:Type} (e k:Nat) (R:World->List Value->α->Prop) (B c m:Nat) (It:Nat->Prop) (W:World) (out:Value) (l:List α):Prop where
 box:Bx W c [out]
 row:AF B e k R W out l
 hc:∀g,out.ownBlock=some g->g≠c/\g≠m/\g≠m+1/\¬It g
end Go.K
namespace Go.Proofs.YtmdhibffnkhcnaaGreatDoor
open Go Go.K Proofs.Tryz
theorem Mi{W:World}{gf:Nat}{Q vals:List Value}{Rd:Nat->Prop}{X:List Spn}(hs:Jw True prog gf Q (fun k=>[vals.getD k undef]) vals.length Rd W)(a7:DE gf=true)(hv:vals.length=X.length)(E:∀m (h1:m<vals.length) (U:m<X.length),vals[m]=.agg X[m].cells.toArray)(Ix:∀x,Rd x->x<W.heap.size)(hl:X.length<=109951162777) :
  AB prog 98 [.func (.func gf) #[] Q.toArray] (fun v' w'=>AF W.heap.size 108 2 (fun _ r x=>r=Spn.cells x) w' v' X/\Grow W w') W:=by
 apply ZU;apply Xe;refine FI rfl fun c y hc g1 B=>?_;have b1:=B.lt (Nat.succ_pos _);have z1:=g1.size;refine⟨True,gf,Q,_,_,_,rfl,a7,hs.grow g1,fun k _=>rfl,?_⟩;refine⟨fun k I W'=>∃out,Xr 108 2 (fun _ r x=>r=Spn.cells x) y.heap.size c y.heap.size I W' out (X.take k)/\Mod (fun x=>x=c) y W'/\k<=X.length,fun _ _ _=>False,⟨_,⟨B,AF.nil,fun g i=>nomatch i⟩,Mod.refl _ _,Nat.zero_le _⟩,?_,fun x I a8 W W' h=>h.elim,?_,?_,?_,fun x I W h=>h.elim⟩
 .rintro k I a8 W' b2 ⟨out,q,m,hk⟩ hm j;have V:=q.box.lt (Nat.succ_pos _);have hn:∀x,x<y.heap.size->¬((¬True/\I x)\/x=y.heap.size\/x=y.heap.size+1):=fun x E=>by rintro(⟨h,_⟩|h|h);exact h trivial;all_goals omega
  refine⟨out,⟨q.box.mod hm (hn c (by omega)),AF.mod q.row hm (fun g i=>?_) fun _ _ _ h=>h,fun g i=>?_⟩,m.next hm fun x E=>?_,hk⟩
  .obtain⟨_,U,Y,_⟩:=q.hc g i;rintro(⟨h,_⟩|h|h)
   .exact h trivial
   .exact U h
   .exact Y h
  .obtain⟨h1,U,Y,h4⟩:=q.hc g i;refine⟨h1,U,Y,fun h=>?_⟩;rcases(j g h).1 with h|h
   .exact h4 h
   .have:=(AF.BL q.row g i).2;omega
  .intro e;exact absurd e (hn x E)
 .rintro k I W' ⟨out,q,m,hk⟩ b hb hr;exact m.same b hb fun e=>by have:=Ix b hr;omega
 .rintro k I W' hk ⟨out,q,m,b3⟩ hz j;have J:k<X.length:=by omega
  have S:(nth [vals.getD k undef] 0)=.agg X[k].cells.toArray:=by
   show vals.getD k undef=_;rw[List.getD_eq_getElem?_getD,List.getElem?_eq_getElem hk,Option.getD_some,E k hk J]
  rw[S];refine Bx.new (vs:=X[k].cells) rfl rfl (Spn.one _) fun b5 W5 b4 Z B5=>?_;refine Kf Z hz j (fun _ _ h=>h.elim) fun W6 o=>?_;have z5:=Z.size;have z6:=o.size;have V:=q.box.lt (Nat.succ_pos _);have ak:=B5.lt (Nat.succ_pos _);have B6:=(q.box.grow Z).mod o (by omega);have al:=B5.mod o (by omega);have o6:AF y.heap.size 108 2 (fun _ r x=>r=Spn.cells x) W6 out (X.take k):=AF.mod (AF.mod (R':=fun _ r x=>r=Spn.cells x) q.row Z (fun _ _ h=>h) fun _ _ _ h=>h) o (fun g i=>(q.hc g i).2.2.1) fun _ _ _ h=>h;refine AL (B6.cells 0 _ rfl) ?_;refine al.Er rfl ?_;have b6:(X.take k).length<=X.length:=by simp;omega
  refine DO Cl.elE o6 (by omega) (cs:=X[k].cells) (x:=X[k]) (DP (v:=.agg X[k].cells.toArray) rfl (by decide) rfl rfl) rfl rfl (fun _ _ _ h=>by subst h;exact Spn.one _) (fun _ _ _ _ _ _ h=>h) (by show _*16<=_;omega) (by simp only[maxLen];omega) fun a1 W9 o9 m9 n9=>?_;have z9:=m9.size;have b7:=AF.BL o6;have B9:=B6.mod m9 fun e=>(q.hc c e).1 rfl;obtain⟨an,av⟩:=o9.one;refine B9.st (q:=0) (show 0<1 by decide) an av fun ax ay T=>?_;have b8:=T.size;have O:Mod (fun x=>x=c\/out.ownBlock=some x) W6 ax:=(m9.mono fun _ _ e=>.inr e).trans (T.mono fun _ _ e=>.inl e);refine⟨N3 O (by omega) (fun b hb=>by have:=(j b hb).1;omega) (fun b _ e=>?_),a1,⟨ay,?_,fun g i=>?_⟩,?_,by omega⟩
  .rcases e with rfl|e
   .exact⟨fun h=>by have:=(j b h).2;omega,by omega,by omega⟩
   .obtain⟨h1,U,Y,h4⟩:=q.hc b e;exact⟨h4,U,Y⟩
  .have b0:X.take (k+1)=X.take k++[X[k]]:=by rw[List.take_add_one];simp[J]
   rw [b0];exact AF.mod o9 T (fun g i e=>by
    rcases n9 g i with h|h
    .exact(q.hc g h).1 e
    .omega) fun _ _ _ h=>h
  .rcases n9 g i with h|h
   .exact q.hc g h
   .refine⟨by omega,by omega,by omega,fun hI=>by have:=(j g hI).1;omega⟩
  .refine((m.next Z fun _ _ h=>h.elim).next o fun x E e=>by omega).next O fun x E e=>?_;rcases e with e|e
   .exact e
   .have:=(AF.BL q.row x e).1;omega
 .rintro I W' ⟨out,q,m,hk⟩ _ _ hd;refine AL (q.box.cells 0 _ rfl) ⟨hd,?_⟩;have a6:Mod (fun b=>b=y.heap.size) W' (W'.putObj y.heap.size (.deferred none)):=Mod.putObj _ _ _ rfl;rw[hv,List.take_length] at q;refine⟨AF.base (AF.mod q.row a6 (fun g i=>(q.hc g i).2.1) fun _ _ _ h=>h) fun g i=>?_,?_⟩
  .have:=(AF.BL q.row g i).1;omega
  exact(g1.next m fun x E e=>by omega).next a6 fun x E e=>by omega
abbrev FN:Nat->Prop:=fun _=>False
abbrev DT:World->List Value->Spn->Prop:=fun _ r x=>r=Spn.cells x
abbrev EB(l:List Spn):Nat:=Tr.sz Spn.kd.μ l
theorem df(l:List Spn):Tr.mk Spn.kd.μ l=0:=by
 induction l with
 |nil=>rfl
 |cons x l i=>rw[Tr.Ca,i];rfl
theorem YE{l:List Spn}(h:EB l<=1099511627776):Db Cl.toAvT l:=⟨h,by show Tr.mk Spn.kd.μ l<=_;rw[df];omega⟩
theorem DV(l:List Spn):EB l=(l.flatMap Spn.u).length:=Spn.De.sz l
theorem Su(l:List Spn)(i j:Nat):(Spn.kd.over l i j).length<=l.length:=by
 induction l generalizing i j with
 |nil=>exact Nat.le_refl _
 |cons x l o=>
  simp only[Kd.over,List.length_append,List.length_cons];have:=o (i-(Spn.kd.μ x).1) (j-(Spn.kd.μ x).1);split<;>simp<;>omega
theorem Iy{F:Nat->Prop}{W:World}{b bt N i j:Nat}{l:List Spn}(h:DF Cl.toAvT F FN W b bt l N)(hN:N<=109951162000)(Q:i<=j)(S:j<=EB l)(U:EB l<=1099511627776)(hl:l.length<=109951162777) :
  AB prog 48 [.pointer (some ⟨b,0,none⟩),.int .i64 (i:Int),.int .i64 (j:Int)] (fun v' w'=>∃y,v'=.tuple #[y,.int .i64 0]/\AF W.heap.size 108 2 DT w' y (Spn.kd.over l i j)/\Grow W w') W:=by
 apply aL;refine AA (Ib G4 h) ?_;rintro _ V ⟨rfl,B⟩;have hb:Oj (i:Int) (j:Int) ((Tr.sz Cl.k.μ l:Nat):Int)=0:=by
  have:j<=Tr.sz Cl.k.μ l:=S;unfold Oj;rw[if_neg (by omega),if_neg (by omega),if_neg (by omega)]
 rw[hb,Br];refine Ab (fun _=>?_) fun e=>(e rfl).elim;refine AA (Dn G4 (h.grow B)) ?_;rintro _ _ ⟨rfl,rfl⟩;rename World=>V
 obtain⟨A,T,h1,Y,Z,rfl,h5⟩:=(h.grow B).Dg;refine AA (QS (g:=Cl) h1 (by omega) Y Z (YE U) (by omega) (by omega)) ?_;rintro _ w3 ⟨a1,vals,Rd,rfl,J,E,I,Ix,o⟩;have ho:=Su T.toL i j;refine AA (Mi (X:=Spn.kd.over T.toL i j) o (by kernel_rfl) E (fun m q1 q2=>?_) (fun x hx=>(Ix x hx).2) (by omega)) ?_
 .obtain⟨r,e1,e2⟩:=I m q1 q2;rw[e1,RF];have e3:r=Spn.cells (Spn.kd.over T.toL i j)[m]:=e2;rw[e3]
 rintro y w4 ⟨O,g4⟩;have s1:=B.size;have s3:=J.size;exact⟨y,rfl,AF.base O fun g hg=>by have:=(AF.BL O g hg).1;omega,(B.trans J).trans g4⟩
theorem X8{S:Nat->Prop}{W:World}{v:Value}{L:List Spn}(I:BJ S 2 DT W v L)(y:∀s∈L,0<=s.id)(hl:L.length<=109951162777) :
  AB prog 236 [v,.func (.func 237) #[] #[]] (fun v' w'=>v'=.bool false/\Grow W w') W:=by
 apply Vi;have key:AB prog 270 [v,.func (.func 237) #[] #[]] (fun v' w'=>v'=.int .i64 (-1)/\Grow W w') W:=by
  apply Xf;obtain⟨a,c,rfl,hm⟩:=I.shape;have E:=I.HH (by decide);rw[AS];refine Ae (fun vs W'=>∃i:Nat,i<=L.length/\vs=[.int .i64 i]/\Grow W W') (fun vs _=>L.length-ED vs 0) ⟨0,Nat.zero_le _,rfl,Mod.refl _ _⟩ ?_;rintro vs T ⟨i,U,rfl,x⟩ _;simp only[CN,List.headD_cons];rw[Ax];refine AE (fun J=>?_) fun O=>⟨trivial,x⟩;have o:i<L.length:=by omega
  obtain⟨p,r,rfl,_,hr,hc,rfl⟩:=E.get o;refine AZ o (Ah (vs:=L[i].cells) rfl (fun j u hu=>by rw[Addr.add_add];exact x.cell (hc j u hu) fun h=>h) ?_);refine G7 (by kernel_rfl) ?_;apply V4;refine Bx.box fun b w2 hb Q B=>?_;refine Bl (B.cells 0 _ rfl) ?_;rw[Ax];refine AE (fun e=>by omega) fun _=>?_;refine Bl (B.cells 1 _ rfl) ?_;rw[Ax];have:=y L[i] (List.getElem_mem o);refine AE (fun e=>by omega) fun _=>?_;rw[AR,AQ (by omega)];exact⟨⟨i+1,o,rfl,x.trans Q⟩,by rw[DW,DW];omega⟩
 refine AA key ?_;rintro _ V ⟨rfl,x⟩;rw[Dl];exact⟨rfl,x⟩
theorem Qs{l L:List Spn}{i j:Nat}(h:EB l+EB L<=1099511627776)(x:i<=j)(Q:j<=EB l):EB (Spn.kd.Bm l i j L)+(j-i)=EB l+EB L/\EB ((Spn.kd.split l i).1.getLast?.toList++L++(Spn.kd.split (Spn.kd.split l i).2 (j-i)).2.head?.toList)<=EB l+EB L:=by
 have e:=Spn.De.Bm l L x;have B:=congrArg List.length e;rw[<-DV,List.length_append,List.length_append,List.length_take,List.length_drop,<-DV,<-DV] at B;refine⟨by omega,?_⟩;have E:=EW (g:=Cl.toAvT) l i;have I:=EW (g:=Cl.toAvT) (Spn.kd.split l i).2 (j-i);have J:∀m:List Spn,EB m.getLast?.toList<=EB m:=fun m=>by
  rcases List.eq_nil_or_concat m with rfl|⟨o,y,rfl⟩
  .exact Nat.le_refl _
  .simp[EB,Tr.sz]
 have O:∀m:List Spn,EB m.head?.toList<=EB m:=fun m=>by
  cases m with
  |nil=>exact Nat.le_refl _
  |cons y m=>simp[EB,Tr.sz]
 have h1:=J (Spn.kd.split l i).1;have S:=O (Spn.kd.split (Spn.kd.split l i).2 (j-i)).2;unfold EB at *;rw[Tr.CH,Tr.CH];have T:Tr.sz Spn.kd.μ (Spn.kd.split l i).1+Tr.sz Spn.kd.μ (Spn.kd.split l i).2=Tr.sz Spn.kd.μ l:=E.1;have U:Tr.sz Spn.kd.μ (Spn.kd.split (Spn.kd.split l i).2 (j-i)).1+Tr.sz Spn.kd.μ (Spn.kd.split (Spn.kd.split l i).2 (j-i)).2=Tr.sz Spn.kd.μ (Spn.kd.split l i).2:=I.1;omega
theorem RJ{F S:Nat->Prop}{W:World}{b bt N i j:Nat}{l L:List Spn}{v:Value}(h:DF Cl.toAvT F FN W b bt l N)(hN:N+L.length<=109951162000)(E:i<=j)(X:j<=EB l)(hs:EB l+EB L<=536870912)(J:BJ S 2 DT W v L)(hS:∀x,S x->¬F x)(O:∀s∈L,0<=s.id) :
  AB prog 151 [.pointer (some ⟨b,0,none⟩),.int .i64 (i:Int),.int .i64 (j:Int),v] (fun v' w'=>v'=.int .i64 0/\∃F',(∀x,F x->F' x)/\(∀x,F' x->F x\/W.heap.size<=x)/\DF Cl.toAvT F' FN w' b bt (Spn.kd.Bm l i j L) (N+L.length+4)/\Mod F W w') W:=by
 apply WN;refine Cs (AT ?_);refine AA (X8 J O (by omega)) ?_;rintro _ w1 ⟨rfl,Y⟩;refine AT ?_;have h1:=h.grow Y;refine AA (Ib G4 h1) ?_;rintro _ w2 ⟨rfl,Z⟩;have hb:Oj (i:Int) (j:Int) ((Tr.sz Cl.k.μ l:Nat):Int)=0:=by
  have:j<=Tr.sz Cl.k.μ l:=X;unfold Oj;rw[if_neg (by omega),if_neg (by omega),if_neg (by omega)]
 rw[hb,Br];refine Ab (fun _=>?_) fun e=>(e rfl).elim;refine AA (LA G4 (h1.grow Z)) ?_;rintro _ w3 ⟨rfl,g3⟩;have Q:Tr.sz Cl.k.μ l=EB l:=rfl;rw[Q,Av,wrap64 (by omega) (by omega),AR,wrap64 (by omega) (by omega),Av,wrap64 (by omega) (by omega)];obtain⟨a,c,rfl,hm⟩:=J.shape;have T:=J.HH (by decide);rw[AS];have U:=(Y.trans Z).trans g3;refine Ae (fun vs W'=>∃k:Nat,k<=L.length/\vs=[.int .i64 ((536870912:Int)-EB l+j-i-EB (L.take k)),.int .i64 k]/\Grow W W') (fun vs _=>L.length-ED vs 1) ⟨0,Nat.zero_le _,by simp[EB,Tr.sz],U⟩ ?_;rintro vs W1 ⟨k,hk,rfl,y⟩ _;simp only[Fx];refine HU (fun a1=>?_) fun a6=>?_
 .have o:k<L.length:=by omega
  have V:L.take (k+1)=L.take k++[L[k]]:=by rw[List.take_add_one];simp[o]
  have a7:EB L=EB (L.take (k+1))+EB (L.drop (k+1)):=by unfold EB;rw[<-Tr.CH,List.take_append_drop]
  have I:EB (L.take (k+1))=EB (L.take k)+L[k].n:=by rw[V];unfold EB;rw[Tr.CH];simp[Tr.sz,Spn.kd]
  obtain⟨p,r,rfl,_,hr,hc,rfl⟩:=T.get o;refine AZ o (Ah (vs:=L[k].cells) rfl (fun j u hu=>by rw[Addr.add_add];exact y.cell (hc j u hu) fun h=>h) ?_);refine Bx.new (vs:=L[k].cells) rfl rfl (Spn.one _) fun a8 w7 hb g7 B=>?_;refine Bl (B.cells 0 _ rfl) ?_;rw[BK];refine AE (fun e=>by omega) fun _=>?_;refine Bl (B.cells 0 _ rfl) ?_;rw[Av,wrap64 (by omega) (by omega),AR,AQ (by omega)];refine⟨⟨k+1,o,?_,y.trans g7⟩,by rw[BH,BH];omega⟩;rw[I];congr 2
  omega
 .have hW:=h.grow y;refine AA (Dn G4 hW) ?_;rintro _ _ ⟨rfl,rfl⟩;rename World=>W1
  obtain⟨q1,q2⟩:=Qs (l:=l) (L:=L) (i:=i) (j:=j) (by omega) E X;refine AA (Hr (VO (g:=Cl)) hW (by omega) (J.mod y (fun _ _ _ h=>h) (by decide) fun _ _ h=>h) hS E (by omega) (YE (by omega)) (YE (l:=Spn.kd.Bm l i j L) (by omega)) (YE (l:=(Spn.kd.split l i).1.getLast?.toList++L++(Spn.kd.split (Spn.kd.split l i).2 (j-i)).2.head?.toList) (by omega))) ?_;rintro _ ak ⟨F',k1,k2,k3,k4⟩;have:=y.size;exact⟨trivial,F',k1,fun x hx=>(k2 x hx).imp (fun h=>h) fun h=>by omega,k3,(y.mono fun _ _ h=>h.elim).trans k4⟩
theorem Le{l:List Ck}(h:(BU l).length<=1099511627776):Db As.toAvT l:=⟨by show Tr.sz Ck.kd.μ l<=_;rw[Fo];exact h,by show Tr.mk Ck.kd.μ l<=_;rw[NM];exact Nat.le_trans (Cz _) h⟩
theorem IM{i j:Nat}{n:Nat}(o:i<=j)(x:j<=n):Oj (i:Int) (j:Int) (n:Int)=0:=by
 unfold Oj;rw[if_neg (by omega),if_neg (by omega),if_neg (by omega)]
section
variable {F:Nat->Prop}{W:World}{b bt N:Nat}{l:List Ck}
theorem Uz(h:DF As.toAvT F FN W b bt l N):AB prog 54 [.pointer (some ⟨b,0,none⟩)] (fun v' w'=>v'=.int .i64 ((BU l).length:Int)/\Grow W w') W:=by
 refine AA (LA EI h) ?_;rintro _ w ⟨rfl,g⟩;refine⟨?_,g⟩;rw[show Tr.sz As.toAvT.k.μ l=(BU l).length from Fo l]
theorem Jm(h:DF As.toAvT F FN W b bt l N):AB prog 45 [.pointer (some ⟨b,0,none⟩)] (fun v' w'=>v'=.int .i64 (BQ (BU l):Int)/\Grow W w') W:=by
 apply ab;refine Cs (AT ?_);refine AA (Dn EI h) ?_;rintro _ _ ⟨rfl,rfl⟩;rename World=>W
 obtain⟨A,T,h1,i,x,rfl,y⟩:=h.Dg;apply PG;unfold TU;refine AH ?_;obtain⟨c,pl,fr,j⟩:=id h1;refine Bl (j.box.cells 4 _ rfl) ?_;refine AA (Bo h1 i) ?_;rintro _ B ⟨rfl,o⟩;refine B0 (vs:=[_,_,_]) (by rfl) (B0 (vs:=[_,_,_]) (by rfl) (B0 (vs:=[_,_,_]) (by rfl) ⟨?_,o⟩));rw[show Tr.mk As.toAvT.k.μ T.toL=BQ (BU T.toL) from NM _]
theorem JG{i:Nat}(h:DF As.toAvT F FN W b bt l N)(o:i<=(BU l).length)(x:(BU l).length<=1099511627776) :
  AB prog 53 [.pointer (some ⟨b,0,none⟩),.int .i64 (i:Int)] (fun v' w'=>v'=.tuple #[.int .i64 (BQ ((BU l).take i):Int),.int .i64 0]/\Grow W w') W:=by
 apply TA;refine AA (Ib EI h) ?_;rintro _ y ⟨rfl,j⟩;rw[show Tr.sz As.toAvT.k.μ l=(BU l).length from Fo l,IM (Nat.le_refl _) o,Br];refine Ab (fun _=>?_) fun e=>(e rfl).elim;refine AA (Dn EI (h.grow j)) ?_;rintro _ _ ⟨rfl,rfl⟩;rename World=>y
 obtain⟨A,T,h1,B,I,rfl,J⟩:=(h.grow j).Dg;refine AA (O0 h1 B (by omega) (Le x)) ?_;rintro _ w2 ⟨rfl,E⟩;exact⟨rfl,j.trans E⟩
def IF(rs:List Int)(k:Nat):Value:=if BQ rs<k then .tuple #[.int .i64 0,.int .i64 5] else if k=0 then .tuple #[.int .i64 0,.int .i64 0] else match GW rs (k-1) with
 |some p=>.tuple #[.int .i64 ((p+1:Nat):Int),.int .i64 0]
 |none=>undef
theorem Jp{k:Nat}(h:DF As.toAvT F FN W b bt l N)(j:(BU l).length<=1099511627776) :
  AB prog 46 [.pointer (some ⟨b,0,none⟩),.int .i64 (k:Int)] (fun v' w'=>v'=IF (BU l) k/\Grow W w') W:=by
 apply ZG;have J:=Cz (BU l);refine AW (fun _ W'=>Grow W W'/\0<k/\k<=BQ (BU l)) ?_ ?_
 .rintro _ o ⟨i,x,hk⟩ _;refine AA (Dn EI (h.grow i)) ?_;rintro _ _ ⟨rfl,rfl⟩;rename World=>o
  obtain⟨k,rfl⟩:∃y,k=y+1:=⟨k-1,by omega⟩;obtain⟨p,hp,B⟩:=Mg (l:=BU l) (k:=k) (by omega);obtain⟨A,T,h1,E,O,rfl,Q⟩:=(h.grow i).Dg;rw[Av,wrap64 (by omega) (by omega),show(((k+1:Nat):Int)-1)=(k:Int) by omega];refine AA (Xi h1 E (by omega) (Le j) hp) ?_;rintro _ w2 ⟨rfl,I⟩;refine BM ?_;rw[AR,wrap64 (by omega) (by omega)];refine⟨?_,i.trans I⟩;unfold IF;rw[if_neg (by omega),if_neg (by omega),Nat.add_sub_cancel,hp];rfl
 .refine Cs (AT ?_);rw[Ax];refine AE (fun e=>by omega) fun _=>?_;refine AA (Jm h) ?_;rintro _ S ⟨rfl,i⟩;rw[BK];refine AE (fun e=>⟨by unfold IF;rw[if_pos (by omega)],i⟩) fun e=>?_;rw[Am];refine AE (fun e0=>⟨by unfold IF;rw[if_neg (by omega),if_pos (by omega)],i⟩) fun e0=>?_;exact⟨i,by omega,by omega⟩
theorem U2(l:List Ck)(i j:Nat):BU (Ck.kd.over l i j)=((BU l).take j).drop i:=GG.over l i j
theorem Ni(t l:List Ck){i j:Nat}(o:i<=j):BU (Ck.kd.Bm t i j l)=(BU t).take i++BU l++(BU t).drop j:=GG.Bm t l o
theorem Lv(l L:List Ck)(i j:Nat):(BU ((Ck.kd.split l i).1.getLast?.toList++L++(Ck.kd.split (Ck.kd.split l i).2 (j-i)).2.head?.toList)).length<=(BU l).length+(BU L).length:=by
 have x:=congrArg List.length (GG.split l i).1;have B:=congrArg List.length (GG.split l i).2;have a3:=congrArg List.length (GG.split (Ck.kd.split l i).2 (j-i)).2;have E:∀m:List Ck,(BU m.getLast?.toList).length<=(BU m).length:=fun m=>by
  rcases List.eq_nil_or_concat m with rfl|⟨o,y,rfl⟩
  .exact Nat.le_refl _
  .simp[BU]
 have I:∀m:List Ck,(BU m.head?.toList).length<=(BU m).length:=fun m=>by
  cases m with
  |nil=>exact Nat.le_refl _
  |cons y m=>simp[BU]
 have h1:=E (Ck.kd.split l i).1;have J:=I (Ck.kd.split (Ck.kd.split l i).2 (j-i)).2;have e:∀a b c:List Ck,(BU (a++b++c)).length=(BU a).length+(BU b).length+(BU c).length:=fun a b c=>by simp[BU];omega
 rw[e];rw[List.length_take] at x;rw[List.length_drop] at B a3;show(BU _).length+_+(BU _).length<=_;unfold BU at *;omega
theorem RW{i j:Nat}(h:DF As.toAvT F FN W b bt l N)(Y:N<=109951162000)(o:i<=j)(J:j<=(BU l).length)(O:(BU l).length<=1099511627776) :
  AB prog 88 [.pointer (some ⟨b,0,none⟩),.int .i64 (i:Int),.int .i64 (j:Int)] (fun v' w'=>v'=.int .i64 0/\∃F' B,(∀x,F x->F' x)/\(∀x,F' x->F x\/W.heap.size<=x)/\DF As.toAvT F' FN w' b bt B (N+4)/\BU B=(BU l).take i++(BU l).drop j/\Mod F W w') W:=by
 apply ah;refine AA (Ib EI h) ?_;rintro _ Q ⟨rfl,y⟩;rw[show Tr.sz As.toAvT.k.μ l=(BU l).length from Fo l,IM o J,Br];refine Ab (fun _=>?_) fun e=>(e rfl).elim;have E:=h.grow y;refine AA (Dn EI E) ?_;rintro _ _ ⟨rfl,rfl⟩;rename World=>Q
 have I:=Ni l [] o;have Z:=Lv l [] i j;have e0:(BU []).length=0:=rfl;refine AA (Hr (VO (g:=As)) (L:=[]) (S:=fun _=>False) E (by simp only[List.length_nil];omega) BJ.nil (fun _ h=>h.elim) o (by omega) (Le O) (Le (l:=Ck.kd.Bm l i j []) (by rw[I];simp[BU] at *;omega)) (Le (l:=(Ck.kd.split l i).1.getLast?.toList++[]++(Ck.kd.split (Ck.kd.split l i).2 (j-i)).2.head?.toList) (by omega))) ?_;rintro _ T ⟨F',k1,k2,U,V⟩;have:=y.size;refine⟨rfl,F',_,k1,fun x X=>(k2 x X).imp (fun h=>h) fun h=>by omega,U,?_,(y.mono fun _ _ h=>h.elim).trans V⟩;show BU (Ck.kd.Bm l i j [])=_;rw[I];simp[BU]
theorem Se{i j:Nat}(h:DF As.toAvT F FN W b bt l N)(hN:N<=109951162000)(an:i<=j)(hj:j<=(BU l).length)(hs:(BU l).length<=1099511627776)(hl:l.length<=109951162777) :
  AB prog 47 [.pointer (some ⟨b,0,none⟩),.int .i64 (i:Int),.int .i64 (j:Int)] (fun v' w'=>∃rv,v'=.tuple #[rv,.int .i64 0]/\AF W.heap.size 21 1 CI w' rv (((BU l).take j).drop i)/\Grow W w') W:=by
 apply Zo;refine Bx.zero fun c w1 hc g1 B=>?_;have b6:=B.lt (by decide);have h1:=h.grow g1;have h0:=h;refine AA (Ib EI h1) ?_;rintro _ w2 ⟨rfl,g2⟩;rw[show Tr.sz As.toAvT.k.μ l=(BU l).length from Fo l,IM an hj,Br];refine Ab (fun _=>?_) fun e=>(e rfl).elim;have hW:=h1.grow g2;refine AA (Dn EI hW) ?_;rintro _ _ ⟨rfl,rfl⟩;rename World=>w2
 obtain⟨A,T,t1,t2,t3,rfl,t5⟩:=hW.Dg;refine AA (QS (g:=As) t1 (by omega) t2 t3 (Le hs) (by omega) (by omega)) ?_;rintro _ J ⟨av,vals,Rd,rfl,g6,ax,ay,Ix,a1⟩;generalize hX:Ck.kd.over T.toL i j=X at *;have b0:vals.length=X.length:=by rw[<-hX];exact ax
 have a6:BU X=((BU T.toL).take j).drop i:=by rw[<-hX];exact U2 _ _ _
 have O:∀m (h1:m<vals.length) (h2:m<X.length),vals[m]=.agg X[m].cells.toArray:=fun m q1 q2=>by
  subst hX;obtain⟨r,e1,e2⟩:=ay m q1 q2;rw[e1,RF];have e3:r=Ck.cells (Ck.kd.over T.toL i j)[m]:=e2;rw[e3]
 have b9:(BU X).length<=1099511627776:=by rw[a6,List.length_drop,List.length_take];omega
 have z1:=g1.size;have z2:=g2.size;have z6:=g6.size;have B6:=(B.grow g2).grow g6;refine⟨True,_,av,_,_,_,rfl,by kernel_rfl,a1,fun k _=>rfl,?_⟩;refine⟨fun k Q W'=>∃out,Xr 21 1 CI J.heap.size c J.heap.size Q W' out (BU (X.take k))/\Mod (fun x=>x=c) J W'/\k<=X.length,fun _ _ _=>False,⟨_,⟨B6,AF.nil,fun g o=>nomatch o⟩,Mod.refl _ _,Nat.zero_le _⟩,?_,fun x Q b1 W W' h=>h.elim,?_,?_,?_,fun x Q W h=>h.elim⟩
 .rintro k Q b1 W' ba ⟨out,q,m,hk⟩ hm E;have hn:∀x,x<J.heap.size->¬((¬True/\Q x)\/x=J.heap.size\/x=J.heap.size+1):=fun x O=>by rintro(⟨h,_⟩|h|h);exact h trivial;all_goals omega
  refine⟨out,⟨q.box.mod hm (hn c (by omega)),AF.mod q.row hm (fun g o=>?_) fun _ _ _ h=>h,fun g o=>?_⟩,m.next hm fun x O=>?_,hk⟩
  .obtain⟨_,h2,h3,_⟩:=q.hc g o;rintro(⟨h,_⟩|h|h)
   .exact h trivial
   .exact h2 h
   .exact h3 h
  .obtain⟨h1,h2,h3,h4⟩:=q.hc g o;refine⟨h1,h2,h3,fun h=>?_⟩;rcases(E g h).1 with h|h
   .exact h4 h
   .have:=(AF.BL q.row g o).2;omega
  .intro e;exact absurd e (hn x O)
 .rintro k Q W' ⟨out,q,m,hk⟩ b hb hr;exact m.same b hb fun e=>by
   subst e;rcases(Ix b hr).1 with h|h|h
   .have:=h0.lt b (.inl h.1);omega
   .exact h.elim
   .omega
 .rintro k Q W' hk ⟨out,q,m,bc⟩ hz E;have S:k<X.length:=by omega
  have U:(nth [vals.getD k undef] 0)=.agg X[k].cells.toArray:=by
   show vals.getD k undef=_;rw[List.getD_eq_getElem?_getD,List.getElem?_eq_getElem hk,Option.getD_some,O k hk S]
  rw[U];have b2:X.take (k+1)=X.take k++[X[k]]:=by rw[List.take_add_one];simp[S]
  have a7:BU (X.take (k+1))=BU (X.take k)++X[k].l:=by rw[b2];simp only[BU,List.flatMap_append,List.flatMap_cons,List.flatMap_nil,List.append_nil]
  have b7:(BU (X.take k)).length+X[k].l.length<=(BU X).length:=by
   have e:BU X=BU (X.take (k+1))++BU (X.drop (k+1)):=by rw[BU,BU,BU,<-List.flatMap_append,List.take_append_drop]
   rw[e,a7,List.length_append,List.length_append];omega
  refine Bx.new (vs:=X[k].cells) (Ck.len _) rfl (Ck.one _) fun b5 W5 bd g5 B5=>?_;refine Kf g5 hz E (fun _ _ h=>h.elim) fun W6 I=>?_;have z5:=g5.size;have bk:=I.size;have b8:=q.box.lt (Nat.succ_pos _);have b3:=B5.lt (by rw[Ck.len];omega);have C6:=(q.box.grow g5).mod I (by omega);have b4:=B5.mod I (by omega);have o6:AF J.heap.size 21 1 CI W6 out (BU (X.take k)):=AF.mod (AF.mod (R':=CI) q.row g5 (fun _ _ h=>h) fun _ _ _ h=>h) I (fun g o=>(q.hc g o).2.2.1) fun _ _ _ h=>h;have gd:Grow W6 W6.drew:=Mod.drew _ _;have zd:=gd.size;have Cd:=C6.grow gd;have Bd:=b4.grow gd;refine Ag (fun k y=>(k=3/\out.ownBlock=some y)\/(k=4/\y=c)) ?_;refine Aa ⟨Cd.cells 0 _ rfl,fun j hj e=>?_⟩ ?_
  .have a8:j∈[2]:=hj;simp only[List.mem_singleton] at a8;subst a8;rcases e with e|e
   .exact absurd e.1 (by decide)
   .exact absurd e.1 (by decide)
  refine CP (Ck.len _) (fun j u hu=>⟨by rw[AI];exact Bd.cells j u hu,fun j hj=>(List.not_mem_nil (show j∈[] from hj)).elim⟩) ?_;refine AA (VI X[k]) ?_;rintro xv W7 ⟨ox,g7⟩;refine⟨g7.mono fun _ _ h=>h.elim,?_⟩;have z7:=g7.size;have o7:AF J.heap.size 21 1 CI W7 out (BU (X.take k)):=AF.mod (AF.mod (R':=CI) o6 gd (fun _ _ h=>h) fun _ _ _ h=>h) g7 (fun _ _ h=>h) fun _ _ _ h=>h;obtain⟨ak,W8,r1,o8,r3,n8⟩:=AF.append (P:=prog) (ty:=80) JU o7 (AF.sl ox) (fun _ _=>CI.one) (by omega) (by omega) (by simp only[maxLen];omega) fun _ _ _ _ h=>h;refine Ai r1 ?_;have m8:=Mod.of_grownBy r3;have z8:=m8.size;refine⟨m8.mono fun _ _ e=>.inl ⟨rfl,e⟩,?_⟩;have C8:=((Cd.grow g7).mod m8 fun e=>(q.hc c e).1 rfl);obtain⟨V,Y⟩:=o8.one;refine C8.st (q:=0) (show 0<1 by decide) V Y fun W9 C9 m9=>⟨m9.mono fun _ _ e=>.inr ⟨rfl,e⟩,?_⟩;have z9:=m9.size;have al:Mod (fun x=>x=c\/out.ownBlock=some x) W6 W9:=(((gd.trans g7).mono fun _ _ h=>h.elim).trans (m8.mono fun _ _ e=>.inr e)).trans (m9.mono fun _ _ e=>.inl e);refine⟨N3 al (by omega) (fun b hb=>by have:=(E b hb).1;omega) (fun b _ e=>?_),ak,⟨C9,?_,fun g o=>?_⟩,?_,by omega⟩
  .rcases e with rfl|e
   .exact⟨fun h=>by have:=(E b h).2;omega,by omega,by omega⟩
   .obtain⟨h1,h2,h3,h4⟩:=q.hc b e;exact⟨h4,h2,h3⟩
  .rw [a7];exact AF.mod o8 m9 (fun g o e=>by
    rcases n8 g o with h|h
    .exact(q.hc g h).1 e
    .omega) fun _ _ _ h=>h
  .rcases n8 g o with h|h
   .exact q.hc g h
   .refine⟨by omega,by omega,by omega,fun hI=>by have:=(E g hI).1;omega⟩
  .refine((m.next g5 fun _ _ h=>h.elim).next I fun x O e=>by omega).next al fun x O e=>?_;rcases e with e|e
   .exact e
   .have:=(AF.BL q.row x e).1;omega
 .rintro Q W' ⟨out,q,m,hk⟩ _ hz hd;refine AL (q.box.cells 0 _ rfl) ?_;obtain⟨V,Y⟩:=q.row.one;refine q.box.st (q:=0) (show 0<1 by decide) V Y fun W1 C1 m1=>?_;refine⟨?_,?_⟩
  .rw[m1.same _ (by omega) (by omega)];exact hd
  have Z:Mod (fun b=>b=J.heap.size) W1 (W1.putObj J.heap.size (.deferred none)):=Mod.putObj _ _ _ rfl;have C2:=C1.mod Z (by omega);refine AL (C2.cells 0 _ rfl) ⟨_,rfl,?_,?_⟩
  .rw[b0,List.take_length,a6] at q;refine AF.base (AF.mod (AF.mod (R':=CI) q.row m1 (fun g o=>(q.hc g o).1) fun _ _ _ h=>h) Z (fun g o=>(q.hc g o).2.1) fun _ _ _ h=>h) fun g o=>?_;have:=(AF.BL q.row g o).1;omega
  .exact((((g1.trans g2).trans g6).next m fun x O e=>by omega).next m1 fun x O e=>by omega).next Z fun x O e=>by omega
end
end Go.Proofs.YtmdhibffnkhcnaaGreatDoor
