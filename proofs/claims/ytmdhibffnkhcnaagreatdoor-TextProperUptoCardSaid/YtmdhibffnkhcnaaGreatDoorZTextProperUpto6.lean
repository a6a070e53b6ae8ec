/- parts of the proof, written short by a program of ours -/
import Derived.Test.YtmdhibffnkhcnaaGreatDoorZTextProperUpto5
import Derived.Laws.BytesArg
import Derived.Laws.IdiomStrings
import Derived.MapKept
import Derived.Shelf.GgSortFunc.InsertionK
import Derived.Shelf.SlSortCmp.WholeK
import Derived.Shelf.SlSortCmp.NoneTotal
set_option linter.unusedSimpArgs false
set_option linter.unusedVariables false
namespace Go.K
open Go
theorem ES{P:Program}{t e k:Nat}{i:TypeInfo}{a:Option Addr}{n c j:Nat}(ht:P.underlying t=some (.slice e))(x:P.info? e=some i)(hk:i.size=k)(y:j<=n)(w:World):(Instr.sliceAt t (.slice a n c) (some (.int .i64 j)) none none).run P w=.ok (sliced a j n c k) w:=by
 have o:P.elem t=e:=by simp[Program.elem,ht]
 rw[run_sliceAt_slice _ _ _ _ _ _ (by rw[o];exact ht),run_slice_l _ _ _ _ _ (by rw[o];exact ht) _ _ (by omega) (by omega),o];simp[sizeOf,typeInfo,x,hk]
theorem Jo{α:Type}{k:Nat}{R:World->List Value->α->Prop}{S:Nat->Prop}{w:World}{a:Option Addr}{n c:Nat}{l:List α}{j:Nat}(h:BH S k R w (.slice a n c) l)(J:j<=l.length):BH S k R w (sliced a j n c k) (l.drop j):=by
 obtain⟨O,Q,o,h1,T,y⟩:=h;cases o;unfold sliced;refine⟨_,_,by rw[List.length_drop],by rw[List.length_drop];omega,by omega,fun q x i=>?_⟩;rw[List.getElem?_drop] at i;obtain⟨p,r,rfl,B,hr,hc,E⟩:=y _ x i;have I:=(List.getElem?_eq_some_iff.1 i).1;rw[if_neg (by omega)];refine⟨p.add (j*k),r,rfl,by rw[BO];exact B,hr,fun m u hu=>?_,E⟩;rw[Addr.add_add,<-Nat.add_assoc,<-Nat.add_mul];exact hc m u hu
theorem Lg{P:Program}{t e k:Nat}{i:TypeInfo}{a:Option Addr}{n c:Nat}(ht:P.underlying t=some (.slice e))(x:P.info? e=some i)(hk:i.size=k)(hc:n<=c)(w:World):∃o,(Instr.sliceAt t (.slice a n c) none (some (.int .i64 n)) (some (.int .i64 n))).run P w=.ok (.slice o n n) w/\(0<n->o=a):=by
 have j:P.elem t=e:=by simp[Program.elem,ht]
 refine⟨if n=0 then a else a.map (·.add (0*k)),?_,fun h=>?_⟩
 .rw[run_sliceAt_slice _ _ _ _ _ _ (by rw[j];exact ht)];simp[Instr.slice,run_underlying ht,Instr.sliceBounds,run_sliceBound,hc,sizeOf,typeInfo,x,hk,Result.andThen]
 .rw[if_neg (by omega)];cases a with
  |none=>rfl
  |some a=>simp[Addr.add]
theorem G4{P:Program}{t e n s:Nat}{i:TypeInfo}{k:IntKind}{a:Addr}{j:Int}{w:World}(ht:P.underlying t=some (.array n e))(o:P.info? e=some i)(x:i.size=s)(h0:0<=j)(h1:j<n):(Instr.indexAt t (.pointer (some a)) (.int k j)).run P w=.ok (.pointer (some (a.add (j.toNat*s)))) w:=by
 simp[Instr.indexAt,Instr.sureAddr,run_underlying ht,asIntOf,sizeOf,typeInfo,o,x,h0,h1,Result.andThen]
theorem Eg{P:Program}{s d:TypeId}{q k:IntKind}{n:Int}(w:World)(i:(P.underlying s).isSome=true)(j:P.underlying d=some (.int k)):(convert s d (.int q n)).run P w=.ok (.int k (k.wrap n)) w:=by
 obtain⟨e,he⟩:=Option.isSome_iff_exists.mp i;simp[convert,run_underlying he,run_underlying j,Conv.intToInt]
theorem RA{P:Program}{t:TypeId}{xo yo:Operand}{k q:IntKind}{a:Int}{n:Nat}(w:World)(i:n<=k.bits):(BZ .shl t xo yo (.int k a) (.int q n)).run P w=.ok (.int k (k.wrap (a*2 ^ n))) w:=by
 have h0:¬((n:Int)<0):=by omega
 simp[BZ,eqGuard,binOp,Op.shift,Nat.min_eq_left i,h0]
theorem Mr{P:Program}{t:TypeId}{xo yo:Operand}{k q:IntKind}{a:Int}{n:Nat}(w:World)(i:n<=k.bits):(BZ .shr t xo yo (.int k a) (.int q n)).run P w=.ok (.int k (a.fdiv (2 ^ n))) w:=by
 have h0:¬((n:Int)<0):=by omega
 simp[BZ,eqGuard,binOp,Op.shift,Nat.min_eq_left i,h0]
theorem JG{P:Program}{t:TypeId}{xo yo:Operand}{k:IntKind}{a b:Int}(w:World):(BZ .or t xo yo (.int k a) (.int k b)).run P w=.ok (.int k (k.wrap (BitVec.ofInt k.bits a ||| BitVec.ofInt k.bits b).toNat)) w/\(BZ .and t xo yo (.int k a) (.int k b)).run P w=.ok (.int k (k.wrap (BitVec.ofInt k.bits a &&& BitVec.ofInt k.bits b).toNat)) w:=by
 constructor<;>simp[BZ,eqGuard,binOp,Op.intBits]
end Go.K
namespace Go.Proofs.YtmdhibffnkhcnaaGreatDoor
open Go Go.K Proofs.Tryz
theorem DT{t:TypeId}{xo yo:Operand}{a b:Int}(w:World)(ha:Hh a)(hb:Hh b):(BZ .or t xo yo (.int .u64 a) (.int .u64 b)).run prog w=.ok (.int .u64 (LF a b)) w:=by
 rw[(JG w).1];have e:((BitVec.ofInt IntKind.u64.bits a ||| BitVec.ofInt IntKind.u64.bits b).toNat:Int)=LF a b:=dE ha hb;rw[e,Fo (D8 ha hb)]
theorem Jl{t:TypeId}{xo yo:Operand}{a b:Int}(w:World)(ha:Hh a)(hb:Hh b):(BZ .and t xo yo (.int .u64 a) (.int .u64 b)).run prog w=.ok (.int .u64 ((a.toNat &&& b.toNat:Nat):Int)) w:=by
 rw[(JG w).2];have e:((BitVec.ofInt IntKind.u64.bits a &&& BitVec.ofInt IntKind.u64.bits b).toNat:Int)=((a.toNat &&& b.toNat:Nat):Int):=bv_and ha hb;rw[e,Fo ⟨by omega,?_⟩];have:=Nat.and_le_left (n:=a.toNat) (m:=b.toNat);have:=ha.2;have:=ha.1;omega
def V0(x:Int)(j:Nat):Int:=x*2 ^ (8*j)
def GU(b:List Int):Int:=LF (LF (LF (LF (LF (LF (LF (b.getD 0 0) (V0 (b.getD 1 0) 1)) (V0 (b.getD 2 0) 2)) (V0 (b.getD 3 0) 3)) (V0 (b.getD 4 0) 4)) (V0 (b.getD 5 0) 5)) (V0 (b.getD 6 0) 6)) (V0 (b.getD 7 0) 7)
abbrev Bl(b:List Int):Prop:=∀x∈b,0<=x/\x<256
theorem Bl.getD{b:List Int}(h:Bl b)(j:Nat):0<=b.getD j 0/\b.getD j 0<256:=by
 rw[List.getD_eq_getElem?_getD];cases e:b[j]? with
 |none=>simp
 |some x=>exact h x (List.mem_iff_getElem?.2 ⟨j,e⟩)
theorem Bl.drop{b:List Int}(h:Bl b)(j:Nat):Bl (b.drop j):=fun x i=>h x (List.mem_of_mem_drop i)
theorem Mq{x:Int}(h:0<=x/\x<256):Hh x:=⟨h.1,by omega⟩
theorem Ge{b:List Int}(h:Bl b):Hh (GU b):=by
 have u:∀j,j<8->Hh (V0 (b.getD j 0) j):=fun j i=>Us i (h.getD j).1 (h.getD j).2;unfold GU;exact D8 (D8 (D8 (D8 (D8 (D8 (D8 (Mq (h.getD 0)) (u 1 (by decide))) (u 2 (by decide))) (u 3 (by decide))) (u 4 (by decide))) (u 5 (by decide))) (u 6 (by decide))) (u 7 (by decide))
theorem U2{b:List Int}(h:Bl b){j:Nat}(o:j<8)(x:128<=b.getD j 0):SY (GU b) j:=by
 have i:=(VL o x (h.getD j).2).2;unfold GU;rcases(show j=0\/j=1\/j=2\/j=3\/j=4\/j=5\/j=6\/j=7 by omega) with rfl|rfl|rfl|rfl|rfl|rfl|rfl|rfl
 .rw[show b.getD 0 0*2 ^ (8*0)=b.getD 0 0 by omega] at i;exact .l (.l (.l (.l (.l (.l (.l i))))))
 .exact .l (.l (.l (.l (.l (.l (.r i))))))
 .exact .l (.l (.l (.l (.l (.r i)))))
 .exact .l (.l (.l (.l (.r i))))
 .exact .l (.l (.l (.r i)))
 .exact .l (.l (.r i))
 .exact .l (.r i)
 .exact .r i
theorem EZ{C:World->Prop}{p:Addr}{n c:Nat}{b:Int}{j:Nat}{m:Int}{xo yo:Operand}{k:Value->Prop}(B:j<n)(hm:m=8*j)(i:j<8)(hb:0<=b/\b<256)(hc:∀w,C w->w.cell? (p.add (j*1))=some (.int .u8 b))(hk:k (.int .u64 (V0 b j))) :
  Be 1 (.slice (some p) n c) (.int .i64 j) fun o=>BK C o fun x=>Bg prog C (convert 5 75 x) fun y=>Bg prog C (BZ .shl 75 xo yo y (.int .u64 m)) k:=by
 refine AY B (As hc ⟨.int .u64 (IntKind.u64.wrap b),fun w _=>Eg (k:=.u64) w (by kernel_rfl) (by kernel_rfl),?_⟩);rw[Fo (Mq hb)];subst hm;refine⟨_,fun w _=>?_,hk⟩;have e:=RA (P:=prog) (t:=75) (xo:=xo) (yo:=yo) (k:=.u64) (q:=.u64) (a:=b) (n:=8*j) w (by show 8*j<=64;omega);rw[Fo (Us i hb.1 hb.2)] at e;have E:((8*j:Nat):Int)=8*(j:Int):=by omega
 rw[E] at e;exact e
theorem Qo{S:Nat->Prop}{v:Value}{b:List Int}{w:World}(h:Ci S w v b)(hb:Bl b)(hl:8<=b.length) :
  AB prog 300 [v] (fun v' w'=>v'=.int .u64 (GU b)/\Grow w w') w:=by
 apply YL;obtain⟨a,c,rfl,hm⟩:=h.shape;have cell:∀j (i:j<b.length),∃p,a=some p/\w.cell? (p.add (j*1))=some (.int .u8 (b.getD j 0)):=by
  intro j i;obtain⟨p,r,rfl,_,hr,hc,rfl⟩:=h.get i;refine⟨p,rfl,?_⟩;rw[List.getD_eq_getElem?_getD,List.getElem?_eq_getElem i];exact hc 0 _ rfl
 obtain⟨p,rfl,c0⟩:=cell 0 (by omega);have o:∀j,j<b.length->w.cell? (p.add (j*1))=some (.int .u8 (b.getD j 0)):=fun j i=>by obtain⟨Q,e,hc⟩:=cell j i;cases e;exact hc
 refine CZ (fun w2=>Grow w w2) (Mod.drew _ _) ?_;have hc:∀j,j<b.length->∀w2,Grow w w2->w2.cell? (p.add (j*1))=some (.int .u8 (b.getD j 0)):=fun j i w2 g=>g.cell (o j i) fun h=>h;have u:∀j,j<8->Hh (V0 (b.getD j 0) j):=fun j i=>Us i (hb.getD j).1 (hb.getD j).2;refine AY (j:=0) (by omega) (As (hc 0 (by omega)) ⟨.int .u64 (IntKind.u64.wrap (b.getD 0 0)),fun w _=>Eg (k:=.u64) w (by kernel_rfl) (by kernel_rfl),?_⟩);rw[Fo (Mq (hb.getD 0))];have x:=Mq (hb.getD 0);refine EZ (j:=1) (by omega) rfl (by decide) (hb.getD 1) (hc 1 (by omega)) ⟨_,fun w _=>DT w x (u 1 (by decide)),?_⟩;have y:=D8 x (u 1 (by decide));refine EZ (j:=2) (by omega) rfl (by decide) (hb.getD 2) (hc 2 (by omega)) ⟨_,fun w _=>DT w y (u 2 (by decide)),?_⟩;have B:=D8 y (u 2 (by decide));refine EZ (j:=3) (by omega) rfl (by decide) (hb.getD 3) (hc 3 (by omega)) ⟨_,fun w _=>DT w B (u 3 (by decide)),?_⟩;have E:=D8 B (u 3 (by decide));refine EZ (j:=4) (by omega) rfl (by decide) (hb.getD 4) (hc 4 (by omega)) ⟨_,fun w _=>DT w E (u 4 (by decide)),?_⟩;have I:=D8 E (u 4 (by decide));refine EZ (j:=5) (by omega) rfl (by decide) (hb.getD 5) (hc 5 (by omega)) ⟨_,fun w _=>DT w I (u 5 (by decide)),?_⟩;have J:=D8 I (u 5 (by decide));refine EZ (j:=6) (by omega) rfl (by decide) (hb.getD 6) (hc 6 (by omega)) ⟨_,fun w _=>DT w J (u 6 (by decide)),?_⟩;have O:=D8 J (u 6 (by decide));refine EZ (j:=7) (by omega) rfl (by decide) (hb.getD 7) (hc 7 (by omega)) ⟨_,fun w _=>DT w O (u 7 (by decide)),?_⟩;exact fun w2 g=>⟨rfl,g⟩
theorem Dt{b:List Int}(hb:Bl b)(h:((GU b).toNat &&& 9259542123273814144:Nat)=0){j:Nat}(i:j<8):b.getD j 0<128:=by
 have:=UH h i;have o:¬128<=b.getD j 0:=fun o=>this (U2 hb i o);omega
def firstT(x:Int):Int:=if x<194 then 241 else if x<224 then 2 else if x=224 then 19 else if x=237 then 35 else if x<240 then 3 else if x=240 then 52 else if x<244 then 4 else if x=244 then 68 else 241
def accLo(j:Nat):Int:=if j=1 then 160 else if j=3 then 144 else if j<5 then 128 else 0
def accHi(j:Nat):Int:=if j=2 then 159 else if j=4 then 143 else if j<5 then 191 else 0
structure El (w:World):Prop where
 size:2<w.heap.size
 first:∀j:Nat,128<=j->j<256->w.cell? ⟨1,j,none⟩=some (.int .u8 (firstT j))
 acc:∀j:Nat,j<16->w.cell? ⟨2,j*2,none⟩=some (.int .u8 (accLo j))/\w.cell? ⟨2,j*2+1,none⟩=some (.int .u8 (accHi j))
theorem El.grow{w w':World}(h:El w)(g:Grow w w'):El w':=
 ⟨Nat.lt_of_lt_of_le h.size g.size,fun j h1 o=>g.cell (h.first j h1 o) fun h=>h,fun j i=>⟨g.cell (h.acc j i).1 fun h=>h,g.cell (h.acc j i).2 fun h=>h⟩⟩
theorem ao{x:Int}(h0:128<=x)(h1:x<256):∃(f:Int) (z j:Nat),firstT x=f/\0<=f/\f<256/\(f.toNat &&& 7)=z/\f/16=j/\j<16/\(z=CF x\/CF x=0/\z=1)/\(CF x≠0->accLo j=IU x/\accHi j=H9 x):=by
 unfold firstT CF IU H9;by_cases i:x<194
 .exact⟨241,1,15,by rw[if_pos i],by decide,by decide,by decide,by decide,by decide,by rw[if_pos i];exact .inr ⟨rfl,rfl⟩,by rw[if_pos i];exact fun h=>absurd rfl h⟩
 rw[if_neg i,if_neg i];by_cases o:x<224
 .rw[if_pos o,if_pos o];exact⟨2,2,0,rfl,by decide,by decide,by decide,by decide,by decide,.inl rfl,fun _=>⟨by rw[if_neg (by omega),if_neg (by omega)];rfl,by rw[if_neg (by omega),if_neg (by omega)];rfl⟩⟩
 rw[if_neg o,if_neg o];by_cases a3:x=224
 .subst a3;exact⟨19,3,1,rfl,by decide,by decide,by decide,by decide,by decide,.inl rfl,fun _=>⟨rfl,rfl⟩⟩
 rw[if_neg a3,if_neg a3];by_cases a4:x=237
 .subst a4;exact⟨35,3,2,rfl,by decide,by decide,by decide,by decide,by decide,.inl rfl,fun _=>⟨rfl,rfl⟩⟩
 rw[if_neg a4,if_neg a4];by_cases a5:x<240
 .rw[if_pos a5,if_pos a5];exact⟨3,3,0,rfl,by decide,by decide,by decide,by decide,by decide,.inl rfl,fun _=>⟨by rw[if_neg (by omega)];rfl,by rw[if_neg (by omega)];rfl⟩⟩
 rw[if_neg a5,if_neg a5];by_cases y:x=240
 .subst y;exact⟨52,4,3,rfl,by decide,by decide,by decide,by decide,by decide,.inl rfl,fun _=>⟨rfl,rfl⟩⟩
 rw[if_neg y,if_neg y];by_cases B:x<244
 .rw[if_pos B,if_pos (by omega)];exact⟨4,4,0,rfl,by decide,by decide,by decide,by decide,by decide,.inl rfl,fun _=>⟨rfl,by rw[if_neg (by omega)];rfl⟩⟩
 rw[if_neg B];by_cases E:x=244
 .subst E;exact⟨68,4,4,rfl,by decide,by decide,by decide,by decide,by decide,.inl rfl,fun _=>⟨rfl,rfl⟩⟩
 rw[if_neg E,if_neg (by omega)];exact⟨241,1,15,rfl,by decide,by decide,by decide,by decide,by decide,.inr ⟨rfl,rfl⟩,fun h=>absurd rfl h⟩
theorem O2(x:Int):CF x=0\/CF x=2\/CF x=3\/CF x=4:=by
 unfold CF
 (repeat' split)<;>simp
theorem VN{t:TypeId}{xo yo:Operand}{a:Int}{z:Nat}(w:World)(h0:0<=a)(h1:a<256)(i:(a.toNat &&& 7)=z):(BZ .and t xo yo (.int .u8 a) (.int .u8 7)).run prog w=.ok (.int .u8 z) w:=by
 rw[(JG w).2];have e:((BitVec.ofInt IntKind.u8.bits a &&& BitVec.ofInt IntKind.u8.bits 7).toNat:Int)=((a.toNat &&& 7:Nat):Int):=by
  show((BitVec.ofInt 8 a &&& BitVec.ofInt 8 7).toNat:Int)=_;rw[BitVec.toNat_and,BitVec.toNat_ofInt,BitVec.toNat_ofInt];have e:((2 ^ 8:Nat):Int)=256:=by decide
  rw[e,Int.emod_eq_of_lt h0 h1];rfl
 have j:z<=7:=i▸Nat.and_le_right;rw[e,i];congr 2
 have o:(2:Int) ^ IntKind.u8.bits=256:=by decide
 simp only[IntKind.wrap,o,IntKind.signed,Bool.false_and];rw[if_neg (by decide)];omega
def Ql(v:Value):Nat:=match v with|.slice _ n _=>n|_=>0
theorem KE{l:List Int}{k:Nat}(hl:Bl l)(hk:k<=l.length)(h:∀j,j<k->l.getD j 0<128):(Bj l).isSome=(Bj (l.drop k)).isSome:=by
 refine QB hk fun j x o i=>?_;have:=h j o;rw[List.getD_eq_getElem?_getD,i] at this;exact⟨(hl x (List.mem_iff_getElem?.2 ⟨j,i⟩)).1,this⟩
theorem Hk(l:List Int)(k j:Nat):(l.drop k).getD j 0=l.getD (k+j) 0:=by
 rw[List.getD_eq_getElem?_getD,List.getD_eq_getElem?_getD,List.getElem?_drop]
theorem Fg{a b c:Nat}(h:((a ||| b) &&& c)=0):(a &&& c)=0/\(b &&& c)=0:=by
 rw[Nat.and_or_distrib_right] at h;exact Nat.or_eq_zero_iff.1 h
theorem NU{n:Nat}(h:((n &&& (9259542123273814144:Int).toNat:Nat):Int)=0):(n &&& 9259542123273814144)=0:=Int.ofNat_inj.1 h
set_option maxRecDepth 10000 in
theorem UW{S:Nat->Prop}{v:Value}{b:List Int}{w:World}(h:Ci S w v b)(hb:Bl b)(hT:El w) :
  AB prog 297 [v] (fun v' w'=>v'=.bool (Bj b).isSome/\Grow w w') w:=by
 apply Ye;have hu:prog.underlying 293=some (.slice 5):=by kernel_rfl
 have hi:prog.info? 5=some Tryz.t5:=by kernel_rfl
 have hs:Tryz.t5.size=1:=by kernel_rfl
 obtain⟨a,c,rfl,hm⟩:=h.shape;obtain⟨_,_,e0,e6,_,_⟩:=id h;cases e0;rw[AS,AS];obtain⟨a',e7,e8⟩:=Lg (a:=a) (n:=b.length) (c:=c) hu hi hs e6 w;refine Ai e7 ?_;have h':Ci S w (.slice a' b.length b.length) b:=by
  obtain⟨_,_,e0,h1,h2,h3⟩:=h;cases e0;refine⟨_,_,rfl,Nat.le_refl _,hm,fun i x hx=>?_⟩;obtain⟨p,r,rfl,q⟩:=h3 i x hx;have:=(List.getElem?_eq_some_iff.1 hx).1;exact⟨p,r,e8 (by omega),q⟩
 refine Ae (fun vs W=>∃l v1,vs=[v1]/\Ci S W v1 l/\Bl l/\(Bj b).isSome=(Bj l).isSome/\Grow w W) (fun vs _=>Ql (nth vs 0)) ⟨b,_,rfl,h',hb,rfl,Mod.refl _ _⟩ ?_;rintro vs W ⟨l,v1,rfl,hl,hB,b3,gW⟩ _;rw[CR,List.headD_cons];obtain⟨p1,c1,rfl,e9⟩:=hl.shape;simp only[maxLen] at e9;rw[AS,BJ];refine AE (fun bl=>?_) fun er=>?_;rotate_left
 .have:l=[]:=List.eq_nil_of_length_eq_zero (by omega);subst this;exact⟨by rw[b3,MP];rfl,gW⟩
 have E:∀{W':World} {v':Value} {Q:List Int},Ci S W' v' Q->Bl Q->(Bj l).isSome=(Bj Q).isSome->Q.length<l.length->Grow w W'->
   ((∃l v1,[v']=[v1]/\Ci S W' v1 l/\Bl l/\(Bj b).isSome=(Bj l).isSome/\Grow w W')/\Ql (nth [v'] 0)<Ql (nth [Value.slice p1 l.length c1] 0)):=by
  intro W' v' Q h1 h2 h3 h4 h5;obtain⟨q,d,rfl,_⟩:=h1.shape;exact⟨⟨Q,_,rfl,h1,h2,b3.trans h3,h5⟩,h4⟩
 have sl:∀{W':World} {q:Option Addr} {n d j:Nat} {Q:List Int} {K:Cont},Ci S W' (.slice q n d) Q->j<=Q.length->(∀v',Ci S W' v' (Q.drop j)->K v' W')->runK prog (Instr.sliceAt 293 (.slice q n d) (some (.int .i64 j)) none none) K W':=
  fun h1 h2 h3=>IZ (e:=5) (i:=Tryz.t5) hu hi hs h1 h2 h3
 have ge:∀{W1 U:World} {v':Value} {Q:List Int},Ci S W1 v' Q->Grow W1 U->Ci S U v' Q:=fun h1 g=>h1.grow g (by decide) fun _ _ h=>h;have wq:∀{W1:World} {v':Value} {Q:List Int} {K:Value->Prop},Ci S W1 v' Q->Bl Q->8<=Q.length->K (.int .u64 (GU Q))->Ev prog (fun U=>Grow W1 U) 300 [v'] K:=by
  intro W1 v' Q K h1 h2 h3 h4;refine⟨_,fun w2 g=>AA (Qo (ge h1 g) h2 h3) ?_,h4⟩;rintro _ w3 ⟨rfl,g3⟩;exact⟨rfl,g.trans g3⟩
 obtain⟨x,t,rfl⟩:∃x t,l=x::t:=by cases l with|nil=>simp at bl|cons x t=>exact⟨x,t,rfl⟩
 have hx:=hB x List.mem_cons_self;have I:Bl t:=fun y hy=>hB y (List.mem_cons_of_mem _ hy);obtain⟨p,r,rfl,_,hr,hc,rfl⟩:=hl.get (i:=0) (by simp);have cx:W.cell? (p.add (0*1+0))=some (.int .u8 x):=hc 0 _ rfl;refine AY (j:=0) (by simp) (AL cx ?_);show Bf .u8 (.int .u8 x) _ _;refine Hq (fun ea=>?_) fun ew=>?_
 .have bp:(Bj (x::t)).isSome=(Bj t).isSome:=by
   have:=KE (l:=x::t) (k:=1) hB (by simp) fun j hj=>by
    have:j=0:=by omega
    subst this;exact ea
   simpa using this
  refine sl hl (j:=1) (by simp) fun v2 a7=>?_;rw[List.drop_succ_cons,List.drop_zero] at a7;obtain⟨q2,d2,rfl,_⟩:=a7.shape;refine AU (fun vs U=>Grow W U/\∃q:Bool,vs=[.bool q]/\(q=true->8<=t.length/\∀j,j<8->t.getD j 0<128)) ?_ ?_
  .rintro vs U ⟨g2,q,rfl,hq⟩ _;rw[CR,List.headD_cons];cases q with
   |false=>exact AT (E (ge a7 g2) I bp (by simp) (gW.trans g2))
   |true=>
    obtain⟨h8,ec⟩:=hq rfl;refine Ao (sl (ge a7 g2) (j:=8) h8 fun v3 J=>?_);have O:Bl (t.drop 8):=Bl.drop I 8;have b2:(Bj (x::t)).isSome=(Bj (t.drop 8)).isSome:=bp.trans (KE I h8 ec);have bs:(t.drop 8).length<(x::t).length:=by simp;omega
    generalize t.drop 8=l3 at J O b2 bs;obtain⟨q3,d3,rfl,_⟩:=J.shape;refine AU (fun vs W3=>Grow W W3/\Grow U W3/\∃q:Bool,vs=[.bool q]/\(q=true->16<=l3.length/\∀j,j<16->l3.getD j 0<128)) ?_ ?_
    .rintro vs W3 ⟨g3,bx,q,rfl,hq⟩ _;rw[CR,List.headD_cons];cases q with
     |false=>exact AT (E (ge J bx) O b2 bs (gW.trans g3))
     |true=>
      obtain⟨b4,c4⟩:=hq rfl;refine Ao (sl (ge J bx) (j:=16) b4 fun v4 ed=>?_);refine Ae (fun vs W4=>∃l4 v5,vs=[v5]/\Ci S W4 v5 l4/\Bl l4/\(Bj (x::t)).isSome=(Bj l4).isSome/\l4.length<(x::t).length/\Grow W W4) (fun vs _=>Ql (nth vs 0))
       ⟨_,_,rfl,ed,Bl.drop O 16,b2.trans (KE O b4 c4),by simp only[List.length_drop];omega,g3⟩ ?_
      rintro vs W4 ⟨l4,v5,rfl,a6,B,b5,c6,g4⟩ _;rw[CR,List.headD_cons];obtain⟨q5,d5,rfl,_⟩:=a6.shape;refine CZ (fun W'=>Grow W4 W') (Mod.drew _ _) ?_;rw[AS,BJ];refine AE (fun eA=>?_) fun _=>fun W' g'=>E (ge a6 g') B b5 c6 (gW.trans (g4.trans g'));have et:32<l4.length:=by omega
      have b7:=fun(j:Nat) (hj:j<=l4.length) (w':World)=>ES (a:=q5) (n:=l4.length) (c:=d5) hu hi hs hj w';have b8:=fun(j:Nat) (hj:j<=l4.length)=>Jo a6 hj;refine wq a6 B (by omega) ?_;refine⟨_,fun w' _=>b7 8 (by omega) w',?_⟩;refine wq (b8 8 (by omega)) (Bl.drop B 8) (by simp only[List.length_drop];omega) ?_;have u0:=Ge B;have u1:=Ge (Bl.drop B 8);have u2:=Ge (Bl.drop B 16);have u3:=Ge (Bl.drop B 24);refine⟨_,fun w' _=>DT w' u0 u1,?_⟩;refine⟨_,fun w' _=>b7 16 (by omega) w',?_⟩;refine wq (b8 16 (by omega)) (Bl.drop B 16) (by simp only[List.length_drop];omega) ?_;refine⟨_,fun w' _=>b7 24 (by omega) w',?_⟩;refine wq (b8 24 (by omega)) (Bl.drop B 24) (by simp only[List.length_drop];omega) ?_;refine⟨_,fun w' _=>DT w' u2 u3,?_⟩;refine⟨_,fun w' _=>DT w' (D8 u0 u1) (D8 u2 u3),?_⟩;refine⟨_,fun w' _=>Jl w' (D8 (D8 u0 u1) (D8 u2 u3)) (by unfold Hh;decide),?_⟩;show DK .u64 (.int .u64 _) _ _;rw[Am];intro W' g';refine AE (fun hz=>?_) fun _=>E (ge a6 g') B b5 c6 (gW.trans (g4.trans g'));have a8:((LF (LF (GU l4) (GU (l4.drop 8))) (LF (GU (l4.drop 16)) (GU (l4.drop 24)))).toNat &&& 9259542123273814144:Nat)=0:=NU hz;simp only[LF,Int.toNat_natCast] at a8;obtain⟨z1,z2⟩:=Fg a8;obtain⟨z3,z4⟩:=Fg z1;obtain⟨z5,z6⟩:=Fg z2;have ee:∀j,j<32->l4.getD j 0<128:=by
       intro j hj;rcases(show j<8\/8<=j/\j<16\/16<=j/\j<24\/24<=j by omega) with h|h|h|h
       .exact Dt B z3 h
       .have:=Dt (Bl.drop B 8) z4 (j:=j-8) (by omega);rw[Hk,show 8+(j-8)=j by omega] at this;exact this
       .have:=Dt (Bl.drop B 16) z5 (j:=j-16) (by omega);rw[Hk,show 16+(j-16)=j by omega] at this;exact this
       .have:=Dt (Bl.drop B 24) z6 (j:=j-24) (by omega);rw[Hk,show 24+(j-24)=j by omega] at this;exact this
      refine sl (ge a6 g') (j:=32) (by omega) fun v6 c7=>?_;obtain⟨q6,d6,rfl,_⟩:=c7.shape;refine⟨⟨_,_,rfl,c7,Bl.drop B 32,b5.trans (KE B (by omega) ee),by simp only[List.length_drop];omega,g4.trans g'⟩,?_⟩;show(l4.drop 32).length<l4.length;rw[List.length_drop];omega
    .refine CZ (fun W'=>Grow U W') (Mod.drew _ _) ?_;rw[AS,BJ];refine AE (fun b4=>?_) fun _=>fun W' g'=>⟨g2.trans g',g',false,rfl,fun h=>(nomatch h)⟩;have eu:16<l3.length:=by omega
     refine wq J O (by omega) ?_;refine⟨_,fun w' _=>ES (a:=q3) (n:=l3.length) (c:=d3) hu hi hs (j:=8) (by omega) w',?_⟩;refine wq (Jo J (by omega)) (Bl.drop O 8) (by simp only[List.length_drop];omega) ?_;have u0:=Ge O;have u1:=Ge (Bl.drop O 8);refine⟨_,fun w' _=>DT w' u0 u1,?_⟩;refine⟨_,fun w' _=>Jl w' (D8 u0 u1) (by unfold Hh;decide),?_⟩;show DK .u64 (.int .u64 _) _ _;rw[Am];intro W' g';refine⟨g2.trans g',g',_,rfl,fun hz=>?_⟩;rw[decide_eq_true_eq] at hz;have a8:((LF (GU l3) (GU (l3.drop 8))).toNat &&& 9259542123273814144:Nat)=0:=NU hz;simp only[LF,Int.toNat_natCast] at a8;obtain⟨z1,z2⟩:=Fg a8;refine⟨by omega,fun j hj=>?_⟩;rcases(show j<8\/8<=j by omega) with h|h
     .exact Dt O z1 h
     .have:=Dt (Bl.drop O 8) z2 (j:=j-8) (by omega);rw[Hk,show 8+(j-8)=j by omega] at this;exact this
  .rw[AS,BJ];refine AE (fun h8=>?_) fun _=>⟨Mod.refl _ _,false,rfl,fun h=>(nomatch h)⟩;have eB:8<t.length:=by omega
   refine AA (Qo a7 I (by omega)) ?_;rintro _ U ⟨rfl,g2⟩;refine Ai (Jl U (Ge I) (by unfold Hh;decide)) ?_;rw[Am];refine⟨g2,_,rfl,fun hz=>?_⟩;rw[decide_eq_true_eq] at hz;exact⟨by omega,fun j hj=>Dt I (NU hz) hj⟩
 .have bad:CX (x::t)=(0,0)->∀{W'},Grow w W'->Value.bool false=.bool (Bj b).isSome/\Grow w W':=fun e W' g=>⟨by rw[b3,ID (by simp),e];rfl,g⟩;have FR:∀{n:Nat} {r:Int},CX (x::t)=(r,n)->0<n->(Bj (x::t)).isSome=(Bj ((x::t).drop n)).isSome:=by
   intro n r e V;rw[ID (by simp),e];show(decide (n≠0)&&_)=_;rw[decide_eq_true (show n≠0 by omega),Bool.true_and]
  obtain⟨f,z,j,hf,ef,eh,hz,hj,c8,eC,ak⟩:=ao (x:=x) (by omega) hx.2;have c9:=hT.grow gW;have cf:W.cell? (Addr.add ⟨1,0,none⟩ (x.toNat*1))=some (.int .u8 f):=by
   rw[AI,Nat.mul_one,<-hf];have:=c9.first x.toNat (by omega) (by omega);rwa [show((x.toNat:Nat):Int)=x by omega] at this
  refine Ai (G4 (n:=256) (e:=5) (i:=Tryz.t5) (s:=1) (by kernel_rfl) (by kernel_rfl) (by kernel_rfl) hx.1 (by omega)) (AL cf ?_);refine Ai (VN W ef eh hz) ?_;refine Ai (Eg (k:=.i64) W (by kernel_rfl) (by kernel_rfl)) ?_;have eI:z<=7:=hz▸Nat.and_le_right;rw[wrap64 (by omega) (by omega)];refine Ai (Mr (n:=4) W (by decide)) ?_;have ej:f.fdiv (2 ^ 4)=(j:Int):=by
   rw[Int.fdiv_eq_ediv_of_nonneg _ (by decide),<-hj];rfl
  rw[ej];refine Ai (G4 (n:=16) (e:=383) (i:=Tryz.t383) (s:=2) (by kernel_rfl) (by kernel_rfl) (by kernel_rfl) (by omega) (by omega)) ?_;rw[Int.toNat_natCast,AI];obtain⟨ca,cb⟩:=c9.acc j c8;refine Ah (vs:=[.int .u8 (accLo j),.int .u8 (accHi j)]) rfl (fun q u hu=>?_) ?_
  .rcases q with _|_|q
   .cases hu;exact ca
   .cases hu;exact cb
   .simp at hu
  refine BN (vs:=[.int .u8 (accLo j),.int .u8 (accHi j)]) rfl rfl (fun u hu=>by simp at hu;rcases hu with rfl|rfl<;>rfl) fun b6 U cc eL g6 cd _=>?_;have b9:=cd 0 _ rfl;have ba:=cd 1 _ rfl;have o:=gW.trans g6;have T:=ge hl g6;have e5:0<(x::t).length:=by simp
  rw[Am];refine AE (fun h2=>?_) fun h2=>?_
  .have eN:z=2:=by omega
   have X:CF x=2:=by omega
   obtain⟨ch,cn⟩:=ak (by omega);refine AU (fun _ W3=>Grow U W3/\2<=(x::t).length/\(Bj (x::t)).isSome=(Bj ((x::t).drop 2)).isSome) ?_ ?_
   .rintro vs W3 ⟨g3,al,an⟩ _;refine sl (ge T g3) (j:=2) al fun v3 J=>?_;exact E J (Bl.drop hB 2) an (by rw[List.length_drop];omega) (o.trans g3)
   refine CZ (fun W'=>Grow U W') (Mod.drew _ _) ?_;rw[AS,A6];refine AE (fun cv=>fun W' g'=>bad (Cv hx.2 (by rw[X];omega)) (o.trans g')) fun Y=>?_;obtain⟨y1,t1,rfl⟩:∃y t',t=y::t':=by cases t with|nil=>simp at Y|cons y t'=>exact⟨y,t',rfl⟩
   have Z:=I y1 List.mem_cons_self;have V:=Vx (t:=t1) X Z.1 Z.2;obtain⟨_,r1,e1,_,dk,av,rfl⟩:=T.get (i:=1) (by simp);cases e1;have a1:=av 0 _ rfl;refine AY (j:=1) (by simp) (As (fun w' g=>g.cell a1 fun h=>h) ?_);rw[AG];refine As (fun w' g=>g.cell b9 fun h=>h) ?_;show Bf .u8 (.int .u8 y1) _ _;rw[A6];refine AE (fun ax=>fun W' g'=>bad (by rw[V,if_neg (by omega)]) (o.trans g')) fun ax=>?_;rw[AG];refine As (fun w' g=>g.cell ba fun h=>h) ?_;refine AY (j:=1) (by simp) (As (fun w' g=>g.cell a1 fun h=>h) ?_);show Bf .u8 _ (.int .u8 y1) _;rw[A6];intro W' g';refine AE (fun ay=>bad (by rw[V,if_neg (by omega)]) (o.trans g')) fun ay=>?_;exact⟨g',by simp,FR (by rw[V,if_pos (by omega)]) (by decide)⟩
  rw[Am];refine AE (fun h3=>?_) fun h3=>?_
  .have eR:z=3:=by omega
   have X:CF x=3:=by omega
   obtain⟨ch,cn⟩:=ak (by omega);refine AU (fun _ W3=>Grow U W3/\3<=(x::t).length/\(Bj (x::t)).isSome=(Bj ((x::t).drop 3)).isSome) ?_ ?_
   .rintro vs W3 ⟨g3,al,an⟩ _;refine sl (ge T g3) (j:=3) al fun v3 J=>?_;exact E J (Bl.drop hB 3) an (by rw[List.length_drop];omega) (o.trans g3)
   refine CZ (fun W'=>Grow U W') (Mod.drew _ _) ?_;rw[AS,A6];refine AE (fun cv=>fun W' g'=>bad (Cv hx.2 (by rw[X];omega)) (o.trans g')) fun Y=>?_;obtain⟨y1,y2,t1,rfl⟩:∃y y2 t',t=y::y2::t':=by
    rcases t with _|⟨y,_|⟨y2,t'⟩⟩
    .simp at Y
    .simp at Y
    .exact⟨y,y2,t',rfl⟩
   have Z:=I y1 List.mem_cons_self;have b0:=I y2 (List.mem_cons_of_mem _ List.mem_cons_self);have V:=VX (t:=t1) X Z.1 Z.2 b0.1 b0.2;obtain⟨_,r1,e1,_,dk,av,rfl⟩:=T.get (i:=1) (by simp);cases e1;have a1:=av 0 _ rfl;obtain⟨_,r2,e2,_,ek,bc,rfl⟩:=T.get (i:=2) (by simp);cases e2;have b1:=bc 0 _ rfl;refine AY (j:=1) (by simp) (As (fun w' g=>g.cell a1 fun h=>h) ?_);rw[AG];refine As (fun w' g=>g.cell b9 fun h=>h) ?_;show Bf .u8 (.int .u8 y1) _ _;rw[A6];refine AE (fun ax=>fun W' g'=>bad (by rw[V,if_neg (by omega)]) (o.trans g')) fun ax=>?_;rw[AG];refine As (fun w' g=>g.cell ba fun h=>h) ?_;refine AY (j:=1) (by simp) (As (fun w' g=>g.cell a1 fun h=>h) ?_);show Bf .u8 _ (.int .u8 y1) _;rw[A6];refine AE (fun ay=>fun W' g'=>bad (by rw[V,if_neg (by omega)]) (o.trans g')) fun ay=>?_;refine AY (j:=2) (by simp) (As (fun w' g=>g.cell b1 fun h=>h) ?_);show Bf .u8 (.int .u8 y2) _ _;rw[A6];refine AE (fun bd=>fun W' g'=>bad (by rw[V,if_neg (by omega)]) (o.trans g')) fun bd=>?_;refine AY (j:=2) (by simp) (As (fun w' g=>g.cell b1 fun h=>h) ?_);show Bf .u8 _ (.int .u8 y2) _;rw[A6];intro W' g';refine AE (fun bk=>bad (by rw[V,if_neg (by omega)]) (o.trans g')) fun bk=>?_;exact⟨g',by simp,FR (by rw[V,if_pos (by omega)]) (by decide)⟩
  rw[Am];refine AE (fun h4=>?_) fun h4=>?_
  .have eX:z=4:=by omega
   have X:CF x=4:=by omega
   obtain⟨ch,cn⟩:=ak (by omega);refine AU (fun _ W3=>Grow U W3/\4<=(x::t).length/\(Bj (x::t)).isSome=(Bj ((x::t).drop 4)).isSome) ?_ ?_
   .rintro vs W3 ⟨g3,al,an⟩ _;refine sl (ge T g3) (j:=4) al fun v3 J=>?_;exact E J (Bl.drop hB 4) an (by rw[List.length_drop];omega) (o.trans g3)
   refine CZ (fun W'=>Grow U W') (Mod.drew _ _) ?_;rw[AS,A6];refine AE (fun cv=>fun W' g'=>bad (Cv hx.2 (by rw[X];omega)) (o.trans g')) fun Y=>?_;obtain⟨y1,y2,y3,t1,rfl⟩:∃y y2 y3 t',t=y::y2::y3::t':=by
    rcases t with _|⟨y,_|⟨y2,_|⟨y3,t'⟩⟩⟩
    .simp at Y
    .simp at Y
    .simp at Y
    .exact⟨y,y2,y3,t',rfl⟩
   have Z:=I y1 List.mem_cons_self;have b0:=I y2 (List.mem_cons_of_mem _ List.mem_cons_self);have dT:=I y3 (List.mem_cons_of_mem _ (List.mem_cons_of_mem _ List.mem_cons_self));have V:=VC (t:=t1) X Z.1 Z.2 b0.1 b0.2 dT.1 dT.2;obtain⟨_,r1,e1,_,dk,av,rfl⟩:=T.get (i:=1) (by simp);cases e1;have a1:=av 0 _ rfl;obtain⟨_,r2,e2,_,ek,bc,rfl⟩:=T.get (i:=2) (by simp);cases e2;have b1:=bc 0 _ rfl;obtain⟨_,r3,e3,_,b2,en,rfl⟩:=T.get (i:=3) (by simp);cases e3;have e4:=en 0 _ rfl;refine AY (j:=1) (by simp) (As (fun w' g=>g.cell a1 fun h=>h) ?_);rw[AG];refine As (fun w' g=>g.cell b9 fun h=>h) ?_;show Bf .u8 (.int .u8 y1) _ _;rw[A6];refine AE (fun ax=>fun W' g'=>bad (by rw[V,if_neg (by omega)]) (o.trans g')) fun ax=>?_;rw[AG];refine As (fun w' g=>g.cell ba fun h=>h) ?_;refine AY (j:=1) (by simp) (As (fun w' g=>g.cell a1 fun h=>h) ?_);show Bf .u8 _ (.int .u8 y1) _;rw[A6];refine AE (fun ay=>fun W' g'=>bad (by rw[V,if_neg (by omega)]) (o.trans g')) fun ay=>?_;refine AY (j:=2) (by simp) (As (fun w' g=>g.cell b1 fun h=>h) ?_);show Bf .u8 (.int .u8 y2) _ _;rw[A6];refine AE (fun bd=>fun W' g'=>bad (by rw[V,if_neg (by omega)]) (o.trans g')) fun bd=>?_;refine AY (j:=2) (by simp) (As (fun w' g=>g.cell b1 fun h=>h) ?_);show Bf .u8 _ (.int .u8 y2) _;rw[A6];refine AE (fun bk=>fun W' g'=>bad (by rw[V,if_neg (by omega)]) (o.trans g')) fun bk=>?_;refine AY (j:=3) (by simp) (As (fun w' g=>g.cell e4 fun h=>h) ?_);show Bf .u8 (.int .u8 y3) _ _;rw[A6];refine AE (fun ep=>fun W' g'=>bad (by rw[V,if_neg (by omega)]) (o.trans g')) fun ep=>?_;refine AY (j:=3) (by simp) (As (fun w' g=>g.cell e4 fun h=>h) ?_);show Bf .u8 _ (.int .u8 y3) _;rw[A6];intro W' g';refine AE (fun cc=>bad (by rw[V,if_neg (by omega)]) (o.trans g')) fun cc=>?_;exact⟨g',by simp,FR (by rw[V,if_pos (by omega)]) (by decide)⟩
  .exact bad (OV hB (by omega) (by have:=O2 x;omega)) o
def Mj:Nat->Nat->List Int
 |0,n=>[(n:Int)]
 |f+1,n=>if n<=127 then[(n:Int)] else((n%128+128:Nat):Int)::Mj f (n/128)
def uv(n:Nat):List Int:=Mj 9 n
def Gv(n:Int):Nat:=if 0<=n then(2*n).toNat else(-2*n-1).toNat
theorem O7{a b:Int}(h:Gv a=Gv b):a=b:=by
 unfold Gv at h;split at h<;>split at h<;>omega
theorem Gk{n:Int}(h0:-9223372036854775808<=n)(h1:n<=9223372036854775807):Gv n<18446744073709551616:=by
 unfold Gv;split<;>omega
theorem WI:∀{f n m:Nat} {x y:List Int},n<128 ^ (f+1)->m<128 ^ (f+1)->Mj f n++x=Mj f m++y->n=m/\x=y:=by
 intro f;induction f with
 |zero=>
  intro n m x y _ _ h;simp only[Mj,List.singleton_append,List.cons.injEq] at h;exact⟨by omega,h.2⟩
 |succ f j=>
  intro n m x y o hm h;rw[Nat.pow_succ] at o hm;simp only[Mj] at h;by_cases h1:n<=127<;>by_cases i:m<=127
  .rw[if_pos h1,if_pos i] at h;simp only[List.singleton_append,List.cons.injEq] at h;exact⟨by omega,h.2⟩
  .rw[if_pos h1,if_neg i] at h;simp only[List.cons_append,List.cons.injEq] at h;omega
  .rw[if_neg h1,if_pos i] at h;simp only[List.cons_append,List.cons.injEq] at h;omega
  .rw[if_neg h1,if_neg i] at h;simp only[List.cons_append,List.cons.injEq] at h;have:=j (Nat.div_lt_of_lt_mul (by omega)) (Nat.div_lt_of_lt_mul (by omega)) h.2;exact⟨by omega,this.2⟩
theorem LW{n m:Nat}{x y:List Int}(i:n<18446744073709551616)(hm:m<18446744073709551616)(h:uv n++x=uv m++y):n=m/\x=y:=by
 have e:(18446744073709551616:Nat)<=128 ^ (9+1):=by decide
 exact WI (by omega) (by omega) h
theorem Fa:∀(f n:Nat),1<=(Mj f n).length/\(Mj f n).length<=f+1:=by
 intro f;induction f with
 |zero=>intro n;simp[Mj]
 |succ f i=>
  intro n;simp only[Mj];split
  .simp
  .have:=i (n/128);simp only[List.length_cons];omega
theorem VD:∀(f n:Nat),n<128 ^ (f+1)->∀x∈Mj f n,0<=x/\x<256:=by
 intro f;induction f with
 |zero=>intro n j x i;simp only[Mj,List.mem_singleton] at i;subst i;simp at j;omega
 |succ f o=>
  intro n j x i;rw[Nat.pow_succ] at j;simp only[Mj] at i;split at i
  .simp only[List.mem_singleton] at i;omega
  .rcases List.mem_cons.1 i with rfl|i
   .omega
   .exact o _ (Nat.div_lt_of_lt_mul (by omega)) x i
theorem JD{n:Nat}(i:n<18446744073709551616):∀x∈uv n,0<=x/\x<256:=by
 have e:(18446744073709551616:Nat)<=128 ^ (9+1):=by decide
 exact VD 9 n (by omega)
def Le(a:Attr):Prop:=(-9223372036854775808<=a.key/\a.key<=9223372036854775807)/\(0<=a.val.kind/\a.val.kind<256)/\(-9223372036854775808<=a.val.n/\a.val.n<=9223372036854775807)/\(0<=a.val.f/\a.val.f<18446744073709551616)/\a.val.s.size<18446744073709551616
def Jf(a:Attr):List Int:=uv (Gv a.key)++(uv a.val.kind.toNat++(uv (Gv a.val.n)++(uv a.val.f.toNat++(uv a.val.s.size++Bk a.val.s))))
def FH(l:List Attr):List Int:=l.flatMap Jf
theorem Pw{s t:ByteArray}(h:Bk s=Bk t):s=t:=by
 unfold Bk at h;have i:=(List.map_inj_right (f:=fun b:UInt8=>(b.toNat:Int)) (fun a b e=>UInt8.toNat_inj.1 (Int.ofNat_inj.1 e))).1 h;cases s;cases t;simp only[ByteArray.mk.injEq];exact Array.toList_inj.1 i
theorem Cs(s:ByteArray):(Bk s).length=s.size:=by simp[Bk]
theorem VH{a b:Attr}(ha:Le a)(hb:Le b){x y:List Int}(h:Jf a++x=Jf b++y):a=b/\x=y:=by
 obtain⟨i,U,a3,a4,a5⟩:=ha;obtain⟨j,V,o,X,B⟩:=hb;unfold Jf at h;simp only[List.append_assoc] at h;obtain⟨E,h⟩:=LW (Gk i.1 i.2) (Gk j.1 j.2) h;obtain⟨Y,h⟩:=LW (by omega) (by omega) h;obtain⟨I,h⟩:=LW (Gk a3.1 a3.2) (Gk o.1 o.2) h;obtain⟨Z,h⟩:=LW (by omega) (by omega) h;obtain⟨J,h⟩:=LW a5 B h;obtain⟨O,h⟩:=List.append_inj h (by rw[Cs,Cs,J]);refine⟨?_,h⟩;obtain⟨ak,Q⟩:=a;obtain⟨bk,bv⟩:=b;obtain⟨v1,v2,v3,v4⟩:=Q;obtain⟨S,u2,T,u4⟩:=bv;simp only at *;have:=O7 E;have:=O7 I;have:=Pw O;have:v1=S:=by omega
 have:v3=T:=by omega
 subst_vars
 rfl
theorem UF:∀{l m:List Attr},(∀a∈l,Le a)->(∀a∈m,Le a)->FH l=FH m->l=m:=by
 have ne:∀a x,Jf a++x≠[]:=fun a x e=>by
  have:=Fa 9 (Gv a.key);have h:=congrArg List.length e;simp only[Jf,List.length_append,List.length_nil,uv] at h;omega
 intro l;induction l with
 |nil=>
  intro m _ hm h;cases m with
  |nil=>rfl
  |cons b m=>exact absurd h.symm (by simpa[FH] using ne b (FH m))
 |cons a l j=>
  intro m hl hm h;cases m with
  |nil=>exact absurd h (by simpa[FH] using ne a (FH l))
  |cons b m=>
   simp only[FH,List.flatMap_cons] at h;obtain⟨rfl,o⟩:=VH (hl a List.mem_cons_self) (hm b List.mem_cons_self) h;rw[j (fun x i=>hl x (List.mem_cons_of_mem _ i)) (fun x i=>hm x (List.mem_cons_of_mem _ i)) (show FH l=FH m from o)]
def strOf(l:List Int):ByteArray:=⟨(l.map fun x=>UInt8.ofNat x.toNat).toArray⟩
theorem Gg{l:List Int}(h:∀x∈l,0<=x/\x<256):Bk (strOf l)=l:=by
 unfold Bk strOf;simp only[List.map_map];conv=>rhs;rw[<-List.map_id l]
 refine List.map_congr_left fun x i=>?_;have:=h x i;simp only[Function.comp,UInt8.toNat_ofNat',id];omega
theorem Sv{a:Attr}(h:Le a):∀x∈Jf a,0<=x/\x<256:=by
 obtain⟨j,o,a3,a4,a5⟩:=h;intro x i;simp only[Jf,List.mem_append] at i;rcases i with i|i|i|i|i|i
 .exact JD (Gk j.1 j.2) x i
 .exact JD (by omega) x i
 .exact JD (Gk a3.1 a3.2) x i
 .exact JD (by omega) x i
 .exact JD a5 x i
 .simp only[Bk,List.mem_map] at i;obtain⟨b,_,rfl⟩:=i;have:=b.toNat_lt;omega
theorem JT{l:List Attr}(h:∀a∈l,Le a):∀x∈FH l,0<=x/\x<256:=by
 intro x i;simp only[FH,List.mem_flatMap] at i;obtain⟨a,ha,i⟩:=i;exact Sv (h a ha) x i
def EK(l:List Attr):ByteArray:=strOf (FH l)
theorem IK{l m:List Attr}(hl:∀a∈l,Le a)(hm:∀a∈m,Le a)(h:EK l=EK m):l=m:=by
 refine UF hl hm ?_;rw[<-Gg (JT hl),<-Gg (JT hm)];exact congrArg Bk h
def EA(t:Tab (List Attr))(f:Value->Option Value):Prop:=∀s v,f (.string s)=some v↔∃(i:Nat) (p:Ent (List Attr)),t.places[i]?=some p/\0<p.held/\s=EK p.set/\v=.int .i64 ((i:Int)+1)
def PJ(ks:List Attr->Prop)(s:List Attr):Prop:=s≠[]/\(∀a∈s,Le a)/\ks s
theorem EA.some{K:List Attr->Prop}{t:Tab (List Attr)}{f:Value->Option Value}(h:EA t f)(o:t.Inv (PJ K)){s:List Attr}(x:∀a∈s,Le a){v:Value}(y:f (.string (EK s))=some v):∃i n:Nat,t.places[i]?=.some ⟨s,n⟩/\0<n/\v=.int .i64 ((i:Int)+1):=by
 obtain⟨i,p,h1,j,B,E⟩:=(h _ _).1 y;have:=IK x (o.ok i p h1 j).2.1 B;subst this;exact⟨i,p.held,h1,j,E⟩
theorem EA.none{t:Tab (List Attr)}{f:Value->Option Value}(h:EA t f){s:List Attr}(j:f (.string (EK s))=Option.none):∀(i:Nat) (p:Ent (List Attr)),t.places[i]?=.some p->0<p.held->p.set≠s:=by
 rintro i p h1 o rfl;have:=(h (EK p.set) _).2 ⟨i,p,h1,o,rfl,rfl⟩;rw[j] at this;cases this
theorem EA.HR{t:Tab (List Attr)}{f:Value->Option Value}(h:EA t f){i:Nat}{p:Ent (List Attr)}(hp:t.places[i]?=.some p)(h0:0<p.held){n:Nat}(I:0<n):EA (t.HR i ⟨p.set,n⟩) f:=by
 intro s v;rw[h s v];have E:=(List.getElem?_eq_some_iff.1 hp).1;constructor
 .rintro⟨j,q,h1,B,x,y⟩;by_cases e:j=i
  .subst e;rw[hp] at h1;cases h1;exact⟨j,⟨p.set,n⟩,by show(t.places.set j _)[j]?=_;rw[List.getElem?_set_self E],I,x,y⟩
  .exact⟨j,q,by show(t.places.set i _)[j]?=_;rw[List.getElem?_set_ne (Ne.symm e)];exact h1,B,x,y⟩
 .rintro⟨j,q,h1,B,x,y⟩;have o:(t.places.set i ⟨p.set,n⟩)[j]?=.some q:=h1;by_cases e:j=i
  .subst e;rw[List.getElem?_set_self E] at o;cases o;exact⟨j,p,hp,h0,x,y⟩
  .rw[List.getElem?_set_ne (Ne.symm e)] at o;exact⟨j,q,o,B,x,y⟩
open Classical in
theorem EA.put{K:List Attr->Prop}{t:Tab (List Attr)}{f:Value->Option Value}(h:EA t f)(I:t.Inv (PJ K)){s:List Attr}(J:PJ K s)(O:f (.string (EK s))=Option.none) :
  EA (t.put s).2 (fun Q=>if Q=.string (EK s) then Option.some (.int .i64 (((t.put s).1:Int)+1)) else f Q):=by
 obtain⟨_,h1,U,S,_⟩:=Tab.FM I J (h.none O);intro T v;simp only[Value.string.injEq];constructor
 .intro E;split at E
  .rename_i e;subst e;cases E;exact⟨_,_,h1,Nat.one_pos,rfl,rfl⟩
  .obtain⟨j,p,i,x,o,y⟩:=(h T v).1 E;have B:j≠(t.put s).1:=by
    rintro rfl;have:=U p i;omega
   exact⟨j,p,(S j B).trans i,x,o,y⟩
 .rintro⟨j,p,i,x,o,y⟩;by_cases B:j=(t.put s).1
  .subst B;rw[h1] at i;cases i;rw[if_pos o,y]
  .rw[S j B] at i;rw[if_neg]
   .exact(h T v).2 ⟨j,p,i,x,o,y⟩
   .intro e;rw[e] at o;exact h.none O j p i x (IK (I.ok j p i x).2.1 J.2.1 o.symm)
open Classical in
theorem EA.drop{K:List Attr->Prop}{t:Tab (List Attr)}{f:Value->Option Value}(h:EA t f)(O:t.Inv (PJ K)){i:Nat}{p:Ent (List Attr)}(hp:t.places[i]?=.some p)(h0:0<p.held) :
  EA (t.drop [] i) (fun U=>if U=.string (EK p.set) then Option.none else f U):=by
 have Q:=(List.getElem?_eq_some_iff.1 hp).1;have y:(t.places.set i ⟨[],0⟩)[i]?=.some ⟨[],0⟩:=List.getElem?_set_self Q;have x:∀j:Nat,j≠i->(t.places.set i (⟨[],0⟩:Ent (List Attr)))[j]?=t.places[j]?:=fun j B=>List.getElem?_set_ne (Ne.symm B);intro V v;simp only[Value.string.injEq];constructor
 .intro S;split at S
  .cases S
  .rename_i e;obtain⟨j,q,J,E,I,T⟩:=(h V v).1 S;have B:j≠i:=by
    rintro rfl;rw[hp] at J;cases J;exact e I
   exact⟨j,q,(x j B).trans J,E,I,T⟩
 .rintro⟨j,q,J,E,I,T⟩;have o:(t.places.set i (⟨[],0⟩:Ent (List Attr)))[j]?=.some q:=J;by_cases B:j=i
  .subst B;rw[y] at o;cases o;exact absurd E (Nat.lt_irrefl _)
  .rw[x j B] at o;rw[if_neg]
   .exact(h V v).2 ⟨j,q,o,E,I,T⟩
   .intro e;rw[e] at I;exact B (O.G7 j i q p o hp E h0 (IK (O.ok j q o E).2.1 (O.ok i p hp h0).2.1 I.symm))
theorem EA.z:EA (Tab.z _) (fun _=>Option.none):=fun s v=>by simp[Tab.z]
end Go.Proofs.YtmdhibffnkhcnaaGreatDoor
namespace Go.K
open Go
def PD(w:World)(r:Nat):Nat:=match w.heap[r]? with|some (.stringIter _ p)=>p|_=>0
theorem NI{P:Program}{w:World}{r:Nat}{s:ByteArray}{pos:Nat}{ty:TypeId}(h:w.heap[r]?=some (.stringIter s pos))(hp:pos<s.size) :
  (Instr.next (.pointer (some ⟨r,0,none⟩)) true ty).run P w=.ok (.tuple #[.bool true,.int .i64 pos,.int .i32 (Utf8.decode s pos).1]) { w with heap:=w.heap.setIfInBounds r (.stringIter s (pos+(Utf8.decode s pos).2)) }:=by
 simp only[Instr.next,getObj,setObj,Sem.run_bind,Sem.run,h,Result.andThen,hp,if_true];simp[goInt]
theorem Ly{P:Program}{w:World}{r:Nat}{s:ByteArray}{pos:Nat}{ty:TypeId}(h:w.heap[r]?=some (.stringIter s pos))(hp:¬pos<s.size) :
  (Instr.next (.pointer (some ⟨r,0,none⟩)) true ty).run P w=.ok (.tuple #[.bool false]) w:=by
 simp only[Instr.next,getObj,Sem.run_bind,Sem.run,h,Result.andThen,hp,if_false];rfl
theorem Mod.setObj(w:World)(r:Nat)(o o':Obj)(h:w.heap[r]?=some o):Mod (fun b=>b=r) w { w with heap:=w.heap.setIfInBounds r o' }:=
 ⟨rfl,rfl,rfl,by simp,fun x _ i=>(MapKept.heap_set h).2 x i⟩
end Go.K
namespace Go.Proofs.YtmdhibffnkhcnaaGreatDoor
open Go Go.K Proofs.Tryz
theorem Q7{S:Nat->Prop}{v:Value}{b:List Int}{w:World}(h:Ci S w v b)(hb:Bl b):(convert 293 9 v).run prog w=.ok (.string (strOf b)) w:=by
 obtain⟨a,c,rfl,hm⟩:=h.shape;cases a with
 |none=>
  have:b=[]:=by
   cases b with
   |nil=>rfl
   |cons x b=>obtain⟨p,r,e,_⟩:=h.get (i:=0) (by simp);cases e
  subst this;exact run_convert_bytes_nil w 293 5 (by kernel_rfl) (by kernel_rfl) _ _ _ (by kernel_rfl)
 |some p=>
  have hl:(b.map fun x=>UInt8.ofNat x.toNat).length=b.length:=by simp
  have:=run_convert_bytes_back (P:=prog) w 293 9 5 p c (b.map fun x=>UInt8.ofNat x.toNat) (by kernel_rfl) (by kernel_rfl) (by kernel_rfl) (fun j o=>by
   rw[hl] at o;obtain⟨_,r,e,_,hr,hc,rfl⟩:=h.get o;cases e;have:=hc 0 _ rfl;rw[Nat.mul_one,Nat.add_zero] at this;rw[this];have y:=hb b[j] (List.getElem_mem o);simp only[List.getElem_map,UInt8.toNat_ofNat'];congr 2
   omega)
  rw[hl] at this;exact this
theorem N3{s:ByteArray}{pos:Nat}{r:Int}{n:Nat}(hp:pos<s.size)(h:CX ((Bk s).drop pos)=(r,n))(J:n≠0):((Utf8.decode s pos).1:Int)=r/\(Utf8.decode s pos).2=n:=by
 have o:∀k c,((Bk s).drop pos)[k]?=some c->pos+k<s.size/\(((s.get! (pos+k)).toNat:Nat):Int)=c:=by
  intro k c hc;rw[List.getElem?_drop] at hc;have Q:pos+k<s.size:=by
   have:=(List.getElem?_eq_some_iff.1 hc).1;rwa [Cs] at this
  refine⟨Q,?_⟩;have hg:s.get! (pos+k)=s[pos+k]'Q:=by
   simp[ByteArray.get!,getElem!_pos,Q];rfl
  rw[hg];simp only[Bk,List.getElem?_map] at hc;have X:pos+k<s.data.toList.length:=by simpa using Q
  rw[List.getElem?_eq_getElem X] at hc;have:=Option.some.inj hc;exact this
 have S:Bl ((Bk s).drop pos):=fun x hx=>by
  have:=List.mem_of_mem_drop hx;simp only[Bk,List.mem_map] at this;obtain⟨b,_,rfl⟩:=this;have:=b.toNat_lt;omega
 have Y:((Bk s).drop pos).length≠0:=by rw[List.length_drop,Cs];omega
 generalize (Bk s).drop pos=l at h o S Y;obtain⟨i,t,rfl⟩:∃x t,l=x::t:=by cases l with|nil=>simp at Y|cons x t=>exact⟨x,t,rfl⟩
 obtain⟨_,e0⟩:=o 0 i rfl;have h0:=S i List.mem_cons_self;generalize T:(s.get! (pos+0)).toNat=O at e0;by_cases ha:i<128
 .rw[KX h0.1 ha] at h;cases h;simp only[Utf8.decode,T];rw[if_pos (by omega)];exact⟨e0,rfl⟩
 rcases O2 i with j|j|j|j
 .rw[OV S (by omega) j] at h;cases h;exact absurd rfl J
 .cases t with
  |nil=>rw[Cv h0.2 (by rw[j];simp)] at h;cases h;exact absurd rfl J
  |cons c1 t=>
   have h1:=S c1 (by simp);obtain⟨l1,Z⟩:=o 1 c1 rfl;generalize I:(s.get! (pos+1)).toNat=E at Z;rw[Vx j h1.1 h1.2] at h;split at h
   .rename_i hc;cases h;have a1:194<=i/\i<224:=by
     unfold CF at j
     (repeat' split at j)<;>omega
    have y:128<=IU i:=by
     unfold IU;split
     .decide
     .split<;>decide
    have B:H9 i<=191:=by
     unfold H9;split
     .decide
     .split<;>decide
    have q1:(O/32==6&&(decide (pos+1<s.size)&&E/64==2))=true:=by
     simp only[Bool.and_eq_true,beq_iff_eq,decide_eq_true_eq];exact⟨by omega,l1,by omega⟩
    simp only[Utf8.decode,T,I];rw[if_neg (by omega),if_pos q1,if_pos (by omega)];exact⟨by omega,rfl⟩
   .cases h;exact absurd rfl J
 .rcases t with _|⟨c1,_|⟨c2,t⟩⟩
  .rw[Cv h0.2 (by rw[j];simp)] at h;cases h;exact absurd rfl J
  .rw[Cv h0.2 (by rw[j];simp)] at h;cases h;exact absurd rfl J
  .have h1:=S c1 (by simp);have h2:=S c2 (by simp);obtain⟨l1,Z⟩:=o 1 c1 rfl;obtain⟨l2,e2⟩:=o 2 c2 rfl;generalize I:(s.get! (pos+1)).toNat=E at Z;generalize V:(s.get! (pos+2)).toNat=U at e2;rw[VX j h1.1 h1.2 h2.1 h2.2] at h;split at h
   .rename_i hc;cases h;have a1:224<=i/\i<240:=by
     unfold CF at j
     (repeat' split at j)<;>omega
    have y:(if i=224 then(160:Int) else 128)<=c1:=by
     refine Int.le_trans ?_ hc.1.1;unfold IU;split
     .decide
     .split<;>decide
    have B:c1<=(if i=237 then(159:Int) else 191):=by
     refine Int.le_trans hc.1.2 ?_;unfold H9;split
     .decide
     .split<;>decide
    have a6:128<=c1:=by split at y<;>omega
    have a7:c1<=191:=by split at B<;>omega
    have q1:¬(O/32==6&&(decide (pos+1<s.size)&&E/64==2))=true:=by
     simp only[Bool.and_eq_true,beq_iff_eq,decide_eq_true_eq];rintro⟨x,_⟩;omega
    have q2:(O/16==14&&(decide (pos+1<s.size)&&E/64==2)&&(decide (pos+2<s.size)&&U/64==2))=true:=by
     simp only[Bool.and_eq_true,beq_iff_eq,decide_eq_true_eq];exact⟨⟨by omega,l1,by omega⟩,l2,by omega⟩
    have q3:(decide (O%16*4096+E%64*64+U%64 ≥ 2048)&&Utf8.valid ((O%16*4096+E%64*64+U%64:Nat):Int))=true:=by
     simp only[Utf8.valid,Bool.and_eq_true,Bool.or_eq_true,decide_eq_true_eq];refine⟨by split at y<;>omega,?_⟩;split at B
     .left;omega
     .by_cases hb:i<237
      .left;omega
      .right;omega
    simp only[Utf8.decode,T,I,V];rw[if_neg (by omega),if_neg q1,if_pos q2,if_pos q3];exact⟨by omega,rfl⟩
   .cases h;exact absurd rfl J
 .rcases t with _|⟨c1,_|⟨c2,_|⟨c3,t⟩⟩⟩
  .rw[Cv h0.2 (by rw[j];simp)] at h;cases h;exact absurd rfl J
  .rw[Cv h0.2 (by rw[j];simp)] at h;cases h;exact absurd rfl J
  .rw[Cv h0.2 (by rw[j];simp)] at h;cases h;exact absurd rfl J
  .have h1:=S c1 (by simp);have h2:=S c2 (by simp);have h3:=S c3 (by simp);obtain⟨l1,Z⟩:=o 1 c1 rfl;obtain⟨l2,e2⟩:=o 2 c2 rfl;obtain⟨l3,e3⟩:=o 3 c3 rfl;generalize I:(s.get! (pos+1)).toNat=E at Z;generalize V:(s.get! (pos+2)).toNat=U at e2;generalize a8:(s.get! (pos+3)).toNat=m3 at e3;rw[VC j h1.1 h1.2 h2.1 h2.2 h3.1 h3.2] at h;split at h
   .rename_i hc;cases h;have a1:240<=i/\i<245:=by
     unfold CF at j
     (repeat' split at j)<;>omega
    have y:(if i=240 then(144:Int) else 128)<=c1:=by
     refine Int.le_trans ?_ hc.1.1;unfold IU;rw[if_neg (show ¬i=224 by omega)];exact Int.le_refl _
    have B:c1<=(if i=244 then(143:Int) else 191):=by
     refine Int.le_trans hc.1.2 ?_;unfold H9;rw[if_neg (show ¬i=237 by omega)];exact Int.le_refl _
    have a6:128<=c1:=by split at y<;>omega
    have a7:c1<=191:=by split at B<;>omega
    have q1:¬(O/32==6&&(decide (pos+1<s.size)&&E/64==2))=true:=by
     simp only[Bool.and_eq_true,beq_iff_eq,decide_eq_true_eq];rintro⟨x,_⟩;omega
    have q2:¬(O/16==14&&(decide (pos+1<s.size)&&E/64==2)&&(decide (pos+2<s.size)&&U/64==2))=true:=by
     simp only[Bool.and_eq_true,beq_iff_eq,decide_eq_true_eq];rintro⟨⟨x,_⟩,_⟩;omega
    have q3:(O/8==30&&(decide (pos+1<s.size)&&E/64==2)&&(decide (pos+2<s.size)&&U/64==2)&&(decide (pos+3<s.size)&&m3/64==2))=true:=by
     simp only[Bool.and_eq_true,beq_iff_eq,decide_eq_true_eq];exact⟨⟨⟨by omega,l1,by omega⟩,l2,by omega⟩,l3,by omega⟩
    have q4:(decide (O%8*262144+E%64*4096+U%64*64+m3%64 ≥ 65536)&&Utf8.valid ((O%8*262144+E%64*4096+U%64*64+m3%64:Nat):Int))=true:=by
     simp only[Utf8.valid,Bool.and_eq_true,Bool.or_eq_true,decide_eq_true_eq];refine⟨by split at y<;>omega,?_⟩;right;split at B<;>omega
    simp only[Utf8.decode,T,I,V,a8];rw[if_neg (by omega),if_neg q1,if_neg q2,if_pos q3,if_pos q4];exact⟨by omega,rfl⟩
   .cases h;exact absurd rfl J
theorem U6{S:Nat->Prop}{v:Value}{b:List Int}{w:World}(h:Ci S w v b)(hb:Bl b)(hT:El w)(hl:b.length*4<=140737488355328) :
  AB prog 286 [v] (fun v' w'=>Grow w w'/\match Bj b with
   |some l=>∃sl,v'=.tuple #[sl,.int .i64 0]/\AF w.heap.size 21 1 CH w' sl l
   | none=>v'=.tuple #[.slice none 0 0,.int .i64 3]) w:=by
 apply WN;refine AA (UW h hb hT) ?_;rintro _ I ⟨rfl,X⟩;rw[Ap];cases hr:Bj b with
 |none=>exact Ao ⟨X,rfl⟩
 |some rs=>
  refine AT (Ai (Q7 (h.grow X (by decide) fun _ _ h=>h) hb) ?_);have Y:Bk (strOf b)=b:=Gg hb;have Z:(strOf b).size=b.length:=by rw[<-Cs,Y]
  generalize strOf b=s at Y Z;refine Ai (run_range_string I 9 s (by kernel_rfl)) ?_;have hit:=World.iter_heap I s 0;have g2:Grow I (I.iter s 0):=Mod.alloc _ _ _;have an:=X.size;generalize I.iter s 0=w2 at hit g2;generalize av:I.heap.size=r at hit;have ax:w.heap.size<=r:=by omega
  refine Ae (fun vs W=>∃(pos:Nat) (J:Value) (acc:List Int),pos<=b.length/\acc.length<=pos/\vs=[J]/\W.heap[r]?=some (.stringIter s pos)/\AF w.heap.size 21 1 CH W J acc/\J.ownBlock≠some r/\Grow w W/\Bj b=(Bj (b.drop pos)).map (acc++·)) (fun _ W=>b.length-PD W r)
   ⟨0,_,[],Nat.zero_le _,Nat.le_refl _,rfl,hit,AF.nil,(fun h=>nomatch h),X.trans g2,by simp⟩ ?_
  rintro vs W ⟨pos,J,acc,a8,ak,rfl,O,ho,y,gW,i⟩ _;have o:PD W r=pos:=by simp[PD,O]
  by_cases B:pos<s.size
  .have al:pos<b.length:=by omega
   have a1:b.drop pos≠[]:=by intro e;have:=congrArg List.length e;simp at this;omega
   have E:=Su (b.drop pos);rw[List.length_drop] at E;rw[Ld a1] at i;have a6:∃q n,CX (b.drop pos)=(q,n):=⟨_,_,rfl⟩;obtain⟨q,n,hq⟩:=a6;rw[hq] at i E;simp only at i E;have hn:n≠0:=by
    intro e;rw[if_pos e,hr] at i;cases i
   rw[if_neg hn] at i;obtain⟨d1,d2⟩:=N3 (s:=s) B (by rw[Y];exact hq) hn;refine Ai (NI O B) ?_;rw[d1,d2];refine CJ (vs:=[_,_,_]) (by rfl) (Ao (CJ (vs:=[_,_,_]) (by rfl) ?_));have m3:=Mod.setObj W r _ (.stringIter s (pos+n)) O;have a7:=(MapKept.heap_set (o':=.stringIter s (pos+n)) O).1;have j:({ W with heap:=W.heap.setIfInBounds r (.stringIter s (pos+n)) }:World).heap[r]?=some (.stringIter s (pos+n)):=a7;generalize ({ W with heap:=W.heap.setIfInBounds r (.stringIter s (pos+n)) }:World)=W3 at m3 j;have Q:AF w.heap.size 21 1 CH W3 J acc:=AF.mod ho m3 (fun g hg e=>y (e▸hg)) fun _ _ _ h=>h;have T:Grow w W3:=gW.next m3 fun x hx e=>by omega
   show Bc _ _ _ _ [(0,.int .i32 q)] _ _;refine DQ Jc Q T.size (cs:=[.int .i32 q]) (x:=q) (by kernel_rfl) rfl rfl (fun _ _ _=>CH.one) (fun _ _ _ _ _ _ h=>h) (by omega) (by simp only[maxLen];omega) fun v' w' h1 h2 h3=>?_;have U:r<W3.heap.size:=(Array.getElem?_eq_some_iff.1 j).1;have V:w'.heap[r]?=some (.stringIter s (pos+n)):=(h2.same r U y).trans j;refine⟨⟨pos+n,v',acc++[q],by omega,by simp;omega,rfl,V,h1,fun e=>?_,T.next h2 fun x hx e=>?_,?_⟩,?_⟩
   .rcases h3 r e with e|e
    .exact y e
    .omega
   .have:=(AF.BI Q x e).1;omega
   .rw[i,List.drop_drop];cases Bj (b.drop (pos+n))<;>simp
   .rw[o];have:PD w' r=pos+n:=by simp[PD,V]
    rw[this];omega
  .refine Ai (Ly O B) ?_;refine CJ (vs:=[_]) (by rfl) (AT ?_);have:pos=b.length:=by omega
   subst this;rw[List.drop_length,MP,hr] at i;simp only[Option.map_some,Option.some.injEq,List.append_nil] at i;subst i;exact⟨gW,J,rfl,ho⟩
theorem Vh{n:Nat}{w:World}:(callFunc 285 #[.float .f64 n]).run prog w=.ok (.value (.int .u64 n)) w:=by
 have h:prog.funcs[285]?=some Tryz.f285:=func285
 have e0 : (Tryz.f285.name == "runtime.NumGoroutine") = false := by kernel_rfl
 have i:Tryz.f285.body.isNone=true:=by kernel_rfl
 have j:Extern.findNext Tryz.f285=none:=by kernel_rfl
 have o:Extern.find Tryz.f285=some Extern.MathFloatBits.float64bits:=by kernel_rfl
 simp only[callFunc,program,mark,Sem.run_bind,Sem.run,Result.andThen,h,e0,i,j,o,Bool.false_eq_true,if_false,if_true];rfl
theorem Tt{n:Int}{w:World}:(callFunc 257 #[.int .u64 n]).run prog w=.ok (.value (.float .f64 n.toNat)) w:=by
 have h:prog.funcs[257]?=some Tryz.f257:=func257
 have e0 : (Tryz.f257.name == "runtime.NumGoroutine") = false := by kernel_rfl
 have i:Tryz.f257.body.isNone=true:=by kernel_rfl
 have j:Extern.findNext Tryz.f257=none:=by kernel_rfl
 have o:Extern.find Tryz.f257=some Extern.MathFloatBits.float64frombits:=by kernel_rfl
 simp only[callFunc,program,mark,Sem.run_bind,Sem.run,Result.andThen,h,e0,i,j,o,Bool.false_eq_true,if_false,if_true];rfl
theorem TY{n:Nat}{w:World}:AB prog 284 [.float .f64 n] (fun v w'=>v=.bool (decide (Fe (n:Int)))/\w'=w) w:=by
 apply Xm;refine Ai (v:=.bool (decide (Fe (n:Int)))) (w':=w) ?_ ⟨rfl,rfl⟩;rw[<-P4];simp[BZ,eqGuard,binOp,Op.floatCmp]
theorem YT{b:Bool}{w:World}:AB prog 254 [.bool b] (fun v w'=>v=.agg (⟨1,if b then 1 else 0,0,Fh⟩:BE).cells.toArray/\Grow w w') w:=by
 apply YU;refine EJ fun V w1 X Y Z _ B=>?_;refine⟨(⟨1,0,0,Fh⟩:BE).cells.toArray,by kernel_rfl,?_⟩;refine BN (vs:=(⟨1,0,0,Fh⟩:BE).cells) rfl rfl (BE.one _) fun y w2 a1 a6 Q E I=>?_;have J:=Z.trans Q;cases b with
 |true=>
  refine Ao ?_;rw[AG];refine(I 1 (by decide)).st rfl rfl ?_;rw[AI];have m:=Mod.setCell (M:=fun x=>x=y) w2 ⟨y,1,none⟩ (.int .i64 1) rfl;have hc:∀j u,(⟨1,1,0,Fh⟩:BE).cells[j]?=some u->(w2.setCell ⟨y,1,none⟩ (.int .i64 1)).cell? ((⟨y,0,none⟩:Addr).add j)=some u:=by
   intro j u hu;rw[AI];by_cases e:j=1
   .subst e;have h1:=(I 1 (by decide)).1;rw[AI] at h1;obtain⟨u',S⟩:=Option.isSome_iff_exists.1 h1;cases hu;exact World.cell?_setCell_same _ _ _ S
   .rw [World.cell?_setCell_other _ _ _ _ (fun e'=>by simp only [Addr.mk.injEq] at e';exact e e'.2.1.symm)];have:=E j u (by
     rcases j with _|_|_|_|j
     .exact hu
     .exact absurd rfl e
     .exact hu
     .exact hu
     .exact hu)
    rwa [AI] at this
  have i:=fun j O=>((B j O).mod Q fun h=>h).mod m (fun e=>by rw[AI] at e;have:V=y:=e;omega);generalize w2.setCell ⟨y,1,none⟩ (.int .i64 1)=w3 at m hc i ⊢;refine Ah (vs:=(⟨1,1,0,Fh⟩:BE).cells) rfl hc ?_;refine CT rfl (BE.one _) (fun j O=>i j O) fun w4 T o _=>?_;refine Ah (vs:=(⟨1,1,0,Fh⟩:BE).cells) rfl o ⟨rfl,?_⟩;exact(J.next m fun x U e=>by omega).next T fun x U e=>by omega
 |false=>
  refine AT ?_;refine Ah (vs:=(⟨1,0,0,Fh⟩:BE).cells) rfl E ?_;refine CT rfl (BE.one _) (fun j O=>(B j O).mod Q fun h=>h) fun w4 T o _=>?_;refine Ah (vs:=(⟨1,0,0,Fh⟩:BE).cells) rfl o ⟨rfl,?_⟩;exact J.next T fun x U e=>by omega
theorem bA{n:Int}{w:World}:AB prog 255 [.int .i64 n] (fun v w'=>v=.agg (⟨2,n,0,Fh⟩:BE).cells.toArray/\Grow w w') w:=by
 apply Yg;refine EJ fun O Q y B E _ i=>?_;refine⟨(⟨2,n,0,Fh⟩:BE).cells.toArray,by kernel_rfl,?_⟩;refine CT rfl (BE.one _) (fun j I=>i j I) fun w4 J o _=>?_;refine Ah (vs:=(⟨2,n,0,Fh⟩:BE).cells) rfl o ⟨rfl,?_⟩;exact E.next J fun x S e=>by omega
theorem Uy{n:Nat}{w:World}:AB prog 256 [.float .f64 n] (fun v w'=>v=.agg (⟨3,0,if Fe (n:Int) then 9221120237041090560 else n,Fh⟩:BE).cells.toArray/\Grow w w') w:=by
 apply V3;refine EJ fun T J O Q I _ o=>?_;refine AA TY ?_;rintro _ _ ⟨rfl,rfl⟩;rename World=>J
 by_cases y:Fe (n:Int)
 .rw[decide_eq_true y];refine Ao ⟨(⟨3,0,9221120237041090560,Fh⟩:BE).cells.toArray,by kernel_rfl,?_⟩;refine CT rfl (BE.one _) (fun j B=>o j B) fun w4 E i _=>?_;refine Ah (vs:=(⟨3,0,9221120237041090560,Fh⟩:BE).cells) rfl i ⟨by rw[if_pos y],?_⟩;exact I.next E fun x S e=>by omega
 .rw[decide_eq_false y];refine AT ⟨_,_,Vh,?_⟩;refine⟨(⟨3,0,(n:Int),Fh⟩:BE).cells.toArray,by kernel_rfl,?_⟩;refine CT rfl (BE.one _) (fun j B=>o j B) fun w4 E i _=>?_;refine Ah (vs:=(⟨3,0,(n:Int),Fh⟩:BE).cells) rfl i ⟨by rw[if_neg y],?_⟩;exact I.next E fun x S e=>by omega
def Mg(s:ByteArray):Prop:=s.size<=64/\(Bj (Bk s)).isSome=true
instance (s:ByteArray):Decidable (Mg s):=by unfold Mg;infer_instance
theorem O6(s:ByteArray):Bl (Bk s):=fun x i=>by
 simp only[Bk,List.mem_map] at i;obtain⟨b,_,rfl⟩:=i;have:=b.toNat_lt;omega
theorem Wh{s:ByteArray}{w:World}(hT:El w):AB prog 258 [.string s] (fun v w'=>v=(if Mg s then .tuple #[.agg (⟨4,0,0,s⟩:BE).cells.toArray,.int .i64 0] else .tuple #[.agg (⟨0,0,0,Fh⟩:BE).cells.toArray,.int .i64 3])/\Grow w w') w:=by
 apply Xr;refine EJ fun T w1 a1 a6 U _ y=>?_;rw[KG,BJ];refine AE (fun V=>?_) fun a7=>?_
 .refine⟨(⟨0,0,0,Fh⟩:BE).cells.toArray,by kernel_rfl,?_⟩;refine CT rfl (BE.one _) (fun j i=>y j i) fun w4 m4 J _=>?_;refine Ah (vs:=(⟨0,0,0,Fh⟩:BE).cells) rfl J ⟨by rw[if_neg (fun h=>by have:=h.1;omega)],?_⟩;exact U.next m4 fun x X e=>by omega
 .refine Nu (by omega) fun v3 w3 Y O=>?_;have B:=U.trans Y;have Q:∀j,j<4->Live w3 ((⟨T,0,none⟩:Addr).add j):=fun j i=>(y j i).mod Y fun h=>h;refine AA (U6 O (O6 s) (hT.grow B) (by rw[Cs];omega)) ?_;rintro v5 w5 ⟨Z,hm⟩;have E:∀j,j<4->Live w5 ((⟨T,0,none⟩:Addr).add j):=fun j i=>(Q j i).mod Z fun h=>h;have I:=B.trans Z;cases hr:Bj (Bk s) with
  |none=>
   rw[hr] at hm;subst hm;refine BQ ?_;rw[Bh];refine AZ (fun e=>by cases e) fun _=>?_;refine⟨(⟨0,0,0,Fh⟩:BE).cells.toArray,by kernel_rfl,?_⟩;refine CT rfl (BE.one _) (fun j i=>E j i) fun w6 S o _=>?_;refine Ah (vs:=(⟨0,0,0,Fh⟩:BE).cells) rfl o ⟨by rw[if_neg (fun h=>by have:=h.2;rw[hr] at this;cases this)],?_⟩;exact I.next S fun x X e=>by omega
  |some l=>
   rw[hr] at hm;obtain⟨sl,rfl,_⟩:=hm;refine BQ ?_;refine OY ?_;refine⟨(⟨4,0,0,s⟩:BE).cells.toArray,by kernel_rfl,?_⟩;refine CT rfl (BE.one _) (fun j i=>E j i) fun w6 S o _=>?_;refine Ah (vs:=(⟨4,0,0,s⟩:BE).cells) rfl o ⟨by rw[if_pos ⟨by omega,by rw[hr];rfl⟩],?_⟩;exact I.next S fun x X e=>by omega
theorem Mu{v:BE}{w:World}(Y:El w)(h0:0<=v.f) :
  AB prog 208 [.agg v.cells.toArray] (fun v' w'=>v'=.bool (decide (DO v))/\Grow w w') w:=by
 apply Xg;refine Df fun b Q _ hz g hc _=>?_;have Z:=hc 0 _ rfl;have l1:=hc 1 _ rfl;have l2:=hc 2 _ rfl;have l3:=hc 3 _ rfl;have key:∀(b:Bool) w',Grow w w'->(b=true↔DO v)->Value.bool b=.bool (decide (DO v))/\Grow w w':=fun b w' g h=>⟨by congr 1;rw[Bool.eq_iff_iff,h,decide_eq_true_eq],g⟩;have X:∀w',Grow w w'->¬DO v->Value.bool false=.bool (decide (DO v))/\Grow w w':=fun w' g h=>key false w' g (by simp only[Bool.false_eq_true,false_iff];exact h);have o:∀j u,v.cells[j]?=some u->Q.cell? ((⟨b,0,none⟩:Addr).add j)=some u:=hc;simp only[AG];refine AL Z ?_;rw[Am];refine AE (fun k1=>?_) fun k1=>?_
 .refine CZ (fun w2=>Grow Q w2) (Mod.drew _ _) ?_;refine Gt (vs:=v.cells) rfl (fun w2 i j u hu=>i.cell (o j u hu) fun h=>h) (As (fun w2 i=>i.cell l1 fun h=>h) ?_);rw[Am];refine⟨_,fun w2 i=>AA YT (by rintro _ E ⟨rfl,y⟩;exact⟨rfl,i.trans y⟩),?_⟩;refine⟨_,fun w2 _=>Gp _ _ v ⟨1,if decide (v.n=1) then 1 else 0,0,Fh⟩ w2,?_⟩;intro E y;refine key _ _ (g.trans y) ?_;rw[decide_eq_true_eq];constructor
  .intro e;refine .inl ⟨k1,?_,?_⟩
   .by_cases h1:v.n=1
    .rw[h1];simpa[h1] using e
    .have en:v.n=0:=by rw[e];simp[h1]
     rw[en];simpa[h1] using e
   .by_cases h1:v.n=1
    .exact .inr h1
    .left;rw[e];simp[h1]
  .rintro(h|h|h|h)
   .obtain⟨_,e,B⟩:=h;rcases B with B|B
    .rw[B] at e ⊢;exact e
    .rw[B] at e ⊢;exact e
   .omega
   .omega
   .omega
 rw[Am];refine AE (fun k2=>?_) fun k2=>?_
 .refine CZ (fun w2=>Grow Q w2) (Mod.drew _ _) ?_;refine Gt (vs:=v.cells) rfl (fun w2 i j u hu=>i.cell (o j u hu) fun h=>h) (As (fun w2 i=>i.cell l1 fun h=>h) ?_);refine⟨_,fun w2 i=>AA bA (by rintro _ E ⟨rfl,y⟩;exact⟨rfl,i.trans y⟩),?_⟩;refine⟨_,fun w2 _=>Gp _ _ v ⟨2,v.n,0,Fh⟩ w2,?_⟩;intro E y;refine key _ _ (g.trans y) ?_;rw[decide_eq_true_eq];refine⟨fun h=>.inr (.inl ⟨k2,h⟩),fun h=>?_⟩;rcases h with h|h|h|h
  .omega
  .exact h.2
  .omega
  .omega
 rw[Am];refine AE (fun T=>?_) fun T=>?_
 .refine CZ (fun w2=>Grow Q w2) (Mod.drew _ _) ?_;refine Gt (vs:=v.cells) rfl (fun w2 i j u hu=>i.cell (o j u hu) fun h=>h) (As (fun w2 i=>i.cell l2 fun h=>h) ?_);refine⟨_,fun w2 _=>Tt,?_⟩;refine⟨_,fun w2 i=>AA Uy (by rintro _ E ⟨rfl,y⟩;exact⟨rfl,i.trans y⟩),?_⟩;refine⟨_,fun w2 _=>Gp _ _ v _ w2,?_⟩;intro E y;refine key _ _ (g.trans y) ?_;have ef:((v.f.toNat:Nat):Int)=v.f:=by omega
  rw[decide_eq_true_eq,ef];constructor
  .intro e;refine .inr (.inr (.inl ⟨T,?_,?_⟩))
   .by_cases B:Fe v.f
    .rw[if_pos B] at e;have e2:v.f=9221120237041090560:=congrArg BE.f e;rw[e2];exact e
    .rw[if_neg B] at e;exact e
   .by_cases B:Fe v.f
    .rw[if_pos B] at e;exact .inr (congrArg BE.f e)
    .exact .inl B
  .rintro(h|h|h|h)
   .omega
   .omega
   .obtain⟨_,e,B⟩:=h;by_cases U:Fe v.f
    .rw[if_pos U];rw[B.resolve_left fun x=>x U] at e;exact e
    .rw[if_neg U];exact e
   .omega
 rw[Am];refine AE (fun V=>?_) fun V=>X _ g ?_
 .refine AL l3 (AA (Wh (Y.grow g)) ?_);rintro v3 E ⟨rfl,y⟩;have I:=g.trans y;by_cases J:Mg v.s
  .rw[if_pos J];refine BQ ?_;refine BN (vs:=(⟨4,0,0,v.s⟩:BE).cells) rfl rfl (BE.one _) fun b4 w4 _ _ S O _=>?_;rw[Am];refine AE (fun _=>?_) fun e=>(e rfl).elim;refine Ah (vs:=v.cells) rfl (fun j u hu=>(y.trans S).cell (o j u hu) fun h=>h) ?_;refine Ah (vs:=(⟨4,0,0,v.s⟩:BE).cells) rfl O (Ai (Gp _ _ v ⟨4,0,0,v.s⟩ w4) ?_);refine key _ _ (I.trans S) ?_;rw[decide_eq_true_eq];refine⟨fun e=>.inr (.inr (.inr ⟨V,e,J.1,J.2⟩)),fun h=>?_⟩;rcases h with h|h|h|h
   .omega
   .omega
   .omega
   .exact h.2.1
  .rw[if_neg J];refine BQ ?_;refine BN (vs:=(⟨0,0,0,Fh⟩:BE).cells) rfl rfl (BE.one _) fun b4 w4 _ _ S O _=>?_;rw[Am];refine AE (fun e=>by cases e) fun _=>X _ (I.trans S) ?_;rintro(h|h|h|h)
   .omega
   .omega
   .omega
   .exact J ⟨h.2.2.1,h.2.2.2⟩
 .rintro(h|h|h|h)
  .exact k1 h.1
  .exact k2 h.1
  .exact T h.1
  .exact V h.1
end Go.Proofs.YtmdhibffnkhcnaaGreatDoor
namespace Go.K
open Go
section
variable {α:Type}[Inhabited α]
theorem Iv(enc:α->List Value)(k:Nat)(hk:∀x,(enc x).length=k)(d:Array α):(Sort.flatK enc k d).toList=(d.toList.map enc).flatten:=by
 refine List.ext_getElem? fun t=>?_;have hl:∀r∈d.toList.map enc,r.length=k:=fun r hr=>by obtain⟨x,_,rfl⟩:=List.mem_map.1 hr;exact hk x
 have y:(d.toList.map enc).flatten.length=d.size*k:=by rw[Ef _ hl,List.length_map,Array.length_toList]
 by_cases ht:t<d.size*k
 .have i:0<k:=by
   rcases Nat.eq_zero_or_pos k with h|h
   .subst h;simp at ht
   .exact h
  have B:t/k<d.size:=(Nat.div_lt_iff_lt_mul i).2 ht;have h1:=Sort.get_flatK enc k d t ht;have E:(Sort.flatK enc k d).toList[t]?=some (Sort.flatK enc k d)[t]!:=by
   have j:t<(Sort.flatK enc k d).size:=by simpa using ht
   rw[Array.getElem?_toList,Array.getElem?_eq_getElem j,getElem!_pos _ t j]
  rw[E,h1];have o:=HE (d.toList.map enc) (t/k) (t%k) (enc d[t/k]!) hl (by simp[B]) (Nat.mod_lt _ i);rw[Nat.div_add_mod' t k] at o;rw[o];have hm:t%k<(enc d[t/k]!).length:=by rw[hk];exact Nat.mod_lt _ i
  rw[List.getElem?_eq_getElem hm,getElem!_pos (enc d[t/k]!) _ hm]
 .rw[List.getElem?_eq_none (by simp;omega),List.getElem?_eq_none (by omega)]
theorem H0(F i:Array Value)(h:F.size<=i.size):(Sort.putCells id 0 F i).size=i.size/\(Sort.putCells id 0 F i).toList.take F.size=F.toList:=by
 refine⟨by simp[Sort.putCells],List.ext_getElem? fun t=>?_⟩;by_cases ht:t<F.size
 .rw[List.getElem?_take,if_pos ht,Array.getElem?_toList,Array.getElem?_toList];have h1:t<i.size:=by omega
  simp[Sort.putCells,ht,h1]
 .rw[List.getElem?_take,if_neg ht,List.getElem?_eq_none (by simp;omega)]
theorem K0{enc:α->List Value}{k:Nat}{w:World}{g m e:Nat}{d:Array α}{os:Array Obj}{j:Array Value}(y:w.heap[g]?=some (.cells j e (0,0))) :
  (Go.Proofs.sortWorldK enc k w g 0 m d os).heap[g]?=some (.cells (Sort.putCells id 0 (Sort.flatK enc k d) j) e (0,0))/\Mod (fun b=>b=g) w (Go.Proofs.sortWorldK enc k w g 0 m d os):=by
 have o:g<w.heap.size:=(Array.getElem?_eq_some_iff.1 y).1;have i:(w.heap.modify g (Sort.onCells (Sort.putCells id 0 (Sort.flatK enc k d)))).size=w.heap.size:=by simp
 have x:(Go.Proofs.sortWorldK enc k w g 0 m d os).heap=w.heap.modify g (Sort.onCells (Sort.putCells id 0 (Sort.flatK enc k d)))++os:=rfl;refine⟨?_,⟨rfl,rfl,rfl,by rw[x,Array.size_append,i];omega,fun b hb B=>?_⟩⟩
 .rw[x,Array.getElem?_append_left (by rw[i];exact o),Array.getElem?_modify,if_pos rfl,y];rfl
 .rw[x,Array.getElem?_append_left (by rw[i];exact hb),Array.getElem?_modify,if_neg (fun h=>B h.symm)]
theorem AF.sorted{B e k:Nat}{R:World->List Value->α->Prop}{enc:α->List Value}(hk:∀x,(enc x).length=k)(h1:∀x,∀v∈enc x,v.oneCell'=true)(X:∀w r x,R w r x↔r=enc x){w:World}{g n c:Nat}{l:List α}(h:AF B e k R w (.slice (some ⟨g,0,none⟩) n c) l) :
  n=l.length/\g<w.heap.size/\Sort.HoldsK enc k w g 0 l.toArray/\∀(m:Nat) (d:Array α) (os:Array Obj),d.size=l.length->AF B e k R (Go.Proofs.sortWorldK enc k w g 0 m d os) (.slice (some ⟨g,0,none⟩) n c) d.toList/\Mod (fun b=>b=g) w (Go.Proofs.sortWorldK enc k w g 0 m d os):=by
 obtain⟨rows,h2,h3,h4,h5⟩:=h;obtain⟨q1,q2⟩:=h2;rcases q2 with⟨q,_⟩|⟨g',a1,y,q,hg,Q,Y,hm,o,I⟩
 .cases q
 cases q;have T:g<w.heap.size:=(Array.getElem?_eq_some_iff.1 Q).1;have E:rows=l.map enc:=by
  refine List.ext_getElem? fun i=>?_;rw[List.getElem?_map];by_cases Z:i<l.length
  .have J:i<rows.length:=by omega
   rw[List.getElem?_eq_getElem Z,List.getElem?_eq_getElem J,Option.map_some];rw[(X w rows[i] l[i]).1 (h5 i _ _ (List.getElem?_eq_getElem J) (List.getElem?_eq_getElem Z))]
  .rw[List.getElem?_eq_none (by omega),List.getElem?_eq_none (by omega)];rfl
 have O:l.length*k<=c*k:=Nat.mul_le_mul_right _ Y;refine⟨rfl,T,fun j U=>?_,fun m d os S=>?_⟩
 .rw[Sort.size_flatK] at U;have V:j<l.length*k:=by simpa using U
  have a6:j<y.size:=by rw[o];omega
  have e0:(Sort.flatK enc k l.toArray).toList=rows.flatten:=by rw[Iv enc k hk,E]
  have e1:rows.flatten[j]?=some (Sort.flatK enc k l.toArray)[j]!:=by
   have hs:j<(Sort.flatK enc k l.toArray).size:=by rw[Sort.size_flatK];exact U
   rw[<-e0,Array.getElem?_toList,Array.getElem?_eq_getElem hs,getElem!_pos _ j hs]
  rw[<-I,List.getElem?_take,if_pos V,Array.getElem?_toList] at e1;rw[Nat.zero_add];refine⟨?_,?_⟩
  .simp only[World.cell?,Q];exact e1
  .simp[World.frozen?,Q]
 .obtain⟨r1,r2⟩:=K0 (enc:=enc) (k:=k) (m:=m) (d:=d) (os:=os) Q;refine⟨⟨d.toList.map enc,⟨?_,.inr ⟨g,c,_,by have e:d.toList.length=l.length:=S;rw[e],hg,r1,?_,hm,?_,?_⟩⟩,by simp,fun r hr=>?_,fun i r x hr hx=>?_⟩,r2⟩
  .have:=Ef (d.toList.map enc) (k:=k) fun r hr=>by obtain⟨x,_,rfl⟩:=List.mem_map.1 hr;exact hk x
   simpa using this
  .rw[Array.length_toList,S];exact Y
  .rw[(H0 (Sort.flatK enc k d) y (by rw[Sort.size_flatK,S,o];exact O)).1];exact o
  .have:=(H0 (Sort.flatK enc k d) y (by rw[Sort.size_flatK,S,o];exact O)).2;rw[Sort.size_flatK] at this;rw[Array.length_toList,this,Iv enc k hk]
  .obtain⟨x,_,rfl⟩:=List.mem_map.1 hr;exact⟨hk x,h1 x⟩
  .rw[List.getElem?_map] at hr;rw[hx] at hr;exact(X _ _ _).2 (Option.some.inj hr).symm
end
end Go.K
namespace Go.Proofs.YtmdhibffnkhcnaaGreatDoor
open Go Go.K Proofs.Tryz
def ON:Go.Shelf.Ren:=⟨fun|6=>31|15=>72|14=>71|28=>140|29=>141|20=>132|21=>133|22=>134|23=>135|24=>136|25=>137|26=>138|27=>139|46=>203|47=>204|48=>205|49=>206|50=>207|57=>253|n=>n,fun|22=>22|24=>65|25=>73|3=>3|39=>130|0=>0|53=>211|55=>75|4=>4|46=>205|45=>204|50=>163|5=>5|9=>9|66=>285|70=>289|76=>328|77=>247|n=>n,fun|n=>n⟩
theorem Q5:Go.Proofs.SlLaysF0.n6 prog ON:={
 mixed:=by kernel_rfl,
 f6:=⟨Tryz.f31.name,by decide,func31.trans (congrArg some (by kernel_rfl))⟩,
 f14:=⟨Tryz.f71.name,by decide,func71.trans (congrArg some (by kernel_rfl))⟩,
 f15:=func72.trans (congrArg some (by kernel_rfl)),
 f20:=⟨Tryz.f132.name,by decide,func132.trans (congrArg some (by kernel_rfl))⟩,
 f21:=⟨Tryz.f133.name,by decide,func133.trans (congrArg some (by kernel_rfl))⟩,
 f22:=⟨Tryz.f134.name,by decide,func134.trans (congrArg some (by kernel_rfl))⟩,
 f23:=⟨Tryz.f135.name,by decide,func135.trans (congrArg some (by kernel_rfl))⟩,
 f24:=⟨Tryz.f136.name,by decide,func136.trans (congrArg some (by kernel_rfl))⟩,
 f25:=⟨Tryz.f137.name,by decide,func137.trans (congrArg some (by kernel_rfl))⟩,
 f26:=⟨Tryz.f138.name,by decide,func138.trans (congrArg some (by kernel_rfl))⟩,
 f27:=⟨Tryz.f139.name,by decide,func139.trans (congrArg some (by kernel_rfl))⟩,
 f28:=func140.trans (congrArg some (by kernel_rfl)),
 f29:=func141.trans (congrArg some (by kernel_rfl)),
 f46:=⟨Tryz.f203.name,by decide,func203.trans (congrArg some (by kernel_rfl))⟩,
 f47:=func204.trans (congrArg some (by kernel_rfl)),
 f48:=func205.trans (congrArg some (by kernel_rfl)),
 f49:=⟨Tryz.f206.name,by decide,func206.trans (congrArg some (by kernel_rfl))⟩,
 f50:=⟨Tryz.f207.name,by decide,func207.trans (congrArg some (by kernel_rfl))⟩,
 f57:=⟨Tryz.f253.name,by decide,func253.trans (congrArg some (by kernel_rfl))⟩,
 t0:=underlying0,
 a0:=Tryz.isAgg0,
 z0:=Tryz.sizeOf0,
 v0:=Tryz.zeroValue0,
 t3:=underlying3,
 a3:=Tryz.isAgg3,
 z3:=Tryz.sizeOf3,
 v3:=Tryz.zeroValue3,
 t4:=underlying4,
 a4:=Tryz.isAgg4,
 z4:=Tryz.sizeOf4,
 v4:=Tryz.zeroValue4,
 t5:=underlying5,
 a5:=Tryz.isAgg5,
 z5:=Tryz.sizeOf5,
 v5:=Tryz.zeroValue5,
 t9:=underlying9,
 a9:=Tryz.isAgg9,
 z9:=Tryz.sizeOf9,
 v9:=Tryz.zeroValue9,
 t22:=underlying22,
 a22:=Tryz.isAgg22,
 z22:=Tryz.sizeOf22,
 v22:=Tryz.zeroValue22,
 t25:=underlying73,
 a25:=Tryz.isAgg73,
 z25:=Tryz.sizeOf73,
 v25:=Tryz.zeroValue73,
 t39:=underlying130,
 a39:=Tryz.isAgg130,
 z39:=Tryz.sizeOf130,
 v39:=Tryz.zeroValue130,
 t45:=underlying204,
 a45:=Tryz.isAgg204,
 z45:=Tryz.sizeOf204,
 v45:=Tryz.zeroValue204,
 t46:=underlying205,
 a46:=Tryz.isAgg205,
 z46:=Tryz.sizeOf205,
 v46:=Tryz.zeroValue205,
 t50:=underlying163,
 a50:=Tryz.isAgg163,
 z50:=Tryz.sizeOf163,
 v50:=Tryz.zeroValue163,
 t53:=underlying211,
 a53:=Tryz.isAgg211,
 z53:=Tryz.sizeOf211,
 v53:=Tryz.zeroValue211,
 t55:=underlying75,
 a55:=Tryz.isAgg75,
 z55:=Tryz.sizeOf75,
 v55:=Tryz.zeroValue75,
 t66:=underlying285,
 a66:=Tryz.isAgg285,
 z66:=Tryz.sizeOf285,
 v66:=Tryz.zeroValue285,
 t70:=underlying289,
 a70:=Tryz.isAgg289,
 z70:=Tryz.sizeOf289,
 v70:=Tryz.zeroValue289,
 t76:=underlying328,
 a76:=Tryz.isAgg328,
 z76:=Tryz.sizeOf328,
 v76:=Tryz.zeroValue328,
 t77:=underlying247,
 a77:=Tryz.isAgg247,
 z77:=Tryz.sizeOf247,
 v77:=Tryz.zeroValue247 }
theorem Ws(x y:DKey)(W:World):Calls prog 32 #[.agg x.cells.toArray,.agg y.cells.toArray] W fun e w'=>e=.returned (.int .i64 (L1 x.id y.id))/\∃q i,w'=Sort.grow (W.drewN q) i:=by
 have h:AB prog 32 [.agg x.cells.toArray,.agg y.cells.toArray] (fun v w'=>v=.int .i64 (L1 x.id y.id)/\∃i,w'=Sort.grow W i) W:=by
  apply ZK;refine⟨x.cells,rfl,⟨y.cells,rfl,Pg ?_⟩⟩;rw[AG];have c1:∀j u,x.cells[j]?=some u->((W.alloc (.cells x.cells.toArray 65)).alloc (.cells y.cells.toArray 65)).cell? ((⟨W.heap.size,0,none⟩:Addr).add j)=some u:=fun j u hu=>(Mod.alloc (fun _=>False) _ _).cell (HS hu) fun h=>h;have o:∀j u,y.cells[j]?=some u->((W.alloc (.cells x.cells.toArray 65)).alloc (.cells y.cells.toArray 65)).cell? ((⟨(W.alloc (.cells x.cells.toArray 65)).heap.size,0,none⟩:Addr).add j)=some u:=fun j u hu=>HS hu;refine AL (c1 0 _ rfl) ?_;rw[AG];refine AL (o 0 _ rfl) ?_;refine AA ZP ?_;rintro _ _ ⟨rfl,rfl⟩;exact⟨rfl,_,by rw[Sort.alloc_eq_grow,Sort.alloc_eq_grow,Sort.grow_grow]⟩
 refine Calls.mono h ?_;rintro e w' ⟨v,rfl,rfl,i,rfl⟩;exact⟨rfl,0,i,rfl⟩
theorem ai:Sort.SWO (Go.Proofs.ltOf fun x y:DKey=>L1 x.id y.id):=by
 have e:∀x y:DKey,Go.Proofs.ltOf (fun x y:DKey=>L1 x.id y.id) x y=decide (x.id<y.id):=fun x y=>by
  unfold Go.Proofs.ltOf L1;by_cases h1:x.id<y.id
  .simp[h1]
  .by_cases i:y.id<x.id<;>simp[h1,i]
 exact⟨fun x=>by rw[e];simp,fun x y z h1 i=>by rw[e] at *;simp at *;omega,fun x y z h1 i=>by rw[e] at *;simp at *;omega⟩
instance:Inhabited DKey:=⟨DKey.zero⟩
theorem Tw{B:Nat}{v:Value}{o:List DKey}{w:World}(h:AF B 65 6 GB w v o)(hl:o.length<=1099511627776) :
  AB prog 31 [v,.func (.func 32) #[] #[]] (fun _ w'=>∃ks:List DKey,ks.Perm o/\ks.Pairwise (fun x y=>x.id<=y.id)/\AF B 65 6 GB w' v ks/\Mod (fun b=>v.ownBlock=some b) w w') w:=by
 obtain⟨a,c,rfl,_,_,hp,Y⟩:=h.shape;cases a with
 |none=>
  have e:=Y rfl;subst e;refine Calls.mono (Go.Proofs.AnyF.slices_SortFunc_none Q5 none c _ w) ?_;rintro _ _ ⟨rfl,rfl⟩;exact⟨_,rfl,[],List.Perm.refl _,List.Pairwise.nil,h,Mod.refl _ _⟩
 |some p=>
  obtain⟨g,rfl,_,O,Z⟩:=hp p rfl;obtain⟨_,_,hH,hS⟩:=AF.sorted (enc:=DKey.cells) (fun _=>rfl) (fun x=>GB.one (w:=w) (x:=x) rfl) (fun _ _ _=>Iff.rfl) h;have hc:=Go.Proofs.AnyQ.slices_SortFunc Q5 6 Tryz.isAgg65 Tryz.sizeOf65 DKey.cells (fun _=>rfl) (fun x=>GB.one (w:=w) (x:=x) rfl) (fun x y=>L1 x.id y.id) ai 32 #[] g 0 c o.toArray w (FR _ rfl) (fun m os dk _ x y=>Ws x y _) hH O (by simp;omega);rw[List.size_toArray] at hc;refine Calls.mono hc ?_;rintro _ _ ⟨rfl,E,m,os,I,J,rfl⟩;obtain⟨h1,S,T⟩:=I;have U:E.size=o.length:=by rw[h1,List.size_toArray]
  obtain⟨o1,o2⟩:=hS m E os U;refine⟨_,rfl,E.toList,?_,?_,o1,o2.mono fun b _ e=>by rw[e];rfl⟩
  .have e1:E.extract 0 o.length=E:=by rw[<-U];exact Array.extract_size
   have e2:o.toArray.extract 0 o.length=o.toArray:=by
    have:=Array.extract_size (xs:=o.toArray);rwa [List.size_toArray] at this
   rw[e1,e2] at T;simpa using T
  .rw[List.pairwise_iff_getElem];intro i j V X Q;simp only[Array.length_toList] at V X;have:=J i j (Nat.zero_le _) Q (by omega);rw[getElem!_pos E i V,getElem!_pos E j X] at this;have e:Go.Proofs.ltOf (fun x y:DKey=>L1 x.id y.id) E[j] E[i]=decide (E[j].id<E[i].id):=by
    unfold Go.Proofs.ltOf L1;by_cases h1:E[j].id<E[i].id
    .simp[h1]
    .by_cases S:E[i].id<E[j].id<;>simp[h1,S]
   rw[e] at this;simp only[decide_eq_false_iff_not] at this;simp only[Array.getElem_toList];omega
def Lz(i:List DKey):Prop:=i.Pairwise fun x y=>x.id≠y.id
theorem LO{o:List DKey}:E3 o↔o.length<=64/\(∀k∈o,EV k)/\Lz o:=by
 unfold E3 aJ Lz;rw[List.pairwise_iff_getElem];constructor
 .rintro⟨h1,B⟩;refine⟨h1,fun k hk=>?_,fun i j x E I=>?_⟩
  .obtain⟨i,x,rfl⟩:=List.getElem_of_mem hk;exact(B i x _ (List.getElem?_eq_getElem x)).1
  .exact(B j E _ (List.getElem?_eq_getElem E)).2 i I _ (List.getElem?_eq_getElem x)
 .rintro⟨h1,B,J⟩;refine⟨h1,fun i x k hk=>?_⟩;rw[List.getElem?_eq_getElem x] at hk;cases hk;refine⟨B _ (List.getElem_mem x),fun j E O y=>?_⟩;rw[List.getElem?_eq_getElem (by omega)] at y;cases y;exact J j i (by omega) x E
theorem Kg{L:List DKey}{id:Int}:(L.map fun k=>(k.id,(Value.agg k.cells.toArray))).find? (fun p=>decide (p.1=id))=(BY L id).map fun k=>(k.id,.agg k.cells.toArray):=by
 unfold BY;rw[List.find?_map];rfl
theorem MI{L:List DKey}(y:Lz L){id:Int}{k:DKey}:BY L id=some k↔k∈L/\k.id=id:=by
 induction L with
 |nil=>simp[BY]
 |cons x L B=>
  unfold Lz at y;rw[List.pairwise_cons] at y;have j:=B y.2;unfold BY at j ⊢;by_cases o:x.id=id
  .rw[List.find?_cons_of_pos (by simpa using o)];simp only[Option.some.injEq,List.mem_cons];constructor
   .rintro rfl;exact⟨.inl rfl,o⟩
   .rintro⟨rfl|hk,i⟩
    .rfl
    .exact(y.1 k hk (by rw[o,i])).elim
  .rw[List.find?_cons_of_neg (by simpa using o),j];constructor
   .rintro⟨h1,i⟩;exact⟨List.mem_cons_of_mem _ h1,i⟩
   .rintro⟨h1,i⟩;rcases List.mem_cons.1 h1 with rfl|h1
    .exact(o i).elim
    .exact⟨h1,i⟩
theorem Lz.perm{L L':List DKey}(hp:L.Perm L')(h:Lz L):Lz L':=(hp.pairwise_iff (R:=fun x y:DKey=>x.id≠y.id) fun h=>h.symm).1 h
theorem Qh{L L':List DKey}(hp:L.Perm L')(i:Lz L)(id:Int):BY L id=BY L' id:=by
 refine Option.ext fun k=>?_;rw[MI i,MI (i.perm hp),hp.mem_iff]
theorem Sq{L:List DKey}(i:Lz L)(j:L.Pairwise fun x y=>x.id<=y.id):L.Pairwise fun x y=>x.id<y.id:=by
 refine(List.Pairwise.and i j).imp fun{x y} h=>?_;obtain⟨h1,o⟩:=h;omega
structure TK (w0 W:World) (b m:Nat) (kv:Value) (keys:List DKey) (i:Nat):Prop where
 c0:W.cell? ⟨b,0,none⟩=some kv
 c1:W.cell? ⟨b,1,none⟩=some (.map (some m))
 row:AF w0.heap.size 65 6 GB W kv keys
 mp:Is W m ((keys.take i).map fun k=>(k.id,.agg k.cells.toArray))
 hb:w0.heap.size<=b
 hm:w0.heap.size<=m
 ne:m≠b
 own:∀g,kv.ownBlock=some g->g≠m/\g≠b
 g:Grow w0 W
theorem TK.grow{w0 W W':World}{b m i:Nat}{x:Value}{j:List DKey}(h:TK w0 W b m x j i)(o:Grow W W'):TK w0 W' b m x j i:=
 ⟨o.cell h.c0 fun h=>h,o.cell h.c1 fun h=>h,AF.mod h.row o (fun _ _ h=>h) fun _ _ _ h=>h,h.mp.mod o fun h=>h,h.hb,h.hm,h.ne,h.own,h.g.trans o⟩
open Classical in
theorem Ky{S:Nat->Prop}{kv:Value}{o:List DKey}{w:World}(h:L9 S w kv o) :
  AB prog 8 [kv] (fun v' w'=>Grow w w'/\((E3 o/\∃ (sv:Value) (ks:List DKey),v'=.tuple #[sv,.int .i64 0]/\ks.Perm o/\ks.Pairwise (fun x y=>x.id < y.id)/\DI (fun b=>w.heap.size<=b) w' sv ks)\/
   (¬ E3 o/\v'=.tuple #[.pointer none,.int .i64 3]))) w:=by
 apply ck;unfold S8;obtain⟨a,c,rfl,b0⟩:=h.shape;simp only[maxLen] at b0;rw[AS,BJ];refine AE (fun h6=>⟨Mod.refl _ _,.inr ⟨by rintro⟨h,_⟩;omega,rfl⟩⟩) fun h6=>?_;refine AA (Rs h (by omega)) ?_;rintro v1 E ⟨o1,g1⟩;refine Ai (v:=.map (some E.heap.size)) (w':=E.alloc (.map #[] 0)) rfl ?_;have g2:Grow E (E.alloc (.map #[] 0)):=Mod.alloc _ _ _;have a1:Is (E.alloc (.map #[] 0)) E.heap.size []:=Is.make E;have b1:(E.alloc (.map #[] 0)).heap.size=E.heap.size+1:=by simp
 generalize E.alloc (.map #[] 0)=w2 at g2 a1 b1 ⊢;obtain⟨ra,rc,rfl,_,_,_,_⟩:=o1.shape;refine⟨#[.slice ra o.length rc,.map (some E.heap.size)],by kernel_rfl,?_⟩;refine Df (vs:=[.slice ra o.length rc,.map (some E.heap.size)]) fun b w3 hb b5 g3 a6 _=>?_;have z1:=g1.size;have z2:=g2.size;have Y:∀g,(Value.slice ra o.length rc).ownBlock=some g->g<E.heap.size:=fun g hg=>(AF.BI o1 g hg).2;have I0:TK w w3 b E.heap.size (.slice ra o.length rc) o 0:=
  ⟨by have:=a6 0 _ rfl;rwa [AI] at this,by have:=a6 1 _ rfl;rwa [AI] at this,AF.mod o1 (g2.trans g3) (fun _ _ h=>h) fun _ _ _ h=>h,by simpa using a1.mod g3 fun h=>h,by omega,by omega,by omega,fun g hg=>by have:=Y g hg;omega,(g1.trans g2).trans g3⟩
 generalize Value.slice ra o.length rc=rv at I0 Y ⊢;clear a6 a1 o1;generalize E.heap.size=m at *;rw[AS];refine Ae (fun vs W=>∃i:Nat,i<=o.length/\vs=[.int .i64 i]/\TK w W b m rv o i/\aJ o i) (fun vs _=>o.length-Dr vs 0) ⟨0,Nat.zero_le _,rfl,I0,fun i hi=>by omega⟩ ?_;rintro vs W ⟨i,hi,rfl,I,Z⟩ _;rw[CR,List.headD_cons,A6];refine AE (fun b8=>?_) fun b9=>?_
 .have B:i<o.length:=by omega
  have U:o[i]?=some o[i]:=List.getElem?_eq_getElem B;obtain ⟨p,r,rfl,_,hr,hc,rfl⟩:=(h.grow I.g (by decide) fun _ _ h=>h).get B;refine AY B (Ah hr (fun j u hu=>by rw [Addr.add_add];exact hc j u hu) ?_);refine BN (vs:=o[i].cells) rfl rfl (GB.one (w:=w) (x:=o[i]) rfl) fun b6 W1 ba bc g6 a7 _=>?_;have I1:=I.grow g6;have bad:∀ W',Grow W1 W'->¬ E3 o->(fun v' w'=>Grow w w'/\((E3 o/\∃ (sv:Value) (ks:List DKey),v'=.tuple #[sv,.int .i64 0]/\ks.Perm o/\ks.Pairwise (fun x y=>x.id < y.id)/\DI (fun b=>w.heap.size<=b) w' sv ks)\/
   (¬ E3 o/\v'=.tuple #[.pointer none,.int .i64 3]))) (Value.tuple #[.pointer none,.int .i64 3]) W':=fun W' g hn=>⟨I1.g.trans g,.inr ⟨hn,rfl⟩⟩
  refine AU (fun _ V=>Grow W1 V/\BY (o.take i) o[i].id=none/\EV o[i]) ?_ ?_
  .rintro _ V ⟨J,X,a8⟩ _;have I2:=I1.grow J;refine Ag (fun k y=>k=7/\y=m) ?_;have T:Grow V V.drew:=Mod.drew _ _;have O:=I2.grow T;have c6:∀j u,o[i].cells[j]?=some u->V.drew.cell? ((⟨b6,0,none⟩:Addr).add j)=some u:=fun j u hu=>(J.trans T).cell (a7 j u hu) fun h=>h;refine AH ?_;rw[AG];refine Aa ⟨by rw[AI];exact O.c1,fun j Q e=>by obtain⟨rfl,_⟩:=e;exact absurd Q (by decide)⟩ ?_;rw[AG];refine Aa ⟨c6 0 _ rfl,fun j Q e=>by obtain⟨rfl,_⟩:=e;exact absurd Q (by decide)⟩ ?_;refine CO (vs:=o[i].cells) rfl (fun j u hu=>⟨c6 j u hu,fun j Q e=>by obtain⟨rfl,_⟩:=e;exact absurd Q (by decide)⟩) ?_;obtain⟨W4,al,an,m4⟩:=Pt underlying66 underlying3 O.mp o[i].id (.agg o[i].cells.toArray) (by rw[Kg,X];rfl);refine Ai (v:=undef) (w':=W4) (by simp only[Sem.run_bind,al,Result.andThen_ok,Sem.run_pure]) ⟨m4.mono fun y _ e=>⟨rfl,e⟩,?_⟩;rw[AR,AQ (by omega)];refine⟨⟨i+1,B,rfl,⟨m4.cell O.c0 (fun e=>O.ne e.symm),m4.cell O.c1 (fun e=>O.ne e.symm),AF.mod O.row m4 (fun g hg e=>(O.own g hg).1 e) fun _ _ _ h=>h,?_,O.hb,O.hm,O.ne,O.own,O.g.next m4 fun x hx e=>by have:=O.hm;omega⟩,fun q hq k hk=>?_⟩,by rw[DZ,DZ];omega⟩
   .rw[List.take_add_one,U,List.map_append];exact an
   .by_cases e:q=i
    .subst e;rw[U] at hk;cases hk;refine⟨a8,fun j Q k' b2 e=>?_⟩;unfold BY at X;rw[List.find?_eq_none] at X;exact X k' (List.mem_of_getElem? (by rw[List.getElem?_take,if_pos Q];exact b2)) (by simpa using e)
    .exact Z q (by omega) k hk
  .refine AU (fun vs V=>Grow W1 V/\vs=[.bool (BY (o.take i) o[i].id).isSome]) ?_ ?_
   .rintro _ V ⟨J,rfl⟩ _;rw[CR,List.headD_cons];cases hf:BY (o.take i) o[i].id with
    |some k'=>
     refine Ao (bad _ J fun hM=>?_);have h1:=List.find?_some hf;have h2:=List.mem_of_find?_eq_some hf;obtain⟨j,Q,e⟩:=List.getElem_of_mem h2;rw[List.length_take] at Q;rw[List.getElem_take] at e;exact(hM.2 i B _ U).2 j (by omega) k' (by rw[List.getElem?_eq_getElem (by omega),e]) (by simpa using h1)
    |none=>
     refine AT (Ah (vs:=o[i].cells) rfl (fun j u hu=>J.cell (a7 j u hu) fun h=>h) ?_);refine AA Xx ?_;rintro _ W3 ⟨rfl,av⟩;rw[Ap];refine AZ (fun a8=>⟨J.trans av,rfl,a8⟩) fun ax=>bad _ (J.trans av) fun hM=>ax (hM.2 i B _ U).1
   .refine Ag (fun k y=>k=11/\W1.heap.size<=y) ?_;have T:Grow W1 W1.drew:=Mod.drew _ _;have Id:=I1.grow T;refine AH ?_;rw[AG];refine Aa ⟨by rw[AI];exact Id.c1,fun j Q e=>by obtain⟨rfl,_⟩:=e;exact absurd Q (by decide)⟩ ?_;rw[AG];refine Aa ⟨T.cell (a7 0 _ rfl) fun h=>h,fun j Q e=>by obtain⟨rfl,_⟩:=e;exact absurd Q (by decide)⟩ ?_;have look:∀W',Grow W1.drew W'->(Instr.lookup 66 (.map (some m)) (.int .i64 o[i].id) true).run prog W'=.ok (.tuple #[.agg (((BY (o.take i) o[i].id)).getD DKey.zero).cells.toArray,.bool (BY (o.take i) o[i].id).isSome]) W':=fun W' g'=>by
     have:=KW underlying66 underlying3 (Oo W') (Id.mp.mod g' fun h=>h) o[i].id;rw[this,Kg];cases BY (o.take i) o[i].id<;>rfl
    generalize (BY (o.take i) o[i].id).getD DKey.zero=kz at look;have one:=GB.one (w:=w) (x:=kz) rfl;refine⟨?_,?_⟩
    .refine Ai (look _ (Mod.refl _ _)) ⟨Mod.refl _ _,?_⟩;refine BQ ?_;refine EJ fun b7 W5 b3 b4 g7 _ ak=>⟨g7.mono fun _ _ h=>h.elim,?_⟩;refine CT rfl one ak fun W6 m6 _ _=>⟨m6.mono fun y _ e=>⟨rfl,by have:=T.size;omega⟩,?_,rfl⟩;exact(T.trans g7).next m6 fun x hx e=>by have:=T.size;omega
    .refine EJ fun b7 W5 b3 b4 g7 _ ak=>⟨g7.mono fun _ _ h=>h.elim,?_⟩;refine Ai (look _ g7) ⟨Mod.refl _ _,?_⟩;refine BQ ?_;refine CT rfl one ak fun W6 m6 _ _=>⟨m6.mono fun y _ e=>⟨rfl,by have:=T.size;omega⟩,?_,rfl⟩;exact(T.trans g7).next m6 fun x hx e=>by have:=T.size;omega
 .have:i=o.length:=by omega
  subst this;refine AH ?_;rw[AG];refine AL (by rw[AI];exact I.c0) ?_;refine AA (Tw I.row (by omega)) ?_;rintro _ V ⟨ks,hp,hs,o2,m2⟩;have hM:E3 o:=⟨by omega,Z⟩;obtain⟨_,_,hd⟩:=LO.1 hM;have ay:=hd.perm hp.symm;refine⟨I.g.next m2 fun x hx e=>by have:=(AF.BI I.row x e).1;omega,.inl ⟨hM,_,ks,rfl,hp,Sq ay hs,b,m,rv,_,rfl,I.hb,I.hm,m2.cell I.c0 fun e=>(I.own _ e).2 rfl,m2.cell I.c1 fun e=>(I.own _ e).2 rfl,(AF.sl o2).sub (fun _ _ h=>h.1) (by decide) fun _ _ h=>h,I.mp.mod m2 fun e=>(I.own _ e).1 rfl,fun id=>?_⟩⟩;rw[List.take_length,Kg,Qh hp ay];cases BY o id<;>rfl
theorem Wy{w:World}(l:List DKey)(hl:l.length<=1000):L9 (fun b=>b=w.heap.size) (w.alloc (.cells (l.map DKey.cells).flatten.toArray 65)) (.slice (some ⟨w.heap.size,0,none⟩) l.length l.length) l:=by
 refine BH.made (t:=65) (l.map DKey.cells) (fun r hr=>by obtain⟨x,_,rfl⟩:=List.mem_map.1 hr;rfl) (by simp) (by simp only[maxLen];omega) fun i r x hr j=>?_;rw[List.getElem?_map,j] at hr;exact(Option.some.inj hr).symm
open Classical in
theorem OA{D:Nat->Prop}{v:Value}{ks:List DKey}{id:Int}{x:BE}{w:World}(h:DI D w v ks)(J:El w)(h0:0<=x.f) :
  AB prog 209 [v,.int .i64 id,.agg x.cells.toArray] (fun v' w'=>v'=.bool (decide (Gy ks id x))/\Grow w w') w:=by
 apply Yi;have I:∀w',Grow w w'->¬Gy ks id x->Value.bool false=.bool (decide (Gy ks id x))/\Grow w w':=fun w' g h=>⟨by rw[decide_eq_false h],g⟩;refine Df fun b X _ Y g hc _=>?_;refine AA (I7 (h.grow g) id) ?_;rintro _ w2 ⟨rfl,O⟩;refine BQ ?_;generalize hk:(BY ks id).getD DKey.zero=k;refine BN (vs:=k.cells) rfl rfl (GB.one (w:=w) (x:=k) rfl) fun Z w3 Q S T B _=>?_;have o:=O.trans T;have i:=g.trans o;cases y:BY ks id with
 |none=>
  rw[Option.isSome_none];exact I _ i (by rintro⟨k,e,_⟩;rw[y] at e;cases e)
 |some U=>
  rw[y] at hk;simp only[Option.getD_some] at hk;subst hk;rw[Option.isSome_some];refine Ao ?_;rw[AG];refine AL (B 2 _ rfl) ?_;rw[AG];refine AL (o.cell (hc 0 _ rfl) fun h=>h) ?_;rw[Am];refine AE (fun he=>?_) fun he=>I _ i (by rintro⟨k,e,_,h⟩;rw[y] at e;cases e;exact he h.symm);refine Ah (vs:=x.cells) rfl (fun j u hu=>o.cell (hc j u hu) fun h=>h) (AA (Mu (J.grow i) h0) ?_);rintro _ w4 ⟨rfl,V⟩;refine⟨?_,i.trans V⟩;congr 1
  rw[decide_eq_decide];constructor
  .intro E;exact⟨U,y,E,he.symm⟩
  .rintro⟨_,_,E,_⟩;exact E
end Go.Proofs.YtmdhibffnkhcnaaGreatDoor
namespace Go.K
open Go
theorem MW{α:Type}{B e k:Nat}{R:World->List Value->α->Prop}{W:World}{a:Addr}{n c:Nat}{l:List α}{i j:Nat}{u:Value}{x':α}{K:World->Prop}(h:AF B e k R W (.slice (some a) n c) l)(E:i<l.length)(I:j<k)
 (hu:u.oneCell'=true)(o:u.cells=#[u])(J:∀x w2 r y,R x r y->R w2 r y)(O:∀x w2 r,R x r l[i]->R w2 (r.set j u) x')
 (Q:∀W',AF B e k R W' (.slice (some a) n c) (l.set i x')->Mod (fun b=>b=a.block) W W'->K W'):BB (.pointer (some (a.add (i*k+j)))) u K W:=by
 obtain⟨⟨v,S⟩,T,U,hm⟩:=AF.store (R':=R) (u:=u) (x':=x') (j:=j) h E I hu (fun r y _ hr=>J _ _ _ _ hr) (fun r hr=>O _ _ _ hr);exact Je hu o S T (Q _ U hm)
end Go.K
namespace Go.Proofs.YtmdhibffnkhcnaaGreatDoor
open Go Go.K Proofs.Tryz
def Fj:Kd (List Attr) where
 μ:=fun _=>(1,0)
 cut:=fun x _=>(x,[])
 meld:=fun _ _=>none
theorem Rw{w:World}(v:Value):BF prog DH Jb.vm [v] (fun v w'=>v=.tuple #[.int .i64 1,.int .i64 0]/\Grow w w') w:=by
 refine⟨_,[],[],rfl,by kernel_rfl,?_⟩;apply WQ;exact⟨rfl,Mod.refl _ _⟩
theorem Sg{w:World}(a b:Value):BF prog DH Jb.vd [a,b] (fun v w'=>Grow w w'/\∃u,v=.tuple #[u,.bool false]) w:=by
 refine⟨_,[],[],rfl,by kernel_rfl,?_⟩;apply XF;exact⟨Mod.refl _ _,_,rfl⟩
abbrev CW(C:Nat->Prop)(w:World)(r:List Value)(x:List Attr):Prop:=∃sv,r=[sv]/\Cc C w sv x
def Aw:Av1 (List Attr) where
 toAvK:=Jb
 k:=Fj
 R:=CW
 pb:=72
 eb:=24
 pb_le:=by decide
 eb_le:=by decide
 Epos:=by decide
 E1:=fun _=>rfl
 rlen:=fun⟨_,e,_⟩=>by subst e;rfl
 rone:=fun⟨sv,e,h⟩ u hu=>by
  subst e;obtain⟨a,c,rfl,_⟩:=h.shape;simp at hu;subst hu;rfl
 rcell:=fun⟨sv,e,h⟩=>by
  subst e;obtain⟨a,c,rfl,_⟩:=h.shape;rfl
 rheap:=fun⟨sv,e,h⟩ i=>⟨sv,e,h.mono (fun _ _ h=>h) i (by decide) fun _ _ h=>h⟩
 rsub:=fun⟨sv,e,h⟩ i=>⟨sv,e,h.sub i (by decide) fun _ _ h=>h⟩
 zlen:=rfl
 zone:=fun u hu=>by
  have hu:u∈[Value.slice none 0 0]:=hu;simp at hu;subst hu;rfl
 elP:=⟨Tryz.t347,.agg #[.slice none 0 0,.int .i64 0,.int .i64 0,.int .i64 0,.int .i64 0,.int .i64 0,.bool false],by kernel_rfl,by kernel_rfl,by kernel_rfl,by kernel_rfl,by kernel_rfl,by rfl,by decide⟩
 elE:=⟨Tryz.t43,.slice none 0 0,by kernel_rfl,by kernel_rfl,by kernel_rfl,by kernel_rfl,by kernel_rfl,by rfl,by decide⟩
 field0:=fun r t w hr o ht=>by
  match r,hr with
  |[a],_=>
   have hu:=underlying304;have j:=Tryz.isAgg43;have e:(Instr.field 304 (.agg ([a]++t).toArray) 0).run prog w=.ok a w:=by
    simp[Instr.field,run_underlying hu,part,j,asAgg]
   exact e
 ok:=XU
 cutμ:=fun x p h0 h1=>by simp only[Fj] at h1;omega
 meldμ:=fun x y z h=>by cases h
 meas:=fun{C w r x} _=>Rw _
 one1:=rfl
 ok1:=UQ
 μ1:=fun _=>rfl
 meld0:=fun _ _=>rfl
 meldc:=fun{C w r s x y} _ _=>Sg _ _
def Ti(g:AvK)(v0:Value)(K:Cont)(w:World):Prop:=
 Aq (fun _vs I=>∀_:Env,
 AJ v0 fun i=>
 AM 0 i fun j=>
 AK j (fun o w2=>
 K o w2) I) (fun J=>
 AJ v0 fun t4=>
 AM 0 t4 fun t5=>
 AK t5 (fun O E=>
 CY O fun Q=>
 AD (.bool Q)
 (Af [(0,1),(1,1),(2,1)] [.nilFunc,.nilFunc,.nilFunc] [(0,g.vm),(1,g.vc),(2,g.vd)] fun t9=>
 AB prog g.fNew [t9] (fun x w4=>
 AJ v0 fun y=>
 AM 0 y fun B=>
 BB B x (fun S=>
 J [] S) w4) E)
 (J [] E)) w)
def bZ(g:AvK)(ft:Nat)(v0:Value)(K:Cont)(w:World):Prop:=
 CY v0 fun i=>
 AD (.bool i)
 (K (.int .i64 0) w)
 (AB prog ft [v0] (fun j o=>
 AB prog g.fSize [j] (fun x w2=>
 K x w2) o) w)
def Wc(fl:Nat)(v0 v1 v2:Value)(K:Cont)(w:World):Prop:=
 CY v0 fun y=>
 AD (.bool y)
 (K (.int .i64 1) w)
 (Bf .i64 v1 (.int .i64 0) fun i=>
 AD i
 (K (.int .i64 5) w)
 (EU .i64 v1 v2 fun j=>
 AD j
 (K (.int .i64 5) w)
 (AB prog fl [v0] (fun o x=>
 EU .i64 v2 o fun t22=>
 AD t22
 (K (.int .i64 5) x)
 (K (.int .i64 0) x)) w)))
structure ZA (g:AvK) where
 ft:Nat
 fl:Nat
 fb:Nat
 tree:∀{v0 K w},Ti g v0 K w->AB prog ft [v0] K w
 len:∀{v0 K w},bZ g ft v0 K w->AB prog fl [v0] K w
 eJ:∀{v0 v1 v2 K w},Wc fl v0 v1 v2 K w->AB prog fb [v0,v1,v2] K w
 eg:g.vm.cells=#[g.vm]
 fA:g.vc.cells=#[g.vc]
 ei:g.vd.cells=#[g.vd]
def HD:ZA IT:=⟨99,111,97,fun h=>Z0 h,fun h=>Wq h,fun h=>aj h,rfl,rfl,rfl⟩
def EY:ZA Jb:=⟨104,57,101,fun h=>WZ h,fun h=>bh h,fun h=>XD h,rfl,rfl,rfl⟩
def EN:ZA Fy:=⟨89,54,94,fun h=>Z3 h,fun h=>Zp h,fun h=>aY h,rfl,rfl,rfl⟩
variable {α:Type}{g:AvT α}
def UL(g:AvT α)(F C:Nat->Prop)(W:World)(b:Nat)(l:List α)(N:Nat):Prop:=∃A T,DL g F C W b T.root A/\Tr.Holds g.k.μ A.f T/\Tr.FQ T/\T.toL=l/\A.ps.length<=N
theorem UL.mod{F C M:Nat->Prop}{W W':World}{b N:Nat}{l:List α}(h:UL g F C W b l N)(hm:Mod M W W')(i:∀x,F x\/C x->¬M x):UL g F C W' b l N:=by
 obtain⟨A,T,h,r⟩:=h;exact⟨A,T,h.mod hm i,r⟩
theorem Tf{C:Nat->Prop}{W:World}(hC:∀x,C x->x<W.heap.size) :
  AB prog g.fNew [.agg #[g.vm,g.vc,g.vd]] (fun v' w'=>∃b F,v'=.pointer (some ⟨b,0,none⟩)/\W.heap.size<=b/\(∀x,F x->W.heap.size<=x)/\UL g F C w' b [] 0/\Grow W w') W:=by
 apply g.ok.new;unfold Ys;refine Bx.box (vs:=[g.vm,g.vc,g.vd]) fun b1 o U S V=>?_;have I:Grow o o.drew:=Mod.drew _ _;have z1:=S.size;have zd:=I.size;refine Ag (fun _ _=>False) ?_;refine CO (vs:=[g.vm,g.vc,g.vd]) rfl (fun j v X=>⟨by rw[AI];exact(V.grow I).cells j v X,fun _ _ e=>e⟩) ?_;refine AA (WK (g:=g) (C:=C) fun x J=>by have:=hC x J;omega) ?_;rintro _ w2 ⟨rfl,Y,O,Z⟩;refine⟨O.mono fun _ _ h=>h.elim,?_⟩;have y:Instr.fill (fun i=>[(0,3),(3,1),(4,1)][i]?) [Value.nilFunc,.nilFunc,.nilFunc,.pointer none,.int .i64 0].toArray [(0,.agg [g.vm,g.vc,g.vd].toArray),(1,.pointer (some ⟨o.drew.heap.size,0,none⟩)),(2,.int .i64 (-1))]=some (Yq g o.drew.heap.size (-1)).toArray:=by
  rw[Cf (vs:=[g.vm,g.vc,g.vd]) (off:=0) (len:=3) rfl rfl rfl (by decide),Cf (vs:=[.pointer (some ⟨o.drew.heap.size,0,none⟩)]) (off:=3) (len:=1) rfl rfl rfl (by simp[H7]),Cf (vs:=[.int .i64 (-1)]) (off:=4) (len:=1) rfl rfl rfl (by simp[H7]),Er];rfl
 refine⟨_,y,?_⟩;refine Bx.box fun B w3 a1 E T=>⟨E.mono fun _ _ h=>h.elim,?_⟩;have z2:=O.size;have z3:=E.size;have Q:=T.lt (Nat.succ_pos _);refine⟨B,fun x=>x=o.drew.heap.size\/x=B,rfl,by omega,fun x J=>by rcases J with e|e<;>omega,⟨ArS.z,.nil,⟨o.drew.heap.size,.slice none 0 0,.slice none 0 0,T,?_,.inr rfl,fun h=>by have:=hC B h;omega⟩,trivial,List.nodup_nil,rfl,Nat.zero_le _⟩,((S.trans I).trans O).trans E⟩;have e:(fun x=>(x=o.drew.heap.size\/x=B)/\x≠B)=fun x=>x=o.drew.heap.size:=by
  funext x
  refine propext ⟨fun h=>h.1.elim (fun h=>h) fun e=>(h.2 e).elim,fun h=>⟨.inl h,by omega⟩⟩
 rw[e];exact Z.grow E
structure DF (g:AvT α) (F C:Nat->Prop) (W:World) (b bt:Nat) (l:List α) (N:Nat):Prop where
 box:Bx W b [.pointer (some ⟨bt,0,none⟩)]
 Dl:UL g (fun x=>F x/\x≠b) C W bt l N
 fb:F b/\¬C b
theorem DF.mod{F C M:Nat->Prop}{W W':World}{b bt N:Nat}{l:List α}(h:DF g F C W b bt l N)(hm:Mod M W W')(i:∀x,F x\/C x->¬M x):DF g F C W' b bt l N:=
 ⟨h.box.mod hm (i b (.inl h.fb.1)),h.Dl.mod hm fun x j=>i x (j.imp (fun h=>h.1) fun h=>h),h.fb⟩
theorem DF.grow{F C:Nat->Prop}{W W':World}{b bt N:Nat}{l:List α}(h:DF g F C W b bt l N)(hm:Grow W W'):DF g F C W' b bt l N:=h.mod hm fun _ _ h=>h
theorem DF.lt{F C:Nat->Prop}{W:World}{b bt N:Nat}{l:List α}(h:DF g F C W b bt l N):∀x,F x\/C x->x<W.heap.size:=by
 obtain⟨A,T,h1,_⟩:=h.Dl;intro x i;by_cases e:x=b
 .subst e;exact h.box.lt (Nat.succ_pos _)
 .exact h1.lt x (i.imp (fun h=>⟨h,e⟩) fun h=>h)
theorem DF.Hy{F C:Nat->Prop}{W:World}{b bt N:Nat}{l:List α}(h:DF g F C W b bt l N):∀x,F x->¬C x:=by
 obtain⟨A,T,h1,_⟩:=h.Dl;intro x i;by_cases e:x=b
 .subst e;exact h.fb.2
 .exact h1.Hy x ⟨i,e⟩
theorem Ds{F C:Nat->Prop}{W:World}{b bt N:Nat}{l:List α}(o:ZA g.toAvK)(h:DF g F C W b bt l N):AB prog o.ft [.pointer (some ⟨b,0,none⟩)] (fun v' w'=>v'=.pointer (some ⟨bt,0,none⟩)/\w'=W) W:=by
 apply o.tree;unfold Ti;refine AU (fun _ W'=>W'=W) ?_ ?_
 .rintro _ _ rfl _;rename World=>W
  refine AH ?_;rw[AG,AI];exact AL (h.box.cells 0 _ rfl) ⟨rfl,rfl⟩
 .refine AH ?_;refine Bm (h.box.cells 0 _ rfl) ?_;exact Cu (AT rfl)
theorem Z7{C:Nat->Prop}{W:World}{b:Nat}(o:ZA g.toAvK)(B:Bx W b [.pointer none])(hb:¬C b)(hC:∀x,C x->x<W.heap.size) :
  AB prog o.ft [.pointer (some ⟨b,0,none⟩)] (fun v' w'=>∃bt F,v'=.pointer (some ⟨bt,0,none⟩)/\DF g F C w' b bt [] 0/\(∀x,F x->x=b\/W.heap.size<=x)/\Mod (fun x=>x=b) W w') W:=by
 apply o.tree;unfold Ti;have J:=B.lt (Nat.succ_pos _);refine AU (fun _ W'=>∃bt F,DF g F C W' b bt [] 0/\(∀x,F x->x=b\/W.heap.size<=x)/\Mod (fun x=>x=b) W W') ?_ ?_
 .rintro _ W' ⟨bt,F,h,S,T⟩ _;refine AH ?_;rw[AG,AI];exact AL (h.box.cells 0 _ rfl) ⟨bt,F,rfl,h,S,T⟩
 .refine AH ?_;refine Bm (B.cells 0 _ rfl) ?_;refine⟨none,rfl,Ao ?_⟩;have y:Instr.fill (fun i=>[(0,1),(1,1),(2,1)][i]?) [Value.nilFunc,.nilFunc,.nilFunc].toArray [(0,g.vm),(1,g.vc),(2,g.vd)]=some [g.vm,g.vc,g.vd].toArray:=by
   rw[Cf (vs:=[g.vm]) (off:=0) (len:=1) rfl o.eg rfl (by decide),Cf (vs:=[g.vc]) (off:=1) (len:=1) rfl o.fA rfl (by simp[H7]),Cf (vs:=[g.vd]) (off:=2) (len:=1) rfl o.ei rfl (by simp[H7]),Er];rfl
  refine⟨_,y,?_⟩;refine AA (Tf (g:=g) hC) ?_;rintro _ w4 ⟨bt,F,rfl,U,E,V,O⟩;refine AH ?_;rw[AG,AI];refine(B.grow O).st (q:=0) (show 0<1 by decide) rfl rfl fun Y X Q=>?_;have I:=V.mod Q fun x j e=>by
   rcases j with j|j
   .have:=E x j;omega
   .exact hb (e▸j)
  refine⟨bt,fun x=>F x\/x=b,⟨X,?_,.inr rfl,hb⟩,fun x j=>?_,(O.mono fun _ _ h=>h.elim).trans Q⟩
  .have e:(fun x=>(F x\/x=b)/\x≠b)=F:=by
    funext x
    refine propext ⟨fun h=>h.1.elim (fun h=>h) fun e=>(h.2 e).elim,fun h=>⟨.inl h,fun e=>?_⟩⟩;have:=E x h;omega
   rw[e];exact I
  .rcases j with j|j
   .exact .inr (E x j)
   .exact .inl j
theorem J0{F C:Nat->Prop}{W:World}{b bt N:Nat}{l:List α}(o:ZA g.toAvK)(h:DF g F C W b bt l N):AB prog o.fl [.pointer (some ⟨b,0,none⟩)] (fun v' w'=>v'=.int .i64 (Tr.sz g.k.μ l)/\Grow W w') W:=by
 apply o.len;unfold bZ;refine Cu (AT ?_);refine AA (Ds o h) ?_;rintro _ _ ⟨rfl,rfl⟩;rename World=>W
 obtain⟨A,T,h1,i,x,j,y⟩:=h.Dl;have:=Oq h1 i;rw[j] at this;exact this
theorem Tn{C:Nat->Prop}{W:World}{b:Nat}(o:ZA g.toAvK)(j:Bx W b [.pointer none])(hb:¬C b)(hC:∀x,C x->x<W.heap.size) :
  AB prog o.fl [.pointer (some ⟨b,0,none⟩)] (fun v' w'=>v'=.int .i64 0/\∃bt F,DF g F C w' b bt [] 0/\(∀x,F x->x=b\/W.heap.size<=x)/\Mod (fun x=>x=b) W w') W:=by
 apply o.len;unfold bZ;refine Cu (AT ?_);refine AA (Z7 o j hb hC) ?_;rintro _ I ⟨bt,F,rfl,h,y,B⟩;obtain⟨A,T,k1,k2,J,E,O⟩:=h.Dl;have:=Oq k1 k2;rw[E] at this;refine AA this ?_;rintro _ w2 ⟨rfl,i⟩;exact⟨rfl,bt,F,h.grow i,y,B.trans (i.mono fun _ _ h=>h.elim)⟩
def O8(i j n:Int):Int:=if i<0 then 5 else if j<i then 5 else if n<j then 5 else 0
theorem Il{F C:Nat->Prop}{W:World}{b bt N:Nat}{l:List α}{i j:Int}(o:ZA g.toAvK)(h:DF g F C W b bt l N):AB prog o.fb [.pointer (some ⟨b,0,none⟩),.int .i64 i,.int .i64 j] (fun v' w'=>v'=.int .i64 (O8 i j (Tr.sz g.k.μ l))/\Grow W w') W:=by
 apply o.eJ;unfold Wc O8;refine Cu (AT ?_);rw[A6];refine AE (fun e=>⟨by rw[if_pos e],Mod.refl _ _⟩) fun x=>?_;rw[BJ];refine AE (fun e=>⟨by rw[if_neg x,if_pos e],Mod.refl _ _⟩) fun y=>?_;refine AA (J0 o h) ?_;rintro _ I ⟨rfl,B⟩;rw[BJ];refine AE (fun e=>⟨by rw[if_neg x,if_neg y,if_pos e],B⟩) fun E=>⟨by rw[if_neg x,if_neg y,if_neg E],B⟩
theorem H6{F C S:Nat->Prop}{W:World}{b bt N i j:Nat}{l L:List α}{v:Value}(O:QQ g)(h:DF g F C W b bt l N)(hN:N+L.length<=109951162000)(Q:BH S g.E (g.R C) W v L)(U:∀x,S x->¬F x)(y:i<=j)(V:j<=1099511627776)
 (X:Dg g l)(Y:Dg g (g.k.Bn l i j L))(Z:Dg g ((g.k.split l i).1.getLast?.toList++L++(g.k.split (g.k.split l i).2 (j-i)).2.head?.toList)) :
  AB prog g.fReplace [.pointer (some ⟨bt,0,none⟩),.int .i64 (i:Int),.int .i64 (j:Int),v] (fun _ w'=>∃F',(∀x,F x->F' x)/\(∀x,F' x->F x\/W.heap.size<=x)/\DF g F' C w' b bt (g.k.Bn l i j L) (N+L.length+4)/\Mod F W w') W:=by
 obtain⟨A,T,h1,h2,h3,rfl,h5⟩:=h.Dl;have B:=h.box.lt (Nat.succ_pos _);refine AA (O h1 (by omega) h2 h3 Q (fun x o e=>U x o e.1) y V X Y Z) ?_;rintro _ w' ⟨T',A',e1,⟨F',k1,k2,k3,I⟩,e2,e3,e4⟩;refine⟨fun x=>F' x\/x=b,fun x o=>?_,fun x o=>?_,⟨h.box.mod I fun e=>e.2 rfl,⟨A',T',?_,e2,e3,e1,by omega⟩,.inr rfl,h.fb.2⟩,I.mono fun x _ e=>e.1⟩
 .by_cases e:x=b
  .exact .inr e
  .exact .inl (k1 x ⟨o,e⟩)
 .rcases o with o|rfl
  .exact(k2 x o).imp (fun h=>h.1) fun h=>h
  .exact .inl h.fb.1
 .have e:(fun x=>(F' x\/x=b)/\x≠b)=F':=by
   funext x
   refine propext ⟨fun h=>h.1.elim (fun h=>h) fun e=>(h.2 e).elim,fun o=>⟨.inl o,fun e=>?_⟩⟩;rcases k2 x o with J|J
   .exact J.2 e
   .omega
  rw[e];exact k3
end Go.Proofs.YtmdhibffnkhcnaaGreatDoor
namespace Go.Proofs.YtmdhibffnkhcnaaGreatDoor
open Go Go.K Proofs.Tryz
abbrev BV(l:List Ck):List Int:=l.flatMap Ck.l
theorem GJ:Ck.kd.Ep Ck.l where
 size:=fun _=>rfl
 cut1:=fun _ _ _ _=>⟨rfl,rfl⟩
 melds:=fun a b c h=>by
  simp only[Ck.kd] at h;split at h
  .rename_i i;cases h;have j:a.jn b=⟨a.l++b.l,by simpa using i⟩:=dif_pos i;rw[j]
  .cases h
theorem Fx(l:List Ck):Tr.sz Ck.kd.μ l=(BV l).length:=GJ.sz l
theorem Ng(l:List Ck):Tr.mk Ck.kd.μ l=BX (BV l):=by
 induction l with
 |nil=>rfl
 |cons c l i=>rw[Tr.Ca,i];show BX c.l+BX (BV l)=BX (c.l++BV l);rw[BX,BX,BX,List.count_append]
theorem PU(l r:Tr Ck)(i:Nat)(x:Ck):BV (Tr.node l i x r).toL=BV l.toL++(x.l++BV r.toL):=by
 simp[BV,Tr.toL]
theorem DB(l:List Int):BX l<=l.length:=List.count_le_length
theorem E8(a b:List Int):BX (a++b)=BX a+BX b:=List.count_append
theorem Ka(a b:List Int)(k:Nat):Gb (a++b) k=if k<BX a then Gb a k else(Gb b (k-BX a)).map (·+a.length):=by
 induction a generalizing k with
 |nil=>simp[BX]
 |cons r a j=>
  have i:∀o:Option Nat,(o.map (·+a.length)).map (·+1)=o.map (·+(r::a).length):=fun o=>by cases o<;>simp;omega
  rw[List.cons_append,GH,GH];by_cases h:r=10
  .have e:BX (r::a)=BX a+1:=by rw[h];simp[BX]
   rw[if_pos h,if_pos h,e];cases k with
   |zero=>simp
   |succ k=>
    simp only[j];by_cases hk:k<BX a
    .rw[if_pos hk,if_pos (by omega)]
    .rw[if_neg hk,if_neg (by omega),i,Nat.add_sub_add_right]
  .have e:BX (r::a)=BX a:=by simp[BX,h]
   rw[if_neg h,if_neg h,e,j];by_cases hk:k<BX a
   .rw[if_pos hk,if_pos hk]
   .rw[if_neg hk,if_neg hk,i]
theorem Mz{l:List Int}{k:Nat}(h:k<BX l):∃i,Gb l k=some i/\i<l.length:=by
 induction l generalizing k with
 |nil=>simp[BX] at h
 |cons r a j=>
  rw[GH];by_cases e:r=10
  .rw[if_pos e];cases k with
   |zero=>exact⟨0,rfl,by simp⟩
   |succ k=>
    obtain⟨i,h1,o⟩:=j (k:=k) (by rw[e] at h;simp[BX] at h ⊢;omega);exact⟨i+1,by simp[h1],by simp;omega⟩
  .rw[if_neg e];obtain⟨i,h1,o⟩:=j (k:=k) (by simpa[BX,e] using h);exact⟨i+1,by simp[h1],by simp;omega⟩
def Qr(A:ArS Ck)(v:Value):Nat:=match v with
 |.int _ i=>if i<0 then 0 else match A.f i.toNat with
  |some n=>(n.h:Int).toNat
  |none=>0
 |_=>0
theorem Ei{A:ArS Ck}{t:Tr Ck}(h:Tr.Holds Ck.kd.μ A.f t):Qr A (.int .i64 t.root)=t.ht:=by
 cases t with
 |nil=>rfl
 |node l i x r=>
  obtain⟨_,_,j⟩:=h;have e:Qr A (.int .i64 ((i:Nat):Int))=match A.f i with
   |some n=>(n.h:Int).toNat
   |none=>0:=by
   unfold Qr;simp only[Int.toNat_natCast];exact if_neg (by omega)
  show Qr A (.int .i64 ((i:Nat):Int))=_;rw[e,j];simp[Tr.Dh]
theorem P8{v0 v1 v2:Value}{K:Cont}{w:World}(h:TU Fy v0 v1 v2 K w):AB prog 108 [v0,v1,v2] K w:=XM h
theorem Rr{v0 v1 v2:Value}{K:Cont}{w:World}(h:Y9 Fy v0 v1 v2 K w):AB prog 91 [v0,v1,v2] K w:=bo h
theorem Pd{v0:Value}{K:Cont}{w:World}(h:Tx Fy v0 K w):AB prog 90 [v0] K w:=aP h
set_option maxRecDepth 4000 in
theorem PM{F C:Nat->Prop}{W:World}{b p:Nat}{A:ArS Ck}{T:Tr Ck}(h:DL Au.toAvT F C W b T.root A)(hh:Tr.Holds Au.k.μ A.f T)(hp:p<=1099511627776)(hb:Dg Au.toAvT T.toL) :
  AB prog 108 [.pointer (some ⟨b,0,none⟩),.int .i64 (p:Int),.func (.func 109) #[] #[]] (fun v' w'=>v'=.int .i64 (BX ((BV T.toL).take p):Int)/\Grow W w') W:=by
 apply P8;unfold TU;refine AH ?_;obtain⟨c,pl,fr,V⟩:=id h;refine Bm (V.box.cells 4 _ rfl) ?_;have X:(BV T.toL).length<=1099511627776:=by rw[<-Fx];exact hb.1
 have hN:BX ((BV T.toL).take p)<=1099511627776:=Nat.le_trans (DB _) (by rw[List.length_take];omega);generalize Y:BX ((BV T.toL).take p)=N at hN;refine Ae (fun vs W'=>∃(t:Tr Ck) (q m:Nat),vs=[.int .i64 (q:Int),.int .i64 (m:Int),.int .i64 t.root]/\Tr.Holds Au.k.μ A.f t/\(BV t.toL).length<=1099511627776/\q<=p/\m+BX ((BV t.toL).take q)=N/\Grow W W')
  (fun vs _=>Qr A (nth vs 2)) ⟨T,p,0,rfl,hh,X,Nat.le_refl _,by rw[Nat.zero_add];exact Y,Mod.refl _ _⟩ ?_
 rintro vs W1 ⟨t,q,m,rfl,y,J,hq,hm,O⟩ _;simp only[GA];rw[Bh];cases t with
 |nil=>
  refine AZ (fun _=>?_) fun e=>(e rfl).elim;have:m=N:=by simpa[BV,Tr.toL,BX] using hm
  subst this;exact⟨rfl,O⟩
 |node l i x r=>
  obtain⟨hl,hr,hi⟩:=id y;have Z:=PU l r i x;rw[Z] at hm J;rw[List.length_append,List.length_append] at J;have h1:=h.grow O;refine AZ (fun e=>by simp only[Tr.root] at e;omega) fun _=>?_;simp only[Tr.root];refine DS h1 hi fun rc bx w3 g3 an B Q=>?_;have o:=Au.rlen Q;obtain rfl:rc=x.cells:=Q;have h3:=h1.grow g3;refine Bm (B.cells (Au.E+0) _ (by rw[AV o];rfl)) ?_;refine AA (Br h3 hl) ?_;rintro _ w5 ⟨rfl,g5⟩;refine Jg ?_;have S:Grow w5 w5.drew:=Mod.drew _ _;have U:=(g3.trans g5).trans S;obtain⟨c,pl,fr,V⟩:=id h1;have a1:=V.mod U fun _ _ h=>h;have B5:=(B.grow g5).grow S;refine Ag (fun _ _=>False) ?_;refine AH ?_;rw[AG,AI,AG,AI];refine Aa ⟨a1.box.cells 0 _ rfl,fun _ _ e=>e⟩ ?_;rw[AG,AI];refine IN (g:=Au.toAvT) (r:=x.cells) o (fun j v hv=>⟨B5.cells j v (by rw[List.getElem?_append_left (List.getElem?_eq_some_iff.1 hv).1];exact hv),fun _ _ e=>e⟩) ?_;refine Ar (Au.meas (C:=C) (x:=x) rfl) ?_;rintro _ w6 ⟨rfl,g6⟩;refine⟨g6.mono fun _ _ h=>h.elim,?_⟩;refine BQ ?_;have I:=U.trans g6;have B6:=B5.grow g6;have es:Tr.sz Au.k.μ l.toL=(BV l.toL).length:=Fx _;have em:Tr.mk Au.k.μ l.toL=BX (BV l.toL):=Ng _;have a6:(Au.k.μ x).1=x.l.length:=rfl;have a7:(Au.k.μ x).2=BX x.l:=rfl;rw[es,em,a6,a7,Ha];have av:=DB x.l;have ax:=DB (BV l.toL);refine AE (fun ay=>?_) fun al=>?_
  .rw[List.take_append_of_le_length (by omega)] at hm;refine Bm (B6.cells (Au.E+0) _ (by rw[AV o];rfl)) ?_;refine⟨⟨l,q,m,rfl,hl,by omega,hq,hm,O.trans I⟩,?_⟩;have e1:Qr A (.int .i64 (i:Int))=(Tr.node l i x r).ht:=Ei y;have e2:Qr A (.int .i64 (Tr.Dh Au.k.μ (.node l i x r) x l.root r.root).l)=l.ht:=Ei hl;refine Nat.lt_of_le_of_lt (Nat.le_of_eq e2) (Nat.lt_of_lt_of_le ?_ (Nat.le_of_eq e1.symm));simp only[Tr.ht];omega
  have a8:(BV l.toL).length<q:=by omega
  rw[List.take_append,List.take_of_length_le (by omega:(BV l.toL).length<=q),E8] at hm;refine Bz (by omega) ?_;refine Hq (fun b0=>?_) fun b1=>?_
  .rw[List.take_append_of_le_length (by omega)] at hm;refine Bz (by omega) ?_;rw[AG,AI];refine Ah (vs:=x.cells) o (fun j u hu=>by rw[AI];exact B6.cells j u (by rw[List.getElem?_append_left (List.getElem?_eq_some_iff.1 hu).1];exact hu)) ?_;refine Fz (by omega) (by omega) ?_;refine HG (by kernel_rfl) ?_;refine AA (Om x _) ?_;rintro _ b2 ⟨rfl,ak⟩;refine Bz (by omega) ⟨?_,(O.trans I).trans ak⟩;congr 2;omega
  .rw[List.take_append,List.take_of_length_le (by omega:x.l.length<=q-(BV l.toL).length),E8] at hm;refine Bz (by omega) (Bz (by omega) (Bz (by omega) (Fz (by omega) (by omega) ?_)));refine Bm (B6.cells (Au.E+1) _ (by rw[AV o];rfl)) ?_;refine⟨⟨r,q-((BV l.toL).length+x.l.length),m+(BX (BV l.toL)+BX x.l),rfl,hr,by omega,by omega,?_,O.trans I⟩,?_⟩
   .rw[Nat.sub_sub] at hm;omega
   .have e1:Qr A (.int .i64 (i:Int))=(Tr.node l i x r).ht:=Ei y;have e2:Qr A (.int .i64 (Tr.Dh Au.k.μ (.node l i x r) x l.root r.root).r)=r.ht:=Ei hr;refine Nat.lt_of_le_of_lt (Nat.le_of_eq e2) (Nat.lt_of_lt_of_le ?_ (Nat.le_of_eq e1.symm));simp only[Tr.ht];omega
theorem cZ{w:World}(c:Ck){k i:Nat}(hk:k<=1099511627776)(h:Gb c.l k=some i):AB prog 92 [.agg c.cells.toArray,.int .i64 (k:Int)] (fun v w'=>v=.int .i64 (i:Int)/\Grow w w') w:=by
 apply bS;refine Bx.box fun b x hb j B=>?_;refine B.Ey c.len ?_;refine AA (Nh c hk) ?_;rintro _ w2 ⟨rfl,o⟩;rw[h,eH];exact CJ (vs:=[_,_]) (by rfl) (CJ (vs:=[_,_]) (by rfl) ⟨rfl,j.trans o⟩)
set_option maxRecDepth 4000 in
theorem YE{F C:Nat->Prop}{W:World}{b k p:Nat}{A:ArS Ck}{T:Tr Ck}(h:DL Au.toAvT F C W b T.root A)(hh:Tr.Holds Au.k.μ A.f T)(hk:k<=1099511627776)(hb:Dg Au.toAvT T.toL)(hp:Gb (BV T.toL) k=some p) :
  AB prog 91 [.pointer (some ⟨b,0,none⟩),.int .i64 (k:Int),.func (.func 92) #[] #[]] (fun v' w'=>v'=.tuple #[.int .i64 (p:Int),.bool true]/\Grow W w') W:=by
 apply Rr;unfold Y9;refine AH ?_;obtain⟨c,pl,fr,Y⟩:=id h;refine Bm (Y.box.cells 4 _ rfl) ?_;have ay:(BV T.toL).length<=1099511627776:=by rw[<-Fx];exact hb.1
 refine Ae (fun vs W'=>∃(t:Tr Ck) (q m z:Nat),vs=[.int .i64 (q:Int),.int .i64 (m:Int),.int .i64 t.root]/\Tr.Holds Au.k.μ A.f t/\m+(BV t.toL).length<=1099511627776/\q<=k/\Gb (BV t.toL) q=some z/\m+z=p/\Grow W W')
  (fun vs _=>Qr A (nth vs 2)) ⟨T,k,0,p,rfl,hh,by omega,Nat.le_refl _,hp,Nat.zero_add _,Mod.refl _ _⟩ ?_
 rintro vs W1 ⟨t,q,m,z,rfl,I,O,hq,o,Z,X⟩ _;simp only[GA];refine AU (fun _ W'=>W'=W1) ?_ ?_;rotate_left
 .rw[Dq];refine AE (fun _=>?_) fun e=>(e (by omega)).elim;rw[Bh];refine AZ (fun e=>?_) fun _=>rfl;cases t with
  |nil=>cases o
  |node l i x r=>simp only[Tr.root] at e;omega
 rintro _ _ rfl _;rename World=>W1
 cases t with
 |nil=>cases o
 |node l i x r=>
  obtain⟨hl,hr,hi⟩:=id I;have a1:=PU l r i x;rw[a1] at o O;rw[List.length_append,List.length_append] at O;have h1:=h.grow X;simp only[Tr.root];refine DS h1 hi fun rc bx w3 g3 b0 B Q=>?_;have y:=Au.rlen Q;obtain rfl:rc=x.cells:=Q;have h3:=h1.grow g3;refine Bm (B.cells (Au.E+0) _ (by rw[AV y];rfl)) ?_;refine AA (Br h3 hl) ?_;rintro _ w5 ⟨rfl,g5⟩;refine Jg ?_;have S:Grow w5 w5.drew:=Mod.drew _ _;have U:=(g3.trans g5).trans S;obtain⟨c,pl,fr,Y⟩:=id h1;have a6:=Y.mod U fun _ _ h=>h;have B5:=(B.grow g5).grow S;refine Ag (fun _ _=>False) ?_;refine AH ?_;rw[AG,AI,AG,AI];refine Aa ⟨a6.box.cells 0 _ rfl,fun _ _ e=>e⟩ ?_;rw[AG,AI];refine IN (g:=Au.toAvT) (r:=x.cells) y (fun j v hv=>⟨B5.cells j v (by rw[List.getElem?_append_left (List.getElem?_eq_some_iff.1 hv).1];exact hv),fun _ _ e=>e⟩) ?_;refine Ar (Au.meas (C:=C) (x:=x) rfl) ?_;rintro _ w6 ⟨rfl,g6⟩;refine⟨g6.mono fun _ _ h=>h.elim,?_⟩;refine BQ ?_;have J:=U.trans g6;have B6:=B5.grow g6;have es:Tr.sz Au.k.μ l.toL=(BV l.toL).length:=Fx _;have em:Tr.mk Au.k.μ l.toL=BX (BV l.toL):=Ng _;have a7:(Au.k.μ x).1=x.l.length:=rfl;have a8:(Au.k.μ x).2=BX x.l:=rfl;rw[es,em,a7,a8,A6];have b1:=DB x.l;have b2:=DB (BV l.toL);rw[Ka] at o;refine AE (fun b3=>?_) fun av=>?_
  .rw[if_pos (by omega)] at o;refine Bm (B6.cells (Au.E+0) _ (by rw[AV y];rfl)) ?_;refine⟨⟨l,q,m,z,rfl,hl,by omega,hq,o,Z,X.trans J⟩,?_⟩;have e1:Qr A (.int .i64 (i:Int))=(Tr.node l i x r).ht:=Ei I;have e2:Qr A (.int .i64 (Tr.Dh Au.k.μ (.node l i x r) x l.root r.root).l)=l.ht:=Ei hl;refine Nat.lt_of_le_of_lt (Nat.le_of_eq e2) (Nat.lt_of_lt_of_le ?_ (Nat.le_of_eq e1.symm));simp only[Tr.ht];omega
  rw[if_neg (by omega),Ka] at o;refine Bz (by omega) ?_;refine Hq (fun b4=>?_) fun b5=>?_
  .rw[if_pos (by omega)] at o;obtain⟨i',V,rfl⟩:=Option.map_eq_some_iff.1 o;have ax:i'<x.l.length:=by
    obtain⟨i2,k1,k2⟩:=Mz (l:=x.l) (k:=q-BX (BV l.toL)) (by omega);rw[V] at k1;cases k1;exact k2
   refine Bz (by omega) ?_;rw[AG,AI];refine Ah (vs:=x.cells) y (fun j u hu=>by rw[AI];exact B6.cells j u (by rw[List.getElem?_append_left (List.getElem?_eq_some_iff.1 hu).1];exact hu)) ?_;refine Fz (by omega) (by omega) ?_;refine HG (by kernel_rfl) ?_;refine AA (cZ x (by omega) V) ?_;rintro _ b6 ⟨rfl,ak⟩;refine Bz (by omega) ⟨?_,(X.trans J).trans ak⟩;have e:m+(BV l.toL).length+i'=p:=by omega
   rw[e]
  .rw[if_neg (by omega)] at o;obtain⟨z1,al,rfl⟩:=Option.map_eq_some_iff.1 o;obtain⟨z2,an,rfl⟩:=Option.map_eq_some_iff.1 al;refine Bz (by omega) (Bz (by omega) (Bz (by omega) (Fz (by omega) (by omega) ?_)));refine Bm (B6.cells (Au.E+1) _ (by rw[AV y];rfl)) ?_;refine⟨⟨r,q-(BX (BV l.toL)+BX x.l),m+((BV l.toL).length+x.l.length),z2,rfl,hr,by omega,by omega,?_,by omega,X.trans J⟩,?_⟩
   .rw[<-Nat.sub_sub];exact an
   .have e1:Qr A (.int .i64 (i:Int))=(Tr.node l i x r).ht:=Ei I;have e2:Qr A (.int .i64 (Tr.Dh Au.k.μ (.node l i x r) x l.root r.root).r)=r.ht:=Ei hr;refine Nat.lt_of_le_of_lt (Nat.le_of_eq e2) (Nat.lt_of_lt_of_le ?_ (Nat.le_of_eq e1.symm));simp only[Tr.ht];omega
end Go.Proofs.YtmdhibffnkhcnaaGreatDoor
namespace Go.K
open Go
theorem KC.grow{st:Prop}{P:Program}{x N:Nat}{j:List Value}{i:Nat->List Value}{y:Nat->Prop}{w w':World}(h:KC st P x j i N y w)(g:Grow w w'):KC st P x j i N y w':=by
 intro l J B E I h0 hJ Qa JE hr;refine h l J B E (g.trans I) h0 hJ Qa (fun k O W hk b hb o=>?_) hr;exact(JE k O W hk b (Nat.lt_of_lt_of_le hb g.size) o).trans (g.same b hb fun h=>h)
structure YN {α:Type} (e k:Nat) (R:World->List Value->α->Prop) (B c m:Nat) (It:Nat->Prop) (W:World) (out:Value) (l:List α):Prop where
 box:Bx W c [out]
 row:AF B e k R W out l
 hc:∀g,out.ownBlock=some g->g≠c/\g≠m/\g≠m+1/\¬It g
end Go.K
namespace Go.Proofs.YtmdhibffnkhcnaaGreatDoor
open Go Go.K Proofs.Tryz
theorem NC{W:World}{gf:Nat}{Q vals:List Value}{Rd:Nat->Prop}{X:List Spn}(hs:KC True prog gf Q (fun k=>[vals.getD k undef]) vals.length Rd W)(a7:DH gf=true)(hv:vals.length=X.length)(E:∀m (h1:m<vals.length) (U:m<X.length),vals[m]=.agg X[m].cells.toArray)(JE:∀x,Rd x->x<W.heap.size)(hl:X.length<=109951162777) :
  AB prog 98 [.func (.func gf) #[] Q.toArray] (fun v' w'=>AF W.heap.size 108 2 (fun _ r x=>r=Spn.cells x) w' v' X/\Grow W w') W:=by
 apply Z1;apply YA;refine FP rfl fun c y hc g1 B=>?_;have b1:=B.lt (Nat.succ_pos _);have z1:=g1.size;refine⟨True,gf,Q,_,_,_,rfl,a7,hs.grow g1,fun k _=>rfl,?_⟩;refine⟨fun k I W'=>∃out,YN 108 2 (fun _ r x=>r=Spn.cells x) y.heap.size c y.heap.size I W' out (X.take k)/\Mod (fun x=>x=c) y W'/\k<=X.length,fun _ _ _=>False,⟨_,⟨B,AF.nil,fun g i=>nomatch i⟩,Mod.refl _ _,Nat.zero_le _⟩,?_,fun x I a8 W W' h=>h.elim,?_,?_,?_,fun x I W h=>h.elim⟩
 .rintro k I a8 W' b2 ⟨out,q,m,hk⟩ hm j;have V:=q.box.lt (Nat.succ_pos _);have hn:∀x,x<y.heap.size->¬((¬True/\I x)\/x=y.heap.size\/x=y.heap.size+1):=fun x E=>by rintro(⟨h,_⟩|h|h);exact h trivial;all_goals omega
  refine⟨out,⟨q.box.mod hm (hn c (by omega)),AF.mod q.row hm (fun g i=>?_) fun _ _ _ h=>h,fun g i=>?_⟩,m.next hm fun x E=>?_,hk⟩
  .obtain⟨_,U,Y,_⟩:=q.hc g i;rintro(⟨h,_⟩|h|h)
   .exact h trivial
   .exact U h
   .exact Y h
  .obtain⟨h1,U,Y,h4⟩:=q.hc g i;refine⟨h1,U,Y,fun h=>?_⟩;rcases(j g h).1 with h|h
   .exact h4 h
   .have:=(AF.BI q.row g i).2;omega
  .intro e;exact absurd e (hn x E)
 .rintro k I W' ⟨out,q,m,hk⟩ b hb hr;exact m.same b hb fun e=>by have:=JE b hr;omega
 .rintro k I W' hk ⟨out,q,m,b3⟩ hz j;have J:k<X.length:=by omega
  have S:(nth [vals.getD k undef] 0)=.agg X[k].cells.toArray:=by
   show vals.getD k undef=_;rw[List.getD_eq_getElem?_getD,List.getElem?_eq_getElem hk,Option.getD_some,E k hk J]
  rw[S];refine Bx.new (vs:=X[k].cells) rfl rfl (Spn.one _) fun b5 W5 b4 Z B5=>?_;refine Ku Z hz j (fun _ _ h=>h.elim) fun W6 o=>?_;have z5:=Z.size;have z6:=o.size;have V:=q.box.lt (Nat.succ_pos _);have ak:=B5.lt (Nat.succ_pos _);have B6:=(q.box.grow Z).mod o (by omega);have al:=B5.mod o (by omega);have o6:AF y.heap.size 108 2 (fun _ r x=>r=Spn.cells x) W6 out (X.take k):=AF.mod (AF.mod (R':=fun _ r x=>r=Spn.cells x) q.row Z (fun _ _ h=>h) fun _ _ _ h=>h) o (fun g i=>(q.hc g i).2.2.1) fun _ _ _ h=>h;refine AL (B6.cells 0 _ rfl) ?_;refine al.Ey rfl ?_;have b6:(X.take k).length<=X.length:=by simp;omega
  refine DQ Cn.elE o6 (by omega) (cs:=X[k].cells) (x:=X[k]) (DR (v:=.agg X[k].cells.toArray) rfl (by decide) rfl rfl) rfl rfl (fun _ _ _ h=>by subst h;exact Spn.one _) (fun _ _ _ _ _ _ h=>h) (by show _*16<=_;omega) (by simp only[maxLen];omega) fun a1 W9 o9 m9 n9=>?_;have z9:=m9.size;have b7:=AF.BI o6;have B9:=B6.mod m9 fun e=>(q.hc c e).1 rfl;obtain⟨an,av⟩:=o9.one;refine B9.st (q:=0) (show 0<1 by decide) an av fun ax ay T=>?_;have b8:=T.size;have O:Mod (fun x=>x=c\/out.ownBlock=some x) W6 ax:=(m9.mono fun _ _ e=>.inr e).trans (T.mono fun _ _ e=>.inl e);refine⟨OM O (by omega) (fun b hb=>by have:=(j b hb).1;omega) (fun b _ e=>?_),a1,⟨ay,?_,fun g i=>?_⟩,?_,by omega⟩
  .rcases e with rfl|e
   .exact⟨fun h=>by have:=(j b h).2;omega,by omega,by omega⟩
   .obtain⟨h1,U,Y,h4⟩:=q.hc b e;exact⟨h4,U,Y⟩
  .have b0:X.take (k+1)=X.take k++[X[k]]:=by rw[List.take_add_one];simp[J]
   rw [b0];exact AF.mod o9 T (fun g i e=>by
    rcases n9 g i with h|h
    .exact(q.hc g h).1 e
    .omega) fun _ _ _ h=>h
  .rcases n9 g i with h|h
   .exact q.hc g h
   .refine⟨by omega,by omega,by omega,fun hI=>by have:=(j g hI).1;omega⟩
  .refine((m.next Z fun _ _ h=>h.elim).next o fun x E e=>by omega).next O fun x E e=>?_;rcases e with e|e
   .exact e
   .have:=(AF.BI q.row x e).1;omega
 .rintro I W' ⟨out,q,m,hk⟩ _ _ hd;refine AL (q.box.cells 0 _ rfl) ⟨hd,?_⟩;have a6:Mod (fun b=>b=y.heap.size) W' (W'.putObj y.heap.size (.deferred none)):=Mod.putObj _ _ _ rfl;rw[hv,List.take_length] at q;refine⟨AF.base (AF.mod q.row a6 (fun g i=>(q.hc g i).2.1) fun _ _ _ h=>h) fun g i=>?_,?_⟩
  .have:=(AF.BI q.row g i).1;omega
  exact(g1.next m fun x E e=>by omega).next a6 fun x E e=>by omega
abbrev FV:Nat->Prop:=fun _=>False
abbrev DV:World->List Value->Spn->Prop:=fun _ r x=>r=Spn.cells x
abbrev EH(l:List Spn):Nat:=Tr.sz Spn.kd.μ l
theorem eZ(l:List Spn):Tr.mk Spn.kd.μ l=0:=by
 induction l with
 |nil=>rfl
 |cons x l i=>rw[Tr.Ca,i];rfl
theorem Yj{l:List Spn}(h:EH l<=1099511627776):Dg Cn.toAvT l:=⟨h,by show Tr.mk Spn.kd.μ l<=_;rw[eZ];omega⟩
theorem DY(l:List Spn):EH l=(l.flatMap Spn.u).length:=Spn.Dj.sz l
theorem TW(l:List Spn)(i j:Nat):(Spn.kd.over l i j).length<=l.length:=by
 induction l generalizing i j with
 |nil=>exact Nat.le_refl _
 |cons x l o=>
  simp only[Kd.over,List.length_append,List.length_cons];have:=o (i-(Spn.kd.μ x).1) (j-(Spn.kd.μ x).1);split<;>simp<;>omega
theorem JF{F:Nat->Prop}{W:World}{b bt N i j:Nat}{l:List Spn}(h:DF Cn.toAvT F FV W b bt l N)(hN:N<=109951162000)(Q:i<=j)(S:j<=EH l)(U:EH l<=1099511627776)(hl:l.length<=109951162777) :
  AB prog 48 [.pointer (some ⟨b,0,none⟩),.int .i64 (i:Int),.int .i64 (j:Int)] (fun v' w'=>∃y,v'=.tuple #[y,.int .i64 0]/\AF W.heap.size 108 2 DV w' y (Spn.kd.over l i j)/\Grow W w') W:=by
 apply bJ;refine AA (Il HD h) ?_;rintro _ V ⟨rfl,B⟩;have hb:O8 (i:Int) (j:Int) ((Tr.sz Cn.k.μ l:Nat):Int)=0:=by
  have:j<=Tr.sz Cn.k.μ l:=S;unfold O8;rw[if_neg (by omega),if_neg (by omega),if_neg (by omega)]
 rw[hb,Bh];refine AZ (fun _=>?_) fun e=>(e rfl).elim;refine AA (Ds HD (h.grow B)) ?_;rintro _ _ ⟨rfl,rfl⟩;rename World=>V
 obtain⟨A,T,h1,Y,Z,rfl,h5⟩:=(h.grow B).Dl;refine AA (Qs (g:=Cn) h1 (by omega) Y Z (Yj U) (by omega) (by omega)) ?_;rintro _ w3 ⟨a1,vals,Rd,rfl,J,E,I,JE,o⟩;have ho:=TW T.toL i j;refine AA (NC (X:=Spn.kd.over T.toL i j) o (by kernel_rfl) E (fun m q1 q2=>?_) (fun x hx=>(JE x hx).2) (by omega)) ?_
 .obtain⟨r,e1,e2⟩:=I m q1 q2;rw[e1,Re];have e3:r=Spn.cells (Spn.kd.over T.toL i j)[m]:=e2;rw[e3]
 rintro y w4 ⟨O,g4⟩;have s1:=B.size;have s3:=J.size;exact⟨y,rfl,AF.base O fun g hg=>by have:=(AF.BI O g hg).1;omega,(B.trans J).trans g4⟩
theorem Yd{S:Nat->Prop}{W:World}{v:Value}{L:List Spn}(I:BH S 2 DV W v L)(y:∀s∈L,0<=s.id)(hl:L.length<=109951162777) :
  AB prog 236 [v,.func (.func 237) #[] #[]] (fun v' w'=>v'=.bool false/\Grow W w') W:=by
 apply WA;have key:AB prog 270 [v,.func (.func 237) #[] #[]] (fun v' w'=>v'=.int .i64 (-1)/\Grow W w') W:=by
  apply YB;obtain⟨a,c,rfl,hm⟩:=I.shape;have E:=I.G6 (by decide);rw[AS];refine Ae (fun vs W'=>∃i:Nat,i<=L.length/\vs=[.int .i64 i]/\Grow W W') (fun vs _=>L.length-Dr vs 0) ⟨0,Nat.zero_le _,rfl,Mod.refl _ _⟩ ?_;rintro vs T ⟨i,U,rfl,x⟩ _;simp only[CR,List.headD_cons];rw[A6];refine AE (fun J=>?_) fun O=>⟨trivial,x⟩;have o:i<L.length:=by omega
  obtain⟨p,r,rfl,_,hr,hc,rfl⟩:=E.get o;refine AY o (Ah (vs:=L[i].cells) rfl (fun j u hu=>by rw[Addr.add_add];exact x.cell (hc j u hu) fun h=>h) ?_);refine HG (by kernel_rfl) ?_;apply WY;refine Bx.box fun b w2 hb Q B=>?_;refine Bm (B.cells 0 _ rfl) ?_;rw[A6];refine AE (fun e=>by omega) fun _=>?_;refine Bm (B.cells 1 _ rfl) ?_;rw[A6];have:=y L[i] (List.getElem_mem o);refine AE (fun e=>by omega) fun _=>?_;rw[AR,AQ (by omega)];exact⟨⟨i+1,o,rfl,x.trans Q⟩,by rw[DZ,DZ];omega⟩
 refine AA key ?_;rintro _ V ⟨rfl,x⟩;rw[Dq];exact⟨rfl,x⟩
theorem RI{l L:List Spn}{i j:Nat}(h:EH l+EH L<=1099511627776)(x:i<=j)(Q:j<=EH l):EH (Spn.kd.Bn l i j L)+(j-i)=EH l+EH L/\EH ((Spn.kd.split l i).1.getLast?.toList++L++(Spn.kd.split (Spn.kd.split l i).2 (j-i)).2.head?.toList)<=EH l+EH L:=by
 have e:=Spn.Dj.Bn l L x;have B:=congrArg List.length e;rw[<-DY,List.length_append,List.length_append,List.length_take,List.length_drop,<-DY,<-DY] at B;refine⟨by omega,?_⟩;have E:=Ed (g:=Cn.toAvT) l i;have I:=Ed (g:=Cn.toAvT) (Spn.kd.split l i).2 (j-i);have J:∀m:List Spn,EH m.getLast?.toList<=EH m:=fun m=>by
  rcases List.eq_nil_or_concat m with rfl|⟨o,y,rfl⟩
  .exact Nat.le_refl _
  .simp[EH,Tr.sz]
 have O:∀m:List Spn,EH m.head?.toList<=EH m:=fun m=>by
  cases m with
  |nil=>exact Nat.le_refl _
  |cons y m=>simp[EH,Tr.sz]
 have h1:=J (Spn.kd.split l i).1;have S:=O (Spn.kd.split (Spn.kd.split l i).2 (j-i)).2;unfold EH at *;rw[Tr.CG,Tr.CG];have T:Tr.sz Spn.kd.μ (Spn.kd.split l i).1+Tr.sz Spn.kd.μ (Spn.kd.split l i).2=Tr.sz Spn.kd.μ l:=E.1;have U:Tr.sz Spn.kd.μ (Spn.kd.split (Spn.kd.split l i).2 (j-i)).1+Tr.sz Spn.kd.μ (Spn.kd.split (Spn.kd.split l i).2 (j-i)).2=Tr.sz Spn.kd.μ (Spn.kd.split l i).2:=I.1;omega
theorem Rk{F S:Nat->Prop}{W:World}{b bt N i j:Nat}{l L:List Spn}{v:Value}(h:DF Cn.toAvT F FV W b bt l N)(hN:N+L.length<=109951162000)(E:i<=j)(X:j<=EH l)(hs:EH l+EH L<=536870912)(J:BH S 2 DV W v L)(hS:∀x,S x->¬F x)(O:∀s∈L,0<=s.id) :
  AB prog 151 [.pointer (some ⟨b,0,none⟩),.int .i64 (i:Int),.int .i64 (j:Int),v] (fun v' w'=>v'=.int .i64 0/\∃F',(∀x,F x->F' x)/\(∀x,F' x->F x\/W.heap.size<=x)/\DF Cn.toAvT F' FV w' b bt (Spn.kd.Bn l i j L) (N+L.length+4)/\Mod F W w') W:=by
 apply Wu;refine Cu (AT ?_);refine AA (Yd J O (by omega)) ?_;rintro _ w1 ⟨rfl,Y⟩;refine AT ?_;have h1:=h.grow Y;refine AA (Il HD h1) ?_;rintro _ w2 ⟨rfl,Z⟩;have hb:O8 (i:Int) (j:Int) ((Tr.sz Cn.k.μ l:Nat):Int)=0:=by
  have:j<=Tr.sz Cn.k.μ l:=X;unfold O8;rw[if_neg (by omega),if_neg (by omega),if_neg (by omega)]
 rw[hb,Bh];refine AZ (fun _=>?_) fun e=>(e rfl).elim;refine AA (J0 HD (h1.grow Z)) ?_;rintro _ w3 ⟨rfl,g3⟩;have Q:Tr.sz Cn.k.μ l=EH l:=rfl;rw[Q,Av,wrap64 (by omega) (by omega),AR,wrap64 (by omega) (by omega),Av,wrap64 (by omega) (by omega)];obtain⟨a,c,rfl,hm⟩:=J.shape;have T:=J.G6 (by decide);rw[AS];have U:=(Y.trans Z).trans g3;refine Ae (fun vs W'=>∃k:Nat,k<=L.length/\vs=[.int .i64 ((536870912:Int)-EH l+j-i-EH (L.take k)),.int .i64 k]/\Grow W W') (fun vs _=>L.length-Dr vs 1) ⟨0,Nat.zero_le _,by simp[EH,Tr.sz],U⟩ ?_;rintro vs W1 ⟨k,hk,rfl,y⟩ _;simp only[GA];refine Hq (fun a1=>?_) fun a6=>?_
 .have o:k<L.length:=by omega
  have V:L.take (k+1)=L.take k++[L[k]]:=by rw[List.take_add_one];simp[o]
  have a7:EH L=EH (L.take (k+1))+EH (L.drop (k+1)):=by unfold EH;rw[<-Tr.CG,List.take_append_drop]
  have I:EH (L.take (k+1))=EH (L.take k)+L[k].n:=by rw[V];unfold EH;rw[Tr.CG];simp[Tr.sz,Spn.kd]
  obtain⟨p,r,rfl,_,hr,hc,rfl⟩:=T.get o;refine AY o (Ah (vs:=L[k].cells) rfl (fun j u hu=>by rw[Addr.add_add];exact y.cell (hc j u hu) fun h=>h) ?_);refine Bx.new (vs:=L[k].cells) rfl rfl (Spn.one _) fun a8 w7 hb g7 B=>?_;refine Bm (B.cells 0 _ rfl) ?_;rw[BJ];refine AE (fun e=>by omega) fun _=>?_;refine Bm (B.cells 0 _ rfl) ?_;rw[Av,wrap64 (by omega) (by omega),AR,AQ (by omega)];refine⟨⟨k+1,o,?_,y.trans g7⟩,by rw[BL,BL];omega⟩;rw[I];congr 2
  omega
 .have hW:=h.grow y;refine AA (Ds HD hW) ?_;rintro _ _ ⟨rfl,rfl⟩;rename World=>W1
  obtain⟨q1,q2⟩:=RI (l:=l) (L:=L) (i:=i) (j:=j) (by omega) E X;refine AA (H6 (Vr (g:=Cn)) hW (by omega) (J.mod y (fun _ _ _ h=>h) (by decide) fun _ _ h=>h) hS E (by omega) (Yj (by omega)) (Yj (l:=Spn.kd.Bn l i j L) (by omega)) (Yj (l:=(Spn.kd.split l i).1.getLast?.toList++L++(Spn.kd.split (Spn.kd.split l i).2 (j-i)).2.head?.toList) (by omega))) ?_;rintro _ ak ⟨F',k1,k2,k3,k4⟩;have:=y.size;exact⟨trivial,F',k1,fun x hx=>(k2 x hx).imp (fun h=>h) fun h=>by omega,k3,(y.mono fun _ _ h=>h.elim).trans k4⟩
theorem Lr{l:List Ck}(h:(BV l).length<=1099511627776):Dg Au.toAvT l:=⟨by show Tr.sz Ck.kd.μ l<=_;rw[Fx];exact h,by show Tr.mk Ck.kd.μ l<=_;rw[Ng];exact Nat.le_trans (DB _) h⟩
theorem IV{i j:Nat}{n:Nat}(o:i<=j)(x:j<=n):O8 (i:Int) (j:Int) (n:Int)=0:=by
 unfold O8;rw[if_neg (by omega),if_neg (by omega),if_neg (by omega)]
section
variable {F:Nat->Prop}{W:World}{b bt N:Nat}{l:List Ck}
theorem VR(h:DF Au.toAvT F FV W b bt l N):AB prog 54 [.pointer (some ⟨b,0,none⟩)] (fun v' w'=>v'=.int .i64 ((BV l).length:Int)/\Grow W w') W:=by
 refine AA (J0 EN h) ?_;rintro _ w ⟨rfl,g⟩;refine⟨?_,g⟩;rw[show Tr.sz Au.toAvT.k.μ l=(BV l).length from Fx l]
theorem Ju(h:DF Au.toAvT F FV W b bt l N):AB prog 45 [.pointer (some ⟨b,0,none⟩)] (fun v' w'=>v'=.int .i64 (BX (BV l):Int)/\Grow W w') W:=by
 apply bW;refine Cu (AT ?_);refine AA (Ds EN h) ?_;rintro _ _ ⟨rfl,rfl⟩;rename World=>W
 obtain⟨A,T,h1,i,x,rfl,y⟩:=h.Dl;apply Pd;unfold Tx;refine AH ?_;obtain⟨c,pl,fr,j⟩:=id h1;refine Bm (j.box.cells 4 _ rfl) ?_;refine AA (Br h1 i) ?_;rintro _ B ⟨rfl,o⟩;refine CJ (vs:=[_,_,_]) (by rfl) (CJ (vs:=[_,_,_]) (by rfl) (CJ (vs:=[_,_,_]) (by rfl) ⟨?_,o⟩));rw[show Tr.mk Au.toAvT.k.μ T.toL=BX (BV T.toL) from Ng _]
theorem MA{i:Nat}(h:DF Au.toAvT F FV W b bt l N)(o:i<=(BV l).length)(x:(BV l).length<=1099511627776) :
  AB prog 53 [.pointer (some ⟨b,0,none⟩),.int .i64 (i:Int)] (fun v' w'=>v'=.tuple #[.int .i64 (BX ((BV l).take i):Int),.int .i64 0]/\Grow W w') W:=by
 apply Td;refine AA (Il EN h) ?_;rintro _ y ⟨rfl,j⟩;rw[show Tr.sz Au.toAvT.k.μ l=(BV l).length from Fx l,IV (Nat.le_refl _) o,Bh];refine AZ (fun _=>?_) fun e=>(e rfl).elim;refine AA (Ds EN (h.grow j)) ?_;rintro _ _ ⟨rfl,rfl⟩;rename World=>y
 obtain⟨A,T,h1,B,I,rfl,J⟩:=(h.grow j).Dl;refine AA (PM h1 B (by omega) (Lr x)) ?_;rintro _ w2 ⟨rfl,E⟩;exact⟨rfl,j.trans E⟩
def LG(rs:List Int)(k:Nat):Value:=if BX rs<k then .tuple #[.int .i64 0,.int .i64 5] else if k=0 then .tuple #[.int .i64 0,.int .i64 0] else match Gb rs (k-1) with
 |some p=>.tuple #[.int .i64 ((p+1:Nat):Int),.int .i64 0]
 |none=>undef
theorem Jz{k:Nat}(h:DF Au.toAvT F FV W b bt l N)(j:(BV l).length<=1099511627776) :
  AB prog 46 [.pointer (some ⟨b,0,none⟩),.int .i64 (k:Int)] (fun v' w'=>v'=LG (BV l) k/\Grow W w') W:=by
 apply Zl;have J:=DB (BV l);refine AU (fun _ W'=>Grow W W'/\0<k/\k<=BX (BV l)) ?_ ?_
 .rintro _ o ⟨i,x,hk⟩ _;refine AA (Ds EN (h.grow i)) ?_;rintro _ _ ⟨rfl,rfl⟩;rename World=>o
  obtain⟨k,rfl⟩:∃y,k=y+1:=⟨k-1,by omega⟩;obtain⟨p,hp,B⟩:=Mz (l:=BV l) (k:=k) (by omega);obtain⟨A,T,h1,E,O,rfl,Q⟩:=(h.grow i).Dl;rw[Av,wrap64 (by omega) (by omega),show(((k+1:Nat):Int)-1)=(k:Int) by omega];refine AA (YE h1 E (by omega) (Lr j) hp) ?_;rintro _ w2 ⟨rfl,I⟩;refine BQ ?_;rw[AR,wrap64 (by omega) (by omega)];refine⟨?_,i.trans I⟩;unfold LG;rw[if_neg (by omega),if_neg (by omega),Nat.add_sub_cancel,hp];rfl
 .refine Cu (AT ?_);rw[A6];refine AE (fun e=>by omega) fun _=>?_;refine AA (Ju h) ?_;rintro _ S ⟨rfl,i⟩;rw[BJ];refine AE (fun e=>⟨by unfold LG;rw[if_pos (by omega)],i⟩) fun e=>?_;rw[Am];refine AE (fun e0=>⟨by unfold LG;rw[if_neg (by omega),if_pos (by omega)],i⟩) fun e0=>?_;exact⟨i,by omega,by omega⟩
theorem VU(l:List Ck)(i j:Nat):BV (Ck.kd.over l i j)=((BV l).take j).drop i:=GJ.over l i j
theorem N5(t l:List Ck){i j:Nat}(o:i<=j):BV (Ck.kd.Bn t i j l)=(BV t).take i++BV l++(BV t).drop j:=GJ.Bn t l o
theorem L8(l L:List Ck)(i j:Nat):(BV ((Ck.kd.split l i).1.getLast?.toList++L++(Ck.kd.split (Ck.kd.split l i).2 (j-i)).2.head?.toList)).length<=(BV l).length+(BV L).length:=by
 have x:=congrArg List.length (GJ.split l i).1;have B:=congrArg List.length (GJ.split l i).2;have a3:=congrArg List.length (GJ.split (Ck.kd.split l i).2 (j-i)).2;have E:∀m:List Ck,(BV m.getLast?.toList).length<=(BV m).length:=fun m=>by
  rcases List.eq_nil_or_concat m with rfl|⟨o,y,rfl⟩
  .exact Nat.le_refl _
  .simp[BV]
 have I:∀m:List Ck,(BV m.head?.toList).length<=(BV m).length:=fun m=>by
  cases m with
  |nil=>exact Nat.le_refl _
  |cons y m=>simp[BV]
 have h1:=E (Ck.kd.split l i).1;have J:=I (Ck.kd.split (Ck.kd.split l i).2 (j-i)).2;have e:∀a b c:List Ck,(BV (a++b++c)).length=(BV a).length+(BV b).length+(BV c).length:=fun a b c=>by simp[BV];omega
 rw[e];rw[List.length_take] at x;rw[List.length_drop] at B a3;show(BV _).length+_+(BV _).length<=_;unfold BV at *;omega
theorem Ry{i j:Nat}(h:DF Au.toAvT F FV W b bt l N)(Y:N<=109951162000)(o:i<=j)(J:j<=(BV l).length)(O:(BV l).length<=1099511627776) :
  AB prog 88 [.pointer (some ⟨b,0,none⟩),.int .i64 (i:Int),.int .i64 (j:Int)] (fun v' w'=>v'=.int .i64 0/\∃F' B,(∀x,F x->F' x)/\(∀x,F' x->F x\/W.heap.size<=x)/\DF Au.toAvT F' FV w' b bt B (N+4)/\BV B=(BV l).take i++(BV l).drop j/\Mod F W w') W:=by
 apply bg;refine AA (Il EN h) ?_;rintro _ Q ⟨rfl,y⟩;rw[show Tr.sz Au.toAvT.k.μ l=(BV l).length from Fx l,IV o J,Bh];refine AZ (fun _=>?_) fun e=>(e rfl).elim;have E:=h.grow y;refine AA (Ds EN E) ?_;rintro _ _ ⟨rfl,rfl⟩;rename World=>Q
 have I:=N5 l [] o;have Z:=L8 l [] i j;have e0:(BV []).length=0:=rfl;refine AA (H6 (Vr (g:=Au)) (L:=[]) (S:=fun _=>False) E (by simp only[List.length_nil];omega) BH.nil (fun _ h=>h.elim) o (by omega) (Lr O) (Lr (l:=Ck.kd.Bn l i j []) (by rw[I];simp[BV] at *;omega)) (Lr (l:=(Ck.kd.split l i).1.getLast?.toList++[]++(Ck.kd.split (Ck.kd.split l i).2 (j-i)).2.head?.toList) (by omega))) ?_;rintro _ T ⟨F',k1,k2,U,V⟩;have:=y.size;refine⟨rfl,F',_,k1,fun x X=>(k2 x X).imp (fun h=>h) fun h=>by omega,U,?_,(y.mono fun _ _ h=>h.elim).trans V⟩;show BV (Ck.kd.Bn l i j [])=_;rw[I];simp[BV]
theorem TI{i j:Nat}(h:DF Au.toAvT F FV W b bt l N)(hN:N<=109951162000)(an:i<=j)(hj:j<=(BV l).length)(hs:(BV l).length<=1099511627776)(hl:l.length<=109951162777) :
  AB prog 47 [.pointer (some ⟨b,0,none⟩),.int .i64 (i:Int),.int .i64 (j:Int)] (fun v' w'=>∃rv,v'=.tuple #[rv,.int .i64 0]/\AF W.heap.size 21 1 CH w' rv (((BV l).take j).drop i)/\Grow W w') W:=by
 apply aL;refine Bx.zero fun c w1 hc g1 B=>?_;have b6:=B.lt (by decide);have h1:=h.grow g1;have h0:=h;refine AA (Il EN h1) ?_;rintro _ w2 ⟨rfl,g2⟩;rw[show Tr.sz Au.toAvT.k.μ l=(BV l).length from Fx l,IV an hj,Bh];refine AZ (fun _=>?_) fun e=>(e rfl).elim;have hW:=h1.grow g2;refine AA (Ds EN hW) ?_;rintro _ _ ⟨rfl,rfl⟩;rename World=>w2
 obtain⟨A,T,t1,t2,t3,rfl,t5⟩:=hW.Dl;refine AA (Qs (g:=Au) t1 (by omega) t2 t3 (Lr hs) (by omega) (by omega)) ?_;rintro _ J ⟨av,vals,Rd,rfl,g6,ax,ay,JE,a1⟩;generalize hX:Ck.kd.over T.toL i j=X at *;have b0:vals.length=X.length:=by rw[<-hX];exact ax
 have a6:BV X=((BV T.toL).take j).drop i:=by rw[<-hX];exact VU _ _ _
 have O:∀m (h1:m<vals.length) (h2:m<X.length),vals[m]=.agg X[m].cells.toArray:=fun m q1 q2=>by
  subst hX;obtain⟨r,e1,e2⟩:=ay m q1 q2;rw[e1,Re];have e3:r=Ck.cells (Ck.kd.over T.toL i j)[m]:=e2;rw[e3]
 have b9:(BV X).length<=1099511627776:=by rw[a6,List.length_drop,List.length_take];omega
 have z1:=g1.size;have z2:=g2.size;have z6:=g6.size;have B6:=(B.grow g2).grow g6;refine⟨True,_,av,_,_,_,rfl,by kernel_rfl,a1,fun k _=>rfl,?_⟩;refine⟨fun k Q W'=>∃out,YN 21 1 CH J.heap.size c J.heap.size Q W' out (BV (X.take k))/\Mod (fun x=>x=c) J W'/\k<=X.length,fun _ _ _=>False,⟨_,⟨B6,AF.nil,fun g o=>nomatch o⟩,Mod.refl _ _,Nat.zero_le _⟩,?_,fun x Q b1 W W' h=>h.elim,?_,?_,?_,fun x Q W h=>h.elim⟩
 .rintro k Q b1 W' ba ⟨out,q,m,hk⟩ hm E;have hn:∀x,x<J.heap.size->¬((¬True/\Q x)\/x=J.heap.size\/x=J.heap.size+1):=fun x O=>by rintro(⟨h,_⟩|h|h);exact h trivial;all_goals omega
  refine⟨out,⟨q.box.mod hm (hn c (by omega)),AF.mod q.row hm (fun g o=>?_) fun _ _ _ h=>h,fun g o=>?_⟩,m.next hm fun x O=>?_,hk⟩
  .obtain⟨_,h2,h3,_⟩:=q.hc g o;rintro(⟨h,_⟩|h|h)
   .exact h trivial
   .exact h2 h
   .exact h3 h
  .obtain⟨h1,h2,h3,h4⟩:=q.hc g o;refine⟨h1,h2,h3,fun h=>?_⟩;rcases(E g h).1 with h|h
   .exact h4 h
   .have:=(AF.BI q.row g o).2;omega
  .intro e;exact absurd e (hn x O)
 .rintro k Q W' ⟨out,q,m,hk⟩ b hb hr;exact m.same b hb fun e=>by
   subst e;rcases(JE b hr).1 with h|h|h
   .have:=h0.lt b (.inl h.1);omega
   .exact h.elim
   .omega
 .rintro k Q W' hk ⟨out,q,m,bc⟩ hz E;have S:k<X.length:=by omega
  have U:(nth [vals.getD k undef] 0)=.agg X[k].cells.toArray:=by
   show vals.getD k undef=_;rw[List.getD_eq_getElem?_getD,List.getElem?_eq_getElem hk,Option.getD_some,O k hk S]
  rw[U];have b2:X.take (k+1)=X.take k++[X[k]]:=by rw[List.take_add_one];simp[S]
  have a7:BV (X.take (k+1))=BV (X.take k)++X[k].l:=by rw[b2];simp only[BV,List.flatMap_append,List.flatMap_cons,List.flatMap_nil,List.append_nil]
  have b7:(BV (X.take k)).length+X[k].l.length<=(BV X).length:=by
   have e:BV X=BV (X.take (k+1))++BV (X.drop (k+1)):=by rw[BV,BV,BV,<-List.flatMap_append,List.take_append_drop]
   rw[e,a7,List.length_append,List.length_append];omega
  refine Bx.new (vs:=X[k].cells) (Ck.len _) rfl (Ck.one _) fun b5 W5 bd g5 B5=>?_;refine Ku g5 hz E (fun _ _ h=>h.elim) fun W6 I=>?_;have z5:=g5.size;have bk:=I.size;have b8:=q.box.lt (Nat.succ_pos _);have b3:=B5.lt (by rw[Ck.len];omega);have C6:=(q.box.grow g5).mod I (by omega);have b4:=B5.mod I (by omega);have o6:AF J.heap.size 21 1 CH W6 out (BV (X.take k)):=AF.mod (AF.mod (R':=CH) q.row g5 (fun _ _ h=>h) fun _ _ _ h=>h) I (fun g o=>(q.hc g o).2.2.1) fun _ _ _ h=>h;have gd:Grow W6 W6.drew:=Mod.drew _ _;have zd:=gd.size;have Cd:=C6.grow gd;have Bd:=b4.grow gd;refine Ag (fun k y=>(k=3/\out.ownBlock=some y)\/(k=4/\y=c)) ?_;refine Aa ⟨Cd.cells 0 _ rfl,fun j hj e=>?_⟩ ?_
  .have a8:j∈[2]:=hj;simp only[List.mem_singleton] at a8;subst a8;rcases e with e|e
   .exact absurd e.1 (by decide)
   .exact absurd e.1 (by decide)
  refine CO (Ck.len _) (fun j u hu=>⟨by rw[AI];exact Bd.cells j u hu,fun j hj=>(List.not_mem_nil (show j∈[] from hj)).elim⟩) ?_;refine AA (Vl X[k]) ?_;rintro xv W7 ⟨ox,g7⟩;refine⟨g7.mono fun _ _ h=>h.elim,?_⟩;have z7:=g7.size;have o7:AF J.heap.size 21 1 CH W7 out (BV (X.take k)):=AF.mod (AF.mod (R':=CH) o6 gd (fun _ _ h=>h) fun _ _ _ h=>h) g7 (fun _ _ h=>h) fun _ _ _ h=>h;obtain⟨ak,W8,r1,o8,r3,n8⟩:=AF.append (P:=prog) (ty:=80) Jc o7 (AF.sl ox) (fun _ _=>CH.one) (by omega) (by omega) (by simp only[maxLen];omega) fun _ _ _ _ h=>h;refine Ai r1 ?_;have m8:=Mod.of_grownBy r3;have z8:=m8.size;refine⟨m8.mono fun _ _ e=>.inl ⟨rfl,e⟩,?_⟩;have C8:=((Cd.grow g7).mod m8 fun e=>(q.hc c e).1 rfl);obtain⟨V,Y⟩:=o8.one;refine C8.st (q:=0) (show 0<1 by decide) V Y fun W9 C9 m9=>⟨m9.mono fun _ _ e=>.inr ⟨rfl,e⟩,?_⟩;have z9:=m9.size;have al:Mod (fun x=>x=c\/out.ownBlock=some x) W6 W9:=(((gd.trans g7).mono fun _ _ h=>h.elim).trans (m8.mono fun _ _ e=>.inr e)).trans (m9.mono fun _ _ e=>.inl e);refine⟨OM al (by omega) (fun b hb=>by have:=(E b hb).1;omega) (fun b _ e=>?_),ak,⟨C9,?_,fun g o=>?_⟩,?_,by omega⟩
  .rcases e with rfl|e
   .exact⟨fun h=>by have:=(E b h).2;omega,by omega,by omega⟩
   .obtain⟨h1,h2,h3,h4⟩:=q.hc b e;exact⟨h4,h2,h3⟩
  .rw [a7];exact AF.mod o8 m9 (fun g o e=>by
    rcases n8 g o with h|h
    .exact(q.hc g h).1 e
    .omega) fun _ _ _ h=>h
  .rcases n8 g o with h|h
   .exact q.hc g h
   .refine⟨by omega,by omega,by omega,fun hI=>by have:=(E g hI).1;omega⟩
  .refine((m.next g5 fun _ _ h=>h.elim).next I fun x O e=>by omega).next al fun x O e=>?_;rcases e with e|e
   .exact e
   .have:=(AF.BI q.row x e).1;omega
 .rintro Q W' ⟨out,q,m,hk⟩ _ hz hd;refine AL (q.box.cells 0 _ rfl) ?_;obtain⟨V,Y⟩:=q.row.one;refine q.box.st (q:=0) (show 0<1 by decide) V Y fun W1 C1 m1=>?_;refine⟨?_,?_⟩
  .rw[m1.same _ (by omega) (by omega)];exact hd
  have Z:Mod (fun b=>b=J.heap.size) W1 (W1.putObj J.heap.size (.deferred none)):=Mod.putObj _ _ _ rfl;have C2:=C1.mod Z (by omega);refine AL (C2.cells 0 _ rfl) ⟨_,rfl,?_,?_⟩
  .rw[b0,List.take_length,a6] at q;refine AF.base (AF.mod (AF.mod (R':=CH) q.row m1 (fun g o=>(q.hc g o).1) fun _ _ _ h=>h) Z (fun g o=>(q.hc g o).2.1) fun _ _ _ h=>h) fun g o=>?_;have:=(AF.BI q.row g o).1;omega
  .exact((((g1.trans g2).trans g6).next m fun x O e=>by omega).next m1 fun x O e=>by omega).next Z fun x O e=>by omega
end
end Go.Proofs.YtmdhibffnkhcnaaGreatDoor
