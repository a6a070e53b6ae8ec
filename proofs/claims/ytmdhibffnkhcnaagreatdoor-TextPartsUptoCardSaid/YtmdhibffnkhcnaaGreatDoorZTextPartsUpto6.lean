/- parts of the proof, written short by a program of ours -/
import Derived.Test.YtmdhibffnkhcnaaGreatDoorZTextPartsUpto5
import Derived.Laws.BytesArg
import Derived.Laws.IdiomStrings
import Derived.MapKept
import Derived.Shelf.GgSortFunc.InsertionK
import Derived.Shelf.SlSortCmp.WholeK
import Derived.Shelf.SlSortCmp.NoneTotal
set_option linter.unusedSimpArgs false
set_option linter.unusedVariables false
namespace Go.K
open Go
theorem EP{P:Program}{t e k:Nat}{i:TypeInfo}{a:Option Addr}{n c j:Nat}(ht:P.underlying t=some (.slice e))(x:P.info? e=some i)(hk:i.size=k)(y:j<=n)(w:World):(Instr.sliceAt t (.slice a n c) (some (.int .i64 j)) none none).run P w=.ok (sliced a j n c k) w:=by
 have o:P.elem t=e:=by simp[Program.elem,ht]
 rw[run_sliceAt_slice _ _ _ _ _ _ (by rw[o];exact ht),run_slice_l _ _ _ _ _ (by rw[o];exact ht) _ _ (by omega) (by omega),o];simp[sizeOf,typeInfo,x,hk]
theorem Ji{α:Type}{k:Nat}{R:World->List Value->α->Prop}{S:Nat->Prop}{w:World}{a:Option Addr}{n c:Nat}{l:List α}{j:Nat}(h:BH S k R w (.slice a n c) l)(J:j<=l.length):BH S k R w (sliced a j n c k) (l.drop j):=by
 obtain⟨O,Q,o,h1,T,y⟩:=h;cases o;unfold sliced;refine⟨_,_,by rw[List.length_drop],by rw[List.length_drop];omega,by omega,fun q x i=>?_⟩;rw[List.getElem?_drop] at i;obtain⟨p,r,rfl,B,hr,hc,E⟩:=y _ x i;have I:=(List.getElem?_eq_some_iff.1 i).1;rw[if_neg (by omega)];refine⟨p.add (j*k),r,rfl,by rw[BP];exact B,hr,fun m u hu=>?_,E⟩;rw[Addr.add_add,<-Nat.add_assoc,<-Nat.add_mul];exact hc m u hu
theorem LX{P:Program}{t e k:Nat}{i:TypeInfo}{a:Option Addr}{n c:Nat}(ht:P.underlying t=some (.slice e))(x:P.info? e=some i)(hk:i.size=k)(hc:n<=c)(w:World):∃o,(Instr.sliceAt t (.slice a n c) none (some (.int .i64 n)) (some (.int .i64 n))).run P w=.ok (.slice o n n) w/\(0<n->o=a):=by
 have j:P.elem t=e:=by simp[Program.elem,ht]
 refine⟨if n=0 then a else a.map (·.add (0*k)),?_,fun h=>?_⟩
 .rw[run_sliceAt_slice _ _ _ _ _ _ (by rw[j];exact ht)];simp[Instr.slice,run_underlying ht,Instr.sliceBounds,run_sliceBound,hc,sizeOf,typeInfo,x,hk,Result.andThen]
 .rw[if_neg (by omega)];cases a with
  |none=>rfl
  |some a=>simp[Addr.add]
theorem G0{P:Program}{t e n s:Nat}{i:TypeInfo}{k:IntKind}{a:Addr}{j:Int}{w:World}(ht:P.underlying t=some (.array n e))(o:P.info? e=some i)(x:i.size=s)(h0:0<=j)(h1:j<n):(Instr.indexAt t (.pointer (some a)) (.int k j)).run P w=.ok (.pointer (some (a.add (j.toNat*s)))) w:=by
 simp[Instr.indexAt,Instr.sureAddr,run_underlying ht,asIntOf,sizeOf,typeInfo,o,x,h0,h1,Result.andThen]
theorem Eb{P:Program}{s d:TypeId}{q k:IntKind}{n:Int}(w:World)(i:(P.underlying s).isSome=true)(j:P.underlying d=some (.int k)):(convert s d (.int q n)).run P w=.ok (.int k (k.wrap n)) w:=by
 obtain⟨e,he⟩:=Option.isSome_iff_exists.mp i;simp[convert,run_underlying he,run_underlying j,Conv.intToInt]
theorem Qo{P:Program}{t:TypeId}{xo yo:Operand}{k q:IntKind}{a:Int}{n:Nat}(w:World)(i:n<=k.bits):(BY .shl t xo yo (.int k a) (.int q n)).run P w=.ok (.int k (k.wrap (a*2 ^ n))) w:=by
 have h0:¬((n:Int)<0):=by omega
 simp[BY,eqGuard,binOp,Op.shift,Nat.min_eq_left i,h0]
theorem Md{P:Program}{t:TypeId}{xo yo:Operand}{k q:IntKind}{a:Int}{n:Nat}(w:World)(i:n<=k.bits):(BY .shr t xo yo (.int k a) (.int q n)).run P w=.ok (.int k (a.fdiv (2 ^ n))) w:=by
 have h0:¬((n:Int)<0):=by omega
 simp[BY,eqGuard,binOp,Op.shift,Nat.min_eq_left i,h0]
theorem I9{P:Program}{t:TypeId}{xo yo:Operand}{k:IntKind}{a b:Int}(w:World):(BY .or t xo yo (.int k a) (.int k b)).run P w=.ok (.int k (k.wrap (BitVec.ofInt k.bits a ||| BitVec.ofInt k.bits b).toNat)) w/\(BY .and t xo yo (.int k a) (.int k b)).run P w=.ok (.int k (k.wrap (BitVec.ofInt k.bits a &&& BitVec.ofInt k.bits b).toNat)) w:=by
 constructor<;>simp[BY,eqGuard,binOp,Op.intBits]
end Go.K
namespace Go.Proofs.YtmdhibffnkhcnaaGreatDoor
open Go Go.K Proofs.Tryz
theorem DR{t:TypeId}{xo yo:Operand}{a b:Int}(w:World)(ha:Ha a)(hb:Ha b):(BY .or t xo yo (.int .u64 a) (.int .u64 b)).run prog w=.ok (.int .u64 (K4 a b)) w:=by
 rw[(I9 w).1];have e:((BitVec.ofInt IntKind.u64.bits a ||| BitVec.ofInt IntKind.u64.bits b).toNat:Int)=K4 a b:=cP ha hb;rw[e,Fl (Dy ha hb)]
theorem Je{t:TypeId}{xo yo:Operand}{a b:Int}(w:World)(ha:Ha a)(hb:Ha b):(BY .and t xo yo (.int .u64 a) (.int .u64 b)).run prog w=.ok (.int .u64 ((a.toNat &&& b.toNat:Nat):Int)) w:=by
 rw[(I9 w).2];have e:((BitVec.ofInt IntKind.u64.bits a &&& BitVec.ofInt IntKind.u64.bits b).toNat:Int)=((a.toNat &&& b.toNat:Nat):Int):=bv_and ha hb;rw[e,Fl ⟨by omega,?_⟩];have:=Nat.and_le_left (n:=a.toNat) (m:=b.toNat);have:=ha.2;have:=ha.1;omega
def Vg(x:Int)(j:Nat):Int:=x*2 ^ (8*j)
def GP(b:List Int):Int:=K4 (K4 (K4 (K4 (K4 (K4 (K4 (b.getD 0 0) (Vg (b.getD 1 0) 1)) (Vg (b.getD 2 0) 2)) (Vg (b.getD 3 0) 3)) (Vg (b.getD 4 0) 4)) (Vg (b.getD 5 0) 5)) (Vg (b.getD 6 0) 6)) (Vg (b.getD 7 0) 7)
abbrev Bl(b:List Int):Prop:=∀x∈b,0<=x/\x<256
theorem Bl.getD{b:List Int}(h:Bl b)(j:Nat):0<=b.getD j 0/\b.getD j 0<256:=by
 rw[List.getD_eq_getElem?_getD];cases e:b[j]? with
 |none=>simp
 |some x=>exact h x (List.mem_iff_getElem?.2 ⟨j,e⟩)
theorem Bl.drop{b:List Int}(h:Bl b)(j:Nat):Bl (b.drop j):=fun x i=>h x (List.mem_of_mem_drop i)
theorem Mc{x:Int}(h:0<=x/\x<256):Ha x:=⟨h.1,by omega⟩
theorem Gb{b:List Int}(h:Bl b):Ha (GP b):=by
 have u:∀j,j<8->Ha (Vg (b.getD j 0) j):=fun j i=>UW i (h.getD j).1 (h.getD j).2;unfold GP;exact Dy (Dy (Dy (Dy (Dy (Dy (Dy (Mc (h.getD 0)) (u 1 (by decide))) (u 2 (by decide))) (u 3 (by decide))) (u 4 (by decide))) (u 5 (by decide))) (u 6 (by decide))) (u 7 (by decide))
theorem Uf{b:List Int}(h:Bl b){j:Nat}(o:j<8)(x:128<=b.getD j 0):R8 (GP b) j:=by
 have i:=(Uy o x (h.getD j).2).2;unfold GP;rcases(show j=0\/j=1\/j=2\/j=3\/j=4\/j=5\/j=6\/j=7 by omega) with rfl|rfl|rfl|rfl|rfl|rfl|rfl|rfl
 .rw[show b.getD 0 0*2 ^ (8*0)=b.getD 0 0 by omega] at i;exact .l (.l (.l (.l (.l (.l (.l i))))))
 .exact .l (.l (.l (.l (.l (.l (.r i))))))
 .exact .l (.l (.l (.l (.l (.r i)))))
 .exact .l (.l (.l (.l (.r i))))
 .exact .l (.l (.l (.r i)))
 .exact .l (.l (.r i))
 .exact .l (.r i)
 .exact .r i
theorem ET{C:World->Prop}{p:Addr}{n c:Nat}{b:Int}{j:Nat}{m:Int}{xo yo:Operand}{k:Value->Prop}(B:j<n)(hm:m=8*j)(i:j<8)(hb:0<=b/\b<256)(hc:∀w,C w->w.cell? (p.add (j*1))=some (.int .u8 b))(hk:k (.int .u64 (Vg b j))) :
  Bf 1 (.slice (some p) n c) (.int .i64 j) fun o=>BI C o fun x=>Bh prog C (convert 5 75 x) fun y=>Bh prog C (BY .shl 75 xo yo y (.int .u64 m)) k:=by
 refine Ab B (Au hc ⟨.int .u64 (IntKind.u64.wrap b),fun w _=>Eb (k:=.u64) w (by kernel_rfl) (by kernel_rfl),?_⟩);rw[Fl (Mc hb)];subst hm;refine⟨_,fun w _=>?_,hk⟩;have e:=Qo (P:=prog) (t:=75) (xo:=xo) (yo:=yo) (k:=.u64) (q:=.u64) (a:=b) (n:=8*j) w (by show 8*j<=64;omega);rw[Fl (UW i hb.1 hb.2)] at e;have E:((8*j:Nat):Int)=8*(j:Int):=by omega
 rw[E] at e;exact e
theorem QU{S:Nat->Prop}{v:Value}{b:List Int}{w:World}(h:Ci S w v b)(hb:Bl b)(hl:8<=b.length) :
  AB prog 300 [v] (fun v' w'=>v'=.int .u64 (GP b)/\Grow w w') w:=by
 apply Xz;obtain⟨a,c,rfl,hm⟩:=h.shape;have cell:∀j (i:j<b.length),∃p,a=some p/\w.cell? (p.add (j*1))=some (.int .u8 (b.getD j 0)):=by
  intro j i;obtain⟨p,r,rfl,_,hr,hc,rfl⟩:=h.get i;refine⟨p,rfl,?_⟩;rw[List.getD_eq_getElem?_getD,List.getElem?_eq_getElem i];exact hc 0 _ rfl
 obtain⟨p,rfl,c0⟩:=cell 0 (by omega);have o:∀j,j<b.length->w.cell? (p.add (j*1))=some (.int .u8 (b.getD j 0)):=fun j i=>by obtain⟨Q,e,hc⟩:=cell j i;cases e;exact hc
 refine CZ (fun w2=>Grow w w2) (Mod.drew _ _) ?_;have hc:∀j,j<b.length->∀w2,Grow w w2->w2.cell? (p.add (j*1))=some (.int .u8 (b.getD j 0)):=fun j i w2 g=>g.cell (o j i) fun h=>h;have u:∀j,j<8->Ha (Vg (b.getD j 0) j):=fun j i=>UW i (hb.getD j).1 (hb.getD j).2;refine Ab (j:=0) (by omega) (Au (hc 0 (by omega)) ⟨.int .u64 (IntKind.u64.wrap (b.getD 0 0)),fun w _=>Eb (k:=.u64) w (by kernel_rfl) (by kernel_rfl),?_⟩);rw[Fl (Mc (hb.getD 0))];have x:=Mc (hb.getD 0);refine ET (j:=1) (by omega) rfl (by decide) (hb.getD 1) (hc 1 (by omega)) ⟨_,fun w _=>DR w x (u 1 (by decide)),?_⟩;have y:=Dy x (u 1 (by decide));refine ET (j:=2) (by omega) rfl (by decide) (hb.getD 2) (hc 2 (by omega)) ⟨_,fun w _=>DR w y (u 2 (by decide)),?_⟩;have B:=Dy y (u 2 (by decide));refine ET (j:=3) (by omega) rfl (by decide) (hb.getD 3) (hc 3 (by omega)) ⟨_,fun w _=>DR w B (u 3 (by decide)),?_⟩;have E:=Dy B (u 3 (by decide));refine ET (j:=4) (by omega) rfl (by decide) (hb.getD 4) (hc 4 (by omega)) ⟨_,fun w _=>DR w E (u 4 (by decide)),?_⟩;have I:=Dy E (u 4 (by decide));refine ET (j:=5) (by omega) rfl (by decide) (hb.getD 5) (hc 5 (by omega)) ⟨_,fun w _=>DR w I (u 5 (by decide)),?_⟩;have J:=Dy I (u 5 (by decide));refine ET (j:=6) (by omega) rfl (by decide) (hb.getD 6) (hc 6 (by omega)) ⟨_,fun w _=>DR w J (u 6 (by decide)),?_⟩;have O:=Dy J (u 6 (by decide));refine ET (j:=7) (by omega) rfl (by decide) (hb.getD 7) (hc 7 (by omega)) ⟨_,fun w _=>DR w O (u 7 (by decide)),?_⟩;exact fun w2 g=>⟨rfl,g⟩
theorem Dp{b:List Int}(hb:Bl b)(h:((GP b).toNat &&& 9259542123273814144:Nat)=0){j:Nat}(i:j<8):b.getD j 0<128:=by
 have:=Tp h i;have o:¬128<=b.getD j 0:=fun o=>this (Uf hb i o);omega
def firstT(x:Int):Int:=if x<194 then 241 else if x<224 then 2 else if x=224 then 19 else if x=237 then 35 else if x<240 then 3 else if x=240 then 52 else if x<244 then 4 else if x=244 then 68 else 241
def accLo(j:Nat):Int:=if j=1 then 160 else if j=3 then 144 else if j<5 then 128 else 0
def accHi(j:Nat):Int:=if j=2 then 159 else if j=4 then 143 else if j<5 then 191 else 0
structure EV (w:World):Prop where
 size:2<w.heap.size
 first:∀j:Nat,128<=j->j<256->w.cell? ⟨1,j,none⟩=some (.int .u8 (firstT j))
 acc:∀j:Nat,j<16->w.cell? ⟨2,j*2,none⟩=some (.int .u8 (accLo j))/\w.cell? ⟨2,j*2+1,none⟩=some (.int .u8 (accHi j))
theorem EV.grow{w w':World}(h:EV w)(g:Grow w w'):EV w':=
 ⟨Nat.lt_of_lt_of_le h.size g.size,fun j h1 o=>g.cell (h.first j h1 o) fun h=>h,fun j i=>⟨g.cell (h.acc j i).1 fun h=>h,g.cell (h.acc j i).2 fun h=>h⟩⟩
theorem aI{x:Int}(h0:128<=x)(h1:x<256):∃(f:Int) (z j:Nat),firstT x=f/\0<=f/\f<256/\(f.toNat &&& 7)=z/\f/16=j/\j<16/\(z=CF x\/CF x=0/\z=1)/\(CF x≠0->accLo j=IQ x/\accHi j=Hz x):=by
 unfold firstT CF IQ Hz;by_cases i:x<194
 .exact⟨241,1,15,by rw[if_pos i],by decide,by decide,by decide,by decide,by decide,by rw[if_pos i];exact .inr ⟨rfl,rfl⟩,by rw[if_pos i];exact fun h=>absurd rfl h⟩
 rw[if_neg i,if_neg i];by_cases o:x<224
 .rw[if_pos o,if_pos o];exact⟨2,2,0,rfl,by decide,by decide,by decide,by decide,by decide,.inl rfl,fun _=>⟨by rw[if_neg (by omega),if_neg (by omega)];rfl,by rw[if_neg (by omega),if_neg (by omega)];rfl⟩⟩
 rw[if_neg o,if_neg o];by_cases a3:x=224
 .subst a3;exact⟨19,3,1,rfl,by decide,by decide,by decide,by decide,by decide,.inl rfl,fun _=>⟨rfl,rfl⟩⟩
 rw[if_neg a3,if_neg a3];by_cases a4:x=237
 .subst a4;exact⟨35,3,2,rfl,by decide,by decide,by decide,by decide,by decide,.inl rfl,fun _=>⟨rfl,rfl⟩⟩
 rw[if_neg a4,if_neg a4];by_cases a5:x<240
 .rw[if_pos a5,if_pos a5];exact⟨3,3,0,rfl,by decide,by decide,by decide,by decide,by decide,.inl rfl,fun _=>⟨by rw[if_neg (by omega)];rfl,by rw[if_neg (by omega)];rfl⟩⟩
 rw[if_neg a5,if_neg a5];by_cases y:x=240
 .subst y;exact⟨52,4,3,rfl,by decide,by decide,by decide,by decide,by decide,.inl rfl,fun _=>⟨rfl,rfl⟩⟩
 rw[if_neg y,if_neg y];by_cases B:x<244
 .rw[if_pos B,if_pos (by omega)];exact⟨4,4,0,rfl,by decide,by decide,by decide,by decide,by decide,.inl rfl,fun _=>⟨rfl,by rw[if_neg (by omega)];rfl⟩⟩
 rw[if_neg B];by_cases E:x=244
 .subst E;exact⟨68,4,4,rfl,by decide,by decide,by decide,by decide,by decide,.inl rfl,fun _=>⟨rfl,rfl⟩⟩
 rw[if_neg E,if_neg (by omega)];exact⟨241,1,15,rfl,by decide,by decide,by decide,by decide,by decide,.inr ⟨rfl,rfl⟩,fun h=>absurd rfl h⟩
theorem Oj(x:Int):CF x=0\/CF x=2\/CF x=3\/CF x=4:=by
 unfold CF
 (repeat' split)<;>simp
theorem U0{t:TypeId}{xo yo:Operand}{a:Int}{z:Nat}(w:World)(h0:0<=a)(h1:a<256)(i:(a.toNat &&& 7)=z):(BY .and t xo yo (.int .u8 a) (.int .u8 7)).run prog w=.ok (.int .u8 z) w:=by
 rw[(I9 w).2];have e:((BitVec.ofInt IntKind.u8.bits a &&& BitVec.ofInt IntKind.u8.bits 7).toNat:Int)=((a.toNat &&& 7:Nat):Int):=by
  show((BitVec.ofInt 8 a &&& BitVec.ofInt 8 7).toNat:Int)=_;rw[BitVec.toNat_and,BitVec.toNat_ofInt,BitVec.toNat_ofInt];have e:((2 ^ 8:Nat):Int)=256:=by decide
  rw[e,Int.emod_eq_of_lt h0 h1];rfl
 have j:z<=7:=i▸Nat.and_le_right;rw[e,i];congr 2
 have o:(2:Int) ^ IntKind.u8.bits=256:=by decide
 simp only[IntKind.wrap,o,IntKind.signed,Bool.false_and];rw[if_neg (by decide)];omega
def QR(v:Value):Nat:=match v with|.slice _ n _=>n|_=>0
theorem J3{l:List Int}{k:Nat}(hl:Bl l)(hk:k<=l.length)(h:∀j,j<k->l.getD j 0<128):(Bj l).isSome=(Bj (l.drop k)).isSome:=by
 refine Pu hk fun j x o i=>?_;have:=h j o;rw[List.getD_eq_getElem?_getD,i] at this;exact⟨(hl x (List.mem_iff_getElem?.2 ⟨j,i⟩)).1,this⟩
theorem Hd(l:List Int)(k j:Nat):(l.drop k).getD j 0=l.getD (k+j) 0:=by
 rw[List.getD_eq_getElem?_getD,List.getD_eq_getElem?_getD,List.getElem?_drop]
theorem Fa{a b c:Nat}(h:((a ||| b) &&& c)=0):(a &&& c)=0/\(b &&& c)=0:=by
 rw[Nat.and_or_distrib_right] at h;exact Nat.or_eq_zero_iff.1 h
theorem NL{n:Nat}(h:((n &&& (9259542123273814144:Int).toNat:Nat):Int)=0):(n &&& 9259542123273814144)=0:=Int.ofNat_inj.1 h
set_option maxRecDepth 10000 in
theorem T6{S:Nat->Prop}{v:Value}{b:List Int}{w:World}(h:Ci S w v b)(hb:Bl b)(hT:EV w) :
  AB prog 297 [v] (fun v' w'=>v'=.bool (Bj b).isSome/\Grow w w') w:=by
 apply YJ;have hu:prog.underlying 293=some (.slice 5):=by kernel_rfl
 have hi:prog.info? 5=some Tryz.t5:=by kernel_rfl
 have hs:Tryz.t5.size=1:=by kernel_rfl
 obtain⟨a,c,rfl,hm⟩:=h.shape;obtain⟨_,_,e0,e6,_,_⟩:=id h;cases e0;rw[AT,AT];obtain⟨a',e7,e8⟩:=LX (a:=a) (n:=b.length) (c:=c) hu hi hs e6 w;refine Ai e7 ?_;have h':Ci S w (.slice a' b.length b.length) b:=by
  obtain⟨_,_,e0,h1,h2,h3⟩:=h;cases e0;refine⟨_,_,rfl,Nat.le_refl _,hm,fun i x hx=>?_⟩;obtain⟨p,r,rfl,q⟩:=h3 i x hx;have:=(List.getElem?_eq_some_iff.1 hx).1;exact⟨p,r,e8 (by omega),q⟩
 refine Af (fun vs W=>∃l v1,vs=[v1]/\Ci S W v1 l/\Bl l/\(Bj b).isSome=(Bj l).isSome/\Grow w W) (fun vs _=>QR (nth vs 0)) ⟨b,_,rfl,h',hb,rfl,Mod.refl _ _⟩ ?_;rintro vs W ⟨l,v1,rfl,hl,hB,b3,gW⟩ _;rw[CM,List.headD_cons];obtain⟨p1,c1,rfl,e9⟩:=hl.shape;simp only[maxLen] at e9;rw[AT,BL];refine AE (fun bl=>?_) fun en=>?_;rotate_left
 .have:l=[]:=List.eq_nil_of_length_eq_zero (by omega);subst this;exact⟨by rw[b3,ME];rfl,gW⟩
 have E:∀{W':World} {v':Value} {Q:List Int},Ci S W' v' Q->Bl Q->(Bj l).isSome=(Bj Q).isSome->Q.length<l.length->Grow w W'->
   ((∃l v1,[v']=[v1]/\Ci S W' v1 l/\Bl l/\(Bj b).isSome=(Bj l).isSome/\Grow w W')/\QR (nth [v'] 0)<QR (nth [Value.slice p1 l.length c1] 0)):=by
  intro W' v' Q h1 h2 h3 h4 h5;obtain⟨q,d,rfl,_⟩:=h1.shape;exact⟨⟨Q,_,rfl,h1,h2,b3.trans h3,h5⟩,h4⟩
 have sl:∀{W':World} {q:Option Addr} {n d j:Nat} {Q:List Int} {K:Cont},Ci S W' (.slice q n d) Q->j<=Q.length->(∀v',Ci S W' v' (Q.drop j)->K v' W')->runK prog (Instr.sliceAt 293 (.slice q n d) (some (.int .i64 j)) none none) K W':=
  fun h1 h2 h3=>IW (e:=5) (i:=Tryz.t5) hu hi hs h1 h2 h3
 have ge:∀{W1 U:World} {v':Value} {Q:List Int},Ci S W1 v' Q->Grow W1 U->Ci S U v' Q:=fun h1 g=>h1.grow g (by decide) fun _ _ h=>h;have wq:∀{W1:World} {v':Value} {Q:List Int} {K:Value->Prop},Ci S W1 v' Q->Bl Q->8<=Q.length->K (.int .u64 (GP Q))->En prog (fun U=>Grow W1 U) 300 [v'] K:=by
  intro W1 v' Q K h1 h2 h3 h4;refine⟨_,fun w2 g=>AA (QU (ge h1 g) h2 h3) ?_,h4⟩;rintro _ w3 ⟨rfl,g3⟩;exact⟨rfl,g.trans g3⟩
 obtain⟨x,t,rfl⟩:∃x t,l=x::t:=by cases l with|nil=>simp at bl|cons x t=>exact⟨x,t,rfl⟩
 have hx:=hB x List.mem_cons_self;have I:Bl t:=fun y hy=>hB y (List.mem_cons_of_mem _ hy);obtain⟨p,r,rfl,_,hr,hc,rfl⟩:=hl.get (i:=0) (by simp);have cx:W.cell? (p.add (0*1+0))=some (.int .u8 x):=hc 0 _ rfl;refine Ab (j:=0) (by simp) (AL cx ?_);show Be .u8 (.int .u8 x) _ _;refine Hq (fun ea=>?_) fun er=>?_
 .have bp:(Bj (x::t)).isSome=(Bj t).isSome:=by
   have:=J3 (l:=x::t) (k:=1) hB (by simp) fun j hj=>by
    have:j=0:=by omega
    subst this;exact ea
   simpa using this
  refine sl hl (j:=1) (by simp) fun v2 a7=>?_;rw[List.drop_succ_cons,List.drop_zero] at a7;obtain⟨q2,d2,rfl,_⟩:=a7.shape;refine AU (fun vs U=>Grow W U/\∃q:Bool,vs=[.bool q]/\(q=true->8<=t.length/\∀j,j<8->t.getD j 0<128)) ?_ ?_
  .rintro vs U ⟨g2,q,rfl,hq⟩ _;rw[CM,List.headD_cons];cases q with
   |false=>exact AS (E (ge a7 g2) I bp (by simp) (gW.trans g2))
   |true=>
    obtain⟨h8,ec⟩:=hq rfl;refine Ao (sl (ge a7 g2) (j:=8) h8 fun v3 J=>?_);have O:Bl (t.drop 8):=Bl.drop I 8;have b2:(Bj (x::t)).isSome=(Bj (t.drop 8)).isSome:=bp.trans (J3 I h8 ec);have bs:(t.drop 8).length<(x::t).length:=by simp;omega
    generalize t.drop 8=l3 at J O b2 bs;obtain⟨q3,d3,rfl,_⟩:=J.shape;refine AU (fun vs W3=>Grow W W3/\Grow U W3/\∃q:Bool,vs=[.bool q]/\(q=true->16<=l3.length/\∀j,j<16->l3.getD j 0<128)) ?_ ?_
    .rintro vs W3 ⟨g3,bx,q,rfl,hq⟩ _;rw[CM,List.headD_cons];cases q with
     |false=>exact AS (E (ge J bx) O b2 bs (gW.trans g3))
     |true=>
      obtain⟨b4,c4⟩:=hq rfl;refine Ao (sl (ge J bx) (j:=16) b4 fun v4 ed=>?_);refine Af (fun vs W4=>∃l4 v5,vs=[v5]/\Ci S W4 v5 l4/\Bl l4/\(Bj (x::t)).isSome=(Bj l4).isSome/\l4.length<(x::t).length/\Grow W W4) (fun vs _=>QR (nth vs 0))
       ⟨_,_,rfl,ed,Bl.drop O 16,b2.trans (J3 O b4 c4),by simp only[List.length_drop];omega,g3⟩ ?_
      rintro vs W4 ⟨l4,v5,rfl,a6,B,b5,c6,g4⟩ _;rw[CM,List.headD_cons];obtain⟨q5,d5,rfl,_⟩:=a6.shape;refine CZ (fun W'=>Grow W4 W') (Mod.drew _ _) ?_;rw[AT,BL];refine AE (fun et=>?_) fun _=>fun W' g'=>E (ge a6 g') B b5 c6 (gW.trans (g4.trans g'));have eo:32<l4.length:=by omega
      have b7:=fun(j:Nat) (hj:j<=l4.length) (w':World)=>EP (a:=q5) (n:=l4.length) (c:=d5) hu hi hs hj w';have b8:=fun(j:Nat) (hj:j<=l4.length)=>Ji a6 hj;refine wq a6 B (by omega) ?_;refine⟨_,fun w' _=>b7 8 (by omega) w',?_⟩;refine wq (b8 8 (by omega)) (Bl.drop B 8) (by simp only[List.length_drop];omega) ?_;have u0:=Gb B;have u1:=Gb (Bl.drop B 8);have u2:=Gb (Bl.drop B 16);have u3:=Gb (Bl.drop B 24);refine⟨_,fun w' _=>DR w' u0 u1,?_⟩;refine⟨_,fun w' _=>b7 16 (by omega) w',?_⟩;refine wq (b8 16 (by omega)) (Bl.drop B 16) (by simp only[List.length_drop];omega) ?_;refine⟨_,fun w' _=>b7 24 (by omega) w',?_⟩;refine wq (b8 24 (by omega)) (Bl.drop B 24) (by simp only[List.length_drop];omega) ?_;refine⟨_,fun w' _=>DR w' u2 u3,?_⟩;refine⟨_,fun w' _=>DR w' (Dy u0 u1) (Dy u2 u3),?_⟩;refine⟨_,fun w' _=>Je w' (Dy (Dy u0 u1) (Dy u2 u3)) (by unfold Ha;decide),?_⟩;show DT .u64 (.int .u64 _) _ _;rw[Am];intro W' g';refine AE (fun hz=>?_) fun _=>E (ge a6 g') B b5 c6 (gW.trans (g4.trans g'));have a8:((K4 (K4 (GP l4) (GP (l4.drop 8))) (K4 (GP (l4.drop 16)) (GP (l4.drop 24)))).toNat &&& 9259542123273814144:Nat)=0:=NL hz;simp only[K4,Int.toNat_natCast] at a8;obtain⟨z1,z2⟩:=Fa a8;obtain⟨z3,z4⟩:=Fa z1;obtain⟨z5,z6⟩:=Fa z2;have ee:∀j,j<32->l4.getD j 0<128:=by
       intro j hj;rcases(show j<8\/8<=j/\j<16\/16<=j/\j<24\/24<=j by omega) with h|h|h|h
       .exact Dp B z3 h
       .have:=Dp (Bl.drop B 8) z4 (j:=j-8) (by omega);rw[Hd,show 8+(j-8)=j by omega] at this;exact this
       .have:=Dp (Bl.drop B 16) z5 (j:=j-16) (by omega);rw[Hd,show 16+(j-16)=j by omega] at this;exact this
       .have:=Dp (Bl.drop B 24) z6 (j:=j-24) (by omega);rw[Hd,show 24+(j-24)=j by omega] at this;exact this
      refine sl (ge a6 g') (j:=32) (by omega) fun v6 c7=>?_;obtain⟨q6,d6,rfl,_⟩:=c7.shape;refine⟨⟨_,_,rfl,c7,Bl.drop B 32,b5.trans (J3 B (by omega) ee),by simp only[List.length_drop];omega,g4.trans g'⟩,?_⟩;show(l4.drop 32).length<l4.length;rw[List.length_drop];omega
    .refine CZ (fun W'=>Grow U W') (Mod.drew _ _) ?_;rw[AT,BL];refine AE (fun b4=>?_) fun _=>fun W' g'=>⟨g2.trans g',g',false,rfl,fun h=>(nomatch h)⟩;have ep:16<l3.length:=by omega
     refine wq J O (by omega) ?_;refine⟨_,fun w' _=>EP (a:=q3) (n:=l3.length) (c:=d3) hu hi hs (j:=8) (by omega) w',?_⟩;refine wq (Ji J (by omega)) (Bl.drop O 8) (by simp only[List.length_drop];omega) ?_;have u0:=Gb O;have u1:=Gb (Bl.drop O 8);refine⟨_,fun w' _=>DR w' u0 u1,?_⟩;refine⟨_,fun w' _=>Je w' (Dy u0 u1) (by unfold Ha;decide),?_⟩;show DT .u64 (.int .u64 _) _ _;rw[Am];intro W' g';refine⟨g2.trans g',g',_,rfl,fun hz=>?_⟩;rw[decide_eq_true_eq] at hz;have a8:((K4 (GP l3) (GP (l3.drop 8))).toNat &&& 9259542123273814144:Nat)=0:=NL hz;simp only[K4,Int.toNat_natCast] at a8;obtain⟨z1,z2⟩:=Fa a8;refine⟨by omega,fun j hj=>?_⟩;rcases(show j<8\/8<=j by omega) with h|h
     .exact Dp O z1 h
     .have:=Dp (Bl.drop O 8) z2 (j:=j-8) (by omega);rw[Hd,show 8+(j-8)=j by omega] at this;exact this
  .rw[AT,BL];refine AE (fun h8=>?_) fun _=>⟨Mod.refl _ _,false,rfl,fun h=>(nomatch h)⟩;have eu:8<t.length:=by omega
   refine AA (QU a7 I (by omega)) ?_;rintro _ U ⟨rfl,g2⟩;refine Ai (Je U (Gb I) (by unfold Ha;decide)) ?_;rw[Am];refine⟨g2,_,rfl,fun hz=>?_⟩;rw[decide_eq_true_eq] at hz;exact⟨by omega,fun j hj=>Dp I (NL hz) hj⟩
 .have bad:CW (x::t)=(0,0)->∀{W'},Grow w W'->Value.bool false=.bool (Bj b).isSome/\Grow w W':=fun e W' g=>⟨by rw[b3,H8 (by simp),e];rfl,g⟩;have FM:∀{n:Nat} {r:Int},CW (x::t)=(r,n)->0<n->(Bj (x::t)).isSome=(Bj ((x::t).drop n)).isSome:=by
   intro n r e V;rw[H8 (by simp),e];show(decide (n≠0)&&_)=_;rw[decide_eq_true (show n≠0 by omega),Bool.true_and]
  obtain⟨f,z,j,hf,ef,eg,hz,hj,c8,ew,ak⟩:=aI (x:=x) (by omega) hx.2;have c9:=hT.grow gW;have cf:W.cell? (Addr.add ⟨1,0,none⟩ (x.toNat*1))=some (.int .u8 f):=by
   rw[AI,Nat.mul_one,<-hf];have:=c9.first x.toNat (by omega) (by omega);rwa [show((x.toNat:Nat):Int)=x by omega] at this
  refine Ai (G0 (n:=256) (e:=5) (i:=Tryz.t5) (s:=1) (by kernel_rfl) (by kernel_rfl) (by kernel_rfl) hx.1 (by omega)) (AL cf ?_);refine Ai (U0 W ef eg hz) ?_;refine Ai (Eb (k:=.i64) W (by kernel_rfl) (by kernel_rfl)) ?_;have ey:z<=7:=hz▸Nat.and_le_right;rw[wrap64 (by omega) (by omega)];refine Ai (Md (n:=4) W (by decide)) ?_;have ej:f.fdiv (2 ^ 4)=(j:Int):=by
   rw[Int.fdiv_eq_ediv_of_nonneg _ (by decide),<-hj];rfl
  rw[ej];refine Ai (G0 (n:=16) (e:=383) (i:=Tryz.t383) (s:=2) (by kernel_rfl) (by kernel_rfl) (by kernel_rfl) (by omega) (by omega)) ?_;rw[Int.toNat_natCast,AI];obtain⟨ca,cb⟩:=c9.acc j c8;refine Ah (vs:=[.int .u8 (accLo j),.int .u8 (accHi j)]) rfl (fun q u hu=>?_) ?_
  .rcases q with _|_|q
   .cases hu;exact ca
   .cases hu;exact cb
   .simp at hu
  refine BO (vs:=[.int .u8 (accLo j),.int .u8 (accHi j)]) rfl rfl (fun u hu=>by simp at hu;rcases hu with rfl|rfl<;>rfl) fun b6 U cc ez g6 cd _=>?_;have b9:=cd 0 _ rfl;have ba:=cd 1 _ rfl;have o:=gW.trans g6;have T:=ge hl g6;have e5:0<(x::t).length:=by simp
  rw[Am];refine AE (fun h2=>?_) fun h2=>?_
  .have eA:z=2:=by omega
   have X:CF x=2:=by omega
   obtain⟨ch,cn⟩:=ak (by omega);refine AU (fun _ W3=>Grow U W3/\2<=(x::t).length/\(Bj (x::t)).isSome=(Bj ((x::t).drop 2)).isSome) ?_ ?_
   .rintro vs W3 ⟨g3,al,an⟩ _;refine sl (ge T g3) (j:=2) al fun v3 J=>?_;exact E J (Bl.drop hB 2) an (by rw[List.length_drop];omega) (o.trans g3)
   refine CZ (fun W'=>Grow U W') (Mod.drew _ _) ?_;rw[AT,Av];refine AE (fun cv=>fun W' g'=>bad (Ct hx.2 (by rw[X];omega)) (o.trans g')) fun Y=>?_;obtain⟨y1,t1,rfl⟩:∃y t',t=y::t':=by cases t with|nil=>simp at Y|cons y t'=>exact⟨y,t',rfl⟩
   have Z:=I y1 List.mem_cons_self;have V:=Vc (t:=t1) X Z.1 Z.2;obtain⟨_,r1,e1,_,dk,av,rfl⟩:=T.get (i:=1) (by simp);cases e1;have a1:=av 0 _ rfl;refine Ab (j:=1) (by simp) (Au (fun w' g=>g.cell a1 fun h=>h) ?_);rw[AG];refine Au (fun w' g=>g.cell b9 fun h=>h) ?_;show Be .u8 (.int .u8 y1) _ _;rw[Av];refine AE (fun ax=>fun W' g'=>bad (by rw[V,if_neg (by omega)]) (o.trans g')) fun ax=>?_;rw[AG];refine Au (fun w' g=>g.cell ba fun h=>h) ?_;refine Ab (j:=1) (by simp) (Au (fun w' g=>g.cell a1 fun h=>h) ?_);show Be .u8 _ (.int .u8 y1) _;rw[Av];intro W' g';refine AE (fun ay=>bad (by rw[V,if_neg (by omega)]) (o.trans g')) fun ay=>?_;exact⟨g',by simp,FM (by rw[V,if_pos (by omega)]) (by decide)⟩
  rw[Am];refine AE (fun h3=>?_) fun h3=>?_
  .have eB:z=3:=by omega
   have X:CF x=3:=by omega
   obtain⟨ch,cn⟩:=ak (by omega);refine AU (fun _ W3=>Grow U W3/\3<=(x::t).length/\(Bj (x::t)).isSome=(Bj ((x::t).drop 3)).isSome) ?_ ?_
   .rintro vs W3 ⟨g3,al,an⟩ _;refine sl (ge T g3) (j:=3) al fun v3 J=>?_;exact E J (Bl.drop hB 3) an (by rw[List.length_drop];omega) (o.trans g3)
   refine CZ (fun W'=>Grow U W') (Mod.drew _ _) ?_;rw[AT,Av];refine AE (fun cv=>fun W' g'=>bad (Ct hx.2 (by rw[X];omega)) (o.trans g')) fun Y=>?_;obtain⟨y1,y2,t1,rfl⟩:∃y y2 t',t=y::y2::t':=by
    rcases t with _|⟨y,_|⟨y2,t'⟩⟩
    .simp at Y
    .simp at Y
    .exact⟨y,y2,t',rfl⟩
   have Z:=I y1 List.mem_cons_self;have b0:=I y2 (List.mem_cons_of_mem _ List.mem_cons_self);have V:=VC (t:=t1) X Z.1 Z.2 b0.1 b0.2;obtain⟨_,r1,e1,_,dk,av,rfl⟩:=T.get (i:=1) (by simp);cases e1;have a1:=av 0 _ rfl;obtain⟨_,r2,e2,_,eh,bc,rfl⟩:=T.get (i:=2) (by simp);cases e2;have b1:=bc 0 _ rfl;refine Ab (j:=1) (by simp) (Au (fun w' g=>g.cell a1 fun h=>h) ?_);rw[AG];refine Au (fun w' g=>g.cell b9 fun h=>h) ?_;show Be .u8 (.int .u8 y1) _ _;rw[Av];refine AE (fun ax=>fun W' g'=>bad (by rw[V,if_neg (by omega)]) (o.trans g')) fun ax=>?_;rw[AG];refine Au (fun w' g=>g.cell ba fun h=>h) ?_;refine Ab (j:=1) (by simp) (Au (fun w' g=>g.cell a1 fun h=>h) ?_);show Be .u8 _ (.int .u8 y1) _;rw[Av];refine AE (fun ay=>fun W' g'=>bad (by rw[V,if_neg (by omega)]) (o.trans g')) fun ay=>?_;refine Ab (j:=2) (by simp) (Au (fun w' g=>g.cell b1 fun h=>h) ?_);show Be .u8 (.int .u8 y2) _ _;rw[Av];refine AE (fun bd=>fun W' g'=>bad (by rw[V,if_neg (by omega)]) (o.trans g')) fun bd=>?_;refine Ab (j:=2) (by simp) (Au (fun w' g=>g.cell b1 fun h=>h) ?_);show Be .u8 _ (.int .u8 y2) _;rw[Av];intro W' g';refine AE (fun bk=>bad (by rw[V,if_neg (by omega)]) (o.trans g')) fun bk=>?_;exact⟨g',by simp,FM (by rw[V,if_pos (by omega)]) (by decide)⟩
  rw[Am];refine AE (fun h4=>?_) fun h4=>?_
  .have eC:z=4:=by omega
   have X:CF x=4:=by omega
   obtain⟨ch,cn⟩:=ak (by omega);refine AU (fun _ W3=>Grow U W3/\4<=(x::t).length/\(Bj (x::t)).isSome=(Bj ((x::t).drop 4)).isSome) ?_ ?_
   .rintro vs W3 ⟨g3,al,an⟩ _;refine sl (ge T g3) (j:=4) al fun v3 J=>?_;exact E J (Bl.drop hB 4) an (by rw[List.length_drop];omega) (o.trans g3)
   refine CZ (fun W'=>Grow U W') (Mod.drew _ _) ?_;rw[AT,Av];refine AE (fun cv=>fun W' g'=>bad (Ct hx.2 (by rw[X];omega)) (o.trans g')) fun Y=>?_;obtain⟨y1,y2,y3,t1,rfl⟩:∃y y2 y3 t',t=y::y2::y3::t':=by
    rcases t with _|⟨y,_|⟨y2,_|⟨y3,t'⟩⟩⟩
    .simp at Y
    .simp at Y
    .simp at Y
    .exact⟨y,y2,y3,t',rfl⟩
   have Z:=I y1 List.mem_cons_self;have b0:=I y2 (List.mem_cons_of_mem _ List.mem_cons_self);have dT:=I y3 (List.mem_cons_of_mem _ (List.mem_cons_of_mem _ List.mem_cons_self));have V:=Up (t:=t1) X Z.1 Z.2 b0.1 b0.2 dT.1 dT.2;obtain⟨_,r1,e1,_,dk,av,rfl⟩:=T.get (i:=1) (by simp);cases e1;have a1:=av 0 _ rfl;obtain⟨_,r2,e2,_,eh,bc,rfl⟩:=T.get (i:=2) (by simp);cases e2;have b1:=bc 0 _ rfl;obtain⟨_,r3,e3,_,b2,ei,rfl⟩:=T.get (i:=3) (by simp);cases e3;have e4:=ei 0 _ rfl;refine Ab (j:=1) (by simp) (Au (fun w' g=>g.cell a1 fun h=>h) ?_);rw[AG];refine Au (fun w' g=>g.cell b9 fun h=>h) ?_;show Be .u8 (.int .u8 y1) _ _;rw[Av];refine AE (fun ax=>fun W' g'=>bad (by rw[V,if_neg (by omega)]) (o.trans g')) fun ax=>?_;rw[AG];refine Au (fun w' g=>g.cell ba fun h=>h) ?_;refine Ab (j:=1) (by simp) (Au (fun w' g=>g.cell a1 fun h=>h) ?_);show Be .u8 _ (.int .u8 y1) _;rw[Av];refine AE (fun ay=>fun W' g'=>bad (by rw[V,if_neg (by omega)]) (o.trans g')) fun ay=>?_;refine Ab (j:=2) (by simp) (Au (fun w' g=>g.cell b1 fun h=>h) ?_);show Be .u8 (.int .u8 y2) _ _;rw[Av];refine AE (fun bd=>fun W' g'=>bad (by rw[V,if_neg (by omega)]) (o.trans g')) fun bd=>?_;refine Ab (j:=2) (by simp) (Au (fun w' g=>g.cell b1 fun h=>h) ?_);show Be .u8 _ (.int .u8 y2) _;rw[Av];refine AE (fun bk=>fun W' g'=>bad (by rw[V,if_neg (by omega)]) (o.trans g')) fun bk=>?_;refine Ab (j:=3) (by simp) (Au (fun w' g=>g.cell e4 fun h=>h) ?_);show Be .u8 (.int .u8 y3) _ _;rw[Av];refine AE (fun ek=>fun W' g'=>bad (by rw[V,if_neg (by omega)]) (o.trans g')) fun ek=>?_;refine Ab (j:=3) (by simp) (Au (fun w' g=>g.cell e4 fun h=>h) ?_);show Be .u8 _ (.int .u8 y3) _;rw[Av];intro W' g';refine AE (fun cc=>bad (by rw[V,if_neg (by omega)]) (o.trans g')) fun cc=>?_;exact⟨g',by simp,FM (by rw[V,if_pos (by omega)]) (by decide)⟩
  .exact bad (OK hB (by omega) (by have:=Oj x;omega)) o
def MV:Nat->Nat->List Int
 |0,n=>[(n:Int)]
 |f+1,n=>if n<=127 then[(n:Int)] else((n%128+128:Nat):Int)::MV f (n/128)
def uv(n:Nat):List Int:=MV 9 n
def Gr(n:Int):Nat:=if 0<=n then(2*n).toNat else(-2*n-1).toNat
theorem Oq{a b:Int}(h:Gr a=Gr b):a=b:=by
 unfold Gr at h;split at h<;>split at h<;>omega
theorem Gh{n:Int}(h0:-9223372036854775808<=n)(h1:n<=9223372036854775807):Gr n<18446744073709551616:=by
 unfold Gr;split<;>omega
theorem Vx:∀{f n m:Nat} {x y:List Int},n<128 ^ (f+1)->m<128 ^ (f+1)->MV f n++x=MV f m++y->n=m/\x=y:=by
 intro f;induction f with
 |zero=>
  intro n m x y _ _ h;simp only[MV,List.singleton_append,List.cons.injEq] at h;exact⟨by omega,h.2⟩
 |succ f j=>
  intro n m x y o hm h;rw[Nat.pow_succ] at o hm;simp only[MV] at h;by_cases h1:n<=127<;>by_cases i:m<=127
  .rw[if_pos h1,if_pos i] at h;simp only[List.singleton_append,List.cons.injEq] at h;exact⟨by omega,h.2⟩
  .rw[if_pos h1,if_neg i] at h;simp only[List.cons_append,List.cons.injEq] at h;omega
  .rw[if_neg h1,if_pos i] at h;simp only[List.cons_append,List.cons.injEq] at h;omega
  .rw[if_neg h1,if_neg i] at h;simp only[List.cons_append,List.cons.injEq] at h;have:=j (Nat.div_lt_of_lt_mul (by omega)) (Nat.div_lt_of_lt_mul (by omega)) h.2;exact⟨by omega,this.2⟩
theorem LN{n m:Nat}{x y:List Int}(i:n<18446744073709551616)(hm:m<18446744073709551616)(h:uv n++x=uv m++y):n=m/\x=y:=by
 have e:(18446744073709551616:Nat)<=128 ^ (9+1):=by decide
 exact Vx (by omega) (by omega) h
theorem FV:∀(f n:Nat),1<=(MV f n).length/\(MV f n).length<=f+1:=by
 intro f;induction f with
 |zero=>intro n;simp[MV]
 |succ f i=>
  intro n;simp only[MV];split
  .simp
  .have:=i (n/128);simp only[List.length_cons];omega
theorem Uq:∀(f n:Nat),n<128 ^ (f+1)->∀x∈MV f n,0<=x/\x<256:=by
 intro f;induction f with
 |zero=>intro n j x i;simp only[MV,List.mem_singleton] at i;subst i;simp at j;omega
 |succ f o=>
  intro n j x i;rw[Nat.pow_succ] at j;simp only[MV] at i;split at i
  .simp only[List.mem_singleton] at i;omega
  .rcases List.mem_cons.1 i with rfl|i
   .omega
   .exact o _ (Nat.div_lt_of_lt_mul (by omega)) x i
theorem I6{n:Nat}(i:n<18446744073709551616):∀x∈uv n,0<=x/\x<256:=by
 have e:(18446744073709551616:Nat)<=128 ^ (9+1):=by decide
 exact Uq 9 n (by omega)
def LV(a:Attr):Prop:=(-9223372036854775808<=a.key/\a.key<=9223372036854775807)/\(0<=a.val.kind/\a.val.kind<256)/\(-9223372036854775808<=a.val.n/\a.val.n<=9223372036854775807)/\(0<=a.val.f/\a.val.f<18446744073709551616)/\a.val.s.size<18446744073709551616
def JY(a:Attr):List Int:=uv (Gr a.key)++(uv a.val.kind.toNat++(uv (Gr a.val.n)++(uv a.val.f.toNat++(uv a.val.s.size++Bk a.val.s))))
def FC(l:List Attr):List Int:=l.flatMap JY
theorem Pe{s t:ByteArray}(h:Bk s=Bk t):s=t:=by
 unfold Bk at h;have i:=(List.map_inj_right (f:=fun b:UInt8=>(b.toNat:Int)) (fun a b e=>UInt8.toNat_inj.1 (Int.ofNat_inj.1 e))).1 h;cases s;cases t;simp only[ByteArray.mk.injEq];exact Array.toList_inj.1 i
theorem Cq(s:ByteArray):(Bk s).length=s.size:=by simp[Bk]
theorem Uu{a b:Attr}(ha:LV a)(hb:LV b){x y:List Int}(h:JY a++x=JY b++y):a=b/\x=y:=by
 obtain⟨i,U,a3,a4,a5⟩:=ha;obtain⟨j,V,o,X,B⟩:=hb;unfold JY at h;simp only[List.append_assoc] at h;obtain⟨E,h⟩:=LN (Gh i.1 i.2) (Gh j.1 j.2) h;obtain⟨Y,h⟩:=LN (by omega) (by omega) h;obtain⟨I,h⟩:=LN (Gh a3.1 a3.2) (Gh o.1 o.2) h;obtain⟨Z,h⟩:=LN (by omega) (by omega) h;obtain⟨J,h⟩:=LN a5 B h;obtain⟨O,h⟩:=List.append_inj h (by rw[Cq,Cq,J]);refine⟨?_,h⟩;obtain⟨ak,Q⟩:=a;obtain⟨bk,bv⟩:=b;obtain⟨v1,v2,v3,v4⟩:=Q;obtain⟨S,u2,T,u4⟩:=bv;simp only at *;have:=Oq E;have:=Oq I;have:=Pe O;have:v1=S:=by omega
 have:v3=T:=by omega
 subst_vars
 rfl
theorem Tn:∀{l m:List Attr},(∀a∈l,LV a)->(∀a∈m,LV a)->FC l=FC m->l=m:=by
 have ne:∀a x,JY a++x≠[]:=fun a x e=>by
  have:=FV 9 (Gr a.key);have h:=congrArg List.length e;simp only[JY,List.length_append,List.length_nil,uv] at h;omega
 intro l;induction l with
 |nil=>
  intro m _ hm h;cases m with
  |nil=>rfl
  |cons b m=>exact absurd h.symm (by simpa[FC] using ne b (FC m))
 |cons a l j=>
  intro m hl hm h;cases m with
  |nil=>exact absurd h (by simpa[FC] using ne a (FC l))
  |cons b m=>
   simp only[FC,List.flatMap_cons] at h;obtain⟨rfl,o⟩:=Uu (hl a List.mem_cons_self) (hm b List.mem_cons_self) h;rw[j (fun x i=>hl x (List.mem_cons_of_mem _ i)) (fun x i=>hm x (List.mem_cons_of_mem _ i)) (show FC l=FC m from o)]
def strOf(l:List Int):ByteArray:=⟨(l.map fun x=>UInt8.ofNat x.toNat).toArray⟩
theorem Ge{l:List Int}(h:∀x∈l,0<=x/\x<256):Bk (strOf l)=l:=by
 unfold Bk strOf;simp only[List.map_map];conv=>rhs;rw[<-List.map_id l]
 refine List.map_congr_left fun x i=>?_;have:=h x i;simp only[Function.comp,UInt8.toNat_ofNat',id];omega
theorem SU{a:Attr}(h:LV a):∀x∈JY a,0<=x/\x<256:=by
 obtain⟨j,o,a3,a4,a5⟩:=h;intro x i;simp only[JY,List.mem_append] at i;rcases i with i|i|i|i|i|i
 .exact I6 (Gh j.1 j.2) x i
 .exact I6 (by omega) x i
 .exact I6 (Gh a3.1 a3.2) x i
 .exact I6 (by omega) x i
 .exact I6 a5 x i
 .simp only[Bk,List.mem_map] at i;obtain⟨b,_,rfl⟩:=i;have:=b.toNat_lt;omega
theorem JN{l:List Attr}(h:∀a∈l,LV a):∀x∈FC l,0<=x/\x<256:=by
 intro x i;simp only[FC,List.mem_flatMap] at i;obtain⟨a,ha,i⟩:=i;exact SU (h a ha) x i
def EJ(l:List Attr):ByteArray:=strOf (FC l)
theorem IF{l m:List Attr}(hl:∀a∈l,LV a)(hm:∀a∈m,LV a)(h:EJ l=EJ m):l=m:=by
 refine Tn hl hm ?_;rw[<-Ge (JN hl),<-Ge (JN hm)];exact congrArg Bk h
def Dz(t:Tab (List Attr))(f:Value->Option Value):Prop:=∀s v,f (.string s)=some v↔∃(i:Nat) (p:Ent (List Attr)),t.places[i]?=some p/\0<p.held/\s=EJ p.set/\v=.int .i64 ((i:Int)+1)
def O2(ks:List Attr->Prop)(s:List Attr):Prop:=s≠[]/\(∀a∈s,LV a)/\ks s
theorem Dz.some{K:List Attr->Prop}{t:Tab (List Attr)}{f:Value->Option Value}(h:Dz t f)(o:t.Inv (O2 K)){s:List Attr}(x:∀a∈s,LV a){v:Value}(y:f (.string (EJ s))=some v):∃i n:Nat,t.places[i]?=.some ⟨s,n⟩/\0<n/\v=.int .i64 ((i:Int)+1):=by
 obtain⟨i,p,h1,j,B,E⟩:=(h _ _).1 y;have:=IF x (o.ok i p h1 j).2.1 B;subst this;exact⟨i,p.held,h1,j,E⟩
theorem Dz.none{t:Tab (List Attr)}{f:Value->Option Value}(h:Dz t f){s:List Attr}(j:f (.string (EJ s))=Option.none):∀(i:Nat) (p:Ent (List Attr)),t.places[i]?=.some p->0<p.held->p.set≠s:=by
 rintro i p h1 o rfl;have:=(h (EJ p.set) _).2 ⟨i,p,h1,o,rfl,rfl⟩;rw[j] at this;cases this
theorem Dz.HK{t:Tab (List Attr)}{f:Value->Option Value}(h:Dz t f){i:Nat}{p:Ent (List Attr)}(hp:t.places[i]?=.some p)(h0:0<p.held){n:Nat}(I:0<n):Dz (t.HK i ⟨p.set,n⟩) f:=by
 intro s v;rw[h s v];have E:=(List.getElem?_eq_some_iff.1 hp).1;constructor
 .rintro⟨j,q,h1,B,x,y⟩;by_cases e:j=i
  .subst e;rw[hp] at h1;cases h1;exact⟨j,⟨p.set,n⟩,by show(t.places.set j _)[j]?=_;rw[List.getElem?_set_self E],I,x,y⟩
  .exact⟨j,q,by show(t.places.set i _)[j]?=_;rw[List.getElem?_set_ne (Ne.symm e)];exact h1,B,x,y⟩
 .rintro⟨j,q,h1,B,x,y⟩;have o:(t.places.set i ⟨p.set,n⟩)[j]?=.some q:=h1;by_cases e:j=i
  .subst e;rw[List.getElem?_set_self E] at o;cases o;exact⟨j,p,hp,h0,x,y⟩
  .rw[List.getElem?_set_ne (Ne.symm e)] at o;exact⟨j,q,o,B,x,y⟩
open Classical in
theorem Dz.put{K:List Attr->Prop}{t:Tab (List Attr)}{f:Value->Option Value}(h:Dz t f)(I:t.Inv (O2 K)){s:List Attr}(J:O2 K s)(O:f (.string (EJ s))=Option.none) :
  Dz (t.put s).2 (fun Q=>if Q=.string (EJ s) then Option.some (.int .i64 (((t.put s).1:Int)+1)) else f Q):=by
 obtain⟨_,h1,U,S,_⟩:=Tab.FH I J (h.none O);intro T v;simp only[Value.string.injEq];constructor
 .intro E;split at E
  .rename_i e;subst e;cases E;exact⟨_,_,h1,Nat.one_pos,rfl,rfl⟩
  .obtain⟨j,p,i,x,o,y⟩:=(h T v).1 E;have B:j≠(t.put s).1:=by
    rintro rfl;have:=U p i;omega
   exact⟨j,p,(S j B).trans i,x,o,y⟩
 .rintro⟨j,p,i,x,o,y⟩;by_cases B:j=(t.put s).1
  .subst B;rw[h1] at i;cases i;rw[if_pos o,y]
  .rw[S j B] at i;rw[if_neg]
   .exact(h T v).2 ⟨j,p,i,x,o,y⟩
   .intro e;rw[e] at o;exact h.none O j p i x (IF (I.ok j p i x).2.1 J.2.1 o.symm)
open Classical in
theorem Dz.drop{K:List Attr->Prop}{t:Tab (List Attr)}{f:Value->Option Value}(h:Dz t f)(O:t.Inv (O2 K)){i:Nat}{p:Ent (List Attr)}(hp:t.places[i]?=.some p)(h0:0<p.held) :
  Dz (t.drop [] i) (fun U=>if U=.string (EJ p.set) then Option.none else f U):=by
 have Q:=(List.getElem?_eq_some_iff.1 hp).1;have y:(t.places.set i ⟨[],0⟩)[i]?=.some ⟨[],0⟩:=List.getElem?_set_self Q;have x:∀j:Nat,j≠i->(t.places.set i (⟨[],0⟩:Ent (List Attr)))[j]?=t.places[j]?:=fun j B=>List.getElem?_set_ne (Ne.symm B);intro V v;simp only[Value.string.injEq];constructor
 .intro S;split at S
  .cases S
  .rename_i e;obtain⟨j,q,J,E,I,T⟩:=(h V v).1 S;have B:j≠i:=by
    rintro rfl;rw[hp] at J;cases J;exact e I
   exact⟨j,q,(x j B).trans J,E,I,T⟩
 .rintro⟨j,q,J,E,I,T⟩;have o:(t.places.set i (⟨[],0⟩:Ent (List Attr)))[j]?=.some q:=J;by_cases B:j=i
  .subst B;rw[y] at o;cases o;exact absurd E (Nat.lt_irrefl _)
  .rw[x j B] at o;rw[if_neg]
   .exact(h V v).2 ⟨j,q,o,E,I,T⟩
   .intro e;rw[e] at I;exact B (O.G2 j i q p o hp E h0 (IF (O.ok j q o E).2.1 (O.ok i p hp h0).2.1 I.symm))
theorem Dz.z:Dz (Tab.z _) (fun _=>Option.none):=fun s v=>by simp[Tab.z]
end Go.Proofs.YtmdhibffnkhcnaaGreatDoor
namespace Go.K
open Go
def Ox(w:World)(r:Nat):Nat:=match w.heap[r]? with|some (.stringIter _ p)=>p|_=>0
theorem Mx{P:Program}{w:World}{r:Nat}{s:ByteArray}{pos:Nat}{ty:TypeId}(h:w.heap[r]?=some (.stringIter s pos))(hp:pos<s.size) :
  (Instr.next (.pointer (some ⟨r,0,none⟩)) true ty).run P w=.ok (.tuple #[.bool true,.int .i64 pos,.int .i32 (Utf8.decode s pos).1]) { w with heap:=w.heap.setIfInBounds r (.stringIter s (pos+(Utf8.decode s pos).2)) }:=by
 simp only[Instr.next,getObj,setObj,Sem.run_bind,Sem.run,h,Result.andThen,hp,if_true];simp[goInt]
theorem Lp{P:Program}{w:World}{r:Nat}{s:ByteArray}{pos:Nat}{ty:TypeId}(h:w.heap[r]?=some (.stringIter s pos))(hp:¬pos<s.size) :
  (Instr.next (.pointer (some ⟨r,0,none⟩)) true ty).run P w=.ok (.tuple #[.bool false]) w:=by
 simp only[Instr.next,getObj,Sem.run_bind,Sem.run,h,Result.andThen,hp,if_false];rfl
theorem Mod.setObj(w:World)(r:Nat)(o o':Obj)(h:w.heap[r]?=some o):Mod (fun b=>b=r) w { w with heap:=w.heap.setIfInBounds r o' }:=
 ⟨rfl,rfl,rfl,by simp,fun x _ i=>(MapKept.heap_set h).2 x i⟩
end Go.K
namespace Go.Proofs.YtmdhibffnkhcnaaGreatDoor
open Go Go.K Proofs.Tryz
theorem Qj{S:Nat->Prop}{v:Value}{b:List Int}{w:World}(h:Ci S w v b)(hb:Bl b):(convert 293 9 v).run prog w=.ok (.string (strOf b)) w:=by
 obtain⟨a,c,rfl,hm⟩:=h.shape;cases a with
 |none=>
  have:b=[]:=by
   cases b with
   |nil=>rfl
   |cons x b=>obtain⟨p,r,e,_⟩:=h.get (i:=0) (by simp);cases e
  subst this;exact run_convert_bytes_nil w 293 5 (by kernel_rfl) (by kernel_rfl) _ _ _ (by kernel_rfl)
 |some p=>
  have hl:(b.map fun x=>UInt8.ofNat x.toNat).length=b.length:=by simp
  have:=run_convert_bytes_back (P:=prog) w 293 9 5 p c (b.map fun x=>UInt8.ofNat x.toNat) (by kernel_rfl) (by kernel_rfl) (by kernel_rfl) (fun j o=>by
   rw[hl] at o;obtain⟨_,r,e,_,hr,hc,rfl⟩:=h.get o;cases e;have:=hc 0 _ rfl;rw[Nat.mul_one,Nat.add_zero] at this;rw[this];have y:=hb b[j] (List.getElem_mem o);simp only[List.getElem_map,UInt8.toNat_ofNat'];congr 2
   omega)
  rw[hl] at this;exact this
theorem Ns{s:ByteArray}{pos:Nat}{r:Int}{n:Nat}(hp:pos<s.size)(h:CW ((Bk s).drop pos)=(r,n))(J:n≠0):((Utf8.decode s pos).1:Int)=r/\(Utf8.decode s pos).2=n:=by
 have o:∀k c,((Bk s).drop pos)[k]?=some c->pos+k<s.size/\(((s.get! (pos+k)).toNat:Nat):Int)=c:=by
  intro k c hc;rw[List.getElem?_drop] at hc;have Q:pos+k<s.size:=by
   have:=(List.getElem?_eq_some_iff.1 hc).1;rwa [Cq] at this
  refine⟨Q,?_⟩;have hg:s.get! (pos+k)=s[pos+k]'Q:=by
   simp[ByteArray.get!,getElem!_pos,Q];rfl
  rw[hg];simp only[Bk,List.getElem?_map] at hc;have X:pos+k<s.data.toList.length:=by simpa using Q
  rw[List.getElem?_eq_getElem X] at hc;have:=Option.some.inj hc;exact this
 have S:Bl ((Bk s).drop pos):=fun x hx=>by
  have:=List.mem_of_mem_drop hx;simp only[Bk,List.mem_map] at this;obtain⟨b,_,rfl⟩:=this;have:=b.toNat_lt;omega
 have Y:((Bk s).drop pos).length≠0:=by rw[List.length_drop,Cq];omega
 generalize (Bk s).drop pos=l at h o S Y;obtain⟨i,t,rfl⟩:∃x t,l=x::t:=by cases l with|nil=>simp at Y|cons x t=>exact⟨x,t,rfl⟩
 obtain⟨_,e0⟩:=o 0 i rfl;have h0:=S i List.mem_cons_self;generalize T:(s.get! (pos+0)).toNat=O at e0;by_cases ha:i<128
 .rw[KM h0.1 ha] at h;cases h;simp only[Utf8.decode,T];rw[if_pos (by omega)];exact⟨e0,rfl⟩
 rcases Oj i with j|j|j|j
 .rw[OK S (by omega) j] at h;cases h;exact absurd rfl J
 .cases t with
  |nil=>rw[Ct h0.2 (by rw[j];simp)] at h;cases h;exact absurd rfl J
  |cons c1 t=>
   have h1:=S c1 (by simp);obtain⟨l1,Z⟩:=o 1 c1 rfl;generalize I:(s.get! (pos+1)).toNat=E at Z;rw[Vc j h1.1 h1.2] at h;split at h
   .rename_i hc;cases h;have a1:194<=i/\i<224:=by
     unfold CF at j
     (repeat' split at j)<;>omega
    have y:128<=IQ i:=by
     unfold IQ;split
     .decide
     .split<;>decide
    have B:Hz i<=191:=by
     unfold Hz;split
     .decide
     .split<;>decide
    have q1:(O/32==6&&(decide (pos+1<s.size)&&E/64==2))=true:=by
     simp only[Bool.and_eq_true,beq_iff_eq,decide_eq_true_eq];exact⟨by omega,l1,by omega⟩
    simp only[Utf8.decode,T,I];rw[if_neg (by omega),if_pos q1,if_pos (by omega)];exact⟨by omega,rfl⟩
   .cases h;exact absurd rfl J
 .rcases t with _|⟨c1,_|⟨c2,t⟩⟩
  .rw[Ct h0.2 (by rw[j];simp)] at h;cases h;exact absurd rfl J
  .rw[Ct h0.2 (by rw[j];simp)] at h;cases h;exact absurd rfl J
  .have h1:=S c1 (by simp);have h2:=S c2 (by simp);obtain⟨l1,Z⟩:=o 1 c1 rfl;obtain⟨l2,e2⟩:=o 2 c2 rfl;generalize I:(s.get! (pos+1)).toNat=E at Z;generalize V:(s.get! (pos+2)).toNat=U at e2;rw[VC j h1.1 h1.2 h2.1 h2.2] at h;split at h
   .rename_i hc;cases h;have a1:224<=i/\i<240:=by
     unfold CF at j
     (repeat' split at j)<;>omega
    have y:(if i=224 then(160:Int) else 128)<=c1:=by
     refine Int.le_trans ?_ hc.1.1;unfold IQ;split
     .decide
     .split<;>decide
    have B:c1<=(if i=237 then(159:Int) else 191):=by
     refine Int.le_trans hc.1.2 ?_;unfold Hz;split
     .decide
     .split<;>decide
    have a6:128<=c1:=by split at y<;>omega
    have a7:c1<=191:=by split at B<;>omega
    have q1:¬(O/32==6&&(decide (pos+1<s.size)&&E/64==2))=true:=by
     simp only[Bool.and_eq_true,beq_iff_eq,decide_eq_true_eq];rintro⟨x,_⟩;omega
    have q2:(O/16==14&&(decide (pos+1<s.size)&&E/64==2)&&(decide (pos+2<s.size)&&U/64==2))=true:=by
     simp only[Bool.and_eq_true,beq_iff_eq,decide_eq_true_eq];exact⟨⟨by omega,l1,by omega⟩,l2,by omega⟩
    have q3:(decide (O%16*4096+E%64*64+U%64 ≥ 2048)&&Utf8.valid ((O%16*4096+E%64*64+U%64:Nat):Int))=true:=by
     simp only[Utf8.valid,Bool.and_eq_true,Bool.or_eq_true,decide_eq_true_eq];refine⟨by split at y<;>omega,?_⟩;split at B
     .left;omega
     .by_cases hb:i<237
      .left;omega
      .right;omega
    simp only[Utf8.decode,T,I,V];rw[if_neg (by omega),if_neg q1,if_pos q2,if_pos q3];exact⟨by omega,rfl⟩
   .cases h;exact absurd rfl J
 .rcases t with _|⟨c1,_|⟨c2,_|⟨c3,t⟩⟩⟩
  .rw[Ct h0.2 (by rw[j];simp)] at h;cases h;exact absurd rfl J
  .rw[Ct h0.2 (by rw[j];simp)] at h;cases h;exact absurd rfl J
  .rw[Ct h0.2 (by rw[j];simp)] at h;cases h;exact absurd rfl J
  .have h1:=S c1 (by simp);have h2:=S c2 (by simp);have h3:=S c3 (by simp);obtain⟨l1,Z⟩:=o 1 c1 rfl;obtain⟨l2,e2⟩:=o 2 c2 rfl;obtain⟨l3,e3⟩:=o 3 c3 rfl;generalize I:(s.get! (pos+1)).toNat=E at Z;generalize V:(s.get! (pos+2)).toNat=U at e2;generalize a8:(s.get! (pos+3)).toNat=m3 at e3;rw[Up j h1.1 h1.2 h2.1 h2.2 h3.1 h3.2] at h;split at h
   .rename_i hc;cases h;have a1:240<=i/\i<245:=by
     unfold CF at j
     (repeat' split at j)<;>omega
    have y:(if i=240 then(144:Int) else 128)<=c1:=by
     refine Int.le_trans ?_ hc.1.1;unfold IQ;rw[if_neg (show ¬i=224 by omega)];exact Int.le_refl _
    have B:c1<=(if i=244 then(143:Int) else 191):=by
     refine Int.le_trans hc.1.2 ?_;unfold Hz;rw[if_neg (show ¬i=237 by omega)];exact Int.le_refl _
    have a6:128<=c1:=by split at y<;>omega
    have a7:c1<=191:=by split at B<;>omega
    have q1:¬(O/32==6&&(decide (pos+1<s.size)&&E/64==2))=true:=by
     simp only[Bool.and_eq_true,beq_iff_eq,decide_eq_true_eq];rintro⟨x,_⟩;omega
    have q2:¬(O/16==14&&(decide (pos+1<s.size)&&E/64==2)&&(decide (pos+2<s.size)&&U/64==2))=true:=by
     simp only[Bool.and_eq_true,beq_iff_eq,decide_eq_true_eq];rintro⟨⟨x,_⟩,_⟩;omega
    have q3:(O/8==30&&(decide (pos+1<s.size)&&E/64==2)&&(decide (pos+2<s.size)&&U/64==2)&&(decide (pos+3<s.size)&&m3/64==2))=true:=by
     simp only[Bool.and_eq_true,beq_iff_eq,decide_eq_true_eq];exact⟨⟨⟨by omega,l1,by omega⟩,l2,by omega⟩,l3,by omega⟩
    have q4:(decide (O%8*262144+E%64*4096+U%64*64+m3%64 ≥ 65536)&&Utf8.valid ((O%8*262144+E%64*4096+U%64*64+m3%64:Nat):Int))=true:=by
     simp only[Utf8.valid,Bool.and_eq_true,Bool.or_eq_true,decide_eq_true_eq];refine⟨by split at y<;>omega,?_⟩;right;split at B<;>omega
    simp only[Utf8.decode,T,I,V,a8];rw[if_neg (by omega),if_neg q1,if_neg q2,if_pos q3,if_pos q4];exact⟨by omega,rfl⟩
   .cases h;exact absurd rfl J
theorem Uj{S:Nat->Prop}{v:Value}{b:List Int}{w:World}(h:Ci S w v b)(hb:Bl b)(hT:EV w)(hl:b.length*4<=140737488355328) :
  AB prog 286 [v] (fun v' w'=>Grow w w'/\match Bj b with
   |some l=>∃sl,v'=.tuple #[sl,.int .i64 0]/\AF w.heap.size 21 1 CH w' sl l
   | none=>v'=.tuple #[.slice none 0 0,.int .i64 3]) w:=by
 apply V2;refine AA (T6 h hb hT) ?_;rintro _ I ⟨rfl,X⟩;rw[An];cases hr:Bj b with
 |none=>exact Ao ⟨X,rfl⟩
 |some rs=>
  refine AS (Ai (Qj (h.grow X (by decide) fun _ _ h=>h) hb) ?_);have Y:Bk (strOf b)=b:=Ge hb;have Z:(strOf b).size=b.length:=by rw[<-Cq,Y]
  generalize strOf b=s at Y Z;refine Ai (run_range_string I 9 s (by kernel_rfl)) ?_;have hit:=World.iter_heap I s 0;have g2:Grow I (I.iter s 0):=Mod.alloc _ _ _;have an:=X.size;generalize I.iter s 0=w2 at hit g2;generalize av:I.heap.size=r at hit;have ax:w.heap.size<=r:=by omega
  refine Af (fun vs W=>∃(pos:Nat) (J:Value) (acc:List Int),pos<=b.length/\acc.length<=pos/\vs=[J]/\W.heap[r]?=some (.stringIter s pos)/\AF w.heap.size 21 1 CH W J acc/\J.ownBlock≠some r/\Grow w W/\Bj b=(Bj (b.drop pos)).map (acc++·)) (fun _ W=>b.length-Ox W r)
   ⟨0,_,[],Nat.zero_le _,Nat.le_refl _,rfl,hit,AF.nil,(fun h=>nomatch h),X.trans g2,by simp⟩ ?_
  rintro vs W ⟨pos,J,acc,a8,ak,rfl,O,ho,y,gW,i⟩ _;have o:Ox W r=pos:=by simp[Ox,O]
  by_cases B:pos<s.size
  .have al:pos<b.length:=by omega
   have a1:b.drop pos≠[]:=by intro e;have:=congrArg List.length e;simp at this;omega
   have E:=SS (b.drop pos);rw[List.length_drop] at E;rw[LU a1] at i;have a6:∃q n,CW (b.drop pos)=(q,n):=⟨_,_,rfl⟩;obtain⟨q,n,hq⟩:=a6;rw[hq] at i E;simp only at i E;have hn:n≠0:=by
    intro e;rw[if_pos e,hr] at i;cases i
   rw[if_neg hn] at i;obtain⟨d1,d2⟩:=Ns (s:=s) B (by rw[Y];exact hq) hn;refine Ai (Mx O B) ?_;rw[d1,d2];refine CJ (vs:=[_,_,_]) (by rfl) (Ao (CJ (vs:=[_,_,_]) (by rfl) ?_));have m3:=Mod.setObj W r _ (.stringIter s (pos+n)) O;have a7:=(MapKept.heap_set (o':=.stringIter s (pos+n)) O).1;have j:({ W with heap:=W.heap.setIfInBounds r (.stringIter s (pos+n)) }:World).heap[r]?=some (.stringIter s (pos+n)):=a7;generalize ({ W with heap:=W.heap.setIfInBounds r (.stringIter s (pos+n)) }:World)=W3 at m3 j;have Q:AF w.heap.size 21 1 CH W3 J acc:=AF.mod ho m3 (fun g hg e=>y (e▸hg)) fun _ _ _ h=>h;have T:Grow w W3:=gW.next m3 fun x hx e=>by omega
   show Bc _ _ _ _ [(0,.int .i32 q)] _ _;refine DP JW Q T.size (cs:=[.int .i32 q]) (x:=q) (by kernel_rfl) rfl rfl (fun _ _ _=>CH.one) (fun _ _ _ _ _ _ h=>h) (by omega) (by simp only[maxLen];omega) fun v' w' h1 h2 h3=>?_;have U:r<W3.heap.size:=(Array.getElem?_eq_some_iff.1 j).1;have V:w'.heap[r]?=some (.stringIter s (pos+n)):=(h2.same r U y).trans j;refine⟨⟨pos+n,v',acc++[q],by omega,by simp;omega,rfl,V,h1,fun e=>?_,T.next h2 fun x hx e=>?_,?_⟩,?_⟩
   .rcases h3 r e with e|e
    .exact y e
    .omega
   .have:=(AF.BM Q x e).1;omega
   .rw[i,List.drop_drop];cases Bj (b.drop (pos+n))<;>simp
   .rw[o];have:Ox w' r=pos+n:=by simp[Ox,V]
    rw[this];omega
  .refine Ai (Lp O B) ?_;refine CJ (vs:=[_]) (by rfl) (AS ?_);have:pos=b.length:=by omega
   subst this;rw[List.drop_length,ME,hr] at i;simp only[Option.map_some,Option.some.injEq,List.append_nil] at i;subst i;exact⟨gW,J,rfl,ho⟩
theorem VN{n:Nat}{w:World}:(callFunc 285 #[.float .f64 n]).run prog w=.ok (.value (.int .u64 n)) w:=by
 have h:prog.funcs[285]?=some Tryz.f285:=func285
 have e0 : (Tryz.f285.name == "runtime.NumGoroutine") = false := by kernel_rfl
 have i:Tryz.f285.body.isNone=true:=by kernel_rfl
 have j:Extern.findNext Tryz.f285=none:=by kernel_rfl
 have o:Extern.find Tryz.f285=some Extern.MathFloatBits.float64bits:=by kernel_rfl
 simp only[callFunc,program,mark,Sem.run_bind,Sem.run,Result.andThen,h,e0,i,j,o,Bool.false_eq_true,if_false,if_true];rfl
theorem TW{n:Int}{w:World}:(callFunc 257 #[.int .u64 n]).run prog w=.ok (.value (.float .f64 n.toNat)) w:=by
 have h:prog.funcs[257]?=some Tryz.f257:=func257
 have e0 : (Tryz.f257.name == "runtime.NumGoroutine") = false := by kernel_rfl
 have i:Tryz.f257.body.isNone=true:=by kernel_rfl
 have j:Extern.findNext Tryz.f257=none:=by kernel_rfl
 have o:Extern.find Tryz.f257=some Extern.MathFloatBits.float64frombits:=by kernel_rfl
 simp only[callFunc,program,mark,Sem.run_bind,Sem.run,Result.andThen,h,e0,i,j,o,Bool.false_eq_true,if_false,if_true];rfl
theorem TB{n:Nat}{w:World}:AB prog 284 [.float .f64 n] (fun v w'=>v=.bool (decide (FX (n:Int)))/\w'=w) w:=by
 apply XT;refine Ai (v:=.bool (decide (FX (n:Int)))) (w':=w) ?_ ⟨rfl,rfl⟩;rw[<-Po];simp[BY,eqGuard,binOp,Op.floatCmp]
theorem YA{b:Bool}{w:World}:AB prog 254 [.bool b] (fun v w'=>v=.agg (⟨1,if b then 1 else 0,0,Fc⟩:BE).cells.toArray/\Grow w w') w:=by
 apply YB;refine EI fun V w1 X Y Z _ B=>?_;refine⟨(⟨1,0,0,Fc⟩:BE).cells.toArray,by kernel_rfl,?_⟩;refine BO (vs:=(⟨1,0,0,Fc⟩:BE).cells) rfl rfl (BE.one _) fun y w2 a1 a6 Q E I=>?_;have J:=Z.trans Q;cases b with
 |true=>
  refine Ao ?_;rw[AG];refine(I 1 (by decide)).st rfl rfl ?_;rw[AI];have m:=Mod.setCell (M:=fun x=>x=y) w2 ⟨y,1,none⟩ (.int .i64 1) rfl;have hc:∀j u,(⟨1,1,0,Fc⟩:BE).cells[j]?=some u->(w2.setCell ⟨y,1,none⟩ (.int .i64 1)).cell? ((⟨y,0,none⟩:Addr).add j)=some u:=by
   intro j u hu;rw[AI];by_cases e:j=1
   .subst e;have h1:=(I 1 (by decide)).1;rw[AI] at h1;obtain⟨u',S⟩:=Option.isSome_iff_exists.1 h1;cases hu;exact World.cell?_setCell_same _ _ _ S
   .rw [World.cell?_setCell_other _ _ _ _ (fun e'=>by simp only [Addr.mk.injEq] at e';exact e e'.2.1.symm)];have:=E j u (by
     rcases j with _|_|_|_|j
     .exact hu
     .exact absurd rfl e
     .exact hu
     .exact hu
     .exact hu)
    rwa [AI] at this
  have i:=fun j O=>((B j O).mod Q fun h=>h).mod m (fun e=>by rw[AI] at e;have:V=y:=e;omega);generalize w2.setCell ⟨y,1,none⟩ (.int .i64 1)=w3 at m hc i ⊢;refine Ah (vs:=(⟨1,1,0,Fc⟩:BE).cells) rfl hc ?_;refine CT rfl (BE.one _) (fun j O=>i j O) fun w4 T o _=>?_;refine Ah (vs:=(⟨1,1,0,Fc⟩:BE).cells) rfl o ⟨rfl,?_⟩;exact(J.next m fun x U e=>by omega).next T fun x U e=>by omega
 |false=>
  refine AS ?_;refine Ah (vs:=(⟨1,0,0,Fc⟩:BE).cells) rfl E ?_;refine CT rfl (BE.one _) (fun j O=>(B j O).mod Q fun h=>h) fun w4 T o _=>?_;refine Ah (vs:=(⟨1,0,0,Fc⟩:BE).cells) rfl o ⟨rfl,?_⟩;exact J.next T fun x U e=>by omega
theorem aM{n:Int}{w:World}:AB prog 255 [.int .i64 n] (fun v w'=>v=.agg (⟨2,n,0,Fc⟩:BE).cells.toArray/\Grow w w') w:=by
 apply YM;refine EI fun O Q y B E _ i=>?_;refine⟨(⟨2,n,0,Fc⟩:BE).cells.toArray,by kernel_rfl,?_⟩;refine CT rfl (BE.one _) (fun j I=>i j I) fun w4 J o _=>?_;refine Ah (vs:=(⟨2,n,0,Fc⟩:BE).cells) rfl o ⟨rfl,?_⟩;exact E.next J fun x S e=>by omega
theorem Ub{n:Nat}{w:World}:AB prog 256 [.float .f64 n] (fun v w'=>v=.agg (⟨3,0,if FX (n:Int) then 9221120237041090560 else n,Fc⟩:BE).cells.toArray/\Grow w w') w:=by
 apply Vj;refine EI fun T J O Q I _ o=>?_;refine AA TB ?_;rintro _ _ ⟨rfl,rfl⟩;rename World=>J
 by_cases y:FX (n:Int)
 .rw[decide_eq_true y];refine Ao ⟨(⟨3,0,9221120237041090560,Fc⟩:BE).cells.toArray,by kernel_rfl,?_⟩;refine CT rfl (BE.one _) (fun j B=>o j B) fun w4 E i _=>?_;refine Ah (vs:=(⟨3,0,9221120237041090560,Fc⟩:BE).cells) rfl i ⟨by rw[if_pos y],?_⟩;exact I.next E fun x S e=>by omega
 .rw[decide_eq_false y];refine AS ⟨_,_,VN,?_⟩;refine⟨(⟨3,0,(n:Int),Fc⟩:BE).cells.toArray,by kernel_rfl,?_⟩;refine CT rfl (BE.one _) (fun j B=>o j B) fun w4 E i _=>?_;refine Ah (vs:=(⟨3,0,(n:Int),Fc⟩:BE).cells) rfl i ⟨by rw[if_neg y],?_⟩;exact I.next E fun x S e=>by omega
def MS(s:ByteArray):Prop:=s.size<=64/\(Bj (Bk s)).isSome=true
instance (s:ByteArray):Decidable (MS s):=by unfold MS;infer_instance
theorem Oo(s:ByteArray):Bl (Bk s):=fun x i=>by
 simp only[Bk,List.mem_map] at i;obtain⟨b,_,rfl⟩:=i;have:=b.toNat_lt;omega
theorem WK{s:ByteArray}{w:World}(hT:EV w):AB prog 258 [.string s] (fun v w'=>v=(if MS s then .tuple #[.agg (⟨4,0,0,s⟩:BE).cells.toArray,.int .i64 0] else .tuple #[.agg (⟨0,0,0,Fc⟩:BE).cells.toArray,.int .i64 3])/\Grow w w') w:=by
 apply XY;refine EI fun T w1 a1 a6 U _ y=>?_;rw[J6,BL];refine AE (fun V=>?_) fun a7=>?_
 .refine⟨(⟨0,0,0,Fc⟩:BE).cells.toArray,by kernel_rfl,?_⟩;refine CT rfl (BE.one _) (fun j i=>y j i) fun w4 m4 J _=>?_;refine Ah (vs:=(⟨0,0,0,Fc⟩:BE).cells) rfl J ⟨by rw[if_neg (fun h=>by have:=h.1;omega)],?_⟩;exact U.next m4 fun x X e=>by omega
 .refine Nh (by omega) fun v3 w3 Y O=>?_;have B:=U.trans Y;have Q:∀j,j<4->Live w3 ((⟨T,0,none⟩:Addr).add j):=fun j i=>(y j i).mod Y fun h=>h;refine AA (Uj O (Oo s) (hT.grow B) (by rw[Cq];omega)) ?_;rintro v5 w5 ⟨Z,hm⟩;have E:∀j,j<4->Live w5 ((⟨T,0,none⟩:Addr).add j):=fun j i=>(Q j i).mod Z fun h=>h;have I:=B.trans Z;cases hr:Bj (Bk s) with
  |none=>
   rw[hr] at hm;subst hm;refine BK ?_;rw[Bg];refine AY (fun e=>by cases e) fun _=>?_;refine⟨(⟨0,0,0,Fc⟩:BE).cells.toArray,by kernel_rfl,?_⟩;refine CT rfl (BE.one _) (fun j i=>E j i) fun w6 S o _=>?_;refine Ah (vs:=(⟨0,0,0,Fc⟩:BE).cells) rfl o ⟨by rw[if_neg (fun h=>by have:=h.2;rw[hr] at this;cases this)],?_⟩;exact I.next S fun x X e=>by omega
  |some l=>
   rw[hr] at hm;obtain⟨sl,rfl,_⟩:=hm;refine BK ?_;refine Mo ?_;refine⟨(⟨4,0,0,s⟩:BE).cells.toArray,by kernel_rfl,?_⟩;refine CT rfl (BE.one _) (fun j i=>E j i) fun w6 S o _=>?_;refine Ah (vs:=(⟨4,0,0,s⟩:BE).cells) rfl o ⟨by rw[if_pos ⟨by omega,by rw[hr];rfl⟩],?_⟩;exact I.next S fun x X e=>by omega
theorem Mh{v:BE}{w:World}(Y:EV w)(h0:0<=v.f) :
  AB prog 208 [.agg v.cells.toArray] (fun v' w'=>v'=.bool (decide (DK v))/\Grow w w') w:=by
 apply XN;refine Db fun b Q _ hz g hc _=>?_;have Z:=hc 0 _ rfl;have l1:=hc 1 _ rfl;have l2:=hc 2 _ rfl;have l3:=hc 3 _ rfl;have key:∀(b:Bool) w',Grow w w'->(b=true↔DK v)->Value.bool b=.bool (decide (DK v))/\Grow w w':=fun b w' g h=>⟨by congr 1;rw[Bool.eq_iff_iff,h,decide_eq_true_eq],g⟩;have X:∀w',Grow w w'->¬DK v->Value.bool false=.bool (decide (DK v))/\Grow w w':=fun w' g h=>key false w' g (by simp only[Bool.false_eq_true,false_iff];exact h);have o:∀j u,v.cells[j]?=some u->Q.cell? ((⟨b,0,none⟩:Addr).add j)=some u:=hc;simp only[AG];refine AL Z ?_;rw[Am];refine AE (fun k1=>?_) fun k1=>?_
 .refine CZ (fun w2=>Grow Q w2) (Mod.drew _ _) ?_;refine Gp (vs:=v.cells) rfl (fun w2 i j u hu=>i.cell (o j u hu) fun h=>h) (Au (fun w2 i=>i.cell l1 fun h=>h) ?_);rw[Am];refine⟨_,fun w2 i=>AA YA (by rintro _ E ⟨rfl,y⟩;exact⟨rfl,i.trans y⟩),?_⟩;refine⟨_,fun w2 _=>Gl _ _ v ⟨1,if decide (v.n=1) then 1 else 0,0,Fc⟩ w2,?_⟩;intro E y;refine key _ _ (g.trans y) ?_;rw[decide_eq_true_eq];constructor
  .intro e;refine .inl ⟨k1,?_,?_⟩
   .by_cases h1:v.n=1
    .rw[h1];simpa[h1] using e
    .have en:v.n=0:=by rw[e];simp[h1]
     rw[en];simpa[h1] using e
   .by_cases h1:v.n=1
    .exact .inr h1
    .left;rw[e];simp[h1]
  .rintro(h|h|h|h)
   .obtain⟨_,e,B⟩:=h;rcases B with B|B
    .rw[B] at e ⊢;exact e
    .rw[B] at e ⊢;exact e
   .omega
   .omega
   .omega
 rw[Am];refine AE (fun k2=>?_) fun k2=>?_
 .refine CZ (fun w2=>Grow Q w2) (Mod.drew _ _) ?_;refine Gp (vs:=v.cells) rfl (fun w2 i j u hu=>i.cell (o j u hu) fun h=>h) (Au (fun w2 i=>i.cell l1 fun h=>h) ?_);refine⟨_,fun w2 i=>AA aM (by rintro _ E ⟨rfl,y⟩;exact⟨rfl,i.trans y⟩),?_⟩;refine⟨_,fun w2 _=>Gl _ _ v ⟨2,v.n,0,Fc⟩ w2,?_⟩;intro E y;refine key _ _ (g.trans y) ?_;rw[decide_eq_true_eq];refine⟨fun h=>.inr (.inl ⟨k2,h⟩),fun h=>?_⟩;rcases h with h|h|h|h
  .omega
  .exact h.2
  .omega
  .omega
 rw[Am];refine AE (fun T=>?_) fun T=>?_
 .refine CZ (fun w2=>Grow Q w2) (Mod.drew _ _) ?_;refine Gp (vs:=v.cells) rfl (fun w2 i j u hu=>i.cell (o j u hu) fun h=>h) (Au (fun w2 i=>i.cell l2 fun h=>h) ?_);refine⟨_,fun w2 _=>TW,?_⟩;refine⟨_,fun w2 i=>AA Ub (by rintro _ E ⟨rfl,y⟩;exact⟨rfl,i.trans y⟩),?_⟩;refine⟨_,fun w2 _=>Gl _ _ v _ w2,?_⟩;intro E y;refine key _ _ (g.trans y) ?_;have ef:((v.f.toNat:Nat):Int)=v.f:=by omega
  rw[decide_eq_true_eq,ef];constructor
  .intro e;refine .inr (.inr (.inl ⟨T,?_,?_⟩))
   .by_cases B:FX v.f
    .rw[if_pos B] at e;have e2:v.f=9221120237041090560:=congrArg BE.f e;rw[e2];exact e
    .rw[if_neg B] at e;exact e
   .by_cases B:FX v.f
    .rw[if_pos B] at e;exact .inr (congrArg BE.f e)
    .exact .inl B
  .rintro(h|h|h|h)
   .omega
   .omega
   .obtain⟨_,e,B⟩:=h;by_cases U:FX v.f
    .rw[if_pos U];rw[B.resolve_left fun x=>x U] at e;exact e
    .rw[if_neg U];exact e
   .omega
 rw[Am];refine AE (fun V=>?_) fun V=>X _ g ?_
 .refine AL l3 (AA (WK (Y.grow g)) ?_);rintro v3 E ⟨rfl,y⟩;have I:=g.trans y;by_cases J:MS v.s
  .rw[if_pos J];refine BK ?_;refine BO (vs:=(⟨4,0,0,v.s⟩:BE).cells) rfl rfl (BE.one _) fun b4 w4 _ _ S O _=>?_;rw[Am];refine AE (fun _=>?_) fun e=>(e rfl).elim;refine Ah (vs:=v.cells) rfl (fun j u hu=>(y.trans S).cell (o j u hu) fun h=>h) ?_;refine Ah (vs:=(⟨4,0,0,v.s⟩:BE).cells) rfl O (Ai (Gl _ _ v ⟨4,0,0,v.s⟩ w4) ?_);refine key _ _ (I.trans S) ?_;rw[decide_eq_true_eq];refine⟨fun e=>.inr (.inr (.inr ⟨V,e,J.1,J.2⟩)),fun h=>?_⟩;rcases h with h|h|h|h
   .omega
   .omega
   .omega
   .exact h.2.1
  .rw[if_neg J];refine BK ?_;refine BO (vs:=(⟨0,0,0,Fc⟩:BE).cells) rfl rfl (BE.one _) fun b4 w4 _ _ S O _=>?_;rw[Am];refine AE (fun e=>by cases e) fun _=>X _ (I.trans S) ?_;rintro(h|h|h|h)
   .omega
   .omega
   .omega
   .exact J ⟨h.2.2.1,h.2.2.2⟩
 .rintro(h|h|h|h)
  .exact k1 h.1
  .exact k2 h.1
  .exact T h.1
  .exact V h.1
end Go.Proofs.YtmdhibffnkhcnaaGreatDoor
namespace Go.K
open Go
section
variable {α:Type}[Inhabited α]
theorem Io(enc:α->List Value)(k:Nat)(hk:∀x,(enc x).length=k)(d:Array α):(Sort.flatK enc k d).toList=(d.toList.map enc).flatten:=by
 refine List.ext_getElem? fun t=>?_;have hl:∀r∈d.toList.map enc,r.length=k:=fun r hr=>by obtain⟨x,_,rfl⟩:=List.mem_map.1 hr;exact hk x
 have y:(d.toList.map enc).flatten.length=d.size*k:=by rw[EG _ hl,List.length_map,Array.length_toList]
 by_cases ht:t<d.size*k
 .have i:0<k:=by
   rcases Nat.eq_zero_or_pos k with h|h
   .subst h;simp at ht
   .exact h
  have B:t/k<d.size:=(Nat.div_lt_iff_lt_mul i).2 ht;have h1:=Sort.get_flatK enc k d t ht;have E:(Sort.flatK enc k d).toList[t]?=some (Sort.flatK enc k d)[t]!:=by
   have j:t<(Sort.flatK enc k d).size:=by simpa using ht
   rw[Array.getElem?_toList,Array.getElem?_eq_getElem j,getElem!_pos _ t j]
  rw[E,h1];have o:=G9 (d.toList.map enc) (t/k) (t%k) (enc d[t/k]!) hl (by simp[B]) (Nat.mod_lt _ i);rw[Nat.div_add_mod' t k] at o;rw[o];have hm:t%k<(enc d[t/k]!).length:=by rw[hk];exact Nat.mod_lt _ i
  rw[List.getElem?_eq_getElem hm,getElem!_pos (enc d[t/k]!) _ hm]
 .rw[List.getElem?_eq_none (by simp;omega),List.getElem?_eq_none (by omega)]
theorem Hv(F i:Array Value)(h:F.size<=i.size):(Sort.putCells id 0 F i).size=i.size/\(Sort.putCells id 0 F i).toList.take F.size=F.toList:=by
 refine⟨by simp[Sort.putCells],List.ext_getElem? fun t=>?_⟩;by_cases ht:t<F.size
 .rw[List.getElem?_take,if_pos ht,Array.getElem?_toList,Array.getElem?_toList];have h1:t<i.size:=by omega
  simp[Sort.putCells,ht,h1]
 .rw[List.getElem?_take,if_neg ht,List.getElem?_eq_none (by simp;omega)]
theorem Kp{enc:α->List Value}{k:Nat}{w:World}{g m e:Nat}{d:Array α}{os:Array Obj}{j:Array Value}(y:w.heap[g]?=some (.cells j e (0,0))) :
  (Go.Proofs.sortWorldK enc k w g 0 m d os).heap[g]?=some (.cells (Sort.putCells id 0 (Sort.flatK enc k d) j) e (0,0))/\Mod (fun b=>b=g) w (Go.Proofs.sortWorldK enc k w g 0 m d os):=by
 have o:g<w.heap.size:=(Array.getElem?_eq_some_iff.1 y).1;have i:(w.heap.modify g (Sort.onCells (Sort.putCells id 0 (Sort.flatK enc k d)))).size=w.heap.size:=by simp
 have x:(Go.Proofs.sortWorldK enc k w g 0 m d os).heap=w.heap.modify g (Sort.onCells (Sort.putCells id 0 (Sort.flatK enc k d)))++os:=rfl;refine⟨?_,⟨rfl,rfl,rfl,by rw[x,Array.size_append,i];omega,fun b hb B=>?_⟩⟩
 .rw[x,Array.getElem?_append_left (by rw[i];exact o),Array.getElem?_modify,if_pos rfl,y];rfl
 .rw[x,Array.getElem?_append_left (by rw[i];exact hb),Array.getElem?_modify,if_neg (fun h=>B h.symm)]
theorem AF.sorted{B e k:Nat}{R:World->List Value->α->Prop}{enc:α->List Value}(hk:∀x,(enc x).length=k)(h1:∀x,∀v∈enc x,v.oneCell'=true)(X:∀w r x,R w r x↔r=enc x){w:World}{g n c:Nat}{l:List α}(h:AF B e k R w (.slice (some ⟨g,0,none⟩) n c) l) :
  n=l.length/\g<w.heap.size/\Sort.HoldsK enc k w g 0 l.toArray/\∀(m:Nat) (d:Array α) (os:Array Obj),d.size=l.length->AF B e k R (Go.Proofs.sortWorldK enc k w g 0 m d os) (.slice (some ⟨g,0,none⟩) n c) d.toList/\Mod (fun b=>b=g) w (Go.Proofs.sortWorldK enc k w g 0 m d os):=by
 obtain⟨rows,h2,h3,h4,h5⟩:=h;obtain⟨q1,q2⟩:=h2;rcases q2 with⟨q,_⟩|⟨g',a1,y,q,hg,Q,Y,hm,o,I⟩
 .cases q
 cases q;have T:g<w.heap.size:=(Array.getElem?_eq_some_iff.1 Q).1;have E:rows=l.map enc:=by
  refine List.ext_getElem? fun i=>?_;rw[List.getElem?_map];by_cases Z:i<l.length
  .have J:i<rows.length:=by omega
   rw[List.getElem?_eq_getElem Z,List.getElem?_eq_getElem J,Option.map_some];rw[(X w rows[i] l[i]).1 (h5 i _ _ (List.getElem?_eq_getElem J) (List.getElem?_eq_getElem Z))]
  .rw[List.getElem?_eq_none (by omega),List.getElem?_eq_none (by omega)];rfl
 have O:l.length*k<=c*k:=Nat.mul_le_mul_right _ Y;refine⟨rfl,T,fun j U=>?_,fun m d os S=>?_⟩
 .rw[Sort.size_flatK] at U;have V:j<l.length*k:=by simpa using U
  have a6:j<y.size:=by rw[o];omega
  have e0:(Sort.flatK enc k l.toArray).toList=rows.flatten:=by rw[Io enc k hk,E]
  have e1:rows.flatten[j]?=some (Sort.flatK enc k l.toArray)[j]!:=by
   have hs:j<(Sort.flatK enc k l.toArray).size:=by rw[Sort.size_flatK];exact U
   rw[<-e0,Array.getElem?_toList,Array.getElem?_eq_getElem hs,getElem!_pos _ j hs]
  rw[<-I,List.getElem?_take,if_pos V,Array.getElem?_toList] at e1;rw[Nat.zero_add];refine⟨?_,?_⟩
  .simp only[World.cell?,Q];exact e1
  .simp[World.frozen?,Q]
 .obtain⟨r1,r2⟩:=Kp (enc:=enc) (k:=k) (m:=m) (d:=d) (os:=os) Q;refine⟨⟨d.toList.map enc,⟨?_,.inr ⟨g,c,_,by have e:d.toList.length=l.length:=S;rw[e],hg,r1,?_,hm,?_,?_⟩⟩,by simp,fun r hr=>?_,fun i r x hr hx=>?_⟩,r2⟩
  .have:=EG (d.toList.map enc) (k:=k) fun r hr=>by obtain⟨x,_,rfl⟩:=List.mem_map.1 hr;exact hk x
   simpa using this
  .rw[Array.length_toList,S];exact Y
  .rw[(Hv (Sort.flatK enc k d) y (by rw[Sort.size_flatK,S,o];exact O)).1];exact o
  .have:=(Hv (Sort.flatK enc k d) y (by rw[Sort.size_flatK,S,o];exact O)).2;rw[Sort.size_flatK] at this;rw[Array.length_toList,this,Io enc k hk]
  .obtain⟨x,_,rfl⟩:=List.mem_map.1 hr;exact⟨hk x,h1 x⟩
  .rw[List.getElem?_map] at hr;rw[hx] at hr;exact(X _ _ _).2 (Option.some.inj hr).symm
end
end Go.K
namespace Go.Proofs.YtmdhibffnkhcnaaGreatDoor
open Go Go.K Proofs.Tryz
def OC:Go.Shelf.Ren:=⟨fun|6=>31|15=>72|14=>71|28=>140|29=>141|20=>132|21=>133|22=>134|23=>135|24=>136|25=>137|26=>138|27=>139|46=>203|47=>204|48=>205|49=>206|50=>207|57=>253|n=>n,fun|22=>22|24=>65|25=>73|3=>3|39=>130|0=>0|53=>211|55=>75|4=>4|46=>205|45=>204|50=>163|5=>5|9=>9|66=>285|70=>289|76=>328|77=>247|n=>n,fun|n=>n⟩
theorem Qh:Go.Proofs.SlLaysF0.n6 prog OC:={
 mixed:=by kernel_rfl,
 f6:=⟨Tryz.f31.name,by decide,func31.trans (congrArg some (by kernel_rfl))⟩,
 f14:=⟨Tryz.f71.name,by decide,func71.trans (congrArg some (by kernel_rfl))⟩,
 f15:=func72.trans (congrArg some (by kernel_rfl)),
 f20:=⟨Tryz.f132.name,by decide,func132.trans (congrArg some (by kernel_rfl))⟩,
 f21:=⟨Tryz.f133.name,by decide,func133.trans (congrArg some (by kernel_rfl))⟩,
 f22:=⟨Tryz.f134.name,by decide,func134.trans (congrArg some (by kernel_rfl))⟩,
 f23:=⟨Tryz.f135.name,by decide,func135.trans (congrArg some (by kernel_rfl))⟩,
 f24:=⟨Tryz.f136.name,by decide,func136.trans (congrArg some (by kernel_rfl))⟩,
 f25:=⟨Tryz.f137.name,by decide,func137.trans (congrArg some (by kernel_rfl))⟩,
 f26:=⟨Tryz.f138.name,by decide,func138.trans (congrArg some (by kernel_rfl))⟩,
 f27:=⟨Tryz.f139.name,by decide,func139.trans (congrArg some (by kernel_rfl))⟩,
 f28:=func140.trans (congrArg some (by kernel_rfl)),
 f29:=func141.trans (congrArg some (by kernel_rfl)),
 f46:=⟨Tryz.f203.name,by decide,func203.trans (congrArg some (by kernel_rfl))⟩,
 f47:=func204.trans (congrArg some (by kernel_rfl)),
 f48:=func205.trans (congrArg some (by kernel_rfl)),
 f49:=⟨Tryz.f206.name,by decide,func206.trans (congrArg some (by kernel_rfl))⟩,
 f50:=⟨Tryz.f207.name,by decide,func207.trans (congrArg some (by kernel_rfl))⟩,
 f57:=⟨Tryz.f253.name,by decide,func253.trans (congrArg some (by kernel_rfl))⟩,
 t0:=underlying0,
 a0:=Tryz.isAgg0,
 z0:=Tryz.sizeOf0,
 v0:=Tryz.zeroValue0,
 t3:=underlying3,
 a3:=Tryz.isAgg3,
 z3:=Tryz.sizeOf3,
 v3:=Tryz.zeroValue3,
 t4:=underlying4,
 a4:=Tryz.isAgg4,
 z4:=Tryz.sizeOf4,
 v4:=Tryz.zeroValue4,
 t5:=underlying5,
 a5:=Tryz.isAgg5,
 z5:=Tryz.sizeOf5,
 v5:=Tryz.zeroValue5,
 t9:=underlying9,
 a9:=Tryz.isAgg9,
 z9:=Tryz.sizeOf9,
 v9:=Tryz.zeroValue9,
 t22:=underlying22,
 a22:=Tryz.isAgg22,
 z22:=Tryz.sizeOf22,
 v22:=Tryz.zeroValue22,
 t25:=underlying73,
 a25:=Tryz.isAgg73,
 z25:=Tryz.sizeOf73,
 v25:=Tryz.zeroValue73,
 t39:=underlying130,
 a39:=Tryz.isAgg130,
 z39:=Tryz.sizeOf130,
 v39:=Tryz.zeroValue130,
 t45:=underlying204,
 a45:=Tryz.isAgg204,
 z45:=Tryz.sizeOf204,
 v45:=Tryz.zeroValue204,
 t46:=underlying205,
 a46:=Tryz.isAgg205,
 z46:=Tryz.sizeOf205,
 v46:=Tryz.zeroValue205,
 t50:=underlying163,
 a50:=Tryz.isAgg163,
 z50:=Tryz.sizeOf163,
 v50:=Tryz.zeroValue163,
 t53:=underlying211,
 a53:=Tryz.isAgg211,
 z53:=Tryz.sizeOf211,
 v53:=Tryz.zeroValue211,
 t55:=underlying75,
 a55:=Tryz.isAgg75,
 z55:=Tryz.sizeOf75,
 v55:=Tryz.zeroValue75,
 t66:=underlying285,
 a66:=Tryz.isAgg285,
 z66:=Tryz.sizeOf285,
 v66:=Tryz.zeroValue285,
 t70:=underlying289,
 a70:=Tryz.isAgg289,
 z70:=Tryz.sizeOf289,
 v70:=Tryz.zeroValue289,
 t76:=underlying328,
 a76:=Tryz.isAgg328,
 z76:=Tryz.sizeOf328,
 v76:=Tryz.zeroValue328,
 t77:=underlying247,
 a77:=Tryz.isAgg247,
 z77:=Tryz.sizeOf247,
 v77:=Tryz.zeroValue247 }
theorem WU(x y:DKey)(W:World):Calls prog 32 #[.agg x.cells.toArray,.agg y.cells.toArray] W fun e w'=>e=.returned (.int .i64 (Ls x.id y.id))/\∃q i,w'=Sort.grow (W.drewN q) i:=by
 have h:AB prog 32 [.agg x.cells.toArray,.agg y.cells.toArray] (fun v w'=>v=.int .i64 (Ls x.id y.id)/\∃i,w'=Sort.grow W i) W:=by
  apply Yz;refine⟨x.cells,rfl,⟨y.cells,rfl,PQ ?_⟩⟩;rw[AG];have c1:∀j u,x.cells[j]?=some u->((W.alloc (.cells x.cells.toArray 65)).alloc (.cells y.cells.toArray 65)).cell? ((⟨W.heap.size,0,none⟩:Addr).add j)=some u:=fun j u hu=>(Mod.alloc (fun _=>False) _ _).cell (HM hu) fun h=>h;have o:∀j u,y.cells[j]?=some u->((W.alloc (.cells x.cells.toArray 65)).alloc (.cells y.cells.toArray 65)).cell? ((⟨(W.alloc (.cells x.cells.toArray 65)).heap.size,0,none⟩:Addr).add j)=some u:=fun j u hu=>HM hu;refine AL (c1 0 _ rfl) ?_;rw[AG];refine AL (o 0 _ rfl) ?_;refine AA Y4 ?_;rintro _ _ ⟨rfl,rfl⟩;exact⟨rfl,_,by rw[Sort.alloc_eq_grow,Sort.alloc_eq_grow,Sort.grow_grow]⟩
 refine Calls.mono h ?_;rintro e w' ⟨v,rfl,rfl,i,rfl⟩;exact⟨rfl,0,i,rfl⟩
theorem aG:Sort.SWO (Go.Proofs.ltOf fun x y:DKey=>Ls x.id y.id):=by
 have e:∀x y:DKey,Go.Proofs.ltOf (fun x y:DKey=>Ls x.id y.id) x y=decide (x.id<y.id):=fun x y=>by
  unfold Go.Proofs.ltOf Ls;by_cases h1:x.id<y.id
  .simp[h1]
  .by_cases i:y.id<x.id<;>simp[h1,i]
 exact⟨fun x=>by rw[e];simp,fun x y z h1 i=>by rw[e] at *;simp at *;omega,fun x y z h1 i=>by rw[e] at *;simp at *;omega⟩
instance:Inhabited DKey:=⟨DKey.zero⟩
theorem TZ{B:Nat}{v:Value}{o:List DKey}{w:World}(h:AF B 65 6 Fy w v o)(hl:o.length<=1099511627776) :
  AB prog 31 [v,.func (.func 32) #[] #[]] (fun _ w'=>∃ks:List DKey,ks.Perm o/\ks.Pairwise (fun x y=>x.id<=y.id)/\AF B 65 6 Fy w' v ks/\Mod (fun b=>v.ownBlock=some b) w w') w:=by
 obtain⟨a,c,rfl,_,_,hp,Y⟩:=h.shape;cases a with
 |none=>
  have e:=Y rfl;subst e;refine Calls.mono (Go.Proofs.AnyF.slices_SortFunc_none Qh none c _ w) ?_;rintro _ _ ⟨rfl,rfl⟩;exact⟨_,rfl,[],List.Perm.refl _,List.Pairwise.nil,h,Mod.refl _ _⟩
 |some p=>
  obtain⟨g,rfl,_,O,Z⟩:=hp p rfl;obtain⟨_,_,hH,hS⟩:=AF.sorted (enc:=DKey.cells) (fun _=>rfl) (fun x=>Fy.one (w:=w) (x:=x) rfl) (fun _ _ _=>Iff.rfl) h;have hc:=Go.Proofs.AnyQ.slices_SortFunc Qh 6 Tryz.isAgg65 Tryz.sizeOf65 DKey.cells (fun _=>rfl) (fun x=>Fy.one (w:=w) (x:=x) rfl) (fun x y=>Ls x.id y.id) aG 32 #[] g 0 c o.toArray w (FM _ rfl) (fun m os dk _ x y=>WU x y _) hH O (by simp;omega);rw[List.size_toArray] at hc;refine Calls.mono hc ?_;rintro _ _ ⟨rfl,E,m,os,I,J,rfl⟩;obtain⟨h1,S,T⟩:=I;have U:E.size=o.length:=by rw[h1,List.size_toArray]
  obtain⟨o1,o2⟩:=hS m E os U;refine⟨_,rfl,E.toList,?_,?_,o1,o2.mono fun b _ e=>by rw[e];rfl⟩
  .have e1:E.extract 0 o.length=E:=by rw[<-U];exact Array.extract_size
   have e2:o.toArray.extract 0 o.length=o.toArray:=by
    have:=Array.extract_size (xs:=o.toArray);rwa [List.size_toArray] at this
   rw[e1,e2] at T;simpa using T
  .rw[List.pairwise_iff_getElem];intro i j V X Q;simp only[Array.length_toList] at V X;have:=J i j (Nat.zero_le _) Q (by omega);rw[getElem!_pos E i V,getElem!_pos E j X] at this;have e:Go.Proofs.ltOf (fun x y:DKey=>Ls x.id y.id) E[j] E[i]=decide (E[j].id<E[i].id):=by
    unfold Go.Proofs.ltOf Ls;by_cases h1:E[j].id<E[i].id
    .simp[h1]
    .by_cases S:E[i].id<E[j].id<;>simp[h1,S]
   rw[e] at this;simp only[decide_eq_false_iff_not] at this;simp only[Array.getElem_toList];omega
def Lq(i:List DKey):Prop:=i.Pairwise fun x y=>x.id≠y.id
theorem LF{o:List DKey}:Ew o↔o.length<=64/\(∀k∈o,EK k)/\Lq o:=by
 unfold Ew Zx Lq;rw[List.pairwise_iff_getElem];constructor
 .rintro⟨h1,B⟩;refine⟨h1,fun k hk=>?_,fun i j x E I=>?_⟩
  .obtain⟨i,x,rfl⟩:=List.getElem_of_mem hk;exact(B i x _ (List.getElem?_eq_getElem x)).1
  .exact(B j E _ (List.getElem?_eq_getElem E)).2 i I _ (List.getElem?_eq_getElem x)
 .rintro⟨h1,B,J⟩;refine⟨h1,fun i x k hk=>?_⟩;rw[List.getElem?_eq_getElem x] at hk;cases hk;refine⟨B _ (List.getElem_mem x),fun j E O y=>?_⟩;rw[List.getElem?_eq_getElem (by omega)] at y;cases y;exact J j i (by omega) x E
theorem KU{L:List DKey}{id:Int}:(L.map fun k=>(k.id,(Value.agg k.cells.toArray))).find? (fun p=>decide (p.1=id))=(BX L id).map fun k=>(k.id,.agg k.cells.toArray):=by
 unfold BX;rw[List.find?_map];rfl
theorem L8{L:List DKey}(y:Lq L){id:Int}{k:DKey}:BX L id=some k↔k∈L/\k.id=id:=by
 induction L with
 |nil=>simp[BX]
 |cons x L B=>
  unfold Lq at y;rw[List.pairwise_cons] at y;have j:=B y.2;unfold BX at j ⊢;by_cases o:x.id=id
  .rw[List.find?_cons_of_pos (by simpa using o)];simp only[Option.some.injEq,List.mem_cons];constructor
   .rintro rfl;exact⟨.inl rfl,o⟩
   .rintro⟨rfl|hk,i⟩
    .rfl
    .exact(y.1 k hk (by rw[o,i])).elim
  .rw[List.find?_cons_of_neg (by simpa using o),j];constructor
   .rintro⟨h1,i⟩;exact⟨List.mem_cons_of_mem _ h1,i⟩
   .rintro⟨h1,i⟩;rcases List.mem_cons.1 h1 with rfl|h1
    .exact(o i).elim
    .exact⟨h1,i⟩
theorem Lq.perm{L L':List DKey}(hp:L.Perm L')(h:Lq L):Lq L':=(hp.pairwise_iff (R:=fun x y:DKey=>x.id≠y.id) fun h=>h.symm).1 h
theorem QN{L L':List DKey}(hp:L.Perm L')(i:Lq L)(id:Int):BX L id=BX L' id:=by
 refine Option.ext fun k=>?_;rw[L8 i,L8 (i.perm hp),hp.mem_iff]
theorem SP{L:List DKey}(i:Lq L)(j:L.Pairwise fun x y=>x.id<=y.id):L.Pairwise fun x y=>x.id<y.id:=by
 refine(List.Pairwise.and i j).imp fun{x y} h=>?_;obtain⟨h1,o⟩:=h;omega
structure Sm (w0 W:World) (b m:Nat) (kv:Value) (keys:List DKey) (i:Nat):Prop where
 c0:W.cell? ⟨b,0,none⟩=some kv
 c1:W.cell? ⟨b,1,none⟩=some (.map (some m))
 row:AF w0.heap.size 65 6 Fy W kv keys
 mp:Im W m ((keys.take i).map fun k=>(k.id,.agg k.cells.toArray))
 hb:w0.heap.size<=b
 hm:w0.heap.size<=m
 ne:m≠b
 own:∀g,kv.ownBlock=some g->g≠m/\g≠b
 g:Grow w0 W
theorem Sm.grow{w0 W W':World}{b m i:Nat}{x:Value}{j:List DKey}(h:Sm w0 W b m x j i)(o:Grow W W'):Sm w0 W' b m x j i:=
 ⟨o.cell h.c0 fun h=>h,o.cell h.c1 fun h=>h,AF.mod h.row o (fun _ _ h=>h) fun _ _ _ h=>h,h.mp.mod o fun h=>h,h.hb,h.hm,h.ne,h.own,h.g.trans o⟩
open Classical in
theorem Kn{S:Nat->Prop}{kv:Value}{o:List DKey}{w:World}(h:L0 S w kv o) :
  AB prog 8 [kv] (fun v' w'=>Grow w w'/\((Ew o/\∃ (sv:Value) (ks:List DKey),v'=.tuple #[sv,.int .i64 0]/\ks.Perm o/\ks.Pairwise (fun x y=>x.id < y.id)/\DG (fun b=>w.heap.size<=b) w' sv ks)\/
   (¬ Ew o/\v'=.tuple #[.pointer none,.int .i64 3]))) w:=by
 apply cC;unfold S8;obtain⟨a,c,rfl,b0⟩:=h.shape;simp only[maxLen] at b0;rw[AT,BL];refine AE (fun h6=>⟨Mod.refl _ _,.inr ⟨by rintro⟨h,_⟩;omega,rfl⟩⟩) fun h6=>?_;refine AA (RW h (by omega)) ?_;rintro v1 E ⟨o1,g1⟩;refine Ai (v:=.map (some E.heap.size)) (w':=E.alloc (.map #[] 0)) rfl ?_;have g2:Grow E (E.alloc (.map #[] 0)):=Mod.alloc _ _ _;have a1:Im (E.alloc (.map #[] 0)) E.heap.size []:=Im.make E;have b1:(E.alloc (.map #[] 0)).heap.size=E.heap.size+1:=by simp
 generalize E.alloc (.map #[] 0)=w2 at g2 a1 b1 ⊢;obtain⟨ra,rc,rfl,_,_,_,_⟩:=o1.shape;refine⟨#[.slice ra o.length rc,.map (some E.heap.size)],by kernel_rfl,?_⟩;refine Db (vs:=[.slice ra o.length rc,.map (some E.heap.size)]) fun b w3 hb b5 g3 a6 _=>?_;have z1:=g1.size;have z2:=g2.size;have Y:∀g,(Value.slice ra o.length rc).ownBlock=some g->g<E.heap.size:=fun g hg=>(AF.BM o1 g hg).2;have I0:Sm w w3 b E.heap.size (.slice ra o.length rc) o 0:=
  ⟨by have:=a6 0 _ rfl;rwa [AI] at this,by have:=a6 1 _ rfl;rwa [AI] at this,AF.mod o1 (g2.trans g3) (fun _ _ h=>h) fun _ _ _ h=>h,by simpa using a1.mod g3 fun h=>h,by omega,by omega,by omega,fun g hg=>by have:=Y g hg;omega,(g1.trans g2).trans g3⟩
 generalize Value.slice ra o.length rc=rv at I0 Y ⊢;clear a6 a1 o1;generalize E.heap.size=m at *;rw[AT];refine Af (fun vs W=>∃i:Nat,i<=o.length/\vs=[.int .i64 i]/\Sm w W b m rv o i/\Zx o i) (fun vs _=>o.length-EF vs 0) ⟨0,Nat.zero_le _,rfl,I0,fun i hi=>by omega⟩ ?_;rintro vs W ⟨i,hi,rfl,I,Z⟩ _;rw[CM,List.headD_cons,Av];refine AE (fun b8=>?_) fun b9=>?_
 .have B:i<o.length:=by omega
  have U:o[i]?=some o[i]:=List.getElem?_eq_getElem B;obtain ⟨p,r,rfl,_,hr,hc,rfl⟩:=(h.grow I.g (by decide) fun _ _ h=>h).get B;refine Ab B (Ah hr (fun j u hu=>by rw [Addr.add_add];exact hc j u hu) ?_);refine BO (vs:=o[i].cells) rfl rfl (Fy.one (w:=w) (x:=o[i]) rfl) fun b6 W1 ba bc g6 a7 _=>?_;have I1:=I.grow g6;have bad:∀ W',Grow W1 W'->¬ Ew o->(fun v' w'=>Grow w w'/\((Ew o/\∃ (sv:Value) (ks:List DKey),v'=.tuple #[sv,.int .i64 0]/\ks.Perm o/\ks.Pairwise (fun x y=>x.id < y.id)/\DG (fun b=>w.heap.size<=b) w' sv ks)\/
   (¬ Ew o/\v'=.tuple #[.pointer none,.int .i64 3]))) (Value.tuple #[.pointer none,.int .i64 3]) W':=fun W' g hn=>⟨I1.g.trans g,.inr ⟨hn,rfl⟩⟩
  refine AU (fun _ V=>Grow W1 V/\BX (o.take i) o[i].id=none/\EK o[i]) ?_ ?_
  .rintro _ V ⟨J,X,a8⟩ _;have I2:=I1.grow J;refine Ag (fun k y=>k=7/\y=m) ?_;have T:Grow V V.drew:=Mod.drew _ _;have O:=I2.grow T;have c6:∀j u,o[i].cells[j]?=some u->V.drew.cell? ((⟨b6,0,none⟩:Addr).add j)=some u:=fun j u hu=>(J.trans T).cell (a7 j u hu) fun h=>h;refine AH ?_;rw[AG];refine Aa ⟨by rw[AI];exact O.c1,fun j Q e=>by obtain⟨rfl,_⟩:=e;exact absurd Q (by decide)⟩ ?_;rw[AG];refine Aa ⟨c6 0 _ rfl,fun j Q e=>by obtain⟨rfl,_⟩:=e;exact absurd Q (by decide)⟩ ?_;refine CL (vs:=o[i].cells) rfl (fun j u hu=>⟨c6 j u hu,fun j Q e=>by obtain⟨rfl,_⟩:=e;exact absurd Q (by decide)⟩) ?_;obtain⟨W4,al,an,m4⟩:=Pb underlying66 underlying3 O.mp o[i].id (.agg o[i].cells.toArray) (by rw[KU,X];rfl);refine Ai (v:=undef) (w':=W4) (by simp only[Sem.run_bind,al,Result.andThen_ok,Sem.run_pure]) ⟨m4.mono fun y _ e=>⟨rfl,e⟩,?_⟩;rw[AR,AQ (by omega)];refine⟨⟨i+1,B,rfl,⟨m4.cell O.c0 (fun e=>O.ne e.symm),m4.cell O.c1 (fun e=>O.ne e.symm),AF.mod O.row m4 (fun g hg e=>(O.own g hg).1 e) fun _ _ _ h=>h,?_,O.hb,O.hm,O.ne,O.own,O.g.next m4 fun x hx e=>by have:=O.hm;omega⟩,fun q hq k hk=>?_⟩,by rw[DI,DI];omega⟩
   .rw[List.take_add_one,U,List.map_append];exact an
   .by_cases e:q=i
    .subst e;rw[U] at hk;cases hk;refine⟨a8,fun j Q k' b2 e=>?_⟩;unfold BX at X;rw[List.find?_eq_none] at X;exact X k' (List.mem_of_getElem? (by rw[List.getElem?_take,if_pos Q];exact b2)) (by simpa using e)
    .exact Z q (by omega) k hk
  .refine AU (fun vs V=>Grow W1 V/\vs=[.bool (BX (o.take i) o[i].id).isSome]) ?_ ?_
   .rintro _ V ⟨J,rfl⟩ _;rw[CM,List.headD_cons];cases hf:BX (o.take i) o[i].id with
    |some k'=>
     refine Ao (bad _ J fun hM=>?_);have h1:=List.find?_some hf;have h2:=List.mem_of_find?_eq_some hf;obtain⟨j,Q,e⟩:=List.getElem_of_mem h2;rw[List.length_take] at Q;rw[List.getElem_take] at e;exact(hM.2 i B _ U).2 j (by omega) k' (by rw[List.getElem?_eq_getElem (by omega),e]) (by simpa using h1)
    |none=>
     refine AS (Ah (vs:=o[i].cells) rfl (fun j u hu=>J.cell (a7 j u hu) fun h=>h) ?_);refine AA Xe ?_;rintro _ W3 ⟨rfl,av⟩;rw[An];refine AY (fun a8=>⟨J.trans av,rfl,a8⟩) fun ax=>bad _ (J.trans av) fun hM=>ax (hM.2 i B _ U).1
   .refine Ag (fun k y=>k=11/\W1.heap.size<=y) ?_;have T:Grow W1 W1.drew:=Mod.drew _ _;have Id:=I1.grow T;refine AH ?_;rw[AG];refine Aa ⟨by rw[AI];exact Id.c1,fun j Q e=>by obtain⟨rfl,_⟩:=e;exact absurd Q (by decide)⟩ ?_;rw[AG];refine Aa ⟨T.cell (a7 0 _ rfl) fun h=>h,fun j Q e=>by obtain⟨rfl,_⟩:=e;exact absurd Q (by decide)⟩ ?_;have look:∀W',Grow W1.drew W'->(Instr.lookup 66 (.map (some m)) (.int .i64 o[i].id) true).run prog W'=.ok (.tuple #[.agg (((BX (o.take i) o[i].id)).getD DKey.zero).cells.toArray,.bool (BX (o.take i) o[i].id).isSome]) W':=fun W' g'=>by
     have:=KL underlying66 underlying3 (OX W') (Id.mp.mod g' fun h=>h) o[i].id;rw[this,KU];cases BX (o.take i) o[i].id<;>rfl
    generalize (BX (o.take i) o[i].id).getD DKey.zero=kz at look;have one:=Fy.one (w:=w) (x:=kz) rfl;refine⟨?_,?_⟩
    .refine Ai (look _ (Mod.refl _ _)) ⟨Mod.refl _ _,?_⟩;refine BK ?_;refine EI fun b7 W5 b3 b4 g7 _ ak=>⟨g7.mono fun _ _ h=>h.elim,?_⟩;refine CT rfl one ak fun W6 m6 _ _=>⟨m6.mono fun y _ e=>⟨rfl,by have:=T.size;omega⟩,?_,rfl⟩;exact(T.trans g7).next m6 fun x hx e=>by have:=T.size;omega
    .refine EI fun b7 W5 b3 b4 g7 _ ak=>⟨g7.mono fun _ _ h=>h.elim,?_⟩;refine Ai (look _ g7) ⟨Mod.refl _ _,?_⟩;refine BK ?_;refine CT rfl one ak fun W6 m6 _ _=>⟨m6.mono fun y _ e=>⟨rfl,by have:=T.size;omega⟩,?_,rfl⟩;exact(T.trans g7).next m6 fun x hx e=>by have:=T.size;omega
 .have:i=o.length:=by omega
  subst this;refine AH ?_;rw[AG];refine AL (by rw[AI];exact I.c0) ?_;refine AA (TZ I.row (by omega)) ?_;rintro _ V ⟨ks,hp,hs,o2,m2⟩;have hM:Ew o:=⟨by omega,Z⟩;obtain⟨_,_,hd⟩:=LF.1 hM;have ay:=hd.perm hp.symm;refine⟨I.g.next m2 fun x hx e=>by have:=(AF.BM I.row x e).1;omega,.inl ⟨hM,_,ks,rfl,hp,SP ay hs,b,m,rv,_,rfl,I.hb,I.hm,m2.cell I.c0 fun e=>(I.own _ e).2 rfl,m2.cell I.c1 fun e=>(I.own _ e).2 rfl,(AF.sl o2).sub (fun _ _ h=>h.1) (by decide) fun _ _ h=>h,I.mp.mod m2 fun e=>(I.own _ e).1 rfl,fun id=>?_⟩⟩;rw[List.take_length,KU,QN hp ay];cases BX o id<;>rfl
theorem Wb{w:World}(l:List DKey)(hl:l.length<=1000):L0 (fun b=>b=w.heap.size) (w.alloc (.cells (l.map DKey.cells).flatten.toArray 65)) (.slice (some ⟨w.heap.size,0,none⟩) l.length l.length) l:=by
 refine BH.made (t:=65) (l.map DKey.cells) (fun r hr=>by obtain⟨x,_,rfl⟩:=List.mem_map.1 hr;rfl) (by simp) (by simp only[maxLen];omega) fun i r x hr j=>?_;rw[List.getElem?_map,j] at hr;exact(Option.some.inj hr).symm
open Classical in
theorem Nz{D:Nat->Prop}{v:Value}{ks:List DKey}{id:Int}{x:BE}{w:World}(h:DG D w v ks)(J:EV w)(h0:0<=x.f) :
  AB prog 209 [v,.int .i64 id,.agg x.cells.toArray] (fun v' w'=>v'=.bool (decide (Gv ks id x))/\Grow w w') w:=by
 apply YO;have I:∀w',Grow w w'->¬Gv ks id x->Value.bool false=.bool (decide (Gv ks id x))/\Grow w w':=fun w' g h=>⟨by rw[decide_eq_false h],g⟩;refine Db fun b X _ Y g hc _=>?_;refine AA (Iu (h.grow g) id) ?_;rintro _ w2 ⟨rfl,O⟩;refine BK ?_;generalize hk:(BX ks id).getD DKey.zero=k;refine BO (vs:=k.cells) rfl rfl (Fy.one (w:=w) (x:=k) rfl) fun Z w3 Q S T B _=>?_;have o:=O.trans T;have i:=g.trans o;cases y:BX ks id with
 |none=>
  rw[Option.isSome_none];exact I _ i (by rintro⟨k,e,_⟩;rw[y] at e;cases e)
 |some U=>
  rw[y] at hk;simp only[Option.getD_some] at hk;subst hk;rw[Option.isSome_some];refine Ao ?_;rw[AG];refine AL (B 2 _ rfl) ?_;rw[AG];refine AL (o.cell (hc 0 _ rfl) fun h=>h) ?_;rw[Am];refine AE (fun he=>?_) fun he=>I _ i (by rintro⟨k,e,_,h⟩;rw[y] at e;cases e;exact he h.symm);refine Ah (vs:=x.cells) rfl (fun j u hu=>o.cell (hc j u hu) fun h=>h) (AA (Mh (J.grow i) h0) ?_);rintro _ w4 ⟨rfl,V⟩;refine⟨?_,i.trans V⟩;congr 1
  rw[decide_eq_decide];constructor
  .intro E;exact⟨U,y,E,he.symm⟩
  .rintro⟨_,_,E,_⟩;exact E
end Go.Proofs.YtmdhibffnkhcnaaGreatDoor
namespace Go.K
open Go
theorem MK{α:Type}{B e k:Nat}{R:World->List Value->α->Prop}{W:World}{a:Addr}{n c:Nat}{l:List α}{i j:Nat}{u:Value}{x':α}{K:World->Prop}(h:AF B e k R W (.slice (some a) n c) l)(E:i<l.length)(I:j<k)
 (hu:u.oneCell'=true)(o:u.cells=#[u])(J:∀x w2 r y,R x r y->R w2 r y)(O:∀x w2 r,R x r l[i]->R w2 (r.set j u) x')
 (Q:∀W',AF B e k R W' (.slice (some a) n c) (l.set i x')->Mod (fun b=>b=a.block) W W'->K W'):BD (.pointer (some (a.add (i*k+j)))) u K W:=by
 obtain⟨⟨v,S⟩,T,U,hm⟩:=AF.store (R':=R) (u:=u) (x':=x') (j:=j) h E I hu (fun r y _ hr=>J _ _ _ _ hr) (fun r hr=>O _ _ _ hr);exact K8 hu o S T (Q _ U hm)
end Go.K
namespace Go.Proofs.YtmdhibffnkhcnaaGreatDoor
open Go Go.K Proofs.Tryz
def Ff:Kd (List Attr) where
 μ:=fun _=>(1,0)
 cut:=fun x _=>(x,[])
 meld:=fun _ _=>none
theorem Ra{w:World}(v:Value):BF prog DF JV.vm [v] (fun v w'=>v=.tuple #[.int .i64 1,.int .i64 0]/\Grow w w') w:=by
 refine⟨_,[],[],rfl,by kernel_rfl,?_⟩;apply V4;exact⟨rfl,Mod.refl _ _⟩
theorem SG{w:World}(a b:Value):BF prog DF JV.vd [a,b] (fun v w'=>Grow w w'/\∃u,v=.tuple #[u,.bool false]) w:=by
 refine⟨_,[],[],rfl,by kernel_rfl,?_⟩;apply Wl;exact⟨Mod.refl _ _,_,rfl⟩
abbrev CY(C:Nat->Prop)(w:World)(r:List Value)(x:List Attr):Prop:=∃sv,r=[sv]/\Cv C w sv x
def Az:Av1 (List Attr) where
 toAvK:=JV
 k:=Ff
 R:=CY
 pb:=72
 eb:=24
 pb_le:=by decide
 eb_le:=by decide
 Epos:=by decide
 E1:=fun _=>rfl
 rlen:=fun⟨_,e,_⟩=>by subst e;rfl
 rone:=fun⟨sv,e,h⟩ u hu=>by
  subst e;obtain⟨a,c,rfl,_⟩:=h.shape;simp at hu;subst hu;rfl
 rcell:=fun⟨sv,e,h⟩=>by
  subst e;obtain⟨a,c,rfl,_⟩:=h.shape;rfl
 rheap:=fun⟨sv,e,h⟩ i=>⟨sv,e,h.mono (fun _ _ h=>h) i (by decide) fun _ _ h=>h⟩
 rsub:=fun⟨sv,e,h⟩ i=>⟨sv,e,h.sub i (by decide) fun _ _ h=>h⟩
 zlen:=rfl
 zone:=fun u hu=>by
  have hu:u∈[Value.slice none 0 0]:=hu;simp at hu;subst hu;rfl
 elP:=⟨Tryz.t347,.agg #[.slice none 0 0,.int .i64 0,.int .i64 0,.int .i64 0,.int .i64 0,.int .i64 0,.bool false],by kernel_rfl,by kernel_rfl,by kernel_rfl,by kernel_rfl,by kernel_rfl,by rfl,by decide⟩
 elE:=⟨Tryz.t43,.slice none 0 0,by kernel_rfl,by kernel_rfl,by kernel_rfl,by kernel_rfl,by kernel_rfl,by rfl,by decide⟩
 field0:=fun r t w hr o ht=>by
  match r,hr with
  |[a],_=>
   have hu:=underlying304;have j:=Tryz.isAgg43;have e:(Instr.field 304 (.agg ([a]++t).toArray) 0).run prog w=.ok a w:=by
    simp[Instr.field,run_underlying hu,part,j,asAgg]
   exact e
 ok:=XC
 cutμ:=fun x p h0 h1=>by simp only[Ff] at h1;omega
 meldμ:=fun x y z h=>by cases h
 meas:=fun{C w r x} _=>Ra _
 one1:=rfl
 ok1:=Tz
 μ1:=fun _=>rfl
 meld0:=fun _ _=>rfl
 meldc:=fun{C w r s x y} _ _=>SG _ _
def TM(g:AvK)(v0:Value)(K:Cont)(w:World):Prop:=
 Ar (fun _vs I=>∀_:Env,
 AJ v0 fun i=>
 AM 0 i fun j=>
 AK j (fun o w2=>
 K o w2) I) (fun J=>
 AJ v0 fun t4=>
 AM 0 t4 fun t5=>
 AK t5 (fun O E=>
 CX O fun Q=>
 AD (.bool Q)
 (Ae [(0,1),(1,1),(2,1)] [.nilFunc,.nilFunc,.nilFunc] [(0,g.vm),(1,g.vc),(2,g.vd)] fun t9=>
 AB prog g.fNew [t9] (fun x w4=>
 AJ v0 fun y=>
 AM 0 y fun B=>
 BD B x (fun S=>
 J [] S) w4) E)
 (J [] E)) w)
def aw(g:AvK)(ft:Nat)(v0:Value)(K:Cont)(w:World):Prop:=
 CX v0 fun i=>
 AD (.bool i)
 (K (.int .i64 0) w)
 (AB prog ft [v0] (fun j o=>
 AB prog g.fSize [j] (fun x w2=>
 K x w2) o) w)
def WG(fl:Nat)(v0 v1 v2:Value)(K:Cont)(w:World):Prop:=
 CX v0 fun y=>
 AD (.bool y)
 (K (.int .i64 1) w)
 (Be .i64 v1 (.int .i64 0) fun i=>
 AD i
 (K (.int .i64 5) w)
 (EZ .i64 v1 v2 fun j=>
 AD j
 (K (.int .i64 5) w)
 (AB prog fl [v0] (fun o x=>
 EZ .i64 v2 o fun t22=>
 AD t22
 (K (.int .i64 5) x)
 (K (.int .i64 0) x)) w)))
structure Yp (g:AvK) where
 ft:Nat
 fl:Nat
 fb:Nat
 tree:∀{v0 K w},TM g v0 K w->AB prog ft [v0] K w
 len:∀{v0 K w},aw g ft v0 K w->AB prog fl [v0] K w
 db:∀{v0 v1 v2 K w},WG fl v0 v1 v2 K w->AB prog fb [v0,v1,v2] K w
 dw:g.vm.cells=#[g.vm]
 eE:g.vc.cells=#[g.vc]
 dx:g.vd.cells=#[g.vd]
def G8:Yp IN:=⟨99,111,97,fun h=>Ze h,fun h=>WT h,fun h=>aH h,rfl,rfl,rfl⟩
def Ek:Yp JV:=⟨104,57,101,fun h=>WD h,fun h=>bC h,fun h=>Wh h,rfl,rfl,rfl⟩
def Dt:Yp Fv:=⟨89,54,94,fun h=>Zi h,fun h=>ZU h,fun h=>Z7 h,rfl,rfl,rfl⟩
variable {α:Type}{g:AvT α}
def Tu(g:AvT α)(F C:Nat->Prop)(W:World)(b:Nat)(l:List α)(N:Nat):Prop:=∃A T,DJ g F C W b T.root A/\Tr.Holds g.k.μ A.f T/\Tr.FL T/\T.toL=l/\A.ps.length<=N
theorem Tu.mod{F C M:Nat->Prop}{W W':World}{b N:Nat}{l:List α}(h:Tu g F C W b l N)(hm:Mod M W W')(i:∀x,F x\/C x->¬M x):Tu g F C W' b l N:=by
 obtain⟨A,T,h,r⟩:=h;exact⟨A,T,h.mod hm i,r⟩
theorem TJ{C:Nat->Prop}{W:World}(hC:∀x,C x->x<W.heap.size) :
  AB prog g.fNew [.agg #[g.vm,g.vc,g.vd]] (fun v' w'=>∃b F,v'=.pointer (some ⟨b,0,none⟩)/\W.heap.size<=b/\(∀x,F x->W.heap.size<=x)/\Tu g F C w' b [] 0/\Grow W w') W:=by
 apply g.ok.new;unfold YY;refine Bx.box (vs:=[g.vm,g.vc,g.vd]) fun b1 o U S V=>?_;have I:Grow o o.drew:=Mod.drew _ _;have z1:=S.size;have zd:=I.size;refine Ag (fun _ _=>False) ?_;refine CL (vs:=[g.vm,g.vc,g.vd]) rfl (fun j v X=>⟨by rw[AI];exact(V.grow I).cells j v X,fun _ _ e=>e⟩) ?_;refine AA (Vz (g:=g) (C:=C) fun x J=>by have:=hC x J;omega) ?_;rintro _ w2 ⟨rfl,Y,O,Z⟩;refine⟨O.mono fun _ _ h=>h.elim,?_⟩;have y:Instr.fill (fun i=>[(0,3),(3,1),(4,1)][i]?) [Value.nilFunc,.nilFunc,.nilFunc,.pointer none,.int .i64 0].toArray [(0,.agg [g.vm,g.vc,g.vd].toArray),(1,.pointer (some ⟨o.drew.heap.size,0,none⟩)),(2,.int .i64 (-1))]=some (YW g o.drew.heap.size (-1)).toArray:=by
  rw[Ce (vs:=[g.vm,g.vc,g.vd]) (off:=0) (len:=3) rfl rfl rfl (by decide),Ce (vs:=[.pointer (some ⟨o.drew.heap.size,0,none⟩)]) (off:=3) (len:=1) rfl rfl rfl (by simp[Hx]),Ce (vs:=[.int .i64 (-1)]) (off:=4) (len:=1) rfl rfl rfl (by simp[Hx]),Ej];rfl
 refine⟨_,y,?_⟩;refine Bx.box fun B w3 a1 E T=>⟨E.mono fun _ _ h=>h.elim,?_⟩;have z2:=O.size;have z3:=E.size;have Q:=T.lt (Nat.succ_pos _);refine⟨B,fun x=>x=o.drew.heap.size\/x=B,rfl,by omega,fun x J=>by rcases J with e|e<;>omega,⟨ArS.z,.nil,⟨o.drew.heap.size,.slice none 0 0,.slice none 0 0,T,?_,.inr rfl,fun h=>by have:=hC B h;omega⟩,trivial,List.nodup_nil,rfl,Nat.zero_le _⟩,((S.trans I).trans O).trans E⟩;have e:(fun x=>(x=o.drew.heap.size\/x=B)/\x≠B)=fun x=>x=o.drew.heap.size:=by
  funext x
  refine propext ⟨fun h=>h.1.elim (fun h=>h) fun e=>(h.2 e).elim,fun h=>⟨.inl h,by omega⟩⟩
 rw[e];exact Z.grow E
structure DD (g:AvT α) (F C:Nat->Prop) (W:World) (b bt:Nat) (l:List α) (N:Nat):Prop where
 box:Bx W b [.pointer (some ⟨bt,0,none⟩)]
 Dh:Tu g (fun x=>F x/\x≠b) C W bt l N
 fb:F b/\¬C b
theorem DD.mod{F C M:Nat->Prop}{W W':World}{b bt N:Nat}{l:List α}(h:DD g F C W b bt l N)(hm:Mod M W W')(i:∀x,F x\/C x->¬M x):DD g F C W' b bt l N:=
 ⟨h.box.mod hm (i b (.inl h.fb.1)),h.Dh.mod hm fun x j=>i x (j.imp (fun h=>h.1) fun h=>h),h.fb⟩
theorem DD.grow{F C:Nat->Prop}{W W':World}{b bt N:Nat}{l:List α}(h:DD g F C W b bt l N)(hm:Grow W W'):DD g F C W' b bt l N:=h.mod hm fun _ _ h=>h
theorem DD.lt{F C:Nat->Prop}{W:World}{b bt N:Nat}{l:List α}(h:DD g F C W b bt l N):∀x,F x\/C x->x<W.heap.size:=by
 obtain⟨A,T,h1,_⟩:=h.Dh;intro x i;by_cases e:x=b
 .subst e;exact h.box.lt (Nat.succ_pos _)
 .exact h1.lt x (i.imp (fun h=>⟨h,e⟩) fun h=>h)
theorem DD.Ht{F C:Nat->Prop}{W:World}{b bt N:Nat}{l:List α}(h:DD g F C W b bt l N):∀x,F x->¬C x:=by
 obtain⟨A,T,h1,_⟩:=h.Dh;intro x i;by_cases e:x=b
 .subst e;exact h.fb.2
 .exact h1.Ht x ⟨i,e⟩
theorem Dn{F C:Nat->Prop}{W:World}{b bt N:Nat}{l:List α}(o:Yp g.toAvK)(h:DD g F C W b bt l N):AB prog o.ft [.pointer (some ⟨b,0,none⟩)] (fun v' w'=>v'=.pointer (some ⟨bt,0,none⟩)/\w'=W) W:=by
 apply o.tree;unfold TM;refine AU (fun _ W'=>W'=W) ?_ ?_
 .rintro _ _ rfl _;rename World=>W
  refine AH ?_;rw[AG,AI];exact AL (h.box.cells 0 _ rfl) ⟨rfl,rfl⟩
 .refine AH ?_;refine Bm (h.box.cells 0 _ rfl) ?_;exact Cs (AS rfl)
theorem Zm{C:Nat->Prop}{W:World}{b:Nat}(o:Yp g.toAvK)(B:Bx W b [.pointer none])(hb:¬C b)(hC:∀x,C x->x<W.heap.size) :
  AB prog o.ft [.pointer (some ⟨b,0,none⟩)] (fun v' w'=>∃bt F,v'=.pointer (some ⟨bt,0,none⟩)/\DD g F C w' b bt [] 0/\(∀x,F x->x=b\/W.heap.size<=x)/\Mod (fun x=>x=b) W w') W:=by
 apply o.tree;unfold TM;have J:=B.lt (Nat.succ_pos _);refine AU (fun _ W'=>∃bt F,DD g F C W' b bt [] 0/\(∀x,F x->x=b\/W.heap.size<=x)/\Mod (fun x=>x=b) W W') ?_ ?_
 .rintro _ W' ⟨bt,F,h,S,T⟩ _;refine AH ?_;rw[AG,AI];exact AL (h.box.cells 0 _ rfl) ⟨bt,F,rfl,h,S,T⟩
 .refine AH ?_;refine Bm (B.cells 0 _ rfl) ?_;refine⟨none,rfl,Ao ?_⟩;have y:Instr.fill (fun i=>[(0,1),(1,1),(2,1)][i]?) [Value.nilFunc,.nilFunc,.nilFunc].toArray [(0,g.vm),(1,g.vc),(2,g.vd)]=some [g.vm,g.vc,g.vd].toArray:=by
   rw[Ce (vs:=[g.vm]) (off:=0) (len:=1) rfl o.dw rfl (by decide),Ce (vs:=[g.vc]) (off:=1) (len:=1) rfl o.eE rfl (by simp[Hx]),Ce (vs:=[g.vd]) (off:=2) (len:=1) rfl o.dx rfl (by simp[Hx]),Ej];rfl
  refine⟨_,y,?_⟩;refine AA (TJ (g:=g) hC) ?_;rintro _ w4 ⟨bt,F,rfl,U,E,V,O⟩;refine AH ?_;rw[AG,AI];refine(B.grow O).st (q:=0) (show 0<1 by decide) rfl rfl fun Y X Q=>?_;have I:=V.mod Q fun x j e=>by
   rcases j with j|j
   .have:=E x j;omega
   .exact hb (e▸j)
  refine⟨bt,fun x=>F x\/x=b,⟨X,?_,.inr rfl,hb⟩,fun x j=>?_,(O.mono fun _ _ h=>h.elim).trans Q⟩
  .have e:(fun x=>(F x\/x=b)/\x≠b)=F:=by
    funext x
    refine propext ⟨fun h=>h.1.elim (fun h=>h) fun e=>(h.2 e).elim,fun h=>⟨.inl h,fun e=>?_⟩⟩;have:=E x h;omega
   rw[e];exact I
  .rcases j with j|j
   .exact .inr (E x j)
   .exact .inl j
theorem LH{F C:Nat->Prop}{W:World}{b bt N:Nat}{l:List α}(o:Yp g.toAvK)(h:DD g F C W b bt l N):AB prog o.fl [.pointer (some ⟨b,0,none⟩)] (fun v' w'=>v'=.int .i64 (Tr.sz g.k.μ l)/\Grow W w') W:=by
 apply o.len;unfold aw;refine Cs (AS ?_);refine AA (Dn o h) ?_;rintro _ _ ⟨rfl,rfl⟩;rename World=>W
 obtain⟨A,T,h1,i,x,j,y⟩:=h.Dh;have:=OY h1 i;rw[j] at this;exact this
theorem TR{C:Nat->Prop}{W:World}{b:Nat}(o:Yp g.toAvK)(j:Bx W b [.pointer none])(hb:¬C b)(hC:∀x,C x->x<W.heap.size) :
  AB prog o.fl [.pointer (some ⟨b,0,none⟩)] (fun v' w'=>v'=.int .i64 0/\∃bt F,DD g F C w' b bt [] 0/\(∀x,F x->x=b\/W.heap.size<=x)/\Mod (fun x=>x=b) W w') W:=by
 apply o.len;unfold aw;refine Cs (AS ?_);refine AA (Zm o j hb hC) ?_;rintro _ I ⟨bt,F,rfl,h,y,B⟩;obtain⟨A,T,k1,k2,J,E,O⟩:=h.Dh;have:=OY k1 k2;rw[E] at this;refine AA this ?_;rintro _ w2 ⟨rfl,i⟩;exact⟨rfl,bt,F,h.grow i,y,B.trans (i.mono fun _ _ h=>h.elim)⟩
def IK(i j n:Int):Int:=if i<0 then 5 else if j<i then 5 else if n<j then 5 else 0
theorem Hp{F C:Nat->Prop}{W:World}{b bt N:Nat}{l:List α}{i j:Int}(o:Yp g.toAvK)(h:DD g F C W b bt l N):AB prog o.fb [.pointer (some ⟨b,0,none⟩),.int .i64 i,.int .i64 j] (fun v' w'=>v'=.int .i64 (IK i j (Tr.sz g.k.μ l))/\Grow W w') W:=by
 apply o.db;unfold WG IK;refine Cs (AS ?_);rw[Av];refine AE (fun e=>⟨by rw[if_pos e],Mod.refl _ _⟩) fun x=>?_;rw[BL];refine AE (fun e=>⟨by rw[if_neg x,if_pos e],Mod.refl _ _⟩) fun y=>?_;refine AA (LH o h) ?_;rintro _ I ⟨rfl,B⟩;rw[BL];refine AE (fun e=>⟨by rw[if_neg x,if_neg y,if_pos e],B⟩) fun E=>⟨by rw[if_neg x,if_neg y,if_neg E],B⟩
theorem Hw{F C S:Nat->Prop}{W:World}{b bt N i j:Nat}{l L:List α}{v:Value}(O:P5 g)(h:DD g F C W b bt l N)(hN:N+L.length<=109951162000)(Q:BH S g.E (g.R C) W v L)(U:∀x,S x->¬F x)(y:i<=j)(V:j<=1099511627776)
 (X:Dc g l)(Y:Dc g (g.k.Bn l i j L))(Z:Dc g ((g.k.split l i).1.getLast?.toList++L++(g.k.split (g.k.split l i).2 (j-i)).2.head?.toList)) :
  AB prog g.fReplace [.pointer (some ⟨bt,0,none⟩),.int .i64 (i:Int),.int .i64 (j:Int),v] (fun _ w'=>∃F',(∀x,F x->F' x)/\(∀x,F' x->F x\/W.heap.size<=x)/\DD g F' C w' b bt (g.k.Bn l i j L) (N+L.length+4)/\Mod F W w') W:=by
 obtain⟨A,T,h1,h2,h3,rfl,h5⟩:=h.Dh;have B:=h.box.lt (Nat.succ_pos _);refine AA (O h1 (by omega) h2 h3 Q (fun x o e=>U x o e.1) y V X Y Z) ?_;rintro _ w' ⟨T',A',e1,⟨F',k1,k2,k3,I⟩,e2,e3,e4⟩;refine⟨fun x=>F' x\/x=b,fun x o=>?_,fun x o=>?_,⟨h.box.mod I fun e=>e.2 rfl,⟨A',T',?_,e2,e3,e1,by omega⟩,.inr rfl,h.fb.2⟩,I.mono fun x _ e=>e.1⟩
 .by_cases e:x=b
  .exact .inr e
  .exact .inl (k1 x ⟨o,e⟩)
 .rcases o with o|rfl
  .exact(k2 x o).imp (fun h=>h.1) fun h=>h
  .exact .inl h.fb.1
 .have e:(fun x=>(F' x\/x=b)/\x≠b)=F':=by
   funext x
   refine propext ⟨fun h=>h.1.elim (fun h=>h) fun e=>(h.2 e).elim,fun o=>⟨.inl o,fun e=>?_⟩⟩;rcases k2 x o with J|J
   .exact J.2 e
   .omega
  rw[e];exact k3
end Go.Proofs.YtmdhibffnkhcnaaGreatDoor
namespace Go.Proofs.YtmdhibffnkhcnaaGreatDoor
open Go Go.K Proofs.Tryz
abbrev BS(l:List Ck):List Int:=l.flatMap Ck.l
theorem GH:Ck.kd.Ei Ck.l where
 size:=fun _=>rfl
 cut1:=fun _ _ _ _=>⟨rfl,rfl⟩
 melds:=fun a b c h=>by
  simp only[Ck.kd] at h;split at h
  .rename_i i;cases h;have j:a.jn b=⟨a.l++b.l,by simpa using i⟩:=dif_pos i;rw[j]
  .cases h
theorem FB(l:List Ck):Tr.sz Ck.kd.μ l=(BS l).length:=GH.sz l
theorem NU(l:List Ck):Tr.mk Ck.kd.μ l=BW (BS l):=by
 induction l with
 |nil=>rfl
 |cons c l i=>rw[Tr.Ca,i];show BW c.l+BW (BS l)=BW (c.l++BS l);rw[BW,BW,BW,List.count_append]
theorem PB(l r:Tr Ck)(i:Nat)(x:Ck):BS (Tr.node l i x r).toL=BS l.toL++(x.l++BS r.toL):=by
 simp[BS,Tr.toL]
theorem DO(l:List Int):BW l<=l.length:=List.count_le_length
theorem Ex(a b:List Int):BW (a++b)=BW a+BW b:=List.count_append
theorem KP(a b:List Int)(k:Nat):GY (a++b) k=if k<BW a then GY a k else(GY b (k-BW a)).map (·+a.length):=by
 induction a generalizing k with
 |nil=>simp[BW]
 |cons r a j=>
  have i:∀o:Option Nat,(o.map (·+a.length)).map (·+1)=o.map (·+(r::a).length):=fun o=>by cases o<;>simp;omega
  rw[List.cons_append,GD,GD];by_cases h:r=10
  .have e:BW (r::a)=BW a+1:=by rw[h];simp[BW]
   rw[if_pos h,if_pos h,e];cases k with
   |zero=>simp
   |succ k=>
    simp only[j];by_cases hk:k<BW a
    .rw[if_pos hk,if_pos (by omega)]
    .rw[if_neg hk,if_neg (by omega),i,Nat.add_sub_add_right]
  .have e:BW (r::a)=BW a:=by simp[BW,h]
   rw[if_neg h,if_neg h,e,j];by_cases hk:k<BW a
   .rw[if_pos hk,if_pos hk]
   .rw[if_neg hk,if_neg hk,i]
theorem Mm{l:List Int}{k:Nat}(h:k<BW l):∃i,GY l k=some i/\i<l.length:=by
 induction l generalizing k with
 |nil=>simp[BW] at h
 |cons r a j=>
  rw[GD];by_cases e:r=10
  .rw[if_pos e];cases k with
   |zero=>exact⟨0,rfl,by simp⟩
   |succ k=>
    obtain⟨i,h1,o⟩:=j (k:=k) (by rw[e] at h;simp[BW] at h ⊢;omega);exact⟨i+1,by simp[h1],by simp;omega⟩
  .rw[if_neg e];obtain⟨i,h1,o⟩:=j (k:=k) (by simpa[BW,e] using h);exact⟨i+1,by simp[h1],by simp;omega⟩
def QX(A:ArS Ck)(v:Value):Nat:=match v with
 |.int _ i=>if i<0 then 0 else match A.f i.toNat with
  |some n=>(n.h:Int).toNat
  |none=>0
 |_=>0
theorem Ed{A:ArS Ck}{t:Tr Ck}(h:Tr.Holds Ck.kd.μ A.f t):QX A (.int .i64 t.root)=t.ht:=by
 cases t with
 |nil=>rfl
 |node l i x r=>
  obtain⟨_,_,j⟩:=h;have e:QX A (.int .i64 ((i:Nat):Int))=match A.f i with
   |some n=>(n.h:Int).toNat
   |none=>0:=by
   unfold QX;simp only[Int.toNat_natCast];exact if_neg (by omega)
  show QX A (.int .i64 ((i:Nat):Int))=_;rw[e,j];simp[Tr.Dd]
theorem Ps{v0 v1 v2:Value}{K:Cont}{w:World}(h:Sy Fv v0 v1 v2 K w):AB prog 108 [v0,v1,v2] K w:=Wu h
theorem RV{v0 v1 v2:Value}{K:Cont}{w:World}(h:Yo Fv v0 v1 v2 K w):AB prog 91 [v0,v1,v2] K w:=bF h
theorem PM{v0:Value}{K:Cont}{w:World}(h:Ta Fv v0 K w):AB prog 90 [v0] K w:=Z0 h
set_option maxRecDepth 4000 in
theorem O5{F C:Nat->Prop}{W:World}{b p:Nat}{A:ArS Ck}{T:Tr Ck}(h:DJ Aq.toAvT F C W b T.root A)(hh:Tr.Holds Aq.k.μ A.f T)(hp:p<=1099511627776)(hb:Dc Aq.toAvT T.toL) :
  AB prog 108 [.pointer (some ⟨b,0,none⟩),.int .i64 (p:Int),.func (.func 109) #[] #[]] (fun v' w'=>v'=.int .i64 (BW ((BS T.toL).take p):Int)/\Grow W w') W:=by
 apply Ps;unfold Sy;refine AH ?_;obtain⟨c,pl,fr,V⟩:=id h;refine Bm (V.box.cells 4 _ rfl) ?_;have X:(BS T.toL).length<=1099511627776:=by rw[<-FB];exact hb.1
 have hN:BW ((BS T.toL).take p)<=1099511627776:=Nat.le_trans (DO _) (by rw[List.length_take];omega);generalize Y:BW ((BS T.toL).take p)=N at hN;refine Af (fun vs W'=>∃(t:Tr Ck) (q m:Nat),vs=[.int .i64 (q:Int),.int .i64 (m:Int),.int .i64 t.root]/\Tr.Holds Aq.k.μ A.f t/\(BS t.toL).length<=1099511627776/\q<=p/\m+BW ((BS t.toL).take q)=N/\Grow W W')
  (fun vs _=>QX A (nth vs 2)) ⟨T,p,0,rfl,hh,X,Nat.le_refl _,by rw[Nat.zero_add];exact Y,Mod.refl _ _⟩ ?_
 rintro vs W1 ⟨t,q,m,rfl,y,J,hq,hm,O⟩ _;simp only[GJ];rw[Bg];cases t with
 |nil=>
  refine AY (fun _=>?_) fun e=>(e rfl).elim;have:m=N:=by simpa[BS,Tr.toL,BW] using hm
  subst this;exact⟨rfl,O⟩
 |node l i x r=>
  obtain⟨hl,hr,hi⟩:=id y;have Z:=PB l r i x;rw[Z] at hm J;rw[List.length_append,List.length_append] at J;have h1:=h.grow O;refine AY (fun e=>by simp only[Tr.root] at e;omega) fun _=>?_;simp only[Tr.root];refine DQ h1 hi fun rc bx w3 g3 an B Q=>?_;have o:=Aq.rlen Q;obtain rfl:rc=x.cells:=Q;have h3:=h1.grow g3;refine Bm (B.cells (Aq.E+0) _ (by rw[AV o];rfl)) ?_;refine AA (Bs h3 hl) ?_;rintro _ w5 ⟨rfl,g5⟩;refine JZ ?_;have S:Grow w5 w5.drew:=Mod.drew _ _;have U:=(g3.trans g5).trans S;obtain⟨c,pl,fr,V⟩:=id h1;have a1:=V.mod U fun _ _ h=>h;have B5:=(B.grow g5).grow S;refine Ag (fun _ _=>False) ?_;refine AH ?_;rw[AG,AI,AG,AI];refine Aa ⟨a1.box.cells 0 _ rfl,fun _ _ e=>e⟩ ?_;rw[AG,AI];refine IH (g:=Aq.toAvT) (r:=x.cells) o (fun j v hv=>⟨B5.cells j v (by rw[List.getElem?_append_left (List.getElem?_eq_some_iff.1 hv).1];exact hv),fun _ _ e=>e⟩) ?_;refine As (Aq.meas (C:=C) (x:=x) rfl) ?_;rintro _ w6 ⟨rfl,g6⟩;refine⟨g6.mono fun _ _ h=>h.elim,?_⟩;refine BK ?_;have I:=U.trans g6;have B6:=B5.grow g6;have es:Tr.sz Aq.k.μ l.toL=(BS l.toL).length:=FB _;have em:Tr.mk Aq.k.μ l.toL=BW (BS l.toL):=NU _;have a6:(Aq.k.μ x).1=x.l.length:=rfl;have a7:(Aq.k.μ x).2=BW x.l:=rfl;rw[es,em,a6,a7,HR];have av:=DO x.l;have ax:=DO (BS l.toL);refine AE (fun ay=>?_) fun al=>?_
  .rw[List.take_append_of_le_length (by omega)] at hm;refine Bm (B6.cells (Aq.E+0) _ (by rw[AV o];rfl)) ?_;refine⟨⟨l,q,m,rfl,hl,by omega,hq,hm,O.trans I⟩,?_⟩;have e1:QX A (.int .i64 (i:Int))=(Tr.node l i x r).ht:=Ed y;have e2:QX A (.int .i64 (Tr.Dd Aq.k.μ (.node l i x r) x l.root r.root).l)=l.ht:=Ed hl;refine Nat.lt_of_le_of_lt (Nat.le_of_eq e2) (Nat.lt_of_lt_of_le ?_ (Nat.le_of_eq e1.symm));simp only[Tr.ht];omega
  have a8:(BS l.toL).length<q:=by omega
  rw[List.take_append,List.take_of_length_le (by omega:(BS l.toL).length<=q),Ex] at hm;refine Bw (by omega) ?_;refine Hq (fun b0=>?_) fun b1=>?_
  .rw[List.take_append_of_le_length (by omega)] at hm;refine Bw (by omega) ?_;rw[AG,AI];refine Ah (vs:=x.cells) o (fun j u hu=>by rw[AI];exact B6.cells j u (by rw[List.getElem?_append_left (List.getElem?_eq_some_iff.1 hu).1];exact hu)) ?_;refine Fw (by omega) (by omega) ?_;refine HB (by kernel_rfl) ?_;refine AA (OV x _) ?_;rintro _ b2 ⟨rfl,ak⟩;refine Bw (by omega) ⟨?_,(O.trans I).trans ak⟩;congr 2;omega
  .rw[List.take_append,List.take_of_length_le (by omega:x.l.length<=q-(BS l.toL).length),Ex] at hm;refine Bw (by omega) (Bw (by omega) (Bw (by omega) (Fw (by omega) (by omega) ?_)));refine Bm (B6.cells (Aq.E+1) _ (by rw[AV o];rfl)) ?_;refine⟨⟨r,q-((BS l.toL).length+x.l.length),m+(BW (BS l.toL)+BW x.l),rfl,hr,by omega,by omega,?_,O.trans I⟩,?_⟩
   .rw[Nat.sub_sub] at hm;omega
   .have e1:QX A (.int .i64 (i:Int))=(Tr.node l i x r).ht:=Ed y;have e2:QX A (.int .i64 (Tr.Dd Aq.k.μ (.node l i x r) x l.root r.root).r)=r.ht:=Ed hr;refine Nat.lt_of_le_of_lt (Nat.le_of_eq e2) (Nat.lt_of_lt_of_le ?_ (Nat.le_of_eq e1.symm));simp only[Tr.ht];omega
theorem bz{w:World}(c:Ck){k i:Nat}(hk:k<=1099511627776)(h:GY c.l k=some i):AB prog 92 [.agg c.cells.toArray,.int .i64 (k:Int)] (fun v w'=>v=.int .i64 (i:Int)/\Grow w w') w:=by
 apply ah;refine Bx.box fun b x hb j B=>?_;refine B.Er c.len ?_;refine AA (NV c hk) ?_;rintro _ w2 ⟨rfl,o⟩;rw[h,da];exact CJ (vs:=[_,_]) (by rfl) (CJ (vs:=[_,_]) (by rfl) ⟨rfl,j.trans o⟩)
set_option maxRecDepth 4000 in
theorem Xs{F C:Nat->Prop}{W:World}{b k p:Nat}{A:ArS Ck}{T:Tr Ck}(h:DJ Aq.toAvT F C W b T.root A)(hh:Tr.Holds Aq.k.μ A.f T)(hk:k<=1099511627776)(hb:Dc Aq.toAvT T.toL)(hp:GY (BS T.toL) k=some p) :
  AB prog 91 [.pointer (some ⟨b,0,none⟩),.int .i64 (k:Int),.func (.func 92) #[] #[]] (fun v' w'=>v'=.tuple #[.int .i64 (p:Int),.bool true]/\Grow W w') W:=by
 apply RV;unfold Yo;refine AH ?_;obtain⟨c,pl,fr,Y⟩:=id h;refine Bm (Y.box.cells 4 _ rfl) ?_;have ay:(BS T.toL).length<=1099511627776:=by rw[<-FB];exact hb.1
 refine Af (fun vs W'=>∃(t:Tr Ck) (q m z:Nat),vs=[.int .i64 (q:Int),.int .i64 (m:Int),.int .i64 t.root]/\Tr.Holds Aq.k.μ A.f t/\m+(BS t.toL).length<=1099511627776/\q<=k/\GY (BS t.toL) q=some z/\m+z=p/\Grow W W')
  (fun vs _=>QX A (nth vs 2)) ⟨T,k,0,p,rfl,hh,by omega,Nat.le_refl _,hp,Nat.zero_add _,Mod.refl _ _⟩ ?_
 rintro vs W1 ⟨t,q,m,z,rfl,I,O,hq,o,Z,X⟩ _;simp only[GJ];refine AU (fun _ W'=>W'=W1) ?_ ?_;rotate_left
 .rw[Da];refine AE (fun _=>?_) fun e=>(e (by omega)).elim;rw[Bg];refine AY (fun e=>?_) fun _=>rfl;cases t with
  |nil=>cases o
  |node l i x r=>simp only[Tr.root] at e;omega
 rintro _ _ rfl _;rename World=>W1
 cases t with
 |nil=>cases o
 |node l i x r=>
  obtain⟨hl,hr,hi⟩:=id I;have a1:=PB l r i x;rw[a1] at o O;rw[List.length_append,List.length_append] at O;have h1:=h.grow X;simp only[Tr.root];refine DQ h1 hi fun rc bx w3 g3 b0 B Q=>?_;have y:=Aq.rlen Q;obtain rfl:rc=x.cells:=Q;have h3:=h1.grow g3;refine Bm (B.cells (Aq.E+0) _ (by rw[AV y];rfl)) ?_;refine AA (Bs h3 hl) ?_;rintro _ w5 ⟨rfl,g5⟩;refine JZ ?_;have S:Grow w5 w5.drew:=Mod.drew _ _;have U:=(g3.trans g5).trans S;obtain⟨c,pl,fr,Y⟩:=id h1;have a6:=Y.mod U fun _ _ h=>h;have B5:=(B.grow g5).grow S;refine Ag (fun _ _=>False) ?_;refine AH ?_;rw[AG,AI,AG,AI];refine Aa ⟨a6.box.cells 0 _ rfl,fun _ _ e=>e⟩ ?_;rw[AG,AI];refine IH (g:=Aq.toAvT) (r:=x.cells) y (fun j v hv=>⟨B5.cells j v (by rw[List.getElem?_append_left (List.getElem?_eq_some_iff.1 hv).1];exact hv),fun _ _ e=>e⟩) ?_;refine As (Aq.meas (C:=C) (x:=x) rfl) ?_;rintro _ w6 ⟨rfl,g6⟩;refine⟨g6.mono fun _ _ h=>h.elim,?_⟩;refine BK ?_;have J:=U.trans g6;have B6:=B5.grow g6;have es:Tr.sz Aq.k.μ l.toL=(BS l.toL).length:=FB _;have em:Tr.mk Aq.k.μ l.toL=BW (BS l.toL):=NU _;have a7:(Aq.k.μ x).1=x.l.length:=rfl;have a8:(Aq.k.μ x).2=BW x.l:=rfl;rw[es,em,a7,a8,Av];have b1:=DO x.l;have b2:=DO (BS l.toL);rw[KP] at o;refine AE (fun b3=>?_) fun av=>?_
  .rw[if_pos (by omega)] at o;refine Bm (B6.cells (Aq.E+0) _ (by rw[AV y];rfl)) ?_;refine⟨⟨l,q,m,z,rfl,hl,by omega,hq,o,Z,X.trans J⟩,?_⟩;have e1:QX A (.int .i64 (i:Int))=(Tr.node l i x r).ht:=Ed I;have e2:QX A (.int .i64 (Tr.Dd Aq.k.μ (.node l i x r) x l.root r.root).l)=l.ht:=Ed hl;refine Nat.lt_of_le_of_lt (Nat.le_of_eq e2) (Nat.lt_of_lt_of_le ?_ (Nat.le_of_eq e1.symm));simp only[Tr.ht];omega
  rw[if_neg (by omega),KP] at o;refine Bw (by omega) ?_;refine Hq (fun b4=>?_) fun b5=>?_
  .rw[if_pos (by omega)] at o;obtain⟨i',V,rfl⟩:=Option.map_eq_some_iff.1 o;have ax:i'<x.l.length:=by
    obtain⟨i2,k1,k2⟩:=Mm (l:=x.l) (k:=q-BW (BS l.toL)) (by omega);rw[V] at k1;cases k1;exact k2
   refine Bw (by omega) ?_;rw[AG,AI];refine Ah (vs:=x.cells) y (fun j u hu=>by rw[AI];exact B6.cells j u (by rw[List.getElem?_append_left (List.getElem?_eq_some_iff.1 hu).1];exact hu)) ?_;refine Fw (by omega) (by omega) ?_;refine HB (by kernel_rfl) ?_;refine AA (bz x (by omega) V) ?_;rintro _ b6 ⟨rfl,ak⟩;refine Bw (by omega) ⟨?_,(X.trans J).trans ak⟩;have e:m+(BS l.toL).length+i'=p:=by omega
   rw[e]
  .rw[if_neg (by omega)] at o;obtain⟨z1,al,rfl⟩:=Option.map_eq_some_iff.1 o;obtain⟨z2,an,rfl⟩:=Option.map_eq_some_iff.1 al;refine Bw (by omega) (Bw (by omega) (Bw (by omega) (Fw (by omega) (by omega) ?_)));refine Bm (B6.cells (Aq.E+1) _ (by rw[AV y];rfl)) ?_;refine⟨⟨r,q-(BW (BS l.toL)+BW x.l),m+((BS l.toL).length+x.l.length),z2,rfl,hr,by omega,by omega,?_,by omega,X.trans J⟩,?_⟩
   .rw[<-Nat.sub_sub];exact an
   .have e1:QX A (.int .i64 (i:Int))=(Tr.node l i x r).ht:=Ed I;have e2:QX A (.int .i64 (Tr.Dd Aq.k.μ (.node l i x r) x l.root r.root).r)=r.ht:=Ed hr;refine Nat.lt_of_le_of_lt (Nat.le_of_eq e2) (Nat.lt_of_lt_of_le ?_ (Nat.le_of_eq e1.symm));simp only[Tr.ht];omega
end Go.Proofs.YtmdhibffnkhcnaaGreatDoor
namespace Go.K
open Go
theorem J0.grow{st:Prop}{P:Program}{x N:Nat}{j:List Value}{i:Nat->List Value}{y:Nat->Prop}{w w':World}(h:J0 st P x j i N y w)(g:Grow w w'):J0 st P x j i N y w':=by
 intro l J B E I h0 hJ QJ I7 hr;refine h l J B E (g.trans I) h0 hJ QJ (fun k O W hk b hb o=>?_) hr;exact(I7 k O W hk b (Nat.lt_of_lt_of_le hb g.size) o).trans (g.same b hb fun h=>h)
structure X4 {α:Type} (e k:Nat) (R:World->List Value->α->Prop) (B c m:Nat) (It:Nat->Prop) (W:World) (out:Value) (l:List α):Prop where
 box:Bx W c [out]
 row:AF B e k R W out l
 hc:∀g,out.ownBlock=some g->g≠c/\g≠m/\g≠m+1/\¬It g
end Go.K
namespace Go.Proofs.YtmdhibffnkhcnaaGreatDoor
open Go Go.K Proofs.Tryz
theorem Mq{W:World}{gf:Nat}{Q vals:List Value}{Rd:Nat->Prop}{X:List Spn}(hs:J0 True prog gf Q (fun k=>[vals.getD k undef]) vals.length Rd W)(a7:DF gf=true)(hv:vals.length=X.length)(E:∀m (h1:m<vals.length) (U:m<X.length),vals[m]=.agg X[m].cells.toArray)(I7:∀x,Rd x->x<W.heap.size)(hl:X.length<=109951162777) :
  AB prog 98 [.func (.func gf) #[] Q.toArray] (fun v' w'=>AF W.heap.size 108 2 (fun _ r x=>r=Spn.cells x) w' v' X/\Grow W w') W:=by
 apply Zf;apply Xo;refine FK rfl fun c y hc g1 B=>?_;have b1:=B.lt (Nat.succ_pos _);have z1:=g1.size;refine⟨True,gf,Q,_,_,_,rfl,a7,hs.grow g1,fun k _=>rfl,?_⟩;refine⟨fun k I W'=>∃out,X4 108 2 (fun _ r x=>r=Spn.cells x) y.heap.size c y.heap.size I W' out (X.take k)/\Mod (fun x=>x=c) y W'/\k<=X.length,fun _ _ _=>False,⟨_,⟨B,AF.nil,fun g i=>nomatch i⟩,Mod.refl _ _,Nat.zero_le _⟩,?_,fun x I a8 W W' h=>h.elim,?_,?_,?_,fun x I W h=>h.elim⟩
 .rintro k I a8 W' b2 ⟨out,q,m,hk⟩ hm j;have V:=q.box.lt (Nat.succ_pos _);have hn:∀x,x<y.heap.size->¬((¬True/\I x)\/x=y.heap.size\/x=y.heap.size+1):=fun x E=>by rintro(⟨h,_⟩|h|h);exact h trivial;all_goals omega
  refine⟨out,⟨q.box.mod hm (hn c (by omega)),AF.mod q.row hm (fun g i=>?_) fun _ _ _ h=>h,fun g i=>?_⟩,m.next hm fun x E=>?_,hk⟩
  .obtain⟨_,U,Y,_⟩:=q.hc g i;rintro(⟨h,_⟩|h|h)
   .exact h trivial
   .exact U h
   .exact Y h
  .obtain⟨h1,U,Y,h4⟩:=q.hc g i;refine⟨h1,U,Y,fun h=>?_⟩;rcases(j g h).1 with h|h
   .exact h4 h
   .have:=(AF.BM q.row g i).2;omega
  .intro e;exact absurd e (hn x E)
 .rintro k I W' ⟨out,q,m,hk⟩ b hb hr;exact m.same b hb fun e=>by have:=I7 b hr;omega
 .rintro k I W' hk ⟨out,q,m,b3⟩ hz j;have J:k<X.length:=by omega
  have S:(nth [vals.getD k undef] 0)=.agg X[k].cells.toArray:=by
   show vals.getD k undef=_;rw[List.getD_eq_getElem?_getD,List.getElem?_eq_getElem hk,Option.getD_some,E k hk J]
  rw[S];refine Bx.new (vs:=X[k].cells) rfl rfl (Spn.one _) fun b5 W5 b4 Z B5=>?_;refine Kj Z hz j (fun _ _ h=>h.elim) fun W6 o=>?_;have z5:=Z.size;have z6:=o.size;have V:=q.box.lt (Nat.succ_pos _);have ak:=B5.lt (Nat.succ_pos _);have B6:=(q.box.grow Z).mod o (by omega);have al:=B5.mod o (by omega);have o6:AF y.heap.size 108 2 (fun _ r x=>r=Spn.cells x) W6 out (X.take k):=AF.mod (AF.mod (R':=fun _ r x=>r=Spn.cells x) q.row Z (fun _ _ h=>h) fun _ _ _ h=>h) o (fun g i=>(q.hc g i).2.2.1) fun _ _ _ h=>h;refine AL (B6.cells 0 _ rfl) ?_;refine al.Er rfl ?_;have b6:(X.take k).length<=X.length:=by simp;omega
  refine DP Cl.elE o6 (by omega) (cs:=X[k].cells) (x:=X[k]) (Cw (v:=.agg X[k].cells.toArray) rfl (by decide) rfl rfl) rfl rfl (fun _ _ _ h=>by subst h;exact Spn.one _) (fun _ _ _ _ _ _ h=>h) (by show _*16<=_;omega) (by simp only[maxLen];omega) fun a1 W9 o9 m9 n9=>?_;have z9:=m9.size;have b7:=AF.BM o6;have B9:=B6.mod m9 fun e=>(q.hc c e).1 rfl;obtain⟨an,av⟩:=o9.one;refine B9.st (q:=0) (show 0<1 by decide) an av fun ax ay T=>?_;have b8:=T.size;have O:Mod (fun x=>x=c\/out.ownBlock=some x) W6 ax:=(m9.mono fun _ _ e=>.inr e).trans (T.mono fun _ _ e=>.inl e);refine⟨OB O (by omega) (fun b hb=>by have:=(j b hb).1;omega) (fun b _ e=>?_),a1,⟨ay,?_,fun g i=>?_⟩,?_,by omega⟩
  .rcases e with rfl|e
   .exact⟨fun h=>by have:=(j b h).2;omega,by omega,by omega⟩
   .obtain⟨h1,U,Y,h4⟩:=q.hc b e;exact⟨h4,U,Y⟩
  .have b0:X.take (k+1)=X.take k++[X[k]]:=by rw[List.take_add_one];simp[J]
   rw [b0];exact AF.mod o9 T (fun g i e=>by
    rcases n9 g i with h|h
    .exact(q.hc g h).1 e
    .omega) fun _ _ _ h=>h
  .rcases n9 g i with h|h
   .exact q.hc g h
   .refine⟨by omega,by omega,by omega,fun hI=>by have:=(j g hI).1;omega⟩
  .refine((m.next Z fun _ _ h=>h.elim).next o fun x E e=>by omega).next O fun x E e=>?_;rcases e with e|e
   .exact e
   .have:=(AF.BM q.row x e).1;omega
 .rintro I W' ⟨out,q,m,hk⟩ _ _ hd;refine AL (q.box.cells 0 _ rfl) ⟨hd,?_⟩;have a6:Mod (fun b=>b=y.heap.size) W' (W'.putObj y.heap.size (.deferred none)):=Mod.putObj _ _ _ rfl;rw[hv,List.take_length] at q;refine⟨AF.base (AF.mod q.row a6 (fun g i=>(q.hc g i).2.1) fun _ _ _ h=>h) fun g i=>?_,?_⟩
  .have:=(AF.BM q.row g i).1;omega
  exact(g1.next m fun x E e=>by omega).next a6 fun x E e=>by omega
abbrev FN:Nat->Prop:=fun _=>False
abbrev DU:World->List Value->Spn->Prop:=fun _ r x=>r=Spn.cells x
abbrev ED(l:List Spn):Nat:=Tr.sz Spn.kd.μ l
theorem dv(l:List Spn):Tr.mk Spn.kd.μ l=0:=by
 induction l with
 |nil=>rfl
 |cons x l i=>rw[Tr.Ca,i];rfl
theorem YP{l:List Spn}(h:ED l<=1099511627776):Dc Cl.toAvT l:=⟨h,by show Tr.mk Spn.kd.μ l<=_;rw[dv];omega⟩
theorem DW(l:List Spn):ED l=(l.flatMap Spn.u).length:=Spn.Df.sz l
theorem S0(l:List Spn)(i j:Nat):(Spn.kd.over l i j).length<=l.length:=by
 induction l generalizing i j with
 |nil=>exact Nat.le_refl _
 |cons x l o=>
  simp only[Kd.over,List.length_append,List.length_cons];have:=o (i-(Spn.kd.μ x).1) (j-(Spn.kd.μ x).1);split<;>simp<;>omega
theorem I8{F:Nat->Prop}{W:World}{b bt N i j:Nat}{l:List Spn}(h:DD Cl.toAvT F FN W b bt l N)(hN:N<=109951162000)(Q:i<=j)(S:j<=ED l)(U:ED l<=1099511627776)(hl:l.length<=109951162777) :
  AB prog 48 [.pointer (some ⟨b,0,none⟩),.int .i64 (i:Int),.int .i64 (j:Int)] (fun v' w'=>∃y,v'=.tuple #[y,.int .i64 0]/\AF W.heap.size 108 2 DU w' y (Spn.kd.over l i j)/\Grow W w') W:=by
 apply aX;refine AA (Hp G8 h) ?_;rintro _ V ⟨rfl,B⟩;have hb:IK (i:Int) (j:Int) ((Tr.sz Cl.k.μ l:Nat):Int)=0:=by
  have:j<=Tr.sz Cl.k.μ l:=S;unfold IK;rw[if_neg (by omega),if_neg (by omega),if_neg (by omega)]
 rw[hb,Bg];refine AY (fun _=>?_) fun e=>(e rfl).elim;refine AA (Dn G8 (h.grow B)) ?_;rintro _ _ ⟨rfl,rfl⟩;rename World=>V
 obtain⟨A,T,h1,Y,Z,rfl,h5⟩:=(h.grow B).Dh;refine AA (QY (g:=Cl) h1 (by omega) Y Z (YP U) (by omega) (by omega)) ?_;rintro _ w3 ⟨a1,vals,Rd,rfl,J,E,I,I7,o⟩;have ho:=S0 T.toL i j;refine AA (Mq (X:=Spn.kd.over T.toL i j) o (by kernel_rfl) E (fun m q1 q2=>?_) (fun x hx=>(I7 x hx).2) (by omega)) ?_
 .obtain⟨r,e1,e2⟩:=I m q1 q2;rw[e1,RL];have e3:r=Spn.cells (Spn.kd.over T.toL i j)[m]:=e2;rw[e3]
 rintro y w4 ⟨O,g4⟩;have s1:=B.size;have s3:=J.size;exact⟨y,rfl,AF.base O fun g hg=>by have:=(AF.BM O g hg).1;omega,(B.trans J).trans g4⟩
theorem YI{S:Nat->Prop}{W:World}{v:Value}{L:List Spn}(I:BH S 2 DU W v L)(y:∀s∈L,0<=s.id)(hl:L.length<=109951162777) :
  AB prog 236 [v,.func (.func 237) #[] #[]] (fun v' w'=>v'=.bool false/\Grow W w') W:=by
 apply Vq;have key:AB prog 270 [v,.func (.func 237) #[] #[]] (fun v' w'=>v'=.int .i64 (-1)/\Grow W w') W:=by
  apply Xp;obtain⟨a,c,rfl,hm⟩:=I.shape;have E:=I.HL (by decide);rw[AT];refine Af (fun vs W'=>∃i:Nat,i<=L.length/\vs=[.int .i64 i]/\Grow W W') (fun vs _=>L.length-EF vs 0) ⟨0,Nat.zero_le _,rfl,Mod.refl _ _⟩ ?_;rintro vs T ⟨i,U,rfl,x⟩ _;simp only[CM,List.headD_cons];rw[Av];refine AE (fun J=>?_) fun O=>⟨trivial,x⟩;have o:i<L.length:=by omega
  obtain⟨p,r,rfl,_,hr,hc,rfl⟩:=E.get o;refine Ab o (Ah (vs:=L[i].cells) rfl (fun j u hu=>by rw[Addr.add_add];exact x.cell (hc j u hu) fun h=>h) ?_);refine HB (by kernel_rfl) ?_;apply WC;refine Bx.box fun b w2 hb Q B=>?_;refine Bm (B.cells 0 _ rfl) ?_;rw[Av];refine AE (fun e=>by omega) fun _=>?_;refine Bm (B.cells 1 _ rfl) ?_;rw[Av];have:=y L[i] (List.getElem_mem o);refine AE (fun e=>by omega) fun _=>?_;rw[AR,AQ (by omega)];exact⟨⟨i+1,o,rfl,x.trans Q⟩,by rw[DI,DI];omega⟩
 refine AA key ?_;rintro _ V ⟨rfl,x⟩;rw[Da];exact⟨rfl,x⟩
theorem Qy{l L:List Spn}{i j:Nat}(h:ED l+ED L<=1099511627776)(x:i<=j)(Q:j<=ED l):ED (Spn.kd.Bn l i j L)+(j-i)=ED l+ED L/\ED ((Spn.kd.split l i).1.getLast?.toList++L++(Spn.kd.split (Spn.kd.split l i).2 (j-i)).2.head?.toList)<=ED l+ED L:=by
 have e:=Spn.Df.Bn l L x;have B:=congrArg List.length e;rw[<-DW,List.length_append,List.length_append,List.length_take,List.length_drop,<-DW,<-DW] at B;refine⟨by omega,?_⟩;have E:=EY (g:=Cl.toAvT) l i;have I:=EY (g:=Cl.toAvT) (Spn.kd.split l i).2 (j-i);have J:∀m:List Spn,ED m.getLast?.toList<=ED m:=fun m=>by
  rcases List.eq_nil_or_concat m with rfl|⟨o,y,rfl⟩
  .exact Nat.le_refl _
  .simp[ED,Tr.sz]
 have O:∀m:List Spn,ED m.head?.toList<=ED m:=fun m=>by
  cases m with
  |nil=>exact Nat.le_refl _
  |cons y m=>simp[ED,Tr.sz]
 have h1:=J (Spn.kd.split l i).1;have S:=O (Spn.kd.split (Spn.kd.split l i).2 (j-i)).2;unfold ED at *;rw[Tr.CG,Tr.CG];have T:Tr.sz Spn.kd.μ (Spn.kd.split l i).1+Tr.sz Spn.kd.μ (Spn.kd.split l i).2=Tr.sz Spn.kd.μ l:=E.1;have U:Tr.sz Spn.kd.μ (Spn.kd.split (Spn.kd.split l i).2 (j-i)).1+Tr.sz Spn.kd.μ (Spn.kd.split (Spn.kd.split l i).2 (j-i)).2=Tr.sz Spn.kd.μ (Spn.kd.split l i).2:=I.1;omega
theorem RP{F S:Nat->Prop}{W:World}{b bt N i j:Nat}{l L:List Spn}{v:Value}(h:DD Cl.toAvT F FN W b bt l N)(hN:N+L.length<=109951162000)(E:i<=j)(X:j<=ED l)(hs:ED l+ED L<=536870912)(J:BH S 2 DU W v L)(hS:∀x,S x->¬F x)(O:∀s∈L,0<=s.id) :
  AB prog 151 [.pointer (some ⟨b,0,none⟩),.int .i64 (i:Int),.int .i64 (j:Int),v] (fun v' w'=>v'=.int .i64 0/\∃F',(∀x,F x->F' x)/\(∀x,F' x->F x\/W.heap.size<=x)/\DD Cl.toAvT F' FN w' b bt (Spn.kd.Bn l i j L) (N+L.length+4)/\Mod F W w') W:=by
 apply WW;refine Cs (AS ?_);refine AA (YI J O (by omega)) ?_;rintro _ w1 ⟨rfl,Y⟩;refine AS ?_;have h1:=h.grow Y;refine AA (Hp G8 h1) ?_;rintro _ w2 ⟨rfl,Z⟩;have hb:IK (i:Int) (j:Int) ((Tr.sz Cl.k.μ l:Nat):Int)=0:=by
  have:j<=Tr.sz Cl.k.μ l:=X;unfold IK;rw[if_neg (by omega),if_neg (by omega),if_neg (by omega)]
 rw[hb,Bg];refine AY (fun _=>?_) fun e=>(e rfl).elim;refine AA (LH G8 (h1.grow Z)) ?_;rintro _ w3 ⟨rfl,g3⟩;have Q:Tr.sz Cl.k.μ l=ED l:=rfl;rw[Q,A6,wrap64 (by omega) (by omega),AR,wrap64 (by omega) (by omega),A6,wrap64 (by omega) (by omega)];obtain⟨a,c,rfl,hm⟩:=J.shape;have T:=J.HL (by decide);rw[AT];have U:=(Y.trans Z).trans g3;refine Af (fun vs W'=>∃k:Nat,k<=L.length/\vs=[.int .i64 ((536870912:Int)-ED l+j-i-ED (L.take k)),.int .i64 k]/\Grow W W') (fun vs _=>L.length-EF vs 1) ⟨0,Nat.zero_le _,by simp[ED,Tr.sz],U⟩ ?_;rintro vs W1 ⟨k,hk,rfl,y⟩ _;simp only[GJ];refine Hq (fun a1=>?_) fun a6=>?_
 .have o:k<L.length:=by omega
  have V:L.take (k+1)=L.take k++[L[k]]:=by rw[List.take_add_one];simp[o]
  have a7:ED L=ED (L.take (k+1))+ED (L.drop (k+1)):=by unfold ED;rw[<-Tr.CG,List.take_append_drop]
  have I:ED (L.take (k+1))=ED (L.take k)+L[k].n:=by rw[V];unfold ED;rw[Tr.CG];simp[Tr.sz,Spn.kd]
  obtain⟨p,r,rfl,_,hr,hc,rfl⟩:=T.get o;refine Ab o (Ah (vs:=L[k].cells) rfl (fun j u hu=>by rw[Addr.add_add];exact y.cell (hc j u hu) fun h=>h) ?_);refine Bx.new (vs:=L[k].cells) rfl rfl (Spn.one _) fun a8 w7 hb g7 B=>?_;refine Bm (B.cells 0 _ rfl) ?_;rw[BL];refine AE (fun e=>by omega) fun _=>?_;refine Bm (B.cells 0 _ rfl) ?_;rw[A6,wrap64 (by omega) (by omega),AR,AQ (by omega)];refine⟨⟨k+1,o,?_,y.trans g7⟩,by rw[BJ,BJ];omega⟩;rw[I];congr 2
  omega
 .have hW:=h.grow y;refine AA (Dn G8 hW) ?_;rintro _ _ ⟨rfl,rfl⟩;rename World=>W1
  obtain⟨q1,q2⟩:=Qy (l:=l) (L:=L) (i:=i) (j:=j) (by omega) E X;refine AA (Hw (VW (g:=Cl)) hW (by omega) (J.mod y (fun _ _ _ h=>h) (by decide) fun _ _ h=>h) hS E (by omega) (YP (by omega)) (YP (l:=Spn.kd.Bn l i j L) (by omega)) (YP (l:=(Spn.kd.split l i).1.getLast?.toList++L++(Spn.kd.split (Spn.kd.split l i).2 (j-i)).2.head?.toList) (by omega))) ?_;rintro _ ak ⟨F',k1,k2,k3,k4⟩;have:=y.size;exact⟨trivial,F',k1,fun x hx=>(k2 x hx).imp (fun h=>h) fun h=>by omega,k3,(y.mono fun _ _ h=>h.elim).trans k4⟩
theorem Li{l:List Ck}(h:(BS l).length<=1099511627776):Dc Aq.toAvT l:=⟨by show Tr.sz Ck.kd.μ l<=_;rw[FB];exact h,by show Tr.mk Ck.kd.μ l<=_;rw[NU];exact Nat.le_trans (DO _) h⟩
theorem IS{i j:Nat}{n:Nat}(o:i<=j)(x:j<=n):IK (i:Int) (j:Int) (n:Int)=0:=by
 unfold IK;rw[if_neg (by omega),if_neg (by omega),if_neg (by omega)]
section
variable {F:Nat->Prop}{W:World}{b bt N:Nat}{l:List Ck}
theorem U6(h:DD Aq.toAvT F FN W b bt l N):AB prog 54 [.pointer (some ⟨b,0,none⟩)] (fun v' w'=>v'=.int .i64 ((BS l).length:Int)/\Grow W w') W:=by
 refine AA (LH Dt h) ?_;rintro _ w ⟨rfl,g⟩;refine⟨?_,g⟩;rw[show Tr.sz Aq.toAvT.k.μ l=(BS l).length from FB l]
theorem Jo(h:DD Aq.toAvT F FN W b bt l N):AB prog 45 [.pointer (some ⟨b,0,none⟩)] (fun v' w'=>v'=.int .i64 (BW (BS l):Int)/\Grow W w') W:=by
 apply aq;refine Cs (AS ?_);refine AA (Dn Dt h) ?_;rintro _ _ ⟨rfl,rfl⟩;rename World=>W
 obtain⟨A,T,h1,i,x,rfl,y⟩:=h.Dh;apply PM;unfold Ta;refine AH ?_;obtain⟨c,pl,fr,j⟩:=id h1;refine Bm (j.box.cells 4 _ rfl) ?_;refine AA (Bs h1 i) ?_;rintro _ B ⟨rfl,o⟩;refine CJ (vs:=[_,_,_]) (by rfl) (CJ (vs:=[_,_,_]) (by rfl) (CJ (vs:=[_,_,_]) (by rfl) ⟨?_,o⟩));rw[show Tr.mk Aq.toAvT.k.μ T.toL=BW (BS T.toL) from NU _]
theorem L1{i:Nat}(h:DD Aq.toAvT F FN W b bt l N)(o:i<=(BS l).length)(x:(BS l).length<=1099511627776) :
  AB prog 53 [.pointer (some ⟨b,0,none⟩),.int .i64 (i:Int)] (fun v' w'=>v'=.tuple #[.int .i64 (BW ((BS l).take i):Int),.int .i64 0]/\Grow W w') W:=by
 apply TH;refine AA (Hp Dt h) ?_;rintro _ y ⟨rfl,j⟩;rw[show Tr.sz Aq.toAvT.k.μ l=(BS l).length from FB l,IS (Nat.le_refl _) o,Bg];refine AY (fun _=>?_) fun e=>(e rfl).elim;refine AA (Dn Dt (h.grow j)) ?_;rintro _ _ ⟨rfl,rfl⟩;rename World=>y
 obtain⟨A,T,h1,B,I,rfl,J⟩:=(h.grow j).Dh;refine AA (O5 h1 B (by omega) (Li x)) ?_;rintro _ w2 ⟨rfl,E⟩;exact⟨rfl,j.trans E⟩
def K5(rs:List Int)(k:Nat):Value:=if BW rs<k then .tuple #[.int .i64 0,.int .i64 5] else if k=0 then .tuple #[.int .i64 0,.int .i64 0] else match GY rs (k-1) with
 |some p=>.tuple #[.int .i64 ((p+1:Nat):Int),.int .i64 0]
 |none=>undef
theorem Jr{k:Nat}(h:DD Aq.toAvT F FN W b bt l N)(j:(BS l).length<=1099511627776) :
  AB prog 46 [.pointer (some ⟨b,0,none⟩),.int .i64 (k:Int)] (fun v' w'=>v'=K5 (BS l) k/\Grow W w') W:=by
 apply ZQ;have J:=DO (BS l);refine AU (fun _ W'=>Grow W W'/\0<k/\k<=BW (BS l)) ?_ ?_
 .rintro _ o ⟨i,x,hk⟩ _;refine AA (Dn Dt (h.grow i)) ?_;rintro _ _ ⟨rfl,rfl⟩;rename World=>o
  obtain⟨k,rfl⟩:∃y,k=y+1:=⟨k-1,by omega⟩;obtain⟨p,hp,B⟩:=Mm (l:=BS l) (k:=k) (by omega);obtain⟨A,T,h1,E,O,rfl,Q⟩:=(h.grow i).Dh;rw[A6,wrap64 (by omega) (by omega),show(((k+1:Nat):Int)-1)=(k:Int) by omega];refine AA (Xs h1 E (by omega) (Li j) hp) ?_;rintro _ w2 ⟨rfl,I⟩;refine BK ?_;rw[AR,wrap64 (by omega) (by omega)];refine⟨?_,i.trans I⟩;unfold K5;rw[if_neg (by omega),if_neg (by omega),Nat.add_sub_cancel,hp];rfl
 .refine Cs (AS ?_);rw[Av];refine AE (fun e=>by omega) fun _=>?_;refine AA (Jo h) ?_;rintro _ S ⟨rfl,i⟩;rw[BL];refine AE (fun e=>⟨by unfold K5;rw[if_pos (by omega)],i⟩) fun e=>?_;rw[Am];refine AE (fun e0=>⟨by unfold K5;rw[if_neg (by omega),if_pos (by omega)],i⟩) fun e0=>?_;exact⟨i,by omega,by omega⟩
theorem U9(l:List Ck)(i j:Nat):BS (Ck.kd.over l i j)=((BS l).take j).drop i:=GH.over l i j
theorem Nu(t l:List Ck){i j:Nat}(o:i<=j):BS (Ck.kd.Bn t i j l)=(BS t).take i++BS l++(BS t).drop j:=GH.Bn t l o
theorem Lz(l L:List Ck)(i j:Nat):(BS ((Ck.kd.split l i).1.getLast?.toList++L++(Ck.kd.split (Ck.kd.split l i).2 (j-i)).2.head?.toList)).length<=(BS l).length+(BS L).length:=by
 have x:=congrArg List.length (GH.split l i).1;have B:=congrArg List.length (GH.split l i).2;have a3:=congrArg List.length (GH.split (Ck.kd.split l i).2 (j-i)).2;have E:∀m:List Ck,(BS m.getLast?.toList).length<=(BS m).length:=fun m=>by
  rcases List.eq_nil_or_concat m with rfl|⟨o,y,rfl⟩
  .exact Nat.le_refl _
  .simp[BS]
 have I:∀m:List Ck,(BS m.head?.toList).length<=(BS m).length:=fun m=>by
  cases m with
  |nil=>exact Nat.le_refl _
  |cons y m=>simp[BS]
 have h1:=E (Ck.kd.split l i).1;have J:=I (Ck.kd.split (Ck.kd.split l i).2 (j-i)).2;have e:∀a b c:List Ck,(BS (a++b++c)).length=(BS a).length+(BS b).length+(BS c).length:=fun a b c=>by simp[BS];omega
 rw[e];rw[List.length_take] at x;rw[List.length_drop] at B a3;show(BS _).length+_+(BS _).length<=_;unfold BS at *;omega
theorem Re{i j:Nat}(h:DD Aq.toAvT F FN W b bt l N)(Y:N<=109951162000)(o:i<=j)(J:j<=(BS l).length)(O:(BS l).length<=1099511627776) :
  AB prog 88 [.pointer (some ⟨b,0,none⟩),.int .i64 (i:Int),.int .i64 (j:Int)] (fun v' w'=>v'=.int .i64 0/\∃F' B,(∀x,F x->F' x)/\(∀x,F' x->F x\/W.heap.size<=x)/\DD Aq.toAvT F' FN w' b bt B (N+4)/\BS B=(BS l).take i++(BS l).drop j/\Mod F W w') W:=by
 apply bB;refine AA (Hp Dt h) ?_;rintro _ Q ⟨rfl,y⟩;rw[show Tr.sz Aq.toAvT.k.μ l=(BS l).length from FB l,IS o J,Bg];refine AY (fun _=>?_) fun e=>(e rfl).elim;have E:=h.grow y;refine AA (Dn Dt E) ?_;rintro _ _ ⟨rfl,rfl⟩;rename World=>Q
 have I:=Nu l [] o;have Z:=Lz l [] i j;have e0:(BS []).length=0:=rfl;refine AA (Hw (VW (g:=Aq)) (L:=[]) (S:=fun _=>False) E (by simp only[List.length_nil];omega) BH.nil (fun _ h=>h.elim) o (by omega) (Li O) (Li (l:=Ck.kd.Bn l i j []) (by rw[I];simp[BS] at *;omega)) (Li (l:=(Ck.kd.split l i).1.getLast?.toList++[]++(Ck.kd.split (Ck.kd.split l i).2 (j-i)).2.head?.toList) (by omega))) ?_;rintro _ T ⟨F',k1,k2,U,V⟩;have:=y.size;refine⟨rfl,F',_,k1,fun x X=>(k2 x X).imp (fun h=>h) fun h=>by omega,U,?_,(y.mono fun _ _ h=>h.elim).trans V⟩;show BS (Ck.kd.Bn l i j [])=_;rw[I];simp[BS]
theorem Sk{i j:Nat}(h:DD Aq.toAvT F FN W b bt l N)(hN:N<=109951162000)(an:i<=j)(hj:j<=(BS l).length)(hs:(BS l).length<=1099511627776)(hl:l.length<=109951162777) :
  AB prog 47 [.pointer (some ⟨b,0,none⟩),.int .i64 (i:Int),.int .i64 (j:Int)] (fun v' w'=>∃rv,v'=.tuple #[rv,.int .i64 0]/\AF W.heap.size 21 1 CH w' rv (((BS l).take j).drop i)/\Grow W w') W:=by
 apply UM;refine Bx.zero fun c w1 hc g1 B=>?_;have b6:=B.lt (by decide);have h1:=h.grow g1;have h0:=h;refine AA (Hp Dt h1) ?_;rintro _ w2 ⟨rfl,g2⟩;rw[show Tr.sz Aq.toAvT.k.μ l=(BS l).length from FB l,IS an hj,Bg];refine AY (fun _=>?_) fun e=>(e rfl).elim;have hW:=h1.grow g2;refine AA (Dn Dt hW) ?_;rintro _ _ ⟨rfl,rfl⟩;rename World=>w2
 obtain⟨A,T,t1,t2,t3,rfl,t5⟩:=hW.Dh;refine AA (QY (g:=Aq) t1 (by omega) t2 t3 (Li hs) (by omega) (by omega)) ?_;rintro _ J ⟨av,vals,Rd,rfl,g6,ax,ay,I7,a1⟩;generalize hX:Ck.kd.over T.toL i j=X at *;have b0:vals.length=X.length:=by rw[<-hX];exact ax
 have a6:BS X=((BS T.toL).take j).drop i:=by rw[<-hX];exact U9 _ _ _
 have O:∀m (h1:m<vals.length) (h2:m<X.length),vals[m]=.agg X[m].cells.toArray:=fun m q1 q2=>by
  subst hX;obtain⟨r,e1,e2⟩:=ay m q1 q2;rw[e1,RL];have e3:r=Ck.cells (Ck.kd.over T.toL i j)[m]:=e2;rw[e3]
 have b9:(BS X).length<=1099511627776:=by rw[a6,List.length_drop,List.length_take];omega
 have z1:=g1.size;have z2:=g2.size;have z6:=g6.size;have B6:=(B.grow g2).grow g6;refine⟨True,_,av,_,_,_,rfl,by kernel_rfl,a1,fun k _=>rfl,?_⟩;refine⟨fun k Q W'=>∃out,X4 21 1 CH J.heap.size c J.heap.size Q W' out (BS (X.take k))/\Mod (fun x=>x=c) J W'/\k<=X.length,fun _ _ _=>False,⟨_,⟨B6,AF.nil,fun g o=>nomatch o⟩,Mod.refl _ _,Nat.zero_le _⟩,?_,fun x Q b1 W W' h=>h.elim,?_,?_,?_,fun x Q W h=>h.elim⟩
 .rintro k Q b1 W' ba ⟨out,q,m,hk⟩ hm E;have hn:∀x,x<J.heap.size->¬((¬True/\Q x)\/x=J.heap.size\/x=J.heap.size+1):=fun x O=>by rintro(⟨h,_⟩|h|h);exact h trivial;all_goals omega
  refine⟨out,⟨q.box.mod hm (hn c (by omega)),AF.mod q.row hm (fun g o=>?_) fun _ _ _ h=>h,fun g o=>?_⟩,m.next hm fun x O=>?_,hk⟩
  .obtain⟨_,h2,h3,_⟩:=q.hc g o;rintro(⟨h,_⟩|h|h)
   .exact h trivial
   .exact h2 h
   .exact h3 h
  .obtain⟨h1,h2,h3,h4⟩:=q.hc g o;refine⟨h1,h2,h3,fun h=>?_⟩;rcases(E g h).1 with h|h
   .exact h4 h
   .have:=(AF.BM q.row g o).2;omega
  .intro e;exact absurd e (hn x O)
 .rintro k Q W' ⟨out,q,m,hk⟩ b hb hr;exact m.same b hb fun e=>by
   subst e;rcases(I7 b hr).1 with h|h|h
   .have:=h0.lt b (.inl h.1);omega
   .exact h.elim
   .omega
 .rintro k Q W' hk ⟨out,q,m,bc⟩ hz E;have S:k<X.length:=by omega
  have U:(nth [vals.getD k undef] 0)=.agg X[k].cells.toArray:=by
   show vals.getD k undef=_;rw[List.getD_eq_getElem?_getD,List.getElem?_eq_getElem hk,Option.getD_some,O k hk S]
  rw[U];have b2:X.take (k+1)=X.take k++[X[k]]:=by rw[List.take_add_one];simp[S]
  have a7:BS (X.take (k+1))=BS (X.take k)++X[k].l:=by rw[b2];simp only[BS,List.flatMap_append,List.flatMap_cons,List.flatMap_nil,List.append_nil]
  have b7:(BS (X.take k)).length+X[k].l.length<=(BS X).length:=by
   have e:BS X=BS (X.take (k+1))++BS (X.drop (k+1)):=by rw[BS,BS,BS,<-List.flatMap_append,List.take_append_drop]
   rw[e,a7,List.length_append,List.length_append];omega
  refine Bx.new (vs:=X[k].cells) (Ck.len _) rfl (Ck.one _) fun b5 W5 bd g5 B5=>?_;refine Kj g5 hz E (fun _ _ h=>h.elim) fun W6 I=>?_;have z5:=g5.size;have bk:=I.size;have b8:=q.box.lt (Nat.succ_pos _);have b3:=B5.lt (by rw[Ck.len];omega);have C6:=(q.box.grow g5).mod I (by omega);have b4:=B5.mod I (by omega);have o6:AF J.heap.size 21 1 CH W6 out (BS (X.take k)):=AF.mod (AF.mod (R':=CH) q.row g5 (fun _ _ h=>h) fun _ _ _ h=>h) I (fun g o=>(q.hc g o).2.2.1) fun _ _ _ h=>h;have gd:Grow W6 W6.drew:=Mod.drew _ _;have zd:=gd.size;have Cd:=C6.grow gd;have Bd:=b4.grow gd;refine Ag (fun k y=>(k=3/\out.ownBlock=some y)\/(k=4/\y=c)) ?_;refine Aa ⟨Cd.cells 0 _ rfl,fun j hj e=>?_⟩ ?_
  .have a8:j∈[2]:=hj;simp only[List.mem_singleton] at a8;subst a8;rcases e with e|e
   .exact absurd e.1 (by decide)
   .exact absurd e.1 (by decide)
  refine CL (Ck.len _) (fun j u hu=>⟨by rw[AI];exact Bd.cells j u hu,fun j hj=>(List.not_mem_nil (show j∈[] from hj)).elim⟩) ?_;refine AA (VQ X[k]) ?_;rintro xv W7 ⟨ox,g7⟩;refine⟨g7.mono fun _ _ h=>h.elim,?_⟩;have z7:=g7.size;have o7:AF J.heap.size 21 1 CH W7 out (BS (X.take k)):=AF.mod (AF.mod (R':=CH) o6 gd (fun _ _ h=>h) fun _ _ _ h=>h) g7 (fun _ _ h=>h) fun _ _ _ h=>h;obtain⟨ak,W8,r1,o8,r3,n8⟩:=AF.append (P:=prog) (ty:=80) JW o7 (AF.sl ox) (fun _ _=>CH.one) (by omega) (by omega) (by simp only[maxLen];omega) fun _ _ _ _ h=>h;refine Ai r1 ?_;have m8:=Mod.of_grownBy r3;have z8:=m8.size;refine⟨m8.mono fun _ _ e=>.inl ⟨rfl,e⟩,?_⟩;have C8:=((Cd.grow g7).mod m8 fun e=>(q.hc c e).1 rfl);obtain⟨V,Y⟩:=o8.one;refine C8.st (q:=0) (show 0<1 by decide) V Y fun W9 C9 m9=>⟨m9.mono fun _ _ e=>.inr ⟨rfl,e⟩,?_⟩;have z9:=m9.size;have al:Mod (fun x=>x=c\/out.ownBlock=some x) W6 W9:=(((gd.trans g7).mono fun _ _ h=>h.elim).trans (m8.mono fun _ _ e=>.inr e)).trans (m9.mono fun _ _ e=>.inl e);refine⟨OB al (by omega) (fun b hb=>by have:=(E b hb).1;omega) (fun b _ e=>?_),ak,⟨C9,?_,fun g o=>?_⟩,?_,by omega⟩
  .rcases e with rfl|e
   .exact⟨fun h=>by have:=(E b h).2;omega,by omega,by omega⟩
   .obtain⟨h1,h2,h3,h4⟩:=q.hc b e;exact⟨h4,h2,h3⟩
  .rw [a7];exact AF.mod o8 m9 (fun g o e=>by
    rcases n8 g o with h|h
    .exact(q.hc g h).1 e
    .omega) fun _ _ _ h=>h
  .rcases n8 g o with h|h
   .exact q.hc g h
   .refine⟨by omega,by omega,by omega,fun hI=>by have:=(E g hI).1;omega⟩
  .refine((m.next g5 fun _ _ h=>h.elim).next I fun x O e=>by omega).next al fun x O e=>?_;rcases e with e|e
   .exact e
   .have:=(AF.BM q.row x e).1;omega
 .rintro Q W' ⟨out,q,m,hk⟩ _ hz hd;refine AL (q.box.cells 0 _ rfl) ?_;obtain⟨V,Y⟩:=q.row.one;refine q.box.st (q:=0) (show 0<1 by decide) V Y fun W1 C1 m1=>?_;refine⟨?_,?_⟩
  .rw[m1.same _ (by omega) (by omega)];exact hd
  have Z:Mod (fun b=>b=J.heap.size) W1 (W1.putObj J.heap.size (.deferred none)):=Mod.putObj _ _ _ rfl;have C2:=C1.mod Z (by omega);refine AL (C2.cells 0 _ rfl) ⟨_,rfl,?_,?_⟩
  .rw[b0,List.take_length,a6] at q;refine AF.base (AF.mod (AF.mod (R':=CH) q.row m1 (fun g o=>(q.hc g o).1) fun _ _ _ h=>h) Z (fun g o=>(q.hc g o).2.1) fun _ _ _ h=>h) fun g o=>?_;have:=(AF.BM q.row g o).1;omega
  .exact((((g1.trans g2).trans g6).next m fun x O e=>by omega).next m1 fun x O e=>by omega).next Z fun x O e=>by omega
end
end Go.Proofs.YtmdhibffnkhcnaaGreatDoor
