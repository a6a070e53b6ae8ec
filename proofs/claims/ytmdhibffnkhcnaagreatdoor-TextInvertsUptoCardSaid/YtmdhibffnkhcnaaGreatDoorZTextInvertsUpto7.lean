/- parts of the proof, written short by a program of ours -/
import Derived.Test.YtmdhibffnkhcnaaGreatDoorZTextInvertsUpto6
import Derived.Laws.BytesArg
import Derived.Laws.IdiomStrings
import Derived.MapKept
import Derived.Shelf.GgSortFunc.InsertionK
import Derived.Shelf.SlSortCmp.WholeK
import Derived.Shelf.SlSortCmp.NoneTotal
set_option linter.unusedSimpArgs false
set_option linter.unusedVariables false
set_option linter.defProp false
namespace Go.Proofs.YtmdhibffnkhcnaaGreatDoor
open Go Proofs.Tryz
variable {j e B N:Nat}{w W w' W' w0:World}{F S C M:Nat->Prop}{v fr:Value}{α:Type}{ty:TypeId}{s:List Attr}{ks:List DKey}{K:Cont}{P:Program}{yo xo:Operand}
def Er{t e k:Nat}{i:TypeInfo}{a:Option Addr}{n c j:Nat}(ht:P.underlying t=some (.slice e))(hi:P.info? e=some i)(hk:i.size=k)(o:j<=n)(w:World):(Instr.sliceAt t (.slice a n c) (some (zI j)) none none).run P w=.ok (sliced a j n c k) w:=by
 have m:P.elem t=e:=by simp[Program.elem,ht]
 rw[nS _ _ _ _ _ _ (by rw[m];exact ht),run_slice_l _ _ _ _ _ (by rw[m];exact ht) _ _ (by omega) (by omega),m];simp[sizeOf,typeInfo,hi,hk]
def Ku{k:Nat}{R:World->List Value->α->Prop}{a:Option Addr}{n c:Nat}{l:List α}(h:BB S k R w (.slice a n c) l)(Q:j<=l.length):BB S k R w (sliced a j n c k) (l.drop j):=by
 obtain⟨T,U,o,h1,V,B⟩:=h;cases o;unfold sliced;refine⟨_,_,by rw[I3],by rw[I3];omega,by omega,fun q x i=>?_⟩;rw[ly] at i;obtain⟨p,r,rfl,I,hr,hc,J⟩:=B _ x i;have O:=(Ad.1 i).1;rw[Bq (by omega)];refine⟨p.add (j*k),r,rfl,by rw[BJ];exact I,hr,fun m u hu=>?_,J⟩;rw[Addr.add_add,<-mL,<-lO];exact hc m u hu
def Mw{t e k:Nat}{i:TypeInfo}{a:Option Addr}{n c:Nat}(ht:P.underlying t=some (.slice e))(hi:P.info? e=some i)(hk:i.size=k)(hc:n<=c)(w:World):∃m,(Instr.sliceAt t (.slice a n c) none (some (zI n)) (some (zI n))).run P w=.ok (.slice m n n) w/\(0<n->m=a):=by
 have j:P.elem t=e:=by simp[Program.elem,ht]
 refine⟨if n=0 then a else a.map (·.add (0*k)),?_,fun h=>?_⟩
 .rw[nS _ _ _ _ _ _ (by rw[j];exact ht)];simp[Instr.slice,run_underlying ht,Instr.sliceBounds,run_sliceBound,hc,sizeOf,typeInfo,hi,hk,Result.andThen]
 .rw[Bq (by omega)];cases a with
  |none=>rfl
  |some a=>simp[Addr.add]
def Hh{t e n s:Nat}{i:TypeInfo}{k:IntKind}{a:Addr}{j:Int}(ht:P.underlying t=some (.array n e))(hi:P.info? e=some i)(m:i.size=s)(h0:0<=j)(h1:j<n):(Instr.indexAt t (.pointer (some a)) (.int k j)).run P w=.ok (.pointer (some (a.add (j.toNat*s)))) w:=by
 simp[Instr.indexAt,Instr.sureAddr,run_underlying ht,asIntOf,sizeOf,typeInfo,hi,m,h0,h1,Result.andThen]
def EF{s d:TypeId}{q k:IntKind}{n:Int}(w:World)(i:(P.underlying s).isSome=true)(j:P.underlying d=some (.int k)):(convert s d (.int q n)).run P w=.ok (.int k (k.wrap n)) w:=by
 obtain⟨e,he⟩:=kH.mp i;simp[convert,run_underlying he,run_underlying j,Conv.intToInt]
def SY{t:TypeId}{k q:IntKind}{a:Int}{n:Nat}(w:World)(i:n<=k.bits):(BS .shl t xo yo (.int k a) (.int q n)).run P w=.ok (.int k (k.wrap (a*2 ^ n))) w:=by
 have h0:¬((n:Int)<0):=by omega
 simp[BS,eqGuard,binOp,Op.shift,lA i,h0]
def LP{t:TypeId}{k q:IntKind}{a:Int}{n:Nat}(w:World)(i:n<=k.bits):(BS .shr t xo yo (.int k a) (.int q n)).run P w=.ok (.int k (a.fdiv (2 ^ n))) w:=by
 have h0:¬((n:Int)<0):=by omega
 simp[BS,eqGuard,binOp,Op.shift,lA i,h0]
def J9{t:TypeId}{k:IntKind}{a b:Int}(w:World):(BS .or t xo yo (.int k a) (.int k b)).run P w=.ok (.int k (k.wrap (BitVec.ofInt k.bits a ||| BitVec.ofInt k.bits b).toNat)) w/\(BS .and t xo yo (.int k a) (.int k b)).run P w=.ok (.int k (k.wrap (BitVec.ofInt k.bits a &&& BitVec.ofInt k.bits b).toNat)) w:=by
 constructor<;>simp[BS,eqGuard,binOp,Op.intBits]
def Dr{t:TypeId}{a b:Int}(w:World)(ha:Ia a)(hb:Ia b):(BS .or t xo yo (.int .u64 a) (.int .u64 b)).run prog w=.ok (.int .u64 (MU a b)) w:=by
 rw[(J9 w).1];have e:((BitVec.ofInt IntKind.u64.bits a ||| BitVec.ofInt IntKind.u64.bits b).toNat:Int)=MU a b:=iy ha hb;rw[e,Ff (EY ha hb)]
def Kr{t:TypeId}{a b:Int}(w:World)(ha:Ia a)(hb:Ia b):(BS .and t xo yo (.int .u64 a) (.int .u64 b)).run prog w=.ok (.int .u64 ((a.toNat &&& b.toNat:Nat):Int)) w:=by
 rw[(J9 w).2];have e:((BitVec.ofInt IntKind.u64.bits a &&& BitVec.ofInt IntKind.u64.bits b).toNat:Int)=((a.toNat &&& b.toNat:Nat):Int):=bv_and ha hb;rw[e,Ff ⟨by omega,?_⟩];have:=Nat.and_le_left (n:=a.toNat) (m:=b.toNat);have:=ha.2;have:=ha.1;omega
def Xy(x:Int)(j:Nat):Int:=x*2 ^ (8*j)
def G9(b:List Int):Int:=MU (MU (MU (MU (MU (MU (MU (b.getD 0 0) (Xy (b.getD 1 0) 1)) (Xy (b.getD 2 0) 2)) (Xy (b.getD 3 0) 3)) (Xy (b.getD 4 0) 4)) (Xy (b.getD 5 0) 5)) (Xy (b.getD 6 0) 6)) (Xy (b.getD 7 0) 7)
abbrev B0(b:List Int):Prop:=∀x∈b,0<=x/\x<256
def B0.getD{b:List Int}(h:B0 b)(j:Nat):0<=b.getD j 0/\b.getD j 0<256:=by
 rw[lj];cases e:b[j]? with
 |none=>simp
 |some x=>exact h x (mO.2 ⟨j,e⟩)
def B0.drop{b:List Int}(h:B0 b)(j:Nat):B0 (b.drop j):=fun x i=>h x (iV i)
def OK{x:Int}(h:0<=x/\x<256):Ia x:=⟨h.1,by omega⟩
def HL{b:List Int}(h:B0 b):Ia (G9 b):=by
 have u:∀j,j<8->Ia (Xy (b.getD j 0) j):=fun j i=>WT i (h.getD j).1 (h.getD j).2;unfold G9;exact EY (EY (EY (EY (EY (EY (EY (OK (h.getD 0)) (u 1 (by decide))) (u 2 (by decide))) (u 3 (by decide))) (u 4 (by decide))) (u 5 (by decide))) (u 6 (by decide))) (u 7 (by decide))
def Wi{b:List Int}(h:B0 b)(m:j<8)(o:128<=b.getD j 0):T6 (G9 b) j:=by
 have i:=(XB m o (h.getD j).2).2;unfold G9;rcases(show j=0\/j=1\/j=2\/j=3\/j=4\/j=5\/j=6\/j=7 by omega) with rfl|rfl|rfl|rfl|rfl|rfl|rfl|rfl
 .rw[show b.getD 0 0*2 ^ (8*0)=b.getD 0 0 by omega] at i;exact .l (.l (.l (.l (.l (.l (.l i))))))
 .exact .l (.l (.l (.l (.l (.l (.r i))))))
 .exact .l (.l (.l (.l (.l (.r i)))))
 .exact .l (.l (.l (.l (.r i))))
 .exact .l (.l (.l (.r i)))
 .exact .l (.l (.r i))
 .exact .l (.r i)
 .exact .r i
def Ex{C:World->Prop}{p:Addr}{n c:Nat}{b:Int}{m:Int}{k:Value->Prop}(J:j<n)(hm:m=8*j)(i:j<8)(hb:0<=b/\b<256)(hc:∀w,C w->w.cell? (p.add (j*1))=some (.int .u8 b))(hk:k (.int .u64 (Xy b j))) :
  BM 1 (.slice (some p) n c) (zI j) fun o=>BN C o fun B=>Bo prog C (convert 5 75 B) fun I=>Bo prog C (BS .shl 75 xo yo I (.int .u64 m)) k:=by
 refine AT J (Ay hc ⟨.int .u64 (IntKind.u64.wrap b),fun w _=>EF (k:=.u64) w (by kernel_rfl) (by kernel_rfl),?_⟩);rw[Ff (OK hb)];subst hm;refine⟨_,fun w _=>?_,hk⟩;have e:=SY (P:=prog) (t:=75) (xo:=xo) (yo:=yo) (k:=.u64) (q:=.u64) (a:=b) (n:=8*j) w (by show 8*j<=64;omega);rw[Ff (WT i hb.1 hb.2)] at e;have O:((8*j:Nat):Int)=8*(j:Int):=by omega
 rw[O] at e;exact e
def SB{b:List Int}(h:DG S w v b)(hb:B0 b)(hl:8<=b.length) :
  AB prog 300 [v] (fun v' w'=>v'=.int .u64 (G9 b)/\Grow w w') w:=by
 apply bE;obtain⟨a,c,rfl,hm⟩:=h.shape;have cell:∀j (i:j<b.length),∃p,a=some p/\w.cell? (p.add (j*1))=some (.int .u8 (b.getD j 0)):=by
  intro j i;obtain⟨p,r,rfl,_,hr,hc,rfl⟩:=h.get i;refine⟨p,rfl,?_⟩;rw[lj,By i];exact hc 0 _ rfl
 obtain⟨p,rfl,c0⟩:=cell 0 (by omega);have m:∀j,j<b.length->w.cell? (p.add (j*1))=some (.int .u8 (b.getD j 0)):=fun j i=>by obtain⟨T,e,hc⟩:=cell j i;cases e;exact hc
 refine Cx (fun w2=>Grow w w2) (Mod.drew _ _) ?_;have hc:∀j,j<b.length->∀w2,Grow w w2->w2.cell? (p.add (j*1))=some (.int .u8 (b.getD j 0)):=fun j i w2 g=>g.cell (m j i) fun h=>h;have u:∀j,j<8->Ia (Xy (b.getD j 0) j):=fun j i=>WT i (hb.getD j).1 (hb.getD j).2;refine AT (j:=0) (by omega) (Ay (hc 0 (by omega)) ⟨.int .u64 (IntKind.u64.wrap (b.getD 0 0)),fun w _=>EF (k:=.u64) w (by kernel_rfl) (by kernel_rfl),?_⟩);rw[Ff (OK (hb.getD 0))];have o:=OK (hb.getD 0);refine Ex (j:=1) (by omega) rfl (by decide) (hb.getD 1) (hc 1 (by omega)) ⟨_,fun w _=>Dr w o (u 1 (by decide)),?_⟩;have q:=EY o (u 1 (by decide));refine Ex (j:=2) (by omega) rfl (by decide) (hb.getD 2) (hc 2 (by omega)) ⟨_,fun w _=>Dr w q (u 2 (by decide)),?_⟩;have B:=EY q (u 2 (by decide));refine Ex (j:=3) (by omega) rfl (by decide) (hb.getD 3) (hc 3 (by omega)) ⟨_,fun w _=>Dr w B (u 3 (by decide)),?_⟩;have I:=EY B (u 3 (by decide));refine Ex (j:=4) (by omega) rfl (by decide) (hb.getD 4) (hc 4 (by omega)) ⟨_,fun w _=>Dr w I (u 4 (by decide)),?_⟩;have J:=EY I (u 4 (by decide));refine Ex (j:=5) (by omega) rfl (by decide) (hb.getD 5) (hc 5 (by omega)) ⟨_,fun w _=>Dr w J (u 5 (by decide)),?_⟩;have O:=EY J (u 5 (by decide));refine Ex (j:=6) (by omega) rfl (by decide) (hb.getD 6) (hc 6 (by omega)) ⟨_,fun w _=>Dr w O (u 6 (by decide)),?_⟩;have Q:=EY O (u 6 (by decide));refine Ex (j:=7) (by omega) rfl (by decide) (hb.getD 7) (hc 7 (by omega)) ⟨_,fun w _=>Dr w Q (u 7 (by decide)),?_⟩;exact fun w2 g=>⟨rfl,g⟩
def ES{b:List Int}(hb:B0 b)(h:((G9 b).toNat &&& 9259542123273814144:Nat)=0)(i:j<8):b.getD j 0<128:=by
 have:=Vo h i;have m:¬128<=b.getD j 0:=fun m=>this (Wi hb i m);omega
def firstT(x:Int):Int:=if x<194 then 241 else if x<224 then 2 else if x=224 then 19 else if x=237 then 35 else if x<240 then 3 else if x=240 then 52 else if x<244 then 4 else if x=244 then 68 else 241
def accLo(j:Nat):Int:=if j=1 then 160 else if j=3 then 144 else if j<5 then 128 else 0
def accHi(j:Nat):Int:=if j=2 then 159 else if j=4 then 143 else if j<5 then 191 else 0
structure Ee (w:World):Prop where
 size:2<w.heap.size
 first:∀j:Nat,128<=j->j<256->w.cell? ⟨1,j,none⟩=some (.int .u8 (firstT j))
 acc:∀j:Nat,j<16->w.cell? ⟨2,j*2,none⟩=some (.int .u8 (accLo j))/\w.cell? ⟨2,j*2+1,none⟩=some (.int .u8 (accHi j))
def Ee.grow(h:Ee w)(g:Grow w w'):Ee w':=
 ⟨X8 h.size g.size,fun j h1 m=>g.cell (h.first j h1 m) fun h=>h,fun j i=>⟨g.cell (h.acc j i).1 fun h=>h,g.cell (h.acc j i).2 fun h=>h⟩⟩
def fk{x:Int}(h0:128<=x)(h1:x<256):∃(f:Int) (z j:Nat),firstT x=f/\0<=f/\f<256/\(f.toNat &&& 7)=z/\f/16=j/\j<16/\(z=CS x\/CS x=0/\z=1)/\(CS x≠0->accLo j=JR x/\accHi j=I8 x):=by
 unfold firstT CS JR I8;by_cases i:x<194
 .exact⟨241,1,15,by rw[DN i],by decide,by decide,by decide,by decide,by decide,by rw[DN i];exact .inr ⟨rfl,rfl⟩,by rw[DN i];exact fun h=>absurd rfl h⟩
 rw[Bq i,Bq i];by_cases m:x<224
 .rw[DN m,DN m];exact⟨2,2,0,rfl,by decide,by decide,by decide,by decide,by decide,.inl rfl,fun _=>⟨by rw[Bq (by omega),Bq (by omega)];rfl,by rw[Bq (by omega),Bq (by omega)];rfl⟩⟩
 rw[Bq m,Bq m];by_cases a3:x=224
 .subst a3;exact⟨19,3,1,rfl,by decide,by decide,by decide,by decide,by decide,.inl rfl,fun _=>⟨rfl,rfl⟩⟩
 rw[Bq a3,Bq a3];by_cases a4:x=237
 .subst a4;exact⟨35,3,2,rfl,by decide,by decide,by decide,by decide,by decide,.inl rfl,fun _=>⟨rfl,rfl⟩⟩
 rw[Bq a4,Bq a4];by_cases a5:x<240
 .rw[DN a5,DN a5];exact⟨3,3,0,rfl,by decide,by decide,by decide,by decide,by decide,.inl rfl,fun _=>⟨by rw[Bq (by omega)];rfl,by rw[Bq (by omega)];rfl⟩⟩
 rw[Bq a5,Bq a5];by_cases o:x=240
 .subst o;exact⟨52,4,3,rfl,by decide,by decide,by decide,by decide,by decide,.inl rfl,fun _=>⟨rfl,rfl⟩⟩
 rw[Bq o,Bq o];by_cases q:x<244
 .rw[DN q,DN (by omega)];exact⟨4,4,0,rfl,by decide,by decide,by decide,by decide,by decide,.inl rfl,fun _=>⟨rfl,by rw[Bq (by omega)];rfl⟩⟩
 rw[Bq q];by_cases B:x=244
 .subst B;exact⟨68,4,4,rfl,by decide,by decide,by decide,by decide,by decide,.inl rfl,fun _=>⟨rfl,rfl⟩⟩
 rw[Bq B,Bq (by omega)];exact⟨241,1,15,rfl,by decide,by decide,by decide,by decide,by decide,.inr ⟨rfl,rfl⟩,fun h=>absurd rfl h⟩
def QO(x:Int):CS x=0\/CS x=2\/CS x=3\/CS x=4:=by
 unfold CS
 (repeat' split)<;>simp
def XD{t:TypeId}{a:Int}{z:Nat}(w:World)(h0:0<=a)(h1:a<256)(i:(a.toNat &&& 7)=z):(BS .and t xo yo (.int .u8 a) (.int .u8 7)).run prog w=.ok (.int .u8 z) w:=by
 rw[(J9 w).2];have e:((BitVec.ofInt IntKind.u8.bits a &&& BitVec.ofInt IntKind.u8.bits 7).toNat:Int)=((a.toNat &&& 7:Nat):Int):=by
  show((BitVec.ofInt 8 a &&& BitVec.ofInt 8 7).toNat:Int)=_;rw[BitVec.toNat_and,mY,mY];have e:((2 ^ 8:Nat):Int)=256:=by decide
  rw[e,nE h0 h1];rfl
 have j:z<=7:=i▸Nat.and_le_right;rw[e,i];congr 2
 have m:(2:Int) ^ IntKind.u8.bits=256:=by decide
 simp only[IntKind.wrap,m,IntKind.signed,pP];rw[Bq (by decide)];omega
def R8(v:Value):Nat:=match v with|.slice _ n _=>n|_=>0
def LN{l:List Int}{k:Nat}(hl:B0 l)(hk:k<=l.length)(h:∀j,j<k->l.getD j 0<128):(Bw l).isSome=(Bw (l.drop k)).isSome:=by
 refine RR hk fun j x m i=>?_;have:=h j m;rw[lj,i] at this;exact⟨(hl x (mO.2 ⟨j,i⟩)).1,this⟩
def Ie(l:List Int)(k j:Nat):(l.drop k).getD j 0=l.getD (k+j) 0:=by
 rw[lj,lj,ly]
def GW{a b c:Nat}(h:((a ||| b) &&& c)=0):(a &&& c)=0/\(b &&& c)=0:=by
 rw[Nat.and_or_distrib_right] at h;exact Nat.or_eq_zero_iff.1 h
def Oq{n:Nat}(h:((n &&& (9259542123273814144:Int).toNat:Nat):Int)=0):(n &&& 9259542123273814144)=0:=Int.ofNat_inj.1 h
set_option maxRecDepth 10000 in
def Vz{b:List Int}(h:DG S w v b)(hb:B0 b)(hT:Ee w) :
  AB prog 297 [v] (fun v' w'=>v'=.bool (Bw b).isSome/\Grow w w') w:=by
 apply bf;have hu:prog.underlying 293=some (.slice 5):=by kernel_rfl
 have hi:prog.info? 5=some Tryz.t5:=by kernel_rfl
 have hs:Tryz.t5.size=1:=by kernel_rfl
 obtain⟨a,c,rfl,hm⟩:=h.shape;obtain⟨_,_,e0,e6,_,_⟩:=id h;cases e0;rw[AP,AP];obtain⟨a',e7,e8⟩:=Mw (a:=a) (n:=b.length) (c:=c) hu hi hs e6 w;refine Ae e7 ?_;have h':DG S w (.slice a' b.length b.length) b:=by
  obtain⟨_,_,e0,h1,h2,h3⟩:=h;cases e0;refine⟨_,_,rfl,Mp _,hm,fun i x hx=>?_⟩;obtain⟨p,r,rfl,q⟩:=h3 i x hx;have:=(Ad.1 hx).1;exact⟨p,r,e8 (by omega),q⟩
 refine AX (fun vs W=>∃l v1,vs=[v1]/\DG S W v1 l/\B0 l/\(Bw b).isSome=(Bw l).isSome/\Grow w W) (fun vs _=>R8 (nth vs 0)) ⟨b,_,rfl,h',hb,rfl,Mod.refl _ _⟩ ?_;rintro vs W ⟨l,v1,rfl,hl,hB,b8,gW⟩ _;rw[Bl,Nr];obtain⟨p1,c1,rfl,e9⟩:=hl.shape;simp only[maxLen] at e9;rw[AP,BL];refine AF (fun bp=>?_) fun ep=>?_;rotate_left
 .have:l=[]:=QC (by omega);subst this;exact⟨by rw[b8,Nx];rfl,gW⟩
 have I:∀{W':World} {v':Value} {T:List Int},DG S W' v' T->B0 T->(Bw l).isSome=(Bw T).isSome->T.length<l.length->Grow w W'->
   ((∃l v1,[v']=[v1]/\DG S W' v1 l/\B0 l/\(Bw b).isSome=(Bw l).isSome/\Grow w W')/\R8 (nth [v'] 0)<R8 (nth [Value.slice p1 l.length c1] 0)):=by
  intro W' v' T h1 h2 h3 h4 h5;obtain⟨q,d,rfl,_⟩:=h1.shape;exact⟨⟨T,_,rfl,h1,h2,b8.trans h3,h5⟩,h4⟩
 have sl:∀{W':World} {q:Option Addr} {n d j:Nat} {T:List Int} {K:Cont},DG S W' (.slice q n d) T->j<=T.length->(∀v',DG S W' v' (T.drop j)->K v' W')->runK prog (Instr.sliceAt 293 (.slice q n d) (some (zI j)) none none) K W':=
  fun h1 h2 h3=>Fm (e:=5) (i:=Tryz.t5) hu hi hs h1 h2 h3
 have ge:∀{W1 V:World} {v':Value} {T:List Int},DG S W1 v' T->Grow W1 V->DG S V v' T:=fun h1 g=>h1.grow g (by decide) fun _ _ h=>h;have wq:∀{W1:World} {v':Value} {T:List Int} {K:Value->Prop},DG S W1 v' T->B0 T->8<=T.length->K (.int .u64 (G9 T))->FU prog (fun V=>Grow W1 V) 300 [v'] K:=by
  intro W1 v' T K h1 h2 h3 h4;refine⟨_,fun w2 g=>AA (SB (ge h1 g) h2 h3) ?_,h4⟩;rintro _ w3 ⟨rfl,g3⟩;exact⟨rfl,g.trans g3⟩
 obtain⟨x,t,rfl⟩:∃x t,l=x::t:=by cases l with|nil=>simp at bp|cons x t=>exact⟨x,t,rfl⟩
 have hx:=hB x lC;have J:B0 t:=fun y hy=>hB y (gi _ hy);obtain⟨p,r,rfl,_,hr,hc,rfl⟩:=hl.get (i:=0) (by simp);have cx:W.cell? (p.add (0*1+0))=some (.int .u8 x):=hc 0 _ rfl;refine AT (j:=0) (by simp) (AL cx ?_);show BU .u8 (.int .u8 x) _ _;refine Hj (fun ea=>?_) fun eu=>?_
 .have bs:(Bw (x::t)).isSome=(Bw t).isSome:=by
   have:=LN (l:=x::t) (k:=1) hB (by simp) fun j hj=>by
    have:j=0:=by omega
    subst this;exact ea
   simpa using this
  refine sl hl (j:=1) (by simp) fun v2 a8=>?_;rw[mP,mK] at a8;obtain⟨q2,d2,rfl,_⟩:=a8.shape;refine AV (fun vs V=>Grow W V/\∃q:Bool,vs=[.bool q]/\(q=true->8<=t.length/\∀j,j<8->t.getD j 0<128)) ?_ ?_
  .rintro vs V ⟨g2,q,rfl,hq⟩ _;rw[Bl,Nr];cases q with
   |false=>exact AS (I (ge a8 g2) J bs (by simp) (gW.trans g2))
   |true=>
    obtain⟨h8,ec⟩:=hq rfl;refine Ak (sl (ge a8 g2) (j:=8) h8 fun v3 O=>?_);have Q:B0 (t.drop 8):=B0.drop J 8;have b7:(Bw (x::t)).isSome=(Bw (t.drop 8)).isSome:=bs.trans (LN J h8 ec);have bx:(t.drop 8).length<(x::t).length:=by simp;omega
    generalize t.drop 8=l3 at O Q b7 bx;obtain⟨q3,d3,rfl,_⟩:=O.shape;refine AV (fun vs W3=>Grow W W3/\Grow V W3/\∃q:Bool,vs=[.bool q]/\(q=true->16<=l3.length/\∀j,j<16->l3.getD j 0<128)) ?_ ?_
    .rintro vs W3 ⟨g3,c4,q,rfl,hq⟩ _;rw[Bl,Nr];cases q with
     |false=>exact AS (I (ge O c4) Q b7 bx (gW.trans g3))
     |true=>
      obtain⟨b9,c6⟩:=hq rfl;refine Ak (sl (ge O c4) (j:=16) b9 fun v4 ed=>?_);refine AX (fun vs W4=>∃l4 v5,vs=[v5]/\DG S W4 v5 l4/\B0 l4/\(Bw (x::t)).isSome=(Bw l4).isSome/\l4.length<(x::t).length/\Grow W W4) (fun vs _=>R8 (nth vs 0))
       ⟨_,_,rfl,ed,B0.drop Q 16,b7.trans (LN Q b9 c6),by simp only[I3];omega,g3⟩ ?_
      rintro vs W4 ⟨l4,v5,rfl,a7,o,ba,c7,g4⟩ _;rw[Bl,Nr];obtain⟨q5,d5,rfl,_⟩:=a7.shape;refine Cx (fun W'=>Grow W4 W') (Mod.drew _ _) ?_;rw[AP,BL];refine AF (fun ew=>?_) fun _=>fun W' g'=>I (ge a7 g') o ba c7 (gW.trans (g4.trans g'));have er:32<l4.length:=by omega
      have run:=fun(j:Nat) (hj:j<=l4.length) (w':World)=>Er (a:=q5) (n:=l4.length) (c:=d5) hu hi hs hj w';have bb:=fun(j:Nat) (hj:j<=l4.length)=>Ku a7 hj;refine wq a7 o (by omega) ?_;refine⟨_,fun w' _=>run 8 (by omega) w',?_⟩;refine wq (bb 8 (by omega)) (B0.drop o 8) (by simp only[I3];omega) ?_;have u0:=HL o;have u1:=HL (B0.drop o 8);have u2:=HL (B0.drop o 16);have u3:=HL (B0.drop o 24);refine⟨_,fun w' _=>Dr w' u0 u1,?_⟩;refine⟨_,fun w' _=>run 16 (by omega) w',?_⟩;refine wq (bb 16 (by omega)) (B0.drop o 16) (by simp only[I3];omega) ?_;refine⟨_,fun w' _=>run 24 (by omega) w',?_⟩;refine wq (bb 24 (by omega)) (B0.drop o 24) (by simp only[I3];omega) ?_;refine⟨_,fun w' _=>Dr w' u2 u3,?_⟩;refine⟨_,fun w' _=>Dr w' (EY u0 u1) (EY u2 u3),?_⟩;refine⟨_,fun w' _=>Kr w' (EY (EY u0 u1) (EY u2 u3)) (by unfold Ia;decide),?_⟩;show Cu .u64 (.int .u64 _) _ _;rw[Aj];intro W' g';refine AF (fun hz=>?_) fun _=>I (ge a7 g') o ba c7 (gW.trans (g4.trans g'));have ak:((MU (MU (G9 l4) (G9 (l4.drop 8))) (MU (G9 (l4.drop 16)) (G9 (l4.drop 24)))).toNat &&& 9259542123273814144:Nat)=0:=Oq hz;simp only[MU,lf] at ak;obtain⟨z1,z2⟩:=GW ak;obtain⟨z3,z4⟩:=GW z1;obtain⟨z5,z6⟩:=GW z2;have ee:∀j,j<32->l4.getD j 0<128:=by
       intro j hj;rcases(show j<8\/8<=j/\j<16\/16<=j/\j<24\/24<=j by omega) with h|h|h|h
       .exact ES o z3 h
       .have:=ES (B0.drop o 8) z4 (j:=j-8) (by omega);rw[Ie,show 8+(j-8)=j by omega] at this;exact this
       .have:=ES (B0.drop o 16) z5 (j:=j-16) (by omega);rw[Ie,show 16+(j-16)=j by omega] at this;exact this
       .have:=ES (B0.drop o 24) z6 (j:=j-24) (by omega);rw[Ie,show 24+(j-24)=j by omega] at this;exact this
      refine sl (ge a7 g') (j:=32) (by omega) fun v6 c8=>?_;obtain⟨q6,d6,rfl,_⟩:=c8.shape;refine⟨⟨_,_,rfl,c8,B0.drop o 32,ba.trans (LN o (by omega) ee),by simp only[I3];omega,g4.trans g'⟩,?_⟩;show(l4.drop 32).length<l4.length;rw[I3];omega
    .refine Cx (fun W'=>Grow V W') (Mod.drew _ _) ?_;rw[AP,BL];refine AF (fun b9=>?_) fun _=>fun W' g'=>⟨g2.trans g',g',false,rfl,fun h=>(nomatch h)⟩;have et:16<l3.length:=by omega
     refine wq O Q (by omega) ?_;refine⟨_,fun w' _=>Er (a:=q3) (n:=l3.length) (c:=d3) hu hi hs (j:=8) (by omega) w',?_⟩;refine wq (Ku O (by omega)) (B0.drop Q 8) (by simp only[I3];omega) ?_;have u0:=HL Q;have u1:=HL (B0.drop Q 8);refine⟨_,fun w' _=>Dr w' u0 u1,?_⟩;refine⟨_,fun w' _=>Kr w' (EY u0 u1) (by unfold Ia;decide),?_⟩;show Cu .u64 (.int .u64 _) _ _;rw[Aj];intro W' g';refine⟨g2.trans g',g',_,rfl,fun hz=>?_⟩;rw[TC] at hz;have ak:((MU (G9 l3) (G9 (l3.drop 8))).toNat &&& 9259542123273814144:Nat)=0:=Oq hz;simp only[MU,lf] at ak;obtain⟨z1,z2⟩:=GW ak;refine⟨by omega,fun j hj=>?_⟩;rcases(show j<8\/8<=j by omega) with h|h
     .exact ES Q z1 h
     .have:=ES (B0.drop Q 8) z2 (j:=j-8) (by omega);rw[Ie,show 8+(j-8)=j by omega] at this;exact this
  .rw[AP,BL];refine AF (fun h8=>?_) fun _=>⟨Mod.refl _ _,false,rfl,fun h=>(nomatch h)⟩;have ey:8<t.length:=by omega
   refine AA (SB a8 J (by omega)) ?_;rintro _ V ⟨rfl,g2⟩;refine Ae (Kr V (HL J) (by unfold Ia;decide)) ?_;rw[Aj];refine⟨g2,_,rfl,fun hz=>?_⟩;rw[TC] at hz;exact⟨by omega,fun j hj=>ES J (Oq hz) hj⟩
 .have B:Ct (x::t)=(0,0)->∀{W'},Grow w W'->Value.bool false=.bool (Bw b).isSome/\Grow w W':=fun e W' g=>⟨by rw[b8,JF (by simp),e];rfl,g⟩;have FM:∀{n:Nat} {r:Int},Ct (x::t)=(r,n)->0<n->(Bw (x::t)).isSome=(Bw ((x::t).drop n)).isSome:=by
   intro n r e X;rw[JF (by simp),e];show(decide (n≠0)&&_)=_;rw[lH (show n≠0 by omega),oZ]
  obtain⟨f,z,j,hf,ef,eh,hz,hj,c9,eA,al⟩:=fk (x:=x) (by omega) hx.2;have cc:=hT.grow gW;have cf:W.cell? (Addr.add ⟨1,0,none⟩ (x.toNat*1))=some (.int .u8 f):=by
   rw[AH,ns,<-hf];have:=cc.first x.toNat (by omega) (by omega);rwa [show((x.toNat:Nat):Int)=x by omega] at this
  refine Ae (Hh (n:=256) (e:=5) (i:=Tryz.t5) (s:=1) (by kernel_rfl) (by kernel_rfl) (by kernel_rfl) hx.1 (by omega)) (AL cf ?_);refine Ae (XD W ef eh hz) ?_;refine Ae (EF (k:=.i64) W (by kernel_rfl) (by kernel_rfl)) ?_;have eB:z<=7:=hz▸Nat.and_le_right;rw[wrap64 (by omega) (by omega)];refine Ae (LP (n:=4) W (by decide)) ?_;have ej:f.fdiv (2 ^ 4)=(j:Int):=by
   rw[nh _ (by decide),<-hj];rfl
  rw[ej];refine Ae (Hh (n:=16) (e:=383) (i:=Tryz.t383) (s:=2) (by kernel_rfl) (by kernel_rfl) (by kernel_rfl) (by omega) (by omega)) ?_;rw[lf,AH];obtain⟨ca,cb⟩:=cc.acc j c9;refine Ah (vs:=[.int .u8 (accLo j),.int .u8 (accHi j)]) rfl (fun q u hu=>?_) ?_
  .rcases q with _|_|q
   .cases hu;exact ca
   .cases hu;exact cb
   .simp at hu
  refine BQ (vs:=[.int .u8 (accLo j),.int .u8 (accHi j)]) rfl rfl (fun u hu=>by simp at hu;rcases hu with rfl|rfl<;>rfl) fun b6 V cd eC g6 ch _=>?_;have bc:=ch 0 _ rfl;have bd:=ch 1 _ rfl;have m:=gW.trans g6;have U:=ge hl g6;have e5:0<(x::t).length:=by simp
  rw[Aj];refine AF (fun h2=>?_) fun h2=>?_
  .have eI:z=2:=by omega
   have Y:CS x=2:=by omega
   obtain⟨cn,cv⟩:=al (by omega);refine AV (fun _ W3=>Grow V W3/\2<=(x::t).length/\(Bw (x::t)).isSome=(Bw ((x::t).drop 2)).isSome) ?_ ?_
   .rintro vs W3 ⟨g3,an,av⟩ _;refine sl (ge U g3) (j:=2) an fun v3 O=>?_;exact I O (B0.drop hB 2) av (by rw[I3];omega) (m.trans g3)
   refine Cx (fun W'=>Grow V W') (Mod.drew _ _) ?_;rw[AP,Am];refine AF (fun da=>fun W' g'=>B (DT hx.2 (by rw[Y];omega)) (m.trans g')) fun Z=>?_;obtain⟨y1,t1,rfl⟩:∃y t',t=y::t':=by cases t with|nil=>simp at Z|cons y t'=>exact⟨y,t',rfl⟩
   have a1:=J y1 lC;have X:=Xs (t:=t1) Y a1.1 a1.2;obtain⟨_,r1,e1,_,dk,ax,rfl⟩:=U.get (i:=1) (by simp);cases e1;have a6:=ax 0 _ rfl;refine AT (j:=1) (by simp) (Ay (fun w' g=>g.cell a6 fun h=>h) ?_);rw[AG];refine Ay (fun w' g=>g.cell bc fun h=>h) ?_;show BU .u8 (.int .u8 y1) _ _;rw[Am];refine AF (fun ay=>fun W' g'=>B (by rw[X,Bq (by omega)]) (m.trans g')) fun ay=>?_;rw[AG];refine Ay (fun w' g=>g.cell bd fun h=>h) ?_;refine AT (j:=1) (by simp) (Ay (fun w' g=>g.cell a6 fun h=>h) ?_);show BU .u8 _ (.int .u8 y1) _;rw[Am];intro W' g';refine AF (fun b0=>B (by rw[X,Bq (by omega)]) (m.trans g')) fun b0=>?_;exact⟨g',by simp,FM (by rw[X,DN (by omega)]) (by decide)⟩
  rw[Aj];refine AF (fun h3=>?_) fun h3=>?_
  .have eL:z=3:=by omega
   have Y:CS x=3:=by omega
   obtain⟨cn,cv⟩:=al (by omega);refine AV (fun _ W3=>Grow V W3/\3<=(x::t).length/\(Bw (x::t)).isSome=(Bw ((x::t).drop 3)).isSome) ?_ ?_
   .rintro vs W3 ⟨g3,an,av⟩ _;refine sl (ge U g3) (j:=3) an fun v3 O=>?_;exact I O (B0.drop hB 3) av (by rw[I3];omega) (m.trans g3)
   refine Cx (fun W'=>Grow V W') (Mod.drew _ _) ?_;rw[AP,Am];refine AF (fun da=>fun W' g'=>B (DT hx.2 (by rw[Y];omega)) (m.trans g')) fun Z=>?_;obtain⟨y1,y2,t1,rfl⟩:∃y y2 t',t=y::y2::t':=by
    rcases t with _|⟨y,_|⟨y2,t'⟩⟩
    .simp at Z
    .simp at Z
    .exact⟨y,y2,t',rfl⟩
   have a1:=J y1 lC;have b1:=J y2 (gi _ lC);have X:=XR (t:=t1) Y a1.1 a1.2 b1.1 b1.2;obtain⟨_,r1,e1,_,dk,ax,rfl⟩:=U.get (i:=1) (by simp);cases e1;have a6:=ax 0 _ rfl;obtain⟨_,r2,e2,_,ek,bk,rfl⟩:=U.get (i:=2) (by simp);cases e2;have b2:=bk 0 _ rfl;refine AT (j:=1) (by simp) (Ay (fun w' g=>g.cell a6 fun h=>h) ?_);rw[AG];refine Ay (fun w' g=>g.cell bc fun h=>h) ?_;show BU .u8 (.int .u8 y1) _ _;rw[Am];refine AF (fun ay=>fun W' g'=>B (by rw[X,Bq (by omega)]) (m.trans g')) fun ay=>?_;rw[AG];refine Ay (fun w' g=>g.cell bd fun h=>h) ?_;refine AT (j:=1) (by simp) (Ay (fun w' g=>g.cell a6 fun h=>h) ?_);show BU .u8 _ (.int .u8 y1) _;rw[Am];refine AF (fun b0=>fun W' g'=>B (by rw[X,Bq (by omega)]) (m.trans g')) fun b0=>?_;refine AT (j:=2) (by simp) (Ay (fun w' g=>g.cell b2 fun h=>h) ?_);show BU .u8 (.int .u8 y2) _ _;rw[Am];refine AF (fun bl=>fun W' g'=>B (by rw[X,Bq (by omega)]) (m.trans g')) fun bl=>?_;refine AT (j:=2) (by simp) (Ay (fun w' g=>g.cell b2 fun h=>h) ?_);show BU .u8 _ (.int .u8 y2) _;rw[Am];intro W' g';refine AF (fun bn=>B (by rw[X,Bq (by omega)]) (m.trans g')) fun bn=>?_;exact⟨g',by simp,FM (by rw[X,DN (by omega)]) (by decide)⟩
  rw[Aj];refine AF (fun h4=>?_) fun h4=>?_
  .have eN:z=4:=by omega
   have Y:CS x=4:=by omega
   obtain⟨cn,cv⟩:=al (by omega);refine AV (fun _ W3=>Grow V W3/\4<=(x::t).length/\(Bw (x::t)).isSome=(Bw ((x::t).drop 4)).isSome) ?_ ?_
   .rintro vs W3 ⟨g3,an,av⟩ _;refine sl (ge U g3) (j:=4) an fun v3 O=>?_;exact I O (B0.drop hB 4) av (by rw[I3];omega) (m.trans g3)
   refine Cx (fun W'=>Grow V W') (Mod.drew _ _) ?_;rw[AP,Am];refine AF (fun da=>fun W' g'=>B (DT hx.2 (by rw[Y];omega)) (m.trans g')) fun Z=>?_;obtain⟨y1,y2,y3,t1,rfl⟩:∃y y2 y3 t',t=y::y2::y3::t':=by
    rcases t with _|⟨y,_|⟨y2,_|⟨y3,t'⟩⟩⟩
    .simp at Z
    .simp at Z
    .simp at Z
    .exact⟨y,y2,y3,t',rfl⟩
   have a1:=J y1 lC;have b1:=J y2 (gi _ lC);have dT:=J y3 (gi _ (gi _ lC));have X:=Wt (t:=t1) Y a1.1 a1.2 b1.1 b1.2 dT.1 dT.2;obtain⟨_,r1,e1,_,dk,ax,rfl⟩:=U.get (i:=1) (by simp);cases e1;have a6:=ax 0 _ rfl;obtain⟨_,r2,e2,_,ek,bk,rfl⟩:=U.get (i:=2) (by simp);cases e2;have b2:=bk 0 _ rfl;obtain⟨_,r3,e3,_,b7,en,rfl⟩:=U.get (i:=3) (by simp);cases e3;have e4:=en 0 _ rfl;refine AT (j:=1) (by simp) (Ay (fun w' g=>g.cell a6 fun h=>h) ?_);rw[AG];refine Ay (fun w' g=>g.cell bc fun h=>h) ?_;show BU .u8 (.int .u8 y1) _ _;rw[Am];refine AF (fun ay=>fun W' g'=>B (by rw[X,Bq (by omega)]) (m.trans g')) fun ay=>?_;rw[AG];refine Ay (fun w' g=>g.cell bd fun h=>h) ?_;refine AT (j:=1) (by simp) (Ay (fun w' g=>g.cell a6 fun h=>h) ?_);show BU .u8 _ (.int .u8 y1) _;rw[Am];refine AF (fun b0=>fun W' g'=>B (by rw[X,Bq (by omega)]) (m.trans g')) fun b0=>?_;refine AT (j:=2) (by simp) (Ay (fun w' g=>g.cell b2 fun h=>h) ?_);show BU .u8 (.int .u8 y2) _ _;rw[Am];refine AF (fun bl=>fun W' g'=>B (by rw[X,Bq (by omega)]) (m.trans g')) fun bl=>?_;refine AT (j:=2) (by simp) (Ay (fun w' g=>g.cell b2 fun h=>h) ?_);show BU .u8 _ (.int .u8 y2) _;rw[Am];refine AF (fun bn=>fun W' g'=>B (by rw[X,Bq (by omega)]) (m.trans g')) fun bn=>?_;refine AT (j:=3) (by simp) (Ay (fun w' g=>g.cell e4 fun h=>h) ?_);show BU .u8 (.int .u8 y3) _ _;rw[Am];refine AF (fun eo=>fun W' g'=>B (by rw[X,Bq (by omega)]) (m.trans g')) fun eo=>?_;refine AT (j:=3) (by simp) (Ay (fun w' g=>g.cell e4 fun h=>h) ?_);show BU .u8 _ (.int .u8 y3) _;rw[Am];intro W' g';refine AF (fun cd=>B (by rw[X,Bq (by omega)]) (m.trans g')) fun cd=>?_;exact⟨g',by simp,FM (by rw[X,DN (by omega)]) (by decide)⟩
  .exact B (Py hB (by omega) (by have:=QO x;omega)) m
def OF:Nat->Nat->List Int
 |0,n=>[(n:Int)]
 |f+1,n=>if n<=127 then[(n:Int)] else((n%128+128:Nat):Int)::OF f (n/128)
def uv(n:Nat):List Int:=OF 9 n
def Hm(n:Int):Nat:=if 0<=n then(2*n).toNat else(-2*n-1).toNat
def QS{a b:Int}(h:Hm a=Hm b):a=b:=by
 unfold Hm at h;split at h<;>split at h<;>omega
def HT{n:Int}(h0:-9223372036854775808<=n)(h1:n<=9223372036854775807):Hm n<18446744073709551616:=by
 unfold Hm;split<;>omega
def YO:∀{f n m:Nat} {x y:List Int},n<128 ^ (f+1)->m<128 ^ (f+1)->OF f n++x=OF f m++y->n=m/\x=y:=by
 intro f;induction f with
 |zero=>
  intro n m x y _ _ h;simp only[OF,rA,mn] at h;exact⟨by omega,h.2⟩
 |succ f j=>
  intro n m x y o hm h;rw[rU] at o hm;simp only[OF] at h;by_cases h1:n<=127<;>by_cases i:m<=127
  .rw[DN h1,DN i] at h;simp only[rA,mn] at h;exact⟨by omega,h.2⟩
  .rw[DN h1,Bq i] at h;simp only[S7,mn] at h;omega
  .rw[Bq h1,DN i] at h;simp only[S7,mn] at h;omega
  .rw[Bq h1,Bq i] at h;simp only[S7,mn] at h;have:=j (om (by omega)) (om (by omega)) h.2;exact⟨by omega,this.2⟩
def Mn{n m:Nat}{x y:List Int}(i:n<18446744073709551616)(hm:m<18446744073709551616)(h:uv n++x=uv m++y):n=m/\x=y:=by
 have e:(18446744073709551616:Nat)<=128 ^ (9+1):=by decide
 exact YO (by omega) (by omega) h
def GQ:∀(f n:Nat),1<=(OF f n).length/\(OF f n).length<=f+1:=by
 intro f;induction f with
 |zero=>intro n;simp[OF]
 |succ f i=>
  intro n;simp only[OF];split
  .simp
  .have:=i (n/128);simp only[S5];omega
def Wu:∀(f n:Nat),n<128 ^ (f+1)->∀x∈OF f n,0<=x/\x<256:=by
 intro f;induction f with
 |zero=>intro n j x i;simp only[OF,P9] at i;subst i;simp at j;omega
 |succ f m=>
  intro n j x i;rw[rU] at j;simp only[OF] at i;split at i
  .simp only[P9] at i;omega
  .rcases K8.1 i with rfl|i
   .omega
   .exact m _ (om (by omega)) x i
def Jz{n:Nat}(i:n<18446744073709551616):∀x∈uv n,0<=x/\x<256:=by
 have e:(18446744073709551616:Nat)<=128 ^ (9+1):=by decide
 exact Wu 9 n (by omega)
def Mv(a:Attr):Prop:=(-9223372036854775808<=a.key/\a.key<=9223372036854775807)/\(0<=a.val.kind/\a.val.kind<256)/\(-9223372036854775808<=a.val.n/\a.val.n<=9223372036854775807)/\(0<=a.val.f/\a.val.f<18446744073709551616)/\a.val.s.size<18446744073709551616
def Kh(a:Attr):List Int:=uv (Hm a.key)++(uv a.val.kind.toNat++(uv (Hm a.val.n)++(uv a.val.f.toNat++(uv a.val.s.size++CC a.val.s))))
def Fy(l:List Attr):List Int:=l.flatMap Kh
def RF{s t:ByteArray}(h:CC s=CC t):s=t:=by
 unfold CC at h;have i:=(List.map_inj_right (f:=fun b:UInt8=>(b.toNat:Int)) (fun a b e=>UInt8.toNat_inj.1 (Int.ofNat_inj.1 e))).1 h;cases s;cases t;simp only[ByteArray.mk.injEq];exact pW.1 i
def DO(s:ByteArray):(CC s).length=s.size:=by simp[CC]
def Wy{a b:Attr}(ha:Mv a)(hb:Mv b){x y:List Int}(h:Kh a++x=Kh b++y):a=b/\x=y:=by
 obtain⟨i,Q,a3,a4,a5⟩:=ha;obtain⟨j,T,b3,b4,b5⟩:=hb;unfold Kh at h;simp only[Of] at h;obtain⟨m,h⟩:=Mn (HT i.1 i.2) (HT j.1 j.2) h;obtain⟨U,h⟩:=Mn (by omega) (by omega) h;obtain⟨o,h⟩:=Mn (HT a3.1 a3.2) (HT b3.1 b3.2) h;obtain⟨V,h⟩:=Mn (by omega) (by omega) h;obtain⟨q,h⟩:=Mn a5 b5 h;obtain⟨B,h⟩:=List.append_inj h (by rw[DO,DO,q]);refine⟨?_,h⟩;obtain⟨X,I⟩:=a;obtain⟨Y,bv⟩:=b;obtain⟨v1,v2,v3,v4⟩:=I;obtain⟨J,Z,O,u4⟩:=bv;simp only at *;have:=QS m;have:=QS o;have:=RF B;have:v1=J:=by omega
 have:v3=O:=by omega
 subst_vars
 rfl
def Vm:∀{l m:List Attr},(∀a∈l,Mv a)->(∀a∈m,Mv a)->Fy l=Fy m->l=m:=by
 have ne:∀a x,Kh a++x≠[]:=fun a x e=>by
  have:=GQ 9 (Hm a.key);have h:=kZ List.length e;simp only[Kh,Bp,lG,uv] at h;omega
 intro l;induction l with
 |nil=>
  intro m _ hm h;cases m with
  |nil=>rfl
  |cons b m=>exact absurd h.symm (by simpa[Fy] using ne b (Fy m))
 |cons a l j=>
  intro m hl hm h;cases m with
  |nil=>exact absurd h (by simpa[Fy] using ne a (Fy l))
  |cons b m=>
   simp only[Fy,lQ] at h;obtain⟨rfl,o⟩:=Wy (hl a lC) (hm b lC) h;rw[j (fun x i=>hl x (gi _ i)) (fun x i=>hm x (gi _ i)) (show Fy l=Fy m from o)]
def strOf(l:List Int):ByteArray:=⟨(l.map fun x=>UInt8.ofNat x.toNat).toArray⟩
def HN{l:List Int}(h:∀x∈l,0<=x/\x<256):CC (strOf l)=l:=by
 unfold CC strOf;simp only[mz];conv=>rhs;rw[<-List.map_id l]
 refine nX fun x i=>?_;have:=h x i;simp only[Function.comp,UInt8.toNat_ofNat',id];omega
def UW{a:Attr}(h:Mv a):∀x∈Kh a,0<=x/\x<256:=by
 obtain⟨j,m,a3,a4,a5⟩:=h;intro x i;simp only[Kh,C3] at i;rcases i with i|i|i|i|i|i
 .exact Jz (HT j.1 j.2) x i
 .exact Jz (by omega) x i
 .exact Jz (HT a3.1 a3.2) x i
 .exact Jz (by omega) x i
 .exact Jz a5 x i
 .simp only[CC,kT] at i;obtain⟨b,_,rfl⟩:=i;have:=b.toNat_lt;omega
def KT{l:List Attr}(h:∀a∈l,Mv a):∀x∈Fy l,0<=x/\x<256:=by
 intro x i;simp only[Fy,qi] at i;obtain⟨a,ha,i⟩:=i;exact UW (h a ha) x i
def El(l:List Attr):ByteArray:=strOf (Fy l)
def JI{l m:List Attr}(hl:∀a∈l,Mv a)(hm:∀a∈m,Mv a)(h:El l=El m):l=m:=by
 refine Vm hl hm ?_;rw[<-HN (KT hl),<-HN (KT hm)];exact kZ CC h
def EZ(t:Tab (List Attr))(f:Value->Option Value):Prop:=∀s v,f (.string s)=some v↔∃(i:Nat) (p:Ent (List Attr)),t.places[i]?=some p/\0<p.held/\s=El p.set/\v=zI ((i:Int)+1)
def Qd(ks:List Attr->Prop)(s:List Attr):Prop:=s≠[]/\(∀a∈s,Mv a)/\ks s
def EZ.some{K:List Attr->Prop}{t:Tab (List Attr)}{f:Value->Option Value}(h:EZ t f)(hi:t.Inv (Qd K))(m:∀a∈s,Mv a)(o:f (.string (El s))=some v):∃i n:Nat,t.places[i]?=.some ⟨s,n⟩/\0<n/\v=zI ((i:Int)+1):=by
 obtain⟨i,p,h1,j,q,B⟩:=(h _ _).1 o;have:=JI m (hi.ok i p h1 j).2.1 q;subst this;exact⟨i,p.held,h1,j,B⟩
def EZ.none{t:Tab (List Attr)}{f:Value->Option Value}(h:EZ t f)(j:f (.string (El s))=Option.none):∀(i:Nat) (p:Ent (List Attr)),t.places[i]?=.some p->0<p.held->p.set≠s:=by
 rintro i p h1 m rfl;have:=(h (El p.set) _).2 ⟨i,p,h1,m,rfl,rfl⟩;rw[j] at this;cases this
def EZ.IB{t:Tab (List Attr)}{f:Value->Option Value}(h:EZ t f){i:Nat}{p:Ent (List Attr)}(hp:t.places[i]?=.some p)(h0:0<p.held){n:Nat}(J:0<n):EZ (t.IB i ⟨p.set,n⟩) f:=by
 intro s v;rw[h s v];have hi:=(Ad.1 hp).1;constructor
 .rintro⟨j,q,h1,I,o,B⟩;by_cases e:j=i
  .subst e;rw[hp] at h1;cases h1;exact⟨j,⟨p.set,n⟩,by show(t.places.set j _)[j]?=_;rw[kP hi],J,o,B⟩
  .exact⟨j,q,by show(t.places.set i _)[j]?=_;rw[lI (nY e)];exact h1,I,o,B⟩
 .rintro⟨j,q,h1,I,o,B⟩;have m:(t.places.set i ⟨p.set,n⟩)[j]?=.some q:=h1;by_cases e:j=i
  .subst e;rw[kP hi] at m;cases m;exact⟨j,p,hp,h0,o,B⟩
  .rw[lI (nY e)] at m;exact⟨j,q,m,I,o,B⟩
open Classical in
def EZ.put{K:List Attr->Prop}{t:Tab (List Attr)}{f:Value->Option Value}(h:EZ t f)(hi:t.Inv (Qd K))(J:Qd K s)(O:f (.string (El s))=Option.none) :
  EZ (t.put s).2 (fun Q=>if Q=.string (El s) then Option.some (zI (((t.put s).1:Int)+1)) else f Q):=by
 obtain⟨_,h1,V,T,_⟩:=Tab.GD hi J (h.none O);intro U v;simp only[pE];constructor
 .intro I;split at I
  .rename_i e;subst e;cases I;exact⟨_,_,h1,Nat.one_pos,rfl,rfl⟩
  .obtain⟨j,p,i,o,m,q⟩:=(h U v).1 I;have B:j≠(t.put s).1:=by
    rintro rfl;have:=V p i;omega
   exact⟨j,p,(T j B).trans i,o,m,q⟩
 .rintro⟨j,p,i,o,m,q⟩;by_cases B:j=(t.put s).1
  .subst B;rw[h1] at i;cases i;rw[DN m,q]
  .rw[T j B] at i;rw[Bq]
   .exact(h U v).2 ⟨j,p,i,o,m,q⟩
   .intro e;rw[e] at m;exact h.none O j p i o (JI (hi.ok j p i o).2.1 J.2.1 m.symm)
open Classical in
def EZ.drop{K:List Attr->Prop}{t:Tab (List Attr)}{f:Value->Option Value}(h:EZ t f)(hi:t.Inv (Qd K)){i:Nat}{p:Ent (List Attr)}(hp:t.places[i]?=.some p)(h0:0<p.held) :
  EZ (t.drop [] i) (fun X=>if X=.string (El p.set) then Option.none else f X):=by
 have T:=(Ad.1 hp).1;have B:(t.places.set i ⟨[],0⟩)[i]?=.some ⟨[],0⟩:=kP T;have o:∀j:Nat,j≠i->(t.places.set i (⟨[],0⟩:Ent (List Attr)))[j]?=t.places[j]?:=fun j I=>lI (nY I);intro Y v;simp only[pE];constructor
 .intro U;split at U
  .cases U
  .rename_i e;obtain⟨j,q,Q,J,O,V⟩:=(h Y v).1 U;have I:j≠i:=by
    rintro rfl;rw[hp] at Q;cases Q;exact e O
   exact⟨j,q,(o j I).trans Q,J,O,V⟩
 .rintro⟨j,q,Q,J,O,V⟩;have m:(t.places.set i (⟨[],0⟩:Ent (List Attr)))[j]?=.some q:=Q;by_cases I:j=i
  .subst I;rw[B] at m;cases m;exact absurd J (ph _)
  .rw[o j I] at m;rw[Bq]
   .exact(h Y v).2 ⟨j,q,m,J,O,V⟩
   .intro e;rw[e] at O;exact I (hi.Hn j i q p m hp J h0 (JI (hi.ok j q m J).2.1 (hi.ok i p hp h0).2.1 O.symm))
def EZ.z:EZ (Tab.z _) (fun _=>Option.none):=fun s v=>by simp[Tab.z]
def QY(w:World)(r:Nat):Nat:=match w.heap[r]? with|some (.stringIter _ p)=>p|_=>0
def Od{r:Nat}{s:ByteArray}(h:w.heap[r]?=some (.stringIter s j))(hp:j<s.size) :
  (Instr.next (.pointer (some ⟨r,0,none⟩)) true ty).run P w=.ok (.tuple #[.bool true,zI j,.int .i32 (Utf8.decode s j).1]) { w with heap:=w.heap.setIfInBounds r (.stringIter s (j+(Utf8.decode s j).2)) }:=by
 simp only[Instr.next,getObj,setObj,kL,Sem.run,h,Result.andThen,hp,lT];simp[goInt]
def NL{r:Nat}{s:ByteArray}(h:w.heap[r]?=some (.stringIter s j))(hp:¬j<s.size) :
  (Instr.next (.pointer (some ⟨r,0,none⟩)) true ty).run P w=.ok (.tuple #[.bool false]) w:=by
 simp only[Instr.next,getObj,kL,Sem.run,h,Result.andThen,hp,lE];rfl
def Mod.setObj(w:World)(r:Nat)(o o':Obj)(h:w.heap[r]?=some o):Mod (fun b=>b=r) w { w with heap:=w.heap.setIfInBounds r o' }:=
 ⟨rfl,rfl,rfl,by simp,fun x _ i=>(pY h).2 x i⟩
def SV{b:List Int}(h:DG S w v b)(hb:B0 b):(convert 293 9 v).run prog w=.ok (.string (strOf b)) w:=by
 obtain⟨a,c,rfl,hm⟩:=h.shape;cases a with
 |none=>
  have:b=[]:=by
   cases b with
   |nil=>rfl
   |cons x b=>obtain⟨p,r,e,_⟩:=h.get (i:=0) (by simp);cases e
  subst this;exact run_convert_bytes_nil w 293 5 (by kernel_rfl) (by kernel_rfl) _ _ _ (by kernel_rfl)
 |some p=>
  have hl:(b.map fun x=>UInt8.ofNat x.toNat).length=b.length:=by simp
  have:=run_convert_bytes_back (P:=prog) w 293 9 5 p c (b.map fun x=>UInt8.ofNat x.toNat) (by kernel_rfl) (by kernel_rfl) (by kernel_rfl) (fun j m=>by
   rw[hl] at m;obtain⟨_,r,e,_,hr,hc,rfl⟩:=h.get m;cases e;have:=hc 0 _ rfl;rw[ns,lD] at this;rw[this];have o:=hb b[j] (WJ m);simp only[mS,UInt8.toNat_ofNat'];congr 2
   omega)
  rw[hl] at this;exact this
def PO{s:ByteArray}{r:Int}{n:Nat}(hp:e<s.size)(h:Ct ((CC s).drop e)=(r,n))(J:n≠0):((Utf8.decode s e).1:Int)=r/\(Utf8.decode s e).2=n:=by
 have m:∀k c,((CC s).drop e)[k]?=some c->e+k<s.size/\(((s.get! (e+k)).toNat:Nat):Int)=c:=by
  intro k c hc;rw[ly] at hc;have Q:e+k<s.size:=by
   have:=(Ad.1 hc).1;rwa [DO] at this
  refine⟨Q,?_⟩;have hg:s.get! (e+k)=s[e+k]'Q:=by
   simp[ByteArray.get!,ow,Q];rfl
  rw[hg];simp only[CC,lP] at hc;have Y:e+k<s.data.toList.length:=by simpa using Q
  rw[By Y] at hc;have:=kW hc;exact this
 have T:B0 ((CC s).drop e):=fun x hx=>by
  have:=iV hx;simp only[CC,kT] at this;obtain⟨b,_,rfl⟩:=this;have:=b.toNat_lt;omega
 have Z:((CC s).drop e).length≠0:=by rw[I3,DO];omega
 generalize (CC s).drop e=l at h m T Z;obtain⟨i,t,rfl⟩:∃x t,l=x::t:=by cases l with|nil=>simp at Z|cons x t=>exact⟨x,t,rfl⟩
 obtain⟨_,e0⟩:=m 0 i rfl;have h0:=T i lC;generalize U:(s.get! (e+0)).toNat=O at e0;by_cases ha:i<128
 .rw[Lg h0.1 ha] at h;cases h;simp only[Utf8.decode,U];rw[DN (by omega)];exact⟨e0,rfl⟩
 rcases QO i with j|j|j|j
 .rw[Py T (by omega) j] at h;cases h;exact absurd rfl J
 .cases t with
  |nil=>rw[DT h0.2 (by rw[j];simp)] at h;cases h;exact absurd rfl J
  |cons c1 t=>
   have h1:=T c1 (by simp);obtain⟨l1,e1⟩:=m 1 c1 rfl;generalize I:(s.get! (e+1)).toNat=B at e1;rw[Xs j h1.1 h1.2] at h;split at h
   .rename_i hc;cases h;have a1:194<=i/\i<224:=by
     unfold CS at j
     (repeat' split at j)<;>omega
    have o:128<=JR i:=by
     unfold JR;split
     .decide
     .split<;>decide
    have q:I8 i<=191:=by
     unfold I8;split
     .decide
     .split<;>decide
    have q1:(O/32==6&&(decide (e+1<s.size)&&B/64==2))=true:=by
     simp only[cL,pC,TC];exact⟨by omega,l1,by omega⟩
    simp only[Utf8.decode,U,I];rw[Bq (by omega),DN q1,DN (by omega)];exact⟨by omega,rfl⟩
   .cases h;exact absurd rfl J
 .rcases t with _|⟨c1,_|⟨c2,t⟩⟩
  .rw[DT h0.2 (by rw[j];simp)] at h;cases h;exact absurd rfl J
  .rw[DT h0.2 (by rw[j];simp)] at h;cases h;exact absurd rfl J
  .have h1:=T c1 (by simp);have h2:=T c2 (by simp);obtain⟨l1,e1⟩:=m 1 c1 rfl;obtain⟨l2,e2⟩:=m 2 c2 rfl;generalize I:(s.get! (e+1)).toNat=B at e1;generalize X:(s.get! (e+2)).toNat=V at e2;rw[XR j h1.1 h1.2 h2.1 h2.2] at h;split at h
   .rename_i hc;cases h;have a1:224<=i/\i<240:=by
     unfold CS at j
     (repeat' split at j)<;>omega
    have o:(if i=224 then(160:Int) else 128)<=c1:=by
     refine qq ?_ hc.1.1;unfold JR;split
     .decide
     .split<;>decide
    have q:c1<=(if i=237 then(159:Int) else 191):=by
     refine qq hc.1.2 ?_;unfold I8;split
     .decide
     .split<;>decide
    have a6:128<=c1:=by split at o<;>omega
    have a7:c1<=191:=by split at q<;>omega
    have q1:¬(O/32==6&&(decide (e+1<s.size)&&B/64==2))=true:=by
     simp only[cL,pC,TC];rintro⟨x,_⟩;omega
    have q2:(O/16==14&&(decide (e+1<s.size)&&B/64==2)&&(decide (e+2<s.size)&&V/64==2))=true:=by
     simp only[cL,pC,TC];exact⟨⟨by omega,l1,by omega⟩,l2,by omega⟩
    have q3:(decide (O%16*4096+B%64*64+V%64 ≥ 2048)&&Utf8.valid ((O%16*4096+B%64*64+V%64:Nat):Int))=true:=by
     simp only[Utf8.valid,cL,nV,TC];refine⟨by split at o<;>omega,?_⟩;split at q
     .left;omega
     .by_cases hb:i<237
      .left;omega
      .right;omega
    simp only[Utf8.decode,U,I,X];rw[Bq (by omega),Bq q1,DN q2,DN q3];exact⟨by omega,rfl⟩
   .cases h;exact absurd rfl J
 .rcases t with _|⟨c1,_|⟨c2,_|⟨c3,t⟩⟩⟩
  .rw[DT h0.2 (by rw[j];simp)] at h;cases h;exact absurd rfl J
  .rw[DT h0.2 (by rw[j];simp)] at h;cases h;exact absurd rfl J
  .rw[DT h0.2 (by rw[j];simp)] at h;cases h;exact absurd rfl J
  .have h1:=T c1 (by simp);have h2:=T c2 (by simp);have h3:=T c3 (by simp);obtain⟨l1,e1⟩:=m 1 c1 rfl;obtain⟨l2,e2⟩:=m 2 c2 rfl;obtain⟨l3,e3⟩:=m 3 c3 rfl;generalize I:(s.get! (e+1)).toNat=B at e1;generalize X:(s.get! (e+2)).toNat=V at e2;generalize a8:(s.get! (e+3)).toNat=m3 at e3;rw[Wt j h1.1 h1.2 h2.1 h2.2 h3.1 h3.2] at h;split at h
   .rename_i hc;cases h;have a1:240<=i/\i<245:=by
     unfold CS at j
     (repeat' split at j)<;>omega
    have o:(if i=240 then(144:Int) else 128)<=c1:=by
     refine qq ?_ hc.1.1;unfold JR;rw[Bq (show ¬i=224 by omega)];exact rK _
    have q:c1<=(if i=244 then(143:Int) else 191):=by
     refine qq hc.1.2 ?_;unfold I8;rw[Bq (show ¬i=237 by omega)];exact rK _
    have a6:128<=c1:=by split at o<;>omega
    have a7:c1<=191:=by split at q<;>omega
    have q1:¬(O/32==6&&(decide (e+1<s.size)&&B/64==2))=true:=by
     simp only[cL,pC,TC];rintro⟨x,_⟩;omega
    have q2:¬(O/16==14&&(decide (e+1<s.size)&&B/64==2)&&(decide (e+2<s.size)&&V/64==2))=true:=by
     simp only[cL,pC,TC];rintro⟨⟨x,_⟩,_⟩;omega
    have q3:(O/8==30&&(decide (e+1<s.size)&&B/64==2)&&(decide (e+2<s.size)&&V/64==2)&&(decide (e+3<s.size)&&m3/64==2))=true:=by
     simp only[cL,pC,TC];exact⟨⟨⟨by omega,l1,by omega⟩,l2,by omega⟩,l3,by omega⟩
    have q4:(decide (O%8*262144+B%64*4096+V%64*64+m3%64 ≥ 65536)&&Utf8.valid ((O%8*262144+B%64*4096+V%64*64+m3%64:Nat):Int))=true:=by
     simp only[Utf8.valid,cL,nV,TC];refine⟨by split at o<;>omega,?_⟩;right;split at q<;>omega
    simp only[Utf8.decode,U,I,X,a8];rw[Bq (by omega),Bq q1,Bq q2,DN q3,DN q4];exact⟨by omega,rfl⟩
   .cases h;exact absurd rfl J
def Wl{b:List Int}(h:DG S w v b)(hb:B0 b)(hT:Ee w)(hl:b.length*4<=140737488355328) :
  AB prog 286 [v] (fun v' w'=>Grow w w'/\match Bw b with
   |some l=>∃sl,v'=.tuple #[sl,.int .i64 0]/\AE w.heap.size 21 1 Bz w' sl l
   | none=>v'=.tuple #[.slice none 0 0,.int .i64 3]) w:=by
 apply YU;refine AA (Vz h hb hT) ?_;rintro _ J ⟨rfl,V⟩;rw[An];cases hr:Bw b with
 |none=>exact Ak ⟨V,rfl⟩
 |some rs=>
  refine AS (Ae (SV (h.grow V (by decide) fun _ _ h=>h) hb) ?_);have X:CC (strOf b)=b:=HN hb;have Y:(strOf b).size=b.length:=by rw[<-DO,X]
  generalize strOf b=s at X Y;refine Ae (run_range_string J 9 s (by kernel_rfl)) ?_;have hit:=World.iter_heap J s 0;have g2:Grow J (J.iter s 0):=Mod.alloc _ _ _;have al:=V.size;generalize J.iter s 0=w2 at hit g2;generalize an:J.heap.size=r at hit;have av:w.heap.size<=r:=by omega
  refine AX (fun vs W=>∃(pos:Nat) (lv:Value) (acc:List Int),pos<=b.length/\acc.length<=pos/\vs=[lv]/\W.heap[r]?=some (.stringIter s pos)/\AE w.heap.size 21 1 Bz W lv acc/\lv.ownBlock≠some r/\Grow w W/\Bw b=(Bw (b.drop pos)).map (acc++·)) (fun _ W=>b.length-QY W r)
   ⟨0,_,[],Nn _,Mp _,rfl,hit,AE.nil,(fun h=>nomatch h),V.trans g2,by simp⟩ ?_
  rintro vs W ⟨pos,lv,acc,a7,a8,rfl,hi,ho,o,gW,i⟩ _;have m:QY W r=pos:=by simp[QY,hi]
  by_cases B:pos<s.size
  .have ak:pos<b.length:=by omega
   have Z:b.drop pos≠[]:=by intro e;have:=kZ List.length e;simp at this;omega
   have I:=UU (b.drop pos);rw[I3] at I;rw[Mu Z] at i;have a1:∃q n,Ct (b.drop pos)=(q,n):=⟨_,_,rfl⟩;obtain⟨q,n,hq⟩:=a1;rw[hq] at i I;simp only at i I;have hn:n≠0:=by
    intro e;rw[DN e,hr] at i;cases i
   rw[Bq hn] at i;obtain⟨d1,d2⟩:=PO (s:=s) B (by rw[X];exact hq) hn;refine Ae (Od hi B) ?_;rw[d1,d2];refine CL (vs:=[_,_,_]) (by rfl) (Ak (CL (vs:=[_,_,_]) (by rfl) ?_));have m3:=Mod.setObj W r _ (.stringIter s (pos+n)) hi;have a6:=(pY (o':=.stringIter s (pos+n)) hi).1;have j:({ W with heap:=W.heap.setIfInBounds r (.stringIter s (pos+n)) }:World).heap[r]?=some (.stringIter s (pos+n)):=a6;generalize ({ W with heap:=W.heap.setIfInBounds r (.stringIter s (pos+n)) }:World)=W3 at m3 j;have O:AE w.heap.size 21 1 Bz W3 lv acc:=AE.mod ho m3 (fun g hg e=>o (e▸hg)) fun _ _ _ h=>h;have Q:Grow w W3:=gW.next m3 fun x hx e=>by omega
   show Ba _ _ _ _ [(0,.int .i32 q)] _ _;refine Da Ih O Q.size (cs:=[.int .i32 q]) (x:=q) (by kernel_rfl) rfl rfl (fun _ _ _=>Bz.one) (fun _ _ _ _ _ _ h=>h) (by omega) (by simp only[maxLen];omega) fun v' w' h1 h2 h3=>?_;have T:r<W3.heap.size:=(mQ.1 j).1;have U:w'.heap[r]?=some (.stringIter s (pos+n)):=(h2.same r T o).trans j;refine⟨⟨pos+n,v',acc++[q],by omega,by simp;omega,rfl,U,h1,fun e=>?_,Q.next h2 fun x hx e=>?_,?_⟩,?_⟩
   .rcases h3 r e with e|e
    .exact o e
    .omega
   .have:=(AE.Ax O x e).1;omega
   .rw[i,oJ];cases Bw (b.drop (pos+n))<;>simp
   .rw[m];have:QY w' r=pos+n:=by simp[QY,U]
    rw[this];omega
  .refine Ae (NL hi B) ?_;refine CL (vs:=[_]) (by rfl) (AS ?_);have:pos=b.length:=by omega
   subst this;rw[nD,Nx,hr] at i;simp only[mo,i6,kK] at i;subst i;exact⟨gW,lv,rfl,ho⟩
def Xf{n:Nat}:(callFunc 285 #[.float .f64 n]).run prog w=.ok (.value (.int .u64 n)) w:=by
 have h:prog.funcs[285]?=some Tryz.f285:=func285
 have e0 : (Tryz.f285.name == "runtime.NumGoroutine") = false := by kernel_rfl
 have i:Tryz.f285.body.isNone=true:=by kernel_rfl
 have j:Extern.findNext Tryz.f285=none:=by kernel_rfl
 have m:Extern.find Tryz.f285=some Extern.MathFloatBits.float64bits:=by kernel_rfl
 simp only[callFunc,program,mark,kL,Sem.run,Result.andThen,h,e0,i,j,m,nA,lE,lT];rfl
def VR{n:Int}:(callFunc 257 #[.int .u64 n]).run prog w=.ok (.value (.float .f64 n.toNat)) w:=by
 have h:prog.funcs[257]?=some Tryz.f257:=func257
 have e0 : (Tryz.f257.name == "runtime.NumGoroutine") = false := by kernel_rfl
 have i:Tryz.f257.body.isNone=true:=by kernel_rfl
 have j:Extern.findNext Tryz.f257=none:=by kernel_rfl
 have m:Extern.find Tryz.f257=some Extern.MathFloatBits.float64frombits:=by kernel_rfl
 simp only[callFunc,program,mark,kL,Sem.run,Result.andThen,h,e0,i,j,m,nA,lE,lT];rfl
def U6{n:Nat}:AB prog 284 [.float .f64 n] (fun v w'=>v=.bool (decide (GU (n:Int)))/\w'=w) w:=by
 apply Z7;refine Ae (v:=.bool (decide (GU (n:Int)))) (w':=w) ?_ ⟨rfl,rfl⟩;rw[<-RM];simp[BS,eqGuard,binOp,Op.floatCmp]
def bM{b:Bool}:AB prog 254 [.bool b] (fun v w'=>v=.agg (⟨1,if b then 1 else 0,0,FH⟩:A6).cells.toArray/\Grow w w') w:=by
 apply bN;refine EU fun X w1 Y Z g2 _ q=>?_;refine⟨(⟨1,0,0,FH⟩:A6).cells.toArray,by kernel_rfl,?_⟩;refine BQ (vs:=(⟨1,0,0,FH⟩:A6).cells) rfl rfl (A6.one _) fun b3 w2 a1 a6 Q B I=>?_;have J:=g2.trans Q;cases b with
 |true=>
  refine Ak ?_;rw[AG];refine(I 1 (by decide)).st rfl rfl ?_;rw[AH];have m:=Mod.setCell (M:=fun x=>x=b3) w2 ⟨b3,1,none⟩ (zI 1) rfl;have hc:∀j u,(⟨1,1,0,FH⟩:A6).cells[j]?=some u->(w2.setCell ⟨b3,1,none⟩ (zI 1)).cell? ((⟨b3,0,none⟩:Addr).add j)=some u:=by
   intro j u hu;rw[AH];by_cases e:j=1
   .subst e;have h1:=(I 1 (by decide)).1;rw[AH] at h1;obtain⟨u',T⟩:=kH.1 h1;cases hu;exact kQ _ _ _ T
   .rw [S4 _ _ _ _ (fun e'=>by simp only [Addr.mk.injEq] at e';exact e e'.2.1.symm)];have:=B j u (by
     rcases j with _|_|_|_|j
     .exact hu
     .exact absurd rfl e
     .exact hu
     .exact hu
     .exact hu)
    rwa [AH] at this
  have i:=fun j O=>((q j O).mod Q fun h=>h).mod m (fun e=>by rw[AH] at e;have:X=b3:=e;omega);generalize w2.setCell ⟨b3,1,none⟩ (zI 1)=w3 at m hc i ⊢;refine Ah (vs:=(⟨1,1,0,FH⟩:A6).cells) rfl hc ?_;refine Ca rfl (A6.one _) (fun j O=>i j O) fun w4 U o _=>?_;refine Ah (vs:=(⟨1,1,0,FH⟩:A6).cells) rfl o ⟨rfl,?_⟩;exact(J.next m fun x V e=>by omega).next U fun x V e=>by omega
 |false=>
  refine AS ?_;refine Ah (vs:=(⟨1,0,0,FH⟩:A6).cells) rfl B ?_;refine Ca rfl (A6.one _) (fun j O=>(q j O).mod Q fun h=>h) fun w4 U o _=>?_;refine Ah (vs:=(⟨1,0,0,FH⟩:A6).cells) rfl o ⟨rfl,?_⟩;exact J.next U fun x V e=>by omega
def fx{n:Int}:AB prog 255 [zI n] (fun v w'=>v=.agg (⟨2,n,0,FH⟩:A6).cells.toArray/\Grow w w') w:=by
 apply bh;refine EU fun O Q o q B _ i=>?_;refine⟨(⟨2,n,0,FH⟩:A6).cells.toArray,by kernel_rfl,?_⟩;refine Ca rfl (A6.one _) (fun j I=>i j I) fun w4 J m _=>?_;refine Ah (vs:=(⟨2,n,0,FH⟩:A6).cells) rfl m ⟨rfl,?_⟩;exact B.next J fun x T e=>by omega
def Wc{n:Nat}:AB prog 256 [.float .f64 n] (fun v w'=>v=.agg (⟨3,0,if GU (n:Int) then 9221120237041090560 else n,FH⟩:A6).cells.toArray/\Grow w w') w:=by
 apply X5;refine EU fun U J O Q I _ m=>?_;refine AA U6 ?_;rintro _ _ ⟨rfl,rfl⟩;rename World=>J
 by_cases o:GU (n:Int)
 .rw[lH o];refine Ak ⟨(⟨3,0,9221120237041090560,FH⟩:A6).cells.toArray,by kernel_rfl,?_⟩;refine Ca rfl (A6.one _) (fun j q=>m j q) fun w4 B i _=>?_;refine Ah (vs:=(⟨3,0,9221120237041090560,FH⟩:A6).cells) rfl i ⟨by rw[DN o],?_⟩;exact I.next B fun x T e=>by omega
 .rw[kX o];refine AS ⟨_,_,Xf,?_⟩;refine⟨(⟨3,0,(n:Int),FH⟩:A6).cells.toArray,by kernel_rfl,?_⟩;refine Ca rfl (A6.one _) (fun j q=>m j q) fun w4 B i _=>?_;refine Ah (vs:=(⟨3,0,(n:Int),FH⟩:A6).cells) rfl i ⟨by rw[Bq o],?_⟩;exact I.next B fun x T e=>by omega
def OC(s:ByteArray):Prop:=s.size<=64/\(Bw (CC s)).isSome=true
instance (s:ByteArray):Decidable (OC s):=by unfold OC;infer_instance
def QR(s:ByteArray):B0 (CC s):=fun x i=>by
 simp only[CC,kT] at i;obtain⟨b,_,rfl⟩:=i;have:=b.toNat_lt;omega
def Yp{s:ByteArray}(hT:Ee w):AB prog 258 [.string s] (fun v w'=>v=(if OC s then .tuple #[.agg (⟨4,0,0,s⟩:A6).cells.toArray,zI 0] else .tuple #[.agg (⟨0,0,0,FH⟩:A6).cells.toArray,zI 3])/\Grow w w') w:=by
 apply aD;refine EU fun U w1 a1 a6 V _ o=>?_;rw[LR,BL];refine AF (fun X=>?_) fun a7=>?_
 .refine⟨(⟨0,0,0,FH⟩:A6).cells.toArray,by kernel_rfl,?_⟩;refine Ca rfl (A6.one _) (fun j i=>o j i) fun w4 m4 J _=>?_;refine Ah (vs:=(⟨0,0,0,FH⟩:A6).cells) rfl J ⟨by rw[Bq (fun h=>by have:=h.1;omega)],?_⟩;exact V.next m4 fun x Y e=>by omega
 .refine PC (by omega) fun v3 w3 Z O=>?_;have q:=V.trans Z;have Q:∀j,j<4->Live w3 ((⟨U,0,none⟩:Addr).add j):=fun j i=>(o j i).mod Z fun h=>h;refine AA (Wl O (QR s) (hT.grow q) (by rw[DO];omega)) ?_;rintro v5 w5 ⟨g5,hm⟩;have B:∀j,j<4->Live w5 ((⟨U,0,none⟩:Addr).add j):=fun j i=>(Q j i).mod g5 fun h=>h;have I:=q.trans g5;cases hr:Bw (CC s) with
  |none=>
   rw[hr] at hm;subst hm;refine BO ?_;rw[Bk];refine AY (fun e=>by cases e) fun _=>?_;refine⟨(⟨0,0,0,FH⟩:A6).cells.toArray,by kernel_rfl,?_⟩;refine Ca rfl (A6.one _) (fun j i=>B j i) fun w6 T m _=>?_;refine Ah (vs:=(⟨0,0,0,FH⟩:A6).cells) rfl m ⟨by rw[Bq (fun h=>by have:=h.2;rw[hr] at this;cases this)],?_⟩;exact I.next T fun x Y e=>by omega
  |some l=>
   rw[hr] at hm;obtain⟨sl,rfl,_⟩:=hm;refine BO ?_;refine Nh ?_;refine⟨(⟨4,0,0,s⟩:A6).cells.toArray,by kernel_rfl,?_⟩;refine Ca rfl (A6.one _) (fun j i=>B j i) fun w6 T m _=>?_;refine Ah (vs:=(⟨4,0,0,s⟩:A6).cells) rfl m ⟨by rw[DN ⟨by omega,by rw[hr];rfl⟩],?_⟩;exact I.next T fun x Y e=>by omega
def OO{v:A6}(Z:Ee w)(h0:0<=v.f) :
  AB prog 208 [.agg v.cells.toArray] (fun v' w'=>v'=.bool (decide (DH v))/\Grow w w') w:=by
 apply Zu;refine DZ fun b Q _ hz g hc _=>?_;have l0:=hc 0 _ rfl;have l1:=hc 1 _ rfl;have l2:=hc 2 _ rfl;have l3:=hc 3 _ rfl;have key:∀(b:Bool) w',Grow w w'->(b=true↔DH v)->Value.bool b=.bool (decide (DH v))/\Grow w w':=fun b w' g h=>⟨by congr 1;rw[nW,h,TC],g⟩;have Y:∀w',Grow w w'->¬DH v->Value.bool false=.bool (decide (DH v))/\Grow w w':=fun w' g h=>key false w' g (by simp only[nA,rN];exact h);have m:∀j u,v.cells[j]?=some u->Q.cell? ((⟨b,0,none⟩:Addr).add j)=some u:=hc;simp only[AG];refine AL l0 ?_;rw[Aj];refine AF (fun k1=>?_) fun k1=>?_
 .refine Cx (fun w2=>Grow Q w2) (Mod.drew _ _) ?_;refine Fe (vs:=v.cells) rfl (fun w2 i j u hu=>i.cell (m j u hu) fun h=>h) (Ay (fun w2 i=>i.cell l1 fun h=>h) ?_);rw[Aj];refine⟨_,fun w2 i=>AA bM (by rintro _ B ⟨rfl,o⟩;exact⟨rfl,i.trans o⟩),?_⟩;refine⟨_,fun w2 _=>HW _ _ v ⟨1,if decide (v.n=1) then 1 else 0,0,FH⟩ w2,?_⟩;intro B o;refine key _ _ (g.trans o) ?_;rw[TC];constructor
  .intro e;refine .inl ⟨k1,?_,?_⟩
   .by_cases h1:v.n=1
    .rw[h1];simpa[h1] using e
    .have en:v.n=0:=by rw[e];simp[h1]
     rw[en];simpa[h1] using e
   .by_cases h1:v.n=1
    .exact .inr h1
    .left;rw[e];simp[h1]
  .rintro(h|h|h|h)
   .obtain⟨_,e,q⟩:=h;rcases q with q|q
    .rw[q] at e ⊢;exact e
    .rw[q] at e ⊢;exact e
   .omega
   .omega
   .omega
 rw[Aj];refine AF (fun k2=>?_) fun k2=>?_
 .refine Cx (fun w2=>Grow Q w2) (Mod.drew _ _) ?_;refine Fe (vs:=v.cells) rfl (fun w2 i j u hu=>i.cell (m j u hu) fun h=>h) (Ay (fun w2 i=>i.cell l1 fun h=>h) ?_);refine⟨_,fun w2 i=>AA fx (by rintro _ B ⟨rfl,o⟩;exact⟨rfl,i.trans o⟩),?_⟩;refine⟨_,fun w2 _=>HW _ _ v ⟨2,v.n,0,FH⟩ w2,?_⟩;intro B o;refine key _ _ (g.trans o) ?_;rw[TC];refine⟨fun h=>.inr (.inl ⟨k2,h⟩),fun h=>?_⟩;rcases h with h|h|h|h
  .omega
  .exact h.2
  .omega
  .omega
 rw[Aj];refine AF (fun U=>?_) fun U=>?_
 .refine Cx (fun w2=>Grow Q w2) (Mod.drew _ _) ?_;refine Fe (vs:=v.cells) rfl (fun w2 i j u hu=>i.cell (m j u hu) fun h=>h) (Ay (fun w2 i=>i.cell l2 fun h=>h) ?_);refine⟨_,fun w2 _=>VR,?_⟩;refine⟨_,fun w2 i=>AA Wc (by rintro _ B ⟨rfl,o⟩;exact⟨rfl,i.trans o⟩),?_⟩;refine⟨_,fun w2 _=>HW _ _ v _ w2,?_⟩;intro B o;refine key _ _ (g.trans o) ?_;have ef:((v.f.toNat:Nat):Int)=v.f:=by omega
  rw[TC,ef];constructor
  .intro e;refine .inr (.inr (.inl ⟨U,?_,?_⟩))
   .by_cases q:GU v.f
    .rw[DN q] at e;have e2:v.f=9221120237041090560:=kZ A6.f e;rw[e2];exact e
    .rw[Bq q] at e;exact e
   .by_cases q:GU v.f
    .rw[DN q] at e;exact .inr (kZ A6.f e)
    .exact .inl q
  .rintro(h|h|h|h)
   .omega
   .omega
   .obtain⟨_,e,q⟩:=h;by_cases V:GU v.f
    .rw[DN V];rw[q.resolve_left fun x=>x V] at e;exact e
    .rw[Bq V];exact e
   .omega
 rw[Aj];refine AF (fun X=>?_) fun X=>Y _ g ?_
 .refine AL l3 (AA (Yp (Z.grow g)) ?_);rintro v3 B ⟨rfl,o⟩;have I:=g.trans o;by_cases J:OC v.s
  .rw[DN J];refine BO ?_;refine BQ (vs:=(⟨4,0,0,v.s⟩:A6).cells) rfl rfl (A6.one _) fun b4 w4 _ _ T O _=>?_;rw[Aj];refine AF (fun _=>?_) fun e=>(e rfl).elim;refine Ah (vs:=v.cells) rfl (fun j u hu=>(o.trans T).cell (m j u hu) fun h=>h) ?_;refine Ah (vs:=(⟨4,0,0,v.s⟩:A6).cells) rfl O (Ae (HW _ _ v ⟨4,0,0,v.s⟩ w4) ?_);refine key _ _ (I.trans T) ?_;rw[TC];refine⟨fun e=>.inr (.inr (.inr ⟨X,e,J.1,J.2⟩)),fun h=>?_⟩;rcases h with h|h|h|h
   .omega
   .omega
   .omega
   .exact h.2.1
  .rw[Bq J];refine BO ?_;refine BQ (vs:=(⟨0,0,0,FH⟩:A6).cells) rfl rfl (A6.one _) fun b4 w4 _ _ T O _=>?_;rw[Aj];refine AF (fun e=>by cases e) fun _=>Y _ (I.trans T) ?_;rintro(h|h|h|h)
   .omega
   .omega
   .omega
   .exact J ⟨h.2.2.1,h.2.2.2⟩
 .rintro(h|h|h|h)
  .exact k1 h.1
  .exact k2 h.1
  .exact U h.1
  .exact X h.1
section
variable {α:Type}[Inhabited α]
def Jn(enc:α->List Value)(k:Nat)(hk:∀x,(enc x).length=k)(d:Array α):(Sort.flatK enc k d).toList=(d.toList.map enc).flatten:=by
 refine mI fun t=>?_;have hl:∀r∈d.toList.map enc,r.length=k:=fun r hr=>by obtain⟨x,_,rfl⟩:=kT.1 hr;exact hk x
 have o:(d.toList.map enc).flatten.length=d.size*k:=by rw[FF _ hl,Iq,nH]
 by_cases ht:t<d.size*k
 .have i:0<k:=by
   rcases Nat.eq_zero_or_pos k with h|h
   .subst h;simp at ht
   .exact h
  have hi:t/k<d.size:=(q8 i).2 ht;have h1:=Sort.get_flatK enc k d t ht;have q:(Sort.flatK enc k d).toList[t]?=some (Sort.flatK enc k d)[t]!:=by
   have j:t<(Sort.flatK enc k d).size:=by simpa using ht
   rw[lq,oy j,ow _ t j]
  rw[q,h1];have m:=Hu (d.toList.map enc) (t/k) (t%k) (enc d[t/k]!) hl (by simp[hi]) (qI _ i);rw[qf t k] at m;rw[m];have hm:t%k<(enc d[t/k]!).length:=by rw[hk];exact qI _ i
  rw[By hm,ow (enc d[t/k]!) _ hm]
 .rw[kY (by simp;omega),kY (by omega)]
def Iy(F i:Array Value)(h:F.size<=i.size):(Sort.putCells id 0 F i).size=i.size/\(Sort.putCells id 0 F i).toList.take F.size=F.toList:=by
 refine⟨by simp[Sort.putCells],mI fun t=>?_⟩;by_cases ht:t<F.size
 .rw[mE,DN ht,lq,lq];have h1:t<i.size:=by omega
  simp[Sort.putCells,ht,h1]
 .rw[mE,Bq ht,kY (by simp;omega)]
def MA{enc:α->List Value}{k:Nat}{g m e:Nat}{d:Array α}{os:Array Obj}{j:Array Value}(B:w.heap[g]?=some (.cells j e (0,0))) :
  (Go.Proofs.sortWorldK enc k w g 0 m d os).heap[g]?=some (.cells (Sort.putCells id 0 (Sort.flatK enc k d) j) e (0,0))/\Mod (fun b=>b=g) w (Go.Proofs.sortWorldK enc k w g 0 m d os):=by
 have o:g<w.heap.size:=(mQ.1 B).1;have i:(w.heap.modify g (Sort.onCells (Sort.putCells id 0 (Sort.flatK enc k d)))).size=w.heap.size:=by simp
 have q:(Go.Proofs.sortWorldK enc k w g 0 m d os).heap=w.heap.modify g (Sort.onCells (Sort.putCells id 0 (Sort.flatK enc k d)))++os:=rfl;refine⟨?_,⟨rfl,rfl,rfl,by rw[q,qU,i];omega,fun b hb I=>?_⟩⟩
 .rw[q,qM (by rw[i];exact o),rB,DN rfl,B];rfl
 .rw[q,qM (by rw[i];exact hb),rB,Bq (fun h=>I h.symm)]
def AE.sorted{B e k:Nat}{R:World->List Value->α->Prop}{enc:α->List Value}(hk:∀x,(enc x).length=k)(h1:∀x,∀v∈enc x,v.oneCell'=true)(hR:∀w r x,R w r x↔r=enc x){g n c:Nat}{l:List α}(h:AE B e k R w (.slice (some ⟨g,0,none⟩) n c) l) :
  n=l.length/\g<w.heap.size/\Sort.HoldsK enc k w g 0 l.toArray/\∀(m:Nat) (d:Array α) (os:Array Obj),d.size=l.length->AE B e k R (Go.Proofs.sortWorldK enc k w g 0 m d os) (.slice (some ⟨g,0,none⟩) n c) d.toList/\Mod (fun b=>b=g) w (Go.Proofs.sortWorldK enc k w g 0 m d os):=by
 obtain⟨rows,h2,h3,h4,h5⟩:=h;obtain⟨q1,q2⟩:=h2;rcases q2 with⟨q,_⟩|⟨g',a1,I,q,hg,U,hn,hm,o,O⟩
 .cases q
 cases q;have X:g<w.heap.size:=(mQ.1 U).1;have J:rows=l.map enc:=by
  refine mI fun i=>?_;rw[lP];by_cases hi:i<l.length
  .have Q:i<rows.length:=by omega
   rw[By hi,By Q,mo];rw[(hR w rows[i] l[i]).1 (h5 i _ _ (By Q) (By hi))]
  .rw[kY (by omega),kY (by omega)];rfl
 have T:l.length*k<=c*k:=lW _ hn;refine⟨rfl,X,fun j Y=>?_,fun m d os V=>?_⟩
 .rw[pB] at Y;have Z:j<l.length*k:=by simpa using Y
  have a6:j<I.size:=by rw[o];omega
  have e0:(Sort.flatK enc k l.toArray).toList=rows.flatten:=by rw[Jn enc k hk,J]
  have e1:rows.flatten[j]?=some (Sort.flatK enc k l.toArray)[j]!:=by
   have hs:j<(Sort.flatK enc k l.toArray).size:=by rw[pB];exact Y
   rw[<-e0,lq,oy hs,ow _ j hs]
  rw[<-O,mE,DN Z,lq] at e1;rw[mG];refine⟨?_,?_⟩
  .simp only[World.cell?,U];exact e1
  .simp[World.frozen?,U]
 .obtain⟨r1,r2⟩:=MA (enc:=enc) (k:=k) (m:=m) (d:=d) (os:=os) U;refine⟨⟨d.toList.map enc,⟨?_,.inr ⟨g,c,_,by have e:d.toList.length=l.length:=V;rw[e],hg,r1,?_,hm,?_,?_⟩⟩,by simp,fun r hr=>?_,fun i r x hr hx=>?_⟩,r2⟩
  .have:=FF (d.toList.map enc) (k:=k) fun r hr=>by obtain⟨x,_,rfl⟩:=kT.1 hr;exact hk x
   simpa using this
  .rw[nH,V];exact hn
  .rw[(Iy (Sort.flatK enc k d) I (by rw[pB,V,o];exact T)).1];exact o
  .have:=(Iy (Sort.flatK enc k d) I (by rw[pB,V,o];exact T)).2;rw[pB] at this;rw[nH,this,Jn enc k hk]
  .obtain⟨x,_,rfl⟩:=kT.1 hr;exact⟨hk x,h1 x⟩
  .rw[lP] at hr;rw[hx] at hr;exact(hR _ _ _).2 (kW hr).symm
end
def Pn:Go.Shelf.Ren:=⟨fun|6=>31|15=>72|14=>71|28=>140|29=>141|20=>132|21=>133|22=>134|23=>135|24=>136|25=>137|26=>138|27=>139|46=>203|47=>204|48=>205|49=>206|50=>207|57=>253|n=>n,fun|22=>22|24=>65|25=>73|3=>3|39=>130|0=>0|53=>211|55=>75|4=>4|46=>205|45=>204|50=>163|5=>5|9=>9|66=>285|70=>289|76=>328|77=>247|n=>n,fun|n=>n⟩
def SS:Go.Proofs.SlLaysF0.n6 prog Pn:={
 mixed:=by kernel_rfl,
 f6:=⟨Tryz.f31.name,by decide,func31.trans (kZ some (by kernel_rfl))⟩,
 f14:=⟨Tryz.f71.name,by decide,func71.trans (kZ some (by kernel_rfl))⟩,
 f15:=func72.trans (kZ some (by kernel_rfl)),
 f20:=⟨Tryz.f132.name,by decide,func132.trans (kZ some (by kernel_rfl))⟩,
 f21:=⟨Tryz.f133.name,by decide,func133.trans (kZ some (by kernel_rfl))⟩,
 f22:=⟨Tryz.f134.name,by decide,func134.trans (kZ some (by kernel_rfl))⟩,
 f23:=⟨Tryz.f135.name,by decide,func135.trans (kZ some (by kernel_rfl))⟩,
 f24:=⟨Tryz.f136.name,by decide,func136.trans (kZ some (by kernel_rfl))⟩,
 f25:=⟨Tryz.f137.name,by decide,func137.trans (kZ some (by kernel_rfl))⟩,
 f26:=⟨Tryz.f138.name,by decide,func138.trans (kZ some (by kernel_rfl))⟩,
 f27:=⟨Tryz.f139.name,by decide,func139.trans (kZ some (by kernel_rfl))⟩,
 f28:=func140.trans (kZ some (by kernel_rfl)),
 f29:=func141.trans (kZ some (by kernel_rfl)),
 f46:=⟨Tryz.f203.name,by decide,func203.trans (kZ some (by kernel_rfl))⟩,
 f47:=func204.trans (kZ some (by kernel_rfl)),
 f48:=func205.trans (kZ some (by kernel_rfl)),
 f49:=⟨Tryz.f206.name,by decide,func206.trans (kZ some (by kernel_rfl))⟩,
 f50:=⟨Tryz.f207.name,by decide,func207.trans (kZ some (by kernel_rfl))⟩,
 f57:=⟨Tryz.f253.name,by decide,func253.trans (kZ some (by kernel_rfl))⟩,
 t0:=underlying0,
 a0:=Tryz.isAgg0,
 z0:=Tryz.sizeOf0,
 v0:=Tryz.zeroValue0,
 t3:=underlying3,
 a3:=Tryz.isAgg3,
 z3:=Tryz.sizeOf3,
 v3:=Tryz.zeroValue3,
 t4:=underlying4,
 a4:=Tryz.isAgg4,
 z4:=Tryz.sizeOf4,
 v4:=Tryz.zeroValue4,
 t5:=underlying5,
 a5:=Tryz.isAgg5,
 z5:=Tryz.sizeOf5,
 v5:=Tryz.zeroValue5,
 t9:=underlying9,
 a9:=Tryz.isAgg9,
 z9:=Tryz.sizeOf9,
 v9:=Tryz.zeroValue9,
 t22:=underlying22,
 a22:=Tryz.isAgg22,
 z22:=Tryz.sizeOf22,
 v22:=Tryz.zeroValue22,
 t25:=underlying73,
 a25:=Tryz.isAgg73,
 z25:=Tryz.sizeOf73,
 v25:=Tryz.zeroValue73,
 t39:=underlying130,
 a39:=Tryz.isAgg130,
 z39:=Tryz.sizeOf130,
 v39:=Tryz.zeroValue130,
 t45:=underlying204,
 a45:=Tryz.isAgg204,
 z45:=Tryz.sizeOf204,
 v45:=Tryz.zeroValue204,
 t46:=underlying205,
 a46:=Tryz.isAgg205,
 z46:=Tryz.sizeOf205,
 v46:=Tryz.zeroValue205,
 t50:=underlying163,
 a50:=Tryz.isAgg163,
 z50:=Tryz.sizeOf163,
 v50:=Tryz.zeroValue163,
 t53:=underlying211,
 a53:=Tryz.isAgg211,
 z53:=Tryz.sizeOf211,
 v53:=Tryz.zeroValue211,
 t55:=underlying75,
 a55:=Tryz.isAgg75,
 z55:=Tryz.sizeOf75,
 v55:=Tryz.zeroValue75,
 t66:=underlying285,
 a66:=Tryz.isAgg285,
 z66:=Tryz.sizeOf285,
 v66:=Tryz.zeroValue285,
 t70:=underlying289,
 a70:=Tryz.isAgg289,
 z70:=Tryz.sizeOf289,
 v70:=Tryz.zeroValue289,
 t76:=underlying328,
 a76:=Tryz.isAgg328,
 z76:=Tryz.sizeOf328,
 v76:=Tryz.zeroValue328,
 t77:=underlying247,
 a77:=Tryz.isAgg247,
 z77:=Tryz.sizeOf247,
 v77:=Tryz.zeroValue247 }
def Y0(x y:DKey)(W:World):Calls prog 32 #[.agg x.cells.toArray,.agg y.cells.toArray] W fun e w'=>e=.returned (zI (J6 x.id y.id))/\∃q i,w'=Sort.grow (W.drewN q) i:=by
 have h:AB prog 32 [.agg x.cells.toArray,.agg y.cells.toArray] (fun v w'=>v=zI (J6 x.id y.id)/\∃i,w'=Sort.grow W i) W:=by
  apply dA;refine⟨x.cells,rfl,⟨y.cells,rfl,Qx ?_⟩⟩;rw[AG];have c1:∀j u,x.cells[j]?=some u->((W.alloc (.cells x.cells.toArray 65)).alloc (.cells y.cells.toArray 65)).cell? ((⟨W.heap.size,0,none⟩:Addr).add j)=some u:=fun j u hu=>(Mod.alloc (fun _=>False) _ _).cell (G6 hu) fun h=>h;have c2:∀j u,y.cells[j]?=some u->((W.alloc (.cells x.cells.toArray 65)).alloc (.cells y.cells.toArray 65)).cell? ((⟨(W.alloc (.cells x.cells.toArray 65)).heap.size,0,none⟩:Addr).add j)=some u:=fun j u hu=>G6 hu;refine AL (c1 0 _ rfl) ?_;rw[AG];refine AL (c2 0 _ rfl) ?_;refine AA U1 ?_;rintro _ _ ⟨rfl,rfl⟩;exact⟨rfl,_,by rw[Sort.alloc_eq_grow,Sort.alloc_eq_grow,Sort.grow_grow]⟩
 refine nz h ?_;rintro e w' ⟨v,rfl,rfl,i,rfl⟩;exact⟨rfl,0,i,rfl⟩
def fi:Sort.SWO (Go.Proofs.ltOf fun x y:DKey=>J6 x.id y.id):=by
 have e:∀x y:DKey,Go.Proofs.ltOf (fun x y:DKey=>J6 x.id y.id) x y=decide (x.id<y.id):=fun x y=>by
  unfold Go.Proofs.ltOf J6;by_cases h1:x.id<y.id
  .simp[h1]
  .by_cases i:y.id<x.id<;>simp[h1,i]
 exact⟨fun x=>by rw[e];simp,fun x y z h1 i=>by rw[e] at *;simp at *;omega,fun x y z h1 i=>by rw[e] at *;simp at *;omega⟩
instance:Inhabited DKey:=⟨DKey.zero⟩
def VU{o:List DKey}(h:AE B 65 6 Gi w v o)(hl:o.length<=1099511627776) :
  AB prog 31 [v,.func (.func 32) #[] #[]] (fun _ w'=>∃ks:List DKey,ks.Perm o/\ks.Pairwise (fun x y=>x.id<=y.id)/\AE B 65 6 Gi w' v ks/\Mod (fun b=>v.ownBlock=some b) w w') w:=by
 obtain⟨a,c,rfl,_,_,hp,Y⟩:=h.shape;cases a with
 |none=>
  have e:=Y rfl;subst e;refine nz (Go.Proofs.AnyF.slices_SortFunc_none SS none c _ w) ?_;rintro _ _ ⟨rfl,rfl⟩;exact⟨_,rfl,[],mg _,List.Pairwise.nil,h,Mod.refl _ _⟩
 |some p=>
  obtain⟨g,rfl,_,O,Z⟩:=hp p rfl;obtain⟨_,_,hH,hS⟩:=AE.sorted (enc:=DKey.cells) (fun _=>rfl) (fun x=>Gi.one (w:=w) (x:=x) rfl) (fun _ _ _=>oe) h;have hc:=Go.Proofs.AnyQ.slices_SortFunc SS 6 Tryz.isAgg65 Tryz.sizeOf65 DKey.cells (fun _=>rfl) (fun x=>Gi.one (w:=w) (x:=x) rfl) (fun x y=>J6 x.id y.id) fi 32 #[] g 0 c o.toArray w (FM _ rfl) (fun m os dk _ x y=>Y0 x y _) hH O (by simp;omega);rw[nP] at hc;refine nz hc ?_;rintro _ _ ⟨rfl,q,m,os,I,J,rfl⟩;obtain⟨h1,T,U⟩:=I;have V:q.size=o.length:=by rw[h1,nP]
  obtain⟨o1,o2⟩:=hS m q os V;refine⟨_,rfl,q.toList,?_,?_,o1,o2.mono fun b _ e=>by rw[e];rfl⟩
  .have e1:q.extract 0 o.length=q:=by rw[<-V];exact Array.extract_size
   have e2:o.toArray.extract 0 o.length=o.toArray:=by
    have:=Array.extract_size (xs:=o.toArray);rwa [nP] at this
   rw[e1,e2] at U;simpa using U
  .rw[mV];intro i j hi X Q;simp only[nH] at hi X;have:=J i j (Nn _) Q (by omega);rw[ow q i hi,ow q j X] at this;have e:Go.Proofs.ltOf (fun x y:DKey=>J6 x.id y.id) q[j] q[i]=decide (q[j].id<q[i].id):=by
    unfold Go.Proofs.ltOf J6;by_cases h1:q[j].id<q[i].id
    .simp[h1]
    .by_cases T:q[i].id<q[j].id<;>simp[h1,T]
   rw[e] at this;simp only[kV] at this;simp only[Array.getElem_toList];omega
def NM(i:List DKey):Prop:=i.Pairwise fun x y=>x.id≠y.id
def Mc{m:List DKey}:Fc m↔m.length<=64/\(∀k∈m,EI k)/\NM m:=by
 unfold Fc fE NM;rw[mV];constructor
 .rintro⟨h1,q⟩;refine⟨h1,fun k hk=>?_,fun i j hi B I=>?_⟩
  .obtain⟨i,hi,rfl⟩:=List.getElem_of_mem hk;exact(q i hi _ (By hi)).1
  .exact(q j B _ (By B)).2 i I _ (By hi)
 .rintro⟨h1,q,J⟩;refine⟨h1,fun i hi k hk=>?_⟩;rw[By hi] at hk;cases hk;refine⟨q _ (WJ hi),fun j B O o=>?_⟩;rw[By (by omega)] at o;cases o;exact J j i (by omega) hi B
def Lo{L:List DKey}{id:Int}:(L.map fun k=>(k.id,(Value.agg k.cells.toArray))).find? (fun p=>decide (p.1=id))=(Bf L id).map fun k=>(k.id,.agg k.cells.toArray):=by
 unfold Bf;rw[List.find?_map];rfl
def Ni{L:List DKey}(o:NM L){id:Int}{k:DKey}:Bf L id=some k↔k∈L/\k.id=id:=by
 induction L with
 |nil=>simp[Bf]
 |cons x L q=>
  unfold NM at o;rw[mF] at o;have j:=q o.2;unfold Bf at j ⊢;by_cases m:x.id=id
  .rw[List.find?_cons_of_pos (by simpa using m)];simp only[i6,K8];constructor
   .rintro rfl;exact⟨.inl rfl,m⟩
   .rintro⟨rfl|hk,i⟩
    .rfl
    .exact(o.1 k hk (by rw[m,i])).elim
  .rw[List.find?_cons_of_neg (by simpa using m),j];constructor
   .rintro⟨h1,i⟩;exact⟨gi _ h1,i⟩
   .rintro⟨h1,i⟩;rcases K8.1 h1 with rfl|h1
    .exact(m i).elim
    .exact⟨h1,i⟩
def NM.perm{L L':List DKey}(hp:L.Perm L')(h:NM L):NM L':=(hp.pairwise_iff (R:=fun x y:DKey=>x.id≠y.id) fun h=>h.symm).1 h
def Rz{L L':List DKey}(hp:L.Perm L')(i:NM L)(id:Int):Bf L id=Bf L' id:=by
 refine Option.ext fun k=>?_;rw[Ni i,Ni (i.perm hp),hp.mem_iff]
def UR{L:List DKey}(i:NM L)(j:L.Pairwise fun x y=>x.id<=y.id):L.Pairwise fun x y=>x.id<y.id:=by
 refine(List.Pairwise.and i j).imp fun{x y} h=>?_;obtain⟨h1,m⟩:=h;omega
structure Uq (w0 W:World) (b m:Nat) (kv:Value) (keys:List DKey) (i:Nat):Prop where
 c0:W.cell? ⟨b,0,none⟩=some kv
 c1:W.cell? ⟨b,1,none⟩=some (.map (some m))
 row:AE w0.heap.size 65 6 Gi W kv keys
 mp:Jm W m ((keys.take i).map fun k=>(k.id,.agg k.cells.toArray))
 hb:w0.heap.size<=b
 hm:w0.heap.size<=m
 ne:m≠b
 own:∀g,kv.ownBlock=some g->g≠m/\g≠b
 g:Grow w0 W
def Uq.grow{b m i:Nat}{q:Value}{j:List DKey}(h:Uq w0 W b m q j i)(o:Grow W W'):Uq w0 W' b m q j i:=
 ⟨o.cell h.c0 fun h=>h,o.cell h.c1 fun h=>h,AE.mod h.row o (fun _ _ h=>h) fun _ _ _ h=>h,h.mp.mod o fun h=>h,h.hb,h.hm,h.ne,h.own,h.g.trans o⟩
open Classical in
def L8{o:List DKey}(h:NT S w fr o) :
  AB prog 8 [fr] (fun v' w'=>Grow w w'/\((Fc o/\∃ (sv:Value) (ks:List DKey),v'=.tuple #[sv,zI 0]/\ks.Perm o/\ks.Pairwise (fun x y=>x.id < y.id)/\Ci (fun b=>w.heap.size<=b) w' sv ks)\/
   (¬ Fc o/\v'=.tuple #[.pointer none,zI 3]))) w:=by
 apply ic;unfold S8;obtain⟨a,c,rfl,b2⟩:=h.shape;simp only[maxLen] at b2;rw[AP,BL];refine AF (fun h6=>⟨Mod.refl _ _,.inr ⟨by rintro⟨h,_⟩;omega,rfl⟩⟩) fun h6=>?_;refine AA (TT h (by omega)) ?_;rintro v1 J ⟨o1,g1⟩;refine Ae (v:=.map (some J.heap.size)) (w':=J.alloc (.map #[] 0)) rfl ?_;have g2:Grow J (J.alloc (.map #[] 0)):=Mod.alloc _ _ _;have a6:Jm (J.alloc (.map #[] 0)) J.heap.size []:=Jm.make J;have b8:(J.alloc (.map #[] 0)).heap.size=J.heap.size+1:=by simp
 generalize J.alloc (.map #[] 0)=w2 at g2 a6 b8 ⊢;obtain⟨ra,rc,rfl,_,_,_,_⟩:=o1.shape;refine⟨#[.slice ra o.length rc,.map (some J.heap.size)],by kernel_rfl,?_⟩;refine DZ (vs:=[.slice ra o.length rc,.map (some J.heap.size)]) fun b w3 hb bc g3 a7 _=>?_;have z1:=g1.size;have z2:=g2.size;have Z:∀g,(Value.slice ra o.length rc).ownBlock=some g->g<J.heap.size:=fun g hg=>(AE.Ax o1 g hg).2;have I0:Uq w w3 b J.heap.size (.slice ra o.length rc) o 0:=
  ⟨by have:=a7 0 _ rfl;rwa [AH] at this,by have:=a7 1 _ rfl;rwa [AH] at this,AE.mod o1 (g2.trans g3) (fun _ _ h=>h) fun _ _ _ h=>h,by simpa using a6.mod g3 fun h=>h,by omega,by omega,by omega,fun g hg=>by have:=Z g hg;omega,(g1.trans g2).trans g3⟩
 generalize Value.slice ra o.length rc=rv at I0 Z ⊢;clear a7 a6 o1;generalize J.heap.size=m at *;rw[AP];refine AX (fun vs W=>∃i:Nat,i<=o.length/\vs=[zI i]/\Uq w W b m rv o i/\fE o i) (fun vs _=>o.length-De vs 0) ⟨0,Nn _,rfl,I0,fun i hi=>by omega⟩ ?_;rintro vs W ⟨i,hi,rfl,I,a1⟩ _;rw[Bl,Nr,Am];refine AF (fun bd=>?_) fun bk=>?_
 .have B:i<o.length:=by omega
  have V:o[i]?=some o[i]:=By B;obtain ⟨p,r,rfl,_,hr,hc,rfl⟩:=(h.grow I.g (by decide) fun _ _ h=>h).get B;refine AT B (Ah hr (fun j u hu=>by rw [Addr.add_add];exact hc j u hu) ?_);refine BQ (vs:=o[i].cells) rfl rfl (Gi.one (w:=w) (x:=o[i]) rfl) fun b6 W1 bl bn g6 a8 _=>?_;have I1:=I.grow g6;have an:∀ W',Grow W1 W'->¬ Fc o->(fun v' w'=>Grow w w'/\((Fc o/\∃ (sv:Value) (ks:List DKey),v'=.tuple #[sv,zI 0]/\ks.Perm o/\ks.Pairwise (fun x y=>x.id < y.id)/\Ci (fun b=>w.heap.size<=b) w' sv ks)\/
   (¬ Fc o/\v'=.tuple #[.pointer none,zI 3]))) (Value.tuple #[.pointer none,zI 3]) W':=fun W' g hn=>⟨I1.g.trans g,.inr ⟨hn,rfl⟩⟩
  refine AV (fun _ X=>Grow W1 X/\Bf (o.take i) o[i].id=none/\EI o[i]) ?_ ?_
  .rintro _ X ⟨O,Y,ak⟩ _;have I2:=I1.grow O;refine Af (fun k y=>k=7/\y=m) ?_;have U:Grow X X.drew:=Mod.drew _ _;have Q:=I2.grow U;have c6:∀j u,o[i].cells[j]?=some u->X.drew.cell? ((⟨b6,0,none⟩:Addr).add j)=some u:=fun j u hu=>(O.trans U).cell (a8 j u hu) fun h=>h;refine AI ?_;rw[AG];refine AU ⟨by rw[AH];exact Q.c1,fun j T e=>by obtain⟨rfl,_⟩:=e;exact absurd T (by decide)⟩ ?_;rw[AG];refine AU ⟨c6 0 _ rfl,fun j T e=>by obtain⟨rfl,_⟩:=e;exact absurd T (by decide)⟩ ?_;refine Ch (vs:=o[i].cells) rfl (fun j u hu=>⟨c6 j u hu,fun j T e=>by obtain⟨rfl,_⟩:=e;exact absurd T (by decide)⟩) ?_;obtain⟨W4,av,ax,m4⟩:=RD underlying66 underlying3 Q.mp o[i].id (.agg o[i].cells.toArray) (by rw[Lo,Y];rfl);refine Ae (v:=undef) (w':=W4) (by simp only[kL,av,S9,lU]) ⟨m4.mono fun y _ e=>⟨rfl,e⟩,?_⟩;rw[AQ,AO (by omega)];refine⟨⟨i+1,B,rfl,⟨m4.cell Q.c0 (fun e=>Q.ne e.symm),m4.cell Q.c1 (fun e=>Q.ne e.symm),AE.mod Q.row m4 (fun g hg e=>(Q.own g hg).1 e) fun _ _ _ h=>h,?_,Q.hb,Q.hm,Q.ne,Q.own,Q.g.next m4 fun x hx e=>by have:=Q.hm;omega⟩,fun q hq k hk=>?_⟩,by rw[CH,CH];omega⟩
   .rw[No,V,Ty];exact ax
   .by_cases e:q=i
    .subst e;rw[V] at hk;cases hk;refine⟨ak,fun j T k' b9 e=>?_⟩;unfold Bf at Y;rw[qN] at Y;exact Y k' (lS (by rw[mE,DN T];exact b9)) (by simpa using e)
    .exact a1 q (by omega) k hk
  .refine AV (fun vs X=>Grow W1 X/\vs=[.bool (Bf (o.take i) o[i].id).isSome]) ?_ ?_
   .rintro _ X ⟨O,rfl⟩ _;rw[Bl,Nr];cases hf:Bf (o.take i) o[i].id with
    |some k'=>
     refine Ak (an _ O fun hM=>?_);have h1:=pz hf;have h2:=oz hf;obtain⟨j,T,e⟩:=List.getElem_of_mem h2;rw[Lc] at T;rw[ny] at e;exact(hM.2 i B _ V).2 j (by omega) k' (by rw[By (by omega),e]) (by simpa using h1)
    |none=>
     refine AS (Ah (vs:=o[i].cells) rfl (fun j u hu=>O.cell (a8 j u hu) fun h=>h) ?_);refine AA aL ?_;rintro _ W3 ⟨rfl,ay⟩;rw[An];refine AY (fun ak=>⟨O.trans ay,rfl,ak⟩) fun b0=>an _ (O.trans ay) fun hM=>b0 (hM.2 i B _ V).1
   .refine Af (fun k y=>k=11/\W1.heap.size<=y) ?_;have U:Grow W1 W1.drew:=Mod.drew _ _;have Id:=I1.grow U;refine AI ?_;rw[AG];refine AU ⟨by rw[AH];exact Id.c1,fun j T e=>by obtain⟨rfl,_⟩:=e;exact absurd T (by decide)⟩ ?_;rw[AG];refine AU ⟨U.cell (a8 0 _ rfl) fun h=>h,fun j T e=>by obtain⟨rfl,_⟩:=e;exact absurd T (by decide)⟩ ?_;have look:∀W',Grow W1.drew W'->(Instr.lookup 66 (.map (some m)) (zI o[i].id) true).run prog W'=.ok (.tuple #[.agg (((Bf (o.take i) o[i].id)).getD DKey.zero).cells.toArray,.bool (Bf (o.take i) o[i].id).isSome]) W':=fun W' g'=>by
     have:=Lf underlying66 underlying3 (QE W') (Id.mp.mod g' fun h=>h) o[i].id;rw[this,Lo];cases Bf (o.take i) o[i].id<;>rfl
    generalize (Bf (o.take i) o[i].id).getD DKey.zero=kz at look;have one:=Gi.one (w:=w) (x:=kz) rfl;refine⟨?_,?_⟩
    .refine Ae (look _ (Mod.refl _ _)) ⟨Mod.refl _ _,?_⟩;refine BO ?_;refine EU fun b7 W5 ba bb g7 _ al=>⟨g7.mono fun _ _ h=>h.elim,?_⟩;refine Ca rfl one al fun W6 m6 _ _=>⟨m6.mono fun y _ e=>⟨rfl,by have:=U.size;omega⟩,?_,rfl⟩;exact(U.trans g7).next m6 fun x hx e=>by have:=U.size;omega
    .refine EU fun b7 W5 ba bb g7 _ al=>⟨g7.mono fun _ _ h=>h.elim,?_⟩;refine Ae (look _ g7) ⟨Mod.refl _ _,?_⟩;refine BO ?_;refine Ca rfl one al fun W6 m6 _ _=>⟨m6.mono fun y _ e=>⟨rfl,by have:=U.size;omega⟩,?_,rfl⟩;exact(U.trans g7).next m6 fun x hx e=>by have:=U.size;omega
 .have:i=o.length:=by omega
  subst this;refine AI ?_;rw[AG];refine AL (by rw[AH];exact I.c0) ?_;refine AA (VU I.row (by omega)) ?_;rintro _ X ⟨ks,hp,hs,o2,m2⟩;have hM:Fc o:=⟨by omega,a1⟩;obtain⟨_,_,hd⟩:=Mc.1 hM;have b1:=hd.perm hp.symm;refine⟨I.g.next m2 fun x hx e=>by have:=(AE.Ax I.row x e).1;omega,.inl ⟨hM,_,ks,rfl,hp,UR b1 hs,b,m,rv,_,rfl,I.hb,I.hm,m2.cell I.c0 fun e=>(I.own _ e).2 rfl,m2.cell I.c1 fun e=>(I.own _ e).2 rfl,(AE.sl o2).sub (fun _ _ h=>h.1) (by decide) fun _ _ h=>h,I.mp.mod m2 fun e=>(I.own _ e).1 rfl,fun id=>?_⟩⟩;rw[PF,Lo,Rz hp b1];cases Bf o id<;>rfl
def Y9(l:List DKey)(hl:l.length<=1000):NT (fun b=>b=w.heap.size) (w.alloc (.cells (l.map DKey.cells).flatten.toArray 65)) (.slice (some ⟨w.heap.size,0,none⟩) l.length l.length) l:=by
 refine BB.made (t:=65) (l.map DKey.cells) (fun r hr=>by obtain⟨x,_,rfl⟩:=kT.1 hr;rfl) (by simp) (by simp only[maxLen];omega) fun i r x hr j=>?_;rw[lP,j] at hr;exact(kW hr).symm
open Classical in
def PZ{D:Nat->Prop}{id:Int}{x:A6}(h:Ci D w v ks)(J:Ee w)(h0:0<=x.f) :
  AB prog 209 [v,zI id,.agg x.cells.toArray] (fun v' w'=>v'=.bool (decide (Gm ks id x))/\Grow w w') w:=by
 apply bo;have I:∀w',Grow w w'->¬Gm ks id x->Value.bool false=.bool (decide (Gm ks id x))/\Grow w w':=fun w' g h=>⟨by rw[kX h],g⟩;refine DZ fun b Y _ Z g hc _=>?_;refine AA (Jr (h.grow g) id) ?_;rintro _ w2 ⟨rfl,O⟩;refine BO ?_;generalize hk:(Bf ks id).getD DKey.zero=k;refine BQ (vs:=k.cells) rfl rfl (Gi.one (w:=w) (x:=k) rfl) fun b5 w3 Q T U q _=>?_;have m:=O.trans U;have i:=g.trans m;cases o:Bf ks id with
 |none=>
  rw[Option.isSome_none];exact I _ i (by rintro⟨k,e,_⟩;rw[o] at e;cases e)
 |some V=>
  rw[o] at hk;simp only[oq] at hk;subst hk;rw[Option.isSome_some];refine Ak ?_;rw[AG];refine AL (q 2 _ rfl) ?_;rw[AG];refine AL (m.cell (hc 0 _ rfl) fun h=>h) ?_;rw[Aj];refine AF (fun he=>?_) fun he=>I _ i (by rintro⟨k,e,_,h⟩;rw[o] at e;cases e;exact he h.symm);refine Ah (vs:=x.cells) rfl (fun j u hu=>m.cell (hc j u hu) fun h=>h) (AA (OO (J.grow i) h0) ?_);rintro _ w4 ⟨rfl,X⟩;refine⟨?_,i.trans X⟩;congr 1
  rw[pd];constructor
  .intro B;exact⟨V,o,B,he.symm⟩
  .rintro⟨_,_,B,_⟩;exact B
def N5{B e k:Nat}{R:World->List Value->α->Prop}{a:Addr}{n c:Nat}{l:List α}{i j:Nat}{u:Value}{x':α}{K:World->Prop}(h:AE B e k R W (.slice (some a) n c) l)(hi:i<l.length)(q:j<k)
 (hu:u.oneCell'=true)(m:u.cells=#[u])(I:∀o w2 r y,R o r y->R w2 r y)(J:∀o w2 r,R o r l[i]->R w2 (r.set j u) x')
 (O:∀W',AE B e k R W' (.slice (some a) n c) (l.set i x')->Mod (fun b=>b=a.block) W W'->K W'):Av (.pointer (some (a.add (i*k+j)))) u K W:=by
 obtain⟨⟨v,Q⟩,T,U,hm⟩:=AE.store (R':=R) (u:=u) (x':=x') (j:=j) h hi q hu (fun r y _ hr=>I _ _ _ _ hr) (fun r hr=>J _ _ _ hr);exact Kg hu m Q T (O _ U hm)
section
def GX:Kd (List Attr) where
 μ:=fun _=>(1,0)
 cut:=fun x _=>(x,[])
 meld:=fun _ _=>none
def TW(v:Value):BK prog Cq Ke.vm [v] (fun v w'=>v=.tuple #[zI 1,zI 0]/\Grow w w') w:=by
 refine⟨_,[],[],rfl,by kernel_rfl,?_⟩;apply YX;exact⟨rfl,Mod.refl _ _⟩
def UF(a b:Value):BK prog Cq Ke.vd [a,b] (fun v w'=>Grow w w'/\∃u,v=.tuple #[u,.bool false]) w:=by
 refine⟨_,[],[],rfl,by kernel_rfl,?_⟩;apply ZI;exact⟨Mod.refl _ _,_,rfl⟩
abbrev Cw(C:Nat->Prop)(w:World)(r:List Value)(x:List Attr):Prop:=∃sv,r=[sv]/\CR C w sv x
def BF:Av1 (List Attr) where
 toAvK:=Ke
 k:=GX
 R:=Cw
 pb:=72
 eb:=24
 pb_le:=by decide
 eb_le:=by decide
 Epos:=by decide
 E1:=fun _=>rfl
 rlen:=fun⟨_,e,_⟩=>by subst e;rfl
 rone:=fun⟨sv,e,h⟩ u hu=>by
  subst e;obtain⟨a,c,rfl,_⟩:=h.shape;simp at hu;subst hu;rfl
 rcell:=fun⟨sv,e,h⟩=>by
  subst e;obtain⟨a,c,rfl,_⟩:=h.shape;rfl
 rheap:=fun⟨sv,e,h⟩ i=>⟨sv,e,h.mono (fun _ _ h=>h) i (by decide) fun _ _ h=>h⟩
 rsub:=fun⟨sv,e,h⟩ i=>⟨sv,e,h.sub i (by decide) fun _ _ h=>h⟩
 zlen:=rfl
 zone:=fun u hu=>by
  have hu:u∈[Value.slice none 0 0]:=hu;simp at hu;subst hu;rfl
 elP:=⟨Tryz.t347,.agg #[.slice none 0 0,zI 0,zI 0,zI 0,zI 0,zI 0,.bool false],by kernel_rfl,by kernel_rfl,by kernel_rfl,by kernel_rfl,by kernel_rfl,by rfl,by decide⟩
 elE:=⟨Tryz.t43,.slice none 0 0,by kernel_rfl,by kernel_rfl,by kernel_rfl,by kernel_rfl,by kernel_rfl,by rfl,by decide⟩
 field0:=fun r t w hr m ht=>by
  match r,hr with
  |[a],_=>
   have hu:=underlying304;have j:=Tryz.isAgg43;have e:(Instr.field 304 (.agg ([a]++t).toArray) 0).run prog w=.ok a w:=by
    simp[Instr.field,run_underlying hu,part,j,asAgg]
   exact e
 ok:=Zf
 cutμ:=fun x p h0 h1=>by simp only[GX] at h1;omega
 meldμ:=fun x y z h=>by cases h
 meas:=fun{C w r x} _=>TW _
 one1:=rfl
 ok1:=Vw
 μ1:=fun _=>rfl
 meld0:=fun _ _=>rfl
 meldc:=fun{C w r s x y} _ _=>UF _ _
def VF(g:AvK)(v0:Value)(K:Cont)(w:World):Prop:=
 Ao (fun _vs O=>∀_:Env,
 AK v0 fun i=>
 AM 0 i fun j=>
 AJ j (fun m w2=>
 K m w2) O) (fun J=>
 AK v0 fun t4=>
 AM 0 t4 fun t5=>
 AJ t5 (fun Q I=>
 CY Q fun T=>
 AD (.bool T)
 (Ai [(0,1),(1,1),(2,1)] [.nilFunc,.nilFunc,.nilFunc] [(0,g.vm),(1,g.vc),(2,g.vd)] fun t9=>
 AB prog g.fNew [t9] (fun o w4=>
 AK v0 fun q=>
 AM 0 q fun B=>
 Av B o (fun U=>
 J [] U) w4) I)
 (J [] I)) w)
def gh(g:AvK)(ft:Nat)(v0:Value)(K:Cont)(w:World):Prop:=
 CY v0 fun b4=>
 AD (.bool b4)
 (K (zI 0) w)
 (AB prog ft [v0] (fun i j=>
 AB prog g.fSize [i] (fun m w2=>
 K m w2) j) w)
def Yj(fl:Nat)(v0 v1 v2:Value)(K:Cont)(w:World):Prop:=
 CY v0 fun q=>
 AD (.bool q)
 (K (zI 1) w)
 (BU .i64 v1 (zI 0) fun i=>
 AD i
 (K (zI 5) w)
 (Eo .i64 v1 v2 fun j=>
 AD j
 (K (zI 5) w)
 (AB prog fl [v0] (fun m o=>
 Eo .i64 v2 m fun t22=>
 AD t22
 (K (zI 5) o)
 (K (zI 0) o)) w)))
structure cY (g:AvK) where
 ft:Nat
 fl:Nat
 fb:Nat
 tree:∀{v0 K w},VF g v0 K w->AB prog ft [v0] K w
 len:∀{v0 K w},gh g ft v0 K w->AB prog fl [v0] K w
 jl:∀{v0 v1 v2 K w},Yj fl v0 v1 v2 K w->AB prog fb [v0,v1,v2] K w
 jz:g.vm.cells=#[g.vm]
 kF:g.vc.cells=#[g.vc]
 kA:g.vd.cells=#[g.vd]
def Hs:cY JP:=⟨99,111,97,fun h=>eJ h,fun h=>Yz h,fun h=>fj h,rfl,rfl,rfl⟩
def FR:cY Ke:=⟨104,57,101,fun h=>Yh h,fun h=>gr h,fun h=>ZF h,rfl,rfl,rfl⟩
def Em:cY Gg:=⟨89,54,94,fun h=>eP h,fun h=>dr h,fun h=>fT h,rfl,rfl,rfl⟩
variable {α:Type}{g:AvT α}
def Vs(g:AvT α)(F C:Nat->Prop)(W:World)(b:Nat)(l:List α)(N:Nat):Prop:=∃A T,Dj g F C W b T.root A/\Tr.Holds g.k.μ A.f T/\Tr.GG T/\T.toL=l/\A.ps.length<=N
def Vs.mod{b N:Nat}{l:List α}(h:Vs g F C W b l N)(hm:Mod M W W')(i:∀x,F x\/C x->¬M x):Vs g F C W' b l N:=by
 obtain⟨A,T,h,r⟩:=h;exact⟨A,T,h.mod hm i,r⟩
def VC(hC:∀x,C x->x<W.heap.size) :
  AB prog g.fNew [.agg #[g.vm,g.vc,g.vd]] (fun v' w'=>∃b F,v'=.pointer (some ⟨b,0,none⟩)/\W.heap.size<=b/\(∀x,F x->W.heap.size<=x)/\Vs g F C w' b [] 0/\Grow W w') W:=by
 apply g.ok.new;unfold cE;refine Bx.box (vs:=[g.vm,g.vc,g.vd]) fun b1 m U Q V=>?_;have B:Grow m m.drew:=Mod.drew _ _;have z1:=Q.size;have zd:=B.size;refine Af (fun _ _=>False) ?_;refine Ch (vs:=[g.vm,g.vc,g.vd]) rfl (fun j v X=>⟨by rw[AH];exact(V.grow B).cells j v X,fun _ _ e=>e⟩) ?_;refine AA (YQ (g:=g) (C:=C) fun x I=>by have:=hC x I;omega) ?_;rintro _ w2 ⟨rfl,Y,J,Z⟩;refine⟨J.mono fun _ _ h=>h.elim,?_⟩;have o:Instr.fill (fun i=>[(0,3),(3,1),(4,1)][i]?) [Value.nilFunc,.nilFunc,.nilFunc,.pointer none,zI 0].toArray [(0,.agg [g.vm,g.vc,g.vd].toArray),(1,.pointer (some ⟨m.drew.heap.size,0,none⟩)),(2,zI (-1))]=some (cC g m.drew.heap.size (-1)).toArray:=by
  rw[DB (vs:=[g.vm,g.vc,g.vd]) (off:=0) (len:=3) rfl rfl rfl (by decide),DB (vs:=[.pointer (some ⟨m.drew.heap.size,0,none⟩)]) (off:=3) (len:=1) rfl rfl rfl (by simp[I7]),DB (vs:=[zI (-1)]) (off:=4) (len:=1) rfl rfl rfl (by simp[I7]),FQ];rfl
 refine⟨_,o,?_⟩;refine Bx.box fun b3 w3 a1 q T=>⟨q.mono fun _ _ h=>h.elim,?_⟩;have z2:=J.size;have z3:=q.size;have O:=T.lt (S3 _);refine⟨b3,fun x=>x=m.drew.heap.size\/x=b3,rfl,by omega,fun x I=>by rcases I with e|e<;>omega,⟨ArS.z,.nil,⟨m.drew.heap.size,.slice none 0 0,.slice none 0 0,T,?_,.inr rfl,fun h=>by have:=hC b3 h;omega⟩,trivial,nf,rfl,Nn _⟩,((Q.trans B).trans J).trans q⟩;have e:(fun x=>(x=m.drew.heap.size\/x=b3)/\x≠b3)=fun x=>x=m.drew.heap.size:=by
  funext x
  refine propext ⟨fun h=>h.1.elim (fun h=>h) fun e=>(h.2 e).elim,fun h=>⟨.inl h,by omega⟩⟩
 rw[e];exact Z.grow q
structure Di (g:AvT α) (F C:Nat->Prop) (W:World) (b bt:Nat) (l:List α) (N:Nat):Prop where
 box:Bx W b [.pointer (some ⟨bt,0,none⟩)]
 EH:Vs g (fun x=>F x/\x≠b) C W bt l N
 fb:F b/\¬C b
def Di.mod{b bt N:Nat}{l:List α}(h:Di g F C W b bt l N)(hm:Mod M W W')(i:∀x,F x\/C x->¬M x):Di g F C W' b bt l N:=
 ⟨h.box.mod hm (i b (.inl h.fb.1)),h.EH.mod hm fun x j=>i x (j.imp (fun h=>h.1) fun h=>h),h.fb⟩
def Di.grow{b bt N:Nat}{l:List α}(h:Di g F C W b bt l N)(hm:Grow W W'):Di g F C W' b bt l N:=h.mod hm fun _ _ h=>h
def Di.lt{b bt N:Nat}{l:List α}(h:Di g F C W b bt l N):∀x,F x\/C x->x<W.heap.size:=by
 obtain⟨A,T,h1,_⟩:=h.EH;intro x i;by_cases e:x=b
 .subst e;exact h.box.lt (S3 _)
 .exact h1.lt x (i.imp (fun h=>⟨h,e⟩) fun h=>h)
def Di.Iw{b bt N:Nat}{l:List α}(h:Di g F C W b bt l N):∀x,F x->¬C x:=by
 obtain⟨A,T,h1,_⟩:=h.EH;intro x i;by_cases e:x=b
 .subst e;exact h.fb.2
 .exact h1.Iw x ⟨i,e⟩
def ER{b bt N:Nat}{l:List α}(o:cY g.toAvK)(h:Di g F C W b bt l N):AB prog o.ft [.pointer (some ⟨b,0,none⟩)] (fun v' w'=>v'=.pointer (some ⟨bt,0,none⟩)/\w'=W) W:=by
 apply o.tree;unfold VF;refine AV (fun _ W'=>W'=W) ?_ ?_
 .rintro _ _ rfl _;rename World=>W
  refine AI ?_;rw[AG,AH];exact AL (h.box.cells 0 _ rfl) ⟨rfl,rfl⟩
 .refine AI ?_;refine Bh (h.box.cells 0 _ rfl) ?_;exact DS (AS rfl)
def eU{b:Nat}(o:cY g.toAvK)(B:Bx W b [.pointer none])(hb:¬C b)(hC:∀x,C x->x<W.heap.size) :
  AB prog o.ft [.pointer (some ⟨b,0,none⟩)] (fun v' w'=>∃bt F,v'=.pointer (some ⟨bt,0,none⟩)/\Di g F C w' b bt [] 0/\(∀x,F x->x=b\/W.heap.size<=x)/\Mod (fun x=>x=b) W w') W:=by
 apply o.tree;unfold VF;have O:=B.lt (S3 _);refine AV (fun _ W'=>∃bt F,Di g F C W' b bt [] 0/\(∀x,F x->x=b\/W.heap.size<=x)/\Mod (fun x=>x=b) W W') ?_ ?_
 .rintro _ W' ⟨bt,F,h,U,V⟩ _;refine AI ?_;rw[AG,AH];exact AL (h.box.cells 0 _ rfl) ⟨bt,F,rfl,h,U,V⟩
 .refine AI ?_;refine Bh (B.cells 0 _ rfl) ?_;refine⟨none,rfl,Ak ?_⟩;have m:Instr.fill (fun i=>[(0,1),(1,1),(2,1)][i]?) [Value.nilFunc,.nilFunc,.nilFunc].toArray [(0,g.vm),(1,g.vc),(2,g.vd)]=some [g.vm,g.vc,g.vd].toArray:=by
   rw[DB (vs:=[g.vm]) (off:=0) (len:=1) rfl o.jz rfl (by decide),DB (vs:=[g.vc]) (off:=1) (len:=1) rfl o.kF rfl (by simp[I7]),DB (vs:=[g.vd]) (off:=2) (len:=1) rfl o.kA rfl (by simp[I7]),FQ];rfl
  refine⟨_,m,?_⟩;refine AA (VC (g:=g) hC) ?_;rintro _ w4 ⟨bt,F,rfl,X,I,Y,Q⟩;refine AI ?_;rw[AG,AH];refine(B.grow Q).st (q:=0) (show 0<1 by decide) rfl rfl fun w5 Z T=>?_;have J:=Y.mod T fun x j e=>by
   rcases j with j|j
   .have:=I x j;omega
   .exact hb (e▸j)
  refine⟨bt,fun x=>F x\/x=b,⟨Z,?_,.inr rfl,hb⟩,fun x j=>?_,(Q.mono fun _ _ h=>h.elim).trans T⟩
  .have e:(fun x=>(F x\/x=b)/\x≠b)=F:=by
    funext x
    refine propext ⟨fun h=>h.1.elim (fun h=>h) fun e=>(h.2 e).elim,fun h=>⟨.inl h,fun e=>?_⟩⟩;have:=I x h;omega
   rw[e];exact J
  .rcases j with j|j
   .exact .inr (I x j)
   .exact .inl j
def Me{b bt N:Nat}{l:List α}(o:cY g.toAvK)(h:Di g F C W b bt l N):AB prog o.fl [.pointer (some ⟨b,0,none⟩)] (fun v' w'=>v'=zI (Tr.sz g.k.μ l)/\Grow W w') W:=by
 apply o.len;unfold gh;refine DS (AS ?_);refine AA (ER o h) ?_;rintro _ _ ⟨rfl,rfl⟩;rename World=>W
 obtain⟨A,T,h1,i,m,j,q⟩:=h.EH;have:=QF h1 i;rw[j] at this;exact this
def VL{b:Nat}(o:cY g.toAvK)(j:Bx W b [.pointer none])(hb:¬C b)(hC:∀x,C x->x<W.heap.size) :
  AB prog o.fl [.pointer (some ⟨b,0,none⟩)] (fun v' w'=>v'=zI 0/\∃bt F,Di g F C w' b bt [] 0/\(∀x,F x->x=b\/W.heap.size<=x)/\Mod (fun x=>x=b) W w') W:=by
 apply o.len;unfold gh;refine DS (AS ?_);refine AA (eU o j hb hC) ?_;rintro _ I ⟨bt,F,rfl,h,m,q⟩;obtain⟨A,T,k1,k2,J,B,O⟩:=h.EH;have:=QF k1 k2;rw[B] at this;refine AA this ?_;rintro _ w2 ⟨rfl,i⟩;exact⟨rfl,bt,F,h.grow i,m,q.trans (i.mono fun _ _ h=>h.elim)⟩
def QT(i j n:Int):Int:=if i<0 then 5 else if j<i then 5 else if n<j then 5 else 0
def Jg{b bt N:Nat}{l:List α}{i j:Int}(o:cY g.toAvK)(h:Di g F C W b bt l N):AB prog o.fb [.pointer (some ⟨b,0,none⟩),zI i,zI j] (fun v' w'=>v'=zI (QT i j (Tr.sz g.k.μ l))/\Grow W w') W:=by
 apply o.jl;unfold Yj QT;refine DS (AS ?_);rw[Am];refine AF (fun e=>⟨by rw[DN e],Mod.refl _ _⟩) fun m=>?_;rw[BL];refine AF (fun e=>⟨by rw[Bq m,DN e],Mod.refl _ _⟩) fun q=>?_;refine AA (Me o h) ?_;rintro _ J ⟨rfl,B⟩;rw[BL];refine AF (fun e=>⟨by rw[Bq m,Bq q,DN e],B⟩) fun I=>⟨by rw[Bq m,Bq q,Bq I],B⟩
def Iz{b bt N i j:Nat}{l L:List α}(J:Rh g)(h:Di g F C W b bt l N)(hN:N+L.length<=109951162000)(O:BB S g.E (g.R C) W v L)(Q:∀x,S x->¬F x)(o:i<=j)(U:j<=1099511627776)
 (V:Dy g l)(X:Dy g (g.k.CB l i j L))(b3:Dy g ((g.k.split l i).1.getLast?.toList++L++(g.k.split (g.k.split l i).2 (j-i)).2.head?.toList)) :
  AB prog g.fReplace [.pointer (some ⟨bt,0,none⟩),zI (i:Int),zI (j:Int),v] (fun _ w'=>∃F',(∀x,F x->F' x)/\(∀x,F' x->F x\/W.heap.size<=x)/\Di g F' C w' b bt (g.k.CB l i j L) (N+L.length+4)/\Mod F W w') W:=by
 obtain⟨A,T,h1,Y,Z,rfl,h5⟩:=h.EH;have q:=h.box.lt (S3 _);refine AA (J h1 (by omega) Y Z O (fun x m e=>Q x m e.1) o U V X b3) ?_;rintro _ w' ⟨T',A',e1,⟨F',k1,k2,k3,B⟩,e2,e3,e4⟩;refine⟨fun x=>F' x\/x=b,fun x m=>?_,fun x m=>?_,⟨h.box.mod B fun e=>e.2 rfl,⟨A',T',?_,e2,e3,e1,by omega⟩,.inr rfl,h.fb.2⟩,B.mono fun x _ e=>e.1⟩
 .by_cases e:x=b
  .exact .inr e
  .exact .inl (k1 x ⟨m,e⟩)
 .rcases m with m|rfl
  .exact(k2 x m).imp (fun h=>h.1) fun h=>h
  .exact .inl h.fb.1
 .have e:(fun x=>(F' x\/x=b)/\x≠b)=F':=by
   funext x
   refine propext ⟨fun h=>h.1.elim (fun h=>h) fun e=>(h.2 e).elim,fun m=>⟨.inl m,fun e=>?_⟩⟩;rcases k2 x m with I|I
   .exact I.2 e
   .omega
  rw[e];exact k3
end
abbrev Bg(l:List Ck):List Int:=l.flatMap Ck.l
def Gx:Ck.kd.FP Ck.l where
 size:=fun _=>rfl
 cut1:=fun _ _ _ _=>⟨rfl,rfl⟩
 melds:=fun a b c h=>by
  simp only[Ck.kd] at h;split at h
  .rename_i i;cases h;have j:a.jn b=⟨a.l++b.l,by simpa using i⟩:=rQ i;rw[j]
  .cases h
def Gf(l:List Ck):Tr.sz Ck.kd.μ l=(Bg l).length:=Gx.sz l
def O2(l:List Ck):Tr.mk Ck.kd.μ l=BX (Bg l):=by
 induction l with
 |nil=>rfl
 |cons c l i=>rw[Tr.Cy,i];show BX c.l+BX (Bg l)=BX (c.l++Bg l);rw[BX,BX,BX,nx]
def Qm(l r:Tr Ck)(i:Nat)(x:Ck):Bg (Tr.node l i x r).toL=Bg l.toL++(x.l++Bg r.toL):=by
 simp[Bg,Tr.toL]
def Dl(l:List Int):BX l<=l.length:=rI
def FD(a b:List Int):BX (a++b)=BX a+BX b:=nx
def Lk(a b:List Int)(k:Nat):HJ (a++b) k=if k<BX a then HJ a k else(HJ b (k-BX a)).map (·+a.length):=by
 induction a generalizing k with
 |nil=>simp[BX]
 |cons r a j=>
  have i:∀o:Option Nat,(o.map (·+a.length)).map (·+1)=o.map (·+(r::a).length):=fun o=>by cases o<;>simp;omega
  rw[S7,Gv,Gv];by_cases h:r=10
  .have e:BX (r::a)=BX a+1:=by rw[h];simp[BX]
   rw[DN h,DN h,e];cases k with
   |zero=>simp
   |succ k=>
    simp only[j];by_cases hk:k<BX a
    .rw[DN hk,DN (by omega)]
    .rw[Bq hk,Bq (by omega),i,Nat.add_sub_add_right]
  .have e:BX (r::a)=BX a:=by simp[BX,h]
   rw[Bq h,Bq h,e,j];by_cases hk:k<BX a
   .rw[DN hk,DN hk]
   .rw[Bq hk,Bq hk,i]
def OU{l:List Int}{k:Nat}(h:k<BX l):∃i,HJ l k=some i/\i<l.length:=by
 induction l generalizing k with
 |nil=>simp[BX] at h
 |cons r a j=>
  rw[Gv];by_cases e:r=10
  .rw[DN e];cases k with
   |zero=>exact⟨0,rfl,by simp⟩
   |succ k=>
    obtain⟨i,h1,m⟩:=j (k:=k) (by rw[e] at h;simp[BX] at h ⊢;omega);exact⟨i+1,by simp[h1],by simp;omega⟩
  .rw[Bq e];obtain⟨i,h1,m⟩:=j (k:=k) (by simpa[BX,e] using h);exact⟨i+1,by simp[h1],by simp;omega⟩
def SG(A:ArS Ck)(v:Value):Nat:=match v with
 |.int _ i=>if i<0 then 0 else match A.f i.toNat with
  |some n=>(n.h:Int).toNat
  |none=>0
 |_=>0
def FI{A:ArS Ck}{t:Tr Ck}(h:Tr.Holds Ck.kd.μ A.f t):SG A (zI t.root)=t.ht:=by
 cases t with
 |nil=>rfl
 |node l i x r=>
  obtain⟨_,_,hi⟩:=h;have e:SG A (.int .i64 ((i:Nat):Int))=match A.f i with
   |some n=>(n.h:Int).toNat
   |none=>0:=by
   unfold SG;simp only[lf];exact Bq (by omega)
  show SG A (zI ((i:Nat):Int))=_;rw[e,hi];simp[Tr.EB]
def RP{v0 v1 v2:Value}(h:U2 Gg v0 v1 v2 K w):AB prog 108 [v0,v1,v2] K w:=ZV h
def TS{v0 v1 v2:Value}(h:cW Gg v0 v1 v2 K w):AB prog 91 [v0,v1,v2] K w:=gy h
def Qu{v0:Value}(h:VV Gg v0 K w):AB prog 90 [v0] K w:=fL h
set_option maxRecDepth 4000 in
def Qg{b p:Nat}{A:ArS Ck}{T:Tr Ck}(h:Dj Az.toAvT F C W b T.root A)(hh:Tr.Holds Az.k.μ A.f T)(hp:p<=1099511627776)(hb:Dy Az.toAvT T.toL) :
  AB prog 108 [.pointer (some ⟨b,0,none⟩),zI (p:Int),.func (.func 109) #[] #[]] (fun v' w'=>v'=zI (BX ((Bg T.toL).take p):Int)/\Grow W w') W:=by
 apply RP;unfold U2;refine AI ?_;obtain⟨c,pl,fr,Y⟩:=id h;refine Bh (Y.box.cells 4 _ rfl) ?_;have Z:(Bg T.toL).length<=1099511627776:=by rw[<-Gf];exact hb.1
 have hN:BX ((Bg T.toL).take p)<=1099511627776:=lV (Dl _) (by rw[Lc];omega);generalize a1:BX ((Bg T.toL).take p)=N at hN;refine AX (fun vs W'=>∃(t:Tr Ck) (q m:Nat),vs=[zI (q:Int),zI (m:Int),zI t.root]/\Tr.Holds Az.k.μ A.f t/\(Bg t.toL).length<=1099511627776/\q<=p/\m+BX ((Bg t.toL).take q)=N/\Grow W W')
  (fun vs _=>SG A (nth vs 2)) ⟨T,p,0,rfl,hh,Z,Mp _,by rw[mG];exact a1,Mod.refl _ _⟩ ?_
 rintro vs W1 ⟨t,q,m,rfl,I,O,hq,hm,Q⟩ _;simp only[GC];rw[Bk];cases t with
 |nil=>
  refine AY (fun _=>?_) fun e=>(e rfl).elim;have:m=N:=by simpa[Bg,Tr.toL,BX] using hm
  subst this;exact⟨rfl,Q⟩
 |node l i x r=>
  obtain⟨hl,hr,hi⟩:=id I;have a6:=Qm l r i x;rw[a6] at hm O;rw[Bp,Bp] at O;have h1:=h.grow Q;refine AY (fun e=>by simp only[Tr.root] at e;omega) fun _=>?_;simp only[Tr.root];refine Dq h1 hi fun rc bx w3 g3 ax B U=>?_;have o:=Az.rlen U;obtain rfl:rc=x.cells:=U;have h3:=h1.grow g3;refine Bh (B.cells (Az.E+0) _ (by rw[AZ o];rfl)) ?_;refine AA (CE h3 hl) ?_;rintro _ w5 ⟨rfl,g5⟩;refine Kj ?_;have V:Grow w5 w5.drew:=Mod.drew _ _;have X:=(g3.trans g5).trans V;obtain⟨c,pl,fr,Y⟩:=id h1;have a7:=Y.mod X fun _ _ h=>h;have B5:=(B.grow g5).grow V;refine Af (fun _ _=>False) ?_;refine AI ?_;rw[AG,AH,AG,AH];refine AU ⟨a7.box.cells 0 _ rfl,fun _ _ e=>e⟩ ?_;rw[AG,AH];refine JK (g:=Az.toAvT) (r:=x.cells) o (fun j v hv=>⟨B5.cells j v (by rw[Q0 (Ad.1 hv).1];exact hv),fun _ _ e=>e⟩) ?_;refine Aw (Az.meas (C:=C) (x:=x) rfl) ?_;rintro _ w6 ⟨rfl,g6⟩;refine⟨g6.mono fun _ _ h=>h.elim,?_⟩;refine BO ?_;have J:=X.trans g6;have B6:=B5.grow g6;have es:Tr.sz Az.k.μ l.toL=(Bg l.toL).length:=Gf _;have em:Tr.mk Az.k.μ l.toL=BX (Bg l.toL):=O2 _;have a8:(Az.k.μ x).1=x.l.length:=rfl;have ak:(Az.k.μ x).2=BX x.l:=rfl;rw[es,em,a8,ak,IG];have ay:=Dl x.l;have b0:=Dl (Bg l.toL);refine AF (fun b1=>?_) fun av=>?_
  .rw[oK (by omega)] at hm;refine Bh (B6.cells (Az.E+0) _ (by rw[AZ o];rfl)) ?_;refine⟨⟨l,q,m,rfl,hl,by omega,hq,hm,Q.trans J⟩,?_⟩;have e1:SG A (zI (i:Int))=(Tr.node l i x r).ht:=FI I;have e2:SG A (zI (Tr.EB Az.k.μ (.node l i x r) x l.root r.root).l)=l.ht:=FI hl;refine pG (oQ e2) (X8 ?_ (oQ e1.symm));simp only[Tr.ht];omega
  have al:(Bg l.toL).length<q:=by omega
  rw[nd,mJ (by omega:(Bg l.toL).length<=q),FD] at hm;refine CJ (by omega) ?_;refine Hj (fun b2=>?_) fun b6=>?_
  .rw[oK (by omega)] at hm;refine CJ (by omega) ?_;rw[AG,AH];refine Ah (vs:=x.cells) o (fun j u hu=>by rw[AH];exact B6.cells j u (by rw[Q0 (Ad.1 hu).1];exact hu)) ?_;refine Gh (by omega) (by omega) ?_;refine Gu (by kernel_rfl) ?_;refine AA (P8 x _) ?_;rintro _ b7 ⟨rfl,an⟩;refine CJ (by omega) ⟨?_,(Q.trans J).trans an⟩;congr 2;omega
  .rw[nd,mJ (by omega:x.l.length<=q-(Bg l.toL).length),FD] at hm;refine CJ (by omega) (CJ (by omega) (CJ (by omega) (Gh (by omega) (by omega) ?_)));refine Bh (B6.cells (Az.E+1) _ (by rw[AZ o];rfl)) ?_;refine⟨⟨r,q-((Bg l.toL).length+x.l.length),m+(BX (Bg l.toL)+BX x.l),rfl,hr,by omega,by omega,?_,Q.trans J⟩,?_⟩
   .rw[qX] at hm;omega
   .have e1:SG A (zI (i:Int))=(Tr.node l i x r).ht:=FI I;have e2:SG A (zI (Tr.EB Az.k.μ (.node l i x r) x l.root r.root).r)=r.ht:=FI hr;refine pG (oQ e2) (X8 ?_ (oQ e1.symm));simp only[Tr.ht];omega
def iZ(c:Ck){k i:Nat}(hk:k<=1099511627776)(h:HJ c.l k=some i):AB prog 92 [.agg c.cells.toArray,zI (k:Int)] (fun v w'=>v=zI (i:Int)/\Grow w w') w:=by
 apply gR;refine Bx.box fun b o hb j B=>?_;refine B.E0 c.len ?_;refine AA (O3 c hk) ?_;rintro _ w2 ⟨rfl,m⟩;rw[h,jk];exact CL (vs:=[_,_]) (by rfl) (CL (vs:=[_,_]) (by rfl) ⟨rfl,j.trans m⟩)
set_option maxRecDepth 4000 in
def au{b k p:Nat}{A:ArS Ck}{T:Tr Ck}(h:Dj Az.toAvT F C W b T.root A)(hh:Tr.Holds Az.k.μ A.f T)(hk:k<=1099511627776)(hb:Dy Az.toAvT T.toL)(hp:HJ (Bg T.toL) k=some p) :
  AB prog 91 [.pointer (some ⟨b,0,none⟩),zI (k:Int),.func (.func 92) #[] #[]] (fun v' w'=>v'=.tuple #[zI (p:Int),.bool true]/\Grow W w') W:=by
 apply TS;unfold cW;refine AI ?_;obtain⟨c,pl,fr,hT⟩:=id h;refine Bh (hT.box.cells 4 _ rfl) ?_;have b0:(Bg T.toL).length<=1099511627776:=by rw[<-Gf];exact hb.1
 refine AX (fun vs W'=>∃(t:Tr Ck) (q m z:Nat),vs=[zI (q:Int),zI (m:Int),zI t.root]/\Tr.Holds Az.k.μ A.f t/\m+(Bg t.toL).length<=1099511627776/\q<=k/\HJ (Bg t.toL) q=some z/\m+z=p/\Grow W W')
  (fun vs _=>SG A (nth vs 2)) ⟨T,k,0,p,rfl,hh,by omega,Mp _,hp,mG _,Mod.refl _ _⟩ ?_
 rintro vs W1 ⟨t,q,m,z,rfl,J,Q,hq,o,a1,Z⟩ _;simp only[GC];refine AV (fun _ W'=>W'=W1) ?_ ?_;rotate_left
 .rw[DW];refine AF (fun _=>?_) fun e=>(e (by omega)).elim;rw[Bk];refine AY (fun e=>?_) fun _=>rfl;cases t with
  |nil=>cases o
  |node l i x r=>simp only[Tr.root] at e;omega
 rintro _ _ rfl _;rename World=>W1
 cases t with
 |nil=>cases o
 |node l i x r=>
  obtain⟨hl,hr,hi⟩:=id J;have a6:=Qm l r i x;rw[a6] at o Q;rw[Bp,Bp] at Q;have h1:=h.grow Z;simp only[Tr.root];refine Dq h1 hi fun rc bx w3 g3 b1 B U=>?_;have I:=Az.rlen U;obtain rfl:rc=x.cells:=U;have h3:=h1.grow g3;refine Bh (B.cells (Az.E+0) _ (by rw[AZ I];rfl)) ?_;refine AA (CE h3 hl) ?_;rintro _ w5 ⟨rfl,g5⟩;refine Kj ?_;have V:Grow w5 w5.drew:=Mod.drew _ _;have X:=(g3.trans g5).trans V;obtain⟨c,pl,fr,hT⟩:=id h1;have a7:=hT.mod X fun _ _ h=>h;have B5:=(B.grow g5).grow V;refine Af (fun _ _=>False) ?_;refine AI ?_;rw[AG,AH,AG,AH];refine AU ⟨a7.box.cells 0 _ rfl,fun _ _ e=>e⟩ ?_;rw[AG,AH];refine JK (g:=Az.toAvT) (r:=x.cells) I (fun j v hv=>⟨B5.cells j v (by rw[Q0 (Ad.1 hv).1];exact hv),fun _ _ e=>e⟩) ?_;refine Aw (Az.meas (C:=C) (x:=x) rfl) ?_;rintro _ w6 ⟨rfl,g6⟩;refine⟨g6.mono fun _ _ h=>h.elim,?_⟩;refine BO ?_;have O:=X.trans g6;have B6:=B5.grow g6;have es:Tr.sz Az.k.μ l.toL=(Bg l.toL).length:=Gf _;have em:Tr.mk Az.k.μ l.toL=BX (Bg l.toL):=O2 _;have a8:(Az.k.μ x).1=x.l.length:=rfl;have ak:(Az.k.μ x).2=BX x.l:=rfl;rw[es,em,a8,ak,Am];have b2:=Dl x.l;have b6:=Dl (Bg l.toL);rw[Lk] at o;refine AF (fun b7=>?_) fun ax=>?_
  .rw[DN (by omega)] at o;refine Bh (B6.cells (Az.E+0) _ (by rw[AZ I];rfl)) ?_;refine⟨⟨l,q,m,z,rfl,hl,by omega,hq,o,a1,Z.trans O⟩,?_⟩;have e1:SG A (zI (i:Int))=(Tr.node l i x r).ht:=FI J;have e2:SG A (zI (Tr.EB Az.k.μ (.node l i x r) x l.root r.root).l)=l.ht:=FI hl;refine pG (oQ e2) (X8 ?_ (oQ e1.symm));simp only[Tr.ht];omega
  rw[Bq (by omega),Lk] at o;refine CJ (by omega) ?_;refine Hj (fun b8=>?_) fun b9=>?_
  .rw[DN (by omega)] at o;obtain⟨i',Y,rfl⟩:=oT.1 o;have ay:i'<x.l.length:=by
    obtain⟨i2,k1,k2⟩:=OU (l:=x.l) (k:=q-BX (Bg l.toL)) (by omega);rw[Y] at k1;cases k1;exact k2
   refine CJ (by omega) ?_;rw[AG,AH];refine Ah (vs:=x.cells) I (fun j u hu=>by rw[AH];exact B6.cells j u (by rw[Q0 (Ad.1 hu).1];exact hu)) ?_;refine Gh (by omega) (by omega) ?_;refine Gu (by kernel_rfl) ?_;refine AA (iZ x (by omega) Y) ?_;rintro _ ba ⟨rfl,al⟩;refine CJ (by omega) ⟨?_,(Z.trans O).trans al⟩;have e:m+(Bg l.toL).length+i'=p:=by omega
   rw[e]
  .rw[Bq (by omega)] at o;obtain⟨z1,an,rfl⟩:=oT.1 o;obtain⟨z2,av,rfl⟩:=oT.1 an;refine CJ (by omega) (CJ (by omega) (CJ (by omega) (Gh (by omega) (by omega) ?_)));refine Bh (B6.cells (Az.E+1) _ (by rw[AZ I];rfl)) ?_;refine⟨⟨r,q-(BX (Bg l.toL)+BX x.l),m+((Bg l.toL).length+x.l.length),z2,rfl,hr,by omega,by omega,?_,by omega,Z.trans O⟩,?_⟩
   .rw[<-qX];exact av
   .have e1:SG A (zI (i:Int))=(Tr.node l i x r).ht:=FI J;have e2:SG A (zI (Tr.EB Az.k.μ (.node l i x r) x l.root r.root).r)=r.ht:=FI hr;refine pG (oQ e2) (X8 ?_ (oQ e1.symm));simp only[Tr.ht];omega
def Jy.grow{st:Prop}{o N:Nat}{j:List Value}{i:Nat->List Value}{Rd:Nat->Prop}(h:Jy st P o j i N Rd w)(g:Grow w w'):Jy st P o j i N Rd w':=by
 intro l J q B I h0 hJ O0 Ir hr;refine h l J q B (g.trans I) h0 hJ O0 (fun k O W hk b hb m=>?_) hr;exact(Ir k O W hk b (X8 hb g.size) m).trans (g.same b hb fun h=>h)
structure XM {α:Type} (e k:Nat) (R:World->List Value->α->Prop) (B c m:Nat) (It:Nat->Prop) (W:World) (out:Value) (l:List α):Prop where
 box:Bx W c [out]
 row:AE B e k R W out l
 hc:∀g,out.ownBlock=some g->g≠c/\g≠m/\g≠m+1/\¬It g
def OW{U vals:List Value}{Rd:Nat->Prop}{X:List Spn}(hs:Jy True prog N U (fun k=>[vals.getD k undef]) vals.length Rd W)(a8:Cq N=true)(hv:vals.length=X.length)(J:∀m (h1:m<vals.length) (Z:m<X.length),vals[m]=.agg X[m].cells.toArray)(Ir:∀x,Rd x->x<W.heap.size)(hl:X.length<=109951162777) :
  AB prog 98 [.func (.func N) #[] U.toArray] (fun v' w'=>AE W.heap.size 108 2 (fun _ r x=>r=Spn.cells x) w' v' X/\Grow W w') W:=by
 apply eK;apply af;refine D8 rfl fun c I hc g1 B=>?_;have b2:=B.lt (S3 _);have z1:=g1.size;refine Hr ⟨True,N,U,_,_,_,rfl,a8,hs.grow g1,fun k _=>rfl,?_⟩;refine⟨fun k O W'=>∃out,XM 108 2 (fun _ r x=>r=Spn.cells x) I.heap.size c I.heap.size O W' out (X.take k)/\Mod (fun x=>x=c) I W'/\k<=X.length,fun _ _ _=>False,⟨_,⟨B,AE.nil,fun g i=>nomatch i⟩,Mod.refl _ _,Nn _⟩,?_,fun x O ak W W' h=>h.elim,?_,?_,?_,fun x O W h=>h.elim⟩
 .rintro k O ak W' b6 ⟨out,q,m,hk⟩ hm j;have a1:=q.box.lt (S3 _);have hn:∀x,x<I.heap.size->¬((¬True/\O x)\/x=I.heap.size\/x=I.heap.size+1):=fun x J=>by rintro(⟨h,_⟩|h|h);exact h trivial;all_goals omega
  refine⟨out,⟨q.box.mod hm (hn c (by omega)),AE.mod q.row hm (fun g i=>?_) fun _ _ _ h=>h,fun g i=>?_⟩,m.next hm fun x J=>?_,hk⟩
  .obtain⟨_,Z,h3,_⟩:=q.hc g i;rintro(⟨h,_⟩|h|h)
   .exact h trivial
   .exact Z h
   .exact h3 h
  .obtain⟨h1,Z,h3,h4⟩:=q.hc g i;refine⟨h1,Z,h3,fun h=>?_⟩;rcases(j g h).1 with h|h
   .exact h4 h
   .have:=(AE.Ax q.row g i).2;omega
  .intro e;exact absurd e (hn x J)
 .rintro k O W' ⟨out,q,m,hk⟩ b hb hr;exact m.same b hb fun e=>by have:=Ir b hr;omega
 .rintro k O W' hk ⟨out,q,m,b7⟩ hz j;have Q:k<X.length:=by omega
  have V:(nth [vals.getD k undef] 0)=.agg X[k].cells.toArray:=by
   show vals.getD k undef=_;rw[lj,By hk,oq,J k hk Q]
  rw[V];refine Bx.new (vs:=X[k].cells) rfl rfl (Spn.one _) fun b5 W5 b8 g5 B5=>?_;refine KV g5 hz j (fun _ _ h=>h.elim) fun W6 o=>?_;have z5:=g5.size;have z6:=o.size;have a1:=q.box.lt (S3 _);have al:=B5.lt (S3 _);have B6:=(q.box.grow g5).mod o (by omega);have an:=B5.mod o (by omega);have o6:AE I.heap.size 108 2 (fun _ r x=>r=Spn.cells x) W6 out (X.take k):=AE.mod (AE.mod (R':=fun _ r x=>r=Spn.cells x) q.row g5 (fun _ _ h=>h) fun _ _ _ h=>h) o (fun g i=>(q.hc g i).2.2.1) fun _ _ _ h=>h;refine AL (B6.cells 0 _ rfl) ?_;refine an.E0 rfl ?_;have b9:(X.take k).length<=X.length:=by simp;omega
  refine Da DJ.elE o6 (by omega) (cs:=X[k].cells) (x:=X[k]) (DC (v:=.agg X[k].cells.toArray) rfl (by decide) rfl rfl) rfl rfl (fun _ _ _ h=>by subst h;exact Spn.one _) (fun _ _ _ _ _ _ h=>h) (by show _*16<=_;omega) (by simp only[maxLen];omega) fun a6 W9 o9 m9 n9=>?_;have z9:=m9.size;have ba:=AE.Ax o6;have B9:=B6.mod m9 fun e=>(q.hc c e).1 rfl;obtain⟨av,ax⟩:=o9.one;refine B9.st (q:=0) (show 0<1 by decide) av ax fun ay b0 Y=>?_;have bb:=Y.size;have T:Mod (fun x=>x=c\/out.ownBlock=some x) W6 ay:=(m9.mono fun _ _ e=>.inr e).trans (Y.mono fun _ _ e=>.inl e);refine⟨NZ T (by omega) (fun b hb=>by have:=(j b hb).1;omega) (fun b _ e=>?_),a6,⟨b0,?_,fun g i=>?_⟩,?_,by omega⟩
  .rcases e with rfl|e
   .exact⟨fun h=>by have:=(j b h).2;omega,by omega,by omega⟩
   .obtain⟨h1,Z,h3,h4⟩:=q.hc b e;exact⟨h4,Z,h3⟩
  .have b1:X.take (k+1)=X.take k++[X[k]]:=by rw[No];simp[Q]
   rw [b1];exact AE.mod o9 Y (fun g i e=>by
    rcases n9 g i with h|h
    .exact(q.hc g h).1 e
    .omega) fun _ _ _ h=>h
  .rcases n9 g i with h|h
   .exact q.hc g h
   .refine⟨by omega,by omega,by omega,fun hI=>by have:=(j g hI).1;omega⟩
  .refine((m.next g5 fun _ _ h=>h.elim).next o fun x J e=>by omega).next T fun x J e=>?_;rcases e with e|e
   .exact e
   .have:=(AE.Ax q.row x e).1;omega
 .rintro O W' ⟨out,q,m,hk⟩ _ _ hd;refine AL (q.box.cells 0 _ rfl) ⟨hd,?_⟩;have a7:Mod (fun b=>b=I.heap.size) W' (W'.putObj I.heap.size (.deferred none)):=Mod.putObj _ _ _ rfl;rw[hv,PF] at q;refine⟨AE.base (AE.mod q.row a7 (fun g i=>(q.hc g i).2.1) fun _ _ _ h=>h) fun g i=>?_,?_⟩
  .have:=(AE.Ax q.row g i).1;omega
  exact(g1.next m fun x J e=>by omega).next a7 fun x J e=>by omega
abbrev GJ:Nat->Prop:=fun _=>False
abbrev Dt:World->List Value->Spn->Prop:=fun _ r x=>r=Spn.cells x
abbrev Ei(l:List Spn):Nat:=Tr.sz Spn.kd.μ l
def jy(l:List Spn):Tr.mk Spn.kd.μ l=0:=by
 induction l with
 |nil=>rfl
 |cons x l i=>rw[Tr.Cy,i];rfl
def bq{l:List Spn}(h:Ei l<=1099511627776):Dy DJ.toAvT l:=⟨h,by show Tr.mk Spn.kd.μ l<=_;rw[jy];omega⟩
def Du(l:List Spn):Ei l=(l.flatMap Spn.u).length:=Spn.ED.sz l
def U4(l:List Spn)(i j:Nat):(Spn.kd.over l i j).length<=l.length:=by
 induction l generalizing i j with
 |nil=>exact Mp _
 |cons x l m=>
  simp only[Kd.over,Bp,S5];have:=m (i-(Spn.kd.μ x).1) (j-(Spn.kd.μ x).1);split<;>simp<;>omega
def J7{b bt N i j:Nat}{l:List Spn}(h:Di DJ.toAvT F GJ W b bt l N)(hN:N<=109951162000)(U:i<=j)(V:j<=Ei l)(Y:Ei l<=1099511627776)(hl:l.length<=109951162777) :
  AB prog 48 [.pointer (some ⟨b,0,none⟩),zI (i:Int),zI (j:Int)] (fun v' w'=>∃q,v'=.tuple #[q,zI 0]/\AE W.heap.size 108 2 Dt w' q (Spn.kd.over l i j)/\Grow W w') W:=by
 apply gJ;refine AA (Jg Hs h) ?_;rintro _ Z ⟨rfl,B⟩;have hb:QT (i:Int) (j:Int) ((Tr.sz DJ.k.μ l:Nat):Int)=0:=by
  have:j<=Tr.sz DJ.k.μ l:=V;unfold QT;rw[Bq (by omega),Bq (by omega),Bq (by omega)]
 rw[hb,Bk];refine AY (fun _=>?_) fun e=>(e rfl).elim;refine AA (ER Hs (h.grow B)) ?_;rintro _ _ ⟨rfl,rfl⟩;rename World=>Z
 obtain⟨A,T,h1,h2,h3,rfl,h5⟩:=(h.grow B).EH;refine AA (SI (g:=DJ) h1 (by omega) h2 h3 (bq Y) (by omega) (by omega)) ?_;rintro _ w3 ⟨a1,vals,Rd,rfl,O,I,J,Ir,o⟩;have ho:=U4 T.toL i j;refine AA (OW (X:=Spn.kd.over T.toL i j) o (by kernel_rfl) I (fun m q1 q2=>?_) (fun x hx=>(Ir x hx).2) (by omega)) ?_
 .obtain⟨r,e1,e2⟩:=J m q1 q2;rw[e1,TI];have e3:r=Spn.cells (Spn.kd.over T.toL i j)[m]:=e2;rw[e3]
 rintro q w4 ⟨Q,g4⟩;have s1:=B.size;have s3:=O.size;exact⟨q,rfl,AE.base Q fun g hg=>by have:=(AE.Ax Q g hg).1;omega,(B.trans O).trans g4⟩
def bZ{L:List Spn}(J:BB S 2 Dt W v L)(q:∀s∈L,0<=s.id)(hl:L.length<=109951162777) :
  AB prog 236 [v,.func (.func 237) #[] #[]] (fun v' w'=>v'=.bool false/\Grow W w') W:=by
 apply YE;have key:AB prog 270 [v,.func (.func 237) #[] #[]] (fun v' w'=>v'=zI (-1)/\Grow W w') W:=by
  apply ag;obtain⟨a,c,rfl,hm⟩:=J.shape;have I:=J.GN (by decide);rw[AP];refine AX (fun vs W'=>∃i:Nat,i<=L.length/\vs=[zI i]/\Grow W W') (fun vs _=>L.length-De vs 0) ⟨0,Nn _,rfl,Mod.refl _ _⟩ ?_;rintro vs U ⟨i,hi,rfl,o⟩ _;simp only[Bl,Nr];rw[Am];refine AF (fun O=>?_) fun Q=>⟨trivial,o⟩;have m:i<L.length:=by omega
  obtain⟨p,r,rfl,_,hr,hc,rfl⟩:=I.get m;refine AT m (Ah (vs:=L[i].cells) rfl (fun j u hu=>by rw[Addr.add_add];exact o.cell (hc j u hu) fun h=>h) ?_);refine Gu (by kernel_rfl) ?_;apply Yg;refine Bx.box fun b w2 hb T B=>?_;refine Bh (B.cells 0 _ rfl) ?_;rw[Am];refine AF (fun e=>by omega) fun _=>?_;refine Bh (B.cells 1 _ rfl) ?_;rw[Am];have:=q L[i] (WJ m);refine AF (fun e=>by omega) fun _=>?_;rw[AQ,AO (by omega)];exact⟨⟨i+1,m,rfl,o.trans T⟩,by rw[CH,CH];omega⟩
 refine AA key ?_;rintro _ V ⟨rfl,o⟩;rw[DW];exact⟨rfl,o⟩
def Sj{l L:List Spn}{i j:Nat}(h:Ei l+Ei L<=1099511627776)(q:i<=j)(T:j<=Ei l):Ei (Spn.kd.CB l i j L)+(j-i)=Ei l+Ei L/\Ei ((Spn.kd.split l i).1.getLast?.toList++L++(Spn.kd.split (Spn.kd.split l i).2 (j-i)).2.head?.toList)<=Ei l+Ei L:=by
 have e:=Spn.ED.CB l L q;have B:=kZ List.length e;rw[<-Du,Bp,Bp,Lc,I3,<-Du,<-Du] at B;refine⟨by omega,?_⟩;have I:=FA (g:=DJ.toAvT) l i;have J:=FA (g:=DJ.toAvT) (Spn.kd.split l i).2 (j-i);have O:∀m:List Spn,Ei m.getLast?.toList<=Ei m:=fun m=>by
  rcases lK m with rfl|⟨o,y,rfl⟩
  .exact Mp _
  .simp[Ei,Tr.sz]
 have Q:∀m:List Spn,Ei m.head?.toList<=Ei m:=fun m=>by
  cases m with
  |nil=>exact Mp _
  |cons y m=>simp[Ei,Tr.sz]
 have h1:=O (Spn.kd.split l i).1;have U:=Q (Spn.kd.split (Spn.kd.split l i).2 (j-i)).2;unfold Ei at *;rw[Tr.CT,Tr.CT];have V:Tr.sz Spn.kd.μ (Spn.kd.split l i).1+Tr.sz Spn.kd.μ (Spn.kd.split l i).2=Tr.sz Spn.kd.μ l:=I.1;have X:Tr.sz Spn.kd.μ (Spn.kd.split (Spn.kd.split l i).2 (j-i)).1+Tr.sz Spn.kd.μ (Spn.kd.split (Spn.kd.split l i).2 (j-i)).2=Tr.sz Spn.kd.μ (Spn.kd.split l i).2:=J.1;omega
def TM{b bt N i j:Nat}{l L:List Spn}(h:Di DJ.toAvT F GJ W b bt l N)(hN:N+L.length<=109951162000)(q:i<=j)(X:j<=Ei l)(hs:Ei l+Ei L<=536870912)(J:BB S 2 Dt W v L)(hS:∀x,S x->¬F x)(O:∀s∈L,0<=s.id) :
  AB prog 151 [.pointer (some ⟨b,0,none⟩),zI (i:Int),zI (j:Int),v] (fun v' w'=>v'=zI 0/\∃F',(∀x,F x->F' x)/\(∀x,F' x->F x\/W.heap.size<=x)/\Di DJ.toAvT F' GJ w' b bt (Spn.kd.CB l i j L) (N+L.length+4)/\Mod F W w') W:=by
 apply Y5;refine DS (AS ?_);refine AA (bZ J O (by omega)) ?_;rintro _ w1 ⟨rfl,Y⟩;refine AS ?_;have h1:=h.grow Y;refine AA (Jg Hs h1) ?_;rintro _ w2 ⟨rfl,Z⟩;have hb:QT (i:Int) (j:Int) ((Tr.sz DJ.k.μ l:Nat):Int)=0:=by
  have:j<=Tr.sz DJ.k.μ l:=X;unfold QT;rw[Bq (by omega),Bq (by omega),Bq (by omega)]
 rw[hb,Bk];refine AY (fun _=>?_) fun e=>(e rfl).elim;refine AA (Me Hs (h1.grow Z)) ?_;rintro _ w3 ⟨rfl,g3⟩;have Q:Tr.sz DJ.k.μ l=Ei l:=rfl;rw[Q,Aq,wrap64 (by omega) (by omega),AQ,wrap64 (by omega) (by omega),Aq,wrap64 (by omega) (by omega)];obtain⟨a,c,rfl,hm⟩:=J.shape;have T:=J.GN (by decide);rw[AP];have U:=(Y.trans Z).trans g3;refine AX (fun vs W'=>∃k:Nat,k<=L.length/\vs=[zI ((536870912:Int)-Ei l+j-i-Ei (L.take k)),zI k]/\Grow W W') (fun vs _=>L.length-De vs 1) ⟨0,Nn _,by simp[Ei,Tr.sz],U⟩ ?_;rintro vs W1 ⟨k,hk,rfl,o⟩ _;simp only[GC];refine Hj (fun a1=>?_) fun a6=>?_
 .have m:k<L.length:=by omega
  have V:L.take (k+1)=L.take k++[L[k]]:=by rw[No];simp[m]
  have a7:Ei L=Ei (L.take (k+1))+Ei (L.drop (k+1)):=by unfold Ei;rw[<-Tr.CT,S6]
  have I:Ei (L.take (k+1))=Ei (L.take k)+L[k].n:=by rw[V];unfold Ei;rw[Tr.CT];simp[Tr.sz,Spn.kd]
  obtain⟨p,r,rfl,_,hr,hc,rfl⟩:=T.get m;refine AT m (Ah (vs:=L[k].cells) rfl (fun j u hu=>by rw[Addr.add_add];exact o.cell (hc j u hu) fun h=>h) ?_);refine Bx.new (vs:=L[k].cells) rfl rfl (Spn.one _) fun a8 w7 hb g7 B=>?_;refine Bh (B.cells 0 _ rfl) ?_;rw[BL];refine AF (fun e=>by omega) fun _=>?_;refine Bh (B.cells 0 _ rfl) ?_;rw[Aq,wrap64 (by omega) (by omega),AQ,AO (by omega)];refine⟨⟨k+1,m,?_,o.trans g7⟩,by rw[BD,BD];omega⟩;rw[I];congr 2
  omega
 .have hW:=h.grow o;refine AA (ER Hs hW) ?_;rintro _ _ ⟨rfl,rfl⟩;rename World=>W1
  obtain⟨q1,q2⟩:=Sj (l:=l) (L:=L) (i:=i) (j:=j) (by omega) q X;refine AA (Iz (Xn (g:=DJ)) hW (by omega) (J.mod o (fun _ _ _ h=>h) (by decide) fun _ _ h=>h) hS q (by omega) (bq (by omega)) (bq (l:=Spn.kd.CB l i j L) (by omega)) (bq (l:=(Spn.kd.split l i).1.getLast?.toList++L++(Spn.kd.split (Spn.kd.split l i).2 (j-i)).2.head?.toList) (by omega))) ?_;rintro _ ak ⟨F',k1,k2,k3,k4⟩;have:=o.size;exact⟨trivial,F',k1,fun x hx=>(k2 x hx).imp (fun h=>h) fun h=>by omega,k3,(o.mono fun _ _ h=>h.elim).trans k4⟩
def ND{l:List Ck}(h:(Bg l).length<=1099511627776):Dy Az.toAvT l:=⟨by show Tr.sz Ck.kd.μ l<=_;rw[Gf];exact h,by show Tr.mk Ck.kd.μ l<=_;rw[O2];exact lV (Dl _) h⟩
def JS{i j:Nat}{n:Nat}(m:i<=j)(o:j<=n):QT (i:Int) (j:Int) (n:Int)=0:=by
 unfold QT;rw[Bq (by omega),Bq (by omega),Bq (by omega)]
section
variable {F:Nat->Prop}{W:World}{b bt N:Nat}{l:List Ck}
def XJ(h:Di Az.toAvT F GJ W b bt l N):AB prog 54 [.pointer (some ⟨b,0,none⟩)] (fun v' w'=>v'=zI ((Bg l).length:Int)/\Grow W w') W:=by
 refine AA (Me Em h) ?_;rintro _ w ⟨rfl,g⟩;refine⟨?_,g⟩;rw[show Tr.sz Az.toAvT.k.μ l=(Bg l).length from Gf l]
def K3(h:Di Az.toAvT F GJ W b bt l N):AB prog 45 [.pointer (some ⟨b,0,none⟩)] (fun v' w'=>v'=zI (BX (Bg l):Int)/\Grow W w') W:=by
 apply gY;refine DS (AS ?_);refine AA (ER Em h) ?_;rintro _ _ ⟨rfl,rfl⟩;rename World=>W
 obtain⟨A,T,h1,i,o,rfl,q⟩:=h.EH;apply Qu;unfold VV;refine AI ?_;obtain⟨c,pl,fr,j⟩:=id h1;refine Bh (j.box.cells 4 _ rfl) ?_;refine AA (CE h1 i) ?_;rintro _ B ⟨rfl,m⟩;refine CL (vs:=[_,_,_]) (by rfl) (CL (vs:=[_,_,_]) (by rfl) (CL (vs:=[_,_,_]) (by rfl) ⟨?_,m⟩));rw[show Tr.mk Az.toAvT.k.μ T.toL=BX (Bg T.toL) from O2 _]
def NU{i:Nat}(h:Di Az.toAvT F GJ W b bt l N)(hi:i<=(Bg l).length)(m:(Bg l).length<=1099511627776) :
  AB prog 53 [.pointer (some ⟨b,0,none⟩),zI (i:Int)] (fun v' w'=>v'=.tuple #[zI (BX ((Bg l).take i):Int),zI 0]/\Grow W w') W:=by
 apply VA;refine AA (Jg Em h) ?_;rintro _ o ⟨rfl,j⟩;rw[show Tr.sz Az.toAvT.k.μ l=(Bg l).length from Gf l,JS (Mp _) hi,Bk];refine AY (fun _=>?_) fun e=>(e rfl).elim;refine AA (ER Em (h.grow j)) ?_;rintro _ _ ⟨rfl,rfl⟩;rename World=>o
 obtain⟨A,T,h1,q,I,rfl,J⟩:=(h.grow j).EH;refine AA (Qg h1 q (by omega) (ND m)) ?_;rintro _ w2 ⟨rfl,B⟩;exact⟨rfl,j.trans B⟩
def MV(rs:List Int)(k:Nat):Value:=if BX rs<k then .tuple #[.int .i64 0,.int .i64 5] else if k=0 then .tuple #[.int .i64 0,.int .i64 0] else match HJ rs (k-1) with
 |some p=>.tuple #[.int .i64 ((p+1:Nat):Int),.int .i64 0]
 |none=>undef
def K6{k:Nat}(h:Di Az.toAvT F GJ W b bt l N)(j:(Bg l).length<=1099511627776) :
  AB prog 46 [.pointer (some ⟨b,0,none⟩),zI (k:Int)] (fun v' w'=>v'=MV (Bg l) k/\Grow W w') W:=by
 apply di;have O:=Dl (Bg l);refine AV (fun _ W'=>Grow W W'/\0<k/\k<=BX (Bg l)) ?_ ?_
 .rintro _ m ⟨i,o,hk⟩ _;refine AA (ER Em (h.grow i)) ?_;rintro _ _ ⟨rfl,rfl⟩;rename World=>m
  obtain⟨k,rfl⟩:∃q,k=q+1:=⟨k-1,by omega⟩;obtain⟨p,hp,B⟩:=OU (l:=Bg l) (k:=k) (by omega);obtain⟨A,T,h1,I,Q,rfl,U⟩:=(h.grow i).EH;rw[Aq,wrap64 (by omega) (by omega),show(((k+1:Nat):Int)-1)=(k:Int) by omega];refine AA (au h1 I (by omega) (ND j) hp) ?_;rintro _ w2 ⟨rfl,J⟩;refine BO ?_;rw[AQ,wrap64 (by omega) (by omega)];refine⟨?_,i.trans J⟩;unfold MV;rw[Bq (by omega),Bq (by omega),pH,hp];rfl
 .refine DS (AS ?_);rw[Am];refine AF (fun e=>by omega) fun _=>?_;refine AA (K3 h) ?_;rintro _ V ⟨rfl,i⟩;rw[BL];refine AF (fun e=>⟨by unfold MV;rw[DN (by omega)],i⟩) fun e=>?_;rw[Aj];refine AF (fun e0=>⟨by unfold MV;rw[Bq (by omega),DN (by omega)],i⟩) fun e0=>?_;exact⟨i,by omega,by omega⟩
def XO(l:List Ck)(i j:Nat):Bg (Ck.kd.over l i j)=((Bg l).take j).drop i:=Gx.over l i j
def PQ(t l:List Ck){i j:Nat}(m:i<=j):Bg (Ck.kd.CB t i j l)=(Bg t).take i++Bg l++(Bg t).drop j:=Gx.CB t l m
def NS(l L:List Ck)(i j:Nat):(Bg ((Ck.kd.split l i).1.getLast?.toList++L++(Ck.kd.split (Ck.kd.split l i).2 (j-i)).2.head?.toList)).length<=(Bg l).length+(Bg L).length:=by
 have q:=kZ List.length (Gx.split l i).1;have B:=kZ List.length (Gx.split l i).2;have a3:=kZ List.length (Gx.split (Ck.kd.split l i).2 (j-i)).2;have I:∀m:List Ck,(Bg m.getLast?.toList).length<=(Bg m).length:=fun m=>by
  rcases lK m with rfl|⟨o,y,rfl⟩
  .exact Mp _
  .simp[Bg]
 have J:∀m:List Ck,(Bg m.head?.toList).length<=(Bg m).length:=fun m=>by
  cases m with
  |nil=>exact Mp _
  |cons y m=>simp[Bg]
 have h1:=I (Ck.kd.split l i).1;have O:=J (Ck.kd.split (Ck.kd.split l i).2 (j-i)).2;have e:∀a b c:List Ck,(Bg (a++b++c)).length=(Bg a).length+(Bg b).length+(Bg c).length:=fun a b c=>by simp[Bg];omega
 rw[e];rw[Lc] at q;rw[I3] at B a3;show(Bg _).length+_+(Bg _).length<=_;unfold Bg at *;omega
def TY{i j:Nat}(h:Di Az.toAvT F GJ W b bt l N)(Y:N<=109951162000)(m:i<=j)(J:j<=(Bg l).length)(O:(Bg l).length<=1099511627776) :
  AB prog 88 [.pointer (some ⟨b,0,none⟩),zI (i:Int),zI (j:Int)] (fun v' w'=>v'=zI 0/\∃F' q,(∀x,F x->F' x)/\(∀x,F' x->F x\/W.heap.size<=x)/\Di Az.toAvT F' GJ w' b bt q (N+4)/\Bg q=(Bg l).take i++(Bg l).drop j/\Mod F W w') W:=by
 apply gq;refine AA (Jg Em h) ?_;rintro _ Q ⟨rfl,o⟩;rw[show Tr.sz Az.toAvT.k.μ l=(Bg l).length from Gf l,JS m J,Bk];refine AY (fun _=>?_) fun e=>(e rfl).elim;have B:=h.grow o;refine AA (ER Em B) ?_;rintro _ _ ⟨rfl,rfl⟩;rename World=>Q
 have I:=PQ l [] m;have Z:=NS l [] i j;have e0:(Bg []).length=0:=rfl;refine AA (Iz (Xn (g:=Az)) (L:=[]) (S:=fun _=>False) B (by simp only[lG];omega) BB.nil (fun _ h=>h.elim) m (by omega) (ND O) (ND (l:=Ck.kd.CB l i j []) (by rw[I];simp[Bg] at *;omega)) (ND (l:=(Ck.kd.split l i).1.getLast?.toList++[]++(Ck.kd.split (Ck.kd.split l i).2 (j-i)).2.head?.toList) (by omega))) ?_;rintro _ T ⟨F',k1,k2,U,V⟩;have:=o.size;refine⟨rfl,F',_,k1,fun x X=>(k2 x X).imp (fun h=>h) fun h=>by omega,U,?_,(o.mono fun _ _ h=>h.elim).trans V⟩;show Bg (Ck.kd.CB l i j [])=_;rw[I];simp[Bg]
def Uo{i j:Nat}(h:Di Az.toAvT F GJ W b bt l N)(hN:N<=109951162000)(ax:i<=j)(hj:j<=(Bg l).length)(hs:(Bg l).length<=1099511627776)(hl:l.length<=109951162777) :
  AB prog 47 [.pointer (some ⟨b,0,none⟩),zI (i:Int),zI (j:Int)] (fun v' w'=>∃rv,v'=.tuple #[rv,zI 0]/\AE W.heap.size 21 1 Bz w' rv (((Bg l).take j).drop i)/\Grow W w') W:=by
 apply fH;refine Bx.zero fun c w1 hc g1 B=>?_;have ba:=B.lt (by decide);have h1:=h.grow g1;have h0:=h;refine AA (Jg Em h1) ?_;rintro _ w2 ⟨rfl,g2⟩;rw[show Tr.sz Az.toAvT.k.μ l=(Bg l).length from Gf l,JS ax hj,Bk];refine AY (fun _=>?_) fun e=>(e rfl).elim;have hW:=h1.grow g2;refine AA (ER Em hW) ?_;rintro _ _ ⟨rfl,rfl⟩;rename World=>w2
 obtain⟨A,T,t1,t2,t3,rfl,t5⟩:=hW.EH;refine AA (SI (g:=Az) t1 (by omega) t2 t3 (ND hs) (by omega) (by omega)) ?_;rintro _ O ⟨ay,vals,Rd,rfl,g6,b0,b1,Ir,a7⟩;generalize hX:Ck.kd.over T.toL i j=X at *;have b2:vals.length=X.length:=by rw[<-hX];exact b0
 have a8:Bg X=((Bg T.toL).take j).drop i:=by rw[<-hX];exact XO _ _ _
 have Q:∀m (h1:m<vals.length) (h2:m<X.length),vals[m]=.agg X[m].cells.toArray:=fun m q1 q2=>by
  subst hX;obtain⟨r,e1,e2⟩:=b1 m q1 q2;rw[e1,TI];have e3:r=Ck.cells (Ck.kd.over T.toL i j)[m]:=e2;rw[e3]
 have bd:(Bg X).length<=1099511627776:=by rw[a8,I3,Lc];omega
 have z1:=g1.size;have z2:=g2.size;have z6:=g6.size;have B6:=(B.grow g2).grow g6;refine Hr ⟨True,_,ay,_,_,_,rfl,by kernel_rfl,a7,fun k _=>rfl,?_⟩;refine⟨fun k U W'=>∃out,XM 21 1 Bz O.heap.size c O.heap.size U W' out (Bg (X.take k))/\Mod (fun x=>x=c) O W'/\k<=X.length,fun _ _ _=>False,⟨_,⟨B6,AE.nil,fun g o=>nomatch o⟩,Mod.refl _ _,Nn _⟩,?_,fun x U b6 W W' h=>h.elim,?_,?_,?_,fun x U W h=>h.elim⟩
 .rintro k U b6 W' bk ⟨out,q,m,hk⟩ hm I;have hn:∀x,x<O.heap.size->¬((¬True/\U x)\/x=O.heap.size\/x=O.heap.size+1):=fun x Q=>by rintro(⟨h,_⟩|h|h);exact h trivial;all_goals omega
  refine⟨out,⟨q.box.mod hm (hn c (by omega)),AE.mod q.row hm (fun g o=>?_) fun _ _ _ h=>h,fun g o=>?_⟩,m.next hm fun x Q=>?_,hk⟩
  .obtain⟨_,h2,h3,_⟩:=q.hc g o;rintro(⟨h,_⟩|h|h)
   .exact h trivial
   .exact h2 h
   .exact h3 h
  .obtain⟨h1,h2,h3,h4⟩:=q.hc g o;refine⟨h1,h2,h3,fun h=>?_⟩;rcases(I g h).1 with h|h
   .exact h4 h
   .have:=(AE.Ax q.row g o).2;omega
  .intro e;exact absurd e (hn x Q)
 .rintro k U W' ⟨out,q,m,hk⟩ b hb hr;exact m.same b hb fun e=>by
   subst e;rcases(Ir b hr).1 with h|h|h
   .have:=h0.lt b (.inl h.1);omega
   .exact h.elim
   .omega
 .rintro k U W' hk ⟨out,q,m,bl⟩ hz I;have V:k<X.length:=by omega
  have Y:(nth [vals.getD k undef] 0)=.agg X[k].cells.toArray:=by
   show vals.getD k undef=_;rw[lj,By hk,oq,Q k hk V]
  rw[Y];have b7:X.take (k+1)=X.take k++[X[k]]:=by rw[No];simp[V]
  have ak:Bg (X.take (k+1))=Bg (X.take k)++X[k].l:=by rw[b7];simp only[Bg,mH,lQ,oI,kK]
  have bb:(Bg (X.take k)).length+X[k].l.length<=(Bg X).length:=by
   have e:Bg X=Bg (X.take (k+1))++Bg (X.drop (k+1)):=by rw[Bg,Bg,Bg,<-mH,S6]
   rw[e,ak,Bp,Bp];omega
  refine Bx.new (vs:=X[k].cells) (Ck.len _) rfl (Ck.one _) fun b5 W5 bn g5 B5=>?_;refine KV g5 hz I (fun _ _ h=>h.elim) fun W6 J=>?_;have z5:=g5.size;have bp:=J.size;have bc:=q.box.lt (S3 _);have b8:=B5.lt (by rw[Ck.len];omega);have C6:=(q.box.grow g5).mod J (by omega);have b9:=B5.mod J (by omega);have o6:AE O.heap.size 21 1 Bz W6 out (Bg (X.take k)):=AE.mod (AE.mod (R':=Bz) q.row g5 (fun _ _ h=>h) fun _ _ _ h=>h) J (fun g o=>(q.hc g o).2.2.1) fun _ _ _ h=>h;have gd:Grow W6 W6.drew:=Mod.drew _ _;have zd:=gd.size;have Cd:=C6.grow gd;have Bd:=b9.grow gd;refine Af (fun k y=>(k=3/\out.ownBlock=some y)\/(k=4/\y=c)) ?_;refine AU ⟨Cd.cells 0 _ rfl,fun j hj e=>?_⟩ ?_
  .have al:j∈[2]:=hj;simp only[P9] at al;subst al;rcases e with e|e
   .exact absurd e.1 (by decide)
   .exact absurd e.1 (by decide)
  refine Ch (Ck.len _) (fun j u hu=>⟨by rw[AH];exact Bd.cells j u hu,fun j hj=>(kU (show j∈[] from hj)).elim⟩) ?_;refine AA (Xi X[k]) ?_;rintro xv W7 ⟨ox,g7⟩;refine⟨g7.mono fun _ _ h=>h.elim,?_⟩;have z7:=g7.size;have o7:AE O.heap.size 21 1 Bz W7 out (Bg (X.take k)):=AE.mod (AE.mod (R':=Bz) o6 gd (fun _ _ h=>h) fun _ _ _ h=>h) g7 (fun _ _ h=>h) fun _ _ _ h=>h;obtain⟨an,W8,r1,o8,r3,n8⟩:=AE.append (P:=prog) (ty:=80) Ih o7 (AE.sl ox) (fun _ _=>Bz.one) (by omega) (by omega) (by simp only[maxLen];omega) fun _ _ _ _ h=>h;refine Ae r1 ?_;have m8:=Mod.of_grownBy r3;have z8:=m8.size;refine⟨m8.mono fun _ _ e=>.inl ⟨rfl,e⟩,?_⟩;have C8:=((Cd.grow g7).mod m8 fun e=>(q.hc c e).1 rfl);obtain⟨Z,a1⟩:=o8.one;refine C8.st (q:=0) (show 0<1 by decide) Z a1 fun W9 C9 m9=>⟨m9.mono fun _ _ e=>.inr ⟨rfl,e⟩,?_⟩;have z9:=m9.size;have av:Mod (fun x=>x=c\/out.ownBlock=some x) W6 W9:=(((gd.trans g7).mono fun _ _ h=>h.elim).trans (m8.mono fun _ _ e=>.inr e)).trans (m9.mono fun _ _ e=>.inl e);refine⟨NZ av (by omega) (fun b hb=>by have:=(I b hb).1;omega) (fun b _ e=>?_),an,⟨C9,?_,fun g o=>?_⟩,?_,by omega⟩
  .rcases e with rfl|e
   .exact⟨fun h=>by have:=(I b h).2;omega,by omega,by omega⟩
   .obtain⟨h1,h2,h3,h4⟩:=q.hc b e;exact⟨h4,h2,h3⟩
  .rw [ak];exact AE.mod o8 m9 (fun g o e=>by
    rcases n8 g o with h|h
    .exact(q.hc g h).1 e
    .omega) fun _ _ _ h=>h
  .rcases n8 g o with h|h
   .exact q.hc g h
   .refine⟨by omega,by omega,by omega,fun hI=>by have:=(I g hI).1;omega⟩
  .refine((m.next g5 fun _ _ h=>h.elim).next J fun x Q e=>by omega).next av fun x Q e=>?_;rcases e with e|e
   .exact e
   .have:=(AE.Ax q.row x e).1;omega
 .rintro U W' ⟨out,q,m,hk⟩ _ hz hd;refine AL (q.box.cells 0 _ rfl) ?_;obtain⟨Z,a1⟩:=q.row.one;refine q.box.st (q:=0) (show 0<1 by decide) Z a1 fun W1 C1 m1=>?_;refine⟨?_,?_⟩
  .rw[m1.same _ (by omega) (by omega)];exact hd
  have a6:Mod (fun b=>b=O.heap.size) W1 (W1.putObj O.heap.size (.deferred none)):=Mod.putObj _ _ _ rfl;have C2:=C1.mod a6 (by omega);refine AL (C2.cells 0 _ rfl) ⟨_,rfl,?_,?_⟩
  .rw[b2,PF,a8] at q;refine AE.base (AE.mod (AE.mod (R':=Bz) q.row m1 (fun g o=>(q.hc g o).1) fun _ _ _ h=>h) a6 (fun g o=>(q.hc g o).2.1) fun _ _ _ h=>h) fun g o=>?_;have:=(AE.Ax q.row g o).1;omega
  .exact((((g1.trans g2).trans g6).next m fun x Q e=>by omega).next m1 fun x Q e=>by omega).next a6 fun x Q e=>by omega
end
end Go.Proofs.YtmdhibffnkhcnaaGreatDoor
