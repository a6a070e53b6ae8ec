/- parts of the proof, written short by a program of ours -/
import Derived.Test.YtbdjachmndlplaaGreatDoorZEngineNone1
import Derived.MapKept
import Derived.Test.YtbdjachmndlplaaGreatDoorRows
import Derived.Lib.LaidU8
import Derived.Lib.LaidIn
import Derived.LaidHandle
import Derived.LaidMore
import Derived.MakeChecks
import Derived.Laws.BytesArg
import Derived.Laws.IdiomStrings
import Derived.Lib.Zigzag
import Derived.Shelf.GgSortFunc.InsertionK
import Derived.Shelf.SlSortCmp.WholeK
import Derived.Shelf.SlSortCmp.NoneTotal
set_option maxRecDepth 100000
set_option linter.unusedSimpArgs false
set_option linter.unusedVariables false
set_option linter.defProp false
namespace Go.Proofs.YtbdjachmndlplaaGreatDoor
open Go Proofs.Tryz
variable {j e B:Nat}{w W W' w' w0:World}{S M:Nat->Prop}{v sv:Value}{cs:List Value}{α:Type}{ty:TypeId}{K:Cont}{ks:List DKey}{P:Program}{yo xo:Operand}
def CH(i:Int):Nat:=if i<194 then 0 else if i<224 then 2 else if i<240 then 3 else if i<245 then 4 else 0
def Jb(i:Int):Int:=if i=224 then 160 else if i=240 then 144 else 128
def JK(i:Int):Int:=if i=237 then 159 else if i=244 then 143 else 191
def wrap32{x:Int}(h0:-2147483648<=x)(h1:x<2147483648):IntKind.i32.wrap x=x:=by
 have i:(2:Int) ^ IntKind.i32.bits=4294967296:=by decide
 have j:(2:Int) ^ (IntKind.i32.bits-1)=2147483648:=by decide
 simp only[IntKind.wrap,i,j,IntKind.signed,pG,jD];split<;>omega
def FB{b:List Int}{i k:Nat}{c r:Int}(hc:b[i]?=some c)(h0:0<=r)(h1:r<16777216)(c0:0<=c)(c1:c<256):Ht b (k+1) i r=if c<128\/191<c then none else Ht b k (i+1) (r*64+c-128):=by
 simp only[Ht,hc];rw[wrap32 (x:=r*64) (by omega) (by omega),wrap32 (x:=c) (by omega) (by omega),wrap32 (x:=r*64+c) (by omega) (by omega),wrap32 (x:=r*64+c-128) (by omega) (by omega)]
def XT{i:Int}(h0:240<=i)(h1:i<256):Cz i=some (4,i-240):=by
 unfold Cz;rw[DN h0,wrap32 (x:=i) (by omega) (by omega),wrap32 (by omega) (by omega)]
def dE{i:Int}(h0:224<=i)(h1:i<240):Cz i=some (3,i-224):=by
 unfold Cz;rw[Bp (by omega),DN h0,wrap32 (x:=i) (by omega) (by omega),wrap32 (by omega) (by omega)]
def Wf{i:Int}(h0:192<=i)(h1:i<224):Cz i=some (2,i-192):=by
 unfold Cz;rw[Bp (by omega),Bp (by omega),DN h0,wrap32 (x:=i) (by omega) (by omega),wrap32 (by omega) (by omega)]
def L0{i:Int}{t:List Int}(h0:0<=i)(h1:i<128):Ct (i::t)=(i,1):=by
 have j:Cz i=some (1,i):=by
  unfold Cz;rw[Bp (by omega),Bp (by omega),Bp (by omega),Bp (by omega),wrap32 (by omega) (by omega)]
 unfold Ct;rw[Nr,j];simp only[gD,Ht,p5];rw[Bp (by omega),DN ⟨by unfold EK;omega,by unfold IT;rw[DN h1]⟩]
def DS{i:Int}{t:List Int}(h1:i<256)(h:(i::t).length<CH i):Ct (i::t)=(0,0):=by
 unfold Ct;rw[Nr];unfold CH at h;split at h
 .omega
 split at h
 .rw[Wf (by omega) (by omega)];simp only;rw[DN h]
 split at h
 .rw[dE (by omega) (by omega)];simp only;rw[DN h]
 split at h
 .rw[XT (by omega) (by omega)];simp only;rw[DN h]
 .omega
def Td{b:List Int}:∀{k i:Nat} {r x:Int},Ht b k i r=some x->(∀y∈b,0<=y/\y<256)->0<=r->r*64 ^ k<1073741824->k<=3->r*64 ^ k<=x/\x<=r*64 ^ k+64 ^ k-1:=by
 intro k;induction k with
 |zero=>intro i r x h _ _ _ _;simp only[Ht] at h;cases h;simp
 |succ k q=>
  intro i r x h hb h0 h1 hk;cases hc:b[i]? with
  |none=>simp[Ht,hc] at h
  |some c=>
   have m:=hb c (lz.2 ⟨i,hc⟩);have e:(64:Int) ^ (k+1)=64*64 ^ k:=by rw[Int.pow_succ];omega
   rw[e] at h1;have hp:(1:Int)<=64 ^ k:=by
    rcases(show k=0\/k=1\/k=2 by omega) with rfl|rfl|rfl<;>decide
   have o:r*(64*64 ^ k)=(r*64)*64 ^ k:=by rw[Int.mul_assoc]
   rw[o] at h1;have hr:r*64<=r*64*64 ^ k:=by
    have:=Int.mul_le_mul_of_nonneg_left hp (show 0<=r*64 by omega);omega
   rw[FB hc h0 (by omega) m.1 m.2] at h;split at h
   .cases h
   .rename_i B;have I:(r*64+c-128)*64 ^ k=r*64*64 ^ k+(c-128)*64 ^ k:=by rw[show r*64+c-128=r*64+(c-128) by omega,Int.add_mul]
    have J:(c-128)*64 ^ k<=63*64 ^ k:=qJ (by omega) (by omega);have O:0<=(c-128)*64 ^ k:=Int.mul_nonneg (by omega) (by omega);have Q:(64:Int) ^ k<=4096:=by
     rcases(show k=0\/k=1\/k=2 by omega) with rfl|rfl|rfl<;>decide
    by_cases j:(r*64+c-128)*64 ^ k<1073741824
    .have:=q h hb (by omega) j (by omega);rw[e,o];omega
    .exfalso;rw[I] at j;have U:r*64*64 ^ k<=1073741824-64*64 ^ k:=by
      rcases(show k=0\/k=1\/k=2 by omega) with rfl|rfl|rfl
      .simp only[Int.pow_zero] at *;omega
      .simp only[Int.pow_one] at *;omega
      .rw[show(64:Int) ^ 2=4096 by decide] at *;omega
     omega
def QX{i:Int}{t:List Int}(hb:∀y∈i::t,0<=y/\y<256)(h0:128<=i)(h:CH i=0):Ct (i::t)=(0,0):=by
 have h1:=(hb i lb).2;have hc:i<194\/245<=i:=by
  unfold CH at h
  (repeat' split at h)<;>omega
 unfold Ct;rw[Nr];by_cases q:i<192
 .have o:Cz i=none:=by
   unfold Cz;rw[Bp (by omega),Bp (by omega),Bp (by omega),DN h0]
  rw[o]
 by_cases B:i<194
 .rw[Wf (by omega) (by omega)];simp only;split
  .rfl
  .split
   .rfl
   .rename_i x j;have:=Td j hb (by omega) (by omega) (by omega);rw[Bp];rintro⟨_,m⟩;unfold IT at m;rw[DN (by omega)] at m;omega
 .rw[XT (by omega) (by omega)];simp only;split
  .rfl
  .split
   .rfl
   .rename_i x j;have:=Td j hb (by omega) (by omega) (by omega);rw[Bp];rintro⟨hm,_⟩;unfold EK at hm;omega
def ZJ{j c1:Int}{t:List Int}(h:CH j=2)(c0:0<=c1)(c2:c1<256) :
  Ct (j::c1::t)=if Jb j<=c1/\c1<=JK j then((j-192)*64+(c1-128),2) else(0,0):=by
 have hb:194<=j/\j<224:=by
  unfold CH at h
  (repeat' split at h)<;>omega
 have hl:Jb j=128:=by unfold Jb;rw[Bp (by omega),Bp (by omega)]
 have m:JK j=191:=by unfold JK;rw[Bp (by omega),Bp (by omega)]
 unfold Ct;rw[Nr,Wf (by omega) (by omega)];simp only;rw[Bp (by simp),FB (b:=j::c1::t) (i:=1) (c:=c1) rfl (by omega) (by omega) c0 c2,hl,m];by_cases hc:c1<128\/191<c1
 .rw[DN hc,Bp (by omega)]
 .rw[Bp hc,DN (by omega)];simp only[Ht];rw[DN ⟨by unfold EK;omega,by unfold IT;rw[Bp (by omega),DN (by omega)]⟩];congr 1;omega
def Yp{j c1 c2:Int}{t:List Int}(h:CH j=3)(c0:0<=c1)(o:c1<256)(J:0<=c2)(q:c2<256) :
  Ct (j::c1::c2::t)=if(Jb j<=c1/\c1<=JK j)/\128<=c2/\c2<=191 then((j-224)*4096+(c1-128)*64+(c2-128),3) else(0,0):=by
 have hb:224<=j/\j<240:=by
  unfold CH at h
  (repeat' split at h)<;>omega
 have hl:Jb j=if j=224 then 160 else 128:=by
  unfold Jb;split
  .rfl
  .rw[Bp (by omega)]
 have O:JK j=if j=237 then 159 else 191:=by
  unfold JK;split
  .rfl
  .rw[Bp (by omega)]
 unfold Ct;rw[Nr,dE (by omega) (by omega)];simp only;rw[Bp (by simp),FB (b:=j::c1::c2::t) (i:=1) (c:=c1) rfl (by omega) (by omega) c0 o,hl,O];by_cases hc:c1<128\/191<c1
 .rw[DN hc,Bp];rintro⟨⟨h1,B⟩,_⟩;split at h1<;>split at B<;>omega
 rw[Bp hc,FB (b:=j::c1::c2::t) (i:=2) (c:=c2) rfl (by omega) (by omega) J q];by_cases I:c2<128\/191<c2
 .rw[DN I,Bp (by omega)]
 rw[Bp I];simp only[Ht];by_cases ha:((if j=224 then(160:Int) else 128)<=c1/\c1<=(if j=237 then(159:Int) else 191))
 .have Q:=(show(_/\128<=c2/\c2<=191) from⟨ha,by omega⟩);rw[DN Q,DN]
  .congr 1;omega
  .obtain⟨h1,B⟩:=ha;refine⟨?_,?_⟩
   .unfold EK;split at h1<;>split at B<;>omega
   .unfold IT;rw[Bp (by split at h1<;>omega),Bp (by split at h1<;>omega),DN (by omega)]
 .rw[Bp (λx:(_/\128<=c2/\c2<=191)=>ha x.1),Bp];rintro⟨hm,m⟩;apply ha;unfold EK at hm;have:¬(j-224)*64*64+(c1-128)*64+c2-128<2048:=by
   intro U;unfold IT at m;split at m
   .cases m
   .split at m
    .cases m
    .omega
  constructor
  .split<;>omega
  .split<;>omega
def YO{j c1 c2 m:Int}{t:List Int}(h:CH j=4)(c0:0<=c1)(q:c1<256)(Q:0<=c2)(B:c2<256)(e0:0<=m)(I:m<256) :
  Ct (j::c1::c2::m::t)=if(Jb j<=c1/\c1<=JK j)/\(128<=c2/\c2<=191)/\128<=m/\m<=191 then((j-240)*262144+(c1-128)*4096+(c2-128)*64+(m-128),4) else(0,0):=by
 have hb:240<=j/\j<245:=by
  unfold CH at h
  (repeat' split at h)<;>omega
 have hl:Jb j=if j=240 then 144 else 128:=by unfold Jb;rw[Bp (by omega)]
 have U:JK j=if j=244 then 143 else 191:=by unfold JK;rw[Bp (by omega)]
 unfold Ct;rw[Nr,XT (by omega) (by omega)];simp only;rw[Bp (by simp),FB (b:=j::c1::c2::m::t) (i:=1) (c:=c1) rfl (by omega) (by omega) c0 q,hl,U];by_cases hc:c1<128\/191<c1
 .rw[DN hc,Bp];rintro⟨⟨h1,J⟩,_⟩;split at h1<;>split at J<;>omega
 rw[Bp hc,FB (b:=j::c1::c2::m::t) (i:=2) (c:=c2) rfl (by omega) (by omega) Q B];by_cases O:c2<128\/191<c2
 .rw[DN O,Bp (by omega)]
 rw[Bp O,FB (b:=j::c1::c2::m::t) (i:=3) (c:=m) rfl (by omega) (by omega) e0 I];by_cases he:m<128\/191<m
 .rw[DN he,Bp (by omega)]
 rw[Bp he];simp only[Ht];by_cases ha:((if j=240 then(144:Int) else 128)<=c1/\c1<=(if j=244 then(143:Int) else 191))
 .have V:=(show(_/\(128<=c2/\c2<=191)/\128<=m/\m<=191) from⟨ha,by omega⟩);rw[DN V,DN]
  .congr 1;omega
  .obtain⟨h1,J⟩:=ha;refine⟨?_,?_⟩
   .unfold EK;split at h1<;>split at J<;>omega
   .unfold IT;rw[Bp (by split at h1<;>omega),Bp (by split at h1<;>omega),Bp (by split at h1<;>omega)]
 .rw[Bp (λx:(_/\(128<=c2/\c2<=191)/\128<=m/\m<=191)=>ha x.1),Bp];rintro⟨hm,o⟩;apply ha;unfold EK at hm;have:¬((j-240)*64+(c1-128))*64*64+(c2-128)*64+m-128<65536:=by
   intro X;unfold IT at o;split at o
   .cases o
   .split at o
    .cases o
    .split at o
     .cases o
     .omega
  constructor
  .split<;>omega
  .split<;>omega
def JN{b:List Int}(hb:b≠[]):(Bf b).isSome=(decide ((Ct b).2≠0)&&(Bf (b.drop (Ct b).2)).isSome):=by
 rw[NQ hb];by_cases h:(Ct b).2=0
 .simp[h]
 .simp[h]
def OT:Bf ([]:List Int)=some []:=by simp[Bf,KD]
def SN:∀{k:Nat} {b:List Int},k<=b.length->(∀j x,j<k->b[j]?=some x->0<=x/\x<128)->(Bf b).isSome=(Bf (b.drop k)).isSome:=by
 intro k;induction k with
 |zero=>intro b _ _;rw[mz]
 |succ k i=>
  intro b hk h;cases b with
  |nil=>simp at hk
  |cons m t=>
   have h0:=h 0 m (by omega) rfl;rw[JN (by simp),L0 h0.1 h0.2];simp only[nN];simp only[ne_eq,Nat.one_ne_zero,not_false_eq_true,decide_true,pG,mz];exact i (by simpa using hk) λj x q o=>h (j+1) x (by omega) o
def RR(W:World)(c:Array Value)(t:TypeId)(fr:Nat×Nat)(i:Nat):(W.alloc (.cells c t fr)).cell? ⟨W.heap.size,i,none⟩=c[i]?:=by
 have h:(W.alloc (.cells c t fr)).heap[W.heap.size]?=some (.cells c t fr):=px W _;unfold World.cell?;simp only[h];rfl
def Pj{s:ByteArray}(J:s.size*4<=140737488355328)(q:∀v w',Grow w w'->Bv (λ_=>True) w' v (Bm s)->K v w'):runK prog (convert 9 23 (.string s)) K w:=by
 refine⟨_,_,run_bytes_of_string w _ _ 5 s (by kernel_rfl) (by kernel_rfl) (by kernel_rfl),q _ _ ((Mod.drew (λ_=>False) w).trans (Mod.alloc _ _ _)) ?_⟩;have hl:(Bm s).length=s.size:=by simp[Bm]
 have hm:s.size<=maxLen:=by simp only[maxLen];omega
 refine⟨_,_,by rw[hl],by rw[hl];exact rY _ _ _ _,pZ _ _ _ _ hm,λi x m=>⟨_,[.int .u8 x],rfl,trivial,rfl,λj u hu=>?_,rfl⟩⟩;have B:j=0:=by have:=(Ad.1 hu).1;simp at this;exact this
 subst B;simp at hu;subst hu;rw[AI,oI,lf];have hi:=(Ad.1 m).1;rw[hl] at hi;have o:x=((s.data[i]'hi).toNat:Int):=by
  simp only[Bm,ly,mS] at m;rw[pU hi] at m;simpa using m.symm
 subst o;have I:i<s.data.size:=hi;refine(RR w.drew _ _ _ i).trans ?_;simp[bytesRow,rR,hi]
def GR(f:Int):Prop:=9218868437227405312<f.tmod 9223372036854775808
instance (f:Int):Decidable (GR f):=by unfold GR;infer_instance
def GX:ByteArray:=ByteArray.mk #[]
def DT(v:As):Prop:=(v.kind=1/\v=⟨1,v.n,0,GX⟩/\(v.n=0\/v.n=1))\/(v.kind=2/\v=⟨2,v.n,0,GX⟩)\/(v.kind=3/\v=⟨3,0,v.f,GX⟩/\(¬GR v.f\/v.f=9221120237041090560))\/
 (v.kind=4/\v=⟨4,0,0,v.s⟩/\v.s.size<=64/\(Bf (Bm v.s)).isSome=true)
instance (v:As):Decidable (DT v):=by unfold DT;infer_instance
def As.one(v:As):∀u∈v.cells,u.oneCell'=true:=by
 intro u hu;simp only[As.cells,Mp,l9,nw] at hu;rcases hu with rfl|rfl|rfl|rfl<;>rfl
def DKey.zero:DKey:=⟨0,false,0,false,false,0⟩
def BK(i:List DKey)(id:Int):Option DKey:=i.find? λk=>decide (k.id=id)
def Gy(i:List DKey)(id:Int)(v:As):Prop:=∃k,BK i id=some k/\DT v/\v.kind=k.kind
def SG(n:Nat):(FloatKind.f64.format.order n n != some .eq)=decide (GR (n:Int)):=by
 have h1:Ieee.double.signWeight=9223372036854775808:=by decide
 have j:Ieee.double.infRung=9218868437227405312:=by decide
 have m:Ieee.double.binade=4503599627370496:=by decide
 have o:GR (n:Int)↔9218868437227405312<n%9223372036854775808:=by
  unfold GR;rw[Int.tmod_eq_emod_of_nonneg (by omega)];omega
 have i:∀x:Int,compare x x=.eq:=λx=>by simp[compare,compareOfLessAndEq]
 have q:∀x:Nat,compare x x=.eq:=λx=>by simp[compare,compareOfLessAndEq]
 rw[show decide (GR (n:Int))=decide (9218868437227405312<n%9223372036854775808) from qK.2 o];show((Ieee.double.read n).order (Ieee.double.read n) != some .eq)=_;unfold Ieee.Format.read;simp only[h1,j,m];split
 .rename_i B;have:¬9218868437227405312<n%9223372036854775808:=by omega
  simp only[Ieee.Datum.order,i,lh this];rfl
 .split
  .have:¬9218868437227405312<n%9223372036854775808:=by omega
   simp only[Ieee.Datum.order,i,lh this];rfl
  .split
   .have:¬9218868437227405312<n%9223372036854775808:=by omega
    simp only[Ieee.Datum.order,q,lh this];rfl
   .have:9218868437227405312<n%9223372036854775808:=by omega
    simp only[Ieee.Datum.order,lq this];rfl
def Im(x:Int):Prop:=0<=x/\x<18446744073709551616
def Mr(a b:Int):Int:=((a.toNat ||| b.toNat:Nat):Int)
def Fi{x:Int}(h:Im x):IntKind.u64.wrap x=x:=by
 have i:(2:Int) ^ IntKind.u64.bits=18446744073709551616:=by decide
 unfold Im at h;simp only[IntKind.wrap,i,IntKind.signed,qA];rw[Bp (by decide)];omega
def iN{a b:Int}(ha:Im a)(hb:Im b):((BitVec.ofInt 64 a ||| BitVec.ofInt 64 b).toNat:Int)=Mr a b:=by
 unfold Im at ha hb;unfold Mr;rw[BitVec.toNat_or,nH,nH];have e:((2 ^ 64:Nat):Int)=18446744073709551616:=by decide
 rw[e,ni ha.1 ha.2,ni hb.1 hb.2]
def bv_and{a b:Int}(ha:Im a)(hb:Im b):((BitVec.ofInt 64 a &&& BitVec.ofInt 64 b).toNat:Int)=((a.toNat &&& b.toNat:Nat):Int):=by
 unfold Im at ha hb;rw[BitVec.toNat_and,nH,nH];have e:((2 ^ 64:Nat):Int)=18446744073709551616:=by decide
 rw[e,ni ha.1 ha.2,ni hb.1 hb.2]
def EY{a b:Int}(ha:Im a)(hb:Im b):Im (Mr a b):=by
 unfold Im at *;unfold Mr;have:a.toNat ||| b.toNat<2 ^ 64:=Nat.or_lt_two_pow (by omega) (by omega)
 omega
def VO(x:Int)(j:Nat):Prop:=x.toNat.testBit (8*j+7)=true
def VO.l{a b:Int}(h:VO a j):VO (Mr a b) j:=by
 unfold VO Mr at *;rw[mH,Nat.testBit_or,h,Bool.true_or]
def VO.r{a b:Int}(h:VO b j):VO (Mr a b) j:=by
 unfold VO Mr at *;rw[mH,Nat.testBit_or,h,Bool.or_true]
def YV{x:Int}(i:j<8)(h0:128<=x)(h1:x<256):Im (x*2 ^ (8*j))/\VO (x*2 ^ (8*j)) j:=by
 obtain⟨n,rfl⟩:∃n:Nat,x=n:=⟨x.toNat,by omega⟩;have e:((n:Int)*2 ^ (8*j))=((n*2 ^ (8*j):Nat):Int):=by rw[Int.natCast_mul,Int.natCast_pow];rfl
 have hp:n*2 ^ (8*j)<2 ^ (8+8*j):=by
  rw[Nat.pow_add];exact qd (by omega) (Nat.pow_pos (by decide))
 have m:2 ^ (8+8*j)<=2 ^ 64:=rh (by decide) (by omega);refine⟨?_,?_⟩
 .rw[e];unfold Im;omega
 .rw[e];unfold VO;rw[mH,Nat.testBit_mul_two_pow];simp only[show 8*j<=8*j+7 by omega,decide_true,pG,show 8*j+7-8*j=7 by omega];rw[Nat.testBit_eq_decide_div_mod_eq];rw[jD];omega
def X5{x:Int}(i:j<8)(h0:0<=x)(h1:x<256):Im (x*2 ^ (8*j)):=by
 obtain⟨n,rfl⟩:∃n:Nat,x=n:=⟨x.toNat,by omega⟩;have e:((n:Int)*2 ^ (8*j))=((n*2 ^ (8*j):Nat):Int):=by rw[Int.natCast_mul,Int.natCast_pow];rfl
 have hp:n*2 ^ (8*j)<2 ^ (8+8*j):=by
  rw[Nat.pow_add];exact qd (by omega) (Nat.pow_pos (by decide))
 have m:2 ^ (8+8*j)<=2 ^ 64:=rh (by decide) (by omega);rw[e];unfold Im;omega
def XS{x:Int}(h:x.toNat &&& 9259542123273814144=0)(m:j<8):¬VO x j:=by
 intro i;unfold VO at i;have:(x.toNat &&& 9259542123273814144).testBit (8*j+7)=true:=by
  rw[Nat.testBit_and,i,pG];rcases(show j=0\/j=1\/j=2\/j=3\/j=4\/j=5\/j=6\/j=7 by omega) with rfl|rfl|rfl|rfl|rfl|rfl|rfl|rfl<;>decide
 rw[h,Nat.zero_testBit] at this;cases this
def Es{t e k:Nat}{i:TypeInfo}{a:Option Addr}{n c j:Nat}(ht:P.underlying t=some (.slice e))(hi:P.info? e=some i)(hk:i.size=k)(o:j<=n)(w:World):(Instr.sliceAt t (.slice a n c) (some (zI j)) none none).run P w=.ok (sliced a j n c k) w:=by
 have m:P.elem t=e:=by simp[Program.elem,ht]
 rw[nS _ _ _ _ _ _ (by rw[m];exact ht),run_slice_l _ _ _ _ _ (by rw[m];exact ht) _ _ (by omega) (by omega),m];simp[sizeOf,typeInfo,hi,hk]
def LD{k:Nat}{R:World->List Value->α->Prop}{a:Option Addr}{n c:Nat}{l:List α}(h:An S k R w (.slice a n c) l)(Q:j<=l.length):An S k R w (sliced a j n c k) (l.drop j):=by
 obtain⟨U,V,o,h1,X,B⟩:=h;cases o;unfold sliced;refine⟨_,_,by rw[Hy],by rw[Hy];omega,by omega,λq x i=>?_⟩;rw[mM] at i;obtain⟨p,r,rfl,I,hr,hc,J⟩:=B _ x i;have O:=(Ad.1 i).1;rw[Bp (by omega)];refine⟨p.add (j*k),r,rfl,by rw[Ac];exact I,hr,λm u hu=>?_,J⟩;rw[Addr.add_add,<-mo,<-mC];exact hc m u hu
def NU{t e k:Nat}{i:TypeInfo}{a:Option Addr}{n c:Nat}(ht:P.underlying t=some (.slice e))(hi:P.info? e=some i)(hk:i.size=k)(hc:n<=c)(w:World):∃m,(Instr.sliceAt t (.slice a n c) none (some (zI n)) (some (zI n))).run P w=.ok (.slice m n n) w/\(0<n->m=a):=by
 have j:P.elem t=e:=by simp[Program.elem,ht]
 refine⟨if n=0 then a else a.map (·.add (0*k)),?_,λh=>?_⟩
 .rw[nS _ _ _ _ _ _ (by rw[j];exact ht)];simp[Instr.slice,run_underlying ht,Instr.sliceBounds,run_sliceBound,hc,sizeOf,typeInfo,hi,hk,Result.andThen]
 .rw[Bp (by omega)];cases a with
  |none=>rfl
  |some a=>simp[Addr.add]
def Hv{t e n s:Nat}{i:TypeInfo}{k:IntKind}{a:Addr}{j:Int}(ht:P.underlying t=some (.array n e))(hi:P.info? e=some i)(m:i.size=s)(h0:0<=j)(h1:j<n):(Instr.indexAt t (.pointer (some a)) (.int k j)).run P w=.ok (.pointer (some (a.add (j.toNat*s)))) w:=by
 simp[Instr.indexAt,Instr.sureAddr,run_underlying ht,asIntOf,sizeOf,typeInfo,hi,m,h0,h1,Result.andThen]
def EG{s d:TypeId}{q k:IntKind}{n:Int}(w:World)(i:(P.underlying s).isSome=true)(j:P.underlying d=some (.int k)):(convert s d (.int q n)).run P w=.ok (.int k (k.wrap n)) w:=by
 obtain⟨e,he⟩:=lD.mp i;simp[convert,run_underlying he,run_underlying j,Conv.intToInt]
def Tl{t:TypeId}{k q:IntKind}{a:Int}{n:Nat}(w:World)(i:n<=k.bits):(Di .shl t xo yo (.int k a) (.int q n)).run P w=.ok (.int k (k.wrap (a*2 ^ n))) w:=by
 have h0:¬((n:Int)<0):=by omega
 simp[Di,eqGuard,binOp,Op.shift,lQ i,h0]
def Lg{t:TypeId}{k q:IntKind}{a:Int}{n:Nat}(w:World)(i:n<=k.bits):(Di .shr t xo yo (.int k a) (.int q n)).run P w=.ok (.int k (a.fdiv (2 ^ n))) w:=by
 have h0:¬((n:Int)<0):=by omega
 simp[Di,eqGuard,binOp,Op.shift,lQ i,h0]
def KR{t:TypeId}{k:IntKind}{a b:Int}(w:World):(Di .or t xo yo (.int k a) (.int k b)).run P w=.ok (.int k (k.wrap (BitVec.ofInt k.bits a ||| BitVec.ofInt k.bits b).toNat)) w/\(Di .and t xo yo (.int k a) (.int k b)).run P w=.ok (.int k (k.wrap (BitVec.ofInt k.bits a &&& BitVec.ofInt k.bits b).toNat)) w:=by
 constructor<;>simp[Di,eqGuard,binOp,Op.intBits]
def Du{t:TypeId}{a b:Int}(w:World)(ha:Im a)(hb:Im b):(Di .or t xo yo (.int .u64 a) (.int .u64 b)).run prog w=.ok (.int .u64 (Mr a b)) w:=by
 rw[(KR w).1];have e:((BitVec.ofInt IntKind.u64.bits a ||| BitVec.ofInt IntKind.u64.bits b).toNat:Int)=Mr a b:=iN ha hb;rw[e,Fi (EY ha hb)]
def K6{t:TypeId}{a b:Int}(w:World)(ha:Im a)(hb:Im b):(Di .and t xo yo (.int .u64 a) (.int .u64 b)).run prog w=.ok (.int .u64 ((a.toNat &&& b.toNat:Nat):Int)) w:=by
 rw[(KR w).2];have e:((BitVec.ofInt IntKind.u64.bits a &&& BitVec.ofInt IntKind.u64.bits b).toNat:Int)=((a.toNat &&& b.toNat:Nat):Int):=bv_and ha hb;rw[e,Fi ⟨by omega,?_⟩];have:=Nat.and_le_left (n:=a.toNat) (m:=b.toNat);have:=ha.2;have:=ha.1;omega
def ZQ(x:Int)(j:Nat):Int:=x*2 ^ (8*j)
def HO(b:List Int):Int:=Mr (Mr (Mr (Mr (Mr (Mr (Mr (b.getD 0 0) (ZQ (b.getD 1 0) 1)) (ZQ (b.getD 2 0) 2)) (ZQ (b.getD 3 0) 3)) (ZQ (b.getD 4 0) 4)) (ZQ (b.getD 5 0) 5)) (ZQ (b.getD 6 0) 6)) (ZQ (b.getD 7 0) 7)
abbrev Bj(b:List Int):Prop:=∀x∈b,0<=x/\x<256
def Bj.getD{b:List Int}(h:Bj b)(j:Nat):0<=b.getD j 0/\b.getD j 0<256:=by
 rw[mP];cases e:b[j]? with
 |none=>simp
 |some x=>exact h x (lz.2 ⟨j,e⟩)
def Bj.drop{b:List Int}(h:Bj b)(j:Nat):Bj (b.drop j):=λx i=>h x (ky i)
def Ot{x:Int}(h:0<=x/\x<256):Im x:=⟨h.1,by omega⟩
def HY{b:List Int}(h:Bj b):Im (HO b):=by
 have u:∀j,j<8->Im (ZQ (b.getD j 0) j):=λj i=>X5 i (h.getD j).1 (h.getD j).2;unfold HO;exact EY (EY (EY (EY (EY (EY (EY (Ot (h.getD 0)) (u 1 (by decide))) (u 2 (by decide))) (u 3 (by decide))) (u 4 (by decide))) (u 5 (by decide))) (u 6 (by decide))) (u 7 (by decide))
def YH{b:List Int}(h:Bj b)(m:j<8)(o:128<=b.getD j 0):VO (HO b) j:=by
 have i:=(YV m o (h.getD j).2).2;unfold HO;rcases(show j=0\/j=1\/j=2\/j=3\/j=4\/j=5\/j=6\/j=7 by omega) with rfl|rfl|rfl|rfl|rfl|rfl|rfl|rfl
 .rw[show b.getD 0 0*2 ^ (8*0)=b.getD 0 0 by omega] at i;exact .l (.l (.l (.l (.l (.l (.l i))))))
 .exact .l (.l (.l (.l (.l (.l (.r i))))))
 .exact .l (.l (.l (.l (.l (.r i)))))
 .exact .l (.l (.l (.l (.r i))))
 .exact .l (.l (.l (.r i)))
 .exact .l (.l (.r i))
 .exact .l (.r i)
 .exact .r i
def E3{C:World->Prop}{p:Addr}{n c:Nat}{b:Int}{m:Int}{k:Value->Prop}(J:j<n)(hm:m=8*j)(i:j<8)(hb:0<=b/\b<256)(hc:∀w,C w->w.cell? (p.add (j*1))=some (.int .u8 b))(hk:k (.int .u64 (ZQ b j))) :
  Ip 1 (.slice (some p) n c) (zI j) λo=>HS C o λB=>IX prog C (convert 5 52 B) λI=>IX prog C (Di .shl 52 xo yo I (.int .u64 m)) k:=by
 refine AS J (Aw hc ⟨.int .u64 (IntKind.u64.wrap b),λw _=>EG (k:=.u64) w (by kernel_rfl) (by kernel_rfl),?_⟩);rw[Fi (Ot hb)];subst hm;refine⟨_,λw _=>?_,hk⟩;have e:=Tl (P:=prog) (t:=52) (xo:=xo) (yo:=yo) (k:=.u64) (q:=.u64) (a:=b) (n:=8*j) w (by show 8*j<=64;omega);rw[Fi (X5 i hb.1 hb.2)] at e;have O:((8*j:Nat):Int)=8*(j:Int):=by omega
 rw[O] at e;exact e
def TP{b:List Int}(h:Bv S w v b)(hb:Bj b)(hl:8<=b.length) :
  AB prog 183 [v] (λv' w'=>v'=.int .u64 (HO b)/\Grow w w') w:=by
 refine uS1 (dB 1664153 [] []) func183 (λ_ _ _=>⟨by conv=>lhs;reduce,by dsimp only[PI,AF],by kernel_rfl⟩) ?_;unfold uI;obtain⟨a,c,rfl,hm⟩:=h.shape;have cell:∀j (i:j<b.length),∃p,a=some p/\w.cell? (p.add (j*1))=some (.int .u8 (b.getD j 0)):=by
  intro j i;obtain⟨p,r,rfl,_,hr,hc,rfl⟩:=h.get i;refine⟨p,rfl,?_⟩;rw[mP,Bq i];exact hc 0 _ rfl
 obtain⟨p,rfl,c0⟩:=cell 0 (by omega);have m:∀j,j<b.length->w.cell? (p.add (j*1))=some (.int .u8 (b.getD j 0)):=λj i=>by obtain⟨U,e,hc⟩:=cell j i;cases e;exact hc
 refine Cv (λw2=>Grow w w2) (Mod.drew _ _) ?_;have hc:∀j,j<b.length->∀w2,Grow w w2->w2.cell? (p.add (j*1))=some (.int .u8 (b.getD j 0)):=λj i w2 g=>g.cell (m j i) λh=>h;have u:∀j,j<8->Im (ZQ (b.getD j 0) j):=λj i=>X5 i (hb.getD j).1 (hb.getD j).2;refine AS (j:=0) (by omega) (Aw (hc 0 (by omega)) ⟨.int .u64 (IntKind.u64.wrap (b.getD 0 0)),λw _=>EG (k:=.u64) w (by kernel_rfl) (by kernel_rfl),?_⟩);rw[Fi (Ot (hb.getD 0))];have o:=Ot (hb.getD 0);refine E3 (j:=1) (by omega) rfl (by decide) (hb.getD 1) (hc 1 (by omega)) ⟨_,λw _=>Du w o (u 1 (by decide)),?_⟩;have q:=EY o (u 1 (by decide));refine E3 (j:=2) (by omega) rfl (by decide) (hb.getD 2) (hc 2 (by omega)) ⟨_,λw _=>Du w q (u 2 (by decide)),?_⟩;have B:=EY q (u 2 (by decide));refine E3 (j:=3) (by omega) rfl (by decide) (hb.getD 3) (hc 3 (by omega)) ⟨_,λw _=>Du w B (u 3 (by decide)),?_⟩;have I:=EY B (u 3 (by decide));refine E3 (j:=4) (by omega) rfl (by decide) (hb.getD 4) (hc 4 (by omega)) ⟨_,λw _=>Du w I (u 4 (by decide)),?_⟩;have J:=EY I (u 4 (by decide));refine E3 (j:=5) (by omega) rfl (by decide) (hb.getD 5) (hc 5 (by omega)) ⟨_,λw _=>Du w J (u 5 (by decide)),?_⟩;have O:=EY J (u 5 (by decide));refine E3 (j:=6) (by omega) rfl (by decide) (hb.getD 6) (hc 6 (by omega)) ⟨_,λw _=>Du w O (u 6 (by decide)),?_⟩;have Q:=EY O (u 6 (by decide));refine E3 (j:=7) (by omega) rfl (by decide) (hb.getD 7) (hc 7 (by omega)) ⟨_,λw _=>Du w Q (u 7 (by decide)),?_⟩;exact λw2 g=>⟨rfl,g⟩
def ET{b:List Int}(hb:Bj b)(h:((HO b).toNat &&& 9259542123273814144:Nat)=0)(i:j<8):b.getD j 0<128:=by
 have:=XS h i;have m:¬128<=b.getD j 0:=λm=>this (YH hb i m);omega
def Nc{α:Type}(key:α->Int)(l:List α)(n:Nat):Prop:=∀i,1<=i->i<n->∀a b,l[i-1]?=some a->l[i]?=some b->key a<key b
abbrev jX(l:List Attr):Prop:=Nc Attr.key l l.length
abbrev jS(l:List Chg):Prop:=Nc Chg.key l l.length
def KZ(l:List Attr):Prop:=¬jX l\/64<l.length\/∃a∈l,¬DT a.val
def G8(i:List DKey)(l:List Attr):Prop:=∃a∈l,¬Gy i a.key a.val
open Classical in
noncomputable def BY(i:List DKey)(l:List Attr):Int:=if KZ l then 3 else if G8 i l then 4 else 0
def As.zero:As:=⟨0,0,0,GX⟩
def L3(p:List Chg):Prop:=¬jS p\/64<p.length\/∃c∈p,(c.gone=true/\c.val≠As.zero)\/(c.gone=false/\¬DT c.val)
def HR(i:List DKey)(p:List Chg):Prop:=∃c∈p,BK i c.key=none\/(c.gone=false/\¬Gy i c.key c.val)
open Classical in
noncomputable def Db(i:List DKey)(p:List Chg):Int:=if L3 p then 3 else if HR i p then 4 else 0
def D8(k:DKey):Prop:=1<=k.id/\k.id<=1000/\1<=k.kind/\k.kind<=4/\0<=k.group/\k.group<=8/\(k.block=false->k.group=0)/\(k.block=true->k.before=false)
def fE(m:List DKey)(n:Nat):Prop:=∀i,i<n->∀k,m[i]?=some k->D8 k/\∀j,j<i->∀o,m[j]?=some o->o.id≠k.id
def Ep(i:List DKey):Prop:=i.length<=64/\fE i i.length
def kE(l:List Attr):Nat:=(l.map λa=>a.val.s.size).sum
def jv(l:List Chg):Nat:=(l.map λa=>a.val.s.size).sum
def TW(l:List Attr):IE l=l.length+kE l:=by
 induction l with
 |nil=>rfl
 |cons a l i=>simp only[IE,kE,lO,nf,gD,LQ] at i ⊢;omega
def cA(l:List Chg):JJ l=l.length+jv l:=by
 induction l with
 |nil=>rfl
 |cons a l i=>simp only[JJ,jv,lO,nf,gD,QF] at i ⊢;omega
def Ik{l:List Dop}{o:Dop}(h:o∈l):Eu o<=Aq l:=by
 induction l with
 |nil=>simp at h
 |cons a l i=>
  have e:Aq (a::l)=Eu a+Aq l:=by simp[Aq]
  rcases Mp.1 h with rfl|h
  .omega
  .have:=i h;omega
def Dv(l:List Dop):l.length<=Aq l:=by
 induction l with
 |nil=>exact Nn _
 |cons a l i=>simp only[Aq,lO,nf,gD,Eu] at i ⊢;omega
def RZ(l:List Dop)(k:Nat):Aq (l.take k)<=Aq l:=by
 have:Aq l=Aq (l.take k)+Aq (l.drop k):=by
  conv=>lhs;rw[<-TC k l]
  simp only[Aq,kZ,List.sum_append]
 omega
def J0(w:World)(b:Nat)(l:List (Int×Value)):Prop:=∃j i,w.heap[b]?=some (.map j i)/\j.toList.map (λe=>(e.key,e.val))=l.map λp=>(zI p.1,p.2)
def J0.lt{b:Nat}{l:List (Int×Value)}(h:J0 w b l):b<w.heap.size:=by
 obtain⟨i,c,hb,_⟩:=h;exact(mZ.1 hb).1
def J0.mod{b:Nat}{l:List (Int×Value)}(h:J0 w b l)(hm:Mod M w w')(hb:¬M b):J0 w' b l:=by
 have hl:=h.lt;obtain⟨i,c,h1,j⟩:=h;exact⟨i,c,(hm.same b hl hb).trans h1,j⟩
def J0.make(w:World):J0 (w.alloc (.map #[] 0)) w.heap.size []:=⟨#[],0,(MapKept.heap_alloc w _).1,rfl⟩
def LF(k:Int):∀(o:List MapEntry) (l:List (Int×Value)) (i:Nat),(o.map λe=>(e.key,e.val))=(l.map λp=>(zI p.1,p.2))->
  ∃r,Instr.findNow (.int .i64) (zI k) o i=some r/\((r=none/\l.find? (λp=>decide (p.1=k))=none)\/∃j p,r=some (j,p.2)/\l.find? (λp=>decide (p.1=k))=some p):=by
 intro o;induction o with
 |nil=>
  intro l i h;cases l with
  |nil=>exact⟨none,rfl,.inl ⟨rfl,rfl⟩⟩
  |cons p l=>simp at h
 |cons e o q=>
  intro l i h;cases l with
  |nil=>simp at h
  |cons p l=>
   simp only[lO,np,Prod.mk.injEq] at h;obtain⟨⟨h1,B⟩,I⟩:=h;obtain⟨r,hr,m⟩:=MapKept.sameNow_of_keys (d:=.int .i64) (a:=zI k) (b:=e.key) rfl (by rw[h1];rfl);rw[h1] at m;cases r with
   |true=>
    have hk:k=p.1:=by have:=m.1 rfl;simpa using this
    exact⟨some (i,e.val),by simp[Instr.findNow,hr],.inr ⟨i,p,by rw[B],by simp[hk]⟩⟩
   |false=>
    have hk:¬p.1=k:=λe=>by have:=m.2 (by rw[e]);cases this
    obtain⟨r,J,O⟩:=q l (i+1) I;refine⟨r,by simp[Instr.findNow,hr,J],?_⟩;simpa[rM,hk] using O
def Yb(k:Int):MapKept.IsKey (.int .i64) (zI k):=rfl
def Lz{t kt et:TypeId}{z:Value}{b:Nat}{l:List (Int×Value)}(ht:P.underlying t=some (.map kt et))(hk:P.underlying kt=some (.int .i64))(q:(zeroValue et).run P w=.ok z w)(h:J0 w b l)(k:Int) :
  (Instr.lookup t (.map (some b)) (zI k) true).run P w=.ok (.tuple #[((l.find? λp=>decide (p.1=k)).map (·.2)).getD z,.bool (l.find? λp=>decide (p.1=k)).isSome]) w:=by
 obtain⟨B,m,hb,he⟩:=h;obtain⟨r,h1,i⟩:=LF k B.toList l 0 he;have o:=nk (w:=w) hk h1;have hc:=λem=>oY (w:=w) hk (Yb k) em 9999;rcases i with⟨rfl,i⟩|⟨j,p,rfl,i⟩
 .simp[Instr.lookup,run_underlying ht,nJ hb,hc,o,q,Result.andThen,i]
 .simp[Instr.lookup,run_underlying ht,nJ hb,hc,o,Result.andThen,i]
def R7{t kt et:TypeId}{b:Nat}{l:List (Int×Value)}(ht:P.underlying t=some (.map kt et))(hk:P.underlying kt=some (.int .i64))(h:J0 w b l)(k:Int)(v:Value)(o:l.find? (λp=>decide (p.1=k))=none) :
  ∃w',(Instr.mapUpdate t (.map (some b)) (zI k) v).run P w=.ok () w'/\J0 w' b (l++[(k,v)])/\Mod (λx=>x=b) w w':=by
 obtain⟨q,i,hb,he⟩:=h;obtain⟨r,h1,m⟩:=LF k q.toList l 0 he;have B:=nk (w:=w) hk h1;have hc:=λem=>oY (w:=w) hk (Yb k) em 9999;rcases m with⟨rfl,m⟩|⟨j,p,rfl,m⟩
 .refine⟨{ w with heap:=w.heap.setIfInBounds b (.map (q.push ⟨zI k,v,i⟩) (i+1)) },by simp[Instr.mapUpdate,run_underlying ht,nJ hb,hc,B,oz _ hb,Result.andThen],⟨_,_,(qL hb).1,?_⟩,⟨rfl,rfl,rfl,by simp,λx _ I=>(qL hb).2 x I⟩⟩;simp[he]
 .rw[m] at o;cases o
def CY{a:Addr}{K:Bool->Prop}(h:K false):Ge (.pointer (some a)) K:=⟨_,rfl,h⟩
def AL{A B:Prop}(h:B):AZ (.bool false) A B:=h
def AQ{A B:Prop}(h:A):AZ (.bool true) A B:=h
def AG{a:Addr}{K:Value->Prop}(h:K (.pointer (some a))):Af (.pointer (some a)) K:=⟨_,rfl,h⟩
def Yz:Ch prog 61 60 6 24:=⟨Tryz.t60,.agg #[zI 0,.bool false,.int .u8 0,.bool false,.bool false,zI 0],by kernel_rfl,by kernel_rfl,by kernel_rfl,by kernel_rfl,by kernel_rfl,by rfl,by decide⟩
def Px:Ch prog 115 3 1 8:=⟨Tryz.t3,zI 0,by kernel_rfl,by kernel_rfl,by kernel_rfl,by kernel_rfl,by kernel_rfl,by rfl,by decide⟩
open Classical in
def bK{k:DKey}:AB prog 93 [.agg k.cells.toArray] (λv' w'=>v'=.bool (decide (D8 k))/\Grow w w') w:=by
 refine uS1 (dB 8759849305 [([3],[(3,21)])] []) func93 (λ_ _ _=>⟨by conv=>lhs;reduce,by dsimp only[PI,AF],by kernel_rfl⟩) ?_;unfold uI;refine DC λb o _ _ g hc _=>?_;have J:=hc 0 _ rfl;have l1:=hc 1 _ rfl;have l2:=hc 2 _ rfl;have X:=hc 4 _ rfl;have B:=hc 5 _ rfl;simp only[AH];have i:∀q:Bool,(q=true↔D8 k)->Value.bool q=.bool (decide (D8 k))/\Grow w o:=λq h=>⟨by congr 1;rw[oE,h,jD],g⟩;refine AR (λvs w2=>w2=o/\∃q:Bool,vs=[.bool q]/\(q=false↔1<=k.id/\k.id<=1000/\1<=k.kind/\k.kind<=4)) ?_ ?_
 .rintro vs _ ⟨rfl,q,rfl,O⟩ _;rename World=>o
  rw[BQ,Nr];cases q with
  |true=>exact AQ (i false ⟨λh=>(nomatch h),λh=>by have:=O.2 ⟨h.1,h.2.1,h.2.2.1,h.2.2.2.1⟩;cases this⟩)
  |false=>
   obtain⟨h1,j,m,Q⟩:=O.1 rfl;refine AL (AJ l1 ?_);cases hb:k.block with
   |true=>
    refine AQ (AJ X ?_);rw[Ah];cases U:k.before with
    |true=>exact AL (i false ⟨λh=>(nomatch h),λh=>by have:=h.2.2.2.2.2.2.2 hb;rw[U] at this;cases this⟩)
    |false=>
     refine AQ (AJ B ?_);rw[Cu];refine AD (λV=>?_) λV=>i false ⟨λh=>(nomatch h),λh=>by have:=h.2.2.2.2.1;omega⟩;refine AJ B ?_;rw[HT];refine i _ ?_;rw[jD];exact⟨λI=>⟨h1,j,m,Q,V,I,(λe=>by rw[hb] at e;cases e),λ_=>U⟩,λh=>h.2.2.2.2.2.1⟩
   |false=>
    refine AL (AJ B ?_);rw[Aa];refine i _ ?_;rw[jD];exact⟨λI=>⟨h1,j,m,Q,by omega,by omega,λ_=>I,λe=>by rw[hb] at e;cases e⟩,λh=>h.2.2.2.2.2.2.1 hb⟩
 .refine AJ J ?_;rw[Ai];refine AD (λh1=>⟨rfl,true,rfl,⟨λh=>(nomatch h),λh=>by omega⟩⟩) λh1=>?_;refine AJ J ?_;rw[BE];refine AD (λj=>⟨rfl,true,rfl,⟨λh=>(nomatch h),λh=>by omega⟩⟩) λj=>?_;refine AJ l2 ?_;rw[Ai];refine AD (λm=>⟨rfl,true,rfl,⟨λh=>(nomatch h),λh=>by omega⟩⟩) λm=>?_;refine AJ l2 ?_;rw[BE];refine⟨rfl,_,rfl,?_⟩;rw[mR];exact⟨λh=>by omega,λh=>by omega⟩
def UZ{l:List DKey}(h:TV S w v l)(hl:l.length<=1099511627776) :
  AB prog 92 [v] (λv' w'=>AE w.heap.size 60 6 Gv w' v' l/\Grow w w') w:=by
 refine uS1 (dB 267353 [] []) func92 (λ_ _ _=>⟨by conv=>lhs;reduce,by dsimp only[PI,AF],by kernel_rfl⟩) ?_;unfold uI;exact Ib (K:=λv' w'=>AE w.heap.size 60 6 Gv w' v' l/\Grow w w') Yz h (by omega) (λ_ _ _=>Gv.one) (λ_ _ _ _ _ _ h=>h) λ_ _ h g=>⟨h,g⟩
def KO(a b:Int):Int:=if a<b then -1 else if b<a then 1 else 0
def WO{a b:Int}:AB prog 96 [zI a,zI b] (λv' w'=>v'=zI (KO a b)/\w'=w) w:=by
 have i:∀(c:Int) (K:Cont),K (.bool false) w->AB prog 176 [zI c] K w:=by
  intro c K m;refine uS1 (dB 9 [] []) func176 (λ_ _ _=>⟨by conv=>lhs;reduce,by dsimp only[PI,AF],by kernel_rfl⟩) ?_;unfold uI;rw[BL];rw[show(!decide (c=c))=false by simp];exact m
 refine uS2 (dB 19727107414108913642837577 [] []) func96 (λ_ _ _ _=>⟨by conv=>lhs;reduce,by dsimp only[PI,AF],by kernel_rfl⟩) ?_;unfold uI;refine i _ _ (i _ _ ?_);refine AL (AL ?_);rw[Ai];unfold KO;refine AD (λh=>⟨by rw[DN h],rfl⟩) λh=>?_;rw[BE];exact AD (λj=>⟨by rw[Bp h,DN j],rfl⟩) λj=>⟨by rw[Bp h,Bp j],rfl⟩
def CK(D:Nat->Prop)(w:World)(v:Value)(ks:List DKey):Prop:=
 ∃b m i l,v=.pointer (some ⟨b,0,none⟩)/\D b/\D m/\w.cell? ⟨b,0,none⟩=some i/\w.cell? ⟨b,1,none⟩=some (.map (some m))/\An D 6 Gv w i ks/\J0 w m l/\
  ∀id:Int,(l.find? λp=>decide (p.1=id)).map (·.2)=(BK ks id).map λk=>.agg k.cells.toArray
def CK.mod{D M:Nat->Prop}(h:CK D w v ks)(hm:Mod M w w')(i:∀b,b<w.heap.size->D b->¬M b):CK D w' v ks:=by
 obtain⟨b,m,B,l,rfl,h1,j,o,I,J,q,O⟩:=h;have hb:=lU w _ o;exact⟨b,m,B,l,rfl,h1,j,hm.cell o (i _ hb h1),hm.cell I (i _ hb h1),J.mod hm i (by decide) λ_ _ h=>h,q.mod hm (i _ q.lt j),O⟩
def CK.grow{D:Nat->Prop}(h:CK D w v ks)(hm:Grow w w'):CK D w' v ks:=h.mod hm λ_ _ _ h=>h
def CK.sub{D D':Nat->Prop}(h:CK D w v ks)(i:∀b,b<w.heap.size->D b->D' b):CK D' w v ks:=by
 obtain⟨b,m,q,l,rfl,h1,B,j,I,J,o,O⟩:=h;exact⟨b,m,q,l,rfl,i _ (lU w _ j) h1,i _ o.lt B,j,I,J.sub i (by decide) λ_ _ h=>h,o,O⟩
def Qo(w:World):(zeroValue 60).run prog w=.ok (.agg DKey.zero.cells.toArray) w:=EL (by kernel_rfl) w
def IP{D:Nat->Prop}(h:CK D w v ks)(id:Int) :
  AB prog 129 [v,zI id] (λv' w'=>v'=.tuple #[.agg ((BK ks id).getD DKey.zero).cells.toArray,.bool (BK ks id).isSome]/\Grow w w') w:=by
 refine uS2 (dB 2364505 [] []) func129 (λ_ _ _ _=>⟨by conv=>lhs;reduce,by dsimp only[PI,AF],by kernel_rfl⟩) ?_;unfold uI;obtain⟨b,m,kv,l,rfl,_,_,h3,O,h5,Q,I⟩:=h;refine Bz λb4 w1 U V i _ o=>?_;refine CY (AL (AG ?_));rw[AH];refine AJ (i.cell (by rw[AI];exact O) λh=>h) ?_;refine AX (Lz underlying146 underlying3 (Qo _) (Q.mod i λh=>h) id) ?_;have X:((l.find? λp=>decide (p.1=id)).map (·.2)).getD (.agg DKey.zero.cells.toArray)=.agg ((BK ks id).getD DKey.zero).cells.toArray:=by
  rw[I];cases BK ks id<;>rfl
 have Y:(l.find? λp=>decide (p.1=id)).isSome=(BK ks id).isSome:=by
  have:=lV Option.isSome (I id);simpa using this
 rw[X,Y];refine BI ?_;generalize (BK ks id).getD DKey.zero=k;refine BH (vs:=k.cells) rfl rfl (Gv.one (w:=w) (x:=k) rfl) λb6 w3 Z a1 J q _=>?_;refine AV (vs:=k.cells) rfl q ?_;refine BB rfl (Gv.one (w:=w) (x:=k) rfl) (λj hj=>(o j hj).mod J λh=>h) λw4 m4 B _=>?_;refine AV (vs:=k.cells) rfl B ⟨rfl,?_⟩;exact(i.trans J).next m4 λx hx e=>by omega
abbrev Mn:World->List Value->Int->Prop:=λ_ r x=>r=[zI x]
def Mn.one{r:List Value}{x:Int}(h:Mn w r x):∀u∈r,u.oneCell'=true:=by
 subst h;intro u hu;simp at hu;subst hu;rfl
def firstT(x:Int):Int:=if x<194 then 241 else if x<224 then 2 else if x=224 then 19 else if x=237 then 35 else if x<240 then 3 else if x=240 then 52 else if x<244 then 4 else if x=244 then 68 else 241
def accLo(j:Nat):Int:=if j=1 then 160 else if j=3 then 144 else if j<5 then 128 else 0
def accHi(j:Nat):Int:=if j=2 then 159 else if j=4 then 143 else if j<5 then 191 else 0
structure EA (w:World):Prop where
 size:1<w.heap.size
 first:∀j:Nat,128<=j->j<256->w.cell? ⟨0,j,none⟩=some (.int .u8 (firstT j))
 acc:∀j:Nat,j<16->w.cell? ⟨1,j*2,none⟩=some (.int .u8 (accLo j))/\w.cell? ⟨1,j*2+1,none⟩=some (.int .u8 (accHi j))
def EA.grow(h:EA w)(g:Grow w w'):EA w':=
 ⟨No h.size g.size,λj h1 m=>g.cell (h.first j h1 m) λh=>h,λj i=>⟨g.cell (h.acc j i).1 λh=>h,g.cell (h.acc j i).2 λh=>h⟩⟩
def fV{x:Int}(h0:128<=x)(h1:x<256):∃(f:Int) (z j:Nat),firstT x=f/\0<=f/\f<256/\(f.toNat &&& 7)=z/\f/16=j/\j<16/\(z=CH x\/CH x=0/\z=1)/\(CH x≠0->accLo j=Jb x/\accHi j=JK x):=by
 unfold firstT CH Jb JK;by_cases i:x<194
 .exact⟨241,1,15,by rw[DN i],by decide,by decide,by decide,by decide,by decide,by rw[DN i];exact .inr ⟨rfl,rfl⟩,by rw[DN i];exact λh=>absurd rfl h⟩
 rw[Bp i,Bp i];by_cases m:x<224
 .rw[DN m,DN m];exact⟨2,2,0,rfl,by decide,by decide,by decide,by decide,by decide,.inl rfl,λ_=>⟨by rw[Bp (by omega),Bp (by omega)];rfl,by rw[Bp (by omega),Bp (by omega)];rfl⟩⟩
 rw[Bp m,Bp m];by_cases a3:x=224
 .subst a3;exact⟨19,3,1,rfl,by decide,by decide,by decide,by decide,by decide,.inl rfl,λ_=>⟨rfl,rfl⟩⟩
 rw[Bp a3,Bp a3];by_cases a4:x=237
 .subst a4;exact⟨35,3,2,rfl,by decide,by decide,by decide,by decide,by decide,.inl rfl,λ_=>⟨rfl,rfl⟩⟩
 rw[Bp a4,Bp a4];by_cases a5:x<240
 .rw[DN a5,DN a5];exact⟨3,3,0,rfl,by decide,by decide,by decide,by decide,by decide,.inl rfl,λ_=>⟨by rw[Bp (by omega)];rfl,by rw[Bp (by omega)];rfl⟩⟩
 rw[Bp a5,Bp a5];by_cases o:x=240
 .subst o;exact⟨52,4,3,rfl,by decide,by decide,by decide,by decide,by decide,.inl rfl,λ_=>⟨rfl,rfl⟩⟩
 rw[Bp o,Bp o];by_cases q:x<244
 .rw[DN q,DN (by omega)];exact⟨4,4,0,rfl,by decide,by decide,by decide,by decide,by decide,.inl rfl,λ_=>⟨rfl,by rw[Bp (by omega)];rfl⟩⟩
 rw[Bp q];by_cases B:x=244
 .subst B;exact⟨68,4,4,rfl,by decide,by decide,by decide,by decide,by decide,.inl rfl,λ_=>⟨rfl,rfl⟩⟩
 rw[Bp B,Bp (by omega)];exact⟨241,1,15,rfl,by decide,by decide,by decide,by decide,by decide,.inr ⟨rfl,rfl⟩,λh=>absurd rfl h⟩
def Q3(x:Int):CH x=0\/CH x=2\/CH x=3\/CH x=4:=by
 unfold CH
 (repeat' split)<;>simp
def YX{t:TypeId}{a:Int}{z:Nat}(w:World)(h0:0<=a)(h1:a<256)(i:(a.toNat &&& 7)=z):(Di .and t xo yo (.int .u8 a) (.int .u8 7)).run prog w=.ok (.int .u8 z) w:=by
 rw[(KR w).2];have e:((BitVec.ofInt IntKind.u8.bits a &&& BitVec.ofInt IntKind.u8.bits 7).toNat:Int)=((a.toNat &&& 7:Nat):Int):=by
  show((BitVec.ofInt 8 a &&& BitVec.ofInt 8 7).toNat:Int)=_;rw[BitVec.toNat_and,nH,nH];have e:((2 ^ 8:Nat):Int)=256:=by decide
  rw[e,ni h0 h1];rfl
 have j:z<=7:=i▸Nat.and_le_right;rw[e,i];congr 2
 have m:(2:Int) ^ IntKind.u8.bits=256:=by decide
 simp only[IntKind.wrap,m,IntKind.signed,qA];rw[Bp (by decide)];omega
def TM(v:Value):Nat:=match v with|.slice _ n _=>n|_=>0
def Lf{l:List Int}{k:Nat}(hl:Bj l)(hk:k<=l.length)(h:∀j,j<k->l.getD j 0<128):(Bf l).isSome=(Bf (l.drop k)).isSome:=by
 refine SN hk λj x m i=>?_;have:=h j m;rw[mP,i] at this;exact⟨(hl x (lz.2 ⟨j,i⟩)).1,this⟩
def Iq(l:List Int)(k j:Nat):(l.drop k).getD j 0=l.getD (k+j) 0:=by
 rw[mP,mP,mM]
def GV{a b c:Nat}(h:((a ||| b) &&& c)=0):(a &&& c)=0/\(b &&& c)=0:=by
 rw[Nat.and_or_distrib_right] at h;exact Nat.or_eq_zero_iff.1 h
def PL{n:Nat}(h:((n &&& (9259542123273814144:Int).toNat:Nat):Int)=0):(n &&& 9259542123273814144)=0:=Int.ofNat_inj.1 h
def Xd{b:List Int}(h:Bv S w v b)(hb:Bj b)(hT:EA w) :
  AB prog 102 [v] (λv' w'=>v'=.bool (Bf b).isSome/\Grow w w') w:=by
 refine uS1 (dB 786174255993960325466315242810845819127518314712350898377 [([0],[(0,0),(2,6),(13,187)]),([31],[(23,31)]),([46],[(34,46)]),([0],[(0,0),(49,71)]),([],[(2,2),(85,103)]),([],[(2,2),(108,138)]),([],[(2,2),(143,185)])] []) func102 (λ_ _ _=>⟨by conv=>lhs;reduce,by dsimp only[PI,AF],by kernel_rfl⟩) ?_;unfold uI;have hu:prog.underlying 23=some (.slice 5):=by kernel_rfl
 have hi:prog.info? 5=some Tryz.t5:=by kernel_rfl
 have hs:Tryz.t5.size=1:=by kernel_rfl
 obtain⟨a,c,rfl,hm⟩:=h.shape;obtain⟨_,_,e0,dT,_,_⟩:=id h;cases e0;rw[AO,AO];obtain⟨a',e4,e5⟩:=NU (a:=a) (n:=b.length) (c:=c) hu hi hs dT w;refine AX e4 ?_;have h':Bv S w (.slice a' b.length b.length) b:=by
  obtain⟨_,_,e0,h1,h2,h3⟩:=h;cases e0;refine⟨_,_,rfl,K8 _,hm,λi x hx=>?_⟩;obtain⟨p,r,rfl,q⟩:=h3 i x hx;have:=(Ad.1 hx).1;exact⟨p,r,e5 (by omega),q⟩
 refine AU (λvs W=>∃l v1,vs=[v1]/\Bv S W v1 l/\Bj l/\(Bf b).isSome=(Bf l).isSome/\Grow w W) (λvs _=>TM (nth vs 0)) ⟨b,_,rfl,h',hb,rfl,Mod.refl _ _⟩ ?_;rintro vs W ⟨l,v1,rfl,hl,hB,b7,gW⟩ _;rw[BQ,Nr];obtain⟨p1,c1,rfl,e6⟩:=hl.shape;simp only[maxLen] at e6;rw[AO,BE];refine AD (λbp=>?_) λek=>?_;rotate_left
 .have:l=[]:=Of (by omega);subst this;exact⟨by rw[b7,OT];rfl,gW⟩
 have I:∀{W':World} {v':Value} {U:List Int},Bv S W' v' U->Bj U->(Bf l).isSome=(Bf U).isSome->U.length<l.length->Grow w W'->
   ((∃l v1,[v']=[v1]/\Bv S W' v1 l/\Bj l/\(Bf b).isSome=(Bf l).isSome/\Grow w W')/\TM (nth [v'] 0)<TM (nth [Value.slice p1 l.length c1] 0)):=by
  intro W' v' U h1 h2 h3 h4 h5;obtain⟨q,d,rfl,_⟩:=h1.shape;exact⟨⟨U,_,rfl,h1,h2,b7.trans h3,h5⟩,h4⟩
 have sl:∀{W':World} {q:Option Addr} {n d j:Nat} {U:List Int} {K:Cont},Bv S W' (.slice q n d) U->j<=U.length->(∀v',Bv S W' v' (U.drop j)->K v' W')->runK prog (Instr.sliceAt 23 (.slice q n d) (some (zI j)) none none) K W':=
  λh1 h2 h3=>Fm (e:=5) (i:=Tryz.t5) hu hi hs h1 h2 h3
 have ge:∀{W1 X:World} {v':Value} {U:List Int},Bv S W1 v' U->Grow W1 X->Bv S X v' U:=λh1 g=>h1.grow g (by decide) λ_ _ h=>h;have wq:∀{W1:World} {v':Value} {U:List Int} {K:Value->Prop},Bv S W1 v' U->Bj U->8<=U.length->K (.int .u64 (HO U))->Ml prog (λX=>Grow W1 X) 183 [v'] K:=by
  intro W1 v' U K h1 h2 h3 h4;refine⟨_,λw2 g=>AA (TP (ge h1 g) h2 h3) ?_,h4⟩;rintro _ w3 ⟨rfl,g3⟩;exact⟨rfl,g.trans g3⟩
 obtain⟨x,t,rfl⟩:∃x t,l=x::t:=by cases l with|nil=>simp at bp|cons x t=>exact⟨x,t,rfl⟩
 have hx:=hB x lb;have J:Bj t:=λy hy=>hB y (kx _ hy);obtain⟨p,r,rfl,_,hr,hc,rfl⟩:=hl.get (i:=0) (by simp);have cx:W.cell? (p.add (0*1+0))=some (.int .u8 x):=hc 0 _ rfl;refine AS (j:=0) (by simp) (AJ cx ?_);show GI .u8 (.int .u8 x) _ _;refine G9 (λe7=>?_) λep=>?_
 .have bs:(Bf (x::t)).isSome=(Bf t).isSome:=by
   have:=Lf (l:=x::t) (k:=1) hB (by simp) λj hj=>by
    have:j=0:=by omega
    subst this;exact e7
   simpa using this
  refine sl hl (j:=1) (by simp) λv2 a8=>?_;rw[nN,mz] at a8;obtain⟨q2,d2,rfl,_⟩:=a8.shape;refine AR (λvs X=>Grow W X/\∃q:Bool,vs=[.bool q]/\(q=true->8<=t.length/\∀j,j<8->t.getD j 0<128)) ?_ ?_
  .rintro vs X ⟨g2,q,rfl,hq⟩ _;rw[BQ,Nr];cases q with
   |false=>exact AL (I (ge a8 g2) J bs (by simp) (gW.trans g2))
   |true=>
    obtain⟨h8,e8⟩:=hq rfl;refine AQ (sl (ge a8 g2) (j:=8) h8 λv3 O=>?_);have Q:Bj (t.drop 8):=Bj.drop J 8;have b2:(Bf (x::t)).isSome=(Bf (t.drop 8)).isSome:=bs.trans (Lf J h8 e8);have bx:(t.drop 8).length<(x::t).length:=by simp;omega
    generalize t.drop 8=l3 at O Q b2 bx;obtain⟨q3,d3,rfl,_⟩:=O.shape;refine AR (λvs W3=>Grow W W3/\Grow X W3/\∃q:Bool,vs=[.bool q]/\(q=true->16<=l3.length/\∀j,j<16->l3.getD j 0<128)) ?_ ?_
    .rintro vs W3 ⟨g3,bZ,q,rfl,hq⟩ _;rw[BQ,Nr];cases q with
     |false=>exact AL (I (ge O bZ) Q b2 bx (gW.trans g3))
     |true=>
      obtain⟨b8,c4⟩:=hq rfl;refine AQ (sl (ge O bZ) (j:=16) b8 λv4 e9=>?_);refine AU (λvs W4=>∃l4 v5,vs=[v5]/\Bv S W4 v5 l4/\Bj l4/\(Bf (x::t)).isSome=(Bf l4).isSome/\l4.length<(x::t).length/\Grow W W4) (λvs _=>TM (nth vs 0))
       ⟨_,_,rfl,e9,Bj.drop Q 16,b2.trans (Lf Q b8 c4),by simp only[Hy];omega,g3⟩ ?_
      rintro vs W4 ⟨l4,v5,rfl,a7,o,b9,c6,g4⟩ _;rw[BQ,Nr];obtain⟨q5,d5,rfl,_⟩:=a7.shape;refine Cv (λW'=>Grow W4 W') (Mod.drew _ _) ?_;rw[AO,BE];refine AD (λer=>?_) λ_=>λW' g'=>I (ge a7 g') o b9 c6 (gW.trans (g4.trans g'));have en:32<l4.length:=by omega
      have run:=λ(j:Nat) (hj:j<=l4.length) (w':World)=>Es (a:=q5) (n:=l4.length) (c:=d5) hu hi hs hj w';have ba:=λ(j:Nat) (hj:j<=l4.length)=>LD a7 hj;refine wq a7 o (by omega) ?_;refine⟨_,λw' _=>run 8 (by omega) w',?_⟩;refine wq (ba 8 (by omega)) (Bj.drop o 8) (by simp only[Hy];omega) ?_;have u0:=HY o;have u1:=HY (Bj.drop o 8);have u2:=HY (Bj.drop o 16);have u3:=HY (Bj.drop o 24);refine⟨_,λw' _=>Du w' u0 u1,?_⟩;refine⟨_,λw' _=>run 16 (by omega) w',?_⟩;refine wq (ba 16 (by omega)) (Bj.drop o 16) (by simp only[Hy];omega) ?_;refine⟨_,λw' _=>run 24 (by omega) w',?_⟩;refine wq (ba 24 (by omega)) (Bj.drop o 24) (by simp only[Hy];omega) ?_;refine⟨_,λw' _=>Du w' u2 u3,?_⟩;refine⟨_,λw' _=>Du w' (EY u0 u1) (EY u2 u3),?_⟩;refine⟨_,λw' _=>K6 w' (EY (EY u0 u1) (EY u2 u3)) (by unfold Im;decide),?_⟩;show Nw .u64 (.int .u64 _) _ _;rw[Aa];intro W' g';refine AD (λhz=>?_) λ_=>I (ge a7 g') o b9 c6 (gW.trans (g4.trans g'));have ak:((Mr (Mr (HO l4) (HO (l4.drop 8))) (Mr (HO (l4.drop 16)) (HO (l4.drop 24)))).toNat &&& 9259542123273814144:Nat)=0:=PL hz;simp only[Mr,mH] at ak;obtain⟨z1,z2⟩:=GV ak;obtain⟨z3,z4⟩:=GV z1;obtain⟨z5,z6⟩:=GV z2;have ea:∀j,j<32->l4.getD j 0<128:=by
       intro j hj;rcases(show j<8\/8<=j/\j<16\/16<=j/\j<24\/24<=j by omega) with h|h|h|h
       .exact ET o z3 h
       .have:=ET (Bj.drop o 8) z4 (j:=j-8) (by omega);rw[Iq,show 8+(j-8)=j by omega] at this;exact this
       .have:=ET (Bj.drop o 16) z5 (j:=j-16) (by omega);rw[Iq,show 16+(j-16)=j by omega] at this;exact this
       .have:=ET (Bj.drop o 24) z6 (j:=j-24) (by omega);rw[Iq,show 24+(j-24)=j by omega] at this;exact this
      refine sl (ge a7 g') (j:=32) (by omega) λv6 c7=>?_;obtain⟨q6,d6,rfl,_⟩:=c7.shape;refine⟨⟨_,_,rfl,c7,Bj.drop o 32,b9.trans (Lf o (by omega) ea),by simp only[Hy];omega,g4.trans g'⟩,?_⟩;show(l4.drop 32).length<l4.length;rw[Hy];omega
    .refine Cv (λW'=>Grow X W') (Mod.drew _ _) ?_;rw[AO,BE];refine AD (λb8=>?_) λ_=>λW' g'=>⟨g2.trans g',g',false,rfl,λh=>(nomatch h)⟩;have eo:16<l3.length:=by omega
     refine wq O Q (by omega) ?_;refine⟨_,λw' _=>Es (a:=q3) (n:=l3.length) (c:=d3) hu hi hs (j:=8) (by omega) w',?_⟩;refine wq (LD O (by omega)) (Bj.drop Q 8) (by simp only[Hy];omega) ?_;have u0:=HY Q;have u1:=HY (Bj.drop Q 8);refine⟨_,λw' _=>Du w' u0 u1,?_⟩;refine⟨_,λw' _=>K6 w' (EY u0 u1) (by unfold Im;decide),?_⟩;show Nw .u64 (.int .u64 _) _ _;rw[Aa];intro W' g';refine⟨g2.trans g',g',_,rfl,λhz=>?_⟩;rw[jD] at hz;have ak:((Mr (HO l3) (HO (l3.drop 8))).toNat &&& 9259542123273814144:Nat)=0:=PL hz;simp only[Mr,mH] at ak;obtain⟨z1,z2⟩:=GV ak;refine⟨by omega,λj hj=>?_⟩;rcases(show j<8\/8<=j by omega) with h|h
     .exact ET Q z1 h
     .have:=ET (Bj.drop Q 8) z2 (j:=j-8) (by omega);rw[Iq,show 8+(j-8)=j by omega] at this;exact this
  .rw[AO,BE];refine AD (λh8=>?_) λ_=>⟨Mod.refl _ _,false,rfl,λh=>(nomatch h)⟩;have et:8<t.length:=by omega
   refine AA (TP a8 J (by omega)) ?_;rintro _ X ⟨rfl,g2⟩;refine AX (K6 X (HY J) (by unfold Im;decide)) ?_;rw[Aa];refine⟨g2,_,rfl,λhz=>?_⟩;rw[jD] at hz;exact⟨by omega,λj hj=>ET J (PL hz) hj⟩
 .have B:Ct (x::t)=(0,0)->∀{W'},Grow w W'->Value.bool false=.bool (Bf b).isSome/\Grow w W':=λe W' g=>⟨by rw[b7,JN (by simp),e];rfl,g⟩;have DV:∀{n:Nat} {r:Int},Ct (x::t)=(r,n)->0<n->(Bf (x::t)).isSome=(Bf ((x::t).drop n)).isSome:=by
   intro n r e Y;rw[JN (by simp),e];show(decide (n≠0)&&_)=_;rw[lq (show n≠0 by omega),pG]
  obtain⟨f,z,j,hf,ec,ed,hz,hj,c8,eu,al⟩:=fV (x:=x) (by omega) hx.2;have c9:=hT.grow gW;have cf:W.cell? (Addr.add ⟨0,0,none⟩ (x.toNat*1))=some (.int .u8 f):=by
   rw[AI,oI,<-hf];have:=c9.first x.toNat (by omega) (by omega);rwa [show((x.toNat:Nat):Int)=x by omega] at this
  refine AX (Hv (n:=256) (e:=5) (i:=Tryz.t5) (s:=1) (by kernel_rfl) (by kernel_rfl) (by kernel_rfl) hx.1 (by omega)) (AJ cf ?_);refine AX (YX W ec ed hz) ?_;refine AX (EG (k:=.i64) W (by kernel_rfl) (by kernel_rfl)) ?_;have ew:z<=7:=hz▸Nat.and_le_right;rw[wrap64 (by omega) (by omega)];refine AX (Lg (n:=4) W (by decide)) ?_;have ej:f.fdiv (2 ^ 4)=(j:Int):=by
   rw[oO _ (by decide),<-hj];rfl
  rw[ej];refine AX (Hv (n:=16) (e:=263) (i:=Tryz.t263) (s:=2) (by kernel_rfl) (by kernel_rfl) (by kernel_rfl) (by omega) (by omega)) ?_;rw[mH,AI];obtain⟨ca,cb⟩:=c9.acc j c8;refine AV (vs:=[.int .u8 (accLo j),.int .u8 (accHi j)]) rfl (λq u hu=>?_) ?_
  .rcases q with _|_|q
   .cases hu;exact ca
   .cases hu;exact cb
   .simp at hu
  refine BH (vs:=[.int .u8 (accLo j),.int .u8 (accHi j)]) rfl rfl (λu hu=>by simp at hu;rcases hu with rfl|rfl<;>rfl) λb6 X cc ey g6 cd _=>?_;have bb:=cd 0 _ rfl;have bc:=cd 1 _ rfl;have m:=gW.trans g6;have V:=ge hl g6;have dC:0<(x::t).length:=by simp
  rw[Aa];refine AD (λh2=>?_) λh2=>?_
  .have ez:z=2:=by omega
   have Iz:CH x=2:=by omega
   obtain⟨ch,cu⟩:=al (by omega);refine AR (λ_ W3=>Grow X W3/\2<=(x::t).length/\(Bf (x::t)).isSome=(Bf ((x::t).drop 2)).isSome) ?_ ?_
   .rintro vs W3 ⟨g3,an,av⟩ _;refine sl (ge V g3) (j:=2) an λv3 O=>?_;exact I O (Bj.drop hB 2) av (by rw[Hy];omega) (m.trans g3)
   refine Cv (λW'=>Grow X W') (Mod.drew _ _) ?_;rw[AO,Ai];refine AD (λda=>λW' g'=>B (DS hx.2 (by rw[Iz];omega)) (m.trans g')) λZ=>?_;obtain⟨y1,t1,rfl⟩:∃y t',t=y::t':=by cases t with|nil=>simp at Z|cons y t'=>exact⟨y,t',rfl⟩
   have a1:=J y1 lb;have Y:=ZJ (t:=t1) Iz a1.1 a1.2;obtain⟨_,r1,e1,_,dk,ax,rfl⟩:=V.get (i:=1) (by simp);cases e1;have a6:=ax 0 _ rfl;refine AS (j:=1) (by simp) (Aw (λw' g=>g.cell a6 λh=>h) ?_);rw[AH];refine Aw (λw' g=>g.cell bb λh=>h) ?_;show GI .u8 (.int .u8 y1) _ _;rw[Ai];refine AD (λay=>λW' g'=>B (by rw[Y,Bp (by omega)]) (m.trans g')) λay=>?_;rw[AH];refine Aw (λw' g=>g.cell bc λh=>h) ?_;refine AS (j:=1) (by simp) (Aw (λw' g=>g.cell a6 λh=>h) ?_);show GI .u8 _ (.int .u8 y1) _;rw[Ai];intro W' g';refine AD (λaZ=>B (by rw[Y,Bp (by omega)]) (m.trans g')) λaZ=>?_;exact⟨g',by simp,DV (by rw[Y,DN (by omega)]) (by decide)⟩
  rw[Aa];refine AD (λh3=>?_) λh3=>?_
  .have eA:z=3:=by omega
   have Iz:CH x=3:=by omega
   obtain⟨ch,cu⟩:=al (by omega);refine AR (λ_ W3=>Grow X W3/\3<=(x::t).length/\(Bf (x::t)).isSome=(Bf ((x::t).drop 3)).isSome) ?_ ?_
   .rintro vs W3 ⟨g3,an,av⟩ _;refine sl (ge V g3) (j:=3) an λv3 O=>?_;exact I O (Bj.drop hB 3) av (by rw[Hy];omega) (m.trans g3)
   refine Cv (λW'=>Grow X W') (Mod.drew _ _) ?_;rw[AO,Ai];refine AD (λda=>λW' g'=>B (DS hx.2 (by rw[Iz];omega)) (m.trans g')) λZ=>?_;obtain⟨y1,y2,t1,rfl⟩:∃y y2 t',t=y::y2::t':=by
    rcases t with _|⟨y,_|⟨y2,t'⟩⟩
    .simp at Z
    .simp at Z
    .exact⟨y,y2,t',rfl⟩
   have a1:=J y1 lb;have b0:=J y2 (kx _ lb);have Y:=Yp (t:=t1) Iz a1.1 a1.2 b0.1 b0.2;obtain⟨_,r1,e1,_,dk,ax,rfl⟩:=V.get (i:=1) (by simp);cases e1;have a6:=ax 0 _ rfl;obtain⟨_,r2,e2,_,ee,bd,rfl⟩:=V.get (i:=2) (by simp);cases e2;have b1:=bd 0 _ rfl;refine AS (j:=1) (by simp) (Aw (λw' g=>g.cell a6 λh=>h) ?_);rw[AH];refine Aw (λw' g=>g.cell bb λh=>h) ?_;show GI .u8 (.int .u8 y1) _ _;rw[Ai];refine AD (λay=>λW' g'=>B (by rw[Y,Bp (by omega)]) (m.trans g')) λay=>?_;rw[AH];refine Aw (λw' g=>g.cell bc λh=>h) ?_;refine AS (j:=1) (by simp) (Aw (λw' g=>g.cell a6 λh=>h) ?_);show GI .u8 _ (.int .u8 y1) _;rw[Ai];refine AD (λaZ=>λW' g'=>B (by rw[Y,Bp (by omega)]) (m.trans g')) λaZ=>?_;refine AS (j:=2) (by simp) (Aw (λw' g=>g.cell b1 λh=>h) ?_);show GI .u8 (.int .u8 y2) _ _;rw[Ai];refine AD (λbk=>λW' g'=>B (by rw[Y,Bp (by omega)]) (m.trans g')) λbk=>?_;refine AS (j:=2) (by simp) (Aw (λw' g=>g.cell b1 λh=>h) ?_);show GI .u8 _ (.int .u8 y2) _;rw[Ai];intro W' g';refine AD (λbl=>B (by rw[Y,Bp (by omega)]) (m.trans g')) λbl=>?_;exact⟨g',by simp,DV (by rw[Y,DN (by omega)]) (by decide)⟩
  rw[Aa];refine AD (λh4=>?_) λh4=>?_
  .have eB:z=4:=by omega
   have Iz:CH x=4:=by omega
   obtain⟨ch,cu⟩:=al (by omega);refine AR (λ_ W3=>Grow X W3/\4<=(x::t).length/\(Bf (x::t)).isSome=(Bf ((x::t).drop 4)).isSome) ?_ ?_
   .rintro vs W3 ⟨g3,an,av⟩ _;refine sl (ge V g3) (j:=4) an λv3 O=>?_;exact I O (Bj.drop hB 4) av (by rw[Hy];omega) (m.trans g3)
   refine Cv (λW'=>Grow X W') (Mod.drew _ _) ?_;rw[AO,Ai];refine AD (λda=>λW' g'=>B (DS hx.2 (by rw[Iz];omega)) (m.trans g')) λZ=>?_;obtain⟨y1,y2,y3,t1,rfl⟩:∃y y2 y3 t',t=y::y2::y3::t':=by
    rcases t with _|⟨y,_|⟨y2,_|⟨y3,t'⟩⟩⟩
    .simp at Z
    .simp at Z
    .simp at Z
    .exact⟨y,y2,y3,t',rfl⟩
   have a1:=J y1 lb;have b0:=J y2 (kx _ lb);have dr:=J y3 (kx _ (kx _ lb));have Y:=YO (t:=t1) Iz a1.1 a1.2 b0.1 b0.2 dr.1 dr.2;obtain⟨_,r1,e1,_,dk,ax,rfl⟩:=V.get (i:=1) (by simp);cases e1;have a6:=ax 0 _ rfl;obtain⟨_,r2,e2,_,ee,bd,rfl⟩:=V.get (i:=2) (by simp);cases e2;have b1:=bd 0 _ rfl;obtain⟨_,r3,e3,_,b2,ef,rfl⟩:=V.get (i:=3) (by simp);cases e3;have dA:=ef 0 _ rfl;refine AS (j:=1) (by simp) (Aw (λw' g=>g.cell a6 λh=>h) ?_);rw[AH];refine Aw (λw' g=>g.cell bb λh=>h) ?_;show GI .u8 (.int .u8 y1) _ _;rw[Ai];refine AD (λay=>λW' g'=>B (by rw[Y,Bp (by omega)]) (m.trans g')) λay=>?_;rw[AH];refine Aw (λw' g=>g.cell bc λh=>h) ?_;refine AS (j:=1) (by simp) (Aw (λw' g=>g.cell a6 λh=>h) ?_);show GI .u8 _ (.int .u8 y1) _;rw[Ai];refine AD (λaZ=>λW' g'=>B (by rw[Y,Bp (by omega)]) (m.trans g')) λaZ=>?_;refine AS (j:=2) (by simp) (Aw (λw' g=>g.cell b1 λh=>h) ?_);show GI .u8 (.int .u8 y2) _ _;rw[Ai];refine AD (λbk=>λW' g'=>B (by rw[Y,Bp (by omega)]) (m.trans g')) λbk=>?_;refine AS (j:=2) (by simp) (Aw (λw' g=>g.cell b1 λh=>h) ?_);show GI .u8 _ (.int .u8 y2) _;rw[Ai];refine AD (λbl=>λW' g'=>B (by rw[Y,Bp (by omega)]) (m.trans g')) λbl=>?_;refine AS (j:=3) (by simp) (Aw (λw' g=>g.cell dA λh=>h) ?_);show GI .u8 (.int .u8 y3) _ _;rw[Ai];refine AD (λeh=>λW' g'=>B (by rw[Y,Bp (by omega)]) (m.trans g')) λeh=>?_;refine AS (j:=3) (by simp) (Aw (λw' g=>g.cell dA λh=>h) ?_);show GI .u8 _ (.int .u8 y3) _;rw[Ai];intro W' g';refine AD (λcc=>B (by rw[Y,Bp (by omega)]) (m.trans g')) λcc=>?_;exact⟨g',by simp,DV (by rw[Y,DN (by omega)]) (by decide)⟩
  .exact B (QX hB (by omega) (by have:=Q3 x;omega)) m
def On:Nat->Nat->List Int
 |0,n=>[(n:Int)]
 |f+1,n=>if n<=127 then[(n:Int)] else((n%128+128:Nat):Int)::On f (n/128)
def uv(n:Nat):List Int:=On 9 n
def Hz(n:Int):Nat:=if 0<=n then(2*n).toNat else(-2*n-1).toNat
def Q6{a b:Int}(h:Hz a=Hz b):a=b:=by
 unfold Hz at h;split at h<;>split at h<;>omega
def Hh{n:Int}(h0:-9223372036854775808<=n)(h1:n<=9223372036854775807):Hz n<18446744073709551616:=by
 unfold Hz;split<;>omega
def Zo:∀{f n m:Nat} {x y:List Int},n<128 ^ (f+1)->m<128 ^ (f+1)->On f n++x=On f m++y->n=m/\x=y:=by
 intro f;induction f with
 |zero=>
  intro n m x y _ _ h;simp only[On,rT,np] at h;exact⟨by omega,h.2⟩
 |succ f j=>
  intro n m x y o hm h;rw[sB] at o hm;simp only[On] at h;by_cases h1:n<=127<;>by_cases i:m<=127
  .rw[DN h1,DN i] at h;simp only[rT,np] at h;exact⟨by omega,h.2⟩
  .rw[DN h1,Bp i] at h;simp only[Za,np] at h;omega
  .rw[Bp h1,DN i] at h;simp only[Za,np] at h;omega
  .rw[Bp h1,Bp i] at h;simp only[Za,np] at h;have:=j (pO (by omega)) (pO (by omega)) h.2;exact⟨by omega,this.2⟩
def NI{n m:Nat}{x y:List Int}(i:n<18446744073709551616)(hm:m<18446744073709551616)(h:uv n++x=uv m++y):n=m/\x=y:=by
 have e:(18446744073709551616:Nat)<=128 ^ (9+1):=by decide
 exact Zo (by omega) (by omega) h
def GP:∀(f n:Nat),1<=(On f n).length/\(On f n).length<=f+1:=by
 intro f;induction f with
 |zero=>intro n;simp[On]
 |succ f i=>
  intro n;simp only[On];split
  .simp
  .have:=i (n/128);simp only[gD];omega
def YP:∀(f n:Nat),n<128 ^ (f+1)->∀x∈On f n,0<=x/\x<256:=by
 intro f;induction f with
 |zero=>intro n j x i;simp only[On,S6] at i;subst i;simp at j;omega
 |succ f m=>
  intro n j x i;rw[sB] at j;simp only[On] at i;split at i
  .simp only[S6] at i;omega
  .rcases Mp.1 i with rfl|i
   .omega
   .exact m _ (pO (by omega)) x i
def KJ{n:Nat}(i:n<18446744073709551616):∀x∈uv n,0<=x/\x<256:=by
 have e:(18446744073709551616:Nat)<=128 ^ (9+1):=by decide
 exact YP 9 n (by omega)
def NR(a:Attr):Prop:=(-9223372036854775808<=a.key/\a.key<=9223372036854775807)/\(0<=a.val.kind/\a.val.kind<256)/\(-9223372036854775808<=a.val.n/\a.val.n<=9223372036854775807)/\(0<=a.val.f/\a.val.f<18446744073709551616)/\a.val.s.size<18446744073709551616
def Ky(a:Attr):List Int:=uv (Hz a.key)++(uv a.val.kind.toNat++(uv (Hz a.val.n)++(uv a.val.f.toNat++(uv a.val.s.size++Bm a.val.s))))
def Fy(l:List Attr):List Int:=l.flatMap Ky
def R8{s t:ByteArray}(h:Bm s=Bm t):s=t:=by
 unfold Bm at h;have i:=(List.map_inj_right (f:=λb:UInt8=>(b.toNat:Int)) (λa b e=>UInt8.toNat_inj.1 (Int.ofNat_inj.1 e))).1 h;cases s;cases t;simp only[ByteArray.mk.injEq];exact qH.1 i
def DK(s:ByteArray):(Bm s).length=s.size:=by simp[Bm]
def YS{a b:Attr}(ha:NR a)(hb:NR b){x y:List Int}(h:Ky a++x=Ky b++y):a=b/\x=y:=by
 obtain⟨i,Q,a3,a4,a5⟩:=ha;obtain⟨j,U,b3,b4,b5⟩:=hb;unfold Ky at h;simp only[P9] at h;obtain⟨m,h⟩:=NI (Hh i.1 i.2) (Hh j.1 j.2) h;obtain⟨V,h⟩:=NI (by omega) (by omega) h;obtain⟨o,h⟩:=NI (Hh a3.1 a3.2) (Hh b3.1 b3.2) h;obtain⟨X,h⟩:=NI (by omega) (by omega) h;obtain⟨q,h⟩:=NI a5 b5 h;obtain⟨B,h⟩:=List.append_inj h (by rw[DK,DK,q]);refine⟨?_,h⟩;obtain⟨Y,I⟩:=a;obtain⟨Z,bv⟩:=b;obtain⟨v1,v2,v3,v4⟩:=I;obtain⟨J,u2,O,u4⟩:=bv;simp only at *;have:=Q6 m;have:=Q6 o;have:=R8 B;have:v1=J:=by omega
 have:v3=O:=by omega
 subst_vars
 rfl
def XP:∀{l m:List Attr},(∀a∈l,NR a)->(∀a∈m,NR a)->Fy l=Fy m->l=m:=by
 have ne:∀a x,Ky a++x≠[]:=λa x e=>by
  have:=GP 9 (Hz a.key);have h:=lV List.length e;simp only[Ky,BW,lX,uv] at h;omega
 intro l;induction l with
 |nil=>
  intro m _ hm h;cases m with
  |nil=>rfl
  |cons b m=>exact absurd h.symm (by simpa[Fy] using ne b (Fy m))
 |cons a l j=>
  intro m hl hm h;cases m with
  |nil=>exact absurd h (by simpa[Fy] using ne a (Fy l))
  |cons b m=>
   simp only[Fy,mE] at h;obtain⟨rfl,h'⟩:=YS (hl a lb) (hm b lb) h;rw[j (λx i=>hl x (kx _ i)) (λx i=>hm x (kx _ i)) (show Fy l=Fy m from h')]
section
open Go.ChangeShapes Go.WideShapes Go.ChangeAt Go.RowKit Go.Joins
def XE : List (String × DataW Unit) := [("unicode/utf8.acceptRanges", Rows.laid_unicode_utf8_acceptRanges), ("unicode/utf8.first", Rows.laid_unicode_utf8_first)]
def Us:Rows.laid_unicode_utf8_first=Lib.tabData .u8 (Pinned.utf8FirstZ.map Int.ofNat):=by kernel_rfl
def Xb:(List.range 256).all (λj=>decide (128<=j->(Pinned.utf8FirstZ.map Int.ofNat)[j]?=some (firstT j)))=true:=by decide +kernel
def Zx:Rows.laid_unicode_utf8_acceptRanges (H:=Unit)=.agg ((List.range 16).map λi=>.agg ([accLo i,accHi i].map λz=>.lit (.int .u8 z))):=by kernel_rfl
def O5(h:laidMetH prog XE W):EA W:=by
 rw[qs _ _ _ (by kernel_rfl)] at h;have h4:=Lib.laidMet.reads h (.head _);have h3:=Lib.laidMet.reads h (.tail _ (.head _));have hf:∀j:Nat,128<=j->j<256->W.cell? ⟨0,j,none⟩=some (.int .u8 (firstT j)):=by
  intro j X Y;obtain⟨g,t,cs,O,p,J,I,m,Q⟩:=h3
  obtain rfl := lK ((show Tryz.prog.globalNamed "unicode/utf8.first" = some 0 by kernel_rfl).symm.trans J)
  obtain rfl:=lK ((show(prog.globals[0]?).map (·.type)=some 261 by kernel_rfl).symm.trans I);rw[Us] at Q;have o:=Lib.cells_of_tab underlying261 underlying5 (by kernel_rfl) (by kernel_rfl) Q;have:=rN J m j;rw[this,<-mS,o];have ha:=mL.1 Xb j (nW.2 Y);rw[jD] at ha;rw[ly,ha X];rfl
 have U:∀j:Nat,j<16->W.cell? ⟨1,j*2,none⟩=some (.int .u8 (accLo j))/\W.cell? ⟨1,j*2+1,none⟩=some (.int .u8 (accHi j)):=by
  intro i hi;obtain⟨g,t,cs,O,p,J,I,m,Q⟩:=h4
  obtain rfl := lK ((show Tryz.prog.globalNamed "unicode/utf8.acceptRanges" = some 1 by kernel_rfl).symm.trans J)
  obtain rfl:=lK ((show(prog.globals[1]?).map (·.type)=some 264 by kernel_rfl).symm.trans I);rw[Zx] at Q;obtain⟨Z,d,q,V,he⟩:=Lib.array_elem underlying264 Q i hi;simp only[ly,List.getElem?_range hi,mw,gM] at V;subst V;have c2:prog.cellsOf 263=2:=by kernel_rfl
  rw [c2] at he;have o:=Lib.ints_of_struct underlying263 (λj f B=>by
   match j,B with
   |0,B=>simp at B;subst B;exact⟨underlying5,rfl,by kernel_rfl⟩
   |1,B=>simp at B;subst B;exact⟨underlying5,rfl,by kernel_rfl⟩
   | j+2,B=>simp at B) (by rw [c2];rfl) he
  have e0:=lV (·[0]?) o;have e1:=lV (·[1]?) o;simp at e0 e1;have w0:=rN J m (i*2);have w1:=rN J m (i*2+1);rw[w0,w1,<-mS,<-mS];exact⟨by simpa using e0,by simpa using e1⟩
 have:=lU W _ (U 0 (by decide)).1;exact⟨this,hf,U⟩
noncomputable def N5(os:Os):World:=
 let w0:=World.holding prog os ⟨#[],#[],[]⟩
 let put (h:Array Obj) (g:Nat) (cs:Array Value):Array Obj:=h.modify g fun
  |.cells _ t frozen=>.cells cs t frozen
  |o=>o
 let h1:=put w0.heap 0 (Pinned.utf8FirstZ.map λ(z:Nat)=>Value.int .u8 (Int.ofNat z)).toArray
 let j:=put h1 1 ((List.range 16).flatMap λi=>[Value.int .u8 (accLo i),Value.int .u8 (accHi i)]).toArray
 { w0 with heap:=j }
def NY(os:Os)(args:Array Value):laidMetH prog XE ((N5 os).forCall (λ_ _=>0) ⟨#[],args,[]⟩).memory:=by
 rw[qs _ _ _ (by kernel_rfl)];exact(LaidIn.of_run (l:=XE) [1,0] 8 (by kernel_rfl) (by kernel_rfl) (by kernel_rfl) (by kernel_rfl)).met
def kQ(v:As):Prop:=(0<=v.kind/\v.kind<256)/\(-9223372036854775808<=v.n/\v.n<=9223372036854775807)/\(0<=v.f/\v.f<18446744073709551616)/\v.s.size<18446744073709551616
variable {H:Type}{enc:TypeId×Value->H}{w:World}{base:Nat}{spare:Nat->Bool}{held:Bool}
def HA{k:IntKind}{n:Int}(h:(Lit.int k n).wf=true):k.min<=n/\n<=k.max:=by
 simpa[Lit.wf] using h
def Jl{n:Nat}{y:DataW H×List MemPlace}(h:DataW.trod enc prog w base spare held n 54 cs=some y):∃x:As,cs=x.cells/\kQ x:=by
 have c2:prog.cellsOf 54=4:=by kernel_rfl
 have X:prog.cellsOf 5=1:=by kernel_rfl
 have Y:prog.cellsOf 2=1:=by kernel_rfl
 have Z:prog.cellsOf 52=1:=by kernel_rfl
 have c6:prog.cellsOf 9=1:=by kernel_rfl
 obtain⟨z0,z1,z2,z3,m',_,hl,i,j,m,o⟩:=trod_struct4 underlying54 h;rw[c2] at hl;simp only[X,Y,Z,c6] at i j m o;match cs,hl with
 |[a1,a2,a3,a4],_=>
  simp only[mz,nL,nx,nN] at i j m o;obtain⟨B,f0,_,w0⟩:=mK underlying5 i;obtain⟨k1,f1,_,w1⟩:=mK underlying2 j;obtain⟨k2,f2,_,w2⟩:=mK underlying52 m;obtain⟨q,f3,_,I⟩:=DataW.trod_string underlying9 o;cases f0;cases f1;cases f2;cases f3;refine⟨⟨B,k1,k2,q⟩,rfl,?_⟩;have J:=HA w0;have r1:=HA w1;have O:=HA w2;have Q:IntKind.u8.min=0/\IntKind.u8.max=255:=by decide
  have U:IntKind.i64.min=-9223372036854775808/\IntKind.i64.max=9223372036854775807:=by decide
  have V:IntKind.u64.min=0/\IntKind.u64.max=18446744073709551615:=by decide
  rw[Q.1,Q.2] at J;rw[U.1,U.2] at r1;rw[V.1,V.2] at O;have r3:q.size<=9223372036854775807:=by
   simp only[Lit.wf,maxLen] at I;simpa using I
  exact⟨⟨J.1,show B<256 by omega⟩,r1,⟨O.1,show k2<18446744073709551616 by omega⟩,show q.size<18446744073709551616 by omega⟩
end
structure Ent (α:Type) where
 set:α
 held:Nat
structure Tab (α:Type) where
 places:List (Ent α)
 free:List Nat
 empty:Nat
def Tab.z(α:Type):Tab α:=⟨[],[],0⟩
structure Tab.Inv {α:Type} (G:α->Prop) (t:Tab α):Prop where
 Rn:t.free.Nodup
 ZU:∀i:Nat,i∈t.free↔∃p,t.places[i]?=some p/\p.held=0
 H0:∀(i j:Nat) (p q:Ent α),t.places[i]?=some p->t.places[j]?=some q->0<p.held->0<q.held->p.set=q.set->i=j
 ok:∀(i:Nat) (p:Ent α),t.places[i]?=some p->0<p.held->G p.set
def Tab.IQ{α:Type}(t:Tab α)(i:Nat)(p:Ent α):Tab α:={ t with places:=t.places.set i p }
def Tab.put{α:Type}(t:Tab α)(s:α):Nat×Tab α:=match t.free.getLast? with
 |some i=>(i,{ t with places:=t.places.set i ⟨s,1⟩,free:=t.free.dropLast })
 |none=>(t.places.length,{ t with places:=t.places++[⟨s,1⟩] })
def Tab.drop{α:Type}(t:Tab α)(z:α)(i:Nat):Tab α:={ t with places:=t.places.set i ⟨z,0⟩,free:=t.free++[i] }
def Tab.Inv.z(G:α->Prop):(Tab.z α).Inv G:=⟨om,λi=>by simp[Tab.z],λi j p q h=>by simp[Tab.z] at h,λi p h=>by simp[Tab.z] at h⟩
def Tab.Inv.IQ{G:α->Prop}{t:Tab α}(h:t.Inv G){i:Nat}{p:Ent α}(hp:t.places[i]?=some p)(h0:0<p.held){n:Nat}(hn:0<n):(t.IQ i ⟨p.set,n⟩).Inv G:=by
 have hi:=(Ad.1 hp).1;have key:∀(j:Nat) (q:Ent α),(t.places.set i ⟨p.set,n⟩)[j]?=some q->∃I:Ent α,t.places[j]?=some I/\I.set=q.set/\(0<q.held↔0<I.held):=by
  intro j q B;rw[oZ,DN hi] at B;split at B
  .rename_i e;subst e;cases B;exact⟨p,hp,rfl,by simp only;omega⟩
  .exact⟨q,B,rfl,pJ⟩
 refine⟨h.Rn,λj=>?_,λj k J V h1 O X Y Z=>?_,λj J h1 O=>?_⟩
 .show j∈t.free↔∃q:Ent α,(t.places.set i ⟨p.set,n⟩)[j]?=some q/\q.held=0;rw[h.ZU,oZ,DN hi];split
  .rename_i e;subst e;constructor
   .rintro⟨q,m,o⟩;rw[hp] at m;cases m;omega
   .rintro⟨q,m,o⟩;cases m;simp only at o;omega
  .exact pJ
 .obtain⟨Q,m,o,U⟩:=key j J h1;obtain⟨q2,f1,f2,f3⟩:=key k V O;exact h.H0 j k Q q2 m f1 (U.1 X) (f3.1 Y) (by rw[o,f2,Z])
 .obtain⟨Q,m,o,U⟩:=key j J h1;rw[<-o];exact h.ok j Q m (U.1 O)
def Ol{l:List Nat}(h:l.Nodup){i:Nat}(hi:l.getLast?=some i)(j:Nat):j∈l.dropLast↔j∈l/\j≠i:=by
 have e:l=l.dropLast++[i]:=by
  cases l with
  |nil=>simp at hi
  |cons a l=>
   rw[nD (by simp)] at hi;conv=>lhs;rw[<-qT (l:=a::l) (by simp)]
   rw[lK hi]
 have m:(l.dropLast++[i]).Nodup:=e▸h;have hm:j∈l↔j∈l.dropLast++[i]:=by rw[<-e]
 rw[lI] at m;rw[hm,By,S6];constructor
 .intro o;exact⟨.inl o,λe=>m.2.2 j o i (S6.2 rfl) e⟩
 .rintro⟨h1|h1,q⟩
  .exact h1
  .exact absurd h1 q
def Tab.GA{G:α->Prop}{t:Tab α}(h:t.Inv G){s:α}(hg:G s)(Z:∀(i:Nat) (p:Ent α),t.places[i]?=some p->0<p.held->p.set≠s) :
  (t.put s).2.Inv G/\(t.put s).2.places[(t.put s).1]?=some ⟨s,1⟩/\(∀p:Ent α,t.places[(t.put s).1]?=some p->p.held=0)/\(∀j:Nat,j≠(t.put s).1->(t.put s).2.places[j]?=t.places[j]?)/\(t.put s).2.empty=t.empty:=by
 unfold Tab.put;cases hl:t.free.getLast? with
 |some i=>
  have a1:i∈t.free:=nP hl;obtain⟨p,hp,a6⟩:=(h.ZU i).1 a1;have hi:=(Ad.1 hp).1;have m:(t.places.set i ⟨s,1⟩)[i]?=some ⟨s,1⟩:=by rw[lL hi]
  have o:∀j:Nat,j≠i->(t.places.set i ⟨s,1⟩)[j]?=t.places[j]?:=λj hj=>lY (oF hj);refine⟨⟨h.Rn.sublist (qG _),λj=>?_,λj k O V h1 B X Y Q=>?_,λj O h1 B=>?_⟩,m,λq U=>?_,o,rfl⟩
  .show j∈t.free.dropLast↔∃q:Ent α,(t.places.set i ⟨s,1⟩)[j]?=some q/\q.held=0;rw[Ol h.Rn hl,h.ZU];by_cases e:j=i
   .subst e;rw[m];constructor
    .rintro⟨_,B⟩;exact absurd rfl B
    .rintro⟨q,I,J⟩;cases I;cases J
   .rw[o j e];exact⟨λh=>h.1,λh=>⟨h,e⟩⟩
  .simp only at h1 B;by_cases I:j=i<;>by_cases J:k=i
   .rw[I,J]
   .subst I;rw[m] at h1;cases h1;rw[o k J] at B;exact absurd Q.symm (Z k V B Y)
   .subst J;rw[m] at B;cases B;rw[o j I] at h1;exact absurd Q (Z j O h1 X)
   .rw[o j I] at h1;rw[o k J] at B;exact h.H0 j k O V h1 B X Y Q
  .simp only at h1;by_cases I:j=i
   .subst I;rw[m] at h1;cases h1;exact hg
   .rw[o j I] at h1;exact h.ok j O h1 B
  .simp only at U;rw[hp] at U;cases U;exact a6
 |none=>
  have hf:t.free=[]:=ns.1 hl;have m:(t.places++[(⟨s,1⟩:Ent α)])[t.places.length]?=some ⟨s,1⟩:=by simp
  have o:∀j:Nat,j≠t.places.length->(t.places++[(⟨s,1⟩:Ent α)])[j]?=t.places[j]?:=by
   intro j hj;by_cases a7:j<t.places.length
   .rw[Q0 a7]
   .rw[lP (by simp;omega),lP (by omega)]
  refine⟨⟨h.Rn,λj=>?_,λj k O V h1 B X Y Q=>?_,λj O h1 B=>?_⟩,m,λq U=>?_,o,rfl⟩
  .show j∈t.free↔∃q:Ent α,(t.places++[(⟨s,1⟩:Ent α)])[j]?=some q/\q.held=0;by_cases e:j=t.places.length
   .subst e;rw[m,hf];constructor
    .intro h;simp at h
    .rintro⟨q,I,J⟩;cases I;cases J
   .rw[o j e,h.ZU]
  .simp only at h1 B;by_cases I:j=t.places.length<;>by_cases J:k=t.places.length
   .rw[I,J]
   .subst I;rw[m] at h1;cases h1;rw[o k J] at B;exact absurd Q.symm (Z k V B Y)
   .subst J;rw[m] at B;cases B;rw[o j I] at h1;exact absurd Q (Z j O h1 X)
   .rw[o j I] at h1;rw[o k J] at B;exact h.H0 j k O V h1 B X Y Q
  .simp only at h1;by_cases I:j=t.places.length
   .subst I;rw[m] at h1;cases h1;exact hg
   .rw[o j I] at h1;exact h.ok j O h1 B
  .simp only at U;rw[lP (K8 _)] at U;cases U
def Tab.XA{G:α->Prop}{t:Tab α}(h:t.Inv G){i:Nat}{p:Ent α}(hp:t.places[i]?=some p)(h0:0<p.held)(z:α):(t.drop z i).Inv G:=by
 have hi:=(Ad.1 hp).1;have J:i∉t.free:=λhm=>by obtain⟨q,B,O⟩:=(h.ZU i).1 hm;rw[hp] at B;cases B;omega
 have m:(t.places.set i ⟨z,0⟩)[i]?=some ⟨z,0⟩:=by rw[lL hi]
 have o:∀j:Nat,j≠i->(t.places.set i ⟨z,0⟩)[j]?=t.places[j]?:=λj X=>lY (oF X);refine⟨?_,λj=>?_,λj k Q Y h1 I U V Z=>?_,λj Q h1 I=>?_⟩
 .show(t.free++[i]).Nodup;rw[lI];exact⟨h.Rn,by simp,λa ha b hb=>by rw[S6] at hb;subst hb;intro e;exact J (e▸ha)⟩
 .show j∈t.free++[i]↔∃q:Ent α,(t.places.set i ⟨z,0⟩)[j]?=some q/\q.held=0;rw[By,S6];by_cases e:j=i
  .subst e;rw[m];exact⟨λ_=>⟨_,rfl,rfl⟩,λ_=>.inr rfl⟩
  .rw[o j e,h.ZU];exact⟨λh=>h.resolve_right e,λh=>.inl h⟩
 .simp only[Tab.drop] at h1 I;by_cases B:j=i
  .subst B;rw[m] at h1;cases h1;exact absurd U (qN _)
  by_cases O:k=i
  .subst O;rw[m] at I;cases I;exact absurd V (qN _)
  rw[o j B] at h1;rw[o k O] at I;exact h.H0 j k Q Y h1 I U V Z
 .simp only[Tab.drop] at h1;by_cases B:j=i
  .subst B;rw[m] at h1;cases h1;exact absurd I (qN _)
  .rw[o j B] at h1;exact h.ok j Q h1 I
def Iu:∀{l m:List Nat},l.Nodup->l ⊆ m->l.length<=m.length:=by
 intro l;induction l with
 |nil=>intro m _ _;exact Nn _
 |cons a l q=>
  intro m i j;rw[rO] at i;have ha:a∈m:=j lb;have B:l ⊆ m.erase a:=λx o=>(ri (λe:x=a=>i.1 (e▸o))).2 (j (kx _ o));have:=q i.2 B;rw[qy ha] at this;have:=qB ha;simp only[gD];omega
def Tab.UD{G:α->Prop}{t:Tab α}(h:t.Inv G):t.free.length<=t.places.length:=by
 have j:t.free ⊆ List.range t.places.length:=λi hi=>by
  obtain⟨p,hp,_⟩:=(h.ZU i).1 hi;exact nW.2 (Ad.1 hp).1
 have:=Iu h.Rn j;simpa using this
def strOf(l:List Int):ByteArray:=⟨(l.map λx=>UInt8.ofNat x.toNat).toArray⟩
def Ha{l:List Int}(h:∀x∈l,0<=x/\x<256):Bm (strOf l)=l:=by
 unfold Bm strOf;simp only[nu];conv=>rhs;rw[<-List.map_id l]
 refine oh λx i=>?_;have:=h x i;simp only[Function.comp,UInt8.toNat_ofNat',id];omega
def Vr{a:Attr}(h:NR a):∀x∈Ky a,0<=x/\x<256:=by
 obtain⟨j,m,a3,a4,a5⟩:=h;intro x i;simp only[Ky,By] at i;rcases i with i|i|i|i|i|i
 .exact KJ (Hh j.1 j.2) x i
 .exact KJ (by omega) x i
 .exact KJ (Hh a3.1 a3.2) x i
 .exact KJ (by omega) x i
 .exact KJ a5 x i
 .simp only[Bm,lT] at i;obtain⟨b,_,rfl⟩:=i;have:=b.toNat_lt;omega
def Kl{l:List Attr}(h:∀a∈l,NR a):∀x∈Fy l,0<=x/\x<256:=by
 intro x i;simp only[Fy,rA] at i;obtain⟨a,ha,i⟩:=i;exact Vr (h a ha) x i
def El(l:List Attr):ByteArray:=strOf (Fy l)
def JQ{l m:List Attr}(hl:∀a∈l,NR a)(hm:∀a∈m,NR a)(h:El l=El m):l=m:=by
 refine XP hl hm ?_;rw[<-Ha (Kl hl),<-Ha (Kl hm)];exact lV Bm h
def Ea(t:Tab (List Attr))(f:Value->Option Value):Prop:=∀s v,f (.string s)=some v↔∃(i:Nat) (p:Ent (List Attr)),t.places[i]?=some p/\0<p.held/\s=El p.set/\v=zI ((i:Int)+1)
def RN(ks:List Attr->Prop)(s:List Attr):Prop:=s≠[]/\(∀a∈s,NR a)/\ks s
def Ea.some{K:List Attr->Prop}{t:Tab (List Attr)}{f:Value->Option Value}(h:Ea t f)(hi:t.Inv (RN K)){s:List Attr}(m:∀a∈s,NR a)(o:f (.string (El s))=some v):∃i n:Nat,t.places[i]?=.some ⟨s,n⟩/\0<n/\v=zI ((i:Int)+1):=by
 obtain⟨i,p,h1,j,q,B⟩:=(h _ _).1 o;have:=JQ m (hi.ok i p h1 j).2.1 q;subst this;exact⟨i,p.held,h1,j,B⟩
def Ea.none{t:Tab (List Attr)}{f:Value->Option Value}(h:Ea t f){s:List Attr}(j:f (.string (El s))=Option.none):∀(i:Nat) (p:Ent (List Attr)),t.places[i]?=.some p->0<p.held->p.set≠s:=by
 rintro i p h1 m rfl;have:=(h (El p.set) _).2 ⟨i,p,h1,m,rfl,rfl⟩;rw[j] at this;cases this
def Ea.IQ{t:Tab (List Attr)}{f:Value->Option Value}(h:Ea t f){i:Nat}{p:Ent (List Attr)}(hp:t.places[i]?=.some p)(h0:0<p.held){n:Nat}(J:0<n):Ea (t.IQ i ⟨p.set,n⟩) f:=by
 intro s v;rw[h s v];have hi:=(Ad.1 hp).1;constructor
 .rintro⟨j,q,h1,I,o,B⟩;by_cases e:j=i
  .subst e;rw[hp] at h1;cases h1;exact⟨j,⟨p.set,n⟩,by show(t.places.set j _)[j]?=_;rw[lL hi],J,o,B⟩
  .exact⟨j,q,by show(t.places.set i _)[j]?=_;rw[lY (oF e)];exact h1,I,o,B⟩
 .rintro⟨j,q,h1,I,o,B⟩;have m:(t.places.set i ⟨p.set,n⟩)[j]?=.some q:=h1;by_cases e:j=i
  .subst e;rw[lL hi] at m;cases m;exact⟨j,p,hp,h0,o,B⟩
  .rw[lY (oF e)] at m;exact⟨j,q,m,I,o,B⟩
open Classical in
def Ea.put{K:List Attr->Prop}{t:Tab (List Attr)}{f:Value->Option Value}(h:Ea t f)(hi:t.Inv (RN K)){s:List Attr}(J:RN K s)(O:f (.string (El s))=Option.none) :
  Ea (t.put s).2 (λQ=>if Q=.string (El s) then Option.some (zI (((t.put s).1:Int)+1)) else f Q):=by
 obtain⟨_,h1,X,U,_⟩:=Tab.GA hi J (h.none O);intro V v;simp only[pd];constructor
 .intro I;split at I
  .rename_i e;subst e;cases I;exact⟨_,_,h1,Nat.one_pos,rfl,rfl⟩
  .obtain⟨j,p,i,o,m,q⟩:=(h V v).1 I;have B:j≠(t.put s).1:=by
    rintro rfl;have:=X p i;omega
   exact⟨j,p,(U j B).trans i,o,m,q⟩
 .rintro⟨j,p,i,o,m,q⟩;by_cases B:j=(t.put s).1
  .subst B;rw[h1] at i;cases i;rw[DN m,q]
  .rw[U j B] at i;rw[Bp]
   .exact(h V v).2 ⟨j,p,i,o,m,q⟩
   .intro e;rw[e] at m;exact h.none O j p i o (JQ (hi.ok j p i o).2.1 J.2.1 m.symm)
open Classical in
def Ea.drop{K:List Attr->Prop}{t:Tab (List Attr)}{f:Value->Option Value}(h:Ea t f)(hi:t.Inv (RN K)){i:Nat}{p:Ent (List Attr)}(hp:t.places[i]?=.some p)(h0:0<p.held) :
  Ea (t.drop [] i) (λY=>if Y=.string (El p.set) then Option.none else f Y):=by
 have U:=(Ad.1 hp).1;have B:(t.places.set i ⟨[],0⟩)[i]?=.some ⟨[],0⟩:=lL U;have o:∀j:Nat,j≠i->(t.places.set i (⟨[],0⟩:Ent (List Attr)))[j]?=t.places[j]?:=λj I=>lY (oF I);intro Z v;simp only[pd];constructor
 .intro V;split at V
  .cases V
  .rename_i e;obtain⟨j,q,Q,J,O,X⟩:=(h Z v).1 V;have I:j≠i:=by
    rintro rfl;rw[hp] at Q;cases Q;exact e O
   exact⟨j,q,(o j I).trans Q,J,O,X⟩
 .rintro⟨j,q,Q,J,O,X⟩;have m:(t.places.set i (⟨[],0⟩:Ent (List Attr)))[j]?=.some q:=Q;by_cases I:j=i
  .subst I;rw[B] at m;cases m;exact absurd J (qN _)
  .rw[o j I] at m;rw[Bp]
   .exact(h Z v).2 ⟨j,q,m,J,O,X⟩
   .intro e;rw[e] at O;exact I (hi.H0 j i q p m hp J h0 (JQ (hi.ok j q m J).2.1 (hi.ok i p hp h0).2.1 O.symm))
def Ea.z:Ea (Tab.z _) (λ_=>Option.none):=λs v=>by simp[Tab.z]
def RI(w:World)(r:Nat):Nat:=match w.heap[r]? with|some (.stringIter _ p)=>p|_=>0
def O8{r:Nat}{s:ByteArray}(h:w.heap[r]?=some (.stringIter s j))(hp:j<s.size) :
  (Instr.next (.pointer (some ⟨r,0,none⟩)) true ty).run P w=.ok (.tuple #[.bool true,zI j,.int .i32 (Utf8.decode s j).1]) { w with heap:=w.heap.setIfInBounds r (.stringIter s (j+(Utf8.decode s j).2)) }:=by
 simp only[Instr.next,getObj,setObj,lH,Sem.run,h,Result.andThen,hp,mF];simp[goInt]
def Ns{r:Nat}{s:ByteArray}(h:w.heap[r]?=some (.stringIter s j))(hp:¬j<s.size) :
  (Instr.next (.pointer (some ⟨r,0,none⟩)) true ty).run P w=.ok (.tuple #[.bool false]) w:=by
 simp only[Instr.next,getObj,lH,Sem.run,h,Result.andThen,hp,lW];rfl
def Mod.setObj(w:World)(r:Nat)(o o':Obj)(h:w.heap[r]?=some o):Mod (λb=>b=r) w { w with heap:=w.heap.setIfInBounds r o' }:=
 ⟨rfl,rfl,rfl,by simp,λx _ i=>(qL h).2 x i⟩
def Tk{b:List Int}(h:Bv S w v b)(hb:Bj b):(convert 23 9 v).run prog w=.ok (.string (strOf b)) w:=by
 obtain⟨a,c,rfl,hm⟩:=h.shape;cases a with
 |none=>
  have:b=[]:=by
   cases b with
   |nil=>rfl
   |cons x b=>obtain⟨p,r,e,_⟩:=h.get (i:=0) (by simp);cases e
  subst this;exact run_convert_bytes_nil w 23 5 (by kernel_rfl) (by kernel_rfl) _ _ _ (by kernel_rfl)
 |some p=>
  have hl:(b.map λx=>UInt8.ofNat x.toNat).length=b.length:=by simp
  have:=run_convert_bytes_back (P:=prog) w 23 9 5 p c (b.map λx=>UInt8.ofNat x.toNat) (by kernel_rfl) (by kernel_rfl) (by kernel_rfl) (λj m=>by
   rw[hl] at m;obtain⟨_,r,e,_,hr,hc,rfl⟩:=h.get m;cases e;have:=hc 0 _ rfl;rw[oI,lf] at this;rw[this];have o:=hb b[j] (ku m);simp only[nA,UInt8.toNat_ofNat'];congr 2
   omega)
  rw[hl] at this;exact this
def Pt{s:ByteArray}{r:Int}{n:Nat}(hp:e<s.size)(h:Ct ((Bm s).drop e)=(r,n))(J:n≠0):((Utf8.decode s e).1:Int)=r/\(Utf8.decode s e).2=n:=by
 have m:∀k c,((Bm s).drop e)[k]?=some c->e+k<s.size/\(((s.get! (e+k)).toNat:Nat):Int)=c:=by
  intro k c hc;rw[mM] at hc;have Q:e+k<s.size:=by
   have:=(Ad.1 hc).1;rwa [DK] at this
  refine⟨Q,?_⟩;have hg:s.get! (e+k)=s[e+k]'Q:=by
   simp[ByteArray.get!,pS,Q];rfl
  rw[hg];simp only[Bm,ly] at hc;have Z:e+k<s.data.toList.length:=by simpa using Q
  rw[Bq Z] at hc;have:=lK hc;exact this
 have U:Bj ((Bm s).drop e):=λx hx=>by
  have:=ky hx;simp only[Bm,lT] at this;obtain⟨b,_,rfl⟩:=this;have:=b.toNat_lt;omega
 have a1:((Bm s).drop e).length≠0:=by rw[Hy,DK];omega
 generalize (Bm s).drop e=l at h m U a1;obtain⟨i,t,rfl⟩:∃x t,l=x::t:=by cases l with|nil=>simp at a1|cons x t=>exact⟨x,t,rfl⟩
 obtain⟨_,e0⟩:=m 0 i rfl;have h0:=U i lb;generalize V:(s.get! (e+0)).toNat=O at e0;by_cases ha:i<128
 .rw[L0 h0.1 ha] at h;cases h;simp only[Utf8.decode,V];rw[DN (by omega)];exact⟨e0,rfl⟩
 rcases Q3 i with j|j|j|j
 .rw[QX U (by omega) j] at h;cases h;exact absurd rfl J
 .cases t with
  |nil=>rw[DS h0.2 (by rw[j];simp)] at h;cases h;exact absurd rfl J
  |cons c1 t=>
   have h1:=U c1 (by simp);obtain⟨l1,e1⟩:=m 1 c1 rfl;generalize I:(s.get! (e+1)).toNat=B at e1;rw[ZJ j h1.1 h1.2] at h;split at h
   .rename_i hc;cases h;have a6:194<=i/\i<224:=by
     unfold CH at j
     (repeat' split at j)<;>omega
    have o:128<=Jb i:=by
     unfold Jb;split
     .decide
     .split<;>decide
    have q:JK i<=191:=by
     unfold JK;split
     .decide
     .split<;>decide
    have q1:(O/32==6&&(decide (e+1<s.size)&&B/64==2))=true:=by
     simp only[gC,pY,jD];exact⟨by omega,l1,by omega⟩
    simp only[Utf8.decode,V,I];rw[Bp (by omega),DN q1,DN (by omega)];exact⟨by omega,rfl⟩
   .cases h;exact absurd rfl J
 .rcases t with _|⟨c1,_|⟨c2,t⟩⟩
  .rw[DS h0.2 (by rw[j];simp)] at h;cases h;exact absurd rfl J
  .rw[DS h0.2 (by rw[j];simp)] at h;cases h;exact absurd rfl J
  .have h1:=U c1 (by simp);have h2:=U c2 (by simp);obtain⟨l1,e1⟩:=m 1 c1 rfl;obtain⟨l2,e2⟩:=m 2 c2 rfl;generalize I:(s.get! (e+1)).toNat=B at e1;generalize Y:(s.get! (e+2)).toNat=X at e2;rw[Yp j h1.1 h1.2 h2.1 h2.2] at h;split at h
   .rename_i hc;cases h;have a6:224<=i/\i<240:=by
     unfold CH at j
     (repeat' split at j)<;>omega
    have o:(if i=224 then(160:Int) else 128)<=c1:=by
     refine rH ?_ hc.1.1;unfold Jb;split
     .decide
     .split<;>decide
    have q:c1<=(if i=237 then(159:Int) else 191):=by
     refine rH hc.1.2 ?_;unfold JK;split
     .decide
     .split<;>decide
    have a7:128<=c1:=by split at o<;>omega
    have a8:c1<=191:=by split at q<;>omega
    have q1:¬(O/32==6&&(decide (e+1<s.size)&&B/64==2))=true:=by
     simp only[gC,pY,jD];rintro⟨x,_⟩;omega
    have q2:(O/16==14&&(decide (e+1<s.size)&&B/64==2)&&(decide (e+2<s.size)&&X/64==2))=true:=by
     simp only[gC,pY,jD];exact⟨⟨by omega,l1,by omega⟩,l2,by omega⟩
    have q3:(decide (O%16*4096+B%64*64+X%64 ≥ 2048)&&Utf8.valid ((O%16*4096+B%64*64+X%64:Nat):Int))=true:=by
     simp only[Utf8.valid,gC,oD,jD];refine⟨by split at o<;>omega,?_⟩;split at q
     .left;omega
     .by_cases hb:i<237
      .left;omega
      .right;omega
    simp only[Utf8.decode,V,I,Y];rw[Bp (by omega),Bp q1,DN q2,DN q3];exact⟨by omega,rfl⟩
   .cases h;exact absurd rfl J
 .rcases t with _|⟨c1,_|⟨c2,_|⟨c3,t⟩⟩⟩
  .rw[DS h0.2 (by rw[j];simp)] at h;cases h;exact absurd rfl J
  .rw[DS h0.2 (by rw[j];simp)] at h;cases h;exact absurd rfl J
  .rw[DS h0.2 (by rw[j];simp)] at h;cases h;exact absurd rfl J
  .have h1:=U c1 (by simp);have h2:=U c2 (by simp);have h3:=U c3 (by simp);obtain⟨l1,e1⟩:=m 1 c1 rfl;obtain⟨l2,e2⟩:=m 2 c2 rfl;obtain⟨l3,e3⟩:=m 3 c3 rfl;generalize I:(s.get! (e+1)).toNat=B at e1;generalize Y:(s.get! (e+2)).toNat=X at e2;generalize ak:(s.get! (e+3)).toNat=m3 at e3;rw[YO j h1.1 h1.2 h2.1 h2.2 h3.1 h3.2] at h;split at h
   .rename_i hc;cases h;have a6:240<=i/\i<245:=by
     unfold CH at j
     (repeat' split at j)<;>omega
    have o:(if i=240 then(144:Int) else 128)<=c1:=by
     refine rH ?_ hc.1.1;unfold Jb;rw[Bp (show ¬i=224 by omega)];exact rj _
    have q:c1<=(if i=244 then(143:Int) else 191):=by
     refine rH hc.1.2 ?_;unfold JK;rw[Bp (show ¬i=237 by omega)];exact rj _
    have a7:128<=c1:=by split at o<;>omega
    have a8:c1<=191:=by split at q<;>omega
    have q1:¬(O/32==6&&(decide (e+1<s.size)&&B/64==2))=true:=by
     simp only[gC,pY,jD];rintro⟨x,_⟩;omega
    have q2:¬(O/16==14&&(decide (e+1<s.size)&&B/64==2)&&(decide (e+2<s.size)&&X/64==2))=true:=by
     simp only[gC,pY,jD];rintro⟨⟨x,_⟩,_⟩;omega
    have q3:(O/8==30&&(decide (e+1<s.size)&&B/64==2)&&(decide (e+2<s.size)&&X/64==2)&&(decide (e+3<s.size)&&m3/64==2))=true:=by
     simp only[gC,pY,jD];exact⟨⟨⟨by omega,l1,by omega⟩,l2,by omega⟩,l3,by omega⟩
    have q4:(decide (O%8*262144+B%64*4096+X%64*64+m3%64 ≥ 65536)&&Utf8.valid ((O%8*262144+B%64*4096+X%64*64+m3%64:Nat):Int))=true:=by
     simp only[Utf8.valid,gC,oD,jD];refine⟨by split at o<;>omega,?_⟩;right;split at q<;>omega
    simp only[Utf8.decode,V,I,Y,ak];rw[Bp (by omega),Bp q1,Bp q2,DN q3,DN q4];exact⟨by omega,rfl⟩
   .cases h;exact absurd rfl J
def Qt{b:List Int}(h:Bv S w v b)(hb:Bj b)(hT:EA w)(hl:b.length*4<=140737488355328) :
  AB prog 50 [v] (λv' w'=>Grow w w'/\match Bf b with
   |some l=>∃sl,v'=.tuple #[sl,.int .i64 0]/\AE w.heap.size 21 1 Be w' sl l
   | none=>v'=.tuple #[.slice none 0 0,.int .i64 3]) w:=by
 refine uS1 (dB 2256293983425625 [([4],[(4,4),(6,6),(13,19)])] []) func50 (λ_ _ _=>⟨by conv=>lhs;reduce,by dsimp only[PI,AF],by kernel_rfl⟩) ?_;unfold uI;refine AA (Xd h hb hT) ?_;rintro _ J ⟨rfl,X⟩;rw[Ah];cases hr:Bf b with
 |none=>exact AQ ⟨X,rfl⟩
 |some rs=>
  refine AL (AX (Tk (h.grow X (by decide) λ_ _ h=>h) hb) ?_);have Y:Bm (strOf b)=b:=Ha hb;have Iz:(strOf b).size=b.length:=by rw[<-DK,Y]
  generalize strOf b=s at Y Iz;refine AX (run_range_string J 9 s (by kernel_rfl)) ?_;have hit:=World.iter_heap J s 0;have g2:Grow J (J.iter s 0):=Mod.alloc _ _ _;have al:=X.size;generalize J.iter s 0=w2 at hit g2;generalize an:J.heap.size=r at hit;have av:w.heap.size<=r:=by omega
  refine AU (λvs W=>∃(pos:Nat) (lv:Value) (acc:List Int),pos<=b.length/\acc.length<=pos/\vs=[lv]/\W.heap[r]?=some (.stringIter s pos)/\AE w.heap.size 21 1 Be W lv acc/\lv.ownBlock≠some r/\Grow w W/\Bf b=(Bf (b.drop pos)).map (acc++·)) (λ_ W=>b.length-RI W r)
   ⟨0,_,[],Nn _,K8 _,rfl,hit,AE.nil,(λh=>nomatch h),X.trans g2,by simp⟩ ?_
  rintro vs W ⟨pos,lv,acc,a7,a8,rfl,hi,ho,o,gW,i⟩ _;have m:RI W r=pos:=by simp[RI,hi]
  by_cases B:pos<s.size
  .have ak:pos<b.length:=by omega
   have Z:b.drop pos≠[]:=by intro e;have:=lV List.length e;simp at this;omega
   have I:=Vq (b.drop pos);rw[Hy] at I;rw[NQ Z] at i;have a1:∃q n,Ct (b.drop pos)=(q,n):=⟨_,_,rfl⟩;obtain⟨q,n,hq⟩:=a1;rw[hq] at i I;simp only at i I;have hn:n≠0:=by
    intro e;rw[DN e,hr] at i;cases i
   rw[Bp hn] at i;obtain⟨d1,d2⟩:=Pt (s:=s) B (by rw[Y];exact hq) hn;refine AX (O8 hi B) ?_;rw[d1,d2];refine Ae (vs:=[_,_,_]) (by rfl) (AQ (Ae (vs:=[_,_,_]) (by rfl) ?_));have m3:=Mod.setObj W r _ (.stringIter s (pos+n)) hi;have a6:=(qL (o':=.stringIter s (pos+n)) hi).1;have j:({ W with heap:=W.heap.setIfInBounds r (.stringIter s (pos+n)) }:World).heap[r]?=some (.stringIter s (pos+n)):=a6;generalize ({ W with heap:=W.heap.setIfInBounds r (.stringIter s (pos+n)) }:World)=W3 at m3 j;have O:AE w.heap.size 21 1 Be W3 lv acc:=AE.mod ho m3 (λg hg e=>o (e▸hg)) λ_ _ _ h=>h;have Q:Grow w W3:=gW.next m3 λx hx e=>by omega
   show Dg _ _ _ _ [(0,.int .i32 q)] _ _;refine Dp Is O Q.size (cs:=[.int .i32 q]) (x:=q) (by kernel_rfl) rfl rfl (λ_ _ _=>Be.one) (λ_ _ _ _ _ _ h=>h) (by omega) (by simp only[maxLen];omega) λv' w' h1 h2 h3=>?_;have U:r<W3.heap.size:=(mZ.1 j).1;have V:w'.heap[r]?=some (.stringIter s (pos+n)):=(h2.same r U o).trans j;refine⟨⟨pos+n,v',acc++[q],by omega,by simp;omega,rfl,V,h1,λe=>?_,Q.next h2 λx hx e=>?_,?_⟩,?_⟩
   .rcases h3 r e with e|e
    .exact o e
    .omega
   .have:=(AE.Aj O x e).1;omega
   .rw[i,oo];cases Bf (b.drop (pos+n))<;>simp
   .rw[m];have:RI w' r=pos+n:=by simp[RI,V]
    rw[this];omega
  .refine AX (Ns hi B) ?_;refine Ae (vs:=[_]) (by rfl) (AL ?_);have:pos=b.length:=by omega
   subst this;rw[nd,OT,hr] at i;simp only[mw,gM,lA] at i;subst i;exact⟨gW,lv,rfl,ho⟩
def Ia:Ch prog 23 5 1 1:=⟨Tryz.t5,.int .u8 0,by kernel_rfl,by kernel_rfl,by kernel_rfl,by kernel_rfl,by kernel_rfl,by rfl,by decide⟩
def H9.one{r:List Value}{x:Int}(h:H9 w r x):∀u∈r,u.oneCell'=true:=by
 subst h;intro u hu;simp at hu;subst hu;rfl
abbrev FY(B:Nat)(w:World)(v:Value)(l:List Int):Prop:=AE B 5 1 H9 w v l
def eS{x:Int}(h0:0<=x)(h1:x<256):IntKind.u8.wrap x=x:=by
 have i:(2:Int) ^ IntKind.u8.bits=256:=by decide
 simp only[IntKind.wrap,i,IntKind.signed,qA];rw[Bp (by decide)];omega
def SR{x:Int}:IntKind.u8.wrap x=x%256:=by
 have i:(2:Int) ^ IntKind.u8.bits=256:=by decide
 simp only[IntKind.wrap,i,IntKind.signed,qA];rw[Bp (by decide)]
def iD:∀a:Nat,a<256->(a ||| 128)=a%128+128:=by decide +kernel
def ZY{t:TypeId}{a:Int}(w:World)(h0:0<=a)(h1:a<256):(Di .or t xo yo (.int .u8 a) (.int .u8 128)).run prog w=.ok (.int .u8 (a%128+128)) w:=by
 rw[(KR w).1];have e:((BitVec.ofInt IntKind.u8.bits a ||| BitVec.ofInt IntKind.u8.bits 128).toNat:Int)=((a.toNat ||| 128:Nat):Int):=by
  show((BitVec.ofInt 8 a ||| BitVec.ofInt 8 128).toNat:Int)=_;rw[BitVec.toNat_or,nH,nH];have e:((2 ^ 8:Nat):Int)=256:=by decide
  rw[e,ni h0 h1];rfl
 rw[e,iD _ (by omega),eS (by omega) (by omega)];congr 2
 omega
def Qq{l:List Int}(h:Bv S w v l)(hl:l.length<=1099511627776) :
  AB prog 370 [v] (λv' w'=>FY w.heap.size w' v' l/\Grow w w') w:=by
 refine uS1 (dB 267353 [] []) func370 (λ_ _ _=>⟨by conv=>lhs;reduce,by dsimp only[PI,AF],by kernel_rfl⟩) ?_;unfold uI;obtain⟨a,c,rfl,hm⟩:=h.shape;rw[Ty];cases a with
 |none=>
  have:l=[]:=by
   cases l with
   |nil=>rfl
   |cons x l=>obtain⟨p,r,e,_⟩:=h.get (i:=0) (by simp);cases e
  subst this;exact AQ ⟨AE.nil,Mod.refl _ _⟩
 |some p=>
  refine AL ?_;refine Hk ?_;have m:Grow w (w.alloc (.cells #[] 5)):=Mod.alloc _ _ _;have o:FY w.heap.size (w.alloc (.cells #[] 5)) (.slice (some ⟨w.heap.size,0,none⟩) 0 0) []:=AE.made (K8 _);obtain⟨v',w',h1,q,B,I⟩:=AE.append (ty:=23) Ia o (h.grow m (by decide) λ_ _ h=>h) (λ_ _=>H9.one) (by simp;omega) (by simp) (by simpa using hm) (λ_ _ _ _ h=>h);refine AX h1 ⟨?_,m.next (Mod.of_grownBy B) ?_⟩
  .refine q.base λg j=>?_;rcases I g j with h|h
   .cases h;exact K8 _
   .simp only[qI] at h;omega
  .intro b hb e;simp only[Value.ownBlock,gM] at e;omega
def QK{n:Int}(h:K (.int .u8 (n%256)) w):runK prog (convert 52 5 (.int .u64 n)) K w:=by
 refine AX (EG (k:=.u8) w (by kernel_rfl) (by kernel_rfl)) ?_;rw[SR];exact h
def KF{l:List Int}{n:Nat}(h:Bv S w v l)(hl:l.length+20<=1099511627776)(B:n<18446744073709551616) :
  AB prog 324 [v,.int .u64 n] (λv' w'=>FY w.heap.size w' v' (l++uv n)/\Grow w w') w:=by
 refine uS2 (dB 8607021257 [([0,1],[(0,1),(7,16)])] []) func324 (λ_ _ _ _=>⟨by conv=>lhs;reduce,by dsimp only[PI,AF],by kernel_rfl⟩) ?_;unfold uI;refine AA (Qq h (by omega)) ?_;rintro v1 Y ⟨I,J⟩;have o:(128:Nat) ^ (9+1)=1180591620717411303424:=by decide
 refine AU (λvs W=>∃(f m:Nat) (pre:List Int) (lv:Value),vs=[lv,.int .u64 m]/\uv n=pre++On f m/\m<128 ^ (f+1)/\m<18446744073709551616/\pre.length+f=9/\FY w.heap.size W lv (l++pre)/\Grow w W) (λvs _=>Dh vs 1)
  ⟨9,n,[],v1,rfl,rfl,by omega,B,rfl,by rw[lA];exact I,J⟩ ?_
 rintro vs W ⟨f,m,pre,lv,rfl,hu,hm,O,Z,q,g⟩ _;simp only[FC];rw[BE];refine AD (λQ=>?_) λU=>?_
 .cases f with
  |zero=>simp at hm;omega
  |succ f=>
   have i:On (f+1) m=((m%128+128:Nat):Int)::On f (m/128):=by
    simp only[On];rw[Bp (by omega)]
   refine QK (AX (ZY W (by omega) (by omega)) ?_);have V:((m:Int)%256%128+128)=((m%128+128:Nat):Int):=by omega
   rw[V];refine Kh (w0:=w) Ia q g (cs:=[.int .u8 ((m%128+128:Nat):Int)]) (x:=((m%128+128:Nat):Int)) (by kernel_rfl) rfl rfl (λ_ _ _=>H9.one) (λ_ _ _ _ _ _ h=>h) (by simp only[BW];omega) (by simp only[BW,maxLen];omega) λv' w' o' g'=>?_;refine AX (Lg (n:=7) w' (by decide)) ?_;have X:((m:Int)).fdiv (2 ^ 7)=((m/128:Nat):Int):=by
    rw[oO _ (by decide)];show(m:Int)/128=_;omega
   rw[X];refine⟨⟨f,m/128,pre++[((m%128+128:Nat):Int)],v',rfl,by rw[hu,i];simp,?_,by omega,by simp;omega,by rw[<-P9];exact o',g'⟩,?_⟩
   .rw[sB] at hm;exact pO (by omega)
   .show(((m/128:Nat):Int)).toNat<((m:Nat):Int).toNat;omega
 .have j:On f m=[(m:Int)]:=by
   cases f with
   |zero=>rfl
   |succ f=>simp only[On];rw[DN (by omega)]
  refine QK ?_;rw[show((m:Int)%256)=m by omega];refine Kh (w0:=w) Ia q g (cs:=[.int .u8 (m:Int)]) (x:=(m:Int)) (by kernel_rfl) rfl rfl (λ_ _ _=>H9.one) (λ_ _ _ _ _ _ h=>h) (by simp only[BW];omega) (by simp only[BW,maxLen];omega) λv' w' o' g'=>?_;refine⟨?_,g'⟩;rw[hu,j,<-P9];exact o'
def Ug{t:TypeId}{a b:Int}(w:World)(ha:Im a)(hb:Im b):(Di .xor t xo yo (.int .u64 a) (.int .u64 b)).run prog w=.ok (.int .u64 ((a.toNat ^^^ b.toNat:Nat):Int)) w:=by
 have e0:(Di .xor t xo yo (.int .u64 a) (.int .u64 b)).run prog w=.ok (.int .u64 (IntKind.u64.wrap (BitVec.ofInt IntKind.u64.bits a ^^^ BitVec.ofInt IntKind.u64.bits b).toNat)) w:=by
  simp[Di,eqGuard,binOp,Op.intBits]
 rw[e0];have e:((BitVec.ofInt IntKind.u64.bits a ^^^ BitVec.ofInt IntKind.u64.bits b).toNat:Int)=((a.toNat ^^^ b.toNat:Nat):Int):=by
  show((BitVec.ofInt 64 a ^^^ BitVec.ofInt 64 b).toNat:Int)=_;unfold Im at ha hb;rw[BitVec.toNat_xor,nH,nH];have e:((2 ^ 64:Nat):Int)=18446744073709551616:=by decide
  rw[e,ni ha.1 ha.2,ni hb.1 hb.2]
 have i:a.toNat ^^^ b.toNat<2 ^ 64:=Nat.xor_lt_two_pow (by unfold Im at ha;omega) (by unfold Im at hb;omega);rw[e,Fi ⟨by omega,by omega⟩]
def FV{x:Int}:IntKind.u64.wrap x=x%18446744073709551616:=by
 have i:(2:Int) ^ IntKind.u64.bits=18446744073709551616:=by decide
 simp only[IntKind.wrap,i,IntKind.signed,qA];rw[Bp (by decide)]
def fX{n:Int}(h0:-9223372036854775808<=n)(h1:n<=9223372036854775807) :
  AB prog 375 [zI n] (λv' w'=>v'=.int .u64 (Hz n:Nat)/\w'=w) w:=by
 refine uS1 (dB 9 [] []) func375 (λ_ _ _=>⟨by conv=>lhs;reduce,by dsimp only[PI,AF],by kernel_rfl⟩) ?_;unfold uI;refine AX (EG (k:=.u64) w (by kernel_rfl) (by kernel_rfl)) ?_;refine AX (Tl (n:=1) w (by decide)) ?_;refine AX (Lg (n:=63) w (by decide)) ?_;refine AX (EG (k:=.u64) w (by kernel_rfl) (by kernel_rfl)) ?_;have m:Im (IntKind.u64.wrap (IntKind.u64.wrap n*2 ^ 1)):=by
  rw[FV];exact⟨by omega,by omega⟩
 have o:Im (IntKind.u64.wrap (n.fdiv (2 ^ 63))):=by
  rw[FV];exact⟨by omega,by omega⟩
 refine AX (Ug w m o) ⟨?_,rfl⟩;congr 1
 rw[FV,FV,FV,oO _ (by decide)];have i:((2:Int) ^ 63)=9223372036854775808:=by decide
 have B:((2:Int) ^ 1)=2:=by decide
 rw[i,B];by_cases j:0<=n
 .have q:n/9223372036854775808=0:=by omega
  rw[q];simp only[Int.zero_emod,Int.toNat_zero,Nat.xor_zero];unfold Hz;rw[DN j];omega
 .have q:n/9223372036854775808=-1:=by omega
  rw[q];have r:((-1:Int)%18446744073709551616).toNat=2 ^ 64-1:=by decide
  rw[r,Nat.xor_comm,Lib.xor_ones64 _ (by omega)];unfold Hz;rw[Bp j];omega
def TS{l:List Int}{n:Int}(h:Bv S w v l)(hl:l.length+20<=1099511627776)(h0:-9223372036854775808<=n)(h1:n<=9223372036854775807) :
  AB prog 316 [v,zI n] (λv' w'=>FY w.heap.size w' v' (l++uv (Hz n))/\Grow w w') w:=by
 refine uS2 (dB 9 [] []) func316 (λ_ _ _ _=>⟨by conv=>lhs;reduce,by dsimp only[PI,AF],by kernel_rfl⟩) ?_;unfold uI;refine AA (fX h0 h1) ?_;rintro _ _ ⟨rfl,rfl⟩;exact AA (KF h hl (Hh h0 h1)) λ_ _ h=>h
def Vu{S q:Nat->Prop}{l x:List Int}(h:Bv S w v l)(j:Bv q w sv x)(hl:l.length+x.length+40<=1099511627776) :
  AB prog 325 [v,sv] (λv' w'=>FY w.heap.size w' v' (l++(uv x.length++x))/\Grow w w') w:=by
 refine uS2 (dB 9 [] []) func325 (λ_ _ _ _=>⟨by conv=>lhs;reduce,by dsimp only[PI,AF],by kernel_rfl⟩) ?_;unfold uI;obtain⟨a,c,rfl,_⟩:=j.shape;rw[AO];refine AX (EG (k:=.u64) w (by kernel_rfl) (by kernel_rfl)) ?_;rw[Fi ⟨by omega,by omega⟩];refine AA (KF h (by omega) (by omega)) ?_;rintro v1 J ⟨m,i⟩;have B:(uv x.length).length<=10:=(GP 9 x.length).2;obtain⟨v',w',h1,o,I,O⟩:=AE.append (ty:=23) Ia m (j.grow i (by decide) λ_ _ h=>h) (λ_ _=>H9.one) (by simp only[BW];omega) i.size (by simp only[BW,maxLen];omega) (λ_ _ _ _ h=>h);refine AX h1 ⟨?_,i.next (Mod.of_grownBy I) λb hb e=>by have:=(AE.Aj m b e).1;omega⟩;rw[P9] at o;exact o
def Y3{n:Nat}:(callFunc 304 #[.float .f64 n]).run prog w=.ok (.value (.int .u64 n)) w:=by
 have h:prog.funcs[304]?=some Tryz.f304:=func304
 have e0 : (Tryz.f304.name == "runtime.NumGoroutine") = false := by kernel_rfl
 have i:Tryz.f304.body.isNone=true:=by kernel_rfl
 have j:Extern.findNext Tryz.f304=none:=by kernel_rfl
 have m:Extern.find Tryz.f304=some Extern.MathFloatBits.float64bits:=by kernel_rfl
 simp only[callFunc,program,mark,lH,Sem.run,Result.andThen,h,e0,i,j,m,nY,lW,mF];rfl
def Wq{n:Int}:(callFunc 226 #[.int .u64 n]).run prog w=.ok (.value (.float .f64 n.toNat)) w:=by
 have h:prog.funcs[226]?=some Tryz.f226:=func226
 have e0 : (Tryz.f226.name == "runtime.NumGoroutine") = false := by kernel_rfl
 have i:Tryz.f226.body.isNone=true:=by kernel_rfl
 have j:Extern.findNext Tryz.f226=none:=by kernel_rfl
 have m:Extern.find Tryz.f226=some Extern.MathFloatBits.float64frombits:=by kernel_rfl
 simp only[callFunc,program,mark,lH,Sem.run,Result.andThen,h,e0,i,j,m,nY,lW,mF];rfl
def WV{n:Nat}:AB prog 303 [.float .f64 n] (λv w'=>v=.bool (decide (GR (n:Int)))/\w'=w) w:=by
 refine uS1 (dB 9 [] []) func303 (λ_ _ _=>⟨by conv=>lhs;reduce,by dsimp only[PI,AF],by kernel_rfl⟩) ?_;unfold uI;refine AX (v:=.bool (decide (GR (n:Int)))) (w':=w) ?_ ⟨rfl,rfl⟩;rw[<-SG];simp[Di,eqGuard,binOp,Op.floatCmp]
def cF{b:Bool}:AB prog 223 [.bool b] (λv w'=>v=.agg (⟨1,if b then 1 else 0,0,GX⟩:As).cells.toArray/\Grow w w') w:=by
 refine uS1 (dB 266953 [] []) func223 (λ_ _ _=>⟨by conv=>lhs;reduce,by dsimp only[PI,AF],by kernel_rfl⟩) ?_;unfold uI;refine Bz λY w1 Z a1 g2 _ q=>?_;refine⟨(⟨1,0,0,GX⟩:As).cells.toArray,by kernel_rfl,?_⟩;refine BH (vs:=(⟨1,0,0,GX⟩:As).cells) rfl rfl (As.one _) λb3 w2 a6 a7 Q B I=>?_;have J:=g2.trans Q;cases b with
 |true=>
  refine AQ ?_;rw[AH];refine(I 1 (by decide)).st rfl rfl ?_;rw[AI];have m:=Mod.setCell (M:=λx=>x=b3) w2 ⟨b3,1,none⟩ (zI 1) rfl;have hc:∀j u,(⟨1,1,0,GX⟩:As).cells[j]?=some u->(w2.setCell ⟨b3,1,none⟩ (zI 1)).cell? ((⟨b3,0,none⟩:Addr).add j)=some u:=by
   intro j u hu;rw[AI];by_cases e:j=1
   .subst e;have h1:=(I 1 (by decide)).1;rw[AI] at h1;obtain⟨u',U⟩:=lD.1 h1;cases hu;exact lM _ _ _ U
   .rw [S4 _ _ _ _ (λe'=>by simp only [Addr.mk.injEq] at e';exact e e'.2.1.symm)];have:=B j u (by
     rcases j with _|_|_|_|j
     .exact hu
     .exact absurd rfl e
     .exact hu
     .exact hu
     .exact hu)
    rwa [AI] at this
  have i:=λj O=>((q j O).mod Q λh=>h).mod m (λe=>by rw[AI] at e;have:Y=b3:=e;omega);generalize w2.setCell ⟨b3,1,none⟩ (zI 1)=w3 at m hc i ⊢;refine AV (vs:=(⟨1,1,0,GX⟩:As).cells) rfl hc ?_;refine BB rfl (As.one _) (λj O=>i j O) λw4 V o _=>?_;refine AV (vs:=(⟨1,1,0,GX⟩:As).cells) rfl o ⟨rfl,?_⟩;exact(J.next m λx X e=>by omega).next V λx X e=>by omega
 |false=>
  refine AL ?_;refine AV (vs:=(⟨1,0,0,GX⟩:As).cells) rfl B ?_;refine BB rfl (As.one _) (λj O=>(q j O).mod Q λh=>h) λw4 V o _=>?_;refine AV (vs:=(⟨1,0,0,GX⟩:As).cells) rfl o ⟨rfl,?_⟩;exact J.next V λx X e=>by omega
def fh{n:Int}:AB prog 224 [zI n] (λv w'=>v=.agg (⟨2,n,0,GX⟩:As).cells.toArray/\Grow w w') w:=by
 refine uS1 (dB 9 [] []) func224 (λ_ _ _=>⟨by conv=>lhs;reduce,by dsimp only[PI,AF],by kernel_rfl⟩) ?_;unfold uI;refine Bz λO Q o q B _ i=>?_;refine⟨(⟨2,n,0,GX⟩:As).cells.toArray,by kernel_rfl,?_⟩;refine BB rfl (As.one _) (λj I=>i j I) λw4 J m _=>?_;refine AV (vs:=(⟨2,n,0,GX⟩:As).cells) rfl m ⟨rfl,?_⟩;exact B.next J λx U e=>by omega
def YC{n:Nat}:AB prog 225 [.float .f64 n] (λv w'=>v=.agg (⟨3,0,if GR (n:Int) then 9221120237041090560 else n,GX⟩:As).cells.toArray/\Grow w w') w:=by
 refine uS1 (dB 267353 [] []) func225 (λ_ _ _=>⟨by conv=>lhs;reduce,by dsimp only[PI,AF],by kernel_rfl⟩) ?_;unfold uI;refine Bz λV J O Q I _ m=>?_;refine AA WV ?_;rintro _ _ ⟨rfl,rfl⟩;rename World=>J
 by_cases o:GR (n:Int)
 .rw[lq o];refine AQ ⟨(⟨3,0,9221120237041090560,GX⟩:As).cells.toArray,by kernel_rfl,?_⟩;refine BB rfl (As.one _) (λj q=>m j q) λw4 B i _=>?_;refine AV (vs:=(⟨3,0,9221120237041090560,GX⟩:As).cells) rfl i ⟨by rw[DN o],?_⟩;exact I.next B λx U e=>by omega
 .rw[lh o];refine AL ⟨_,_,Y3,?_⟩;refine⟨(⟨3,0,(n:Int),GX⟩:As).cells.toArray,by kernel_rfl,?_⟩;refine BB rfl (As.one _) (λj q=>m j q) λw4 B i _=>?_;refine AV (vs:=(⟨3,0,(n:Int),GX⟩:As).cells) rfl i ⟨by rw[Bp o],?_⟩;exact I.next B λx U e=>by omega
def Oj(s:ByteArray):Prop:=s.size<=64/\(Bf (Bm s)).isSome=true
instance (s:ByteArray):Decidable (Oj s):=by unfold Oj;infer_instance
def Q5(s:ByteArray):Bj (Bm s):=λx i=>by
 simp only[Bm,lT] at i;obtain⟨b,_,rfl⟩:=i;have:=b.toNat_lt;omega
def Z5{s:ByteArray}(hT:EA w):AB prog 227 [.string s] (λv w'=>v=(if Oj s then .tuple #[.agg (⟨4,0,0,s⟩:As).cells.toArray,zI 0] else .tuple #[.agg (⟨0,0,0,GX⟩:As).cells.toArray,zI 3])/\Grow w w') w:=by
 refine uS1 (dB 70081320025 [] []) func227 (λ_ _ _=>⟨by conv=>lhs;reduce,by dsimp only[PI,AF],by kernel_rfl⟩) ?_;unfold uI;refine Bz λV w1 a1 a6 X _ o=>?_;rw[Li,BE];refine AD (λY=>?_) λa7=>?_
 .refine⟨(⟨0,0,0,GX⟩:As).cells.toArray,by kernel_rfl,?_⟩;refine BB rfl (As.one _) (λj i=>o j i) λw4 m4 J _=>?_;refine AV (vs:=(⟨0,0,0,GX⟩:As).cells) rfl J ⟨by rw[Bp (λh=>by have:=h.1;omega)],?_⟩;exact X.next m4 λx Z e=>by omega
 .refine Pj (by omega) λv3 w3 g3 O=>?_;have q:=X.trans g3;have Q:∀j,j<4->Live w3 ((⟨V,0,none⟩:Addr).add j):=λj i=>(o j i).mod g3 λh=>h;refine AA (Qt O (Q5 s) (hT.grow q) (by rw[DK];omega)) ?_;rintro v5 w5 ⟨g5,hm⟩;have B:∀j,j<4->Live w5 ((⟨V,0,none⟩:Addr).add j):=λj i=>(Q j i).mod g5 λh=>h;have I:=q.trans g5;cases hr:Bf (Bm s) with
  |none=>
   rw[hr] at hm;subst hm;refine BI ?_;rw[BL];refine AW (λe=>by cases e) λ_=>?_;refine⟨(⟨0,0,0,GX⟩:As).cells.toArray,by kernel_rfl,?_⟩;refine BB rfl (As.one _) (λj i=>B j i) λw6 U m _=>?_;refine AV (vs:=(⟨0,0,0,GX⟩:As).cells) rfl m ⟨by rw[Bp (λh=>by have:=h.2;rw[hr] at this;cases this)],?_⟩;exact I.next U λx Z e=>by omega
  |some l=>
   rw[hr] at hm;obtain⟨sl,rfl,_⟩:=hm;refine BI ?_;refine Ko ?_;refine⟨(⟨4,0,0,s⟩:As).cells.toArray,by kernel_rfl,?_⟩;refine BB rfl (As.one _) (λj i=>B j i) λw6 U m _=>?_;refine AV (vs:=(⟨4,0,0,s⟩:As).cells) rfl m ⟨by rw[DN ⟨by omega,by rw[hr];rfl⟩],?_⟩;exact I.next U λx Z e=>by omega
def Ox{v:As}(hT:EA w)(h0:0<=v.f) :
  AB prog 130 [.agg v.cells.toArray] (λv' w'=>v'=.bool (decide (DT v))/\Grow w w') w:=by
 refine uS1 (dB 1173813546559550041 [] []) func130 (λ_ _ _=>⟨by conv=>lhs;reduce,by dsimp only[PI,AF],by kernel_rfl⟩) ?_;unfold uI;refine DC λb Q _ hz g hc _=>?_;have l0:=hc 0 _ rfl;have l1:=hc 1 _ rfl;have l2:=hc 2 _ rfl;have l3:=hc 3 _ rfl;have key:∀(b:Bool) w',Grow w w'->(b=true↔DT v)->Value.bool b=.bool (decide (DT v))/\Grow w w':=λb w' g h=>⟨by congr 1;rw[oE,h,jD],g⟩;have Z:∀w',Grow w w'->¬DT v->Value.bool false=.bool (decide (DT v))/\Grow w w':=λw' g h=>key false w' g (by simp only[nY,ry];exact h);have m:∀j u,v.cells[j]?=some u->Q.cell? ((⟨b,0,none⟩:Addr).add j)=some u:=hc;simp only[AH];refine AJ l0 ?_;rw[Aa];refine AD (λk1=>?_) λk1=>?_
 .refine Cv (λw2=>Grow Q w2) (Mod.drew _ _) ?_;refine Hp (vs:=v.cells) rfl (λw2 i j u hu=>i.cell (m j u hu) λh=>h) (Aw (λw2 i=>i.cell l1 λh=>h) ?_);rw[Aa];refine⟨_,λw2 i=>AA cF (by rintro _ B ⟨rfl,o⟩;exact⟨rfl,i.trans o⟩),?_⟩;refine⟨_,λw2 _=>Hl _ _ v ⟨1,if decide (v.n=1) then 1 else 0,0,GX⟩ w2,?_⟩;intro B o;refine key _ _ (g.trans o) ?_;rw[jD];constructor
  .intro e;refine .inl ⟨k1,?_,?_⟩
   .by_cases h1:v.n=1
    .rw[h1];simpa[h1] using e
    .have en:v.n=0:=by rw[e];simp[h1]
     rw[en];simpa[h1] using e
   .by_cases h1:v.n=1
    .exact .inr h1
    .left;rw[e];simp[h1]
  .rintro(h|h|h|h)
   .obtain⟨_,e,q⟩:=h;rcases q with q|q
    .rw[q] at e ⊢;exact e
    .rw[q] at e ⊢;exact e
   .omega
   .omega
   .omega
 rw[Aa];refine AD (λk2=>?_) λk2=>?_
 .refine Cv (λw2=>Grow Q w2) (Mod.drew _ _) ?_;refine Hp (vs:=v.cells) rfl (λw2 i j u hu=>i.cell (m j u hu) λh=>h) (Aw (λw2 i=>i.cell l1 λh=>h) ?_);refine⟨_,λw2 i=>AA fh (by rintro _ B ⟨rfl,o⟩;exact⟨rfl,i.trans o⟩),?_⟩;refine⟨_,λw2 _=>Hl _ _ v ⟨2,v.n,0,GX⟩ w2,?_⟩;intro B o;refine key _ _ (g.trans o) ?_;rw[jD];refine⟨λh=>.inr (.inl ⟨k2,h⟩),λh=>?_⟩;rcases h with h|h|h|h
  .omega
  .exact h.2
  .omega
  .omega
 rw[Aa];refine AD (λV=>?_) λV=>?_
 .refine Cv (λw2=>Grow Q w2) (Mod.drew _ _) ?_;refine Hp (vs:=v.cells) rfl (λw2 i j u hu=>i.cell (m j u hu) λh=>h) (Aw (λw2 i=>i.cell l2 λh=>h) ?_);refine⟨_,λw2 _=>Wq,?_⟩;refine⟨_,λw2 i=>AA YC (by rintro _ B ⟨rfl,o⟩;exact⟨rfl,i.trans o⟩),?_⟩;refine⟨_,λw2 _=>Hl _ _ v _ w2,?_⟩;intro B o;refine key _ _ (g.trans o) ?_;have ef:((v.f.toNat:Nat):Int)=v.f:=by omega
  rw[jD,ef];constructor
  .intro e;refine .inr (.inr (.inl ⟨V,?_,?_⟩))
   .by_cases q:GR v.f
    .rw[DN q] at e;have e2:v.f=9221120237041090560:=lV As.f e;rw[e2];exact e
    .rw[Bp q] at e;exact e
   .by_cases q:GR v.f
    .rw[DN q] at e;exact .inr (lV As.f e)
    .exact .inl q
  .rintro(h|h|h|h)
   .omega
   .omega
   .obtain⟨_,e,q⟩:=h;by_cases X:GR v.f
    .rw[DN X];rw[q.resolve_left λx=>x X] at e;exact e
    .rw[Bp X];exact e
   .omega
 rw[Aa];refine AD (λY=>?_) λY=>Z _ g ?_
 .refine AJ l3 (AA (Z5 (hT.grow g)) ?_);rintro v3 B ⟨rfl,o⟩;have I:=g.trans o;by_cases J:Oj v.s
  .rw[DN J];refine BI ?_;refine BH (vs:=(⟨4,0,0,v.s⟩:As).cells) rfl rfl (As.one _) λb4 w4 _ _ U O _=>?_;rw[Aa];refine AD (λ_=>?_) λe=>(e rfl).elim;refine AV (vs:=v.cells) rfl (λj u hu=>(o.trans U).cell (m j u hu) λh=>h) ?_;refine AV (vs:=(⟨4,0,0,v.s⟩:As).cells) rfl O (AX (Hl _ _ v ⟨4,0,0,v.s⟩ w4) ?_);refine key _ _ (I.trans U) ?_;rw[jD];refine⟨λe=>.inr (.inr (.inr ⟨Y,e,J.1,J.2⟩)),λh=>?_⟩;rcases h with h|h|h|h
   .omega
   .omega
   .omega
   .exact h.2.1
  .rw[Bp J];refine BI ?_;refine BH (vs:=(⟨0,0,0,GX⟩:As).cells) rfl rfl (As.one _) λb4 w4 _ _ U O _=>?_;rw[Aa];refine AD (λe=>by cases e) λ_=>Z _ (I.trans U) ?_;rintro(h|h|h|h)
   .omega
   .omega
   .omega
   .exact J ⟨h.2.2.1,h.2.2.2⟩
 .rintro(h|h|h|h)
  .exact k1 h.1
  .exact k2 h.1
  .exact V h.1
  .exact Y h.1
section
variable {α:Type}[Inhabited α]
def J1(enc:α->List Value)(k:Nat)(hk:∀x,(enc x).length=k)(d:Array α):(Sort.flatK enc k d).toList=(d.toList.map enc).flatten:=by
 refine mj λt=>?_;have hl:∀r∈d.toList.map enc,r.length=k:=λr hr=>by obtain⟨x,_,rfl⟩:=lT.1 hr;exact hk x
 have o:(d.toList.map enc).flatten.length=d.size*k:=by rw[Cx _ hl,I3,nj]
 by_cases ht:t<d.size*k
 .have i:0<k:=by
   rcases Nat.eq_zero_or_pos k with h|h
   .subst h;simp at ht
   .exact h
  have hi:t/k<d.size:=(rS i).2 ht;have h1:=Sort.get_flatK enc k d t ht;have q:(Sort.flatK enc k d).toList[t]?=some (Sort.flatK enc k d)[t]!:=by
   have j:t<(Sort.flatK enc k d).size:=by simpa using ht
   rw[mS,pU j,pS _ t j]
  rw[q,h1];have m:=IB (d.toList.map enc) (t/k) (t%k) (enc d[t/k]!) hl (by simp[hi]) (qj _ i);rw[pR t k] at m;rw[m];have hm:t%k<(enc d[t/k]!).length:=by rw[hk];exact qj _ i
  rw[Bq hm,pS (enc d[t/k]!) _ hm]
 .rw[lP (by simp;omega),lP (by omega)]
def JE(F i:Array Value)(h:F.size<=i.size):(Sort.putCells id 0 F i).size=i.size/\(Sort.putCells id 0 F i).toList.take F.size=F.toList:=by
 refine⟨by simp[Sort.putCells],mj λt=>?_⟩;by_cases ht:t<F.size
 .rw[mT,DN ht,mS,mS];have h1:t<i.size:=by omega
  simp[Sort.putCells,ht,h1]
 .rw[mT,Bp ht,lP (by simp;omega)]
def MU{enc:α->List Value}{k:Nat}{g m e:Nat}{d:Array α}{os:Array Obj}{i:Array Value}(q:w.heap[g]?=some (.cells i e (0,0))) :
  (Go.Proofs.sortWorldK enc k w g 0 m d os).heap[g]?=some (.cells (Sort.putCells id 0 (Sort.flatK enc k d) i) e (0,0))/\Mod (λb=>b=g) w (Go.Proofs.sortWorldK enc k w g 0 m d os):=by
 have j:g<w.heap.size:=(mZ.1 q).1;have Iz:(w.heap.modify g (Sort.onCells (Sort.putCells id 0 (Sort.flatK enc k d)))).size=w.heap.size:=by simp
 have o:(Go.Proofs.sortWorldK enc k w g 0 m d os).heap=w.heap.modify g (Sort.onCells (Sort.putCells id 0 (Sort.flatK enc k d)))++os:=rfl;refine⟨?_,⟨rfl,rfl,rfl,by rw[o,py,Iz];omega,λb hb B=>?_⟩⟩
 .rw[o,ql (by rw[Iz];exact j),rU,DN rfl,q];rfl
 .rw[o,ql (by rw[Iz];exact hb),rU,Bp (λh=>B h.symm)]
def AE.sorted{B e k:Nat}{R:World->List Value->α->Prop}{enc:α->List Value}(hk:∀x,(enc x).length=k)(h1:∀x,∀v∈enc x,v.oneCell'=true)(hR:∀w r x,R w r x↔r=enc x){g n c:Nat}{l:List α}(h:AE B e k R w (.slice (some ⟨g,0,none⟩) n c) l) :
  n=l.length/\g<w.heap.size/\Sort.HoldsK enc k w g 0 l.toArray/\∀(m:Nat) (d:Array α) (os:Array Obj),d.size=l.length->AE B e k R (Go.Proofs.sortWorldK enc k w g 0 m d os) (.slice (some ⟨g,0,none⟩) n c) d.toList/\Mod (λb=>b=g) w (Go.Proofs.sortWorldK enc k w g 0 m d os):=by
 obtain⟨rows,h2,h3,h4,h5⟩:=h;obtain⟨q1,q2⟩:=h2;rcases q2 with⟨q,_⟩|⟨g',cap,I,q,hg,V,hn,hm,o,O⟩
 .cases q
 cases q;have Y:g<w.heap.size:=(mZ.1 V).1;have J:rows=l.map enc:=by
  refine mj λi=>?_;rw[ly];by_cases hi:i<l.length
  .have Q:i<rows.length:=by omega
   rw[Bq hi,Bq Q,mw];rw[(hR w rows[i] l[i]).1 (h5 i _ _ (Bq Q) (Bq hi))]
  .rw[lP (by omega),lP (by omega)];rfl
 have U:l.length*k<=c*k:=mV _ hn;refine⟨rfl,Y,λj Z=>?_,λm d os X=>?_⟩
 .rw[pX] at Z;have a1:j<l.length*k:=by simpa using Z
  have a6:j<I.size:=by rw[o];omega
  have e0:(Sort.flatK enc k l.toArray).toList=rows.flatten:=by rw[J1 enc k hk,J]
  have e1:rows.flatten[j]?=some (Sort.flatK enc k l.toArray)[j]!:=by
   have hs:j<(Sort.flatK enc k l.toArray).size:=by rw[pX];exact Z
   rw[<-e0,mS,pU hs,pS _ j hs]
  rw[<-O,mT,DN a1,mS] at e1;rw[mQ];refine⟨?_,?_⟩
  .simp only[World.cell?,V];exact e1
  .simp[World.frozen?,V]
 .obtain⟨r1,r2⟩:=MU (enc:=enc) (k:=k) (m:=m) (d:=d) (os:=os) V;refine⟨⟨d.toList.map enc,⟨?_,.inr ⟨g,c,_,by have e:d.toList.length=l.length:=X;rw[e],hg,r1,?_,hm,?_,?_⟩⟩,by simp,λr hr=>?_,λi r x hr hx=>?_⟩,r2⟩
  .have:=Cx (d.toList.map enc) (k:=k) λr hr=>by obtain⟨x,_,rfl⟩:=lT.1 hr;exact hk x
   simpa using this
  .rw[nj,X];exact hn
  .rw[(JE (Sort.flatK enc k d) I (by rw[pX,X,o];exact U)).1];exact o
  .have:=(JE (Sort.flatK enc k d) I (by rw[pX,X,o];exact U)).2;rw[pX] at this;rw[nj,this,J1 enc k hk]
  .obtain⟨x,_,rfl⟩:=lT.1 hr;exact⟨hk x,h1 x⟩
  .rw[ly] at hr;rw[hx] at hr;exact(hR _ _ _).2 (lK hr).symm
end
def QM:Go.Shelf.Ren:=⟨λ|6=>94|15=>175|14=>174|28=>275|29=>276|20=>267|21=>268|22=>269|23=>270|24=>271|25=>272|26=>273|27=>274|46=>319|47=>320|48=>321|49=>322|50=>323|57=>376|n=>n,λ|22=>61|24=>60|25=>153|3=>3|39=>243|0=>0|53=>359|55=>52|4=>4|46=>353|45=>352|50=>186|5=>5|9=>9|66=>410|70=>414|76=>462|77=>37|n=>n,λ|n=>n⟩
def Th:Go.Proofs.SlLaysF0.n6 prog QM:={
 mixed:=by kernel_rfl,
 f6:=⟨Tryz.f94.name,by decide,func94.trans (lV some (by kernel_rfl))⟩,
 f14:=⟨Tryz.f174.name,by decide,func174.trans (lV some (by kernel_rfl))⟩,
 f15:=func175.trans (lV some (by kernel_rfl)),
 f20:=⟨Tryz.f267.name,by decide,func267.trans (lV some (by kernel_rfl))⟩,
 f21:=⟨Tryz.f268.name,by decide,func268.trans (lV some (by kernel_rfl))⟩,
 f22:=⟨Tryz.f269.name,by decide,func269.trans (lV some (by kernel_rfl))⟩,
 f23:=⟨Tryz.f270.name,by decide,func270.trans (lV some (by kernel_rfl))⟩,
 f24:=⟨Tryz.f271.name,by decide,func271.trans (lV some (by kernel_rfl))⟩,
 f25:=⟨Tryz.f272.name,by decide,func272.trans (lV some (by kernel_rfl))⟩,
 f26:=⟨Tryz.f273.name,by decide,func273.trans (lV some (by kernel_rfl))⟩,
 f27:=⟨Tryz.f274.name,by decide,func274.trans (lV some (by kernel_rfl))⟩,
 f28:=func275.trans (lV some (by kernel_rfl)),
 f29:=func276.trans (lV some (by kernel_rfl)),
 f46:=⟨Tryz.f319.name,by decide,func319.trans (lV some (by kernel_rfl))⟩,
 f47:=func320.trans (lV some (by kernel_rfl)),
 f48:=func321.trans (lV some (by kernel_rfl)),
 f49:=⟨Tryz.f322.name,by decide,func322.trans (lV some (by kernel_rfl))⟩,
 f50:=⟨Tryz.f323.name,by decide,func323.trans (lV some (by kernel_rfl))⟩,
 f57:=⟨Tryz.f376.name,by decide,func376.trans (lV some (by kernel_rfl))⟩,
 t0:=underlying0,
 a0:=Tryz.isAgg0,
 z0:=Tryz.sizeOf0,
 v0:=Tryz.zeroValue0,
 t3:=underlying3,
 a3:=Tryz.isAgg3,
 z3:=Tryz.sizeOf3,
 v3:=Tryz.zeroValue3,
 t4:=underlying4,
 a4:=Tryz.isAgg4,
 z4:=Tryz.sizeOf4,
 v4:=Tryz.zeroValue4,
 t5:=underlying5,
 a5:=Tryz.isAgg5,
 z5:=Tryz.sizeOf5,
 v5:=Tryz.zeroValue5,
 t9:=underlying9,
 a9:=Tryz.isAgg9,
 z9:=Tryz.sizeOf9,
 v9:=Tryz.zeroValue9,
 t22:=underlying61,
 a22:=Tryz.isAgg61,
 z22:=Tryz.sizeOf61,
 v22:=Tryz.zeroValue61,
 t25:=underlying153,
 a25:=Tryz.isAgg153,
 z25:=Tryz.sizeOf153,
 v25:=Tryz.zeroValue153,
 t39:=underlying243,
 a39:=Tryz.isAgg243,
 z39:=Tryz.sizeOf243,
 v39:=Tryz.zeroValue243,
 t45:=underlying352,
 a45:=Tryz.isAgg352,
 z45:=Tryz.sizeOf352,
 v45:=Tryz.zeroValue352,
 t46:=underlying353,
 a46:=Tryz.isAgg353,
 z46:=Tryz.sizeOf353,
 v46:=Tryz.zeroValue353,
 t50:=underlying186,
 a50:=Tryz.isAgg186,
 z50:=Tryz.sizeOf186,
 v50:=Tryz.zeroValue186,
 t53:=underlying359,
 a53:=Tryz.isAgg359,
 z53:=Tryz.sizeOf359,
 v53:=Tryz.zeroValue359,
 t55:=underlying52,
 a55:=Tryz.isAgg52,
 z55:=Tryz.sizeOf52,
 v55:=Tryz.zeroValue52,
 t66:=underlying410,
 a66:=Tryz.isAgg410,
 z66:=Tryz.sizeOf410,
 v66:=Tryz.zeroValue410,
 t70:=underlying414,
 a70:=Tryz.isAgg414,
 z70:=Tryz.sizeOf414,
 v70:=Tryz.zeroValue414,
 t76:=underlying462,
 a76:=Tryz.isAgg462,
 z76:=Tryz.sizeOf462,
 v76:=Tryz.zeroValue462,
 t77:=underlying37,
 a77:=Tryz.isAgg37,
 z77:=Tryz.sizeOf37,
 v77:=Tryz.zeroValue37 }
def aD(x y:DKey)(W:World):Calls prog 95 #[.agg x.cells.toArray,.agg y.cells.toArray] W λe w'=>e=.returned (zI (KO x.id y.id))/\∃q i,w'=Sort.grow (W.drewN q) i:=by
 have h:AB prog 95 [.agg x.cells.toArray,.agg y.cells.toArray] (λv w'=>v=zI (KO x.id y.id)/\∃i,w'=Sort.grow W i) W:=by
  refine uS2 (dB 9 [] []) func95 (λ_ _ _ _=>⟨by conv=>lhs;reduce,by dsimp only[PI,AF],by kernel_rfl⟩) ?_;unfold uI;refine⟨x.cells,rfl,⟨y.cells,rfl,Rm ?_⟩⟩;rw[AH];have c1:∀j u,x.cells[j]?=some u->((W.alloc (.cells x.cells.toArray 60)).alloc (.cells y.cells.toArray 60)).cell? ((⟨W.heap.size,0,none⟩:Addr).add j)=some u:=λj u hu=>(Mod.alloc (λ_=>False) _ _).cell (FQ hu) λh=>h;have c2:∀j u,y.cells[j]?=some u->((W.alloc (.cells x.cells.toArray 60)).alloc (.cells y.cells.toArray 60)).cell? ((⟨(W.alloc (.cells x.cells.toArray 60)).heap.size,0,none⟩:Addr).add j)=some u:=λj u hu=>FQ hu;refine AJ (c1 0 _ rfl) ?_;rw[AH];refine AJ (c2 0 _ rfl) ?_;refine AA WO ?_;rintro _ _ ⟨rfl,rfl⟩;exact⟨rfl,_,by rw[Sort.alloc_eq_grow,Sort.alloc_eq_grow,Sort.grow_grow]⟩
 refine og h ?_;rintro e w' ⟨v,rfl,rfl,i,rfl⟩;exact⟨rfl,0,i,rfl⟩
def fU:Sort.SWO (Go.Proofs.ltOf λx y:DKey=>KO x.id y.id):=by
 have e:∀x y:DKey,Go.Proofs.ltOf (λx y:DKey=>KO x.id y.id) x y=decide (x.id<y.id):=λx y=>by
  unfold Go.Proofs.ltOf KO;by_cases h1:x.id<y.id
  .simp[h1]
  .by_cases i:y.id<x.id<;>simp[h1,i]
 exact⟨λx=>by rw[e];simp,λx y z h1 i=>by rw[e] at *;simp at *;omega,λx y z h1 i=>by rw[e] at *;simp at *;omega⟩
instance:Inhabited DKey:=⟨DKey.zero⟩
def Wu{o:List DKey}(h:AE B 60 6 Gv w v o)(hl:o.length<=1099511627776) :
  AB prog 94 [v,.func (.func 95) #[] #[]] (λ_ w'=>∃ks:List DKey,ks.Perm o/\ks.Pairwise (λx y=>x.id<=y.id)/\AE B 60 6 Gv w' v ks/\Mod (λb=>v.ownBlock=some b) w w') w:=by
 obtain⟨a,c,rfl,_,_,hp,Z⟩:=h.shape;cases a with
 |none=>
  have e:=Z rfl;subst e;refine og (Go.Proofs.AnyF.slices_SortFunc_none Th none c _ w) ?_;rintro _ _ ⟨rfl,rfl⟩;exact⟨_,rfl,[],nK _,List.Pairwise.nil,h,Mod.refl _ _⟩
 |some p=>
  obtain⟨g,rfl,_,O,a1⟩:=hp p rfl;obtain⟨_,_,hH,hS⟩:=AE.sorted (enc:=DKey.cells) (λ_=>rfl) (λx=>Gv.one (w:=w) (x:=x) rfl) (λ_ _ _=>pJ) h;have hc:=Go.Proofs.AnyQ.slices_SortFunc Th 6 Tryz.isAgg60 Tryz.sizeOf60 DKey.cells (λ_=>rfl) (λx=>Gv.one (w:=w) (x:=x) rfl) (λx y=>KO x.id y.id) fU 95 #[] g 0 c o.toArray w (DV _ rfl) (λm os dk _ x y=>aD x y _) hH O (by simp;omega);rw[nh] at hc;refine og hc ?_;rintro _ _ ⟨rfl,q,m,os,I,J,rfl⟩;obtain⟨h1,U,V⟩:=I;have X:q.size=o.length:=by rw[h1,nh]
  obtain⟨o1,o2⟩:=hS m q os X;refine⟨_,rfl,q.toList,?_,?_,o1,o2.mono λb _ e=>by rw[e];rfl⟩
  .have e1:q.extract 0 o.length=q:=by rw[<-X];exact Array.extract_size
   have e2:o.toArray.extract 0 o.length=o.toArray:=by
    have:=Array.extract_size (xs:=o.toArray);rwa [nh] at this
   rw[e1,e2] at V;simpa using V
  .rw[nE];intro i j hi Y Q;simp only[nj] at hi Y;have:=J i j (Nn _) Q (by omega);rw[pS q i hi,pS q j Y] at this;have e:Go.Proofs.ltOf (λx y:DKey=>KO x.id y.id) q[j] q[i]=decide (q[j].id<q[i].id):=by
    unfold Go.Proofs.ltOf KO;by_cases h1:q[j].id<q[i].id
    .simp[h1]
    .by_cases U:q[i].id<q[j].id<;>simp[h1,U]
   rw[e] at this;simp only[mR] at this;simp only[Array.getElem_toList];omega
def Nt(i:List DKey):Prop:=i.Pairwise λx y=>x.id≠y.id
def RF{m:List DKey}:Ep m↔m.length<=64/\(∀k∈m,D8 k)/\Nt m:=by
 unfold Ep fE Nt;rw[nE];constructor
 .rintro⟨h1,q⟩;refine⟨h1,λk hk=>?_,λi j hi B I=>?_⟩
  .obtain⟨i,hi,rfl⟩:=List.getElem_of_mem hk;exact(q i hi _ (Bq hi)).1
  .exact(q j B _ (Bq B)).2 i I _ (Bq hi)
 .rintro⟨h1,q,J⟩;refine⟨h1,λi hi k hk=>?_⟩;rw[Bq hi] at hk;cases hk;refine⟨q _ (ku hi),λj B O o=>?_⟩;rw[Bq (by omega)] at o;cases o;exact J j i (by omega) hi B
def L8{L:List DKey}{id:Int}:(L.map λk=>(k.id,(Value.agg k.cells.toArray))).find? (λp=>decide (p.1=id))=(BK L id).map λk=>(k.id,.agg k.cells.toArray):=by
 unfold BK;rw[List.find?_map];rfl
def OE{L:List DKey}(o:Nt L){id:Int}{k:DKey}:BK L id=some k↔k∈L/\k.id=id:=by
 induction L with
 |nil=>simp[BK]
 |cons x L q=>
  unfold Nt at o;rw[mb] at o;have j:=q o.2;unfold BK at j ⊢;by_cases m:x.id=id
  .rw[List.find?_cons_of_pos (by simpa using m)];simp only[gM,Mp];constructor
   .rintro rfl;exact⟨.inl rfl,m⟩
   .rintro⟨rfl|hk,i⟩
    .rfl
    .exact(o.1 k hk (by rw[m,i])).elim
  .rw[List.find?_cons_of_neg (by simpa using m),j];constructor
   .rintro⟨h1,i⟩;exact⟨kx _ h1,i⟩
   .rintro⟨h1,i⟩;rcases Mp.1 h1 with rfl|h1
    .exact(m i).elim
    .exact⟨h1,i⟩
def Nt.perm{L L':List DKey}(hp:L.Perm L')(h:Nt L):Nt L':=(hp.pairwise_iff (R:=λx y:DKey=>x.id≠y.id) λh=>h.symm).1 h
def TI{L L':List DKey}(hp:L.Perm L')(i:Nt L)(id:Int):BK L id=BK L' id:=by
 refine Option.ext λk=>?_;rw[OE i,OE (i.perm hp),hp.mem_iff]
def Vm{L:List DKey}(i:Nt L)(j:L.Pairwise λx y=>x.id<=y.id):L.Pairwise λx y=>x.id<y.id:=by
 refine(List.Pairwise.and i j).imp λ{x y} h=>?_;obtain⟨h1,m⟩:=h;omega
structure WD (w0 W:World) (b m:Nat) (kv:Value) (keys:List DKey) (i:Nat):Prop where
 c0:W.cell? ⟨b,0,none⟩=some kv
 c1:W.cell? ⟨b,1,none⟩=some (.map (some m))
 row:AE w0.heap.size 60 6 Gv W kv keys
 mp:J0 W m ((keys.take i).map λk=>(k.id,.agg k.cells.toArray))
 hb:w0.heap.size<=b
 hm:w0.heap.size<=m
 ne:m≠b
 own:∀g,kv.ownBlock=some g->g≠m/\g≠b
 g:Grow w0 W
def WD.grow{b m i:Nat}{q:Value}{j:List DKey}(h:WD w0 W b m q j i)(o:Grow W W'):WD w0 W' b m q j i:=
 ⟨o.cell h.c0 λh=>h,o.cell h.c1 λh=>h,AE.mod h.row o (λ_ _ h=>h) λ_ _ _ h=>h,h.mp.mod o λh=>h,h.hb,h.hm,h.ne,h.own,h.g.trans o⟩
open Classical in
def SV{o:List DKey}(h:TV S w sv o) :
  AB prog 47 [sv] (λv' w'=>Grow w w'/\((Ep o/\∃ (kv:Value) (ks:List DKey),v'=.tuple #[kv,zI 0]/\ks.Perm o/\ks.Pairwise (λx y=>x.id < y.id)/\CK (λb=>w.heap.size<=b) w' kv ks)\/
   (¬ Ep o/\v'=.tuple #[.pointer none,zI 3]))) w:=by
 refine uS1 (dB 344154269580599645967449 [([19],[(2,3),(6,8),(19,46)]),([],[(2,3),(7,8),(23,38)]),([8],[(7,8),(23,32)])] [(dT [6,10,11] [0,1,3,7,0,16,63,127,255,255,0,1535,4095] [[6]] (.op 0 (.op 1 (.op 2 (.op 3 (.op 4 (.op 5 (.br (.op 6 (.op 7 (.op 8 (.op 9 (.op 10 (.op 11 (.op 12 .nil))))))) (.op 10 (.op 6 (.op 7 (.op 8 (.op 9 (.op 11 (.op 12 .nil))))))))))))))),(dC [7] [0,1,3,7,0,16,0,127] [])]) func47 (λ_ _ _=>⟨by conv=>lhs;reduce,by dsimp only[PI,AF],by kernel_rfl⟩) ?_;unfold uI;obtain⟨a,c,rfl,b2⟩:=h.shape;simp only[maxLen] at b2;rw[AO,BE];refine AD (λh6=>⟨Mod.refl _ _,.inr ⟨by rintro⟨h,_⟩;omega,rfl⟩⟩) λh6=>?_;refine AA (UZ h (by omega)) ?_;rintro v1 J ⟨o1,g1⟩;refine AX (v:=.map (some J.heap.size)) (w':=J.alloc (.map #[] 0)) rfl ?_;have g2:Grow J (J.alloc (.map #[] 0)):=Mod.alloc _ _ _;have a7:J0 (J.alloc (.map #[] 0)) J.heap.size []:=J0.make J;have b8:(J.alloc (.map #[] 0)).heap.size=J.heap.size+1:=by simp
 generalize J.alloc (.map #[] 0)=w2 at g2 a7 b8 ⊢;obtain⟨ra,rc,rfl,_,_,_,_⟩:=o1.shape;refine⟨#[.slice ra o.length rc,.map (some J.heap.size)],by kernel_rfl,?_⟩;refine DC (vs:=[.slice ra o.length rc,.map (some J.heap.size)]) λb w3 hb bc g3 a8 _=>?_;have z1:=g1.size;have z2:=g2.size;have a1:∀g,(Value.slice ra o.length rc).ownBlock=some g->g<J.heap.size:=λg hg=>(AE.Aj o1 g hg).2;have I0:WD w w3 b J.heap.size (.slice ra o.length rc) o 0:=
  ⟨by have:=a8 0 _ rfl;rwa [AI] at this,by have:=a8 1 _ rfl;rwa [AI] at this,AE.mod o1 (g2.trans g3) (λ_ _ h=>h) λ_ _ _ h=>h,by simpa using a7.mod g3 λh=>h,by omega,by omega,by omega,λg hg=>by have:=a1 g hg;omega,(g1.trans g2).trans g3⟩
 generalize Value.slice ra o.length rc=rv at I0 a1 ⊢;clear a8 a7 o1;generalize J.heap.size=m at *;rw[AO];refine AU (λvs W=>∃i:Nat,i<=o.length/\vs=[zI i]/\WD w W b m rv o i/\fE o i) (λvs _=>o.length-Dh vs 0) ⟨0,Nn _,rfl,I0,λi hi=>by omega⟩ ?_;rintro vs W ⟨i,hi,rfl,I,a6⟩ _;rw[BQ,Nr,Ai];refine AD (λbd=>?_) λbk=>?_
 .have B:i<o.length:=by omega
  have X:o[i]?=some o[i]:=Bq B;obtain ⟨p,r,rfl,_,hr,hc,rfl⟩:=(h.grow I.g (by decide) λ_ _ h=>h).get B;refine AS B (AV hr (λj u hu=>by rw [Addr.add_add];exact hc j u hu) ?_);refine BH (vs:=o[i].cells) rfl rfl (Gv.one (w:=w) (x:=o[i]) rfl) λb6 W1 bl bp g6 ak _=>?_;have I1:=I.grow g6;have av:∀ W',Grow W1 W'->¬ Ep o->(λv' w'=>Grow w w'/\((Ep o/\∃ (kv:Value) (ks:List DKey),v'=.tuple #[kv,zI 0]/\ks.Perm o/\ks.Pairwise (λx y=>x.id < y.id)/\CK (λb=>w.heap.size<=b) w' kv ks)\/
   (¬ Ep o/\v'=.tuple #[.pointer none,zI 3]))) (Value.tuple #[.pointer none,zI 3]) W':=λW' g hn=>⟨I1.g.trans g,.inr ⟨hn,rfl⟩⟩
  refine AR (λ_ Y=>Grow W1 Y/\BK (o.take i) o[i].id=none/\D8 o[i]) ?_ ?_
  .rintro _ Y ⟨O,Z,al⟩ _;have I2:=I1.grow O;refine AT (λk y=>k=7/\y=m) ?_;have V:Grow Y Y.drew:=Mod.drew _ _;have Q:=I2.grow V;have c6:∀j u,o[i].cells[j]?=some u->Y.drew.cell? ((⟨b6,0,none⟩:Addr).add j)=some u:=λj u hu=>(O.trans V).cell (ak j u hu) λh=>h;refine AG ?_;rw[AH];refine AP ⟨by rw[AI];exact Q.c1,λj U e=>by obtain⟨rfl,_⟩:=e;exact absurd U (by decide)⟩ ?_;rw[AH];refine AP ⟨c6 0 _ rfl,λj U e=>by obtain⟨rfl,_⟩:=e;exact absurd U (by decide)⟩ ?_;refine CG (vs:=o[i].cells) rfl (λj u hu=>⟨c6 j u hu,λj U e=>by obtain⟨rfl,_⟩:=e;exact absurd U (by decide)⟩) ?_;obtain⟨W4,ax,ay,m4⟩:=R7 underlying146 underlying3 Q.mp o[i].id (.agg o[i].cells.toArray) (by rw[L8,Z];rfl);refine AX (v:=undef) (w':=W4) (by simp only[lH,ax,S9,mG]) ⟨m4.mono λy _ e=>⟨rfl,e⟩,?_⟩;rw[AM,AK (by omega)];refine⟨⟨i+1,B,rfl,⟨m4.cell Q.c0 (λe=>Q.ne e.symm),m4.cell Q.c1 (λe=>Q.ne e.symm),AE.mod Q.row m4 (λg hg e=>(Q.own g hg).1 e) λ_ _ _ h=>h,?_,Q.hb,Q.hm,Q.ne,Q.own,Q.g.next m4 λx hx e=>by have:=Q.hm;omega⟩,λq hq k hk=>?_⟩,by rw[Bw,Bw];omega⟩
   .rw[S5,X,kZ];exact ay
   .by_cases e:q=i
    .subst e;rw[X] at hk;cases hk;refine⟨al,λj U k' b9 e=>?_⟩;unfold BK at Z;rw[qm] at Z;exact Z k' (ln (by rw[mT,DN U];exact b9)) (by simpa using e)
    .exact a6 q (by omega) k hk
  .refine AR (λvs Y=>Grow W1 Y/\vs=[.bool (BK (o.take i) o[i].id).isSome]) ?_ ?_
   .rintro _ Y ⟨O,rfl⟩ _;rw[BQ,Nr];cases hf:BK (o.take i) o[i].id with
    |some k'=>
     refine AQ (av _ O λhM=>?_);have h1:=qU hf;have h2:=pV hf;obtain⟨j,U,e⟩:=List.getElem_of_mem h2;rw[Lc] at U;rw[ob] at e;exact(hM.2 i B _ X).2 j (by omega) k' (by rw[Bq (by omega),e]) (by simpa using h1)
    |none=>
     refine AL (AV (vs:=o[i].cells) rfl (λj u hu=>O.cell (ak j u hu) λh=>h) ?_);refine AA bK ?_;rintro _ W3 ⟨rfl,aZ⟩;rw[Ah];refine AW (λal=>⟨O.trans aZ,rfl,al⟩) λb0=>av _ (O.trans aZ) λhM=>b0 (hM.2 i B _ X).1
   .refine AT (λk y=>k=11/\W1.heap.size<=y) ?_;have V:Grow W1 W1.drew:=Mod.drew _ _;have Id:=I1.grow V;refine AG ?_;rw[AH];refine AP ⟨by rw[AI];exact Id.c1,λj U e=>by obtain⟨rfl,_⟩:=e;exact absurd U (by decide)⟩ ?_;rw[AH];refine AP ⟨V.cell (ak 0 _ rfl) λh=>h,λj U e=>by obtain⟨rfl,_⟩:=e;exact absurd U (by decide)⟩ ?_;have look:∀W',Grow W1.drew W'->(Instr.lookup 146 (.map (some m)) (zI o[i].id) true).run prog W'=.ok (.tuple #[.agg (((BK (o.take i) o[i].id)).getD DKey.zero).cells.toArray,.bool (BK (o.take i) o[i].id).isSome]) W':=λW' g'=>by
     have:=Lz underlying146 underlying3 (Qo W') (Id.mp.mod g' λh=>h) o[i].id;rw[this,L8];cases BK (o.take i) o[i].id<;>rfl
    generalize (BK (o.take i) o[i].id).getD DKey.zero=kz at look;have one:=Gv.one (w:=w) (x:=kz) rfl;refine⟨?_,?_⟩
    .refine AX (look _ (Mod.refl _ _)) ⟨Mod.refl _ _,?_⟩;refine BI ?_;refine Bz λb7 W5 ba bb g7 _ an=>⟨g7.mono λ_ _ h=>h.elim,?_⟩;refine BB rfl one an λW6 m6 _ _=>⟨m6.mono λy _ e=>⟨rfl,by have:=V.size;omega⟩,?_,rfl⟩;exact(V.trans g7).next m6 λx hx e=>by have:=V.size;omega
    .refine Bz λb7 W5 ba bb g7 _ an=>⟨g7.mono λ_ _ h=>h.elim,?_⟩;refine AX (look _ g7) ⟨Mod.refl _ _,?_⟩;refine BI ?_;refine BB rfl one an λW6 m6 _ _=>⟨m6.mono λy _ e=>⟨rfl,by have:=V.size;omega⟩,?_,rfl⟩;exact(V.trans g7).next m6 λx hx e=>by have:=V.size;omega
 .have:i=o.length:=by omega
  subst this;refine AG ?_;rw[AH];refine AJ (by rw[AI];exact I.c0) ?_;refine AA (Wu I.row (by omega)) ?_;rintro _ Y ⟨ks,hp,hs,o2,m2⟩;have hM:Ep o:=⟨by omega,a6⟩;obtain⟨_,_,hd⟩:=RF.1 hM;have b1:=hd.perm hp.symm;refine⟨I.g.next m2 λx hx e=>by have:=(AE.Aj I.row x e).1;omega,.inl ⟨hM,_,ks,rfl,hp,Vm b1 hs,b,m,rv,_,rfl,I.hb,I.hm,m2.cell I.c0 λe=>(I.own _ e).2 rfl,m2.cell I.c1 λe=>(I.own _ e).2 rfl,(AE.sl o2).sub (λ_ _ h=>h.1) (by decide) λ_ _ h=>h,I.mp.mod m2 λe=>(I.own _ e).1 rfl,λid=>?_⟩⟩;rw[S7,L8,TI hp b1];cases BK o id<;>rfl
def aJ(l:List DKey)(hl:l.length<=1000):TV (λb=>b=w.heap.size) (w.alloc (.cells (l.map DKey.cells).flatten.toArray 60)) (.slice (some ⟨w.heap.size,0,none⟩) l.length l.length) l:=by
 refine An.made (t:=60) (l.map DKey.cells) (λr hr=>by obtain⟨x,_,rfl⟩:=lT.1 hr;rfl) (by simp) (by simp only[maxLen];omega) λi r x hr j=>?_;rw[ly,j] at hr;exact(lK hr).symm
open Classical in
def P6{D:Nat->Prop}{id:Int}{x:As}(h:CK D w v ks)(J:EA w)(h0:0<=x.f) :
  AB prog 131 [v,zI id,.agg x.cells.toArray] (λv' w'=>v'=.bool (decide (Gy ks id x))/\Grow w w') w:=by
 refine uS3 (dB 73 [] []) func131 (λ_ _ _ _ _=>⟨by conv=>lhs;reduce,by dsimp only[PI,AF],by kernel_rfl⟩) ?_;unfold uI;have I:∀w',Grow w w'->¬Gy ks id x->Value.bool false=.bool (decide (Gy ks id x))/\Grow w w':=λw' g h=>⟨by rw[lh h],g⟩;refine DC λb Z _ hz g hc _=>?_;refine AA (IP (h.grow g) id) ?_;rintro _ w2 ⟨rfl,O⟩;refine BI ?_;generalize hk:(BK ks id).getD DKey.zero=k;refine BH (vs:=k.cells) rfl rfl (Gv.one (w:=w) (x:=k) rfl) λb5 w3 Q U V q _=>?_;have m:=O.trans V;have i:=g.trans m;cases o:BK ks id with
 |none=>
  rw[Option.isSome_none];exact I _ i (by rintro⟨k,e,_⟩;rw[o] at e;cases e)
 |some X=>
  rw[o] at hk;simp only[pQ] at hk;subst hk;rw[Option.isSome_some];refine AQ ?_;rw[AH];refine AJ (q 2 _ rfl) ?_;rw[AH];refine AJ (m.cell (hc 0 _ rfl) λh=>h) ?_;rw[Aa];refine AD (λhe=>?_) λhe=>I _ i (by rintro⟨k,e,_,h⟩;rw[o] at e;cases e;exact he h.symm);refine AV (vs:=x.cells) rfl (λj u hu=>m.cell (hc j u hu) λh=>h) (AA (Ox (J.grow i) h0) ?_);rintro _ w4 ⟨rfl,Y⟩;refine⟨?_,i.trans Y⟩;congr 1
  rw[qK];constructor
  .intro B;exact⟨X,o,B,he.symm⟩
  .rintro⟨_,_,B,_⟩;exact B
end Go.Proofs.YtbdjachmndlplaaGreatDoor
