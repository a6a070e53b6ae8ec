/- parts of the proof, written short by a program of ours -/
import Derived.Test.YtjdgbcdfgnajlaaGreatDoorZZZ3
set_option linter.all false
set_option maxRecDepth 100000
namespace Go.Proofs.YtjdgbcdfgnajlaaGreatDoor
open Go Proofs.Tryz
variable {S:d_}{w W w':c_}{v:b_}{most key T:Int}{α:Type}{ks:X'}{ty:TypeId}{s:V_}{K:Cont}{P:Program}{yo xo:Operand}
def NQ:AvK where
 E:=2
 one:=false
 zE:=[zIq 0,zIq 0]
 te:=138
 tn:=396
 ts:=131
 tp:=464
 tps:=449
 tt:=173
 tT:=322
 tk:=317
 tA:=451
 fat:=312
 ftotals:=313
 fset:=380
 flift:=385
 flean:=384
 fbalance:=379
 fjoin:=356
 ffirst:=354
 flast:=352
 fconcat:=358
 fsplit:=350
 fdrop:=351
 fpick:=353
 fmelded:=355
 fReplace:=294
 fover:=235
 fOver:=138
 fOverf:=234
 fSize:=291
 fNew:=230
 aTake:=357
 aasked:=382
 aFree:=378
 aAt:=363
 aPut:=377
 aNew:=311
 vm:=.func (.func 231) #[] #[]
 vc:=.func (.func 232) #[] #[]
 vd:=.func (.func 233) #[] #[]
def nY:qN NQ where
 nU:=yR
 totals:=ye
 set:=yd
 QD:=zV
 kh:=zK
 L6:=yW
 join:=xy
 first:=yZ
 LW:=zX
 concat:=zY
 drop:=yU
 Ax:=yj
 overf:=zh
 size:=yy
 take:=yB
 Qy:=yN
 free:=yT
 aat:=xq
 put:=xe
 new:=zQ
 anew:=yH
 okOverf:=D_
def jf:kj NQ where
 split:=yb
 pick:=yG
 melded:=zJ
 replace:=xu
 Ax:=ze
def O2:AvK where
 E:=1
 one:=true
 zE:=[g_]
 te:=47
 tn:=367
 ts:=122
 tp:=429
 tps:=425
 tt:=176
 tT:=334
 tk:=329
 tA:=427
 fat:=315
 ftotals:=316
 fset:=343
 flift:=373
 flean:=372
 fbalance:=342
 fjoin:=275
 ffirst:=273
 flast:=271
 fconcat:=277
 fsplit:=269
 fdrop:=270
 fpick:=272
 fmelded:=274
 fReplace:=190
 fover:=243
 fOver:=143
 fOverf:=242
 fSize:=253
 fNew:=238
 aTake:=276
 aasked:=371
 aFree:=341
 aAt:=364
 aPut:=340
 aNew:=314
 vm:=.func (.func 239) #[] #[]
 vc:=.func (.func 240) #[] #[]
 vd:=.func (.func 241) #[] #[]
def px:qN O2 where
 nU:=xg
 totals:=zD
 set:=xb
 QD:=zj
 kh:=yO
 L6:=zS
 join:=yC
 first:=zC
 LW:=yA
 concat:=xn
 drop:=zH
 Ax:=zT
 overf:=yx
 size:=zf
 take:=yE
 Qy:=yX
 free:=yK
 aat:=yg
 put:=zl
 new:=xp
 anew:=zI
 okOverf:=D_
def jW:sZ O2 where
 split:=yn
 pick:=xd
 melded:=xw
 replace:=xf
 Ax:=zM
def JT:AvK where
 E:=33
 one:=false
 zE:=[.int .i32 0,.int .i32 0,.int .i32 0,.int .i32 0,.int .i32 0,.int .i32 0,.int .i32 0,.int .i32 0,.int .i32 0,.int .i32 0,.int .i32 0,.int .i32 0,.int .i32 0,.int .i32 0,.int .i32 0,.int .i32 0,.int .i32 0,.int .i32 0,.int .i32 0,.int .i32 0,.int .i32 0,.int .i32 0,.int .i32 0,.int .i32 0,.int .i32 0,.int .i32 0,.int .i32 0,.int .i32 0,.int .i32 0,.int .i32 0,.int .i32 0,.int .i32 0,zIq 0]
 te:=218
 tn:=375
 ts:=268
 tp:=439
 tps:=435
 tt:=170
 tT:=310
 tk:=305
 tA:=437
 fat:=310
 ftotals:=246
 fset:=348
 flift:=376
 flean:=375
 fbalance:=347
 fjoin:=288
 ffirst:=286
 flast:=284
 fconcat:=290
 fsplit:=282
 fdrop:=283
 fpick:=285
 fmelded:=287
 fReplace:=193
 fover:=228
 fOver:=133
 fOverf:=227
 fSize:=147
 fNew:=219
 aTake:=289
 aasked:=374
 aFree:=346
 aAt:=362
 aPut:=345
 aNew:=309
 vm:=.func (.func 220) #[] #[]
 vc:=.func (.func 223) #[] #[]
 vd:=.func (.func 225) #[] #[]
def qi:qN JT where
 nU:=yD
 totals:=yF
 set:=xZ
 QD:=zi
 kh:=yP
 L6:=yw
 join:=yu
 first:=xm
 LW:=yk
 concat:=yh
 drop:=ym
 Ax:=yS
 overf:=xx
 size:=xz
 take:=xi
 Qy:=xh
 free:=zO
 aat:=yQ
 put:=zU
 new:=yI
 anew:=zZ
 okOverf:=D_
def km:kj JT where
 split:=zG
 pick:=yM
 melded:=yJ
 replace:=yL
 Ax:=yY
def wU(b i j:Nat):(⟨b,i,none⟩:Addr).add j=⟨b,i+j,none⟩:=by rw[<-AH b i,Addr.add_add,AH]
def V3(b:Nat):∀(us:U_) (p:Nat) (w:c_),w.setCells b p us=Fj w ⟨b,0,none⟩ p us:=by
 intro us;induction us<;>grind[Go.World.setCells.eq_1,Go.World.setCells.eq_2,Fj,AH]
def Bx.copy{b o O dc sl V:Nat}{a:Addr}{vs us:U_}{Q X ty I:TypeId}(hu:P.underlying Q=some (.slice I))(Z:(P.info? I).map (·.size)=some 1) (h:Bx W b vs)(hn:us.length=min sl O)(ho:us=[]\/o+us.length<=vs.length)(N:∀j v,us[j]?=some v->W.cell? (a.add j)=some v)(h1:∀v∈us,v.oneCell'=true) (Y:∀W',Bx W' b (My vs o us)->AF (λx=>x=b) W W'->K (zIq (us.length:Int)) W') : runK P (Builtin.copy_ #[Q,X] ty [Value.slice (some ⟨b,o,none⟩) O dc,.slice (some a) sl V].toArray) K W:=by
 have J:∀j,j<us.length->Bg W ⟨b,o+j,none⟩:=by grind[Bx.Cq]
 apply AY (run_copy_cells W Q X ty I b o O dc a sl V us hu Z hn N (λj U=>(J j U).1) (λj U=>(J j U).2) h1);rw[V3];rcases ho with e|e;subst e;exact Y _ h (AF.refl _ _);have:=h.Fj us o W vs e;exact Y _ this.1 this.2
def lF:prog.underlying 216=some (.array (prog.arrayLen 216) (prog.elem 216))/\prog.arrayLen 216=32/\prog.elem 216=21:=by
 have hu:=underlying216;have j:prog.arrayLen 216=32:=by simp[Program.arrayLen,hu]
 have I:prog.elem 216=21:=by simp[Program.elem,hu]
 grind
theorem lO(w:c_):(sizeOf 21).run prog w=.ok 1 w:=by
 simp[sizeOf,aR,Tryz.typeInfo21,Ty,aAY];rfl
def sx{b i:Nat}(h:i<32)(j:K (.pointer (some ⟨b,i,none⟩)) W):runK prog (Instr.indexAt 216 (e_ b) (zIq (i:Int))) K W:=by
 obtain⟨ht,I,J⟩:=lF;refine AY ?_ j;grind[Go.run_indexAt_array,lO,Result.andThen_ok,AH]
def SJ{b:Nat}(j:K (.slice (f_ b) 32 32) W):runK prog (Instr.sliceAt 216 (e_ b) none none none) K W:=by
 obtain⟨ht,I,J⟩:=lF;refine AY ?_ j;rw[run_sliceAt_array_all W _ _ ht,J,lO,Ty,I];simp[slicedAt,AH]
def rR{b h:Nat}(N:h<=32)(I:K (.slice (f_ b) h 32) W):runK prog (Instr.sliceAt 216 (e_ b) none (some (zIq (h:Int))) none) K W:=by
 obtain⟨ht,j,J⟩:=lF;refine AY ?_ I;rw[run_sliceAt_array_h W _ _ ht _ _ E (by rw[j];omega),J,lO,Ty,j];simp[slicedAt,AH]
def zt{b l:Nat}(hl:l<=32)(I:K (.slice (some ⟨b,if 32=l then 0 else l,none⟩) (32-l) (32-l)) W):runK prog (Instr.sliceAt 216 (e_ b) (some (zIq (l:Int))) none none) K W:=by
 obtain⟨ht,j,J⟩:=lF;refine AY ?_ I;rw[run_sliceAt_array_l W _ _ ht _ _ E (by rw[j];omega),J,lO,Ty,j];simp[slicedAt,aAA,aB9,AH];grind
def sk{b l h:Nat}(hl:l<=h)(N:h<=32)(I:K (.slice (some ⟨b,if 32=l then 0 else l,none⟩) (h-l) (32-l)) W):runK prog (Instr.sliceAt 216 (e_ b) (some (zIq (l:Int))) (some (zIq (h:Int))) none) K W:=by
 obtain⟨ht,j,J⟩:=lF;refine AY ?_ I;rw[run_sliceAt_array_lh W _ _ ht _ _ _ _ E E (by rw[j];omega),J,lO,Ty,j];simp[slicedAt,aAA,aB9,AH];grind
def Up{e d:Nat}{k:IntKind}(he:P.plainKey e=true)(hu:P.underlying e=some (.int k)){j I:Array b_}:∀is:X_,(∀i∈is,∃a b,j[i*1]?=some (.int k a)/\I[i*1]?=some (.int k b))->∃r,(Op.eqItems (d+1) e 1 j I is).run P w=.ok r w:=by
 intro is;induction is with
 |nil=>intro _;exact⟨true,by simp[Op.eqItems]⟩
 |cons i is J=>
  intro h;obtain⟨a,b,h1,N⟩:=h i E_;obtain⟨r,hr⟩:=J B_;simp only[Op.eqItems,aR,run_part_plain w he h1,run_part_plain w he N,run_equalIn_int w d e k k a b hu,Ty];cases a==b;exact⟨false,E_⟩;exact⟨r,by simpa using hr⟩
def wX{I J:V'}(X:I.length=32)(Y:J.length=32)(N:∀r:Bool,K (.bool r) W) : runK prog (Di .eql 216 xo yo (.agg (I.map (Value.int .i32)).toArray) (.agg (J.map (Value.int .i32)).toArray)) K W:=by
 have hu:=underlying21;have hp:prog.plainKey 21=true:=by simp[Program.plainKey,hu]
 have hc:prog.cellsOf 21=1:=D_;obtain⟨i,hi⟩:∃i,prog.info? 21=some i:=⟨Tryz.t21,D_⟩;have key:∃r,(Op.equalIn 10000 216 (.agg (I.map (Value.int .i32)).toArray) (.agg (J.map (Value.int .i32)).toArray)).run prog W=.ok r W:=by
  rw[run_equalIn_array W 9999 _ _ underlying216 hi,hc];refine Up (d:=9998) hp hu _ λj O=>?_;have Q:=aBb.1 O;exact⟨I[j]'(E),J[j]'(E),B_,B_⟩
 obtain⟨r,hr⟩:=key;refine AY (v:=.bool r) (w':=W) ?_ (N r);have U:prog.eqGuardType prog.depth 216=false:=D_;have V:(eqGuard .eql 216 xo yo (.agg (I.map (Value.int .i32)).toArray) (.agg (J.map (Value.int .i32)).toArray)).run prog W=.ok () W:=by
  simp[eqGuard,U]
 simp[Di,aR,V,Ty];rw[run_eql_struct,hr];rfl
structure Ck where
 l:V'
 le:l.length<=32
abbrev _root_.Go.a_:=List Ck
namespace Ck
def nil:Ck:=⟨[],by simp⟩
def tk(c:Ck)(i:Nat):Ck:=⟨c.l.take i,by grind[le]⟩
def dp(c:Ck)(i:Nat):Ck:=⟨c.l.drop i,by grind[le]⟩
def jn(a b:Ck):Ck:=if h:a.l.length+b.l.length<=32 then⟨a.l++b.l,by simpa using h⟩ else nil
def all(c:Ck):V':=c.l++List.replicate (32-c.l.length) 0
def cells(c:Ck):U_:=c.all.map (Value.int .i32)++[zIq (c.l.length:Int)]
theorem QP(c:Ck):c.all.length=32:=by grind[le,all]
theorem len(c:Ck):c.cells.length=33:=by simp[cells,c.QP]
theorem one(c:Ck):∀u∈c.cells,u.oneCell'=true:=λu hu=>by
 simp[cells,K8,WJ,uN] at hu;rcases hu with⟨_,_,rfl⟩|rfl<;>rfl
theorem n(c:Ck):c.cells[32]?=some (zIq (c.l.length:Int)):=by
 grind[cells,QP]
theorem wV(c:Ck){j:Nat}{u:b_}(h:(c.all.map (Value.int .i32))[j]?=some u):c.cells[j]?=some u:=by
 grind[cells]
theorem get(c:Ck){j:Nat}(h:j<c.l.length):c.cells[j]?=some (.int .i32 c.l[j]):=by
 grind[wV,all]
def fill(c:Ck){us:V'}(h:c.l.length+us.length<=32):(My c.cells c.l.length (us.map (Value.int .i32))).set 32 (zIq ((c.l.length+us.length:Nat):Int))=cells ⟨c.l++us,by simpa using h⟩:=by
 have N:c.cells=c.l.map (Value.int .i32)++(List.replicate (32-c.l.length) (Value.int .i32 0)++[zIq (c.l.length:Int)]):=by
  simp[cells,all]
 have j:c.cells.take c.l.length=c.l.map (Value.int .i32):=B_;have I:c.cells.drop (c.l.length+us.length)=List.replicate (32-c.l.length-us.length) (Value.int .i32 0)++[zIq (c.l.length:Int)]:=by
  rw[N,<-aA0,aCl E_,List.drop_append_of_le_length (by simp;omega),List.drop_replicate]
 rw[SA _ _ _ (by rw[c.len];simp;omega),j,Nn,I,<-Q0,aAd _ _ (by simp;omega)];have J:32-(c.l.map (Value.int .i32)++us.map (Value.int .i32)++List.replicate (32-c.l.length-us.length) (Value.int .i32 0)).length=0:=B_;rw[J];simp[cells,all,Nat.sub_sub]
def kF{us:V'}(h:us.length<=32):(My nil.cells 0 (us.map (Value.int .i32))).set 32 (zIq (us.length:Int))=cells ⟨us,h⟩:=by
 have:=fill nil (us:=us) (by simpa[nil] using h);simp[nil,aAu,aBy,aAP] at this;exact this
end Ck
abbrev CX(l:V'):Nat:=l.count 10
def vi(c:Ck):l_ 221 [.agg c.cells.toArray] (λv w'=>v=zIq (c.l.length:Int)/\AG w w') w:=by
 refine I_ func221 ?_;grind[S221,Bx.box,AE,AH,AI,Bx.cells,Ck.n]
def Wm(c:Ck)(i:Nat):l_ 245 [.agg c.cells.toArray,zIq (i:Int)] (λv w'=>v=zIq (CX (c.l.take i):Int)/\AG w w') w:=by
 refine H_ func245 ?_ (.y (.x (.y (.node [4,11] [(4,5),(11,21)] .nil .nil))));refine Bx.box λb J hb V B=>?_;rw[Hi,AE,AH];apply AI (B.cells 32 _ c.n);have N:=c.le;have e:∀{k:b_->Prop},k (zIq ((min i c.l.length:Nat):Int))->QB .i64 (zIq (if(0:Int)>(i:Int) then 0 else(i:Int))) (zIq (c.l.length:Int)) k:=λ{k} h=>by
  rw[By E,Hh];grind
 apply e;apply Aa (λvs W=>∃k:Nat,k<=min i c.l.length/\vs=[zIq (CX (c.l.take k):Int),zIq k]/\W=J) (λvs _=>32-Da vs 1) B_;rintro vs _ ⟨k,hk,rfl,rfl⟩ _;simp[XC,Bh,HK,aAc];refine Cn (λO=>?_) λQ=>?_;have j:k<c.l.length:=E;rw[AE,AH];refine sx E (AI (B.cells k _ (c.get j)) ?_);rw[CI];have X:c.l.take (k+1)=c.l.take k++[c.l[k]]:=by grind[List.take_add_one]
 have hb:CX (c.l.take k)<=32:=by grind[List.count_le_length]
 refine Ae (λI=>?_) λI=>?_;have U:CX (c.l.take (k+1))=CX (c.l.take k)+1:=B_;rw[AQ,wrap64 E E,AQ,wrap64 E E];refine⟨⟨k+1,E,?_,rfl⟩,by grind[BV]⟩;grind;have U:CX (c.l.take (k+1))=CX (c.l.take k):=by
  grind
 rw[AQ,wrap64 E E];grind[BV];grind
def XQ(c:Ck):l_ 222 [.agg c.cells.toArray] (λv w'=>v=zIq (CX c.l:Int)/\AG w w') w:=by
 refine I_ func222 ?_;refine Bx.box λb j hb I B=>?_;apply B.GJ c.len;apply fl_i (B.cells 32 _ c.n);apply AA (Wm c c.l.length);rintro _ N ⟨rfl,J⟩;grind[AF.trans]
def Iw:V'->Nat->Option Nat
 |[],_=>none
 |r::t,k=>if r=10 then(match k with | 0=>some 0 | k+1=>(Iw t k).map (·+1)) else(Iw t k).map (·+1)
def Ji(r:Int)(t:V')(k:Nat):Iw (r::t) k=if r=10 then(match k with|0=>some 0|k+1=>(Iw t k).map (·+1)) else(Iw t k).map (·+1):=by cases k<;>rfl
def nlV:Option Nat->b_
 |some i=>.tuple #[.int .i64 (i:Int),.bool true]
 |none=>.tuple #[.int .i64 0,.bool false]
def VS(c:Ck){k:Nat}(hk:k<=1099511627776):l_ 252 [.agg c.cells.toArray,zIq (k:Int)] (λv w'=>v=nlV (Iw c.l k)/\AG w w') w:=by
 refine H_ func252 ?_ (.y (.x (.y (.node [1,9] [(1,1),(4,6),(9,22)] .nil .nil))));refine Bx.box λb Q hb U B=>?_;apply fl_i (B.cells 32 _ c.n);have V:=c.le;refine Aa (λvs W=>∃i m:Nat,i<=c.l.length/\m<=k/\vs=[zIq m,zIq i]/\Iw c.l k=(Iw (c.l.drop i) m).map (·+i)/\W=Q) (λvs _=>32-Da vs 1) ⟨0,k,Lc _,DN _,rfl,by rw[aAG];cases Iw c.l k<;>rfl,rfl⟩ ?_;rintro vs _ ⟨i,m,hi,hm,rfl,j,rfl⟩ _;simp[XC,Bh,HK,aAc];refine Cn (λX=>?_) λY=>?_;have J:i<c.l.length:=E;rw[AE,AH];refine sx E (AI (B.cells i _ (c.get J)) ?_);rw[FQ];rw[y8 J,Ji] at j;have N:∀o:Option Nat,(o.map (·+1)).map (·+i)=o.map (·+(i+1)):=λo=>by cases o<;>simp;omega
 refine BM (λO=>?_) λO=>?_;have I:=O;rw[Ix I] at j;refine eqP (λh0=>?_) λh0=>?_;grind[nlV];obtain⟨m,rfl⟩:∃Z,m=Z+1:=⟨m-1,E⟩;simp[N] at j;rw[A6,wrap64 E E,AQ,wrap64 E E];grind[BV];have I:=O;rw[By I,N] at j;rw[AQ,wrap64 E E];grind[BV];obtain rfl:i=c.l.length:=E;rw[aAv] at j;exact⟨by rw[j];rfl,U⟩
def me(c:Ck):l_ 134 [.agg c.cells.toArray] (λv w'=>AB w.heap.size 21 1 Bk w' v c.l/\AG w w') w:=by
 refine I_ func134 ?_;refine Bx.box λb U hb J B=>?_;have I:=c.le;rw[AE,AE,AH,AH];refine AI (B.cells 32 _ c.n) (rR I ?_);refine AA (Oj (S:=λ_=>True) (l:=c.l) ⟨_,_,rfl,E,by simp[maxLen],λi x N=>⟨_,[.int .i32 x],rfl,trivial,rfl,λj u hu=>?_,rfl⟩⟩ E) ?_;obtain⟨hi,rfl⟩:=Ad.1 N;grind[AH,Bx.cells,Ck.get];rintro v V ⟨o,O⟩;have:=J.size;exact⟨AB.BY o λg Q=>by have:=(AB.Am o g Q).1;omega,J.trans O⟩
def mZ(c:Ck){i:Nat}(hi:i<=c.l.length):l_ 224 [.agg c.cells.toArray,zIq (i:Int)] (λv w'=>v=.tuple #[.agg (c.tk i).cells.toArray,.agg (c.dp i).cells.toArray,zIq 0]/\AG w w') w:=by
 refine H_ func224 ?_ (.y (.cut [] [(6,16)] .nil (.cut [] [(17,23)] (.dt [1,4,5,7] (i_ [0,1,0,0,12,31,63,127]) [[1,4,5]] (.op 0 (.op 2 (.op 3 (.br (.op 1 (.op 4 (.op 5 (.op 6 (.op 7 .nil))))) (.op 4 (.op 1 (.op 5 (.op 6 (.op 7 .nil)))))))))) (.cut [] [(24,32)] (.dt [1,6,7,9] (i_ [0,1,0,0,0,16,60,127,255,511]) [[1,6,7]] (.op 0 (.op 2 (.op 3 (.op 4 (.op 5 (.br (.op 1 (.op 6 (.op 7 (.op 8 (.op 9 .nil))))) (.op 6 (.op 1 (.op 7 (.op 8 (.op 9 .nil)))))))))))) .nil))));refine Bx.box λb2 w1 a7 g1 B2=>Bx.zero λY w2 a8 g2 B4=>Bx.zero λb5 w3 aa X B5=>?_;have U:=c.le;have l2:=B2.lt (by rw[c.len];omega);have l4:=B4.lt C0;have l5:=B5.lt C0;have C2:=(B2.S_ g2).S_ X;have C4:Bx w3 Y Ck.nil.cells:=B4.S_ X;have C5:=B5;have z3:=X.size;have Z:=(g1.trans g2).trans X;have hu:=underlying81;have hs:(prog.info? 21).map (·.size)=some 1:=D_;have ak:(c.l.take i).length=i:=B_;have a1:(c.l.drop i).length=c.l.length-i:=I3;have Q:∀l:V',∀v∈l.map (Value.int .i32),v.oneCell'=true:=λl v V=>by
  obtain⟨_,_,rfl⟩:=WJ.1 V;rfl
 refine AT (λ_ W=>W=w3) ?_ ?_
 .rintro _ W rfl _;refine AT (λ_ O=>Bx O b2 c.cells/\Bx O Y (c.tk i).cells/\Bx O b5 Ck.nil.cells/\AG w O/\W.heap.size<=O.heap.size) ?_ ?_
  .rintro _ W1 ⟨D2,D4,D5,gW,zW⟩ _;refine AT (λ_ O=>Bx O Y (c.tk i).cells/\Bx O b5 (c.dp i).cells/\AG w O) ?_ ?_;rintro _ W2 ⟨E4,E5,a6⟩ _;refine E4.GJ (Ck.len _) (E5.GJ (Ck.len _) (E4.Ax (Ck.len _) (Ck.len _) (Ck.one _) λW3 F4 I=>?_));refine(E5.T_ I E).Ax (Ck.len _) (Ck.len _) (Ck.one _) λW4 F5 m4=>?_;refine(F4.T_ m4 E).GJ (Ck.len _) (F5.GJ (Ck.len _) ⟨rfl,?_⟩);exact(a6.next I E).next m4 E
   .have J:=gdr W1;have H2:=D2.S_ J;have H5:=D5.S_ J;apply Ac (λ_ y=>y=b5);rw[AE,AE,AE,AH,AH,AH];refine AP ⟨H2.cells 32 _ c.n,λ_ _ e=>by simp only at e;omega⟩ ?_;refine⟨SJ ⟨AF.refl _ _,sk hi U ⟨AF.refl _ _,?_⟩⟩,sk hi U ⟨AF.refl _ _,SJ ⟨AF.refl _ _,?_⟩⟩⟩ <;>
    .refine H5.copy hu hs (us:=(c.l.drop i).map (Value.int .i32)) B_ (by grind[Ck.len]) (λj v V=>?_) (Q _) λW2 I5 N=>?_
     .obtain⟨hj,rfl⟩:=Ad.1 V;rw[Nn,a1] at hj;rw[By E,aBZ,aC5,wU];grind[Bx.cells,Ck.get]
     refine⟨N,?_⟩;rw[AE,AH];refine I5.st (q:=32) (by rw[QR,Ck.len];omega) rfl rfl λW3 J5 I=>⟨I,?_⟩;rw[Nn] at J5;rw[(Ck.kF (us:=c.l.drop i) E)] at J5;refine⟨((D4.S_ J).T_ N E).T_ I E,J5,?_⟩;exact(((gW.trans J).next N E)).next I E
  have J:=gdr W;have H2:=C2.S_ J;have H4:=C4.S_ J;have H5:=C5.S_ J;apply Ac (λ_ y=>y=Y);rw[AE,AE,AH,AH];refine⟨SJ ⟨AF.refl _ _,rR E ⟨AF.refl _ _,?_⟩⟩,rR (by omega) ⟨AF.refl _ _,SJ ⟨AF.refl _ _,?_⟩⟩⟩ <;>
  .refine H4.copy hu hs (us:=(c.l.take i).map (Value.int .i32)) (by grind) (by grind[Ck.len]) (λj v V=>?_) (Q _) λW2 I4 N=>?_
   .obtain⟨hj,rfl⟩:=Ad.1 V;grind[AH,Bx.cells,Ck.get]
   refine⟨N,?_⟩;rw[AE,AH];refine I4.st (q:=32) (by rw[QR,Ck.len];omega) rfl rfl λW3 J4 I=>⟨I,?_⟩;rw[Nn] at J4;rw[(Ck.kF (us:=c.l.take i) E)] at J4;have zd:=J.size;have s2:=N.size;have s3:=I.size;refine⟨(H2.T_ N E).T_ I E,J4,(H5.T_ N E).T_ I E,?_,E⟩;exact(((Z.trans J).next N E)).next I E
 refine Cn E λ_=>?_;apply fl_i (C2.cells 32 _ c.n);exact gtP E I'
structure Spn where
 n:Nat
 id:Int
 deriving DecidableEq
abbrev _root_.Go.Y':=List Spn
namespace Spn
def u(s:Spn):V':=List.replicate s.n s.id
def ME:Option Int->Y'->Prop
 |_,[]=>True
 |p,s::t=>0<s.n/\p≠some s.id/\ME (some s.id) t
def rn(x:Int):Option Int->V'->Nat
 |_,[]=>0
 |p,y::t=>(if y=x/\p≠some x then 1 else 0)+rn x (some y) t
def J6(p:Option Int)(l:V'):Option Int:=match l.getLast? with|some y=>some y|none=>p
def uV(p:Option Int)(y:Int)(l:V'):J6 p (y::l)=J6 (some y) l:=by
 grind[J6]
theorem Qm(x:Int)(p:Option Int)(l m:V'):rn x p (l++m)=rn x p l+rn x (J6 p l) m:=by
 induction l generalizing p<;>grind[rn,J6]
theorem uw(x:Int)(p:Option Int)(n:Nat)(y:Int):rn x p (List.replicate (n+1) y)=if y=x/\p≠some x then 1 else 0:=by
 induction n generalizing p<;>grind[rn]
theorem eQ(p:Option Int)(n:Nat)(y:Int):J6 p (List.replicate (n+1) y)=some y:=by
 grind[J6]
def gS(x:Int)(p:Option Int)(l:Y')(h:ME p l):l.countP (λs=>decide (s.id=x))=rn x p (l.flatMap u):=by
 induction l generalizing p with
 |nil=>rfl
 |cons s l j=>
  obtain⟨h1,I,J⟩:=h;obtain⟨m,hm⟩:∃m,s.n=m+1:=⟨s.n-1,by omega⟩;grind[Qm,u,uw,eQ]
def Fy(p:Option Int)(l:Y'):Option Int:=match l.getLast? with|some s=>some s.id|none=>p
def sn(p:Option Int)(y:Spn)(l:Y'):Fy p (y::l)=Fy (some y.id) l:=by
 grind[Fy]
theorem Kk{p:Option Int}{l m:Y'}:ME p (l++m)↔ME p l/\ME (Fy p l) m:=by
 induction l generalizing p<;>grind[ME,Fy]
def WS{p:Option Int}{l:Y'}:ME p l↔ME none l/\∀s∈l.head?,p≠some s.id:=by
 cases l<;>grind[ME]
theorem Ra{p:Option Int}{l:Y'}(h:ME p l):ME none l:=(WS.1 h).1
def kd:Kd Spn where
 μ:=λs=>(s.n,0)
 cut:=λs p=>(⟨p,s.id⟩,⟨s.n-p,s.id⟩)
 meld:=λa b=>if a.id=b.id then some ⟨a.n+b.n,a.id⟩ else none
theorem FV:kd.Fi u where
 size:=λs=>by simp[kd,u]
 cut1:=by grind[u,kd]
 melds:=by grind[kd,u,List.replicate_append_replicate]
def Oy{out:Y'}(x:Spn)(h:ME none out):ME none (kd.DE out x)/\(∀y,out.head?=some y->∃z,(kd.DE out x).head?=some z/\z.id=y.id)/\(0<x.n->Fy none (kd.DE out x)=some x.id)/\(out=[]->0<x.n->(kd.DE out x).head?=some x)/\(x.n=0->kd.DE out x=out):=by
 unfold Kd.DE;rw[show(kd.μ x).1=x.n from rfl];by_cases h0:x.n=0;grind;rw[By h0];rcases l9 out with rfl|⟨o,y,rfl⟩;simp[ME,Fy];omega;rw[aAV] at h ⊢;obtain⟨h1,j⟩:=Kk.1 h;simp only[lp,aN,aAK,aAS];by_cases hm:y.id=x.id;rw[show kd.meld y x=some ⟨y.n+x.n,y.id⟩ by simp[kd,hm]];refine⟨Kk.2 ⟨h1,?_,j.2.1,trivial⟩,λz I=>?_,(by grind[Fy]),λe=>by simp at e,λe=>(h0 e).elim⟩;grind;cases o<;>grind;rw[show kd.meld y x=none by simp[kd,hm]];refine⟨Kk.2 ⟨h,by omega,by simp[Fy,hm],trivial⟩,λz I=>⟨z,?_,rfl⟩,(by grind[Fy]),(by grind),λe=>(h0 e).elim⟩;grind
theorem NN(l:Y'):∀out,ME none out->ME none (l.foldl kd.DE out)/\(∀y,out.head?=some y->∃z,(l.foldl kd.DE out).head?=some z/\z.id=y.id):=by
 induction l with
 |nil=>grind
 |cons x l j=>
  intro out h;obtain⟨a,b,_⟩:=Oy x h;obtain⟨c,d⟩:=j _ a;refine⟨c,λy I=>?_⟩;obtain⟨z,J,e⟩:=b y I;obtain⟨O,N,Q⟩:=d z J;grind
def UF(l:Y')(at':Nat):∀p,ME p l->ME p (kd.split l at').1/\ME none (kd.split l at').2:=by
 induction l generalizing at' with
 |nil=>intro p _;exact⟨trivial,trivial⟩
 |cons s l j=>
  intro p h;simp only[Kd.split];by_cases h0:at'=0;rw[Ix h0];exact⟨trivial,Ra h⟩;rw[By h0];obtain⟨a,b,c⟩:=h;by_cases h1:(kd.μ s).1<=at';rw[Ix h1];obtain⟨d,e⟩:=j (at'-(kd.μ s).1) _ c;exact⟨⟨a,b,d⟩,e⟩;rw[By h1];exact⟨⟨by grind[kd],b,trivial⟩,by grind[kd],by simp,c⟩
def XW(y z:Option Spn)(l:Y')(I:∀s∈y,0<s.n)(J:∀s∈z,0<s.n) : (∀s∈y,∃t,(kd.melded (y.toList++l++z.toList)).head?=some t/\t.id=s.id)/\(∀s∈z,Fy none (kd.melded (y.toList++l++z.toList))=some s.id):=by
 constructor;intro s j;cases j;have:=I s rfl;unfold Kd.melded;simp only[Option.toList_some,aAN,aAP,aAg];have hm:=Oy s (out:=[]) trivial;grind[NN];intro s j;cases j;have:=J s rfl;unfold Kd.melded;rw[Option.toList_some,aAj,aAg,aCy];exact(Oy s (NN _ [] trivial).1).2.2.1 this
theorem N7{p:Option Int}{l:Y'}(h:ME p l):∀s∈l,0<s.n:=by
 induction l generalizing p with
 |nil=>grind
 |cons x l I=>
  intro s j;rcases S6.1 j with rfl|j;exact h.1;exact I h.2.2 s j
def lL{a b M:Y'}(ha:ME none a)(hb:ME none b)(hm:ME none M)(I:∀s∈a.getLast?,∃t,M.head?=some t/\t.id=s.id)(J:∀s∈b.head?,Fy none M=some s.id):ME none (a.dropLast++M++b.tail):=by
 rw[Kk,Kk];refine⟨⟨?_,?_⟩,?_⟩;rcases l9 a with rfl|⟨o,y,rfl⟩<;>grind[Kk];rw[WS];refine⟨hm,λs N=>?_⟩;rcases l9 a with rfl|⟨o,y,rfl⟩;simp[Fy];rw[aAV] at *;rw[aAS];obtain⟨q,O,j⟩:=I y (by simp);have:s=q:=by grind
 rw[this,j];exact(Kk.1 ha).2.2.1;cases b with
 |nil=>exact trivial
 |cons z b=>
  have Q:=J z (by simp);have e:Fy none (a.dropLast++M)=some z.id:=by
   grind[Fy]
  rw[e];exact hb.2.2
def Lr{t:Y'}(i j:Nat)(l:Y')(h:ME none t):ME none (kd.CV t i j l):=by
 obtain⟨ha,I⟩:=UF t i _ h;obtain⟨_,hb⟩:=UF (kd.split t i).2 (j-i) _ I;obtain⟨J,N⟩:=XW (kd.split t i).1.getLast? (kd.split (kd.split t i).2 (j-i)).2.head? l (by grind[N7]) (by grind[N7]);exact lL ha hb (NN _ [] trivial).1 J N
def db(x:Int)(P Q Q' R:V')(h1:P≠[]->Q.head?=Q'.head?/\Q≠[]/\Q'≠[])(I:R≠[]->Q.getLast?=Q'.getLast?/\Q≠[]/\Q'≠[]) : rn x none (P++Q++R)+rn x none Q'=rn x none (P++Q'++R)+rn x none Q:=by
 rw[Qm,Qm,Qm x none (P++Q'),Qm x none P Q'];have first:∀(p:Option Int) (Q Q':V'),Q.head?=Q'.head?->Q≠[]->Q'≠[]->rn x p Q+rn x none Q'=rn x p Q'+rn x none Q:=by
  intro p Q Q' h J j;cases Q with
  |nil=>grind
  |cons a Q=>cases Q'<;>grind[rn]
 have N:rn x (J6 none P) Q+rn x none Q'=rn x (J6 none P) Q'+rn x none Q:=by
  cases P<;>grind[J6]
 have O:rn x (J6 none (P++Q)) R=rn x (J6 none (P++Q')) R:=by
  cases R with
  |nil=>rfl
  |cons a R=>
   grind[J6]
 omega
end Spn
def Spn.cells(s:Spn):U_:=[zIq (s.n:Int),zIq s.id]
theorem Spn.one(q:Spn):∀u∈q.cells,u.oneCell'=true:=λu hu=>by
 simp only[Spn.cells,S6,aAU,aBn] at hu;rcases hu with rfl|rfl<;>rfl
def Vl{r t:U_}{A_:Nat}(h:r.length=A_):(r++t).toArray.extract 0 A_=r.toArray:=by
 grind
def cQ(s:Spn):Bb prog EP NQ.vm [.agg s.cells.toArray] (λv w'=>v=.tuple #[zIq (s.n:Int),zIq 0]/\AG w w') w:=by
 refine⟨_,[],[],rfl,D_,?_⟩;refine I_ func231 ?_;refine Bx.box λb I hb j B=>?_;exact fl_i (B.cells 0 _ rfl) ⟨rfl,j⟩
def iV(s:Spn){p:Nat}(h0:0<p)(h1:p<s.n)(h2:s.n<=1099511627776):Bb prog EP NQ.vc [.agg s.cells.toArray,zIq (p:Int)] (λv w'=>v=.tuple #[.agg (Spn.cells ⟨p,s.id⟩).toArray,.agg (Spn.cells ⟨s.n-p,s.id⟩).toArray]/\AG w w') w:=by
 refine⟨_,[],[],rfl,D_,?_⟩;refine H_ func232 ?_ (.y (.x (.dm [11,12] [0,0,2,7,0,16,0,112,0,256,1008,15,4095])));refine Bx.box λb2 w1 Z g1 Q=>Bx.zero λb4 w2 a1 U V=>?_;refine Bx.zero λb5 w3 a6 J B5=>?_;have I:=gdr w3;have j:=((Q.S_ U).S_ J).S_ I;have l2:=Q.lt (P9 _);have l4:=V.lt C0;apply Ac (λ_ y=>y=b4\/y=b5);rw[AE,AH];refine AP ⟨j.cells 1 _ rfl,B_⟩ ?_;refine⟨(Spn.cells ⟨p,s.id⟩).toArray,D_,?_⟩;show BX _ _ _;rw[AE,AH];refine AP ⟨j.cells 0 _ rfl,B_⟩ ?_;refine JV E E ?_;rw[AE,AH];refine AP ⟨j.cells 1 _ rfl,B_⟩ ?_;refine⟨(Spn.cells ⟨s.n-p,s.id⟩).toArray,D_,?_⟩;have o:=Spn.one;refine((V.S_ J).S_ I).Ax rfl rfl (o _) λw4 C4 X=>⟨(by grind[AF.mono]),?_⟩;have N:=(B5.S_ I).T_ X E;refine N.Ax rfl rfl (o _) λw5 C5 Y=>⟨(by grind[AF.mono]),?_⟩;have O:=C4.T_ Y E;refine O.GJ rfl (C5.GJ rfl ⟨rfl,?_⟩);exact((((g1.trans U).trans J).trans I).next X E).next Y E
def bf(a b:Spn)(h1:a.n<=1099511627776)(h2:b.n<=1099511627776):Bb prog EP NQ.vd [.agg a.cells.toArray,.agg b.cells.toArray] (λv w'=>AG w w'/\v=.tuple #[.agg (Spn.cells ⟨a.n+b.n,a.id⟩).toArray,.bool (decide (a.id=b.id))]) w:=by
 refine⟨_,[],[],rfl,D_,?_⟩;refine H_ func233 ?_ (.y (.x (.dm [13] [0,1,0,4,15,0,32,127,0,256,0,1024,3840,255,16383])));refine Bx.box λb2 w1 X Y O=>Bx.box λb3 w2 Z Q U=>?_;refine Bx.zero λb4 w3 a1 N B4=>?_;have J:=gdr w3;have j:=((O.S_ Q).S_ N).S_ J;have I:=(U.S_ N).S_ J;have l2:=O.lt (P9 _);have l3:=U.lt (P9 _);apply Ac (λ_ y=>y=b4);rw[AE,AH];refine AP ⟨j.cells 0 _ rfl,B_⟩ ?_;rw[AE,AH];refine AP ⟨I.cells 0 _ rfl,B_⟩ ?_;refine DI E ?_;rw[AE,AH];refine AP ⟨j.cells 1 _ rfl,B_⟩ ?_;refine⟨(Spn.cells ⟨a.n+b.n,a.id⟩).toArray,D_,?_⟩;show BX _ _ _;rw[AE,AH];refine AP ⟨j.cells 1 _ rfl,B_⟩ ?_;rw[AE,AH];refine AP ⟨I.cells 1 _ rfl,B_⟩ ?_;rw[CI];refine(B4.S_ J).Ax rfl rfl (Spn.one _) λw4 C4 V=>⟨V,?_⟩;refine C4.GJ rfl ⟨?_,rfl⟩;exact(((Y.trans Q).trans N).trans J).next V E
def Eg:AvN Spn where
 toAvK:=NQ
 k:=Spn.kd
 R:=λ_ _ r x=>r=x.cells
 pb:=64
 eb:=16
 pb_le:=by decide
 eb_le:=by decide
 Epos:=by decide
 E1:=λh=>by cases h
 rlen:=λh=>by subst h;rfl
 rone:=by grind[Spn.one]
 rcell:=λh=>by subst h;rfl
 rheap:=λh _=>h
 rsub:=λh _=>h
 zlen:=rfl
 zone:=Spn.one ⟨0,0⟩
 elP:=⟨Tryz.t464,.agg #[zIq 0,zIq 0,zIq 0,zIq 0,zIq 0,zIq 0,zIq 0,.bool false],by kernel_rfl,by kernel_rfl,by kernel_rfl,by kernel_rfl,by kernel_rfl,by rfl,by decide⟩
 elE:=⟨Tryz.t138,.agg #[zIq 0,zIq 0],by kernel_rfl,by kernel_rfl,by kernel_rfl,by kernel_rfl,by kernel_rfl,by rfl,by decide⟩
 field0:=λr t w hr _ ht=>by
  have e:(Instr.field 396 (.agg (r++t).toArray) 0).run prog w=.ok (.agg ((r++t).toArray.extract 0 2)) w:=by
   have hu:=underlying396;have I:=Tryz.isAgg138;have z:∀w,(sizeOf 138).run prog w=.ok 2 w:=λw=>by simp only[sizeOf,aR,Tryz.typeInfo138,Ty,aAY];rfl
   simp[Instr.field,run_underlying hu,part,I,z,asAgg]
  rw[Vl (A_:=2) hr] at e;exact e
 ok:=nY
 cutμ:=λx p h0 h1=>⟨rfl,rfl,rfl⟩
 meldμ:=by grind[Spn.kd]
 meas:=λ{C w r x} h=>by subst h;exact cQ x
 one0:=rfl
 okN:=jf
 cells:=Spn.cells
 Rc:=aCU
 cutc:=λ{w x p} h0 h1 j=>iV x h0 h1 j
 meldc:=λ{w x y} _ h1 j=>BL (bf x y h1 j) λv w' h=>⟨h.1,Spn.cells ⟨x.n+y.n,x.id⟩,rfl,Spn.one _,by grind[Spn.kd],(by grind[Spn.kd])⟩
def Vs(l:V'):∀v∈l.map (Value.int .i32),v.oneCell'=true:=λv j=>by
 obtain⟨_,_,rfl⟩:=WJ.1 j;rfl
def qG(a b:Ck):l_ 226 [.agg a.cells.toArray,.agg b.cells.toArray] (λv w'=>v=.tuple #[.agg (a.jn b).cells.toArray,zIq (if a.l.length+b.l.length<=32 then 0 else 8)]/\AG w w') w:=by
 refine H_ func226 ?_ (.y (.y (.cut [] [(5,5),(13,22)] .nil (.cut [] [(23,35)] (.dt [1,5,9,10,13] (i_ [0,1,0,0,8,28,0,0,128,448,1020,2047,4095,8191]) [[1,5,9,10]] (.op 0 (.op 2 (.op 3 (.op 4 (.op 6 (.op 7 (.op 8 (.br (.op 1 (.br (.op 5 (.op 9 (.op 10 (.op 11 (.op 12 (.op 13 .nil)))))) (.op 9 (.op 5 (.op 10 (.op 11 (.op 12 (.op 13 .nil)))))))) (.br (.op 5 (.br (.op 1 (.op 9 (.op 10 (.op 11 (.op 12 (.op 13 .nil)))))) (.op 9 (.br (.op 1 (.op 10 (.op 11 (.op 12 (.op 13 .nil))))) (.op 10 (.op 1 (.op 11 (.op 12 (.op 13 .nil))))))))) (.op 9 (.br (.op 1 (.op 5 (.op 10 (.op 11 (.op 12 (.op 13 .nil)))))) (.op 5 (.br (.op 1 (.op 10 (.op 11 (.op 12 (.op 13 .nil))))) (.op 10 (.op 1 (.op 11 (.op 12 (.op 13 .nil))))))))))))))))))) .nil))));refine Bx.box λb2 w1 a7 g1 B2=>Bx.box λb3 w2 a8 g2 B3=>?_;refine Bx.zero λb4 V aa O B4=>?_;have ha:=a.le;have hb:=b.le;have l2:=B2.lt (by rw[a.len];omega);have l3:=B3.lt (by rw[b.len];omega);have l4:=B4.lt C0;have X:=(B2.S_ g2).S_ O;have Y:=B3.S_ O;have Z:Bx V b4 Ck.nil.cells:=B4;have z3:=O.size;have a1:=(g1.trans g2).trans O;have hu:=underlying81;have hs:(prog.info? 21).map (·.size)=some 1:=D_;apply fl_i (X.cells 32 _ a.n);apply fl_i (Y.cells 32 _ b.n);rw[AQ,wrap64 E E,Hj];refine Ae (λak=>?_) λal=>?_
 .refine⟨Ck.nil.cells.toArray,D_,?_⟩;show Bv _ _ _ _ _;refine Z.Ax (Ck.len _) (Ck.len _) (Ck.one _) λW D4 m=>D4.GJ (Ck.len _) ⟨?_,(by grind[AF.next])⟩;grind[Ck.jn]
 have I:a.l.length+b.l.length<=32:=E;have ej:a.jn b=⟨a.l++b.l,by simpa using I⟩:=dif_pos I;refine AT (λ_ W=>W=V) ?_ ?_
 .rintro _ W rfl _;refine AT (λ_ W'=>Bx W' b2 (a.jn b).cells/\Bx W' b4 Ck.nil.cells/\AG w W') ?_ ?_
  .rintro _ W1 ⟨D2,D4,gW⟩ _;apply D2.GJ (Ck.len _);exact D4.Ax (Ck.len _) (Ck.len _) (Ck.one _) λW2 E4 m=>E4.GJ (Ck.len _) (by grind[AF.next])
  .have Q:=gdr W;have H2:=X.S_ Q;have H3:=Y.S_ Q;have H4:=Z.S_ Q;have a6:(My a.cells a.l.length (b.l.map (Value.int .i32)))[32]?=some (zIq (a.l.length:Int)):=by
    rw[SA _ _ _ (by rw[a.len,Nn];omega),nm B_,so];have:a.l.length+(b.l.map (Value.int .i32)).length+(32-(a.cells.take a.l.length++b.l.map (Value.int .i32)).length)=32:=by grind[Ck.len]
    grind[Ck.n]
   apply Ac (λk y=>(k=10\/k=13)/\y=b2);simp only[AE,AH];refine AP ⟨H2.cells 32 _ a.n,λj J e=>?_⟩ ?_;have an:j∈[1,9]:=J;grind;refine AP ⟨H3.cells 32 _ b.n,λj J e=>by have e2:b3=b2:=e.2;omega⟩ ?_
   repeat' first
    |with_reducible exact AF.refl _ _
    |with_reducible refine zt ha ?_
    |with_reducible refine rR hb ?_
    |with_reducible refine AI (H2.cells 32 _ a.n) ?_
    |with_reducible refine And.intro ?_ ?_
   all_goals
    refine H2.copy hu hs (us:=b.l.map (Value.int .i32)) (by rw [Nn];omega) (by
     by_cases e:b.l=[];rw[e];exact .inl rfl;have:0<b.l.length:=aAH.2 e;refine .inr ?_;rw[By E,Nn,a.len];omega) (λj v hv=>by
     obtain ⟨J,rfl⟩:=Ad.1 hv;rw [Nn] at J;rw [AH,aBZ];exact H3.cells j _ (b.get J)) (Vs _) λW2 U m2=>⟨m2.mono λ_ _ e=>⟨E_,e⟩,?_⟩
    have N:Bx W2 b2 (My a.cells a.l.length (b.l.map (Value.int .i32))):=by
     by_cases e:32=a.l.length;have:b.l=[]:=aBr.1 E;rw[this] at U ⊢;exact U;rw[By e] at U;exact U
    try refine AI (N.cells 32 _ a6) ⟨AF.refl _ _,?_⟩
    rw[Nn,AQ,wrap64 E E];refine N.st (q:=32) (by rw[QR,Ck.len];omega) rfl rfl λW3 J2 m3=>⟨m3.mono λ_ _ e=>⟨E_,e⟩,?_⟩;have ee:((a.l.length:Int)+(b.l.length:Int))=((a.l.length+b.l.length:Nat):Int):=E;rw[ee,Ck.fill a I] at J2;rw[ej];exact⟨J2,(H4.T_ m2 E).T_ m3 E,((a1.trans Q).next m2 E).next m3 E⟩
 .rw[AE,AH];apply AX (vs:=a.all.map (Value.int .i32)) (by rw[Nn,a.QP]) (by grind[AH,Bx.cells,Ck.wV]);refine AY (v:=.agg ((List.replicate 32 (0:Int)).map (Value.int .i32)).toArray) (w':=V) D_ ?_;refine wX a.QP E_ λr=>?_;cases r;exact AM rfl;apply Ab;apply fl_i (X.cells 32 _ a.n);refine eqP (λh0=>?_) I';apply Y.GJ (Ck.len _);refine Z.Ax (Ck.len _) (Ck.len _) (Ck.one _) λW2 E4 m=>E4.GJ (Ck.len _) ⟨?_,(by grind[AF.next])⟩;have:a.l=[]:=aBr.1 E;have e1:a.jn b=b:=by rw[ej];simp only[this,aAP]
  grind
def Ck.kd:Kd Ck where
 μ:=λc=>(c.l.length,CX c.l)
 cut:=λc p=>(c.tk p,c.dp p)
 meld:=λa b=>if a.l.length+b.l.length<=32 then some (a.jn b) else none
def pJ(c:Ck):Bb prog EP JT.vm [.agg c.cells.toArray] (λv w'=>v=.tuple #[zIq (c.l.length:Int),zIq (CX c.l:Int)]/\AG w w') w:=by
 refine⟨_,[],[],rfl,D_,?_⟩;refine I_ func220 ?_ (.y (.x (.dm [1,3] [0,1,0,7,15,31])));refine Bx.box λb J hb Q B=>?_;have N:=gdr J;have I:=B.S_ N;apply Ac (λ_ _=>False);refine DH c.len (λj u hu=>⟨by rw[AH];exact I.cells j u hu,C_⟩) ?_;apply AA (vi c);rintro _ U ⟨rfl,O⟩;refine⟨O,DH c.len (λj u hu=>⟨by rw[AH];exact I.cells j u hu,C_⟩) ?_⟩;apply AA (XQ c);grind[AF.trans]
def tq(c:Ck){p:Nat}(h:p<=c.l.length):Bb prog EP JT.vc [.agg c.cells.toArray,zIq (p:Int)] (λv w'=>v=.tuple #[.agg (c.tk p).cells.toArray,.agg (c.dp p).cells.toArray]/\AG w w') w:=by
 refine⟨_,[],[],rfl,D_,?_⟩;refine H_ func223 ?_ (.y (.y (.x (.dm [2,3] [0,0,1,7]))));refine Bx.box λb2 w1 a6 g1 B2=>Bx.zero λb4 w2 a7 g2 B4=>?_;refine Bx.zero λb5 w3 a8 Y B5=>?_;apply((B2.S_ g2).S_ Y).GJ c.len;apply AA (mZ c h);rintro _ w5 ⟨rfl,O⟩;apply Hz;refine Bx.zero λb6 w6 aa Z B6=>Bx.zero λb7 Q ak U B7=>?_;have l4:=B4.lt C0;have l5:=B5.lt C0;have l6:=B6.lt C0;have z1:=g1.size;have z5:=O.size;have C4:Bx Q b4 Ck.nil.cells:=(((B4.S_ Y).S_ O).S_ Z).S_ U;have C5:Bx Q b5 Ck.nil.cells:=((B5.S_ O).S_ Z).S_ U;have C6:Bx Q b6 Ck.nil.cells:=B6.S_ U;have C7:Bx Q b7 Ck.nil.cells:=B7;have a1:=((((g1.trans g2).trans Y).trans O).trans Z).trans U;refine C6.Ax (Ck.len _) (Ck.len _) (Ck.one _) λw8 D6 V=>?_;refine(C7.T_ V E).Ax (Ck.len _) (Ck.len _) (Ck.one _) λw9 D7 X=>?_;have I:=gdr w9;have E6:=(D6.T_ X E).S_ I;have E7:=D7.S_ I;have E4:=((C4.T_ V E).T_ X E).S_ I;have E5:=((C5.T_ V E).T_ X E).S_ I;apply Ac (λ_ y=>y=b4\/y=b5);apply DH (Ck.len _) (λj u hu=>⟨by rw[AH];exact E6.cells j u hu,λ_ _ e=>by rcases e with e|e<;>simp only[AH] at e<;>omega⟩);apply DH (Ck.len _) (λj u hu=>⟨by rw[AH];exact E7.cells j u hu,λ_ _ e=>by rcases e with e|e<;>simp only[AH] at e<;>omega⟩);refine E4.Ax (Ck.len _) (Ck.len _) (Ck.one _) λal F4 J=>⟨(by grind[AF.mono]),?_⟩;refine(E5.T_ J E).Ax (Ck.len _) (Ck.len _) (Ck.one _) λan F5 N=>⟨(by grind[AF.mono]),?_⟩;refine(F4.T_ N E).GJ (Ck.len _) (F5.GJ (Ck.len _) ⟨rfl,?_⟩);exact(((((a1.next V E).next X E).trans I).next J E).next N E)
def rL(a b:Ck):Bb prog EP JT.vd [.agg a.cells.toArray,.agg b.cells.toArray] (λv w'=>AG w w'/\v=.tuple #[.agg (a.jn b).cells.toArray,.bool (decide (a.l.length+b.l.length<=32))]) w:=by
 refine⟨_,[],[],rfl,D_,?_⟩;refine H_ func225 ?_;refine Bx.box λb2 w1 Z Q B2=>Bx.box λb3 w2 a1 j B3=>?_;refine Bx.zero λb4 w3 a6 I U=>((B2.S_ j).S_ I).GJ a.len ((B3.S_ I).GJ b.len ?_);apply AA (qG a b);rintro _ w6 ⟨rfl,J⟩;apply BD;refine Bx.zero λb6 V a7 X B6=>?_;have l4:=U.lt C0;have z1:=Q.size;have z2:=j.size;have z6:=J.size;have C4:Bx V b4 Ck.nil.cells:=(U.S_ J).S_ X;have C6:Bx V b6 Ck.nil.cells:=B6;have N:=(((Q.trans j).trans I).trans J).trans X;refine C6.Ax (Ck.len _) (Ck.len _) (Ck.one _) λw8 D6 Y=>?_;apply D6.GJ (Ck.len _);rw[CI];refine(C4.T_ Y E).Ax (Ck.len _) (Ck.len _) (Ck.one _) λa8 F4 O=>?_;refine F4.GJ (Ck.len _) ⟨(N.next Y E).next O E,?_⟩;by_cases h:a.l.length+b.l.length<=32;simp[h];simp[h]
def BH:AvN Ck where
 toAvK:=JT
 k:=Ck.kd
 R:=λ_ _ r x=>r=x.cells
 pb:=184
 eb:=136
 pb_le:=by decide
 eb_le:=by decide
 Epos:=by decide
 E1:=λh=>by cases h
 rlen:=λh=>by subst h;exact Ck.len _
 rone:=by grind[Ck.one]
 rcell:=λh=>by subst h;rfl
 rheap:=λh _=>h
 rsub:=λh _=>h
 zlen:=rfl
 zone:=Ck.one Ck.nil
 elP:=⟨Tryz.t439,.agg (Ck.nil.cells++([zIq 0,zIq 0,zIq 0,zIq 0,zIq 0,.bool false]:U_)).toArray,by kernel_rfl,by kernel_rfl,by kernel_rfl,by kernel_rfl,by kernel_rfl,by rfl,by decide⟩
 elE:=⟨Tryz.t218,.agg Ck.nil.cells.toArray,by kernel_rfl,by kernel_rfl,by kernel_rfl,by kernel_rfl,by kernel_rfl,by rfl,by decide⟩
 field0:=λr t w hr _ ht=>by
  have e:(Instr.field 375 (.agg (r++t).toArray) 0).run prog w=.ok (.agg ((r++t).toArray.extract 0 33)) w:=by
   have hu:=underlying375;have j:=Tryz.isAgg218;have z:∀w,(sizeOf 218).run prog w=.ok 33 w:=λw=>by simp only[sizeOf,aR,Tryz.typeInfo218,Ty,aAY];rfl
   simp[Instr.field,run_underlying hu,part,j,z,asAgg]
  rw[Vl (A_:=33) hr] at e;exact e
 ok:=qi
 cutμ:=λx p h0 h1=>by
  have I:p<x.l.length:=h1;refine⟨?_,?_,?_⟩
  .show(x.l.take p).length=p;grind
  .show(x.l.drop p).length=x.l.length-p;rw[I3]
  .show CX (x.l.take p)+CX (x.l.drop p)=CX x.l;grind[List.take_append_drop]
 meldμ:=by grind[Ck.kd,Ck.jn]
 meas:=λ{C w r x} h=>by subst h;exact pJ x
 one0:=rfl
 okN:=km
 cells:=Ck.cells
 Rc:=aCU
 cutc:=λ{w x p} h0 h1 J=>tq x (Nat.le_of_lt h1)
 meldc:=λ{w x y} _ h1 J=>BL (rL x y) λv w' h=>⟨h.1,(x.jn y).cells,Ck.len _,Ck.one _,by
  grind[Ck.kd],(by grind[Ck.kd])⟩
def Bm(b0:Int):Nat:=if b0<194 then 0 else if b0<224 then 2 else if b0<240 then 3 else if b0<245 then 4 else 0
def G9(b0:Int):Int:=if b0=224 then 160 else if b0=240 then 144 else 128
def Gu(b0:Int):Int:=if b0=237 then 159 else if b0=244 then 143 else 191
theorem wrap32{x:Int}(h0:-2147483648<=x)(h1:x<2147483648):IntKind.i32.wrap x=x:=by
 have j:(2:Int) ^ IntKind.i32.bits=4294967296:=C0;have I:(2:Int) ^ (IntKind.i32.bits-1)=2147483648:=C0;simp only[IntKind.wrap,j,I,IntKind.signed,aCf,ub];omega
theorem Gy{b:V'}{i k:Nat}{c r:Int}(hc:b[i]?=some c)(h0:0<=r)(h1:r<16777216)(c0:0<=c)(c1:c<256):Kq b (k+1) i r=if c<128\/191<c then none else Kq b k (i+1) (r*64+c-128):=by
 grind[Kq,wrap32]
theorem jQ(h0:240<=most)(h1:most<256):E0 most=some (4,most-240):=by
 grind[E0,wrap32]
theorem se(h0:224<=most)(h1:most<240):E0 most=some (3,most-224):=by
 grind[E0,wrap32]
theorem gZ(h0:192<=most)(h1:most<224):E0 most=some (2,most-192):=by
 grind[E0,wrap32]
theorem KH{t:V'}(h0:0<=most)(h1:most<128):DB (most::t)=(most,1):=by
 grind[E0,wrap32,DB,Kq,DZ,O4]
theorem CW{t:V'}(h1:most<256)(h:(most::t).length<Bm most):DB (most::t)=(0,0):=by
 grind[DB,Bm,gZ,se,jQ]
def Z2{b:V'}:∀{k i:Nat} {r x:Int},Kq b k i r=some x->(∀y∈b,0<=y/\y<256)->0<=r->r*64 ^ k<1073741824->k<=3->r*64 ^ k<=x/\x<=r*64 ^ k+64 ^ k-1:=by
 intro k;induction k with
 |zero=>grind[Kq]
 |succ k X=>
  intro i r x h hb h0 h1 hk;cases hc:b[i]? with
  |none=>grind[Kq]
  |some c=>
   have j:=hb c (aAB.2 ⟨i,hc⟩);have e:(64:Int) ^ (k+1)=64*64 ^ k:=E;rw[e] at h1;have hp:(1:Int)<=64 ^ k:=by
    rcases(show k=0\/k=1\/k=2 by omega) with rfl|rfl|rfl<;>decide
   have J:r*(64*64 ^ k)=(r*64)*64 ^ k:=by rw[Int.mul_assoc]
   rw[J] at h1;have hr:r*64<=r*64*64 ^ k:=by
    have:=Int.mul_le_mul_of_nonneg_left hp (show 0<=r*64 by omega);omega
   rw[Gy hc h0 E j.1 j.2] at h;split at h;cases h;have N:(r*64+c-128)*64 ^ k=r*64*64 ^ k+(c-128)*64 ^ k:=B_;have O:(c-128)*64 ^ k<=63*64 ^ k:=Int.mul_le_mul_of_nonneg_right E E;have Q:0<=(c-128)*64 ^ k:=Int.mul_nonneg E E;have U:(64:Int) ^ k<=4096:=by
    rcases(show k=0\/k=1\/k=2 by omega) with rfl|rfl|rfl<;>decide
   by_cases I:(r*64+c-128)*64 ^ k<1073741824;grind;exfalso;rw[N] at I;have V:r*64*64 ^ k<=1073741824-64*64 ^ k:=by
    rcases(show k=0\/k=1\/k=2 by omega) with rfl|rfl|rfl<;>grind
   omega
theorem RL{t:V'}(hb:∀y∈most::t,0<=y/\y<256)(h0:128<=most)(h:Bm most=0):DB (most::t)=(0,0):=by
 have h1:=(hb most aAE).2;have hc:most<194\/245<=most:=by
  grind[Bm]
 unfold DB;rw[HK];by_cases I:most<192;grind[E0];by_cases J:most<194;rw[gZ E E];simp only;split;rfl;split;rfl;rename_i x j;have:=Z2 j hb E E E;grind[O4];rw[jQ E E];simp only;split;rfl;split;rfl;rename_i x j;have:=Z2 j hb E E E;grind[DZ]
theorem VT{t:V'}(h:Bm most=2)(c0:0<=key)(c2:key<256) : DB (most::key::t)=if G9 most<=key/\key<=Gu most then((most-192)*64+(key-128),2) else(0,0):=by
 have hb:194<=most/\most<224:=by
  grind[Bm]
 have hl:G9 most=128:=by grind[G9]
 have j:Gu most=191:=by grind[Gu]
 unfold DB;grind[gZ,Gy,Kq,DZ,O4]
def VH{t:V'}(h:Bm most=3)(c0:0<=key)(j:key<256)(J:0<=T)(I:T<256) : DB (most::key::T::t)=if(G9 most<=key/\key<=Gu most)/\128<=T/\T<=191 then((most-224)*4096+(key-128)*64+(T-128),3) else(0,0):=by
 have hb:224<=most/\most<240:=by
  grind[Bm]
 have hl:G9 most=if most=224 then 160 else 128:=by
  grind[G9]
 have N:Gu most=if most=237 then 159 else 191:=by
  grind[Gu]
 unfold DB;rw[HK,se E E];simp only;rw[By E_,Gy (b:=most::key::T::t) (i:=1) (c:=key) rfl E E c0 j,hl,N];by_cases hc:key<128\/191<key;grind;rw[By hc,Gy (b:=most::key::T::t) (i:=2) (c:=T) rfl E E J I];grind[Kq,DZ,O4]
def U7{b0 c1 c2 j:Int}{t:V'}(h:Bm b0=4)(c0:0<=c1)(I:c1<256)(O:0<=c2)(J:c2<256)(e0:0<=j)(N:j<256) : DB (b0::c1::c2::j::t)=if(G9 b0<=c1/\c1<=Gu b0)/\(128<=c2/\c2<=191)/\128<=j/\j<=191 then((b0-240)*262144+(c1-128)*4096+(c2-128)*64+(j-128),4) else(0,0):=by
 have hb:240<=b0/\b0<245:=by
  grind[Bm]
 have hl:G9 b0=if b0=240 then 144 else 128:=by grind[G9]
 have Q:Gu b0=if b0=244 then 143 else 191:=by grind[Gu]
 unfold DB;rw[HK,jQ E E];simp only;rw[By E_,Gy (b:=b0::c1::c2::j::t) (i:=1) (c:=c1) rfl E E c0 I,hl,Q];by_cases hc:c1<128\/191<c1;grind;rw[By hc,Gy (b:=b0::c1::c2::j::t) (i:=2) (c:=c2) rfl E E O J];by_cases U:c2<128\/191<c2;grind;rw[By U,Gy (b:=b0::c1::c2::j::t) (i:=3) (c:=j) rfl E E e0 N];by_cases he:j<128\/191<j;grind;grind[Kq,DZ,O4]
theorem ND{b:V'}(hb:b≠[]):(Bn b).isSome=(decide ((DB b).2≠0)&&(Bn (b.drop (DB b).2)).isSome):=by
 grind[Iq]
theorem Jy:Bn ([]:V')=some []:=by simp[Bn,Ps]
theorem Yn:∀{k:Nat} {b:V'},k<=b.length->(∀j x,j<k->b[j]?=some x->0<=x/\x<128)->(Bn b).isSome=(Bn (b.drop k)).isSome:=by
 intro k;induction k with
 |zero=>grind
 |succ k I=>
  intro b hk h;cases b with
  |nil=>grind
  |cons b0 t=>
   have h0:=h 0 b0 E rfl;rw[ND E_,KH h0.1 h0.2];grind
def Yh(n:Nat):(FloatKind.f64.format.order n n != some .eq)=decide (LH (n:Int)):=by
 have h1:Ieee.double.signWeight=9223372036854775808:=C0;have I:Ieee.double.infRung=9218868437227405312:=C0;have J:Ieee.double.binade=4503599627370496:=C0;have N:LH (n:Int)↔9218868437227405312<n%9223372036854775808:=by
  grind[LH]
 have j:∀x:Int,compare x x=.eq:=B_;have O:∀x:Nat,compare x x=.eq:=B_;rw[show decide (LH (n:Int))=decide (9218868437227405312<n%9223372036854775808) from aBo.2 N];show((Ieee.double.read n).order (Ieee.double.read n) != some .eq)=_;unfold Ieee.Format.read;simp only[h1,I,J];split;have:¬9218868437227405312<n%9223372036854775808:=E;simp only[Ieee.Datum.order,j,zk this];rfl;split;have:¬9218868437227405312<n%9223372036854775808:=E;simp only[Ieee.Datum.order,j,zk this];rfl;split;have:¬9218868437227405312<n%9223372036854775808:=E;simp only[Ieee.Datum.order,O,zk this];rfl;have:9218868437227405312<n%9223372036854775808:=E;simp only[Ieee.Datum.order,ys this];rfl
def MY(x:Int):Prop:=0<=x/\x<18446744073709551616
def TA(a b:Int):Int:=((a.toNat ||| b.toNat:Nat):Int)
theorem Ds{x:Int}(h:MY x):IntKind.u64.wrap x=x:=by
 have j:(2:Int) ^ IntKind.u64.bits=18446744073709551616:=C0;unfold MY at h;simp only[IntKind.wrap,j,IntKind.signed,aCB];grind
def xF{a b:Int}(ha:MY a)(hb:MY b):((BitVec.ofInt 64 a ||| BitVec.ofInt 64 b).toNat:Int)=TA a b:=by
 unfold MY at ha hb;unfold TA;grind
def um{a b:Int}(ha:MY a)(hb:MY b):((BitVec.ofInt 64 a &&& BitVec.ofInt 64 b).toNat:Int)=((a.toNat &&& b.toNat:Nat):Int):=by
 unfold MY at ha hb;grind
theorem JJ{a b:Int}(ha:MY a)(hb:MY b):MY (TA a b):=by
 unfold MY at *;unfold TA;have:a.toNat ||| b.toNat<2 ^ 64:=Nat.or_lt_two_pow E E
 omega
def dU(x:Int)(j:Nat):Prop:=x.toNat.testBit (8*j+7)=true
theorem dU.l{a b:Int}{j:Nat}(h:dU a j):dU (TA a b) j:=by
 grind[dU,TA,Int.toNat_natCast]
def dU.r{a b:Int}{j:Nat}(h:dU b j):dU (TA a b) j:=by
 grind[dU,TA,Int.toNat_natCast]
def lM{x:Int}{j:Nat}(I:j<8)(h0:128<=x)(h1:x<256):MY (x*2 ^ (8*j))/\dU (x*2 ^ (8*j)) j:=by
 obtain⟨n,rfl⟩:∃n:Nat,x=n:=⟨x.toNat,E⟩;have e:((n:Int)*2 ^ (8*j))=((n*2 ^ (8*j):Nat):Int):=B_;have hp:n*2 ^ (8*j)<2 ^ (8+8*j):=by
  rw[Nat.pow_add];exact aCu E (Nat.pow_pos C0)
 have J:2 ^ (8+8*j)<=2 ^ 64:=aCC C0 E;refine⟨?_,?_⟩;grind[MY];rw[e];unfold dU;rw[aAA,Nat.testBit_mul_two_pow];grind
def kM{x:Int}{j:Nat}(I:j<8)(h0:0<=x)(h1:x<256):MY (x*2 ^ (8*j)):=by
 obtain⟨n,rfl⟩:∃n:Nat,x=n:=⟨x.toNat,E⟩;have e:((n:Int)*2 ^ (8*j))=((n*2 ^ (8*j):Nat):Int):=B_;have hp:n*2 ^ (8*j)<2 ^ (8+8*j):=by
  rw[Nat.pow_add];exact aCu E (Nat.pow_pos C0)
 have J:2 ^ (8+8*j)<=2 ^ 64:=aCC C0 E;grind[MY]
def jP{x:Int}(h:x.toNat &&& 9259542123273814144=0){j:Nat}(J:j<8):¬dU x j:=by
 intro I;have:(x.toNat &&& 9259542123273814144).testBit (8*j+7)=true:=by
  rw[Nat.testBit_and,I,aCf];rcases(show j=0\/j=1\/j=2\/j=3\/j=4\/j=5\/j=6\/j=7 by omega) with rfl|rfl|rfl|rfl|rfl|rfl|rfl|rfl<;>decide
 grind
def EZ{t e k:Nat}{i:TypeInfo}{a:Option Addr}{n c j:Nat}(ht:P.underlying t=some (.slice e))(hi:P.info? e=some i)(hk:i.size=k)(J:j<=n)(w:c_):(Instr.sliceAt t (.slice a n c) (some (zIq j)) none none).run P w=.ok (sliced a j n c k) w:=by
 have I:P.elem t=e:=by simp[Program.elem,ht]
 rw[aAz _ _ _ _ _ _ (by rw[I];exact ht),run_slice_l _ _ _ _ _ (by rw[I];exact ht) _ _ E E,I];simp[sizeOf,typeInfo,hi,hk]
def PT{k:Nat}{R:c_->U_->α->Prop}{a:Option Addr}{n c:Nat}{l:List α}{j:Nat}(h:Al S k R w (.slice a n c) l)(U:j<=l.length):Al S k R w (sliced a j n c k) (l.drop j):=by
 obtain⟨V,X,J,h1,Y,N⟩:=h;cases J;unfold sliced;refine⟨_,_,by rw[I3],B_,E,λq x I=>?_⟩;rw[so] at I;obtain⟨p,r,rfl,Z,hr,hc,O⟩:=N _ x I;have Q:=(Ad.1 I).1;rw[By E];refine⟨p.add (j*k),r,rfl,by grind[Ai],hr,λm u hu=>?_,O⟩;grind[Addr.add_add]
def Sg{t e k:Nat}{i:TypeInfo}{a:Option Addr}{n c:Nat}(ht:P.underlying t=some (.slice e))(hi:P.info? e=some i)(hk:i.size=k)(hc:n<=c)(w:c_):∃I,(Instr.sliceAt t (.slice a n c) none (some (zIq n)) (some (zIq n))).run P w=.ok (.slice I n n) w/\(0<n->I=a):=by
 have j:P.elem t=e:=by simp[Program.elem,ht]
 refine⟨if n=0 then a else a.map (·.add (0*k)),?_,λh=>?_⟩;rw[aAz _ _ _ _ _ _ (by rw[j];exact ht)];simp[Instr.slice,run_underlying ht,Instr.sliceBounds,run_sliceBound,hc,sizeOf,typeInfo,hi,Result.andThen];rw[By E];cases a with
 |none=>rfl
 |some a=>simp[Addr.add]
def Ks{t e n s:Nat}{i:TypeInfo}{k:IntKind}{a:Addr}{j:Int}(ht:P.underlying t=some (.array n e))(hi:P.info? e=some i)(I:i.size=s)(h0:0<=j)(h1:j<n):(Instr.indexAt t (.pointer (some a)) (.int k j)).run P w=.ok (.pointer (some (a.add (j.toNat*s)))) w:=by
 simp[Instr.indexAt,Instr.sureAddr,run_underlying ht,asIntOf,sizeOf,typeInfo,hi,I,h0,h1,Result.andThen]
def DS{s d:TypeId}{q k:IntKind}{n:Int}(w:c_)(j:(P.underlying s).isSome=true)(I:P.underlying d=some (.int k)):(convert s d (.int q n)).run P w=.ok (.int k (k.wrap n)) w:=by
 obtain⟨e,he⟩:=lP.mp j;simp[convert,run_underlying he,run_underlying I,Conv.intToInt]
def Uv{t:TypeId}{k q:IntKind}{a:Int}{n:Nat}(w:c_)(j:n<=k.bits):(Di .shl t xo yo (.int k a) (.int q n)).run P w=.ok (.int k (k.wrap (a*2 ^ n))) w:=by
 have h0:¬((n:Int)<0):=E;simp[Di,eqGuard,binOp,Op.shift,aAD j,h0]
def Nw{t:TypeId}{k q:IntKind}{a:Int}{n:Nat}(w:c_)(j:n<=k.bits):(Di .shr t xo yo (.int k a) (.int q n)).run P w=.ok (.int k (a.fdiv (2 ^ n))) w:=by
 have h0:¬((n:Int)<0):=E;simp[Di,eqGuard,binOp,Op.shift,aAD j,h0]
def HW{t:TypeId}{k:IntKind}{a b:Int}(w:c_):(Di .or t xo yo (.int k a) (.int k b)).run P w=.ok (.int k (k.wrap (BitVec.ofInt k.bits a ||| BitVec.ofInt k.bits b).toNat)) w/\(Di .and t xo yo (.int k a) (.int k b)).run P w=.ok (.int k (k.wrap (BitVec.ofInt k.bits a &&& BitVec.ofInt k.bits b).toNat)) w:=by
 constructor<;>simp[Di,eqGuard,binOp,Op.intBits]
def FE{t:TypeId}{a b:Int}(w:c_)(ha:MY a)(hb:MY b):(Di .or t xo yo (.int .u64 a) (.int .u64 b)).run prog w=.ok (.int .u64 (TA a b)) w:=by
 rw[(HW w).1];have e:((BitVec.ofInt IntKind.u64.bits a ||| BitVec.ofInt IntKind.u64.bits b).toNat:Int)=TA a b:=xF ha hb;grind[Ds,JJ]
def PL{t:TypeId}{a b:Int}(w:c_)(ha:MY a)(hb:MY b):(Di .and t xo yo (.int .u64 a) (.int .u64 b)).run prog w=.ok (.int .u64 ((a.toNat &&& b.toNat:Nat):Int)) w:=by
 rw[(HW w).2];have e:((BitVec.ofInt IntKind.u64.bits a &&& BitVec.ofInt IntKind.u64.bits b).toNat:Int)=((a.toNat &&& b.toNat:Nat):Int):=um ha hb;rw[e,Ds ⟨E,?_⟩];have:=Nat.and_le_left (n:=a.toNat) (m:=b.toNat);have:=ha.2;omega
def nQ(x:Int)(j:Nat):Int:=x*2 ^ (8*j)
def J3(b:V'):Int:=TA (TA (TA (TA (TA (TA (TA (b.getD 0 0) (nQ (b.getD 1 0) 1)) (nQ (b.getD 2 0) 2)) (nQ (b.getD 3 0) 3)) (nQ (b.getD 4 0) 4)) (nQ (b.getD 5 0) 5)) (nQ (b.getD 6 0) 6)) (nQ (b.getD 7 0) 7)
abbrev CR(b:V'):Prop:=∀x∈b,0<=x/\x<256
theorem CR.getD{b:V'}(h:CR b)(j:Nat):0<=b.getD j 0/\b.getD j 0<256:=by
 rw[aB8];cases e:b[j]? with
 |none=>simp
 |some x=>exact h x (aAB.2 ⟨j,e⟩)
def CR.drop{b:V'}(h:CR b)(j:Nat):CR (b.drop j):=B_
theorem Ug{x:Int}(h:0<=x/\x<256):MY x:=⟨h.1,E⟩
def KP{b:V'}(h:CR b):MY (J3 b):=by
 have u:∀j,j<8->MY (nQ (b.getD j 0) j):=λj I=>kM I (h.getD j).1 (h.getD j).2;grind[J3,JJ,Ug,CR.getD]
theorem ke{b:V'}(h:CR b){j:Nat}(J:j<8)(N:128<=b.getD j 0):dU (J3 b) j:=by
 have I:=(lM J N (h.getD j).2).2;unfold J3;rcases(show j=0\/j=1\/j=2\/j=3\/j=4\/j=5\/j=6\/j=7 by omega) with rfl|rfl|rfl|rfl|rfl|rfl|rfl|rfl;grind[dU.l];exact .l (.l (.l (.l (.l (.l (.r I))))));exact .l (.l (.l (.l (.l (.r I)))));exact .l (.l (.l (.l (.r I))));exact .l (.l (.l (.r I)));exact .l (.l (.r I));exact .l (.r I);exact .r I
def Gt{C:c_->Prop}{p:Addr}{n c:Nat}{b:Int}{j:Nat}{m:Int}{k:b_->Prop}(Q:j<n)(hm:m=8*j)(I:j<8)(hb:0<=b/\b<256)(hc:∀w,C w->w.cell? (p.add (j*1))=some (.int .u8 b))(hk:k (.int .u64 (nQ b j))) : KY 1 (.slice (some p) n c) (zIq j) λJ=>Ik C J λN=>Lt prog C (convert 5 76 N) λO=>Lt prog C (Di .shl 76 xo yo O (.int .u64 m)) k:=by
 refine AV Q (BC hc ⟨.int .u64 (IntKind.u64.wrap b),λw _=>DS (k:=.u64) w D_ D_,?_⟩);rw[Ds (Ug hb)];subst hm;refine⟨_,λw _=>?_,hk⟩;have e:=Uv (P:=prog) (t:=76) (xo:=xo) (yo:=yo) (k:=.u64) (q:=.u64) (a:=b) (n:=8*j) w (by show 8*j<=64;omega);rw[Ds (kM I hb.1 hb.2)] at e;have U:((8*j:Nat):Int)=8*(j:Int):=E;rw[U] at e;exact e
def Zl{b:V'}(h:CE S w v b)(hb:CR b)(hl:8<=b.length) : l_ 161 [v] (λv' w'=>v'=.int .u64 (J3 b)/\AG w w') w:=by
 refine I_ func161 ?_ (.y (.z (.x (.x .Ec)) (.x .Ec)));obtain⟨a,c,rfl,hm⟩:=h.AK;have cell:∀j (I:j<b.length),∃p,a=some p/\w.cell? (p.add (j*1))=some (.int .u8 (b.getD j 0)):=by
  intro j I;obtain⟨p,r,rfl,_,hr,hc,rfl⟩:=h.get I;refine⟨p,rfl,?_⟩;rw[aB8,Hc I];exact hc 0 _ rfl
 obtain⟨p,rfl,c0⟩:=cell 0 E;have J:∀j,j<b.length->w.cell? (p.add (j*1))=some (.int .u8 (b.getD j 0)):=B_;refine DL (AG w) (AF.drew _ _) ?_;have hc:∀j,j<b.length->∀N,AG w N->N.cell? (p.add (j*1))=some (.int .u8 (b.getD j 0)):=by grind[AF.cell]
 have u:∀j,j<8->MY (nQ (b.getD j 0) j):=λj I=>kM I (hb.getD j).1 (hb.getD j).2;refine AV (j:=0) E (BC (hc 0 E) ⟨.int .u64 (IntKind.u64.wrap (b.getD 0 0)),λw _=>DS (k:=.u64) w D_ D_,?_⟩);rw[Ds (Ug (hb.getD 0))];have O:=Ug (hb.getD 0);refine Gt (j:=1) E rfl C0 (hb.getD 1) (hc 1 E) ⟨_,λw _=>FE w O (u 1 C0),?_⟩;have Q:=JJ O (u 1 C0);refine Gt (j:=2) E rfl C0 (hb.getD 2) (hc 2 E) ⟨_,λw _=>FE w Q (u 2 C0),?_⟩;have U:=JJ Q (u 2 C0);refine Gt (j:=3) E rfl C0 (hb.getD 3) (hc 3 E) ⟨_,λw _=>FE w U (u 3 C0),?_⟩;have V:=JJ U (u 3 C0);refine Gt (j:=4) E rfl C0 (hb.getD 4) (hc 4 E) ⟨_,λw _=>FE w V (u 4 C0),?_⟩;have X:=JJ V (u 4 C0);refine Gt (j:=5) E rfl C0 (hb.getD 5) (hc 5 E) ⟨_,λw _=>FE w X (u 5 C0),?_⟩;have Y:=JJ X (u 5 C0);refine Gt (j:=6) E rfl C0 (hb.getD 6) (hc 6 E) ⟨_,λw _=>FE w Y (u 6 C0),?_⟩;have Z:=JJ Y (u 6 C0);refine Gt (j:=7) E rfl C0 (hb.getD 7) (hc 7 E) ⟨_,λw _=>FE w Z (u 7 C0),?_⟩;exact λN g=>⟨rfl,g⟩
theorem Fo{b:V'}(hb:CR b)(h:((J3 b).toNat &&& 9259542123273814144:Nat)=0){j:Nat}(I:j<8):b.getD j 0<128:=by
 have:=jP h I;grind[ke]
def Qz(x:Int):Int:=if x<194 then 241 else if x<224 then 2 else if x=224 then 19 else if x=237 then 35 else if x<240 then 3 else if x=240 then 52 else if x<244 then 4 else if x=244 then 68 else 241
def RQ(j:Nat):Int:=if j=1 then 160 else if j=3 then 144 else if j<5 then 128 else 0
def Rq(j:Nat):Int:=if j=2 then 159 else if j=4 then 143 else if j<5 then 191 else 0
structure CH (w:c_):Prop where
 size:1<w.heap.size
 first:∀j:Nat,128<=j->j<256->w.cell? ⟨0,j,none⟩=some (.int .u8 (Qz j))
 Y6:∀j:Nat,j<16->w.cell? ⟨1,j*2,none⟩=some (.int .u8 (RQ j))/\w.cell? ⟨1,j*2+1,none⟩=some (.int .u8 (Rq j))
def CH.S_(h:CH w)(g:AG w w'):CH w':=
 ⟨Mp h.size g.size,(by grind[AF.cell,CH.first]),(by grind[AF.cell,CH.Y6])⟩
def vE{x:Int}(h0:128<=x)(h1:x<256):∃(f:Int) (z j:Nat),Qz x=f/\0<=f/\f<256/\(f.toNat &&& 7)=z/\f/16=j/\j<16/\(z=Bm x\/Bm x=0/\z=1)/\(Bm x≠0->RQ j=G9 x/\Rq j=Gu x):=by
 unfold Qz Bm G9 Gu;by_cases N:x<194;exact⟨241,1,15,by rw[Ix N],C0,C0,C0,C0,C0,B_,B_⟩;rw[By N,By N];by_cases I:x<224;rw[Ix I,Ix I];exact⟨2,2,0,rfl,C0,C0,C0,C0,C0,.inl rfl,λ_=>⟨by rw[By E,By E];rfl,by rw[By E,By E];rfl⟩⟩;rw[By I,By I];by_cases Q:x=224;subst Q;exact⟨19,3,1,rfl,C0,C0,C0,C0,C0,.inl rfl,λ_=>⟨rfl,rfl⟩⟩;rw[By Q,By Q];by_cases U:x=237;subst U;exact⟨35,3,2,rfl,C0,C0,C0,C0,C0,.inl rfl,λ_=>⟨rfl,rfl⟩⟩;rw[By U,By U];by_cases J:x<240;rw[Ix J,Ix J];exact⟨3,3,0,rfl,C0,C0,C0,C0,C0,.inl rfl,λ_=>⟨by rw[By E];rfl,by rw[By E];rfl⟩⟩;rw[By J,By J];by_cases O:x=240;subst O;exact⟨52,4,3,rfl,C0,C0,C0,C0,C0,.inl rfl,λ_=>⟨rfl,rfl⟩⟩;rw[By O,By O];by_cases V:x<244;rw[Ix V,Ix E];exact⟨4,4,0,rfl,C0,C0,C0,C0,C0,.inl rfl,λ_=>⟨rfl,by rw[By E];rfl⟩⟩;rw[By V];by_cases X:x=244;subst X;exact⟨68,4,4,rfl,C0,C0,C0,C0,C0,.inl rfl,λ_=>⟨rfl,rfl⟩⟩;rw[By X,By E];exact⟨241,1,15,rfl,C0,C0,C0,C0,C0,E,absurd rfl⟩
def XN(x:Int):Bm x=0\/Bm x=2\/Bm x=3\/Bm x=4:=by
 grind[Bm]
def lQ{t:TypeId}{a:Int}{z:Nat}(w:c_)(h0:0<=a)(h1:a<256)(j:(a.toNat &&& 7)=z):(Di .and t xo yo (.int .u8 a) (.int .u8 7)).run prog w=.ok (.int .u8 z) w:=by
 rw[(HW w).2];have e:((BitVec.ofInt IntKind.u8.bits a &&& BitVec.ofInt IntKind.u8.bits 7).toNat:Int)=((a.toNat &&& 7:Nat):Int):=by
  show((BitVec.ofInt 8 a &&& BitVec.ofInt 8 7).toNat:Int)=_;grind
 have I:z<=7:=j▸Nat.and_le_right;rw[e,j];congr 2;have J:(2:Int) ^ IntKind.u8.bits=256:=C0;simp only[IntKind.wrap,J,IntKind.signed,aCB];grind
def Zi(v:b_):Nat:=match v with|.slice _ n _=>n|_=>0
def QL{l:V'}{k:Nat}(hl:CR l)(hk:k<=l.length)(h:∀j,j<k->l.getD j 0<128):(Bn l).isSome=(Bn (l.drop k)).isSome:=by
 grind[Yn]
def MM(l:V')(k j:Nat):(l.drop k).getD j 0=l.getD (k+j) 0:=by
 grind
def JE{a b c:Nat}(h:((a ||| b) &&& c)=0):(a &&& c)=0/\(b &&& c)=0:=by
 grind
def af{n:Nat}(h:((n &&& (9259542123273814144:Int).toNat:Nat):Int)=0):(n &&& 9259542123273814144)=0:=Int.ofNat_inj.1 h
def jc{b:V'}(h:CE S w v b)(hb:CR b)(hT:CH w) : l_ 88 [v] (λv' w'=>v'=.bool (Bn b).isSome/\AG w w') w:=by
 refine I_ func88 ?_ (.y (.y (.x (.node [0] [(0,0),(2,6),(13,187)] (.y (.y (.z (.y (.x (.y (.x (.cut [31] [(23,31)] .nil (.x (.y (.cut [46] [(34,46)] .Ec (.x (.y (.node [0] [(0,0),(49,71)] (.x (.x .Ec)) .nil))))))))))) (.y (.y (.y (.y (.y (.z (.cut [] [(2,2),(85,103)] (.x .Ec) .nil) (.y (.z (.cut [] [(2,2),(108,138)] (.x .Ec) .nil) (.y (.x (.cut [] [(2,2),(143,185)] (.x .Ec) .nil)))))))))))))) .nil))));have hu:prog.underlying 32=some (.slice 5):=D_;have hi:prog.info? 5=some Tryz.t5:=D_;have hs:Tryz.t5.size=1:=D_;obtain⟨a,c,rfl,hm⟩:=h.AK;obtain⟨_,_,e0,e9,_,_⟩:=id h;cases e0;rw[AO,AO];obtain⟨a',ea,eB⟩:=Sg (a:=a) (n:=b.length) (c:=c) hu hi hs e9 w;apply AY ea;have h':CE S w (.slice a' b.length b.length) b:=by
  obtain⟨_,_,e0,h1,h2,h3⟩:=h;refine⟨_,_,rfl,DN _,hm,λi x hx=>?_⟩;grind
 apply Aa (λvs W=>∃l v1,vs=[v1]/\CE S W v1 l/\CR l/\(Bn b).isSome=(Bn l).isSome/\AG w W) (λvs _=>Zi (Bf vs 0)) ⟨b,_,rfl,h',hb,rfl,AF.refl _ _⟩;rintro vs W ⟨l,v1,rfl,hl,hB,ec,gW⟩ _;rw[Bh,HK];obtain⟨p1,c1,rfl,eC⟩:=hl.AK;rw[AO];refine gtP (λeu=>?_) λew=>?_;rotate_left;have:l=[]:=Of E;grind[Jy];have Q:∀{U:c_} {v':b_} {Z:V'},CE S U v' Z->CR Z->(Bn l).isSome=(Bn Z).isSome->Z.length<l.length->AG w U->
   ((∃l v1,[v']=[v1]/\CE S U v1 l/\CR l/\(Bn b).isSome=(Bn l).isSome/\AG w U)/\Zi (Bf [v'] 0)<Zi (Bf [Value.slice p1 l.length c1] 0)):=by
  intro U v' Z h1 h2 h3 h4 h5;obtain⟨q,d,rfl,_⟩:=h1.AK;exact⟨⟨Z,_,rfl,h1,h2,ec.trans h3,h5⟩,h4⟩
 have sl:∀{U:c_} {q:Option Addr} {n d j:Nat} {Z:V'} {K:Cont},CE S U (.slice q n d) Z->j<=Z.length->(∀v',CE S U v' (Z.drop j)->K v' U)->runK prog (Instr.sliceAt 32 (.slice q n d) (some (zIq j)) none none) K U:=
  λh1 h2 h3=>FW (e:=5) (i:=Tryz.t5) hu hi hs h1 h2 h3
 have ge:∀{W1 W2:c_} {v':b_} {Z:V'},CE S W1 v' Z->AG W1 W2->CE S W2 v' Z:=by grind[Al.S_]
 have wq:∀{W1:c_} {v':b_} {Z:V'} {K:b_->Prop},CE S W1 v' Z->CR Z->8<=Z.length->K (.int .u64 (J3 Z))->Ru prog (AG W1) 161 [v'] K:=by
  intro W1 v' Z K h1 h2 h3 h4;refine⟨_,λw2 g=>AA (Zl (ge h1 g) h2 h3) ?_,h4⟩;grind[AF.trans]
 obtain⟨x,t,rfl⟩:∃x t,l=x::t:=by cases l with|nil=>grind|cons x t=>grind
 have hx:=hB x aAE;have X:CR t:=B_;obtain⟨p,r,rfl,_,hr,hc,rfl⟩:=hl.get (i:=0) E_;have cx:W.cell? (p.add (0*1+0))=some (.int .u8 x):=hc 0 _ rfl;refine AV (j:=0) E_ (AI cx ?_);show HZ .u8 (.int .u8 x) _ _;refine Cn (λed=>?_) λeH=>?_
 .have c7:(Bn (x::t)).isSome=(Bn t).isSome:=by
   have:=QL (l:=x::t) (k:=1) hB E_ λj hj=>by
    have:j=0:=E;subst this;exact ed
   simpa using this
  refine sl hl (j:=1) E_ λv2 aa=>?_;rw[aAQ,aAG] at aa;obtain⟨q2,d2,rfl,_⟩:=aa.AK;refine AT (λvs W2=>AG W W2/\∃q:Bool,vs=[.bool q]/\(q=true->8<=t.length/\∀j,j<8->t.getD j 0<128)) ?_ ?_
  .rintro vs W2 ⟨g2,q,rfl,hq⟩ _;rw[Bh,HK];cases q with
   |false=>exact AM (Q (ge aa g2) X c7 E_ (gW.trans g2))
   |true=>
    obtain⟨h8,ee⟩:=hq rfl;refine Ab (sl (ge aa g2) (j:=8) h8 λv3 V=>?_);have Y:CR (t.drop 8):=CR.drop X 8;have b9:(Bn (x::t)).isSome=(Bn (t.drop 8)).isSome:=c7.trans (QL X h8 ee);have c8:(t.drop 8).length<(x::t).length:=B_;generalize t.drop 8=l3 at V Y b9 c8;obtain⟨q3,d3,rfl,_⟩:=V.AK;refine AT (λvs W3=>AG W W3/\AG W2 W3/\∃q:Bool,vs=[.bool q]/\(q=true->16<=l3.length/\∀j,j<16->l3.getD j 0<128)) ?_ ?_
    .rintro vs W3 ⟨g3,c9,q,rfl,hq⟩ _;rw[Bh,HK];cases q with
     |false=>exact AM (Q (ge V c9) Y b9 c8 (gW.trans g3))
     |true=>
      obtain⟨ba,cc⟩:=hq rfl;refine Ab (sl (ge V c9) (j:=16) ba λv4 ef=>?_);refine Aa (λvs W4=>∃l4 v5,vs=[v5]/\CE S W4 v5 l4/\CR l4/\(Bn (x::t)).isSome=(Bn l4).isSome/\l4.length<(x::t).length/\AG W W4) (λvs _=>Zi (Bf vs 0))
       ⟨_,_,rfl,ef,CR.drop Y 16,b9.trans (QL Y ba cc),B_,g3⟩ ?_
      rintro vs W4 ⟨l4,v5,rfl,a8,N,bb,cq,g4⟩ _;rw[Bh,HK];obtain⟨q5,d5,rfl,_⟩:=a8.AK;refine DL (AG W4) (AF.drew _ _) ?_;rw[AO];refine gtP (λeI=>?_) λ_=>λU I=>Q (ge a8 I) N bb cq (gW.trans (g4.trans I));have ez:32<l4.length:=E;have run:=λ(j:Nat) (hj:j<=l4.length) (w':c_)=>EZ (a:=q5) (n:=l4.length) (c:=d5) hu hi hs hj w';have bk:=λ(j:Nat) (hj:j<=l4.length)=>PT a8 hj;refine wq a8 N E ?_;refine⟨_,λw' _=>run 8 E w',?_⟩;refine wq (bk 8 E) (CR.drop N 8) (by simp only[I3];omega) ?_;have u0:=KP N;have u1:=KP (CR.drop N 8);have u2:=KP (CR.drop N 16);have u3:=KP (CR.drop N 24);refine⟨_,λw' _=>FE w' u0 u1,?_⟩;refine⟨_,λw' _=>run 16 E w',?_⟩;refine wq (bk 16 E) (CR.drop N 16) (by simp only[I3];omega) ?_;refine⟨_,λw' _=>run 24 E w',?_⟩;refine wq (bk 24 E) (CR.drop N 24) (by simp only[I3];omega) ?_;refine⟨_,λw' _=>FE w' u2 u3,⟨_,λw' _=>FE w' (JJ u0 u1) (JJ u2 u3),?_⟩⟩;refine⟨_,λw' _=>PL w' (JJ (JJ u0 u1) (JJ u2 u3)) (by grind[MY]),?_⟩;show P2 .u64 (.int .u64 _) _ _;rw[CI];refine λU I=>Ae (λhz=>?_) λ_=>Q (ge a8 I) N bb cq (gW.trans (g4.trans I));have bl:((TA (TA (J3 l4) (J3 (l4.drop 8))) (TA (J3 (l4.drop 16)) (J3 (l4.drop 24)))).toNat &&& 9259542123273814144:Nat)=0:=af hz;obtain⟨z1,z2⟩:=JE bl;obtain⟨z3,z4⟩:=JE z1;obtain⟨z5,z6⟩:=JE z2;have eh:∀j,j<32->l4.getD j 0<128:=by
       intro j hj;rcases(show j<8\/8<=j/\j<16\/16<=j/\j<24\/24<=j by omega) with h|h|h|h;exact Fo N z3 h;have:=Fo (CR.drop N 8) z4 (j:=j-8) E;rw[MM,show 8+(j-8)=j by omega] at this;exact this;have:=Fo (CR.drop N 16) z5 (j:=j-16) E;rw[MM,show 16+(j-16)=j by omega] at this;exact this;have:=Fo (CR.drop N 24) z6 (j:=j-24) E;rw[MM,show 24+(j-24)=j by omega] at this;exact this
      refine sl (ge a8 I) (j:=32) E λv6 cu=>?_;obtain⟨q6,d6,rfl,_⟩:=cu.AK;refine⟨⟨_,_,rfl,cu,CR.drop N 32,bb.trans (QL N E eh),by simp only[I3];omega,g4.trans I⟩,?_⟩;show(l4.drop 32).length<l4.length;rw[I3];omega
    .refine DL (AG W2) (AF.drew _ _) ?_;rw[AO];refine gtP (λba=>?_) (by grind[AF.trans]);have eA:16<l3.length:=E;refine wq V Y E ?_;refine⟨_,λw' _=>EZ (a:=q3) (n:=l3.length) (c:=d3) hu hi hs (j:=8) E w',?_⟩;refine wq (PT V E) (CR.drop Y 8) B_ ?_;have u0:=KP Y;have u1:=KP (CR.drop Y 8);refine⟨_,λw' _=>FE w' u0 u1,⟨_,λw' _=>PL w' (JJ u0 u1) (by grind[MY]),?_⟩⟩;show P2 .u64 (.int .u64 _) _ _;rw[CI];refine λU I=>⟨g2.trans I,I,_,rfl,λhz=>?_⟩;rw[ub] at hz;have bl:((TA (J3 l3) (J3 (l3.drop 8))).toNat &&& 9259542123273814144:Nat)=0:=af hz;obtain⟨z1,z2⟩:=JE bl;refine⟨E,λj hj=>?_⟩;rcases(show j<8\/8<=j by omega) with h|h;exact Fo Y z1 h;have:=Fo (CR.drop Y 8) z2 (j:=j-8) E;rw[MM,show 8+(j-8)=j by omega] at this;exact this
  rw[AO];refine gtP (λh8=>?_) (by grind[AF.refl]);have eL:8<t.length:=E;refine AA (Zl aa X E) ?_;rintro _ W2 ⟨rfl,g2⟩;apply AY (PL W2 (KP X) (by grind[MY]));rw[CI];refine⟨g2,_,rfl,λhz=>?_⟩;grind[Fo]
 .have O:DB (x::t)=(0,0)->∀{U},AG w U->Value.bool false=.bool (Bn b).isSome/\AG w U:=by grind[ND]
  have Eo:∀{n:Nat} {r:Int},DB (x::t)=(r,n)->0<n->(Bn (x::t)).isSome=(Bn ((x::t).drop n)).isSome:=by
   intro n r e hn;rw[ND E_,e];grind
  obtain⟨f,z,j,hf,ek,en,hz,hj,da,eN,ak⟩:=vE (x:=x) E hx.2;have eo:=hT.S_ gW;have cf:W.cell? (Addr.add ⟨0,0,none⟩ (x.toNat*1))=some (.int .u8 f):=by
   rw[AH,aB9,<-hf];grind[CH.first]
  refine AY (Ks (n:=256) (e:=5) (i:=Tryz.t5) (s:=1) D_ D_ D_ hx.1 E) (AI cf ?_);apply AY (lQ W ek en hz);refine AY (DS (k:=.i64) W D_ D_) ?_;have eR:z<=7:=hz▸Nat.and_le_right;rw[wrap64 E E];refine AY (Nw (n:=4) W C0) ?_;have ej:f.fdiv (2 ^ 4)=(j:Int):=by
   grind
  rw[ej];refine AY (Ks (n:=16) (e:=242) (i:=Tryz.t242) (s:=2) D_ D_ D_ E E) ?_;rw[aAA,AH];obtain⟨ca,cb⟩:=eo.Y6 j da;refine AX (vs:=[.int .u8 (RQ j),.int .u8 (Rq j)]) rfl (λq u hu=>?_) ?_;rcases q with _|_|q;cases hu;exact ca;cases hu;exact cb;simp at hu;refine BA (vs:=[.int .u8 (RQ j),.int .u8 (Rq j)]) rfl rfl j_ λb6 W2 dk eX g6 dr _=>?_;have bp:=dr 0 _ rfl;have bs:=dr 1 _ rfl;have J:=gW.trans g6;have a1:=ge hl g6;have e8:0<(x::t).length:=E_;refine eqP (λh2=>?_) λh2=>?_
  .have fa:z=2:=E;have KM:Bm x=2:=E;obtain⟨dz,dT⟩:=ak E;refine AT (λ_ W3=>AG W2 W3/\2<=(x::t).length/\(Bn (x::t)).isSome=(Bn ((x::t).drop 2)).isSome) ?_ ?_;rintro vs W3 ⟨g3,al,an⟩ _;refine sl (ge a1 g3) (j:=2) al λv3 V=>?_;exact Q V (CR.drop hB 2) an B_ (J.trans g3);refine DL (AG W2) (AF.drew _ _) ?_;rw[AO];refine Cn (λe4=>λU I=>O (by grind[CW]) (J.trans I)) λav=>?_;obtain⟨y1,t1,rfl⟩:∃y t',t=y::t':=by cases t with|nil=>grind|cons y t'=>grind
   have a6:=X y1 aAE;have hn:=VT (t:=t1) KM a6.1 a6.2;obtain⟨_,r1,e1,_,e5,ax,rfl⟩:=a1.get (i:=1) E_;cases e1;have a7:=ax 0 _ rfl;refine AV (j:=1) E_ (BC (λw' g=>g.cell a7 F_) ?_);rw[AE];refine BC (λw' g=>g.cell bp F_) ?_;show HZ .u8 (.int .u8 y1) _ _;refine Cn (λay=>λU I=>O B_ (J.trans I)) λay=>?_;rw[AE];refine BC (λw' g=>g.cell bs F_) ?_;refine AV (j:=1) E_ (BC (λw' g=>g.cell a7 F_) ?_);show HZ .u8 _ (.int .u8 y1) _;rw[DX];refine λU I=>Ae (λb0=>O B_ (J.trans I)) λb0=>?_;exact B_
  refine eqP (λh3=>?_) λh3=>?_
  .have fo:z=3:=E;have KM:Bm x=3:=E;obtain⟨dz,dT⟩:=ak E;refine AT (λ_ W3=>AG W2 W3/\3<=(x::t).length/\(Bn (x::t)).isSome=(Bn ((x::t).drop 3)).isSome) ?_ ?_;rintro vs W3 ⟨g3,al,an⟩ _;refine sl (ge a1 g3) (j:=3) al λv3 V=>?_;exact Q V (CR.drop hB 3) an B_ (J.trans g3);refine DL (AG W2) (AF.drew _ _) ?_;rw[AO];refine Cn (λe4=>λU I=>O (by grind[CW]) (J.trans I)) λav=>?_;obtain⟨y1,y2,t1,rfl⟩:∃y y2 t',t=y::y2::t':=by
    rcases t with _|⟨y,_|⟨y2,t'⟩⟩;grind;simp at av;grind
   have a6:=X y1 aAE;have b7:=X y2 (aAi _ aAE);have hn:=VH (t:=t1) KM a6.1 a6.2 b7.1 b7.2;obtain⟨_,r1,e1,_,e5,ax,rfl⟩:=a1.get (i:=1) E_;cases e1;have a7:=ax 0 _ rfl;obtain⟨_,r2,e2,_,ep,bx,rfl⟩:=a1.get (i:=2) E_;cases e2;have b8:=bx 0 _ rfl;refine AV (j:=1) E_ (BC (λw' g=>g.cell a7 F_) ?_);rw[AE];refine BC (λw' g=>g.cell bp F_) ?_;show HZ .u8 (.int .u8 y1) _ _;refine Cn (λay=>λU I=>O B_ (J.trans I)) λay=>?_;rw[AE];refine BC (λw' g=>g.cell bs F_) ?_;refine AV (j:=1) E_ (BC (λw' g=>g.cell a7 F_) ?_);show HZ .u8 _ (.int .u8 y1) _;refine Cn (λb0=>λU I=>O B_ (J.trans I)) λb0=>?_;refine AV (j:=2) E_ (BC (λw' g=>g.cell b8 F_) ?_);show HZ .u8 (.int .u8 y2) _ _;refine Cn (λc4=>λU I=>O B_ (J.trans I)) λc4=>?_;refine AV (j:=2) E_ (BC (λw' g=>g.cell b8 F_) ?_);show HZ .u8 _ (.int .u8 y2) _;rw[DX];refine λU I=>Ae (λc6=>O B_ (J.trans I)) λc6=>?_;exact B_
  refine eqP (λh4=>?_) λh4=>?_
  .have fs:z=4:=E;have KM:Bm x=4:=E;obtain⟨dz,dT⟩:=ak E;refine AT (λ_ W3=>AG W2 W3/\4<=(x::t).length/\(Bn (x::t)).isSome=(Bn ((x::t).drop 4)).isSome) ?_ ?_;rintro vs W3 ⟨g3,al,an⟩ _;refine sl (ge a1 g3) (j:=4) al λv3 V=>?_;exact Q V (CR.drop hB 4) an B_ (J.trans g3);refine DL (AG W2) (AF.drew _ _) ?_;rw[AO];refine Cn (λe4=>λU I=>O (by grind[CW]) (J.trans I)) λav=>?_;obtain⟨y1,y2,y3,t1,rfl⟩:∃y y2 y3 t',t=y::y2::y3::t':=by
    rcases t with _|⟨y,_|⟨y2,_|⟨y3,t'⟩⟩⟩;grind;simp at av;simp at av;grind
   have a6:=X y1 aAE;have b7:=X y2 (aAi _ aAE);have e6:=X y3 (aAi _ (aAi _ aAE));have hn:=U7 (t:=t1) KM a6.1 a6.2 b7.1 b7.2 e6.1 e6.2;obtain⟨_,r1,e1,_,e5,ax,rfl⟩:=a1.get (i:=1) E_;cases e1;have a7:=ax 0 _ rfl;obtain⟨_,r2,e2,_,ep,bx,rfl⟩:=a1.get (i:=2) E_;cases e2;have b8:=bx 0 _ rfl;obtain⟨_,r3,e3,_,b9,er,rfl⟩:=a1.get (i:=3) E_;cases e3;have e7:=er 0 _ rfl;refine AV (j:=1) E_ (BC (λw' g=>g.cell a7 F_) ?_);rw[AE];refine BC (λw' g=>g.cell bp F_) ?_;show HZ .u8 (.int .u8 y1) _ _;refine Cn (λay=>λU I=>O B_ (J.trans I)) λay=>?_;rw[AE];refine BC (λw' g=>g.cell bs F_) ?_;refine AV (j:=1) E_ (BC (λw' g=>g.cell a7 F_) ?_);show HZ .u8 _ (.int .u8 y1) _;refine Cn (λb0=>λU I=>O B_ (J.trans I)) λb0=>?_;refine AV (j:=2) E_ (BC (λw' g=>g.cell b8 F_) ?_);show HZ .u8 (.int .u8 y2) _ _;refine Cn (λc4=>λU I=>O B_ (J.trans I)) λc4=>?_;refine AV (j:=2) E_ (BC (λw' g=>g.cell b8 F_) ?_);show HZ .u8 _ (.int .u8 y2) _;refine Cn (λc6=>λU I=>O B_ (J.trans I)) λc6=>?_;refine AV (j:=3) E_ (BC (λw' g=>g.cell e7 F_) ?_);show HZ .u8 (.int .u8 y3) _ _;refine Cn (λet=>λU I=>O B_ (J.trans I)) λet=>?_;refine AV (j:=3) E_ (BC (λw' g=>g.cell e7 F_) ?_);show HZ .u8 _ (.int .u8 y3) _;rw[DX];refine λU I=>Ae (λdk=>O B_ (J.trans I)) λdk=>?_;exact B_
  exact O (RL hB E (by have:=XN x;omega)) J
def P7:Nat->Nat->V'
 |0,n=>[(n:Int)]
 |f+1,n=>if n<=127 then[(n:Int)] else((n%128+128:Nat):Int)::P7 f (n/128)
def uv(n:Nat):V':=P7 9 n
def J7(n:Int):Nat:=if 0<=n then(2*n).toNat else(-2*n-1).toNat
theorem SC{a b:Int}(h:J7 a=J7 b):a=b:=by
 grind[J7]
theorem Hw{n:Int}(h0:-9223372036854775808<=n)(h1:n<=9223372036854775807):J7 n<18446744073709551616:=by
 grind[J7]
def oB:∀{f n m:Nat} {x y:V'},n<128 ^ (f+1)->m<128 ^ (f+1)->P7 f n++x=P7 f m++y->n=m/\x=y:=by
 intro f;induction f with
 |zero=>
  grind[P7]
 |succ f I=>
  intro n m x y j hm h;rw[Nat.pow_succ] at j hm;simp only[P7] at h;by_cases h1:n<=127<;>by_cases J:m<=127;grind;grind;grind;grind
theorem EB{n m:Nat}{x y:V'}(j:n<18446744073709551616)(hm:m<18446744073709551616)(h:uv n++x=uv m++y):n=m/\x=y:=by
 have e:(18446744073709551616:Nat)<=128 ^ (9+1):=C0;exact oB E E h
theorem Na:∀(f n:Nat),1<=(P7 f n).length/\(P7 f n).length<=f+1:=by
 intro f;induction f<;>grind[P7]
def ky:∀(f n:Nat),n<128 ^ (f+1)->∀x∈P7 f n,0<=x/\x<256:=by
 intro f;induction f with
 |zero=>grind[P7]
 |succ f j=>
  grind[P7]
def OF{n:Nat}(j:n<18446744073709551616):∀x∈uv n,0<=x/\x<256:=by
 have e:(18446744073709551616:Nat)<=128 ^ (9+1):=C0;exact ky 9 n E
def SZ(a:Attr):Prop:=(-9223372036854775808<=a.key/\a.key<=9223372036854775807)/\(0<=a.val.AR/\a.val.AR<256)/\(-9223372036854775808<=a.val.n/\a.val.n<=9223372036854775807)/\(0<=a.val.f/\a.val.f<18446744073709551616)/\a.val.s.size<18446744073709551616
def O7(a:Attr):V':=uv (J7 a.key)++(uv a.val.AR.toNat++(uv (J7 a.val.n)++(uv a.val.f.toNat++(uv a.val.s.size++CK a.val.s))))
def Jg(l:V_):V':=l.flatMap O7
theorem Q4{s t:ByteArray}(h:CK s=CK t):s=t:=by
 cases s;cases t;simp only[ByteArray.mk.injEq];exact Array.toList_inj.1 ((List.map_inj_right (f:=λb:UInt8=>(b.toNat:Int)) (λa b e=>UInt8.toNat_inj.1 (Int.ofNat_inj.1 e))).1 h)
theorem CS(s:ByteArray):(CK s).length=s.size:=by simp[CK]
def lH{a b:Attr}(ha:SZ a)(hb:SZ b){x y:V'}(h:O7 a++x=O7 b++y):a=b/\x=y:=by
 obtain⟨j,a2,I,a4,Z⟩:=ha;obtain⟨b1,b2,J,b4,b5⟩:=hb;unfold O7 at h;simp only[Q0] at h;obtain⟨N,h⟩:=EB (Hw j.1 j.2) (Hw b1.1 b1.2) h;obtain⟨e2,h⟩:=EB E E h;obtain⟨O,h⟩:=EB (Hw I.1 I.2) (Hw J.1 J.2) h;obtain⟨e4,h⟩:=EB E E h;obtain⟨Q,h⟩:=EB Z b5 h;obtain⟨U,h⟩:=aDJ h (by rw[CS,CS,Q]);refine⟨?_,h⟩;obtain⟨ak,V⟩:=a;obtain⟨bk,bv⟩:=b;obtain⟨v1,v2,v3,v4⟩:=V;obtain⟨X,u2,Y,u4⟩:=bv;simp only at *;have:=SC N;have:=SC O;have:=Q4 U;have:v1=X:=E;have:v3=Y:=E;subst_vars;rfl
def jK:∀{l m:V_},(∀a∈l,SZ a)->(∀a∈m,SZ a)->Jg l=Jg m->l=m:=by
 have ne:∀a x,O7 a++x≠[]:=by grind[Na,O7,List.length_append,uv]
 intro l;induction l with
 |nil=>
  intro m _ hm h;cases m<;>grind[Jg]
 |cons a l j=>
  intro m hl hm h;cases m with
  |nil=>grind[Jg]
  |cons b m=>
   simp only[Jg,aA9] at h;obtain⟨rfl,J⟩:=lH (hl a aAE) (hm b aAE) h;rw[j B_ (λx I=>hm x (aAi _ I)) (by grind[Jg])]
def Pu(l:V'):ByteArray:=⟨(l.map λx=>UInt8.ofNat x.toNat).toArray⟩
def Ht{l:V'}(h:∀x∈l,0<=x/\x<256):CK (Pu l)=l:=by
 unfold CK Pu;simp only[aBR];conv=>rhs;rw[<-aDV l]
 grind[List.map_congr_left,UInt8.toNat_ofNat']
def eY{a:Attr}(h:SZ a):∀x∈O7 a,0<=x/\x<256:=by
 obtain⟨I,O,J,Q,N⟩:=h;intro x j;simp only[O7,K8] at j;rcases j with j|j|j|j|j|j;exact OF (Hw I.1 I.2) x j;exact OF E x j;exact OF (Hw J.1 J.2) x j;exact OF E x j;exact OF N x j;grind[CK,UInt8.toNat_lt]
def Om{l:V_}(h:∀a∈l,SZ a):∀x∈Jg l,0<=x/\x<256:=by
 intro x j;simp only[Jg,aCJ] at j;obtain⟨a,ha,j⟩:=j;exact eY (h a ha) x j
def GQ(l:V_):ByteArray:=Pu (Jg l)
def RX{l m:V_}(hl:∀a∈l,SZ a)(hm:∀a∈m,SZ a)(h:GQ l=GQ m):l=m:=by
 apply jK hl hm;rw[<-Ht (Om hl),<-Ht (Om hm)];exact r9 CK h
def Ff(t:Tab V_)(f:b_->Option b_):Prop:=∀s v,f (.string s)=some v↔∃(i:Nat) (p:Ent V_),t.AS[i]?=some p/\0<p.held/\s=GQ p.set/\v=zIq ((i:Int)+1)
def Xj(ks:V_->Prop)(s:V_):Prop:=s≠[]/\(∀a∈s,SZ a)/\ks s
def Ff.some{K:V_->Prop}{t:Tab V_}{f:b_->Option b_}(h:Ff t f)(hi:t.Inv (Xj K))(I:∀a∈s,SZ a)(J:f (.string (GQ s))=some v):∃i n:Nat,t.AS[i]?=.some ⟨s,n⟩/\0<n/\v=zIq ((i:Int)+1):=by
 obtain⟨i,p,h1,j,N,O⟩:=(h _ _).1 J;have:=RX I (hi.ok i p h1 j).2.1 N;subst this;exact⟨i,p.held,h1,j,O⟩
theorem Ff.none{t:Tab V_}{f:b_->Option b_}(h:Ff t f)(I:f (.string (GQ s))=Option.none):∀(i:Nat) (p:Ent V_),t.AS[i]?=.some p->0<p.held->p.set≠s:=by
 rintro i p h1 j rfl;have:=(h (GQ p.set) _).2 ⟨i,p,h1,j,rfl,rfl⟩;grind
def Ff.Ll{t:Tab V_}{f:b_->Option b_}(h:Ff t f){i:Nat}{p:Ent V_}(hp:t.AS[i]?=.some p)(h0:0<p.held){n:Nat}(O:0<n):Ff (t.Ll i ⟨p.set,n⟩) f:=by
 intro s v;rw[h s v];constructor
 .rintro⟨j,q,h1,N,I,J⟩;by_cases e:j=i
  .subst e;rw[hp] at h1;cases h1;exact⟨j,⟨p.set,n⟩,by show(t.AS.set j _)[j]?=_;rw[aAF ((Ad.1 hp).1)],O,I,J⟩
  exact⟨j,q,by show(t.AS.set i _)[j]?=_;grind,N,I,J⟩
 rintro⟨j,q,h1,N,I,J⟩;have Q:(t.AS.set i ⟨p.set,n⟩)[j]?=.some q:=h1;grind
open Classical in
def Ff.put{K:V_->Prop}{t:Tab V_}{f:b_->Option b_}(h:Ff t f)(hi:t.Inv (Xj K))(X:Xj K s)(Y:f (.string (GQ s))=Option.none) : Ff (t.put s).2 (λJ=>if J=.string (GQ s) then Option.some (zIq (((t.put s).1:Int)+1)) else f J):=by
 obtain⟨_,h1,h2,Z,_⟩:=Tab.IV hi X (h.none Y);intro V v;simp only[Value.string.injEq];constructor;intro N;split at N;grind;obtain⟨j,p,I,O,Q,U⟩:=(h V v).1 N;grind;rintro⟨j,p,I,O,Q,U⟩;by_cases hj:j=(t.put s).1;grind;rw[Z j hj] at I;rw[By];exact(h V v).2 ⟨j,p,I,O,Q,U⟩;grind[Ff.none]
open Classical in
def Ff.drop{K:V_->Prop}{t:Tab V_}{f:b_->Option b_}(h:Ff t f)(hi:t.Inv (Xj K)){i:Nat}{p:Ent V_}(hp:t.AS[i]?=.some p)(h0:0<p.held) : Ff (t.drop [] i) (λY=>if Y=.string (GQ p.set) then Option.none else f Y):=by
 have U:(t.AS.set i ⟨[],0⟩)[i]?=.some ⟨[],0⟩:=aAF ((Ad.1 hp).1);have J:∀j:Nat,j≠i->(t.AS.set i (⟨[],0⟩:Ent V_))[j]?=t.AS[j]?:=λj N=>aCA (aC4 N);intro s' v;simp only[Value.string.injEq];constructor;intro Z;split at Z;grind;obtain⟨j,q,V,O,Q,X⟩:=(h s' v).1 Z;have N:j≠i:=by
  grind
 exact⟨j,q,(J j N).trans V,O,Q,X⟩;rintro⟨j,q,V,O,Q,X⟩;have I:(t.AS.set i (⟨[],0⟩:Ent V_))[j]?=.some q:=V;by_cases N:j=i;grind;rw[J j N] at I;rw[By];exact(h s' v).2 ⟨j,q,I,O,Q,X⟩;intro e;rw[e] at Q;exact N (hi.K2 j i q p I hp O h0 (RX (hi.ok j q I O).2.1 (hi.ok i p hp h0).2.1 Q.symm))
theorem Ff.z:Ff (Tab.z _) (λ_=>Option.none):=λs v=>by simp[Tab.z]
def Xd(w:c_)(r:Nat):Nat:=match w.heap[r]? with|some (.stringIter _ p)=>p|_=>0
def U1{r:Nat}{s:ByteArray}{DA:Nat}(h:w.heap[r]?=some (.stringIter s DA))(hp:DA<s.size) : (Instr.next (e_ r) true ty).run P w=.ok (.tuple #[.bool true,zIq DA,.int .i32 (Utf8.decode s DA).1]) { w with heap:=w.heap.setIfInBounds r (.stringIter s (DA+(Utf8.decode s DA).2)) }:=by
 simp only[Instr.next,getObj,setObj,aR,Sem.run,h,Result.andThen,hp,aAh];simp[goInt]
def TD{r:Nat}{s:ByteArray}{DA:Nat}(h:w.heap[r]?=some (.stringIter s DA))(hp:¬DA<s.size) : (Instr.next (e_ r) true ty).run P w=.ok (.tuple #[.bool false]) w:=by
 simp only[Instr.next,getObj,aR,Sem.run,h,Result.andThen,hp,aAW];rfl
def AF.setObj(w:c_)(r:Nat)(o o':Obj)(h:w.heap[r]?=some o):AF (λb=>b=r) w { w with heap:=w.heap.setIfInBounds r o' }:=⟨rfl,rfl,rfl,E_,B_⟩
def Ur{b:V'}(h:CE S w v b)(hb:CR b):(convert 32 9 v).run prog w=.ok (.string (Pu b)) w:=by
 obtain⟨a,c,rfl,hm⟩:=h.AK;cases a with
 |none=>
  have:b=[]:=by
   cases b with
   |nil=>rfl
   |cons x b=>obtain⟨p,r,e,_⟩:=h.get (i:=0) E_;cases e
  subst this;exact run_convert_bytes_nil w 32 5 D_ D_ _ _ _ D_
 |some p=>
  have hl:(b.map λx=>UInt8.ofNat x.toNat).length=b.length:=E_;have:=run_convert_bytes_back (P:=prog) w 32 9 5 p c (b.map λx=>UInt8.ofNat x.toNat) D_ D_ D_ (λj I=>by
   rw [hl] at I;obtain ⟨_,r,e,_,hr,hc,rfl⟩:=h.get I;cases e;have:=hc 0 _ rfl;grind[List.getElem_mem,UInt8.toNat_ofNat'])
  rw[hl] at this;exact this
def Vp{s:ByteArray}{DA:Nat}{r:Int}{n:Nat}(hp:DA<s.size)(h:DB ((CK s).drop DA)=(r,n))(hn:n≠0):((Utf8.decode s DA).1:Int)=r/\(Utf8.decode s DA).2=n:=by
 have j:∀k c,((CK s).drop DA)[k]?=some c->DA+k<s.size/\(((s.get! (DA+k)).toNat:Nat):Int)=c:=by
  intro k c hc;rw[so] at hc;have O:DA+k<s.size:=by
   grind[CS]
  refine⟨O,?_⟩;have hg:s.get! (DA+k)=s[DA+k]'O:=by
   simp[ByteArray.get!,aDF,O];rfl
  rw[hg];simp only[CK,aAM] at hc;have a1:DA+k<s.data.toList.length:=by simpa using O
  rw[Hc a1] at hc;have:=aAO hc;exact this
 have U:CR ((CK s).drop DA):=by grind[CK,UInt8.toNat_lt]
 have ak:((CK s).drop DA).length≠0:=by grind[CS]
 generalize (CK s).drop DA=l at h j U ak;obtain⟨b0,t,rfl⟩:∃x t,l=x::t:=by cases l<;>grind
 obtain⟨_,e0⟩:=j 0 b0 rfl;generalize Q:(s.get! (DA+0)).toNat=N at e0;by_cases ha:b0<128
 .rw[KH (U b0 aAE).1 ha] at h;cases h;simp only[Utf8.decode,Q];grind
 rcases XN b0 with Z|Z|Z|Z;grind[RL];cases t with
 |nil=>grind[CW]
 |cons c1 t=>
  have h1:=U c1 E_;obtain⟨l1,e1⟩:=j 1 c1 rfl;generalize J:(s.get! (DA+1)).toNat=I at e1;rw[VT Z h1.1 h1.2] at h;split at h;cases h;have a6:194<=b0/\b0<224:=by
   grind[Bm]
  have a7:128<=G9 b0:=by
   grind[G9]
  have X:Gu b0<=191:=by
   grind[Gu]
  have q1:(N/32==6&&(decide (DA+1<s.size)&&I/64==2))=true:=by
   simp only[aE,beq_iff_eq,ub];omega
  simp only[Utf8.decode,Q,J];rw[By E,Ix q1,Ix E];omega;grind
 rcases t with _|⟨c1,_|⟨c2,t⟩⟩;grind[CW];grind[CW];have h1:=U c1 E_;have h2:=U c2 E_;obtain⟨l1,e1⟩:=j 1 c1 rfl;obtain⟨l2,e2⟩:=j 2 c2 rfl;generalize J:(s.get! (DA+1)).toNat=I at e1;generalize Y:(s.get! (DA+2)).toNat=V at e2;rw[VH Z h1.1 h1.2 h2.1 h2.2] at h;split at h;cases h;have a6:224<=b0/\b0<240:=by
  grind[Bm]
 have a7:(if b0=224 then(160:Int) else 128)<=c1:=by
  grind[G9]
 have X:c1<=(if b0=237 then(159:Int) else 191):=by
  grind[Gu]
 have a8:128<=c1:=E;have aa:c1<=191:=E;have q1:¬(N/32==6&&(decide (DA+1<s.size)&&I/64==2))=true:=by
  grind
 have q2:(N/16==14&&(decide (DA+1<s.size)&&I/64==2)&&(decide (DA+2<s.size)&&V/64==2))=true:=by
  simp only[aE,beq_iff_eq,ub];omega
 have q3:(decide (N%16*4096+I%64*64+V%64 ≥ 2048)&&Utf8.valid ((N%16*4096+I%64*64+V%64:Nat):Int))=true:=by
  simp only[Utf8.valid,aE,aBT,ub];refine⟨E,?_⟩;omega
 simp only[Utf8.decode,Q,J,Y];rw[By E,By q1,Ix q2,Ix q3];omega;grind;rcases t with _|⟨c1,_|⟨c2,_|⟨c3,t⟩⟩⟩;grind[CW];grind[CW];grind[CW];have h1:=U c1 E_;have h2:=U c2 E_;have h3:=U c3 E_;obtain⟨l1,e1⟩:=j 1 c1 rfl;obtain⟨l2,e2⟩:=j 2 c2 rfl;obtain⟨l3,e3⟩:=j 3 c3 rfl;generalize J:(s.get! (DA+1)).toNat=I at e1;generalize Y:(s.get! (DA+2)).toNat=V at e2;generalize al:(s.get! (DA+3)).toNat=m3 at e3;rw[U7 Z h1.1 h1.2 h2.1 h2.2 h3.1 h3.2] at h;split at h;cases h;have a6:240<=b0/\b0<245:=by
  grind[Bm]
 have a7:(if b0=240 then(144:Int) else 128)<=c1:=by
  grind[G9]
 have X:c1<=(if b0=244 then(143:Int) else 191):=by
  grind[Gu]
 have a8:128<=c1:=E;have aa:c1<=191:=E;have q1:¬(N/32==6&&(decide (DA+1<s.size)&&I/64==2))=true:=by
  grind
 have q2:¬(N/16==14&&(decide (DA+1<s.size)&&I/64==2)&&(decide (DA+2<s.size)&&V/64==2))=true:=by
  grind
 have q3:(N/8==30&&(decide (DA+1<s.size)&&I/64==2)&&(decide (DA+2<s.size)&&V/64==2)&&(decide (DA+3<s.size)&&m3/64==2))=true:=by
  simp only[aE,beq_iff_eq,ub];omega
 have q4:(decide (N%8*262144+I%64*4096+V%64*64+m3%64 ≥ 65536)&&Utf8.valid ((N%8*262144+I%64*4096+V%64*64+m3%64:Nat):Int))=true:=by
  simp only[Utf8.valid,aE,aBT,ub];refine⟨E,?_⟩;right;split at X<;>omega
 simp only[Utf8.decode,Q,J,Y,al];rw[By E,By q1,By q2,Ix q3,Ix q4];omega;grind
def Rn{b:V'}(h:CE S w v b)(hb:CR b)(hT:CH w)(hl:b.length*4<=140737488355328) :
  l_ 45 [v] (λv' w'=>AG w w'/\match Bn b with
   |some l=>∃sl,v'=.tuple #[sl,.int .i64 0]/\AB w.heap.size 21 1 Bk w' sl l
   | none=>v'=.tuple #[g_,.int .i64 3]) w:=by
 refine I_ func45 ?_ (.y (.y (.y (.x (.y (.node [4] [(4,4),(6,6),(13,19)] .nil .nil))))));apply AA (jc h hb hT);rintro _ U ⟨rfl,g1⟩;rw[Aj];cases hr:Bn b with
 |none=>exact Ab ⟨g1,rfl⟩
 |some rs=>
  refine AM (AY (Ur (h.S_ g1 C0 C_) hb) ?_);have hs:CK (Pu b)=b:=Ht hb;have KM:(Pu b).size=b.length:=by rw[<-CS,hs]
  generalize Pu b=s at hs KM;refine AY (run_range_string U 9 s D_) ?_;have hit:=World.iter_heap U s 0;have g2:AG U (U.iter s 0):=AF.alloc _ _ _;have aa:=g1.size;generalize U.iter s 0=w2 at hit g2;generalize ak:U.heap.size=r at hit;refine Aa (λvs W=>∃(DA:Nat) (lv:b_) (Y6:V'),DA<=b.length/\Y6.length<=DA/\vs=[lv]/\W.heap[r]?=some (.stringIter s DA)/\AB w.heap.size 21 1 Bk W lv Y6/\lv.ownBlock≠some r/\AG w W/\Bn b=(Bn (b.drop DA)).map (Y6++·)) (λ_ W=>b.length-Xd W r)
   ⟨0,_,[],Lc _,DN _,rfl,hit,AB.nil,(λh=>nomatch h),g1.trans g2,E_⟩ ?_
  rintro vs W ⟨DA,lv,Y6,a7,a8,rfl,hi,ho,N,gW,j⟩ _;have J:Xd W r=DA:=by simp[Xd,hi]
  by_cases O:DA<s.size
  .have a1:b.drop DA≠[]:=by intro e;have:=r9 List.length e;grind
   have Q:=eV (b.drop DA);rw[I3] at Q;rw[Iq a1] at j;have a6:∃q n,DB (b.drop DA)=(q,n):=⟨_,_,rfl⟩;obtain⟨q,n,hq⟩:=a6;rw[hq] at j Q;simp only at j Q;have hn:n≠0:=by
    grind
   rw[By hn] at j;obtain⟨d1,d2⟩:=Vp (s:=s) O (by rw[hs];exact hq) hn;apply AY (U1 hi O);rw[d1,d2];refine Bt (vs:=[_,_,_]) (by rfl) (Ab (Bt (vs:=[_,_,_]) (by rfl) ?_));have m3:=AF.setObj W r _ (.stringIter s (DA+n)) hi;have I:({ W with heap:=W.heap.setIfInBounds r (.stringIter s (DA+n)) }:c_).heap[r]?=some (.stringIter s (DA+n)):=((MapKept.heap_set (o':=.stringIter s (DA+n)) hi).1);generalize ({ W with heap:=W.heap.setIfInBounds r (.stringIter s (DA+n)) }:c_)=W3 at m3 I;have V:AB w.heap.size 21 1 Bk W3 lv Y6:=AB.T_ ho m3 (λg hg e=>N (e▸hg)) E';have X:AG w W3:=gW.next m3 E;show EE _ _ _ _ [(0,.int .i32 q)] _ _;refine Dv Ju V X.size (cs:=[.int .i32 q]) (x:=q) D_ rfl rfl (λ_ _ _=>Bk.one) B_ E M' λv' w' h1 h2 h3=>?_;have Y:r<W3.heap.size:=(aAm.1 I).1;have Z:w'.heap[r]?=some (.stringIter s (DA+n)):=(h2.Ak r Y N).trans I;refine⟨⟨DA+n,v',Y6++[q],E,B_,rfl,Z,h1,λe=>?_,X.next h2 λx hx e=>?_,?_⟩,?_⟩;rcases h3 r e with e|e;exact N e;omega;have:=(AB.Am V x e).1;omega;rw[j,aA0];cases Bn (b.drop (DA+n))<;>simp;rw[J];have:Xd w' r=DA+n:=by simp[Xd,Z]
   omega
  apply AY (TD hi O);refine Bt (vs:=[_]) (by rfl) (AM ?_);have:DA=b.length:=E;subst this;rw[aAv,Jy,hr] at j;simp only[aAa,gn,aO] at j;subst j;exact⟨gW,lv,rfl,ho⟩
def mU{n:Nat}:(callFunc 304 #[.float .f64 n]).run prog w=.ok (.value (.int .u64 n)) w:=by
 have h:prog.funcs[304]?=some Tryz.f304:=func304
 have N : (Tryz.f304.name == "runtime.NumGoroutine") = false := D_
 have j:Tryz.f304.body.isNone=true:=D_;have I:Extern.findNext Tryz.f304=none:=D_;have J:Extern.find Tryz.f304=some Extern.MathFloatBits.float64bits:=D_;simp only[callFunc,program,mark,aR,Sem.run,Result.andThen,h,N,j,I,J,aBa,aAW,aAh];rfl
def iC{n:Int}:(callFunc 210 #[.int .u64 n]).run prog w=.ok (.value (.float .f64 n.toNat)) w:=by
 have h:prog.funcs[210]?=some Tryz.f210:=func210
 have N : (Tryz.f210.name == "runtime.NumGoroutine") = false := D_
 have j:Tryz.f210.body.isNone=true:=D_;have I:Extern.findNext Tryz.f210=none:=D_;have J:Extern.find Tryz.f210=some Extern.MathFloatBits.float64frombits:=D_;simp only[callFunc,program,mark,aR,Sem.run,Result.andThen,h,N,j,I,J,aBa,aAW,aAh];rfl
def gJ{n:Nat}:l_ 303 [.float .f64 n] (λv w'=>v=.bool (decide (LH (n:Int)))/\w'=w) w:=by
 refine I_ func303 ?_;refine AY (v:=.bool (decide (LH (n:Int)))) (w':=w) ?_ ⟨rfl,rfl⟩;rw[<-Yh];simp[Di,eqGuard,binOp,Op.floatCmp]
def rW{b:Bool}:l_ 207 [.bool b] (λv w'=>v=.agg (⟨1,if b then 1 else 0,0,JF⟩:As).cells.toArray/\AG w w') w:=by
 refine I_ func207 ?_;refine Ce λb2 w1 a1 a6 g2 _ U=>?_;refine⟨(⟨1,0,0,JF⟩:As).cells.toArray,D_,?_⟩;refine BA (vs:=(⟨1,0,0,JF⟩:As).cells) rfl rfl (As.one _) λQ X a7 a8 Y J N=>?_;have V:=g2.trans Y;cases b with
 |true=>
  apply Ab;rw[AE];refine(N 1 C0).st rfl rfl ?_;rw[AH];have m:=AF.setCell (M:=λx=>x=Q) X ⟨Q,1,none⟩ (zIq 1) rfl;have hc:∀j u,(⟨1,1,0,JF⟩:As).cells[j]?=some u->(X.setCell ⟨Q,1,none⟩ (zIq 1)).cell? ((⟨Q,0,none⟩:Addr).add j)=some u:=by
   intro j u hu;rw [AH];by_cases e:j=1;subst e;have h1:=(N 1 C0).1;rw [AH] at h1;obtain ⟨u',aa⟩:=lP.1 h1;cases hu <;> grind[World.cell?_setCell_same];rw [S9 _ _ _ _ B_];have:=J j u (by
    rcases j with _ | _ | _ | _ | j;exact hu;omega;exact hu;exact hu;exact hu)
   rwa [AH] at this
  have O:=λj hj=>((U j hj).T_ Y F_).T_ m (by grind[AH]);generalize X.setCell ⟨Q,1,none⟩ (zIq 1)=w3 at m hc O ⊢;apply AX (vs:=(⟨1,1,0,JF⟩:As).cells) rfl hc;refine BI rfl (As.one _) E λw4 Z I _=>?_;refine AX (vs:=(⟨1,1,0,JF⟩:As).cells) rfl I ⟨rfl,?_⟩;exact(V.next m E).next Z E
 |false=>
  apply AM;apply AX (vs:=(⟨1,0,0,JF⟩:As).cells) rfl J;refine BI rfl (As.one _) (by grind[Bg.T_]) λw4 Z I _=>?_;refine AX (vs:=(⟨1,0,0,JF⟩:As).cells) rfl I ⟨rfl,?_⟩;grind[AF.next]
def vN{n:Int}:l_ 208 [zIq n] (λv w'=>v=.agg (⟨2,n,0,JF⟩:As).cells.toArray/\AG w w') w:=by
 refine I_ func208 ?_;refine Ce λb2 O I J Q _ N=>?_;refine⟨(⟨2,n,0,JF⟩:As).cells.toArray,D_,?_⟩;refine BI rfl (As.one _) E λV U j _=>?_;refine AX (vs:=(⟨2,n,0,JF⟩:As).cells) rfl j ⟨rfl,?_⟩;grind[AF.next]
def kU{n:Nat}:l_ 209 [.float .f64 n] (λv w'=>v=.agg (⟨3,0,if LH (n:Int) then 9221120237041090560 else n,JF⟩:As).cells.toArray/\AG w w') w:=by
 refine I_ func209 ?_;refine Ce λb2 V J N X _ O=>?_;apply AA gJ;rintro _ _ ⟨rfl,rfl⟩;by_cases I:LH (n:Int);rw[ys I];refine Ab ⟨(⟨3,0,9221120237041090560,JF⟩:As).cells.toArray,D_,?_⟩;refine BI rfl (As.one _) E λU Q j _=>?_;refine AX (vs:=(⟨3,0,9221120237041090560,JF⟩:As).cells) rfl j ⟨by rw[Ix I],?_⟩;grind[AF.next];rw[zk I];refine AM ⟨_,_,mU,?_⟩;refine⟨(⟨3,0,(n:Int),JF⟩:As).cells.toArray,D_,?_⟩;refine BI rfl (As.one _) E λU Q j _=>?_;refine AX (vs:=(⟨3,0,(n:Int),JF⟩:As).cells) rfl j ⟨by rw[By I],?_⟩;grind[AF.next]
def UU(s:ByteArray):Prop:=s.size<=64/\(Bn (CK s)).isSome=true
instance (s:ByteArray):Decidable (UU s):=by unfold UU;infer_instance
def XR(s:ByteArray):CR (CK s):=by grind[CK,UInt8.toNat_lt]
def ot{s:ByteArray}(U:CH w):l_ 211 [.string s] (λv w'=>v=(if UU s then .tuple #[.agg (⟨4,0,0,s⟩:As).cells.toArray,zIq 0] else .tuple #[.agg (⟨0,0,0,JF⟩:As).cells.toArray,zIq 3])/\AG w w') w:=by
 refine I_ func211 ?_;refine Ce λb2 w1 V X Y _ Z=>?_;rw[QN];refine gtP (λQ=>?_) λa1=>?_;refine⟨(⟨0,0,0,JF⟩:As).cells.toArray,D_,?_⟩;refine BI rfl (As.one _) E λw4 m4 N _=>?_;refine AX (vs:=(⟨0,0,0,JF⟩:As).cells) rfl N ⟨by rw[By (λh=>by have:=h.1;omega)],?_⟩;grind[AF.next];refine Vf E λv3 w3 g3 O=>?_;have J:=Y.trans g3;have a6:∀j,j<4->Bg w3 ((⟨b2,0,none⟩:Addr).add j):=by grind[Bg.T_]
 apply AA (Rn O (XR s) (U.S_ J) (by rw[CS];omega));rintro v5 w5 ⟨g5,hm⟩;have a7:∀j,j<4->Bg w5 ((⟨b2,0,none⟩:Addr).add j):=by grind[Bg.T_]
 have a8:=J.trans g5;cases hr:Bn (CK s) with
 |none=>
  rw[hr] at hm;subst hm;apply BD;refine neP (λe=>by cases e) λ_=>?_;refine⟨(⟨0,0,0,JF⟩:As).cells.toArray,D_,?_⟩;refine BI rfl (As.one _) E λw6 m6 I _=>?_;refine AX (vs:=(⟨0,0,0,JF⟩:As).cells) rfl I ⟨by rw[By (λh=>by have:=h.2;grind)],?_⟩;grind[AF.next]
 |some l=>
  rw[hr] at hm;obtain⟨sl,rfl,_⟩:=hm;apply BD;refine neP (λ_=>?_) λe=>(e rfl).elim;refine⟨(⟨4,0,0,s⟩:As).cells.toArray,D_,?_⟩;refine BI rfl (As.one _) E λw6 m6 I _=>?_;refine AX (vs:=(⟨4,0,0,s⟩:As).cells) rfl I ⟨by rw[Ix ⟨E,by rw[hr];rfl⟩],?_⟩;grind[AF.next]
def Um{v:As}(hT:CH w)(h0:0<=v.f) : l_ 117 [.agg v.cells.toArray] (λv' w'=>v'=.bool (decide (EC v))/\AG w w') w:=by
 refine I_ func117 ?_ (.y (.x (.y (.y (.z (.x .Ec) (.y (.z (.x .Ec) (.y (.x (.x .Ec))))))))));refine CN λb V _ hz g hc _=>?_;have l0:=hc 0 _ rfl;have l1:=hc 1 _ rfl;have l2:=hc 2 _ rfl;have l3:=hc 3 _ rfl;have key:∀(b:Bool) w',AG w w'->(b=true↔EC v)->Value.bool b=.bool (decide (EC v))/\AG w w':=B_;have no:∀w',AG w w'->¬EC v->Value.bool false=.bool (decide (EC v))/\AG w w':=B_;simp only[AE];apply AI l0;refine eqP (λk1=>?_) λk1=>?_
 .refine DL (AG V) (AF.drew _ _) ?_;refine Ki (vs:=v.cells) rfl (by grind[AF.cell]) (BC (λI J=>J.cell l1 F_) ?_);rw[CI];refine⟨_,λI J=>AA rW (by rintro _ N ⟨rfl,j⟩;exact⟨rfl,J.trans j⟩),?_⟩;refine⟨_,λI _=>Ka _ _ v ⟨1,if decide (v.n=1) then 1 else 0,0,JF⟩ I,?_⟩;refine λN j=>key _ _ (g.trans j) ?_;rw[ub];constructor
  .refine λe=>.inl ⟨k1,?_,?_⟩;grind;grind
  rintro(h|h|h|h)<;>grind
 refine eqP (λk2=>?_) λk2=>?_
 .refine DL (AG V) (AF.drew _ _) ?_;refine Ki (vs:=v.cells) rfl (by grind[AF.cell]) (BC (λI J=>J.cell l1 F_) ?_);refine⟨_,λI J=>AA vN (by rintro _ N ⟨rfl,j⟩;exact⟨rfl,J.trans j⟩),?_⟩;refine⟨_,λI _=>Ka _ _ v ⟨2,v.n,0,JF⟩ I,?_⟩;refine λN j=>key _ _ (g.trans j) ?_;rw[ub];refine⟨λh=>.inr (.inl ⟨k2,h⟩),λh=>?_⟩;rcases h with h|h|h|h<;>grind
 refine eqP (λY=>?_) λY=>?_
 .refine DL (AG V) (AF.drew _ _) ?_;refine Ki (vs:=v.cells) rfl (by grind[AF.cell]) (BC (λI J=>J.cell l2 F_) ?_);refine⟨_,λI _=>iC,?_⟩;refine⟨_,λI J=>AA kU (by rintro _ N ⟨rfl,j⟩;exact⟨rfl,J.trans j⟩),?_⟩;refine⟨_,λI _=>Ka _ _ v _ I,?_⟩;refine λN j=>key _ _ (g.trans j) ?_;have ef:((v.f.toNat:Nat):Int)=v.f:=E;rw[ub,ef];constructor
  .refine λe=>.inr (.inr (.inl ⟨Y,?_,?_⟩));grind;grind
  rintro(h|h|h|h)<;>grind
 refine eqP (λZ=>?_) λZ=>no _ g ?_;refine AI l3 (AA (ot (hT.S_ g)) ?_);rintro v3 N ⟨rfl,j⟩;have O:=g.trans j;by_cases Q:UU v.s;rw[Ix Q];apply BD;refine BA (vs:=(⟨4,0,0,v.s⟩:As).cells) rfl rfl (As.one _) λb4 w4 _ _ X U _=>?_;refine eqP (λ_=>?_) E;apply AX (vs:=v.cells) rfl (by grind[AF.cell]);refine AX (vs:=(⟨4,0,0,v.s⟩:As).cells) rfl U (AY (Ka _ _ v ⟨4,0,0,v.s⟩ w4) ?_);apply key _ _ (O.trans X);rw[ub];refine⟨λe=>.inr (.inr (.inr ⟨Z,e,Q.1,Q.2⟩)),λh=>?_⟩;rcases h with h|h|h|h<;>grind;rw[By Q];apply BD;refine BA (vs:=(⟨0,0,0,JF⟩:As).cells) rfl rfl (As.one _) λb4 w4 _ _ X U _=>?_;refine eqP (λe=>by cases e) λ_=>no _ (O.trans X) ?_;rintro(h|h|h|h);omega;omega;omega;exact Q ⟨h.2.2.1,h.2.2.2⟩;rintro(h|h|h|h)<;>grind
def iH{f:DKey->Bool}(n:Nat):((ks.take n).filter f).length<=ks.length:=B_
def dM{D:d_}(h:CG D w v ks)(hl:ks.length<=1099511627776)(id:Int) : l_ 121 [v,zIq id] (λv' w'=>AB w.heap.size 3 1 Ew w' v' (En ks id)/\AG w w') w:=by
 refine H_ func121 ?_ (.y (.y (.cut [] [(4,4),(16,22)] .nil (.y (.x (.y (.node [7,28] [(7,7),(9,9),(28,48)] (.y (.y (.cut [7] [(7,7),(9,9),(30,47)] .nil .nil))) .nil)))))));apply AA (IW h id);rintro _ w1 ⟨rfl,g1⟩;apply BD;generalize hk:(BW ks id).getD DKey.zero=k;refine BA (vs:=k.cells) rfl rfl (Hg.one (w:=w) (x:=k) rfl) λb5 N a6 a7 g5 U _=>?_;have V:=g1.trans g5;have I:En ks id=[]->(∀w',AG w w'->(λv' w'=>AB w.heap.size 3 1 Ew w' v' (En ks id)/\AG w w') (g_) w'):=by grind[AB.nil]
 refine AT (λ_ w4=>w4=N/\BW ks id=some k/\k.HJ≠0) ?_ ?_;rintro _ _ ⟨rfl,hf,h0⟩ _;rename c_=>N;obtain⟨b,m,kv,l,rfl,_,_,h3,h4,h5,h6,h7⟩:=h.S_ V;apply AJ;rw[AE];apply AI (by rw[AH];exact h3);obtain⟨a,c,rfl,hm⟩:=h5.AK;rw[AO];have hG:En ks id=(ks.filter λo=>decide (o.HJ=k.HJ/\o.id≠id)).map (·.id):=by
  grind[En]
 rw[hG];generalize hp:(λo:DKey=>decide (o.HJ=k.HJ/\o.id≠id))=p;have a8:∀o:DKey,p o=true↔o.HJ=k.HJ/\o.id≠id:=B_;refine Aa (λvs w6=>∃(i:Nat) (Z:b_),i<=ks.length/\vs=[Z,zIq i]/\AB N.heap.size 3 1 Ew w6 Z (((ks.take i).filter p).map (·.id))/\AG N w6) (λvs _=>ks.length-Da vs 1)
  ⟨0,_,Lc _,rfl,AB.nil,AF.refl _ _⟩ ?_
 rintro vs w6 ⟨i,Z,hi,rfl,ho,g6⟩ _;show HZ .i64 (zIq i) _ _;refine Cn (λaa=>?_) λak=>?_;have J:i<ks.length:=E;have e1:(ks.take (i+1)).filter p=(ks.take i).filter p++(if p ks[i]=true then[ks[i]] else[]):=by
  grind[List.take_add_one]
 have al:((ks.take i).filter p).length<=ks.length:=iH i;refine AT (λvs w7=>∃j,vs=[j]/\AB N.heap.size 3 1 Ew w7 j (((ks.take (i+1)).filter p).map (·.id))/\AG N w7) ?_ ?_;rintro _ w7 ⟨j,rfl,a1,g7⟩ _;show Cl .i64 (zIq i) _ _;rw[AQ,AL E];exact⟨⟨i+1,j,J,rfl,a1,g7⟩,by rw[BV,BV];omega⟩;obtain⟨q,r,rfl,_,hr,hc,rfl⟩:=(h5.S_ g6 C0 C_).get J;refine AV J (AX hr (by grind[Addr.add_add]) ?_);refine BA (vs:=ks[i].cells) rfl rfl (Hg.one (w:=w) (x:=ks[i]) rfl) λb9 O an av g9 Q _=>?_;have X:=g6.trans g9;have Y:AB N.heap.size 3 1 Ew O Z (((ks.take i).filter p).map (·.id)):=AB.T_ ho g9 C_ E';have skip:p ks[i]=false->∃j,[Z]=[j]/\AB N.heap.size 3 1 Ew O j (((ks.take (i+1)).filter p).map (·.id))/\AG N O:=B_;have pf:¬(ks[i].HJ=k.HJ/\ks[i].id≠id)->p ks[i]=false:=B_;simp only[AE];refine AI (Q 5 _ rfl) (AI (X.cell (U 5 _ rfl) F_) ?_);refine eqP (λhe=>?_) λhe=>skip (pf λh=>he h.1);apply AI (Q 0 _ rfl);refine neP (λhn=>skip (pf λh=>h.2 hn)) λhn=>?_;apply AI (Q 0 _ rfl);refine LP (w0:=N) IJ Y X (cs:=[zIq ks[i].id]) (x:=ks[i].id) D_ rfl rfl (λ_ _ _=>Ew.one) B_ B_ (by rw[Nn];simp only[maxLen];omega) λv' w' o' g'=>?_;grind;have:i=ks.length:=E;subst this;rw[WL] at ho;exact⟨ho.BY λg hg=>py V.size (AB.Am ho g hg).1,V.trans g6⟩;cases hf:BW ks id with
 |none=>
  show MU (.bool false) _;rw[Aj];exact Ab (I (by grind[En]) _ V)
 |some k'=>
  have:k'=k:=B_;subst this;show MU (.bool true) _;rw[Aj];apply AM;rw[AE];apply AI (U 5 _ rfl);exact eqP (λh0=>I (by grind[En]) _ V) B_
section
variable {α:Type}[Inhabited α]
theorem N3(enc:α->U_)(k:Nat)(hk:∀x,(enc x).length=k)(d:Array α):(Sort.flatK enc k d).toList=(d.toList.map enc).flatten:=by
 refine aAo λt=>?_;have hl:∀r∈d.toList.map enc,r.length=k:=B_;have J:(d.toList.map enc).flatten.length=d.size*k:=by grind[Eb,List.length_map]
 by_cases ht:t<d.size*k
 .have j:0<k:=by
   grind
  have hi:t/k<d.size:=(aDO j).2 ht;have N:(Sort.flatK enc k d).toList[t]?=some (Sort.flatK enc k d)[t]!:=by
   have O:t<(Sort.flatK enc k d).size:=by simpa using ht
   grind
  rw[N,Sort.get_flatK enc k d t ht];have I:=LK (d.toList.map enc) (t/k) (t%k) (enc d[t/k]!) hl (by simp[hi]) (aDc _ j);rw[aCF t k] at I;rw[I];have hm:t%k<(enc d[t/k]!).length:=by rw[hk];exact aDc _ j
  rw[Hc hm,aDF (enc d[t/k]!) _ hm]
 rw[aBL (by simp;omega),aBL E]
theorem Ms(F j:Array b_)(h:F.size<=j.size):(Sort.putCells id 0 F j).size=j.size/\(Sort.putCells id 0 F j).toList.take F.size=F.toList:=by
 refine⟨by simp[Sort.putCells],aAo λt=>?_⟩;by_cases ht:t<F.size;rw[aAr,Ix ht,aBA,aBA];have h1:t<j.size:=E;simp[Sort.putCells,ht,h1];grind
def RU{enc:α->U_}{k:Nat}{g m e:Nat}{d:Array α}{os:Array Obj}{j:Array b_}(I:w.heap[g]?=some (.cells j e (0,0))) : (Go.Proofs.sortWorldK enc k w g 0 m d os).heap[g]?=some (.cells (Sort.putCells id 0 (Sort.flatK enc k d) j) e (0,0))/\AF (λb=>b=g) w (Go.Proofs.sortWorldK enc k w g 0 m d os):=by
 have J:g<w.heap.size:=(aAm.1 I).1;have KM:(w.heap.modify g (Sort.onCells (Sort.putCells id 0 (Sort.flatK enc k d)))).size=w.heap.size:=E_;have N:(Go.Proofs.sortWorldK enc k w g 0 m d os).heap=w.heap.modify g (Sort.onCells (Sort.putCells id 0 (Sort.flatK enc k d)))++os:=rfl;refine⟨?_,⟨rfl,rfl,rfl,B_,λb hb O=>?_⟩⟩;rw[N,Array.getElem?_append_left E,Array.getElem?_modify,Ix rfl,I];rfl;grind
def AB.YY{B e k:Nat}{R:c_->U_->α->Prop}{enc:α->U_}(hk:∀x,(enc x).length=k)(h1:∀x,∀v∈enc x,v.oneCell'=true)(hR:∀w r x,R w r x↔r=enc x){g n c:Nat}{l:List α}(h:AB B e k R w (.slice (f_ g) n c) l) : n=l.length/\g<w.heap.size/\Sort.HoldsK enc k w g 0 l.toArray/\∀(m:Nat) (d:Array α) (os:Array Obj),d.size=l.length->AB B e k R (Go.Proofs.sortWorldK enc k w g 0 m d os) (.slice (f_ g) n c) d.toList/\AF (λb=>b=g) w (Go.Proofs.sortWorldK enc k w g 0 m d os):=by
 obtain⟨Ao,X,h3,h4,h5⟩:=h;obtain⟨q1,Y⟩:=X;rcases Y with⟨q,_⟩|⟨g',cap,Z,q,hg,J,hn,hm,a1,I⟩;cases q;cases q;have N:g<w.heap.size:=(aAm.1 J).1;have O:Ao=l.map enc:=by
  refine aAo λi=>?_;grind
 have a6:l.length*k<=c*k:=y9 _ hn;refine⟨rfl,N,λj U=>?_,λm d os hd=>?_⟩;rw[Sort.size_flatK] at U;have Q:j<l.length*k:=by simpa using U
 have e0:(Sort.flatK enc k l.toArray).toList=Ao.flatten:=by grind[N3]
 have V:Ao.flatten[j]?=some (Sort.flatK enc k l.toArray)[j]!:=by
  grind
 rw[<-I,aAr,Ix Q,aBA] at V;rw[aBy];refine⟨?_,?_⟩;simp only[World.cell?,J];exact V;simp[World.frozen?,J];obtain⟨r1,r2⟩:=RU (enc:=enc) (k:=k) (m:=m) (d:=d) (os:=os) J;refine⟨⟨d.toList.map enc,⟨?_,.inr ⟨g,c,_,B_,hg,r1,?_,hm,?_,?_⟩⟩,E_,λr hr=>?_,λi r x hr hx=>?_⟩,r2⟩;have:=Eb (d.toList.map enc) (k:=k) λr hr=>by obtain⟨x,_,rfl⟩:=WJ.1 hr;exact hk x
 simpa using this;grind;grind[Ms,Go.Sort.size_flatK];grind[Ms,Go.Sort.size_flatK,N3];grind;grind
end
end Go.Proofs.YtjdgbcdfgnajlaaGreatDoor
