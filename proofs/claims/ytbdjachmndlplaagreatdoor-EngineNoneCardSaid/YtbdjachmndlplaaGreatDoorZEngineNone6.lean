/- parts of the proof, written short by a program of ours -/
import Derived.Test.YtbdjachmndlplaaGreatDoorZEngineNone5
import Derived.ChangeKeysEq
set_option maxRecDepth 100000
set_option linter.unusedSimpArgs false
set_option linter.unusedVariables false
set_option linter.defProp false
namespace Go.Proofs.YtbdjachmndlplaaGreatDoor
open Go Proofs.Tryz
variable {j N E:Nat}{w W W' w':World}{F S C M:Nat->Prop}{v sv v0:Value}{vs:List Value}{α:Type}{K:Cont}{P:Program}{yo xo:Operand}
section
def dh:EM:=dB 73 [] []
def S147(v0:Value)(K:Cont)(w:World):Prop:=by
 refine' (?f:∀B R,PX prog CS K (PG prog CS Tryz.f147 dh [v0] w) B R->Prop) _ _ ⟨?a,?b⟩
 case a=>intro _;intros;conv=>lhs;reduce
 case b=>dsimp only[PI,AF];rfl
 exact λ_ R _=>R
variable {v0 v1 v2 v3 v4 v5 v6 v7 v8 v9:Value}{K:Cont}{w:World}
def Zy(h:S147 v0 K w):AB prog 147 [v0] K w:=Xa dh DV mixed func147 (by kernel_rfl) h (by kernel_rfl)
def dm:EM:=dB 73949497989540403289 [([1,6,8],[(1,1),(6,14),(19,81)]),([],[(19,24)])] [(dC [7] [0,1,3,7,15,0,32,127,255,511,511,1023,4095] [])]
def S122(v0 v1 v2:Value)(K:Cont)(w:World):Prop:=by
 refine' (?f:∀B R,PX prog CS K (PG prog CS Tryz.f122 dm [v0,v1,v2] w) B R->Prop) _ _ ⟨?a,?b⟩
 case a=>intro _;intros;conv=>lhs;reduce
 case b=>dsimp only[PI,AF];rfl
 exact λ_ R _=>R
def aH(h:S122 v0 v1 v2 K w):AB prog 122 [v0,v1,v2] K w:=Xa dm DV mixed func122 (by kernel_rfl) h (by kernel_rfl)
def dX:EM:=dB 73949497989540395097 [([1,6,7],[(1,1),(6,13),(18,76)])] [(dC [7] [0,1,3,7,15,0,32,127,255,511,511,1023,4095] [])]
def S120(v0 v1 v2:Value)(K:Cont)(w:World):Prop:=by
 refine' (?f:∀B R,PX prog CS K (PG prog CS Tryz.f120 dX [v0,v1,v2] w) B R->Prop) _ _ ⟨?a,?b⟩
 case a=>intro _;intros;conv=>lhs;reduce
 case b=>dsimp only[PI,AF];rfl
 exact λ_ R _=>R
def au(h:S120 v0 v1 v2 K w):AB prog 120 [v0,v1,v2] K w:=Xa dX DV mixed func120 (by kernel_rfl) h (by kernel_rfl)
end
section
def JZ:AvK where
 E:=2
 one:=false
 zE:=[zI 0,zI 0]
 te:=128
 tn:=400
 ts:=121
 tp:=482
 tps:=450
 tt:=218
 tT:=327
 tk:=323
 tA:=452
 fat:=310
 ftotals:=311
 fset:=409
 flift:=412
 flean:=411
 fbalance:=408
 fjoin:=392
 ffirst:=390
 flast:=388
 fconcat:=394
 fsplit:=386
 fdrop:=387
 fpick:=389
 fmelded:=391
 fReplace:=350
 fover:=244
 fOver:=153
 fOverf:=243
 fSize:=254
 fNew:=239
 aTake:=393
 aasked:=400
 aFree:=407
 aAt:=372
 aPut:=406
 aNew:=309
 vm:=.func (.func 240) #[] #[]
 vc:=.func (.func 241) #[] #[]
 vd:=.func (.func 242) #[] #[]
def Zc:az JZ where
 at_:=λh=>oU (dB 73 [] []) func310 h (by kernel_rfl)
 totals:=λh=>oU (dB 105124953 [] []) func311 h (by kernel_rfl)
 set:=λh=>oU (dB 1898057 [] [(dC [7] [0,1,3,7,15,0,32,127,255,511,511,1023,4095] []),(dC [6] [0,1,3,7,0,0,63] [])]) func409 h (by kernel_rfl)
 lift:=λh=>oU (dB 18336075607283273 [] []) func412 h (by kernel_rfl)
 lean:=λh=>oU (dB 4681 [] []) func411 h (by kernel_rfl)
 balance:=λh=>oU (dB 74962812180284412617 [] []) func408 h (by kernel_rfl)
 join:=λh=>oU (dB 164667896170387017 [] []) func392 h (by kernel_rfl)
 first:=λh=>oU (dB 18916041 [] []) func390 h (by kernel_rfl)
 last:=λh=>oU (dB 18916041 [] []) func388 h (by kernel_rfl)
 concat:=λh=>oU (dB 2364505 [] []) func394 h (by kernel_rfl)
 drop:=λh=>oU (dB 299083 [] []) func387 h (by kernel_rfl)
 over:=λh=>oU (dB 9 [] []) func153 h (by kernel_rfl)
 overf:=λh=>oU (dB 7 [] [(dC [8] [0,0,2,6,14,0,0,0,255] [])]) func243 h (by kernel_rfl)
 size:=λh=>oU (dB 73 [] []) func254 h (by kernel_rfl)
 take:=λh=>oU (dB 34629884582827097 [] [(dC [8] [0,1,3,7,0,0,32,127,255] []),(dC [7,8,11] [0,0,2,6,14,0,32,96,254,511,1023,2047] [[7,8]])]) func393 h (by kernel_rfl)
 asked:=λh=>oU (dB 1094981209 [] []) func400 h (by kernel_rfl)
 free:=λh=>oU (dB 153133657 [] []) func407 h (by kernel_rfl)
 aat:=λh=>oU (dB 17080921 [] []) func372 h (by kernel_rfl)
 put:=λh=>oU (dB 257991257 [] [(dC [8] [0,1,3,7,0,0,63,127,255] [])]) func406 h (by kernel_rfl)
 new:=λh=>oU (dB 465 [] [(dC [1,3] [0,0,3,7,15] [[1]])]) func239 h (by kernel_rfl)
 anew:=λh=>oU (dB 9 [] []) func309 h (by kernel_rfl)
 okOverf:=by kernel_rfl
def Xe:YI JZ where
 split:=λh=>oU (dB 1139783263252496981699073113 [([14,15],[(14,15),(86,99)])] [(dC [7] [0,1,3,7,15,0,32,127,255,511,511,1023,4095] []),(dT [10,14,15,16,17] [0,1,3,7,15,0,32,0,0,384,1023,2047,4095,4095,0,0,57343,131071] [[10]] (.op 0 (.op 1 (.op 2 (.op 3 (.op 4 (.op 5 (.op 6 (.op 7 (.op 8 (.op 9 (.br (.op 10 (.op 11 (.op 12 (.op 13 (.br (.op 14 (.op 15 (.op 16 (.op 17 .nil)))) (.op 15 (.op 14 (.op 16 (.op 17 .nil))))))))) (.br (.op 14 (.br (.op 10 (.op 11 (.op 12 (.op 13 (.op 15 (.op 16 (.op 17 .nil))))))) (.op 15 (.op 10 (.op 11 (.op 12 (.op 13 (.op 16 (.op 17 .nil))))))))) (.op 15 (.br (.op 10 (.op 11 (.op 12 (.op 13 (.op 14 (.op 16 (.op 17 .nil))))))) (.op 14 (.op 10 (.op 11 (.op 12 (.op 13 (.op 16 (.op 17 .nil)))))))))))))))))))))),(dC [6] [0,1,3,7,0,0,63] []),(dC [3,11,13] [0,0,0,7,0,0,32,96,224,0,512,2031,0,8191,16383,32767] [])]) func386 h (by kernel_rfl)
 pick:=λh=>oU (dB 585 [] []) func389 h (by kernel_rfl)
 melded:=λh=>oU (dB 19348860497035137063950425 [([4,14],[(4,4),(6,11),(14,58)]),([],[(9,11),(30,53)]),([10,11],[(10,11),(35,48)])] [(dC [6] [0,1,3,7,15,0,63,127,255,255,511,2047] []),(dT [10,14,15] [0,1,3,7,15,0,0,96,224,0,1023,2047,4095,4095,0,24575,65535] [[10]] (.op 0 (.op 1 (.op 2 (.op 3 (.op 4 (.op 5 (.op 6 (.op 7 (.op 8 (.op 9 (.br (.op 10 (.op 11 (.op 12 (.op 13 (.op 14 (.op 15 (.op 16 .nil))))))) (.op 14 (.op 10 (.op 11 (.op 12 (.op 13 (.op 15 (.op 16 .nil)))))))))))))))))))]) func391 h (by kernel_rfl)
 replace:=λh=>oU (dB 33796047784247508390473 [([8,12],[(8,8),(12,14),(41,55)]),([11,12],[(11,12),(15,16),(59,73)]),([8,78],[(8,8),(18,18),(78,92)])] [(dC [8,9] [0,0,0,4,12,28,0,64,252,511,1023] [])]) func350 h (by kernel_rfl)
 over:=λh=>oU (dB 80812525486450030139198936169 [([],[(10,10),(20,26)]),([],[(10,10),(49,63)]),([],[(10,10),(19,19),(73,108)]),([],[(78,91)]),([],[(92,104)])] [(dC [7] [0,1,3,7,15,0,32,127,255,511,511,1023,4095] []),(dC [7,11] [0,1,3,7,15,0,0,127,255,511,511,1023] [[7]]),(dC [7,11] [0,1,3,7,15,0,0,127,255,511,511,2047] [[7]])]) func244 h (by kernel_rfl)
def Kv:AvK where
 E:=1
 one:=true
 zE:=[.slice none 0 0]
 te:=64
 tn:=405
 ts:=47
 tp:=469
 tps:=455
 tt:=225
 tT:=339
 tk:=334
 tA:=457
 fat:=313
 ftotals:=255
 fset:=380
 flift:=403
 flean:=402
 fbalance:=379
 fjoin:=333
 ffirst:=331
 flast:=329
 fconcat:=335
 fsplit:=327
 fdrop:=328
 fpick:=330
 fmelded:=332
 fReplace:=281
 fover:=252
 fOver:=158
 fOverf:=251
 fSize:=163
 fNew:=247
 aTake:=334
 aasked:=401
 aFree:=378
 aAt:=373
 aPut:=377
 aNew:=312
 vm:=.func (.func 248) #[] #[]
 vc:=.func (.func 249) #[] #[]
 vd:=.func (.func 250) #[] #[]
def aX:az Kv where
 at_:=λh=>oU (dB 73 [] []) func313 h (by kernel_rfl)
 totals:=λh=>oU (dB 105124953 [] []) func255 h (by kernel_rfl)
 set:=λh=>oU (dB 1898057 [] [(dC [7] [0,1,3,7,15,0,32,127,255,511,511,1023,4095] []),(dC [6] [0,1,3,7,0,0,63] [])]) func380 h (by kernel_rfl)
 lift:=λh=>oU (dB 18336075607283273 [] []) func403 h (by kernel_rfl)
 lean:=λh=>oU (dB 4681 [] []) func402 h (by kernel_rfl)
 balance:=λh=>oU (dB 74962812180284412617 [] []) func379 h (by kernel_rfl)
 join:=λh=>oU (dB 164667896170387017 [] []) func333 h (by kernel_rfl)
 first:=λh=>oU (dB 18916041 [] []) func331 h (by kernel_rfl)
 last:=λh=>oU (dB 18916041 [] []) func329 h (by kernel_rfl)
 concat:=λh=>oU (dB 2364505 [] []) func335 h (by kernel_rfl)
 drop:=λh=>oU (dB 299083 [] []) func328 h (by kernel_rfl)
 over:=λh=>oU (dB 9 [] []) func158 h (by kernel_rfl)
 overf:=λh=>oU (dB 7 [] [(dC [8] [0,0,2,6,14,0,0,0,255] [])]) func251 h (by kernel_rfl)
 size:=λh=>oU (dB 73 [] []) func163 h (by kernel_rfl)
 take:=λh=>oU (dB 34629884582827097 [] [(dC [8] [0,1,3,7,0,0,32,127,255] []),(dC [7,8,11] [0,0,2,6,14,0,32,96,254,511,1023,2047] [[7,8]])]) func334 h (by kernel_rfl)
 asked:=λh=>oU (dB 1094981209 [] []) func401 h (by kernel_rfl)
 free:=λh=>oU (dB 153133657 [] []) func378 h (by kernel_rfl)
 aat:=λh=>oU (dB 17080921 [] []) func373 h (by kernel_rfl)
 put:=λh=>oU (dB 257991257 [] [(dC [8] [0,1,3,7,0,0,63,127,255] [])]) func377 h (by kernel_rfl)
 new:=λh=>oU (dB 465 [] [(dC [1,3] [0,0,3,7,15] [[1]])]) func247 h (by kernel_rfl)
 anew:=λh=>oU (dB 9 [] []) func312 h (by kernel_rfl)
 okOverf:=by kernel_rfl
def XZ:cy Kv where
 split:=λh=>oU (dB 1139783244805752907989521497 [] [(dC [7] [0,1,3,7,15,0,32,127,255,511,511,1023,4095] []),(dC [10] [0,1,3,7,15,0,32,0,0,384,1023,2047,4095,4095,8191,32767] []),(dC [6] [0,1,3,7,0,0,63] []),(dC [3,11,13] [0,0,0,7,0,0,32,96,224,0,512,2031,0,8191,16383,32767] [])]) func327 h (by kernel_rfl)
 pick:=λh=>oU (dB 585 [] []) func330 h (by kernel_rfl)
 melded:=λh=>oU (dB 2418607273898964186142809 [([4,14],[(4,4),(6,11),(14,58)]),([],[(9,11),(30,53)])] [(dC [10] [0,1,3,7,15,0,0,96,224,0,1023,2047,4095,4095,8191,32767] [])]) func332 h (by kernel_rfl)
 replace:=λh=>oU (dB 739482404159991894601 [([8,12],[(8,8),(12,14),(41,55)]),([11,12],[(11,12),(15,16),(59,73)]),([8,78],[(8,8),(18,18),(78,92)])] []) func281 h (by kernel_rfl)
 over:=λh=>oU (dB 80795294087662872867681604713 [([],[(10,10),(20,26)]),([],[(10,10),(49,63)]),([],[(10,10),(19,19),(73,108)]),([19],[(19,19),(78,91)]),([19],[(19,19),(92,104)])] [(dC [7] [0,1,3,7,15,0,32,127,255,511,511,1023,4095] [])]) func252 h (by kernel_rfl)
def Gp:AvK where
 E:=33
 one:=false
 zE:=[.int .i32 0,.int .i32 0,.int .i32 0,.int .i32 0,.int .i32 0,.int .i32 0,.int .i32 0,.int .i32 0,.int .i32 0,.int .i32 0,.int .i32 0,.int .i32 0,.int .i32 0,.int .i32 0,.int .i32 0,.int .i32 0,.int .i32 0,.int .i32 0,.int .i32 0,.int .i32 0,.int .i32 0,.int .i32 0,.int .i32 0,.int .i32 0,.int .i32 0,.int .i32 0,.int .i32 0,.int .i32 0,.int .i32 0,.int .i32 0,.int .i32 0,.int .i32 0,zI 0]
 te:=184
 tn:=292
 ts:=365
 tp:=446
 tps:=442
 tt:=179
 tT:=290
 tk:=287
 tA:=444
 fat:=213
 ftotals:=214
 fset:=384
 flift:=405
 flean:=404
 fbalance:=383
 fjoin:=345
 ffirst:=343
 flast:=341
 fconcat:=347
 fsplit:=339
 fdrop:=340
 fpick:=342
 fmelded:=344
 fReplace:=284
 fover:=237
 fOver:=148
 fOverf:=236
 fSize:=146
 fNew:=205
 aTake:=346
 aasked:=368
 aFree:=382
 aAt:=295
 aPut:=381
 aNew:=294
 vm:=.func (.func 206) #[] #[]
 vc:=.func (.func 209) #[] #[]
 vd:=.func (.func 211) #[] #[]
def bI:az Gp where
 at_:=λh=>oU (dB 73 [] []) func213 h (by kernel_rfl)
 totals:=λh=>oU (dB 105124953 [] []) func214 h (by kernel_rfl)
 set:=λh=>oU (dB 1898057 [] [(dC [7] [0,1,3,7,15,0,32,127,255,511,511,1023,4095] []),(dC [6] [0,1,3,7,0,0,63] [])]) func384 h (by kernel_rfl)
 lift:=λh=>oU (dB 18336075607283273 [] []) func405 h (by kernel_rfl)
 lean:=λh=>oU (dB 4681 [] []) func404 h (by kernel_rfl)
 balance:=λh=>oU (dB 74962812180284412617 [] []) func383 h (by kernel_rfl)
 join:=λh=>oU (dB 164667896170387017 [] []) func345 h (by kernel_rfl)
 first:=λh=>oU (dB 18916041 [] []) func343 h (by kernel_rfl)
 last:=λh=>oU (dB 18916041 [] []) func341 h (by kernel_rfl)
 concat:=λh=>oU (dB 2364505 [] []) func347 h (by kernel_rfl)
 drop:=λh=>oU (dB 299083 [] []) func340 h (by kernel_rfl)
 over:=λh=>oU (dB 9 [] []) func148 h (by kernel_rfl)
 overf:=λh=>oU (dB 7 [] [(dC [8] [0,0,2,6,14,0,0,0,255] [])]) func236 h (by kernel_rfl)
 size:=λh=>oU (dB 73 [] []) func146 h (by kernel_rfl)
 take:=λh=>oU (dB 34629884582827097 [] [(dC [8] [0,1,3,7,0,0,32,127,255] []),(dC [7,8,11] [0,0,2,6,14,0,32,96,254,511,1023,2047] [[7,8]])]) func346 h (by kernel_rfl)
 asked:=λh=>oU (dB 1094981209 [] []) func368 h (by kernel_rfl)
 free:=λh=>oU (dB 153133657 [] []) func382 h (by kernel_rfl)
 aat:=λh=>oU (dB 17080921 [] []) func295 h (by kernel_rfl)
 put:=λh=>oU (dB 257991257 [] [(dC [8] [0,1,3,7,0,0,63,127,255] [])]) func381 h (by kernel_rfl)
 new:=λh=>oU (dB 465 [] [(dC [1,3] [0,0,3,7,15] [[1]])]) func205 h (by kernel_rfl)
 anew:=λh=>oU (dB 9 [] []) func294 h (by kernel_rfl)
 okOverf:=by kernel_rfl
def YK:YI Gp where
 split:=λh=>oU (dB 1139783263252496981699073113 [([14,15],[(14,15),(86,99)])] [(dC [7] [0,1,3,7,15,0,32,127,255,511,511,1023,4095] []),(dT [10,14,15,16,17] [0,1,3,7,15,0,32,0,0,384,1023,2047,4095,4095,0,0,57343,131071] [[10]] (.op 0 (.op 1 (.op 2 (.op 3 (.op 4 (.op 5 (.op 6 (.op 7 (.op 8 (.op 9 (.br (.op 10 (.op 11 (.op 12 (.op 13 (.br (.op 14 (.op 15 (.op 16 (.op 17 .nil)))) (.op 15 (.op 14 (.op 16 (.op 17 .nil))))))))) (.br (.op 14 (.br (.op 10 (.op 11 (.op 12 (.op 13 (.op 15 (.op 16 (.op 17 .nil))))))) (.op 15 (.op 10 (.op 11 (.op 12 (.op 13 (.op 16 (.op 17 .nil))))))))) (.op 15 (.br (.op 10 (.op 11 (.op 12 (.op 13 (.op 14 (.op 16 (.op 17 .nil))))))) (.op 14 (.op 10 (.op 11 (.op 12 (.op 13 (.op 16 (.op 17 .nil)))))))))))))))))))))),(dC [6] [0,1,3,7,0,0,63] []),(dC [3,11,13] [0,0,0,7,0,0,32,96,224,0,512,2031,0,8191,16383,32767] [])]) func339 h (by kernel_rfl)
 pick:=λh=>oU (dB 585 [] []) func342 h (by kernel_rfl)
 melded:=λh=>oU (dB 19348860497035137063950425 [([4,14],[(4,4),(6,11),(14,58)]),([],[(9,11),(30,53)]),([10,11],[(10,11),(35,48)])] [(dC [6] [0,1,3,7,15,0,63,127,255,255,511,2047] []),(dT [10,14,15] [0,1,3,7,15,0,0,96,224,0,1023,2047,4095,4095,0,24575,65535] [[10]] (.op 0 (.op 1 (.op 2 (.op 3 (.op 4 (.op 5 (.op 6 (.op 7 (.op 8 (.op 9 (.br (.op 10 (.op 11 (.op 12 (.op 13 (.op 14 (.op 15 (.op 16 .nil))))))) (.op 14 (.op 10 (.op 11 (.op 12 (.op 13 (.op 15 (.op 16 .nil)))))))))))))))))))]) func344 h (by kernel_rfl)
 replace:=λh=>oU (dB 33796047784247508390473 [([8,12],[(8,8),(12,14),(41,55)]),([11,12],[(11,12),(15,16),(59,73)]),([8,78],[(8,8),(18,18),(78,92)])] [(dC [8,9] [0,0,0,4,12,28,0,64,252,511,1023] [])]) func284 h (by kernel_rfl)
 over:=λh=>oU (dB 80812525486450030139198936169 [([],[(10,10),(20,26)]),([],[(10,10),(49,63)]),([],[(10,10),(19,19),(73,108)]),([],[(78,91)]),([],[(92,104)])] [(dC [7] [0,1,3,7,15,0,32,127,255,511,511,1023,4095] []),(dC [7,11] [0,1,3,7,15,0,0,127,255,511,511,1023] [[7]]),(dC [7,11] [0,1,3,7,15,0,0,127,255,511,511,2047] [[7]])]) func237 h (by kernel_rfl)
def ie:EM:=dB 16263455321 [] [(dC [2,3,4] [0,0,2,7,15] [])]
def S78(v0 v1 v2:Value)(K:Cont)(w:World):Prop:=by
 refine' (?f:∀B R,PX prog CS K (di prog CS Tryz.f78 ie [v0,v1,v2] w) B R->Prop) _ _ ⟨?a,?b⟩
 case a=>intro _;intros;conv=>lhs;reduce
 case b=>dsimp only[PI,AF];rfl
 exact λ_ R _=>R
variable {v0 v1 v2 v3 v4 v5 v6 v7 v8 v9:Value}{K:Cont}{w:World}
def fC(h:S78 v0 v1 v2 K w):AB prog 78 [v0,v1,v2] K w:=ck ie DV mixed func78 (by kernel_rfl) h (by kernel_rfl)
def cY:EM:=dB 297443788409034805350765657 [] [(dC [1,5] [0,1,0,0,0,31] [])]
def S180(v0 v1 v2:Value)(K:Cont)(w:World):Prop:=by
 refine' (?f:∀B R,PX prog CS K (di prog CS Tryz.f180 cY [v0,v1,v2] w) B R->Prop) _ _ ⟨?a,?b⟩
 case a=>intro _;intros;conv=>lhs;reduce
 case b=>dsimp only[PI,AF];rfl
 exact λ_ R _=>R
def bo(h:S180 v0 v1 v2 K w):AB prog 180 [v0,v1,v2] K w:=ck cY DV mixed func180 (by kernel_rfl) h (by kernel_rfl)
def db:EM:=dB 33369 [] []
def S238(v0 v1:Value)(K:Cont)(w:World):Prop:=by
 refine' (?f:∀B R,PX prog CS K (di prog CS Tryz.f238 db [v0,v1] w) B R->Prop) _ _ ⟨?a,?b⟩
 case a=>intro _;intros;conv=>lhs;reduce
 case b=>dsimp only[PI,AF];rfl
 exact λ_ R _=>R
def Zw(h:S238 v0 v1 K w):AB prog 238 [v0,v1] K w:=ck db DV mixed func238 (by kernel_rfl) h (by kernel_rfl)
def dW:EM:=dB 33369 [] []
def S246(v0 v1:Value)(K:Cont)(w:World):Prop:=by
 refine' (?f:∀B R,PX prog CS K (di prog CS Tryz.f246 dW [v0,v1] w) B R->Prop) _ _ ⟨?a,?b⟩
 case a=>intro _;intros;conv=>lhs;reduce
 case b=>dsimp only[PI,AF];rfl
 exact λ_ R _=>R
def aF(h:S246 v0 v1 K w):AB prog 246 [v0,v1] K w:=ck dW DV mixed func246 (by kernel_rfl) h (by kernel_rfl)
end
def gh(b i j:Nat):(⟨b,i,none⟩:Addr).add j=⟨b,i+j,none⟩:=by rw[<-AI b i,Addr.add_add,AI]
def P8(b:Nat):∀(us:List Value) (p:Nat) (w:World),w.setCells b p us=EN w ⟨b,0,none⟩ p us:=by
 intro us;induction us with
 |nil=>intro p w;rfl
 |cons v us i=>intro p w;rw[World.setCells,EN,AI,i]
def Bx.copy{b o I dc sl J:Nat}{a:Addr}{vs us:List Value}{dT O ty i:TypeId}(hu:P.underlying dT=some (.slice i))(V:(P.info? i).map (·.size)=some 1)
 (h:Bx W b vs)(X:us.length=min sl I)(Q:us=[]\/o+us.length<=vs.length)(q:∀j v,us[j]?=some v->W.cell? (a.add j)=some v)(h1:∀v∈us,v.oneCell'=true)
 (U:∀W',Bx W' b (JH vs o us)->Mod (λx=>x=b) W W'->K (zI (us.length:Int)) W') :
  runK P (Builtin.copy_ #[dT,O] ty [Value.slice (some ⟨b,o,none⟩) I dc,.slice (some a) sl J].toArray) K W:=by
 have m:∀j,j<us.length->Live W ⟨b,o+j,none⟩:=λj B=>by
  rcases Q with e|e
  .subst e;exact(Nat.not_lt_zero _ B).elim
  .exact h.live _ (by omega)
 refine AX (run_copy_cells W dT O ty i b o I dc a sl J us hu V X q (λj B=>(m j B).1) (λj B=>(m j B).2) h1) ?_;rw[P8];rcases Q with e|e
 .subst e;exact U _ h (Mod.refl _ _)
 .have:=h.EN us o W vs e;exact U _ this.1 this.2
def YR:prog.underlying 182=some (.array (prog.arrayLen 182) (prog.elem 182))/\prog.arrayLen 182=32/\prog.elem 182=21:=by
 have hu:=underlying182;have i:prog.arrayLen 182=32:=by simp[Program.arrayLen,hu]
 have j:prog.elem 182=21:=by simp[Program.elem,hu]
 exact⟨by rw[i,j];exact hu,i,j⟩
def YW(w:World):(sizeOf 21).run prog w=.ok 1 w:=by
 simp only[sizeOf,lH,Tryz.typeInfo21,S9,mG];rfl
def dO{b i:Nat}(h:i<32)(j:K (.pointer (some ⟨b,i,none⟩)) W):runK prog (Instr.indexAt 182 (.pointer (some ⟨b,0,none⟩)) (zI (i:Int))) K W:=by
 obtain⟨ht,m,o⟩:=YR;refine AX ?_ j;rw[run_indexAt_array W _ _ _ _ ht,DN ⟨by omega,by rw[m];omega⟩,o,YW,S9,mH,oI,AI]
def NC{b:Nat}(i:K (.slice (some ⟨b,0,none⟩) 32 32) W):runK prog (Instr.sliceAt 182 (.pointer (some ⟨b,0,none⟩)) none none none) K W:=by
 obtain⟨ht,j,m⟩:=YR;refine AX ?_ i;rw[run_sliceAt_array_all W _ _ ht,m,YW,S9,j];simp[slicedAt,AI]
def cD{b h:Nat}(o:h<=32)(j:K (.slice (some ⟨b,0,none⟩) h 32) W):runK prog (Instr.sliceAt 182 (.pointer (some ⟨b,0,none⟩)) none (some (zI (h:Int))) none) K W:=by
 obtain⟨ht,i,m⟩:=YR;refine AX ?_ j;rw[run_sliceAt_array_h W _ _ ht _ _ (by omega) (by rw[i];omega),m,YW,S9,i];simp[slicedAt,AI]
def jG{b l:Nat}(hl:l<=32)(j:K (.slice (some ⟨b,if 32=l then 0 else l,none⟩) (32-l) (32-l)) W):runK prog (Instr.sliceAt 182 (.pointer (some ⟨b,0,none⟩)) (some (zI (l:Int))) none none) K W:=by
 obtain⟨ht,i,m⟩:=YR;refine AX ?_ j;rw[run_sliceAt_array_l W _ _ ht _ _ (by omega) (by rw[i];omega),m,YW,S9,i];simp only[slicedAt,mH,oI,AI];by_cases e:32=l
 .rw[DN e,DN e]
 .rw[Bp e,Bp e]
def dI{b l h:Nat}(hl:l<=h)(o:h<=32)(j:K (.slice (some ⟨b,if 32=l then 0 else l,none⟩) (h-l) (32-l)) W):runK prog (Instr.sliceAt 182 (.pointer (some ⟨b,0,none⟩)) (some (zI (l:Int))) (some (zI (h:Int))) none) K W:=by
 obtain⟨ht,i,m⟩:=YR;refine AX ?_ j;rw[run_sliceAt_array_lh W _ _ ht _ _ _ _ (by omega) (by omega) (by rw[i];omega),m,YW,S9,i];simp only[slicedAt,mH,oI,AI];by_cases e:32=l
 .rw[DN e,DN e]
 .rw[Bp e,Bp e]
def O0{e d:Nat}{k:IntKind}(he:P.plainKey e=true)(hu:P.underlying e=some (.int k)){xs m:Array Value}:∀is:List Nat,(∀i∈is,∃a b,xs[i*1]?=some (.int k a)/\m[i*1]?=some (.int k b))->
  ∃r,(Op.eqItems (d+1) e 1 xs m is).run P w=.ok r w:=by
 intro is;induction is with
 |nil=>intro _;exact⟨true,by simp[Op.eqItems]⟩
 |cons i is o=>
  intro h;obtain⟨a,b,h1,q⟩:=h i (by simp);obtain⟨r,hr⟩:=o λj B=>h j (by simp[B]);simp only[Op.eqItems,lH,run_part_plain w he h1,run_part_plain w he q,nm w d e k k a b hu,S9];cases a==b
  .exact⟨false,by simp⟩
  .exact⟨r,by simpa using hr⟩
def gn{xs m:List Int}(q:xs.length=32)(B:m.length=32)(I:∀r:Bool,K (.bool r) W) :
  runK prog (Di .eql 182 xo yo (.agg (xs.map (Value.int .i32)).toArray) (.agg (m.map (Value.int .i32)).toArray)) K W:=by
 have hu:=underlying21;have hp:prog.plainKey 21=true:=by simp[Program.plainKey,hu]
 have hc:prog.cellsOf 21=1:=by kernel_rfl
 obtain⟨i,hi⟩:∃i,prog.info? 21=some i:=⟨Tryz.t21,by kernel_rfl⟩;have key:∃r,(Op.equalIn 10000 182 (.agg (xs.map (Value.int .i32)).toArray) (.agg (m.map (Value.int .i32)).toArray)).run prog W=.ok r W:=by
  rw[run_equalIn_array W 9999 _ _ underlying182 hi,hc];refine O0 (d:=9998) hp hu _ λj J=>?_;have o:=nW.1 J;exact⟨xs[j]'(by omega),m[j]'(by omega),by simp[q,o],by simp[B,o]⟩
 obtain⟨r,hr⟩:=key;refine AX (v:=.bool r) (w':=W) ?_ (I r);have O:prog.eqGuardType prog.depth 182=false:=by kernel_rfl
 have Q:(eqGuard .eql 182 xo yo (.agg (xs.map (Value.int .i32)).toArray) (.agg (m.map (Value.int .i32)).toArray)).run prog W=.ok () W:=by
  simp[eqGuard,O]
 simp only[Di,lH,Q,S9];rw[run_eql_struct,hr];rfl
structure Ck where
 l:List Int
 le:l.length<=32
namespace Ck
def nil:Ck:=⟨[],by simp⟩
def tk(c:Ck)(i:Nat):Ck:=⟨c.l.take i,by have:=c.le;simp only[Lc];omega⟩
def dp(c:Ck)(i:Nat):Ck:=⟨c.l.drop i,by have:=c.le;simp only[Hy];omega⟩
def jn(a b:Ck):Ck:=if h:a.l.length+b.l.length<=32 then⟨a.l++b.l,by simpa using h⟩ else nil
def all(c:Ck):List Int:=c.l++List.replicate (32-c.l.length) 0
def cells(c:Ck):List Value:=c.all.map (Value.int .i32)++[zI (c.l.length:Int)]
def J3(c:Ck):c.all.length=32:=by have:=c.le;simp[all];omega
def len(c:Ck):c.cells.length=33:=by simp[cells,c.J3]
def one(c:Ck):∀u∈c.cells,u.oneCell'=true:=λu hu=>by
 simp only[cells,By,lT,S6] at hu;rcases hu with⟨_,_,rfl⟩|rfl<;>rfl
def n(c:Ck):c.cells[32]?=some (zI (c.l.length:Int)):=by
 rw[cells,lF (by rw[I3,c.J3];exact K8 _),I3,c.J3];rfl
def gj(c:Ck){u:Value}(h:(c.all.map (Value.int .i32))[j]?=some u):c.cells[j]?=some u:=by
 rw[cells,Q0 (Ad.1 h).1];exact h
def get(c:Ck)(h:j<c.l.length):c.cells[j]?=some (.int .i32 c.l[j]):=by
 refine c.gj ?_;rw[ly,all,Q0 h,Bq h];rfl
def fill(c:Ck){us:List Int}(h:c.l.length+us.length<=32):(JH c.cells c.l.length (us.map (Value.int .i32))).set 32 (zI ((c.l.length+us.length:Nat):Int))=cells ⟨c.l++us,by simpa using h⟩:=by
 have e0:c.cells=c.l.map (Value.int .i32)++(List.replicate (32-c.l.length) (Value.int .i32 0)++[zI (c.l.length:Int)]):=by
  simp[cells,all]
 have i:c.cells.take c.l.length=c.l.map (Value.int .i32):=by rw[e0,pC (by simp)]
 have j:c.cells.drop (c.l.length+us.length)=List.replicate (32-c.l.length-us.length) (Value.int .i32 0)++[zI (c.l.length:Int)]:=by
  rw[e0,<-oo,pE (by simp),List.drop_append_of_le_length (by simp;omega),List.drop_replicate]
 rw[Mv _ _ _ (by rw[c.len];simp;omega),i,I3,j,<-P9,mJ _ _ (by simp;omega)];have m:32-(c.l.map (Value.int .i32)++us.map (Value.int .i32)++List.replicate (32-c.l.length-us.length) (Value.int .i32 0)).length=0:=by simp;omega
 rw[m];simp[cells,all,qw]
def Xv{us:List Int}(h:us.length<=32):(JH nil.cells 0 (us.map (Value.int .i32))).set 32 (zI (us.length:Int))=cells ⟨us,h⟩:=by
 have:=fill nil (us:=us) (by simpa[nil] using h);simp only[nil,lX,mQ,lg] at this;exact this
end Ck
abbrev BJ(l:List Int):Nat:=l.count 10
def gH(c:Ck):AB prog 207 [.agg c.cells.toArray] (λv w'=>v=zI (c.l.length:Int)/\Grow w w') w:=by
 refine uS1 (dB 9 [] []) func207 (λ_ _ _=>⟨by conv=>lhs;reduce,by dsimp only[PI,AF],by kernel_rfl⟩) ?_;unfold uI;refine Bx.box λb j hb i B=>?_;rw[AH,AI];exact AJ (B.cells 32 _ c.n) ⟨rfl,i⟩
def Qk(c:Ck)(i:Nat):AB prog 121 [.agg c.cells.toArray,zI (i:Int)] (λv w'=>v=zI (BJ (c.l.take i):Int)/\Grow w w') w:=by
 refine uS2 (dB 4407878326361 [([4,11],[(4,5),(11,21)])] []) func121 (λ_ _ _ _=>⟨by conv=>lhs;reduce,by dsimp only[PI,AF],by kernel_rfl⟩) ?_;unfold uI;refine Bx.box λb I hb J B=>?_;rw[GC,AH,AI];refine AJ (B.cells 32 _ c.n) ?_;have O:=c.le;have e:∀{k:Value->Prop},k (zI ((min i c.l.length:Nat):Int))->MI .i64 (zI (if(0:Int)>(i:Int) then 0 else(i:Int))) (zI (c.l.length:Int)) k:=λ{k} h=>by
  rw[Bp (by omega),Hi];have:(if(c.l.length:Int)<(i:Int) then(c.l.length:Int) else(i:Int))=((min i c.l.length:Nat):Int):=by split<;>omega
  rw[this];exact h
 refine e ?_;refine AU (λvs W=>∃k:Nat,k<=min i c.l.length/\vs=[zI (BJ (c.l.take k):Int),zI k]/\W=I) (λvs _=>32-Dh vs 1) ⟨0,Nn _,rfl,rfl⟩ ?_;rintro vs _ ⟨k,hk,rfl,rfl⟩ _;rename World=>I
 simp only[FC];refine G9 (λQ=>?_) λU=>?_
 .have j:k<c.l.length:=by omega
  rw[AH,AI];refine dO (by omega) (AJ (B.cells k _ (c.get j)) ?_);rw[Aa];have et:c.l.take (k+1)=c.l.take k++[c.l[k]]:=by rw[S5];simp[j]
  have hb:BJ (c.l.take k)<=32:=lx rm (by rw[Lc];omega);refine AD (λm=>?_) λm=>?_
  .have o:BJ (c.l.take (k+1))=BJ (c.l.take k)+1:=by rw[et,BJ,od,m];simp
   rw[AM,wrap64 (by omega) (by omega),AM,wrap64 (by omega) (by omega)];refine⟨⟨k+1,by omega,?_,rfl⟩,by rw[Ar,Ar];omega⟩;rw[o];rfl
  .have o:BJ (c.l.take (k+1))=BJ (c.l.take k):=by
    have:¬c.l[k]=(10:Int):=m;rw[et,BJ,od];simp[this]
   rw[AM,wrap64 (by omega) (by omega)];refine⟨⟨k+1,by omega,?_,rfl⟩,by rw[Ar,Ar];omega⟩;rw[o];rfl
 .have q:k=min i c.l.length:=by omega
  subst q;refine⟨?_,J⟩;rw[show c.l.take (min i c.l.length)=c.l.take i by
   rcases Nat.le_total i c.l.length with h|h
   .rw[lQ h]
   .rw[Nat.min_eq_right h,S7,mU h]]
def Q4(c:Ck):AB prog 208 [.agg c.cells.toArray] (λv w'=>v=zI (BJ c.l:Int)/\Grow w w') w:=by
 refine uS1 (dB 9 [] []) func208 (λ_ _ _=>⟨by conv=>lhs;reduce,by dsimp only[PI,AF],by kernel_rfl⟩) ?_;unfold uI;refine Bx.box λb m hb i B=>?_;refine B.Eg c.len ?_;refine Az (B.cells 32 _ c.n) ?_;refine AA (Qk c c.l.length) ?_;rintro _ w2 ⟨rfl,j⟩;exact⟨by rw[S7],i.trans j⟩
def G5:List Int->Nat->Option Nat
 |[],_=>none
 |r::t,k=>if r=10 then(match k with | 0=>some 0 | k+1=>(G5 t k).map (·+1)) else(G5 t k).map (·+1)
def G7(r:Int)(t:List Int)(k:Nat):G5 (r::t) k=if r=10 then(match k with|0=>some 0|k+1=>(G5 t k).map (·+1)) else(G5 t k).map (·+1):=by cases k<;>rfl
def jg:Option Nat->Value
 |some i=>.tuple #[.int .i64 (i:Int),.bool true]
 |none=>.tuple #[.int .i64 0,.bool false]
def Pa(c:Ck){k:Nat}(hk:k<=1099511627776):AB prog 124 [.agg c.cells.toArray,zI (k:Int)] (λv w'=>v=jg (G5 c.l k)/\Grow w w') w:=by
 refine uS2 (dB 1155780315537840217 [([1,9],[(1,1),(4,6),(9,22)])] []) func124 (λ_ _ _ _=>⟨by conv=>lhs;reduce,by dsimp only[PI,AF],by kernel_rfl⟩) ?_;unfold uI;refine Bx.box λb Q hb U B=>?_;refine Az (B.cells 32 _ c.n) ?_;have V:=c.le;refine AU (λvs W=>∃i m:Nat,i<=c.l.length/\m<=k/\vs=[zI m,zI i]/\G5 c.l k=(G5 (c.l.drop i) m).map (·+i)/\W=Q) (λvs _=>32-Dh vs 1) ⟨0,k,Nn _,K8 _,rfl,by rw[mz];cases G5 c.l k<;>rfl,rfl⟩ ?_;rintro vs _ ⟨i,m,hi,hm,rfl,j,rfl⟩ _;rename World=>Q
 simp only[FC];refine G9 (λX=>?_) λY=>?_
 .have q:i<c.l.length:=by omega
  rw[AH,AI];refine dO (by omega) (AJ (B.cells i _ (c.get q)) ?_);rw[BL];rw[mI q,G7] at j;have J:∀o:Option Nat,(o.map (·+1)).map (·+i)=o.map (·+(i+1)):=λo=>by cases o<;>simp;omega
  refine AW (λO=>?_) λO=>?_
  .have I:c.l[i]=(10:Int):=O;rw[DN I] at j;rw[Aa];refine AD (λh0=>?_) λh0=>?_
   .obtain rfl:m=0:=by omega
    exact⟨by rw[j];simp[jg],U⟩
   .obtain⟨m,rfl⟩:∃Z,m=Z+1:=⟨m-1,by omega⟩;simp only[J] at j;rw[Am,wrap64 (by omega) (by omega),AM,wrap64 (by omega) (by omega)];refine⟨⟨i+1,m,q,by omega,?_,j,rfl⟩,by rw[Ar,Ar];omega⟩;congr 2
    omega
  .have I:¬c.l[i]=(10:Int):=O;rw[Bp I,J] at j;rw[AM,wrap64 (by omega) (by omega)];exact⟨⟨i+1,m,q,hm,rfl,j,rfl⟩,by rw[Ar,Ar];omega⟩
 .obtain rfl:i=c.l.length:=by omega
  rw[nd] at j;exact⟨by rw[j];rfl,U⟩
def Y7(c:Ck):AB prog 149 [.agg c.cells.toArray] (λv w'=>AE w.heap.size 21 1 Be w' v c.l/\Grow w w') w:=by
 refine uS1 (dB 9 [] []) func149 (λ_ _ _=>⟨by conv=>lhs;reduce,by dsimp only[PI,AF],by kernel_rfl⟩) ?_;unfold uI;refine Bx.box λb Q hb q B=>?_;have m:=c.le;rw[AH,AH,AI,AI];refine AJ (B.cells 32 _ c.n) (cD m ?_);refine AA (Kk (S:=λ_=>True) (l:=c.l) ⟨_,_,rfl,by omega,by simp[maxLen],λi x I=>⟨_,[.int .i32 x],rfl,trivial,rfl,λj u hu=>?_,rfl⟩⟩ (by omega)) ?_
 .obtain⟨hi,rfl⟩:=Ad.1 I;obtain⟨rfl,rfl⟩:j=0/\u=.int .i32 c.l[i]:=by
   cases j with
   |zero=>simp at hu;exact⟨rfl,hu.symm⟩
   |succ j=>simp at hu
  rw[AI];exact B.cells _ _ (by simpa using c.get hi)
 rintro v w2 ⟨o,J⟩;have:=q.size;exact⟨AE.base o λg O=>by have:=(AE.Aj o g O).1;omega,q.trans J⟩
def Y6(c:Ck){i:Nat}(hi:i<=c.l.length):AB prog 210 [.agg c.cells.toArray,zI (i:Int)] (λv w'=>v=.tuple #[.agg (c.tk i).cells.toArray,.agg (c.dp i).cells.toArray,zI 0]/\Grow w w') w:=by
 refine uS2 (dB 2113148009 [([],[(6,16)]),([],[(17,23)]),([],[(24,32)])] [(dT [1,4,5,7] [0,1,0,0,12,31,63,127] [[1,4,5]] (.op 0 (.op 2 (.op 3 (.br (.op 1 (.op 4 (.op 5 (.op 6 (.op 7 .nil))))) (.op 4 (.op 1 (.op 5 (.op 6 (.op 7 .nil)))))))))),(dT [1,6,7,9] [0,1,0,0,0,16,60,127,255,511] [[1,6,7]] (.op 0 (.op 2 (.op 3 (.op 4 (.op 5 (.br (.op 1 (.op 6 (.op 7 (.op 8 (.op 9 .nil))))) (.op 6 (.op 1 (.op 7 (.op 8 (.op 9 .nil))))))))))))]) func210 (λ_ _ _ _=>⟨by conv=>lhs;reduce,by dsimp only[PI,AF],by kernel_rfl⟩) ?_;unfold uI;refine Bx.box λb2 w1 a7 g1 B2=>?_;refine Bx.zero λb4 w2 a8 Z B4=>?_;refine Bx.zero λb5 w3 ak Y B5=>?_;have Q:=c.le;have l2:=B2.lt (by rw[c.len];omega);have l4:=B4.lt (by decide);have l5:=B5.lt (by decide);have C2:=(B2.grow Z).grow Y;have C4:Bx w3 b4 Ck.nil.cells:=B4.grow Y;have C5:Bx w3 b5 Ck.nil.cells:=B5;have z1:=g1.size;have z2:=Z.size;have z3:=Y.size;have a1:=(g1.trans Z).trans Y;have hu:=underlying79;have hs:(prog.info? 21).map (·.size)=some 1:=by kernel_rfl
 have J:(c.l.take i).length=i:=by rw[Lc];omega
 have O:(c.l.drop i).length=c.l.length-i:=Hy;have I:∀l:List Int,∀v∈l.map (Value.int .i32),v.oneCell'=true:=λl v U=>by
  obtain⟨_,_,rfl⟩:=lT.1 U;rfl
 refine AR (λ_ W=>W=w3) ?_ ?_
 .rintro _ W rfl _;refine AR (λ_ W'=>Bx W' b2 c.cells/\Bx W' b4 (c.tk i).cells/\Bx W' b5 Ck.nil.cells/\Grow w W'/\W.heap.size<=W'.heap.size) ?_ ?_
  .rintro _ W1 ⟨D2,D4,D5,gW,zW⟩ _;refine AR (λ_ W'=>Bx W' b4 (c.tk i).cells/\Bx W' b5 (c.dp i).cells/\Grow w W') ?_ ?_
   .rintro _ W2 ⟨E4,E5,a6⟩ _;refine E4.Eg (Ck.len _) (E5.Eg (Ck.len _) ?_);refine E4.over (Ck.len _) (Ck.len _) (Ck.one _) λW3 F4 m=>?_;refine(E5.mod m λe=>by omega).over (Ck.len _) (Ck.len _) (Ck.one _) λW4 F5 m4=>?_;refine(F4.mod m4 λe=>by omega).Eg (Ck.len _) (F5.Eg (Ck.len _) ⟨rfl,?_⟩);exact(a6.next m λy V e=>by omega).next m4 λy V e=>by omega
   .have o:Grow W1 W1.drew:=Mod.drew _ _;have X:=D2.grow o;have H4:=D4.grow o;have H5:=D5.grow o;refine AT (λ_ y=>y=b5) ?_;rw[AH,AH,AH,AI,AI,AI];refine AP ⟨X.cells 32 _ c.n,λ_ _ e=>by simp only at e;omega⟩ ?_;refine⟨NC ⟨Mod.refl _ _,dI hi Q ⟨Mod.refl _ _,?_⟩⟩,dI hi Q ⟨Mod.refl _ _,NC ⟨Mod.refl _ _,?_⟩⟩⟩ <;>
    .refine H5.copy hu hs (us:=(c.l.drop i).map (Value.int .i32)) (by rw[I3,O];omega) (.inr (by rw[I3,O,Ck.len];omega)) (λj v U=>?_) (I _) λW2 I5 B=>?_
     .obtain⟨hj,rfl⟩:=Ad.1 U;rw[I3,O] at hj;rw[Bp (by omega),nA,List.getElem_drop,gh];exact X.cells (i+j) _ (c.get (by omega))
     refine⟨B,?_⟩;rw[AH,AI];refine I5.st (q:=32) (by rw[Ll,Ck.len];omega) rfl rfl λW3 J5 m=>⟨m,?_⟩;rw[I3] at J5;have e5:=Ck.Xv (us:=c.l.drop i) (by omega);rw[e5] at J5;refine⟨((D4.grow o).mod B λe=>by omega).mod m λe=>by omega,J5,?_⟩;exact(((gW.trans o).next B λy V e=>by omega)).next m λy V e=>by omega
  .have o:Grow W W.drew:=Mod.drew _ _;have X:=C2.grow o;have H4:=C4.grow o;have H5:=C5.grow o;refine AT (λ_ y=>y=b4) ?_;rw[AH,AH,AI,AI];refine⟨NC ⟨Mod.refl _ _,cD (by omega) ⟨Mod.refl _ _,?_⟩⟩,cD (by omega) ⟨Mod.refl _ _,NC ⟨Mod.refl _ _,?_⟩⟩⟩ <;>
   .refine H4.copy hu hs (us:=(c.l.take i).map (Value.int .i32)) (by rw[I3,J];omega) (.inr (by rw[I3,J,Ck.len];omega)) (λj v U=>?_) (I _) λW2 I4 B=>?_
    .obtain⟨hj,rfl⟩:=Ad.1 U;rw[I3,J] at hj;rw[AI,nA,ob];exact X.cells j _ (c.get (by omega))
    refine⟨B,?_⟩;rw[AH,AI];refine I4.st (q:=32) (by rw[Ll,Ck.len];omega) rfl rfl λW3 J4 m=>⟨m,?_⟩;rw[I3] at J4;have e4:=Ck.Xv (us:=c.l.take i) (by omega);rw[e4] at J4;have zd:=o.size;have s2:=B.size;have s3:=m.size;refine⟨(X.mod B λe=>by omega).mod m λe=>by omega,J4,(H5.mod B λe=>by omega).mod m λe=>by omega,?_,by omega⟩;exact(((a1.trans o).next B λy V e=>by omega)).next m λy V e=>by omega
 .rw[Ai];refine AD (λe=>by omega) λ_=>?_;refine Az (C2.cells 32 _ c.n) ?_;rw[BE];exact AD (λe=>by omega) λ_=>rfl
structure Spn where
 n:Nat
 id:Int
 deriving DecidableEq
namespace Spn
def u(s:Spn):List Int:=List.replicate s.n s.id
def Hx:Option Int->List Spn->Prop
 |_,[]=>True
 |p,s::t=>0<s.n/\p≠some s.id/\Hx (some s.id) t
def rn(x:Int):Option Int->List Int->Nat
 |_,[]=>0
 |p,y::t=>(if y=x/\p≠some x then 1 else 0)+rn x (some y) t
def HP(p:Option Int)(l:List Int):Option Int:=match l.getLast? with|some y=>some y|none=>p
def SL(p:Option Int)(y:Int)(l:List Int):HP p (y::l)=HP (some y) l:=by
 unfold HP;cases l with
 |nil=>rfl
 |cons z l=>rw[rC];cases h:(z::l).getLast? with
  |none=>simp at h
  |some q=>rfl
def L1(x:Int)(p:Option Int)(l m:List Int):rn x p (l++m)=rn x p l+rn x (HP p l) m:=by
 induction l generalizing p with
 |nil=>simp[rn,HP]
 |cons y l i=>rw[Za,rn,rn,i,SL];omega
def fM(x:Int)(p:Option Int)(n:Nat)(y:Int):rn x p (List.replicate (n+1) y)=if y=x/\p≠some x then 1 else 0:=by
 induction n generalizing p with
 |zero=>simp[rn]
 |succ n i=>
  rw[List.replicate_succ,rn,i];by_cases h:y=x
  .subst h;simp
  .simp[h]
def Vn(p:Option Int)(n:Nat)(y:Int):HP p (List.replicate (n+1) y)=some y:=by
 unfold HP;rw[List.getLast?_replicate];simp
def WZ(x:Int)(p:Option Int)(l:List Spn)(h:Hx p l):l.countP (λs=>decide (s.id=x))=rn x p (l.flatMap u):=by
 induction l generalizing p with
 |nil=>rfl
 |cons s l i=>
  obtain⟨h1,j,o⟩:=h;obtain⟨m,hm⟩:∃m,s.n=m+1:=⟨s.n-1,by omega⟩;rw[pT,i _ o,mE,L1,u,hm,fM,Vn];by_cases h:s.id=x
  .subst h;simp[j];omega
  .simp[h]
def EW(p:Option Int)(l:List Spn):Option Int:=match l.getLast? with|some s=>some s.id|none=>p
def Qc(p:Option Int)(y:Spn)(l:List Spn):EW p (y::l)=EW (some y.id) l:=by
 unfold EW;cases l with
 |nil=>rfl
 |cons z l=>rw[rC];cases h:(z::l).getLast? with
  |none=>simp at h
  |some q=>rfl
def Hq{p:Option Int}{l m:List Spn}:Hx p (l++m)↔Hx p l/\Hx (EW p l) m:=by
 induction l generalizing p with
 |nil=>simp[Hx,EW]
 |cons s l i=>rw[Za,Hx,Hx,i,Qc];constructor<;>(rintro⟨h1,j⟩;simp_all)
def QZ{p:Option Int}{l:List Spn}:Hx p l↔Hx none l/\∀s∈l.head?,p≠some s.id:=by
 cases l with
 |nil=>simp[Hx]
 |cons s l=>
  simp only[Hx,List.head?_cons,Option.mem_def,gM,forall_eq'];exact⟨λ⟨a,b,c⟩=>⟨⟨a,by simp,c⟩,b⟩,λ⟨⟨a,b,c⟩,d⟩=>⟨a,d,c⟩⟩
def MY{p:Option Int}{l:List Spn}(h:Hx p l):Hx none l:=(QZ.1 h).1
def kd:Kd Spn where
 μ:=λs=>(s.n,0)
 cut:=λs p=>(⟨p,s.id⟩,⟨s.n-p,s.id⟩)
 meld:=λa b=>if a.id=b.id then some ⟨a.n+b.n,a.id⟩ else none
def EE:kd.FW u where
 size:=λs=>by simp[kd,u]
 cut1:=λs p h0 h1=>by
  rw[u,me] at h1;simp only[kd,u,List.take_replicate,List.drop_replicate];exact⟨by rw[lQ (by omega)],trivial⟩
 melds:=λa b c h=>by
  simp only[kd] at h;split at h
  .rename_i e;cases h;simp only[u,e,qE]
  .cases h
def Ku{out:List Spn}(x:Spn)(h:Hx none out):Hx none (kd.CC out x)/\(∀y,out.head?=some y->∃z,(kd.CC out x).head?=some z/\z.id=y.id)/\(0<x.n->EW none (kd.CC out x)=some x.id)/\(out=[]->0<x.n->(kd.CC out x).head?=some x)/\(x.n=0->kd.CC out x=out):=by
 unfold Kd.CC;rw[show(kd.μ x).1=x.n from rfl];by_cases h0:x.n=0
 .rw[DN h0];exact⟨h,λy m=>⟨y,m,rfl⟩,λh1=>by omega,λ_ h1=>by omega,λ_=>rfl⟩
 .rw[Bp h0];rcases lS out with rfl|⟨o,y,rfl⟩
  .simp[Hx,EW];omega
  .rw[mB] at h ⊢;obtain⟨h1,j⟩:=Hq.1 h;simp only[cq,kY,lu,mW];by_cases hm:y.id=x.id
   .rw[show kd.meld y x=some ⟨y.n+x.n,y.id⟩ by simp[kd,hm]];refine⟨Hq.2 ⟨h1,?_,j.2.1,trivial⟩,λz i=>?_,λ_=>by simp[EW,hm],λe=>by simp at e,λe=>(h0 e).elim⟩
    .have:=j.1;simp only;omega
    .cases o with
     |nil=>simp at i;subst i;exact⟨_,rfl,rfl⟩
     |cons w o=>exact⟨z,by simpa using i,rfl⟩
   .rw[show kd.meld y x=none by simp[kd,hm]];refine⟨Hq.2 ⟨h,by omega,by simp[EW,hm],trivial⟩,λz i=>⟨z,?_,rfl⟩,λ_=>by simp[EW],λe=>by simp at e,λe=>(h0 e).elim⟩;rw[List.head?_append,i];rfl
def JU(l:List Spn):∀out,Hx none out->Hx none (l.foldl kd.CC out)/\(∀y,out.head?=some y->∃z,(l.foldl kd.CC out).head?=some z/\z.id=y.id):=by
 induction l with
 |nil=>exact λout h=>⟨h,λy i=>⟨y,i,rfl⟩⟩
 |cons x l m=>
  intro out h;obtain⟨a,b,_⟩:=Ku x h;obtain⟨c,d⟩:=m _ a;refine⟨c,λy i=>?_⟩;obtain⟨z,o,e⟩:=b y i;obtain⟨q,j,e'⟩:=d z o;exact⟨q,j,e'.trans e⟩
def Ob(l:List Spn)(at':Nat):∀p,Hx p l->Hx p (kd.split l at').1/\Hx none (kd.split l at').2:=by
 induction l generalizing at' with
 |nil=>intro p _;exact⟨trivial,trivial⟩
 |cons s l i=>
  intro p h;simp only[Kd.split];by_cases h0:at'=0
  .rw[DN h0];exact⟨trivial,MY h⟩
  .rw[Bp h0];obtain⟨a,b,c⟩:=h;by_cases h1:(kd.μ s).1<=at'
   .rw[DN h1];obtain⟨d,e⟩:=i (at'-(kd.μ s).1) _ c;exact⟨⟨a,b,d⟩,e⟩
   .rw[Bp h1];simp only[kd] at h1;exact⟨⟨by simp only[kd];omega,b,trivial⟩,by simp only[kd];omega,by simp,c⟩
def Q8(y z:Option Spn)(l:List Spn)(j:∀s∈y,0<s.n)(m:∀s∈z,0<s.n) :
  (∀s∈y,∃t,(kd.melded (y.toList++l++z.toList)).head?=some t/\t.id=s.id)/\(∀s∈z,EW none (kd.melded (y.toList++l++z.toList))=some s.id):=by
 constructor
 .intro s i;cases i;have:=j s rfl;unfold Kd.melded;simp only[Option.toList_some,Za,lg,mr];have hm:=Ku s (out:=[]) trivial;obtain⟨o,h1,q⟩:=(JU (l++z.toList) _ hm.1).2 s (hm.2.2.2.1 rfl this);exact⟨o,h1,q⟩
 .intro s i;cases i;have:=m s rfl;unfold Kd.melded;rw[Option.toList_some,mY,mr,pN];exact(Ku s (JU _ [] trivial).1).2.2.1 this
def KA{p:Option Int}{l:List Spn}(h:Hx p l):∀s∈l,0<s.n:=by
 induction l generalizing p with
 |nil=>intro s i;simp at i
 |cons x l j=>
  intro s i;rcases Mp.1 i with rfl|i
  .exact h.1
  .exact j h.2.2 s i
def YU{a b M:List Spn}(ha:Hx none a)(hb:Hx none b)(hm:Hx none M)(J:∀s∈a.getLast?,∃t,M.head?=some t/\t.id=s.id)(O:∀s∈b.head?,EW none M=some s.id):Hx none (a.dropLast++M++b.tail):=by
 rw[Hq,Hq];refine⟨⟨?_,?_⟩,?_⟩
 .rcases lS a with rfl|⟨o,y,rfl⟩
  .exact trivial
  .rw[mB] at *;rw[mW];exact(Hq.1 ha).1
 .rw[QZ];refine⟨hm,λs m=>?_⟩;rcases lS a with rfl|⟨o,y,rfl⟩
  .simp[EW]
  .rw[mB] at *;rw[mW];obtain⟨q,B,j⟩:=J y (by simp);have:s=q:=by rw[Option.mem_def] at m;rw[m] at B;exact lK B
   rw[this,j];exact(Hq.1 ha).2.2.1
 .cases b with
  |nil=>exact trivial
  |cons z b=>
   have i:=O z (by simp);have e:EW none (a.dropLast++M)=some z.id:=by
    unfold EW at i ⊢;rw[cq];cases I:M.getLast? with
    |some s=>rw[I] at i;exact i
    |none=>rw[I] at i;cases i
   rw[e];exact hb.2.2
def IV{t:List Spn}(i j:Nat)(l:List Spn)(h:Hx none t):Hx none (kd.Bl t i j l):=by
 obtain⟨ha,m⟩:=Ob t i _ h;obtain⟨_,hb⟩:=Ob (kd.split t i).2 (j-i) _ m;obtain⟨q,B⟩:=Q8 (kd.split t i).1.getLast? (kd.split (kd.split t i).2 (j-i)).2.head? l (λs o=>KA ha s (nP o)) (λs o=>KA hb s (List.mem_of_head? o));exact YU ha hb (JU _ [] trivial).1 q B
def VS(x:Int)(P Q Q' R:List Int)(h1:P≠[]->Q.head?=Q'.head?/\Q≠[]/\Q'≠[])(m:R≠[]->Q.getLast?=Q'.getLast?/\Q≠[]/\Q'≠[]) :
  rn x none (P++Q++R)+rn x none Q'=rn x none (P++Q'++R)+rn x none Q:=by
 rw[L1,L1,L1 x none (P++Q'),L1 x none P Q'];have first:∀(p:Option Int) (Q Q':List Int),Q.head?=Q'.head?->Q≠[]->Q'≠[]->rn x p Q+rn x none Q'=rn x p Q'+rn x none Q:=by
  intro p Q Q' h o i;cases Q with
  |nil=>exact(o rfl).elim
  |cons a Q=>cases Q' with
   |nil=>exact(i rfl).elim
   |cons b Q'=>
    simp only[List.head?_cons,gM] at h;subst h;simp only[rn];omega
 have B:rn x (HP none P) Q+rn x none Q'=rn x (HP none P) Q'+rn x none Q:=by
  cases P with
  |nil=>simp only[HP,qv];omega
  |cons a P=>obtain⟨j,q,a3⟩:=h1 (by simp);exact first _ _ _ j q a3
 have I:rn x (HP none (P++Q)) R=rn x (HP none (P++Q')) R:=by
  cases R with
  |nil=>rfl
  |cons a R=>
   obtain⟨j,_⟩:=m (by simp);congr 1
   unfold HP;rw[cq,cq,j]
 omega
end Spn
def Spn.cells(s:Spn):List Value:=[zI (s.n:Int),zI s.id]
def Spn.one(q:Spn):∀u∈q.cells,u.oneCell'=true:=λu hu=>by
 simp only[Spn.cells,Mp,l9,nw] at hu;rcases hu with rfl|rfl<;>rfl
def Pq{r t:List Value}(h:r.length=E):(r++t).toArray.extract 0 E=r.toArray:=by
 subst h;simp
def Uq(s:Spn):BF prog CS JZ.vm [.agg s.cells.toArray] (λv w'=>v=.tuple #[zI (s.n:Int),zI 0]/\Grow w w') w:=by
 refine⟨_,[],[],rfl,by kernel_rfl,?_⟩;refine uS1 (dB 9 [] []) func240 (λ_ _ _=>⟨by conv=>lhs;reduce,by dsimp only[PI,AF],by kernel_rfl⟩) ?_;unfold uI;refine Bx.box λb j hb i B=>?_;rw[AH,AI];exact AJ (B.cells 0 _ rfl) ⟨rfl,i⟩
def Wy(s:Spn){p:Nat}(h0:0<p)(h1:p<s.n)(h2:s.n<=1099511627776):BF prog CS JZ.vc [.agg s.cells.toArray,zI (p:Int)] (λv w'=>v=.tuple #[.agg (Spn.cells ⟨p,s.id⟩).toArray,.agg (Spn.cells ⟨s.n-p,s.id⟩).toArray]/\Grow w w') w:=by
 refine⟨_,[],[],rfl,by kernel_rfl,?_⟩;refine uS2 (dB 465 [] [(dC [11,12] [0,0,2,7,0,16,0,112,0,256,1008,15,4095] [])]) func241 (λ_ _ _ _=>⟨by conv=>lhs;reduce,by dsimp only[PI,AF],by kernel_rfl⟩) ?_;unfold uI;refine Bx.box λb2 w1 Z Q U=>?_;refine Bx.zero λb4 w2 a1 q V=>?_;refine Bx.zero λb5 X a6 m Y=>?_;have j:Grow X X.drew:=Mod.drew _ _;have i:=((U.grow q).grow m).grow j;have l2:=U.lt (QC _);have l4:=V.lt (by decide);have l5:=Y.lt (by decide);have z1:=Q.size;have z2:=q.size;have z3:=m.size;have zd:=j.size;refine AT (λ_ y=>y=b4\/y=b5) ?_;rw[AH,AI];refine AP ⟨i.cells 1 _ rfl,λ_ _ e=>by rcases e with e|e<;>simp only at e<;>omega⟩ ?_;refine⟨(Spn.cells ⟨p,s.id⟩).toArray,by kernel_rfl,?_⟩;show BC _ _ _;rw[AH,AI];refine AP ⟨i.cells 0 _ rfl,λ_ _ e=>by rcases e with e|e<;>simp only at e<;>omega⟩ ?_;refine Gr (by omega) (by omega) ?_;rw[AH,AI];refine AP ⟨i.cells 1 _ rfl,λ_ _ e=>by rcases e with e|e<;>simp only at e<;>omega⟩ ?_;refine⟨(Spn.cells ⟨s.n-p,s.id⟩).toArray,by kernel_rfl,?_⟩;have o:=Spn.one;refine((V.grow m).grow j).over rfl rfl (o _) λw4 C4 B=>⟨B.mono λ_ _ e=>.inl e,?_⟩;have I:=(Y.grow j).mod B λe=>by omega
 refine I.over rfl rfl (o _) λw5 C5 J=>⟨J.mono λ_ _ e=>.inr e,?_⟩;have O:=C4.mod J λe=>by omega
 refine O.Eg rfl (C5.Eg rfl ⟨rfl,?_⟩);exact((((Q.trans q).trans m).trans j).next B λy hy e=>by omega).next J λy hy e=>by omega
def UX(a b:Spn)(h1:a.n<=1099511627776)(h2:b.n<=1099511627776):BF prog CS JZ.vd [.agg a.cells.toArray,.agg b.cells.toArray] (λv w'=>Grow w w'/\v=.tuple #[.agg (Spn.cells ⟨a.n+b.n,a.id⟩).toArray,.bool (decide (a.id=b.id))]) w:=by
 refine⟨_,[],[],rfl,by kernel_rfl,?_⟩;refine uS2 (dB 465 [] [(dC [13] [0,1,0,4,15,0,32,127,0,256,0,1024,3840,255,16383] [])]) func242 (λ_ _ _ _=>⟨by conv=>lhs;reduce,by dsimp only[PI,AF],by kernel_rfl⟩) ?_;unfold uI;refine Bx.box λb2 w1 V I J=>?_;refine Bx.box λb3 w2 X B O=>?_;refine Bx.zero λb4 Q Y q Z=>?_;have j:Grow Q Q.drew:=Mod.drew _ _;have i:=((J.grow B).grow q).grow j;have m:=(O.grow q).grow j;have l2:=J.lt (QC _);have l3:=O.lt (QC _);have z1:=I.size;have z2:=B.size;have z3:=q.size;have zd:=j.size;refine AT (λ_ y=>y=b4) ?_;rw[AH,AI];refine AP ⟨i.cells 0 _ rfl,λ_ _ e=>by simp only at e;omega⟩ ?_;rw[AH,AI];refine AP ⟨m.cells 0 _ rfl,λ_ _ e=>by simp only at e;omega⟩ ?_;refine B0 (by omega) ?_;rw[AH,AI];refine AP ⟨i.cells 1 _ rfl,λ_ _ e=>by simp only at e;omega⟩ ?_;refine⟨(Spn.cells ⟨a.n+b.n,a.id⟩).toArray,by kernel_rfl,?_⟩;show BC _ _ _;rw[AH,AI];refine AP ⟨i.cells 1 _ rfl,λ_ _ e=>by simp only at e;omega⟩ ?_;rw[AH,AI];refine AP ⟨m.cells 1 _ rfl,λ_ _ e=>by simp only at e;omega⟩ ?_;rw[Aa];have o:=Spn.one;refine(Z.grow j).over rfl rfl (o _) λw4 C4 U=>⟨U,?_⟩;refine C4.Eg rfl ⟨?_,rfl⟩;exact(((I.trans B).trans q).trans j).next U λy hy e=>by omega
def DW:AvN Spn where
 toAvK:=JZ
 k:=Spn.kd
 R:=λ_ _ r x=>r=x.cells
 pb:=64
 eb:=16
 pb_le:=by decide
 eb_le:=by decide
 Epos:=by decide
 E1:=λh=>by cases h
 rlen:=λh=>by subst h;rfl
 rone:=λh=>by subst h;exact Spn.one _
 rcell:=λh=>by subst h;rfl
 rheap:=λh _=>h
 rsub:=λh _=>h
 zlen:=rfl
 zone:=Spn.one ⟨0,0⟩
 elP:=⟨Tryz.t482,.agg #[zI 0,zI 0,zI 0,zI 0,zI 0,zI 0,zI 0,.bool false],by kernel_rfl,by kernel_rfl,by kernel_rfl,by kernel_rfl,by kernel_rfl,by rfl,by decide⟩
 elE:=⟨Tryz.t128,.agg #[zI 0,zI 0],by kernel_rfl,by kernel_rfl,by kernel_rfl,by kernel_rfl,by kernel_rfl,by rfl,by decide⟩
 field0:=λr t w hr _ ht=>by
  have e:(Instr.field 400 (.agg (r++t).toArray) 0).run prog w=.ok (.agg ((r++t).toArray.extract 0 2)) w:=by
   have hu:=underlying400;have m:=Tryz.isAgg128;have z:∀w,(sizeOf 128).run prog w=.ok 2 w:=λw=>by simp only[sizeOf,lH,Tryz.typeInfo128,S9,mG];rfl
   simp[Instr.field,run_underlying hu,part,m,z,asAgg]
  rw[Pq (E:=2) hr] at e;exact e
 ok:=Zc
 cutμ:=λx p h0 h1=>⟨rfl,rfl,rfl⟩
 meldμ:=λx y z h=>by
  simp only[Spn.kd] at h;split at h
  .cases h;exact⟨rfl,rfl⟩
  .cases h
 meas:=λ{C w r x} h=>by subst h;exact Uq x
 one0:=rfl
 okN:=Xe
 cells:=Spn.cells
 Rc:=pJ
 cutc:=λ{w x p} h0 h1 j=>Wy x h0 h1 j
 meldc:=λ{w x y} _ h1 j=>Ao (UX x y h1 j) λv w' h=>⟨h.1,Spn.cells ⟨x.n+y.n,x.id⟩,rfl,Spn.one _,by rw [h.2];by_cases e:x.id=y.id <;> simp [Spn.kd,e],λz i=>by
  simp only[Spn.kd] at i;split at i
  .cases i;rfl
  .cases i⟩
def Pw(l:List Int):∀v∈l.map (Value.int .i32),v.oneCell'=true:=λv i=>by
 obtain⟨_,_,rfl⟩:=lT.1 i;rfl
def ah(a b:Ck):AB prog 212 [.agg a.cells.toArray,.agg b.cells.toArray] (λv w'=>v=.tuple #[.agg (a.jn b).cells.toArray,zI (if a.l.length+b.l.length<=32 then 0 else 8)]/\Grow w w') w:=by
 refine uS2 (dB 1073913009241 [([],[(5,5),(13,22)]),([],[(23,35)])] [(dT [1,5,9,10,13] [0,1,0,0,8,28,0,0,128,448,1020,2047,4095,8191] [[1,5,9,10]] (.op 0 (.op 2 (.op 3 (.op 4 (.op 6 (.op 7 (.op 8 (.br (.op 1 (.br (.op 5 (.op 9 (.op 10 (.op 11 (.op 12 (.op 13 .nil)))))) (.op 9 (.op 5 (.op 10 (.op 11 (.op 12 (.op 13 .nil)))))))) (.br (.op 5 (.br (.op 1 (.op 9 (.op 10 (.op 11 (.op 12 (.op 13 .nil)))))) (.op 9 (.br (.op 1 (.op 10 (.op 11 (.op 12 (.op 13 .nil))))) (.op 10 (.op 1 (.op 11 (.op 12 (.op 13 .nil))))))))) (.op 9 (.br (.op 1 (.op 5 (.op 10 (.op 11 (.op 12 (.op 13 .nil)))))) (.op 5 (.br (.op 1 (.op 10 (.op 11 (.op 12 (.op 13 .nil))))) (.op 10 (.op 1 (.op 11 (.op 12 (.op 13 .nil)))))))))))))))))))]) func212 (λ_ _ _ _=>⟨by conv=>lhs;reduce,by dsimp only[PI,AF],by kernel_rfl⟩) ?_;unfold uI;refine Bx.box λO w1 a7 g1 B2=>?_;refine Bx.box λb3 w2 a8 Y B3=>?_;refine Bx.zero λb4 Z ak Q B4=>?_;have ha:=a.le;have hb:=b.le;have l2:=B2.lt (by rw[a.len];omega);have l3:=B3.lt (by rw[b.len];omega);have l4:=B4.lt (by decide);have U:=(B2.grow Y).grow Q;have C3:=B3.grow Q;have C4:Bx Z b4 Ck.nil.cells:=B4;have z1:=g1.size;have z2:=Y.size;have z3:=Q.size;have o:=(g1.trans Y).trans Q;have hu:=underlying79;have hs:(prog.info? 21).map (·.size)=some 1:=by kernel_rfl
 refine Az (U.cells 32 _ a.n) ?_;refine Az (C3.cells 32 _ b.n) ?_;rw[AM,wrap64 (by omega) (by omega),BE];refine AD (λal=>?_) λan=>?_
 .refine⟨Ck.nil.cells.toArray,by kernel_rfl,?_⟩;show BP _ _ _ _ _;refine C4.over (Ck.len _) (Ck.len _) (Ck.one _) λW D4 m=>?_;refine D4.Eg (Ck.len _) ⟨?_,o.next m λy V e=>by omega⟩;rw[Bp (by omega),Ck.jn,dif_neg (by omega)]
 have i:a.l.length+b.l.length<=32:=by omega
 have ej:a.jn b=⟨a.l++b.l,by simpa using i⟩:=r9 i;refine AR (λ_ W=>W=Z) ?_ ?_
 .rintro _ W rfl _;refine AR (λ_ W'=>Bx W' O (a.jn b).cells/\Bx W' b4 Ck.nil.cells/\Grow w W') ?_ ?_
  .rintro _ W1 ⟨D2,D4,gW⟩ _;refine D2.Eg (Ck.len _) ?_;refine D4.over (Ck.len _) (Ck.len _) (Ck.one _) λW2 E4 m=>?_;exact E4.Eg (Ck.len _) ⟨by rw[DN i],gW.next m λy V e=>by omega⟩
  .have B:Grow W W.drew:=Mod.drew _ _;have H2:=U.grow B;have H3:=C3.grow B;have H4:=C4.grow B;have zd:=B.size;have a1:(JH a.cells a.l.length (b.l.map (Value.int .i32)))[32]?=some (zI (a.l.length:Int)):=by
    rw[Mv _ _ _ (by rw[a.len,I3];omega),lF (by simp[a.len];omega),mM];have:a.l.length+(b.l.map (Value.int .i32)).length+(32-(a.cells.take a.l.length++b.l.map (Value.int .i32)).length)=32:=by simp[a.len];omega
    rw[this];exact a.n
   refine AT (λk y=>(k=10\/k=13)/\y=O) ?_;simp only[AH,AI];refine AP ⟨H2.cells 32 _ a.n,λj I e=>?_⟩ ?_
   .have a6:j∈[1,9]:=I;simp only[Mp,l9,nw] at a6;omega
   refine AP ⟨H3.cells 32 _ b.n,λj I e=>by have e2:b3=O:=e.2;omega⟩ ?_
   repeat' first
    |with_reducible exact Mod.refl _ _
    |with_reducible refine jG ha ?_
    |with_reducible refine cD hb ?_
    |with_reducible refine AJ (H2.cells 32 _ a.n) ?_
    |with_reducible refine And.intro ?_ ?_
   all_goals
    refine H2.copy hu hs (us:=b.l.map (Value.int .i32)) (by rw [I3];omega) (by
     by_cases e:b.l=[]
     .rw[e];exact .inl rfl
     .have:0<b.l.length:=mN.2 e;refine .inr ?_;rw[Bp (by omega),I3,a.len];omega) (λj v hv=>by
     obtain ⟨I,rfl⟩:=Ad.1 hv;rw [I3] at I;rw [AI,nA];exact H3.cells j _ (b.get I)) (Pw _) λW2 X m2=>⟨m2.mono λ_ _ e=>⟨by simp,e⟩,?_⟩
    have J:Bx W2 O (JH a.cells a.l.length (b.l.map (Value.int .i32))):=by
     by_cases e:32=a.l.length
     .have:b.l=[]:=pn.1 (by omega);rw[this] at X ⊢;exact X
     .rw[Bp e] at X;exact X
    try refine AJ (J.cells 32 _ a1) ⟨Mod.refl _ _,?_⟩
    rw[I3,AM,wrap64 (by omega) (by omega)];refine J.st (q:=32) (by rw[Ll,Ck.len];omega) rfl rfl λW3 J2 m3=>⟨m3.mono λ_ _ e=>⟨by simp,e⟩,?_⟩;have ee:((a.l.length:Int)+(b.l.length:Int))=((a.l.length+b.l.length:Nat):Int):=by omega
    rw[ee,Ck.fill a i] at J2;rw[ej];exact⟨J2,(H4.mod m2 λe=>by omega).mod m3 λe=>by omega,((o.trans B).next m2 λy V e=>by omega).next m3 λy V e=>by omega⟩
 .rw[AH,AI];refine AV (vs:=a.all.map (Value.int .i32)) (by rw[I3,a.J3]) (λj u hu=>by rw[AI];exact U.cells j u (a.gj hu)) ?_;refine AX (v:=.agg ((List.replicate 32 (0:Int)).map (Value.int .i32)).toArray) (w':=Z) (by kernel_rfl) ?_;refine gn a.J3 (by simp) λr=>?_;cases r
  .exact AL rfl
  refine AQ ?_;refine Az (U.cells 32 _ a.n) ?_;rw[Aa];refine AD (λh0=>?_) λ_=>rfl;refine C3.Eg (Ck.len _) ?_;refine C4.over (Ck.len _) (Ck.len _) (Ck.one _) λW2 E4 m=>?_;refine E4.Eg (Ck.len _) ⟨?_,o.next m λy V e=>by omega⟩;have:a.l=[]:=pn.1 (by omega);have e1:a.jn b=b:=by rw[ej];simp only[this,lg]
  rw[DN i,e1]
def Ck.kd:Kd Ck where
 μ:=λc=>(c.l.length,BJ c.l)
 cut:=λc p=>(c.tk p,c.dp p)
 meld:=λa b=>if a.l.length+b.l.length<=32 then some (a.jn b) else none
def aC(c:Ck):BF prog CS Gp.vm [.agg c.cells.toArray] (λv w'=>v=.tuple #[zI (c.l.length:Int),zI (BJ c.l:Int)]/\Grow w w') w:=by
 refine⟨_,[],[],rfl,by kernel_rfl,?_⟩;refine uS1 (dB 465 [] [(dC [1,3] [0,1,0,7,15,31] [])]) func206 (λ_ _ _=>⟨by conv=>lhs;reduce,by dsimp only[PI,AF],by kernel_rfl⟩) ?_;unfold uI;refine Bx.box λb i hb J B=>?_;have m:Grow i i.drew:=Mod.drew _ _;have o:=B.grow m;refine AT (λ_ _=>False) ?_;refine CG c.len (λj u hu=>⟨by rw[AI];exact o.cells j u hu,λ_ _ e=>e⟩) ?_;refine AA (gH c) ?_;rintro _ w2 ⟨rfl,q⟩;refine⟨q,CG c.len (λj u hu=>⟨by rw[AI];exact o.cells j u hu,λ_ _ e=>e⟩) ?_⟩;refine AA (Q4 c) ?_;rintro _ O ⟨rfl,I⟩;exact⟨I,rfl,((J.trans m).trans q).trans I⟩
def dz(c:Ck){p:Nat}(h:p<=c.l.length):BF prog CS Gp.vc [.agg c.cells.toArray,zI (p:Int)] (λv w'=>v=.tuple #[.agg (c.tk p).cells.toArray,.agg (c.dp p).cells.toArray]/\Grow w w') w:=by
 refine⟨_,[],[],rfl,by kernel_rfl,?_⟩;refine uS2 (dB 3721 [] [(dC [2,3] [0,0,1,7] [])]) func209 (λ_ _ _ _=>⟨by conv=>lhs;reduce,by dsimp only[PI,AF],by kernel_rfl⟩) ?_;unfold uI;refine Bx.box λb2 w1 a1 Z B2=>?_;refine Bx.zero λb4 w2 a6 V B4=>?_;refine Bx.zero λb5 w3 a7 J B5=>?_;refine((B2.grow V).grow J).Eg c.len ?_;refine AA (Y6 c h) ?_;rintro _ w5 ⟨rfl,O⟩;refine K0 ?_;refine Bx.zero λb6 w6 a8 Q B6=>?_;refine Bx.zero λb7 U ak q B7=>?_;have l4:=B4.lt (by decide);have l5:=B5.lt (by decide);have l6:=B6.lt (by decide);have z1:=Z.size;have z2:=V.size;have z3:=J.size;have z5:=O.size;have z6:=Q.size;have z7:=q.size;have C4:Bx U b4 Ck.nil.cells:=(((B4.grow J).grow O).grow Q).grow q;have C5:Bx U b5 Ck.nil.cells:=((B5.grow O).grow Q).grow q;have C6:Bx U b6 Ck.nil.cells:=B6.grow q;have C7:Bx U b7 Ck.nil.cells:=B7;have X:=((((Z.trans V).trans J).trans O).trans Q).trans q;refine C6.over (Ck.len _) (Ck.len _) (Ck.one _) λw8 D6 B=>?_;refine(C7.mod B λe=>by omega).over (Ck.len _) (Ck.len _) (Ck.one _) λw9 D7 I=>?_;have o:Grow w9 w9.drew:=Mod.drew _ _;have zd:=o.size;have s8:=B.size;have s9:=I.size;have E6:=(D6.mod I λe=>by omega).grow o;have E7:=D7.grow o;have E4:=((C4.mod B λe=>by omega).mod I λe=>by omega).grow o;have E5:=((C5.mod B λe=>by omega).mod I λe=>by omega).grow o;refine AT (λ_ y=>y=b4\/y=b5) ?_;refine CG (Ck.len _) (λj u hu=>⟨by rw[AI];exact E6.cells j u hu,λ_ _ e=>by rcases e with e|e<;>simp only[AI] at e<;>omega⟩) ?_;refine CG (Ck.len _) (λj u hu=>⟨by rw[AI];exact E7.cells j u hu,λ_ _ e=>by rcases e with e|e<;>simp only[AI] at e<;>omega⟩) ?_;refine E4.over (Ck.len _) (Ck.len _) (Ck.one _) λal F4 i=>⟨i.mono λ_ _ e=>.inl e,?_⟩;refine(E5.mod i λe=>by omega).over (Ck.len _) (Ck.len _) (Ck.one _) λan F5 m=>⟨m.mono λ_ _ e=>.inr e,?_⟩;refine(F4.mod m λe=>by omega).Eg (Ck.len _) (F5.Eg (Ck.len _) ⟨rfl,?_⟩);exact(((((X.next B λy Y e=>by omega).next I λy Y e=>by omega).trans o).next i λy Y e=>by omega).next m λy Y e=>by omega)
def bu(a b:Ck):BF prog CS Gp.vd [.agg a.cells.toArray,.agg b.cells.toArray] (λv w'=>Grow w w'/\v=.tuple #[.agg (a.jn b).cells.toArray,.bool (decide (a.l.length+b.l.length<=32))]) w:=by
 refine⟨_,[],[],rfl,by kernel_rfl,?_⟩;refine uS2 (dB 73 [] []) func211 (λ_ _ _ _=>⟨by conv=>lhs;reduce,by dsimp only[PI,AF],by kernel_rfl⟩) ?_;unfold uI;refine Bx.box λb2 w1 V I X=>?_;refine Bx.box λb3 w2 Y j Z=>?_;refine Bx.zero λb4 w3 a1 i J=>?_;refine((X.grow j).grow i).Eg a.len ((Z.grow i).Eg b.len ?_);refine AA (ah a b) ?_;rintro _ w6 ⟨rfl,m⟩;refine BI ?_;refine Bx.zero λb6 O a6 o Q=>?_;have l4:=J.lt (by decide);have l6:=Q.lt (by decide);have z1:=I.size;have z2:=j.size;have z3:=i.size;have z6:=m.size;have z7:=o.size;have C4:Bx O b4 Ck.nil.cells:=(J.grow m).grow o;have C6:Bx O b6 Ck.nil.cells:=Q;have q:=(((I.trans j).trans i).trans m).trans o;refine C6.over (Ck.len _) (Ck.len _) (Ck.one _) λw8 D6 U=>?_;refine D6.Eg (Ck.len _) ?_;rw[Aa];refine(C4.mod U λe=>by omega).over (Ck.len _) (Ck.len _) (Ck.one _) λa7 F4 B=>?_;refine F4.Eg (Ck.len _) ⟨(q.next U λy hy e=>by omega).next B λy hy e=>by omega,?_⟩;by_cases h:a.l.length+b.l.length<=32
 .simp[h]
 .simp[h]
def Ap:AvN Ck where
 toAvK:=Gp
 k:=Ck.kd
 R:=λ_ _ r x=>r=x.cells
 pb:=184
 eb:=136
 pb_le:=by decide
 eb_le:=by decide
 Epos:=by decide
 E1:=λh=>by cases h
 rlen:=λh=>by subst h;exact Ck.len _
 rone:=λh=>by subst h;exact Ck.one _
 rcell:=λh=>by subst h;rfl
 rheap:=λh _=>h
 rsub:=λh _=>h
 zlen:=rfl
 zone:=Ck.one Ck.nil
 elP:=⟨Tryz.t446,.agg (Ck.nil.cells++([zI 0,zI 0,zI 0,zI 0,zI 0,.bool false]:List Value)).toArray,by kernel_rfl,by kernel_rfl,by kernel_rfl,by kernel_rfl,by kernel_rfl,by rfl,by decide⟩
 elE:=⟨Tryz.t184,.agg Ck.nil.cells.toArray,by kernel_rfl,by kernel_rfl,by kernel_rfl,by kernel_rfl,by kernel_rfl,by rfl,by decide⟩
 field0:=λr t w hr _ ht=>by
  have e:(Instr.field 292 (.agg (r++t).toArray) 0).run prog w=.ok (.agg ((r++t).toArray.extract 0 33)) w:=by
   have hu:=underlying292;have m:=Tryz.isAgg184;have z:∀w,(sizeOf 184).run prog w=.ok 33 w:=λw=>by simp only[sizeOf,lH,Tryz.typeInfo184,S9,mG];rfl
   simp[Instr.field,run_underlying hu,part,m,z,asAgg]
  rw[Pq (E:=33) hr] at e;exact e
 ok:=bI
 cutμ:=λx p h0 h1=>by
  have o:p<x.l.length:=h1;refine⟨?_,?_,?_⟩
  .show(x.l.take p).length=p;rw[Lc];omega
  .show(x.l.drop p).length=x.l.length-p;rw[Hy]
  .show BJ (x.l.take p)+BJ (x.l.drop p)=BJ x.l;rw[BJ,BJ,<-od,TC]
 meldμ:=λx y z h=>by
  simp only[Ck.kd] at h;split at h
  .rename_i j;cases h;have q:x.jn y=⟨x.l++y.l,by simpa using j⟩:=r9 j;show(x.jn y).l.length=_/\BJ (x.jn y).l=_;rw[q];exact⟨BW,od⟩
  .cases h
 meas:=λ{C w r x} h=>by subst h;exact aC x
 one0:=rfl
 okN:=YK
 cells:=Ck.cells
 Rc:=pJ
 cutc:=λ{w x p} h0 h1 B=>dz x (Nat.le_of_lt h1)
 meldc:=λ{w x y} _ h1 B=>Ao (bu x y) λv w' h=>⟨h.1,(x.jn y).cells,Ck.len _,Ck.one _,by
  rw[h.2];by_cases e:x.l.length+y.l.length<=32<;>simp[Ck.kd,e],λz i=>by
  simp only[Ck.kd] at i;split at i
  .cases i;rfl
  .cases i⟩
def OZ{B e k:Nat}{R:World->List Value->α->Prop}{a:Addr}{n c:Nat}{l:List α}{i j:Nat}{u:Value}{x':α}{K:World->Prop}(h:AE B e k R W (.slice (some a) n c) l)(hi:i<l.length)(q:j<k)
 (hu:u.oneCell'=true)(m:u.cells=#[u])(I:∀o w2 r y,R o r y->R w2 r y)(J:∀o w2 r,R o r l[i]->R w2 (r.set j u) x')
 (O:∀W',AE B e k R W' (.slice (some a) n c) (l.set i x')->Mod (λb=>b=a.block) W W'->K W'):CB (.pointer (some (a.add (i*k+j)))) u K W:=by
 obtain⟨⟨v,Q⟩,U,V,hm⟩:=AE.store (R':=R) (u:=u) (x':=x') (j:=j) h hi q hu (λr y _ hr=>I _ _ _ _ hr) (λr hr=>J _ _ _ hr);exact Kx hu m Q U (O _ V hm)
section
def GY:Kd (List Attr) where
 μ:=λ_=>(1,0)
 cut:=λx _=>(x,[])
 meld:=λ_ _=>none
def Uc(v:Value):BF prog CS Kv.vm [v] (λv w'=>v=.tuple #[zI 1,zI 0]/\Grow w w') w:=by
 refine⟨_,[],[],rfl,by kernel_rfl,?_⟩;refine uS1 (dB 9 [] []) func248 (λ_ _ _=>⟨by conv=>lhs;reduce,by dsimp only[PI,AF],by kernel_rfl⟩) ?_;unfold uI;exact⟨rfl,Mod.refl _ _⟩
def VZ(a b:Value):BF prog CS Kv.vd [a,b] (λv w'=>Grow w w'/\∃u,v=.tuple #[u,.bool false]) w:=by
 refine⟨_,[],[],rfl,by kernel_rfl,?_⟩;refine uS2 (dB 9 [] []) func250 (λ_ _ _ _=>⟨by conv=>lhs;reduce,by dsimp only[PI,AF],by kernel_rfl⟩) ?_;unfold uI;exact⟨Mod.refl _ _,_,rfl⟩
abbrev Ca(C:Nat->Prop)(w:World)(r:List Value)(x:List Attr):Prop:=∃sv,r=[sv]/\Ba C w sv x
def Au:Av1 (List Attr) where
 toAvK:=Kv
 k:=GY
 R:=Ca
 pb:=72
 eb:=24
 pb_le:=by decide
 eb_le:=by decide
 Epos:=by decide
 E1:=λ_=>rfl
 rlen:=λ⟨_,e,_⟩=>by subst e;rfl
 rone:=λ⟨sv,e,h⟩ u hu=>by
  subst e;obtain⟨a,c,rfl,_⟩:=h.shape;simp at hu;subst hu;rfl
 rcell:=λ⟨sv,e,h⟩=>by
  subst e;obtain⟨a,c,rfl,_⟩:=h.shape;rfl
 rheap:=λ⟨sv,e,h⟩ i=>⟨sv,e,h.mono (λ_ _ h=>h) i (by decide) λ_ _ h=>h⟩
 rsub:=λ⟨sv,e,h⟩ i=>⟨sv,e,h.sub i (by decide) λ_ _ h=>h⟩
 zlen:=rfl
 zone:=λu hu=>by
  have hu:u∈[Value.slice none 0 0]:=hu;simp at hu;subst hu;rfl
 elP:=⟨Tryz.t469,.agg #[.slice none 0 0,zI 0,zI 0,zI 0,zI 0,zI 0,.bool false],by kernel_rfl,by kernel_rfl,by kernel_rfl,by kernel_rfl,by kernel_rfl,by rfl,by decide⟩
 elE:=⟨Tryz.t64,.slice none 0 0,by kernel_rfl,by kernel_rfl,by kernel_rfl,by kernel_rfl,by kernel_rfl,by rfl,by decide⟩
 field0:=λr t w hr m ht=>by
  match r,hr with
  |[a],_=>
   have hu:=underlying405;have j:=Tryz.isAgg64;have e:(Instr.field 405 (.agg ([a]++t).toArray) 0).run prog w=.ok a w:=by
    simp[Instr.field,run_underlying hu,part,j,asAgg]
   exact e
 ok:=aX
 cutμ:=λx p h0 h1=>by simp only[GY] at h1;omega
 meldμ:=λx y z h=>by cases h
 meas:=λ{C w r x} _=>Uc _
 one1:=rfl
 ok1:=XZ
 μ1:=λ_=>rfl
 meld0:=λ_ _=>rfl
 meldc:=λ{C w r s x y} _ _=>VZ _ _
def We(g:AvK)(v0:Value)(K:Cont)(w:World):Prop:=
 Cl (λ_vs O=>∀_:Env,
 Af v0 λi=>
 BC 0 i λj=>
 Ay j (λm w2=>
 K m w2) O) (λJ=>
 Af v0 λt4=>
 BC 0 t4 λt5=>
 Ay t5 (λQ I=>
 Ge Q λU=>
 AZ (.bool U)
 (CV [(0,1),(1,1),(2,1)] [.nilFunc,.nilFunc,.nilFunc] [(0,g.vm),(1,g.vc),(2,g.vd)] λt9=>
 AB prog g.fNew [t9] (λo w4=>
 Af v0 λq=>
 BC 0 q λB=>
 CB B o (λV=>
 J [] V) w4) I)
 (J [] I)) w)
def fz(g:AvK)(ft:Nat)(v0:Value)(K:Cont)(w:World):Prop:=
 Ge v0 λb4=>
 AZ (.bool b4)
 (K (zI 0) w)
 (AB prog ft [v0] (λi j=>
 AB prog g.fSize [i] (λm w2=>
 K m w2) j) w)
def Zz(fl:Nat)(v0 v1 v2:Value)(K:Cont)(w:World):Prop:=
 Ge v0 λq=>
 AZ (.bool q)
 (K (zI 1) w)
 (GI .i64 v1 (zI 0) λi=>
 AZ i
 (K (zI 5) w)
 (T8 .i64 v1 v2 λj=>
 AZ j
 (K (zI 5) w)
 (AB prog fl [v0] (λm o=>
 T8 .i64 v2 m λt22=>
 AZ t22
 (K (zI 5) o)
 (K (zI 0) o)) w)))
structure dN (g:AvK) where
 ft:Nat
 fl:Nat
 fb:Nat
 tree:∀{v0 K w},We g v0 K w->AB prog ft [v0] K w
 len:∀{v0 K w},fz g ft v0 K w->AB prog fl [v0] K w
 jh:∀{v0 v1 v2 K w},Zz fl v0 v1 v2 K w->AB prog fb [v0,v1,v2] K w
 kM:g.vm.cells=#[g.vm]
 kV:g.vc.cells=#[g.vc]
 kP:g.vd.cells=#[g.vd]
def JI:dN JZ:=⟨152,161,150,λh=>oU (dB 33385 [([],[(3,12)])] []) func152 h (by kernel_rfl),λh=>oU (dB 267353 [] []) func161 h (by kernel_rfl),λh=>oU (dB 1094981209 [] []) func150 h (by kernel_rfl),rfl,rfl,rfl⟩
def E2:dN Kv:=⟨157,85,154,λh=>oU (dB 33385 [([],[(3,12)])] []) func157 h (by kernel_rfl),λh=>oU (dB 267353 [] []) func85 h (by kernel_rfl),λh=>oU (dB 1094981209 [] []) func154 h (by kernel_rfl),rfl,rfl,rfl⟩
def En:dN Gp:=⟨119,76,118,λh=>oU (dB 33385 [([],[(3,12)])] []) func119 h (by kernel_rfl),λh=>oU (dB 267353 [] []) func76 h (by kernel_rfl),λh=>oU (dB 1094981209 [] []) func118 h (by kernel_rfl),rfl,rfl,rfl⟩
variable {α:Type}{g:AvT α}
def XW(g:AvT α)(F C:Nat->Prop)(W:World)(b:Nat)(l:List α)(N:Nat):Prop:=∃A T,Dj g F C W b T.root A/\Tr.Holds g.k.μ A.f T/\Tr.GB T/\T.toL=l/\A.ps.length<=N
def XW.mod{b N:Nat}{l:List α}(h:XW g F C W b l N)(hm:Mod M W W')(i:∀x,F x\/C x->¬M x):XW g F C W' b l N:=by
 obtain⟨A,T,h,r⟩:=h;exact⟨A,T,h.mod hm i,r⟩
def Wb(hC:∀x,C x->x<W.heap.size) :
  AB prog g.fNew [.agg #[g.vm,g.vc,g.vd]] (λv' w'=>∃b F,v'=.pointer (some ⟨b,0,none⟩)/\W.heap.size<=b/\(∀x,F x->W.heap.size<=x)/\XW g F C w' b [] 0/\Grow W w') W:=by
 apply g.ok.new;unfold cX;refine Bx.box (vs:=[g.vm,g.vc,g.vd]) λb1 m V Q X=>?_;have B:Grow m m.drew:=Mod.drew _ _;have z1:=Q.size;have zd:=B.size;refine AT (λ_ _=>False) ?_;refine CG (vs:=[g.vm,g.vc,g.vd]) rfl (λj v Y=>⟨by rw[AI];exact(X.grow B).cells j v Y,λ_ _ e=>e⟩) ?_;refine AA (Zq (g:=g) (C:=C) λx I=>by have:=hC x I;omega) ?_;rintro _ w2 ⟨rfl,Z,J,hA⟩;refine⟨J.mono λ_ _ h=>h.elim,?_⟩;have o:Instr.fill (λi=>[(0,3),(3,1),(4,1)][i]?) [Value.nilFunc,.nilFunc,.nilFunc,.pointer none,zI 0].toArray [(0,.agg [g.vm,g.vc,g.vd].toArray),(1,.pointer (some ⟨m.drew.heap.size,0,none⟩)),(2,zI (-1))]=some (cV g m.drew.heap.size (-1)).toArray:=by
  rw[DB (vs:=[g.vm,g.vc,g.vd]) (off:=0) (len:=3) rfl rfl rfl (by decide),DB (vs:=[.pointer (some ⟨m.drew.heap.size,0,none⟩)]) (off:=3) (len:=1) rfl rfl rfl (by simp[JH]),DB (vs:=[zI (-1)]) (off:=4) (len:=1) rfl rfl rfl (by simp[JH]),FX];rfl
 refine⟨_,o,?_⟩;refine Bx.box λb3 w3 a1 q U=>⟨q.mono λ_ _ h=>h.elim,?_⟩;have z2:=J.size;have z3:=q.size;have O:=U.lt (QC _);refine⟨b3,λx=>x=m.drew.heap.size\/x=b3,rfl,by omega,λx I=>by rcases I with e|e<;>omega,⟨ArS.z,.nil,⟨m.drew.heap.size,.slice none 0 0,.slice none 0 0,U,?_,.inr rfl,λh=>by have:=hC b3 h;omega⟩,trivial,om,rfl,Nn _⟩,((Q.trans B).trans J).trans q⟩;have e:(λx=>(x=m.drew.heap.size\/x=b3)/\x≠b3)=λx=>x=m.drew.heap.size:=by
  funext x
  refine propext ⟨λh=>h.1.elim (λh=>h) λe=>(h.2 e).elim,λh=>⟨.inl h,by omega⟩⟩
 rw[e];exact hA.grow q
structure Dk (g:AvT α) (F C:Nat->Prop) (W:World) (b bt:Nat) (l:List α) (N:Nat):Prop where
 box:Bx W b [.pointer (some ⟨bt,0,none⟩)]
 EI:XW g (λx=>F x/\x≠b) C W bt l N
 fb:F b/\¬C b
def Dk.mod{b bt N:Nat}{l:List α}(h:Dk g F C W b bt l N)(hm:Mod M W W')(i:∀x,F x\/C x->¬M x):Dk g F C W' b bt l N:=
 ⟨h.box.mod hm (i b (.inl h.fb.1)),h.EI.mod hm λx j=>i x (j.imp (λh=>h.1) λh=>h),h.fb⟩
def Dk.grow{b bt N:Nat}{l:List α}(h:Dk g F C W b bt l N)(hm:Grow W W'):Dk g F C W' b bt l N:=h.mod hm λ_ _ h=>h
def Dk.lt{b bt N:Nat}{l:List α}(h:Dk g F C W b bt l N):∀x,F x\/C x->x<W.heap.size:=by
 obtain⟨A,T,h1,_⟩:=h.EI;intro x i;by_cases e:x=b
 .subst e;exact h.box.lt (QC _)
 .exact h1.lt x (i.imp (λh=>⟨h,e⟩) λh=>h)
def Dk.JB{b bt N:Nat}{l:List α}(h:Dk g F C W b bt l N):∀x,F x->¬C x:=by
 obtain⟨A,T,h1,_⟩:=h.EI;intro x i;by_cases e:x=b
 .subst e;exact h.fb.2
 .exact h1.JB x ⟨i,e⟩
def ES{b bt N:Nat}{l:List α}(o:dN g.toAvK)(h:Dk g F C W b bt l N):AB prog o.ft [.pointer (some ⟨b,0,none⟩)] (λv' w'=>v'=.pointer (some ⟨bt,0,none⟩)/\w'=W) W:=by
 apply o.tree;unfold We;refine AR (λ_ W'=>W'=W) ?_ ?_
 .rintro _ _ rfl _;rename World=>W
  refine AG ?_;rw[AH,AI];exact AJ (h.box.cells 0 _ rfl) ⟨rfl,rfl⟩
 .refine AG ?_;refine Az (h.box.cells 0 _ rfl) ?_;exact CY (AL rfl)
def eZ{b:Nat}(o:dN g.toAvK)(B:Bx W b [.pointer none])(hb:¬C b)(hC:∀x,C x->x<W.heap.size) :
  AB prog o.ft [.pointer (some ⟨b,0,none⟩)] (λv' w'=>∃bt F,v'=.pointer (some ⟨bt,0,none⟩)/\Dk g F C w' b bt [] 0/\(∀x,F x->x=b\/W.heap.size<=x)/\Mod (λx=>x=b) W w') W:=by
 apply o.tree;unfold We;have J:=B.lt (QC _);refine AR (λ_ W'=>∃bt F,Dk g F C W' b bt [] 0/\(∀x,F x->x=b\/W.heap.size<=x)/\Mod (λx=>x=b) W W') ?_ ?_
 .rintro _ W' ⟨bt,F,h,U,V⟩ _;refine AG ?_;rw[AH,AI];exact AJ (h.box.cells 0 _ rfl) ⟨bt,F,rfl,h,U,V⟩
 .refine AG ?_;refine Az (B.cells 0 _ rfl) ?_;refine⟨none,rfl,AQ ?_⟩;have m:Instr.fill (λi=>[(0,1),(1,1),(2,1)][i]?) [Value.nilFunc,.nilFunc,.nilFunc].toArray [(0,g.vm),(1,g.vc),(2,g.vd)]=some [g.vm,g.vc,g.vd].toArray:=by
   rw[DB (vs:=[g.vm]) (off:=0) (len:=1) rfl o.kM rfl (by decide),DB (vs:=[g.vc]) (off:=1) (len:=1) rfl o.kV rfl (by simp[JH]),DB (vs:=[g.vd]) (off:=2) (len:=1) rfl o.kP rfl (by simp[JH]),FX];rfl
  refine⟨_,m,?_⟩;refine AA (Wb (g:=g) hC) ?_;rintro _ w4 ⟨bt,F,rfl,X,hF,Y,O⟩;refine AG ?_;rw[AH,AI];refine(B.grow O).st (q:=0) (show 0<1 by decide) rfl rfl λw5 Z Q=>?_;have I:=Y.mod Q λx j e=>by
   rcases j with j|j
   .have:=hF x j;omega
   .exact hb (e▸j)
  refine⟨bt,λx=>F x\/x=b,⟨Z,?_,.inr rfl,hb⟩,λx j=>?_,(O.mono λ_ _ h=>h.elim).trans Q⟩
  .have e:(λx=>(F x\/x=b)/\x≠b)=F:=by
    funext x
    refine propext ⟨λh=>h.1.elim (λh=>h) λe=>(h.2 e).elim,λh=>⟨.inl h,λe=>?_⟩⟩;have:=hF x h;omega
   rw[e];exact I
  .rcases j with j|j
   .exact .inr (hF x j)
   .exact .inl j
def Mz{b bt N:Nat}{l:List α}(o:dN g.toAvK)(h:Dk g F C W b bt l N):AB prog o.fl [.pointer (some ⟨b,0,none⟩)] (λv' w'=>v'=zI (Tr.sz g.k.μ l)/\Grow W w') W:=by
 apply o.len;unfold fz;refine CY (AL ?_);refine AA (ES o h) ?_;rintro _ _ ⟨rfl,rfl⟩;rename World=>W
 obtain⟨A,T,h1,i,m,j,q⟩:=h.EI;have:=Qp h1 i;rw[j] at this;exact this
def Wj{b:Nat}(o:dN g.toAvK)(j:Bx W b [.pointer none])(hb:¬C b)(hC:∀x,C x->x<W.heap.size) :
  AB prog o.fl [.pointer (some ⟨b,0,none⟩)] (λv' w'=>v'=zI 0/\∃bt F,Dk g F C w' b bt [] 0/\(∀x,F x->x=b\/W.heap.size<=x)/\Mod (λx=>x=b) W w') W:=by
 apply o.len;unfold fz;refine CY (AL ?_);refine AA (eZ o j hb hC) ?_;rintro _ I ⟨bt,F,rfl,h,m,q⟩;obtain⟨A,T,k1,k2,J,B,O⟩:=h.EI;have:=Qp k1 k2;rw[B] at this;refine AA this ?_;rintro _ w2 ⟨rfl,i⟩;exact⟨rfl,bt,F,h.grow i,m,q.trans (i.mono λ_ _ h=>h.elim)⟩
def Q7(i j n:Int):Int:=if i<0 then 5 else if j<i then 5 else if n<j then 5 else 0
def Jp{b bt N:Nat}{l:List α}{i j:Int}(o:dN g.toAvK)(h:Dk g F C W b bt l N):AB prog o.fb [.pointer (some ⟨b,0,none⟩),zI i,zI j] (λv' w'=>v'=zI (Q7 i j (Tr.sz g.k.μ l))/\Grow W w') W:=by
 apply o.jh;unfold Zz Q7;refine CY (AL ?_);rw[Ai];refine AD (λe=>⟨by rw[DN e],Mod.refl _ _⟩) λm=>?_;rw[BE];refine AD (λe=>⟨by rw[Bp m,DN e],Mod.refl _ _⟩) λq=>?_;refine AA (Mz o h) ?_;rintro _ J ⟨rfl,B⟩;rw[BE];refine AD (λe=>⟨by rw[Bp m,Bp q,DN e],B⟩) λI=>⟨by rw[Bp m,Bp q,Bp I],B⟩
def JF{b bt N i j:Nat}{l L:List α}(I:Sg g)(h:Dk g F C W b bt l N)(hN:N+L.length<=109951162000)(J:An S g.E (g.R C) W v L)(O:∀x,S x->¬F x)(o:i<=j)(Q:j<=1099511627776)
 (U:EB g l)(V:EB g (g.k.Bl l i j L))(b3:EB g ((g.k.split l i).1.getLast?.toList++L++(g.k.split (g.k.split l i).2 (j-i)).2.head?.toList)) :
  AB prog g.fReplace [.pointer (some ⟨bt,0,none⟩),zI (i:Int),zI (j:Int),v] (λ_ w'=>∃F',(∀x,F x->F' x)/\(∀x,F' x->F x\/W.heap.size<=x)/\Dk g F' C w' b bt (g.k.Bl l i j L) (N+L.length+4)/\Mod F W w') W:=by
 obtain⟨A,T,h1,X,Y,rfl,h5⟩:=h.EI;have q:=h.box.lt (QC _);refine AA (I h1 (by omega) X Y J (λx m e=>O x m e.1) o Q U V b3) ?_;rintro _ w' ⟨Z,A',e1,⟨F',k1,k2,k3,B⟩,e2,e3,e4⟩;refine⟨λx=>F' x\/x=b,λx m=>?_,λx m=>?_,⟨h.box.mod B λe=>e.2 rfl,⟨A',Z,?_,e2,e3,e1,by omega⟩,.inr rfl,h.fb.2⟩,B.mono λx _ e=>e.1⟩
 .by_cases e:x=b
  .exact .inr e
  .exact .inl (k1 x ⟨m,e⟩)
 .rcases m with m|rfl
  .exact(k2 x m).imp (λh=>h.1) λh=>h
  .exact .inl h.fb.1
 .have e:(λx=>(F' x\/x=b)/\x≠b)=F':=by
   funext x
   refine propext ⟨λh=>h.1.elim (λh=>h) λe=>(h.2 e).elim,λm=>⟨.inl m,λe=>?_⟩⟩;rcases k2 x m with h'|h'
   .exact h'.2 e
   .omega
  rw[e];exact k3
end
abbrev BR(l:List Ck):List Int:=l.flatMap Ck.l
def HB:Ck.kd.FW Ck.l where
 size:=λ_=>rfl
 cut1:=λ_ _ _ _=>⟨rfl,rfl⟩
 melds:=λa b c h=>by
  simp only[Ck.kd] at h;split at h
  .rename_i i;cases h;have j:a.jn b=⟨a.l++b.l,by simpa using i⟩:=r9 i;rw[j]
  .cases h
def Gn(l:List Ck):Tr.sz Ck.kd.μ l=(BR l).length:=HB.sz l
def PZ(l:List Ck):Tr.mk Ck.kd.μ l=BJ (BR l):=by
 induction l with
 |nil=>rfl
 |cons c l i=>rw[Tr.Cw,i];show BJ c.l+BJ (BR l)=BJ (c.l++BR l);rw[BJ,BJ,BJ,od]
def RY(l r:Tr Ck)(i:Nat)(x:Ck):BR (Tr.node l i x r).toL=BR l.toL++(x.l++BR r.toL):=by
 simp[BR,Tr.toL]
def DL(l:List Int):BJ l<=l.length:=rm
def ER(a b:List Int):BJ (a++b)=BJ a+BJ b:=od
def L4(a b:List Int)(k:Nat):G5 (a++b) k=if k<BJ a then G5 a k else(G5 b (k-BJ a)).map (·+a.length):=by
 induction a generalizing k with
 |nil=>simp[BJ]
 |cons r a j=>
  have i:∀o:Option Nat,(o.map (·+a.length)).map (·+1)=o.map (·+(r::a).length):=λo=>by cases o<;>simp;omega
  rw[Za,G7,G7];by_cases h:r=10
  .have e:BJ (r::a)=BJ a+1:=by rw[h];simp[BJ]
   rw[DN h,DN h,e];cases k with
   |zero=>simp
   |succ k=>
    simp only[j];by_cases hk:k<BJ a
    .rw[DN hk,DN (by omega)]
    .rw[Bp hk,Bp (by omega),i,Nat.add_sub_add_right]
  .have e:BJ (r::a)=BJ a:=by simp[BJ,h]
   rw[Bp h,Bp h,e,j];by_cases hk:k<BJ a
   .rw[DN hk,DN hk]
   .rw[Bp hk,Bp hk,i]
def Lj{l:List Int}{k:Nat}(h:k<BJ l):∃i,G5 l k=some i/\i<l.length:=by
 induction l generalizing k with
 |nil=>simp[BJ] at h
 |cons r a j=>
  rw[G7];by_cases e:r=10
  .rw[DN e];cases k with
   |zero=>exact⟨0,rfl,by simp⟩
   |succ k=>
    obtain⟨i,h1,m⟩:=j (k:=k) (by rw[e] at h;simp[BJ] at h ⊢;omega);exact⟨i+1,by simp[h1],by simp;omega⟩
  .rw[Bp e];obtain⟨i,h1,m⟩:=j (k:=k) (by simpa[BJ,e] using h);exact⟨i+1,by simp[h1],by simp;omega⟩
def TU(A:ArS Ck)(v:Value):Nat:=match v with
 |.int _ i=>if i<0 then 0 else match A.f i.toNat with
  |some n=>(n.h:Int).toNat
  |none=>0
 |_=>0
def FN{A:ArS Ck}{t:Tr Ck}(h:Tr.Holds Ck.kd.μ A.f t):TU A (zI t.root)=t.ht:=by
 cases t with
 |nil=>rfl
 |node l i x r=>
  obtain⟨_,_,hi⟩:=h;have e:TU A (.int .i64 ((i:Nat):Int))=match A.f i with
   |some n=>(n.h:Int).toNat
   |none=>0:=by
   unfold TU;simp only[mH];exact Bp (by omega)
  show TU A (zI ((i:Nat):Int))=_;rw[e,hi];simp[Tr.EC]
def SK(h:WQ Gp v0 v sv K w):AB prog 120 [v0,v,sv] K w:=au h
def UY(h:dJ Gp v0 v sv K w):AB prog 122 [v0,v,sv] K w:=aH h
def Rj(h:Ww Gp v0 K w):AB prog 147 [v0] K w:=Zy h
def RS{b p:Nat}{A:ArS Ck}{T:Tr Ck}(h:Dj Ap.toAvT F C W b T.root A)(hh:Tr.Holds Ap.k.μ A.f T)(hp:p<=1099511627776)(hb:EB Ap.toAvT T.toL) :
  AB prog 120 [.pointer (some ⟨b,0,none⟩),zI (p:Int),.func (.func 121) #[] #[]] (λv' w'=>v'=zI (BJ ((BR T.toL).take p):Int)/\Grow W w') W:=by
 apply SK;unfold WQ;refine AG ?_;obtain⟨c,pl,fr,Y⟩:=id h;refine Az (Y.box.cells 4 _ rfl) ?_;have Z:(BR T.toL).length<=1099511627776:=by rw[<-Gn];exact hb.1
 have hN:BJ ((BR T.toL).take p)<=1099511627776:=lx (DL _) (by rw[Lc];omega);generalize a1:BJ ((BR T.toL).take p)=N at hN;refine AU (λvs W'=>∃(t:Tr Ck) (q m:Nat),vs=[zI (q:Int),zI (m:Int),zI t.root]/\Tr.Holds Ap.k.μ A.f t/\(BR t.toL).length<=1099511627776/\q<=p/\m+BJ ((BR t.toL).take q)=N/\Grow W W')
  (λvs _=>TU A (nth vs 2)) ⟨T,p,0,rfl,hh,Z,K8 _,by rw[mQ];exact a1,Mod.refl _ _⟩ ?_
 rintro vs W1 ⟨t,q,m,rfl,I,O,hq,hm,Q⟩ _;simp only[FC];rw[BL];cases t with
 |nil=>
  refine AW (λ_=>?_) λe=>(e rfl).elim;have:m=N:=by simpa[BR,Tr.toL,BJ] using hm
  subst this;exact⟨rfl,Q⟩
 |node l i x r=>
  obtain⟨hl,hr,hi⟩:=id I;have a6:=RY l r i x;rw[a6] at hm O;rw[BW,BW] at O;have h1:=h.grow Q;refine AW (λe=>by simp only[Tr.root] at e;omega) λ_=>?_;simp only[Tr.root];refine Dt h1 hi λrc bx w3 g3 ax B U=>?_;have o:=Ap.rlen U;obtain rfl:rc=x.cells:=U;have h3:=h1.grow g3;refine Az (B.cells (Ap.E+0) _ (by rw[AY o];rfl)) ?_;refine AA (Bo h3 hl) ?_;rintro _ w5 ⟨rfl,g5⟩;refine K0 ?_;have V:Grow w5 w5.drew:=Mod.drew _ _;have X:=(g3.trans g5).trans V;obtain⟨c,pl,fr,Y⟩:=id h1;have a7:=Y.mod X λ_ _ h=>h;have B5:=(B.grow g5).grow V;refine AT (λ_ _=>False) ?_;refine AG ?_;rw[AH,AI,AH,AI];refine AP ⟨a7.box.cells 0 _ rfl,λ_ _ e=>e⟩ ?_;rw[AH,AI];refine JS (g:=Ap.toAvT) (r:=x.cells) o (λj v hv=>⟨B5.cells j v (by rw[Q0 (Ad.1 hv).1];exact hv),λ_ _ e=>e⟩) ?_;refine Ao (Ap.meas (C:=C) (x:=x) rfl) ?_;rintro _ w6 ⟨rfl,g6⟩;refine⟨g6.mono λ_ _ h=>h.elim,?_⟩;refine BI ?_;have J:=X.trans g6;have B6:=B5.grow g6;have es:Tr.sz Ap.k.μ l.toL=(BR l.toL).length:=Gn _;have em:Tr.mk Ap.k.μ l.toL=BJ (BR l.toL):=PZ _;have a8:(Ap.k.μ x).1=x.l.length:=rfl;have ak:(Ap.k.μ x).2=BJ x.l:=rfl;rw[es,em,a8,ak,HT];have ay:=DL x.l;have aZ:=DL (BR l.toL);refine AD (λb0=>?_) λav=>?_
  .rw[nR (by omega)] at hm;refine Az (B6.cells (Ap.E+0) _ (by rw[AY o];rfl)) ?_;refine⟨⟨l,q,m,rfl,hl,by omega,hq,hm,Q.trans J⟩,?_⟩;have e1:TU A (zI (i:Int))=(Tr.node l i x r).ht:=FN I;have e2:TU A (zI (Tr.EC Ap.k.μ (.node l i x r) x l.root r.root).l)=l.ht:=FN hl;refine pg (o0 e2) (No ?_ (o0 e1.symm));simp only[Tr.ht];omega
  have al:(BR l.toL).length<q:=by omega
  rw[oJ,mU (by omega:(BR l.toL).length<=q),ER] at hm;refine B0 (by omega) ?_;refine G9 (λb1=>?_) λb2=>?_
  .rw[nR (by omega)] at hm;refine B0 (by omega) ?_;rw[AH,AI];refine AV (vs:=x.cells) o (λj u hu=>by rw[AI];exact B6.cells j u (by rw[Q0 (Ad.1 hu).1];exact hu)) ?_;refine Gr (by omega) (by omega) ?_;refine Ek (by kernel_rfl) ?_;refine AA (Qk x _) ?_;rintro _ b6 ⟨rfl,an⟩;refine B0 (by omega) ⟨?_,(Q.trans J).trans an⟩;congr 2;omega
  .rw[oJ,mU (by omega:x.l.length<=q-(BR l.toL).length),ER] at hm;refine B0 (by omega) (B0 (by omega) (B0 (by omega) (Gr (by omega) (by omega) ?_)));refine Az (B6.cells (Ap.E+1) _ (by rw[AY o];rfl)) ?_;refine⟨⟨r,q-((BR l.toL).length+x.l.length),m+(BJ (BR l.toL)+BJ x.l),rfl,hr,by omega,by omega,?_,Q.trans J⟩,?_⟩
   .rw[qw] at hm;omega
   .have e1:TU A (zI (i:Int))=(Tr.node l i x r).ht:=FN I;have e2:TU A (zI (Tr.EC Ap.k.μ (.node l i x r) x l.root r.root).r)=r.ht:=FN hr;refine pg (o0 e2) (No ?_ (o0 e1.symm));simp only[Tr.ht];omega
def gu(c:Ck){k i:Nat}(hk:k<=1099511627776)(h:G5 c.l k=some i):AB prog 123 [.agg c.cells.toArray,zI (k:Int)] (λv w'=>v=zI (i:Int)/\Grow w w') w:=by
 refine uS2 (dB 73 [] []) func123 (λ_ _ _ _=>⟨by conv=>lhs;reduce,by dsimp only[PI,AF],by kernel_rfl⟩) ?_;unfold uI;refine Bx.box λb o hb j B=>?_;refine B.Eg c.len ?_;refine AA (Pa c hk) ?_;rintro _ w2 ⟨rfl,m⟩;rw[h,jg];exact Ae (vs:=[_,_]) (by rfl) (Ae (vs:=[_,_]) (by rfl) ⟨rfl,j.trans m⟩)
def bh{b k p:Nat}{A:ArS Ck}{T:Tr Ck}(h:Dj Ap.toAvT F C W b T.root A)(hh:Tr.Holds Ap.k.μ A.f T)(hk:k<=1099511627776)(hb:EB Ap.toAvT T.toL)(hp:G5 (BR T.toL) k=some p) :
  AB prog 122 [.pointer (some ⟨b,0,none⟩),zI (k:Int),.func (.func 123) #[] #[]] (λv' w'=>v'=.tuple #[zI (p:Int),.bool true]/\Grow W w') W:=by
 apply UY;unfold dJ;refine AG ?_;obtain⟨c,pl,fr,hT⟩:=id h;refine Az (hT.box.cells 4 _ rfl) ?_;have aZ:(BR T.toL).length<=1099511627776:=by rw[<-Gn];exact hb.1
 refine AU (λvs W'=>∃(t:Tr Ck) (q m z:Nat),vs=[zI (q:Int),zI (m:Int),zI t.root]/\Tr.Holds Ap.k.μ A.f t/\m+(BR t.toL).length<=1099511627776/\q<=k/\G5 (BR t.toL) q=some z/\m+z=p/\Grow W W')
  (λvs _=>TU A (nth vs 2)) ⟨T,k,0,p,rfl,hh,by omega,K8 _,hp,mQ _,Mod.refl _ _⟩ ?_
 rintro vs W1 ⟨t,q,m,z,rfl,J,Q,hq,o,a1,Z⟩ _;simp only[FC];refine AR (λ_ W'=>W'=W1) ?_ ?_;rotate_left
 .rw[Cu];refine AD (λ_=>?_) λe=>(e (by omega)).elim;rw[BL];refine AW (λe=>?_) λ_=>rfl;cases t with
  |nil=>cases o
  |node l i x r=>simp only[Tr.root] at e;omega
 rintro _ _ rfl _;rename World=>W1
 cases t with
 |nil=>cases o
 |node l i x r=>
  obtain⟨hl,hr,hi⟩:=id J;have a6:=RY l r i x;rw[a6] at o Q;rw[BW,BW] at Q;have h1:=h.grow Z;simp only[Tr.root];refine Dt h1 hi λrc bx w3 g3 b0 B U=>?_;have I:=Ap.rlen U;obtain rfl:rc=x.cells:=U;have h3:=h1.grow g3;refine Az (B.cells (Ap.E+0) _ (by rw[AY I];rfl)) ?_;refine AA (Bo h3 hl) ?_;rintro _ w5 ⟨rfl,g5⟩;refine K0 ?_;have V:Grow w5 w5.drew:=Mod.drew _ _;have X:=(g3.trans g5).trans V;obtain⟨c,pl,fr,hT⟩:=id h1;have a7:=hT.mod X λ_ _ h=>h;have B5:=(B.grow g5).grow V;refine AT (λ_ _=>False) ?_;refine AG ?_;rw[AH,AI,AH,AI];refine AP ⟨a7.box.cells 0 _ rfl,λ_ _ e=>e⟩ ?_;rw[AH,AI];refine JS (g:=Ap.toAvT) (r:=x.cells) I (λj v hv=>⟨B5.cells j v (by rw[Q0 (Ad.1 hv).1];exact hv),λ_ _ e=>e⟩) ?_;refine Ao (Ap.meas (C:=C) (x:=x) rfl) ?_;rintro _ w6 ⟨rfl,g6⟩;refine⟨g6.mono λ_ _ h=>h.elim,?_⟩;refine BI ?_;have O:=X.trans g6;have B6:=B5.grow g6;have es:Tr.sz Ap.k.μ l.toL=(BR l.toL).length:=Gn _;have em:Tr.mk Ap.k.μ l.toL=BJ (BR l.toL):=PZ _;have a8:(Ap.k.μ x).1=x.l.length:=rfl;have ak:(Ap.k.μ x).2=BJ x.l:=rfl;rw[es,em,a8,ak,Ai];have b1:=DL x.l;have b2:=DL (BR l.toL);rw[L4] at o;refine AD (λb6=>?_) λax=>?_
  .rw[DN (by omega)] at o;refine Az (B6.cells (Ap.E+0) _ (by rw[AY I];rfl)) ?_;refine⟨⟨l,q,m,z,rfl,hl,by omega,hq,o,a1,Z.trans O⟩,?_⟩;have e1:TU A (zI (i:Int))=(Tr.node l i x r).ht:=FN J;have e2:TU A (zI (Tr.EC Ap.k.μ (.node l i x r) x l.root r.root).l)=l.ht:=FN hl;refine pg (o0 e2) (No ?_ (o0 e1.symm));simp only[Tr.ht];omega
  rw[Bp (by omega),L4] at o;refine B0 (by omega) ?_;refine G9 (λb7=>?_) λb8=>?_
  .rw[DN (by omega)] at o;obtain⟨i',Y,rfl⟩:=pA.1 o;have ay:i'<x.l.length:=by
    obtain⟨i2,k1,k2⟩:=Lj (l:=x.l) (k:=q-BJ (BR l.toL)) (by omega);rw[Y] at k1;cases k1;exact k2
   refine B0 (by omega) ?_;rw[AH,AI];refine AV (vs:=x.cells) I (λj u hu=>by rw[AI];exact B6.cells j u (by rw[Q0 (Ad.1 hu).1];exact hu)) ?_;refine Gr (by omega) (by omega) ?_;refine Ek (by kernel_rfl) ?_;refine AA (gu x (by omega) Y) ?_;rintro _ b9 ⟨rfl,al⟩;refine B0 (by omega) ⟨?_,(Z.trans O).trans al⟩;have e:m+(BR l.toL).length+i'=p:=by omega
   rw[e]
  .rw[Bp (by omega)] at o;obtain⟨z1,an,rfl⟩:=pA.1 o;obtain⟨z2,av,rfl⟩:=pA.1 an;refine B0 (by omega) (B0 (by omega) (B0 (by omega) (Gr (by omega) (by omega) ?_)));refine Az (B6.cells (Ap.E+1) _ (by rw[AY I];rfl)) ?_;refine⟨⟨r,q-(BJ (BR l.toL)+BJ x.l),m+((BR l.toL).length+x.l.length),z2,rfl,hr,by omega,by omega,?_,by omega,Z.trans O⟩,?_⟩
   .rw[<-qw];exact av
   .have e1:TU A (zI (i:Int))=(Tr.node l i x r).ht:=FN J;have e2:TU A (zI (Tr.EC Ap.k.μ (.node l i x r) x l.root r.root).r)=r.ht:=FN hr;refine pg (o0 e2) (No ?_ (o0 e1.symm));simp only[Tr.ht];omega
def Lb.grow{st:Prop}{m N:Nat}{i:Nat->List Value}{Rd:Nat->Prop}(h:Lb st P m vs i N Rd w)(g:Grow w w'):Lb st P m vs i N Rd w':=by
 intro l J o q B h0 hJ PW JY hr;refine h l J o q (g.trans B) h0 hJ PW (λk I W hk b hb j=>?_) hr;exact(JY k I W hk b (No hb g.size) j).trans (g.same b hb λh=>h)
structure Yi {α:Type} (e k:Nat) (R:World->List Value->α->Prop) (B c m:Nat) (It:Nat->Prop) (W:World) (out:Value) (l:List α):Prop where
 box:Bx W c [out]
 row:AE B e k R W out l
 hc:∀g,out.ownBlock=some g->g≠c/\g≠m/\g≠m+1/\¬It g
def O4{cap vals:List Value}{Rd:Nat->Prop}{X:List Spn}(hs:Lb True prog N cap (λk=>[vals.getD k undef]) vals.length Rd W)(a8:CS N=true)(hv:vals.length=X.length)(J:∀m (h1:m<vals.length) (Z:m<X.length),vals[m]=.agg X[m].cells.toArray)(JY:∀x,Rd x->x<W.heap.size)(hl:X.length<=109951162777) :
  AB prog 151 [.func (.func N) #[] cap.toArray] (λv' w'=>AE W.heap.size 128 2 (λ_ r x=>r=Spn.cells x) w' v' X/\Grow W w') W:=by
 refine uS1 (dB 9 [] []) func151 (λ_ _ _=>⟨by conv=>lhs;reduce,by dsimp only[PI,AF],by kernel_rfl⟩) ?_;unfold uI;apply Zw;unfold S238;refine Cg rfl λc I hc g1 B=>?_;have b1:=B.lt (QC _);have z1:=g1.size;refine Jh ⟨True,N,cap,_,_,_,rfl,a8,hs.grow g1,λk _=>rfl,?_⟩;refine⟨λk O W'=>∃out,Yi 128 2 (λ_ r x=>r=Spn.cells x) I.heap.size c I.heap.size O W' out (X.take k)/\Mod (λx=>x=c) I W'/\k<=X.length,λ_ _ _=>False,⟨_,⟨B,AE.nil,λg i=>nomatch i⟩,Mod.refl _ _,Nn _⟩,?_,λx O ak W W' h=>h.elim,?_,?_,?_,λx O W h=>h.elim⟩
 .rintro k O ak W' b2 ⟨out,q,m,hk⟩ hm j;have a1:=q.box.lt (QC _);have hn:∀x,x<I.heap.size->¬((¬True/\O x)\/x=I.heap.size\/x=I.heap.size+1):=λx J=>by rintro(⟨h,_⟩|h|h);exact h trivial;all_goals omega
  refine⟨out,⟨q.box.mod hm (hn c (by omega)),AE.mod q.row hm (λg i=>?_) λ_ _ _ h=>h,λg i=>?_⟩,m.next hm λx J=>?_,hk⟩
  .obtain⟨_,Z,h3,_⟩:=q.hc g i;rintro(⟨h,_⟩|h|h)
   .exact h trivial
   .exact Z h
   .exact h3 h
  .obtain⟨h1,Z,h3,h4⟩:=q.hc g i;refine⟨h1,Z,h3,λh=>?_⟩;rcases(j g h).1 with h|h
   .exact h4 h
   .have:=(AE.Aj q.row g i).2;omega
  .intro e;exact absurd e (hn x J)
 .rintro k O W' ⟨out,q,m,hk⟩ b hb hr;exact m.same b hb λe=>by have:=JY b hr;omega
 .rintro k O W' hk ⟨out,q,m,b6⟩ hz j;have Q:k<X.length:=by omega
  have V:(nth [vals.getD k undef] 0)=.agg X[k].cells.toArray:=by
   show vals.getD k undef=_;rw[mP,Bq hk,pQ,J k hk Q]
  rw[V];refine Bx.new (vs:=X[k].cells) rfl rfl (Spn.one _) λb5 W5 b7 g5 B5=>?_;refine Kn g5 hz j (λ_ _ h=>h.elim) λW6 o=>?_;have z5:=g5.size;have z6:=o.size;have a1:=q.box.lt (QC _);have al:=B5.lt (QC _);have B6:=(q.box.grow g5).mod o (by omega);have an:=B5.mod o (by omega);have o6:AE I.heap.size 128 2 (λ_ r x=>r=Spn.cells x) W6 out (X.take k):=AE.mod (AE.mod (R':=λ_ r x=>r=Spn.cells x) q.row g5 (λ_ _ h=>h) λ_ _ _ h=>h) o (λg i=>(q.hc g i).2.2.1) λ_ _ _ h=>h;refine AJ (B6.cells 0 _ rfl) ?_;refine an.Eg rfl ?_;have b8:(X.take k).length<=X.length:=by simp;omega
  refine Dp DW.elE o6 (by omega) (cs:=X[k].cells) (x:=X[k]) (DD (v:=.agg X[k].cells.toArray) rfl (by decide) rfl rfl) rfl rfl (λ_ _ _ h=>by subst h;exact Spn.one _) (λ_ _ _ _ _ _ h=>h) (by show _*16<=_;omega) (by simp only[maxLen];omega) λa6 W9 o9 m9 n9=>?_;have z9:=m9.size;have b9:=AE.Aj o6;have B9:=B6.mod m9 λe=>(q.hc c e).1 rfl;obtain⟨av,ax⟩:=o9.one;refine B9.st (q:=0) (show 0<1 by decide) av ax λay aZ Y=>?_;have ba:=Y.size;have U:Mod (λx=>x=c\/out.ownBlock=some x) W6 ay:=(m9.mono λ_ _ e=>.inr e).trans (Y.mono λ_ _ e=>.inl e);refine⟨N9 U (by omega) (λb hb=>by have:=(j b hb).1;omega) (λb _ e=>?_),a6,⟨aZ,?_,λg i=>?_⟩,?_,by omega⟩
  .rcases e with rfl|e
   .exact⟨λh=>by have:=(j b h).2;omega,by omega,by omega⟩
   .obtain⟨h1,Z,h3,h4⟩:=q.hc b e;exact⟨h4,Z,h3⟩
  .have b0:X.take (k+1)=X.take k++[X[k]]:=by rw[S5];simp[Q]
   rw [b0];exact AE.mod o9 Y (λg i e=>by
    rcases n9 g i with h|h
    .exact(q.hc g h).1 e
    .omega) λ_ _ _ h=>h
  .rcases n9 g i with h|h
   .exact q.hc g h
   .refine⟨by omega,by omega,by omega,λhI=>by have:=(j g hI).1;omega⟩
  .refine((m.next g5 λ_ _ h=>h.elim).next o λx J e=>by omega).next U λx J e=>?_;rcases e with e|e
   .exact e
   .have:=(AE.Aj q.row x e).1;omega
 .rintro O W' ⟨out,q,m,hk⟩ _ _ hd;refine AJ (q.box.cells 0 _ rfl) ⟨hd,?_⟩;have a7:Mod (λb=>b=I.heap.size) W' (W'.putObj I.heap.size (.deferred none)):=Mod.putObj _ _ _ rfl;rw[hv,S7] at q;refine⟨AE.base (AE.mod q.row a7 (λg i=>(q.hc g i).2.1) λ_ _ _ h=>h) λg i=>?_,?_⟩
  .have:=(AE.Aj q.row g i).1;omega
  exact(g1.next m λx J e=>by omega).next a7 λx J e=>by omega
end Go.Proofs.YtbdjachmndlplaaGreatDoor
