/- parts of the proof, written short by a program of ours -/
import Derived.Test.YtmdhibffnkhcnaaGreatDoorZTextNormalUpto5
import Derived.ChangeKeysEq
set_option linter.unusedSimpArgs false
set_option linter.unusedVariables false
namespace Go.Proofs.YtmdhibffnkhcnaaGreatDoor
open Go Proofs.Tryz
variable {i j E:Nat}{w W:World}{K:Cont}{P:Program}{yo xo:Operand}
section
def JN:AvK where
 E:=2
 one:=false
 zE:=[.int .i64 0,.int .i64 0]
 te:=108
 tn:=319
 ts:=101
 tp:=378
 tps:=362
 tt:=137
 tT:=260
 tk:=256
 tA:=364
 fat:=244
 ftotals:=245
 fset:=295
 flift:=299
 flean:=298
 fbalance:=294
 fjoin:=277
 ffirst:=275
 flast:=273
 fconcat:=279
 fsplit:=271
 fdrop:=272
 fpick:=274
 fmelded:=276
 fReplace:=238
 fover:=175
 fOver:=100
 fOverf:=174
 fSize:=184
 fNew:=170
 aTake:=278
 aasked:=296
 aFree:=293
 aAt:=282
 aPut:=292
 aNew:=243
 vm:=.func (.func 171) #[] #[]
 vc:=.func (.func 172) #[] #[]
 vd:=.func (.func 173) #[] #[]
theorem X7:ZZ JN where
 at_:=fun h=>cO (aN (aN aE)) func244 h (by kernel_rfl)
 totals:=fun h=>cO (aN (aO (aN (aO aE .nil)) (aN (aO .draw .nil)))) func245 h (by kernel_rfl)
 set:=fun h=>cO (aN (aN (aN (aO (.dc [7] (aQ0 [[],[5],(aR 7),(aR 8),(aR 9),(aR 9),(aR 10),(aR 12)]) []) (aN (.dc [6] [[],[0],[0,1],[0,1,2],[],[],(aR 6)] [])))))) func295 h (by kernel_rfl)
 lift:=fun h=>cO (aN (aN (aN (aO (aN (aO (aN (aN (aN (aN aE)))) (aN (aN (aN (aN aE)))))) aE)))) func299 h (by kernel_rfl)
 lean:=fun h=>cO (aN (aN (aN (aN aE)))) func298 h (by kernel_rfl)
 balance:=fun h=>cO (aN (aN (aO (aN (aN (aO (aO (aN (aO aE .nil)) aE) (aN (aO (aO (aN (aO aE .nil)) aE) .nil))))) aE))) func294 h (by kernel_rfl)
 join:=fun h=>cO (aN (aN (aN (aO (aN (aO (aN (aN aE)) (aN (aO (aN (aN aE)) .nil)))) (aN (aN (aN aE))))))) func277 h (by kernel_rfl)
 first:=fun h=>cO (aN (aN (aO (aN (aO aE .nil)) (aN aE)))) func275 h (by kernel_rfl)
 last:=fun h=>cO (aN (aN (aO (aN (aO aE .nil)) (aN aE)))) func273 h (by kernel_rfl)
 concat:=fun h=>cO (aN (aO (aN (aO aE .nil)) (aN aE))) func279 h (by kernel_rfl)
 drop:=fun h=>cO (aO (aN aE) (aN (aN aE))) func272 h (by kernel_rfl)
 over:=fun h=>cO (aN aE) func100 h (by kernel_rfl)
 overf:=fun h=>cO (.dc [8] [[],[],[1],[1,2],[1,2,3],[],[],[],(aR 8)] []) func174 h (by kernel_rfl)
 size:=fun h=>cO (aN (aN aE)) func184 h (by kernel_rfl)
 take:=fun h=>cO (aN (aO (aN (aO aE .nil)) (aO (aN (aN (aO (aN (aN (aO (.dc [8] [[],[0],[0,1],[0,1,2],[],[],[5],(aR 7),(aR 8)] []) aE))) .nil))) (aO (.dc [7,8,11] [[],[],[1],[1,2],[1,2,3],[],[5],[5,6],[1,2,3,4,5,6,7],(aR 9),(aR 10),(aR 11)] [[7,8]]) aE)))) func278 h (by kernel_rfl)
 asked:=fun h=>cO (aN (aO (aN (aO aE (aN (aO aE .nil)))) aE)) func296 h (by kernel_rfl)
 free:=fun h=>cO (aN (aO (aN (aN (aO aE .nil))) (aN (aN aE)))) func293 h (by kernel_rfl)
 aat:=fun h=>cO (aN (aO (aN (aN (aO (aN aE) .nil))) aE)) func282 h (by kernel_rfl)
 put:=fun h=>cO (aN (aO (aN (aN (aO aE .nil))) (aO (.dc [8] [[],[0],[0,1],[0,1,2],[],[],(aR 6),(aR 7),(aR 8)] []) aE))) func292 h (by kernel_rfl)
 new:=fun h=>cO (aN (aO (.dc [1,3] [[],[],[0,1],[0,1,2],(aR 4)] [[1]]) .nil)) func170 h (by kernel_rfl)
 anew:=fun h=>cO (aN aE) func243 h (by kernel_rfl)
 okOverf:=by kernel_rfl
theorem Vy:Wj JN where
 split:=fun h=>cO (aN (aO (aN (aO aE .nil)) (aN (aN (aO (.dc [7] (aQ0 [[],[5],(aR 7),(aR 8),(aR 9),(aR 9),(aR 10),(aR 12)]) []) (aO (aN (aO (aN aE) (aN (aO (aN aE) .nil)))) (.cut [14,15] [(14,15),(86,99)] (.dt [10,14,15,16,17] (aQ0 [[],[5],[],[],[7,8],(aR 10),(aR 11),(aR 12),(aR 12),[],[],[0,1,2,3,4,5,6,7,8,9,10,11,12,14,15],(aR 17)]) [[10]] (.op 0 (.op 1 (.op 2 (.op 3 (.op 4 (.op 5 (.op 6 (.op 7 (.op 8 (.op 9 (.br (.op 10 (.op 11 (.op 12 (.op 13 (.br (.op 14 (.op 15 (.op 16 (.op 17 .nil)))) (.op 15 (.op 14 (.op 16 (.op 17 .nil))))))))) (.br (.op 14 (.br (.op 10 (.op 11 (.op 12 (.op 13 (.op 15 (.op 16 (.op 17 .nil))))))) (.op 15 (.op 10 (.op 11 (.op 12 (.op 13 (.op 16 (.op 17 .nil))))))))) (.op 15 (.br (.op 10 (.op 11 (.op 12 (.op 13 (.op 14 (.op 16 (.op 17 .nil))))))) (.op 14 (.op 10 (.op 11 (.op 12 (.op 13 (.op 16 (.op 17 .nil)))))))))))))))))))))) (aO .draw (aN (aO (.dc [6] [[],[0],[0,1],[0,1,2],[],[],(aR 6)] []) (aO (.dc [3,11,13] [[],[],[],[0,1,2],[],[],[5],[5,6],[5,6,7],[],[9],[0,1,2,3,5,6,7,8,9,10],[],(aR 13),(aR 14),(aR 15)] []) .nil))))))))))) func271 h (by kernel_rfl)
 pick:=fun h=>cO (aN (aN (aN aE))) func274 h (by kernel_rfl)
 melded:=fun h=>cO (aN (aO (aN (.node [4,14] [(4,4),(6,11),(14,58)] (aN (aO aE (aO (aN (aO (aO (.dc [6] (aQ0 [[],(aR 6),(aR 7),(aR 8),(aR 8),(aR 9),(aR 11)]) []) (aN aE)) (.cut [] [(9,11),(30,53)] (aN (aN (aO (.cut [10,11] [(10,11),(35,48)] (.dt [10,14,15] (aQ0 [[],[],[5,6],[5,6,7],[],(aR 10),(aR 11),(aR 12),(aR 12),[],[0,1,2,3,4,5,6,7,8,9,10,11,12,14],(aR 16)]) [[10]] (.op 0 (.op 1 (.op 2 (.op 3 (.op 4 (.op 5 (.op 6 (.op 7 (.op 8 (.op 9 (.br (.op 10 (.op 11 (.op 12 (.op 13 (.op 14 (.op 15 (.op 16 .nil))))))) (.op 14 (.op 10 (.op 11 (.op 12 (.op 13 (.op 15 (.op 16 .nil))))))))))))))))))) (aN (aO aE .nil))) .nil))) .nil))) .nil))) .nil)) aE)) func276 h (by kernel_rfl)
 replace:=fun h=>cO (aN (aN (aN (aN (.cut [8,12] [(8,8),(12,14),(41,55)] (aN (aO aE .nil)) (aN (.cut [11,12] [(11,12),(15,16),(59,73)] (aN (aO aE .nil)) (aO (aN (.node [8,78] [(8,8),(18,18),(78,92)] (aN (aO aE (aO (aN (.dc [8,9] [[],[],[],[2],[2,3],[2,3,4],[],[6],[2,3,4,5,6,7],(aR 9),(aR 10)] [])) .nil))) .nil)) .nil)))))))) func238 h (by kernel_rfl)
 over:=fun h=>cO (aN (.cut [] [(10,10),(20,26)] (aN (aO aE .nil)) (aN (aN (aO (.dc [7] (aQ0 [[],[5],(aR 7),(aR 8),(aR 9),(aR 9),(aR 10),(aR 12)]) []) (.cut [] [(10,10),(49,63)] (aN (aO aE .nil)) (aN (.cut [] [(10,10),(19,19),(73,108)] (aN (aO (aN (.cut [] [(78,91)] (aN (aO (.dc [7,11] (aQ0 [[],[],(aR 7),(aR 8),(aR 9),(aR 9),(aR 10)]) [[7]]) .nil)) (.cut [] [(92,104)] (aN (aO (.dc [7,11] (aQ0 [[],[],(aR 7),(aR 8),(aR 9),(aR 9),(aR 11)]) [[7]]) .nil)) (aN (aO aE .nil))))) .nil)) aE)))))))) func175 h (by kernel_rfl)
def Kc:AvK where
 E:=1
 one:=true
 zE:=[.slice none 0 0]
 te:=43
 tn:=304
 ts:=50
 tp:=347
 tps:=343
 tt:=140
 tT:=272
 tk:=267
 tA:=345
 fat:=247
 ftotals:=185
 fset:=264
 flift:=289
 flean:=288
 fbalance:=263
 fjoin:=220
 ffirst:=218
 flast:=216
 fconcat:=222
 fsplit:=214
 fdrop:=215
 fpick:=217
 fmelded:=219
 fReplace:=147
 fover:=183
 fOver:=105
 fOverf:=182
 fSize:=114
 fNew:=178
 aTake:=221
 aasked:=287
 aFree:=262
 aAt:=283
 aPut:=261
 aNew:=246
 vm:=.func (.func 179) #[] #[]
 vc:=.func (.func 180) #[] #[]
 vd:=.func (.func 181) #[] #[]
theorem ZI:ZZ Kc where
 at_:=fun h=>cO (aN (aN aE)) func247 h (by kernel_rfl)
 totals:=fun h=>cO (aN (aO (aN (aO aE .nil)) (aN (aO .draw .nil)))) func185 h (by kernel_rfl)
 set:=fun h=>cO (aN (aN (aN (aO (.dc [7] (aQ0 [[],[5],(aR 7),(aR 8),(aR 9),(aR 9),(aR 10),(aR 12)]) []) (aN (.dc [6] [[],[0],[0,1],[0,1,2],[],[],(aR 6)] [])))))) func264 h (by kernel_rfl)
 lift:=fun h=>cO (aN (aN (aN (aO (aN (aO (aN (aN (aN (aN aE)))) (aN (aN (aN (aN aE)))))) aE)))) func289 h (by kernel_rfl)
 lean:=fun h=>cO (aN (aN (aN (aN aE)))) func288 h (by kernel_rfl)
 balance:=fun h=>cO (aN (aN (aO (aN (aN (aO (aO (aN (aO aE .nil)) aE) (aN (aO (aO (aN (aO aE .nil)) aE) .nil))))) aE))) func263 h (by kernel_rfl)
 join:=fun h=>cO (aN (aN (aN (aO (aN (aO (aN (aN aE)) (aN (aO (aN (aN aE)) .nil)))) (aN (aN (aN aE))))))) func220 h (by kernel_rfl)
 first:=fun h=>cO (aN (aN (aO (aN (aO aE .nil)) (aN aE)))) func218 h (by kernel_rfl)
 last:=fun h=>cO (aN (aN (aO (aN (aO aE .nil)) (aN aE)))) func216 h (by kernel_rfl)
 concat:=fun h=>cO (aN (aO (aN (aO aE .nil)) (aN aE))) func222 h (by kernel_rfl)
 drop:=fun h=>cO (aO (aN aE) (aN (aN aE))) func215 h (by kernel_rfl)
 over:=fun h=>cO (aN aE) func105 h (by kernel_rfl)
 overf:=fun h=>cO (.dc [8] [[],[],[1],[1,2],[1,2,3],[],[],[],(aR 8)] []) func182 h (by kernel_rfl)
 size:=fun h=>cO (aN (aN aE)) func114 h (by kernel_rfl)
 take:=fun h=>cO (aN (aO (aN (aO aE .nil)) (aO (aN (aN (aO (aN (aN (aO (.dc [8] [[],[0],[0,1],[0,1,2],[],[],[5],(aR 7),(aR 8)] []) aE))) .nil))) (aO (.dc [7,8,11] [[],[],[1],[1,2],[1,2,3],[],[5],[5,6],[1,2,3,4,5,6,7],(aR 9),(aR 10),(aR 11)] [[7,8]]) aE)))) func221 h (by kernel_rfl)
 asked:=fun h=>cO (aN (aO (aN (aO aE (aN (aO aE .nil)))) aE)) func287 h (by kernel_rfl)
 free:=fun h=>cO (aN (aO (aN (aN (aO aE .nil))) (aN (aN aE)))) func262 h (by kernel_rfl)
 aat:=fun h=>cO (aN (aO (aN (aN (aO (aN aE) .nil))) aE)) func283 h (by kernel_rfl)
 put:=fun h=>cO (aN (aO (aN (aN (aO aE .nil))) (aO (.dc [8] [[],[0],[0,1],[0,1,2],[],[],(aR 6),(aR 7),(aR 8)] []) aE))) func261 h (by kernel_rfl)
 new:=fun h=>cO (aN (aO (.dc [1,3] [[],[],[0,1],[0,1,2],(aR 4)] [[1]]) .nil)) func178 h (by kernel_rfl)
 anew:=fun h=>cO (aN aE) func246 h (by kernel_rfl)
 okOverf:=by kernel_rfl
theorem Vs:bL Kc where
 split:=fun h=>cO (aN (aO (aN (aO aE .nil)) (aN (aN (aO (.dc [7] (aQ0 [[],[5],(aR 7),(aR 8),(aR 9),(aR 9),(aR 10),(aR 12)]) []) (aO (aN (aO (aN aE) (aN (aO (aN aE) .nil)))) (aO (.dc [10] (aQ0 [[],[5],[],[],[7,8],(aR 10),(aR 11),(aR 12),(aR 12),(aR 13),(aR 15)]) []) (aO .draw (aN (aO (.dc [6] [[],[0],[0,1],[0,1,2],[],[],(aR 6)] []) (aO (.dc [3,11,13] [[],[],[],[0,1,2],[],[],[5],[5,6],[5,6,7],[],[9],[0,1,2,3,5,6,7,8,9,10],[],(aR 13),(aR 14),(aR 15)] []) .nil))))))))))) func214 h (by kernel_rfl)
 pick:=fun h=>cO (aN (aN (aN aE))) func217 h (by kernel_rfl)
 melded:=fun h=>cO (aN (aO (aN (.node [4,14] [(4,4),(6,11),(14,58)] (aN (aO aE (aO (aN (aO (aN (aN aE)) (.cut [] [(9,11),(30,53)] (aN (aN (aO (aO (.dc [10] (aQ0 [[],[],[5,6],[5,6,7],[],(aR 10),(aR 11),(aR 12),(aR 12),(aR 13),(aR 15)]) []) (aN (aO aE .nil))) .nil))) .nil))) .nil))) .nil)) aE)) func219 h (by kernel_rfl)
 replace:=fun h=>cO (aN (aN (aN (aN (.cut [8,12] [(8,8),(12,14),(41,55)] (aN (aO aE .nil)) (aN (.cut [11,12] [(11,12),(15,16),(59,73)] (aN (aO aE .nil)) (aO (aN (.node [8,78] [(8,8),(18,18),(78,92)] (aN (aO aE (aO aE .nil))) .nil)) .nil)))))))) func147 h (by kernel_rfl)
 over:=fun h=>cO (aN (.cut [] [(10,10),(20,26)] (aN (aO aE .nil)) (aN (aN (aO (.dc [7] (aQ0 [[],[5],(aR 7),(aR 8),(aR 9),(aR 9),(aR 10),(aR 12)]) []) (.cut [] [(10,10),(49,63)] (aN (aO aE .nil)) (aN (.cut [] [(10,10),(19,19),(73,108)] (aN (aO (aN (.cut [19] [(19,19),(78,91)] (aN aE) (.cut [19] [(19,19),(92,104)] (aN aE) (aN (aO aE .nil))))) .nil)) aE)))))))) func183 h (by kernel_rfl)
def Gy:AvK where
 E:=33
 one:=false
 zE:=[.int .i32 0,.int .i32 0,.int .i32 0,.int .i32 0,.int .i32 0,.int .i32 0,.int .i32 0,.int .i32 0,.int .i32 0,.int .i32 0,.int .i32 0,.int .i32 0,.int .i32 0,.int .i32 0,.int .i32 0,.int .i32 0,.int .i32 0,.int .i32 0,.int .i32 0,.int .i32 0,.int .i32 0,.int .i32 0,.int .i32 0,.int .i32 0,.int .i32 0,.int .i32 0,.int .i32 0,.int .i32 0,.int .i32 0,.int .i32 0,.int .i32 0,.int .i32 0,.int .i64 0]
 te:=162
 tn:=245
 ts:=218
 tp:=357
 tps:=353
 tt:=134
 tT:=243
 tk:=238
 tA:=355
 fat:=166
 ftotals:=165
 fset:=269
 flift:=291
 flean:=290
 fbalance:=268
 fjoin:=233
 ffirst:=231
 flast:=229
 fconcat:=235
 fsplit:=227
 fdrop:=228
 fpick:=230
 fmelded:=232
 fReplace:=150
 fover:=168
 fOver:=95
 fOverf:=167
 fSize:=110
 fNew:=157
 aTake:=234
 aasked:=281
 aFree:=267
 aAt:=242
 aPut:=266
 aNew:=241
 vm:=.func (.func 158) #[] #[]
 vc:=.func (.func 161) #[] #[]
 vd:=.func (.func 163) #[] #[]
theorem Zm:ZZ Gy where
 at_:=fun h=>cO (aN (aN aE)) func166 h (by kernel_rfl)
 totals:=fun h=>cO (aN (aO (aN (aO aE .nil)) (aN (aO .draw .nil)))) func165 h (by kernel_rfl)
 set:=fun h=>cO (aN (aN (aN (aO (.dc [7] (aQ0 [[],[5],(aR 7),(aR 8),(aR 9),(aR 9),(aR 10),(aR 12)]) []) (aN (.dc [6] [[],[0],[0,1],[0,1,2],[],[],(aR 6)] [])))))) func269 h (by kernel_rfl)
 lift:=fun h=>cO (aN (aN (aN (aO (aN (aO (aN (aN (aN (aN aE)))) (aN (aN (aN (aN aE)))))) aE)))) func291 h (by kernel_rfl)
 lean:=fun h=>cO (aN (aN (aN (aN aE)))) func290 h (by kernel_rfl)
 balance:=fun h=>cO (aN (aN (aO (aN (aN (aO (aO (aN (aO aE .nil)) aE) (aN (aO (aO (aN (aO aE .nil)) aE) .nil))))) aE))) func268 h (by kernel_rfl)
 join:=fun h=>cO (aN (aN (aN (aO (aN (aO (aN (aN aE)) (aN (aO (aN (aN aE)) .nil)))) (aN (aN (aN aE))))))) func233 h (by kernel_rfl)
 first:=fun h=>cO (aN (aN (aO (aN (aO aE .nil)) (aN aE)))) func231 h (by kernel_rfl)
 last:=fun h=>cO (aN (aN (aO (aN (aO aE .nil)) (aN aE)))) func229 h (by kernel_rfl)
 concat:=fun h=>cO (aN (aO (aN (aO aE .nil)) (aN aE))) func235 h (by kernel_rfl)
 drop:=fun h=>cO (aO (aN aE) (aN (aN aE))) func228 h (by kernel_rfl)
 over:=fun h=>cO (aN aE) func95 h (by kernel_rfl)
 overf:=fun h=>cO (.dc [8] [[],[],[1],[1,2],[1,2,3],[],[],[],(aR 8)] []) func167 h (by kernel_rfl)
 size:=fun h=>cO (aN (aN aE)) func110 h (by kernel_rfl)
 take:=fun h=>cO (aN (aO (aN (aO aE .nil)) (aO (aN (aN (aO (aN (aN (aO (.dc [8] [[],[0],[0,1],[0,1,2],[],[],[5],(aR 7),(aR 8)] []) aE))) .nil))) (aO (.dc [7,8,11] [[],[],[1],[1,2],[1,2,3],[],[5],[5,6],[1,2,3,4,5,6,7],(aR 9),(aR 10),(aR 11)] [[7,8]]) aE)))) func234 h (by kernel_rfl)
 asked:=fun h=>cO (aN (aO (aN (aO aE (aN (aO aE .nil)))) aE)) func281 h (by kernel_rfl)
 free:=fun h=>cO (aN (aO (aN (aN (aO aE .nil))) (aN (aN aE)))) func267 h (by kernel_rfl)
 aat:=fun h=>cO (aN (aO (aN (aN (aO (aN aE) .nil))) aE)) func242 h (by kernel_rfl)
 put:=fun h=>cO (aN (aO (aN (aN (aO aE .nil))) (aO (.dc [8] [[],[0],[0,1],[0,1,2],[],[],(aR 6),(aR 7),(aR 8)] []) aE))) func266 h (by kernel_rfl)
 new:=fun h=>cO (aN (aO (.dc [1,3] [[],[],[0,1],[0,1,2],(aR 4)] [[1]]) .nil)) func157 h (by kernel_rfl)
 anew:=fun h=>cO (aN aE) func241 h (by kernel_rfl)
 okOverf:=by kernel_rfl
theorem Wl:Wj Gy where
 split:=fun h=>cO (aN (aO (aN (aO aE .nil)) (aN (aN (aO (.dc [7] (aQ0 [[],[5],(aR 7),(aR 8),(aR 9),(aR 9),(aR 10),(aR 12)]) []) (aO (aN (aO (aN aE) (aN (aO (aN aE) .nil)))) (.cut [14,15] [(14,15),(86,99)] (.dt [10,14,15,16,17] (aQ0 [[],[5],[],[],[7,8],(aR 10),(aR 11),(aR 12),(aR 12),[],[],[0,1,2,3,4,5,6,7,8,9,10,11,12,14,15],(aR 17)]) [[10]] (.op 0 (.op 1 (.op 2 (.op 3 (.op 4 (.op 5 (.op 6 (.op 7 (.op 8 (.op 9 (.br (.op 10 (.op 11 (.op 12 (.op 13 (.br (.op 14 (.op 15 (.op 16 (.op 17 .nil)))) (.op 15 (.op 14 (.op 16 (.op 17 .nil))))))))) (.br (.op 14 (.br (.op 10 (.op 11 (.op 12 (.op 13 (.op 15 (.op 16 (.op 17 .nil))))))) (.op 15 (.op 10 (.op 11 (.op 12 (.op 13 (.op 16 (.op 17 .nil))))))))) (.op 15 (.br (.op 10 (.op 11 (.op 12 (.op 13 (.op 14 (.op 16 (.op 17 .nil))))))) (.op 14 (.op 10 (.op 11 (.op 12 (.op 13 (.op 16 (.op 17 .nil)))))))))))))))))))))) (aO .draw (aN (aO (.dc [6] [[],[0],[0,1],[0,1,2],[],[],(aR 6)] []) (aO (.dc [3,11,13] [[],[],[],[0,1,2],[],[],[5],[5,6],[5,6,7],[],[9],[0,1,2,3,5,6,7,8,9,10],[],(aR 13),(aR 14),(aR 15)] []) .nil))))))))))) func227 h (by kernel_rfl)
 pick:=fun h=>cO (aN (aN (aN aE))) func230 h (by kernel_rfl)
 melded:=fun h=>cO (aN (aO (aN (.node [4,14] [(4,4),(6,11),(14,58)] (aN (aO aE (aO (aN (aO (aO (.dc [6] (aQ0 [[],(aR 6),(aR 7),(aR 8),(aR 8),(aR 9),(aR 11)]) []) (aN aE)) (.cut [] [(9,11),(30,53)] (aN (aN (aO (.cut [10,11] [(10,11),(35,48)] (.dt [10,14,15] (aQ0 [[],[],[5,6],[5,6,7],[],(aR 10),(aR 11),(aR 12),(aR 12),[],[0,1,2,3,4,5,6,7,8,9,10,11,12,14],(aR 16)]) [[10]] (.op 0 (.op 1 (.op 2 (.op 3 (.op 4 (.op 5 (.op 6 (.op 7 (.op 8 (.op 9 (.br (.op 10 (.op 11 (.op 12 (.op 13 (.op 14 (.op 15 (.op 16 .nil))))))) (.op 14 (.op 10 (.op 11 (.op 12 (.op 13 (.op 15 (.op 16 .nil))))))))))))))))))) (aN (aO aE .nil))) .nil))) .nil))) .nil))) .nil)) aE)) func232 h (by kernel_rfl)
 replace:=fun h=>cO (aN (aN (aN (aN (.cut [8,12] [(8,8),(12,14),(41,55)] (aN (aO aE .nil)) (aN (.cut [11,12] [(11,12),(15,16),(59,73)] (aN (aO aE .nil)) (aO (aN (.node [8,78] [(8,8),(18,18),(78,92)] (aN (aO aE (aO (aN (.dc [8,9] [[],[],[],[2],[2,3],[2,3,4],[],[6],[2,3,4,5,6,7],(aR 9),(aR 10)] [])) .nil))) .nil)) .nil)))))))) func150 h (by kernel_rfl)
 over:=fun h=>cO (aN (.cut [] [(10,10),(20,26)] (aN (aO aE .nil)) (aN (aN (aO (.dc [7] (aQ0 [[],[5],(aR 7),(aR 8),(aR 9),(aR 9),(aR 10),(aR 12)]) []) (.cut [] [(10,10),(49,63)] (aN (aO aE .nil)) (aN (.cut [] [(10,10),(19,19),(73,108)] (aN (aO (aN (.cut [] [(78,91)] (aN (aO (.dc [7,11] (aQ0 [[],[],(aR 7),(aR 8),(aR 9),(aR 9),(aR 10)]) [[7]]) .nil)) (.cut [] [(92,104)] (aN (aO (.dc [7,11] (aQ0 [[],[],(aR 7),(aR 8),(aR 9),(aR 9),(aR 11)]) [[7]]) .nil)) (aN (aO aE .nil))))) .nil)) aE)))))))) func168 h (by kernel_rfl)
variable {v0 v1 v2 v3 v4 v5 v6 v7 v8 v9:Value}{K:Cont}{w:World}
theorem eJ(h: Ah [(0,1)] [(.pointer none)] [] fun i=>
 Bh 136 i (fun j o=>
 K j o) w):AB prog 36 [] K w:=cO (aN aE) func36 h (by kernel_rfl)
theorem cH(h: Ah [(0,1)] [(.pointer none)] [] fun i=>
 Bh 139 i (fun j o=>
 K j o) w):AB prog 37 [] K w:=cO (aN aE) func37 h (by kernel_rfl)
theorem cY(h: Ah [(0,1)] [(.pointer none)] [] fun i=>
 Bh 142 i (fun j o=>
 K j o) w):AB prog 38 [] K w:=cO (aN aE) func38 h (by kernel_rfl)
theorem fU(h: CY v0 fun i=>
 AD (.bool i)
 (K (.int .i64 0) w)
 (AB prog 89 [v0] (fun j o=>
 AB prog 90 [j] (fun B w2=>
 K B w2) o) w)):AB prog 45 [v0] K w:=cO (aN (aO (aN (aO aE .nil)) aE)) func45 h (by kernel_rfl)
theorem cu(h: Ao (fun _vs T=>∀_:Env,
 AB prog 89 [v0] (fun t25 w2=>
 BW .i64 v1 (.int .i64 1) fun o=>
 AB prog 91 [t25,o,(.func (.func 92) #[] #[])] (fun j U=>
 AQ 0 j fun B=>
 AQ 1 j fun _t30=>
 AX .i64 B (.int .i64 1) fun E=>
 K (.tuple #[E,(.int .i64 0)]) U) w2) T) (fun J=>
 CY v0 fun I=>
 AD (.bool I)
 (K (.tuple #[(.int .i64 0),(.int .i64 1)]) w)
 (Bb .i64 v1 (.int .i64 0) fun O=>
 AD O
 (K (.tuple #[(.int .i64 0),(.int .i64 5)]) w)
 (AB prog 45 [v0] (fun Q w4=>
 Eu .i64 v1 Q fun S=>
 AD S
 (K (.tuple #[(.int .i64 0),(.int .i64 5)]) w4)
 (DJ .i64 v1 (.int .i64 0) fun i=>
 AD i
 (K (.tuple #[(.int .i64 0),(.int .i64 0)]) w4)
 (J [] w4))) w)))):AB prog 46 [v0,v1] K w:=cO (aN (.cut [] [(4,5),(8,22)] (aN (aO aE (aN (aO aE (aN (aO aE .nil)))))) (aN aE))) func46 h (by kernel_rfl)
theorem dj(h: Am 80 [(.slice none 0 0)] (fun i w1=>
 AB prog 94 [v0,v1,v2] (fun B w2=>
 EB .i64 B (.int .i64 0) fun O=>
 AD O
 (BC i (.slice none 0 0) (fun w3=>
 AL i (fun r0 w4=>
 K (.tuple #[r0,B]) w4) w3) w2)
 (AB prog 89 [v0] (fun Q w5=>
 AB prog 95 [Q,v1,v2] (fun S T=>
 Iz prog Dh S 1 (fun args U w7=>
 Am 162 (zR [(.int .i64 0)]) (fun t9 w9=>
 Ac 33 t9 (nth args 0) (fun V=>
 U (fun post X=>
 Ay [2,3,4] [[],[],[1],[0,1,2],[0,1,2,3]] X.drew (fun M St=>
 BF (St 0) i fun Y=>
 EM (St 1) 33 t9 fun Z=>
 AB prog 96 [Z] (fun t25 j=>
 Mod (M 2) X.drew j/\
 runK prog (Builtin.append_ #[80,80] 80 [Y,t25].toArray) (fun a1 o=>
 Mod (M 3) j o/\
 BC i a1 (fun E=>
 Mod (M 4) o E/\
 post .normal E) o) j) X.drew)) V) w9) w7) (fw (fun a6=>
 AL i (fun a7 a8=>
 BC i a7 (fun ak=>
 Fx T.heap.size (fun al=>
 AL i (fun I av=>
 K (.tuple #[I,(.int .i64 0)]) av) al) ak) a8) a6) (fun ax=>
 Fx T.heap.size (fun ay=>
 AL i (fun J b0=>
 K (.tuple #[J,(.int .i64 0)]) b0) ay) ax) []) T) w5) w2)) w1) w):AB prog 47 [v0,v1,v2] K w:=
 G5 (P:=prog) (ok:=Dh) (n:=28) (fn:=Tryz.f47) (c:=JC Tryz.f47) (rs:=[.cell 6 80,.tmp 7]) (an:=(aN (aO (aN (aN (aO aE .nil))) (aO (aN (aN (.dc [2,3,4] [[],[],[1],[0,1,2],(aR 4)] []))) aE)))) Fc mixed func47 (by kernel_rfl) (by kernel_rfl) (by kernel_rfl) (by kernel_rfl) (Eq.mp (by kernel_rfl) h)
theorem fH(h: AB prog 97 [v0,v1,v2] (fun i I=>
 EB .i64 i (.int .i64 0) fun j=>
 AD j
 (K (.tuple #[(.slice none 0 0),i]) I)
 (AB prog 99 [v0] (fun o w2=>
 AB prog 100 [o,v1,v2] (fun B J=>
 AB prog 98 [B] (fun E w4=>
 K (.tuple #[E,(.int .i64 0)]) w4) J) w2) I)) w):AB prog 48 [v0,v1,v2] K w:=cO (aN (aO (aN (aN (aO aE .nil))) aE)) func48 h (by kernel_rfl)
theorem cI(h: AB prog 101 [v0,v1,v2] (fun i I=>
 EB .i64 i (.int .i64 0) fun j=>
 AD j
 (K (.tuple #[(.slice none 0 0),i]) I)
 (AB prog 104 [v0] (fun o w2=>
 AB prog 105 [o,v1,v2] (fun B J=>
 AB prog 103 [B] (fun E w4=>
 AB prog 102 [E] (fun t22 O=>
 K (.tuple #[t22,(.int .i64 0)]) O) w4) J) w2) I)) w):AB prog 49 [v0,v1,v2] K w:=cO (aN (aO (aN (aN (aO aE .nil))) aE)) func49 h (by kernel_rfl)
theorem U5(h: AB prog 94 [v0,v1,v1] (fun i E=>
 EB .i64 i (.int .i64 0) fun j=>
 AD j
 (K (.tuple #[(.int .i64 0),i]) E)
 (AB prog 89 [v0] (fun o w2=>
 AB prog 108 [o,v1,(.func (.func 109) #[] #[])] (fun B I=>
 K (.tuple #[B,(.int .i64 0)]) I) w2) E)) w):AB prog 53 [v0,v1] K w:=cO (aN (aO (aN (aN (aO aE .nil))) aE)) func53 h (by kernel_rfl)
theorem dB(h: CY v0 fun i=>
 AD (.bool i)
 (K (.int .i64 0) w)
 (AB prog 89 [v0] (fun j o=>
 AB prog 110 [j] (fun B w2=>
 K B w2) o) w)):AB prog 54 [v0] K w:=cO (aN (aO (aN (aO aE .nil)) aE)) func54 h (by kernel_rfl)
theorem cq(h: AB prog 111 [v0] (fun j o=>
 AB prog 48 [v0,(.int .i64 0),j] (fun t9 w2=>
 AQ 0 t9 fun i=>
 AQ 1 t9 fun _t11=>
 Am 101 [(.slice none 0 0)] (fun t3 B=>
 BC t3 i (fun w4=>
 K (.func (.func 112) #[] #[t3]) w4) B) w2) o) w):AB prog 55 [v0] K w:=cO (aN (aN aE)) func55 h (by kernel_rfl)
theorem ff(h: CY v0 fun i=>
 AD (.bool i)
 (K (.int .i64 0) w)
 (AB prog 104 [v0] (fun j o=>
 AB prog 114 [j] (fun B w2=>
 K B w2) o) w)):AB prog 57 [v0] K w:=cO (aN (aO (aN (aO aE .nil)) aE)) func57 h (by kernel_rfl)
theorem Up(h: AB prog 101 [v0,v1,v1] (fun i O=>
 EB .i64 i (.int .i64 0) fun j=>
 AD j
 (K i O)
 (Ae v2 fun o=>
 AB prog 57 [v0] (fun B w2=>
 BW .i64 (.int .i64 536870912) B fun E=>
 Eu .i64 o E fun I=>
 AD I
 (K (.int .i64 8) w2)
 (AB prog 104 [v0] (fun t22 Q=>
 AB prog 102 [v2] (fun J w4=>
 AB prog 147 [t22,v1,v1,J] (fun _t27 S=>
 K (.int .i64 0) S) w4) Q) w2)) O)) w):AB prog 76 [v0,v1,v2] K w:=cO (aN (aO (aN (aN (aO aE .nil))) (aO (aN (aO aE .nil)) (aN aE)))) func76 h (by kernel_rfl)
theorem fo(h: Am 25 [(.int .i64 0)] (fun i w1=>
 CY v0 fun X=>
 AD (.bool X)
 (BC i (.int .i64 1) (fun w2=>
 AL i (fun r0 w3=>
 K r0 w3) w2) w1)
 (Am 218 [(.slice none 0 0)] (fun Y w4=>
 AB prog 148 [v2,(.int .i64 32)] (fun Z B=>
 Iz prog Dh Z 1 (fun args a1 w6=>
 a1 (fun post w7=>
 AB prog 149 [(nth args 0)] (fun E w8=>
 AQ 0 E fun a6=>
 AQ 1 E fun a7=>
 Am 162 (zR [(.int .i64 0)]) (fun t9 w9=>
 Ac 33 t9 a6 (fun I=>
 EB .i64 a7 (.int .i64 0) fun a8=>
 AD a8
 (BC i (.int .i64 3) (fun ak=>
 post .ret ak) I)
 (AL Y (fun al av=>
 Af 33 t9 (fun t25 ax=>
 Bg 162 33 1 (zR [(.int .i64 0)]) [(0,t25)] (fun ay b0=>
 runK prog (Builtin.append_ #[218,218] 218 [al,ay].toArray) (fun b3 b4=>
 BC Y b3 (fun b5=>
 post .normal b5) b4) b0) ax) av) I)) w9) w8) w7) w6) (fw (fun b6=>
 AB prog 94 [v0,v1,v1] (fun J O=>
 EB .i64 J (.int .i64 0) fun b7=>
 AD b7
 (BC i J (fun b8=>
 Fx B.heap.size (fun b9=>
 AL i (fun Q ba=>
 K Q ba) b9) b8) O)
 (Ae v2 fun bb=>
 AB prog 54 [v0] (fun bc j=>
 BW .i64 (.int .i64 536870912) bc fun t39=>
 Eu .i64 bb t39 fun bd=>
 AD bd
 (BC i (.int .i64 8) (fun bk=>
 Fx B.heap.size (fun bl=>
 AL i (fun S bn=>
 K S bn) bl) bk) j)
 (Ay [1,5] [[],[0],[],[],[],[0,1,2,3,4]] j.drew (fun M St=>
 AB prog 89 [v0] (fun bp o=>
 Mod (M 1) j.drew o/\
 BF (St 4) Y fun t45=>
 AB prog 150 [bp,v1,v1,t45] (fun _t46 T=>
 Mod (M 5) o T/\
 BC i (.int .i64 0) (fun bs=>
 Fx B.heap.size (fun bx=>
 AL i (fun U c4=>
 K U c4) bx) bs) T) o) j.drew))) O)) b6) (fun c6=>
 Fx B.heap.size (fun c7=>
 AL i (fun V c8=>
 K V c8) c7) c6) []) B) w4) w1)) w):AB prog 77 [v0,v1,v2] K w:=
 G5 (P:=prog) (ok:=Dh) (n:=47) (fn:=Tryz.f77) (c:=JC Tryz.f77) (rs:=[.cell 6 25]) (an:=(aN (aO (aN (aO aE .nil)) (aN (aO (aN (aN (aN (aO (aN (aO aE .nil)) .nil)))) (aO (aN (aN (aO aE .nil))) (aO (aN (aO aE .nil)) (aO (.dc [1,5] [[],[0],[],[],[],(aR 5)] []) aE)))))))) Fc mixed func77 (by kernel_rfl) (by kernel_rfl) (by kernel_rfl) (by kernel_rfl) (Eq.mp (by kernel_rfl) h)
theorem dV(h: AB prog 49 [v0,v1,v2] (fun o V=>
 AQ 0 o fun i=>
 AQ 1 o fun B=>
 EB .i64 B (.int .i64 0) fun E=>
 AD E
 (K B V)
 (Ae i fun I=>
 Aq [(.int .i64 0)] (fun vs j w2=>∀_:Env,
 Bb .i64 (nth vs 0) I fun t25=>
 AD t25
 (BQ 1 i (nth vs 0) fun J=>
 AL J (fun O X=>
 AB prog 156 [O,v3] (fun Q w4=>
 BQ 1 i (nth vs 0) fun S=>
 BC S Q (fun Y=>
 AX .i64 (nth vs 0) (.int .i64 1) fun T=>
 j [T] Y) w4) X) w2)
 (AB prog 104 [v0] (fun U Z=>
 AB prog 147 [U,v1,v2,i] (fun _t42 w7=>
 K (.int .i64 0) w7) Z) w2)) V)) w):AB prog 85 [v0,v1,v2,v3] K w:=cO (aN (aN (aO (aN (aO aE .nil)) (aO (aN (.node [24] [(11,11),(24,36)] (aN (aO aE (aO aE .nil))) .nil)) (aN aE))))) func85 h (by kernel_rfl)
theorem dD(h: AB prog 101 [v0,v1,v2] (fun i B=>
 EB .i64 i (.int .i64 0) fun j=>
 AD j
 (K i B)
 (AB prog 104 [v0] (fun o w2=>
 AB prog 147 [o,v1,v2,(.slice none 0 0)] (fun _t19 E=>
 K (.int .i64 0) E) w2) B)) w):AB prog 87 [v0,v1,v2] K w:=cO (aN (aO (aN (aN (aO aE .nil))) (aN aE))) func87 h (by kernel_rfl)
theorem fe(h: AB prog 94 [v0,v1,v2] (fun i B=>
 EB .i64 i (.int .i64 0) fun j=>
 AD j
 (K i B)
 (AB prog 89 [v0] (fun o w2=>
 AB prog 150 [o,v1,v2,(.slice none 0 0)] (fun _t19 E=>
 K (.int .i64 0) E) w2) B)) w):AB prog 88 [v0,v1,v2] K w:=cO (aN (aO (aN (aN (aO aE .nil))) (aN aE))) func88 h (by kernel_rfl)
theorem dP(h: Ao (fun _vs Q=>∀_:Env,
 AJ v0 fun i=>
 AM 0 i fun j=>
 AL j (fun o w2=>
 K o w2) Q) (fun J=>
 AJ v0 fun t4=>
 AM 0 t4 fun t5=>
 AL t5 (fun S O=>
 CY S fun T=>
 AD (.bool T)
 (Ah [(0,1),(1,1),(2,1)] [.nilFunc,.nilFunc,.nilFunc] [(0,(.func (.func 158) #[] #[])),(1,(.func (.func 161) #[] #[])),(2,(.func (.func 163) #[] #[]))] fun t9=>
 AB prog 157 [t9] (fun B w4=>
 AJ v0 fun E=>
 AM 0 E fun I=>
 BC I B (fun U=>
 J [] U) w4) O)
 (J [] O)) w)):AB prog 89 [v0] K w:=cO (aN (.cut [] [(3,12)] (aN aE) aE)) func89 h (by kernel_rfl)
theorem fP(h: Bh 162 v0 (fun o B=>
 Af 33 o (fun E w2=>
 AB prog 93 [E,v1] (fun i I=>
 AQ 0 i fun j=>
 AQ 1 i fun _t12=>
 K j I) w2) B) w):AB prog 92 [v0,v1] K w:=cO (aN (aN aE)) func92 h (by kernel_rfl)
theorem cP(h: Bh 162 v0 (fun T V=>
 AM 32 T fun X=>
 AL X (fun Y w2=>
 Aq [v1,(.int .i64 0)] (fun vs i U=>∀_:Env,
 Bb .i64 (nth vs 1) Y fun o=>
 AD o
 (AM 0 T fun B=>
 runK prog (Instr.indexAt 160 B (nth vs 1)) (fun E w4=>
 AL E (fun I J=>
 EB .i32 I (.int .i32 10) fun O=>
 AD O
 (AX .i64 (nth vs 1) (.int .i64 1) fun t22=>
 i [(nth vs 0),t22] J)
 (DJ .i64 (nth vs 0) (.int .i64 0) fun Q=>
 AD Q
 (K (.tuple #[(nth vs 1),(.bool true)]) J)
 (BW .i64 (nth vs 0) (.int .i64 1) fun S=>
 AX .i64 (nth vs 1) (.int .i64 1) fun j=>
 i [S,j] J))) w4) U)
 (K (.tuple #[(.int .i64 0),(.bool false)]) U)) w2) V) w):AB prog 93 [v0,v1] K w:=cO (aN (aO (aN (.node [1,9] [(1,1),(4,6),(9,22)] (aN (aO aE (aO (aN (aO (aN aE) (aO (aN (aO aE .nil)) .nil))) .nil))) .nil)) aE)) func93 h (by kernel_rfl)
theorem eF(h: CY v0 fun E=>
 AD (.bool E)
 (K (.int .i64 1) w)
 (Bb .i64 v1 (.int .i64 0) fun i=>
 AD i
 (K (.int .i64 5) w)
 (Eu .i64 v1 v2 fun j=>
 AD j
 (K (.int .i64 5) w)
 (AB prog 54 [v0] (fun o B=>
 Eu .i64 v2 o fun t22=>
 AD t22
 (K (.int .i64 5) B)
 (K (.int .i64 0) B)) w)))):AB prog 94 [v0,v1,v2] K w:=cO (aN (aO (aN (aO aE (aN (aO aE .nil)))) aE)) func94 h (by kernel_rfl)
theorem fV(h: Bh 162 v0 (fun i j=>
 AM 0 i fun t3=>
 AM 32 i fun t4=>
 AL t4 (fun t5 w2=>
 runK prog (Instr.sliceAt 160 t3 none (some t5) none) (fun o B=>
 AB prog 119 [o] (fun E w4=>
 K E w4) B) w2) j) w):AB prog 96 [v0] K w:=cO (aN aE) func96 h (by kernel_rfl)
theorem eU(h: CY v0 fun E=>
 AD (.bool E)
 (K (.int .i64 1) w)
 (Bb .i64 v1 (.int .i64 0) fun i=>
 AD i
 (K (.int .i64 5) w)
 (Eu .i64 v1 v2 fun j=>
 AD j
 (K (.int .i64 5) w)
 (AB prog 111 [v0] (fun o B=>
 Eu .i64 v2 o fun t22=>
 AD t22
 (K (.int .i64 5) B)
 (K (.int .i64 0) B)) w)))):AB prog 97 [v0,v1,v2] K w:=cO (aN (aO (aN (aO aE (aN (aO aE .nil)))) aE)) func97 h (by kernel_rfl)
theorem dM(h: Ao (fun _vs Q=>∀_:Env,
 AJ v0 fun i=>
 AM 0 i fun j=>
 AL j (fun o w2=>
 K o w2) Q) (fun J=>
 AJ v0 fun t4=>
 AM 0 t4 fun t5=>
 AL t5 (fun S O=>
 CY S fun T=>
 AD (.bool T)
 (Ah [(0,1),(1,1),(2,1)] [.nilFunc,.nilFunc,.nilFunc] [(0,(.func (.func 171) #[] #[])),(1,(.func (.func 172) #[] #[])),(2,(.func (.func 173) #[] #[]))] fun t9=>
 AB prog 170 [t9] (fun B w4=>
 AJ v0 fun E=>
 AM 0 E fun I=>
 BC I B (fun U=>
 J [] U) w4) O)
 (J [] O)) w)):AB prog 99 [v0] K w:=cO (aN (.cut [] [(3,12)] (aN aE) aE)) func99 h (by kernel_rfl)
theorem Y0(h: CY v0 fun E=>
 AD (.bool E)
 (K (.int .i64 1) w)
 (Bb .i64 v1 (.int .i64 0) fun i=>
 AD i
 (K (.int .i64 5) w)
 (Eu .i64 v1 v2 fun j=>
 AD j
 (K (.int .i64 5) w)
 (AB prog 57 [v0] (fun o B=>
 Eu .i64 v2 o fun t22=>
 AD t22
 (K (.int .i64 5) B)
 (K (.int .i64 0) B)) w)))):AB prog 101 [v0,v1,v2] K w:=cO (aN (aO (aN (aO aE (aN (aO aE .nil)))) aE)) func101 h (by kernel_rfl)
theorem ZL(h: AB prog 176 [v0] (fun j Q=>
 Ae j fun S=>
 Aq [(.int .i64 0)] (fun vs i w2=>∀_:Env,
 Bb .i64 (nth vs 0) S fun o=>
 AD o
 (BQ 1 j (nth vs 0) fun B=>
 AL B (fun E T=>
 AB prog 52 [E] (fun I w4=>
 BQ 1 j (nth vs 0) fun J=>
 BC J I (fun U=>
 AX .i64 (nth vs 0) (.int .i64 1) fun O=>
 i [O] U) w4) T) w2)
 (K j w2)) Q) w):AB prog 102 [v0] K w:=cO (aN (aN (aO (aN (.node [9] [(4,4),(9,20)] (aN (aO aE (aO aE .nil))) .nil)) aE))) func102 h (by kernel_rfl)
theorem YZ(h: Ao (fun _vs Q=>∀_:Env,
 AJ v0 fun i=>
 AM 0 i fun j=>
 AL j (fun o w2=>
 K o w2) Q) (fun J=>
 AJ v0 fun t4=>
 AM 0 t4 fun t5=>
 AL t5 (fun S O=>
 CY S fun T=>
 AD (.bool T)
 (Ah [(0,1),(1,1),(2,1)] [.nilFunc,.nilFunc,.nilFunc] [(0,(.func (.func 179) #[] #[])),(1,(.func (.func 180) #[] #[])),(2,(.func (.func 181) #[] #[]))] fun t9=>
 AB prog 178 [t9] (fun B w4=>
 AJ v0 fun E=>
 AM 0 E fun I=>
 BC I B (fun U=>
 J [] U) w4) O)
 (J [] O)) w)):AB prog 104 [v0] K w:=cO (aN (.cut [] [(3,12)] (aN aE) aE)) func104 h (by kernel_rfl)
theorem Y7(h: Bh 162 v0 (fun T X=>
 KM .i64 v1 (.int .i64 0) fun Y=>
 AM 32 T fun Z=>
 AL Z (fun t9 w2=>
 K3 .i64 Y t9 fun o=>
 Aq [(.int .i64 0),(.int .i64 0)] (fun vs i U=>∀_:Env,
 Bb .i64 (nth vs 1) o fun B=>
 AD B
 (AM 0 T fun E=>
 runK prog (Instr.indexAt 160 E (nth vs 1)) (fun I w4=>
 AL I (fun J V=>
 DJ .i32 J (.int .i32 10) fun O=>
 AD O
 (AX .i64 (nth vs 0) (.int .i64 1) fun Q=>
 AX .i64 (nth vs 1) (.int .i64 1) fun S=>
 i [Q,S] V)
 (AX .i64 (nth vs 1) (.int .i64 1) fun j=>
 i [(nth vs 0),j] V)) w4) U)
 (K (nth vs 0) U)) w2) X) w):AB prog 109 [v0,v1] K w:=cO (aN (aO (aN (.node [4,11] [(4,5),(11,21)] (aN (aO aE (aO (aN (aN aE)) .nil))) .nil)) aE)) func109 h (by kernel_rfl)
theorem Yn(h: CY v0 fun i=>
 AD (.bool i)
 (K (.int .i64 0) w)
 (AB prog 99 [v0] (fun j o=>
 AB prog 184 [j] (fun B w2=>
 K B w2) o) w)):AB prog 111 [v0] K w:=cO (aN (aO (aN (aO aE .nil)) aE)) func111 h (by kernel_rfl)
theorem YV(h: AL v1 (fun t5 O=>
 Ae t5 fun Q=>
 Aq [(.int .i64 0)] (fun vs i w2=>∀_:Env,
 Bb .i64 (nth vs 0) Q fun S=>
 AD S
 (BQ 2 t5 (nth vs 0) fun t9=>
 Af 2 t9 (fun j T=>
 Am 108 [(.int .i64 0),(.int .i64 0)] (fun t4 w4=>
 Ac 2 t4 j (fun U=>
 Af 2 t4 (fun o V=>
 Ci prog Dh v0 [o] (fun B J=>
 CE B fun E=>
 AD E
 (K (.tuple #[]) J)
 (AX .i64 (nth vs 0) (.int .i64 1) fun I=>
 i [I] J)) V) U) w4) T) w2)
 (K (.tuple #[]) w2)) O) w):AB prog 112 [v0,v1] K w:=cO (aN (.node [7] [(4,4),(7,15)] (aN (aO aE (aO (aN (aN aE)) .nil))) .nil)) func112 h (by kernel_rfl)
theorem Y9(h: Am 162 (zR [(.int .i64 0)]) (fun i Z=>
 AB prog 224 [v0,(.func (.func 225) #[] #[])] (fun t7 w2=>
 AD t7
 (Ah [(0,32),(32,1)] (zR [(.int .i64 0)]) [] fun t8=>
 Ac 33 i t8 (fun w3=>
 Af 33 i (fun r0 w4=>
 K (.tuple #[r0,(.int .i64 3)]) w4) w3) w2)
 (Ae v0 fun B=>
 Eu .i64 B (.int .i64 32) fun E=>
 AD E
 (Ah [(0,32),(32,1)] (zR [(.int .i64 0)]) [] fun I=>
 Ac 33 i I (fun w5=>
 Af 33 i (fun j w6=>
 K (.tuple #[j,(.int .i64 8)]) w6) w5) w2)
 (Am 162 (zR [(.int .i64 0)]) (fun t4 w7=>
 AM 0 t4 fun J=>
 runK prog (Instr.sliceAt 160 J none none none) (fun O w8=>
 runK prog (Builtin.copy_ #[80,80] 3 [O,v0].toArray) (fun Q w9=>
 AM 32 t4 fun S=>
 BC S Q (fun T=>
 Af 33 t4 (fun U V=>
 Ac 33 i U (fun X=>
 Af 33 i (fun o Y=>
 K (.tuple #[o,(.int .i64 0)]) Y) X) V) T) w9) w8) w7) w2))) Z) w):AB prog 149 [v0] K w:=cO (aN (aO (aN (aO aE (aN (aO aE .nil)))) (aN (aN aE)))) func149 h (by kernel_rfl)
theorem Yq(h: CY v0 fun B=>
 AD (.bool B)
 (K (.int .i64 1) w)
 (AB prog 236 [v3,(.func (.func 237) #[] #[])] (fun E w1=>
 AD E
 (K (.int .i64 3) w1)
 (AB prog 97 [v0,v1,v2] (fun o w2=>
 EB .i64 o (.int .i64 0) fun t22=>
 AD t22
 (K o w2)
 (AB prog 111 [v0] (fun t25 w3=>
 BW .i64 (.int .i64 536870912) t25 fun I=>
 AX .i64 I v2 fun J=>
 BW .i64 J v1 fun O=>
 Ae v3 fun Q=>
 Aq [O,(.int .i64 0)] (fun vs i w4=>∀_:Env,
 Bb .i64 (nth vs 1) Q fun S=>
 AD S
 (BQ 2 v3 (nth vs 1) fun T=>
 Af 2 T (fun U w5=>
 Am 108 [(.int .i64 0),(.int .i64 0)] (fun j w6=>
 Ac 2 j U (fun w7=>
 AM 0 j fun V=>
 AL V (fun X w8=>
 Eu .i64 X (nth vs 0) fun Y=>
 AD Y
 (K (.int .i64 8) w8)
 (AM 0 j fun Z=>
 AL Z (fun a1 w9=>
 BW .i64 (nth vs 0) a1 fun a6=>
 AX .i64 (nth vs 1) (.int .i64 1) fun t45=>
 i [a6,t45] w9) w8)) w7) w6) w5) w4)
 (AB prog 99 [v0] (fun a7 a8=>
 AB prog 238 [a7,v1,v2,v3] (fun _t51 ak=>
 K (.int .i64 0) ak) a8) w4)) w3) w2)) w1)) w)):AB prog 151 [v0,v1,v2,v3] K w:=cO (aN (aO (aN (aO aE .nil)) (aO (aN (aO aE .nil)) (aO (aN (aN (aO aE .nil))) (aN (aO (aN (.node [10,33] [(8,8),(10,10),(12,12),(33,45)] (aN (aO aE (aO (aN (aO (aN (aO aE .nil)) .nil)) .nil))) .nil)) (aN aE))))))) func151 h (by kernel_rfl)
theorem aU(h: Bh 162 v0 (fun j i=>
 Ay [1,3] [[],[0],[],[0,1,2],[0,1,2,3],[0,1,2,3,4]] i.drew (fun M o=>
 EM (o 0) 33 j fun t4=>
 AB prog 159 [t4] (fun t5 w2=>
 Mod (M 1) i.drew w2/\
 EM (o 2) 33 j fun E=>
 AB prog 160 [E] (fun I B=>
 Mod (M 3) w2 B/\
 K (.tuple #[t5,I]) B) w2) i.drew)) w):AB prog 158 [v0] K w:=cO (aN (aO (.dc [1,3] [[],[0],[],[0,1,2],(aR 4),(aR 5)] []) .nil)) func158 h (by kernel_rfl)
theorem YI(h: Bh 162 v0 (fun i j=>
 AM 32 i fun t3=>
 AL t3 (fun t4 w2=>
 K t4 w2) j) w):AB prog 159 [v0] K w:=cO (aN aE) func159 h (by kernel_rfl)
theorem Yt(h: Bh 162 v0 (fun i j=>
 Af 33 i (fun t3 w2=>
 AM 32 i fun t4=>
 AL t4 (fun t5 o=>
 AB prog 109 [t3,t5] (fun B w4=>
 K B w4) o) w2) j) w):AB prog 160 [v0] K w:=cO (aN aE) func160 h (by kernel_rfl)
theorem YT(h: Bh 162 v0 (fun Y Z=>
 Am 162 (zR [(.int .i64 0)]) (fun t4 w2=>
 Am 162 (zR [(.int .i64 0)]) (fun t5 w3=>
 Af 33 Y (fun B w4=>
 AB prog 162 [B,v1] (fun i w5=>
 AQ 0 i fun E=>
 AQ 1 i fun I=>
 AQ 2 i fun _t15=>
 Am 162 (zR [(.int .i64 0)]) (fun U w6=>
 Am 162 (zR [(.int .i64 0)]) (fun V w7=>
 Ac 33 U E (fun w8=>
 Ac 33 V I (fun J=>
 Ay [2,3] [[],[],[0],[0,1,2]] J.drew (fun M X=>
 EM (X 0) 33 U fun O=>
 EM (X 1) 33 V fun Q=>
 Ac 33 t4 O (fun j=>
 Mod (M 2) J.drew j/\
 Ac 33 t5 Q (fun o=>
 Mod (M 3) j o/\
 Af 33 t4 (fun r0 S=>
 Af 33 t5 (fun r1 T=>
 K (.tuple #[r0,r1]) T) S) o) j) J.drew)) w8) w7) w6) w5) w4) w3) w2) Z) w):AB prog 161 [v0,v1] K w:=cO (aN (aN (aO (.dc [2,3] [[],[],[0],[0,1,2]] []) .nil))) func161 h (by kernel_rfl)
theorem aq(h: Bh 162 v0 (fun t2 w1=>
 Am 162 (zR [(.int .i64 0)]) (fun t4 w2=>
 Am 162 (zR [(.int .i64 0)]) (fun t5 w3=>
 Ao (fun _vs w4=>∀_:Env,
 Ao (fun _vs_1 w5=>∀_:Env,
 Ao (fun _vs_2 w6=>∀_:Env,
 Af 33 t4 (fun bn w7=>
 Af 33 t5 (fun bp w8=>
 Ac 33 t4 bn (fun w9=>
 Ac 33 t5 bp (fun bs=>
 Af 33 t4 (fun r0 bx=>
 Af 33 t5 (fun r1 c4=>
 K (.tuple #[r0,r1,(.int .i64 0)]) c4) bx) bs) w9) w8) w7) w6) (fun ax=>
 Ay [1,6,7,9] [[],[0],[],[],[],[4],[2,3,4,5],[0,1,2,3,4,5,6],[0,1,2,3,4,5,6,7],[0,1,2,3,4,5,6,7,8]] w5.drew (fun M St=>
 AM 0 t5 fun ay=>
 AM 0 t2 fun b0=>
 AM 32 t2 fun c6=>
 BF (St 5) c6 fun b3=>
 (runK prog (Instr.sliceAt 160 ay none none none) (fun t25 j=>
 Mod (M 1) w5.drew j/\
 runK prog (Instr.sliceAt 160 b0 (some v1) (some b3) none) (fun c7 o=>
 Mod (M 6) j o/\
 runK prog (Builtin.copy_ #[80,80] 3 [t25,c7].toArray) (fun c8 B=>
 Mod (M 7) o B/\
 AM 32 t5 fun c9=>
 BC c9 c8 (fun b4=>
 Mod (M 9) B b4/\
 ax [] b4) B) o) j) w5.drew)/\
 (runK prog (Instr.sliceAt 160 b0 (some v1) (some b3) none) (fun E I=>
 Mod (M 6) w5.drew I/\
 runK prog (Instr.sliceAt 160 ay none none none) (fun O Q=>
 Mod (M 1) I Q/\
 runK prog (Builtin.copy_ #[80,80] 3 [O,E].toArray) (fun S T=>
 Mod (M 7) Q T/\
 AM 32 t5 fun U=>
 BC U S (fun b5=>
 Mod (M 9) T b5/\
 ax [] b5) T) Q) I) w5.drew)))) (fun b6=>
 Ay [1,4,5,7] [[],[0],[],[],[2,3],[0,1,2,3,4],[0,1,2,3,4,5],[0,1,2,3,4,5,6]] w4.drew (fun i _St_1=>
 AM 0 t4 fun b7=>
 AM 0 t2 fun b8=>
 (runK prog (Instr.sliceAt 160 b7 none none none) (fun ca V=>
 Mod (i 1) w4.drew V/\
 runK prog (Instr.sliceAt 160 b8 none (some v1) none) (fun cc X=>
 Mod (i 4) V X/\
 runK prog (Builtin.copy_ #[80,80] 3 [ca,cc].toArray) (fun t22 Y=>
 Mod (i 5) X Y/\
 AM 32 t4 fun cd=>
 BC cd t22 (fun b9=>
 Mod (i 7) Y b9/\
 b6 [] b9) Y) X) V) w4.drew)/\
 (runK prog (Instr.sliceAt 160 b8 none (some v1) none) (fun Z a1=>
 Mod (i 4) w4.drew a1/\
 runK prog (Instr.sliceAt 160 b7 none none none) (fun a6 a7=>
 Mod (i 1) a1 a7/\
 runK prog (Builtin.copy_ #[80,80] 3 [a6,Z].toArray) (fun a8 ak=>
 Mod (i 5) a7 ak/\
 AM 32 t4 fun al=>
 BC al a8 (fun ba=>
 Mod (i 7) ak ba/\
 b6 [] ba) ak) a7) a1) w4.drew)))) (fun J=>
 Bb .i64 v1 (.int .i64 0) fun t8=>
 AD t8
 (Af 33 t4 (fun ch cn=>
 Af 33 t5 (fun cv cx=>
 Ac 33 t4 ch (fun dk=>
 Ac 33 t5 cv (fun dv=>
 Af 33 t4 (fun bb dT=>
 Af 33 t5 (fun bc e1=>
 K (.tuple #[bb,bc,(.int .i64 5)]) e1) dT) dv) dk) cx) cn) w3)
 (AM 32 t2 fun e2=>
 AL e2 (fun e3 bd=>
 Eu .i64 v1 e3 fun e4=>
 AD e4
 (Af 33 t4 (fun an e5=>
 Af 33 t5 (fun av e6=>
 Ac 33 t4 an (fun e7=>
 Ac 33 t5 av (fun e8=>
 Af 33 t4 (fun bk e9=>
 Af 33 t5 (fun bl ea=>
 K (.tuple #[bk,bl,(.int .i64 5)]) ea) e9) e8) e7) e6) e5) bd)
 (J [] bd)) w3))) w2) w1) w):AB prog 162 [v0,v1] K w:=cO (aN (.cut [] [(6,16)] (aN (aO aE .nil)) (.cut [] [(17,23)] (.dt [1,4,5,7] [[],[0],[],[],[2,3],(aR 5),(aR 6),(aR 7)] [[1,4,5]] (.op 0 (.op 2 (.op 3 (.br (.op 1 (.op 4 (.op 5 (.op 6 (.op 7 .nil))))) (.op 4 (.op 1 (.op 5 (.op 6 (.op 7 .nil)))))))))) (.cut [] [(24,32)] (.dt [1,6,7,9] [[],[0],[],[],[],[4],[2,3,4,5],(aR 7),(aR 8),(aR 9)] [[1,6,7]] (.op 0 (.op 2 (.op 3 (.op 4 (.op 5 (.br (.op 1 (.op 6 (.op 7 (.op 8 (.op 9 .nil))))) (.op 6 (.op 1 (.op 7 (.op 8 (.op 9 .nil)))))))))))) aE)))) func162 h (by kernel_rfl)
theorem ai(h: Bh 162 v0 (fun S T=>
 Bh 162 v1 (fun t3 w2=>
 Am 162 (zR [(.int .i64 0)]) (fun t4 U=>
 Af 33 S (fun t9 w4=>
 Af 33 t3 (fun j V=>
 AB prog 164 [t9,j] (fun i X=>
 AQ 0 i fun o=>
 AQ 1 i fun B=>
 Am 162 (zR [(.int .i64 0)]) (fun Q Y=>
 Ac 33 Q o (fun Z=>
 Af 33 Q (fun E w9=>
 DJ .i64 B (.int .i64 0) fun I=>
 Ac 33 t4 E (fun J=>
 Af 33 t4 (fun r0 O=>
 K (.tuple #[r0,I]) O) J) w9) Z) Y) X) V) w4) U) w2) T) w):AB prog 163 [v0,v1] K w:=cO (aN (aN aE)) func163 h (by kernel_rfl)
theorem YX(h: Bh 162 v0 (fun j w1=>
 Bh 162 v1 (fun t3 w2=>
 Am 162 (zR [(.int .i64 0)]) (fun t4 w3=>
 AM 32 j fun t6=>
 AL t6 (fun t7 w4=>
 AM 32 t3 fun t8=>
 AL t8 (fun t9 w5=>
 AX .i64 t7 t9 fun et=>
 Eu .i64 et (.int .i64 32) fun eu=>
 AD eu
 (Ah [(0,32),(32,1)] (zR [(.int .i64 0)]) [] fun ew=>
 Ac 33 t4 ew (fun w6=>
 Af 33 t4 (fun r0 w7=>
 K (.tuple #[r0,(.int .i64 8)]) w7) w6) w5)
 (Ao (fun _vs w8=>∀_:Env,
 Ao (fun _vs_1 w9=>∀_:Env,
 Af 33 j (fun eA eB=>
 Ac 33 t4 eA (fun eC=>
 Af 33 t4 (fun e9 eI=>
 K (.tuple #[e9,(.int .i64 0)]) eI) eC) eB) w9) (fun i=>
 Ay [1,5,9,10,13] [[],[0],[],[],[3],[2,3,4],[],[],[7],[6,7,8],[2,3,4,5,6,7,8,9],[0,1,2,3,4,5,6,7,8,9,10],[0,1,2,3,4,5,6,7,8,9,10,11],[0,1,2,3,4,5,6,7,8,9,10,11,12]] w8.drew (fun M St=>
 AM 32 j fun o=>
 AM 0 j fun t25=>
 AM 32 j fun eL=>
 BF (St 4) eL fun I=>
 AM 0 t3 fun O=>
 AM 32 t3 fun eN=>
 BF (St 8) eN fun Q=>
 (AL o (fun ea S=>
 Mod (M 1) w8.drew S/\
 (runK prog (Instr.sliceAt 160 t25 (some I) none none) (fun eR a1=>
 Mod (M 5) S a1/\
 runK prog (Instr.sliceAt 160 O none (some Q) none) (fun eX a6=>
 Mod (M 9) a1 a6/\
 runK prog (Builtin.copy_ #[80,80] 3 [eR,eX].toArray) (fun fa a7=>
 Mod (M 10) a6 a7/\
 AX .i64 ea fa fun fs=>
 AM 32 j fun fv=>
 BC fv fs (fun ec=>
 Mod (M 13) a7 ec/\
 i [] ec) a7) a6) a1) S)/\
 (runK prog (Instr.sliceAt 160 O none (some Q) none) (fun a8 ak=>
 Mod (M 9) S ak/\
 runK prog (Instr.sliceAt 160 t25 (some I) none none) (fun al an=>
 Mod (M 5) ak an/\
 runK prog (Builtin.copy_ #[80,80] 3 [al,a8].toArray) (fun av ax=>
 Mod (M 10) an ax/\
 AX .i64 ea av fun ay=>
 AM 32 j fun b0=>
 BC b0 ay (fun ed=>
 Mod (M 13) ax ed/\
 i [] ed) ax) an) ak) S)) w8.drew)/\
 ((runK prog (Instr.sliceAt 160 t25 (some I) none none) (fun B T=>
 Mod (M 5) w8.drew T/\
 (AL o (fun b3 b4=>
 Mod (M 1) T b4/\
 runK prog (Instr.sliceAt 160 O none (some Q) none) (fun b5 b6=>
 Mod (M 9) b4 b6/\
 runK prog (Builtin.copy_ #[80,80] 3 [B,b5].toArray) (fun b7 b8=>
 Mod (M 10) b6 b8/\
 AX .i64 b3 b7 fun b9=>
 AM 32 j fun ba=>
 BC ba b9 (fun ee=>
 Mod (M 13) b8 ee/\
 i [] ee) b8) b6) b4) T)/\
 (runK prog (Instr.sliceAt 160 O none (some Q) none) (fun U V=>
 Mod (M 9) T V/\
 (AL o (fun bb bc=>
 Mod (M 1) V bc/\
 runK prog (Builtin.copy_ #[80,80] 3 [B,U].toArray) (fun bd bk=>
 Mod (M 10) bc bk/\
 AX .i64 bb bd fun bl=>
 AM 32 j fun bn=>
 BC bn bl (fun ef=>
 Mod (M 13) bk ef/\
 i [] ef) bk) bc) V)/\
 (runK prog (Builtin.copy_ #[80,80] 3 [B,U].toArray) (fun bp bs=>
 Mod (M 10) V bs/\
 AL o (fun bx c4=>
 Mod (M 1) bs c4/\
 AX .i64 bx bp fun c6=>
 AM 32 j fun c7=>
 BC c7 c6 (fun eh=>
 Mod (M 13) c4 eh/\
 i [] eh) c4) bs) V)) T)) w8.drew)/\
 (runK prog (Instr.sliceAt 160 O none (some Q) none) (fun E X=>
 Mod (M 9) w8.drew X/\
 (AL o (fun c8 c9=>
 Mod (M 1) X c9/\
 runK prog (Instr.sliceAt 160 t25 (some I) none none) (fun ca cc=>
 Mod (M 5) c9 cc/\
 runK prog (Builtin.copy_ #[80,80] 3 [ca,E].toArray) (fun cd ch=>
 Mod (M 10) cc ch/\
 AX .i64 c8 cd fun cn=>
 AM 32 j fun cv=>
 BC cv cn (fun ej=>
 Mod (M 13) ch ej/\
 i [] ej) ch) cc) c9) X)/\
 (runK prog (Instr.sliceAt 160 t25 (some I) none none) (fun Y Z=>
 Mod (M 5) X Z/\
 (AL o (fun cx dk=>
 Mod (M 1) Z dk/\
 runK prog (Builtin.copy_ #[80,80] 3 [Y,E].toArray) (fun dv dT=>
 Mod (M 10) dk dT/\
 AX .i64 cx dv fun e1=>
 AM 32 j fun e2=>
 BC e2 e1 (fun ek=>
 Mod (M 13) dT ek/\
 i [] ek) dT) dk) Z)/\
 (runK prog (Builtin.copy_ #[80,80] 3 [Y,E].toArray) (fun e3 e4=>
 Mod (M 10) Z e4/\
 AL o (fun e5 e6=>
 Mod (M 1) e4 e6/\
 AX .i64 e5 e3 fun e7=>
 AM 32 j fun e8=>
 BC e8 e7 (fun en=>
 Mod (M 13) e6 en/\
 i [] en) e6) e4) Z)) X)) w8.drew))))) (fun J=>
 AM 0 j fun ga=>
 Af 32 ga (fun gb gd=>
 runK prog (Instr.build 160 [].toArray) (fun gf gg=>
 runK prog (BX .eql 160 (.tmp 14) (.tmp 15) gb gf) (fun gl eo=>
 AD gl
 (AM 32 j fun gm=>
 AL gm (fun gw ep=>
 DJ .i64 gw (.int .i64 0) fun gA=>
 AD gA
 (Af 33 t3 (fun t22 gB=>
 Ac 33 t4 t22 (fun gW=>
 Af 33 t4 (fun er h0=>
 K (.tuple #[er,(.int .i64 0)]) h0) gW) gB) ep)
 (J [] ep)) eo)
 (J [] eo)) gg) gd) w5))) w4) w3) w2) w1) w):AB prog 164 [v0,v1] K w:=cO (aN (aO (aN (aO aE .nil)) (.cut [] [(5,5),(13,22)] (aN (aO aE .nil)) (.cut [] [(23,35)] (.dt [1,5,9,10,13] [[],[0],[],[],[3],[2,3,4],[],[],[7],[6,7,8],[2,3,4,5,6,7,8,9],(aR 11),(aR 12),(aR 13)] [[1,5,9,10]] (.op 0 (.op 2 (.op 3 (.op 4 (.op 6 (.op 7 (.op 8 (.br (.op 1 (.br (.op 5 (.op 9 (.op 10 (.op 11 (.op 12 (.op 13 .nil)))))) (.op 9 (.op 5 (.op 10 (.op 11 (.op 12 (.op 13 .nil)))))))) (.br (.op 5 (.br (.op 1 (.op 9 (.op 10 (.op 11 (.op 12 (.op 13 .nil)))))) (.op 9 (.br (.op 1 (.op 10 (.op 11 (.op 12 (.op 13 .nil))))) (.op 10 (.op 1 (.op 11 (.op 12 (.op 13 .nil))))))))) (.op 9 (.br (.op 1 (.op 5 (.op 10 (.op 11 (.op 12 (.op 13 .nil)))))) (.op 5 (.br (.op 1 (.op 10 (.op 11 (.op 12 (.op 13 .nil))))) (.op 10 (.op 1 (.op 11 (.op 12 (.op 13 .nil))))))))))))))))))) aE)))) func164 h (by kernel_rfl)
theorem Zf(h: Bh 108 v0 (fun i j=>
 AM 0 i fun t4=>
 AL t4 (fun t5 w2=>
 K (.tuple #[t5,(.int .i64 0)]) w2) j) w):AB prog 171 [v0] K w:=cO (aN aE) func171 h (by kernel_rfl)
theorem X8(h: Bh 108 v0 (fun i T=>
 Am 108 [(.int .i64 0),(.int .i64 0)] (fun t4 w2=>
 Am 108 [(.int .i64 0),(.int .i64 0)] (fun t5 j=>
 Ay [11,12] [[],[],[1],[0,1,2],[],[4],[],[4,5,6],[],[8],[4,5,6,7,8,9],[0,1,2,3],[0,1,2,3,4,5,6,7,8,9,10,11]] j.drew (fun M o=>
 AM 1 i fun U=>
 BF (o 2) U fun V=>
 Ah [(0,1),(1,1)] [(.int .i64 0),(.int .i64 0)] [(0,v1),(1,V)] fun t9=>
 AM 0 i fun B=>
 BF (o 5) B fun E=>
 BW .i64 E v1 fun I=>
 AM 1 i fun J=>
 BF (o 9) J fun O=>
 Ah [(0,1),(1,1)] [(.int .i64 0),(.int .i64 0)] [(0,I),(1,O)] fun Q=>
 Ac 2 t4 t9 (fun w4=>
 Mod (M 11) j.drew w4/\
 Ac 2 t5 Q (fun S=>
 Mod (M 12) w4 S/\
 Af 2 t4 (fun X Y=>
 Af 2 t5 (fun r1 Z=>
 K (.tuple #[X,r1]) Z) Y) S) w4) j.drew)) w2) T) w):AB prog 172 [v0,v1] K w:=cO (aN (aO (.dc [11,12] [[],[],[1],[0,1,2],[],[4],[],[4,5,6],[],[8],[4,5,6,7,8,9],(aR 4),(aR 12)] []) .nil)) func172 h (by kernel_rfl)
theorem Yz(h: Bh 108 v0 (fun j V=>
 Bh 108 v1 (fun t3 w2=>
 Am 108 [(.int .i64 0),(.int .i64 0)] (fun t4 o=>
 Ay [13] [[],[0],[],[2],[0,1,2,3],[],[5],[0,1,2,3,4,5,6],[],[8],[],[10],[8,9,10,11],[0,1,2,3,4,5,6,7],[0,1,2,3,4,5,6,7,8,9,10,11,12,13]] o.drew (fun M i=>
 AM 0 j fun X=>
 BF (i 1) X fun Y=>
 AM 0 t3 fun Z=>
 BF (i 3) Z fun t9=>
 AX .i64 Y t9 fun B=>
 AM 1 j fun E=>
 BF (i 6) E fun I=>
 Ah [(0,1),(1,1)] [(.int .i64 0),(.int .i64 0)] [(0,B),(1,I)] fun J=>
 AM 1 j fun O=>
 BF (i 9) O fun Q=>
 AM 1 t3 fun S=>
 BF (i 11) S fun T=>
 DJ .i64 Q T fun U=>
 Ac 2 t4 J (fun w4=>
 Mod (M 13) o.drew w4/\
 Af 2 t4 (fun r0 w5=>
 K (.tuple #[r0,U]) w5) w4) o.drew)) w2) V) w):AB prog 173 [v0,v1] K w:=cO (aN (aO (.dc [13] [[],[0],[],[2],(aR 4),[],[5],(aR 7),[],[8],[],[10],[8,9,10,11],(aR 8),(aR 14)] []) .nil)) func173 h (by kernel_rfl)
theorem YR(h: K (.tuple #[(.int .i64 1),(.int .i64 0)]) w):AB prog 179 [v0] K w:=cO (aN aE) func179 h (by kernel_rfl)
theorem Y2(h: K (.tuple #[(.slice none 0 0),(.bool false)]) w):AB prog 181 [v0,v1] K w:=cO (aN aE) func181 h (by kernel_rfl)
theorem YM(h: AB prog 226 [v0] (fun t4 i=>
 CE t4 fun t5=>
 K t5 i) w):AB prog 225 [v0] K w:=cO (aN aE) func225 h (by kernel_rfl)
theorem aA(h: Kk .i32 v0 (.int .i32 0) fun t4=>
 AD t4
 (SQ .i32 v0 (.int .i32 1114111) fun o=>
 AD o
 (Bb .i32 v0 (.int .i32 55296) fun i=>
 AD i
 (K (.bool true) w)
 (Eu .i32 v0 (.int .i32 57343) fun j=>
 K j w))
 (K (.bool false) w))
 (K (.bool false) w)):AB prog 226 [v0] K w:=cO (aN aE) func226 h (by kernel_rfl)
theorem YY(h: Bh 108 v0 (fun i j=>
 AM 0 i fun t3=>
 AL t3 (fun t4 w2=>
 Bb .i64 t4 (.int .i64 0) fun t5=>
 AD t5
 (K (.bool true) w2)
 (AM 1 i fun o=>
 AL o (fun B E=>
 Bb .i64 B (.int .i64 0) fun t9=>
 K t9 E) w2)) j) w):AB prog 237 [v0] K w:=cO (aN aE) func237 h (by kernel_rfl)
theorem dN(h: AB prog 169 [(.slice none 0 0),v0] (fun t4 i=>
 K t4 i) w):AB prog 98 [v0] K w:=cO (aN aE) func98 h (by kernel_rfl)
theorem Zn(h: AB prog 177 [(.slice none 0 0),v0] (fun t4 i=>
 K t4 i) w):AB prog 103 [v0] K w:=cO (aN aE) func103 h (by kernel_rfl)
theorem Z1(h: GM 101 v0 (fun i j=>
 Iz prog Dh v1 1 (fun args o w2=>
 Am 108 [(.int .i64 0),(.int .i64 0)] (fun t5 w4=>
 Ac 2 t5 (nth args 0) (fun V=>
 o (fun post X=>
 AL i (fun Y Z=>
 Af 2 t5 (fun t9 w7=>
 Bg 108 2 1 [(.int .i64 0),(.int .i64 0)] [(0,t9)] (fun B w8=>
 runK prog (Builtin.append_ #[101,101] 101 [Y,B].toArray) (fun E w9=>
 BC i E (fun I=>
 post .normal I) w9) w8) w7) Z) X) V) w4) w2) (fw (fun J=>
 AL i (fun O Q=>
 Fx j.heap.size (fun S=>
 K O S) Q) J) (fun T=>
 Fx j.heap.size (fun U=>
 K (.slice none 0 0) U) T) []) j) w):AB prog 169 [v0,v1] K w:=
 G5 (P:=prog) (ok:=Dh) (n:=13) (fn:=Tryz.f169) (c:=JC Tryz.f169) (rs:=[.tmp 4]) (an:=(aN (aO (aN aE) aE))) Fc mixed func169 (by kernel_rfl) (by kernel_rfl) (by kernel_rfl) (by kernel_rfl) (Eq.mp (by kernel_rfl) h)
theorem Z3(h: GM 50 v0 (fun i j=>
 Iz prog Dh v1 1 (fun args o w2=>
 o (fun post S=>
 AL i (fun T w4=>
 Bg 43 1 1 [(.slice none 0 0)] [(0,(nth args 0))] (fun B U=>
 runK prog (Builtin.append_ #[50,50] 50 [T,B].toArray) (fun E V=>
 BC i E (fun X=>
 post .normal X) V) U) w4) S) w2) (fw (fun Y=>
 AL i (fun I Z=>
 Fx j.heap.size (fun J=>
 K I J) Z) Y) (fun O=>
 Fx j.heap.size (fun Q=>
 K (.slice none 0 0) Q) O) []) j) w):AB prog 177 [v0,v1] K w:=
 G5 (P:=prog) (ok:=Dh) (n:=13) (fn:=Tryz.f177) (c:=JC Tryz.f177) (rs:=[.tmp 4]) (an:=(aN (aO (aN aE) aE))) Fc mixed func177 (by kernel_rfl) (by kernel_rfl) (by kernel_rfl) (by kernel_rfl) (Eq.mp (by kernel_rfl) h)
theorem Y1(h: Hg v0 fun i=>
 AD (.bool i)
 (K (.slice none 0 0) w)
 (Bg 43 1 0 [] [] (fun t5 j=>
 runK prog (Builtin.append_ #[50,50] 50 [t5,v0].toArray) (fun o w2=>
 K o w2) j) w)):AB prog 176 [v0] K w:=cO (aN (aO (aN (aO aE .nil)) aE)) func176 h (by kernel_rfl)
theorem aZ(h: GM 80 v0 (fun j o=>
 GM 3 v1 (fun t3 w2=>
 AL t3 (fun t5 i=>
 Bb .i64 t5 (.int .i64 1) fun B=>
 AD B
 (runK prog (Instr.makeInterface 9 (.string (ByteArray.mk #[99,97,110,110,111,116,32,98,101,32,108,101,115,115,32,116,104,97,110,32,49]))) (fun _t7 w4=>
 False) i)
 (K (.func (.func 223) #[] #[j,t3]) i)) w2) o) w):AB prog 148 [v0,v1] K w:=cO (aN (aO (aN aE) aE)) func148 h (by kernel_rfl)
theorem YW(h: Aq [(.int .i64 0)] (fun vs i w1=>∀_:Env,
 AL v1 (fun t7 w2=>
 Ae t7 fun t8=>
 Bb .i64 (nth vs 0) t8 fun t9=>
 AD t9
 (Ay [3] [[],[],[],[1,2],[1,2,3],[0,1,2,3,4],[0,1,2,3,4,5]] w2.drew (fun M Y=>
 BF (Y 0) v2 fun o=>
 BF (Y 1) v1 fun B=>
 runK prog (Instr.sliceAt 80 B (some (nth vs 0)) none none) (fun E Z=>
 Mod (M 3) w2.drew Z/\
 Ae E fun I=>
 K3 .i64 o I fun j=>
 AL v1 (fun J w4=>
 AX .i64 (nth vs 0) j fun O=>
 AX .i64 (nth vs 0) j fun Q=>
 runK prog (Instr.sliceAt 80 J (some (nth vs 0)) (some O) (some Q)) (fun S w5=>
 Ci prog Dh v0 [S] (fun T w6=>
 CE T fun U=>
 AD U
 (K (.tuple #[]) w6)
 (AL v2 (fun V w7=>
 AX .i64 (nth vs 0) V fun X=>
 i [X] w7) w6)) w5) w4) Z) w2.drew))
 (K (.tuple #[]) w2)) w1) w):AB prog 223 [v0,v1,v2] K w:=cO (aN (.node [4] [(4,30)] (aO (aN aE) (aO (aO (.dc [3] [[],[],[],[1,2],[1,2,3],(aR 5),(aR 6)] []) (aN aE)) .nil)) .nil)) func223 h (by kernel_rfl)
theorem YB(h: AB prog 270 [v0,v1] (fun i j=>
 Kk .i64 i (.int .i64 0) fun o=>
 K o j) w):AB prog 236 [v0,v1] K w:=cO (aN aE) func236 h (by kernel_rfl)
theorem Z2(h: Ae v0 fun O=>
 Aq [(.int .i64 0)] (fun vs i I=>∀_:Env,
 Bb .i64 (nth vs 0) O fun t9=>
 AD t9
 (BQ 2 v0 (nth vs 0) fun j=>
 Af 2 j (fun o w2=>
 Ci prog Dh v1 [o] (fun B J=>
 AD B
 (K (nth vs 0) J)
 (AX .i64 (nth vs 0) (.int .i64 1) fun E=>
 i [E] J)) w2) I)
 (K (.int .i64 (-1)) I)) w):AB prog 270 [v0,v1] K w:=cO (aN (aO (aN (.node [8] [(4,5),(8,18)] (aN (aO aE (aO (aN (aN (aO aE .nil))) .nil))) .nil)) aE)) func270 h (by kernel_rfl)
end
theorem gS(b i j:Nat):(⟨b,i,none⟩:Addr).add j=⟨b,i+j,none⟩:=by rw[<-AH b i,Addr.add_add,AH]
theorem PU(b:Nat):∀(us:List Value) (p:Nat) (w:World),w.setCells b p us=EW w ⟨b,0,none⟩ p us:=by
 intro us;induction us with
 |nil=>intro p w;rfl
 |cons v us i=>intro p w;rw[World.setCells,EW,AH,i]
theorem Bx.copy{b o J dc sl Q:Nat}{a:Addr}{vs us:List Value}{O S ty i:TypeId}(hu:P.underlying O=some (.slice i))(V:(P.info? i).map (·.size)=some 1)
 (h:Bx W b vs)(X:us.length=min sl J)(T:us=[]\/o+us.length<=vs.length)(E:∀j v,us[j]?=some v->W.cell? (a.add j)=some v)(h1:∀v∈us,v.oneCell'=true)
 (U:∀W',Bx W' b (Iy vs o us)->Mod (fun x=>x=b) W W'->K (.int .i64 (us.length:Int)) W') :
  runK P (Builtin.copy_ #[O,S] ty [Value.slice (some ⟨b,o,none⟩) J dc,.slice (some a) sl Q].toArray) K W:=by
 have B:∀j,j<us.length->Live W ⟨b,o+j,none⟩:=fun j I=>by
  rcases T with e|e
  .subst e;exact(Nat.not_lt_zero _ I).elim
  .exact h.live _ (by omega)
 refine Ag (run_copy_cells W O S ty i b o J dc a sl Q us hu V X E (fun j I=>(B j I).1) (fun j I=>(B j I).2) h1) ?_;rw[PU];rcases T with e|e
 .subst e;exact U _ h (Mod.refl _ _)
 .have:=h.EW us o W vs e;exact U _ this.1 this.2
theorem Wu:prog.underlying 160=some (.array (prog.arrayLen 160) (prog.elem 160))/\prog.arrayLen 160=32/\prog.elem 160=21:=by
 have hu:=underlying160;have i:prog.arrayLen 160=32:=by simp[Program.arrayLen,hu]
 have j:prog.elem 160=21:=by simp[Program.elem,hu]
 exact⟨by rw[i,j];exact hu,i,j⟩
theorem XA(w:World):(sizeOf 21).run prog w=.ok 1 w:=by
 simp only[sizeOf,kD,Tryz.typeInfo21,S3,k7];rfl
theorem bW{b i:Nat}(h:i<32)(j:K (.pointer (some ⟨b,i,none⟩)) W):runK prog (Instr.indexAt 160 (.pointer (some ⟨b,0,none⟩)) (.int .i64 (i:Int))) K W:=by
 obtain⟨ht,o,B⟩:=Wu;refine Ag ?_ j;rw[run_indexAt_array W _ _ _ _ ht,Io ⟨by omega,by rw[o];omega⟩,B,XA,S3,lI,nA,AH]
theorem MY{b:Nat}(i:K (.slice (some ⟨b,0,none⟩) 32 32) W):runK prog (Instr.sliceAt 160 (.pointer (some ⟨b,0,none⟩)) none none none) K W:=by
 obtain⟨ht,j,o⟩:=Wu;refine Ag ?_ i;rw[run_sliceAt_array_all W _ _ ht,o,XA,S3,j];simp[slicedAt,AH]
theorem aL{b h:Nat}(B:h<=32)(j:K (.slice (some ⟨b,0,none⟩) h 32) W):runK prog (Instr.sliceAt 160 (.pointer (some ⟨b,0,none⟩)) none (some (.int .i64 (h:Int))) none) K W:=by
 obtain⟨ht,i,o⟩:=Wu;refine Ag ?_ j;rw[run_sliceAt_array_h W _ _ ht _ _ (by omega) (by rw[i];omega),o,XA,S3,i];simp[slicedAt,AH]
theorem iV{b l:Nat}(hl:l<=32)(j:K (.slice (some ⟨b,if 32=l then 0 else l,none⟩) (32-l) (32-l)) W):runK prog (Instr.sliceAt 160 (.pointer (some ⟨b,0,none⟩)) (some (.int .i64 (l:Int))) none none) K W:=by
 obtain⟨ht,i,o⟩:=Wu;refine Ag ?_ j;rw[run_sliceAt_array_l W _ _ ht _ _ (by omega) (by rw[i];omega),o,XA,S3,i];simp only[slicedAt,lI,nA,AH];by_cases e:32=l
 .rw[Io e,Io e]
 .rw[C3 e,C3 e]
theorem bS{b l h:Nat}(hl:l<=h)(B:h<=32)(j:K (.slice (some ⟨b,if 32=l then 0 else l,none⟩) (h-l) (32-l)) W):runK prog (Instr.sliceAt 160 (.pointer (some ⟨b,0,none⟩)) (some (.int .i64 (l:Int))) (some (.int .i64 (h:Int))) none) K W:=by
 obtain⟨ht,i,o⟩:=Wu;refine Ag ?_ j;rw[run_sliceAt_array_lh W _ _ ht _ _ _ _ (by omega) (by omega) (by rw[i];omega),o,XA,S3,i];simp only[slicedAt,lI,nA,AH];by_cases e:32=l
 .rw[Io e,Io e]
 .rw[C3 e,C3 e]
theorem OR{e d:Nat}{k:IntKind}(he:P.plainKey e=true)(hu:P.underlying e=some (.int k)){xs o:Array Value}:∀is:List Nat,(∀i∈is,∃a b,xs[i*1]?=some (.int k a)/\o[i*1]?=some (.int k b))->
  ∃r,(Op.eqItems (d+1) e 1 xs o is).run P w=.ok r w:=by
 intro is;induction is with
 |nil=>intro _;exact⟨true,by simp[Op.eqItems]⟩
 |cons i is B=>
  intro h;obtain⟨a,b,h1,E⟩:=h i (by simp);obtain⟨r,hr⟩:=B fun j I=>h j (by simp[I]);simp only[Op.eqItems,kD,run_part_plain w he h1,run_part_plain w he E,mR w d e k k a b hu,S3];cases a==b
  .exact⟨false,by simp⟩
  .exact⟨r,by simpa using hr⟩
theorem gV{xs o:List Int}(E:xs.length=32)(I:o.length=32)(J:∀r:Bool,K (.bool r) W) :
  runK prog (BX .eql 160 xo yo (.agg (xs.map (Value.int .i32)).toArray) (.agg (o.map (Value.int .i32)).toArray)) K W:=by
 have hu:=underlying21;have hp:prog.plainKey 21=true:=by simp[Program.plainKey,hu]
 have hc:prog.cellsOf 21=1:=by kernel_rfl
 obtain⟨i,hi⟩:∃i,prog.info? 21=some i:=⟨Tryz.t21,by kernel_rfl⟩;have key:∃r,(Op.equalIn 10000 160 (.agg (xs.map (Value.int .i32)).toArray) (.agg (o.map (Value.int .i32)).toArray)).run prog W=.ok r W:=by
  rw[run_equalIn_array W 9999 _ _ underlying160 hi,hc];refine OR (d:=9998) hp hu _ fun j O=>?_;have B:=ly.1 O;exact⟨xs[j]'(by omega),o[j]'(by omega),by simp[E,B],by simp[I,B]⟩
 obtain⟨r,hr⟩:=key;refine Ag (v:=.bool r) (w':=W) ?_ (J r);have Q:prog.eqGuardType prog.depth 160=false:=by kernel_rfl
 have S:(eqGuard .eql 160 xo yo (.agg (xs.map (Value.int .i32)).toArray) (.agg (o.map (Value.int .i32)).toArray)).run prog W=.ok () W:=by
  simp[eqGuard,Q]
 simp only[BX,kD,S,S3];rw[run_eql_struct,hr];rfl
structure Ck where
 l:List Int
 le:l.length<=32
namespace Ck
def nil:Ck:=⟨[],by simp⟩
def tk(c:Ck)(i:Nat):Ck:=⟨c.l.take i,by have:=c.le;simp only[Mp];omega⟩
def dp(c:Ck)(i:Nat):Ck:=⟨c.l.drop i,by have:=c.le;simp only[K8];omega⟩
def jn(a b:Ck):Ck:=if h:a.l.length+b.l.length<=32 then⟨a.l++b.l,by simpa using h⟩ else nil
def all(c:Ck):List Int:=c.l++List.replicate (32-c.l.length) 0
def cells(c:Ck):List Value:=c.all.map (Value.int .i32)++[.int .i64 (c.l.length:Int)]
theorem Jp(c:Ck):c.all.length=32:=by have:=c.le;simp[all];omega
theorem len(c:Ck):c.cells.length=33:=by simp[cells,c.Jp]
theorem one(c:Ck):∀u∈c.cells,u.oneCell'=true:=fun u hu=>by
 simp only[cells,DN,kQ,P9] at hu;rcases hu with⟨_,_,rfl⟩|rfl<;>rfl
theorem n(c:Ck):c.cells[32]?=some (.int .i64 (c.l.length:Int)):=by
 rw[cells,kH (by rw[Es,c.Jp];exact Lc _),Es,c.Jp];rfl
theorem gU(c:Ck){u:Value}(h:(c.all.map (Value.int .i32))[j]?=some u):c.cells[j]?=some u:=by
 rw[cells,Q0 (Bp.1 h).1];exact h
theorem get(c:Ck)(h:j<c.l.length):c.cells[j]?=some (.int .i32 c.l[j]):=by
 refine c.gU ?_;rw[kr,all,Q0 h,By h];rfl
theorem fill(c:Ck){us:List Int}(h:c.l.length+us.length<=32):(Iy c.cells c.l.length (us.map (Value.int .i32))).set 32 (.int .i64 ((c.l.length+us.length:Nat):Int))=cells ⟨c.l++us,by simpa using h⟩:=by
 have e0:c.cells=c.l.map (Value.int .i32)++(List.replicate (32-c.l.length) (Value.int .i32 0)++[.int .i64 (c.l.length:Int)]):=by
  simp[cells,all]
 have i:c.cells.take c.l.length=c.l.map (Value.int .i32):=by rw[e0,nd (by simp)]
 have j:c.cells.drop (c.l.length+us.length)=List.replicate (32-c.l.length-us.length) (Value.int .i32 0)++[.int .i64 (c.l.length:Int)]:=by
  rw[e0,<-nT,oH (by simp),List.drop_append_of_le_length (by simp;omega),List.drop_replicate]
 rw[MO _ _ _ (by rw[c.len];simp;omega),i,Es,j,<-PF,lC _ _ (by simp;omega)];have o:32-(c.l.map (Value.int .i32)++us.map (Value.int .i32)++List.replicate (32-c.l.length-us.length) (Value.int .i32 0)).length=0:=by simp;omega
 rw[o];simp[cells,all,po]
theorem WK{us:List Int}(h:us.length<=32):(Iy nil.cells 0 (us.map (Value.int .i32))).set 32 (.int .i64 (us.length:Int))=cells ⟨us,h⟩:=by
 have:=fill nil (us:=us) (by simpa[nil] using h);simp only[nil,kl,lp,kS] at this;exact this
end Ck
abbrev Bc(l:List Int):Nat:=l.count 10
theorem fh(c:Ck):AB prog 159 [.agg c.cells.toArray] (fun v w'=>v=.int .i64 (c.l.length:Int)/\Grow w w') w:=by
 apply YI;refine Bx.box fun b j hb i B=>?_;rw[AG,AH];exact AK (B.cells 32 _ c.n) ⟨rfl,i⟩
theorem P0(c:Ck)(i:Nat):AB prog 109 [.agg c.cells.toArray,.int .i64 (i:Int)] (fun v w'=>v=.int .i64 (Bc (c.l.take i):Int)/\Grow w w') w:=by
 apply Y7;refine Bx.box fun b J hb O B=>?_;rw[G1,AG,AH];refine AK (B.cells 32 _ c.n) ?_;have Q:=c.le;have e:∀{k:Value->Prop},k (.int .i64 ((min i c.l.length:Nat):Int))->K3 .i64 (.int .i64 (if(0:Int)>(i:Int) then 0 else(i:Int))) (.int .i64 (c.l.length:Int)) k:=fun{k} h=>by
  rw[C3 (by omega),HY];have:(if(c.l.length:Int)<(i:Int) then(c.l.length:Int) else(i:Int))=((min i c.l.length:Nat):Int):=by split<;>omega
  rw[this];exact h
 refine e ?_;refine Ab (fun vs W=>∃k:Nat,k<=min i c.l.length/\vs=[.int .i64 (Bc (c.l.take k):Int),.int .i64 k]/\W=J) (fun vs _=>32-Ds vs 1) ⟨0,Nn _,rfl,rfl⟩ ?_;rintro vs _ ⟨k,hk,rfl,rfl⟩ _;rename World=>J
 simp only[GJ];refine H6 (fun S=>?_) fun T=>?_
 .have j:k<c.l.length:=by omega
  rw[AG,AH];refine bW (by omega) (AK (B.cells k _ (c.get j)) ?_);rw[Al];have et:c.l.take (k+1)=c.l.take k++[c.l[k]]:=by rw[No];simp[j]
  have hb:Bc (c.l.take k)<=32:=k8 qb (by rw[Mp];omega);refine AF (fun o=>?_) fun o=>?_
  .have E:Bc (c.l.take (k+1))=Bc (c.l.take k)+1:=by rw[et,Bc,nE,o];simp
   rw[AR,wrap64 (by omega) (by omega),AR,wrap64 (by omega) (by omega)];refine⟨⟨k+1,by omega,?_,rfl⟩,by rw[BL,BL];omega⟩;rw[E];rfl
  .have E:Bc (c.l.take (k+1))=Bc (c.l.take k):=by
    have:¬c.l[k]=(10:Int):=o;rw[et,Bc,nE];simp[this]
   rw[AR,wrap64 (by omega) (by omega)];refine⟨⟨k+1,by omega,?_,rfl⟩,by rw[BL,BL];omega⟩;rw[E];rfl
 .have I:k=min i c.l.length:=by omega
  subst I;refine⟨?_,O⟩;rw[show c.l.take (min i c.l.length)=c.l.take i by
   rcases Nat.le_total i c.l.length with h|h
   .rw[kY h]
   .rw[Nat.min_eq_right h,Nr,lN h]]
theorem QJ(c:Ck):AB prog 160 [.agg c.cells.toArray] (fun v w'=>v=.int .i64 (Bc c.l:Int)/\Grow w w') w:=by
 apply Yt;refine Bx.box fun b o hb i B=>?_;refine B.FZ c.len ?_;refine Bt (B.cells 32 _ c.n) ?_;refine AA (P0 c c.l.length) ?_;rintro _ w2 ⟨rfl,j⟩;exact⟨by rw[Nr],i.trans j⟩
def HQ:List Int->Nat->Option Nat
 |[],_=>none
 |r::t,k=>if r=10 then(match k with | 0=>some 0 | k+1=>(HQ t k).map (·+1)) else(HQ t k).map (·+1)
theorem G6(r:Int)(t:List Int)(k:Nat):HQ (r::t) k=if r=10 then(match k with|0=>some 0|k+1=>(HQ t k).map (·+1)) else(HQ t k).map (·+1):=by cases k<;>rfl
def iy:Option Nat->Value
 |some i=>.tuple #[.int .i64 (i:Int),.bool true]
 |none=>.tuple #[.int .i64 0,.bool false]
theorem O1(c:Ck){k:Nat}(hk:k<=1099511627776):AB prog 93 [.agg c.cells.toArray,.int .i64 (k:Int)] (fun v w'=>v=iy (HQ c.l k)/\Grow w w') w:=by
 apply cP;refine Bx.box fun b Q hb S B=>?_;refine Bt (B.cells 32 _ c.n) ?_;have T:=c.le;refine Ab (fun vs W=>∃i m:Nat,i<=c.l.length/\m<=k/\vs=[.int .i64 m,.int .i64 i]/\HQ c.l k=(HQ (c.l.drop i) m).map (·+i)/\W=Q) (fun vs _=>32-Ds vs 1) ⟨0,k,Nn _,Lc _,rfl,by rw[lh];cases HQ c.l k<;>rfl,rfl⟩ ?_;rintro vs _ ⟨i,m,hi,hm,rfl,j,rfl⟩ _;rename World=>Q
 simp only[GJ];refine H6 (fun U=>?_) fun V=>?_
 .have E:i<c.l.length:=by omega
  rw[AG,AH];refine bW (by omega) (AK (B.cells i _ (c.get E)) ?_);rw[Bm];rw[lA E,G6] at j;have J:∀o:Option Nat,(o.map (·+1)).map (·+i)=o.map (·+(i+1)):=fun o=>by cases o<;>simp;omega
  refine AW (fun O=>?_) fun O=>?_
  .have I:c.l[i]=(10:Int):=O;rw[Io I] at j;rw[Al];refine AF (fun h0=>?_) fun h0=>?_
   .obtain rfl:m=0:=by omega
    exact⟨by rw[j];simp[iy],S⟩
   .obtain⟨m,rfl⟩:∃X,m=X+1:=⟨m-1,by omega⟩;simp only[J] at j;rw[Av,wrap64 (by omega) (by omega),AR,wrap64 (by omega) (by omega)];refine⟨⟨i+1,m,E,by omega,?_,j,rfl⟩,by rw[BL,BL];omega⟩;congr 2
    omega
  .have I:¬c.l[i]=(10:Int):=O;rw[C3 I,J] at j;rw[AR,wrap64 (by omega) (by omega)];exact⟨⟨i+1,m,E,hm,rfl,j,rfl⟩,by rw[BL,BL];omega⟩
 .obtain rfl:i=c.l.length:=by omega
  rw[mU] at j;exact⟨by rw[j];rfl,S⟩
theorem Xf(c:Ck):AB prog 96 [.agg c.cells.toArray] (fun v w'=>AE w.heap.size 21 1 Bo w' v c.l/\Grow w w') w:=by
 apply fV;refine Bx.box fun b T hb I B=>?_;have E:=c.le;rw[AG,AG,AH,AH];refine AK (B.cells 32 _ c.n) (aL E ?_);refine AA (KT (S:=fun _=>True) (l:=c.l) ⟨_,_,rfl,by omega,by simp[maxLen],fun i x J=>⟨_,[.int .i32 x],rfl,trivial,rfl,fun j u hu=>?_,rfl⟩⟩ (by omega)) ?_
 .obtain⟨hi,rfl⟩:=Bp.1 J;obtain⟨rfl,rfl⟩:j=0/\u=.int .i32 c.l[i]:=by
   cases j with
   |zero=>simp at hu;exact⟨rfl,hu.symm⟩
   |succ j=>simp at hu
  rw[AH];exact B.cells _ _ (by simpa using c.get hi)
 rintro v w2 ⟨o,O⟩;have:=I.size;exact⟨AE.base o fun g Q=>by have:=(AE.BA o g Q).1;omega,I.trans O⟩
theorem Xe(c:Ck)(hi:i<=c.l.length):AB prog 162 [.agg c.cells.toArray,.int .i64 (i:Int)] (fun v w'=>v=.tuple #[.agg (c.tk i).cells.toArray,.agg (c.dp i).cells.toArray,.int .i64 0]/\Grow w w') w:=by
 apply aq;refine Bx.box fun b2 w1 a7 g1 B2=>?_;refine Bx.zero fun V w2 a8 Z B4=>?_;refine Bx.zero fun X w3 ak Y B5=>?_;have Q:=c.le;have l2:=B2.lt (by rw[c.len];omega);have l4:=B4.lt (by decide);have l5:=B5.lt (by decide);have C2:=(B2.grow Z).grow Y;have C4:Bx w3 V Ck.nil.cells:=B4.grow Y;have C5:Bx w3 X Ck.nil.cells:=B5;have z1:=g1.size;have z2:=Z.size;have z3:=Y.size;have a1:=(g1.trans Z).trans Y;have hu:=underlying80;have hs:(prog.info? 21).map (·.size)=some 1:=by kernel_rfl
 have J:(c.l.take i).length=i:=by rw[Mp];omega
 have O:(c.l.drop i).length=c.l.length-i:=K8;have I:∀l:List Int,∀v∈l.map (Value.int .i32),v.oneCell'=true:=fun l v S=>by
  obtain⟨_,_,rfl⟩:=kQ.1 S;rfl
 refine AT (fun _ W=>W=w3) ?_ ?_
 .rintro _ W rfl _;refine AT (fun _ W'=>Bx W' b2 c.cells/\Bx W' V (c.tk i).cells/\Bx W' X Ck.nil.cells/\Grow w W'/\W.heap.size<=W'.heap.size) ?_ ?_
  .rintro _ W1 ⟨D2,D4,D5,gW,zW⟩ _;refine AT (fun _ W'=>Bx W' V (c.tk i).cells/\Bx W' X (c.dp i).cells/\Grow w W') ?_ ?_
   .rintro _ W2 ⟨E4,E5,a6⟩ _;refine E4.FZ (Ck.len _) (E5.FZ (Ck.len _) ?_);refine E4.over (Ck.len _) (Ck.len _) (Ck.one _) fun W3 F4 o=>?_;refine(E5.mod o fun e=>by omega).over (Ck.len _) (Ck.len _) (Ck.one _) fun W4 F5 m4=>?_;refine(F4.mod m4 fun e=>by omega).FZ (Ck.len _) (F5.FZ (Ck.len _) ⟨rfl,?_⟩);exact(a6.next o fun y T e=>by omega).next m4 fun y T e=>by omega
   .have B:Grow W1 W1.drew:=Mod.drew _ _;have U:=D2.grow B;have H4:=D4.grow B;have H5:=D5.grow B;refine Ai (fun _ y=>y=X) ?_;rw[AG,AG,AG,AH,AH,AH];refine AY ⟨U.cells 32 _ c.n,fun _ _ e=>by simp only at e;omega⟩ ?_;refine⟨MY ⟨Mod.refl _ _,bS hi Q ⟨Mod.refl _ _,?_⟩⟩,bS hi Q ⟨Mod.refl _ _,MY ⟨Mod.refl _ _,?_⟩⟩⟩ <;>
    .refine H5.copy hu hs (us:=(c.l.drop i).map (Value.int .i32)) (by rw[Es,O];omega) (.inr (by rw[Es,O,Ck.len];omega)) (fun j v S=>?_) (I _) fun W2 I5 E=>?_
     .obtain⟨hj,rfl⟩:=Bp.1 S;rw[Es,O] at hj;rw[C3 (by omega),lV,List.getElem_drop,gS];exact U.cells (i+j) _ (c.get (by omega))
     refine⟨E,?_⟩;rw[AG,AH];refine I5.st (q:=32) (by rw[LH,Ck.len];omega) rfl rfl fun W3 J5 o=>⟨o,?_⟩;rw[Es] at J5;have e5:=Ck.WK (us:=c.l.drop i) (by omega);rw[e5] at J5;refine⟨((D4.grow B).mod E fun e=>by omega).mod o fun e=>by omega,J5,?_⟩;exact(((gW.trans B).next E fun y T e=>by omega)).next o fun y T e=>by omega
  .have B:Grow W W.drew:=Mod.drew _ _;have U:=C2.grow B;have H4:=C4.grow B;have H5:=C5.grow B;refine Ai (fun _ y=>y=V) ?_;rw[AG,AG,AH,AH];refine⟨MY ⟨Mod.refl _ _,aL (by omega) ⟨Mod.refl _ _,?_⟩⟩,aL (by omega) ⟨Mod.refl _ _,MY ⟨Mod.refl _ _,?_⟩⟩⟩ <;>
   .refine H4.copy hu hs (us:=(c.l.take i).map (Value.int .i32)) (by rw[Es,J];omega) (.inr (by rw[Es,J,Ck.len];omega)) (fun j v S=>?_) (I _) fun W2 I4 E=>?_
    .obtain⟨hj,rfl⟩:=Bp.1 S;rw[Es,J] at hj;rw[AH,lV,nG];exact U.cells j _ (c.get (by omega))
    refine⟨E,?_⟩;rw[AG,AH];refine I4.st (q:=32) (by rw[LH,Ck.len];omega) rfl rfl fun W3 J4 o=>⟨o,?_⟩;rw[Es] at J4;have e4:=Ck.WK (us:=c.l.take i) (by omega);rw[e4] at J4;have zd:=B.size;have s2:=E.size;have s3:=o.size;refine⟨(U.mod E fun e=>by omega).mod o fun e=>by omega,J4,(H5.mod E fun e=>by omega).mod o fun e=>by omega,?_,by omega⟩;exact(((a1.trans B).next E fun y T e=>by omega)).next o fun y T e=>by omega
 .rw[Ap];refine AF (fun e=>by omega) fun _=>?_;refine Bt (C2.cells 32 _ c.n) ?_;rw[BR];exact AF (fun e=>by omega) fun _=>rfl
structure Spn where
 n:Nat
 id:Int
 deriving DecidableEq
namespace Spn
def u(s:Spn):List Int:=List.replicate s.n s.id
def Hj:Option Int->List Spn->Prop
 |_,[]=>True
 |p,s::t=>0<s.n/\p≠some s.id/\Hj (some s.id) t
def rn(x:Int):Option Int->List Int->Nat
 |_,[]=>0
 |p,y::t=>(if y=x/\p≠some x then 1 else 0)+rn x (some y) t
def HK(p:Option Int)(l:List Int):Option Int:=match l.getLast? with|some y=>some y|none=>p
theorem RP(p:Option Int)(y:Int)(l:List Int):HK p (y::l)=HK (some y) l:=by
 unfold HK;cases l with
 |nil=>rfl
 |cons z l=>rw[oX];cases h:(z::l).getLast? with
  |none=>simp at h
  |some q=>rfl
theorem LW(x:Int)(p:Option Int)(l m:List Int):rn x p (l++m)=rn x p l+rn x (HK p l) m:=by
 induction l generalizing p with
 |nil=>simp[rn,HK]
 |cons y l i=>rw[WJ,rn,rn,i,RP];omega
theorem eE(x:Int)(p:Option Int)(n:Nat)(y:Int):rn x p (List.replicate (n+1) y)=if y=x/\p≠some x then 1 else 0:=by
 induction n generalizing p with
 |zero=>simp[rn]
 |succ n i=>
  rw[List.replicate_succ,rn,i];by_cases h:y=x
  .subst h;simp
  .simp[h]
theorem UM(p:Option Int)(n:Nat)(y:Int):HK p (List.replicate (n+1) y)=some y:=by
 unfold HK;rw[List.getLast?_replicate];simp
theorem U6(x:Int)(p:Option Int)(l:List Spn)(h:Hj p l):l.countP (fun s=>decide (s.id=x))=rn x p (l.flatMap u):=by
 induction l generalizing p with
 |nil=>rfl
 |cons s l i=>
  obtain⟨h1,j,o⟩:=h;obtain⟨m,hm⟩:∃m,s.n=m+1:=⟨s.n-1,by omega⟩;rw[oD,i _ o,kp,LW,u,hm,eE,UM];by_cases h:s.id=x
  .subst h;simp[j];omega
  .simp[h]
def EV(p:Option Int)(l:List Spn):Option Int:=match l.getLast? with|some s=>some s.id|none=>p
theorem Pu(p:Option Int)(y:Spn)(l:List Spn):EV p (y::l)=EV (some y.id) l:=by
 unfold EV;cases l with
 |nil=>rfl
 |cons z l=>rw[oX];cases h:(z::l).getLast? with
  |none=>simp at h
  |some q=>rfl
theorem He{p:Option Int}{l m:List Spn}:Hj p (l++m)↔Hj p l/\Hj (EV p l) m:=by
 induction l generalizing p with
 |nil=>simp[Hj,EV]
 |cons s l i=>rw[WJ,Hj,Hj,i,Pu];constructor<;>(rintro⟨h1,j⟩;simp_all)
theorem Ps{p:Option Int}{l:List Spn}:Hj p l↔Hj none l/\∀s∈l.head?,p≠some s.id:=by
 cases l with
 |nil=>simp[Hj]
 |cons s l=>
  simp only[Hj,pH,Option.mem_def,i6,forall_eq'];exact⟨fun⟨a,b,c⟩=>⟨⟨a,by simp,c⟩,b⟩,fun⟨⟨a,b,c⟩,d⟩=>⟨a,d,c⟩⟩
theorem MB{p:Option Int}{l:List Spn}(h:Hj p l):Hj none l:=(Ps.1 h).1
def kd:Kd Spn where
 μ:=fun s=>(s.n,0)
 cut:=fun s p=>(⟨p,s.id⟩,⟨s.n-p,s.id⟩)
 meld:=fun a b=>if a.id=b.id then some ⟨a.n+b.n,a.id⟩ else none
theorem EE:kd.FQ u where
 size:=fun s=>by simp[kd,u]
 cut1:=fun s p h0 h1=>by
  rw[u,lD] at h1;simp only[kd,u,List.take_replicate,List.drop_replicate];exact⟨by rw[kY (by omega)],trivial⟩
 melds:=fun a b c h=>by
  simp only[kd] at h;split at h
  .rename_i e;cases h;simp only[u,e,nK]
  .cases h
theorem Kb{out:List Spn}(x:Spn)(h:Hj none out):Hj none (kd.CN out x)/\(∀y,out.head?=some y->∃z,(kd.CN out x).head?=some z/\z.id=y.id)/\(0<x.n->EV none (kd.CN out x)=some x.id)/\(out=[]->0<x.n->(kd.CN out x).head?=some x)/\(x.n=0->kd.CN out x=out):=by
 unfold Kd.CN;rw[show(kd.μ x).1=x.n from rfl];by_cases h0:x.n=0
 .rw[Io h0];exact⟨h,fun y B=>⟨y,B,rfl⟩,fun h1=>by omega,fun _ h1=>by omega,fun _=>rfl⟩
 .rw[C3 h0];rcases kb out with rfl|⟨o,y,rfl⟩
  .simp[Hj,EV];omega
  .rw[k6] at h ⊢;obtain⟨h1,j⟩:=He.1 h;simp only[S5,X1,ki,k9];by_cases hm:y.id=x.id
   .rw[show kd.meld y x=some ⟨y.n+x.n,y.id⟩ by simp[kd,hm]];refine⟨He.2 ⟨h1,?_,j.2.1,trivial⟩,fun z i=>?_,fun _=>by simp[EV,hm],fun e=>by simp at e,fun e=>(h0 e).elim⟩
    .have:=j.1;simp only;omega
    .cases o with
     |nil=>simp at i;subst i;exact⟨_,rfl,rfl⟩
     |cons w o=>exact⟨z,by simpa using i,rfl⟩
   .rw[show kd.meld y x=none by simp[kd,hm]];refine⟨He.2 ⟨h,by omega,by simp[EV,hm],trivial⟩,fun z i=>⟨z,?_,rfl⟩,fun _=>by simp[EV],fun e=>by simp at e,fun e=>(h0 e).elim⟩;rw[List.head?_append,i];rfl
theorem JJ(l:List Spn):∀out,Hj none out->Hj none (l.foldl kd.CN out)/\(∀y,out.head?=some y->∃z,(l.foldl kd.CN out).head?=some z/\z.id=y.id):=by
 induction l with
 |nil=>exact fun out h=>⟨h,fun y i=>⟨y,i,rfl⟩⟩
 |cons x l o=>
  intro out h;obtain⟨a,b,_⟩:=Kb x h;obtain⟨c,d⟩:=o _ a;refine⟨c,fun y i=>?_⟩;obtain⟨z,B,e⟩:=b y i;obtain⟨E,j,e'⟩:=d z B;exact⟨E,j,e'.trans e⟩
theorem N1(l:List Spn)(at':Nat):∀p,Hj p l->Hj p (kd.split l at').1/\Hj none (kd.split l at').2:=by
 induction l generalizing at' with
 |nil=>intro p _;exact⟨trivial,trivial⟩
 |cons s l i=>
  intro p h;simp only[Kd.split];by_cases h0:at'=0
  .rw[Io h0];exact⟨trivial,MB h⟩
  .rw[C3 h0];obtain⟨a,b,c⟩:=h;by_cases h1:(kd.μ s).1<=at'
   .rw[Io h1];obtain⟨d,e⟩:=i (at'-(kd.μ s).1) _ c;exact⟨⟨a,b,d⟩,e⟩
   .rw[C3 h1];simp only[kd] at h1;exact⟨⟨by simp only[kd];omega,b,trivial⟩,by simp only[kd];omega,by simp,c⟩
theorem QN(y z:Option Spn)(l:List Spn)(j:∀s∈y,0<s.n)(o:∀s∈z,0<s.n) :
  (∀s∈y,∃t,(kd.melded (y.toList++l++z.toList)).head?=some t/\t.id=s.id)/\(∀s∈z,EV none (kd.melded (y.toList++l++z.toList))=some s.id):=by
 constructor
 .intro s i;cases i;have:=j s rfl;unfold Kd.melded;simp only[Option.toList_some,WJ,kS,lb];have hm:=Kb s (out:=[]) trivial;obtain⟨B,h1,E⟩:=(JJ (l++z.toList) _ hm.1).2 s (hm.2.2.2.1 rfl this);exact⟨B,h1,E⟩
 .intro s i;cases i;have:=o s rfl;unfold Kd.melded;rw[Option.toList_some,lH,lb,nO];exact(Kb s (JJ _ [] trivial).1).2.2.1 this
theorem Ib{p:Option Int}{l:List Spn}(h:Hj p l):∀s∈l,0<s.n:=by
 induction l generalizing p with
 |nil=>intro s i;simp at i
 |cons x l j=>
  intro s i;rcases I3.1 i with rfl|i
  .exact h.1
  .exact j h.2.2 s i
theorem Wy{a b M:List Spn}(ha:Hj none a)(hb:Hj none b)(hm:Hj none M)(J:∀s∈a.getLast?,∃t,M.head?=some t/\t.id=s.id)(O:∀s∈b.head?,EV none M=some s.id):Hj none (a.dropLast++M++b.tail):=by
 rw[He,He];refine⟨⟨?_,?_⟩,?_⟩
 .rcases kb a with rfl|⟨o,y,rfl⟩
  .exact trivial
  .rw[k6] at *;rw[k9];exact(He.1 ha).1
 .rw[Ps];refine⟨hm,fun s B=>?_⟩;rcases kb a with rfl|⟨o,y,rfl⟩
  .simp[EV]
  .rw[k6] at *;rw[k9];obtain⟨q,E,j⟩:=J y (by simp);have:s=q:=by rw[Option.mem_def] at B;rw[B] at E;exact kK E
   rw[this,j];exact(He.1 ha).2.2.1
 .cases b with
  |nil=>exact trivial
  |cons z b=>
   have i:=O z (by simp);have e:EV none (a.dropLast++M)=some z.id:=by
    unfold EV at i ⊢;rw[S5];cases I:M.getLast? with
    |some s=>rw[I] at i;exact i
    |none=>rw[I] at i;cases i
   rw[e];exact hb.2.2
theorem II{t:List Spn}(i j:Nat)(l:List Spn)(h:Hj none t):Hj none (kd.Bw t i j l):=by
 obtain⟨ha,o⟩:=N1 t i _ h;obtain⟨_,hb⟩:=N1 (kd.split t i).2 (j-i) _ o;obtain⟨E,I⟩:=QN (kd.split t i).1.getLast? (kd.split (kd.split t i).2 (j-i)).2.head? l (fun s B=>Ib ha s (mD B)) (fun s B=>Ib hb s (List.mem_of_head? B));exact Wy ha hb (JJ _ [] trivial).1 E I
theorem T5(x:Int)(P Q Q' R:List Int)(h1:P≠[]->Q.head?=Q'.head?/\Q≠[]/\Q'≠[])(o:R≠[]->Q.getLast?=Q'.getLast?/\Q≠[]/\Q'≠[]) :
  rn x none (P++Q++R)+rn x none Q'=rn x none (P++Q'++R)+rn x none Q:=by
 rw[LW,LW,LW x none (P++Q'),LW x none P Q'];have first:∀(p:Option Int) (Q Q':List Int),Q.head?=Q'.head?->Q≠[]->Q'≠[]->rn x p Q+rn x none Q'=rn x p Q'+rn x none Q:=by
  intro p Q Q' h B i;cases Q with
  |nil=>exact(B rfl).elim
  |cons a Q=>cases Q' with
   |nil=>exact(i rfl).elim
   |cons b Q'=>
    simp only[pH,i6] at h;subst h;simp only[rn];omega
 have I:rn x (HK none P) Q+rn x none Q'=rn x (HK none P) Q'+rn x none Q:=by
  cases P with
  |nil=>simp only[HK,pn];omega
  |cons a P=>obtain⟨j,E,a3⟩:=h1 (by simp);exact first _ _ _ j E a3
 have J:rn x (HK none (P++Q)) R=rn x (HK none (P++Q')) R:=by
  cases R with
  |nil=>rfl
  |cons a R=>
   obtain⟨j,_⟩:=o (by simp);congr 1
   unfold HK;rw[S5,S5,j]
 omega
end Spn
section
def Spn.cells(s:Spn):List Value:=[.int .i64 (s.n:Int),.int .i64 s.id]
theorem Spn.one(q:Spn):∀u∈q.cells,u.oneCell'=true:=fun u hu=>by
 simp only[Spn.cells,I3,kV,mI] at hu;rcases hu with rfl|rfl<;>rfl
theorem PI{r t:List Value}(h:r.length=E):(r++t).toArray.extract 0 E=r.toArray:=by
 subst h;simp
theorem Tc(s:Spn):BM prog Dh JN.vm [.agg s.cells.toArray] (fun v w'=>v=.tuple #[.int .i64 (s.n:Int),.int .i64 0]/\Grow w w') w:=by
 refine⟨_,[],[],rfl,by kernel_rfl,?_⟩;apply Zf;refine Bx.box fun b j hb i B=>?_;rw[AG,AH];exact AK (B.cells 0 _ rfl) ⟨rfl,i⟩
theorem VR(s:Spn){p:Nat}(h0:0<p)(h1:p<s.n)(h2:s.n<=1099511627776):BM prog Dh JN.vc [.agg s.cells.toArray,.int .i64 (p:Int)] (fun v w'=>v=.tuple #[.agg (Spn.cells ⟨p,s.id⟩).toArray,.agg (Spn.cells ⟨s.n-p,s.id⟩).toArray]/\Grow w w') w:=by
 refine⟨_,[],[],rfl,by kernel_rfl,?_⟩;apply X8;refine Bx.box fun b2 w1 Y S T=>?_;refine Bx.zero fun Z w2 a1 E U=>?_;refine Bx.zero fun b5 V a6 B X=>?_;have j:Grow V V.drew:=Mod.drew _ _;have i:=((T.grow E).grow B).grow j;have l2:=T.lt (Ty _);have l4:=U.lt (by decide);have l5:=X.lt (by decide);have z1:=S.size;have z2:=E.size;have z3:=B.size;have zd:=j.size;refine Ai (fun _ y=>y=Z\/y=b5) ?_;rw[AG,AH];refine AY ⟨i.cells 1 _ rfl,fun _ _ e=>by rcases e with e|e<;>simp only at e<;>omega⟩ ?_;refine⟨(Spn.cells ⟨p,s.id⟩).toArray,by kernel_rfl,?_⟩;show AM _ _ _;rw[AG,AH];refine AY ⟨i.cells 0 _ rfl,fun _ _ e=>by rcases e with e|e<;>simp only at e<;>omega⟩ ?_;refine Gz (by omega) (by omega) ?_;rw[AG,AH];refine AY ⟨i.cells 1 _ rfl,fun _ _ e=>by rcases e with e|e<;>simp only at e<;>omega⟩ ?_;refine⟨(Spn.cells ⟨s.n-p,s.id⟩).toArray,by kernel_rfl,?_⟩;have o:=Spn.one;refine((U.grow B).grow j).over rfl rfl (o _) fun w4 C4 I=>⟨I.mono fun _ _ e=>.inl e,?_⟩;have J:=(X.grow j).mod I fun e=>by omega
 refine J.over rfl rfl (o _) fun w5 C5 O=>⟨O.mono fun _ _ e=>.inr e,?_⟩;have Q:=C4.mod O fun e=>by omega
 refine Q.FZ rfl (C5.FZ rfl ⟨rfl,?_⟩);exact((((S.trans E).trans B).trans j).next I fun y hy e=>by omega).next O fun y hy e=>by omega
theorem TL(a b:Spn)(h1:a.n<=1099511627776)(h2:b.n<=1099511627776):BM prog Dh JN.vd [.agg a.cells.toArray,.agg b.cells.toArray] (fun v w'=>Grow w w'/\v=.tuple #[.agg (Spn.cells ⟨a.n+b.n,a.id⟩).toArray,.bool (decide (a.id=b.id))]) w:=by
 refine⟨_,[],[],rfl,by kernel_rfl,?_⟩;apply Yz;refine Bx.box fun b2 w1 U J O=>?_;refine Bx.box fun b3 w2 V I Q=>?_;refine Bx.zero fun X S Y E Z=>?_;have j:Grow S S.drew:=Mod.drew _ _;have i:=((O.grow I).grow E).grow j;have B:=(Q.grow E).grow j;have l2:=O.lt (Ty _);have l3:=Q.lt (Ty _);have z1:=J.size;have z2:=I.size;have z3:=E.size;have zd:=j.size;refine Ai (fun _ y=>y=X) ?_;rw[AG,AH];refine AY ⟨i.cells 0 _ rfl,fun _ _ e=>by simp only at e;omega⟩ ?_;rw[AG,AH];refine AY ⟨B.cells 0 _ rfl,fun _ _ e=>by simp only at e;omega⟩ ?_;refine CK (by omega) ?_;rw[AG,AH];refine AY ⟨i.cells 1 _ rfl,fun _ _ e=>by simp only at e;omega⟩ ?_;refine⟨(Spn.cells ⟨a.n+b.n,a.id⟩).toArray,by kernel_rfl,?_⟩;show AM _ _ _;rw[AG,AH];refine AY ⟨i.cells 1 _ rfl,fun _ _ e=>by simp only at e;omega⟩ ?_;rw[AG,AH];refine AY ⟨B.cells 1 _ rfl,fun _ _ e=>by simp only at e;omega⟩ ?_;rw[Al];have o:=Spn.one;refine(Z.grow j).over rfl rfl (o _) fun w4 C4 T=>⟨T,?_⟩;refine C4.FZ rfl ⟨?_,rfl⟩;exact(((J.trans I).trans E).trans j).next T fun y hy e=>by omega
def DI:AvN Spn where
 toAvK:=JN
 k:=Spn.kd
 R:=fun _ _ r x=>r=x.cells
 pb:=64
 eb:=16
 pb_le:=by decide
 eb_le:=by decide
 Epos:=by decide
 E1:=fun h=>by cases h
 rlen:=fun h=>by subst h;rfl
 rone:=fun h=>by subst h;exact Spn.one _
 rcell:=fun h=>by subst h;rfl
 rheap:=fun h _=>h
 rsub:=fun h _=>h
 zlen:=rfl
 zone:=Spn.one ⟨0,0⟩
 elP:=⟨Tryz.t378,.agg #[.int .i64 0,.int .i64 0,.int .i64 0,.int .i64 0,.int .i64 0,.int .i64 0,.int .i64 0,.bool false],by kernel_rfl,by kernel_rfl,by kernel_rfl,by kernel_rfl,by kernel_rfl,by rfl,by decide⟩
 elE:=⟨Tryz.t108,.agg #[.int .i64 0,.int .i64 0],by kernel_rfl,by kernel_rfl,by kernel_rfl,by kernel_rfl,by kernel_rfl,by rfl,by decide⟩
 field0:=fun r t w hr _ ht=>by
  have e:(Instr.field 319 (.agg (r++t).toArray) 0).run prog w=.ok (.agg ((r++t).toArray.extract 0 2)) w:=by
   have hu:=underlying319;have o:=Tryz.isAgg108;have z:∀w,(sizeOf 108).run prog w=.ok 2 w:=fun w=>by simp only[sizeOf,kD,Tryz.typeInfo108,S3,k7];rfl
   simp[Instr.field,run_underlying hu,part,o,z,asAgg]
  rw[PI (E:=2) hr] at e;exact e
 ok:=X7
 cutμ:=fun x p h0 h1=>⟨rfl,rfl,rfl⟩
 meldμ:=fun x y z h=>by
  simp only[Spn.kd] at h;split at h
  .cases h;exact⟨rfl,rfl⟩
  .cases h
 meas:=fun{C w r x} h=>by subst h;exact Tc x
 one0:=rfl
 okN:=Vy
 cells:=Spn.cells
 Rc:=nj
 cutc:=fun{w x p} h0 h1 j=>VR x h0 h1 j
 meldc:=fun {w x y} _ h1 j=>Az (TL x y h1 j) fun v w' h=>⟨h.1,Spn.cells ⟨x.n+y.n,x.id⟩,rfl,Spn.one _,by rw [h.2];by_cases e:x.id=y.id <;> simp [Spn.kd,e],fun z i=>by
  simp only[Spn.kd] at i;split at i
  .cases i;rfl
  .cases i⟩
theorem PN(l:List Int):∀v∈l.map (Value.int .i32),v.oneCell'=true:=fun v i=>by
 obtain⟨_,_,rfl⟩:=kQ.1 i;rfl
theorem ZR(a b:Ck):AB prog 164 [.agg a.cells.toArray,.agg b.cells.toArray] (fun v w'=>v=.tuple #[.agg (a.jn b).cells.toArray,.int .i64 (if a.l.length+b.l.length<=32 then 0 else 8)]/\Grow w w') w:=by
 apply YX;refine Bx.box fun b2 w1 a7 g1 B2=>?_;refine Bx.box fun b3 w2 a8 T B3=>?_;refine Bx.zero fun b4 U ak J B4=>?_;have ha:=a.le;have hb:=b.le;have l2:=B2.lt (by rw[a.len];omega);have l3:=B3.lt (by rw[b.len];omega);have l4:=B4.lt (by decide);have O:=(B2.grow T).grow J;have V:=B3.grow J;have X:Bx U b4 Ck.nil.cells:=B4;have z1:=g1.size;have z2:=T.size;have z3:=J.size;have o:=(g1.trans T).trans J;have hu:=underlying80;have hs:(prog.info? 21).map (·.size)=some 1:=by kernel_rfl
 refine Bt (O.cells 32 _ a.n) ?_;refine Bt (V.cells 32 _ b.n) ?_;rw[AR,wrap64 (by omega) (by omega),BR];refine AF (fun al=>?_) fun an=>?_
 .refine⟨Ck.nil.cells.toArray,by kernel_rfl,?_⟩;show Ac _ _ _ _ _;refine X.over (Ck.len _) (Ck.len _) (Ck.one _) fun W Y m=>?_;refine Y.FZ (Ck.len _) ⟨?_,o.next m fun y Q e=>by omega⟩;rw[C3 (by omega),Ck.jn,dif_neg (by omega)]
 have i:a.l.length+b.l.length<=32:=by omega
 have ej:a.jn b=⟨a.l++b.l,by simpa using i⟩:=qj i;refine AT (fun _ W=>W=U) ?_ ?_
 .rintro _ W rfl _;refine AT (fun _ W'=>Bx W' b2 (a.jn b).cells/\Bx W' b4 Ck.nil.cells/\Grow w W') ?_ ?_
  .rintro _ W1 ⟨D2,Y,gW⟩ _;refine D2.FZ (Ck.len _) ?_;refine Y.over (Ck.len _) (Ck.len _) (Ck.one _) fun Z E4 m=>?_;exact E4.FZ (Ck.len _) ⟨by rw[Io i],gW.next m fun y Q e=>by omega⟩
  .have B:Grow W W.drew:=Mod.drew _ _;have H2:=O.grow B;have H3:=V.grow B;have H4:=X.grow B;have zd:=B.size;have a1:(Iy a.cells a.l.length (b.l.map (Value.int .i32)))[32]?=some (.int .i64 (a.l.length:Int)):=by
    rw[MO _ _ _ (by rw[a.len,Es];omega),kH (by simp[a.len];omega),lL];have:a.l.length+(b.l.map (Value.int .i32)).length+(32-(a.cells.take a.l.length++b.l.map (Value.int .i32)).length)=32:=by simp[a.len];omega
    rw[this];exact a.n
   refine Ai (fun k y=>(k=10\/k=13)/\y=b2) ?_;simp only[AG,AH];refine AY ⟨H2.cells 32 _ a.n,fun j E e=>?_⟩ ?_
   .have a6:j∈[1,9]:=E;simp only[I3,kV,mI] at a6;omega
   refine AY ⟨H3.cells 32 _ b.n,fun j E e=>by have e2:b3=b2:=e.2;omega⟩ ?_
   repeat' first
    |with_reducible exact Mod.refl _ _
    |with_reducible refine iV ha ?_
    |with_reducible refine aL hb ?_
    |with_reducible refine AK (H2.cells 32 _ a.n) ?_
    |with_reducible refine And.intro ?_ ?_
   all_goals
    refine H2.copy hu hs (us:=b.l.map (Value.int .i32)) (by rw [Es];omega) (by
     by_cases e:b.l=[]
     .rw[e];exact .inl rfl
     .have:0<b.l.length:=lT.2 e;refine .inr ?_;rw[C3 (by omega),Es,a.len];omega) (fun j v hv=>by
     obtain ⟨E,rfl⟩:=Bp.1 hv;rw [Es] at E;rw [AH,lV];exact H3.cells j _ (b.get E)) (PN _) fun Z S m2=>⟨m2.mono fun _ _ e=>⟨by simp,e⟩,?_⟩
    have I:Bx Z b2 (Iy a.cells a.l.length (b.l.map (Value.int .i32))):=by
     by_cases e:32=a.l.length
     .have:b.l=[]:=oY.1 (by omega);rw[this] at S ⊢;exact S
     .rw[C3 e] at S;exact S
    try refine AK (I.cells 32 _ a1) ⟨Mod.refl _ _,?_⟩
    rw[Es,AR,wrap64 (by omega) (by omega)];refine I.st (q:=32) (by rw[LH,Ck.len];omega) rfl rfl fun W3 J2 m3=>⟨m3.mono fun _ _ e=>⟨by simp,e⟩,?_⟩;have ee:((a.l.length:Int)+(b.l.length:Int))=((a.l.length+b.l.length:Nat):Int):=by omega
    rw[ee,Ck.fill a i] at J2;rw[ej];exact⟨J2,(H4.mod m2 fun e=>by omega).mod m3 fun e=>by omega,((o.trans B).next m2 fun y Q e=>by omega).next m3 fun y Q e=>by omega⟩
 .rw[AG,AH];refine Aj (vs:=a.all.map (Value.int .i32)) (by rw[Es,a.Jp]) (fun j u hu=>by rw[AH];exact O.cells j u (a.gU hu)) ?_;refine Ag (v:=.agg ((List.replicate 32 (0:Int)).map (Value.int .i32)).toArray) (w':=U) (by kernel_rfl) ?_;refine gV a.Jp (by simp) fun r=>?_;cases r
  .exact AV rfl
  refine As ?_;refine Bt (O.cells 32 _ a.n) ?_;rw[Al];refine AF (fun h0=>?_) fun _=>rfl;refine V.FZ (Ck.len _) ?_;refine X.over (Ck.len _) (Ck.len _) (Ck.one _) fun Z E4 m=>?_;refine E4.FZ (Ck.len _) ⟨?_,o.next m fun y Q e=>by omega⟩;have:a.l=[]:=oY.1 (by omega);have e1:a.jn b=b:=by rw[ej];simp only[this,kS]
  rw[Io i,e1]
def Ck.kd:Kd Ck where
 μ:=fun c=>(c.l.length,Bc c.l)
 cut:=fun c p=>(c.tk p,c.dp p)
 meld:=fun a b=>if a.l.length+b.l.length<=32 then some (a.jn b) else none
theorem Ym(c:Ck):BM prog Dh Gy.vm [.agg c.cells.toArray] (fun v w'=>v=.tuple #[.int .i64 (c.l.length:Int),.int .i64 (Bc c.l:Int)]/\Grow w w') w:=by
 refine⟨_,[],[],rfl,by kernel_rfl,?_⟩;apply aU;refine Bx.box fun b i hb O B=>?_;have o:Grow i i.drew:=Mod.drew _ _;have E:=B.grow o;refine Ai (fun _ _=>False) ?_;refine CU c.len (fun j u hu=>⟨by rw[AH];exact E.cells j u hu,fun _ _ e=>e⟩) ?_;refine AA (fh c) ?_;rintro _ w2 ⟨rfl,I⟩;refine⟨I,CU c.len (fun j u hu=>⟨by rw[AH];exact E.cells j u hu,fun _ _ e=>e⟩) ?_⟩;refine AA (QJ c) ?_;rintro _ Q ⟨rfl,J⟩;exact⟨J,rfl,((O.trans o).trans I).trans J⟩
theorem cM(c:Ck){p:Nat}(h:p<=c.l.length):BM prog Dh Gy.vc [.agg c.cells.toArray,.int .i64 (p:Int)] (fun v w'=>v=.tuple #[.agg (c.tk p).cells.toArray,.agg (c.dp p).cells.toArray]/\Grow w w') w:=by
 refine⟨_,[],[],rfl,by kernel_rfl,?_⟩;apply YT;refine Bx.box fun b2 w1 a1 Y B2=>?_;refine Bx.zero fun Z w2 a6 U B4=>?_;refine Bx.zero fun b5 w3 a7 O B5=>?_;refine((B2.grow U).grow O).FZ c.len ?_;refine AA (Xe c h) ?_;rintro _ w5 ⟨rfl,Q⟩;refine Kh ?_;refine Bx.zero fun b6 w6 a8 S B6=>?_;refine Bx.zero fun b7 T ak E B7=>?_;have l4:=B4.lt (by decide);have l5:=B5.lt (by decide);have l6:=B6.lt (by decide);have z1:=Y.size;have z2:=U.size;have z3:=O.size;have z5:=Q.size;have z6:=S.size;have z7:=E.size;have C4:Bx T Z Ck.nil.cells:=(((B4.grow O).grow Q).grow S).grow E;have C5:Bx T b5 Ck.nil.cells:=((B5.grow Q).grow S).grow E;have C6:Bx T b6 Ck.nil.cells:=B6.grow E;have C7:Bx T b7 Ck.nil.cells:=B7;have V:=((((Y.trans U).trans O).trans Q).trans S).trans E;refine C6.over (Ck.len _) (Ck.len _) (Ck.one _) fun w8 D6 I=>?_;refine(C7.mod I fun e=>by omega).over (Ck.len _) (Ck.len _) (Ck.one _) fun w9 D7 J=>?_;have B:Grow w9 w9.drew:=Mod.drew _ _;have zd:=B.size;have s8:=I.size;have s9:=J.size;have E6:=(D6.mod J fun e=>by omega).grow B;have E7:=D7.grow B;have E4:=((C4.mod I fun e=>by omega).mod J fun e=>by omega).grow B;have E5:=((C5.mod I fun e=>by omega).mod J fun e=>by omega).grow B;refine Ai (fun _ y=>y=Z\/y=b5) ?_;refine CU (Ck.len _) (fun j u hu=>⟨by rw[AH];exact E6.cells j u hu,fun _ _ e=>by rcases e with e|e<;>simp only[AH] at e<;>omega⟩) ?_;refine CU (Ck.len _) (fun j u hu=>⟨by rw[AH];exact E7.cells j u hu,fun _ _ e=>by rcases e with e|e<;>simp only[AH] at e<;>omega⟩) ?_;refine E4.over (Ck.len _) (Ck.len _) (Ck.one _) fun al F4 i=>⟨i.mono fun _ _ e=>.inl e,?_⟩;refine(E5.mod i fun e=>by omega).over (Ck.len _) (Ck.len _) (Ck.one _) fun an F5 o=>⟨o.mono fun _ _ e=>.inr e,?_⟩;refine(F4.mod o fun e=>by omega).FZ (Ck.len _) (F5.FZ (Ck.len _) ⟨rfl,?_⟩);exact(((((V.next I fun y X e=>by omega).next J fun y X e=>by omega).trans B).next i fun y X e=>by omega).next o fun y X e=>by omega)
theorem aD(a b:Ck):BM prog Dh Gy.vd [.agg a.cells.toArray,.agg b.cells.toArray] (fun v w'=>Grow w w'/\v=.tuple #[.agg (a.jn b).cells.toArray,.bool (decide (a.l.length+b.l.length<=32))]) w:=by
 refine⟨_,[],[],rfl,by kernel_rfl,?_⟩;apply ai;refine Bx.box fun b2 w1 U J V=>?_;refine Bx.box fun b3 w2 X j Y=>?_;refine Bx.zero fun Z w3 a1 i O=>?_;refine((V.grow j).grow i).FZ a.len ((Y.grow i).FZ b.len ?_);refine AA (ZR a b) ?_;rintro _ w6 ⟨rfl,o⟩;refine BV ?_;refine Bx.zero fun b6 Q a6 B S=>?_;have l4:=O.lt (by decide);have l6:=S.lt (by decide);have z1:=J.size;have z2:=j.size;have z3:=i.size;have z6:=o.size;have z7:=B.size;have C4:Bx Q Z Ck.nil.cells:=(O.grow o).grow B;have C6:Bx Q b6 Ck.nil.cells:=S;have E:=(((J.trans j).trans i).trans o).trans B;refine C6.over (Ck.len _) (Ck.len _) (Ck.one _) fun w8 D6 T=>?_;refine D6.FZ (Ck.len _) ?_;rw[Al];refine(C4.mod T fun e=>by omega).over (Ck.len _) (Ck.len _) (Ck.one _) fun a7 F4 I=>?_;refine F4.FZ (Ck.len _) ⟨(E.next T fun y hy e=>by omega).next I fun y hy e=>by omega,?_⟩;by_cases h:a.l.length+b.l.length<=32
 .simp[h]
 .simp[h]
def A6:AvN Ck where
 toAvK:=Gy
 k:=Ck.kd
 R:=fun _ _ r x=>r=x.cells
 pb:=184
 eb:=136
 pb_le:=by decide
 eb_le:=by decide
 Epos:=by decide
 E1:=fun h=>by cases h
 rlen:=fun h=>by subst h;exact Ck.len _
 rone:=fun h=>by subst h;exact Ck.one _
 rcell:=fun h=>by subst h;rfl
 rheap:=fun h _=>h
 rsub:=fun h _=>h
 zlen:=rfl
 zone:=Ck.one Ck.nil
 elP:=⟨Tryz.t357,.agg (Ck.nil.cells++([.int .i64 0,.int .i64 0,.int .i64 0,.int .i64 0,.int .i64 0,.bool false]:List Value)).toArray,by kernel_rfl,by kernel_rfl,by kernel_rfl,by kernel_rfl,by kernel_rfl,by rfl,by decide⟩
 elE:=⟨Tryz.t162,.agg Ck.nil.cells.toArray,by kernel_rfl,by kernel_rfl,by kernel_rfl,by kernel_rfl,by kernel_rfl,by rfl,by decide⟩
 field0:=fun r t w hr _ ht=>by
  have e:(Instr.field 245 (.agg (r++t).toArray) 0).run prog w=.ok (.agg ((r++t).toArray.extract 0 33)) w:=by
   have hu:=underlying245;have o:=Tryz.isAgg162;have z:∀w,(sizeOf 162).run prog w=.ok 33 w:=fun w=>by simp only[sizeOf,kD,Tryz.typeInfo162,S3,k7];rfl
   simp[Instr.field,run_underlying hu,part,o,z,asAgg]
  rw[PI (E:=33) hr] at e;exact e
 ok:=Zm
 cutμ:=fun x p h0 h1=>by
  have B:p<x.l.length:=h1;refine⟨?_,?_,?_⟩
  .show(x.l.take p).length=p;rw[Mp];omega
  .show(x.l.drop p).length=x.l.length-p;rw[K8]
  .show Bc (x.l.take p)+Bc (x.l.drop p)=Bc x.l;rw[Bc,Bc,<-nE,S9]
 meldμ:=fun x y z h=>by
  simp only[Ck.kd] at h;split at h
  .rename_i j;cases h;have I:x.jn y=⟨x.l++y.l,by simpa using j⟩:=qj j;show(x.jn y).l.length=_/\Bc (x.jn y).l=_;rw[I];exact⟨Bq,nE⟩
  .cases h
 meas:=fun{C w r x} h=>by subst h;exact Ym x
 one0:=rfl
 okN:=Wl
 cells:=Ck.cells
 Rc:=nj
 cutc:=fun{w x p} h0 h1 J=>cM x (Nat.le_of_lt h1)
 meldc:=fun {w x y} _ h1 J=>Az (aD x y) fun v w' h=>⟨h.1,(x.jn y).cells,Ck.len _,Ck.one _,by
  rw[h.2];by_cases e:x.l.length+y.l.length<=32<;>simp[Ck.kd,e],fun z i=>by
  simp only[Ck.kd] at i;split at i
  .cases i;rfl
  .cases i⟩
def CS(i:Int):Nat:=if i<194 then 0 else if i<224 then 2 else if i<240 then 3 else if i<245 then 4 else 0
def JP(i:Int):Int:=if i=224 then 160 else if i=240 then 144 else 128
def I6(i:Int):Int:=if i=237 then 159 else if i=244 then 143 else 191
theorem wrap32{x:Int}(h0:-2147483648<=x)(h1:x<2147483648):IntKind.i32.wrap x=x:=by
 have i:(2:Int) ^ IntKind.i32.bits=4294967296:=by decide
 have j:(2:Int) ^ (IntKind.i32.bits-1)=2147483648:=by decide
 simp only[IntKind.wrap,i,j,IntKind.signed,nf,S6];split<;>omega
theorem E0{b:List Int}{i k:Nat}{c r:Int}(hc:b[i]?=some c)(h0:0<=r)(h1:r<16777216)(c0:0<=c)(c1:c<256):Hl b (k+1) i r=if c<128\/191<c then none else Hl b k (i+1) (r*64+c-128):=by
 simp only[Hl,hc];rw[wrap32 (x:=r*64) (by omega) (by omega),wrap32 (x:=c) (by omega) (by omega),wrap32 (x:=r*64+c) (by omega) (by omega),wrap32 (x:=r*64+c-128) (by omega) (by omega)]
theorem Vj{i:Int}(h0:240<=i)(h1:i<256):DA i=some (4,i-240):=by
 unfold DA;rw[Io h0,wrap32 (x:=i) (by omega) (by omega),wrap32 (by omega) (by omega)]
theorem bN{i:Int}(h0:224<=i)(h1:i<240):DA i=some (3,i-224):=by
 unfold DA;rw[C3 (by omega),Io h0,wrap32 (x:=i) (by omega) (by omega),wrap32 (by omega) (by omega)]
theorem VC{i:Int}(h0:192<=i)(h1:i<224):DA i=some (2,i-192):=by
 unfold DA;rw[C3 (by omega),C3 (by omega),Io h0,wrap32 (x:=i) (by omega) (by omega),wrap32 (by omega) (by omega)]
theorem LV{i:Int}{t:List Int}(h0:0<=i)(h1:i<128):Cv (i::t)=(i,1):=by
 have j:DA i=some (1,i):=by
  unfold DA;rw[C3 (by omega),C3 (by omega),C3 (by omega),C3 (by omega),wrap32 (by omega) (by omega)]
 unfold Cv;rw[Of,j];simp only[Vn,Hl,oB];rw[C3 (by omega),Io ⟨by unfold EK;omega,by unfold IF;rw[Io h1]⟩]
theorem DT{i:Int}{t:List Int}(h1:i<256)(h:(i::t).length<CS i):Cv (i::t)=(0,0):=by
 unfold Cv;rw[Of];unfold CS at h;split at h
 .omega
 split at h
 .rw[VC (by omega) (by omega)];simp only;rw[Io h]
 split at h
 .rw[bN (by omega) (by omega)];simp only;rw[Io h]
 split at h
 .rw[Vj (by omega) (by omega)];simp only;rw[Io h]
 .omega
theorem SH{b:List Int}:∀{k i:Nat} {r x:Int},Hl b k i r=some x->(∀y∈b,0<=y/\y<256)->0<=r->r*64 ^ k<1073741824->k<=3->r*64 ^ k<=x/\x<=r*64 ^ k+64 ^ k-1:=by
 intro k;induction k with
 |zero=>intro i r x h _ _ _ _;simp only[Hl] at h;cases h;simp
 |succ k E=>
  intro i r x h hb h0 h1 hk;cases hc:b[i]? with
  |none=>simp[Hl,hc] at h
  |some c=>
   have o:=hb c (lY.2 ⟨i,hc⟩);have e:(64:Int) ^ (k+1)=64*64 ^ k:=by rw[Int.pow_succ];omega
   rw[e] at h1;have hp:(1:Int)<=64 ^ k:=by
    rcases(show k=0\/k=1\/k=2 by omega) with rfl|rfl|rfl<;>decide
   have B:r*(64*64 ^ k)=(r*64)*64 ^ k:=by rw[Int.mul_assoc]
   rw[B] at h1;have hr:r*64<=r*64*64 ^ k:=by
    have:=Int.mul_le_mul_of_nonneg_left hp (show 0<=r*64 by omega);omega
   rw[E0 hc h0 (by omega) o.1 o.2] at h;split at h
   .cases h
   .rename_i I;have J:(r*64+c-128)*64 ^ k=r*64*64 ^ k+(c-128)*64 ^ k:=by rw[show r*64+c-128=r*64+(c-128) by omega,Int.add_mul]
    have O:(c-128)*64 ^ k<=63*64 ^ k:=oz (by omega) (by omega);have Q:0<=(c-128)*64 ^ k:=Int.mul_nonneg (by omega) (by omega);have S:(64:Int) ^ k<=4096:=by
     rcases(show k=0\/k=1\/k=2 by omega) with rfl|rfl|rfl<;>decide
    by_cases j:(r*64+c-128)*64 ^ k<1073741824
    .have:=E h hb (by omega) j (by omega);rw[e,B];omega
    .exfalso;rw[J] at j;have T:r*64*64 ^ k<=1073741824-64*64 ^ k:=by
      rcases(show k=0\/k=1\/k=2 by omega) with rfl|rfl|rfl
      .simp only[Int.pow_zero] at *;omega
      .simp only[Int.pow_one] at *;omega
      .rw[show(64:Int) ^ 2=4096 by decide] at *;omega
     omega
theorem Pq{i:Int}{t:List Int}(hb:∀y∈i::t,0<=y/\y<256)(h0:128<=i)(h:CS i=0):Cv (i::t)=(0,0):=by
 have h1:=(hb i kf).2;have hc:i<194\/245<=i:=by
  unfold CS at h
  (repeat' split at h)<;>omega
 unfold Cv;rw[Of];by_cases E:i<192
 .have B:DA i=none:=by
   unfold DA;rw[C3 (by omega),C3 (by omega),C3 (by omega),Io h0]
  rw[B]
 by_cases I:i<194
 .rw[VC (by omega) (by omega)];simp only;split
  .rfl
  .split
   .rfl
   .rename_i x j;have:=SH j hb (by omega) (by omega) (by omega);rw[C3];rintro⟨_,o⟩;unfold IF at o;rw[Io (by omega)] at o;omega
 .rw[Vj (by omega) (by omega)];simp only;split
  .rfl
  .split
   .rfl
   .rename_i x j;have:=SH j hb (by omega) (by omega) (by omega);rw[C3];rintro⟨hm,_⟩;unfold EK at hm;omega
theorem Xr{j c1:Int}{t:List Int}(h:CS j=2)(c0:0<=c1)(c2:c1<256) :
  Cv (j::c1::t)=if JP j<=c1/\c1<=I6 j then((j-192)*64+(c1-128),2) else(0,0):=by
 have hb:194<=j/\j<224:=by
  unfold CS at h
  (repeat' split at h)<;>omega
 have hl:JP j=128:=by unfold JP;rw[C3 (by omega),C3 (by omega)]
 have o:I6 j=191:=by unfold I6;rw[C3 (by omega),C3 (by omega)]
 unfold Cv;rw[Of,VC (by omega) (by omega)];simp only;rw[C3 (by simp),E0 (b:=j::c1::t) (i:=1) (c:=c1) rfl (by omega) (by omega) c0 c2,hl,o];by_cases hc:c1<128\/191<c1
 .rw[Io hc,C3 (by omega)]
 .rw[C3 hc,Io (by omega)];simp only[Hl];rw[Io ⟨by unfold EK;omega,by unfold IF;rw[C3 (by omega),Io (by omega)]⟩];congr 1;omega
theorem XP{j c1 c2:Int}{t:List Int}(h:CS j=3)(c0:0<=c1)(B:c1<256)(O:0<=c2)(E:c2<256) :
  Cv (j::c1::c2::t)=if(JP j<=c1/\c1<=I6 j)/\128<=c2/\c2<=191 then((j-224)*4096+(c1-128)*64+(c2-128),3) else(0,0):=by
 have hb:224<=j/\j<240:=by
  unfold CS at h
  (repeat' split at h)<;>omega
 have hl:JP j=if j=224 then 160 else 128:=by
  unfold JP;split
  .rfl
  .rw[C3 (by omega)]
 have Q:I6 j=if j=237 then 159 else 191:=by
  unfold I6;split
  .rfl
  .rw[C3 (by omega)]
 unfold Cv;rw[Of,bN (by omega) (by omega)];simp only;rw[C3 (by simp),E0 (b:=j::c1::c2::t) (i:=1) (c:=c1) rfl (by omega) (by omega) c0 B,hl,Q];by_cases hc:c1<128\/191<c1
 .rw[Io hc,C3];rintro⟨⟨h1,I⟩,_⟩;split at h1<;>split at I<;>omega
 rw[C3 hc,E0 (b:=j::c1::c2::t) (i:=2) (c:=c2) rfl (by omega) (by omega) O E];by_cases J:c2<128\/191<c2
 .rw[Io J,C3 (by omega)]
 rw[C3 J];simp only[Hl];by_cases ha:((if j=224 then(160:Int) else 128)<=c1/\c1<=(if j=237 then(159:Int) else 191))
 .have S:=(show(_/\128<=c2/\c2<=191) from⟨ha,by omega⟩);rw[Io S,Io]
  .congr 1;omega
  .obtain⟨h1,I⟩:=ha;refine⟨?_,?_⟩
   .unfold EK;split at h1<;>split at I<;>omega
   .unfold IF;rw[C3 (by split at h1<;>omega),C3 (by split at h1<;>omega),Io (by omega)]
 .rw[C3 (fun x:(_/\128<=c2/\c2<=191)=>ha x.1),C3];rintro⟨hm,o⟩;apply ha;unfold EK at hm;have:¬(j-224)*64*64+(c1-128)*64+c2-128<2048:=by
   intro T;unfold IF at o;split at o
   .cases o
   .split at o
    .cases o
    .omega
  constructor
  .split<;>omega
  .split<;>omega
theorem Wo{j c1 c2 o:Int}{t:List Int}(h:CS j=4)(c0:0<=c1)(E:c1<256)(S:0<=c2)(I:c2<256)(e0:0<=o)(J:o<256) :
  Cv (j::c1::c2::o::t)=if(JP j<=c1/\c1<=I6 j)/\(128<=c2/\c2<=191)/\128<=o/\o<=191 then((j-240)*262144+(c1-128)*4096+(c2-128)*64+(o-128),4) else(0,0):=by
 have hb:240<=j/\j<245:=by
  unfold CS at h
  (repeat' split at h)<;>omega
 have hl:JP j=if j=240 then 144 else 128:=by unfold JP;rw[C3 (by omega)]
 have T:I6 j=if j=244 then 143 else 191:=by unfold I6;rw[C3 (by omega)]
 unfold Cv;rw[Of,Vj (by omega) (by omega)];simp only;rw[C3 (by simp),E0 (b:=j::c1::c2::o::t) (i:=1) (c:=c1) rfl (by omega) (by omega) c0 E,hl,T];by_cases hc:c1<128\/191<c1
 .rw[Io hc,C3];rintro⟨⟨h1,O⟩,_⟩;split at h1<;>split at O<;>omega
 rw[C3 hc,E0 (b:=j::c1::c2::o::t) (i:=2) (c:=c2) rfl (by omega) (by omega) S I];by_cases Q:c2<128\/191<c2
 .rw[Io Q,C3 (by omega)]
 rw[C3 Q,E0 (b:=j::c1::c2::o::t) (i:=3) (c:=o) rfl (by omega) (by omega) e0 J];by_cases he:o<128\/191<o
 .rw[Io he,C3 (by omega)]
 rw[C3 he];simp only[Hl];by_cases ha:((if j=240 then(144:Int) else 128)<=c1/\c1<=(if j=244 then(143:Int) else 191))
 .have U:=(show(_/\(128<=c2/\c2<=191)/\128<=o/\o<=191) from⟨ha,by omega⟩);rw[Io U,Io]
  .congr 1;omega
  .obtain⟨h1,O⟩:=ha;refine⟨?_,?_⟩
   .unfold EK;split at h1<;>split at O<;>omega
   .unfold IF;rw[C3 (by split at h1<;>omega),C3 (by split at h1<;>omega),C3 (by split at h1<;>omega)]
 .rw[C3 (fun x:(_/\(128<=c2/\c2<=191)/\128<=o/\o<=191)=>ha x.1),C3];rintro⟨hm,B⟩;apply ha;unfold EK at hm;have:¬((j-240)*64+(c1-128))*64*64+(c2-128)*64+o-128<65536:=by
   intro V;unfold IF at B;split at B
   .cases B
   .split at B
    .cases B
    .split at B
     .cases B
     .omega
  constructor
  .split<;>omega
  .split<;>omega
theorem JA{b:List Int}(hb:b≠[]):(Bs b).isSome=(decide ((Cv b).2≠0)&&(Bs (b.drop (Cv b).2)).isSome):=by
 rw[Mj hb];by_cases h:(Cv b).2=0
 .simp[h]
 .simp[h]
theorem Nq:Bs ([]:List Int)=some []:=by simp[Bs,Jy]
theorem RQ:∀{k:Nat} {b:List Int},k<=b.length->(∀j x,j<k->b[j]?=some x->0<=x/\x<128)->(Bs b).isSome=(Bs (b.drop k)).isSome:=by
 intro k;induction k with
 |zero=>intro b _ _;rw[lh]
 |succ k i=>
  intro b hk h;cases b with
  |nil=>simp at hk
  |cons o t=>
   have h0:=h 0 o (by omega) rfl;rw[JA (by simp),LV h0.1 h0.2];simp only[lZ];simp only[ne_eq,Nat.one_ne_zero,not_false_eq_true,decide_true,nf,lh];exact i (by simpa using hk) fun j x E B=>h (j+1) x (by omega) B
theorem RJ(n:Nat):(FloatKind.f64.format.order n n != some .eq)=decide (Gc (n:Int)):=by
 have h1:Ieee.double.signWeight=9223372036854775808:=by decide
 have j:Ieee.double.infRung=9218868437227405312:=by decide
 have o:Ieee.double.binade=4503599627370496:=by decide
 have B:Gc (n:Int)↔9218868437227405312<n%9223372036854775808:=by
  unfold Gc;rw[Int.tmod_eq_emod_of_nonneg (by omega)];omega
 have i:∀x:Int,compare x x=.eq:=fun x=>by simp[compare,compareOfLessAndEq]
 have E:∀x:Nat,compare x x=.eq:=fun x=>by simp[compare,compareOfLessAndEq]
 rw[show decide (Gc (n:Int))=decide (9218868437227405312<n%9223372036854775808) from o0.2 B];show((Ieee.double.read n).order (Ieee.double.read n) != some .eq)=_;unfold Ieee.Format.read;simp only[h1,j,o];split
 .rename_i I;have:¬9218868437227405312<n%9223372036854775808:=by omega
  simp only[Ieee.Datum.order,i,kX this];rfl
 .split
  .have:¬9218868437227405312<n%9223372036854775808:=by omega
   simp only[Ieee.Datum.order,i,kX this];rfl
  .split
   .have:¬9218868437227405312<n%9223372036854775808:=by omega
    simp only[Ieee.Datum.order,E,kX this];rfl
   .have:9218868437227405312<n%9223372036854775808:=by omega
    simp only[Ieee.Datum.order,kj this];rfl
def IZ(x:Int):Prop:=0<=x/\x<18446744073709551616
def MK(a b:Int):Int:=((a.toNat ||| b.toNat:Nat):Int)
theorem Gq{x:Int}(h:IZ x):IntKind.u64.wrap x=x:=by
 have i:(2:Int) ^ IntKind.u64.bits=18446744073709551616:=by decide
 unfold IZ at h;simp only[IntKind.wrap,i,IntKind.signed,og];rw[C3 (by decide)];omega
theorem gz{a b:Int}(ha:IZ a)(hb:IZ b):((BitVec.ofInt 64 a ||| BitVec.ofInt 64 b).toNat:Int)=MK a b:=by
 unfold IZ at ha hb;unfold MK;rw[BitVec.toNat_or,lx,lx];have e:((2 ^ 64:Nat):Int)=18446744073709551616:=by decide
 rw[e,mN ha.1 ha.2,mN hb.1 hb.2]
theorem bv_and{a b:Int}(ha:IZ a)(hb:IZ b):((BitVec.ofInt 64 a &&& BitVec.ofInt 64 b).toNat:Int)=((a.toNat &&& b.toNat:Nat):Int):=by
 unfold IZ at ha hb;rw[BitVec.toNat_and,lx,lx];have e:((2 ^ 64:Nat):Int)=18446744073709551616:=by decide
 rw[e,mN ha.1 ha.2,mN hb.1 hb.2]
theorem Ea{a b:Int}(ha:IZ a)(hb:IZ b):IZ (MK a b):=by
 unfold IZ at *;unfold MK;have:a.toNat ||| b.toNat<2 ^ 64:=Nat.or_lt_two_pow (by omega) (by omega)
 omega
def Tz(x:Int)(j:Nat):Prop:=x.toNat.testBit (8*j+7)=true
theorem Tz.l{a b:Int}(h:Tz a j):Tz (MK a b) j:=by
 unfold Tz MK at *;rw[lI,Nat.testBit_or,h,Bool.true_or]
theorem Tz.r{a b:Int}(h:Tz b j):Tz (MK a b) j:=by
 unfold Tz MK at *;rw[lI,Nat.testBit_or,h,Bool.or_true]
theorem Wz{x:Int}(i:j<8)(h0:128<=x)(h1:x<256):IZ (x*2 ^ (8*j))/\Tz (x*2 ^ (8*j)) j:=by
 obtain⟨n,rfl⟩:∃n:Nat,x=n:=⟨x.toNat,by omega⟩;have e:((n:Int)*2 ^ (8*j))=((n*2 ^ (8*j):Nat):Int):=by rw[Int.natCast_mul,Int.natCast_pow];rfl
 have hp:n*2 ^ (8*j)<2 ^ (8+8*j):=by
  rw[Nat.pow_add];exact pQ (by omega) (Nat.pow_pos (by decide))
 have o:2 ^ (8+8*j)<=2 ^ 64:=qd (by decide) (by omega);refine⟨?_,?_⟩
 .rw[e];unfold IZ;omega
 .rw[e];unfold Tz;rw[lI,Nat.testBit_mul_two_pow];simp only[show 8*j<=8*j+7 by omega,decide_true,nf,show 8*j+7-8*j=7 by omega];rw[Nat.testBit_eq_decide_div_mod_eq];rw[S6];omega
theorem WS{x:Int}(i:j<8)(h0:0<=x)(h1:x<256):IZ (x*2 ^ (8*j)):=by
 obtain⟨n,rfl⟩:∃n:Nat,x=n:=⟨x.toNat,by omega⟩;have e:((n:Int)*2 ^ (8*j))=((n*2 ^ (8*j):Nat):Int):=by rw[Int.natCast_mul,Int.natCast_pow];rfl
 have hp:n*2 ^ (8*j)<2 ^ (8+8*j):=by
  rw[Nat.pow_add];exact pQ (by omega) (Nat.pow_pos (by decide))
 have o:2 ^ (8+8*j)<=2 ^ 64:=qd (by decide) (by omega);rw[e];unfold IZ;omega
theorem Vi{x:Int}(h:x.toNat &&& 9259542123273814144=0)(o:j<8):¬Tz x j:=by
 intro i;unfold Tz at i;have:(x.toNat &&& 9259542123273814144).testBit (8*j+7)=true:=by
  rw[Nat.testBit_and,i,nf];rcases(show j=0\/j=1\/j=2\/j=3\/j=4\/j=5\/j=6\/j=7 by omega) with rfl|rfl|rfl|rfl|rfl|rfl|rfl|rfl<;>decide
 rw[h,Nat.zero_testBit] at this;cases this
variable {v0 v1 v2 v3 v4 v5 v6 v7 v8 v9:Value}{K:Cont}{w:World}
theorem ag(h: Bh 77 v2 (fun t5 U=>
 AB prog 131 [v0,v1] (fun i w2=>
 AQ 0 i fun j=>
 AQ 1 i fun o=>
 Am 65 [(.int .i64 0),(.bool false),(.int .u8 0),(.bool false),(.bool false),(.int .i64 0)] (fun S V=>
 Ac 6 S j (fun w4=>
 AD o
 (AM 2 S fun B=>
 AL B (fun E X=>
 AM 0 t5 fun I=>
 AL I (fun J T=>
 DJ .u8 E J fun O=>
 AD O
 (Af 4 t5 (fun Q Y=>
 AB prog 208 [Q] (fun t25 Z=>
 K t25 Z) Y) T)
 (K (.bool false) T)) X) w4)
 (K (.bool false) w4)) V) w2) U) w):AB prog 209 [v0,v1,v2] K w:=cO (aN (aN aE)) func209 h (by kernel_rfl)
theorem ZV(h: Bh 77 v0 (fun o w1=>
 AM 0 o fun t5=>
 AL t5 (fun E w2=>
 DJ .u8 E (.int .u8 1) fun t8=>
 AD t8
 (Cg w2 (fun C=>
 FT C 4 o fun t9=>
 AM 1 o fun I=>
 BJ C I fun J=>
 DJ .i64 J (.int .i64 1) fun O=>
 Fa prog C 254 [O] fun Q=>
 Bk prog C (BX .eql 77 (.tmp 9) (.tmp 13) t9 Q) fun S=>
 ∀w3:World,C w3->
 K S w3))
 (DJ .u8 E (.int .u8 2) fun T=>
 AD T
 (Cg w2 (fun j=>
 FT j 4 o fun U=>
 AM 1 o fun V=>
 BJ j V fun X=>
 Fa prog j 255 [X] fun Y=>
 Bk prog j (BX .eql 77 (.tmp 17) (.tmp 20) U Y) fun Z=>
 ∀w4:World,j w4->
 K Z w4))
 (DJ .u8 E (.int .u8 3) fun a1=>
 AD a1
 (Cg w2 (fun i=>
 FT i 4 o fun a6=>
 AM 2 o fun t25=>
 BJ i t25 fun a7=>
 bF prog i 257 [a7] fun a8=>
 Fa prog i 256 [a8] fun ak=>
 Bk prog i (BX .eql 77 (.tmp 24) (.tmp 28) a6 ak) fun al=>
 ∀w5:World,i w5->
 K al w5))
 (DJ .u8 E (.int .u8 4) fun an=>
 AD an
 (AM 3 o fun av=>
 AL av (fun ax w6=>
 AB prog 258 [ax] (fun B w7=>
 AQ 0 B fun ay=>
 AQ 1 B fun b0=>
 Am 77 [(.int .u8 0),(.int .i64 0),(.int .u64 0),(.string (ByteArray.mk #[]))] (fun t3 w8=>
 Ac 4 t3 ay (fun w9=>
 DJ .i64 b0 (.int .i64 0) fun t39=>
 AD t39
 (Af 4 o (fun b3 b4=>
 Af 4 t3 (fun b5 b6=>
 runK prog (BX .eql 77 (.tmp 41) (.tmp 42) b3 b5) (fun b7 b8=>
 K b7 b8) b6) b4) w9)
 (K (.bool false) w9)) w8) w7) w6) w2)
 (K (.bool false) w2))))) w1) w):AB prog 208 [v0] K w:=cO (aN (aO (aN (aN (aO (aO .draw .nil) (aN (aO (aO .draw .nil) (aN (aO (aO .draw .nil) (aN (aO (aN aE) .nil))))))))) aE)) func208 h (by kernel_rfl)
theorem aS(h: Am 77 [(.int .u8 0),(.int .i64 0),(.int .u64 0),(.string (ByteArray.mk #[]))] (fun o I=>
 Ah [(0,1),(1,1),(2,1),(3,1)] [(.int .u8 0),(.int .i64 0),(.int .u64 0),(.string (ByteArray.mk #[]))] [(0,(.int .u8 1))] fun t4=>
 Am 77 [(.int .u8 0),(.int .i64 0),(.int .u64 0),(.string (ByteArray.mk #[]))] (fun t3 w2=>
 Ac 4 t3 t4 (fun E=>
 AD v0
 (AM 1 t3 fun J=>
 BC J (.int .i64 1) (fun w4=>
 Af 4 t3 (fun O Q=>
 Ac 4 o O (fun S=>
 Af 4 o (fun T U=>
 K T U) S) Q) w4) E)
 (Af 4 t3 (fun i V=>
 Ac 4 o i (fun X=>
 Af 4 o (fun j B=>
 K j B) X) V) E)) w2) I) w):AB prog 254 [v0] K w:=cO (aN (aN (aO (aN aE) aE))) func254 h (by kernel_rfl)
theorem ae(h: Am 77 [(.int .u8 0),(.int .i64 0),(.int .u64 0),(.string (ByteArray.mk #[]))] (fun i j=>
 Ah [(0,1),(1,1),(2,1),(3,1)] [(.int .u8 0),(.int .i64 0),(.int .u64 0),(.string (ByteArray.mk #[]))] [(0,(.int .u8 2)),(1,v0)] fun t4=>
 Ac 4 i t4 (fun w2=>
 Af 4 i (fun o B=>
 K o B) w2) j) w):AB prog 255 [v0] K w:=cO (aN aE) func255 h (by kernel_rfl)
theorem X0(h: Am 77 [(.int .u8 0),(.int .i64 0),(.int .u64 0),(.string (ByteArray.mk #[]))] (fun j o=>
 AB prog 284 [v0] (fun t4 w2=>
 AD t4
 (Ah [(0,1),(1,1),(2,1),(3,1)] [(.int .u8 0),(.int .i64 0),(.int .u64 0),(.string (ByteArray.mk #[]))] [(0,(.int .u8 3)),(2,(.int .u64 9221120237041090560))] fun t5=>
 Ac 4 j t5 (fun B=>
 Af 4 j (fun E w4=>
 K E w4) B) w2)
 (bO prog 285 [v0] (fun I J=>
 Ah [(0,1),(1,1),(2,1),(3,1)] [(.int .u8 0),(.int .i64 0),(.int .u64 0),(.string (ByteArray.mk #[]))] [(0,(.int .u8 3)),(2,I)] fun O=>
 Ac 4 j O (fun Q=>
 Af 4 j (fun i S=>
 K i S) Q) J) w2)) o) w):AB prog 256 [v0] K w:=cO (aN (aO (aN (aO aE .nil)) aE)) func256 h (by kernel_rfl)
theorem Zj(h: Am 77 [(.int .u8 0),(.int .i64 0),(.int .u64 0),(.string (ByteArray.mk #[]))] (fun i S=>
 L6 v0 fun U=>
 Eu .i64 U (.int .i64 64) fun V=>
 AD V
 (Ah [(0,1),(1,1),(2,1),(3,1)] [(.int .u8 0),(.int .i64 0),(.int .u64 0),(.string (ByteArray.mk #[]))] [] fun t9=>
 Ac 4 i t9 (fun w2=>
 Af 4 i (fun X Y=>
 K (.tuple #[X,(.int .i64 3)]) Y) w2) S)
 (runK prog (convert 9 293 v0) (fun I w4=>
 AB prog 286 [I] (fun j T=>
 AQ 0 j fun _t14=>
 AQ 1 j fun o=>
 EB .i64 o (.int .i64 0) fun J=>
 AD J
 (Ah [(0,1),(1,1),(2,1),(3,1)] [(.int .u8 0),(.int .i64 0),(.int .u64 0),(.string (ByteArray.mk #[]))] [] fun O=>
 Ac 4 i O (fun Z=>
 Af 4 i (fun B w7=>
 K (.tuple #[B,o]) w7) Z) T)
 (Ah [(0,1),(1,1),(2,1),(3,1)] [(.int .u8 0),(.int .i64 0),(.int .u64 0),(.string (ByteArray.mk #[]))] [(0,(.int .u8 4)),(3,v0)] fun Q=>
 Ac 4 i Q (fun w8=>
 Af 4 i (fun E w9=>
 K (.tuple #[E,(.int .i64 0)]) w9) w8) T)) w4) S)) w):AB prog 258 [v0] K w:=cO (aN (aO (aN (aO aE .nil)) (aO (aN (aN (aO aE .nil))) aE))) func258 h (by kernel_rfl)
theorem Zd(h: runK prog (BX .neq 333 (.tmp 3) (.tmp 4) v0 v0) (fun t5 i=>
 K t5 i) w):AB prog 284 [v0] K w:=cO (aN aE) func284 h (by kernel_rfl)
theorem YP(h: AB prog 297 [v0] (fun T Q=>
 CE T fun t9=>
 AD t9
 (K (.tuple #[(.slice none 0 0),(.int .i64 3)]) Q)
 (runK prog (convert 293 9 v0) (fun o w2=>
 runK prog (Instr.range 9 o) (fun B U=>
 Aq [(.slice none 0 0)] (fun vs i w4=>∀_:Env,
 runK prog (Instr.next B true 0) (fun j S=>
 AQ 0 j fun E=>
 AD E
 (AQ 2 j fun I=>
 Bg 21 1 1 [(.int .i32 0)] [(0,I)] (fun J V=>
 runK prog (Builtin.append_ #[80,80] 80 [(nth vs 0),J].toArray) (fun O X=>
 i [O] X) V) S)
 (K (.tuple #[(nth vs 0),(.int .i64 0)]) S)) w4) U) w2) Q)) w):AB prog 286 [v0] K w:=cO (aN (aO (aN (aO aE .nil)) (aN (aO (aN (.node [4] [(4,4),(6,6),(13,19)] (aN (aO aE aE)) .nil)) aE)))) func286 h (by kernel_rfl)
theorem ab(h: Ae v0 fun t9=>
 Ae v0 fun eC=>
 runK prog (Instr.sliceAt 293 v0 none (some t9) (some eC)) (fun eI w1=>
 Aq [eI] (fun vs i w2=>∀_:Env,
 Ae (nth vs 0) fun eL=>
 Eu .i64 eL (.int .i64 0) fun eN=>
 AD eN
 (BQ 1 (nth vs 0) (.int .i64 0) fun eR=>
 AL eR (fun Z w3=>
 Bb .u8 Z (.int .u8 128) fun eX=>
 AD eX
 (runK prog (Instr.sliceAt 293 (nth vs 0) (some (.int .i64 1)) none none) (fun t22 w4=>
 Ao (fun a1 w5=>∀_:Env,
 AD (nth a1 0)
 (runK prog (Instr.sliceAt 293 t22 (some (.int .i64 8)) none none) (fun O w6=>
 Ao (fun a6 w7=>∀_:Env,
 AD (nth a6 0)
 (runK prog (Instr.sliceAt 293 O (some (.int .i64 16)) none none) (fun fa w8=>
 Aq [fa] (fun o Q w9=>∀_:Env,
 Cg w9 (fun C=>
 Ae (nth o 0) fun t50=>
 Eu .i64 t50 (.int .i64 32) fun fs=>
 AD fs
 (Fa prog C 300 [(nth o 0)] fun fv=>
 Bk prog C (Instr.sliceAt 293 (nth o 0) (some (.int .i64 8)) none none) fun ga=>
 Fa prog C 300 [ga] fun gb=>
 Bk prog C (BX .or 12 (.tmp 54) (.tmp 57) fv gb) fun gd=>
 Bk prog C (Instr.sliceAt 293 (nth o 0) (some (.int .i64 16)) none none) fun gf=>
 Fa prog C 300 [gf] fun gg=>
 Bk prog C (Instr.sliceAt 293 (nth o 0) (some (.int .i64 24)) none none) fun gl=>
 Fa prog C 300 [gl] fun gm=>
 Bk prog C (BX .or 12 (.tmp 61) (.tmp 64) gg gm) fun gw=>
 Bk prog C (BX .or 12 (.tmp 58) (.tmp 65) gd gw) fun t66=>
 Bk prog C (BX .and 12 (.tmp 66) (.const (.int .u64 9259542123273814144)) t66 (.int .u64 9259542123273814144)) fun gA=>
 DJ .u64 gA (.int .u64 0) fun gB=>
 ∀T:World,C T->
 AD gB
 (runK prog (Instr.sliceAt 293 (nth o 0) (some (.int .i64 32)) none none) (fun gW h0=>
 Q [gW] h0) T)
 (i [(nth o 0)] T))
 (∀ a7:World,C a7->
 i [(nth o 0)] a7))) w8) w7)
 (i [O] w7)) (fun a8=>
 Cg w6 (fun E=>
 Ae O fun h2=>
 Eu .i64 h2 (.int .i64 16) fun h3=>
 AD h3
 (Fa prog E 300 [O] fun t39=>
 Bk prog E (Instr.sliceAt 293 O (some (.int .i64 8)) none none) fun h4=>
 Fa prog E 300 [h4] fun h5=>
 Bk prog E (BX .or 12 (.tmp 39) (.tmp 42) t39 h5) fun h6=>
 Bk prog E (BX .and 12 (.tmp 43) (.const (.int .u64 9259542123273814144)) h6 (.int .u64 9259542123273814144)) fun h7=>
 DJ .u64 h7 (.int .u64 0) fun t45=>
 ∀ak:World,E ak->
 a8 [t45] ak)
 (∀ al:World,E al->
 a8 [(.bool false)] al)))) w5)
 (i [t22] w5)) (fun J=>
 Ae t22 fun h8=>
 Eu .i64 h8 (.int .i64 8) fun t25=>
 AD t25
 (AB prog 300 [t22] (fun h9 hd=>
 runK prog (BX .and 12 (.tmp 28) (.const (.int .u64 9259542123273814144)) h9 (.int .u64 9259542123273814144)) (fun hf hg=>
 DJ .u64 hf (.int .u64 0) fun hh=>
 J [hh] hg) hd) w4)
 (J [(.bool false)] w4))) w3)
 (runK prog (Instr.indexAt 381 (.pointer (some ⟨1,0,none⟩)) Z) (fun hj hn=>
 AL hj (fun an ho=>
 runK prog (BX .and 5 (.tmp 75) (.const (.int .u8 7)) an (.int .u8 7)) (fun t76 hq=>
 runK prog (convert 5 3 t76) (fun t77 hs=>
 runK prog (BX .shr 5 (.tmp 78) (.const (.int .u64 4)) an (.int .u64 4)) (fun hv hx=>
 runK prog (Instr.indexAt 384 (.pointer (some ⟨2,0,none⟩)) hv) (fun hy hz=>
 Af 2 hy (fun hA hB=>
 Am 383 [(.int .u8 0),(.int .u8 0)] (fun U hD=>
 Ac 2 U hA (fun S=>
 DJ .i64 t77 (.int .i64 2) fun hE=>
 AD hE
 (Ao (fun _vs_4 hF=>∀_:Env,
 runK prog (Instr.sliceAt 293 (nth vs 0) (some (.int .i64 2)) none none) (fun av hG=>
 i [av] hG) hF) (fun hI=>
 Cg S (fun I=>
 Ae (nth vs 0) fun hK=>
 Bb .i64 hK (.int .i64 2) fun hL=>
 AD hL
 (∀ ax:World,I ax->
 K (.bool false) ax)
 (BQ 1 (nth vs 0) (.int .i64 1) fun hM=>
 BJ I hM fun hN=>
 AM 0 U fun hP=>
 BJ I hP fun hQ=>
 Bb .u8 hN hQ fun hR=>
 AD hR
 (∀ ay:World,I ay->
 K (.bool false) ay)
 (AM 1 U fun hS=>
 BJ I hS fun hT=>
 BQ 1 (nth vs 0) (.int .i64 1) fun b0=>
 BJ I b0 fun b3=>
 Bb .u8 hT b3 fun b4=>
 ∀V:World,I V->
 AD b4
 (K (.bool false) V)
 (hI [] V))))))
 (DJ .i64 t77 (.int .i64 3) fun b5=>
 AD b5
 (Ao (fun _vs_5 hV=>∀_:Env,
 runK prog (Instr.sliceAt 293 (nth vs 0) (some (.int .i64 3)) none none) (fun b6 hW=>
 i [b6] hW) hV) (fun hX=>
 Cg S (fun B=>
 Ae (nth vs 0) fun b7=>
 Bb .i64 b7 (.int .i64 3) fun b8=>
 AD b8
 (∀ b9:World,B b9->
 K (.bool false) b9)
 (BQ 1 (nth vs 0) (.int .i64 1) fun ba=>
 BJ B ba fun bb=>
 AM 0 U fun bc=>
 BJ B bc fun bd=>
 Bb .u8 bb bd fun bk=>
 AD bk
 (∀ bl:World,B bl->
 K (.bool false) bl)
 (AM 1 U fun bn=>
 BJ B bn fun bp=>
 BQ 1 (nth vs 0) (.int .i64 1) fun bs=>
 BJ B bs fun bx=>
 Bb .u8 bp bx fun c4=>
 AD c4
 (∀ c6:World,B c6->
 K (.bool false) c6)
 (BQ 1 (nth vs 0) (.int .i64 2) fun c7=>
 BJ B c7 fun c8=>
 Bb .u8 c8 (.int .u8 128) fun c9=>
 AD c9
 (∀ ca:World,B ca->
 K (.bool false) ca)
 (BQ 1 (nth vs 0) (.int .i64 2) fun cc=>
 BJ B cc fun cd=>
 Bb .u8 (.int .u8 191) cd fun ch=>
 ∀X:World,B X->
 AD ch
 (K (.bool false) X)
 (hX [] X))))))))
 (DJ .i64 t77 (.int .i64 4) fun cn=>
 AD cn
 (Ao (fun _vs_6 hY=>∀_:Env,
 runK prog (Instr.sliceAt 293 (nth vs 0) (some (.int .i64 4)) none none) (fun cv ih=>
 i [cv] ih) hY) (fun il=>
 Cg S (fun j=>
 Ae (nth vs 0) fun cx=>
 Bb .i64 cx (.int .i64 4) fun dk=>
 AD dk
 (∀ dv:World,j dv->
 K (.bool false) dv)
 (BQ 1 (nth vs 0) (.int .i64 1) fun dT=>
 BJ j dT fun e1=>
 AM 0 U fun e2=>
 BJ j e2 fun e3=>
 Bb .u8 e1 e3 fun e4=>
 AD e4
 (∀ e5:World,j e5->
 K (.bool false) e5)
 (AM 1 U fun e6=>
 BJ j e6 fun e7=>
 BQ 1 (nth vs 0) (.int .i64 1) fun e8=>
 BJ j e8 fun e9=>
 Bb .u8 e7 e9 fun ea=>
 AD ea
 (∀ ec:World,j ec->
 K (.bool false) ec)
 (BQ 1 (nth vs 0) (.int .i64 2) fun ed=>
 BJ j ed fun ee=>
 Bb .u8 ee (.int .u8 128) fun ef=>
 AD ef
 (∀ eh:World,j eh->
 K (.bool false) eh)
 (BQ 1 (nth vs 0) (.int .i64 2) fun ej=>
 BJ j ej fun ek=>
 Bb .u8 (.int .u8 191) ek fun en=>
 AD en
 (∀ eo:World,j eo->
 K (.bool false) eo)
 (BQ 1 (nth vs 0) (.int .i64 3) fun ep=>
 BJ j ep fun er=>
 Bb .u8 er (.int .u8 128) fun et=>
 AD et
 (∀ eu:World,j eu->
 K (.bool false) eu)
 (BQ 1 (nth vs 0) (.int .i64 3) fun ew=>
 BJ j ew fun eA=>
 Bb .u8 (.int .u8 191) eA fun eB=>
 ∀Y:World,j Y->
 AD eB
 (K (.bool false) Y)
 (il [] Y))))))))))
 (K (.bool false) S)))) hD) hB) hz) hx) hs) hq) ho) hn) w3)) w2)
 (K (.bool true) w2)) w1) w):AB prog 297 [v0] K w:=cO (aN (aN (aO (.node [0] [(0,0),(2,6),(13,187)] (aO (aN aE) (aN (aO (aN (aO (aN (aO (.cut [31] [(23,31)] .nil (aO (aN (.cut [46] [(34,46)] .draw (aO (aN (.node [0] [(0,0),(49,71)] (aO (aO .draw aE) .nil) .nil)) .nil))) .nil)) .nil)) .nil)) (aN (aN (aN (aN (aN (aO (.cut [] [(2,2),(85,103)] (aO .draw (aO aE .nil)) .nil) (aN (aO (.cut [] [(2,2),(108,138)] (aO .draw (aO aE .nil)) .nil) (aN (aO (.cut [] [(2,2),(143,185)] (aO .draw (aO aE .nil)) .nil) aE))))))))))))) .nil) aE))) func297 h (by kernel_rfl)
theorem aF(h: Cg w (fun i=>
 BQ 1 v0 (.int .i64 0) fun j=>
 BJ i j fun o=>
 Bk prog i (convert 5 75 o) fun B=>
 BQ 1 v0 (.int .i64 1) fun E=>
 BJ i E fun I=>
 Bk prog i (convert 5 75 I) fun J=>
 Bk prog i (BX .shl 75 (.tmp 32) (.const (.int .u64 8)) J (.int .u64 8)) fun O=>
 Bk prog i (BX .or 75 (.tmp 28) (.tmp 33) B O) fun Q=>
 BQ 1 v0 (.int .i64 2) fun S=>
 BJ i S fun T=>
 Bk prog i (convert 5 75 T) fun U=>
 Bk prog i (BX .shl 75 (.tmp 38) (.const (.int .u64 16)) U (.int .u64 16)) fun t39=>
 Bk prog i (BX .or 75 (.tmp 34) (.tmp 39) Q t39) fun V=>
 BQ 1 v0 (.int .i64 3) fun X=>
 BJ i X fun Y=>
 Bk prog i (convert 5 75 Y) fun Z=>
 Bk prog i (BX .shl 75 (.tmp 44) (.const (.int .u64 24)) Z (.int .u64 24)) fun t45=>
 Bk prog i (BX .or 75 (.tmp 40) (.tmp 45) V t45) fun t46=>
 BQ 1 v0 (.int .i64 4) fun a1=>
 BJ i a1 fun a6=>
 Bk prog i (convert 5 75 a6) fun t50=>
 Bk prog i (BX .shl 75 (.tmp 50) (.const (.int .u64 32)) t50 (.int .u64 32)) fun a7=>
 Bk prog i (BX .or 75 (.tmp 46) (.tmp 51) t46 a7) fun a8=>
 BQ 1 v0 (.int .i64 5) fun ak=>
 BJ i ak fun t55=>
 Bk prog i (convert 5 75 t55) fun al=>
 Bk prog i (BX .shl 75 (.tmp 56) (.const (.int .u64 40)) al (.int .u64 40)) fun an=>
 Bk prog i (BX .or 75 (.tmp 52) (.tmp 57) a8 an) fun av=>
 BQ 1 v0 (.int .i64 6) fun ax=>
 BJ i ax fun ay=>
 Bk prog i (convert 5 75 ay) fun b0=>
 Bk prog i (BX .shl 75 (.tmp 62) (.const (.int .u64 48)) b0 (.int .u64 48)) fun b3=>
 Bk prog i (BX .or 75 (.tmp 58) (.tmp 63) av b3) fun b4=>
 BQ 1 v0 (.int .i64 7) fun t66=>
 BJ i t66 fun b5=>
 Bk prog i (convert 5 75 b5) fun b6=>
 Bk prog i (BX .shl 75 (.tmp 68) (.const (.int .u64 56)) b6 (.int .u64 56)) fun b7=>
 Bk prog i (BX .or 75 (.tmp 64) (.tmp 69) b4 b7) fun t70=>
 ∀w2:World,i w2->
 K t70 w2)):AB prog 300 [v0] K w:=cO (aN (aO (aO (aO .draw .nil) .nil) (aO .draw .nil))) func300 h (by kernel_rfl)
end
end Go.Proofs.YtmdhibffnkhcnaaGreatDoor
