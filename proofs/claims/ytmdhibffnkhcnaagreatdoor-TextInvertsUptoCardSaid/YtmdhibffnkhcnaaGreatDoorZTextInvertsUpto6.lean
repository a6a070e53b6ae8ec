/- parts of the proof, written short by a program of ours -/
import Derived.Test.YtmdhibffnkhcnaaGreatDoorZTextInvertsUpto5
import Derived.ChangeKeysEq
set_option linter.unusedSimpArgs false
set_option linter.unusedVariables false
set_option linter.defProp false
namespace Go.Proofs.YtmdhibffnkhcnaaGreatDoor
open Go Proofs.Tryz
variable {j E:Nat}{w W:World}{K:Cont}{P:Program}{yo xo:Operand}
section
def JP:AvK where
 E:=2
 one:=false
 zE:=[zI 0,zI 0]
 te:=108
 tn:=319
 ts:=101
 tp:=378
 tps:=362
 tt:=137
 tT:=260
 tk:=256
 tA:=364
 fat:=244
 ftotals:=245
 fset:=295
 flift:=299
 flean:=298
 fbalance:=294
 fjoin:=277
 ffirst:=275
 flast:=273
 fconcat:=279
 fsplit:=271
 fdrop:=272
 fpick:=274
 fmelded:=276
 fReplace:=238
 fover:=175
 fOver:=100
 fOverf:=174
 fSize:=184
 fNew:=170
 aTake:=278
 aasked:=296
 aFree:=293
 aAt:=282
 aPut:=292
 aNew:=243
 vm:=.func (.func 171) #[] #[]
 vc:=.func (.func 172) #[] #[]
 vd:=.func (.func 173) #[] #[]
def X9:Z1 JP where
 at_:=fun h=>cO (aN (aN aE)) func244 h (by kernel_rfl)
 totals:=fun h=>cO (aN (aO (aN (aO aE .nil)) (aN (aO .draw .nil)))) func245 h (by kernel_rfl)
 set:=fun h=>cO (aN (aN (aN (aO (.dc [7] (aQ0 [[],[5],(aR 7),(aR 8),(aR 9),(aR 9),(aR 10),(aR 12)]) []) (aN (.dc [6] [[],[0],[0,1],[0,1,2],[],[],(aR 6)] [])))))) func295 h (by kernel_rfl)
 lift:=fun h=>cO (aN (aN (aN (aO (aN (aO (aN (aN (aN (aN aE)))) (aN (aN (aN (aN aE)))))) aE)))) func299 h (by kernel_rfl)
 lean:=fun h=>cO (aN (aN (aN (aN aE)))) func298 h (by kernel_rfl)
 balance:=fun h=>cO (aN (aN (aO (aN (aN (aO (aO (aN (aO aE .nil)) aE) (aN (aO (aO (aN (aO aE .nil)) aE) .nil))))) aE))) func294 h (by kernel_rfl)
 join:=fun h=>cO (aN (aN (aN (aO (aN (aO (aN (aN aE)) (aN (aO (aN (aN aE)) .nil)))) (aN (aN (aN aE))))))) func277 h (by kernel_rfl)
 first:=fun h=>cO (aN (aN (aO (aN (aO aE .nil)) (aN aE)))) func275 h (by kernel_rfl)
 last:=fun h=>cO (aN (aN (aO (aN (aO aE .nil)) (aN aE)))) func273 h (by kernel_rfl)
 concat:=fun h=>cO (aN (aO (aN (aO aE .nil)) (aN aE))) func279 h (by kernel_rfl)
 drop:=fun h=>cO (aO (aN aE) (aN (aN aE))) func272 h (by kernel_rfl)
 over:=fun h=>cO (aN aE) func100 h (by kernel_rfl)
 overf:=fun h=>cO (.dc [8] [[],[],[1],[1,2],[1,2,3],[],[],[],(aR 8)] []) func174 h (by kernel_rfl)
 size:=fun h=>cO (aN (aN aE)) func184 h (by kernel_rfl)
 take:=fun h=>cO (aN (aO (aN (aO aE .nil)) (aO (aN (aN (aO (aN (aN (aO (.dc [8] [[],[0],[0,1],[0,1,2],[],[],[5],(aR 7),(aR 8)] []) aE))) .nil))) (aO (.dc [7,8,11] [[],[],[1],[1,2],[1,2,3],[],[5],[5,6],[1,2,3,4,5,6,7],(aR 9),(aR 10),(aR 11)] [[7,8]]) aE)))) func278 h (by kernel_rfl)
 asked:=fun h=>cO (aN (aO (aN (aO aE (aN (aO aE .nil)))) aE)) func296 h (by kernel_rfl)
 free:=fun h=>cO (aN (aO (aN (aN (aO aE .nil))) (aN (aN aE)))) func293 h (by kernel_rfl)
 aat:=fun h=>cO (aN (aO (aN (aN (aO (aN aE) .nil))) aE)) func282 h (by kernel_rfl)
 put:=fun h=>cO (aN (aO (aN (aN (aO aE .nil))) (aO (.dc [8] [[],[0],[0,1],[0,1,2],[],[],(aR 6),(aR 7),(aR 8)] []) aE))) func292 h (by kernel_rfl)
 new:=fun h=>cO (aN (aO (.dc [1,3] [[],[],[0,1],[0,1,2],(aR 4)] [[1]]) .nil)) func170 h (by kernel_rfl)
 anew:=fun h=>cO (aN aE) func243 h (by kernel_rfl)
 okOverf:=by kernel_rfl
def V1:Wm JP where
 split:=fun h=>cO (aN (aO (aN (aO aE .nil)) (aN (aN (aO (.dc [7] (aQ0 [[],[5],(aR 7),(aR 8),(aR 9),(aR 9),(aR 10),(aR 12)]) []) (aO (aN (aO (aN aE) (aN (aO (aN aE) .nil)))) (.cut [14,15] [(14,15),(86,99)] (.dt [10,14,15,16,17] (aQ0 [[],[5],[],[],[7,8],(aR 10),(aR 11),(aR 12),(aR 12),[],[],[0,1,2,3,4,5,6,7,8,9,10,11,12,14,15],(aR 17)]) [[10]] (.op 0 (.op 1 (.op 2 (.op 3 (.op 4 (.op 5 (.op 6 (.op 7 (.op 8 (.op 9 (.br (.op 10 (.op 11 (.op 12 (.op 13 (.br (.op 14 (.op 15 (.op 16 (.op 17 .nil)))) (.op 15 (.op 14 (.op 16 (.op 17 .nil))))))))) (.br (.op 14 (.br (.op 10 (.op 11 (.op 12 (.op 13 (.op 15 (.op 16 (.op 17 .nil))))))) (.op 15 (.op 10 (.op 11 (.op 12 (.op 13 (.op 16 (.op 17 .nil))))))))) (.op 15 (.br (.op 10 (.op 11 (.op 12 (.op 13 (.op 14 (.op 16 (.op 17 .nil))))))) (.op 14 (.op 10 (.op 11 (.op 12 (.op 13 (.op 16 (.op 17 .nil)))))))))))))))))))))) (aO .draw (aN (aO (.dc [6] [[],[0],[0,1],[0,1,2],[],[],(aR 6)] []) (aO (.dc [3,11,13] [[],[],[],[0,1,2],[],[],[5],[5,6],[5,6,7],[],[9],[0,1,2,3,5,6,7,8,9,10],[],(aR 13),(aR 14),(aR 15)] []) .nil))))))))))) func271 h (by kernel_rfl)
 pick:=fun h=>cO (aN (aN (aN aE))) func274 h (by kernel_rfl)
 melded:=fun h=>cO (aN (aO (aN (.node [4,14] [(4,4),(6,11),(14,58)] (aN (aO aE (aO (aN (aO (aO (.dc [6] (aQ0 [[],(aR 6),(aR 7),(aR 8),(aR 8),(aR 9),(aR 11)]) []) (aN aE)) (.cut [] [(9,11),(30,53)] (aN (aN (aO (.cut [10,11] [(10,11),(35,48)] (.dt [10,14,15] (aQ0 [[],[],[5,6],[5,6,7],[],(aR 10),(aR 11),(aR 12),(aR 12),[],[0,1,2,3,4,5,6,7,8,9,10,11,12,14],(aR 16)]) [[10]] (.op 0 (.op 1 (.op 2 (.op 3 (.op 4 (.op 5 (.op 6 (.op 7 (.op 8 (.op 9 (.br (.op 10 (.op 11 (.op 12 (.op 13 (.op 14 (.op 15 (.op 16 .nil))))))) (.op 14 (.op 10 (.op 11 (.op 12 (.op 13 (.op 15 (.op 16 .nil))))))))))))))))))) (aN (aO aE .nil))) .nil))) .nil))) .nil))) .nil)) aE)) func276 h (by kernel_rfl)
 replace:=fun h=>cO (aN (aN (aN (aN (.cut [8,12] [(8,8),(12,14),(41,55)] (aN (aO aE .nil)) (aN (.cut [11,12] [(11,12),(15,16),(59,73)] (aN (aO aE .nil)) (aO (aN (.node [8,78] [(8,8),(18,18),(78,92)] (aN (aO aE (aO (aN (.dc [8,9] [[],[],[],[2],[2,3],[2,3,4],[],[6],[2,3,4,5,6,7],(aR 9),(aR 10)] [])) .nil))) .nil)) .nil)))))))) func238 h (by kernel_rfl)
 over:=fun h=>cO (aN (.cut [] [(10,10),(20,26)] (aN (aO aE .nil)) (aN (aN (aO (.dc [7] (aQ0 [[],[5],(aR 7),(aR 8),(aR 9),(aR 9),(aR 10),(aR 12)]) []) (.cut [] [(10,10),(49,63)] (aN (aO aE .nil)) (aN (.cut [] [(10,10),(19,19),(73,108)] (aN (aO (aN (.cut [] [(78,91)] (aN (aO (.dc [7,11] (aQ0 [[],[],(aR 7),(aR 8),(aR 9),(aR 9),(aR 10)]) [[7]]) .nil)) (.cut [] [(92,104)] (aN (aO (.dc [7,11] (aQ0 [[],[],(aR 7),(aR 8),(aR 9),(aR 9),(aR 11)]) [[7]]) .nil)) (aN (aO aE .nil))))) .nil)) aE)))))))) func175 h (by kernel_rfl)
def Ke:AvK where
 E:=1
 one:=true
 zE:=[.slice none 0 0]
 te:=43
 tn:=304
 ts:=50
 tp:=347
 tps:=343
 tt:=140
 tT:=272
 tk:=267
 tA:=345
 fat:=247
 ftotals:=185
 fset:=264
 flift:=289
 flean:=288
 fbalance:=263
 fjoin:=220
 ffirst:=218
 flast:=216
 fconcat:=222
 fsplit:=214
 fdrop:=215
 fpick:=217
 fmelded:=219
 fReplace:=147
 fover:=183
 fOver:=105
 fOverf:=182
 fSize:=114
 fNew:=178
 aTake:=221
 aasked:=287
 aFree:=262
 aAt:=283
 aPut:=261
 aNew:=246
 vm:=.func (.func 179) #[] #[]
 vc:=.func (.func 180) #[] #[]
 vd:=.func (.func 181) #[] #[]
def Zf:Z1 Ke where
 at_:=fun h=>cO (aN (aN aE)) func247 h (by kernel_rfl)
 totals:=fun h=>cO (aN (aO (aN (aO aE .nil)) (aN (aO .draw .nil)))) func185 h (by kernel_rfl)
 set:=fun h=>cO (aN (aN (aN (aO (.dc [7] (aQ0 [[],[5],(aR 7),(aR 8),(aR 9),(aR 9),(aR 10),(aR 12)]) []) (aN (.dc [6] [[],[0],[0,1],[0,1,2],[],[],(aR 6)] [])))))) func264 h (by kernel_rfl)
 lift:=fun h=>cO (aN (aN (aN (aO (aN (aO (aN (aN (aN (aN aE)))) (aN (aN (aN (aN aE)))))) aE)))) func289 h (by kernel_rfl)
 lean:=fun h=>cO (aN (aN (aN (aN aE)))) func288 h (by kernel_rfl)
 balance:=fun h=>cO (aN (aN (aO (aN (aN (aO (aO (aN (aO aE .nil)) aE) (aN (aO (aO (aN (aO aE .nil)) aE) .nil))))) aE))) func263 h (by kernel_rfl)
 join:=fun h=>cO (aN (aN (aN (aO (aN (aO (aN (aN aE)) (aN (aO (aN (aN aE)) .nil)))) (aN (aN (aN aE))))))) func220 h (by kernel_rfl)
 first:=fun h=>cO (aN (aN (aO (aN (aO aE .nil)) (aN aE)))) func218 h (by kernel_rfl)
 last:=fun h=>cO (aN (aN (aO (aN (aO aE .nil)) (aN aE)))) func216 h (by kernel_rfl)
 concat:=fun h=>cO (aN (aO (aN (aO aE .nil)) (aN aE))) func222 h (by kernel_rfl)
 drop:=fun h=>cO (aO (aN aE) (aN (aN aE))) func215 h (by kernel_rfl)
 over:=fun h=>cO (aN aE) func105 h (by kernel_rfl)
 overf:=fun h=>cO (.dc [8] [[],[],[1],[1,2],[1,2,3],[],[],[],(aR 8)] []) func182 h (by kernel_rfl)
 size:=fun h=>cO (aN (aN aE)) func114 h (by kernel_rfl)
 take:=fun h=>cO (aN (aO (aN (aO aE .nil)) (aO (aN (aN (aO (aN (aN (aO (.dc [8] [[],[0],[0,1],[0,1,2],[],[],[5],(aR 7),(aR 8)] []) aE))) .nil))) (aO (.dc [7,8,11] [[],[],[1],[1,2],[1,2,3],[],[5],[5,6],[1,2,3,4,5,6,7],(aR 9),(aR 10),(aR 11)] [[7,8]]) aE)))) func221 h (by kernel_rfl)
 asked:=fun h=>cO (aN (aO (aN (aO aE (aN (aO aE .nil)))) aE)) func287 h (by kernel_rfl)
 free:=fun h=>cO (aN (aO (aN (aN (aO aE .nil))) (aN (aN aE)))) func262 h (by kernel_rfl)
 aat:=fun h=>cO (aN (aO (aN (aN (aO (aN aE) .nil))) aE)) func283 h (by kernel_rfl)
 put:=fun h=>cO (aN (aO (aN (aN (aO aE .nil))) (aO (.dc [8] [[],[0],[0,1],[0,1,2],[],[],(aR 6),(aR 7),(aR 8)] []) aE))) func261 h (by kernel_rfl)
 new:=fun h=>cO (aN (aO (.dc [1,3] [[],[],[0,1],[0,1,2],(aR 4)] [[1]]) .nil)) func178 h (by kernel_rfl)
 anew:=fun h=>cO (aN aE) func246 h (by kernel_rfl)
 okOverf:=by kernel_rfl
def Vw:cM Ke where
 split:=fun h=>cO (aN (aO (aN (aO aE .nil)) (aN (aN (aO (.dc [7] (aQ0 [[],[5],(aR 7),(aR 8),(aR 9),(aR 9),(aR 10),(aR 12)]) []) (aO (aN (aO (aN aE) (aN (aO (aN aE) .nil)))) (aO (.dc [10] (aQ0 [[],[5],[],[],[7,8],(aR 10),(aR 11),(aR 12),(aR 12),(aR 13),(aR 15)]) []) (aO .draw (aN (aO (.dc [6] [[],[0],[0,1],[0,1,2],[],[],(aR 6)] []) (aO (.dc [3,11,13] [[],[],[],[0,1,2],[],[],[5],[5,6],[5,6,7],[],[9],[0,1,2,3,5,6,7,8,9,10],[],(aR 13),(aR 14),(aR 15)] []) .nil))))))))))) func214 h (by kernel_rfl)
 pick:=fun h=>cO (aN (aN (aN aE))) func217 h (by kernel_rfl)
 melded:=fun h=>cO (aN (aO (aN (.node [4,14] [(4,4),(6,11),(14,58)] (aN (aO aE (aO (aN (aO (aN (aN aE)) (.cut [] [(9,11),(30,53)] (aN (aN (aO (aO (.dc [10] (aQ0 [[],[],[5,6],[5,6,7],[],(aR 10),(aR 11),(aR 12),(aR 12),(aR 13),(aR 15)]) []) (aN (aO aE .nil))) .nil))) .nil))) .nil))) .nil)) aE)) func219 h (by kernel_rfl)
 replace:=fun h=>cO (aN (aN (aN (aN (.cut [8,12] [(8,8),(12,14),(41,55)] (aN (aO aE .nil)) (aN (.cut [11,12] [(11,12),(15,16),(59,73)] (aN (aO aE .nil)) (aO (aN (.node [8,78] [(8,8),(18,18),(78,92)] (aN (aO aE (aO aE .nil))) .nil)) .nil)))))))) func147 h (by kernel_rfl)
 over:=fun h=>cO (aN (.cut [] [(10,10),(20,26)] (aN (aO aE .nil)) (aN (aN (aO (.dc [7] (aQ0 [[],[5],(aR 7),(aR 8),(aR 9),(aR 9),(aR 10),(aR 12)]) []) (.cut [] [(10,10),(49,63)] (aN (aO aE .nil)) (aN (.cut [] [(10,10),(19,19),(73,108)] (aN (aO (aN (.cut [19] [(19,19),(78,91)] (aN aE) (.cut [19] [(19,19),(92,104)] (aN aE) (aN (aO aE .nil))))) .nil)) aE)))))))) func183 h (by kernel_rfl)
def Gg:AvK where
 E:=33
 one:=false
 zE:=[.int .i32 0,.int .i32 0,.int .i32 0,.int .i32 0,.int .i32 0,.int .i32 0,.int .i32 0,.int .i32 0,.int .i32 0,.int .i32 0,.int .i32 0,.int .i32 0,.int .i32 0,.int .i32 0,.int .i32 0,.int .i32 0,.int .i32 0,.int .i32 0,.int .i32 0,.int .i32 0,.int .i32 0,.int .i32 0,.int .i32 0,.int .i32 0,.int .i32 0,.int .i32 0,.int .i32 0,.int .i32 0,.int .i32 0,.int .i32 0,.int .i32 0,.int .i32 0,zI 0]
 te:=162
 tn:=245
 ts:=218
 tp:=357
 tps:=353
 tt:=134
 tT:=243
 tk:=238
 tA:=355
 fat:=166
 ftotals:=165
 fset:=269
 flift:=291
 flean:=290
 fbalance:=268
 fjoin:=233
 ffirst:=231
 flast:=229
 fconcat:=235
 fsplit:=227
 fdrop:=228
 fpick:=230
 fmelded:=232
 fReplace:=150
 fover:=168
 fOver:=95
 fOverf:=167
 fSize:=110
 fNew:=157
 aTake:=234
 aasked:=281
 aFree:=267
 aAt:=242
 aPut:=266
 aNew:=241
 vm:=.func (.func 158) #[] #[]
 vc:=.func (.func 161) #[] #[]
 vd:=.func (.func 163) #[] #[]
def aI:Z1 Gg where
 at_:=fun h=>cO (aN (aN aE)) func166 h (by kernel_rfl)
 totals:=fun h=>cO (aN (aO (aN (aO aE .nil)) (aN (aO .draw .nil)))) func165 h (by kernel_rfl)
 set:=fun h=>cO (aN (aN (aN (aO (.dc [7] (aQ0 [[],[5],(aR 7),(aR 8),(aR 9),(aR 9),(aR 10),(aR 12)]) []) (aN (.dc [6] [[],[0],[0,1],[0,1,2],[],[],(aR 6)] [])))))) func269 h (by kernel_rfl)
 lift:=fun h=>cO (aN (aN (aN (aO (aN (aO (aN (aN (aN (aN aE)))) (aN (aN (aN (aN aE)))))) aE)))) func291 h (by kernel_rfl)
 lean:=fun h=>cO (aN (aN (aN (aN aE)))) func290 h (by kernel_rfl)
 balance:=fun h=>cO (aN (aN (aO (aN (aN (aO (aO (aN (aO aE .nil)) aE) (aN (aO (aO (aN (aO aE .nil)) aE) .nil))))) aE))) func268 h (by kernel_rfl)
 join:=fun h=>cO (aN (aN (aN (aO (aN (aO (aN (aN aE)) (aN (aO (aN (aN aE)) .nil)))) (aN (aN (aN aE))))))) func233 h (by kernel_rfl)
 first:=fun h=>cO (aN (aN (aO (aN (aO aE .nil)) (aN aE)))) func231 h (by kernel_rfl)
 last:=fun h=>cO (aN (aN (aO (aN (aO aE .nil)) (aN aE)))) func229 h (by kernel_rfl)
 concat:=fun h=>cO (aN (aO (aN (aO aE .nil)) (aN aE))) func235 h (by kernel_rfl)
 drop:=fun h=>cO (aO (aN aE) (aN (aN aE))) func228 h (by kernel_rfl)
 over:=fun h=>cO (aN aE) func95 h (by kernel_rfl)
 overf:=fun h=>cO (.dc [8] [[],[],[1],[1,2],[1,2,3],[],[],[],(aR 8)] []) func167 h (by kernel_rfl)
 size:=fun h=>cO (aN (aN aE)) func110 h (by kernel_rfl)
 take:=fun h=>cO (aN (aO (aN (aO aE .nil)) (aO (aN (aN (aO (aN (aN (aO (.dc [8] [[],[0],[0,1],[0,1,2],[],[],[5],(aR 7),(aR 8)] []) aE))) .nil))) (aO (.dc [7,8,11] [[],[],[1],[1,2],[1,2,3],[],[5],[5,6],[1,2,3,4,5,6,7],(aR 9),(aR 10),(aR 11)] [[7,8]]) aE)))) func234 h (by kernel_rfl)
 asked:=fun h=>cO (aN (aO (aN (aO aE (aN (aO aE .nil)))) aE)) func281 h (by kernel_rfl)
 free:=fun h=>cO (aN (aO (aN (aN (aO aE .nil))) (aN (aN aE)))) func267 h (by kernel_rfl)
 aat:=fun h=>cO (aN (aO (aN (aN (aO (aN aE) .nil))) aE)) func242 h (by kernel_rfl)
 put:=fun h=>cO (aN (aO (aN (aN (aO aE .nil))) (aO (.dc [8] [[],[0],[0,1],[0,1,2],[],[],(aR 6),(aR 7),(aR 8)] []) aE))) func266 h (by kernel_rfl)
 new:=fun h=>cO (aN (aO (.dc [1,3] [[],[],[0,1],[0,1,2],(aR 4)] [[1]]) .nil)) func157 h (by kernel_rfl)
 anew:=fun h=>cO (aN aE) func241 h (by kernel_rfl)
 okOverf:=by kernel_rfl
def Wo:Wm Gg where
 split:=fun h=>cO (aN (aO (aN (aO aE .nil)) (aN (aN (aO (.dc [7] (aQ0 [[],[5],(aR 7),(aR 8),(aR 9),(aR 9),(aR 10),(aR 12)]) []) (aO (aN (aO (aN aE) (aN (aO (aN aE) .nil)))) (.cut [14,15] [(14,15),(86,99)] (.dt [10,14,15,16,17] (aQ0 [[],[5],[],[],[7,8],(aR 10),(aR 11),(aR 12),(aR 12),[],[],[0,1,2,3,4,5,6,7,8,9,10,11,12,14,15],(aR 17)]) [[10]] (.op 0 (.op 1 (.op 2 (.op 3 (.op 4 (.op 5 (.op 6 (.op 7 (.op 8 (.op 9 (.br (.op 10 (.op 11 (.op 12 (.op 13 (.br (.op 14 (.op 15 (.op 16 (.op 17 .nil)))) (.op 15 (.op 14 (.op 16 (.op 17 .nil))))))))) (.br (.op 14 (.br (.op 10 (.op 11 (.op 12 (.op 13 (.op 15 (.op 16 (.op 17 .nil))))))) (.op 15 (.op 10 (.op 11 (.op 12 (.op 13 (.op 16 (.op 17 .nil))))))))) (.op 15 (.br (.op 10 (.op 11 (.op 12 (.op 13 (.op 14 (.op 16 (.op 17 .nil))))))) (.op 14 (.op 10 (.op 11 (.op 12 (.op 13 (.op 16 (.op 17 .nil)))))))))))))))))))))) (aO .draw (aN (aO (.dc [6] [[],[0],[0,1],[0,1,2],[],[],(aR 6)] []) (aO (.dc [3,11,13] [[],[],[],[0,1,2],[],[],[5],[5,6],[5,6,7],[],[9],[0,1,2,3,5,6,7,8,9,10],[],(aR 13),(aR 14),(aR 15)] []) .nil))))))))))) func227 h (by kernel_rfl)
 pick:=fun h=>cO (aN (aN (aN aE))) func230 h (by kernel_rfl)
 melded:=fun h=>cO (aN (aO (aN (.node [4,14] [(4,4),(6,11),(14,58)] (aN (aO aE (aO (aN (aO (aO (.dc [6] (aQ0 [[],(aR 6),(aR 7),(aR 8),(aR 8),(aR 9),(aR 11)]) []) (aN aE)) (.cut [] [(9,11),(30,53)] (aN (aN (aO (.cut [10,11] [(10,11),(35,48)] (.dt [10,14,15] (aQ0 [[],[],[5,6],[5,6,7],[],(aR 10),(aR 11),(aR 12),(aR 12),[],[0,1,2,3,4,5,6,7,8,9,10,11,12,14],(aR 16)]) [[10]] (.op 0 (.op 1 (.op 2 (.op 3 (.op 4 (.op 5 (.op 6 (.op 7 (.op 8 (.op 9 (.br (.op 10 (.op 11 (.op 12 (.op 13 (.op 14 (.op 15 (.op 16 .nil))))))) (.op 14 (.op 10 (.op 11 (.op 12 (.op 13 (.op 15 (.op 16 .nil))))))))))))))))))) (aN (aO aE .nil))) .nil))) .nil))) .nil))) .nil)) aE)) func232 h (by kernel_rfl)
 replace:=fun h=>cO (aN (aN (aN (aN (.cut [8,12] [(8,8),(12,14),(41,55)] (aN (aO aE .nil)) (aN (.cut [11,12] [(11,12),(15,16),(59,73)] (aN (aO aE .nil)) (aO (aN (.node [8,78] [(8,8),(18,18),(78,92)] (aN (aO aE (aO (aN (.dc [8,9] [[],[],[],[2],[2,3],[2,3,4],[],[6],[2,3,4,5,6,7],(aR 9),(aR 10)] [])) .nil))) .nil)) .nil)))))))) func150 h (by kernel_rfl)
 over:=fun h=>cO (aN (.cut [] [(10,10),(20,26)] (aN (aO aE .nil)) (aN (aN (aO (.dc [7] (aQ0 [[],[5],(aR 7),(aR 8),(aR 9),(aR 9),(aR 10),(aR 12)]) []) (.cut [] [(10,10),(49,63)] (aN (aO aE .nil)) (aN (.cut [] [(10,10),(19,19),(73,108)] (aN (aO (aN (.cut [] [(78,91)] (aN (aO (.dc [7,11] (aQ0 [[],[],(aR 7),(aR 8),(aR 9),(aR 9),(aR 10)]) [[7]]) .nil)) (.cut [] [(92,104)] (aN (aO (.dc [7,11] (aQ0 [[],[],(aR 7),(aR 8),(aR 9),(aR 9),(aR 11)]) [[7]]) .nil)) (aN (aO aE .nil))))) .nil)) aE)))))))) func168 h (by kernel_rfl)
variable {v0 v1 v2 v3 v4 v5 v6 v7 v8 v9:Value}{K:Cont}{w:World}
def fX(h: Ai [(0,1)] [(.pointer none)] [] fun i=>BP 136 i (fun j m=>K j m) w):AB prog 36 [] K w:=cO (aN aE) func36 h (by kernel_rfl)
def dK(h: Ai [(0,1)] [(.pointer none)] [] fun i=>BP 139 i (fun j m=>K j m) w):AB prog 37 [] K w:=cO (aN aE) func37 h (by kernel_rfl)
def db(h: Ai [(0,1)] [(.pointer none)] [] fun i=>BP 142 i (fun j m=>K j m) w):AB prog 38 [] K w:=cO (aN aE) func38 h (by kernel_rfl)
def gY(h: CY v0 fun b4=>AD (.bool b4) (K (zI 0) w) (AB prog 89 [v0] (fun i j=>AB prog 90 [i] (fun m w2=>K m w2) j) w)):AB prog 45 [v0] K w:=cO (aN (aO (aN (aO aE .nil)) aE)) func45 h (by kernel_rfl)
def di(h: Ao (fun _vs T=>∀_:Env,AB prog 89 [v0] (fun t25 w2=>BR .i64 v1 (zI 1) fun m=>AB prog 91 [t25,m,(.func (.func 92) #[] #[])] (fun j U=>AR 0 j fun o=>AR 1 j fun _t30=>AW .i64 o (zI 1) fun q=>K (.tuple #[q,(zI 0)]) U) w2) T) (fun J=>CY v0 fun B=>AD (.bool B) (K (.tuple #[(zI 0),(zI 1)]) w) (BU .i64 v1 (zI 0) fun I=>AD I (K (.tuple #[(zI 0),(zI 5)]) w) (AB prog 45 [v0] (fun O w4=>Eo .i64 v1 O fun Q=>AD Q (K (.tuple #[(zI 0),(zI 5)]) w4) (Cu .i64 v1 (zI 0) fun i=>AD i (K (.tuple #[(zI 0),(zI 0)]) w4) (J [] w4))) w)))):AB prog 46 [v0,v1] K w:=cO (aN (.cut [] [(4,5),(8,22)] (aN (aO aE (aN (aO aE (aN (aO aE .nil)))))) (aN aE))) func46 h (by kernel_rfl)
def fH(h: Al 80 [(.slice none 0 0)] (fun i w1=>
 AB prog 94 [v0,v1,v2] (fun o w2=>
 Dp .i64 o (zI 0) fun J=>
 AD J
 (Av i (.slice none 0 0) (fun w3=>
 AJ i (fun r0 w4=>
 K (.tuple #[r0,o]) w4) w3) w2)
 (AB prog 89 [v0] (fun O w5=>
 AB prog 95 [O,v1,v2] (fun Q T=>
 HH prog Cq Q 1 (fun args U w7=>
 Al 162 (zR [(zI 0)]) (fun t9 w9=>
 Ab 33 t9 (nth args 0) (fun V=>
 U (fun post X=>
 Au [2,3,4] [[],[],[1],[0,1,2],[0,1,2,3]] X.drew (fun M St=>
 As (St 0) i fun Y=>
 Eg (St 1) 33 t9 fun Z=>
 AB prog 96 [Z] (fun t25 j=>
 Mod (M 2) X.drew j/\
 runK prog (Builtin.append_ #[80,80] 80 [Y,t25].toArray) (fun a1 m=>
 Mod (M 3) j m/\
 Av i a1 (fun q=>
 Mod (M 4) m q/\
 post .normal q) m) j) X.drew)) V) w9) w7) (dZ (fun a6=>
 AJ i (fun a7 a8=>
 Av i a7 (fun ak=>
 FE T.heap.size (fun al=>
 AJ i (fun B av=>
 K (.tuple #[B,(zI 0)]) av) al) ak) a8) a6) (fun ax=>
 FE T.heap.size (fun ay=>
 AJ i (fun I b0=>
 K (.tuple #[I,(zI 0)]) b0) ay) ax) []) T) w5) w2)) w1) w):AB prog 47 [v0,v1,v2] K w:=
 Fh (P:=prog) (ok:=Cq) (n:=28) (fn:=Tryz.f47) (c:=Hx Tryz.f47) (rs:=[.cell 6 80,.tmp 7]) (an:=(aN (aO (aN (aN (aO aE .nil))) (aO (aN (aN (.dc [2,3,4] [[],[],[1],[0,1,2],(aR 4)] []))) aE)))) FM mixed func47 (by kernel_rfl) (by kernel_rfl) (by kernel_rfl) (by kernel_rfl) (Eq.mp (by kernel_rfl) h)
def gJ(h: AB prog 97 [v0,v1,v2] (fun i B=>Dp .i64 i (zI 0) fun j=>AD j (K (.tuple #[(.slice none 0 0),i]) B) (AB prog 99 [v0] (fun m w2=>AB prog 100 [m,v1,v2] (fun o I=>AB prog 98 [o] (fun q w4=>K (.tuple #[q,(zI 0)]) w4) I) w2) B)) w):AB prog 48 [v0,v1,v2] K w:=cO (aN (aO (aN (aN (aO aE .nil))) aE)) func48 h (by kernel_rfl)
def dL(h: AB prog 101 [v0,v1,v2] (fun i B=>Dp .i64 i (zI 0) fun j=>AD j (K (.tuple #[(.slice none 0 0),i]) B) (AB prog 104 [v0] (fun m w2=>AB prog 105 [m,v1,v2] (fun o I=>AB prog 103 [o] (fun q w4=>AB prog 102 [q] (fun t22 J=>K (.tuple #[t22,(zI 0)]) J) w4) I) w2) B)) w):AB prog 49 [v0,v1,v2] K w:=cO (aN (aO (aN (aN (aO aE .nil))) aE)) func49 h (by kernel_rfl)
def VA(h: AB prog 94 [v0,v1,v1] (fun i q=>Dp .i64 i (zI 0) fun j=>AD j (K (.tuple #[(zI 0),i]) q) (AB prog 89 [v0] (fun m w2=>AB prog 108 [m,v1,(.func (.func 109) #[] #[])] (fun o B=>K (.tuple #[o,(zI 0)]) B) w2) q)) w):AB prog 53 [v0,v1] K w:=cO (aN (aO (aN (aN (aO aE .nil))) aE)) func53 h (by kernel_rfl)
def dr(h: CY v0 fun b4=>AD (.bool b4) (K (zI 0) w) (AB prog 89 [v0] (fun i j=>AB prog 110 [i] (fun m w2=>K m w2) j) w)):AB prog 54 [v0] K w:=cO (aN (aO (aN (aO aE .nil)) aE)) func54 h (by kernel_rfl)
def dh(h: AB prog 111 [v0] (fun j m=>AB prog 48 [v0,(zI 0),j] (fun t9 w2=>AR 0 t9 fun i=>AR 1 t9 fun _t11=>Al 101 [(.slice none 0 0)] (fun t3 o=>Av t3 i (fun w4=>K (.func (.func 112) #[] #[t3]) w4) o) w2) m) w):AB prog 55 [v0] K w:=cO (aN (aN aE)) func55 h (by kernel_rfl)
def gr(h: CY v0 fun b4=>AD (.bool b4) (K (zI 0) w) (AB prog 104 [v0] (fun i j=>AB prog 114 [i] (fun m w2=>K m w2) j) w)):AB prog 57 [v0] K w:=cO (aN (aO (aN (aO aE .nil)) aE)) func57 h (by kernel_rfl)
def Ut(h: AB prog 101 [v0,v1,v1] (fun i J=>Dp .i64 i (zI 0) fun j=>AD j (K i J) (Ac v2 fun m=>AB prog 57 [v0] (fun o w2=>BR .i64 (zI 536870912) o fun q=>Eo .i64 m q fun B=>AD B (K (zI 8) w2) (AB prog 104 [v0] (fun t22 O=>AB prog 102 [v2] (fun I w4=>AB prog 147 [t22,v1,v1,I] (fun _t27 Q=>K (zI 0) Q) w4) O) w2)) J)) w):AB prog 76 [v0,v1,v2] K w:=cO (aN (aO (aN (aN (aO aE .nil))) (aO (aN (aO aE .nil)) (aN aE)))) func76 h (by kernel_rfl)
def iC(h: Al 25 [(zI 0)] (fun i w1=>
 CY v0 fun X=>
 AD (.bool X)
 (Av i (zI 1) (fun w2=>
 AJ i (fun r0 w3=>
 K r0 w3) w2) w1)
 (Al 218 [(.slice none 0 0)] (fun Y w4=>
 AB prog 148 [v2,(zI 32)] (fun Z o=>
 HH prog Cq Z 1 (fun args a1 w6=>
 a1 (fun post w7=>
 AB prog 149 [(nth args 0)] (fun q w8=>
 AR 0 q fun a6=>
 AR 1 q fun a7=>
 Al 162 (zR [(zI 0)]) (fun t9 w9=>
 Ab 33 t9 a6 (fun B=>
 Dp .i64 a7 (zI 0) fun a8=>
 AD a8
 (Av i (zI 3) (fun ak=>
 post .ret ak) B)
 (AJ Y (fun al av=>
 Aa 33 t9 (fun t25 ax=>
 Ba 162 33 1 (zR [(zI 0)]) [(0,t25)] (fun ay b0=>
 runK prog (Builtin.append_ #[218,218] 218 [al,ay].toArray) (fun b1 b2=>
 Av Y b1 (fun b6=>
 post .normal b6) b2) b0) ax) av) B)) w9) w8) w7) w6) (dZ (fun b7=>
 AB prog 94 [v0,v1,v1] (fun I J=>
 Dp .i64 I (zI 0) fun b8=>
 AD b8
 (Av i I (fun b9=>
 FE o.heap.size (fun ba=>
 AJ i (fun O bb=>
 K O bb) ba) b9) J)
 (Ac v2 fun bc=>
 AB prog 54 [v0] (fun bd j=>
 BR .i64 (zI 536870912) bd fun t39=>
 Eo .i64 bc t39 fun bk=>
 AD bk
 (Av i (zI 8) (fun bl=>
 FE o.heap.size (fun bn=>
 AJ i (fun Q bp=>
 K Q bp) bn) bl) j)
 (Au [1,5] [[],[0],[],[],[],[0,1,2,3,4]] j.drew (fun M St=>
 AB prog 89 [v0] (fun bs m=>
 Mod (M 1) j.drew m/\
 As (St 4) Y fun t45=>
 AB prog 150 [bs,v1,v1,t45] (fun _t46 T=>
 Mod (M 5) m T/\
 Av i (zI 0) (fun bx=>
 FE o.heap.size (fun c4=>
 AJ i (fun U c6=>
 K U c6) c4) bx) T) m) j.drew))) J)) b7) (fun c7=>
 FE o.heap.size (fun c8=>
 AJ i (fun V c9=>
 K V c9) c8) c7) []) o) w4) w1)) w):AB prog 77 [v0,v1,v2] K w:=
 Fh (P:=prog) (ok:=Cq) (n:=47) (fn:=Tryz.f77) (c:=Hx Tryz.f77) (rs:=[.cell 6 25]) (an:=(aN (aO (aN (aO aE .nil)) (aN (aO (aN (aN (aN (aO (aN (aO aE .nil)) .nil)))) (aO (aN (aN (aO aE .nil))) (aO (aN (aO aE .nil)) (aO (.dc [1,5] [[],[0],[],[],[],(aR 5)] []) aE)))))))) FM mixed func77 (by kernel_rfl) (by kernel_rfl) (by kernel_rfl) (by kernel_rfl) (Eq.mp (by kernel_rfl) h)
def eV(h: AB prog 49 [v0,v1,v2] (fun m V=>AR 0 m fun i=>AR 1 m fun o=>Dp .i64 o (zI 0) fun q=>AD q (K o V) (Ac i fun B=>Ap [(zI 0)] (fun vs j w2=>∀_:Env,BU .i64 (nth vs 0) B fun t25=>AD t25 (BM 1 i (nth vs 0) fun I=>AJ I (fun J X=>AB prog 156 [J,v3] (fun O w4=>BM 1 i (nth vs 0) fun Q=>Av Q O (fun Y=>AW .i64 (nth vs 0) (zI 1) fun T=>j [T] Y) w4) X) w2) (AB prog 104 [v0] (fun U Z=>AB prog 147 [U,v1,v2,i] (fun _t42 w7=>K (zI 0) w7) Z) w2)) V)) w):AB prog 85 [v0,v1,v2,v3] K w:=cO (aN (aN (aO (aN (aO aE .nil)) (aO (aN (.node [24] [(11,11),(24,36)] (aN (aO aE (aO aE .nil))) .nil)) (aN aE))))) func85 h (by kernel_rfl)
def dw(h: AB prog 101 [v0,v1,v2] (fun i o=>Dp .i64 i (zI 0) fun j=>AD j (K i o) (AB prog 104 [v0] (fun m w2=>AB prog 147 [m,v1,v2,(.slice none 0 0)] (fun _t19 q=>K (zI 0) q) w2) o)) w):AB prog 87 [v0,v1,v2] K w:=cO (aN (aO (aN (aN (aO aE .nil))) (aN aE))) func87 h (by kernel_rfl)
def gq(h: AB prog 94 [v0,v1,v2] (fun i o=>Dp .i64 i (zI 0) fun j=>AD j (K i o) (AB prog 89 [v0] (fun m w2=>AB prog 150 [m,v1,v2,(.slice none 0 0)] (fun _t19 q=>K (zI 0) q) w2) o)) w):AB prog 88 [v0,v1,v2] K w:=cO (aN (aO (aN (aN (aO aE .nil))) (aN aE))) func88 h (by kernel_rfl)
def eP(h: Ao (fun _vs O=>∀_:Env,AK v0 fun i=>AM 0 i fun j=>AJ j (fun m w2=>K m w2) O) (fun J=>AK v0 fun t4=>AM 0 t4 fun t5=>AJ t5 (fun Q I=>CY Q fun T=>AD (.bool T) (Ai [(0,1),(1,1),(2,1)] [.nilFunc,.nilFunc,.nilFunc] [(0,(.func (.func 158) #[] #[])),(1,(.func (.func 161) #[] #[])),(2,(.func (.func 163) #[] #[]))] fun t9=>AB prog 157 [t9] (fun o w4=>AK v0 fun q=>AM 0 q fun B=>Av B o (fun U=>J [] U) w4) I) (J [] I)) w)):AB prog 89 [v0] K w:=cO (aN (.cut [] [(3,12)] (aN aE) aE)) func89 h (by kernel_rfl)
def gR(h: BP 162 v0 (fun m o=>Aa 33 m (fun q w2=>AB prog 93 [q,v1] (fun i B=>AR 0 i fun j=>AR 1 i fun _t12=>K j B) w2) o) w):AB prog 92 [v0,v1] K w:=cO (aN (aN aE)) func92 h (by kernel_rfl)
def dQ(h: BP 162 v0 (fun T V=>AM 32 T fun X=>AJ X (fun Y w2=>Ap [v1,(zI 0)] (fun vs i U=>∀_:Env,BU .i64 (nth vs 1) Y fun m=>AD m (AM 0 T fun o=>runK prog (Instr.indexAt 160 o (nth vs 1)) (fun q w4=>AJ q (fun B I=>Dp .i32 B (.int .i32 10) fun J=>AD J (AW .i64 (nth vs 1) (zI 1) fun t22=>i [(nth vs 0),t22] I) (Cu .i64 (nth vs 0) (zI 0) fun O=>AD O (K (.tuple #[(nth vs 1),(.bool true)]) I) (BR .i64 (nth vs 0) (zI 1) fun Q=>AW .i64 (nth vs 1) (zI 1) fun j=>i [Q,j] I))) w4) U) (K (.tuple #[(zI 0),(.bool false)]) U)) w2) V) w):AB prog 93 [v0,v1] K w:=cO (aN (aO (aN (.node [1,9] [(1,1),(4,6),(9,22)] (aN (aO aE (aO (aN (aO (aN aE) (aO (aN (aO aE .nil)) .nil))) .nil))) .nil)) aE)) func93 h (by kernel_rfl)
def fT(h: CY v0 fun q=>AD (.bool q) (K (zI 1) w) (BU .i64 v1 (zI 0) fun i=>AD i (K (zI 5) w) (Eo .i64 v1 v2 fun j=>AD j (K (zI 5) w) (AB prog 54 [v0] (fun m o=>Eo .i64 v2 m fun t22=>AD t22 (K (zI 5) o) (K (zI 0) o)) w)))):AB prog 94 [v0,v1,v2] K w:=cO (aN (aO (aN (aO aE (aN (aO aE .nil)))) aE)) func94 h (by kernel_rfl)
def gZ(h: BP 162 v0 (fun i j=>AM 0 i fun t3=>AM 32 i fun t4=>AJ t4 (fun t5 w2=>runK prog (Instr.sliceAt 160 t3 none (some t5) none) (fun m o=>AB prog 119 [m] (fun q w4=>K q w4) o) w2) j) w):AB prog 96 [v0] K w:=cO (aN aE) func96 h (by kernel_rfl)
def fj(h: CY v0 fun q=>AD (.bool q) (K (zI 1) w) (BU .i64 v1 (zI 0) fun i=>AD i (K (zI 5) w) (Eo .i64 v1 v2 fun j=>AD j (K (zI 5) w) (AB prog 111 [v0] (fun m o=>Eo .i64 v2 m fun t22=>AD t22 (K (zI 5) o) (K (zI 0) o)) w)))):AB prog 97 [v0,v1,v2] K w:=cO (aN (aO (aN (aO aE (aN (aO aE .nil)))) aE)) func97 h (by kernel_rfl)
def eJ(h: Ao (fun _vs O=>∀_:Env,AK v0 fun i=>AM 0 i fun j=>AJ j (fun m w2=>K m w2) O) (fun J=>AK v0 fun t4=>AM 0 t4 fun t5=>AJ t5 (fun Q I=>CY Q fun T=>AD (.bool T) (Ai [(0,1),(1,1),(2,1)] [.nilFunc,.nilFunc,.nilFunc] [(0,(.func (.func 171) #[] #[])),(1,(.func (.func 172) #[] #[])),(2,(.func (.func 173) #[] #[]))] fun t9=>AB prog 170 [t9] (fun o w4=>AK v0 fun q=>AM 0 q fun B=>Av B o (fun U=>J [] U) w4) I) (J [] I)) w)):AB prog 99 [v0] K w:=cO (aN (.cut [] [(3,12)] (aN aE) aE)) func99 h (by kernel_rfl)
def ZF(h: CY v0 fun q=>AD (.bool q) (K (zI 1) w) (BU .i64 v1 (zI 0) fun i=>AD i (K (zI 5) w) (Eo .i64 v1 v2 fun j=>AD j (K (zI 5) w) (AB prog 57 [v0] (fun m o=>Eo .i64 v2 m fun t22=>AD t22 (K (zI 5) o) (K (zI 0) o)) w)))):AB prog 101 [v0,v1,v2] K w:=cO (aN (aO (aN (aO aE (aN (aO aE .nil)))) aE)) func101 h (by kernel_rfl)
def Zh(h: AB prog 176 [v0] (fun j O=>Ac j fun Q=>Ap [(zI 0)] (fun vs i w2=>∀_:Env,BU .i64 (nth vs 0) Q fun m=>AD m (BM 1 j (nth vs 0) fun o=>AJ o (fun q T=>AB prog 52 [q] (fun B w4=>BM 1 j (nth vs 0) fun I=>Av I B (fun U=>AW .i64 (nth vs 0) (zI 1) fun J=>i [J] U) w4) T) w2) (K j w2)) O) w):AB prog 102 [v0] K w:=cO (aN (aN (aO (aN (.node [9] [(4,4),(9,20)] (aN (aO aE (aO aE .nil))) .nil)) aE))) func102 h (by kernel_rfl)
def Yh(h: Ao (fun _vs O=>∀_:Env,AK v0 fun i=>AM 0 i fun j=>AJ j (fun m w2=>K m w2) O) (fun J=>AK v0 fun t4=>AM 0 t4 fun t5=>AJ t5 (fun Q I=>CY Q fun T=>AD (.bool T) (Ai [(0,1),(1,1),(2,1)] [.nilFunc,.nilFunc,.nilFunc] [(0,(.func (.func 179) #[] #[])),(1,(.func (.func 180) #[] #[])),(2,(.func (.func 181) #[] #[]))] fun t9=>AB prog 178 [t9] (fun o w4=>AK v0 fun q=>AM 0 q fun B=>Av B o (fun U=>J [] U) w4) I) (J [] I)) w)):AB prog 104 [v0] K w:=cO (aN (.cut [] [(3,12)] (aN aE) aE)) func104 h (by kernel_rfl)
def ZQ(h: BP 162 v0 (fun T X=>KM .i64 v1 (zI 0) fun Y=>AM 32 T fun Z=>AJ Z (fun t9 w2=>LJ .i64 Y t9 fun m=>Ap [(zI 0),(zI 0)] (fun vs i U=>∀_:Env,BU .i64 (nth vs 1) m fun o=>AD o (AM 0 T fun q=>runK prog (Instr.indexAt 160 q (nth vs 1)) (fun B w4=>AJ B (fun I V=>Cu .i32 I (.int .i32 10) fun J=>AD J (AW .i64 (nth vs 0) (zI 1) fun O=>AW .i64 (nth vs 1) (zI 1) fun Q=>i [O,Q] V) (AW .i64 (nth vs 1) (zI 1) fun j=>i [(nth vs 0),j] V)) w4) U) (K (nth vs 0) U)) w2) X) w):AB prog 109 [v0,v1] K w:=cO (aN (aO (aN (.node [4,11] [(4,5),(11,21)] (aN (aO aE (aO (aN (aN aE)) .nil))) .nil)) aE)) func109 h (by kernel_rfl)
def Yz(h: CY v0 fun b4=>AD (.bool b4) (K (zI 0) w) (AB prog 99 [v0] (fun i j=>AB prog 184 [i] (fun m w2=>K m w2) j) w)):AB prog 111 [v0] K w:=cO (aN (aO (aN (aO aE .nil)) aE)) func111 h (by kernel_rfl)
def Yd(h: AJ v1 (fun t5 J=>Ac t5 fun O=>Ap [(zI 0)] (fun vs i w2=>∀_:Env,BU .i64 (nth vs 0) O fun Q=>AD Q (BM 2 t5 (nth vs 0) fun t9=>Aa 2 t9 (fun j T=>Al 108 [(zI 0),(zI 0)] (fun t4 w4=>Ab 2 t4 j (fun U=>Aa 2 t4 (fun m V=>Bi prog Cq v0 [m] (fun o I=>CA o fun q=>AD q (K (.tuple #[]) I) (AW .i64 (nth vs 0) (zI 1) fun B=>i [B] I)) V) U) w4) T) w2) (K (.tuple #[]) w2)) J) w):AB prog 112 [v0,v1] K w:=cO (aN (.node [7] [(4,4),(7,15)] (aN (aO aE (aO (aN (aN aE)) .nil))) .nil)) func112 h (by kernel_rfl)
def ZT(h: Al 162 (zR [(zI 0)]) (fun i Z=>AB prog 224 [v0,(.func (.func 225) #[] #[])] (fun t7 w2=>AD t7 (Ai [(0,32),(32,1)] (zR [(zI 0)]) [] fun t8=>Ab 33 i t8 (fun w3=>Aa 33 i (fun r0 w4=>K (.tuple #[r0,(zI 3)]) w4) w3) w2) (Ac v0 fun o=>Eo .i64 o (zI 32) fun q=>AD q (Ai [(0,32),(32,1)] (zR [(zI 0)]) [] fun B=>Ab 33 i B (fun w5=>Aa 33 i (fun j w6=>K (.tuple #[j,(zI 8)]) w6) w5) w2) (Al 162 (zR [(zI 0)]) (fun t4 w7=>AM 0 t4 fun I=>runK prog (Instr.sliceAt 160 I none none none) (fun J w8=>runK prog (Builtin.copy_ #[80,80] 3 [J,v0].toArray) (fun O w9=>AM 32 t4 fun Q=>Av Q O (fun T=>Aa 33 t4 (fun U V=>Ab 33 i U (fun X=>Aa 33 i (fun m Y=>K (.tuple #[m,(zI 0)]) Y) X) V) T) w9) w8) w7) w2))) Z) w):AB prog 149 [v0] K w:=cO (aN (aO (aN (aO aE (aN (aO aE .nil)))) (aN (aN aE)))) func149 h (by kernel_rfl)
def Y5(h: CY v0 fun o=>AD (.bool o) (K (zI 1) w) (AB prog 236 [v3,(.func (.func 237) #[] #[])] (fun q w1=>AD q (K (zI 3) w1) (AB prog 97 [v0,v1,v2] (fun m w2=>Dp .i64 m (zI 0) fun t22=>AD t22 (K m w2) (AB prog 111 [v0] (fun t25 w3=>BR .i64 (zI 536870912) t25 fun B=>AW .i64 B v2 fun I=>BR .i64 I v1 fun J=>Ac v3 fun O=>Ap [J,(zI 0)] (fun vs i w4=>∀_:Env,BU .i64 (nth vs 1) O fun Q=>AD Q (BM 2 v3 (nth vs 1) fun T=>Aa 2 T (fun U w5=>Al 108 [(zI 0),(zI 0)] (fun j w6=>Ab 2 j U (fun w7=>AM 0 j fun V=>AJ V (fun X w8=>Eo .i64 X (nth vs 0) fun Y=>AD Y (K (zI 8) w8) (AM 0 j fun Z=>AJ Z (fun a1 w9=>BR .i64 (nth vs 0) a1 fun a6=>AW .i64 (nth vs 1) (zI 1) fun t45=>i [a6,t45] w9) w8)) w7) w6) w5) w4) (AB prog 99 [v0] (fun a7 a8=>AB prog 238 [a7,v1,v2,v3] (fun _t51 ak=>K (zI 0) ak) a8) w4)) w3) w2)) w1)) w)):AB prog 151 [v0,v1,v2,v3] K w:=cO (aN (aO (aN (aO aE .nil)) (aO (aN (aO aE .nil)) (aO (aN (aN (aO aE .nil))) (aN (aO (aN (.node [10,33] [(8,8),(10,10),(12,12),(33,45)] (aN (aO aE (aO (aN (aO (aN (aO aE .nil)) .nil)) .nil))) .nil)) (aN aE))))))) func151 h (by kernel_rfl)
def bQ(h: BP 162 v0 (fun j i=>Au [1,3] [[],[0],[],[0,1,2],[0,1,2,3],[0,1,2,3,4]] i.drew (fun M m=>Eg (m 0) 33 j fun t4=>AB prog 159 [t4] (fun t5 w2=>Mod (M 1) i.drew w2/\ Eg (m 2) 33 j fun q=>AB prog 160 [q] (fun B o=>Mod (M 3) w2 o/\ K (.tuple #[t5,B]) o) w2) i.drew)) w):AB prog 158 [v0] K w:=cO (aN (aO (.dc [1,3] [[],[0],[],[0,1,2],(aR 4),(aR 5)] []) .nil)) func158 h (by kernel_rfl)
def YN(h: BP 162 v0 (fun i j=>AM 32 i fun t3=>AJ t3 (fun t4 w2=>K t4 w2) j) w):AB prog 159 [v0] K w:=cO (aN aE) func159 h (by kernel_rfl)
def Y7(h: BP 162 v0 (fun i j=>Aa 33 i (fun t3 w2=>AM 32 i fun t4=>AJ t4 (fun t5 m=>AB prog 109 [t3,t5] (fun o w4=>K o w4) m) w2) j) w):AB prog 160 [v0] K w:=cO (aN aE) func160 h (by kernel_rfl)
def Yb(h: BP 162 v0 (fun Y Z=>Al 162 (zR [(zI 0)]) (fun t4 w2=>Al 162 (zR [(zI 0)]) (fun t5 w3=>Aa 33 Y (fun o w4=>AB prog 162 [o,v1] (fun i w5=>AR 0 i fun q=>AR 1 i fun B=>AR 2 i fun _t15=>Al 162 (zR [(zI 0)]) (fun U w6=>Al 162 (zR [(zI 0)]) (fun V w7=>Ab 33 U q (fun w8=>Ab 33 V B (fun I=>Au [2,3] [[],[],[0],[0,1,2]] I.drew (fun M X=>Eg (X 0) 33 U fun J=>Eg (X 1) 33 V fun O=>Ab 33 t4 J (fun j=>Mod (M 2) I.drew j/\ Ab 33 t5 O (fun m=>Mod (M 3) j m/\ Aa 33 t4 (fun r0 Q=>Aa 33 t5 (fun r1 T=>K (.tuple #[r0,r1]) T) Q) m) j) I.drew)) w8) w7) w6) w5) w4) w3) w2) Z) w):AB prog 161 [v0,v1] K w:=cO (aN (aN (aO (.dc [2,3] [[],[],[0],[0,1,2]] []) .nil))) func161 h (by kernel_rfl)
def bz(h: BP 162 v0 (fun t2 w1=>Al 162 (zR [(zI 0)]) (fun t4 w2=>Al 162 (zR [(zI 0)]) (fun t5 w3=>Ao (fun _vs w4=>∀_:Env,Ao (fun _vs_1 w5=>∀_:Env,Ao (fun _vs_2 w6=>∀_:Env,Aa 33 t4 (fun bp w7=>Aa 33 t5 (fun bs w8=>Ab 33 t4 bp (fun w9=>Ab 33 t5 bs (fun bx=>Aa 33 t4 (fun r0 c4=>Aa 33 t5 (fun r1 c6=>K (.tuple #[r0,r1,(zI 0)]) c6) c4) bx) w9) w8) w7) w6) (fun ax=>Au [1,6,7,9] [[],[0],[],[],[],[4],[2,3,4,5],[0,1,2,3,4,5,6],[0,1,2,3,4,5,6,7],[0,1,2,3,4,5,6,7,8]] w5.drew (fun M St=>AM 0 t5 fun ay=>AM 0 t2 fun b0=>AM 32 t2 fun c7=>As (St 5) c7 fun b1=>(runK prog (Instr.sliceAt 160 ay none none none) (fun t25 j=>Mod (M 1) w5.drew j/\ runK prog (Instr.sliceAt 160 b0 (some v1) (some b1) none) (fun c8 m=>Mod (M 6) j m/\ runK prog (Builtin.copy_ #[80,80] 3 [t25,c8].toArray) (fun c9 o=>Mod (M 7) m o/\ AM 32 t5 fun ca=>Av ca c9 (fun b2=>Mod (M 9) o b2/\ ax [] b2) o) m) j) w5.drew)/\ (runK prog (Instr.sliceAt 160 b0 (some v1) (some b1) none) (fun q B=>Mod (M 6) w5.drew B/\ runK prog (Instr.sliceAt 160 ay none none none) (fun I O=>Mod (M 1) B O/\ runK prog (Builtin.copy_ #[80,80] 3 [I,q].toArray) (fun Q T=>Mod (M 7) O T/\ AM 32 t5 fun U=>Av U Q (fun b6=>Mod (M 9) T b6/\ ax [] b6) T) O) B) w5.drew)))) (fun b7=>Au [1,4,5,7] [[],[0],[],[],[2,3],[0,1,2,3,4],[0,1,2,3,4,5],[0,1,2,3,4,5,6]] w4.drew (fun i _St_1=>AM 0 t4 fun b8=>AM 0 t2 fun b9=>(runK prog (Instr.sliceAt 160 b8 none none none) (fun cc V=>Mod (i 1) w4.drew V/\ runK prog (Instr.sliceAt 160 b9 none (some v1) none) (fun cd X=>Mod (i 4) V X/\ runK prog (Builtin.copy_ #[80,80] 3 [cc,cd].toArray) (fun t22 Y=>Mod (i 5) X Y/\ AM 32 t4 fun ch=>Av ch t22 (fun ba=>Mod (i 7) Y ba/\ b7 [] ba) Y) X) V) w4.drew)/\ (runK prog (Instr.sliceAt 160 b9 none (some v1) none) (fun Z a1=>Mod (i 4) w4.drew a1/\ runK prog (Instr.sliceAt 160 b8 none none none) (fun a6 a7=>Mod (i 1) a1 a7/\ runK prog (Builtin.copy_ #[80,80] 3 [a6,Z].toArray) (fun a8 ak=>Mod (i 5) a7 ak/\ AM 32 t4 fun al=>Av al a8 (fun bb=>Mod (i 7) ak bb/\ b7 [] bb) ak) a7) a1) w4.drew)))) (fun J=>BU .i64 v1 (zI 0) fun t8=>AD t8 (Aa 33 t4 (fun cn cv=>Aa 33 t5 (fun cx da=>Ab 33 t4 cn (fun dk=>Ab 33 t5 cx (fun dT=>Aa 33 t4 (fun bc e1=>Aa 33 t5 (fun bd e2=>K (.tuple #[bc,bd,(zI 5)]) e2) e1) dT) dk) da) cv) w3) (AM 32 t2 fun e3=>AJ e3 (fun e4 bk=>Eo .i64 v1 e4 fun e5=>AD e5 (Aa 33 t4 (fun an e6=>Aa 33 t5 (fun av e7=>Ab 33 t4 an (fun e8=>Ab 33 t5 av (fun e9=>Aa 33 t4 (fun bl ea=>Aa 33 t5 (fun bn ec=>K (.tuple #[bl,bn,(zI 5)]) ec) ea) e9) e8) e7) e6) bk) (J [] bk)) w3))) w2) w1) w):AB prog 162 [v0,v1] K w:=cO (aN (.cut [] [(6,16)] (aN (aO aE .nil)) (.cut [] [(17,23)] (.dt [1,4,5,7] [[],[0],[],[],[2,3],(aR 5),(aR 6),(aR 7)] [[1,4,5]] (.op 0 (.op 2 (.op 3 (.br (.op 1 (.op 4 (.op 5 (.op 6 (.op 7 .nil))))) (.op 4 (.op 1 (.op 5 (.op 6 (.op 7 .nil)))))))))) (.cut [] [(24,32)] (.dt [1,6,7,9] [[],[0],[],[],[],[4],[2,3,4,5],(aR 7),(aR 8),(aR 9)] [[1,6,7]] (.op 0 (.op 2 (.op 3 (.op 4 (.op 5 (.br (.op 1 (.op 6 (.op 7 (.op 8 (.op 9 .nil))))) (.op 6 (.op 1 (.op 7 (.op 8 (.op 9 .nil)))))))))))) aE)))) func162 h (by kernel_rfl)
def bu(h: BP 162 v0 (fun Q T=>BP 162 v1 (fun t3 w2=>Al 162 (zR [(zI 0)]) (fun t4 U=>Aa 33 Q (fun t9 w4=>Aa 33 t3 (fun j V=>AB prog 164 [t9,j] (fun i X=>AR 0 i fun m=>AR 1 i fun o=>Al 162 (zR [(zI 0)]) (fun O Y=>Ab 33 O m (fun Z=>Aa 33 O (fun q w9=>Cu .i64 o (zI 0) fun B=>Ab 33 t4 q (fun I=>Aa 33 t4 (fun r0 J=>K (.tuple #[r0,B]) J) I) w9) Z) Y) X) V) w4) U) w2) T) w):AB prog 163 [v0,v1] K w:=cO (aN (aN aE)) func163 h (by kernel_rfl)
def Yf(h: BP 162 v0 (fun j w1=>BP 162 v1 (fun t3 w2=>Al 162 (zR [(zI 0)]) (fun t4 w3=>AM 32 j fun t6=>AJ t6 (fun t7 w4=>AM 32 t3 fun t8=>AJ t8 (fun t9 w5=>AW .i64 t7 t9 fun eu=>Eo .i64 eu (zI 32) fun ew=>AD ew (Ai [(0,32),(32,1)] (zR [(zI 0)]) [] fun ey=>Ab 33 t4 ey (fun w6=>Aa 33 t4 (fun r0 w7=>K (.tuple #[r0,(zI 8)]) w7) w6) w5) (Ao (fun _vs w8=>∀_:Env,Ao (fun _vs_1 w9=>∀_:Env,Aa 33 j (fun eA eB=>Ab 33 t4 eA (fun eC=>Aa 33 t4 (fun ea eI=>K (.tuple #[ea,(zI 0)]) eI) eC) eB) w9) (fun i=>Au [1,5,9,10,13] [[],[0],[],[],[3],[2,3,4],[],[],[7],[6,7,8],[2,3,4,5,6,7,8,9],[0,1,2,3,4,5,6,7,8,9,10],[0,1,2,3,4,5,6,7,8,9,10,11],[0,1,2,3,4,5,6,7,8,9,10,11,12]] w8.drew (fun M St=>AM 32 j fun m=>AM 0 j fun t25=>AM 32 j fun eL=>As (St 4) eL fun B=>AM 0 t3 fun I=>AM 32 t3 fun eN=>As (St 8) eN fun O=>(AJ m (fun ec Q=>Mod (M 1) w8.drew Q/\ (runK prog (Instr.sliceAt 160 t25 (some B) none none) (fun eR a1=>Mod (M 5) Q a1/\ runK prog (Instr.sliceAt 160 I none (some O) none) (fun eX a6=>Mod (M 9) a1 a6/\ runK prog (Builtin.copy_ #[80,80] 3 [eR,eX].toArray) (fun fa a7=>Mod (M 10) a6 a7/\ AW .i64 ec fa fun fo=>AM 32 j fun fs=>Av fs fo (fun ed=>Mod (M 13) a7 ed/\ i [] ed) a7) a6) a1) Q)/\ (runK prog (Instr.sliceAt 160 I none (some O) none) (fun a8 ak=>Mod (M 9) Q ak/\ runK prog (Instr.sliceAt 160 t25 (some B) none none) (fun al an=>Mod (M 5) ak an/\ runK prog (Builtin.copy_ #[80,80] 3 [al,a8].toArray) (fun av ax=>Mod (M 10) an ax/\ AW .i64 ec av fun ay=>AM 32 j fun b0=>Av b0 ay (fun ee=>Mod (M 13) ax ee/\ i [] ee) ax) an) ak) Q)) w8.drew)/\ ((runK prog (Instr.sliceAt 160 t25 (some B) none none) (fun o T=>Mod (M 5) w8.drew T/\ (AJ m (fun b1 b2=>Mod (M 1) T b2/\ runK prog (Instr.sliceAt 160 I none (some O) none) (fun b6 b7=>Mod (M 9) b2 b7/\ runK prog (Builtin.copy_ #[80,80] 3 [o,b6].toArray) (fun b8 b9=>Mod (M 10) b7 b9/\ AW .i64 b1 b8 fun ba=>AM 32 j fun bb=>Av bb ba (fun ef=>Mod (M 13) b9 ef/\ i [] ef) b9) b7) b2) T)/\ (runK prog (Instr.sliceAt 160 I none (some O) none) (fun U V=>Mod (M 9) T V/\ (AJ m (fun bc bd=>Mod (M 1) V bd/\ runK prog (Builtin.copy_ #[80,80] 3 [o,U].toArray) (fun bk bl=>Mod (M 10) bd bl/\ AW .i64 bc bk fun bn=>AM 32 j fun bp=>Av bp bn (fun eh=>Mod (M 13) bl eh/\ i [] eh) bl) bd) V)/\ (runK prog (Builtin.copy_ #[80,80] 3 [o,U].toArray) (fun bs bx=>Mod (M 10) V bx/\ AJ m (fun c4 c6=>Mod (M 1) bx c6/\ AW .i64 c4 bs fun c7=>AM 32 j fun c8=>Av c8 c7 (fun ej=>Mod (M 13) c6 ej/\ i [] ej) c6) bx) V)) T)) w8.drew)/\ (runK prog (Instr.sliceAt 160 I none (some O) none) (fun q X=>Mod (M 9) w8.drew X/\ (AJ m (fun c9 ca=>Mod (M 1) X ca/\ runK prog (Instr.sliceAt 160 t25 (some B) none none) (fun cc cd=>Mod (M 5) ca cd/\ runK prog (Builtin.copy_ #[80,80] 3 [cc,q].toArray) (fun ch cn=>Mod (M 10) cd cn/\ AW .i64 c9 ch fun cv=>AM 32 j fun cx=>Av cx cv (fun ek=>Mod (M 13) cn ek/\ i [] ek) cn) cd) ca) X)/\ (runK prog (Instr.sliceAt 160 t25 (some B) none none) (fun Y Z=>Mod (M 5) X Z/\ (AJ m (fun da dk=>Mod (M 1) Z dk/\ runK prog (Builtin.copy_ #[80,80] 3 [Y,q].toArray) (fun dT e1=>Mod (M 10) dk e1/\ AW .i64 da dT fun e2=>AM 32 j fun e3=>Av e3 e2 (fun en=>Mod (M 13) e1 en/\ i [] en) e1) dk) Z)/\ (runK prog (Builtin.copy_ #[80,80] 3 [Y,q].toArray) (fun e4 e5=>Mod (M 10) Z e5/\ AJ m (fun e6 e7=>Mod (M 1) e5 e7/\ AW .i64 e6 e4 fun e8=>AM 32 j fun e9=>Av e9 e8 (fun eo=>Mod (M 13) e7 eo/\ i [] eo) e7) e5) Z)) X)) w8.drew))))) (fun J=>AM 0 j fun fv=>Aa 32 fv (fun ga gb=>runK prog (Instr.build 160 [].toArray) (fun gd gf=>runK prog (BS .eql 160 (.tmp 14) (.tmp 15) ga gd) (fun gg ep=>AD gg (AM 32 j fun gl=>AJ gl (fun gm er=>Cu .i64 gm (zI 0) fun gw=>AD gw (Aa 33 t3 (fun t22 gA=>Ab 33 t4 t22 (fun gB=>Aa 33 t4 (fun et gW=>K (.tuple #[et,(zI 0)]) gW) gB) gA) er) (J [] er)) ep) (J [] ep)) gf) gb) w5))) w4) w3) w2) w1) w):AB prog 164 [v0,v1] K w:=cO (aN (aO (aN (aO aE .nil)) (.cut [] [(5,5),(13,22)] (aN (aO aE .nil)) (.cut [] [(23,35)] (.dt [1,5,9,10,13] [[],[0],[],[],[3],[2,3,4],[],[],[7],[6,7,8],[2,3,4,5,6,7,8,9],(aR 11),(aR 12),(aR 13)] [[1,5,9,10]] (.op 0 (.op 2 (.op 3 (.op 4 (.op 6 (.op 7 (.op 8 (.br (.op 1 (.br (.op 5 (.op 9 (.op 10 (.op 11 (.op 12 (.op 13 .nil)))))) (.op 9 (.op 5 (.op 10 (.op 11 (.op 12 (.op 13 .nil)))))))) (.br (.op 5 (.br (.op 1 (.op 9 (.op 10 (.op 11 (.op 12 (.op 13 .nil)))))) (.op 9 (.br (.op 1 (.op 10 (.op 11 (.op 12 (.op 13 .nil))))) (.op 10 (.op 1 (.op 11 (.op 12 (.op 13 .nil))))))))) (.op 9 (.br (.op 1 (.op 5 (.op 10 (.op 11 (.op 12 (.op 13 .nil)))))) (.op 5 (.br (.op 1 (.op 10 (.op 11 (.op 12 (.op 13 .nil))))) (.op 10 (.op 1 (.op 11 (.op 12 (.op 13 .nil))))))))))))))))))) aE)))) func164 h (by kernel_rfl)
def aA(h: BP 108 v0 (fun i j=>AM 0 i fun t4=>AJ t4 (fun t5 w2=>K (.tuple #[t5,(zI 0)]) w2) j) w):AB prog 171 [v0] K w:=cO (aN aE) func171 h (by kernel_rfl)
def YA(h: BP 108 v0 (fun i T=>Al 108 [(zI 0),(zI 0)] (fun t4 w2=>Al 108 [(zI 0),(zI 0)] (fun t5 j=>Au [11,12] [[],[],[1],[0,1,2],[],[4],[],[4,5,6],[],[8],[4,5,6,7,8,9],[0,1,2,3],[0,1,2,3,4,5,6,7,8,9,10,11]] j.drew (fun M m=>AM 1 i fun U=>As (m 2) U fun V=>Ai [(0,1),(1,1)] [(zI 0),(zI 0)] [(0,v1),(1,V)] fun t9=>AM 0 i fun o=>As (m 5) o fun q=>BR .i64 q v1 fun B=>AM 1 i fun I=>As (m 9) I fun J=>Ai [(0,1),(1,1)] [(zI 0),(zI 0)] [(0,B),(1,J)] fun O=>Ab 2 t4 t9 (fun w4=>Mod (M 11) j.drew w4/\ Ab 2 t5 O (fun Q=>Mod (M 12) w4 Q/\ Aa 2 t4 (fun X Y=>Aa 2 t5 (fun r1 Z=>K (.tuple #[X,r1]) Z) Y) Q) w4) j.drew)) w2) T) w):AB prog 172 [v0,v1] K w:=cO (aN (aO (.dc [11,12] [[],[],[1],[0,1,2],[],[4],[],[4,5,6],[],[8],[4,5,6,7,8,9],(aR 4),(aR 12)] []) .nil)) func172 h (by kernel_rfl)
def ZE(h: BP 108 v0 (fun j V=>BP 108 v1 (fun t3 w2=>Al 108 [(zI 0),(zI 0)] (fun t4 m=>Au [13] [[],[0],[],[2],[0,1,2,3],[],[5],[0,1,2,3,4,5,6],[],[8],[],[10],[8,9,10,11],[0,1,2,3,4,5,6,7],[0,1,2,3,4,5,6,7,8,9,10,11,12,13]] m.drew (fun M i=>AM 0 j fun X=>As (i 1) X fun Y=>AM 0 t3 fun Z=>As (i 3) Z fun t9=>AW .i64 Y t9 fun o=>AM 1 j fun q=>As (i 6) q fun B=>Ai [(0,1),(1,1)] [(zI 0),(zI 0)] [(0,o),(1,B)] fun I=>AM 1 j fun J=>As (i 9) J fun O=>AM 1 t3 fun Q=>As (i 11) Q fun T=>Cu .i64 O T fun U=>Ab 2 t4 I (fun w4=>Mod (M 13) m.drew w4/\ Aa 2 t4 (fun r0 w5=>K (.tuple #[r0,U]) w5) w4) m.drew)) w2) V) w):AB prog 173 [v0,v1] K w:=cO (aN (aO (.dc [13] [[],[0],[],[2],(aR 4),[],[5],(aR 7),[],[8],[],[10],[8,9,10,11],(aR 8),(aR 14)] []) .nil)) func173 h (by kernel_rfl)
def YX(h: K (.tuple #[(zI 1),(zI 0)]) w):AB prog 179 [v0] K w:=cO (aN aE) func179 h (by kernel_rfl)
def ZI(h: K (.tuple #[(.slice none 0 0),(.bool false)]) w):AB prog 181 [v0,v1] K w:=cO (aN aE) func181 h (by kernel_rfl)
def YR(h: AB prog 226 [v0] (fun t4 i=>CA t4 fun t5=>K t5 i) w):AB prog 225 [v0] K w:=cO (aN aE) func225 h (by kernel_rfl)
def az(h: Km .i32 v0 (.int .i32 0) fun t4=>AD t4 (SZ .i32 v0 (.int .i32 1114111) fun m=>AD m (BU .i32 v0 (.int .i32 55296) fun i=>AD i (K (.bool true) w) (Eo .i32 v0 (.int .i32 57343) fun j=>K j w)) (K (.bool false) w)) (K (.bool false) w)):AB prog 226 [v0] K w:=cO (aN aE) func226 h (by kernel_rfl)
def Yg(h: BP 108 v0 (fun i j=>AM 0 i fun t3=>AJ t3 (fun t4 w2=>BU .i64 t4 (zI 0) fun t5=>AD t5 (K (.bool true) w2) (AM 1 i fun m=>AJ m (fun o q=>BU .i64 o (zI 0) fun t9=>K t9 q) w2)) j) w):AB prog 237 [v0] K w:=cO (aN aE) func237 h (by kernel_rfl)
def eK(h: AB prog 169 [(.slice none 0 0),v0] (fun t4 i=>K t4 i) w):AB prog 98 [v0] K w:=cO (aN aE) func98 h (by kernel_rfl)
def aJ(h: AB prog 177 [(.slice none 0 0),v0] (fun t4 i=>K t4 i) w):AB prog 103 [v0] K w:=cO (aN aE) func103 h (by kernel_rfl)
def af(h: Ec 101 v0 (fun i j=>
 HH prog Cq v1 1 (fun args m w2=>
 Al 108 [(zI 0),(zI 0)] (fun t5 w4=>
 Ab 2 t5 (nth args 0) (fun V=>
 m (fun post X=>
 AJ i (fun Y Z=>
 Aa 2 t5 (fun t9 w7=>
 Ba 108 2 1 [(zI 0),(zI 0)] [(0,t9)] (fun o w8=>
 runK prog (Builtin.append_ #[101,101] 101 [Y,o].toArray) (fun q w9=>
 Av i q (fun B=>
 post .normal B) w9) w8) w7) Z) X) V) w4) w2) (dZ (fun I=>
 AJ i (fun J O=>
 FE j.heap.size (fun Q=>
 K J Q) O) I) (fun T=>
 FE j.heap.size (fun U=>
 K (.slice none 0 0) U) T) []) j) w):AB prog 169 [v0,v1] K w:=
 Fh (P:=prog) (ok:=Cq) (n:=13) (fn:=Tryz.f169) (c:=Hx Tryz.f169) (rs:=[.tmp 4]) (an:=(aN (aO (aN aE) aE))) FM mixed func169 (by kernel_rfl) (by kernel_rfl) (by kernel_rfl) (by kernel_rfl) (Eq.mp (by kernel_rfl) h)
def ah(h: Ec 50 v0 (fun i j=>
 HH prog Cq v1 1 (fun args m w2=>
 m (fun post Q=>
 AJ i (fun T w4=>
 Ba 43 1 1 [(.slice none 0 0)] [(0,(nth args 0))] (fun o U=>
 runK prog (Builtin.append_ #[50,50] 50 [T,o].toArray) (fun q V=>
 Av i q (fun X=>
 post .normal X) V) U) w4) Q) w2) (dZ (fun Y=>
 AJ i (fun B Z=>
 FE j.heap.size (fun I=>
 K B I) Z) Y) (fun J=>
 FE j.heap.size (fun O=>
 K (.slice none 0 0) O) J) []) j) w):AB prog 177 [v0,v1] K w:=
 Fh (P:=prog) (ok:=Cq) (n:=13) (fn:=Tryz.f177) (c:=Hx Tryz.f177) (rs:=[.tmp 4]) (an:=(aN (aO (aN aE) aE))) FM mixed func177 (by kernel_rfl) (by kernel_rfl) (by kernel_rfl) (by kernel_rfl) (Eq.mp (by kernel_rfl) h)
def ZG(h: Gl v0 fun b4=>AD (.bool b4) (K (.slice none 0 0) w) (Ba 43 1 0 [] [] (fun t5 i=>runK prog (Builtin.append_ #[50,50] 50 [t5,v0].toArray) (fun j w2=>K j w2) i) w)):AB prog 176 [v0] K w:=cO (aN (aO (aN (aO aE .nil)) aE)) func176 h (by kernel_rfl)
def bY(h: Ec 80 v0 (fun j m=>Ec 3 v1 (fun t3 w2=>AJ t3 (fun t5 i=>BU .i64 t5 (zI 1) fun o=>AD o (runK prog (Instr.makeInterface 9 (.string (ByteArray.mk #[99,97,110,110,111,116,32,98,101,32,108,101,115,115,32,116,104,97,110,32,49]))) (fun _t7 w4=>False) i) (K (.func (.func 223) #[] #[j,t3]) i)) w2) m) w):AB prog 148 [v0,v1] K w:=cO (aN (aO (aN aE) aE)) func148 h (by kernel_rfl)
def Ye(h: Ap [(zI 0)] (fun vs i w1=>∀_:Env,AJ v1 (fun t7 w2=>Ac t7 fun t8=>BU .i64 (nth vs 0) t8 fun t9=>AD t9 (Au [3] [[],[],[],[1,2],[1,2,3],[0,1,2,3,4],[0,1,2,3,4,5]] w2.drew (fun M Y=>As (Y 0) v2 fun m=>As (Y 1) v1 fun o=>runK prog (Instr.sliceAt 80 o (some (nth vs 0)) none none) (fun q Z=>Mod (M 3) w2.drew Z/\ Ac q fun B=>LJ .i64 m B fun j=>AJ v1 (fun I w4=>AW .i64 (nth vs 0) j fun J=>AW .i64 (nth vs 0) j fun O=>runK prog (Instr.sliceAt 80 I (some (nth vs 0)) (some J) (some O)) (fun Q w5=>Bi prog Cq v0 [Q] (fun T w6=>CA T fun U=>AD U (K (.tuple #[]) w6) (AJ v2 (fun V w7=>AW .i64 (nth vs 0) V fun X=>i [X] w7) w6)) w5) w4) Z) w2.drew)) (K (.tuple #[]) w2)) w1) w):AB prog 223 [v0,v1,v2] K w:=cO (aN (.node [4] [(4,30)] (aO (aN aE) (aO (aO (.dc [3] [[],[],[],[1,2],[1,2,3],(aR 5),(aR 6)] []) (aN aE)) .nil)) .nil)) func223 h (by kernel_rfl)
def YE(h: AB prog 270 [v0,v1] (fun i j=>Km .i64 i (zI 0) fun m=>K m j) w):AB prog 236 [v0,v1] K w:=cO (aN aE) func236 h (by kernel_rfl)
def ag(h: Ac v0 fun J=>Ap [(zI 0)] (fun vs i B=>∀_:Env,BU .i64 (nth vs 0) J fun t9=>AD t9 (BM 2 v0 (nth vs 0) fun j=>Aa 2 j (fun m w2=>Bi prog Cq v1 [m] (fun o I=>AD o (K (nth vs 0) I) (AW .i64 (nth vs 0) (zI 1) fun q=>i [q] I)) w2) B) (K (zI (-1)) B)) w):AB prog 270 [v0,v1] K w:=cO (aN (aO (aN (.node [8] [(4,5),(8,18)] (aN (aO aE (aO (aN (aN (aO aE .nil))) .nil))) .nil)) aE)) func270 h (by kernel_rfl)
end
def iT(b i j:Nat):(⟨b,i,none⟩:Addr).add j=⟨b,i+j,none⟩:=by rw[<-AH b i,Addr.add_add,AH]
def Pa(b:Nat):∀(us:List Value) (p:Nat) (w:World),w.setCells b p us=EW w ⟨b,0,none⟩ p us:=by
 intro us;induction us with
 |nil=>intro p w;rfl
 |cons v us i=>intro p w;rw[World.setCells,EW,AH,i]
def Bx.copy{b o I dc sl O:Nat}{a:Addr}{vs us:List Value}{J Q ty i:TypeId}(hu:P.underlying J=some (.slice i))(V:(P.info? i).map (·.size)=some 1)
 (h:Bx W b vs)(X:us.length=min sl I)(T:us=[]\/o+us.length<=vs.length)(q:∀j v,us[j]?=some v->W.cell? (a.add j)=some v)(h1:∀v∈us,v.oneCell'=true)
 (U:∀W',Bx W' b (I7 vs o us)->Mod (fun x=>x=b) W W'->K (zI (us.length:Int)) W') :
  runK P (Builtin.copy_ #[J,Q] ty [Value.slice (some ⟨b,o,none⟩) I dc,.slice (some a) sl O].toArray) K W:=by
 have m:∀j,j<us.length->Live W ⟨b,o+j,none⟩:=fun j B=>by
  rcases T with e|e
  .subst e;exact(Nat.not_lt_zero _ B).elim
  .exact h.live _ (by omega)
 refine Ae (run_copy_cells W J Q ty i b o I dc a sl O us hu V X q (fun j B=>(m j B).1) (fun j B=>(m j B).2) h1) ?_;rw[Pa];rcases T with e|e
 .subst e;exact U _ h (Mod.refl _ _)
 .have:=h.EW us o W vs e;exact U _ this.1 this.2
def Wx:prog.underlying 160=some (.array (prog.arrayLen 160) (prog.elem 160))/\prog.arrayLen 160=32/\prog.elem 160=21:=by
 have hu:=underlying160;have i:prog.arrayLen 160=32:=by simp[Program.arrayLen,hu]
 have j:prog.elem 160=21:=by simp[Program.elem,hu]
 exact⟨by rw[i,j];exact hu,i,j⟩
def XC(w:World):(sizeOf 21).run prog w=.ok 1 w:=by
 simp only[sizeOf,kL,Tryz.typeInfo21,S9,lU];rfl
def cZ{b i:Nat}(h:i<32)(j:K (.pointer (some ⟨b,i,none⟩)) W):runK prog (Instr.indexAt 160 (.pointer (some ⟨b,0,none⟩)) (zI (i:Int))) K W:=by
 obtain⟨ht,m,o⟩:=Wx;refine Ae ?_ j;rw[run_indexAt_array W _ _ _ _ ht,DN ⟨by omega,by rw[m];omega⟩,o,XC,S9,lf,ns,AH]
def Mj{b:Nat}(i:K (.slice (some ⟨b,0,none⟩) 32 32) W):runK prog (Instr.sliceAt 160 (.pointer (some ⟨b,0,none⟩)) none none none) K W:=by
 obtain⟨ht,j,m⟩:=Wx;refine Ae ?_ i;rw[run_sliceAt_array_all W _ _ ht,m,XC,S9,j];simp[slicedAt,AH]
def bJ{b h:Nat}(o:h<=32)(j:K (.slice (some ⟨b,0,none⟩) h 32) W):runK prog (Instr.sliceAt 160 (.pointer (some ⟨b,0,none⟩)) none (some (zI (h:Int))) none) K W:=by
 obtain⟨ht,i,m⟩:=Wx;refine Ae ?_ j;rw[run_sliceAt_array_h W _ _ ht _ _ (by omega) (by rw[i];omega),m,XC,S9,i];simp[slicedAt,AH]
def jU{b l:Nat}(hl:l<=32)(j:K (.slice (some ⟨b,if 32=l then 0 else l,none⟩) (32-l) (32-l)) W):runK prog (Instr.sliceAt 160 (.pointer (some ⟨b,0,none⟩)) (some (zI (l:Int))) none none) K W:=by
 obtain⟨ht,i,m⟩:=Wx;refine Ae ?_ j;rw[run_sliceAt_array_l W _ _ ht _ _ (by omega) (by rw[i];omega),m,XC,S9,i];simp only[slicedAt,lf,ns,AH];by_cases e:32=l
 .rw[DN e,DN e]
 .rw[Bq e,Bq e]
def cV{b l h:Nat}(hl:l<=h)(o:h<=32)(j:K (.slice (some ⟨b,if 32=l then 0 else l,none⟩) (h-l) (32-l)) W):runK prog (Instr.sliceAt 160 (.pointer (some ⟨b,0,none⟩)) (some (zI (l:Int))) (some (zI (h:Int))) none) K W:=by
 obtain⟨ht,i,m⟩:=Wx;refine Ae ?_ j;rw[run_sliceAt_array_lh W _ _ ht _ _ _ _ (by omega) (by omega) (by rw[i];omega),m,XC,S9,i];simp only[slicedAt,lf,ns,AH];by_cases e:32=l
 .rw[DN e,DN e]
 .rw[Bq e,Bq e]
def OS{e d:Nat}{k:IntKind}(he:P.plainKey e=true)(hu:P.underlying e=some (.int k)){xs m:Array Value}:∀is:List Nat,(∀i∈is,∃a b,xs[i*1]?=some (.int k a)/\m[i*1]?=some (.int k b))->
  ∃r,(Op.eqItems (d+1) e 1 xs m is).run P w=.ok r w:=by
 intro is;induction is with
 |nil=>intro _;exact⟨true,by simp[Op.eqItems]⟩
 |cons i is o=>
  intro h;obtain⟨a,b,h1,q⟩:=h i (by simp);obtain⟨r,hr⟩:=o fun j B=>h j (by simp[B]);simp only[Op.eqItems,kL,run_part_plain w he h1,run_part_plain w he q,nK w d e k k a b hu,S9];cases a==b
  .exact⟨false,by simp⟩
  .exact⟨r,by simpa using hr⟩
def iW{xs m:List Int}(q:xs.length=32)(B:m.length=32)(I:∀r:Bool,K (.bool r) W) :
  runK prog (BS .eql 160 xo yo (.agg (xs.map (Value.int .i32)).toArray) (.agg (m.map (Value.int .i32)).toArray)) K W:=by
 have hu:=underlying21;have hp:prog.plainKey 21=true:=by simp[Program.plainKey,hu]
 have hc:prog.cellsOf 21=1:=by kernel_rfl
 obtain⟨i,hi⟩:∃i,prog.info? 21=some i:=⟨Tryz.t21,by kernel_rfl⟩;have key:∃r,(Op.equalIn 10000 160 (.agg (xs.map (Value.int .i32)).toArray) (.agg (m.map (Value.int .i32)).toArray)).run prog W=.ok r W:=by
  rw[run_equalIn_array W 9999 _ _ underlying160 hi,hc];refine OS (d:=9998) hp hu _ fun j J=>?_;have o:=mZ.1 J;exact⟨xs[j]'(by omega),m[j]'(by omega),by simp[q,o],by simp[B,o]⟩
 obtain⟨r,hr⟩:=key;refine Ae (v:=.bool r) (w':=W) ?_ (I r);have O:prog.eqGuardType prog.depth 160=false:=by kernel_rfl
 have Q:(eqGuard .eql 160 xo yo (.agg (xs.map (Value.int .i32)).toArray) (.agg (m.map (Value.int .i32)).toArray)).run prog W=.ok () W:=by
  simp[eqGuard,O]
 simp only[BS,kL,Q,S9];rw[run_eql_struct,hr];rfl
structure Ck where
 l:List Int
 le:l.length<=32
namespace Ck
def nil:Ck:=⟨[],by simp⟩
def tk(c:Ck)(i:Nat):Ck:=⟨c.l.take i,by have:=c.le;simp only[Lc];omega⟩
def dp(c:Ck)(i:Nat):Ck:=⟨c.l.drop i,by have:=c.le;simp only[I3];omega⟩
def jn(a b:Ck):Ck:=if h:a.l.length+b.l.length<=32 then⟨a.l++b.l,by simpa using h⟩ else nil
def all(c:Ck):List Int:=c.l++List.replicate (32-c.l.length) 0
def cells(c:Ck):List Value:=c.all.map (Value.int .i32)++[zI (c.l.length:Int)]
def Jo(c:Ck):c.all.length=32:=by have:=c.le;simp[all];omega
def len(c:Ck):c.cells.length=33:=by simp[cells,c.Jo]
def one(c:Ck):∀u∈c.cells,u.oneCell'=true:=fun u hu=>by
 simp only[cells,C3,kT,P9] at hu;rcases hu with⟨_,_,rfl⟩|rfl<;>rfl
def n(c:Ck):c.cells[32]?=some (zI (c.l.length:Int)):=by
 rw[cells,kO (by rw[Iq,c.Jo];exact Mp _),Iq,c.Jo];rfl
def iU(c:Ck){u:Value}(h:(c.all.map (Value.int .i32))[j]?=some u):c.cells[j]?=some u:=by
 rw[cells,Q0 (Ad.1 h).1];exact h
def get(c:Ck)(h:j<c.l.length):c.cells[j]?=some (.int .i32 c.l[j]):=by
 refine c.iU ?_;rw[lP,all,Q0 h,By h];rfl
def fill(c:Ck){us:List Int}(h:c.l.length+us.length<=32):(I7 c.cells c.l.length (us.map (Value.int .i32))).set 32 (zI ((c.l.length+us.length:Nat):Int))=cells ⟨c.l++us,by simpa using h⟩:=by
 have e0:c.cells=c.l.map (Value.int .i32)++(List.replicate (32-c.l.length) (Value.int .i32 0)++[zI (c.l.length:Int)]):=by
  simp[cells,all]
 have i:c.cells.take c.l.length=c.l.map (Value.int .i32):=by rw[e0,oX (by simp)]
 have j:c.cells.drop (c.l.length+us.length)=List.replicate (32-c.l.length-us.length) (Value.int .i32 0)++[zI (c.l.length:Int)]:=by
  rw[e0,<-oJ,oY (by simp),List.drop_append_of_le_length (by simp;omega),List.drop_replicate]
 rw[MY _ _ _ (by rw[c.len];simp;omega),i,Iq,j,<-Of,lY _ _ (by simp;omega)];have m:32-(c.l.map (Value.int .i32)++us.map (Value.int .i32)++List.replicate (32-c.l.length-us.length) (Value.int .i32 0)).length=0:=by simp;omega
 rw[m];simp[cells,all,qX]
def WK{us:List Int}(h:us.length<=32):(I7 nil.cells 0 (us.map (Value.int .i32))).set 32 (zI (us.length:Int))=cells ⟨us,h⟩:=by
 have:=fill nil (us:=us) (by simpa[nil] using h);simp only[nil,lG,mG,ky] at this;exact this
end Ck
abbrev BX(l:List Int):Nat:=l.count 10
def gv(c:Ck):AB prog 159 [.agg c.cells.toArray] (fun v w'=>v=zI (c.l.length:Int)/\Grow w w') w:=by
 apply YN;refine Bx.box fun b j hb i B=>?_;rw[AG,AH];exact AL (B.cells 32 _ c.n) ⟨rfl,i⟩
def P8(c:Ck)(i:Nat):AB prog 109 [.agg c.cells.toArray,zI (i:Int)] (fun v w'=>v=zI (BX (c.l.take i):Int)/\Grow w w') w:=by
 apply ZQ;refine Bx.box fun b I hb J B=>?_;rw[Gj,AG,AH];refine AL (B.cells 32 _ c.n) ?_;have O:=c.le;have e:∀{k:Value->Prop},k (zI ((min i c.l.length:Nat):Int))->LJ .i64 (zI (if(0:Int)>(i:Int) then 0 else(i:Int))) (zI (c.l.length:Int)) k:=fun{k} h=>by
  rw[Bq (by omega),HU];have:(if(c.l.length:Int)<(i:Int) then(c.l.length:Int) else(i:Int))=((min i c.l.length:Nat):Int):=by split<;>omega
  rw[this];exact h
 refine e ?_;refine AX (fun vs W=>∃k:Nat,k<=min i c.l.length/\vs=[zI (BX (c.l.take k):Int),zI k]/\W=I) (fun vs _=>32-De vs 1) ⟨0,Nn _,rfl,rfl⟩ ?_;rintro vs _ ⟨k,hk,rfl,rfl⟩ _;rename World=>I
 simp only[GC];refine Hj (fun Q=>?_) fun T=>?_
 .have j:k<c.l.length:=by omega
  rw[AG,AH];refine cZ (by omega) (AL (B.cells k _ (c.get j)) ?_);rw[Aj];have et:c.l.take (k+1)=c.l.take k++[c.l[k]]:=by rw[No];simp[j]
  have hb:BX (c.l.take k)<=32:=lV rI (by rw[Lc];omega);refine AF (fun m=>?_) fun m=>?_
  .have o:BX (c.l.take (k+1))=BX (c.l.take k)+1:=by rw[et,BX,nx,m];simp
   rw[AQ,wrap64 (by omega) (by omega),AQ,wrap64 (by omega) (by omega)];refine⟨⟨k+1,by omega,?_,rfl⟩,by rw[BD,BD];omega⟩;rw[o];rfl
  .have o:BX (c.l.take (k+1))=BX (c.l.take k):=by
    have:¬c.l[k]=(10:Int):=m;rw[et,BX,nx];simp[this]
   rw[AQ,wrap64 (by omega) (by omega)];refine⟨⟨k+1,by omega,?_,rfl⟩,by rw[BD,BD];omega⟩;rw[o];rfl
 .have q:k=min i c.l.length:=by omega
  subst q;refine⟨?_,J⟩;rw[show c.l.take (min i c.l.length)=c.l.take i by
   rcases Nat.le_total i c.l.length with h|h
   .rw[lA h]
   .rw[Nat.min_eq_right h,PF,mJ h]]
def QQ(c:Ck):AB prog 160 [.agg c.cells.toArray] (fun v w'=>v=zI (BX c.l:Int)/\Grow w w') w:=by
 apply Y7;refine Bx.box fun b m hb i B=>?_;refine B.E0 c.len ?_;refine Bh (B.cells 32 _ c.n) ?_;refine AA (P8 c c.l.length) ?_;rintro _ w2 ⟨rfl,j⟩;exact⟨by rw[PF],i.trans j⟩
def HJ:List Int->Nat->Option Nat
 |[],_=>none
 |r::t,k=>if r=10 then(match k with | 0=>some 0 | k+1=>(HJ t k).map (·+1)) else(HJ t k).map (·+1)
def Gv(r:Int)(t:List Int)(k:Nat):HJ (r::t) k=if r=10 then(match k with|0=>some 0|k+1=>(HJ t k).map (·+1)) else(HJ t k).map (·+1):=by cases k<;>rfl
def jk:Option Nat->Value
 |some i=>.tuple #[.int .i64 (i:Int),.bool true]
 |none=>.tuple #[.int .i64 0,.bool false]
def O3(c:Ck){k:Nat}(hk:k<=1099511627776):AB prog 93 [.agg c.cells.toArray,zI (k:Int)] (fun v w'=>v=jk (HJ c.l k)/\Grow w w') w:=by
 apply dQ;refine Bx.box fun b Q hb T B=>?_;refine Bh (B.cells 32 _ c.n) ?_;have U:=c.le;refine AX (fun vs W=>∃i m:Nat,i<=c.l.length/\m<=k/\vs=[zI m,zI i]/\HJ c.l k=(HJ (c.l.drop i) m).map (·+i)/\W=Q) (fun vs _=>32-De vs 1) ⟨0,k,Nn _,Mp _,rfl,by rw[mK];cases HJ c.l k<;>rfl,rfl⟩ ?_;rintro vs _ ⟨i,m,hi,hm,rfl,j,rfl⟩ _;rename World=>Q
 simp only[GC];refine Hj (fun V=>?_) fun X=>?_
 .have q:i<c.l.length:=by omega
  rw[AG,AH];refine cZ (by omega) (AL (B.cells i _ (c.get q)) ?_);rw[Bk];rw[lX q,Gv] at j;have J:∀o:Option Nat,(o.map (·+1)).map (·+i)=o.map (·+(i+1)):=fun o=>by cases o<;>simp;omega
  refine AY (fun O=>?_) fun O=>?_
  .have I:c.l[i]=(10:Int):=O;rw[DN I] at j;rw[Aj];refine AF (fun h0=>?_) fun h0=>?_
   .obtain rfl:m=0:=by omega
    exact⟨by rw[j];simp[jk],T⟩
   .obtain⟨m,rfl⟩:∃Y,m=Y+1:=⟨m-1,by omega⟩;simp only[J] at j;rw[Aq,wrap64 (by omega) (by omega),AQ,wrap64 (by omega) (by omega)];refine⟨⟨i+1,m,q,by omega,?_,j,rfl⟩,by rw[BD,BD];omega⟩;congr 2
    omega
  .have I:¬c.l[i]=(10:Int):=O;rw[Bq I,J] at j;rw[AQ,wrap64 (by omega) (by omega)];exact⟨⟨i+1,m,q,hm,rfl,j,rfl⟩,by rw[BD,BD];omega⟩
 .obtain rfl:i=c.l.length:=by omega
  rw[nD] at j;exact⟨by rw[j];rfl,T⟩
def Xi(c:Ck):AB prog 96 [.agg c.cells.toArray] (fun v w'=>AE w.heap.size 21 1 Bz w' v c.l/\Grow w w') w:=by
 apply gZ;refine Bx.box fun b Q hb q B=>?_;have m:=c.le;rw[AG,AG,AH,AH];refine AL (B.cells 32 _ c.n) (bJ m ?_);refine AA (KR (S:=fun _=>True) (l:=c.l) ⟨_,_,rfl,by omega,by simp[maxLen],fun i x I=>⟨_,[.int .i32 x],rfl,trivial,rfl,fun j u hu=>?_,rfl⟩⟩ (by omega)) ?_
 .obtain⟨hi,rfl⟩:=Ad.1 I;obtain⟨rfl,rfl⟩:j=0/\u=.int .i32 c.l[i]:=by
   cases j with
   |zero=>simp at hu;exact⟨rfl,hu.symm⟩
   |succ j=>simp at hu
  rw[AH];exact B.cells _ _ (by simpa using c.get hi)
 rintro v w2 ⟨o,J⟩;have:=q.size;exact⟨AE.base o fun g O=>by have:=(AE.Ax o g O).1;omega,q.trans J⟩
def Xh(c:Ck){i:Nat}(hi:i<=c.l.length):AB prog 162 [.agg c.cells.toArray,zI (i:Int)] (fun v w'=>v=.tuple #[.agg (c.tk i).cells.toArray,.agg (c.dp i).cells.toArray,zI 0]/\Grow w w') w:=by
 apply bz;refine Bx.box fun b2 w1 a7 g1 B2=>?_;refine Bx.zero fun b4 w2 a8 Y B4=>?_;refine Bx.zero fun b5 Z ak X B5=>?_;have Q:=c.le;have l2:=B2.lt (by rw[c.len];omega);have l4:=B4.lt (by decide);have l5:=B5.lt (by decide);have C2:=(B2.grow Y).grow X;have C4:Bx Z b4 Ck.nil.cells:=B4.grow X;have C5:Bx Z b5 Ck.nil.cells:=B5;have z1:=g1.size;have z2:=Y.size;have z3:=X.size;have a1:=(g1.trans Y).trans X;have hu:=underlying80;have hs:(prog.info? 21).map (·.size)=some 1:=by kernel_rfl
 have J:(c.l.take i).length=i:=by rw[Lc];omega
 have O:(c.l.drop i).length=c.l.length-i:=I3;have I:∀l:List Int,∀v∈l.map (Value.int .i32),v.oneCell'=true:=fun l v T=>by
  obtain⟨_,_,rfl⟩:=kT.1 T;rfl
 refine AV (fun _ W=>W=Z) ?_ ?_
 .rintro _ W rfl _;refine AV (fun _ W'=>Bx W' b2 c.cells/\Bx W' b4 (c.tk i).cells/\Bx W' b5 Ck.nil.cells/\Grow w W'/\W.heap.size<=W'.heap.size) ?_ ?_
  .rintro _ W1 ⟨D2,D4,D5,gW,zW⟩ _;refine AV (fun _ W'=>Bx W' b4 (c.tk i).cells/\Bx W' b5 (c.dp i).cells/\Grow w W') ?_ ?_
   .rintro _ W2 ⟨E4,E5,a6⟩ _;refine E4.E0 (Ck.len _) (E5.E0 (Ck.len _) ?_);refine E4.over (Ck.len _) (Ck.len _) (Ck.one _) fun W3 F4 m=>?_;refine(E5.mod m fun e=>by omega).over (Ck.len _) (Ck.len _) (Ck.one _) fun W4 F5 m4=>?_;refine(F4.mod m4 fun e=>by omega).E0 (Ck.len _) (F5.E0 (Ck.len _) ⟨rfl,?_⟩);exact(a6.next m fun y U e=>by omega).next m4 fun y U e=>by omega
   .have o:Grow W1 W1.drew:=Mod.drew _ _;have V:=D2.grow o;have H4:=D4.grow o;have H5:=D5.grow o;refine Af (fun _ y=>y=b5) ?_;rw[AG,AG,AG,AH,AH,AH];refine AU ⟨V.cells 32 _ c.n,fun _ _ e=>by simp only at e;omega⟩ ?_;refine⟨Mj ⟨Mod.refl _ _,cV hi Q ⟨Mod.refl _ _,?_⟩⟩,cV hi Q ⟨Mod.refl _ _,Mj ⟨Mod.refl _ _,?_⟩⟩⟩ <;>
    .refine H5.copy hu hs (us:=(c.l.drop i).map (Value.int .i32)) (by rw[Iq,O];omega) (.inr (by rw[Iq,O,Ck.len];omega)) (fun j v T=>?_) (I _) fun W2 I5 B=>?_
     .obtain⟨hj,rfl⟩:=Ad.1 T;rw[Iq,O] at hj;rw[Bq (by omega),mS,List.getElem_drop,iT];exact V.cells (i+j) _ (c.get (by omega))
     refine⟨B,?_⟩;rw[AG,AH];refine I5.st (q:=32) (by rw[LS,Ck.len];omega) rfl rfl fun W3 J5 m=>⟨m,?_⟩;rw[Iq] at J5;have e5:=Ck.WK (us:=c.l.drop i) (by omega);rw[e5] at J5;refine⟨((D4.grow o).mod B fun e=>by omega).mod m fun e=>by omega,J5,?_⟩;exact(((gW.trans o).next B fun y U e=>by omega)).next m fun y U e=>by omega
  .have o:Grow W W.drew:=Mod.drew _ _;have V:=C2.grow o;have H4:=C4.grow o;have H5:=C5.grow o;refine Af (fun _ y=>y=b4) ?_;rw[AG,AG,AH,AH];refine⟨Mj ⟨Mod.refl _ _,bJ (by omega) ⟨Mod.refl _ _,?_⟩⟩,bJ (by omega) ⟨Mod.refl _ _,Mj ⟨Mod.refl _ _,?_⟩⟩⟩ <;>
   .refine H4.copy hu hs (us:=(c.l.take i).map (Value.int .i32)) (by rw[Iq,J];omega) (.inr (by rw[Iq,J,Ck.len];omega)) (fun j v T=>?_) (I _) fun W2 I4 B=>?_
    .obtain⟨hj,rfl⟩:=Ad.1 T;rw[Iq,J] at hj;rw[AH,mS,ny];exact V.cells j _ (c.get (by omega))
    refine⟨B,?_⟩;rw[AG,AH];refine I4.st (q:=32) (by rw[LS,Ck.len];omega) rfl rfl fun W3 J4 m=>⟨m,?_⟩;rw[Iq] at J4;have e4:=Ck.WK (us:=c.l.take i) (by omega);rw[e4] at J4;have zd:=o.size;have s2:=B.size;have s3:=m.size;refine⟨(V.mod B fun e=>by omega).mod m fun e=>by omega,J4,(H5.mod B fun e=>by omega).mod m fun e=>by omega,?_,by omega⟩;exact(((a1.trans o).next B fun y U e=>by omega)).next m fun y U e=>by omega
 .rw[Am];refine AF (fun e=>by omega) fun _=>?_;refine Bh (C2.cells 32 _ c.n) ?_;rw[BL];exact AF (fun e=>by omega) fun _=>rfl
structure Spn where
 n:Nat
 id:Int
 deriving DecidableEq
namespace Spn
def u(s:Spn):List Int:=List.replicate s.n s.id
def Hd:Option Int->List Spn->Prop
 |_,[]=>True
 |p,s::t=>0<s.n/\p≠some s.id/\Hd (some s.id) t
def rn(x:Int):Option Int->List Int->Nat
 |_,[]=>0
 |p,y::t=>(if y=x/\p≠some x then 1 else 0)+rn x (some y) t
def HA(p:Option Int)(l:List Int):Option Int:=match l.getLast? with|some y=>some y|none=>p
def RQ(p:Option Int)(y:Int)(l:List Int):HA p (y::l)=HA (some y) l:=by
 unfold HA;cases l with
 |nil=>rfl
 |cons z l=>rw[pK];cases h:(z::l).getLast? with
  |none=>simp at h
  |some q=>rfl
def Lh(x:Int)(p:Option Int)(l m:List Int):rn x p (l++m)=rn x p l+rn x (HA p l) m:=by
 induction l generalizing p with
 |nil=>simp[rn,HA]
 |cons y l i=>rw[S7,rn,rn,i,RQ];omega
def fS(x:Int)(p:Option Int)(n:Nat)(y:Int):rn x p (List.replicate (n+1) y)=if y=x/\p≠some x then 1 else 0:=by
 induction n generalizing p with
 |zero=>simp[rn]
 |succ n i=>
  rw[List.replicate_succ,rn,i];by_cases h:y=x
  .subst h;simp
  .simp[h]
def US(p:Option Int)(n:Nat)(y:Int):HA p (List.replicate (n+1) y)=some y:=by
 unfold HA;rw[List.getLast?_replicate];simp
def VB(x:Int)(p:Option Int)(l:List Spn)(h:Hd p l):l.countP (fun s=>decide (s.id=x))=rn x p (l.flatMap u):=by
 induction l generalizing p with
 |nil=>rfl
 |cons s l i=>
  obtain⟨h1,j,o⟩:=h;obtain⟨m,hm⟩:∃m,s.n=m+1:=⟨s.n-1,by omega⟩;rw[ou,i _ o,lQ,Lh,u,hm,fS,US];by_cases h:s.id=x
  .subst h;simp[j];omega
  .simp[h]
def EV(p:Option Int)(l:List Spn):Option Int:=match l.getLast? with|some s=>some s.id|none=>p
def P2(p:Option Int)(y:Spn)(l:List Spn):EV p (y::l)=EV (some y.id) l:=by
 unfold EV;cases l with
 |nil=>rfl
 |cons z l=>rw[pK];cases h:(z::l).getLast? with
  |none=>simp at h
  |some q=>rfl
def Ha{p:Option Int}{l m:List Spn}:Hd p (l++m)↔Hd p l/\Hd (EV p l) m:=by
 induction l generalizing p with
 |nil=>simp[Hd,EV]
 |cons s l i=>rw[S7,Hd,Hd,i,P2];constructor<;>(rintro⟨h1,j⟩;simp_all)
def P0{p:Option Int}{l:List Spn}:Hd p l↔Hd none l/\∀s∈l.head?,p≠some s.id:=by
 cases l with
 |nil=>simp[Hd]
 |cons s l=>
  simp only[Hd,pt,Option.mem_def,i6,forall_eq'];exact⟨fun⟨a,b,c⟩=>⟨⟨a,by simp,c⟩,b⟩,fun⟨⟨a,b,c⟩,d⟩=>⟨a,d,c⟩⟩
def ME{p:Option Int}{l:List Spn}(h:Hd p l):Hd none l:=(P0.1 h).1
def kd:Kd Spn where
 μ:=fun s=>(s.n,0)
 cut:=fun s p=>(⟨p,s.id⟩,⟨s.n-p,s.id⟩)
 meld:=fun a b=>if a.id=b.id then some ⟨a.n+b.n,a.id⟩ else none
def ED:kd.FP u where
 size:=fun s=>by simp[kd,u]
 cut1:=fun s p h0 h1=>by
  rw[u,lZ] at h1;simp only[kd,u,List.take_replicate,List.drop_replicate];exact⟨by rw[lA (by omega)],trivial⟩
 melds:=fun a b c h=>by
  simp only[kd] at h;split at h
  .rename_i e;cases h;simp only[u,e,oB]
  .cases h
def Kc{out:List Spn}(x:Spn)(h:Hd none out):Hd none (kd.CO out x)/\(∀y,out.head?=some y->∃z,(kd.CO out x).head?=some z/\z.id=y.id)/\(0<x.n->EV none (kd.CO out x)=some x.id)/\(out=[]->0<x.n->(kd.CO out x).head?=some x)/\(x.n=0->kd.CO out x=out):=by
 unfold Kd.CO;rw[show(kd.μ x).1=x.n from rfl];by_cases h0:x.n=0
 .rw[DN h0];exact⟨h,fun y m=>⟨y,m,rfl⟩,fun h1=>by omega,fun _ h1=>by omega,fun _=>rfl⟩
 .rw[Bq h0];rcases lK out with rfl|⟨o,y,rfl⟩
  .simp[Hd,EV];omega
  .rw[lb] at h ⊢;obtain⟨h1,j⟩:=Ha.1 h;simp only[WL,gC,lM,l9];by_cases hm:y.id=x.id
   .rw[show kd.meld y x=some ⟨y.n+x.n,y.id⟩ by simp[kd,hm]];refine⟨Ha.2 ⟨h1,?_,j.2.1,trivial⟩,fun z i=>?_,fun _=>by simp[EV,hm],fun e=>by simp at e,fun e=>(h0 e).elim⟩
    .have:=j.1;simp only;omega
    .cases o with
     |nil=>simp at i;subst i;exact⟨_,rfl,rfl⟩
     |cons w o=>exact⟨z,by simpa using i,rfl⟩
   .rw[show kd.meld y x=none by simp[kd,hm]];refine⟨Ha.2 ⟨h,by omega,by simp[EV,hm],trivial⟩,fun z i=>⟨z,?_,rfl⟩,fun _=>by simp[EV],fun e=>by simp at e,fun e=>(h0 e).elim⟩;rw[List.head?_append,i];rfl
def JL(l:List Spn):∀out,Hd none out->Hd none (l.foldl kd.CO out)/\(∀y,out.head?=some y->∃z,(l.foldl kd.CO out).head?=some z/\z.id=y.id):=by
 induction l with
 |nil=>exact fun out h=>⟨h,fun y i=>⟨y,i,rfl⟩⟩
 |cons x l m=>
  intro out h;obtain⟨a,b,_⟩:=Kc x h;obtain⟨c,d⟩:=m _ a;refine⟨c,fun y i=>?_⟩;obtain⟨z,o,e⟩:=b y i;obtain⟨q,j,e'⟩:=d z o;exact⟨q,j,e'.trans e⟩
def N7(l:List Spn)(at':Nat):∀p,Hd p l->Hd p (kd.split l at').1/\Hd none (kd.split l at').2:=by
 induction l generalizing at' with
 |nil=>intro p _;exact⟨trivial,trivial⟩
 |cons s l i=>
  intro p h;simp only[Kd.split];by_cases h0:at'=0
  .rw[DN h0];exact⟨trivial,ME h⟩
  .rw[Bq h0];obtain⟨a,b,c⟩:=h;by_cases h1:(kd.μ s).1<=at'
   .rw[DN h1];obtain⟨d,e⟩:=i (at'-(kd.μ s).1) _ c;exact⟨⟨a,b,d⟩,e⟩
   .rw[Bq h1];simp only[kd] at h1;exact⟨⟨by simp only[kd];omega,b,trivial⟩,by simp only[kd];omega,by simp,c⟩
def QU(y z:Option Spn)(l:List Spn)(j:∀s∈y,0<s.n)(m:∀s∈z,0<s.n) :
  (∀s∈y,∃t,(kd.melded (y.toList++l++z.toList)).head?=some t/\t.id=s.id)/\(∀s∈z,EV none (kd.melded (y.toList++l++z.toList))=some s.id):=by
 constructor
 .intro s i;cases i;have:=j s rfl;unfold Kd.melded;simp only[Option.toList_some,S7,ky,me];have hm:=Kc s (out:=[]) trivial;obtain⟨o,h1,q⟩:=(JL (l++z.toList) _ hm.1).2 s (hm.2.2.2.1 rfl this);exact⟨o,h1,q⟩
 .intro s i;cases i;have:=m s rfl;unfold Kd.melded;rw[Option.toList_some,mC,me,oj];exact(Kc s (JL _ [] trivial).1).2.2.1 this
def Ic{p:Option Int}{l:List Spn}(h:Hd p l):∀s∈l,0<s.n:=by
 induction l generalizing p with
 |nil=>intro s i;simp at i
 |cons x l j=>
  intro s i;rcases K8.1 i with rfl|i
  .exact h.1
  .exact j h.2.2 s i
def XA{a b M:List Spn}(ha:Hd none a)(hb:Hd none b)(hm:Hd none M)(J:∀s∈a.getLast?,∃t,M.head?=some t/\t.id=s.id)(O:∀s∈b.head?,EV none M=some s.id):Hd none (a.dropLast++M++b.tail):=by
 rw[Ha,Ha];refine⟨⟨?_,?_⟩,?_⟩
 .rcases lK a with rfl|⟨o,y,rfl⟩
  .exact trivial
  .rw[lb] at *;rw[l9];exact(Ha.1 ha).1
 .rw[P0];refine⟨hm,fun s m=>?_⟩;rcases lK a with rfl|⟨o,y,rfl⟩
  .simp[EV]
  .rw[lb] at *;rw[l9];obtain⟨q,B,j⟩:=J y (by simp);have:s=q:=by rw[Option.mem_def] at m;rw[m] at B;exact kW B
   rw[this,j];exact(Ha.1 ha).2.2.1
 .cases b with
  |nil=>exact trivial
  |cons z b=>
   have i:=O z (by simp);have e:EV none (a.dropLast++M)=some z.id:=by
    unfold EV at i ⊢;rw[WL];cases I:M.getLast? with
    |some s=>rw[I] at i;exact i
    |none=>rw[I] at i;cases i
   rw[e];exact hb.2.2
def IF{t:List Spn}(i j:Nat)(l:List Spn)(h:Hd none t):Hd none (kd.CB t i j l):=by
 obtain⟨ha,m⟩:=N7 t i _ h;obtain⟨_,hb⟩:=N7 (kd.split t i).2 (j-i) _ m;obtain⟨q,B⟩:=QU (kd.split t i).1.getLast? (kd.split (kd.split t i).2 (j-i)).2.head? l (fun s o=>Ic ha s (mj o)) (fun s o=>Ic hb s (List.mem_of_head? o));exact XA ha hb (JL _ [] trivial).1 q B
def T9(x:Int)(P Q Q' R:List Int)(h1:P≠[]->Q.head?=Q'.head?/\Q≠[]/\Q'≠[])(m:R≠[]->Q.getLast?=Q'.getLast?/\Q≠[]/\Q'≠[]) :
  rn x none (P++Q++R)+rn x none Q'=rn x none (P++Q'++R)+rn x none Q:=by
 rw[Lh,Lh,Lh x none (P++Q'),Lh x none P Q'];have first:∀(p:Option Int) (Q Q':List Int),Q.head?=Q'.head?->Q≠[]->Q'≠[]->rn x p Q+rn x none Q'=rn x p Q'+rn x none Q:=by
  intro p Q Q' h o i;cases Q with
  |nil=>exact(o rfl).elim
  |cons a Q=>cases Q' with
   |nil=>exact(i rfl).elim
   |cons b Q'=>
    simp only[pt,i6] at h;subst h;simp only[rn];omega
 have B:rn x (HA none P) Q+rn x none Q'=rn x (HA none P) Q'+rn x none Q:=by
  cases P with
  |nil=>simp only[HA,qV];omega
  |cons a P=>obtain⟨j,q,a3⟩:=h1 (by simp);exact first _ _ _ j q a3
 have I:rn x (HA none (P++Q)) R=rn x (HA none (P++Q')) R:=by
  cases R with
  |nil=>rfl
  |cons a R=>
   obtain⟨j,_⟩:=m (by simp);congr 1
   unfold HA;rw[WL,WL,j]
 omega
end Spn
section
def Spn.cells(s:Spn):List Value:=[zI (s.n:Int),zI s.id]
def Spn.one(q:Spn):∀u∈q.cells,u.oneCell'=true:=fun u hu=>by
 simp only[Spn.cells,K8,kU,mb] at hu;rcases hu with rfl|rfl<;>rfl
def PL{r t:List Value}(h:r.length=E):(r++t).toArray.extract 0 E=r.toArray:=by
 subst h;simp
def Tj(s:Spn):BK prog Cq JP.vm [.agg s.cells.toArray] (fun v w'=>v=.tuple #[zI (s.n:Int),zI 0]/\Grow w w') w:=by
 refine⟨_,[],[],rfl,by kernel_rfl,?_⟩;apply aA;refine Bx.box fun b j hb i B=>?_;rw[AG,AH];exact AL (B.cells 0 _ rfl) ⟨rfl,i⟩
def VZ(s:Spn){p:Nat}(h0:0<p)(h1:p<s.n)(h2:s.n<=1099511627776):BK prog Cq JP.vc [.agg s.cells.toArray,zI (p:Int)] (fun v w'=>v=.tuple #[.agg (Spn.cells ⟨p,s.id⟩).toArray,.agg (Spn.cells ⟨s.n-p,s.id⟩).toArray]/\Grow w w') w:=by
 refine⟨_,[],[],rfl,by kernel_rfl,?_⟩;apply YA;refine Bx.box fun b2 w1 Y Q T=>?_;refine Bx.zero fun b4 w2 Z q U=>?_;refine Bx.zero fun b5 V a1 m X=>?_;have j:Grow V V.drew:=Mod.drew _ _;have i:=((T.grow q).grow m).grow j;have l2:=T.lt (S3 _);have l4:=U.lt (by decide);have l5:=X.lt (by decide);have z1:=Q.size;have z2:=q.size;have z3:=m.size;have zd:=j.size;refine Af (fun _ y=>y=b4\/y=b5) ?_;rw[AG,AH];refine AU ⟨i.cells 1 _ rfl,fun _ _ e=>by rcases e with e|e<;>simp only at e<;>omega⟩ ?_;refine⟨(Spn.cells ⟨p,s.id⟩).toArray,by kernel_rfl,?_⟩;show AM _ _ _;rw[AG,AH];refine AU ⟨i.cells 0 _ rfl,fun _ _ e=>by rcases e with e|e<;>simp only at e<;>omega⟩ ?_;refine Gh (by omega) (by omega) ?_;rw[AG,AH];refine AU ⟨i.cells 1 _ rfl,fun _ _ e=>by rcases e with e|e<;>simp only at e<;>omega⟩ ?_;refine⟨(Spn.cells ⟨s.n-p,s.id⟩).toArray,by kernel_rfl,?_⟩;have o:=Spn.one;refine((U.grow m).grow j).over rfl rfl (o _) fun w4 C4 B=>⟨B.mono fun _ _ e=>.inl e,?_⟩;have I:=(X.grow j).mod B fun e=>by omega
 refine I.over rfl rfl (o _) fun w5 C5 J=>⟨J.mono fun _ _ e=>.inr e,?_⟩;have O:=C4.mod J fun e=>by omega
 refine O.E0 rfl (C5.E0 rfl ⟨rfl,?_⟩);exact((((Q.trans q).trans m).trans j).next B fun y hy e=>by omega).next J fun y hy e=>by omega
def TR(a b:Spn)(h1:a.n<=1099511627776)(h2:b.n<=1099511627776):BK prog Cq JP.vd [.agg a.cells.toArray,.agg b.cells.toArray] (fun v w'=>Grow w w'/\v=.tuple #[.agg (Spn.cells ⟨a.n+b.n,a.id⟩).toArray,.bool (decide (a.id=b.id))]) w:=by
 refine⟨_,[],[],rfl,by kernel_rfl,?_⟩;apply ZE;refine Bx.box fun b2 w1 U I J=>?_;refine Bx.box fun b3 w2 V B O=>?_;refine Bx.zero fun b4 Q X q Y=>?_;have j:Grow Q Q.drew:=Mod.drew _ _;have i:=((J.grow B).grow q).grow j;have m:=(O.grow q).grow j;have l2:=J.lt (S3 _);have l3:=O.lt (S3 _);have z1:=I.size;have z2:=B.size;have z3:=q.size;have zd:=j.size;refine Af (fun _ y=>y=b4) ?_;rw[AG,AH];refine AU ⟨i.cells 0 _ rfl,fun _ _ e=>by simp only at e;omega⟩ ?_;rw[AG,AH];refine AU ⟨m.cells 0 _ rfl,fun _ _ e=>by simp only at e;omega⟩ ?_;refine CJ (by omega) ?_;rw[AG,AH];refine AU ⟨i.cells 1 _ rfl,fun _ _ e=>by simp only at e;omega⟩ ?_;refine⟨(Spn.cells ⟨a.n+b.n,a.id⟩).toArray,by kernel_rfl,?_⟩;show AM _ _ _;rw[AG,AH];refine AU ⟨i.cells 1 _ rfl,fun _ _ e=>by simp only at e;omega⟩ ?_;rw[AG,AH];refine AU ⟨m.cells 1 _ rfl,fun _ _ e=>by simp only at e;omega⟩ ?_;rw[Aj];have o:=Spn.one;refine(Y.grow j).over rfl rfl (o _) fun w4 Z T=>⟨T,?_⟩;refine Z.E0 rfl ⟨?_,rfl⟩;exact(((I.trans B).trans q).trans j).next T fun y hy e=>by omega
def DJ:AvN Spn where
 toAvK:=JP
 k:=Spn.kd
 R:=fun _ _ r x=>r=x.cells
 pb:=64
 eb:=16
 pb_le:=by decide
 eb_le:=by decide
 Epos:=by decide
 E1:=fun h=>by cases h
 rlen:=fun h=>by subst h;rfl
 rone:=fun h=>by subst h;exact Spn.one _
 rcell:=fun h=>by subst h;rfl
 rheap:=fun h _=>h
 rsub:=fun h _=>h
 zlen:=rfl
 zone:=Spn.one ⟨0,0⟩
 elP:=⟨Tryz.t378,.agg #[zI 0,zI 0,zI 0,zI 0,zI 0,zI 0,zI 0,.bool false],by kernel_rfl,by kernel_rfl,by kernel_rfl,by kernel_rfl,by kernel_rfl,by rfl,by decide⟩
 elE:=⟨Tryz.t108,.agg #[zI 0,zI 0],by kernel_rfl,by kernel_rfl,by kernel_rfl,by kernel_rfl,by kernel_rfl,by rfl,by decide⟩
 field0:=fun r t w hr _ ht=>by
  have e:(Instr.field 319 (.agg (r++t).toArray) 0).run prog w=.ok (.agg ((r++t).toArray.extract 0 2)) w:=by
   have hu:=underlying319;have m:=Tryz.isAgg108;have z:∀w,(sizeOf 108).run prog w=.ok 2 w:=fun w=>by simp only[sizeOf,kL,Tryz.typeInfo108,S9,lU];rfl
   simp[Instr.field,run_underlying hu,part,m,z,asAgg]
  rw[PL (E:=2) hr] at e;exact e
 ok:=X9
 cutμ:=fun x p h0 h1=>⟨rfl,rfl,rfl⟩
 meldμ:=fun x y z h=>by
  simp only[Spn.kd] at h;split at h
  .cases h;exact⟨rfl,rfl⟩
  .cases h
 meas:=fun{C w r x} h=>by subst h;exact Tj x
 one0:=rfl
 okN:=V1
 cells:=Spn.cells
 Rc:=oe
 cutc:=fun{w x p} h0 h1 j=>VZ x h0 h1 j
 meldc:=fun {w x y} _ h1 j=>Aw (TR x y h1 j) fun v w' h=>⟨h.1,Spn.cells ⟨x.n+y.n,x.id⟩,rfl,Spn.one _,by rw [h.2];by_cases e:x.id=y.id <;> simp [Spn.kd,e],fun z i=>by
  simp only[Spn.kd] at i;split at i
  .cases i;rfl
  .cases i⟩
def PT(l:List Int):∀v∈l.map (Value.int .i32),v.oneCell'=true:=fun v i=>by
 obtain⟨_,_,rfl⟩:=kT.1 i;rfl
def Zq(a b:Ck):AB prog 164 [.agg a.cells.toArray,.agg b.cells.toArray] (fun v w'=>v=.tuple #[.agg (a.jn b).cells.toArray,zI (if a.l.length+b.l.length<=32 then 0 else 8)]/\Grow w w') w:=by
 apply Yf;refine Bx.box fun O w1 a7 g1 B2=>?_;refine Bx.box fun b3 w2 a8 X B3=>?_;refine Bx.zero fun b4 Y ak Q B4=>?_;have ha:=a.le;have hb:=b.le;have l2:=B2.lt (by rw[a.len];omega);have l3:=B3.lt (by rw[b.len];omega);have l4:=B4.lt (by decide);have T:=(B2.grow X).grow Q;have Z:=B3.grow Q;have C4:Bx Y b4 Ck.nil.cells:=B4;have z1:=g1.size;have z2:=X.size;have z3:=Q.size;have o:=(g1.trans X).trans Q;have hu:=underlying80;have hs:(prog.info? 21).map (·.size)=some 1:=by kernel_rfl
 refine Bh (T.cells 32 _ a.n) ?_;refine Bh (Z.cells 32 _ b.n) ?_;rw[AQ,wrap64 (by omega) (by omega),BL];refine AF (fun al=>?_) fun an=>?_
 .refine⟨Ck.nil.cells.toArray,by kernel_rfl,?_⟩;show Ab _ _ _ _ _;refine C4.over (Ck.len _) (Ck.len _) (Ck.one _) fun W D4 m=>?_;refine D4.E0 (Ck.len _) ⟨?_,o.next m fun y U e=>by omega⟩;rw[Bq (by omega),Ck.jn,dif_neg (by omega)]
 have i:a.l.length+b.l.length<=32:=by omega
 have ej:a.jn b=⟨a.l++b.l,by simpa using i⟩:=rQ i;refine AV (fun _ W=>W=Y) ?_ ?_
 .rintro _ W rfl _;refine AV (fun _ W'=>Bx W' O (a.jn b).cells/\Bx W' b4 Ck.nil.cells/\Grow w W') ?_ ?_
  .rintro _ W1 ⟨D2,D4,gW⟩ _;refine D2.E0 (Ck.len _) ?_;refine D4.over (Ck.len _) (Ck.len _) (Ck.one _) fun W2 E4 m=>?_;exact E4.E0 (Ck.len _) ⟨by rw[DN i],gW.next m fun y U e=>by omega⟩
  .have B:Grow W W.drew:=Mod.drew _ _;have H2:=T.grow B;have H3:=Z.grow B;have H4:=C4.grow B;have zd:=B.size;have a1:(I7 a.cells a.l.length (b.l.map (Value.int .i32)))[32]?=some (zI (a.l.length:Int)):=by
    rw[MY _ _ _ (by rw[a.len,Iq];omega),kO (by simp[a.len];omega),ly];have:a.l.length+(b.l.map (Value.int .i32)).length+(32-(a.cells.take a.l.length++b.l.map (Value.int .i32)).length)=32:=by simp[a.len];omega
    rw[this];exact a.n
   refine Af (fun k y=>(k=10\/k=13)/\y=O) ?_;simp only[AG,AH];refine AU ⟨H2.cells 32 _ a.n,fun j I e=>?_⟩ ?_
   .have a6:j∈[1,9]:=I;simp only[K8,kU,mb] at a6;omega
   refine AU ⟨H3.cells 32 _ b.n,fun j I e=>by have e2:b3=O:=e.2;omega⟩ ?_
   repeat' first
    |with_reducible exact Mod.refl _ _
    |with_reducible refine jU ha ?_
    |with_reducible refine bJ hb ?_
    |with_reducible refine AL (H2.cells 32 _ a.n) ?_
    |with_reducible refine And.intro ?_ ?_
   all_goals
    refine H2.copy hu hs (us:=b.l.map (Value.int .i32)) (by rw [Iq];omega) (by
     by_cases e:b.l=[]
     .rw[e];exact .inl rfl
     .have:0<b.l.length:=lh.2 e;refine .inr ?_;rw[Bq (by omega),Iq,a.len];omega) (fun j v hv=>by
     obtain ⟨I,rfl⟩:=Ad.1 hv;rw [Iq] at I;rw [AH,mS];exact H3.cells j _ (b.get I)) (PT _) fun W2 V m2=>⟨m2.mono fun _ _ e=>⟨by simp,e⟩,?_⟩
    have J:Bx W2 O (I7 a.cells a.l.length (b.l.map (Value.int .i32))):=by
     by_cases e:32=a.l.length
     .have:b.l=[]:=pL.1 (by omega);rw[this] at V ⊢;exact V
     .rw[Bq e] at V;exact V
    try refine AL (J.cells 32 _ a1) ⟨Mod.refl _ _,?_⟩
    rw[Iq,AQ,wrap64 (by omega) (by omega)];refine J.st (q:=32) (by rw[LS,Ck.len];omega) rfl rfl fun W3 J2 m3=>⟨m3.mono fun _ _ e=>⟨by simp,e⟩,?_⟩;have ee:((a.l.length:Int)+(b.l.length:Int))=((a.l.length+b.l.length:Nat):Int):=by omega
    rw[ee,Ck.fill a i] at J2;rw[ej];exact⟨J2,(H4.mod m2 fun e=>by omega).mod m3 fun e=>by omega,((o.trans B).next m2 fun y U e=>by omega).next m3 fun y U e=>by omega⟩
 .rw[AG,AH];refine Ah (vs:=a.all.map (Value.int .i32)) (by rw[Iq,a.Jo]) (fun j u hu=>by rw[AH];exact T.cells j u (a.iU hu)) ?_;refine Ae (v:=.agg ((List.replicate 32 (0:Int)).map (Value.int .i32)).toArray) (w':=Y) (by kernel_rfl) ?_;refine iW a.Jo (by simp) fun r=>?_;cases r
  .exact AS rfl
  refine Ak ?_;refine Bh (T.cells 32 _ a.n) ?_;rw[Aj];refine AF (fun h0=>?_) fun _=>rfl;refine Z.E0 (Ck.len _) ?_;refine C4.over (Ck.len _) (Ck.len _) (Ck.one _) fun W2 E4 m=>?_;refine E4.E0 (Ck.len _) ⟨?_,o.next m fun y U e=>by omega⟩;have:a.l=[]:=pL.1 (by omega);have e1:a.jn b=b:=by rw[ej];simp only[this,ky]
  rw[DN i,e1]
def Ck.kd:Kd Ck where
 μ:=fun c=>(c.l.length,BX c.l)
 cut:=fun c p=>(c.tk p,c.dp p)
 meld:=fun a b=>if a.l.length+b.l.length<=32 then some (a.jn b) else none
def Yy(c:Ck):BK prog Cq Gg.vm [.agg c.cells.toArray] (fun v w'=>v=.tuple #[zI (c.l.length:Int),zI (BX c.l:Int)]/\Grow w w') w:=by
 refine⟨_,[],[],rfl,by kernel_rfl,?_⟩;apply bQ;refine Bx.box fun b i hb J B=>?_;have m:Grow i i.drew:=Mod.drew _ _;have o:=B.grow m;refine Af (fun _ _=>False) ?_;refine Ch c.len (fun j u hu=>⟨by rw[AH];exact o.cells j u hu,fun _ _ e=>e⟩) ?_;refine AA (gv c) ?_;rintro _ w2 ⟨rfl,q⟩;refine⟨q,Ch c.len (fun j u hu=>⟨by rw[AH];exact o.cells j u hu,fun _ _ e=>e⟩) ?_⟩;refine AA (QQ c) ?_;rintro _ O ⟨rfl,I⟩;exact⟨I,rfl,((J.trans m).trans q).trans I⟩
def dO(c:Ck){p:Nat}(h:p<=c.l.length):BK prog Cq Gg.vc [.agg c.cells.toArray,zI (p:Int)] (fun v w'=>v=.tuple #[.agg (c.tk p).cells.toArray,.agg (c.dp p).cells.toArray]/\Grow w w') w:=by
 refine⟨_,[],[],rfl,by kernel_rfl,?_⟩;apply Yb;refine Bx.box fun b2 w1 a1 Y B2=>?_;refine Bx.zero fun b4 w2 a6 U Z=>?_;refine Bx.zero fun b5 w3 a7 J B5=>?_;refine((B2.grow U).grow J).E0 c.len ?_;refine AA (Xh c h) ?_;rintro _ w5 ⟨rfl,O⟩;refine Kj ?_;refine Bx.zero fun b6 w6 a8 Q B6=>?_;refine Bx.zero fun b7 T ak q B7=>?_;have l4:=Z.lt (by decide);have l5:=B5.lt (by decide);have l6:=B6.lt (by decide);have z1:=Y.size;have z2:=U.size;have z3:=J.size;have z5:=O.size;have z6:=Q.size;have z7:=q.size;have C4:Bx T b4 Ck.nil.cells:=(((Z.grow J).grow O).grow Q).grow q;have C5:Bx T b5 Ck.nil.cells:=((B5.grow O).grow Q).grow q;have C6:Bx T b6 Ck.nil.cells:=B6.grow q;have C7:Bx T b7 Ck.nil.cells:=B7;have V:=((((Y.trans U).trans J).trans O).trans Q).trans q;refine C6.over (Ck.len _) (Ck.len _) (Ck.one _) fun w8 D6 B=>?_;refine(C7.mod B fun e=>by omega).over (Ck.len _) (Ck.len _) (Ck.one _) fun w9 D7 I=>?_;have o:Grow w9 w9.drew:=Mod.drew _ _;have zd:=o.size;have s8:=B.size;have s9:=I.size;have E6:=(D6.mod I fun e=>by omega).grow o;have E7:=D7.grow o;have E4:=((C4.mod B fun e=>by omega).mod I fun e=>by omega).grow o;have E5:=((C5.mod B fun e=>by omega).mod I fun e=>by omega).grow o;refine Af (fun _ y=>y=b4\/y=b5) ?_;refine Ch (Ck.len _) (fun j u hu=>⟨by rw[AH];exact E6.cells j u hu,fun _ _ e=>by rcases e with e|e<;>simp only[AH] at e<;>omega⟩) ?_;refine Ch (Ck.len _) (fun j u hu=>⟨by rw[AH];exact E7.cells j u hu,fun _ _ e=>by rcases e with e|e<;>simp only[AH] at e<;>omega⟩) ?_;refine E4.over (Ck.len _) (Ck.len _) (Ck.one _) fun al F4 i=>⟨i.mono fun _ _ e=>.inl e,?_⟩;refine(E5.mod i fun e=>by omega).over (Ck.len _) (Ck.len _) (Ck.one _) fun an F5 m=>⟨m.mono fun _ _ e=>.inr e,?_⟩;refine(F4.mod m fun e=>by omega).E0 (Ck.len _) (F5.E0 (Ck.len _) ⟨rfl,?_⟩);exact(((((V.next B fun y X e=>by omega).next I fun y X e=>by omega).trans o).next i fun y X e=>by omega).next m fun y X e=>by omega)
def bD(a b:Ck):BK prog Cq Gg.vd [.agg a.cells.toArray,.agg b.cells.toArray] (fun v w'=>Grow w w'/\v=.tuple #[.agg (a.jn b).cells.toArray,.bool (decide (a.l.length+b.l.length<=32))]) w:=by
 refine⟨_,[],[],rfl,by kernel_rfl,?_⟩;apply bu;refine Bx.box fun b2 w1 U I V=>?_;refine Bx.box fun b3 w2 X j Y=>?_;refine Bx.zero fun b4 w3 Z i J=>?_;refine((V.grow j).grow i).E0 a.len ((Y.grow i).E0 b.len ?_);refine AA (Zq a b) ?_;rintro _ w6 ⟨rfl,m⟩;refine BO ?_;refine Bx.zero fun b6 O a1 o Q=>?_;have l4:=J.lt (by decide);have l6:=Q.lt (by decide);have z1:=I.size;have z2:=j.size;have z3:=i.size;have z6:=m.size;have z7:=o.size;have C4:Bx O b4 Ck.nil.cells:=(J.grow m).grow o;have C6:Bx O b6 Ck.nil.cells:=Q;have q:=(((I.trans j).trans i).trans m).trans o;refine C6.over (Ck.len _) (Ck.len _) (Ck.one _) fun w8 D6 T=>?_;refine D6.E0 (Ck.len _) ?_;rw[Aj];refine(C4.mod T fun e=>by omega).over (Ck.len _) (Ck.len _) (Ck.one _) fun a6 F4 B=>?_;refine F4.E0 (Ck.len _) ⟨(q.next T fun y hy e=>by omega).next B fun y hy e=>by omega,?_⟩;by_cases h:a.l.length+b.l.length<=32
 .simp[h]
 .simp[h]
def Az:AvN Ck where
 toAvK:=Gg
 k:=Ck.kd
 R:=fun _ _ r x=>r=x.cells
 pb:=184
 eb:=136
 pb_le:=by decide
 eb_le:=by decide
 Epos:=by decide
 E1:=fun h=>by cases h
 rlen:=fun h=>by subst h;exact Ck.len _
 rone:=fun h=>by subst h;exact Ck.one _
 rcell:=fun h=>by subst h;rfl
 rheap:=fun h _=>h
 rsub:=fun h _=>h
 zlen:=rfl
 zone:=Ck.one Ck.nil
 elP:=⟨Tryz.t357,.agg (Ck.nil.cells++([zI 0,zI 0,zI 0,zI 0,zI 0,.bool false]:List Value)).toArray,by kernel_rfl,by kernel_rfl,by kernel_rfl,by kernel_rfl,by kernel_rfl,by rfl,by decide⟩
 elE:=⟨Tryz.t162,.agg Ck.nil.cells.toArray,by kernel_rfl,by kernel_rfl,by kernel_rfl,by kernel_rfl,by kernel_rfl,by rfl,by decide⟩
 field0:=fun r t w hr _ ht=>by
  have e:(Instr.field 245 (.agg (r++t).toArray) 0).run prog w=.ok (.agg ((r++t).toArray.extract 0 33)) w:=by
   have hu:=underlying245;have m:=Tryz.isAgg162;have z:∀w,(sizeOf 162).run prog w=.ok 33 w:=fun w=>by simp only[sizeOf,kL,Tryz.typeInfo162,S9,lU];rfl
   simp[Instr.field,run_underlying hu,part,m,z,asAgg]
  rw[PL (E:=33) hr] at e;exact e
 ok:=aI
 cutμ:=fun x p h0 h1=>by
  have o:p<x.l.length:=h1;refine⟨?_,?_,?_⟩
  .show(x.l.take p).length=p;rw[Lc];omega
  .show(x.l.drop p).length=x.l.length-p;rw[I3]
  .show BX (x.l.take p)+BX (x.l.drop p)=BX x.l;rw[BX,BX,<-nx,S6]
 meldμ:=fun x y z h=>by
  simp only[Ck.kd] at h;split at h
  .rename_i j;cases h;have q:x.jn y=⟨x.l++y.l,by simpa using j⟩:=rQ j;show(x.jn y).l.length=_/\BX (x.jn y).l=_;rw[q];exact⟨Bp,nx⟩
  .cases h
 meas:=fun{C w r x} h=>by subst h;exact Yy x
 one0:=rfl
 okN:=Wo
 cells:=Ck.cells
 Rc:=oe
 cutc:=fun{w x p} h0 h1 B=>dO x (Nat.le_of_lt h1)
 meldc:=fun {w x y} _ h1 B=>Aw (bD x y) fun v w' h=>⟨h.1,(x.jn y).cells,Ck.len _,Ck.one _,by
  rw[h.2];by_cases e:x.l.length+y.l.length<=32<;>simp[Ck.kd,e],fun z i=>by
  simp only[Ck.kd] at i;split at i
  .cases i;rfl
  .cases i⟩
def CS(i:Int):Nat:=if i<194 then 0 else if i<224 then 2 else if i<240 then 3 else if i<245 then 4 else 0
def JR(i:Int):Int:=if i=224 then 160 else if i=240 then 144 else 128
def I8(i:Int):Int:=if i=237 then 159 else if i=244 then 143 else 191
def wrap32{x:Int}(h0:-2147483648<=x)(h1:x<2147483648):IntKind.i32.wrap x=x:=by
 have i:(2:Int) ^ IntKind.i32.bits=4294967296:=by decide
 have j:(2:Int) ^ (IntKind.i32.bits-1)=2147483648:=by decide
 simp only[IntKind.wrap,i,j,IntKind.signed,oZ,TC];split<;>omega
def Ez{b:List Int}{i k:Nat}{c r:Int}(hc:b[i]?=some c)(h0:0<=r)(h1:r<16777216)(c0:0<=c)(c1:c<256):Hg b (k+1) i r=if c<128\/191<c then none else Hg b k (i+1) (r*64+c-128):=by
 simp only[Hg,hc];rw[wrap32 (x:=r*64) (by omega) (by omega),wrap32 (x:=c) (by omega) (by omega),wrap32 (x:=r*64+c) (by omega) (by omega),wrap32 (x:=r*64+c-128) (by omega) (by omega)]
def Vp{i:Int}(h0:240<=i)(h1:i<256):Cz i=some (4,i-240):=by
 unfold Cz;rw[DN h0,wrap32 (x:=i) (by omega) (by omega),wrap32 (by omega) (by omega)]
def cP{i:Int}(h0:224<=i)(h1:i<240):Cz i=some (3,i-224):=by
 unfold Cz;rw[Bq (by omega),DN h0,wrap32 (x:=i) (by omega) (by omega),wrap32 (by omega) (by omega)]
def VG{i:Int}(h0:192<=i)(h1:i<224):Cz i=some (2,i-192):=by
 unfold Cz;rw[Bq (by omega),Bq (by omega),DN h0,wrap32 (x:=i) (by omega) (by omega),wrap32 (by omega) (by omega)]
def Lg{i:Int}{t:List Int}(h0:0<=i)(h1:i<128):Ct (i::t)=(i,1):=by
 have j:Cz i=some (1,i):=by
  unfold Cz;rw[Bq (by omega),Bq (by omega),Bq (by omega),Bq (by omega),wrap32 (by omega) (by omega)]
 unfold Ct;rw[Nr,j];simp only[S5,Hg,ot];rw[Bq (by omega),DN ⟨by unfold Dz;omega,by unfold ID;rw[DN h1]⟩]
def DT{i:Int}{t:List Int}(h1:i<256)(h:(i::t).length<CS i):Ct (i::t)=(0,0):=by
 unfold Ct;rw[Nr];unfold CS at h;split at h
 .omega
 split at h
 .rw[VG (by omega) (by omega)];simp only;rw[DN h]
 split at h
 .rw[cP (by omega) (by omega)];simp only;rw[DN h]
 split at h
 .rw[Vp (by omega) (by omega)];simp only;rw[DN h]
 .omega
def SP{b:List Int}:∀{k i:Nat} {r x:Int},Hg b k i r=some x->(∀y∈b,0<=y/\y<256)->0<=r->r*64 ^ k<1073741824->k<=3->r*64 ^ k<=x/\x<=r*64 ^ k+64 ^ k-1:=by
 intro k;induction k with
 |zero=>intro i r x h _ _ _ _;simp only[Hg] at h;cases h;simp
 |succ k q=>
  intro i r x h hb h0 h1 hk;cases hc:b[i]? with
  |none=>simp[Hg,hc] at h
  |some c=>
   have m:=hb c (mO.2 ⟨i,hc⟩);have e:(64:Int) ^ (k+1)=64*64 ^ k:=by rw[Int.pow_succ];omega
   rw[e] at h1;have hp:(1:Int)<=64 ^ k:=by
    rcases(show k=0\/k=1\/k=2 by omega) with rfl|rfl|rfl<;>decide
   have o:r*(64*64 ^ k)=(r*64)*64 ^ k:=by rw[Int.mul_assoc]
   rw[o] at h1;have hr:r*64<=r*64*64 ^ k:=by
    have:=Int.mul_le_mul_of_nonneg_left hp (show 0<=r*64 by omega);omega
   rw[Ez hc h0 (by omega) m.1 m.2] at h;split at h
   .cases h
   .rename_i B;have I:(r*64+c-128)*64 ^ k=r*64*64 ^ k+(c-128)*64 ^ k:=by rw[show r*64+c-128=r*64+(c-128) by omega,Int.add_mul]
    have J:(c-128)*64 ^ k<=63*64 ^ k:=pZ (by omega) (by omega);have O:0<=(c-128)*64 ^ k:=Int.mul_nonneg (by omega) (by omega);have Q:(64:Int) ^ k<=4096:=by
     rcases(show k=0\/k=1\/k=2 by omega) with rfl|rfl|rfl<;>decide
    by_cases j:(r*64+c-128)*64 ^ k<1073741824
    .have:=q h hb (by omega) j (by omega);rw[e,o];omega
    .exfalso;rw[I] at j;have T:r*64*64 ^ k<=1073741824-64*64 ^ k:=by
      rcases(show k=0\/k=1\/k=2 by omega) with rfl|rfl|rfl
      .simp only[Int.pow_zero] at *;omega
      .simp only[Int.pow_one] at *;omega
      .rw[show(64:Int) ^ 2=4096 by decide] at *;omega
     omega
def Py{i:Int}{t:List Int}(hb:∀y∈i::t,0<=y/\y<256)(h0:128<=i)(h:CS i=0):Ct (i::t)=(0,0):=by
 have h1:=(hb i lC).2;have hc:i<194\/245<=i:=by
  unfold CS at h
  (repeat' split at h)<;>omega
 unfold Ct;rw[Nr];by_cases q:i<192
 .have o:Cz i=none:=by
   unfold Cz;rw[Bq (by omega),Bq (by omega),Bq (by omega),DN h0]
  rw[o]
 by_cases B:i<194
 .rw[VG (by omega) (by omega)];simp only;split
  .rfl
  .split
   .rfl
   .rename_i x j;have:=SP j hb (by omega) (by omega) (by omega);rw[Bq];rintro⟨_,m⟩;unfold ID at m;rw[DN (by omega)] at m;omega
 .rw[Vp (by omega) (by omega)];simp only;split
  .rfl
  .split
   .rfl
   .rename_i x j;have:=SP j hb (by omega) (by omega) (by omega);rw[Bq];rintro⟨hm,_⟩;unfold Dz at hm;omega
def Xs{j c1:Int}{t:List Int}(h:CS j=2)(c0:0<=c1)(c2:c1<256) :
  Ct (j::c1::t)=if JR j<=c1/\c1<=I8 j then((j-192)*64+(c1-128),2) else(0,0):=by
 have hb:194<=j/\j<224:=by
  unfold CS at h
  (repeat' split at h)<;>omega
 have hl:JR j=128:=by unfold JR;rw[Bq (by omega),Bq (by omega)]
 have m:I8 j=191:=by unfold I8;rw[Bq (by omega),Bq (by omega)]
 unfold Ct;rw[Nr,VG (by omega) (by omega)];simp only;rw[Bq (by simp),Ez (b:=j::c1::t) (i:=1) (c:=c1) rfl (by omega) (by omega) c0 c2,hl,m];by_cases hc:c1<128\/191<c1
 .rw[DN hc,Bq (by omega)]
 .rw[Bq hc,DN (by omega)];simp only[Hg];rw[DN ⟨by unfold Dz;omega,by unfold ID;rw[Bq (by omega),DN (by omega)]⟩];congr 1;omega
def XR{j c1 c2:Int}{t:List Int}(h:CS j=3)(c0:0<=c1)(o:c1<256)(J:0<=c2)(q:c2<256) :
  Ct (j::c1::c2::t)=if(JR j<=c1/\c1<=I8 j)/\128<=c2/\c2<=191 then((j-224)*4096+(c1-128)*64+(c2-128),3) else(0,0):=by
 have hb:224<=j/\j<240:=by
  unfold CS at h
  (repeat' split at h)<;>omega
 have hl:JR j=if j=224 then 160 else 128:=by
  unfold JR;split
  .rfl
  .rw[Bq (by omega)]
 have O:I8 j=if j=237 then 159 else 191:=by
  unfold I8;split
  .rfl
  .rw[Bq (by omega)]
 unfold Ct;rw[Nr,cP (by omega) (by omega)];simp only;rw[Bq (by simp),Ez (b:=j::c1::c2::t) (i:=1) (c:=c1) rfl (by omega) (by omega) c0 o,hl,O];by_cases hc:c1<128\/191<c1
 .rw[DN hc,Bq];rintro⟨⟨h1,B⟩,_⟩;split at h1<;>split at B<;>omega
 rw[Bq hc,Ez (b:=j::c1::c2::t) (i:=2) (c:=c2) rfl (by omega) (by omega) J q];by_cases I:c2<128\/191<c2
 .rw[DN I,Bq (by omega)]
 rw[Bq I];simp only[Hg];by_cases ha:((if j=224 then(160:Int) else 128)<=c1/\c1<=(if j=237 then(159:Int) else 191))
 .have Q:=(show(_/\128<=c2/\c2<=191) from⟨ha,by omega⟩);rw[DN Q,DN]
  .congr 1;omega
  .obtain⟨h1,B⟩:=ha;refine⟨?_,?_⟩
   .unfold Dz;split at h1<;>split at B<;>omega
   .unfold ID;rw[Bq (by split at h1<;>omega),Bq (by split at h1<;>omega),DN (by omega)]
 .rw[Bq (fun x:(_/\128<=c2/\c2<=191)=>ha x.1),Bq];rintro⟨hm,m⟩;apply ha;unfold Dz at hm;have:¬(j-224)*64*64+(c1-128)*64+c2-128<2048:=by
   intro T;unfold ID at m;split at m
   .cases m
   .split at m
    .cases m
    .omega
  constructor
  .split<;>omega
  .split<;>omega
def Wt{j c1 c2 m:Int}{t:List Int}(h:CS j=4)(c0:0<=c1)(q:c1<256)(Q:0<=c2)(B:c2<256)(e0:0<=m)(I:m<256) :
  Ct (j::c1::c2::m::t)=if(JR j<=c1/\c1<=I8 j)/\(128<=c2/\c2<=191)/\128<=m/\m<=191 then((j-240)*262144+(c1-128)*4096+(c2-128)*64+(m-128),4) else(0,0):=by
 have hb:240<=j/\j<245:=by
  unfold CS at h
  (repeat' split at h)<;>omega
 have hl:JR j=if j=240 then 144 else 128:=by unfold JR;rw[Bq (by omega)]
 have T:I8 j=if j=244 then 143 else 191:=by unfold I8;rw[Bq (by omega)]
 unfold Ct;rw[Nr,Vp (by omega) (by omega)];simp only;rw[Bq (by simp),Ez (b:=j::c1::c2::m::t) (i:=1) (c:=c1) rfl (by omega) (by omega) c0 q,hl,T];by_cases hc:c1<128\/191<c1
 .rw[DN hc,Bq];rintro⟨⟨h1,J⟩,_⟩;split at h1<;>split at J<;>omega
 rw[Bq hc,Ez (b:=j::c1::c2::m::t) (i:=2) (c:=c2) rfl (by omega) (by omega) Q B];by_cases O:c2<128\/191<c2
 .rw[DN O,Bq (by omega)]
 rw[Bq O,Ez (b:=j::c1::c2::m::t) (i:=3) (c:=m) rfl (by omega) (by omega) e0 I];by_cases he:m<128\/191<m
 .rw[DN he,Bq (by omega)]
 rw[Bq he];simp only[Hg];by_cases ha:((if j=240 then(144:Int) else 128)<=c1/\c1<=(if j=244 then(143:Int) else 191))
 .have U:=(show(_/\(128<=c2/\c2<=191)/\128<=m/\m<=191) from⟨ha,by omega⟩);rw[DN U,DN]
  .congr 1;omega
  .obtain⟨h1,J⟩:=ha;refine⟨?_,?_⟩
   .unfold Dz;split at h1<;>split at J<;>omega
   .unfold ID;rw[Bq (by split at h1<;>omega),Bq (by split at h1<;>omega),Bq (by split at h1<;>omega)]
 .rw[Bq (fun x:(_/\(128<=c2/\c2<=191)/\128<=m/\m<=191)=>ha x.1),Bq];rintro⟨hm,o⟩;apply ha;unfold Dz at hm;have:¬((j-240)*64+(c1-128))*64*64+(c2-128)*64+m-128<65536:=by
   intro V;unfold ID at o;split at o
   .cases o
   .split at o
    .cases o
    .split at o
     .cases o
     .omega
  constructor
  .split<;>omega
  .split<;>omega
def JF{b:List Int}(hb:b≠[]):(Bw b).isSome=(decide ((Ct b).2≠0)&&(Bw (b.drop (Ct b).2)).isSome):=by
 rw[Mu hb];by_cases h:(Ct b).2=0
 .simp[h]
 .simp[h]
def Nx:Bw ([]:List Int)=some []:=by simp[Bw,Js]
def RR:∀{k:Nat} {b:List Int},k<=b.length->(∀j x,j<k->b[j]?=some x->0<=x/\x<128)->(Bw b).isSome=(Bw (b.drop k)).isSome:=by
 intro k;induction k with
 |zero=>intro b _ _;rw[mK]
 |succ k i=>
  intro b hk h;cases b with
  |nil=>simp at hk
  |cons m t=>
   have h0:=h 0 m (by omega) rfl;rw[JF (by simp),Lg h0.1 h0.2];simp only[mP];simp only[ne_eq,Nat.one_ne_zero,not_false_eq_true,decide_true,oZ,mK];exact i (by simpa using hk) fun j x q o=>h (j+1) x (by omega) o
def RM(n:Nat):(FloatKind.f64.format.order n n != some .eq)=decide (GU (n:Int)):=by
 have h1:Ieee.double.signWeight=9223372036854775808:=by decide
 have j:Ieee.double.infRung=9218868437227405312:=by decide
 have m:Ieee.double.binade=4503599627370496:=by decide
 have o:GU (n:Int)↔9218868437227405312<n%9223372036854775808:=by
  unfold GU;rw[Int.tmod_eq_emod_of_nonneg (by omega)];omega
 have i:∀x:Int,compare x x=.eq:=fun x=>by simp[compare,compareOfLessAndEq]
 have q:∀x:Nat,compare x x=.eq:=fun x=>by simp[compare,compareOfLessAndEq]
 rw[show decide (GU (n:Int))=decide (9218868437227405312<n%9223372036854775808) from pd.2 o];show((Ieee.double.read n).order (Ieee.double.read n) != some .eq)=_;unfold Ieee.Format.read;simp only[h1,j,m];split
 .rename_i B;have:¬9218868437227405312<n%9223372036854775808:=by omega
  simp only[Ieee.Datum.order,i,kX this];rfl
 .split
  .have:¬9218868437227405312<n%9223372036854775808:=by omega
   simp only[Ieee.Datum.order,i,kX this];rfl
  .split
   .have:¬9218868437227405312<n%9223372036854775808:=by omega
    simp only[Ieee.Datum.order,q,kX this];rfl
   .have:9218868437227405312<n%9223372036854775808:=by omega
    simp only[Ieee.Datum.order,lH this];rfl
def Ia(x:Int):Prop:=0<=x/\x<18446744073709551616
def MU(a b:Int):Int:=((a.toNat ||| b.toNat:Nat):Int)
def Ff{x:Int}(h:Ia x):IntKind.u64.wrap x=x:=by
 have i:(2:Int) ^ IntKind.u64.bits=18446744073709551616:=by decide
 unfold Ia at h;simp only[IntKind.wrap,i,IntKind.signed,pP];rw[Bq (by decide)];omega
def iy{a b:Int}(ha:Ia a)(hb:Ia b):((BitVec.ofInt 64 a ||| BitVec.ofInt 64 b).toNat:Int)=MU a b:=by
 unfold Ia at ha hb;unfold MU;rw[BitVec.toNat_or,mY,mY];have e:((2 ^ 64:Nat):Int)=18446744073709551616:=by decide
 rw[e,nE ha.1 ha.2,nE hb.1 hb.2]
def bv_and{a b:Int}(ha:Ia a)(hb:Ia b):((BitVec.ofInt 64 a &&& BitVec.ofInt 64 b).toNat:Int)=((a.toNat &&& b.toNat:Nat):Int):=by
 unfold Ia at ha hb;rw[BitVec.toNat_and,mY,mY];have e:((2 ^ 64:Nat):Int)=18446744073709551616:=by decide
 rw[e,nE ha.1 ha.2,nE hb.1 hb.2]
def EY{a b:Int}(ha:Ia a)(hb:Ia b):Ia (MU a b):=by
 unfold Ia at *;unfold MU;have:a.toNat ||| b.toNat<2 ^ 64:=Nat.or_lt_two_pow (by omega) (by omega)
 omega
def T6(x:Int)(j:Nat):Prop:=x.toNat.testBit (8*j+7)=true
def T6.l{a b:Int}(h:T6 a j):T6 (MU a b) j:=by
 unfold T6 MU at *;rw[lf,Nat.testBit_or,h,Bool.true_or]
def T6.r{a b:Int}(h:T6 b j):T6 (MU a b) j:=by
 unfold T6 MU at *;rw[lf,Nat.testBit_or,h,Bool.or_true]
def XB{x:Int}(i:j<8)(h0:128<=x)(h1:x<256):Ia (x*2 ^ (8*j))/\T6 (x*2 ^ (8*j)) j:=by
 obtain⟨n,rfl⟩:∃n:Nat,x=n:=⟨x.toNat,by omega⟩;have e:((n:Int)*2 ^ (8*j))=((n*2 ^ (8*j):Nat):Int):=by rw[Int.natCast_mul,Int.natCast_pow];rfl
 have hp:n*2 ^ (8*j)<2 ^ (8+8*j):=by
  rw[Nat.pow_add];exact qD (by omega) (Nat.pow_pos (by decide))
 have m:2 ^ (8+8*j)<=2 ^ 64:=rJ (by decide) (by omega);refine⟨?_,?_⟩
 .rw[e];unfold Ia;omega
 .rw[e];unfold T6;rw[lf,Nat.testBit_mul_two_pow];simp only[show 8*j<=8*j+7 by omega,decide_true,oZ,show 8*j+7-8*j=7 by omega];rw[Nat.testBit_eq_decide_div_mod_eq];rw[TC];omega
def WT{x:Int}(i:j<8)(h0:0<=x)(h1:x<256):Ia (x*2 ^ (8*j)):=by
 obtain⟨n,rfl⟩:∃n:Nat,x=n:=⟨x.toNat,by omega⟩;have e:((n:Int)*2 ^ (8*j))=((n*2 ^ (8*j):Nat):Int):=by rw[Int.natCast_mul,Int.natCast_pow];rfl
 have hp:n*2 ^ (8*j)<2 ^ (8+8*j):=by
  rw[Nat.pow_add];exact qD (by omega) (Nat.pow_pos (by decide))
 have m:2 ^ (8+8*j)<=2 ^ 64:=rJ (by decide) (by omega);rw[e];unfold Ia;omega
def Vo{x:Int}(h:x.toNat &&& 9259542123273814144=0)(m:j<8):¬T6 x j:=by
 intro i;unfold T6 at i;have:(x.toNat &&& 9259542123273814144).testBit (8*j+7)=true:=by
  rw[Nat.testBit_and,i,oZ];rcases(show j=0\/j=1\/j=2\/j=3\/j=4\/j=5\/j=6\/j=7 by omega) with rfl|rfl|rfl|rfl|rfl|rfl|rfl|rfl<;>decide
 rw[h,Nat.zero_testBit] at this;cases this
variable {v0 v1 v2 v3 v4 v5 v6 v7 v8 v9:Value}{K:Cont}{w:World}
def bo(h: BP 77 v2 (fun t5 U=>AB prog 131 [v0,v1] (fun i w2=>AR 0 i fun j=>AR 1 i fun m=>Al 65 [(zI 0),(.bool false),(.int .u8 0),(.bool false),(.bool false),(zI 0)] (fun Q V=>Ab 6 Q j (fun w4=>AD m (AM 2 Q fun o=>AJ o (fun q X=>AM 0 t5 fun B=>AJ B (fun I T=>Cu .u8 q I fun J=>AD J (Aa 4 t5 (fun O Y=>AB prog 208 [O] (fun t25 Z=>K t25 Z) Y) T) (K (.bool false) T)) X) w4) (K (.bool false) w4)) V) w2) U) w):AB prog 209 [v0,v1,v2] K w:=cO (aN (aN aE)) func209 h (by kernel_rfl)
def Zu(h: BP 77 v0 (fun m w1=>AM 0 m fun t5=>AJ t5 (fun q w2=>Cu .u8 q (.int .u8 1) fun t8=>AD t8 (Dg w2 (fun C=>HD C 4 m fun t9=>AM 1 m fun B=>BN C B fun I=>Cu .i64 I (zI 1) fun J=>FU prog C 254 [J] fun O=>Bo prog C (BS .eql 77 (.tmp 9) (.tmp 13) t9 O) fun Q=>∀w3:World,C w3->K Q w3)) (Cu .u8 q (.int .u8 2) fun T=>AD T (Dg w2 (fun j=>HD j 4 m fun U=>AM 1 m fun V=>BN j V fun X=>FU prog j 255 [X] fun Y=>Bo prog j (BS .eql 77 (.tmp 17) (.tmp 20) U Y) fun Z=>∀w4:World,j w4->K Z w4)) (Cu .u8 q (.int .u8 3) fun a1=>AD a1 (Dg w2 (fun i=>HD i 4 m fun a6=>AM 2 m fun t25=>BN i t25 fun a7=>cG prog i 257 [a7] fun a8=>FU prog i 256 [a8] fun ak=>Bo prog i (BS .eql 77 (.tmp 24) (.tmp 28) a6 ak) fun al=>∀w5:World,i w5->K al w5)) (Cu .u8 q (.int .u8 4) fun an=>AD an (AM 3 m fun av=>AJ av (fun ax w6=>AB prog 258 [ax] (fun o w7=>AR 0 o fun ay=>AR 1 o fun b0=>Al 77 [(.int .u8 0),(zI 0),(.int .u64 0),(.string (ByteArray.mk #[]))] (fun t3 w8=>Ab 4 t3 ay (fun w9=>Cu .i64 b0 (zI 0) fun t39=>AD t39 (Aa 4 m (fun b1 b2=>Aa 4 t3 (fun b6 b7=>runK prog (BS .eql 77 (.tmp 41) (.tmp 42) b1 b6) (fun b8 b9=>K b8 b9) b7) b2) w9) (K (.bool false) w9)) w8) w7) w6) w2) (K (.bool false) w2))))) w1) w):AB prog 208 [v0] K w:=cO (aN (aO (aN (aN (aO (aO .draw .nil) (aN (aO (aO .draw .nil) (aN (aO (aO .draw .nil) (aN (aO (aN aE) .nil))))))))) aE)) func208 h (by kernel_rfl)
def bN(h: Al 77 [(.int .u8 0),(zI 0),(.int .u64 0),(.string (ByteArray.mk #[]))] (fun m B=>Ai [(0,1),(1,1),(2,1),(3,1)] [(.int .u8 0),(zI 0),(.int .u64 0),(.string (ByteArray.mk #[]))] [(0,(.int .u8 1))] fun t4=>Al 77 [(.int .u8 0),(zI 0),(.int .u64 0),(.string (ByteArray.mk #[]))] (fun t3 w2=>Ab 4 t3 t4 (fun q=>AD v0 (AM 1 t3 fun I=>Av I (zI 1) (fun w4=>Aa 4 t3 (fun J O=>Ab 4 m J (fun Q=>Aa 4 m (fun T U=>K T U) Q) O) w4) q) (Aa 4 t3 (fun i V=>Ab 4 m i (fun X=>Aa 4 m (fun j o=>K j o) X) V) q)) w2) B) w):AB prog 254 [v0] K w:=cO (aN (aN (aO (aN aE) aE))) func254 h (by kernel_rfl)
def bh(h: Al 77 [(.int .u8 0),(zI 0),(.int .u64 0),(.string (ByteArray.mk #[]))] (fun i j=>Ai [(0,1),(1,1),(2,1),(3,1)] [(.int .u8 0),(zI 0),(.int .u64 0),(.string (ByteArray.mk #[]))] [(0,(.int .u8 2)),(1,v0)] fun t4=>Ab 4 i t4 (fun w2=>Aa 4 i (fun m o=>K m o) w2) j) w):AB prog 255 [v0] K w:=cO (aN aE) func255 h (by kernel_rfl)
def X5(h: Al 77 [(.int .u8 0),(zI 0),(.int .u64 0),(.string (ByteArray.mk #[]))] (fun j m=>AB prog 284 [v0] (fun t4 w2=>AD t4 (Ai [(0,1),(1,1),(2,1),(3,1)] [(.int .u8 0),(zI 0),(.int .u64 0),(.string (ByteArray.mk #[]))] [(0,(.int .u8 3)),(2,(.int .u64 9221120237041090560))] fun t5=>Ab 4 j t5 (fun o=>Aa 4 j (fun q w4=>K q w4) o) w2) (cQ prog 285 [v0] (fun B I=>Ai [(0,1),(1,1),(2,1),(3,1)] [(.int .u8 0),(zI 0),(.int .u64 0),(.string (ByteArray.mk #[]))] [(0,(.int .u8 3)),(2,B)] fun J=>Ab 4 j J (fun O=>Aa 4 j (fun i Q=>K i Q) O) I) w2)) m) w):AB prog 256 [v0] K w:=cO (aN (aO (aN (aO aE .nil)) aE)) func256 h (by kernel_rfl)
def aD(h: Al 77 [(.int .u8 0),(zI 0),(.int .u64 0),(.string (ByteArray.mk #[]))] (fun i Q=>L9 v0 fun U=>Eo .i64 U (zI 64) fun V=>AD V (Ai [(0,1),(1,1),(2,1),(3,1)] [(.int .u8 0),(zI 0),(.int .u64 0),(.string (ByteArray.mk #[]))] [] fun t9=>Ab 4 i t9 (fun w2=>Aa 4 i (fun X Y=>K (.tuple #[X,(zI 3)]) Y) w2) Q) (runK prog (convert 9 293 v0) (fun B w4=>AB prog 286 [B] (fun j T=>AR 0 j fun _t14=>AR 1 j fun m=>Dp .i64 m (zI 0) fun I=>AD I (Ai [(0,1),(1,1),(2,1),(3,1)] [(.int .u8 0),(zI 0),(.int .u64 0),(.string (ByteArray.mk #[]))] [] fun J=>Ab 4 i J (fun Z=>Aa 4 i (fun o w7=>K (.tuple #[o,m]) w7) Z) T) (Ai [(0,1),(1,1),(2,1),(3,1)] [(.int .u8 0),(zI 0),(.int .u64 0),(.string (ByteArray.mk #[]))] [(0,(.int .u8 4)),(3,v0)] fun O=>Ab 4 i O (fun w8=>Aa 4 i (fun q w9=>K (.tuple #[q,(zI 0)]) w9) w8) T)) w4) Q)) w):AB prog 258 [v0] K w:=cO (aN (aO (aN (aO aE .nil)) (aO (aN (aN (aO aE .nil))) aE))) func258 h (by kernel_rfl)
def Z7(h: runK prog (BS .neq 333 (.tmp 3) (.tmp 4) v0 v0) (fun t5 i=>K t5 i) w):AB prog 284 [v0] K w:=cO (aN aE) func284 h (by kernel_rfl)
def YU(h: AB prog 297 [v0] (fun T O=>CA T fun t9=>AD t9 (K (.tuple #[(.slice none 0 0),(zI 3)]) O) (runK prog (convert 293 9 v0) (fun m w2=>runK prog (Instr.range 9 m) (fun o U=>Ap [(.slice none 0 0)] (fun vs i w4=>∀_:Env,runK prog (Instr.next o true 0) (fun j Q=>AR 0 j fun q=>AD q (AR 2 j fun B=>Ba 21 1 1 [(.int .i32 0)] [(0,B)] (fun I V=>runK prog (Builtin.append_ #[80,80] 80 [(nth vs 0),I].toArray) (fun J X=>i [J] X) V) Q) (K (.tuple #[(nth vs 0),(zI 0)]) Q)) w4) U) w2) O)) w):AB prog 286 [v0] K w:=cO (aN (aO (aN (aO aE .nil)) (aN (aO (aN (.node [4] [(4,4),(6,6),(13,19)] (aN (aO aE aE)) .nil)) aE)))) func286 h (by kernel_rfl)
def bf(h: Ac v0 fun t9=>Ac v0 fun eC=>runK prog (Instr.sliceAt 293 v0 none (some t9) (some eC)) (fun eI w1=>Ap [eI] (fun vs i w2=>∀_:Env,Ac (nth vs 0) fun eL=>Eo .i64 eL (zI 0) fun eN=>AD eN (BM 1 (nth vs 0) (zI 0) fun eR=>AJ eR (fun Z w3=>BU .u8 Z (.int .u8 128) fun eX=>AD eX (runK prog (Instr.sliceAt 293 (nth vs 0) (some (zI 1)) none none) (fun t22 w4=>Ao (fun a1 w5=>∀_:Env,AD (nth a1 0) (runK prog (Instr.sliceAt 293 t22 (some (zI 8)) none none) (fun I w6=>Ao (fun a6 w7=>∀_:Env,AD (nth a6 0) (runK prog (Instr.sliceAt 293 I (some (zI 16)) none none) (fun fa w8=>Ap [fa] (fun m O w9=>∀_:Env,Dg w9 (fun C=>Ac (nth m 0) fun t50=>Eo .i64 t50 (zI 32) fun fo=>AD fo (FU prog C 300 [(nth m 0)] fun fs=>Bo prog C (Instr.sliceAt 293 (nth m 0) (some (zI 8)) none none) fun fv=>FU prog C 300 [fv] fun ga=>Bo prog C (BS .or 12 (.tmp 54) (.tmp 57) fs ga) fun gb=>Bo prog C (Instr.sliceAt 293 (nth m 0) (some (zI 16)) none none) fun gd=>FU prog C 300 [gd] fun gf=>Bo prog C (Instr.sliceAt 293 (nth m 0) (some (zI 24)) none none) fun gg=>FU prog C 300 [gg] fun gl=>Bo prog C (BS .or 12 (.tmp 61) (.tmp 64) gf gl) fun gm=>Bo prog C (BS .or 12 (.tmp 58) (.tmp 65) gb gm) fun t66=>Bo prog C (BS .and 12 (.tmp 66) (.const (.int .u64 9259542123273814144)) t66 (.int .u64 9259542123273814144)) fun gw=>Cu .u64 gw (.int .u64 0) fun gA=>∀T:World,C T->AD gA (runK prog (Instr.sliceAt 293 (nth m 0) (some (zI 32)) none none) (fun gB gW=>O [gB] gW) T) (i [(nth m 0)] T)) (∀ a7:World,C a7->i [(nth m 0)] a7))) w8) w7) (i [I] w7)) (fun a8=>Dg w6 (fun q=>Ac I fun h0=>Eo .i64 h0 (zI 16) fun h2=>AD h2 (FU prog q 300 [I] fun t39=>Bo prog q (Instr.sliceAt 293 I (some (zI 8)) none none) fun h3=>FU prog q 300 [h3] fun h4=>Bo prog q (BS .or 12 (.tmp 39) (.tmp 42) t39 h4) fun h5=>Bo prog q (BS .and 12 (.tmp 43) (.const (.int .u64 9259542123273814144)) h5 (.int .u64 9259542123273814144)) fun h6=>Cu .u64 h6 (.int .u64 0) fun t45=>∀ak:World,q ak->a8 [t45] ak) (∀ al:World,q al->a8 [(.bool false)] al)))) w5) (i [t22] w5)) (fun J=>Ac t22 fun h7=>Eo .i64 h7 (zI 8) fun t25=>AD t25 (AB prog 300 [t22] (fun h8 h9=>runK prog (BS .and 12 (.tmp 28) (.const (.int .u64 9259542123273814144)) h8 (.int .u64 9259542123273814144)) (fun hd hf=>Cu .u64 hd (.int .u64 0) fun hg=>J [hg] hf) h9) w4) (J [(.bool false)] w4))) w3) (runK prog (Instr.indexAt 381 (.pointer (some ⟨1,0,none⟩)) Z) (fun hh hj=>AJ hh (fun an hn=>runK prog (BS .and 5 (.tmp 75) (.const (.int .u8 7)) an (.int .u8 7)) (fun t76 ho=>runK prog (convert 5 3 t76) (fun t77 hq=>runK prog (BS .shr 5 (.tmp 78) (.const (.int .u64 4)) an (.int .u64 4)) (fun hs hv=>runK prog (Instr.indexAt 384 (.pointer (some ⟨2,0,none⟩)) hs) (fun hx hy=>Aa 2 hx (fun hz hA=>Al 383 [(.int .u8 0),(.int .u8 0)] (fun U hB=>Ab 2 U hz (fun Q=>Cu .i64 t77 (zI 2) fun hD=>AD hD (Ao (fun _vs_4 hE=>∀_:Env,runK prog (Instr.sliceAt 293 (nth vs 0) (some (zI 2)) none none) (fun av hF=>i [av] hF) hE) (fun hG=>Dg Q (fun B=>Ac (nth vs 0) fun hI=>BU .i64 hI (zI 2) fun hK=>AD hK (∀ ax:World,B ax->K (.bool false) ax) (BM 1 (nth vs 0) (zI 1) fun hL=>BN B hL fun hM=>AM 0 U fun hN=>BN B hN fun hP=>BU .u8 hM hP fun hQ=>AD hQ (∀ ay:World,B ay->K (.bool false) ay) (AM 1 U fun hR=>BN B hR fun hS=>BM 1 (nth vs 0) (zI 1) fun b0=>BN B b0 fun b1=>BU .u8 hS b1 fun b2=>∀V:World,B V->AD b2 (K (.bool false) V) (hG [] V)))))) (Cu .i64 t77 (zI 3) fun b6=>AD b6 (Ao (fun _vs_5 hT=>∀_:Env,runK prog (Instr.sliceAt 293 (nth vs 0) (some (zI 3)) none none) (fun b7 hV=>i [b7] hV) hT) (fun hW=>Dg Q (fun o=>Ac (nth vs 0) fun b8=>BU .i64 b8 (zI 3) fun b9=>AD b9 (∀ ba:World,o ba->K (.bool false) ba) (BM 1 (nth vs 0) (zI 1) fun bb=>BN o bb fun bc=>AM 0 U fun bd=>BN o bd fun bk=>BU .u8 bc bk fun bl=>AD bl (∀ bn:World,o bn->K (.bool false) bn) (AM 1 U fun bp=>BN o bp fun bs=>BM 1 (nth vs 0) (zI 1) fun bx=>BN o bx fun c4=>BU .u8 bs c4 fun c6=>AD c6 (∀ c7:World,o c7->K (.bool false) c7) (BM 1 (nth vs 0) (zI 2) fun c8=>BN o c8 fun c9=>BU .u8 c9 (.int .u8 128) fun ca=>AD ca (∀ cc:World,o cc->K (.bool false) cc) (BM 1 (nth vs 0) (zI 2) fun cd=>BN o cd fun ch=>BU .u8 (.int .u8 191) ch fun cn=>∀X:World,o X->AD cn (K (.bool false) X) (hW [] X)))))))) (Cu .i64 t77 (zI 4) fun cv=>AD cv (Ao (fun _vs_6 hX=>∀_:Env,runK prog (Instr.sliceAt 293 (nth vs 0) (some (zI 4)) none none) (fun cx hY=>i [cx] hY) hX) (fun ih=>Dg Q (fun j=>Ac (nth vs 0) fun da=>BU .i64 da (zI 4) fun dk=>AD dk (∀ dT:World,j dT->K (.bool false) dT) (BM 1 (nth vs 0) (zI 1) fun e1=>BN j e1 fun e2=>AM 0 U fun e3=>BN j e3 fun e4=>BU .u8 e2 e4 fun e5=>AD e5 (∀ e6:World,j e6->K (.bool false) e6) (AM 1 U fun e7=>BN j e7 fun e8=>BM 1 (nth vs 0) (zI 1) fun e9=>BN j e9 fun ea=>BU .u8 e8 ea fun ec=>AD ec (∀ ed:World,j ed->K (.bool false) ed) (BM 1 (nth vs 0) (zI 2) fun ee=>BN j ee fun ef=>BU .u8 ef (.int .u8 128) fun eh=>AD eh (∀ ej:World,j ej->K (.bool false) ej) (BM 1 (nth vs 0) (zI 2) fun ek=>BN j ek fun en=>BU .u8 (.int .u8 191) en fun eo=>AD eo (∀ ep:World,j ep->K (.bool false) ep) (BM 1 (nth vs 0) (zI 3) fun er=>BN j er fun et=>BU .u8 et (.int .u8 128) fun eu=>AD eu (∀ ew:World,j ew->K (.bool false) ew) (BM 1 (nth vs 0) (zI 3) fun ey=>BN j ey fun eA=>BU .u8 (.int .u8 191) eA fun eB=>∀Y:World,j Y->AD eB (K (.bool false) Y) (ih [] Y)))))))))) (K (.bool false) Q)))) hB) hA) hy) hv) hq) ho) hn) hj) w3)) w2) (K (.bool true) w2)) w1) w):AB prog 297 [v0] K w:=cO (aN (aN (aO (.node [0] [(0,0),(2,6),(13,187)] (aO (aN aE) (aN (aO (aN (aO (aN (aO (.cut [31] [(23,31)] .nil (aO (aN (.cut [46] [(34,46)] .draw (aO (aN (.node [0] [(0,0),(49,71)] (aO (aO .draw aE) .nil) .nil)) .nil))) .nil)) .nil)) .nil)) (aN (aN (aN (aN (aN (aO (.cut [] [(2,2),(85,103)] (aO .draw (aO aE .nil)) .nil) (aN (aO (.cut [] [(2,2),(108,138)] (aO .draw (aO aE .nil)) .nil) (aN (aO (.cut [] [(2,2),(143,185)] (aO .draw (aO aE .nil)) .nil) aE))))))))))))) .nil) aE))) func297 h (by kernel_rfl)
def bE(h: Dg w (fun i=>BM 1 v0 (zI 0) fun j=>BN i j fun m=>Bo prog i (convert 5 75 m) fun o=>BM 1 v0 (zI 1) fun q=>BN i q fun B=>Bo prog i (convert 5 75 B) fun I=>Bo prog i (BS .shl 75 (.tmp 32) (.const (.int .u64 8)) I (.int .u64 8)) fun J=>Bo prog i (BS .or 75 (.tmp 28) (.tmp 33) o J) fun O=>BM 1 v0 (zI 2) fun Q=>BN i Q fun T=>Bo prog i (convert 5 75 T) fun U=>Bo prog i (BS .shl 75 (.tmp 38) (.const (.int .u64 16)) U (.int .u64 16)) fun t39=>Bo prog i (BS .or 75 (.tmp 34) (.tmp 39) O t39) fun V=>BM 1 v0 (zI 3) fun X=>BN i X fun Y=>Bo prog i (convert 5 75 Y) fun Z=>Bo prog i (BS .shl 75 (.tmp 44) (.const (.int .u64 24)) Z (.int .u64 24)) fun t45=>Bo prog i (BS .or 75 (.tmp 40) (.tmp 45) V t45) fun t46=>BM 1 v0 (zI 4) fun a1=>BN i a1 fun a6=>Bo prog i (convert 5 75 a6) fun t50=>Bo prog i (BS .shl 75 (.tmp 50) (.const (.int .u64 32)) t50 (.int .u64 32)) fun a7=>Bo prog i (BS .or 75 (.tmp 46) (.tmp 51) t46 a7) fun a8=>BM 1 v0 (zI 5) fun ak=>BN i ak fun t55=>Bo prog i (convert 5 75 t55) fun al=>Bo prog i (BS .shl 75 (.tmp 56) (.const (.int .u64 40)) al (.int .u64 40)) fun an=>Bo prog i (BS .or 75 (.tmp 52) (.tmp 57) a8 an) fun av=>BM 1 v0 (zI 6) fun ax=>BN i ax fun ay=>Bo prog i (convert 5 75 ay) fun b0=>Bo prog i (BS .shl 75 (.tmp 62) (.const (.int .u64 48)) b0 (.int .u64 48)) fun b1=>Bo prog i (BS .or 75 (.tmp 58) (.tmp 63) av b1) fun b2=>BM 1 v0 (zI 7) fun t66=>BN i t66 fun b6=>Bo prog i (convert 5 75 b6) fun b7=>Bo prog i (BS .shl 75 (.tmp 68) (.const (.int .u64 56)) b7 (.int .u64 56)) fun b8=>Bo prog i (BS .or 75 (.tmp 64) (.tmp 69) b2 b8) fun t70=>∀w2:World,i w2->K t70 w2)):AB prog 300 [v0] K w:=cO (aN (aO (aO (aO .draw .nil) .nil) (aO .draw .nil))) func300 h (by kernel_rfl)
end
end Go.Proofs.YtmdhibffnkhcnaaGreatDoor
