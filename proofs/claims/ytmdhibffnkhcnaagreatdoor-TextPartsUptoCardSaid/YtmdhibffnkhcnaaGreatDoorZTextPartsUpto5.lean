/- parts of the proof, written short by a program of ours -/
import Derived.Test.YtmdhibffnkhcnaaGreatDoorZTextPartsUpto4
import Derived.ChangeKeysEq
set_option linter.unusedSimpArgs false
set_option linter.unusedVariables false
namespace Go.Proofs.YtmdhibffnkhcnaaGreatDoor
open Go Go.K Proofs.Tryz
def IN:AvK where
 E:=2
 one:=false
 zE:=[.int .i64 0,.int .i64 0]
 te:=108
 tn:=319
 ts:=101
 tp:=378
 tps:=362
 tt:=137
 tT:=260
 tk:=256
 tA:=364
 fat:=244
 ftotals:=245
 fset:=295
 flift:=299
 flean:=298
 fbalance:=294
 fjoin:=277
 ffirst:=275
 flast:=273
 fconcat:=279
 fsplit:=271
 fdrop:=272
 fpick:=274
 fmelded:=276
 fReplace:=238
 fover:=175
 fOver:=100
 fOverf:=174
 fSize:=184
 fNew:=170
 aTake:=278
 aasked:=296
 aFree:=293
 aAt:=282
 aPut:=292
 aNew:=243
 vm:=.func (.func 171) #[] #[]
 vc:=.func (.func 172) #[] #[]
 vd:=.func (.func 173) #[] #[]
theorem Vn:XP IN where
 at_:=fun h=>cO (aN (aN aE)) func244 h (by kernel_rfl)
 totals:=fun h=>cO (aN (aO (aN (aO aE .nil)) (aN (aO .draw .nil)))) func245 h (by kernel_rfl)
 set:=fun h=>cO (aN (aN (aN (aO (.dc [7] [[],[0],[0,1],[0,1,2],(aR 4),[],[5],(aR 7),(aR 8),(aR 9),(aR 9),(aR 10),(aR 12)] []) (aN (.dc [6] [[],[0],[0,1],[0,1,2],[],[],(aR 6)] [])))))) func295 h (by kernel_rfl)
 lift:=fun h=>cO (aN (aN (aN (aO (aN (aO (aN (aN (aN (aN aE)))) (aN (aN (aN (aN aE)))))) aE)))) func299 h (by kernel_rfl)
 lean:=fun h=>cO (aN (aN (aN (aN aE)))) func298 h (by kernel_rfl)
 balance:=fun h=>cO (aN (aN (aO (aN (aN (aO (aO (aN (aO aE .nil)) aE) (aN (aO (aO (aN (aO aE .nil)) aE) .nil))))) aE))) func294 h (by kernel_rfl)
 join:=fun h=>cO (aN (aN (aN (aO (aN (aO (aN (aN aE)) (aN (aO (aN (aN aE)) .nil)))) (aN (aN (aN aE))))))) func277 h (by kernel_rfl)
 first:=fun h=>cO (aN (aN (aO (aN (aO aE .nil)) (aN aE)))) func275 h (by kernel_rfl)
 last:=fun h=>cO (aN (aN (aO (aN (aO aE .nil)) (aN aE)))) func273 h (by kernel_rfl)
 concat:=fun h=>cO (aN (aO (aN (aO aE .nil)) (aN aE))) func279 h (by kernel_rfl)
 drop:=fun h=>cO (aO (aN aE) (aN (aN aE))) func272 h (by kernel_rfl)
 over:=fun h=>cO (aN aE) func100 h (by kernel_rfl)
 overf:=fun h=>cO (.dc [8] [[],[],[1],[1,2],[1,2,3],[],[],[],(aR 8)] []) func174 h (by kernel_rfl)
 size:=fun h=>cO (aN (aN aE)) func184 h (by kernel_rfl)
 take:=fun h=>cO (aN (aO (aN (aO aE .nil)) (aO (aN (aN (aO (aN (aN (aO (.dc [8] [[],[0],[0,1],[0,1,2],[],[],[5],(aR 7),(aR 8)] []) aE))) .nil))) (aO (.dc [7,8,11] [[],[],[1],[1,2],[1,2,3],[],[5],[5,6],[1,2,3,4,5,6,7],(aR 9),(aR 10),(aR 11)] [[7,8]]) aE)))) func278 h (by kernel_rfl)
 asked:=fun h=>cO (aN (aO (aN (aO aE (aN (aO aE .nil)))) aE)) func296 h (by kernel_rfl)
 free:=fun h=>cO (aN (aO (aN (aN (aO aE .nil))) (aN (aN aE)))) func293 h (by kernel_rfl)
 aat:=fun h=>cO (aN (aO (aN (aN (aO (aN aE) .nil))) aE)) func282 h (by kernel_rfl)
 put:=fun h=>cO (aN (aO (aN (aN (aO aE .nil))) (aO (.dc [8] [[],[0],[0,1],[0,1,2],[],[],(aR 6),(aR 7),(aR 8)] []) aE))) func292 h (by kernel_rfl)
 new:=fun h=>cO (aN (aO (.dc [1,3] [[],[],[0,1],[0,1,2],(aR 4)] [[1]]) .nil)) func170 h (by kernel_rfl)
 anew:=fun h=>cO (aN aE) func243 h (by kernel_rfl)
 okOverf:=by kernel_rfl
theorem T7:Uk IN where
 split:=fun h=>cO (aN (aO (aN (aO aE .nil)) (aN (aN (aO (.dc [7] [[],[0],[0,1],[0,1,2],(aR 4),[],[5],(aR 7),(aR 8),(aR 9),(aR 9),(aR 10),(aR 12)] []) (aO (aN (aO (aN aE) (aN (aO (aN aE) .nil)))) (.cut [14,15] [(14,15),(86,99)] (.dt [10,14,15,16,17] [[],[0],[0,1],[0,1,2],(aR 4),[],[5],[],[],[7,8],(aR 10),(aR 11),(aR 12),(aR 12),[],[],[0,1,2,3,4,5,6,7,8,9,10,11,12,14,15],(aR 17)] [[10]] (.op 0 (.op 1 (.op 2 (.op 3 (.op 4 (.op 5 (.op 6 (.op 7 (.op 8 (.op 9 (.br (.op 10 (.op 11 (.op 12 (.op 13 (.br (.op 14 (.op 15 (.op 16 (.op 17 .nil)))) (.op 15 (.op 14 (.op 16 (.op 17 .nil))))))))) (.br (.op 14 (.br (.op 10 (.op 11 (.op 12 (.op 13 (.op 15 (.op 16 (.op 17 .nil))))))) (.op 15 (.op 10 (.op 11 (.op 12 (.op 13 (.op 16 (.op 17 .nil))))))))) (.op 15 (.br (.op 10 (.op 11 (.op 12 (.op 13 (.op 14 (.op 16 (.op 17 .nil))))))) (.op 14 (.op 10 (.op 11 (.op 12 (.op 13 (.op 16 (.op 17 .nil)))))))))))))))))))))) (aO .draw (aN (aO (.dc [6] [[],[0],[0,1],[0,1,2],[],[],(aR 6)] []) (aO (.dc [3,11,13] [[],[],[],[0,1,2],[],[],[5],[5,6],[5,6,7],[],[9],[0,1,2,3,5,6,7,8,9,10],[],(aR 13),(aR 14),(aR 15)] []) .nil))))))))))) func271 h (by kernel_rfl)
 pick:=fun h=>cO (aN (aN (aN aE))) func274 h (by kernel_rfl)
 melded:=fun h=>cO (aN (aO (aN (.node [4,14] [(4,4),(6,11),(14,58)] (aN (aO aE (aO (aN (aO (aO (.dc [6] [[],[0],[0,1],[0,1,2],(aR 4),[],(aR 6),(aR 7),(aR 8),(aR 8),(aR 9),(aR 11)] []) (aN aE)) (.cut [] [(9,11),(30,53)] (aN (aN (aO (.cut [10,11] [(10,11),(35,48)] (.dt [10,14,15] [[],[0],[0,1],[0,1,2],(aR 4),[],[],[5,6],[5,6,7],[],(aR 10),(aR 11),(aR 12),(aR 12),[],[0,1,2,3,4,5,6,7,8,9,10,11,12,14],(aR 16)] [[10]] (.op 0 (.op 1 (.op 2 (.op 3 (.op 4 (.op 5 (.op 6 (.op 7 (.op 8 (.op 9 (.br (.op 10 (.op 11 (.op 12 (.op 13 (.op 14 (.op 15 (.op 16 .nil))))))) (.op 14 (.op 10 (.op 11 (.op 12 (.op 13 (.op 15 (.op 16 .nil))))))))))))))))))) (aN (aO aE .nil))) .nil))) .nil))) .nil))) .nil)) aE)) func276 h (by kernel_rfl)
 replace:=fun h=>cO (aN (aN (aN (aN (.cut [8,12] [(8,8),(12,14),(41,55)] (aN (aO aE .nil)) (aN (.cut [11,12] [(11,12),(15,16),(59,73)] (aN (aO aE .nil)) (aO (aN (.node [8,78] [(8,8),(18,18),(78,92)] (aN (aO aE (aO (aN (.dc [8,9] [[],[],[],[2],[2,3],[2,3,4],[],[6],[2,3,4,5,6,7],(aR 9),(aR 10)] [])) .nil))) .nil)) .nil)))))))) func238 h (by kernel_rfl)
 over:=fun h=>cO (aN (.cut [] [(10,10),(20,26)] (aN (aO aE .nil)) (aN (aN (aO (.dc [7] [[],[0],[0,1],[0,1,2],(aR 4),[],[5],(aR 7),(aR 8),(aR 9),(aR 9),(aR 10),(aR 12)] []) (.cut [] [(10,10),(49,63)] (aN (aO aE .nil)) (aN (.cut [] [(10,10),(19,19),(73,108)] (aN (aO (aN (.cut [] [(78,91)] (aN (aO (.dc [7,11] [[],[0],[0,1],[0,1,2],(aR 4),[],[],(aR 7),(aR 8),(aR 9),(aR 9),(aR 10)] [[7]]) .nil)) (.cut [] [(92,104)] (aN (aO (.dc [7,11] [[],[0],[0,1],[0,1,2],(aR 4),[],[],(aR 7),(aR 8),(aR 9),(aR 9),(aR 11)] [[7]]) .nil)) (aN (aO aE .nil))))) .nil)) aE)))))))) func175 h (by kernel_rfl)
def JV:AvK where
 E:=1
 one:=true
 zE:=[.slice none 0 0]
 te:=43
 tn:=304
 ts:=50
 tp:=347
 tps:=343
 tt:=140
 tT:=272
 tk:=267
 tA:=345
 fat:=247
 ftotals:=185
 fset:=264
 flift:=289
 flean:=288
 fbalance:=263
 fjoin:=220
 ffirst:=218
 flast:=216
 fconcat:=222
 fsplit:=214
 fdrop:=215
 fpick:=217
 fmelded:=219
 fReplace:=147
 fover:=183
 fOver:=105
 fOverf:=182
 fSize:=114
 fNew:=178
 aTake:=221
 aasked:=287
 aFree:=262
 aAt:=283
 aPut:=261
 aNew:=246
 vm:=.func (.func 179) #[] #[]
 vc:=.func (.func 180) #[] #[]
 vd:=.func (.func 181) #[] #[]
theorem XC:XP JV where
 at_:=fun h=>cO (aN (aN aE)) func247 h (by kernel_rfl)
 totals:=fun h=>cO (aN (aO (aN (aO aE .nil)) (aN (aO .draw .nil)))) func185 h (by kernel_rfl)
 set:=fun h=>cO (aN (aN (aN (aO (.dc [7] [[],[0],[0,1],[0,1,2],(aR 4),[],[5],(aR 7),(aR 8),(aR 9),(aR 9),(aR 10),(aR 12)] []) (aN (.dc [6] [[],[0],[0,1],[0,1,2],[],[],(aR 6)] [])))))) func264 h (by kernel_rfl)
 lift:=fun h=>cO (aN (aN (aN (aO (aN (aO (aN (aN (aN (aN aE)))) (aN (aN (aN (aN aE)))))) aE)))) func289 h (by kernel_rfl)
 lean:=fun h=>cO (aN (aN (aN (aN aE)))) func288 h (by kernel_rfl)
 balance:=fun h=>cO (aN (aN (aO (aN (aN (aO (aO (aN (aO aE .nil)) aE) (aN (aO (aO (aN (aO aE .nil)) aE) .nil))))) aE))) func263 h (by kernel_rfl)
 join:=fun h=>cO (aN (aN (aN (aO (aN (aO (aN (aN aE)) (aN (aO (aN (aN aE)) .nil)))) (aN (aN (aN aE))))))) func220 h (by kernel_rfl)
 first:=fun h=>cO (aN (aN (aO (aN (aO aE .nil)) (aN aE)))) func218 h (by kernel_rfl)
 last:=fun h=>cO (aN (aN (aO (aN (aO aE .nil)) (aN aE)))) func216 h (by kernel_rfl)
 concat:=fun h=>cO (aN (aO (aN (aO aE .nil)) (aN aE))) func222 h (by kernel_rfl)
 drop:=fun h=>cO (aO (aN aE) (aN (aN aE))) func215 h (by kernel_rfl)
 over:=fun h=>cO (aN aE) func105 h (by kernel_rfl)
 overf:=fun h=>cO (.dc [8] [[],[],[1],[1,2],[1,2,3],[],[],[],(aR 8)] []) func182 h (by kernel_rfl)
 size:=fun h=>cO (aN (aN aE)) func114 h (by kernel_rfl)
 take:=fun h=>cO (aN (aO (aN (aO aE .nil)) (aO (aN (aN (aO (aN (aN (aO (.dc [8] [[],[0],[0,1],[0,1,2],[],[],[5],(aR 7),(aR 8)] []) aE))) .nil))) (aO (.dc [7,8,11] [[],[],[1],[1,2],[1,2,3],[],[5],[5,6],[1,2,3,4,5,6,7],(aR 9),(aR 10),(aR 11)] [[7,8]]) aE)))) func221 h (by kernel_rfl)
 asked:=fun h=>cO (aN (aO (aN (aO aE (aN (aO aE .nil)))) aE)) func287 h (by kernel_rfl)
 free:=fun h=>cO (aN (aO (aN (aN (aO aE .nil))) (aN (aN aE)))) func262 h (by kernel_rfl)
 aat:=fun h=>cO (aN (aO (aN (aN (aO (aN aE) .nil))) aE)) func283 h (by kernel_rfl)
 put:=fun h=>cO (aN (aO (aN (aN (aO aE .nil))) (aO (.dc [8] [[],[0],[0,1],[0,1,2],[],[],(aR 6),(aR 7),(aR 8)] []) aE))) func261 h (by kernel_rfl)
 new:=fun h=>cO (aN (aO (.dc [1,3] [[],[],[0,1],[0,1,2],(aR 4)] [[1]]) .nil)) func178 h (by kernel_rfl)
 anew:=fun h=>cO (aN aE) func246 h (by kernel_rfl)
 okOverf:=by kernel_rfl
theorem Tz:Yi JV where
 split:=fun h=>cO (aN (aO (aN (aO aE .nil)) (aN (aN (aO (.dc [7] [[],[0],[0,1],[0,1,2],(aR 4),[],[5],(aR 7),(aR 8),(aR 9),(aR 9),(aR 10),(aR 12)] []) (aO (aN (aO (aN aE) (aN (aO (aN aE) .nil)))) (aO (.dc [10] [[],[0],[0,1],[0,1,2],(aR 4),[],[5],[],[],[7,8],(aR 10),(aR 11),(aR 12),(aR 12),(aR 13),(aR 15)] []) (aO .draw (aN (aO (.dc [6] [[],[0],[0,1],[0,1,2],[],[],(aR 6)] []) (aO (.dc [3,11,13] [[],[],[],[0,1,2],[],[],[5],[5,6],[5,6,7],[],[9],[0,1,2,3,5,6,7,8,9,10],[],(aR 13),(aR 14),(aR 15)] []) .nil))))))))))) func214 h (by kernel_rfl)
 pick:=fun h=>cO (aN (aN (aN aE))) func217 h (by kernel_rfl)
 melded:=fun h=>cO (aN (aO (aN (.node [4,14] [(4,4),(6,11),(14,58)] (aN (aO aE (aO (aN (aO (aN (aN aE)) (.cut [] [(9,11),(30,53)] (aN (aN (aO (aO (.dc [10] [[],[0],[0,1],[0,1,2],(aR 4),[],[],[5,6],[5,6,7],[],(aR 10),(aR 11),(aR 12),(aR 12),(aR 13),(aR 15)] []) (aN (aO aE .nil))) .nil))) .nil))) .nil))) .nil)) aE)) func219 h (by kernel_rfl)
 replace:=fun h=>cO (aN (aN (aN (aN (.cut [8,12] [(8,8),(12,14),(41,55)] (aN (aO aE .nil)) (aN (.cut [11,12] [(11,12),(15,16),(59,73)] (aN (aO aE .nil)) (aO (aN (.node [8,78] [(8,8),(18,18),(78,92)] (aN (aO aE (aO aE .nil))) .nil)) .nil)))))))) func147 h (by kernel_rfl)
 over:=fun h=>cO (aN (.cut [] [(10,10),(20,26)] (aN (aO aE .nil)) (aN (aN (aO (.dc [7] [[],[0],[0,1],[0,1,2],(aR 4),[],[5],(aR 7),(aR 8),(aR 9),(aR 9),(aR 10),(aR 12)] []) (.cut [] [(10,10),(49,63)] (aN (aO aE .nil)) (aN (.cut [] [(10,10),(19,19),(73,108)] (aN (aO (aN (.cut [19] [(19,19),(78,91)] (aN aE) (.cut [19] [(19,19),(92,104)] (aN aE) (aN (aO aE .nil))))) .nil)) aE)))))))) func183 h (by kernel_rfl)
def Fv:AvK where
 E:=33
 one:=false
 zE:=[.int .i32 0,.int .i32 0,.int .i32 0,.int .i32 0,.int .i32 0,.int .i32 0,.int .i32 0,.int .i32 0,.int .i32 0,.int .i32 0,.int .i32 0,.int .i32 0,.int .i32 0,.int .i32 0,.int .i32 0,.int .i32 0,.int .i32 0,.int .i32 0,.int .i32 0,.int .i32 0,.int .i32 0,.int .i32 0,.int .i32 0,.int .i32 0,.int .i32 0,.int .i32 0,.int .i32 0,.int .i32 0,.int .i32 0,.int .i32 0,.int .i32 0,.int .i32 0,.int .i64 0]
 te:=162
 tn:=245
 ts:=218
 tp:=357
 tps:=353
 tt:=134
 tT:=243
 tk:=238
 tA:=355
 fat:=166
 ftotals:=165
 fset:=269
 flift:=291
 flean:=290
 fbalance:=268
 fjoin:=233
 ffirst:=231
 flast:=229
 fconcat:=235
 fsplit:=227
 fdrop:=228
 fpick:=230
 fmelded:=232
 fReplace:=150
 fover:=168
 fOver:=95
 fOverf:=167
 fSize:=110
 fNew:=157
 aTake:=234
 aasked:=281
 aFree:=267
 aAt:=242
 aPut:=266
 aNew:=241
 vm:=.func (.func 158) #[] #[]
 vc:=.func (.func 161) #[] #[]
 vd:=.func (.func 163) #[] #[]
theorem Xb:XP Fv where
 at_:=fun h=>cO (aN (aN aE)) func166 h (by kernel_rfl)
 totals:=fun h=>cO (aN (aO (aN (aO aE .nil)) (aN (aO .draw .nil)))) func165 h (by kernel_rfl)
 set:=fun h=>cO (aN (aN (aN (aO (.dc [7] [[],[0],[0,1],[0,1,2],(aR 4),[],[5],(aR 7),(aR 8),(aR 9),(aR 9),(aR 10),(aR 12)] []) (aN (.dc [6] [[],[0],[0,1],[0,1,2],[],[],(aR 6)] [])))))) func269 h (by kernel_rfl)
 lift:=fun h=>cO (aN (aN (aN (aO (aN (aO (aN (aN (aN (aN aE)))) (aN (aN (aN (aN aE)))))) aE)))) func291 h (by kernel_rfl)
 lean:=fun h=>cO (aN (aN (aN (aN aE)))) func290 h (by kernel_rfl)
 balance:=fun h=>cO (aN (aN (aO (aN (aN (aO (aO (aN (aO aE .nil)) aE) (aN (aO (aO (aN (aO aE .nil)) aE) .nil))))) aE))) func268 h (by kernel_rfl)
 join:=fun h=>cO (aN (aN (aN (aO (aN (aO (aN (aN aE)) (aN (aO (aN (aN aE)) .nil)))) (aN (aN (aN aE))))))) func233 h (by kernel_rfl)
 first:=fun h=>cO (aN (aN (aO (aN (aO aE .nil)) (aN aE)))) func231 h (by kernel_rfl)
 last:=fun h=>cO (aN (aN (aO (aN (aO aE .nil)) (aN aE)))) func229 h (by kernel_rfl)
 concat:=fun h=>cO (aN (aO (aN (aO aE .nil)) (aN aE))) func235 h (by kernel_rfl)
 drop:=fun h=>cO (aO (aN aE) (aN (aN aE))) func228 h (by kernel_rfl)
 over:=fun h=>cO (aN aE) func95 h (by kernel_rfl)
 overf:=fun h=>cO (.dc [8] [[],[],[1],[1,2],[1,2,3],[],[],[],(aR 8)] []) func167 h (by kernel_rfl)
 size:=fun h=>cO (aN (aN aE)) func110 h (by kernel_rfl)
 take:=fun h=>cO (aN (aO (aN (aO aE .nil)) (aO (aN (aN (aO (aN (aN (aO (.dc [8] [[],[0],[0,1],[0,1,2],[],[],[5],(aR 7),(aR 8)] []) aE))) .nil))) (aO (.dc [7,8,11] [[],[],[1],[1,2],[1,2,3],[],[5],[5,6],[1,2,3,4,5,6,7],(aR 9),(aR 10),(aR 11)] [[7,8]]) aE)))) func234 h (by kernel_rfl)
 asked:=fun h=>cO (aN (aO (aN (aO aE (aN (aO aE .nil)))) aE)) func281 h (by kernel_rfl)
 free:=fun h=>cO (aN (aO (aN (aN (aO aE .nil))) (aN (aN aE)))) func267 h (by kernel_rfl)
 aat:=fun h=>cO (aN (aO (aN (aN (aO (aN aE) .nil))) aE)) func242 h (by kernel_rfl)
 put:=fun h=>cO (aN (aO (aN (aN (aO aE .nil))) (aO (.dc [8] [[],[0],[0,1],[0,1,2],[],[],(aR 6),(aR 7),(aR 8)] []) aE))) func266 h (by kernel_rfl)
 new:=fun h=>cO (aN (aO (.dc [1,3] [[],[],[0,1],[0,1,2],(aR 4)] [[1]]) .nil)) func157 h (by kernel_rfl)
 anew:=fun h=>cO (aN aE) func241 h (by kernel_rfl)
 okOverf:=by kernel_rfl
theorem Ul:Uk Fv where
 split:=fun h=>cO (aN (aO (aN (aO aE .nil)) (aN (aN (aO (.dc [7] [[],[0],[0,1],[0,1,2],(aR 4),[],[5],(aR 7),(aR 8),(aR 9),(aR 9),(aR 10),(aR 12)] []) (aO (aN (aO (aN aE) (aN (aO (aN aE) .nil)))) (.cut [14,15] [(14,15),(86,99)] (.dt [10,14,15,16,17] [[],[0],[0,1],[0,1,2],(aR 4),[],[5],[],[],[7,8],(aR 10),(aR 11),(aR 12),(aR 12),[],[],[0,1,2,3,4,5,6,7,8,9,10,11,12,14,15],(aR 17)] [[10]] (.op 0 (.op 1 (.op 2 (.op 3 (.op 4 (.op 5 (.op 6 (.op 7 (.op 8 (.op 9 (.br (.op 10 (.op 11 (.op 12 (.op 13 (.br (.op 14 (.op 15 (.op 16 (.op 17 .nil)))) (.op 15 (.op 14 (.op 16 (.op 17 .nil))))))))) (.br (.op 14 (.br (.op 10 (.op 11 (.op 12 (.op 13 (.op 15 (.op 16 (.op 17 .nil))))))) (.op 15 (.op 10 (.op 11 (.op 12 (.op 13 (.op 16 (.op 17 .nil))))))))) (.op 15 (.br (.op 10 (.op 11 (.op 12 (.op 13 (.op 14 (.op 16 (.op 17 .nil))))))) (.op 14 (.op 10 (.op 11 (.op 12 (.op 13 (.op 16 (.op 17 .nil)))))))))))))))))))))) (aO .draw (aN (aO (.dc [6] [[],[0],[0,1],[0,1,2],[],[],(aR 6)] []) (aO (.dc [3,11,13] [[],[],[],[0,1,2],[],[],[5],[5,6],[5,6,7],[],[9],[0,1,2,3,5,6,7,8,9,10],[],(aR 13),(aR 14),(aR 15)] []) .nil))))))))))) func227 h (by kernel_rfl)
 pick:=fun h=>cO (aN (aN (aN aE))) func230 h (by kernel_rfl)
 melded:=fun h=>cO (aN (aO (aN (.node [4,14] [(4,4),(6,11),(14,58)] (aN (aO aE (aO (aN (aO (aO (.dc [6] [[],[0],[0,1],[0,1,2],(aR 4),[],(aR 6),(aR 7),(aR 8),(aR 8),(aR 9),(aR 11)] []) (aN aE)) (.cut [] [(9,11),(30,53)] (aN (aN (aO (.cut [10,11] [(10,11),(35,48)] (.dt [10,14,15] [[],[0],[0,1],[0,1,2],(aR 4),[],[],[5,6],[5,6,7],[],(aR 10),(aR 11),(aR 12),(aR 12),[],[0,1,2,3,4,5,6,7,8,9,10,11,12,14],(aR 16)] [[10]] (.op 0 (.op 1 (.op 2 (.op 3 (.op 4 (.op 5 (.op 6 (.op 7 (.op 8 (.op 9 (.br (.op 10 (.op 11 (.op 12 (.op 13 (.op 14 (.op 15 (.op 16 .nil))))))) (.op 14 (.op 10 (.op 11 (.op 12 (.op 13 (.op 15 (.op 16 .nil))))))))))))))))))) (aN (aO aE .nil))) .nil))) .nil))) .nil))) .nil)) aE)) func232 h (by kernel_rfl)
 replace:=fun h=>cO (aN (aN (aN (aN (.cut [8,12] [(8,8),(12,14),(41,55)] (aN (aO aE .nil)) (aN (.cut [11,12] [(11,12),(15,16),(59,73)] (aN (aO aE .nil)) (aO (aN (.node [8,78] [(8,8),(18,18),(78,92)] (aN (aO aE (aO (aN (.dc [8,9] [[],[],[],[2],[2,3],[2,3,4],[],[6],[2,3,4,5,6,7],(aR 9),(aR 10)] [])) .nil))) .nil)) .nil)))))))) func150 h (by kernel_rfl)
 over:=fun h=>cO (aN (.cut [] [(10,10),(20,26)] (aN (aO aE .nil)) (aN (aN (aO (.dc [7] [[],[0],[0,1],[0,1,2],(aR 4),[],[5],(aR 7),(aR 8),(aR 9),(aR 9),(aR 10),(aR 12)] []) (.cut [] [(10,10),(49,63)] (aN (aO aE .nil)) (aN (.cut [] [(10,10),(19,19),(73,108)] (aN (aO (aN (.cut [] [(78,91)] (aN (aO (.dc [7,11] [[],[0],[0,1],[0,1,2],(aR 4),[],[],(aR 7),(aR 8),(aR 9),(aR 9),(aR 10)] [[7]]) .nil)) (.cut [] [(92,104)] (aN (aO (.dc [7,11] [[],[0],[0,1],[0,1,2],(aR 4),[],[],(aR 7),(aR 8),(aR 9),(aR 9),(aR 11)] [[7]]) .nil)) (aN (aO aE .nil))))) .nil)) aE)))))))) func168 h (by kernel_rfl)
variable {v0 v1 v2 v3 v4 v5 v6 v7 v8 v9:Value}{K:Cont}{w:World}
theorem aA(h: Ae [(0,1)] [(.pointer none)] [] fun i=>
 BZ 136 i (fun j o=>
 K j o) w):AB prog 36 [] K w:=cO (aN aE) func36 h (by kernel_rfl)
theorem Y8(h: Ae [(0,1)] [(.pointer none)] [] fun i=>
 BZ 139 i (fun j o=>
 K j o) w):AB prog 37 [] K w:=cO (aN aE) func37 h (by kernel_rfl)
theorem ZK(h: Ae [(0,1)] [(.pointer none)] [] fun i=>
 BZ 142 i (fun j o=>
 K j o) w):AB prog 38 [] K w:=cO (aN aE) func38 h (by kernel_rfl)
theorem aq(h: CX v0 fun i=>
 AD (.bool i)
 (K (.int .i64 0) w)
 (AB prog 89 [v0] (fun j o=>
 AB prog 90 [j] (fun x w2=>
 K x w2) o) w)):AB prog 45 [v0] K w:=cO (aN (aO (aN (aO aE .nil)) aE)) func45 h (by kernel_rfl)
theorem ZQ(h: Ar (fun _vs Q=>∀_:Env,
 AB prog 89 [v0] (fun t25 w2=>
 Ba .i64 v1 (.int .i64 1) fun o=>
 AB prog 91 [t25,o,(.func (.func 92) #[] #[])] (fun j S=>
 AO 0 j fun x=>
 AO 1 j fun _t30=>
 AX .i64 x (.int .i64 1) fun y=>
 K (.tuple #[y,(.int .i64 0)]) S) w2) Q) (fun J=>
 CX v0 fun B=>
 AD (.bool B)
 (K (.tuple #[(.int .i64 0),(.int .i64 1)]) w)
 (Be .i64 v1 (.int .i64 0) fun E=>
 AD E
 (K (.tuple #[(.int .i64 0),(.int .i64 5)]) w)
 (AB prog 45 [v0] (fun I w4=>
 EZ .i64 v1 I fun O=>
 AD O
 (K (.tuple #[(.int .i64 0),(.int .i64 5)]) w4)
 (DT .i64 v1 (.int .i64 0) fun i=>
 AD i
 (K (.tuple #[(.int .i64 0),(.int .i64 0)]) w4)
 (J [] w4))) w)))):AB prog 46 [v0,v1] K w:=cO (aN (.cut [] [(4,5),(8,22)] (aN (aO aE (aN (aO aE (aN (aO aE .nil)))))) (aN aE))) func46 h (by kernel_rfl)
theorem UM(h: Al 80 [(.slice none 0 0)] (fun i w1=>
 AB prog 94 [v0,v1,v2] (fun x w2=>
 Dm .i64 x (.int .i64 0) fun I=>
 AD I
 (BD i (.slice none 0 0) (fun w3=>
 AK i (fun r0 w4=>
 K (.tuple #[r0,x]) w4) w3) w2)
 (AB prog 89 [v0] (fun J w5=>
 AB prog 95 [J,v1,v2] (fun O Q=>
 Hy prog DF O 1 (fun args S w7=>
 Al 162 (zR [(.int .i64 0)]) (fun t9 w9=>
 AZ 33 t9 (nth args 0) (fun T=>
 S (fun post U=>
 Aw [2,3,4] [[],[],[1],[0,1,2],[0,1,2,3]] U.drew (fun M St=>
 BC (St 0) i fun V=>
 Dv (St 1) 33 t9 fun X=>
 AB prog 96 [X] (fun t25 j=>
 Mod (M 2) U.drew j/\
 runK prog (Builtin.append_ #[80,80] 80 [V,t25].toArray) (fun Y o=>
 Mod (M 3) j o/\
 BD i Y (fun y=>
 Mod (M 4) o y/\
 post .normal y) o) j) U.drew)) T) w9) w7) (bM (fun Z=>
 AK i (fun a1 a6=>
 BD i a1 (fun a7=>
 E2 Q.heap.size (fun a8=>
 AK i (fun B ak=>
 K (.tuple #[B,(.int .i64 0)]) ak) a8) a7) a6) Z) (fun al=>
 E2 Q.heap.size (fun av=>
 AK i (fun E ax=>
 K (.tuple #[E,(.int .i64 0)]) ax) av) al) []) Q) w5) w2)) w1) w):AB prog 47 [v0,v1,v2] K w:=
 GC (P:=prog) (ok:=DF) (n:=28) (fn:=Tryz.f47) (c:=IB Tryz.f47) (rs:=[.cell 6 80,.tmp 7]) (an:=(aN (aO (aN (aN (aO aE .nil))) (aO (aN (aN (.dc [2,3,4] [[],[],[1],[0,1,2],(aR 4)] []))) aE)))) FM mixed func47 (by kernel_rfl) (by kernel_rfl) (by kernel_rfl) (by kernel_rfl) (Eq.mp (by kernel_rfl) h)
theorem aX(h: AB prog 97 [v0,v1,v2] (fun i B=>
 Dm .i64 i (.int .i64 0) fun j=>
 AD j
 (K (.tuple #[(.slice none 0 0),i]) B)
 (AB prog 99 [v0] (fun o w2=>
 AB prog 100 [o,v1,v2] (fun x E=>
 AB prog 98 [x] (fun y w4=>
 K (.tuple #[y,(.int .i64 0)]) w4) E) w2) B)) w):AB prog 48 [v0,v1,v2] K w:=cO (aN (aO (aN (aN (aO aE .nil))) aE)) func48 h (by kernel_rfl)
theorem Y9(h: AB prog 101 [v0,v1,v2] (fun i B=>
 Dm .i64 i (.int .i64 0) fun j=>
 AD j
 (K (.tuple #[(.slice none 0 0),i]) B)
 (AB prog 104 [v0] (fun o w2=>
 AB prog 105 [o,v1,v2] (fun x E=>
 AB prog 103 [x] (fun y w4=>
 AB prog 102 [y] (fun t22 I=>
 K (.tuple #[t22,(.int .i64 0)]) I) w4) E) w2) B)) w):AB prog 49 [v0,v1,v2] K w:=cO (aN (aO (aN (aN (aO aE .nil))) aE)) func49 h (by kernel_rfl)
theorem TH(h: AB prog 94 [v0,v1,v1] (fun i y=>
 Dm .i64 i (.int .i64 0) fun j=>
 AD j
 (K (.tuple #[(.int .i64 0),i]) y)
 (AB prog 89 [v0] (fun o w2=>
 AB prog 108 [o,v1,(.func (.func 109) #[] #[])] (fun x B=>
 K (.tuple #[x,(.int .i64 0)]) B) w2) y)) w):AB prog 53 [v0,v1] K w:=cO (aN (aO (aN (aN (aO aE .nil))) aE)) func53 h (by kernel_rfl)
theorem ZU(h: CX v0 fun i=>
 AD (.bool i)
 (K (.int .i64 0) w)
 (AB prog 89 [v0] (fun j o=>
 AB prog 110 [j] (fun x w2=>
 K x w2) o) w)):AB prog 54 [v0] K w:=cO (aN (aO (aN (aO aE .nil)) aE)) func54 h (by kernel_rfl)
theorem ZP(h: AB prog 111 [v0] (fun j o=>
 AB prog 48 [v0,(.int .i64 0),j] (fun t9 w2=>
 AO 0 t9 fun i=>
 AO 1 t9 fun _t11=>
 Al 101 [(.slice none 0 0)] (fun t3 x=>
 BD t3 i (fun w4=>
 K (.func (.func 112) #[] #[t3]) w4) x) w2) o) w):AB prog 55 [v0] K w:=cO (aN (aN aE)) func55 h (by kernel_rfl)
theorem bC(h: CX v0 fun i=>
 AD (.bool i)
 (K (.int .i64 0) w)
 (AB prog 104 [v0] (fun j o=>
 AB prog 114 [j] (fun x w2=>
 K x w2) o) w)):AB prog 57 [v0] K w:=cO (aN (aO (aN (aO aE .nil)) aE)) func57 h (by kernel_rfl)
theorem Sr(h: AB prog 101 [v0,v1,v1] (fun i I=>
 Dm .i64 i (.int .i64 0) fun j=>
 AD j
 (K i I)
 (Ak v2 fun o=>
 AB prog 57 [v0] (fun x w2=>
 Ba .i64 (.int .i64 536870912) x fun y=>
 EZ .i64 o y fun B=>
 AD B
 (K (.int .i64 8) w2)
 (AB prog 104 [v0] (fun t22 J=>
 AB prog 102 [v2] (fun E w4=>
 AB prog 147 [t22,v1,v1,E] (fun _t27 O=>
 K (.int .i64 0) O) w4) J) w2)) I)) w):AB prog 76 [v0,v1,v2] K w:=cO (aN (aO (aN (aN (aO aE .nil))) (aO (aN (aO aE .nil)) (aN aE)))) func76 h (by kernel_rfl)
theorem bI(h: Al 25 [(.int .i64 0)] (fun i w1=>
 CX v0 fun U=>
 AD (.bool U)
 (BD i (.int .i64 1) (fun w2=>
 AK i (fun r0 w3=>
 K r0 w3) w2) w1)
 (Al 218 [(.slice none 0 0)] (fun V w4=>
 AB prog 148 [v2,(.int .i64 32)] (fun X x=>
 Hy prog DF X 1 (fun args Y w6=>
 Y (fun post w7=>
 AB prog 149 [(nth args 0)] (fun y w8=>
 AO 0 y fun Z=>
 AO 1 y fun a1=>
 Al 162 (zR [(.int .i64 0)]) (fun t9 w9=>
 AZ 33 t9 Z (fun B=>
 Dm .i64 a1 (.int .i64 0) fun a6=>
 AD a6
 (BD i (.int .i64 3) (fun a7=>
 post .ret a7) B)
 (AK V (fun a8 ak=>
 Ac 33 t9 (fun t25 al=>
 Bc 162 33 1 (zR [(.int .i64 0)]) [(0,t25)] (fun av ax=>
 runK prog (Builtin.append_ #[218,218] 218 [a8,av].toArray) (fun ay b0=>
 BD V ay (fun b1=>
 post .normal b1) b0) ax) al) ak) B)) w9) w8) w7) w6) (bM (fun b2=>
 AB prog 94 [v0,v1,v1] (fun E I=>
 Dm .i64 E (.int .i64 0) fun b3=>
 AD b3
 (BD i E (fun b4=>
 E2 x.heap.size (fun b5=>
 AK i (fun J b6=>
 K J b6) b5) b4) I)
 (Ak v2 fun b7=>
 AB prog 54 [v0] (fun b8 j=>
 Ba .i64 (.int .i64 536870912) b8 fun t39=>
 EZ .i64 b7 t39 fun b9=>
 AD b9
 (BD i (.int .i64 8) (fun ba=>
 E2 x.heap.size (fun bc=>
 AK i (fun O bd=>
 K O bd) bc) ba) j)
 (Aw [1,5] [[],[0],[],[],[],[0,1,2,3,4]] j.drew (fun M St=>
 AB prog 89 [v0] (fun bk o=>
 Mod (M 1) j.drew o/\
 BC (St 4) V fun t45=>
 AB prog 150 [bk,v1,v1,t45] (fun _t46 Q=>
 Mod (M 5) o Q/\
 BD i (.int .i64 0) (fun bl=>
 E2 x.heap.size (fun bp=>
 AK i (fun S bs=>
 K S bs) bp) bl) Q) o) j.drew))) I)) b2) (fun bx=>
 E2 x.heap.size (fun c4=>
 AK i (fun T c6=>
 K T c6) c4) bx) []) x) w4) w1)) w):AB prog 77 [v0,v1,v2] K w:=
 GC (P:=prog) (ok:=DF) (n:=47) (fn:=Tryz.f77) (c:=IB Tryz.f77) (rs:=[.cell 6 25]) (an:=(aN (aO (aN (aO aE .nil)) (aN (aO (aN (aN (aN (aO (aN (aO aE .nil)) .nil)))) (aO (aN (aN (aO aE .nil))) (aO (aN (aO aE .nil)) (aO (.dc [1,5] [[],[0],[],[],[],(aR 5)] []) aE)))))))) FM mixed func77 (by kernel_rfl) (by kernel_rfl) (by kernel_rfl) (by kernel_rfl) (Eq.mp (by kernel_rfl) h)
theorem Zn(h: AB prog 49 [v0,v1,v2] (fun o T=>
 AO 0 o fun i=>
 AO 1 o fun x=>
 Dm .i64 x (.int .i64 0) fun y=>
 AD y
 (K x T)
 (Ak i fun B=>
 Ay [(.int .i64 0)] (fun vs j w2=>∀_:Env,
 Be .i64 (nth vs 0) B fun t25=>
 AD t25
 (Bf 1 i (nth vs 0) fun E=>
 AK E (fun I U=>
 AB prog 156 [I,v3] (fun J w4=>
 Bf 1 i (nth vs 0) fun O=>
 BD O J (fun V=>
 AX .i64 (nth vs 0) (.int .i64 1) fun Q=>
 j [Q] V) w4) U) w2)
 (AB prog 104 [v0] (fun S X=>
 AB prog 147 [S,v1,v2,i] (fun _t42 Y=>
 K (.int .i64 0) Y) X) w2)) T)) w):AB prog 85 [v0,v1,v2,v3] K w:=cO (aN (aN (aO (aN (aO aE .nil)) (aO (aN (.node [24] [(11,11),(24,36)] (aN (aO aE (aO aE .nil))) .nil)) (aN aE))))) func85 h (by kernel_rfl)
theorem ZW(h: AB prog 101 [v0,v1,v2] (fun i x=>
 Dm .i64 i (.int .i64 0) fun j=>
 AD j
 (K i x)
 (AB prog 104 [v0] (fun o w2=>
 AB prog 147 [o,v1,v2,(.slice none 0 0)] (fun _t19 y=>
 K (.int .i64 0) y) w2) x)) w):AB prog 87 [v0,v1,v2] K w:=cO (aN (aO (aN (aN (aO aE .nil))) (aN aE))) func87 h (by kernel_rfl)
theorem bB(h: AB prog 94 [v0,v1,v2] (fun i x=>
 Dm .i64 i (.int .i64 0) fun j=>
 AD j
 (K i x)
 (AB prog 89 [v0] (fun o w2=>
 AB prog 150 [o,v1,v2,(.slice none 0 0)] (fun _t19 y=>
 K (.int .i64 0) y) w2) x)) w):AB prog 88 [v0,v1,v2] K w:=cO (aN (aO (aN (aN (aO aE .nil))) (aN aE))) func88 h (by kernel_rfl)
theorem Zi(h: Ar (fun _vs I=>∀_:Env,
 AJ v0 fun i=>
 AM 0 i fun j=>
 AK j (fun o w2=>
 K o w2) I) (fun J=>
 AJ v0 fun t4=>
 AM 0 t4 fun t5=>
 AK t5 (fun O E=>
 CX O fun Q=>
 AD (.bool Q)
 (Ae [(0,1),(1,1),(2,1)] [.nilFunc,.nilFunc,.nilFunc] [(0,(.func (.func 158) #[] #[])),(1,(.func (.func 161) #[] #[])),(2,(.func (.func 163) #[] #[]))] fun t9=>
 AB prog 157 [t9] (fun x w4=>
 AJ v0 fun y=>
 AM 0 y fun B=>
 BD B x (fun S=>
 J [] S) w4) E)
 (J [] E)) w)):AB prog 89 [v0] K w:=cO (aN (.cut [] [(3,12)] (aN aE) aE)) func89 h (by kernel_rfl)
theorem ah(h: BZ 162 v0 (fun o x=>
 Ac 33 o (fun y w2=>
 AB prog 93 [y,v1] (fun i B=>
 AO 0 i fun j=>
 AO 1 i fun _t12=>
 K j B) w2) x) w):AB prog 92 [v0,v1] K w:=cO (aN (aN aE)) func92 h (by kernel_rfl)
theorem ZD(h: BZ 162 v0 (fun Q T=>
 AM 32 Q fun U=>
 AK U (fun V w2=>
 Ay [v1,(.int .i64 0)] (fun vs i S=>∀_:Env,
 Be .i64 (nth vs 1) V fun o=>
 AD o
 (AM 0 Q fun x=>
 runK prog (Instr.indexAt 160 x (nth vs 1)) (fun y w4=>
 AK y (fun B E=>
 Dm .i32 B (.int .i32 10) fun I=>
 AD I
 (AX .i64 (nth vs 1) (.int .i64 1) fun t22=>
 i [(nth vs 0),t22] E)
 (DT .i64 (nth vs 0) (.int .i64 0) fun J=>
 AD J
 (K (.tuple #[(nth vs 1),(.bool true)]) E)
 (Ba .i64 (nth vs 0) (.int .i64 1) fun O=>
 AX .i64 (nth vs 1) (.int .i64 1) fun j=>
 i [O,j] E))) w4) S)
 (K (.tuple #[(.int .i64 0),(.bool false)]) S)) w2) T) w):AB prog 93 [v0,v1] K w:=cO (aN (aO (aN (.node [1,9] [(1,1),(4,6),(9,22)] (aN (aO aE (aO (aN (aO (aN aE) (aO (aN (aO aE .nil)) .nil))) .nil))) .nil)) aE)) func93 h (by kernel_rfl)
theorem Z7(h: CX v0 fun y=>
 AD (.bool y)
 (K (.int .i64 1) w)
 (Be .i64 v1 (.int .i64 0) fun i=>
 AD i
 (K (.int .i64 5) w)
 (EZ .i64 v1 v2 fun j=>
 AD j
 (K (.int .i64 5) w)
 (AB prog 54 [v0] (fun o x=>
 EZ .i64 v2 o fun t22=>
 AD t22
 (K (.int .i64 5) x)
 (K (.int .i64 0) x)) w)))):AB prog 94 [v0,v1,v2] K w:=cO (aN (aO (aN (aO aE (aN (aO aE .nil)))) aE)) func94 h (by kernel_rfl)
theorem au(h: BZ 162 v0 (fun i j=>
 AM 0 i fun t3=>
 AM 32 i fun t4=>
 AK t4 (fun t5 w2=>
 runK prog (Instr.sliceAt 160 t3 none (some t5) none) (fun o x=>
 AB prog 119 [o] (fun y w4=>
 K y w4) x) w2) j) w):AB prog 96 [v0] K w:=cO (aN aE) func96 h (by kernel_rfl)
theorem aH(h: CX v0 fun y=>
 AD (.bool y)
 (K (.int .i64 1) w)
 (Be .i64 v1 (.int .i64 0) fun i=>
 AD i
 (K (.int .i64 5) w)
 (EZ .i64 v1 v2 fun j=>
 AD j
 (K (.int .i64 5) w)
 (AB prog 111 [v0] (fun o x=>
 EZ .i64 v2 o fun t22=>
 AD t22
 (K (.int .i64 5) x)
 (K (.int .i64 0) x)) w)))):AB prog 97 [v0,v1,v2] K w:=cO (aN (aO (aN (aO aE (aN (aO aE .nil)))) aE)) func97 h (by kernel_rfl)
theorem Ze(h: Ar (fun _vs I=>∀_:Env,
 AJ v0 fun i=>
 AM 0 i fun j=>
 AK j (fun o w2=>
 K o w2) I) (fun J=>
 AJ v0 fun t4=>
 AM 0 t4 fun t5=>
 AK t5 (fun O E=>
 CX O fun Q=>
 AD (.bool Q)
 (Ae [(0,1),(1,1),(2,1)] [.nilFunc,.nilFunc,.nilFunc] [(0,(.func (.func 171) #[] #[])),(1,(.func (.func 172) #[] #[])),(2,(.func (.func 173) #[] #[]))] fun t9=>
 AB prog 170 [t9] (fun x w4=>
 AJ v0 fun y=>
 AM 0 y fun B=>
 BD B x (fun S=>
 J [] S) w4) E)
 (J [] E)) w)):AB prog 99 [v0] K w:=cO (aN (.cut [] [(3,12)] (aN aE) aE)) func99 h (by kernel_rfl)
theorem Wh(h: CX v0 fun y=>
 AD (.bool y)
 (K (.int .i64 1) w)
 (Be .i64 v1 (.int .i64 0) fun i=>
 AD i
 (K (.int .i64 5) w)
 (EZ .i64 v1 v2 fun j=>
 AD j
 (K (.int .i64 5) w)
 (AB prog 57 [v0] (fun o x=>
 EZ .i64 v2 o fun t22=>
 AD t22
 (K (.int .i64 5) x)
 (K (.int .i64 0) x)) w)))):AB prog 101 [v0,v1,v2] K w:=cO (aN (aO (aN (aO aE (aN (aO aE .nil)))) aE)) func101 h (by kernel_rfl)
theorem XF(h: AB prog 176 [v0] (fun j J=>
 Ak j fun O=>
 Ay [(.int .i64 0)] (fun vs i w2=>∀_:Env,
 Be .i64 (nth vs 0) O fun o=>
 AD o
 (Bf 1 j (nth vs 0) fun x=>
 AK x (fun y Q=>
 AB prog 52 [y] (fun B w4=>
 Bf 1 j (nth vs 0) fun E=>
 BD E B (fun S=>
 AX .i64 (nth vs 0) (.int .i64 1) fun I=>
 i [I] S) w4) Q) w2)
 (K j w2)) J) w):AB prog 102 [v0] K w:=cO (aN (aN (aO (aN (.node [9] [(4,4),(9,20)] (aN (aO aE (aO aE .nil))) .nil)) aE))) func102 h (by kernel_rfl)
theorem WD(h: Ar (fun _vs I=>∀_:Env,
 AJ v0 fun i=>
 AM 0 i fun j=>
 AK j (fun o w2=>
 K o w2) I) (fun J=>
 AJ v0 fun t4=>
 AM 0 t4 fun t5=>
 AK t5 (fun O E=>
 CX O fun Q=>
 AD (.bool Q)
 (Ae [(0,1),(1,1),(2,1)] [.nilFunc,.nilFunc,.nilFunc] [(0,(.func (.func 179) #[] #[])),(1,(.func (.func 180) #[] #[])),(2,(.func (.func 181) #[] #[]))] fun t9=>
 AB prog 178 [t9] (fun x w4=>
 AJ v0 fun y=>
 AM 0 y fun B=>
 BD B x (fun S=>
 J [] S) w4) E)
 (J [] E)) w)):AB prog 104 [v0] K w:=cO (aN (.cut [] [(3,12)] (aN aE) aE)) func104 h (by kernel_rfl)
theorem Ws(h: BZ 162 v0 (fun Q U=>
 Ju .i64 v1 (.int .i64 0) fun V=>
 AM 32 Q fun X=>
 AK X (fun t9 w2=>
 Jw .i64 V t9 fun o=>
 Ay [(.int .i64 0),(.int .i64 0)] (fun vs i S=>∀_:Env,
 Be .i64 (nth vs 1) o fun x=>
 AD x
 (AM 0 Q fun y=>
 runK prog (Instr.indexAt 160 y (nth vs 1)) (fun B w4=>
 AK B (fun E T=>
 DT .i32 E (.int .i32 10) fun I=>
 AD I
 (AX .i64 (nth vs 0) (.int .i64 1) fun J=>
 AX .i64 (nth vs 1) (.int .i64 1) fun O=>
 i [J,O] T)
 (AX .i64 (nth vs 1) (.int .i64 1) fun j=>
 i [(nth vs 0),j] T)) w4) S)
 (K (nth vs 0) S)) w2) U) w):AB prog 109 [v0,v1] K w:=cO (aN (aO (aN (.node [4,11] [(4,5),(11,21)] (aN (aO aE (aO (aN (aN aE)) .nil))) .nil)) aE)) func109 h (by kernel_rfl)
theorem WT(h: CX v0 fun i=>
 AD (.bool i)
 (K (.int .i64 0) w)
 (AB prog 99 [v0] (fun j o=>
 AB prog 184 [j] (fun x w2=>
 K x w2) o) w)):AB prog 111 [v0] K w:=cO (aN (aO (aN (aO aE .nil)) aE)) func111 h (by kernel_rfl)
theorem V9(h: AK v1 (fun t5 I=>
 Ak t5 fun J=>
 Ay [(.int .i64 0)] (fun vs i w2=>∀_:Env,
 Be .i64 (nth vs 0) J fun O=>
 AD O
 (Bf 2 t5 (nth vs 0) fun t9=>
 Ac 2 t9 (fun j Q=>
 Al 108 [(.int .i64 0),(.int .i64 0)] (fun t4 w4=>
 AZ 2 t4 j (fun S=>
 Ac 2 t4 (fun o T=>
 CP prog DF v0 [o] (fun x E=>
 Br x fun y=>
 AD y
 (K (.tuple #[]) E)
 (AX .i64 (nth vs 0) (.int .i64 1) fun B=>
 i [B] E)) T) S) w4) Q) w2)
 (K (.tuple #[]) w2)) I) w):AB prog 112 [v0,v1] K w:=cO (aN (.node [7] [(4,4),(7,15)] (aN (aO aE (aO (aN (aN aE)) .nil))) .nil)) func112 h (by kernel_rfl)
theorem Wt(h: Al 162 (zR [(.int .i64 0)]) (fun i X=>
 AB prog 224 [v0,(.func (.func 225) #[] #[])] (fun Y w2=>
 AD Y
 (Ae [(0,32),(32,1)] (zR [(.int .i64 0)]) [] fun Z=>
 AZ 33 i Z (fun w3=>
 Ac 33 i (fun r0 w4=>
 K (.tuple #[r0,(.int .i64 3)]) w4) w3) w2)
 (Ak v0 fun x=>
 EZ .i64 x (.int .i64 32) fun y=>
 AD y
 (Ae [(0,32),(32,1)] (zR [(.int .i64 0)]) [] fun B=>
 AZ 33 i B (fun w5=>
 Ac 33 i (fun j w6=>
 K (.tuple #[j,(.int .i64 8)]) w6) w5) w2)
 (Al 162 (zR [(.int .i64 0)]) (fun t4 w7=>
 AM 0 t4 fun E=>
 runK prog (Instr.sliceAt 160 E none none none) (fun I w8=>
 runK prog (Builtin.copy_ #[80,80] 3 [I,v0].toArray) (fun J w9=>
 AM 32 t4 fun O=>
 BD O J (fun Q=>
 Ac 33 t4 (fun S T=>
 AZ 33 i S (fun U=>
 Ac 33 i (fun o V=>
 K (.tuple #[o,(.int .i64 0)]) V) U) T) Q) w9) w8) w7) w2))) X) w):AB prog 149 [v0] K w:=cO (aN (aO (aN (aO aE (aN (aO aE .nil)))) (aN (aN aE)))) func149 h (by kernel_rfl)
theorem WW(h: CX v0 fun x=>
 AD (.bool x)
 (K (.int .i64 1) w)
 (AB prog 236 [v3,(.func (.func 237) #[] #[])] (fun y w1=>
 AD y
 (K (.int .i64 3) w1)
 (AB prog 97 [v0,v1,v2] (fun o w2=>
 Dm .i64 o (.int .i64 0) fun t22=>
 AD t22
 (K o w2)
 (AB prog 111 [v0] (fun t25 w3=>
 Ba .i64 (.int .i64 536870912) t25 fun B=>
 AX .i64 B v2 fun E=>
 Ba .i64 E v1 fun I=>
 Ak v3 fun J=>
 Ay [I,(.int .i64 0)] (fun vs i w4=>∀_:Env,
 Be .i64 (nth vs 1) J fun O=>
 AD O
 (Bf 2 v3 (nth vs 1) fun Q=>
 Ac 2 Q (fun S w5=>
 Al 108 [(.int .i64 0),(.int .i64 0)] (fun j w6=>
 AZ 2 j S (fun w7=>
 AM 0 j fun T=>
 AK T (fun U w8=>
 EZ .i64 U (nth vs 0) fun V=>
 AD V
 (K (.int .i64 8) w8)
 (AM 0 j fun X=>
 AK X (fun Y w9=>
 Ba .i64 (nth vs 0) Y fun Z=>
 AX .i64 (nth vs 1) (.int .i64 1) fun t45=>
 i [Z,t45] w9) w8)) w7) w6) w5) w4)
 (AB prog 99 [v0] (fun a1 a6=>
 AB prog 238 [a1,v1,v2,v3] (fun _t51 a7=>
 K (.int .i64 0) a7) a6) w4)) w3) w2)) w1)) w)):AB prog 151 [v0,v1,v2,v3] K w:=cO (aN (aO (aN (aO aE .nil)) (aO (aN (aO aE .nil)) (aO (aN (aN (aO aE .nil))) (aN (aO (aN (.node [10,33] [(8,8),(10,10),(12,12),(33,45)] (aN (aO aE (aO (aN (aO (aN (aO aE .nil)) .nil)) .nil))) .nil)) (aN aE))))))) func151 h (by kernel_rfl)
theorem YD(h: BZ 162 v0 (fun j i=>
 Aw [1,3] [[],[0],[],[0,1,2],[0,1,2,3],[0,1,2,3,4]] i.drew (fun M o=>
 Dv (o 0) 33 j fun t4=>
 AB prog 159 [t4] (fun t5 w2=>
 Mod (M 1) i.drew w2/\
 Dv (o 2) 33 j fun y=>
 AB prog 160 [y] (fun B x=>
 Mod (M 3) w2 x/\
 K (.tuple #[t5,B]) x) w2) i.drew)) w):AB prog 158 [v0] K w:=cO (aN (aO (.dc [1,3] [[],[0],[],[0,1,2],(aR 4),(aR 5)] []) .nil)) func158 h (by kernel_rfl)
theorem Vw(h: BZ 162 v0 (fun i j=>
 AM 32 i fun t3=>
 AK t3 (fun t4 w2=>
 K t4 w2) j) w):AB prog 159 [v0] K w:=cO (aN aE) func159 h (by kernel_rfl)
theorem WY(h: BZ 162 v0 (fun i j=>
 Ac 33 i (fun t3 w2=>
 AM 32 i fun t4=>
 AK t4 (fun t5 o=>
 AB prog 109 [t3,t5] (fun x w4=>
 K x w4) o) w2) j) w):AB prog 160 [v0] K w:=cO (aN aE) func160 h (by kernel_rfl)
theorem V7(h: BZ 162 v0 (fun V X=>
 Al 162 (zR [(.int .i64 0)]) (fun t4 w2=>
 Al 162 (zR [(.int .i64 0)]) (fun t5 Y=>
 Ac 33 V (fun x w4=>
 AB prog 162 [x,v1] (fun i Z=>
 AO 0 i fun y=>
 AO 1 i fun B=>
 AO 2 i fun _t15=>
 Al 162 (zR [(.int .i64 0)]) (fun S w6=>
 Al 162 (zR [(.int .i64 0)]) (fun T w7=>
 AZ 33 S y (fun w8=>
 AZ 33 T B (fun E=>
 Aw [2,3] [[],[],[0],[0,1,2]] E.drew (fun M U=>
 Dv (U 0) 33 S fun I=>
 Dv (U 1) 33 T fun J=>
 AZ 33 t4 I (fun j=>
 Mod (M 2) E.drew j/\
 AZ 33 t5 J (fun o=>
 Mod (M 3) j o/\
 Ac 33 t4 (fun r0 O=>
 Ac 33 t5 (fun r1 Q=>
 K (.tuple #[r0,r1]) Q) O) o) j) E.drew)) w8) w7) w6) Z) w4) Y) w2) X) w):AB prog 161 [v0,v1] K w:=cO (aN (aN (aO (.dc [2,3] [[],[],[0],[0,1,2]] []) .nil))) func161 h (by kernel_rfl)
theorem YT(h: BZ 162 v0 (fun t2 w1=>
 Al 162 (zR [(.int .i64 0)]) (fun t4 w2=>
 Al 162 (zR [(.int .i64 0)]) (fun t5 w3=>
 Ar (fun _vs w4=>∀_:Env,
 Ar (fun _vs_1 w5=>∀_:Env,
 Ar (fun _vs_2 w6=>∀_:Env,
 Ac 33 t4 (fun bd w7=>
 Ac 33 t5 (fun bk w8=>
 AZ 33 t4 bd (fun w9=>
 AZ 33 t5 bk (fun bl=>
 Ac 33 t4 (fun r0 bp=>
 Ac 33 t5 (fun r1 bs=>
 K (.tuple #[r0,r1,(.int .i64 0)]) bs) bp) bl) w9) w8) w7) w6) (fun an=>
 Aw [1,6,7,9] [[],[0],[],[],[],[4],[2,3,4,5],[0,1,2,3,4,5,6],[0,1,2,3,4,5,6,7],[0,1,2,3,4,5,6,7,8]] w5.drew (fun M St=>
 AM 0 t5 fun av=>
 AM 0 t2 fun ax=>
 AM 32 t2 fun bx=>
 BC (St 5) bx fun ay=>
 (runK prog (Instr.sliceAt 160 av none none none) (fun t25 j=>
 Mod (M 1) w5.drew j/\
 runK prog (Instr.sliceAt 160 ax (some v1) (some ay) none) (fun c4 o=>
 Mod (M 6) j o/\
 runK prog (Builtin.copy_ #[80,80] 3 [t25,c4].toArray) (fun c6 x=>
 Mod (M 7) o x/\
 AM 32 t5 fun c7=>
 BD c7 c6 (fun b0=>
 Mod (M 9) x b0/\
 an [] b0) x) o) j) w5.drew)/\
 (runK prog (Instr.sliceAt 160 ax (some v1) (some ay) none) (fun y B=>
 Mod (M 6) w5.drew B/\
 runK prog (Instr.sliceAt 160 av none none none) (fun E I=>
 Mod (M 1) B I/\
 runK prog (Builtin.copy_ #[80,80] 3 [E,y].toArray) (fun O Q=>
 Mod (M 7) I Q/\
 AM 32 t5 fun S=>
 BD S O (fun b1=>
 Mod (M 9) Q b1/\
 an [] b1) Q) I) B) w5.drew)))) (fun b2=>
 Aw [1,4,5,7] [[],[0],[],[],[2,3],[0,1,2,3,4],[0,1,2,3,4,5],[0,1,2,3,4,5,6]] w4.drew (fun i _St_1=>
 AM 0 t4 fun b3=>
 AM 0 t2 fun b4=>
 (runK prog (Instr.sliceAt 160 b3 none none none) (fun c8 T=>
 Mod (i 1) w4.drew T/\
 runK prog (Instr.sliceAt 160 b4 none (some v1) none) (fun c9 U=>
 Mod (i 4) T U/\
 runK prog (Builtin.copy_ #[80,80] 3 [c8,c9].toArray) (fun t22 V=>
 Mod (i 5) U V/\
 AM 32 t4 fun ca=>
 BD ca t22 (fun b5=>
 Mod (i 7) V b5/\
 b2 [] b5) V) U) T) w4.drew)/\
 (runK prog (Instr.sliceAt 160 b4 none (some v1) none) (fun X Y=>
 Mod (i 4) w4.drew Y/\
 runK prog (Instr.sliceAt 160 b3 none none none) (fun Z a1=>
 Mod (i 1) Y a1/\
 runK prog (Builtin.copy_ #[80,80] 3 [Z,X].toArray) (fun a6 a7=>
 Mod (i 5) a1 a7/\
 AM 32 t4 fun a8=>
 BD a8 a6 (fun b6=>
 Mod (i 7) a7 b6/\
 b2 [] b6) a7) a1) Y) w4.drew)))) (fun J=>
 Be .i64 v1 (.int .i64 0) fun t8=>
 AD t8
 (Ac 33 t4 (fun cc cd=>
 Ac 33 t5 (fun ch cn=>
 AZ 33 t4 cc (fun cv=>
 AZ 33 t5 ch (fun cx=>
 Ac 33 t4 (fun b7 dk=>
 Ac 33 t5 (fun b8 dT=>
 K (.tuple #[b7,b8,(.int .i64 5)]) dT) dk) cx) cv) cn) cd) w3)
 (AM 32 t2 fun e1=>
 AK e1 (fun e2 b9=>
 EZ .i64 v1 e2 fun e3=>
 AD e3
 (Ac 33 t4 (fun ak e4=>
 Ac 33 t5 (fun al e5=>
 AZ 33 t4 ak (fun e6=>
 AZ 33 t5 al (fun e7=>
 Ac 33 t4 (fun ba e8=>
 Ac 33 t5 (fun bc e9=>
 K (.tuple #[ba,bc,(.int .i64 5)]) e9) e8) e7) e6) e5) e4) b9)
 (J [] b9)) w3))) w2) w1) w):AB prog 162 [v0,v1] K w:=cO (aN (.cut [] [(6,16)] (aN (aO aE .nil)) (.cut [] [(17,23)] (.dt [1,4,5,7] [[],[0],[],[],[2,3],(aR 5),(aR 6),(aR 7)] [[1,4,5]] (.op 0 (.op 2 (.op 3 (.br (.op 1 (.op 4 (.op 5 (.op 6 (.op 7 .nil))))) (.op 4 (.op 1 (.op 5 (.op 6 (.op 7 .nil)))))))))) (.cut [] [(24,32)] (.dt [1,6,7,9] [[],[0],[],[],[],[4],[2,3,4,5],(aR 7),(aR 8),(aR 9)] [[1,6,7]] (.op 0 (.op 2 (.op 3 (.op 4 (.op 5 (.br (.op 1 (.op 6 (.op 7 (.op 8 (.op 9 .nil))))) (.op 6 (.op 1 (.op 7 (.op 8 (.op 9 .nil)))))))))))) aE)))) func162 h (by kernel_rfl)
theorem YQ(h: BZ 162 v0 (fun O Q=>
 BZ 162 v1 (fun t3 w2=>
 Al 162 (zR [(.int .i64 0)]) (fun t4 S=>
 Ac 33 O (fun t9 w4=>
 Ac 33 t3 (fun j T=>
 AB prog 164 [t9,j] (fun i U=>
 AO 0 i fun o=>
 AO 1 i fun x=>
 Al 162 (zR [(.int .i64 0)]) (fun J V=>
 AZ 33 J o (fun X=>
 Ac 33 J (fun y Y=>
 DT .i64 x (.int .i64 0) fun B=>
 AZ 33 t4 y (fun E=>
 Ac 33 t4 (fun Z I=>
 K (.tuple #[Z,B]) I) E) Y) X) V) U) T) w4) S) w2) Q) w):AB prog 163 [v0,v1] K w:=cO (aN (aN aE)) func163 h (by kernel_rfl)
theorem WB(h: BZ 162 v0 (fun j w1=>
 BZ 162 v1 (fun t3 w2=>
 Al 162 (zR [(.int .i64 0)]) (fun t4 w3=>
 AM 32 j fun t6=>
 AK t6 (fun t7 w4=>
 AM 32 t3 fun t8=>
 AK t8 (fun t9 w5=>
 AX .i64 t7 t9 fun ep=>
 EZ .i64 ep (.int .i64 32) fun er=>
 AD er
 (Ae [(0,32),(32,1)] (zR [(.int .i64 0)]) [] fun et=>
 AZ 33 t4 et (fun w6=>
 Ac 33 t4 (fun r0 w7=>
 K (.tuple #[r0,(.int .i64 8)]) w7) w6) w5)
 (Ar (fun _vs Y=>∀_:Env,
 Ar (fun _vs_1 w9=>∀_:Env,
 Ac 33 j (fun eu ew=>
 AZ 33 t4 eu (fun ey=>
 Ac 33 t4 (fun e9 ez=>
 K (.tuple #[e9,(.int .i64 0)]) ez) ey) ew) w9) (fun i=>
 Aw [1,5,9,10,13] [[],[0],[],[],[3],[2,3,4],[],[],[7],[6,7,8],[2,3,4,5,6,7,8,9],[0,1,2,3,4,5,6,7,8,9,10],[0,1,2,3,4,5,6,7,8,9,10,11],[0,1,2,3,4,5,6,7,8,9,10,11,12]] Y.drew (fun M St=>
 AM 32 j fun o=>
 AM 0 j fun t25=>
 AM 32 j fun eA=>
 BC (St 4) eA fun B=>
 AM 0 t3 fun E=>
 AM 32 t3 fun eB=>
 BC (St 8) eB fun I=>
 (AK o (fun ea O=>
 Mod (M 1) Y.drew O/\
 (runK prog (Instr.sliceAt 160 t25 (some B) none none) (fun eC Z=>
 Mod (M 5) O Z/\
 runK prog (Instr.sliceAt 160 E none (some I) none) (fun eG a1=>
 Mod (M 9) Z a1/\
 runK prog (Builtin.copy_ #[80,80] 3 [eC,eG].toArray) (fun eH a6=>
 Mod (M 10) a1 a6/\
 AX .i64 ea eH fun eI=>
 AM 32 j fun eJ=>
 BD eJ eI (fun ec=>
 Mod (M 13) a6 ec/\
 i [] ec) a6) a1) Z) O)/\
 (runK prog (Instr.sliceAt 160 E none (some I) none) (fun a7 a8=>
 Mod (M 9) O a8/\
 runK prog (Instr.sliceAt 160 t25 (some B) none none) (fun ak al=>
 Mod (M 5) a8 al/\
 runK prog (Builtin.copy_ #[80,80] 3 [ak,a7].toArray) (fun an av=>
 Mod (M 10) al av/\
 AX .i64 ea an fun ax=>
 AM 32 j fun ay=>
 BD ay ax (fun ed=>
 Mod (M 13) av ed/\
 i [] ed) av) al) a8) O)) Y.drew)/\
 ((runK prog (Instr.sliceAt 160 t25 (some B) none none) (fun x Q=>
 Mod (M 5) Y.drew Q/\
 (AK o (fun b0 b1=>
 Mod (M 1) Q b1/\
 runK prog (Instr.sliceAt 160 E none (some I) none) (fun b2 b3=>
 Mod (M 9) b1 b3/\
 runK prog (Builtin.copy_ #[80,80] 3 [x,b2].toArray) (fun b4 b5=>
 Mod (M 10) b3 b5/\
 AX .i64 b0 b4 fun b6=>
 AM 32 j fun b7=>
 BD b7 b6 (fun ee=>
 Mod (M 13) b5 ee/\
 i [] ee) b5) b3) b1) Q)/\
 (runK prog (Instr.sliceAt 160 E none (some I) none) (fun S T=>
 Mod (M 9) Q T/\
 (AK o (fun b8 b9=>
 Mod (M 1) T b9/\
 runK prog (Builtin.copy_ #[80,80] 3 [x,S].toArray) (fun ba bc=>
 Mod (M 10) b9 bc/\
 AX .i64 b8 ba fun bd=>
 AM 32 j fun bk=>
 BD bk bd (fun ef=>
 Mod (M 13) bc ef/\
 i [] ef) bc) b9) T)/\
 (runK prog (Builtin.copy_ #[80,80] 3 [x,S].toArray) (fun bl bp=>
 Mod (M 10) T bp/\
 AK o (fun bs bx=>
 Mod (M 1) bp bx/\
 AX .i64 bs bl fun c4=>
 AM 32 j fun c6=>
 BD c6 c4 (fun eg=>
 Mod (M 13) bx eg/\
 i [] eg) bx) bp) T)) Q)) Y.drew)/\
 (runK prog (Instr.sliceAt 160 E none (some I) none) (fun y U=>
 Mod (M 9) Y.drew U/\
 (AK o (fun c7 c8=>
 Mod (M 1) U c8/\
 runK prog (Instr.sliceAt 160 t25 (some B) none none) (fun c9 ca=>
 Mod (M 5) c8 ca/\
 runK prog (Builtin.copy_ #[80,80] 3 [c9,y].toArray) (fun cc cd=>
 Mod (M 10) ca cd/\
 AX .i64 c7 cc fun ch=>
 AM 32 j fun cn=>
 BD cn ch (fun eh=>
 Mod (M 13) cd eh/\
 i [] eh) cd) ca) c8) U)/\
 (runK prog (Instr.sliceAt 160 t25 (some B) none none) (fun V X=>
 Mod (M 5) U X/\
 (AK o (fun cv cx=>
 Mod (M 1) X cx/\
 runK prog (Builtin.copy_ #[80,80] 3 [V,y].toArray) (fun dk dT=>
 Mod (M 10) cx dT/\
 AX .i64 cv dk fun e1=>
 AM 32 j fun e2=>
 BD e2 e1 (fun ei=>
 Mod (M 13) dT ei/\
 i [] ei) dT) cx) X)/\
 (runK prog (Builtin.copy_ #[80,80] 3 [V,y].toArray) (fun e3 e4=>
 Mod (M 10) X e4/\
 AK o (fun e5 e6=>
 Mod (M 1) e4 e6/\
 AX .i64 e5 e3 fun e7=>
 AM 32 j fun e8=>
 BD e8 e7 (fun ej=>
 Mod (M 13) e6 ej/\
 i [] ej) e6) e4) X)) U)) Y.drew))))) (fun J=>
 AM 0 j fun eK=>
 Ac 32 eK (fun eL eM=>
 runK prog (Instr.build 160 [].toArray) (fun eN eO=>
 runK prog (BY .eql 160 (.tmp 14) (.tmp 15) eL eN) (fun eP ek=>
 AD eP
 (AM 32 j fun eQ=>
 AK eQ (fun eR en=>
 DT .i64 eR (.int .i64 0) fun eS=>
 AD eS
 (Ac 33 t3 (fun t22 eT=>
 AZ 33 t4 t22 (fun eU=>
 Ac 33 t4 (fun eo eV=>
 K (.tuple #[eo,(.int .i64 0)]) eV) eU) eT) en)
 (J [] en)) ek)
 (J [] ek)) eO) eM) w5))) w4) w3) w2) w1) w):AB prog 164 [v0,v1] K w:=cO (aN (aO (aN (aO aE .nil)) (.cut [] [(5,5),(13,22)] (aN (aO aE .nil)) (.cut [] [(23,35)] (.dt [1,5,9,10,13] [[],[0],[],[],[3],[2,3,4],[],[],[7],[6,7,8],[2,3,4,5,6,7,8,9],(aR 11),(aR 12),(aR 13)] [[1,5,9,10]] (.op 0 (.op 2 (.op 3 (.op 4 (.op 6 (.op 7 (.op 8 (.br (.op 1 (.br (.op 5 (.op 9 (.op 10 (.op 11 (.op 12 (.op 13 .nil)))))) (.op 9 (.op 5 (.op 10 (.op 11 (.op 12 (.op 13 .nil)))))))) (.br (.op 5 (.br (.op 1 (.op 9 (.op 10 (.op 11 (.op 12 (.op 13 .nil)))))) (.op 9 (.br (.op 1 (.op 10 (.op 11 (.op 12 (.op 13 .nil))))) (.op 10 (.op 1 (.op 11 (.op 12 (.op 13 .nil))))))))) (.op 9 (.br (.op 1 (.op 5 (.op 10 (.op 11 (.op 12 (.op 13 .nil)))))) (.op 5 (.br (.op 1 (.op 10 (.op 11 (.op 12 (.op 13 .nil))))) (.op 10 (.op 1 (.op 11 (.op 12 (.op 13 .nil))))))))))))))))))) aE)))) func164 h (by kernel_rfl)
theorem XV(h: BZ 108 v0 (fun i j=>
 AM 0 i fun t4=>
 AK t4 (fun t5 w2=>
 K (.tuple #[t5,(.int .i64 0)]) w2) j) w):AB prog 171 [v0] K w:=cO (aN aE) func171 h (by kernel_rfl)
theorem Vo(h: BZ 108 v0 (fun i Q=>
 Al 108 [(.int .i64 0),(.int .i64 0)] (fun t4 w2=>
 Al 108 [(.int .i64 0),(.int .i64 0)] (fun t5 j=>
 Aw [11,12] [[],[],[1],[0,1,2],[],[4],[],[4,5,6],[],[8],[4,5,6,7,8,9],[0,1,2,3],[0,1,2,3,4,5,6,7,8,9,10,11]] j.drew (fun M o=>
 AM 1 i fun S=>
 BC (o 2) S fun T=>
 Ae [(0,1),(1,1)] [(.int .i64 0),(.int .i64 0)] [(0,v1),(1,T)] fun t9=>
 AM 0 i fun x=>
 BC (o 5) x fun y=>
 Ba .i64 y v1 fun B=>
 AM 1 i fun E=>
 BC (o 9) E fun I=>
 Ae [(0,1),(1,1)] [(.int .i64 0),(.int .i64 0)] [(0,B),(1,I)] fun J=>
 AZ 2 t4 t9 (fun w4=>
 Mod (M 11) j.drew w4/\
 AZ 2 t5 J (fun O=>
 Mod (M 12) w4 O/\
 Ac 2 t4 (fun U V=>
 Ac 2 t5 (fun r1 X=>
 K (.tuple #[U,r1]) X) V) O) w4) j.drew)) w2) Q) w):AB prog 172 [v0,v1] K w:=cO (aN (aO (.dc [11,12] [[],[],[1],[0,1,2],[],[4],[],[4,5,6],[],[8],[4,5,6,7,8,9],(aR 4),(aR 12)] []) .nil)) func172 h (by kernel_rfl)
theorem Wg(h: BZ 108 v0 (fun j T=>
 BZ 108 v1 (fun t3 w2=>
 Al 108 [(.int .i64 0),(.int .i64 0)] (fun t4 o=>
 Aw [13] [[],[0],[],[2],[0,1,2,3],[],[5],[0,1,2,3,4,5,6],[],[8],[],[10],[8,9,10,11],[0,1,2,3,4,5,6,7],[0,1,2,3,4,5,6,7,8,9,10,11,12,13]] o.drew (fun M i=>
 AM 0 j fun U=>
 BC (i 1) U fun V=>
 AM 0 t3 fun X=>
 BC (i 3) X fun t9=>
 AX .i64 V t9 fun x=>
 AM 1 j fun y=>
 BC (i 6) y fun B=>
 Ae [(0,1),(1,1)] [(.int .i64 0),(.int .i64 0)] [(0,x),(1,B)] fun E=>
 AM 1 j fun I=>
 BC (i 9) I fun J=>
 AM 1 t3 fun O=>
 BC (i 11) O fun Q=>
 DT .i64 J Q fun S=>
 AZ 2 t4 E (fun w4=>
 Mod (M 13) o.drew w4/\
 Ac 2 t4 (fun Y Z=>
 K (.tuple #[Y,S]) Z) w4) o.drew)) w2) T) w):AB prog 173 [v0,v1] K w:=cO (aN (aO (.dc [13] [[],[0],[],[2],(aR 4),[],[5],(aR 7),[],[8],[],[10],[8,9,10,11],(aR 8),(aR 14)] []) .nil)) func173 h (by kernel_rfl)
theorem V4(h: K (.tuple #[(.int .i64 1),(.int .i64 0)]) w):AB prog 179 [v0] K w:=cO (aN aE) func179 h (by kernel_rfl)
theorem Wl(h: K (.tuple #[(.slice none 0 0),(.bool false)]) w):AB prog 181 [v0,v1] K w:=cO (aN aE) func181 h (by kernel_rfl)
theorem V0(h: AB prog 226 [v0] (fun t4 i=>
 Br t4 fun t5=>
 K t5 i) w):AB prog 225 [v0] K w:=cO (aN aE) func225 h (by kernel_rfl)
theorem Xv(h: KA .i32 v0 (.int .i32 0) fun t4=>
 AD t4
 (Qp .i32 v0 (.int .i32 1114111) fun o=>
 AD o
 (Be .i32 v0 (.int .i32 55296) fun i=>
 AD i
 (K (.bool true) w)
 (EZ .i32 v0 (.int .i32 57343) fun j=>
 K j w))
 (K (.bool false) w))
 (K (.bool false) w)):AB prog 226 [v0] K w:=cO (aN aE) func226 h (by kernel_rfl)
theorem WC(h: BZ 108 v0 (fun i j=>
 AM 0 i fun t3=>
 AK t3 (fun t4 w2=>
 Be .i64 t4 (.int .i64 0) fun t5=>
 AD t5
 (K (.bool true) w2)
 (AM 1 i fun o=>
 AK o (fun x y=>
 Be .i64 x (.int .i64 0) fun t9=>
 K t9 y) w2)) j) w):AB prog 237 [v0] K w:=cO (aN aE) func237 h (by kernel_rfl)
theorem Zf(h: AB prog 169 [(.slice none 0 0),v0] (fun t4 i=>
 K t4 i) w):AB prog 98 [v0] K w:=cO (aN aE) func98 h (by kernel_rfl)
theorem Xc(h: AB prog 177 [(.slice none 0 0),v0] (fun t4 i=>
 K t4 i) w):AB prog 103 [v0] K w:=cO (aN aE) func103 h (by kernel_rfl)
theorem Xo(h: FJ 101 v0 (fun i j=>
 Hy prog DF v1 1 (fun args o w2=>
 Al 108 [(.int .i64 0),(.int .i64 0)] (fun t5 w4=>
 AZ 2 t5 (nth args 0) (fun T=>
 o (fun post U=>
 AK i (fun V X=>
 Ac 2 t5 (fun t9 Y=>
 Bc 108 2 1 [(.int .i64 0),(.int .i64 0)] [(0,t9)] (fun x Z=>
 runK prog (Builtin.append_ #[101,101] 101 [V,x].toArray) (fun y w9=>
 BD i y (fun B=>
 post .normal B) w9) Z) Y) X) U) T) w4) w2) (bM (fun E=>
 AK i (fun I J=>
 E2 j.heap.size (fun O=>
 K I O) J) E) (fun Q=>
 E2 j.heap.size (fun S=>
 K (.slice none 0 0) S) Q) []) j) w):AB prog 169 [v0,v1] K w:=
 GC (P:=prog) (ok:=DF) (n:=13) (fn:=Tryz.f169) (c:=IB Tryz.f169) (rs:=[.tmp 4]) (an:=(aN (aO (aN aE) aE))) FM mixed func169 (by kernel_rfl) (by kernel_rfl) (by kernel_rfl) (by kernel_rfl) (Eq.mp (by kernel_rfl) h)
theorem Xq(h: FJ 50 v0 (fun i j=>
 Hy prog DF v1 1 (fun args o w2=>
 o (fun post O=>
 AK i (fun Q w4=>
 Bc 43 1 1 [(.slice none 0 0)] [(0,(nth args 0))] (fun x S=>
 runK prog (Builtin.append_ #[50,50] 50 [Q,x].toArray) (fun y T=>
 BD i y (fun U=>
 post .normal U) T) S) w4) O) w2) (bM (fun V=>
 AK i (fun B X=>
 E2 j.heap.size (fun E=>
 K B E) X) V) (fun I=>
 E2 j.heap.size (fun J=>
 K (.slice none 0 0) J) I) []) j) w):AB prog 177 [v0,v1] K w:=
 GC (P:=prog) (ok:=DF) (n:=13) (fn:=Tryz.f177) (c:=IB Tryz.f177) (rs:=[.tmp 4]) (an:=(aN (aO (aN aE) aE))) FM mixed func177 (by kernel_rfl) (by kernel_rfl) (by kernel_rfl) (by kernel_rfl) (Eq.mp (by kernel_rfl) h)
theorem Wi(h: G5 v0 fun i=>
 AD (.bool i)
 (K (.slice none 0 0) w)
 (Bc 43 1 0 [] [] (fun t5 j=>
 runK prog (Builtin.append_ #[50,50] 50 [t5,v0].toArray) (fun o w2=>
 K o w2) j) w)):AB prog 176 [v0] K w:=cO (aN (aO (aN (aO aE .nil)) aE)) func176 h (by kernel_rfl)
theorem YH(h: FJ 80 v0 (fun j o=>
 FJ 3 v1 (fun t3 w2=>
 AK t3 (fun t5 i=>
 Be .i64 t5 (.int .i64 1) fun x=>
 AD x
 (runK prog (Instr.makeInterface 9 (.string (ByteArray.mk #[99,97,110,110,111,116,32,98,101,32,108,101,115,115,32,116,104,97,110,32,49]))) (fun _t7 w4=>
 False) i)
 (K (.func (.func 223) #[] #[j,t3]) i)) w2) o) w):AB prog 148 [v0,v1] K w:=cO (aN (aO (aN aE) aE)) func148 h (by kernel_rfl)
theorem WA(h: Ay [(.int .i64 0)] (fun vs i Z=>∀_:Env,
 AK v1 (fun t7 w2=>
 Ak t7 fun t8=>
 Be .i64 (nth vs 0) t8 fun t9=>
 AD t9
 (Aw [3] [[],[],[],[1,2],[1,2,3],[0,1,2,3,4],[0,1,2,3,4,5]] w2.drew (fun M V=>
 BC (V 0) v2 fun o=>
 BC (V 1) v1 fun x=>
 runK prog (Instr.sliceAt 80 x (some (nth vs 0)) none none) (fun y X=>
 Mod (M 3) w2.drew X/\
 Ak y fun B=>
 Jw .i64 o B fun j=>
 AK v1 (fun E w4=>
 AX .i64 (nth vs 0) j fun I=>
 AX .i64 (nth vs 0) j fun J=>
 runK prog (Instr.sliceAt 80 E (some (nth vs 0)) (some I) (some J)) (fun O w5=>
 CP prog DF v0 [O] (fun Q Y=>
 Br Q fun S=>
 AD S
 (K (.tuple #[]) Y)
 (AK v2 (fun T w7=>
 AX .i64 (nth vs 0) T fun U=>
 i [U] w7) Y)) w5) w4) X) w2.drew))
 (K (.tuple #[]) w2)) Z) w):AB prog 223 [v0,v1,v2] K w:=cO (aN (.node [4] [(4,30)] (aO (aN aE) (aO (aO (.dc [3] [[],[],[],[1,2],[1,2,3],(aR 5),(aR 6)] []) (aN aE)) .nil)) .nil)) func223 h (by kernel_rfl)
theorem Vq(h: AB prog 270 [v0,v1] (fun i j=>
 KA .i64 i (.int .i64 0) fun o=>
 K o j) w):AB prog 236 [v0,v1] K w:=cO (aN aE) func236 h (by kernel_rfl)
theorem Xp(h: Ak v0 fun I=>
 Ay [(.int .i64 0)] (fun vs i B=>∀_:Env,
 Be .i64 (nth vs 0) I fun t9=>
 AD t9
 (Bf 2 v0 (nth vs 0) fun j=>
 Ac 2 j (fun o w2=>
 CP prog DF v1 [o] (fun x E=>
 AD x
 (K (nth vs 0) E)
 (AX .i64 (nth vs 0) (.int .i64 1) fun y=>
 i [y] E)) w2) B)
 (K (.int .i64 (-1)) B)) w):AB prog 270 [v0,v1] K w:=cO (aN (aO (aN (.node [8] [(4,5),(8,18)] (aN (aO aE (aO (aN (aN (aO aE .nil))) .nil))) .nil)) aE)) func270 h (by kernel_rfl)
end Go.Proofs.YtmdhibffnkhcnaaGreatDoor
namespace Go.K
open Go
theorem bn(b i j:Nat):(⟨b,i,none⟩:Addr).add j=⟨b,i+j,none⟩:=by rw[<-AI b i,Addr.add_add,AI]
theorem N0(b:Nat):∀(us:List Value) (p:Nat) (w:World),w.setCells b p us=Dw w ⟨b,0,none⟩ p us:=by
 intro us;induction us with
 |nil=>intro p w;rfl
 |cons v us i=>intro p w;rw[World.setCells,Dw,AI,i]
theorem Bx.copy{P:Program}{W:World}{b o I dc sl O:Nat}{a:Addr}{vs us:List Value}{J Q ty i:TypeId}{K:Cont}(hu:P.underlying J=some (.slice i))(U:(P.info? i).map (·.size)=some 1)
 (h:Bx W b vs)(V:us.length=min sl I)(S:us=[]\/o+us.length<=vs.length)(B:∀j v,us[j]?=some v->W.cell? (a.add j)=some v)(h1:∀v∈us,v.oneCell'=true)
 (T:∀W',Bx W' b (Hx vs o us)->Mod (fun x=>x=b) W W'->K (.int .i64 (us.length:Int)) W') :
  runK P (Builtin.copy_ #[J,Q] ty [Value.slice (some ⟨b,o,none⟩) I dc,.slice (some a) sl O].toArray) K W:=by
 have y:∀j,j<us.length->Live W ⟨b,o+j,none⟩:=fun j E=>by
  rcases S with e|e
  .subst e;exact(Nat.not_lt_zero _ E).elim
  .exact h.live _ (by omega)
 refine Ai (run_copy_cells W J Q ty i b o I dc a sl O us hu U V B (fun j E=>(y j E).1) (fun j E=>(y j E).2) h1) ?_;rw[N0];rcases S with e|e
 .subst e;exact T _ h (Mod.refl _ _)
 .have:=h.Dw us o W vs e;exact T _ this.1 this.2
end Go.K
namespace Go.Proofs.YtmdhibffnkhcnaaGreatDoor
open Go Go.K Proofs.Tryz
theorem Ut:prog.underlying 160=some (.array (prog.arrayLen 160) (prog.elem 160))/\prog.arrayLen 160=32/\prog.elem 160=21:=by
 have hu:=underlying160;have i:prog.arrayLen 160=32:=by simp[Program.arrayLen,hu]
 have j:prog.elem 160=21:=by simp[Program.elem,hu]
 exact⟨by rw[i,j];exact hu,i,j⟩
theorem Uz(w:World):(sizeOf 21).run prog w=.ok 1 w:=by
 simp only[sizeOf,Sem.run_bind,Tryz.typeInfo21,Result.andThen_ok,Sem.run_pure];rfl
theorem Yq{b i:Nat}{K:Cont}{W:World}(h:i<32)(j:K (.pointer (some ⟨b,i,none⟩)) W):runK prog (Instr.indexAt 160 (.pointer (some ⟨b,0,none⟩)) (.int .i64 (i:Int))) K W:=by
 obtain⟨ht,o,x⟩:=Ut;refine Ai ?_ j;rw[run_indexAt_array W _ _ _ _ ht,if_pos ⟨by omega,by rw[o];omega⟩,x,Uz,Result.andThen_ok,Int.toNat_natCast,Nat.mul_one,AI]
theorem LK{b:Nat}{K:Cont}{W:World}(i:K (.slice (some ⟨b,0,none⟩) 32 32) W):runK prog (Instr.sliceAt 160 (.pointer (some ⟨b,0,none⟩)) none none none) K W:=by
 obtain⟨ht,j,o⟩:=Ut;refine Ai ?_ i;rw[run_sliceAt_array_all W _ _ ht,o,Uz,Result.andThen_ok,j];simp[slicedAt,AI]
theorem X7{b h:Nat}{K:Cont}{W:World}(x:h<=32)(j:K (.slice (some ⟨b,0,none⟩) h 32) W):runK prog (Instr.sliceAt 160 (.pointer (some ⟨b,0,none⟩)) none (some (.int .i64 (h:Int))) none) K W:=by
 obtain⟨ht,i,o⟩:=Ut;refine Ai ?_ j;rw[run_sliceAt_array_h W _ _ ht _ _ (by omega) (by rw[i];omega),o,Uz,Result.andThen_ok,i];simp[slicedAt,AI]
theorem dH{b l:Nat}{K:Cont}{W:World}(hl:l<=32)(j:K (.slice (some ⟨b,if 32=l then 0 else l,none⟩) (32-l) (32-l)) W):runK prog (Instr.sliceAt 160 (.pointer (some ⟨b,0,none⟩)) (some (.int .i64 (l:Int))) none none) K W:=by
 obtain⟨ht,i,o⟩:=Ut;refine Ai ?_ j;rw[run_sliceAt_array_l W _ _ ht _ _ (by omega) (by rw[i];omega),o,Uz,Result.andThen_ok,i];simp only[slicedAt,Int.toNat_natCast,Nat.mul_one,AI];by_cases e:32=l
 .rw[if_pos e,if_pos e]
 .rw[if_neg e,if_neg e]
theorem Yn{b l h:Nat}{K:Cont}{W:World}(hl:l<=h)(x:h<=32)(j:K (.slice (some ⟨b,if 32=l then 0 else l,none⟩) (h-l) (32-l)) W):runK prog (Instr.sliceAt 160 (.pointer (some ⟨b,0,none⟩)) (some (.int .i64 (l:Int))) (some (.int .i64 (h:Int))) none) K W:=by
 obtain⟨ht,i,o⟩:=Ut;refine Ai ?_ j;rw[run_sliceAt_array_lh W _ _ ht _ _ _ _ (by omega) (by omega) (by rw[i];omega),o,Uz,Result.andThen_ok,i];simp only[slicedAt,Int.toNat_natCast,Nat.mul_one,AI];by_cases e:32=l
 .rw[if_pos e,if_pos e]
 .rw[if_neg e,if_neg e]
theorem Ml{P:Program}{e d:Nat}{k:IntKind}(he:P.plainKey e=true)(hu:P.underlying e=some (.int k)){xs o:Array Value}{w:World}:∀is:List Nat,(∀i∈is,∃a b,xs[i*1]?=some (.int k a)/\o[i*1]?=some (.int k b))->
  ∃r,(Op.eqItems (d+1) e 1 xs o is).run P w=.ok r w:=by
 intro is;induction is with
 |nil=>intro _;exact⟨true,by simp[Op.eqItems]⟩
 |cons i is x=>
  intro h;obtain⟨a,b,h1,y⟩:=h i (by simp);obtain⟨r,hr⟩:=x fun j B=>h j (by simp[B]);simp only[Op.eqItems,Sem.run_bind,run_part_plain w he h1,run_part_plain w he y,run_equalIn_int w d e k k a b hu,Result.andThen_ok];cases a==b
  .exact⟨false,by simp⟩
  .exact⟨r,by simpa using hr⟩
theorem bu{xo yo:Operand}{xs o:List Int}(y:xs.length=32)(B:o.length=32){K:Cont}{W:World}(E:∀r:Bool,K (.bool r) W) :
  runK prog (BY .eql 160 xo yo (.agg (xs.map (Value.int .i32)).toArray) (.agg (o.map (Value.int .i32)).toArray)) K W:=by
 have hu:=underlying21;have hp:prog.plainKey 21=true:=by simp[Program.plainKey,hu]
 have hc:prog.cellsOf 21=1:=by kernel_rfl
 obtain⟨i,I⟩:∃i,prog.info? 21=some i:=⟨Tryz.t21,by kernel_rfl⟩;have key:∃r,(Op.equalIn 10000 160 (.agg (xs.map (Value.int .i32)).toArray) (.agg (o.map (Value.int .i32)).toArray)).run prog W=.ok r W:=by
  rw[run_equalIn_array W 9999 _ _ underlying160 I,hc];refine Ml (d:=9998) hp hu _ fun j J=>?_;have x:=List.mem_range.1 J;exact⟨xs[j]'(by omega),o[j]'(by omega),by simp[y,x],by simp[B,x]⟩
 obtain⟨r,hr⟩:=key;refine Ai (v:=.bool r) (w':=W) ?_ (E r);have O:prog.eqGuardType prog.depth 160=false:=by kernel_rfl
 have Q:(eqGuard .eql 160 xo yo (.agg (xs.map (Value.int .i32)).toArray) (.agg (o.map (Value.int .i32)).toArray)).run prog W=.ok () W:=by
  simp[eqGuard,O]
 simp only[BY,Sem.run_bind,Q,Result.andThen_ok];rw[run_eql_struct,hr];rfl
structure Ck where
 l:List Int
 le:l.length<=32
namespace Ck
def nil:Ck:=⟨[],by simp⟩
def tk(c:Ck)(i:Nat):Ck:=⟨c.l.take i,by have:=c.le;simp only[List.length_take];omega⟩
def dp(c:Ck)(i:Nat):Ck:=⟨c.l.drop i,by have:=c.le;simp only[List.length_drop];omega⟩
def jn(a b:Ck):Ck:=if h:a.l.length+b.l.length<=32 then⟨a.l++b.l,by simpa using h⟩ else nil
def all(c:Ck):List Int:=c.l++List.replicate (32-c.l.length) 0
def cells(c:Ck):List Value:=c.all.map (Value.int .i32)++[.int .i64 (c.l.length:Int)]
theorem Ip(c:Ck):c.all.length=32:=by have:=c.le;simp[all];omega
theorem len(c:Ck):c.cells.length=33:=by simp[cells,c.Ip]
theorem one(c:Ck):∀u∈c.cells,u.oneCell'=true:=fun u hu=>by
 simp only[cells,List.mem_append,List.mem_map,List.mem_singleton] at hu;rcases hu with⟨_,_,rfl⟩|rfl<;>rfl
theorem n(c:Ck):c.cells[32]?=some (.int .i64 (c.l.length:Int)):=by
 rw[cells,List.getElem?_append_right (by rw[List.length_map,c.Ip];exact Nat.le_refl _),List.length_map,c.Ip];rfl
theorem bq(c:Ck){j:Nat}{u:Value}(h:(c.all.map (Value.int .i32))[j]?=some u):c.cells[j]?=some u:=by
 rw[cells,List.getElem?_append_left (List.getElem?_eq_some_iff.1 h).1];exact h
theorem get(c:Ck){j:Nat}(h:j<c.l.length):c.cells[j]?=some (.int .i32 c.l[j]):=by
 refine c.bq ?_;rw[List.getElem?_map,all,List.getElem?_append_left h,List.getElem?_eq_getElem h];rfl
theorem fill(c:Ck){us:List Int}(h:c.l.length+us.length<=32):(Hx c.cells c.l.length (us.map (Value.int .i32))).set 32 (.int .i64 ((c.l.length+us.length:Nat):Int))=cells ⟨c.l++us,by simpa using h⟩:=by
 have e0:c.cells=c.l.map (Value.int .i32)++(List.replicate (32-c.l.length) (Value.int .i32 0)++[.int .i64 (c.l.length:Int)]):=by
  simp[cells,all]
 have i:c.cells.take c.l.length=c.l.map (Value.int .i32):=by rw[e0,List.take_left' (by simp)]
 have j:c.cells.drop (c.l.length+us.length)=List.replicate (32-c.l.length-us.length) (Value.int .i32 0)++[.int .i64 (c.l.length:Int)]:=by
  rw[e0,<-List.drop_drop,List.drop_left' (by simp),List.drop_append_of_le_length (by simp;omega),List.drop_replicate]
 rw[K9 _ _ _ (by rw[c.len];simp;omega),i,List.length_map,j,<-List.append_assoc,List.set_append_right _ _ (by simp;omega)];have o:32-(c.l.map (Value.int .i32)++us.map (Value.int .i32)++List.replicate (32-c.l.length-us.length) (Value.int .i32 0)).length=0:=by simp;omega
 rw[o];simp[cells,all,Nat.sub_sub]
theorem UQ{us:List Int}(h:us.length<=32):(Hx nil.cells 0 (us.map (Value.int .i32))).set 32 (.int .i64 (us.length:Int))=cells ⟨us,h⟩:=by
 have:=fill nil (us:=us) (by simpa[nil] using h);simp only[nil,List.length_nil,Nat.zero_add,List.nil_append] at this;exact this
end Ck
abbrev BW(l:List Int):Nat:=l.count 10
theorem bD{w:World}(c:Ck):AB prog 159 [.agg c.cells.toArray] (fun v w'=>v=.int .i64 (c.l.length:Int)/\Grow w w') w:=by
 apply Vw;refine Bx.box fun b j hb i B=>?_;rw[AG,AI];exact AL (B.cells 32 _ c.n) ⟨rfl,i⟩
theorem OV{w:World}(c:Ck)(i:Nat):AB prog 109 [.agg c.cells.toArray,.int .i64 (i:Int)] (fun v w'=>v=.int .i64 (BW (c.l.take i):Int)/\Grow w w') w:=by
 apply Ws;refine Bx.box fun b E hb I B=>?_;rw[Gq,AG,AI];refine AL (B.cells 32 _ c.n) ?_;have J:=c.le;have e:∀{k:Value->Prop},k (.int .i64 ((min i c.l.length:Nat):Int))->Jw .i64 (.int .i64 (if(0:Int)>(i:Int) then 0 else(i:Int))) (.int .i64 (c.l.length:Int)) k:=fun{k} h=>by
  rw[if_neg (by omega),Gi];have:(if(c.l.length:Int)<(i:Int) then(c.l.length:Int) else(i:Int))=((min i c.l.length:Nat):Int):=by split<;>omega
  rw[this];exact h
 refine e ?_;refine Af (fun vs W=>∃k:Nat,k<=min i c.l.length/\vs=[.int .i64 (BW (c.l.take k):Int),.int .i64 k]/\W=E) (fun vs _=>32-EF vs 1) ⟨0,Nat.zero_le _,rfl,rfl⟩ ?_;rintro vs _ ⟨k,hk,rfl,rfl⟩ _;rename World=>E
 simp only[GJ];refine Hq (fun O=>?_) fun Q=>?_
 .have j:k<c.l.length:=by omega
  rw[AG,AI];refine Yq (by omega) (AL (B.cells k _ (c.get j)) ?_);rw[Am];have et:c.l.take (k+1)=c.l.take k++[c.l[k]]:=by rw[List.take_add_one];simp[j]
  have hb:BW (c.l.take k)<=32:=Nat.le_trans List.count_le_length (by rw[List.length_take];omega);refine AE (fun o=>?_) fun o=>?_
  .have x:BW (c.l.take (k+1))=BW (c.l.take k)+1:=by rw[et,BW,List.count_append,o];simp
   rw[AR,wrap64 (by omega) (by omega),AR,wrap64 (by omega) (by omega)];refine⟨⟨k+1,by omega,?_,rfl⟩,by rw[BJ,BJ];omega⟩;rw[x];rfl
  .have x:BW (c.l.take (k+1))=BW (c.l.take k):=by
    have:¬c.l[k]=(10:Int):=o;rw[et,BW,List.count_append];simp[this]
   rw[AR,wrap64 (by omega) (by omega)];refine⟨⟨k+1,by omega,?_,rfl⟩,by rw[BJ,BJ];omega⟩;rw[x];rfl
 .have y:k=min i c.l.length:=by omega
  subst y;refine⟨?_,I⟩;rw[show c.l.take (min i c.l.length)=c.l.take i by
   rcases Nat.le_total i c.l.length with h|h
   .rw[Nat.min_eq_left h]
   .rw[Nat.min_eq_right h,List.take_length,List.take_of_length_le h]]
theorem Om{w:World}(c:Ck):AB prog 160 [.agg c.cells.toArray] (fun v w'=>v=.int .i64 (BW c.l:Int)/\Grow w w') w:=by
 apply WY;refine Bx.box fun b o hb i B=>?_;refine B.Er c.len ?_;refine Bm (B.cells 32 _ c.n) ?_;refine AA (OV c c.l.length) ?_;rintro _ w2 ⟨rfl,j⟩;exact⟨by rw[List.take_length],i.trans j⟩
def GY:List Int->Nat->Option Nat
 |[],_=>none
 |r::t,k=>if r=10 then(match k with | 0=>some 0 | k+1=>(GY t k).map (·+1)) else(GY t k).map (·+1)
theorem GD(r:Int)(t:List Int)(k:Nat):GY (r::t) k=if r=10 then(match k with|0=>some 0|k+1=>(GY t k).map (·+1)) else(GY t k).map (·+1):=by cases k<;>rfl
def da:Option Nat->Value
 |some i=>.tuple #[.int .i64 (i:Int),.bool true]
 |none=>.tuple #[.int .i64 0,.bool false]
theorem NV{w:World}(c:Ck){k:Nat}(hk:k<=1099511627776):AB prog 93 [.agg c.cells.toArray,.int .i64 (k:Int)] (fun v w'=>v=da (GY c.l k)/\Grow w w') w:=by
 apply ZD;refine Bx.box fun b J hb O B=>?_;refine Bm (B.cells 32 _ c.n) ?_;have Q:=c.le;refine Af (fun vs W=>∃i m:Nat,i<=c.l.length/\m<=k/\vs=[.int .i64 m,.int .i64 i]/\GY c.l k=(GY (c.l.drop i) m).map (·+i)/\W=J) (fun vs _=>32-EF vs 1) ⟨0,k,Nat.zero_le _,Nat.le_refl _,rfl,by rw[List.drop_zero];cases GY c.l k<;>rfl,rfl⟩ ?_;rintro vs _ ⟨i,m,V,hm,rfl,j,rfl⟩ _;rename World=>J
 simp only[GJ];refine Hq (fun S=>?_) fun T=>?_
 .have x:i<c.l.length:=by omega
  rw[AG,AI];refine Yq (by omega) (AL (B.cells i _ (c.get x)) ?_);rw[Bg];rw[List.drop_eq_getElem_cons x,GD] at j;have E:∀o:Option Nat,(o.map (·+1)).map (·+i)=o.map (·+(i+1)):=fun o=>by cases o<;>simp;omega
  refine AY (fun I=>?_) fun I=>?_
  .have y:c.l[i]=(10:Int):=I;rw[if_pos y] at j;rw[Am];refine AE (fun h0=>?_) fun h0=>?_
   .obtain rfl:m=0:=by omega
    exact⟨by rw[j];simp[da],O⟩
   .obtain⟨m,rfl⟩:∃U,m=U+1:=⟨m-1,by omega⟩;simp only[E] at j;rw[A6,wrap64 (by omega) (by omega),AR,wrap64 (by omega) (by omega)];refine⟨⟨i+1,m,x,by omega,?_,j,rfl⟩,by rw[BJ,BJ];omega⟩;congr 2
    omega
  .have y:¬c.l[i]=(10:Int):=I;rw[if_neg y,E] at j;rw[AR,wrap64 (by omega) (by omega)];exact⟨⟨i+1,m,x,hm,rfl,j,rfl⟩,by rw[BJ,BJ];omega⟩
 .obtain rfl:i=c.l.length:=by omega
  rw[List.drop_length] at j;exact⟨by rw[j];rfl,O⟩
theorem VQ{w:World}(c:Ck):AB prog 96 [.agg c.cells.toArray] (fun v w'=>AF w.heap.size 21 1 CH w' v c.l/\Grow w w') w:=by
 apply au;refine Bx.box fun b T hb E B=>?_;have y:=c.le;rw[AG,AG,AI,AI];refine AL (B.cells 32 _ c.n) (X7 y ?_);refine AA (Rs (S:=fun _=>True) (l:=c.l) ⟨_,_,rfl,by omega,by simp[maxLen],fun i x I=>⟨_,[.int .i32 x],rfl,trivial,rfl,fun j u hu=>?_,rfl⟩⟩ (by omega)) ?_
 .obtain⟨J,rfl⟩:=List.getElem?_eq_some_iff.1 I;obtain⟨rfl,rfl⟩:j=0/\u=.int .i32 c.l[i]:=by
   cases j with
   |zero=>simp at hu;exact⟨rfl,hu.symm⟩
   |succ j=>simp at hu
  rw[AI];exact B.cells _ _ (by simpa using c.get J)
 rintro v w2 ⟨o,O⟩;have:=E.size;exact⟨AF.base o fun g Q=>by have:=(AF.BM o g Q).1;omega,E.trans O⟩
theorem VP{w:World}(c:Ck){i:Nat}(hi:i<=c.l.length):AB prog 162 [.agg c.cells.toArray,.int .i64 (i:Int)] (fun v w'=>v=.tuple #[.agg (c.tk i).cells.toArray,.agg (c.dp i).cells.toArray,.int .i64 0]/\Grow w w') w:=by
 apply YT;refine Bx.box fun b2 w1 a7 g1 B2=>?_;refine Bx.zero fun U w2 a8 Y B4=>?_;refine Bx.zero fun V Z ak X B5=>?_;have O:=c.le;have l2:=B2.lt (by rw[c.len];omega);have l4:=B4.lt (by decide);have l5:=B5.lt (by decide);have C2:=(B2.grow Y).grow X;have C4:Bx Z U Ck.nil.cells:=B4.grow X;have C5:Bx Z V Ck.nil.cells:=B5;have z1:=g1.size;have z2:=Y.size;have z3:=X.size;have a1:=(g1.trans Y).trans X;have hu:=underlying80;have hs:(prog.info? 21).map (·.size)=some 1:=by kernel_rfl
 have I:(c.l.take i).length=i:=by rw[List.length_take];omega
 have J:(c.l.drop i).length=c.l.length-i:=List.length_drop;have E:∀l:List Int,∀v∈l.map (Value.int .i32),v.oneCell'=true:=fun l v Q=>by
  obtain⟨_,_,rfl⟩:=List.mem_map.1 Q;rfl
 refine AU (fun _ W=>W=Z) ?_ ?_
 .rintro _ W rfl _;refine AU (fun _ W'=>Bx W' b2 c.cells/\Bx W' U (c.tk i).cells/\Bx W' V Ck.nil.cells/\Grow w W'/\W.heap.size<=W'.heap.size) ?_ ?_
  .rintro _ W1 ⟨D2,D4,D5,gW,zW⟩ _;refine AU (fun _ W'=>Bx W' U (c.tk i).cells/\Bx W' V (c.dp i).cells/\Grow w W') ?_ ?_
   .rintro _ W2 ⟨E4,E5,a6⟩ _;refine E4.Er (Ck.len _) (E5.Er (Ck.len _) ?_);refine E4.over (Ck.len _) (Ck.len _) (Ck.one _) fun W3 F4 o=>?_;refine(E5.mod o fun e=>by omega).over (Ck.len _) (Ck.len _) (Ck.one _) fun W4 F5 m4=>?_;refine(F4.mod m4 fun e=>by omega).Er (Ck.len _) (F5.Er (Ck.len _) ⟨rfl,?_⟩);exact(a6.next o fun y S e=>by omega).next m4 fun y S e=>by omega
   .have x:Grow W1 W1.drew:=Mod.drew _ _;have T:=D2.grow x;have H4:=D4.grow x;have H5:=D5.grow x;refine Ag (fun _ y=>y=V) ?_;rw[AG,AG,AG,AI,AI,AI];refine Aa ⟨T.cells 32 _ c.n,fun _ _ e=>by simp only at e;omega⟩ ?_;refine⟨LK ⟨Mod.refl _ _,Yn hi O ⟨Mod.refl _ _,?_⟩⟩,Yn hi O ⟨Mod.refl _ _,LK ⟨Mod.refl _ _,?_⟩⟩⟩ <;>
    .refine H5.copy hu hs (us:=(c.l.drop i).map (Value.int .i32)) (by rw[List.length_map,J];omega) (.inr (by rw[List.length_map,J,Ck.len];omega)) (fun j v Q=>?_) (E _) fun W2 I5 B=>?_
     .obtain⟨hj,rfl⟩:=List.getElem?_eq_some_iff.1 Q;rw[List.length_map,J] at hj;rw[if_neg (by omega),List.getElem_map,List.getElem_drop,bn];exact T.cells (i+j) _ (c.get (by omega))
     refine⟨B,?_⟩;rw[AG,AI];refine I5.st (q:=32) (by rw[J7,Ck.len];omega) rfl rfl fun W3 J5 o=>⟨o,?_⟩;rw[List.length_map] at J5;have e5:=Ck.UQ (us:=c.l.drop i) (by omega);rw[e5] at J5;refine⟨((D4.grow x).mod B fun e=>by omega).mod o fun e=>by omega,J5,?_⟩;exact(((gW.trans x).next B fun y S e=>by omega)).next o fun y S e=>by omega
  .have x:Grow W W.drew:=Mod.drew _ _;have T:=C2.grow x;have H4:=C4.grow x;have H5:=C5.grow x;refine Ag (fun _ y=>y=U) ?_;rw[AG,AG,AI,AI];refine⟨LK ⟨Mod.refl _ _,X7 (by omega) ⟨Mod.refl _ _,?_⟩⟩,X7 (by omega) ⟨Mod.refl _ _,LK ⟨Mod.refl _ _,?_⟩⟩⟩ <;>
   .refine H4.copy hu hs (us:=(c.l.take i).map (Value.int .i32)) (by rw[List.length_map,I];omega) (.inr (by rw[List.length_map,I,Ck.len];omega)) (fun j v Q=>?_) (E _) fun W2 I4 B=>?_
    .obtain⟨hj,rfl⟩:=List.getElem?_eq_some_iff.1 Q;rw[List.length_map,I] at hj;rw[AI,List.getElem_map,List.getElem_take];exact T.cells j _ (c.get (by omega))
    refine⟨B,?_⟩;rw[AG,AI];refine I4.st (q:=32) (by rw[J7,Ck.len];omega) rfl rfl fun W3 J4 o=>⟨o,?_⟩;rw[List.length_map] at J4;have e4:=Ck.UQ (us:=c.l.take i) (by omega);rw[e4] at J4;have zd:=x.size;have s2:=B.size;have s3:=o.size;refine⟨(T.mod B fun e=>by omega).mod o fun e=>by omega,J4,(H5.mod B fun e=>by omega).mod o fun e=>by omega,?_,by omega⟩;exact(((a1.trans x).next B fun y S e=>by omega)).next o fun y S e=>by omega
 .rw[Av];refine AE (fun e=>by omega) fun _=>?_;refine Bm (C2.cells 32 _ c.n) ?_;rw[BL];exact AE (fun e=>by omega) fun _=>rfl
end Go.Proofs.YtmdhibffnkhcnaaGreatDoor
namespace Go.Proofs.YtmdhibffnkhcnaaGreatDoor
open Go
structure Spn where
 n:Nat
 id:Int
 deriving DecidableEq
namespace Spn
def u(s:Spn):List Int:=List.replicate s.n s.id
def Gx:Option Int->List Spn->Prop
 |_,[]=>True
 |p,s::t=>0<s.n/\p≠some s.id/\Gx (some s.id) t
def rn(x:Int):Option Int->List Int->Nat
 |_,[]=>0
 |p,y::t=>(if y=x/\p≠some x then 1 else 0)+rn x (some y) t
def GQ(p:Option Int)(l:List Int):Option Int:=match l.getLast? with|some y=>some y|none=>p
theorem Pt(p:Option Int)(y:Int)(l:List Int):GQ p (y::l)=GQ (some y) l:=by
 unfold GQ;cases l with
 |nil=>rfl
 |cons z l=>rw[List.getLast?_cons_cons];cases h:(z::l).getLast? with
  |none=>simp at h
  |some q=>rfl
theorem KN(x:Int)(p:Option Int)(l m:List Int):rn x p (l++m)=rn x p l+rn x (GQ p l) m:=by
 induction l generalizing p with
 |nil=>simp[rn,GQ]
 |cons y l i=>rw[List.cons_append,rn,rn,i,Pt];omega
theorem Z6(x:Int)(p:Option Int)(n:Nat)(y:Int):rn x p (List.replicate (n+1) y)=if y=x/\p≠some x then 1 else 0:=by
 induction n generalizing p with
 |zero=>simp[rn]
 |succ n i=>
  rw[List.replicate_succ,rn,i];by_cases h:y=x
  .subst h;simp
  .simp[h]
theorem SQ(p:Option Int)(n:Nat)(y:Int):GQ p (List.replicate (n+1) y)=some y:=by
 unfold GQ;rw[List.getLast?_replicate];simp
theorem TI(x:Int)(p:Option Int)(l:List Spn)(h:Gx p l):l.countP (fun s=>decide (s.id=x))=rn x p (l.flatMap u):=by
 induction l generalizing p with
 |nil=>rfl
 |cons s l i=>
  obtain⟨h1,j,o⟩:=h;obtain⟨m,hm⟩:∃m,s.n=m+1:=⟨s.n-1,by omega⟩;rw[List.countP_cons,i _ o,List.flatMap_cons,KN,u,hm,Z6,SQ];by_cases h:s.id=x
  .subst h;simp[j];omega
  .simp[h]
def Ds(p:Option Int)(l:List Spn):Option Int:=match l.getLast? with|some s=>some s.id|none=>p
theorem OP(p:Option Int)(y:Spn)(l:List Spn):Ds p (y::l)=Ds (some y.id) l:=by
 unfold Ds;cases l with
 |nil=>rfl
 |cons z l=>rw[List.getLast?_cons_cons];cases h:(z::l).getLast? with
  |none=>simp at h
  |some q=>rfl
theorem Gt{p:Option Int}{l m:List Spn}:Gx p (l++m)↔Gx p l/\Gx (Ds p l) m:=by
 induction l generalizing p with
 |nil=>simp[Gx,Ds]
 |cons s l i=>rw[List.cons_append,Gx,Gx,i,OP];constructor<;>(rintro⟨h1,j⟩;simp_all)
theorem OM{p:Option Int}{l:List Spn}:Gx p l↔Gx none l/\∀s∈l.head?,p≠some s.id:=by
 cases l with
 |nil=>simp[Gx]
 |cons s l=>
  simp only[Gx,List.head?_cons,Option.mem_def,Option.some.injEq,forall_eq'];exact⟨fun⟨a,b,c⟩=>⟨⟨a,by simp,c⟩,b⟩,fun⟨⟨a,b,c⟩,d⟩=>⟨a,d,c⟩⟩
theorem Ku{p:Option Int}{l:List Spn}(h:Gx p l):Gx none l:=(OM.1 h).1
def kd:Kd Spn where
 μ:=fun s=>(s.n,0)
 cut:=fun s p=>(⟨p,s.id⟩,⟨s.n-p,s.id⟩)
 meld:=fun a b=>if a.id=b.id then some ⟨a.n+b.n,a.id⟩ else none
theorem Df:kd.Ei u where
 size:=fun s=>by simp[kd,u]
 cut1:=fun s p h0 h1=>by
  rw[u,List.length_replicate] at h1;simp only[kd,u,List.take_replicate,List.drop_replicate];exact⟨by rw[Nat.min_eq_left (by omega)],trivial⟩
 melds:=fun a b c h=>by
  simp only[kd] at h;split at h
  .rename_i e;cases h;simp only[u,e,List.replicate_append_replicate]
  .cases h
theorem JT{out:List Spn}(x:Spn)(h:Gx none out):Gx none (kd.CB out x)/\(∀y,out.head?=some y->∃z,(kd.CB out x).head?=some z/\z.id=y.id)/\(0<x.n->Ds none (kd.CB out x)=some x.id)/\(out=[]->0<x.n->(kd.CB out x).head?=some x)/\(x.n=0->kd.CB out x=out):=by
 unfold Kd.CB;rw[show(kd.μ x).1=x.n from rfl];by_cases h0:x.n=0
 .rw[if_pos h0];exact⟨h,fun y B=>⟨y,B,rfl⟩,fun h1=>by omega,fun _ h1=>by omega,fun _=>rfl⟩
 .rw[if_neg h0];rcases List.eq_nil_or_concat out with rfl|⟨o,y,rfl⟩
  .simp[Gx,Ds];omega
  .rw[List.concat_eq_append] at h ⊢;obtain⟨h1,j⟩:=Gt.1 h;simp only[List.getLast?_append,List.getLast?_singleton,Option.some_or,List.dropLast_concat];by_cases hm:y.id=x.id
   .rw[show kd.meld y x=some ⟨y.n+x.n,y.id⟩ by simp[kd,hm]];refine⟨Gt.2 ⟨h1,?_,j.2.1,trivial⟩,fun z i=>?_,fun _=>by simp[Ds,hm],fun e=>by simp at e,fun e=>(h0 e).elim⟩
    .have:=j.1;simp only;omega
    .cases o with
     |nil=>simp at i;subst i;exact⟨_,rfl,rfl⟩
     |cons w o=>exact⟨z,by simpa using i,rfl⟩
   .rw[show kd.meld y x=none by simp[kd,hm]];refine⟨Gt.2 ⟨h,by omega,by simp[Ds,hm],trivial⟩,fun z i=>⟨z,?_,rfl⟩,fun _=>by simp[Ds],fun e=>by simp at e,fun e=>(h0 e).elim⟩;rw[List.head?_append,i];rfl
theorem II(l:List Spn):∀out,Gx none out->Gx none (l.foldl kd.CB out)/\(∀y,out.head?=some y->∃z,(l.foldl kd.CB out).head?=some z/\z.id=y.id):=by
 induction l with
 |nil=>exact fun out h=>⟨h,fun y i=>⟨y,i,rfl⟩⟩
 |cons x l o=>
  intro out h;obtain⟨a,b,_⟩:=JT x h;obtain⟨c,d⟩:=o _ a;refine⟨c,fun y i=>?_⟩;obtain⟨z,B,e⟩:=b y i;obtain⟨E,j,e'⟩:=d z B;exact⟨E,j,e'.trans e⟩
theorem MM(l:List Spn)(at':Nat):∀p,Gx p l->Gx p (kd.split l at').1/\Gx none (kd.split l at').2:=by
 induction l generalizing at' with
 |nil=>intro p _;exact⟨trivial,trivial⟩
 |cons s l i=>
  intro p h;simp only[Kd.split];by_cases h0:at'=0
  .rw[if_pos h0];exact⟨trivial,Ku h⟩
  .rw[if_neg h0];obtain⟨a,b,c⟩:=h;by_cases h1:(kd.μ s).1<=at'
   .rw[if_pos h1];obtain⟨d,e⟩:=i (at'-(kd.μ s).1) _ c;exact⟨⟨a,b,d⟩,e⟩
   .rw[if_neg h1];simp only[kd] at h1;exact⟨⟨by simp only[kd];omega,b,trivial⟩,by simp only[kd];omega,by simp,c⟩
theorem Ot(y z:Option Spn)(l:List Spn)(j:∀s∈y,0<s.n)(o:∀s∈z,0<s.n) :
  (∀s∈y,∃t,(kd.melded (y.toList++l++z.toList)).head?=some t/\t.id=s.id)/\(∀s∈z,Ds none (kd.melded (y.toList++l++z.toList))=some s.id):=by
 constructor
 .intro s i;cases i;have:=j s rfl;unfold Kd.melded;simp only[Option.toList_some,List.cons_append,List.nil_append,List.foldl_cons];have hm:=JT s (out:=[]) trivial;obtain⟨x,h1,B⟩:=(II (l++z.toList) _ hm.1).2 s (hm.2.2.2.1 rfl this);exact⟨x,h1,B⟩
 .intro s i;cases i;have:=o s rfl;unfold Kd.melded;rw[Option.toList_some,List.foldl_append,List.foldl_cons,List.foldl_nil];exact(JT s (II _ [] trivial).1).2.2.1 this
theorem Hc{p:Option Int}{l:List Spn}(h:Gx p l):∀s∈l,0<s.n:=by
 induction l generalizing p with
 |nil=>intro s i;simp at i
 |cons x l j=>
  intro s i;rcases List.mem_cons.1 i with rfl|i
  .exact h.1
  .exact j h.2.2 s i
theorem Ux{a b M:List Spn}(ha:Gx none a)(hb:Gx none b)(hm:Gx none M)(I:∀s∈a.getLast?,∃t,M.head?=some t/\t.id=s.id)(J:∀s∈b.head?,Ds none M=some s.id):Gx none (a.dropLast++M++b.tail):=by
 rw[Gt,Gt];refine⟨⟨?_,?_⟩,?_⟩
 .rcases List.eq_nil_or_concat a with rfl|⟨o,y,rfl⟩
  .exact trivial
  .rw[List.concat_eq_append] at *;rw[List.dropLast_concat];exact(Gt.1 ha).1
 .rw[OM];refine⟨hm,fun s x=>?_⟩;rcases List.eq_nil_or_concat a with rfl|⟨o,y,rfl⟩
  .simp[Ds]
  .rw[List.concat_eq_append] at *;rw[List.dropLast_concat];obtain⟨q,B,j⟩:=I y (by simp);have:s=q:=by rw[Option.mem_def] at x;rw[x] at B;exact Option.some.inj B
   rw[this,j];exact(Gt.1 ha).2.2.1
 .cases b with
  |nil=>exact trivial
  |cons z b=>
   have i:=J z (by simp);have e:Ds none (a.dropLast++M)=some z.id:=by
    unfold Ds at i ⊢;rw[List.getLast?_append];cases E:M.getLast? with
    |some s=>rw[E] at i;exact i
    |none=>rw[E] at i;cases i
   rw[e];exact hb.2.2
theorem HQ{t:List Spn}(i j:Nat)(l:List Spn)(h:Gx none t):Gx none (kd.Bn t i j l):=by
 obtain⟨ha,o⟩:=MM t i _ h;obtain⟨_,hb⟩:=MM (kd.split t i).2 (j-i) _ o;obtain⟨y,B⟩:=Ot (kd.split t i).1.getLast? (kd.split (kd.split t i).2 (j-i)).2.head? l (fun s x=>Hc ha s (List.mem_of_getLast? x)) (fun s x=>Hc hb s (List.mem_of_head? x));exact Ux ha hb (II _ [] trivial).1 y B
theorem SB(x:Int)(P Q Q' R:List Int)(h1:P≠[]->Q.head?=Q'.head?/\Q≠[]/\Q'≠[])(o:R≠[]->Q.getLast?=Q'.getLast?/\Q≠[]/\Q'≠[]) :
  rn x none (P++Q++R)+rn x none Q'=rn x none (P++Q'++R)+rn x none Q:=by
 rw[KN,KN,KN x none (P++Q'),KN x none P Q'];have first:∀(p:Option Int) (Q Q':List Int),Q.head?=Q'.head?->Q≠[]->Q'≠[]->rn x p Q+rn x none Q'=rn x p Q'+rn x none Q:=by
  intro p Q Q' h y i;cases Q with
  |nil=>exact(y rfl).elim
  |cons a Q=>cases Q' with
   |nil=>exact(i rfl).elim
   |cons b Q'=>
    simp only[List.head?_cons,Option.some.injEq] at h;subst h;simp only[rn];omega
 have E:rn x (GQ none P) Q+rn x none Q'=rn x (GQ none P) Q'+rn x none Q:=by
  cases P with
  |nil=>simp only[GQ,List.getLast?_nil];omega
  |cons a P=>obtain⟨j,B,a3⟩:=h1 (by simp);exact first _ _ _ j B a3
 have I:rn x (GQ none (P++Q)) R=rn x (GQ none (P++Q')) R:=by
  cases R with
  |nil=>rfl
  |cons a R=>
   obtain⟨j,_⟩:=o (by simp);congr 1
   unfold GQ;rw[List.getLast?_append,List.getLast?_append,j]
 omega
end Spn
end Go.Proofs.YtmdhibffnkhcnaaGreatDoor
namespace Go.Proofs.YtmdhibffnkhcnaaGreatDoor
open Go Go.K Proofs.Tryz
def Spn.cells(s:Spn):List Value:=[.int .i64 (s.n:Int),.int .i64 s.id]
theorem Spn.one(q:Spn):∀u∈q.cells,u.oneCell'=true:=fun u hu=>by
 simp only[Spn.cells,List.mem_cons,List.not_mem_nil,or_false] at hu;rcases hu with rfl|rfl<;>rfl
theorem Nq{r t:List Value}{E:Nat}(h:r.length=E):(r++t).toArray.extract 0 E=r.toArray:=by
 subst h;simp
theorem Ro{w:World}(s:Spn):BF prog DF IN.vm [.agg s.cells.toArray] (fun v w'=>v=.tuple #[.int .i64 (s.n:Int),.int .i64 0]/\Grow w w') w:=by
 refine⟨_,[],[],rfl,by kernel_rfl,?_⟩;apply XV;refine Bx.box fun b j hb i B=>?_;rw[AG,AI];exact AL (B.cells 0 _ rfl) ⟨rfl,i⟩
theorem Tc{w:World}(s:Spn){p:Nat}(h0:0<p)(h1:p<s.n)(h2:s.n<=1099511627776):BF prog DF IN.vc [.agg s.cells.toArray,.int .i64 (p:Int)] (fun v w'=>v=.tuple #[.agg (Spn.cells ⟨p,s.id⟩).toArray,.agg (Spn.cells ⟨s.n-p,s.id⟩).toArray]/\Grow w w') w:=by
 refine⟨_,[],[],rfl,by kernel_rfl,?_⟩;apply Vo;refine Bx.box fun b2 w1 X Q S=>?_;refine Bx.zero fun Y w2 Z B T=>?_;refine Bx.zero fun b5 U a1 x V=>?_;have j:Grow U U.drew:=Mod.drew _ _;have i:=((S.grow B).grow x).grow j;have l2:=S.lt (Nat.succ_pos _);have l4:=T.lt (by decide);have l5:=V.lt (by decide);have z1:=Q.size;have z2:=B.size;have z3:=x.size;have zd:=j.size;refine Ag (fun _ y=>y=Y\/y=b5) ?_;rw[AG,AI];refine Aa ⟨i.cells 1 _ rfl,fun _ _ e=>by rcases e with e|e<;>simp only at e<;>omega⟩ ?_;refine⟨(Spn.cells ⟨p,s.id⟩).toArray,by kernel_rfl,?_⟩;show AM _ _ _;rw[AG,AI];refine Aa ⟨i.cells 0 _ rfl,fun _ _ e=>by rcases e with e|e<;>simp only at e<;>omega⟩ ?_;refine Fw (by omega) (by omega) ?_;rw[AG,AI];refine Aa ⟨i.cells 1 _ rfl,fun _ _ e=>by rcases e with e|e<;>simp only at e<;>omega⟩ ?_;refine⟨(Spn.cells ⟨s.n-p,s.id⟩).toArray,by kernel_rfl,?_⟩;have o:=Spn.one;refine((T.grow x).grow j).over rfl rfl (o _) fun w4 C4 E=>⟨E.mono fun _ _ e=>.inl e,?_⟩;have I:=(V.grow j).mod E fun e=>by omega
 refine I.over rfl rfl (o _) fun w5 C5 J=>⟨J.mono fun _ _ e=>.inr e,?_⟩;have O:=C4.mod J fun e=>by omega
 refine O.Er rfl (C5.Er rfl ⟨rfl,?_⟩);exact((((Q.trans B).trans x).trans j).next E fun y hy e=>by omega).next J fun y hy e=>by omega
theorem RU{w:World}(a b:Spn)(h1:a.n<=1099511627776)(h2:b.n<=1099511627776):BF prog DF IN.vd [.agg a.cells.toArray,.agg b.cells.toArray] (fun v w'=>Grow w w'/\v=.tuple #[.agg (Spn.cells ⟨a.n+b.n,a.id⟩).toArray,.bool (decide (a.id=b.id))]) w:=by
 refine⟨_,[],[],rfl,by kernel_rfl,?_⟩;apply Wg;refine Bx.box fun b2 w1 T I J=>?_;refine Bx.box fun b3 w2 U E O=>?_;refine Bx.zero fun V Q X B Y=>?_;have j:Grow Q Q.drew:=Mod.drew _ _;have i:=((J.grow E).grow B).grow j;have x:=(O.grow B).grow j;have l2:=J.lt (Nat.succ_pos _);have l3:=O.lt (Nat.succ_pos _);have z1:=I.size;have z2:=E.size;have z3:=B.size;have zd:=j.size;refine Ag (fun _ y=>y=V) ?_;rw[AG,AI];refine Aa ⟨i.cells 0 _ rfl,fun _ _ e=>by simp only at e;omega⟩ ?_;rw[AG,AI];refine Aa ⟨x.cells 0 _ rfl,fun _ _ e=>by simp only at e;omega⟩ ?_;refine Bw (by omega) ?_;rw[AG,AI];refine Aa ⟨i.cells 1 _ rfl,fun _ _ e=>by simp only at e;omega⟩ ?_;refine⟨(Spn.cells ⟨a.n+b.n,a.id⟩).toArray,by kernel_rfl,?_⟩;show AM _ _ _;rw[AG,AI];refine Aa ⟨i.cells 1 _ rfl,fun _ _ e=>by simp only at e;omega⟩ ?_;rw[AG,AI];refine Aa ⟨x.cells 1 _ rfl,fun _ _ e=>by simp only at e;omega⟩ ?_;rw[Am];have o:=Spn.one;refine(Y.grow j).over rfl rfl (o _) fun w4 Z S=>⟨S,?_⟩;refine Z.Er rfl ⟨?_,rfl⟩;exact(((I.trans E).trans B).trans j).next S fun y hy e=>by omega
def Cl:AvN Spn where
 toAvK:=IN
 k:=Spn.kd
 R:=fun _ _ r x=>r=x.cells
 pb:=64
 eb:=16
 pb_le:=by decide
 eb_le:=by decide
 Epos:=by decide
 E1:=fun h=>by cases h
 rlen:=fun h=>by subst h;rfl
 rone:=fun h=>by subst h;exact Spn.one _
 rcell:=fun h=>by subst h;rfl
 rheap:=fun h _=>h
 rsub:=fun h _=>h
 zlen:=rfl
 zone:=Spn.one ⟨0,0⟩
 elP:=⟨Tryz.t378,.agg #[.int .i64 0,.int .i64 0,.int .i64 0,.int .i64 0,.int .i64 0,.int .i64 0,.int .i64 0,.bool false],by kernel_rfl,by kernel_rfl,by kernel_rfl,by kernel_rfl,by kernel_rfl,by rfl,by decide⟩
 elE:=⟨Tryz.t108,.agg #[.int .i64 0,.int .i64 0],by kernel_rfl,by kernel_rfl,by kernel_rfl,by kernel_rfl,by kernel_rfl,by rfl,by decide⟩
 field0:=fun r t w hr _ ht=>by
  have e:(Instr.field 319 (.agg (r++t).toArray) 0).run prog w=.ok (.agg ((r++t).toArray.extract 0 2)) w:=by
   have hu:=underlying319;have o:=Tryz.isAgg108;have z:∀w,(sizeOf 108).run prog w=.ok 2 w:=fun w=>by simp only[sizeOf,Sem.run_bind,Tryz.typeInfo108,Result.andThen_ok,Sem.run_pure];rfl
   simp[Instr.field,run_underlying hu,part,o,z,asAgg]
  rw[Nq (E:=2) hr] at e;exact e
 ok:=Vn
 cutμ:=fun x p h0 h1=>⟨rfl,rfl,rfl⟩
 meldμ:=fun x y z h=>by
  simp only[Spn.kd] at h;split at h
  .cases h;exact⟨rfl,rfl⟩
  .cases h
 meas:=fun{C w r x} h=>by subst h;exact Ro x
 one0:=rfl
 okN:=T7
 cells:=Spn.cells
 Rc:=Iff.rfl
 cutc:=fun{w x p} h0 h1 j=>Tc x h0 h1 j
 meldc:=fun {w x y} _ h1 j=>As (RU x y h1 j) fun v w' h=>⟨h.1,Spn.cells ⟨x.n+y.n,x.id⟩,rfl,Spn.one _,by rw [h.2];by_cases e:x.id=y.id <;> simp [Spn.kd,e],fun z i=>by
  simp only[Spn.kd] at i;split at i
  .cases i;rfl
  .cases i⟩
theorem Nv(l:List Int):∀v∈l.map (Value.int .i32),v.oneCell'=true:=fun v i=>by
 obtain⟨_,_,rfl⟩:=List.mem_map.1 i;rfl
theorem XK{w:World}(a b:Ck):AB prog 164 [.agg a.cells.toArray,.agg b.cells.toArray] (fun v w'=>v=.tuple #[.agg (a.jn b).cells.toArray,.int .i64 (if a.l.length+b.l.length<=32 then 0 else 8)]/\Grow w w') w:=by
 apply WB;refine Bx.box fun I w1 a7 g1 B2=>?_;refine Bx.box fun b3 w2 a8 T B3=>?_;refine Bx.zero fun b4 U ak J B4=>?_;have ha:=a.le;have hb:=b.le;have l2:=B2.lt (by rw[a.len];omega);have l3:=B3.lt (by rw[b.len];omega);have l4:=B4.lt (by decide);have O:=(B2.grow T).grow J;have V:=B3.grow J;have X:Bx U b4 Ck.nil.cells:=B4;have z1:=g1.size;have z2:=T.size;have z3:=J.size;have o:=(g1.trans T).trans J;have hu:=underlying80;have hs:(prog.info? 21).map (·.size)=some 1:=by kernel_rfl
 refine Bm (O.cells 32 _ a.n) ?_;refine Bm (V.cells 32 _ b.n) ?_;rw[AR,wrap64 (by omega) (by omega),BL];refine AE (fun al=>?_) fun an=>?_
 .refine⟨Ck.nil.cells.toArray,by kernel_rfl,?_⟩;show AZ _ _ _ _ _;refine X.over (Ck.len _) (Ck.len _) (Ck.one _) fun W Y m=>?_;refine Y.Er (Ck.len _) ⟨?_,o.next m fun y Q e=>by omega⟩;rw[if_neg (by omega),Ck.jn,dif_neg (by omega)]
 have i:a.l.length+b.l.length<=32:=by omega
 have ej:a.jn b=⟨a.l++b.l,by simpa using i⟩:=dif_pos i;refine AU (fun _ W=>W=U) ?_ ?_
 .rintro _ W rfl _;refine AU (fun _ W'=>Bx W' I (a.jn b).cells/\Bx W' b4 Ck.nil.cells/\Grow w W') ?_ ?_
  .rintro _ W1 ⟨D2,Y,gW⟩ _;refine D2.Er (Ck.len _) ?_;refine Y.over (Ck.len _) (Ck.len _) (Ck.one _) fun Z E4 m=>?_;exact E4.Er (Ck.len _) ⟨by rw[if_pos i],gW.next m fun y Q e=>by omega⟩
  .have x:Grow W W.drew:=Mod.drew _ _;have H2:=O.grow x;have H3:=V.grow x;have H4:=X.grow x;have zd:=x.size;have a1:(Hx a.cells a.l.length (b.l.map (Value.int .i32)))[32]?=some (.int .i64 (a.l.length:Int)):=by
    rw[K9 _ _ _ (by rw[a.len,List.length_map];omega),List.getElem?_append_right (by simp[a.len];omega),List.getElem?_drop];have:a.l.length+(b.l.map (Value.int .i32)).length+(32-(a.cells.take a.l.length++b.l.map (Value.int .i32)).length)=32:=by simp[a.len];omega
    rw[this];exact a.n
   refine Ag (fun k y=>(k=10\/k=13)/\y=I) ?_;simp only[AG,AI];refine Aa ⟨H2.cells 32 _ a.n,fun j B e=>?_⟩ ?_
   .have a6:j∈[1,9]:=B;simp only[List.mem_cons,List.not_mem_nil,or_false] at a6;omega
   refine Aa ⟨H3.cells 32 _ b.n,fun j B e=>by have e2:b3=I:=e.2;omega⟩ ?_
   repeat' first
    |with_reducible exact Mod.refl _ _
    |with_reducible refine dH ha ?_
    |with_reducible refine X7 hb ?_
    |with_reducible refine AL (H2.cells 32 _ a.n) ?_
    |with_reducible refine And.intro ?_ ?_
   all_goals
    refine H2.copy hu hs (us:=b.l.map (Value.int .i32)) (by rw [List.length_map];omega) (by
     by_cases e:b.l=[]
     .rw[e];exact .inl rfl
     .have:0<b.l.length:=List.length_pos_iff.2 e;refine .inr ?_;rw[if_neg (by omega),List.length_map,a.len];omega) (fun j v hv=>by
     obtain ⟨B,rfl⟩:=List.getElem?_eq_some_iff.1 hv;rw [List.length_map] at B;rw [AI,List.getElem_map];exact H3.cells j _ (b.get B)) (Nv _) fun Z S m2=>⟨m2.mono fun _ _ e=>⟨by simp,e⟩,?_⟩
    have E:Bx Z I (Hx a.cells a.l.length (b.l.map (Value.int .i32))):=by
     by_cases e:32=a.l.length
     .have:b.l=[]:=List.length_eq_zero_iff.1 (by omega);rw[this] at S ⊢;exact S
     .rw[if_neg e] at S;exact S
    try refine AL (E.cells 32 _ a1) ⟨Mod.refl _ _,?_⟩
    rw[List.length_map,AR,wrap64 (by omega) (by omega)];refine E.st (q:=32) (by rw[J7,Ck.len];omega) rfl rfl fun W3 J2 m3=>⟨m3.mono fun _ _ e=>⟨by simp,e⟩,?_⟩;have ee:((a.l.length:Int)+(b.l.length:Int))=((a.l.length+b.l.length:Nat):Int):=by omega
    rw[ee,Ck.fill a i] at J2;rw[ej];exact⟨J2,(H4.mod m2 fun e=>by omega).mod m3 fun e=>by omega,((o.trans x).next m2 fun y Q e=>by omega).next m3 fun y Q e=>by omega⟩
 .rw[AG,AI];refine Ah (vs:=a.all.map (Value.int .i32)) (by rw[List.length_map,a.Ip]) (fun j u hu=>by rw[AI];exact O.cells j u (a.bq hu)) ?_;refine Ai (v:=.agg ((List.replicate 32 (0:Int)).map (Value.int .i32)).toArray) (w':=U) (by kernel_rfl) ?_;refine bu a.Ip (by simp) fun r=>?_;cases r
  .exact AS rfl
  refine Ao ?_;refine Bm (O.cells 32 _ a.n) ?_;rw[Am];refine AE (fun h0=>?_) fun _=>rfl;refine V.Er (Ck.len _) ?_;refine X.over (Ck.len _) (Ck.len _) (Ck.one _) fun Z E4 m=>?_;refine E4.Er (Ck.len _) ⟨?_,o.next m fun y Q e=>by omega⟩;have:a.l=[]:=List.length_eq_zero_iff.1 (by omega);have e1:a.jn b=b:=by rw[ej];simp only[this,List.nil_append]
  rw[if_pos i,e1]
def Ck.kd:Kd Ck where
 μ:=fun c=>(c.l.length,BW c.l)
 cut:=fun c p=>(c.tk p,c.dp p)
 meld:=fun a b=>if a.l.length+b.l.length<=32 then some (a.jn b) else none
theorem WS{w:World}(c:Ck):BF prog DF Fv.vm [.agg c.cells.toArray] (fun v w'=>v=.tuple #[.int .i64 (c.l.length:Int),.int .i64 (BW c.l:Int)]/\Grow w w') w:=by
 refine⟨_,[],[],rfl,by kernel_rfl,?_⟩;apply YD;refine Bx.box fun b i hb I B=>?_;have o:Grow i i.drew:=Mod.drew _ _;have x:=B.grow o;refine Ag (fun _ _=>False) ?_;refine CL c.len (fun j u hu=>⟨by rw[AI];exact x.cells j u hu,fun _ _ e=>e⟩) ?_;refine AA (bD c) ?_;rintro _ w2 ⟨rfl,y⟩;refine⟨y,CL c.len (fun j u hu=>⟨by rw[AI];exact x.cells j u hu,fun _ _ e=>e⟩) ?_⟩;refine AA (Om c) ?_;rintro _ J ⟨rfl,E⟩;exact⟨E,rfl,((I.trans o).trans y).trans E⟩
theorem ZB{w:World}(c:Ck){p:Nat}(h:p<=c.l.length):BF prog DF Fv.vc [.agg c.cells.toArray,.int .i64 (p:Int)] (fun v w'=>v=.tuple #[.agg (c.tk p).cells.toArray,.agg (c.dp p).cells.toArray]/\Grow w w') w:=by
 refine⟨_,[],[],rfl,by kernel_rfl,?_⟩;apply V7;refine Bx.box fun b2 w1 a1 X B2=>?_;refine Bx.zero fun Y w2 a6 T Z=>?_;refine Bx.zero fun b5 w3 a7 J B5=>?_;refine((B2.grow T).grow J).Er c.len ?_;refine AA (VP c h) ?_;rintro _ w5 ⟨rfl,O⟩;refine JZ ?_;refine Bx.zero fun b6 w6 a8 Q B6=>?_;refine Bx.zero fun b7 S ak B B7=>?_;have l4:=Z.lt (by decide);have l5:=B5.lt (by decide);have l6:=B6.lt (by decide);have z1:=X.size;have z2:=T.size;have z3:=J.size;have z5:=O.size;have z6:=Q.size;have z7:=B.size;have C4:Bx S Y Ck.nil.cells:=(((Z.grow J).grow O).grow Q).grow B;have C5:Bx S b5 Ck.nil.cells:=((B5.grow O).grow Q).grow B;have C6:Bx S b6 Ck.nil.cells:=B6.grow B;have C7:Bx S b7 Ck.nil.cells:=B7;have U:=((((X.trans T).trans J).trans O).trans Q).trans B;refine C6.over (Ck.len _) (Ck.len _) (Ck.one _) fun w8 D6 E=>?_;refine(C7.mod E fun e=>by omega).over (Ck.len _) (Ck.len _) (Ck.one _) fun w9 D7 I=>?_;have x:Grow w9 w9.drew:=Mod.drew _ _;have zd:=x.size;have s8:=E.size;have s9:=I.size;have E6:=(D6.mod I fun e=>by omega).grow x;have E7:=D7.grow x;have E4:=((C4.mod E fun e=>by omega).mod I fun e=>by omega).grow x;have E5:=((C5.mod E fun e=>by omega).mod I fun e=>by omega).grow x;refine Ag (fun _ y=>y=Y\/y=b5) ?_;refine CL (Ck.len _) (fun j u hu=>⟨by rw[AI];exact E6.cells j u hu,fun _ _ e=>by rcases e with e|e<;>simp only[AI] at e<;>omega⟩) ?_;refine CL (Ck.len _) (fun j u hu=>⟨by rw[AI];exact E7.cells j u hu,fun _ _ e=>by rcases e with e|e<;>simp only[AI] at e<;>omega⟩) ?_;refine E4.over (Ck.len _) (Ck.len _) (Ck.one _) fun al F4 i=>⟨i.mono fun _ _ e=>.inl e,?_⟩;refine(E5.mod i fun e=>by omega).over (Ck.len _) (Ck.len _) (Ck.one _) fun an F5 o=>⟨o.mono fun _ _ e=>.inr e,?_⟩;refine(F4.mod o fun e=>by omega).Er (Ck.len _) (F5.Er (Ck.len _) ⟨rfl,?_⟩);exact(((((U.next E fun y V e=>by omega).next I fun y V e=>by omega).trans x).next i fun y V e=>by omega).next o fun y V e=>by omega)
theorem Xy{w:World}(a b:Ck):BF prog DF Fv.vd [.agg a.cells.toArray,.agg b.cells.toArray] (fun v w'=>Grow w w'/\v=.tuple #[.agg (a.jn b).cells.toArray,.bool (decide (a.l.length+b.l.length<=32))]) w:=by
 refine⟨_,[],[],rfl,by kernel_rfl,?_⟩;apply YQ;refine Bx.box fun b2 w1 T I U=>?_;refine Bx.box fun b3 w2 V j X=>?_;refine Bx.zero fun Y w3 Z i J=>?_;refine((U.grow j).grow i).Er a.len ((X.grow i).Er b.len ?_);refine AA (XK a b) ?_;rintro _ w6 ⟨rfl,o⟩;refine BK ?_;refine Bx.zero fun b6 O a1 x Q=>?_;have l4:=J.lt (by decide);have l6:=Q.lt (by decide);have z1:=I.size;have z2:=j.size;have z3:=i.size;have z6:=o.size;have z7:=x.size;have C4:Bx O Y Ck.nil.cells:=(J.grow o).grow x;have C6:Bx O b6 Ck.nil.cells:=Q;have B:=(((I.trans j).trans i).trans o).trans x;refine C6.over (Ck.len _) (Ck.len _) (Ck.one _) fun w8 D6 S=>?_;refine D6.Er (Ck.len _) ?_;rw[Am];refine(C4.mod S fun e=>by omega).over (Ck.len _) (Ck.len _) (Ck.one _) fun a6 F4 E=>?_;refine F4.Er (Ck.len _) ⟨(B.next S fun y hy e=>by omega).next E fun y hy e=>by omega,?_⟩;by_cases h:a.l.length+b.l.length<=32
 .simp[h]
 .simp[h]
def Aq:AvN Ck where
 toAvK:=Fv
 k:=Ck.kd
 R:=fun _ _ r x=>r=x.cells
 pb:=184
 eb:=136
 pb_le:=by decide
 eb_le:=by decide
 Epos:=by decide
 E1:=fun h=>by cases h
 rlen:=fun h=>by subst h;exact Ck.len _
 rone:=fun h=>by subst h;exact Ck.one _
 rcell:=fun h=>by subst h;rfl
 rheap:=fun h _=>h
 rsub:=fun h _=>h
 zlen:=rfl
 zone:=Ck.one Ck.nil
 elP:=⟨Tryz.t357,.agg (Ck.nil.cells++([.int .i64 0,.int .i64 0,.int .i64 0,.int .i64 0,.int .i64 0,.bool false]:List Value)).toArray,by kernel_rfl,by kernel_rfl,by kernel_rfl,by kernel_rfl,by kernel_rfl,by rfl,by decide⟩
 elE:=⟨Tryz.t162,.agg Ck.nil.cells.toArray,by kernel_rfl,by kernel_rfl,by kernel_rfl,by kernel_rfl,by kernel_rfl,by rfl,by decide⟩
 field0:=fun r t w hr _ ht=>by
  have e:(Instr.field 245 (.agg (r++t).toArray) 0).run prog w=.ok (.agg ((r++t).toArray.extract 0 33)) w:=by
   have hu:=underlying245;have o:=Tryz.isAgg162;have z:∀w,(sizeOf 162).run prog w=.ok 33 w:=fun w=>by simp only[sizeOf,Sem.run_bind,Tryz.typeInfo162,Result.andThen_ok,Sem.run_pure];rfl
   simp[Instr.field,run_underlying hu,part,o,z,asAgg]
  rw[Nq (E:=33) hr] at e;exact e
 ok:=Xb
 cutμ:=fun x p h0 h1=>by
  have B:p<x.l.length:=h1;refine⟨?_,?_,?_⟩
  .show(x.l.take p).length=p;rw[List.length_take];omega
  .show(x.l.drop p).length=x.l.length-p;rw[List.length_drop]
  .show BW (x.l.take p)+BW (x.l.drop p)=BW x.l;rw[BW,BW,<-List.count_append,List.take_append_drop]
 meldμ:=fun x y z h=>by
  simp only[Ck.kd] at h;split at h
  .rename_i j;cases h;have I:x.jn y=⟨x.l++y.l,by simpa using j⟩:=dif_pos j;show(x.jn y).l.length=_/\BW (x.jn y).l=_;rw[I];exact⟨List.length_append,List.count_append⟩
  .cases h
 meas:=fun{C w r x} h=>by subst h;exact WS x
 one0:=rfl
 okN:=Ul
 cells:=Ck.cells
 Rc:=Iff.rfl
 cutc:=fun{w x p} h0 h1 J=>ZB x (Nat.le_of_lt h1)
 meldc:=fun {w x y} _ h1 J=>As (Xy x y) fun v w' h=>⟨h.1,(x.jn y).cells,Ck.len _,Ck.one _,by
  rw[h.2];by_cases e:x.l.length+y.l.length<=32<;>simp[Ck.kd,e],fun z i=>by
  simp only[Ck.kd] at i;split at i
  .cases i;rfl
  .cases i⟩
def CF(i:Int):Nat:=if i<194 then 0 else if i<224 then 2 else if i<240 then 3 else if i<245 then 4 else 0
def IQ(i:Int):Int:=if i=224 then 160 else if i=240 then 144 else 128
def Hz(i:Int):Int:=if i=237 then 159 else if i=244 then 143 else 191
theorem wrap32{x:Int}(h0:-2147483648<=x)(h1:x<2147483648):IntKind.i32.wrap x=x:=by
 have i:(2:Int) ^ IntKind.i32.bits=4294967296:=by decide
 have j:(2:Int) ^ (IntKind.i32.bits-1)=2147483648:=by decide
 simp only[IntKind.wrap,i,j,IntKind.signed,Bool.true_and,decide_eq_true_eq];split<;>omega
theorem EU{b:List Int}{i k:Nat}{c r:Int}(hc:b[i]?=some c)(h0:0<=r)(h1:r<16777216)(c0:0<=c)(c1:c<256):Gz b (k+1) i r=if c<128\/191<c then none else Gz b k (i+1) (r*64+c-128):=by
 simp only[Gz,hc];rw[wrap32 (x:=r*64) (by omega) (by omega),wrap32 (x:=c) (by omega) (by omega),wrap32 (x:=r*64+c) (by omega) (by omega),wrap32 (x:=r*64+c-128) (by omega) (by omega)]
theorem Tq{i:Int}(h0:240<=i)(h1:i<256):Cc i=some (4,i-240):=by
 unfold Cc;rw[if_pos h0,wrap32 (x:=i) (by omega) (by omega),wrap32 (by omega) (by omega)]
theorem Yj{i:Int}(h0:224<=i)(h1:i<240):Cc i=some (3,i-224):=by
 unfold Cc;rw[if_neg (by omega),if_pos h0,wrap32 (x:=i) (by omega) (by omega),wrap32 (by omega) (by omega)]
theorem TN{i:Int}(h0:192<=i)(h1:i<224):Cc i=some (2,i-192):=by
 unfold Cc;rw[if_neg (by omega),if_neg (by omega),if_pos h0,wrap32 (x:=i) (by omega) (by omega),wrap32 (by omega) (by omega)]
theorem KM{i:Int}{t:List Int}(h0:0<=i)(h1:i<128):CW (i::t)=(i,1):=by
 have j:Cc i=some (1,i):=by
  unfold Cc;rw[if_neg (by omega),if_neg (by omega),if_neg (by omega),if_neg (by omega),wrap32 (by omega) (by omega)]
 unfold CW;rw[List.headD_cons,j];simp only[List.length_cons,Gz,Nat.sub_self];rw[if_neg (by omega),if_pos ⟨by unfold Du;omega,by unfold HO;rw[if_pos h1]⟩]
theorem Ct{i:Int}{t:List Int}(h1:i<256)(h:(i::t).length<CF i):CW (i::t)=(0,0):=by
 unfold CW;rw[List.headD_cons];unfold CF at h;split at h
 .omega
 split at h
 .rw[TN (by omega) (by omega)];simp only;rw[if_pos h]
 split at h
 .rw[Yj (by omega) (by omega)];simp only;rw[if_pos h]
 split at h
 .rw[Tq (by omega) (by omega)];simp only;rw[if_pos h]
 .omega
theorem Qe{b:List Int}:∀{k i:Nat} {r x:Int},Gz b k i r=some x->(∀y∈b,0<=y/\y<256)->0<=r->r*64 ^ k<1073741824->k<=3->r*64 ^ k<=x/\x<=r*64 ^ k+64 ^ k-1:=by
 intro k;induction k with
 |zero=>intro i r x h _ _ _ _;simp only[Gz] at h;cases h;simp
 |succ k E=>
  intro i r x h hb h0 h1 hk;cases hc:b[i]? with
  |none=>simp[Gz,hc] at h
  |some c=>
   have o:=hb c (List.mem_iff_getElem?.2 ⟨i,hc⟩);have e:(64:Int) ^ (k+1)=64*64 ^ k:=by rw[Int.pow_succ];omega
   rw[e] at h1;have hp:(1:Int)<=64 ^ k:=by
    rcases(show k=0\/k=1\/k=2 by omega) with rfl|rfl|rfl<;>decide
   have B:r*(64*64 ^ k)=(r*64)*64 ^ k:=by rw[Int.mul_assoc]
   rw[B] at h1;have hr:r*64<=r*64*64 ^ k:=by
    have:=Int.mul_le_mul_of_nonneg_left hp (show 0<=r*64 by omega);omega
   rw[EU hc h0 (by omega) o.1 o.2] at h;split at h
   .cases h
   .rename_i I;have J:(r*64+c-128)*64 ^ k=r*64*64 ^ k+(c-128)*64 ^ k:=by rw[show r*64+c-128=r*64+(c-128) by omega,Int.add_mul]
    have O:(c-128)*64 ^ k<=63*64 ^ k:=Int.mul_le_mul_of_nonneg_right (by omega) (by omega);have Q:0<=(c-128)*64 ^ k:=Int.mul_nonneg (by omega) (by omega);have S:(64:Int) ^ k<=4096:=by
     rcases(show k=0\/k=1\/k=2 by omega) with rfl|rfl|rfl<;>decide
    by_cases j:(r*64+c-128)*64 ^ k<1073741824
    .have:=E h hb (by omega) j (by omega);rw[e,B];omega
    .exfalso;rw[J] at j;have T:r*64*64 ^ k<=1073741824-64*64 ^ k:=by
      rcases(show k=0\/k=1\/k=2 by omega) with rfl|rfl|rfl
      .simp only[Int.pow_zero] at *;omega
      .simp only[Int.pow_one] at *;omega
      .rw[show(64:Int) ^ 2=4096 by decide] at *;omega
     omega
theorem OK{i:Int}{t:List Int}(hb:∀y∈i::t,0<=y/\y<256)(h0:128<=i)(h:CF i=0):CW (i::t)=(0,0):=by
 have h1:=(hb i List.mem_cons_self).2;have hc:i<194\/245<=i:=by
  unfold CF at h
  (repeat' split at h)<;>omega
 unfold CW;rw[List.headD_cons];by_cases E:i<192
 .have B:Cc i=none:=by
   unfold Cc;rw[if_neg (by omega),if_neg (by omega),if_neg (by omega),if_pos h0]
  rw[B]
 by_cases I:i<194
 .rw[TN (by omega) (by omega)];simp only;split
  .rfl
  .split
   .rfl
   .rename_i x j;have:=Qe j hb (by omega) (by omega) (by omega);rw[if_neg];rintro⟨_,o⟩;unfold HO at o;rw[if_pos (by omega)] at o;omega
 .rw[Tq (by omega) (by omega)];simp only;split
  .rfl
  .split
   .rfl
   .rename_i x j;have:=Qe j hb (by omega) (by omega) (by omega);rw[if_neg];rintro⟨hm,_⟩;unfold Du at hm;omega
theorem Vc{j c1:Int}{t:List Int}(h:CF j=2)(c0:0<=c1)(o:c1<256) :
  CW (j::c1::t)=if IQ j<=c1/\c1<=Hz j then((j-192)*64+(c1-128),2) else(0,0):=by
 have hb:194<=j/\j<224:=by
  unfold CF at h
  (repeat' split at h)<;>omega
 have hl:IQ j=128:=by unfold IQ;rw[if_neg (by omega),if_neg (by omega)]
 have x:Hz j=191:=by unfold Hz;rw[if_neg (by omega),if_neg (by omega)]
 unfold CW;rw[List.headD_cons,TN (by omega) (by omega)];simp only;rw[if_neg (by simp),EU (b:=j::c1::t) (i:=1) (c:=c1) rfl (by omega) (by omega) c0 o,hl,x];by_cases hc:c1<128\/191<c1
 .rw[if_pos hc,if_neg (by omega)]
 .rw[if_neg hc,if_pos (by omega)];simp only[Gz];rw[if_pos ⟨by unfold Du;omega,by unfold HO;rw[if_neg (by omega),if_pos (by omega)]⟩];congr 1;omega
theorem VC{j c1 o:Int}{t:List Int}(h:CF j=3)(c0:0<=c1)(B:c1<256)(O:0<=o)(E:o<256) :
  CW (j::c1::o::t)=if(IQ j<=c1/\c1<=Hz j)/\128<=o/\o<=191 then((j-224)*4096+(c1-128)*64+(o-128),3) else(0,0):=by
 have hb:224<=j/\j<240:=by
  unfold CF at h
  (repeat' split at h)<;>omega
 have hl:IQ j=if j=224 then 160 else 128:=by
  unfold IQ;split
  .rfl
  .rw[if_neg (by omega)]
 have Q:Hz j=if j=237 then 159 else 191:=by
  unfold Hz;split
  .rfl
  .rw[if_neg (by omega)]
 unfold CW;rw[List.headD_cons,Yj (by omega) (by omega)];simp only;rw[if_neg (by simp),EU (b:=j::c1::o::t) (i:=1) (c:=c1) rfl (by omega) (by omega) c0 B,hl,Q];by_cases hc:c1<128\/191<c1
 .rw[if_pos hc,if_neg];rintro⟨⟨h1,I⟩,_⟩;split at h1<;>split at I<;>omega
 rw[if_neg hc,EU (b:=j::c1::o::t) (i:=2) (c:=o) rfl (by omega) (by omega) O E];by_cases J:o<128\/191<o
 .rw[if_pos J,if_neg (by omega)]
 rw[if_neg J];simp only[Gz];by_cases ha:((if j=224 then(160:Int) else 128)<=c1/\c1<=(if j=237 then(159:Int) else 191))
 .have S:=(show(_/\128<=o/\o<=191) from⟨ha,by omega⟩);rw[if_pos S,if_pos]
  .congr 1;omega
  .obtain⟨h1,I⟩:=ha;refine⟨?_,?_⟩
   .unfold Du;split at h1<;>split at I<;>omega
   .unfold HO;rw[if_neg (by split at h1<;>omega),if_neg (by split at h1<;>omega),if_pos (by omega)]
 .rw[if_neg (fun x:(_/\128<=o/\o<=191)=>ha x.1),if_neg];rintro⟨hm,y⟩;apply ha;unfold Du at hm;have:¬(j-224)*64*64+(c1-128)*64+o-128<2048:=by
   intro T;unfold HO at y;split at y
   .cases y
   .split at y
    .cases y
    .omega
  constructor
  .split<;>omega
  .split<;>omega
theorem Up{j c1 o y:Int}{t:List Int}(h:CF j=4)(c0:0<=c1)(E:c1<256)(S:0<=o)(I:o<256)(e0:0<=y)(J:y<256) :
  CW (j::c1::o::y::t)=if(IQ j<=c1/\c1<=Hz j)/\(128<=o/\o<=191)/\128<=y/\y<=191 then((j-240)*262144+(c1-128)*4096+(o-128)*64+(y-128),4) else(0,0):=by
 have hb:240<=j/\j<245:=by
  unfold CF at h
  (repeat' split at h)<;>omega
 have hl:IQ j=if j=240 then 144 else 128:=by unfold IQ;rw[if_neg (by omega)]
 have T:Hz j=if j=244 then 143 else 191:=by unfold Hz;rw[if_neg (by omega)]
 unfold CW;rw[List.headD_cons,Tq (by omega) (by omega)];simp only;rw[if_neg (by simp),EU (b:=j::c1::o::y::t) (i:=1) (c:=c1) rfl (by omega) (by omega) c0 E,hl,T];by_cases hc:c1<128\/191<c1
 .rw[if_pos hc,if_neg];rintro⟨⟨h1,O⟩,_⟩;split at h1<;>split at O<;>omega
 rw[if_neg hc,EU (b:=j::c1::o::y::t) (i:=2) (c:=o) rfl (by omega) (by omega) S I];by_cases Q:o<128\/191<o
 .rw[if_pos Q,if_neg (by omega)]
 rw[if_neg Q,EU (b:=j::c1::o::y::t) (i:=3) (c:=y) rfl (by omega) (by omega) e0 J];by_cases he:y<128\/191<y
 .rw[if_pos he,if_neg (by omega)]
 rw[if_neg he];simp only[Gz];by_cases ha:((if j=240 then(144:Int) else 128)<=c1/\c1<=(if j=244 then(143:Int) else 191))
 .have U:=(show(_/\(128<=o/\o<=191)/\128<=y/\y<=191) from⟨ha,by omega⟩);rw[if_pos U,if_pos]
  .congr 1;omega
  .obtain⟨h1,O⟩:=ha;refine⟨?_,?_⟩
   .unfold Du;split at h1<;>split at O<;>omega
   .unfold HO;rw[if_neg (by split at h1<;>omega),if_neg (by split at h1<;>omega),if_neg (by split at h1<;>omega)]
 .rw[if_neg (fun x:(_/\(128<=o/\o<=191)/\128<=y/\y<=191)=>ha x.1),if_neg];rintro⟨hm,B⟩;apply ha;unfold Du at hm;have:¬((j-240)*64+(c1-128))*64*64+(o-128)*64+y-128<65536:=by
   intro V;unfold HO at B;split at B
   .cases B
   .split at B
    .cases B
    .split at B
     .cases B
     .omega
  constructor
  .split<;>omega
  .split<;>omega
theorem H8{b:List Int}(hb:b≠[]):(Bj b).isSome=(decide ((CW b).2≠0)&&(Bj (b.drop (CW b).2)).isSome):=by
 rw[LU hb];by_cases h:(CW b).2=0
 .simp[h]
 .simp[h]
theorem ME:Bj ([]:List Int)=some []:=by simp[Bj,Iv]
theorem Pu:∀{k:Nat} {b:List Int},k<=b.length->(∀j x,j<k->b[j]?=some x->0<=x/\x<128)->(Bj b).isSome=(Bj (b.drop k)).isSome:=by
 intro k;induction k with
 |zero=>intro b _ _;rw[List.drop_zero]
 |succ k i=>
  intro b hk h;cases b with
  |nil=>simp at hk
  |cons o t=>
   have h0:=h 0 o (by omega) rfl;rw[H8 (by simp),KM h0.1 h0.2];simp only[List.drop_succ_cons];simp only[ne_eq,Nat.one_ne_zero,not_false_eq_true,decide_true,Bool.true_and,List.drop_zero];exact i (by simpa using hk) fun j x B y=>h (j+1) x (by omega) y
theorem Po(n:Nat):(FloatKind.f64.format.order n n != some .eq)=decide (FX (n:Int)):=by
 have h1:Ieee.double.signWeight=9223372036854775808:=by decide
 have j:Ieee.double.infRung=9218868437227405312:=by decide
 have o:Ieee.double.binade=4503599627370496:=by decide
 have y:FX (n:Int)↔9218868437227405312<n%9223372036854775808:=by
  unfold FX;rw[Int.tmod_eq_emod_of_nonneg (by omega)];omega
 have i:∀x:Int,compare x x=.eq:=fun x=>by simp[compare,compareOfLessAndEq]
 have B:∀x:Nat,compare x x=.eq:=fun x=>by simp[compare,compareOfLessAndEq]
 rw[show decide (FX (n:Int))=decide (9218868437227405312<n%9223372036854775808) from decide_eq_decide.2 y];show((Ieee.double.read n).order (Ieee.double.read n) != some .eq)=_;unfold Ieee.Format.read;simp only[h1,j,o];split
 .rename_i E;have:¬9218868437227405312<n%9223372036854775808:=by omega
  simp only[Ieee.Datum.order,i,decide_eq_false this];rfl
 .split
  .have:¬9218868437227405312<n%9223372036854775808:=by omega
   simp only[Ieee.Datum.order,i,decide_eq_false this];rfl
  .split
   .have:¬9218868437227405312<n%9223372036854775808:=by omega
    simp only[Ieee.Datum.order,B,decide_eq_false this];rfl
   .have:9218868437227405312<n%9223372036854775808:=by omega
    simp only[Ieee.Datum.order,decide_eq_true this];rfl
def Ha(x:Int):Prop:=0<=x/\x<18446744073709551616
def K4(a b:Int):Int:=((a.toNat ||| b.toNat:Nat):Int)
theorem Fl{x:Int}(h:Ha x):IntKind.u64.wrap x=x:=by
 have i:(2:Int) ^ IntKind.u64.bits=18446744073709551616:=by decide
 unfold Ha at h;simp only[IntKind.wrap,i,IntKind.signed,Bool.false_and];rw[if_neg (by decide)];omega
theorem cP{a b:Int}(ha:Ha a)(hb:Ha b):((BitVec.ofInt 64 a ||| BitVec.ofInt 64 b).toNat:Int)=K4 a b:=by
 unfold Ha at ha hb;unfold K4;rw[BitVec.toNat_or,BitVec.toNat_ofInt,BitVec.toNat_ofInt];have e:((2 ^ 64:Nat):Int)=18446744073709551616:=by decide
 rw[e,Int.emod_eq_of_lt ha.1 ha.2,Int.emod_eq_of_lt hb.1 hb.2]
theorem bv_and{a b:Int}(ha:Ha a)(hb:Ha b):((BitVec.ofInt 64 a &&& BitVec.ofInt 64 b).toNat:Int)=((a.toNat &&& b.toNat:Nat):Int):=by
 unfold Ha at ha hb;rw[BitVec.toNat_and,BitVec.toNat_ofInt,BitVec.toNat_ofInt];have e:((2 ^ 64:Nat):Int)=18446744073709551616:=by decide
 rw[e,Int.emod_eq_of_lt ha.1 ha.2,Int.emod_eq_of_lt hb.1 hb.2]
theorem Dy{a b:Int}(ha:Ha a)(hb:Ha b):Ha (K4 a b):=by
 unfold Ha at *;unfold K4;have:a.toNat ||| b.toNat<2 ^ 64:=Nat.or_lt_two_pow (by omega) (by omega)
 omega
def R8(x:Int)(j:Nat):Prop:=x.toNat.testBit (8*j+7)=true
theorem R8.l{a b:Int}{j:Nat}(h:R8 a j):R8 (K4 a b) j:=by
 unfold R8 K4 at *;rw[Int.toNat_natCast,Nat.testBit_or,h,Bool.true_or]
theorem R8.r{a b:Int}{j:Nat}(h:R8 b j):R8 (K4 a b) j:=by
 unfold R8 K4 at *;rw[Int.toNat_natCast,Nat.testBit_or,h,Bool.or_true]
theorem Uy{x:Int}{j:Nat}(i:j<8)(h0:128<=x)(h1:x<256):Ha (x*2 ^ (8*j))/\R8 (x*2 ^ (8*j)) j:=by
 obtain⟨n,rfl⟩:∃n:Nat,x=n:=⟨x.toNat,by omega⟩;have e:((n:Int)*2 ^ (8*j))=((n*2 ^ (8*j):Nat):Int):=by rw[Int.natCast_mul,Int.natCast_pow];rfl
 have hp:n*2 ^ (8*j)<2 ^ (8+8*j):=by
  rw[Nat.pow_add];exact Nat.mul_lt_mul_of_pos_right (by omega) (Nat.pow_pos (by decide))
 have o:2 ^ (8+8*j)<=2 ^ 64:=Nat.pow_le_pow_right (by decide) (by omega);refine⟨?_,?_⟩
 .rw[e];unfold Ha;omega
 .rw[e];unfold R8;rw[Int.toNat_natCast,Nat.testBit_mul_two_pow];simp only[show 8*j<=8*j+7 by omega,decide_true,Bool.true_and,show 8*j+7-8*j=7 by omega];rw[Nat.testBit_eq_decide_div_mod_eq];rw[decide_eq_true_eq];omega
theorem UW{x:Int}{j:Nat}(i:j<8)(h0:0<=x)(h1:x<256):Ha (x*2 ^ (8*j)):=by
 obtain⟨n,rfl⟩:∃n:Nat,x=n:=⟨x.toNat,by omega⟩;have e:((n:Int)*2 ^ (8*j))=((n*2 ^ (8*j):Nat):Int):=by rw[Int.natCast_mul,Int.natCast_pow];rfl
 have hp:n*2 ^ (8*j)<2 ^ (8+8*j):=by
  rw[Nat.pow_add];exact Nat.mul_lt_mul_of_pos_right (by omega) (Nat.pow_pos (by decide))
 have o:2 ^ (8+8*j)<=2 ^ 64:=Nat.pow_le_pow_right (by decide) (by omega);rw[e];unfold Ha;omega
theorem Tp{x:Int}(h:x.toNat &&& 9259542123273814144=0){j:Nat}(o:j<8):¬R8 x j:=by
 intro i;unfold R8 at i;have:(x.toNat &&& 9259542123273814144).testBit (8*j+7)=true:=by
  rw[Nat.testBit_and,i,Bool.true_and];rcases(show j=0\/j=1\/j=2\/j=3\/j=4\/j=5\/j=6\/j=7 by omega) with rfl|rfl|rfl|rfl|rfl|rfl|rfl|rfl<;>decide
 rw[h,Nat.zero_testBit] at this;cases this
variable {v0 v1 v2 v3 v4 v5 v6 v7 v8 v9:Value}{K:Cont}{w:World}
theorem YO(h: BZ 77 v2 (fun t5 S=>
 AB prog 131 [v0,v1] (fun i w2=>
 AO 0 i fun j=>
 AO 1 i fun o=>
 Al 65 [(.int .i64 0),(.bool false),(.int .u8 0),(.bool false),(.bool false),(.int .i64 0)] (fun O T=>
 AZ 6 O j (fun w4=>
 AD o
 (AM 2 O fun x=>
 AK x (fun y U=>
 AM 0 t5 fun B=>
 AK B (fun E Q=>
 DT .u8 y E fun I=>
 AD I
 (Ac 4 t5 (fun J V=>
 AB prog 208 [J] (fun t25 X=>
 K t25 X) V) Q)
 (K (.bool false) Q)) U) w4)
 (K (.bool false) w4)) T) w2) S) w):AB prog 209 [v0,v1,v2] K w:=cO (aN (aN aE)) func209 h (by kernel_rfl)
theorem XN(h: BZ 77 v0 (fun o w1=>
 AM 0 o fun t5=>
 AK t5 (fun y w2=>
 DT .u8 y (.int .u8 1) fun t8=>
 AD t8
 (DY w2 (fun C=>
 JB C 4 o fun t9=>
 AM 1 o fun B=>
 BI C B fun E=>
 DT .i64 E (.int .i64 1) fun I=>
 En prog C 254 [I] fun J=>
 Bh prog C (BY .eql 77 (.tmp 9) (.tmp 13) t9 J) fun O=>
 ∀w3:World,C w3->
 K O w3))
 (DT .u8 y (.int .u8 2) fun Q=>
 AD Q
 (DY w2 (fun j=>
 JB j 4 o fun S=>
 AM 1 o fun T=>
 BI j T fun U=>
 En prog j 255 [U] fun V=>
 Bh prog j (BY .eql 77 (.tmp 17) (.tmp 20) S V) fun X=>
 ∀w4:World,j w4->
 K X w4))
 (DT .u8 y (.int .u8 3) fun Y=>
 AD Y
 (DY w2 (fun i=>
 JB i 4 o fun Z=>
 AM 2 o fun t25=>
 BI i t25 fun a1=>
 Yc prog i 257 [a1] fun a6=>
 En prog i 256 [a6] fun a7=>
 Bh prog i (BY .eql 77 (.tmp 24) (.tmp 28) Z a7) fun a8=>
 ∀w5:World,i w5->
 K a8 w5))
 (DT .u8 y (.int .u8 4) fun ak=>
 AD ak
 (AM 3 o fun al=>
 AK al (fun an w6=>
 AB prog 258 [an] (fun x w7=>
 AO 0 x fun av=>
 AO 1 x fun ax=>
 Al 77 [(.int .u8 0),(.int .i64 0),(.int .u64 0),(.string (ByteArray.mk #[]))] (fun t3 w8=>
 AZ 4 t3 av (fun w9=>
 DT .i64 ax (.int .i64 0) fun t39=>
 AD t39
 (Ac 4 o (fun ay b0=>
 Ac 4 t3 (fun b1 b2=>
 runK prog (BY .eql 77 (.tmp 41) (.tmp 42) ay b1) (fun b3 b4=>
 K b3 b4) b2) b0) w9)
 (K (.bool false) w9)) w8) w7) w6) w2)
 (K (.bool false) w2))))) w1) w):AB prog 208 [v0] K w:=cO (aN (aO (aN (aN (aO (aO .draw .nil) (aN (aO (aO .draw .nil) (aN (aO (aO .draw .nil) (aN (aO (aN aE) .nil))))))))) aE)) func208 h (by kernel_rfl)
theorem YB(h: Al 77 [(.int .u8 0),(.int .i64 0),(.int .u64 0),(.string (ByteArray.mk #[]))] (fun o B=>
 Ae [(0,1),(1,1),(2,1),(3,1)] [(.int .u8 0),(.int .i64 0),(.int .u64 0),(.string (ByteArray.mk #[]))] [(0,(.int .u8 1))] fun t4=>
 Al 77 [(.int .u8 0),(.int .i64 0),(.int .u64 0),(.string (ByteArray.mk #[]))] (fun t3 w2=>
 AZ 4 t3 t4 (fun y=>
 AD v0
 (AM 1 t3 fun E=>
 BD E (.int .i64 1) (fun w4=>
 Ac 4 t3 (fun I J=>
 AZ 4 o I (fun O=>
 Ac 4 o (fun Q S=>
 K Q S) O) J) w4) y)
 (Ac 4 t3 (fun i T=>
 AZ 4 o i (fun U=>
 Ac 4 o (fun j x=>
 K j x) U) T) y)) w2) B) w):AB prog 254 [v0] K w:=cO (aN (aN (aO (aN aE) aE))) func254 h (by kernel_rfl)
theorem YM(h: Al 77 [(.int .u8 0),(.int .i64 0),(.int .u64 0),(.string (ByteArray.mk #[]))] (fun i j=>
 Ae [(0,1),(1,1),(2,1),(3,1)] [(.int .u8 0),(.int .i64 0),(.int .u64 0),(.string (ByteArray.mk #[]))] [(0,(.int .u8 2)),(1,v0)] fun t4=>
 AZ 4 i t4 (fun w2=>
 Ac 4 i (fun o x=>
 K o x) w2) j) w):AB prog 255 [v0] K w:=cO (aN aE) func255 h (by kernel_rfl)
theorem Vj(h: Al 77 [(.int .u8 0),(.int .i64 0),(.int .u64 0),(.string (ByteArray.mk #[]))] (fun j o=>
 AB prog 284 [v0] (fun t4 w2=>
 AD t4
 (Ae [(0,1),(1,1),(2,1),(3,1)] [(.int .u8 0),(.int .i64 0),(.int .u64 0),(.string (ByteArray.mk #[]))] [(0,(.int .u8 3)),(2,(.int .u64 9221120237041090560))] fun t5=>
 AZ 4 j t5 (fun x=>
 Ac 4 j (fun y w4=>
 K y w4) x) w2)
 (Yk prog 285 [v0] (fun B E=>
 Ae [(0,1),(1,1),(2,1),(3,1)] [(.int .u8 0),(.int .i64 0),(.int .u64 0),(.string (ByteArray.mk #[]))] [(0,(.int .u8 3)),(2,B)] fun I=>
 AZ 4 j I (fun J=>
 Ac 4 j (fun i O=>
 K i O) J) E) w2)) o) w):AB prog 256 [v0] K w:=cO (aN (aO (aN (aO aE .nil)) aE)) func256 h (by kernel_rfl)
theorem XY(h: Al 77 [(.int .u8 0),(.int .i64 0),(.int .u64 0),(.string (ByteArray.mk #[]))] (fun i O=>
 Ko v0 fun S=>
 EZ .i64 S (.int .i64 64) fun T=>
 AD T
 (Ae [(0,1),(1,1),(2,1),(3,1)] [(.int .u8 0),(.int .i64 0),(.int .u64 0),(.string (ByteArray.mk #[]))] [] fun t9=>
 AZ 4 i t9 (fun w2=>
 Ac 4 i (fun U V=>
 K (.tuple #[U,(.int .i64 3)]) V) w2) O)
 (runK prog (convert 9 293 v0) (fun B w4=>
 AB prog 286 [B] (fun j Q=>
 AO 0 j fun _t14=>
 AO 1 j fun o=>
 Dm .i64 o (.int .i64 0) fun E=>
 AD E
 (Ae [(0,1),(1,1),(2,1),(3,1)] [(.int .u8 0),(.int .i64 0),(.int .u64 0),(.string (ByteArray.mk #[]))] [] fun I=>
 AZ 4 i I (fun X=>
 Ac 4 i (fun x Y=>
 K (.tuple #[x,o]) Y) X) Q)
 (Ae [(0,1),(1,1),(2,1),(3,1)] [(.int .u8 0),(.int .i64 0),(.int .u64 0),(.string (ByteArray.mk #[]))] [(0,(.int .u8 4)),(3,v0)] fun J=>
 AZ 4 i J (fun Z=>
 Ac 4 i (fun y w9=>
 K (.tuple #[y,(.int .i64 0)]) w9) Z) Q)) w4) O)) w):AB prog 258 [v0] K w:=cO (aN (aO (aN (aO aE .nil)) (aO (aN (aN (aO aE .nil))) aE))) func258 h (by kernel_rfl)
theorem XT(h: runK prog (BY .neq 333 (.tmp 3) (.tmp 4) v0 v0) (fun t5 i=>
 K t5 i) w):AB prog 284 [v0] K w:=cO (aN aE) func284 h (by kernel_rfl)
theorem V2(h: AB prog 297 [v0] (fun Q J=>
 Br Q fun t9=>
 AD t9
 (K (.tuple #[(.slice none 0 0),(.int .i64 3)]) J)
 (runK prog (convert 293 9 v0) (fun o w2=>
 runK prog (Instr.range 9 o) (fun x S=>
 Ay [(.slice none 0 0)] (fun vs i w4=>∀_:Env,
 runK prog (Instr.next x true 0) (fun j O=>
 AO 0 j fun y=>
 AD y
 (AO 2 j fun B=>
 Bc 21 1 1 [(.int .i32 0)] [(0,B)] (fun E T=>
 runK prog (Builtin.append_ #[80,80] 80 [(nth vs 0),E].toArray) (fun I U=>
 i [I] U) T) O)
 (K (.tuple #[(nth vs 0),(.int .i64 0)]) O)) w4) S) w2) J)) w):AB prog 286 [v0] K w:=cO (aN (aO (aN (aO aE .nil)) (aN (aO (aN (.node [4] [(4,4),(6,6),(13,19)] (aN (aO aE aE)) .nil)) aE)))) func286 h (by kernel_rfl)
theorem YJ(h: Ak v0 fun t9=>
 Ak v0 fun ew=>
 runK prog (Instr.sliceAt 293 v0 none (some t9) (some ew)) (fun ey w1=>
 Ay [ey] (fun vs i w2=>∀_:Env,
 Ak (nth vs 0) fun ez=>
 EZ .i64 ez (.int .i64 0) fun eA=>
 AD eA
 (Bf 1 (nth vs 0) (.int .i64 0) fun eB=>
 AK eB (fun X w3=>
 Be .u8 X (.int .u8 128) fun eC=>
 AD eC
 (runK prog (Instr.sliceAt 293 (nth vs 0) (some (.int .i64 1)) none none) (fun t22 w4=>
 Ar (fun Y w5=>∀_:Env,
 AD (nth Y 0)
 (runK prog (Instr.sliceAt 293 t22 (some (.int .i64 8)) none none) (fun E w6=>
 Ar (fun Z w7=>∀_:Env,
 AD (nth Z 0)
 (runK prog (Instr.sliceAt 293 E (some (.int .i64 16)) none none) (fun eG w8=>
 Ay [eG] (fun o I w9=>∀_:Env,
 DY w9 (fun C=>
 Ak (nth o 0) fun t50=>
 EZ .i64 t50 (.int .i64 32) fun eH=>
 AD eH
 (En prog C 300 [(nth o 0)] fun eI=>
 Bh prog C (Instr.sliceAt 293 (nth o 0) (some (.int .i64 8)) none none) fun eJ=>
 En prog C 300 [eJ] fun eK=>
 Bh prog C (BY .or 12 (.tmp 54) (.tmp 57) eI eK) fun eL=>
 Bh prog C (Instr.sliceAt 293 (nth o 0) (some (.int .i64 16)) none none) fun eM=>
 En prog C 300 [eM] fun eN=>
 Bh prog C (Instr.sliceAt 293 (nth o 0) (some (.int .i64 24)) none none) fun eO=>
 En prog C 300 [eO] fun eP=>
 Bh prog C (BY .or 12 (.tmp 61) (.tmp 64) eN eP) fun eQ=>
 Bh prog C (BY .or 12 (.tmp 58) (.tmp 65) eL eQ) fun t66=>
 Bh prog C (BY .and 12 (.tmp 66) (.const (.int .u64 9259542123273814144)) t66 (.int .u64 9259542123273814144)) fun eR=>
 DT .u64 eR (.int .u64 0) fun eS=>
 ∀Q:World,C Q->
 AD eS
 (runK prog (Instr.sliceAt 293 (nth o 0) (some (.int .i64 32)) none none) (fun eT eU=>
 I [eT] eU) Q)
 (i [(nth o 0)] Q))
 (∀ a1:World,C a1->
 i [(nth o 0)] a1))) w8) w7)
 (i [E] w7)) (fun a6=>
 DY w6 (fun y=>
 Ak E fun eV=>
 EZ .i64 eV (.int .i64 16) fun eW=>
 AD eW
 (En prog y 300 [E] fun t39=>
 Bh prog y (Instr.sliceAt 293 E (some (.int .i64 8)) none none) fun eX=>
 En prog y 300 [eX] fun eY=>
 Bh prog y (BY .or 12 (.tmp 39) (.tmp 42) t39 eY) fun eZ=>
 Bh prog y (BY .and 12 (.tmp 43) (.const (.int .u64 9259542123273814144)) eZ (.int .u64 9259542123273814144)) fun fa=>
 DT .u64 fa (.int .u64 0) fun t45=>
 ∀a7:World,y a7->
 a6 [t45] a7)
 (∀ a8:World,y a8->
 a6 [(.bool false)] a8)))) w5)
 (i [t22] w5)) (fun J=>
 Ak t22 fun fe=>
 EZ .i64 fe (.int .i64 8) fun t25=>
 AD t25
 (AB prog 300 [t22] (fun ff fg=>
 runK prog (BY .and 12 (.tmp 28) (.const (.int .u64 9259542123273814144)) ff (.int .u64 9259542123273814144)) (fun fh fi=>
 DT .u64 fh (.int .u64 0) fun fj=>
 J [fj] fi) fg) w4)
 (J [(.bool false)] w4))) w3)
 (runK prog (Instr.indexAt 381 (.pointer (some ⟨1,0,none⟩)) X) (fun fk fo=>
 AK fk (fun ak fp=>
 runK prog (BY .and 5 (.tmp 75) (.const (.int .u8 7)) ak (.int .u8 7)) (fun t76 fq=>
 runK prog (convert 5 3 t76) (fun t77 fs=>
 runK prog (BY .shr 5 (.tmp 78) (.const (.int .u64 4)) ak (.int .u64 4)) (fun fu fv=>
 runK prog (Instr.indexAt 384 (.pointer (some ⟨2,0,none⟩)) fu) (fun fw fx=>
 Ac 2 fw (fun fy fz=>
 Al 383 [(.int .u8 0),(.int .u8 0)] (fun S fA=>
 AZ 2 S fy (fun O=>
 DT .i64 t77 (.int .i64 2) fun fB=>
 AD fB
 (Ar (fun _vs_4 fC=>∀_:Env,
 runK prog (Instr.sliceAt 293 (nth vs 0) (some (.int .i64 2)) none none) (fun al fD=>
 i [al] fD) fC) (fun fE=>
 DY O (fun B=>
 Ak (nth vs 0) fun fG=>
 Be .i64 fG (.int .i64 2) fun fH=>
 AD fH
 (∀ an:World,B an->
 K (.bool false) an)
 (Bf 1 (nth vs 0) (.int .i64 1) fun fI=>
 BI B fI fun fJ=>
 AM 0 S fun fK=>
 BI B fK fun fL=>
 Be .u8 fJ fL fun fM=>
 AD fM
 (∀ av:World,B av->
 K (.bool false) av)
 (AM 1 S fun fN=>
 BI B fN fun fO=>
 Bf 1 (nth vs 0) (.int .i64 1) fun ax=>
 BI B ax fun ay=>
 Be .u8 fO ay fun b0=>
 ∀T:World,B T->
 AD b0
 (K (.bool false) T)
 (fE [] T))))))
 (DT .i64 t77 (.int .i64 3) fun b1=>
 AD b1
 (Ar (fun _vs_5 fP=>∀_:Env,
 runK prog (Instr.sliceAt 293 (nth vs 0) (some (.int .i64 3)) none none) (fun b2 fQ=>
 i [b2] fQ) fP) (fun fR=>
 DY O (fun x=>
 Ak (nth vs 0) fun b3=>
 Be .i64 b3 (.int .i64 3) fun b4=>
 AD b4
 (∀ b5:World,x b5->
 K (.bool false) b5)
 (Bf 1 (nth vs 0) (.int .i64 1) fun b6=>
 BI x b6 fun b7=>
 AM 0 S fun b8=>
 BI x b8 fun b9=>
 Be .u8 b7 b9 fun ba=>
 AD ba
 (∀ bc:World,x bc->
 K (.bool false) bc)
 (AM 1 S fun bd=>
 BI x bd fun bk=>
 Bf 1 (nth vs 0) (.int .i64 1) fun bl=>
 BI x bl fun bp=>
 Be .u8 bk bp fun bs=>
 AD bs
 (∀ bx:World,x bx->
 K (.bool false) bx)
 (Bf 1 (nth vs 0) (.int .i64 2) fun c4=>
 BI x c4 fun c6=>
 Be .u8 c6 (.int .u8 128) fun c7=>
 AD c7
 (∀ c8:World,x c8->
 K (.bool false) c8)
 (Bf 1 (nth vs 0) (.int .i64 2) fun c9=>
 BI x c9 fun ca=>
 Be .u8 (.int .u8 191) ca fun cc=>
 ∀U:World,x U->
 AD cc
 (K (.bool false) U)
 (fR [] U))))))))
 (DT .i64 t77 (.int .i64 4) fun cd=>
 AD cd
 (Ar (fun _vs_6 fS=>∀_:Env,
 runK prog (Instr.sliceAt 293 (nth vs 0) (some (.int .i64 4)) none none) (fun ch fT=>
 i [ch] fT) fS) (fun fU=>
 DY O (fun j=>
 Ak (nth vs 0) fun cn=>
 Be .i64 cn (.int .i64 4) fun cv=>
 AD cv
 (∀ cx:World,j cx->
 K (.bool false) cx)
 (Bf 1 (nth vs 0) (.int .i64 1) fun dk=>
 BI j dk fun dT=>
 AM 0 S fun e1=>
 BI j e1 fun e2=>
 Be .u8 dT e2 fun e3=>
 AD e3
 (∀ e4:World,j e4->
 K (.bool false) e4)
 (AM 1 S fun e5=>
 BI j e5 fun e6=>
 Bf 1 (nth vs 0) (.int .i64 1) fun e7=>
 BI j e7 fun e8=>
 Be .u8 e6 e8 fun e9=>
 AD e9
 (∀ ea:World,j ea->
 K (.bool false) ea)
 (Bf 1 (nth vs 0) (.int .i64 2) fun ec=>
 BI j ec fun ed=>
 Be .u8 ed (.int .u8 128) fun ee=>
 AD ee
 (∀ ef:World,j ef->
 K (.bool false) ef)
 (Bf 1 (nth vs 0) (.int .i64 2) fun eg=>
 BI j eg fun eh=>
 Be .u8 (.int .u8 191) eh fun ei=>
 AD ei
 (∀ ej:World,j ej->
 K (.bool false) ej)
 (Bf 1 (nth vs 0) (.int .i64 3) fun ek=>
 BI j ek fun en=>
 Be .u8 en (.int .u8 128) fun eo=>
 AD eo
 (∀ ep:World,j ep->
 K (.bool false) ep)
 (Bf 1 (nth vs 0) (.int .i64 3) fun er=>
 BI j er fun et=>
 Be .u8 (.int .u8 191) et fun eu=>
 ∀V:World,j V->
 AD eu
 (K (.bool false) V)
 (fU [] V))))))))))
 (K (.bool false) O)))) fA) fz) fx) fv) fs) fq) fp) fo) w3)) w2)
 (K (.bool true) w2)) w1) w):AB prog 297 [v0] K w:=cO (aN (aN (aO (.node [0] [(0,0),(2,6),(13,187)] (aO (aN aE) (aN (aO (aN (aO (aN (aO (.cut [31] [(23,31)] .nil (aO (aN (.cut [46] [(34,46)] .draw (aO (aN (.node [0] [(0,0),(49,71)] (aO (aO .draw aE) .nil) .nil)) .nil))) .nil)) .nil)) .nil)) (aN (aN (aN (aN (aN (aO (.cut [] [(2,2),(85,103)] (aO .draw (aO aE .nil)) .nil) (aN (aO (.cut [] [(2,2),(108,138)] (aO .draw (aO aE .nil)) .nil) (aN (aO (.cut [] [(2,2),(143,185)] (aO .draw (aO aE .nil)) .nil) aE))))))))))))) .nil) aE))) func297 h (by kernel_rfl)
theorem Xz(h: DY w (fun i=>
 Bf 1 v0 (.int .i64 0) fun j=>
 BI i j fun o=>
 Bh prog i (convert 5 75 o) fun x=>
 Bf 1 v0 (.int .i64 1) fun y=>
 BI i y fun B=>
 Bh prog i (convert 5 75 B) fun E=>
 Bh prog i (BY .shl 75 (.tmp 32) (.const (.int .u64 8)) E (.int .u64 8)) fun I=>
 Bh prog i (BY .or 75 (.tmp 28) (.tmp 33) x I) fun J=>
 Bf 1 v0 (.int .i64 2) fun O=>
 BI i O fun Q=>
 Bh prog i (convert 5 75 Q) fun S=>
 Bh prog i (BY .shl 75 (.tmp 38) (.const (.int .u64 16)) S (.int .u64 16)) fun t39=>
 Bh prog i (BY .or 75 (.tmp 34) (.tmp 39) J t39) fun T=>
 Bf 1 v0 (.int .i64 3) fun U=>
 BI i U fun V=>
 Bh prog i (convert 5 75 V) fun X=>
 Bh prog i (BY .shl 75 (.tmp 44) (.const (.int .u64 24)) X (.int .u64 24)) fun t45=>
 Bh prog i (BY .or 75 (.tmp 40) (.tmp 45) T t45) fun t46=>
 Bf 1 v0 (.int .i64 4) fun Y=>
 BI i Y fun Z=>
 Bh prog i (convert 5 75 Z) fun t50=>
 Bh prog i (BY .shl 75 (.tmp 50) (.const (.int .u64 32)) t50 (.int .u64 32)) fun a1=>
 Bh prog i (BY .or 75 (.tmp 46) (.tmp 51) t46 a1) fun a6=>
 Bf 1 v0 (.int .i64 5) fun a7=>
 BI i a7 fun t55=>
 Bh prog i (convert 5 75 t55) fun a8=>
 Bh prog i (BY .shl 75 (.tmp 56) (.const (.int .u64 40)) a8 (.int .u64 40)) fun ak=>
 Bh prog i (BY .or 75 (.tmp 52) (.tmp 57) a6 ak) fun al=>
 Bf 1 v0 (.int .i64 6) fun an=>
 BI i an fun av=>
 Bh prog i (convert 5 75 av) fun ax=>
 Bh prog i (BY .shl 75 (.tmp 62) (.const (.int .u64 48)) ax (.int .u64 48)) fun ay=>
 Bh prog i (BY .or 75 (.tmp 58) (.tmp 63) al ay) fun b0=>
 Bf 1 v0 (.int .i64 7) fun t66=>
 BI i t66 fun b1=>
 Bh prog i (convert 5 75 b1) fun b2=>
 Bh prog i (BY .shl 75 (.tmp 68) (.const (.int .u64 56)) b2 (.int .u64 56)) fun b3=>
 Bh prog i (BY .or 75 (.tmp 64) (.tmp 69) b0 b3) fun t70=>
 ∀w2:World,i w2->
 K t70 w2)):AB prog 300 [v0] K w:=cO (aN (aO (aO (aO .draw .nil) .nil) (aO .draw .nil))) func300 h (by kernel_rfl)
end Go.Proofs.YtmdhibffnkhcnaaGreatDoor
