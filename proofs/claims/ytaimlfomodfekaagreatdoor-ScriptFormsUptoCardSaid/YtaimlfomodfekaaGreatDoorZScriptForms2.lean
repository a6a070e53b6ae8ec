/- Plain laws: what is no number; eight bytes in one word. No conditions. Contracts: eight bytes as a word; whether bytes are UTF-8. Conditions: the two tables lie in memory as they are laid. A schema in memory; contracts of what reads it: Find, Len, Keys, Group; of one key by itself; of comparing keys. No conditions. Plain laws: the map from the sets' texts to ids. Conditions: the numbers of the sets lie in their types. Contract: the runes of bytes (runes.Read): as the document reads. Conditions: the size; the two tables lie in memory as they are laid. By a program of ours: of each function below the predicate that its code comes to, and that it is sound. No conditions. Contracts: numbers and bytes in groups of seven bits (wire). Conditions: the sizes. By a program of ours: of each function below the predicate that its code comes to, and that it is sound. No conditions. Contracts of the codec's writer: numbers, bytes, values. Conditions: the sizes. Contracts: the program's values (value.Flag, Int, Float, Text, May). Conditions: the size of a text; the two tables lie in memory as they are laid. slices.SortFunc at keys: the shelf's contract, laid; sorted rows of keys. No conditions. What is known of schemas; the law SchemaGroups: it answers true, and leaves all memory as it was. No conditions. Contracts: the text of a set (intern.text); why a set may not be (attrs.May). Conditions: the sets' numbers lie in their types; of the text: the set may be. Contracts: the bytes of runes (utf8.AppendRune, runes.Bytes). Conditions: the sizes. Plain law: reading attributes, changes, ops, deltas out of their parts. No program in sight. Conditions: the sizes. Contracts of the codec's writer: values, attributes, changes. Conditions: the sizes. Contracts of the codec's writer: lists, sets, patches, ops, deltas. Conditions: the sizes. By a program of ours: of each function below the predicate that its code comes to, and that it is sound. No conditions. Contracts of the script's writer: numbers, values, lists, ops, keys. Conditions: the sizes; the numbers lie in their types. Contracts of the script's writer: which fields a kind has; commands. Conditions: the sizes; the table of fields lies in memory as it is laid. Contracts of the script: whether ops, commands, scripts are alike. Conditions: the bytes are bytes. A slice from a place up to a place; of a row of one's own, cut short. No conditions. Contracts of the codec's reader: numbers, whole numbers, bytes at a place. Conditions: the sizes. Contracts of the codec's reader: its state; numbers, bytes, values. Conditions: the sizes. Contracts of the codec's reader: lengths, keys, values, attributes, changes. Conditions: the sizes. Measures of the document's gap. No conditions. -/
import Derived.Test.YtaimlfomodfekaaGreatDoorZScriptForms1
import Derived.Laws.BytesArg
import Derived.Laws.IdiomStrings
import Derived.MapKept
import Derived.Lib.Zigzag
import Derived.Shelf.SlSortCmp.WholeK
import Derived.Shelf.SlSortCmp.NoneTotal
import Derived.Lib.OthersKept
import Derived.WalkSmall
set_option linter.unusedSimpArgs false
set_option linter.unusedVariables false
namespace Go.Proofs.YtaimlfomodfekaaGreatDoor
open Go Go.K
def U64 (x:Int):Prop:=0≤x∧x < 18446744073709551616
theorem wrapu64 {x:Int} (h:U64 x):IntKind.u64.wrap x=x:=by
 have e1:(2:Int) ^ IntKind.u64.bits=18446744073709551616:=by decide
 unfold U64 at h
 simp only [IntKind.wrap,e1,IntKind.signed,Bool.false_and]
 rw [if_neg (by decide)]
 omega
end Go.Proofs.YtaimlfomodfekaaGreatDoor

namespace Go.K
open Go
theorem run_indexAt_arr {P:Program} {t e n s:Nat} {i:TypeInfo} {k:IntKind} {a:Addr} {j:Int} {w:World} (ht:P.underlying t=some (.array n e)) (hi:P.info? e=some i) (hs:i.size=s) (h0:0≤j) (h1:j < n):(Instr.indexAt t (.pointer (some a)) (.int k j)).run P w=.ok (.pointer (some (a.add (j.toNat * s)))) w:=by
 simp [Instr.indexAt,Instr.sureAddr,run_underlying ht,asIntOf,sizeOf,typeInfo,hi,hs,h0,h1,Result.andThen]
theorem run_conv {P:Program} {s d:TypeId} {q k:IntKind} {n:Int} (w:World) (hs:(P.underlying s).isSome=true) (hd:P.underlying d=some (.int k)):(convert s d (.int q n)).run P w=.ok (.int k (k.wrap n)) w:=by
 obtain ⟨e,he⟩:=Option.isSome_iff_exists.mp hs
 simp [convert,run_underlying he,run_underlying hd,Conv.intToInt]
theorem run_shl {P:Program} {t:TypeId} {xo yo:Operand} {k q:IntKind} {a:Int} {n:Nat} (w:World) (hn:n≤k.bits):(binS .shl t xo yo (.int k a) (.int q n)).run P w=.ok (.int k (k.wrap (a * 2 ^ n))) w:=by
 have h0:¬ ((n:Int) < 0):=by omega
 simp [binS,eqGuard,binOp,Op.shift,Nat.min_eq_left hn,h0]
theorem run_shr {P:Program} {t:TypeId} {xo yo:Operand} {k q:IntKind} {a:Int} {n:Nat} (w:World) (hn:n≤k.bits):(binS .shr t xo yo (.int k a) (.int q n)).run P w=.ok (.int k (a.fdiv (2 ^ n))) w:=by
 have h0:¬ ((n:Int) < 0):=by omega
 simp [binS,eqGuard,binOp,Op.shift,Nat.min_eq_left hn,h0]
theorem run_bits {P:Program} {t:TypeId} {xo yo:Operand} {k:IntKind} {a b:Int} (w:World):(binS .or t xo yo (.int k a) (.int k b)).run P w=.ok (.int k (k.wrap (BitVec.ofInt k.bits a ||| BitVec.ofInt k.bits b).toNat)) w∧(binS .and t xo yo (.int k a) (.int k b)).run P w=.ok (.int k (k.wrap (BitVec.ofInt k.bits a &&& BitVec.ofInt k.bits b).toNat)) w:=by
 constructor <;> simp [binS,eqGuard,binOp,Op.intBits]
end Go.K
namespace Go.Proofs.YtaimlfomodfekaaGreatDoor
open Go Go.K

abbrev ByteL (b:List Int):Prop:=∀ x ∈ b,0≤x∧x < 256
end Go.Proofs.YtaimlfomodfekaaGreatDoor

namespace Go.K
open Go
theorem condK_f {A B:Prop} (h:B):condK (.bool false) A B:=h
theorem condK_t {A B:Prop} (h:A):condK (.bool true) A B:=h
theorem nilckK_s {a:Addr} {K:Value→Prop} (h:K (.pointer (some a))):nilckK (.pointer (some a)) K:=⟨_,rfl,h⟩
end Go.K
namespace Go.Proofs.YtaimlfomodfekaaGreatDoor
open Go Go.K

theorem elem_key:ElemOK Tryz.prog 22 59 6 24:=⟨Tryz.t59,.agg #[.int .i64 0,.bool false,.int .u8 0,.bool false,.bool false,.int .i64 0],by kernel_rfl,by kernel_rfl,by kernel_rfl,by kernel_rfl,by kernel_rfl,by rfl,by decide⟩
end Go.Proofs.YtaimlfomodfekaaGreatDoor

namespace Go.Proofs.YtaimlfomodfekaaGreatDoor
open Go Go.K

def strOf (l:List Int):ByteArray:=⟨(l.map fun x=>UInt8.ofNat x.toNat).toArray⟩
theorem bytesL_strOf {l:List Int} (h:∀ x ∈ l,0≤x∧x < 256):bytesL (strOf l)=l:=by
 unfold bytesL strOf
 simp only [List.map_map]
 conv=>rhs;rw [←List.map_id l]
 refine List.map_congr_left fun x hx=>?_
 have:=h x hx
 simp only [Function.comp,UInt8.toNat_ofNat',id]
 omega
end Go.Proofs.YtaimlfomodfekaaGreatDoor

namespace Go.K
open Go
theorem Mod.setObj (w:World) (r:Nat) (o o':Obj) (h:w.heap[r]?=some o):Mod (fun b=>b=r) w { w with heap:=w.heap.setIfInBounds r o' }:=
 ⟨rfl,rfl,rfl,by simp,fun x _ hx=>(MapKept.heap_set h).2 x hx⟩
end Go.K
namespace Go.Proofs.YtaimlfomodfekaaGreatDoor
open Go Go.K

theorem run_str {S:Nat→Prop} {v:Value} {b:List Int} {w:World} (h:RBytes S w v b) (hb:ByteL b):(convert 29 9 v).run Tryz.prog w=.ok (.string (strOf b)) w:=by
 obtain ⟨a,c,rfl,hm⟩:=h.shape
 cases a with
 | none=>
  have:b=[]:=by
   cases b with
   | nil=>rfl
   | cons x b=>obtain ⟨p,r,e,_⟩:=h.get (i:=0) (by simp);cases e
  subst this
  exact run_convert_bytes_nil w 29 5 (by kernel_rfl) (by kernel_rfl) _ _ _ (by kernel_rfl)
 | some p=>
  have hl:(b.map fun x=>UInt8.ofNat x.toNat).length=b.length:=by simp
  have:=run_convert_bytes_back (P:=Tryz.prog) w 29 9 5 p c (b.map fun x=>UInt8.ofNat x.toNat) (by kernel_rfl) (by kernel_rfl) (by kernel_rfl) (fun j hj=>by
   rw [hl] at hj
   obtain ⟨_,r,e,_,hr,hc,rfl⟩:=h.get hj
   cases e
   have:=hc 0 _ rfl
   rw [Nat.mul_one,Nat.add_zero] at this
   rw [this]
   have hbj:=hb b[j] (List.getElem_mem hj)
   simp only [List.getElem_map,UInt8.toNat_ofNat']
   congr 2
   omega)
  rw [hl] at this
  exact this
end Go.Proofs.YtaimlfomodfekaaGreatDoor

namespace Go.Proofs.YtaimlfomodfekaaGreatDoor
open Go Go.K
set_option maxRecDepth 100000
def An110:Ann:=(.node [] [] .nil (.node [] [] (.node [] [] .nil (.node [] [] (.node [] [] .nil .nil) .nil)) (.node [] [] .nil .nil)))
def S110 (v0:Value) (K:Cont) (w:World):Prop:=by
 refine' (?f:∀ B R,PX Tryz.prog okf K (PG Tryz.prog okf Tryz.f110 An110 [v0] w) B R→Prop) _ _ ⟨?a,?b⟩
 case a=>intro _;intros;conv=>lhs;reduce
 case b=>dsimp only [PI,plit_eq];rfl
 exact fun _ R _=>R
theorem S110_ok {v0:Value} {K:Cont} {w:World} (h:S110 v0 K w):callK Tryz.prog 110 [v0] K w:=okS An110 good mixed Tryz.func110 (by kernel_rfl) h (by kernel_rfl)

end Go.Proofs.YtaimlfomodfekaaGreatDoor

namespace Go.Proofs.YtaimlfomodfekaaGreatDoor
open Go Go.K

theorem elem_byte:ElemOK Tryz.prog 29 5 1 1:=⟨Tryz.t5,.int .u8 0,by kernel_rfl,by kernel_rfl,by kernel_rfl,by kernel_rfl,by kernel_rfl,by rfl,by decide⟩
theorem RByte.one {w:World} {r:List Value} {x:Int} (h:RByte w r x):∀ u ∈ r,u.oneCell'=true:=by
 subst h;intro u hu;simp at hu;subst hu;rfl
abbrev OBytes (B:Nat) (w:World) (v:Value) (l:List Int):Prop:=OwnR B 5 1 RByte w v l
theorem wrapu8 {x:Int} (h0:0≤x) (h1:x < 256):IntKind.u8.wrap x=x:=by
 have e1:(2:Int) ^ IntKind.u8.bits=256:=by decide
 simp only [IntKind.wrap,e1,IntKind.signed,Bool.false_and]
 rw [if_neg (by decide)]
 omega
theorem wrapu8_mod {x:Int}:IntKind.u8.wrap x=x % 256:=by
 have e1:(2:Int) ^ IntKind.u8.bits=256:=by decide
 simp only [IntKind.wrap,e1,IntKind.signed,Bool.false_and]
 rw [if_neg (by decide)]
theorem or128:∀ a:Nat,a < 256→(a ||| 128)=a % 128+128:=by decide +kernel
theorem run_or8 {t:TypeId} {xo yo:Operand} {a:Int} (w:World) (h0:0≤a) (h1:a < 256):(binS .or t xo yo (.int .u8 a) (.int .u8 128)).run Tryz.prog w=.ok (.int .u8 (a % 128+128)) w:=by
 rw [(run_bits w).1]
 have e:((BitVec.ofInt IntKind.u8.bits a ||| BitVec.ofInt IntKind.u8.bits 128).toNat:Int)=((a.toNat ||| 128:Nat):Int):=by
  show ((BitVec.ofInt 8 a ||| BitVec.ofInt 8 128).toNat:Int)=_
  rw [BitVec.toNat_or,BitVec.toNat_ofInt,BitVec.toNat_ofInt]
  have e:((2 ^ 8:Nat):Int)=256:=by decide
  rw [e,Int.emod_eq_of_lt h0 h1]
  rfl
 rw [e,or128 _ (by omega),wrapu8 (by omega) (by omega)]
 congr 2
 omega
theorem clone_bytes {S:Nat→Prop} {v:Value} {l:List Int} {w:World} (h:RBytes S w v l) (hl:l.length≤1099511627776) :
  callK Tryz.prog 110 [v] (fun v' w'=>OBytes w.heap.size w' v' l∧Grow w w') w:=by
 apply S110_ok
 unfold S110
 obtain ⟨a,c,rfl,hm⟩:=h.shape
 rw [snilK_i]
 cases a with
 | none=>
  have:l=[]:=by
   cases l with
   | nil=>rfl
   | cons x l=>obtain ⟨p,r,e,_⟩:=h.get (i:=0) (by simp);cases e
  subst this
  exact condK_t ⟨OwnR.nil,Mod.refl _ _⟩
 | some p=>
  refine condK_f ?_
  refine rowK_empty ?_
  have hg:Grow w (w.alloc (.cells #[] 5)):=Mod.alloc _ _ _
  have ho:OBytes w.heap.size (w.alloc (.cells #[] 5)) (.slice (some ⟨w.heap.size,0,none⟩) 0 0) []:=OwnR.made (Nat.le_refl _)
  obtain ⟨v',w',h1,h2,h3,h4⟩:=OwnR.append (ty:=29) elem_byte ho (h.grow hg (by decide) fun _ _ h=>h) (fun _ _=>RByte.one) (by simp;omega) (by simp) (by simpa using hm) (fun _ _ _ _ h=>h)
  refine runK_i h1 ⟨?_,hg.next (Mod.of_grownBy h3) ?_⟩
  ·refine h2.base fun g hg'=>?_
   rcases h4 g hg' with h | h
   ·cases h;exact Nat.le_refl _
   ·simp only [World.size_alloc] at h;omega
  ·intro b hb e;simp only [Value.ownBlock,Option.some.injEq] at e;omega
theorem conv64_8 {n:Int} {K:Cont} {w:World} (h:K (.int .u8 (n % 256)) w):runK Tryz.prog (convert 38 5 (.int .u64 n)) K w:=by
 refine runK_i (run_conv (k:=.u8) w (by kernel_rfl) (by kernel_rfl)) ?_
 rw [wrapu8_mod];exact h
theorem run_xor64 {t:TypeId} {xo yo:Operand} {a b:Int} (w:World) (ha:U64 a) (hb:U64 b):(binS .xor t xo yo (.int .u64 a) (.int .u64 b)).run Tryz.prog w=.ok (.int .u64 ((a.toNat ^^^ b.toNat:Nat):Int)) w:=by
 have e0:(binS .xor t xo yo (.int .u64 a) (.int .u64 b)).run Tryz.prog w=.ok (.int .u64 (IntKind.u64.wrap (BitVec.ofInt IntKind.u64.bits a ^^^ BitVec.ofInt IntKind.u64.bits b).toNat)) w:=by
  simp [binS,eqGuard,binOp,Op.intBits]
 rw [e0]
 have e:((BitVec.ofInt IntKind.u64.bits a ^^^ BitVec.ofInt IntKind.u64.bits b).toNat:Int)=((a.toNat ^^^ b.toNat:Nat):Int):=by
  show ((BitVec.ofInt 64 a ^^^ BitVec.ofInt 64 b).toNat:Int)=_
  unfold U64 at ha hb
  rw [BitVec.toNat_xor,BitVec.toNat_ofInt,BitVec.toNat_ofInt]
  have e:((2 ^ 64:Nat):Int)=18446744073709551616:=by decide
  rw [e,Int.emod_eq_of_lt ha.1 ha.2,Int.emod_eq_of_lt hb.1 hb.2]
 have hlt:a.toNat ^^^ b.toNat < 2 ^ 64:=Nat.xor_lt_two_pow (by unfold U64 at ha;omega) (by unfold U64 at hb;omega)
 rw [e,wrapu64 ⟨by omega,by omega⟩]
theorem wrapu64_mod {x:Int}:IntKind.u64.wrap x=x % 18446744073709551616:=by
 have e1:(2:Int) ^ IntKind.u64.bits=18446744073709551616:=by decide
 simp only [IntKind.wrap,e1,IntKind.signed,Bool.false_and]
 rw [if_neg (by decide)]
end Go.Proofs.YtaimlfomodfekaaGreatDoor

namespace Go.Proofs.YtaimlfomodfekaaGreatDoor
open Go Go.K
set_option maxRecDepth 100000
def An83:Ann:=(.node [] [] .nil (.cut [4] [(4,6),(9,16)] (.node [] [] .nil (.node [] [] (.node [] [] .nil .nil) .nil)) (.node [] [] (.node [] [] .nil (.node [4,21] [(4,8),(21,63)] (.node [] [] .nil (.node [] [] (.node [] [] .nil .nil) (.node [] [] (.node [] [] .nil (.node [] [] (.cut [26] [(26,40)] .nil (.node [] [] (.node [] [] .nil .nil) (.node [] [] .nil (.node [] [] (.node [] [] .nil .nil) .nil)))) .nil)) .nil))) .nil)) (.node [] [] .nil .nil))))
def S83 (v0 v1:Value) (K:Cont) (w:World):Prop:=by
 refine' (?f:∀ B R,PX Tryz.prog okf K (PG Tryz.prog okf Tryz.f83 An83 [v0,v1] w) B R→Prop) _ _ ⟨?a,?b⟩
 case a=>intro _;intros;conv=>lhs;reduce
 case b=>dsimp only [PI,plit_eq];rfl
 exact fun _ R _=>R
theorem S83_ok {v0 v1:Value} {K:Cont} {w:World} (h:S83 v0 v1 K w):callK Tryz.prog 83 [v0,v1] K w:=okS An83 good mixed Tryz.func83 (by kernel_rfl) h (by kernel_rfl)

def An89:Ann:=(.node [] [] .nil (.node [] [] .nil (.cut [7] [(6,8),(18,39)] (.node [] [] .nil (.node [] [] (.node [] [] .nil .nil) (.node [] [] .nil (.node [] [] (.node [] [] .nil .nil) .nil)))) (.node [] [] .nil (.node [] [] .nil .nil)))))
def S89 (v0 v1 v2:Value) (K:Cont) (w:World):Prop:=by
 refine' (?f:∀ B R,PX Tryz.prog okf K (PG Tryz.prog okf Tryz.f89 An89 [v0,v1,v2] w) B R→Prop) _ _ ⟨?a,?b⟩
 case a=>intro _;intros;conv=>lhs;reduce
 case b=>dsimp only [PI,plit_eq];rfl
 exact fun _ R _=>R
theorem S89_ok {v0 v1 v2:Value} {K:Cont} {w:World} (h:S89 v0 v1 v2 K w):callK Tryz.prog 89 [v0,v1,v2] K w:=okS An89 good mixed Tryz.func89 (by kernel_rfl) h (by kernel_rfl)

def An68:Ann:=(.node [] [] .nil (.node [] [] .nil (.node [] [] .nil .nil)))
def S68 (v0 v1:Value) (K:Cont) (w:World):Prop:=by
 refine' (?f:∀ B R,PX Tryz.prog okf K (PG Tryz.prog okf Tryz.f68 An68 [v0,v1] w) B R→Prop) _ _ ⟨?a,?b⟩
 case a=>intro _;intros;conv=>lhs;reduce
 case b=>dsimp only [PI,plit_eq];rfl
 exact fun _ R _=>R
theorem S68_ok {v0 v1:Value} {K:Cont} {w:World} (h:S68 v0 v1 K w):callK Tryz.prog 68 [v0,v1] K w:=okS An68 good mixed Tryz.func68 (by kernel_rfl) h (by kernel_rfl)

def An84:Ann:=(.node [] [] .nil (.node [] [] .nil .nil))
def S84 (v0:Value) (K:Cont) (w:World):Prop:=by
 refine' (?f:∀ B R,PX Tryz.prog okf K (PG Tryz.prog okf Tryz.f84 An84 [v0] w) B R→Prop) _ _ ⟨?a,?b⟩
 case a=>intro _;intros;conv=>lhs;reduce
 case b=>dsimp only [PI,plit_eq];rfl
 exact fun _ R _=>R
theorem S84_ok {v0:Value} {K:Cont} {w:World} (h:S84 v0 K w):callK Tryz.prog 84 [v0] K w:=okS An84 good mixed Tryz.func84 (by kernel_rfl) h (by kernel_rfl)

end Go.Proofs.YtaimlfomodfekaaGreatDoor

namespace Go.Proofs.YtaimlfomodfekaaGreatDoor
open Go Go.K

structure WrI (G:Nat→Prop) (W:World) (c:Nat) (l:List Int):Prop where
 ex:∃ bv,W.cell? ⟨c,0,none⟩=some bv∧OBytes 0 W bv l∧∀ g,bv.ownBlock=some g→G g∧g≠c
 live:Live W ⟨c,0,none⟩
 gc:G c
 gn:∀ z,W.heap.size≤z→G z
section
variable {G G':Nat→Prop} {W W':World} {c:Nat} {l:List Int}
theorem WrI.lt (h:WrI G W c l):c < W.heap.size:=by obtain ⟨bv,h1,_⟩:=h.ex;exact World.block_lt_of_cell? W _ h1
theorem WrI.narrow (h:WrI G W c l) (g:Grow W W'):WrI (fun z=>G z∧¬ (W.heap.size≤z∧z < W'.heap.size)) W' c l:=by
 obtain ⟨bv,h1,h2,h3⟩:=h.ex
 have hlt:=h.lt
 refine ⟨⟨bv,g.cell h1 fun h=>h,OwnR.mod h2 g (fun _ _ h=>h) fun _ _ _ h=>h,fun b hb=>⟨⟨(h3 b hb).1,fun e=>?_⟩,(h3 b hb).2⟩⟩,h.live.mod g fun h=>h,⟨h.gc,fun e=>by omega⟩,fun z hz=>⟨h.gn z (Nat.le_trans g.size hz),fun e=>by omega⟩⟩
 have:=(OwnR.ownB h2 b hb).2
 omega
theorem WrI.grow (h:WrI G W c l) (g:Grow W W'):WrI G W' c l:=by
 obtain ⟨bv,h1,h2,h3⟩:=h.ex
 exact ⟨⟨bv,g.cell h1 fun h=>h,OwnR.mod h2 g (fun _ _ h=>h) fun _ _ _ h=>h,h3⟩,h.live.mod g fun h=>h,h.gc,fun z hz=>h.gn z (Nat.le_trans g.size hz)⟩
theorem WrI.widen (h:WrI G' W c l) (hG:∀ z,G' z→G z):WrI G W c l:=by
 obtain ⟨bv,h1,h2,h3⟩:=h.ex
 exact ⟨⟨bv,h1,h2,fun g hg=>⟨hG g (h3 g hg).1,(h3 g hg).2⟩⟩,h.live,hG c h.gc,fun z hz=>hG z (h.gn z hz)⟩
theorem WrI.app {S:Nat→Prop} {bv x:Value} {m:List Int} {K:World→Prop} (h:WrI G W c l) (hb:W.cell? ⟨c,0,none⟩=some bv) (hx:RBytes S W x m) (hl:l.length+m.length≤1099511627776)
  (hK:∀ W',WrI G W' c (l++m)→Mod G W W'→K W') :
  runK Tryz.prog (Builtin.append_ #[29,29] 29 [bv,x].toArray) (fun t w=>nilckK (.pointer (some ⟨c,0,none⟩)) fun p=>faK 0 p fun q=>st1K q t K w) W:=by
 obtain ⟨bv',h1,h2,h3⟩:=h.ex
 obtain rfl:bv=bv':=Option.some.inj (hb.symm.trans h1)
 obtain ⟨v',w',r1,r2,r3,r4⟩:=OwnR.append (ty:=29) elem_byte h2 hx (fun _ _=>RByte.one) (by omega) (Nat.zero_le _) (by simp only [maxLen];omega) fun _ _ _ _ h=>h
 have m1:=Mod.of_grownBy r3
 have hlt:=h.lt
 have ncb:¬ bv.ownBlock=some c:=fun e=>(h3 c e).2 rfl
 refine runK_i r1 (nilckK_s ?_)
 rw [faK_i,addr0]
 have one:=OwnR.one r2
 refine (h.live.mod m1 ncb).st one.1 one.2 (hK _ ⟨⟨v',World.cell?_setCell_same _ _ _ (m1.cell h1 ncb),OwnR.mod r2 (Mod.setCell (M:=fun z=>z=c) w' ⟨c,0,none⟩ v' rfl) (fun g hg e=>?_) fun _ _ _ h=>h,fun g hg=>?_⟩,(h.live.mod m1 ncb).set _ _,h.gc,fun z hz=>h.gn z ?_⟩ ((m1.mono fun z _ e=>(h3 z e).1).trans (Mod.setCell _ _ _ h.gc)))
 ·rcases r4 g hg with e' | e'
  ·exact (h3 g e').2 e
  ·omega
 ·rcases r4 g hg with e' | e'
  ·exact h3 g e'
  ·exact ⟨h.gn g e',by omega⟩
 ·have:=m1.size
  simp only [World.size_setCell] at hz
  omega
theorem WrI.put {bv:Value} {x:Int} {K:World→Prop} (h:WrI G W c l) (hb:W.cell? ⟨c,0,none⟩=some bv) (hl:l.length+1≤1099511627776)
  (hK:∀ W',WrI G W' c (l++[x])→Mod G W W'→K W') :
  rowK 5 1 1 [(.int .u8 0)] [(0,.int .u8 x)] (fun s w1=>runK Tryz.prog (Builtin.append_ #[29,29] 29 [bv,s].toArray) (fun t w=>nilckK (.pointer (some ⟨c,0,none⟩)) fun p=>faK 0 p fun q=>st1K q t K w) w1) W:=by
 refine row1_i fun w1 g1 hz hc=>?_
 have hs:RBytes (fun _=>True) w1 (.slice (some ⟨W.heap.size,0,none⟩) 1 1) [x]:=⟨_,1,rfl,by simp,by simp [maxLen],fun i y hy=>by
  have:i=0:=by have:=(List.getElem?_eq_some_iff.1 hy).1;simp at this;exact this
  subst this
  simp at hy;subst hy
  exact ⟨_,[.int .u8 x],rfl,trivial,rfl,fun j u hu=>by rw [Nat.zero_mul,Nat.zero_add];exact hc j u hu,rfl⟩⟩
 exact (h.grow g1).app (g1.cell hb fun h=>h) hs (by simpa using hl) fun W' h' m'=>hK W' h' ((g1.mono fun _ _ e=>e.elim).trans m')
theorem conv_64 {n:Nat} {K:Cont} {w:World} (hn:n < 18446744073709551616) (h:K (.int .u64 n) w):runK Tryz.prog (convert 3 38 (.int .i64 n)) K w:=by
 refine runK_i (run_conv (k:=.u64) w (by kernel_rfl) (by kernel_rfl)) ?_
 rw [wrapu64 ⟨by omega,by omega⟩];exact h
theorem conv8_64 {n:Nat} {K:Cont} {w:World} (hn:n < 256) (h:K (.int .u64 n) w):runK Tryz.prog (convert 5 38 (.int .u8 n)) K w:=by
 refine runK_i (run_conv (k:=.u64) w (by kernel_rfl) (by kernel_rfl)) ?_
 rw [wrapu64 ⟨by omega,by omega⟩];exact h
end
end Go.Proofs.YtaimlfomodfekaaGreatDoor

namespace Go.Proofs.YtaimlfomodfekaaGreatDoor
open Go Go.K

theorem bytesL_byte (s:ByteArray):ByteL (bytesL s):=fun x hx=>by
 simp only [bytesL,List.mem_map] at hx
 obtain ⟨b,_,rfl⟩:=hx
 have:=b.toNat_lt
 omega
end Go.Proofs.YtaimlfomodfekaaGreatDoor

namespace Go.Proofs.YtaimlfomodfekaaGreatDoor
open Go Go.K

instance:Inhabited DKey:=⟨DKey.zero⟩
end Go.Proofs.YtaimlfomodfekaaGreatDoor

namespace Go.Proofs.YtaimlfomodfekaaGreatDoor
open Go Go.K

theorem eqIn_key (a b:DKey) (w:World):(Op.equalIn 10000 59 (.agg a.cells.toArray) (.agg b.cells.toArray)).run Tryz.prog w=.ok (decide (a=b)) w:=by
 have hS:Tryz.prog.underlying 59=some (.struct (Tryz.prog.fieldsOf 59)):=by kernel_rfl
 rw [show (10000:Nat)=9999+1 from rfl,run_equalIn_agg w 9999 _ _ _ hS Tryz.stoodInHeld59]
 simp only [Program.fieldsOf,Tryz.underlying59,DKey.cells]
 have a1:=Tryz.isAgg3
 have a2:=Tryz.isAgg4
 have a3:=Tryz.isAgg5
 have e1:∀ a b:Int,(Op.equalIn 9999 3 (.int .i64 a) (.int .i64 b)).run Tryz.prog w=.ok (a == b) w:=fun a b=>run_equalIn_int w 9998 _ _ _ a b Tryz.underlying3
 have e2:∀ a b:Bool,(Op.equalIn 9999 4 (.bool a) (.bool b)).run Tryz.prog w=.ok (a == b) w:=fun a b=>run_equalIn_bool w 9998 _ a b Tryz.underlying4
 have e3:∀ a b:Int,(Op.equalIn 9999 5 (.int .u8 a) (.int .u8 b)).run Tryz.prog w=.ok (a == b) w:=fun a b=>run_equalIn_int w 9998 _ _ _ a b Tryz.underlying5
 have q:decide (a=b)=(a.id == b.id && (a.block == b.block && (a.kind == b.kind && (a.after == b.after && (a.before == b.before && a.group == b.group))))):=by
  cases a;cases b
  rw [Bool.eq_iff_iff]
  simp [DKey.mk.injEq]
 rw [q]
 simp [Op.eqFields,part,a1,a2,a3,e1,e2,e3]
 by_cases h1:a.id=b.id <;> by_cases h2:a.block=b.block <;> by_cases h3:a.kind=b.kind <;> by_cases h4:a.after=b.after <;> by_cases h5:a.before=b.before <;> by_cases h6:a.group=b.group <;> simp [h1,h2,h3,h4,h5,h6]
theorem run_ne_key (xo yo:Operand) (a b:DKey) (w:World) :
  (binS .neq 59 xo yo (.agg a.cells.toArray) (.agg b.cells.toArray)).run Tryz.prog w=.ok (.bool (!decide (a=b))) w:=by
 simp only [binS,Sem.run_bind,run_eqGuard_agg w .neq _ xo yo _ _ Tryz.eqGuardType59,Result.andThen_ok]
 rw [run_neq_struct,eqIn_key];rfl

end Go.Proofs.YtaimlfomodfekaaGreatDoor

namespace Go.Proofs.YtaimlfomodfekaaGreatDoor
open Go Go.K

theorem OBytes.low {B B':Nat} {w:World} {v:Value} {l:List Int} (h:OBytes B w v l) (hb:B'≤B):OBytes B' w v l:=h.base fun g hg=>by have:=(OwnR.ownB h g hg).1;omega
end Go.Proofs.YtaimlfomodfekaaGreatDoor

namespace Go.Proofs.YtaimlfomodfekaaGreatDoor
open Go Go.K

theorem run_bit8 {t:TypeId} {xo yo:Operand} {a b:Nat} (w:World) (ha:a < 256) (hb:b < 256):(binS .or t xo yo (.int .u8 a) (.int .u8 b)).run Tryz.prog w=.ok (.int .u8 ((a ||| b:Nat):Int)) w∧(binS .and t xo yo (.int .u8 a) (.int .u8 b)).run Tryz.prog w=.ok (.int .u8 ((a &&& b:Nat):Int)) w:=by
 have e8:∀ x:Nat,x < 256→(BitVec.ofInt 8 (x:Int)).toNat=x:=fun x hx=>by
  rw [BitVec.toNat_ofInt]
  have e:((2 ^ 8:Nat):Int)=256:=by decide
  rw [e,Int.emod_eq_of_lt (by omega) (by omega)]
  rfl
 constructor
 ·rw [(run_bits w).1]
  show Result.ok (Value.int .u8 (IntKind.u8.wrap ((BitVec.ofInt 8 (a:Int) ||| BitVec.ofInt 8 (b:Int)).toNat:Int))) w=_
  rw [BitVec.toNat_or,e8 a ha,e8 b hb,wrapu8 (by omega) (by have:=Nat.or_lt_two_pow (n:=8) ha hb;omega)]
 ·rw [(run_bits w).2]
  show Result.ok (Value.int .u8 (IntKind.u8.wrap ((BitVec.ofInt 8 (a:Int) &&& BitVec.ofInt 8 (b:Int)).toNat:Int))) w=_
  rw [BitVec.toNat_and,e8 a ha,e8 b hb,wrapu8 (by omega) (by have:=Nat.and_le_left (n:=a) (m:=b);omega)]
theorem condK_bb {b:Bool} {x y:Prop} (h1:b=true→x) (h2:b=false→y):condK (.bool b) x y:=by
 cases b
 ·exact condK_f (h2 rfl)
 ·exact condK_t (h1 rfl)
end Go.Proofs.YtaimlfomodfekaaGreatDoor

namespace Go.Proofs.YtaimlfomodfekaaGreatDoor
open Go Go.K

section
variable {b:List Int} {p q r s:Nat} {bad bad1 bad2 bad3:Bool}
def hC (c:Bool × AVal):List Int:=if c.1 then uv 0 else encV c.2
variable {m:Nat}
end
end Go.Proofs.YtaimlfomodfekaaGreatDoor

namespace Go.Proofs.YtaimlfomodfekaaGreatDoor
open Go Go.K

theorem callyK_g {P:Program} {ok:Nat→Bool} {g:Nat} {bs cs args:List Value} {K:Cont} {w:World} (hok:ok g=true) (h:callK P g (bs++args++cs) K w):callyK P ok (.func (.func g) bs.toArray cs.toArray) args K w:=.inl ⟨g,bs,cs,rfl,hok,by simpa using h⟩
theorem strbytes' {s:ByteArray} {K:Cont} {w:World} (hs:s.size * 4≤140737488355328) (hK:∀ v w',Grow w w'→RBytes (fun z=>w.heap.size≤z∧z < w'.heap.size) w' v (bytesL s)→K v w'):runK Tryz.prog (convert 9 29 (.string s)) K w:=by
 refine ⟨_,_,run_bytes_of_string w _ _ 5 s (by kernel_rfl) (by kernel_rfl) (by kernel_rfl),hK _ _ ((Mod.drew (fun _=>False) w).trans (Mod.alloc _ _ _)) ?_⟩
 have hl:(bytesL s).length=s.size:=by simp [bytesL]
 have hm:s.size≤maxLen:=by simp only [maxLen];omega
 refine ⟨_,_,by rw [hl],by rw [hl];exact grownCap_ge _ _ _ _,grownCap_le_maxLen _ _ _ _ hm,fun i x hx=>⟨_,[.int .u8 x],rfl,⟨Nat.le_refl _,by simp⟩,rfl,fun j u hu=>?_,rfl⟩⟩
 have hj:j=0:=by have:=(List.getElem?_eq_some_iff.1 hu).1;simp at this;exact this
 subst hj
 simp at hu;subst hu
 rw [addr0,Nat.mul_one,Nat.add_zero]
 have hi:=(List.getElem?_eq_some_iff.1 hx).1
 rw [hl] at hi
 have hx':x=((s.data[i]'hi).toNat:Int):=by
  simp only [bytesL,List.getElem?_map,Array.getElem?_toList] at hx
  rw [Array.getElem?_eq_getElem hi] at hx
  simpa using hx.symm
 subst hx'
 have hs2:i < s.data.size:=hi
 refine (cell_allocF w.drew _ _ _ i).trans ?_
 simp [bytesRow,Array.getElem?_append,hi]
section
variable {G G':Nat→Prop} {W W':World} {c:Nat} {l:List Int}
end
end Go.Proofs.YtaimlfomodfekaaGreatDoor

namespace Go.Proofs.YtaimlfomodfekaaGreatDoor
open Go Go.K
theorem add_block (p:Addr) (n:Nat):(p.add n).block=p.block:=by unfold Addr.add;split <;> rfl
theorem box1_i {t:TypeId} {x:Value} {K:Cont} {w:World} (hx:x.cells=#[x]) (h:∀ b w1,b=w.heap.size→w1.heap.size=w.heap.size+1→Grow w w1→w1.cell? ⟨b,0,none⟩=some x→Live w1 ⟨b,0,none⟩→K (.pointer (some ⟨b,0,none⟩)) w1):box1K t x K w:=by
 refine ⟨hx,?_⟩
 obtain ⟨vs',e,h2⟩:=boxn_i (t:=t) (vs:=[x]) (K:=K) (w:=w) fun b w1 h1 h2 h3 h4 h5=>h b w1 h1 h2 h3 (by have:=h4 0 x rfl;rwa [addr0] at this) (by have:=h5 0 (by simp);rwa [addr0] at this)
 have:vs'=[x]:=by
  have e':=Value.agg.inj e
  simpa using (congrArg Array.toList e').symm
 subst this
 exact h2
section
variable {G G':Nat→Prop} {W W':World} {c:Nat} {l:List Int}
theorem flat_sum {α:Type} {f:α→List Int} {m:α→Nat} {k:Nat} (h:∀ a,(f a).length≤k * m a):∀ l:List α,(l.flatMap f).length≤k * (l.map m).sum:=by
 intro l
 induction l with
 | nil=>simp
 | cons a l ih=>have:=h a;simp only [List.flatMap_cons,List.length_append,List.map_cons,List.sum_cons,Nat.mul_add];omega
end
end Go.Proofs.YtaimlfomodfekaaGreatDoor

namespace Go.Proofs.YtaimlfomodfekaaGreatDoor
open Go Go.K
set_option maxRecDepth 100000
def An3:Ann:=(.node [] [] .nil (.cut [] [(4,4),(11,17)] (.node [] [] .nil (.node [] [] (.node [] [] .nil .nil) .nil)) (.node [] [] .nil (.node [] [] .nil (.cut [] [(4,4),(25,50)] (.node [] [] (.dc [1,3,8,11,17,23] [[],[0],[],[0,1,2],[0,1,2,3],[0,1,2,3,4],[0,1,2,3,4,5],[0,1,2,3,4,5],[0,1,2,3,4,5,6,7],[0,1,2,3,4,5],[0,1,2,3,4,5],[0,1,2,3,4,5,6,7,8,9,10],[0,1,2,3,4,5,6,7,8,9,10,11],[0,1,2,3,4,5,6,7,8,9,10,11,12],[0,1,2,3,4,5,6,7,8,9,10,11,12,13],[0,1,2,3,4,5,6,7,8,9,10,11,12,13,14],[0,1,2,3,4,5,6,7,8,9,10,11,12,13,14],[0,1,2,3,4,5,6,7,8,9,10,11,12,13,14,15,16],[0,1,2,3,4,5,6,7,8,9,10,11,12,13,14,15,16,17],[0,1,2,3,4,5,6,7,8,9,10,11,12,13,14,15,16,17,18],[0,1,2,3,4,5,6,7,8,9,10,11,12,13,14,15,16,17,18,19],[0,1,2,3,4,5,6,7,8,9,10,11,12,13,14,15,16,17,18,19,20],[0,1,2,3,4,5,6,7,8,9,10,11,12,13,14,15,16,17,18,19,20],[0,1,2,3,4,5,6,7,8,9,10,11,12,13,14,15,16,17,18,19,20,21,22],[0,1,2,3,4,5,6,7,8,9,10,11,12,13,14,15,16,17,18,19,20,21,22,23],[0,1,2,3,4,5,6,7,8,9,10,11,12,13,14,15,16,17,18,19,20,21,22,23,24]] [[1,3],[1,3,8,11],[1,3,8,11,17]]) (.node [] [] (.node [] [] .nil .nil) .nil)) (.node [] [] (.node [] [] .nil (.node [] [] (.node [] [] .nil .nil) .nil)) (.cut [] [(4,4),(64,73)] (.node [] [] (.dt [4,6,7] [[],[0],[0,1],[0,1,2],[0,1,2,3],[0,1,2],[0,1,2,5],[0,1,2,5,6],[0,1,2,3,4,5,6,7],[0,1,2,3,4,5,6,7,8]] [] (.op 0 (.op 1 (.op 2 (.op 3 (.op 5 (.br (.op 4 (.op 6 (.op 7 (.op 8 (.op 9 .nil))))) (.op 6 (.br (.op 4 (.op 7 (.op 8 (.op 9 .nil)))) (.op 7 (.op 4 (.op 8 (.op 9 .nil))))))))))))) (.node [] [] (.node [] [] .nil .nil) .nil)) (.node [] [] .nil (.node [] [] (.node [] [] .nil (.node [81] [(10,10),(81,87)] (.node [] [] .nil (.node [] [] (.node [] [] .nil .nil) (.node [] [] (.node [] [] .nil .nil) .nil))) .nil)) (.node [] [] .nil .nil))))))))))
def S3 (v0 v1:Value) (K:Cont) (w:World):Prop:=by
 refine' (?f:∀ B R,PX Tryz.prog okf K (PG Tryz.prog okf Tryz.f3 An3 [v0,v1] w) B R→Prop) _ _ ⟨?a,?b⟩
 case a=>intro _;intros;conv=>lhs;reduce
 case b=>dsimp only [PI,plit_eq];rfl
 exact fun _ R _=>R
theorem S3_ok {v0 v1:Value} {K:Cont} {w:World} (h:S3 v0 v1 K w):callK Tryz.prog 3 [v0,v1] K w:=okS An3 good mixed Tryz.func3 (by kernel_rfl) h (by kernel_rfl)

def An15:Ann:=(.node [] [] .nil (.node [] [] .nil (.node [] [] .nil (.node [] [] .nil (.node [] [] .nil (.cut [] [(20,40)] (.node [] [(20,40)] (.cut [] [(20,33)] (.node [] [] .nil (.node [] [] .nil .nil)) (.dc [3,4,5,7] [[],[0],[],[2],[2,3],[0,1,2,3,4],[0,1,2,3,4,5],[0,1,2,3,4,5,6]] [[3,4,5]])) .nil) (.node [] [] (.node [] [] .nil (.node [] [] (.node [] [] .nil .nil) .nil)) (.node [] [] .nil .nil))))))))
def S15 (v0:Value) (K:Cont) (w:World):Prop:=by
 refine' (?f:∀ B R,PX Tryz.prog okf K (PG Tryz.prog okf Tryz.f15 An15 [v0] w) B R→Prop) _ _ ⟨?a,?b⟩
 case a=>intro _;intros;conv=>lhs;reduce
 case b=>dsimp only [PI,plit_eq];rfl
 exact fun _ R _=>R
theorem S15_ok {v0:Value} {K:Cont} {w:World} (h:S15 v0 K w):callK Tryz.prog 15 [v0] K w:=okS An15 good mixed Tryz.func15 (by kernel_rfl) h (by kernel_rfl)

def An13:Ann:=(.node [] [] .nil (.cut [] [(4,4),(9,38)] (.node [] [] .nil (.node [] [] (.node [] [] .nil .nil) .nil)) (.node [] [] (.node [] [] .nil (.node [5] [(4,5),(39,56)] (.node [] [] (.node [] [] .nil (.node [] [] .nil .nil)) (.node [] [] (.node [] [] .draw (.node [] [] (.node [] [] .nil .nil) .nil)) .nil)) .nil)) (.node [] [] (.node [] [] .nil (.node [6] [(4,4),(6,8),(57,131)] (.node [] [] (.node [] [] .nil (.node [] [] .nil .nil)) (.cut [] [(4,4),(7,8),(64,131)] (.cut [7,8] [(7,8),(64,73)] (.dt [10,11,12,13] [[],[0],[],[0,1,2],[0,1,2,3],[],[5],[],[5,6,7],[5,6,7,8],[],[],[0,1,2,3,4,10,11],[0,1,2,3,4,5,6,7,8,9,10,11,12]] [] (.op 0 (.op 1 (.op 2 (.op 3 (.op 4 (.op 5 (.op 6 (.op 7 (.op 8 (.op 9 (.br (.op 10 (.op 11 (.op 12 (.op 13 .nil)))) (.op 11 (.op 10 (.op 12 (.op 13 .nil)))))))))))))))) (.node [] [] .nil (.node [] [] (.node [] [] .nil .nil) .nil))) .nil)) .nil)) (.node [] [] .nil .nil)))))
def S13 (v0 v1:Value) (K:Cont) (w:World):Prop:=by
 refine' (?f:∀ B R,PX Tryz.prog okf K (PG Tryz.prog okf Tryz.f13 An13 [v0,v1] w) B R→Prop) _ _ ⟨?a,?b⟩
 case a=>intro _;intros;conv=>lhs;reduce
 case b=>dsimp only [PI,plit_eq];rfl
 exact fun _ R _=>R
theorem S13_ok {v0 v1:Value} {K:Cont} {w:World} (h:S13 v0 v1 K w):callK Tryz.prog 13 [v0,v1] K w:=okS An13 good mixed Tryz.func13 (by kernel_rfl) h (by kernel_rfl)

def An11:Ann:=(.node [] [] .nil (.node [] [] (.node [] [] .nil (.node [3] [(2,17)] (.node [] [] (.node [] [] .nil (.node [] [] .nil .nil)) (.node [] [] (.node [] [] .nil (.node [] [] (.node [] [] .nil .nil) .nil)) .nil)) .nil)) (.node [] [] .nil .nil)))
def S11 (v0:Value) (K:Cont) (w:World):Prop:=by
 refine' (?f:∀ B R,PX Tryz.prog okf K (PG Tryz.prog okf Tryz.f11 An11 [v0] w) B R→Prop) _ _ ⟨?a,?b⟩
 case a=>intro _;intros;conv=>lhs;reduce
 case b=>dsimp only [PI,plit_eq];rfl
 exact fun _ R _=>R
theorem S11_ok {v0:Value} {K:Cont} {w:World} (h:S11 v0 K w):callK Tryz.prog 11 [v0] K w:=okS An11 good mixed Tryz.func11 (by kernel_rfl) h (by kernel_rfl)

def An14:Ann:=(.node [] [] .nil (.node [] [] .nil (.node [] [] (.node [] [] .nil (.node [3,4] [(3,5),(23,65)] (.node [] [] (.node [] [] .nil (.node [] [] .nil .nil)) (.node [] [] (.node [] [] .nil (.node [] [] .nil (.node [] [] .nil (.node [] [] .nil (.node [] [] .nil (.node [] [] .nil .nil)))))) .nil)) .nil)) (.node [] [] .nil (.node [] [] .nil (.node [] [] (.node [] [] .nil (.node [3,6] [(3,3),(6,17),(76,203)] (.node [] [] (.node [] [] .nil (.node [] [] .nil .nil)) (.node [] [] (.node [] [] .nil (.node [] [] .nil (.node [] [] .nil (.cut [3] [(3,3),(105,110)] (.node [] [] .nil (.node [] [] .nil .nil)) (.cut [3] [(3,3),(111,116)] (.node [] [] .nil (.node [] [] .nil .nil)) (.cut [3] [(3,3),(117,127)] (.node [] [] .nil (.node [] [] (.node [] [] .nil .nil) .nil)) (.cut [3] [(3,3),(15,17),(128,191)] (.node [] [] .nil (.node [] [] (.node [] [] .nil (.node [] [] .nil (.node [3,15] [(3,3),(15,17),(136,191)] (.node [] [] (.node [] [] .nil (.node [] [] .nil .nil)) (.node [] [] (.node [] [] .nil (.node [] [] .nil (.node [] [] .nil (.node [] [] .nil (.node [] [] (.node [] [] .nil (.node [3,17] [(3,3),(17,17),(166,181)] (.node [] [] (.node [] [] .nil (.node [] [] .nil .nil)) (.node [] [] .nil .nil)) .nil)) (.node [] [] .nil .nil)))))) .nil)) .nil))) .nil)) (.cut [3] [(3,3),(192,197)] (.node [] [] .nil (.node [] [] .nil .nil)) (.node [] [] .nil (.node [] [] .nil .nil)))))))))) .nil)) .nil)) (.node [] [] .nil .nil)))))))
def S14 (v0:Value) (K:Cont) (w:World):Prop:=by
 refine' (?f:∀ B R,PX Tryz.prog okf K (PG Tryz.prog okf Tryz.f14 An14 [v0] w) B R→Prop) _ _ ⟨?a,?b⟩
 case a=>intro _;intros;conv=>lhs;reduce
 case b=>dsimp only [PI,plit_eq];rfl
 exact fun _ R _=>R
theorem S14_ok {v0:Value} {K:Cont} {w:World} (h:S14 v0 K w):callK Tryz.prog 14 [v0] K w:=okS An14 good mixed Tryz.func14 (by kernel_rfl) h (by kernel_rfl)

def An6:Ann:=(.node [] [] .nil (.node [] [] .nil .nil))
def S6 (v0:Value) (K:Cont) (w:World):Prop:=by
 refine' (?f:∀ B R,PX Tryz.prog okf K (PG Tryz.prog okf Tryz.f6 An6 [v0] w) B R→Prop) _ _ ⟨?a,?b⟩
 case a=>intro _;intros;conv=>lhs;reduce
 case b=>dsimp only [PI,plit_eq];rfl
 exact fun _ R _=>R
theorem S6_ok {v0:Value} {K:Cont} {w:World} (h:S6 v0 K w):callK Tryz.prog 6 [v0] K w:=okS An6 good mixed Tryz.func6 (by kernel_rfl) h (by kernel_rfl)

def An8:Ann:=(.node [] [] .nil (.node [] [] .nil (.node [] [] .nil (.node [] [] (.node [] [] .nil (.node [4] [(4,5),(17,48)] (.node [] [] (.node [] [] .nil (.node [] [] .nil .nil)) (.node [] [] (.node [] [] .nil (.node [] [] .nil (.node [] [] .nil (.node [] [] .nil .nil)))) .nil)) .nil)) (.node [] [] .nil .nil)))))
def S8 (v0:Value) (K:Cont) (w:World):Prop:=by
 refine' (?f:∀ B R,PX Tryz.prog okf K (PG Tryz.prog okf Tryz.f8 An8 [v0] w) B R→Prop) _ _ ⟨?a,?b⟩
 case a=>intro _;intros;conv=>lhs;reduce
 case b=>dsimp only [PI,plit_eq];rfl
 exact fun _ R _=>R
theorem S8_ok {v0:Value} {K:Cont} {w:World} (h:S8 v0 K w):callK Tryz.prog 8 [v0] K w:=okS An8 good mixed Tryz.func8 (by kernel_rfl) h (by kernel_rfl)

def An9:Ann:=(.node [] [] .nil (.node [] [] (.node [] [] .nil (.node [] [] (.node [] [] .nil .nil) .nil)) (.node [] [] .nil (.node [] [] .nil (.node [] [] .nil (.node [] [] .nil (.node [] [] (.node [] [] .nil (.node [29] [(6,6),(29,36)] (.node [] [] .nil (.node [] [] (.node [] [] .nil .nil) (.node [] [] (.node [] [] .nil .nil) .nil))) .nil)) (.node [] [] .nil .nil))))))))
def S9 (v0:Value) (K:Cont) (w:World):Prop:=by
 refine' (?f:∀ B R,PX Tryz.prog okf K (PG Tryz.prog okf Tryz.f9 An9 [v0] w) B R→Prop) _ _ ⟨?a,?b⟩
 case a=>intro _;intros;conv=>lhs;reduce
 case b=>dsimp only [PI,plit_eq];rfl
 exact fun _ R _=>R
theorem S9_ok {v0:Value} {K:Cont} {w:World} (h:S9 v0 K w):callK Tryz.prog 9 [v0] K w:=okS An9 good mixed Tryz.func9 (by kernel_rfl) h (by kernel_rfl)

def An10:Ann:=(.node [] [] .nil (.node [] [] .nil .nil))
def S10 (v0:Value) (K:Cont) (w:World):Prop:=by
 refine' (?f:∀ B R,PX Tryz.prog okf K (PG Tryz.prog okf Tryz.f10 An10 [v0] w) B R→Prop) _ _ ⟨?a,?b⟩
 case a=>intro _;intros;conv=>lhs;reduce
 case b=>dsimp only [PI,plit_eq];rfl
 exact fun _ R _=>R
theorem S10_ok {v0:Value} {K:Cont} {w:World} (h:S10 v0 K w):callK Tryz.prog 10 [v0] K w:=okS An10 good mixed Tryz.func10 (by kernel_rfl) h (by kernel_rfl)

def An12:Ann:=(.node [] [] .nil (.node [] [] .nil .nil))
def S12 (v0 v1:Value) (K:Cont) (w:World):Prop:=by
 refine' (?f:∀ B R,PX Tryz.prog okf K (PG Tryz.prog okf Tryz.f12 An12 [v0,v1] w) B R→Prop) _ _ ⟨?a,?b⟩
 case a=>intro _;intros;conv=>lhs;reduce
 case b=>dsimp only [PI,plit_eq];rfl
 exact fun _ R _=>R
theorem S12_ok {v0 v1:Value} {K:Cont} {w:World} (h:S12 v0 v1 K w):callK Tryz.prog 12 [v0,v1] K w:=okS An12 good mixed Tryz.func12 (by kernel_rfl) h (by kernel_rfl)

def An42:Ann:=(.node [] [] .nil (.node [] [] .nil (.node [] [] (.node [4,5] [(4,5),(14,29)] (.cut [] [(14,22)] (.node [] [] .nil (.node [] [] .nil .nil)) (.node [] [] .nil .nil)) .nil) (.node [] [] .nil .nil))))
def S42 (v0 v1:Value) (K:Cont) (w:World):Prop:=by
 refine' (?f:∀ B R,PX Tryz.prog okf K (PG Tryz.prog okf Tryz.f42 An42 [v0,v1] w) B R→Prop) _ _ ⟨?a,?b⟩
 case a=>intro _;intros;conv=>lhs;reduce
 case b=>dsimp only [PI,plit_eq];rfl
 exact fun _ R _=>R
theorem S42_ok {v0 v1:Value} {K:Cont} {w:World} (h:S42 v0 v1 K w):callK Tryz.prog 42 [v0,v1] K w:=okS An42 good mixed Tryz.func42 (by kernel_rfl) h (by kernel_rfl)

def An43:Ann:=(.node [] [] .nil (.node [] [] .nil (.node [] [] .nil (.node [] [] .nil (.node [] [] .nil (.node [] [] .nil (.node [] [] .nil (.node [] [] .nil .nil))))))))
def S43 (v0:Value) (K:Cont) (w:World):Prop:=by
 refine' (?f:∀ B R,PX Tryz.prog okf K (PG Tryz.prog okf Tryz.f43 An43 [v0] w) B R→Prop) _ _ ⟨?a,?b⟩
 case a=>intro _;intros;conv=>lhs;reduce
 case b=>dsimp only [PI,plit_eq];rfl
 exact fun _ R _=>R
theorem S43_ok {v0:Value} {K:Cont} {w:World} (h:S43 v0 K w):callK Tryz.prog 43 [v0] K w:=okS An43 good mixed Tryz.func43 (by kernel_rfl) h (by kernel_rfl)

def An44:Ann:=(.node [] [] .nil (.node [] [] (.dc [8] [[],[0],[0,1],[0,1,2],[],[4],[4,5],[4,5,6],[0,1,2,3,4,5,6,7],[0,1,2,3,4,5,6,7,8],[0,1,2,3,4,5,6,7,8,9],[0,1,2,3,4,5,6,7,8,9],[0,1,2,3,4,5,6,7,8,9],[0,1,2,3,4,5,6,7,8,9,10],[0,1,2,3,4,5,6,7,8,9,10,11,13],[0,1,2,3,4,5,6,7,8,9,10,11,12,13,14]] []) (.node [] [] (.node [] [] .nil (.node [] [] (.node [] [] .nil (.node [] [] .nil .nil)) .nil)) (.node [] [] .nil (.node [] [] .nil .nil)))))
def S44 (v0:Value) (K:Cont) (w:World):Prop:=by
 refine' (?f:∀ B R,PX Tryz.prog okf K (PG Tryz.prog okf Tryz.f44 An44 [v0] w) B R→Prop) _ _ ⟨?a,?b⟩
 case a=>intro _;intros;conv=>lhs;reduce
 case b=>dsimp only [PI,plit_eq];rfl
 exact fun _ R _=>R
theorem S44_ok {v0:Value} {K:Cont} {w:World} (h:S44 v0 K w):callK Tryz.prog 44 [v0] K w:=okS An44 good mixed Tryz.func44 (by kernel_rfl) h (by kernel_rfl)

def An45:Ann:=(.node [] [] .nil (.node [] [] .nil (.cut [] [(12,18)] (.node [] [] .nil (.node [] [] .nil .nil)) (.node [] [] (.node [] [] .nil (.node [] [(5,7),(23,55)] (.node [] [] .nil (.node [] [] (.node [] [] .nil .nil) (.node [] [] .nil (.cut [] [(6,7),(26,35)] (.node [] [] .nil (.node [] [] .nil (.node [] [] .nil .nil))) (.node [] [] .nil (.node [] [] .nil (.node [] [] .nil (.node [] [] .nil (.node [] [] .nil (.node [] [] .nil (.node [] [] .nil .nil))))))))))) .nil)) (.node [] [] .nil .nil)))))
def S45 (v0:Value) (K:Cont) (w:World):Prop:=by
 refine' (?f:∀ B R,PX Tryz.prog okf K (PG Tryz.prog okf Tryz.f45 An45 [v0] w) B R→Prop) _ _ ⟨?a,?b⟩
 case a=>intro _;intros;conv=>lhs;reduce
 case b=>dsimp only [PI,plit_eq];rfl
 exact fun _ R _=>R
theorem S45_ok {v0:Value} {K:Cont} {w:World} (h:S45 v0 K w):callK Tryz.prog 45 [v0] K w:=okS An45 good mixed Tryz.func45 (by kernel_rfl) h (by kernel_rfl)

def An30:Ann:=(.node [] [] .nil (.node [] [] .nil (.cut [] [(2,2),(21,54)] (.node [] [] .nil (.node [] [] (.node [] [] .nil .nil) .nil)) (.node [] [] .nil .nil))))
def S30 (v0:Value) (K:Cont) (w:World):Prop:=by
 refine' (?f:∀ B R,PX Tryz.prog okf K (PG Tryz.prog okf Tryz.f30 An30 [v0] w) B R→Prop) _ _ ⟨?a,?b⟩
 case a=>intro _;intros;conv=>lhs;reduce
 case b=>dsimp only [PI,plit_eq];rfl
 exact fun _ R _=>R
theorem S30_ok {v0:Value} {K:Cont} {w:World} (h:S30 v0 K w):callK Tryz.prog 30 [v0] K w:=okS An30 good mixed Tryz.func30 (by kernel_rfl) h (by kernel_rfl)

def An36:Ann:=(.node [] [] .nil (.node [] [] .nil .nil))
def S36 (v0:Value) (K:Cont) (w:World):Prop:=by
 refine' (?f:∀ B R,PX Tryz.prog okf K (PG Tryz.prog okf Tryz.f36 An36 [v0] w) B R→Prop) _ _ ⟨?a,?b⟩
 case a=>intro _;intros;conv=>lhs;reduce
 case b=>dsimp only [PI,plit_eq];rfl
 exact fun _ R _=>R
theorem S36_ok {v0:Value} {K:Cont} {w:World} (h:S36 v0 K w):callK Tryz.prog 36 [v0] K w:=okS An36 good mixed Tryz.func36 (by kernel_rfl) h (by kernel_rfl)

def An37:Ann:=(.node [] [] .nil (.node [] [] (.node [] [] .nil (.node [] [] (.node [] [] .nil .nil) .nil)) (.node [] [] .nil .nil)))
def S37 (v0:Value) (K:Cont) (w:World):Prop:=by
 refine' (?f:∀ B R,PX Tryz.prog okf K (PG Tryz.prog okf Tryz.f37 An37 [v0] w) B R→Prop) _ _ ⟨?a,?b⟩
 case a=>intro _;intros;conv=>lhs;reduce
 case b=>dsimp only [PI,plit_eq];rfl
 exact fun _ R _=>R
theorem S37_ok {v0:Value} {K:Cont} {w:World} (h:S37 v0 K w):callK Tryz.prog 37 [v0] K w:=okS An37 good mixed Tryz.func37 (by kernel_rfl) h (by kernel_rfl)

def An38:Ann:=(.node [] [] .nil (.node [] [] (.node [] [] .nil (.node [] [] .nil (.node [] [] (.node [] [] .nil .nil) (.node [] [] .nil (.node [] [] (.node [] [] .nil .nil) (.node [] [] .nil (.node [] [] (.node [] [] .nil .nil) (.cut [16] [(16,19)] (.node [] [] .nil (.node [] [] .nil (.node [] [] .nil (.node [] [] .nil .nil)))) (.node [] [] (.node [] [] .nil .nil) (.cut [20] [(20,22)] (.node [] [] .nil (.node [] [] .nil .nil)) (.node [] [] (.node [] [] .nil .nil) (.node [] [] .nil (.node [] [] (.node [] [] .nil .nil) (.cut [25] [(25,28)] (.node [] [] .nil (.node [] [] .nil (.node [] [] .nil (.node [] [] .nil .nil)))) (.node [] [] (.node [] [] .nil .nil) (.cut [29] [(29,38)] (.node [] [] .nil (.node [] [] .nil (.node [] [] .nil (.node [] [] .nil (.node [] [] .nil (.node [] [] .nil (.node [] [] .nil (.node [] [] .nil (.node [] [] .nil (.node [] [] .nil (.node [] [] .nil (.node [] [] .nil (.node [] [] .nil (.node [] [] .nil (.node [] [] .nil (.node [] [] .nil .nil)))))))))))))))) (.node [] [] (.node [] [] .nil .nil) .nil))))))))))))))))) (.node [] [] .nil .nil)))
def S38 (v0:Value) (K:Cont) (w:World):Prop:=by
 refine' (?f:∀ B R,PX Tryz.prog okf K (PG Tryz.prog okf Tryz.f38 An38 [v0] w) B R→Prop) _ _ ⟨?a,?b⟩
 case a=>intro _;intros;conv=>lhs;reduce
 case b=>dsimp only [PI,plit_eq];rfl
 exact fun _ R _=>R
theorem S38_ok {v0:Value} {K:Cont} {w:World} (h:S38 v0 K w):callK Tryz.prog 38 [v0] K w:=okS An38 good mixed Tryz.func38 (by kernel_rfl) h (by kernel_rfl)

def An39:Ann:=(.node [] [] .nil (.node [] [] .nil (.node [] [] (.node [] [] .nil (.node [3,4] [(3,4),(9,30)] (.node [] [] (.node [] [] .nil (.node [] [] .nil .nil)) (.node [] [] (.node [] [] .nil .nil) .nil)) .nil)) (.node [] [] .nil .nil))))
def S39 (v0:Value) (K:Cont) (w:World):Prop:=by
 refine' (?f:∀ B R,PX Tryz.prog okf K (PG Tryz.prog okf Tryz.f39 An39 [v0] w) B R→Prop) _ _ ⟨?a,?b⟩
 case a=>intro _;intros;conv=>lhs;reduce
 case b=>dsimp only [PI,plit_eq];rfl
 exact fun _ R _=>R
theorem S39_ok {v0:Value} {K:Cont} {w:World} (h:S39 v0 K w):callK Tryz.prog 39 [v0] K w:=okS An39 good mixed Tryz.func39 (by kernel_rfl) h (by kernel_rfl)

def An40:Ann:=(.node [] [] .nil (.node [] [] .nil (.node [] [] (.node [] [] .nil (.node [3,4] [(3,4),(9,38)] (.node [] [] (.node [] [] .nil (.node [] [] .nil .nil)) (.node [] [] (.node [] [] .nil (.node [] [] .nil .nil)) .nil)) .nil)) (.node [] [] .nil .nil))))
def S40 (v0:Value) (K:Cont) (w:World):Prop:=by
 refine' (?f:∀ B R,PX Tryz.prog okf K (PG Tryz.prog okf Tryz.f40 An40 [v0] w) B R→Prop) _ _ ⟨?a,?b⟩
 case a=>intro _;intros;conv=>lhs;reduce
 case b=>dsimp only [PI,plit_eq];rfl
 exact fun _ R _=>R
theorem S40_ok {v0:Value} {K:Cont} {w:World} (h:S40 v0 K w):callK Tryz.prog 40 [v0] K w:=okS An40 good mixed Tryz.func40 (by kernel_rfl) h (by kernel_rfl)

def An41:Ann:=(.node [] [] .nil (.node [] [] .nil .nil))
def S41 (v0:Value) (K:Cont) (w:World):Prop:=by
 refine' (?f:∀ B R,PX Tryz.prog okf K (PG Tryz.prog okf Tryz.f41 An41 [v0] w) B R→Prop) _ _ ⟨?a,?b⟩
 case a=>intro _;intros;conv=>lhs;reduce
 case b=>dsimp only [PI,plit_eq];rfl
 exact fun _ R _=>R
theorem S41_ok {v0:Value} {K:Cont} {w:World} (h:S41 v0 K w):callK Tryz.prog 41 [v0] K w:=okS An41 good mixed Tryz.func41 (by kernel_rfl) h (by kernel_rfl)

def An16:Ann:=(.node [] [] .nil (.node [] [] .nil (.node [] [] (.node [] [] .nil (.node [3,4] [(3,4),(12,27)] (.node [] [] (.node [] [] .nil (.node [] [] .nil .nil)) (.node [] [] .nil .nil)) .nil)) (.node [] [] .nil .nil))))
def S16 (v0:Value) (K:Cont) (w:World):Prop:=by
 refine' (?f:∀ B R,PX Tryz.prog okf K (PG Tryz.prog okf Tryz.f16 An16 [v0] w) B R→Prop) _ _ ⟨?a,?b⟩
 case a=>intro _;intros;conv=>lhs;reduce
 case b=>dsimp only [PI,plit_eq];rfl
 exact fun _ R _=>R
theorem S16_ok {v0:Value} {K:Cont} {w:World} (h:S16 v0 K w):callK Tryz.prog 16 [v0] K w:=okS An16 good mixed Tryz.func16 (by kernel_rfl) h (by kernel_rfl)

def An21:Ann:=(.node [] [] .nil (.node [] [] .nil (.node [15] [(7,7),(15,22)] (.node [] [] .nil (.node [] [] (.node [] [] .nil .nil) (.node [] [] (.node [] [] .nil .nil) .nil))) .nil)))
def S21 (v0 v1 v2:Value) (K:Cont) (w:World):Prop:=by
 refine' (?f:∀ B R,PX Tryz.prog okf K (PG Tryz.prog okf Tryz.f21 An21 [v0,v1,v2] w) B R→Prop) _ _ ⟨?a,?b⟩
 case a=>intro _;intros;conv=>lhs;reduce
 case b=>dsimp only [PI,plit_eq];rfl
 exact fun _ R _=>R
theorem S21_ok {v0 v1 v2:Value} {K:Cont} {w:World} (h:S21 v0 v1 v2 K w):callK Tryz.prog 21 [v0,v1,v2] K w:=okS An21 good mixed Tryz.func21 (by kernel_rfl) h (by kernel_rfl)

def An22:Ann:=(.node [] [] .nil (.node [] [] .nil (.node [] [] .nil (.node [] [] .nil (.node [] [] .nil (.node [] [] .nil .nil))))))
def S22 (v0 v1:Value) (K:Cont) (w:World):Prop:=by
 refine' (?f:∀ B R,PX Tryz.prog okf K (PG Tryz.prog okf Tryz.f22 An22 [v0,v1] w) B R→Prop) _ _ ⟨?a,?b⟩
 case a=>intro _;intros;conv=>lhs;reduce
 case b=>dsimp only [PI,plit_eq];rfl
 exact fun _ R _=>R
theorem S22_ok {v0 v1:Value} {K:Cont} {w:World} (h:S22 v0 v1 K w):callK Tryz.prog 22 [v0,v1] K w:=okS An22 good mixed Tryz.func22 (by kernel_rfl) h (by kernel_rfl)

def An23:Ann:=.nil
def S23 (v0 v1:Value) (K:Cont) (w:World):Prop:=by
 refine' (?f:∀ B R,PX Tryz.prog okf K (PG Tryz.prog okf Tryz.f23 An23 [v0,v1] w) B R→Prop) _ _ ⟨?a,?b⟩
 case a=>intro _;intros;conv=>lhs;reduce
 case b=>dsimp only [PI,plit_eq];rfl
 exact fun _ R _=>R
theorem S23_ok {v0 v1:Value} {K:Cont} {w:World} (h:S23 v0 v1 K w):callK Tryz.prog 23 [v0,v1] K w:=okS An23 good mixed Tryz.func23 (by kernel_rfl) h (by kernel_rfl)

def An24:Ann:=(.node [] [] .nil (.node [] [] .nil (.node [] [] .nil (.node [] [(5,7),(17,53)] (.node [] [] .nil (.node [] [] (.node [] [] .nil .nil) (.node [] [] .nil (.cut [] [(6,7),(20,30)] (.node [] [] .nil (.node [] [] .nil (.node [] [] .nil .nil))) (.node [] [] .nil (.node [] [] .nil (.node [] [] .nil (.node [] [] .nil (.node [] [] .nil (.node [] [] .nil (.node [] [] .nil .nil))))))))))) .nil))))
def S24 (v0 v1:Value) (K:Cont) (w:World):Prop:=by
 refine' (?f:∀ B R,PX Tryz.prog okf K (PG Tryz.prog okf Tryz.f24 An24 [v0,v1] w) B R→Prop) _ _ ⟨?a,?b⟩
 case a=>intro _;intros;conv=>lhs;reduce
 case b=>dsimp only [PI,plit_eq];rfl
 exact fun _ R _=>R
theorem S24_ok {v0 v1:Value} {K:Cont} {w:World} (h:S24 v0 v1 K w):callK Tryz.prog 24 [v0,v1] K w:=okS An24 good mixed Tryz.func24 (by kernel_rfl) h (by kernel_rfl)

def An25:Ann:=(.node [] [] .nil (.node [] [] .nil .nil))
def S25 (v0 v1:Value) (K:Cont) (w:World):Prop:=by
 refine' (?f:∀ B R,PX Tryz.prog okf K (PG Tryz.prog okf Tryz.f25 An25 [v0,v1] w) B R→Prop) _ _ ⟨?a,?b⟩
 case a=>intro _;intros;conv=>lhs;reduce
 case b=>dsimp only [PI,plit_eq];rfl
 exact fun _ R _=>R
theorem S25_ok {v0 v1:Value} {K:Cont} {w:World} (h:S25 v0 v1 K w):callK Tryz.prog 25 [v0,v1] K w:=okS An25 good mixed Tryz.func25 (by kernel_rfl) h (by kernel_rfl)

def An26:Ann:=(.node [] [] .nil (.node [] [] (.dc [2,7,8] [[],[0],[0,1],[0,1,2],[0,1,2,3],[0,1,2,3,4],[0,1,2,3,4],[0,1,2,3,4,6],[0,1,2,3,4,5,6,7],[0,1,2,3,4,5,6,7,8],[0,1,2,3,4,5,6,7,8,9],[0,1,2,3,4,5,6,7,8,9,10]] [[2]]) .nil))
def S26 (v0:Value) (K:Cont) (w:World):Prop:=by
 refine' (?f:∀ B R,PX Tryz.prog okf K (PG Tryz.prog okf Tryz.f26 An26 [v0] w) B R→Prop) _ _ ⟨?a,?b⟩
 case a=>intro _;intros;conv=>lhs;reduce
 case b=>dsimp only [PI,plit_eq];rfl
 exact fun _ R _=>R
theorem S26_ok {v0:Value} {K:Cont} {w:World} (h:S26 v0 K w):callK Tryz.prog 26 [v0] K w:=okS An26 good mixed Tryz.func26 (by kernel_rfl) h (by kernel_rfl)

def An27:Ann:=(.node [] [] .nil (.node [] [] (.node [] [] .nil (.node [] [] (.node [] [] .nil .nil) .nil)) (.node [] [] .nil .nil)))
def S27 (v0:Value) (K:Cont) (w:World):Prop:=by
 refine' (?f:∀ B R,PX Tryz.prog okf K (PG Tryz.prog okf Tryz.f27 An27 [v0] w) B R→Prop) _ _ ⟨?a,?b⟩
 case a=>intro _;intros;conv=>lhs;reduce
 case b=>dsimp only [PI,plit_eq];rfl
 exact fun _ R _=>R
theorem S27_ok {v0:Value} {K:Cont} {w:World} (h:S27 v0 K w):callK Tryz.prog 27 [v0] K w:=okS An27 good mixed Tryz.func27 (by kernel_rfl) h (by kernel_rfl)

def An28:Ann:=(.node [] [] .nil (.node [] [] .nil .nil))
def S28 (v0 v1:Value) (K:Cont) (w:World):Prop:=by
 refine' (?f:∀ B R,PX Tryz.prog okf K (PG Tryz.prog okf Tryz.f28 An28 [v0,v1] w) B R→Prop) _ _ ⟨?a,?b⟩
 case a=>intro _;intros;conv=>lhs;reduce
 case b=>dsimp only [PI,plit_eq];rfl
 exact fun _ R _=>R
theorem S28_ok {v0 v1:Value} {K:Cont} {w:World} (h:S28 v0 v1 K w):callK Tryz.prog 28 [v0,v1] K w:=okS An28 good mixed Tryz.func28 (by kernel_rfl) h (by kernel_rfl)

def An29:Ann:=(.node [] [] .nil (.node [] [] .nil (.node [] [] (.node [] [] .nil (.node [] [(5,9),(17,51)] (.node [] [] .nil (.node [] [] (.node [] [] .nil .nil) (.node [] [] .nil (.cut [] [(6,9),(20,35)] (.node [] [] .nil (.node [] [] .nil (.node [] [] (.node [] [] .nil .nil) .nil))) (.node [] [] .nil (.node [] [] .nil (.node [] [] .nil (.node [] [] .nil (.node [] [] .nil (.node [] [] .nil (.node [] [] .nil .nil))))))))))) .nil)) (.node [] [] .nil .nil))))
def S29 (v0:Value) (K:Cont) (w:World):Prop:=by
 refine' (?f:∀ B R,PX Tryz.prog okf K (PG Tryz.prog okf Tryz.f29 An29 [v0] w) B R→Prop) _ _ ⟨?a,?b⟩
 case a=>intro _;intros;conv=>lhs;reduce
 case b=>dsimp only [PI,plit_eq];rfl
 exact fun _ R _=>R
theorem S29_ok {v0:Value} {K:Cont} {w:World} (h:S29 v0 K w):callK Tryz.prog 29 [v0] K w:=okS An29 good mixed Tryz.func29 (by kernel_rfl) h (by kernel_rfl)

def An31:Ann:=(.node [] [] .nil (.node [] [] (.node [] [] .nil (.node [] [] (.node [] [] .nil .nil) .nil)) (.node [] [] (.node [] [] .nil (.node [13] [(4,5),(13,25)] (.node [] [] .nil (.node [] [] (.node [] [] .nil .nil) (.node [] [] (.node [] [] .nil (.node [] [] .draw (.node [] [] (.node [] [] .nil .nil) .nil))) .nil))) .nil)) (.node [] [] .nil .nil))))
def S31 (v0 v1:Value) (K:Cont) (w:World):Prop:=by
 refine' (?f:∀ B R,PX Tryz.prog okf K (PG Tryz.prog okf Tryz.f31 An31 [v0,v1] w) B R→Prop) _ _ ⟨?a,?b⟩
 case a=>intro _;intros;conv=>lhs;reduce
 case b=>dsimp only [PI,plit_eq];rfl
 exact fun _ R _=>R
theorem S31_ok {v0 v1:Value} {K:Cont} {w:World} (h:S31 v0 v1 K w):callK Tryz.prog 31 [v0,v1] K w:=okS An31 good mixed Tryz.func31 (by kernel_rfl) h (by kernel_rfl)

def An32:Ann:=(.node [] [] .nil (.node [] [] (.node [] [] .nil (.node [] [] (.node [] [] .nil .nil) .nil)) (.node [] [] (.node [] [] .nil (.node [17] [(6,9),(17,31)] (.node [] [] .nil (.node [] [] (.node [] [] .nil .nil) (.node [] [] (.node [] [] .nil (.node [] [] .nil (.node [] [] .nil (.node [] [] (.node [] [] .nil .nil) .nil)))) .nil))) .nil)) (.node [] [] .nil .nil))))
def S32 (v0 v1 v2:Value) (K:Cont) (w:World):Prop:=by
 refine' (?f:∀ B R,PX Tryz.prog okf K (PG Tryz.prog okf Tryz.f32 An32 [v0,v1,v2] w) B R→Prop) _ _ ⟨?a,?b⟩
 case a=>intro _;intros;conv=>lhs;reduce
 case b=>dsimp only [PI,plit_eq];rfl
 exact fun _ R _=>R
theorem S32_ok {v0 v1 v2:Value} {K:Cont} {w:World} (h:S32 v0 v1 v2 K w):callK Tryz.prog 32 [v0,v1,v2] K w:=okS An32 good mixed Tryz.func32 (by kernel_rfl) h (by kernel_rfl)

def An66:Ann:=(.node [] [] .nil (.node [] [] (.dc [8] [[],[0],[0,1],[0,1,2],[],[4],[4,5],[4,5,6],[0,1,2,3,4,5,6,7],[0,1,2,3,4,5,6,7,8],[0,1,2,3,4,5,6,7,8,9],[0,1,2,3,4,5,6,7,8,9],[0,1,2,3,4,5,6,7,8,9],[0,1,2,3,4,5,6,7,8,9,10],[0,1,2,3,4,5,6,7,8,9,10,11,13],[0,1,2,3,4,5,6,7,8,9,10,11,12,13,14]] []) (.cut [] [(4,4),(21,30)] (.node [] [] .nil (.node [] [] (.node [] [] .nil (.node [] [] .nil .nil)) .nil)) (.node [] [] .nil (.node [] [] .nil .nil)))))
def S66 (v0 v1:Value) (K:Cont) (w:World):Prop:=by
 refine' (?f:∀ B R,PX Tryz.prog okf K (PG Tryz.prog okf Tryz.f66 An66 [v0,v1] w) B R→Prop) _ _ ⟨?a,?b⟩
 case a=>intro _;intros;conv=>lhs;reduce
 case b=>dsimp only [PI,plit_eq];rfl
 exact fun _ R _=>R
theorem S66_ok {v0 v1:Value} {K:Cont} {w:World} (h:S66 v0 v1 K w):callK Tryz.prog 66 [v0,v1] K w:=okS An66 good mixed Tryz.func66 (by kernel_rfl) h (by kernel_rfl)

def An67:Ann:=(.node [] [] .nil (.node [] [] .nil .nil))
def S67 (v0:Value) (K:Cont) (w:World):Prop:=by
 refine' (?f:∀ B R,PX Tryz.prog okf K (PG Tryz.prog okf Tryz.f67 An67 [v0] w) B R→Prop) _ _ ⟨?a,?b⟩
 case a=>intro _;intros;conv=>lhs;reduce
 case b=>dsimp only [PI,plit_eq];rfl
 exact fun _ R _=>R
theorem S67_ok {v0:Value} {K:Cont} {w:World} (h:S67 v0 K w):callK Tryz.prog 67 [v0] K w:=okS An67 good mixed Tryz.func67 (by kernel_rfl) h (by kernel_rfl)

def An51:Ann:=(.node [] [] .nil (.node [] [] (.node [] [] .nil (.node [] [] .nil (.node [] [] (.node [] [] .nil .nil) (.node [] [] .nil (.node [] [] (.node [] [] .nil .nil) (.node [] [] .nil (.node [] [] (.node [] [] .nil .nil) (.node [] [] .nil (.node [] [] (.node [] [] .nil .nil) .nil))))))))) (.node [] [] .nil .nil)))
def S51 (v0 v1:Value) (K:Cont) (w:World):Prop:=by
 refine' (?f:∀ B R,PX Tryz.prog okf K (PG Tryz.prog okf Tryz.f51 An51 [v0,v1] w) B R→Prop) _ _ ⟨?a,?b⟩
 case a=>intro _;intros;conv=>lhs;reduce
 case b=>dsimp only [PI,plit_eq];rfl
 exact fun _ R _=>R
theorem S51_ok {v0 v1:Value} {K:Cont} {w:World} (h:S51 v0 v1 K w):callK Tryz.prog 51 [v0,v1] K w:=okS An51 good mixed Tryz.func51 (by kernel_rfl) h (by kernel_rfl)

def An69:Ann:=(.node [] [] .nil (.node [] [] .nil (.node [] [] (.node [4,5] [(4,5),(14,29)] (.cut [] [(14,22)] (.node [] [] .nil (.node [] [] .nil .nil)) (.node [] [] .nil .nil)) .nil) (.node [] [] .nil .nil))))
def S69 (v0 v1:Value) (K:Cont) (w:World):Prop:=by
 refine' (?f:∀ B R,PX Tryz.prog okf K (PG Tryz.prog okf Tryz.f69 An69 [v0,v1] w) B R→Prop) _ _ ⟨?a,?b⟩
 case a=>intro _;intros;conv=>lhs;reduce
 case b=>dsimp only [PI,plit_eq];rfl
 exact fun _ R _=>R
theorem S69_ok {v0 v1:Value} {K:Cont} {w:World} (h:S69 v0 v1 K w):callK Tryz.prog 69 [v0,v1] K w:=okS An69 good mixed Tryz.func69 (by kernel_rfl) h (by kernel_rfl)

def An70:Ann:=(.node [] [] .nil (.node [] [] .nil (.node [] [] .nil (.node [] [] .nil (.node [] [] .nil (.node [] [] .nil (.node [] [] .nil .nil)))))))
def S70 (v0:Value) (K:Cont) (w:World):Prop:=by
 refine' (?f:∀ B R,PX Tryz.prog okf K (PG Tryz.prog okf Tryz.f70 An70 [v0] w) B R→Prop) _ _ ⟨?a,?b⟩
 case a=>intro _;intros;conv=>lhs;reduce
 case b=>dsimp only [PI,plit_eq];rfl
 exact fun _ R _=>R
theorem S70_ok {v0:Value} {K:Cont} {w:World} (h:S70 v0 K w):callK Tryz.prog 70 [v0] K w:=okS An70 good mixed Tryz.func70 (by kernel_rfl) h (by kernel_rfl)

def An71:Ann:=(.node [] [] .nil (.node [] [] (.dc [13] [[],[0],[0,1],[0,1,2],[],[4],[4,5],[4,5,6],[],[8],[8,9],[8,9,10],[8,9,10,11],[0,1,2,3,4,5,6,7,8,9,10,11,12],[0,1,2,3,4,5,6,7,8,9,10,11,12,13],[0,1,2,3,4,5,6,7,8,9,10,11,12,13,14],[0,1,2,3,4,5,6,7,8,9,10,11,12,13,14],[0,1,2,3,4,5,6,7,8,9,10,11,12,13,14],[0,1,2,3,4,5,6,7,8,9,10,11,12,13,14,15],[0,1,2,3,4,5,6,7,8,9,10,11,12,13,14,15,16,18],[0,1,2,3,4,5,6,7,8,9,10,11,12,13,14,15,16,17,18,19]] []) (.node [] [] (.node [] [] .nil (.node [] [] (.node [] [] .nil (.node [] [] .nil .nil)) .nil)) (.node [] [] .nil (.node [] [] .nil .nil)))))
def S71 (v0:Value) (K:Cont) (w:World):Prop:=by
 refine' (?f:∀ B R,PX Tryz.prog okf K (PG Tryz.prog okf Tryz.f71 An71 [v0] w) B R→Prop) _ _ ⟨?a,?b⟩
 case a=>intro _;intros;conv=>lhs;reduce
 case b=>dsimp only [PI,plit_eq];rfl
 exact fun _ R _=>R
theorem S71_ok {v0:Value} {K:Cont} {w:World} (h:S71 v0 K w):callK Tryz.prog 71 [v0] K w:=okS An71 good mixed Tryz.func71 (by kernel_rfl) h (by kernel_rfl)

def An72:Ann:=(.node [] [] .nil (.node [] [] .nil (.node [] [] (.node [4,5] [(4,5),(14,29)] (.cut [] [(14,22)] (.node [] [] .nil (.node [] [] .nil .nil)) (.node [] [] .nil .nil)) .nil) (.node [] [] .nil .nil))))
def S72 (v0 v1:Value) (K:Cont) (w:World):Prop:=by
 refine' (?f:∀ B R,PX Tryz.prog okf K (PG Tryz.prog okf Tryz.f72 An72 [v0,v1] w) B R→Prop) _ _ ⟨?a,?b⟩
 case a=>intro _;intros;conv=>lhs;reduce
 case b=>dsimp only [PI,plit_eq];rfl
 exact fun _ R _=>R
theorem S72_ok {v0 v1:Value} {K:Cont} {w:World} (h:S72 v0 v1 K w):callK Tryz.prog 72 [v0,v1] K w:=okS An72 good mixed Tryz.func72 (by kernel_rfl) h (by kernel_rfl)

def An73:Ann:=(.node [] [] .nil (.node [] [] .nil (.node [] [] .nil (.node [] [] .nil .nil))))
def S73 (v0:Value) (K:Cont) (w:World):Prop:=by
 refine' (?f:∀ B R,PX Tryz.prog okf K (PG Tryz.prog okf Tryz.f73 An73 [v0] w) B R→Prop) _ _ ⟨?a,?b⟩
 case a=>intro _;intros;conv=>lhs;reduce
 case b=>dsimp only [PI,plit_eq];rfl
 exact fun _ R _=>R
theorem S73_ok {v0:Value} {K:Cont} {w:World} (h:S73 v0 K w):callK Tryz.prog 73 [v0] K w:=okS An73 good mixed Tryz.func73 (by kernel_rfl) h (by kernel_rfl)

def An65:Ann:=(.node [] [] .nil (.node [] [] (.dc [2,3,6,7,8] [[],[0],[0,1],[0,1,2],[],[4],[0,1,2,3,4,5],[0,1,2,3,4,5,6],[0,1,2,3,4,5,6,7],[0,1,2,3,4,5,6,7,8]] []) (.node [] [] .nil (.node [] [] .nil .nil))))
def S65 (v0:Value) (K:Cont) (w:World):Prop:=by
 refine' (?f:∀ B R,PX Tryz.prog okf K (PG Tryz.prog okf Tryz.f65 An65 [v0] w) B R→Prop) _ _ ⟨?a,?b⟩
 case a=>intro _;intros;conv=>lhs;reduce
 case b=>dsimp only [PI,plit_eq];rfl
 exact fun _ R _=>R
theorem S65_ok {v0:Value} {K:Cont} {w:World} (h:S65 v0 K w):callK Tryz.prog 65 [v0] K w:=okS An65 good mixed Tryz.func65 (by kernel_rfl) h (by kernel_rfl)

def An47:Ann:=(.node [] [] .nil (.node [] [] .nil .nil))
def S47 (v0:Value) (K:Cont) (w:World):Prop:=by
 refine' (?f:∀ B R,PX Tryz.prog okf K (PG Tryz.prog okf Tryz.f47 An47 [v0] w) B R→Prop) _ _ ⟨?a,?b⟩
 case a=>intro _;intros;conv=>lhs;reduce
 case b=>dsimp only [PI,plit_eq];rfl
 exact fun _ R _=>R
theorem S47_ok {v0:Value} {K:Cont} {w:World} (h:S47 v0 K w):callK Tryz.prog 47 [v0] K w:=okS An47 good mixed Tryz.func47 (by kernel_rfl) h (by kernel_rfl)

def An49:Ann:=(.node [] [] (.node [1] [(1,1),(4,19)] (.node [] [] (.node [] [] .nil (.node [] [] .nil .nil)) (.node [] [] .nil .nil)) .nil) .nil)
def S49 (v0 v1:Value) (K:Cont) (w:World):Prop:=by
 refine' (?f:∀ B R,PX Tryz.prog okf K (PG Tryz.prog okf Tryz.f49 An49 [v0,v1] w) B R→Prop) _ _ ⟨?a,?b⟩
 case a=>intro _;intros;conv=>lhs;reduce
 case b=>dsimp only [PI,plit_eq];rfl
 exact fun _ R _=>R
theorem S49_ok {v0 v1:Value} {K:Cont} {w:World} (h:S49 v0 v1 K w):callK Tryz.prog 49 [v0,v1] K w:=okS An49 good mixed Tryz.func49 (by kernel_rfl) h (by kernel_rfl)

def An50:Ann:=(.node [] [] .nil (.node [] [] .nil .nil))
def S50 (v0 v1:Value) (K:Cont) (w:World):Prop:=by
 refine' (?f:∀ B R,PX Tryz.prog okf K (PG Tryz.prog okf Tryz.f50 An50 [v0,v1] w) B R→Prop) _ _ ⟨?a,?b⟩
 case a=>intro _;intros;conv=>lhs;reduce
 case b=>dsimp only [PI,plit_eq];rfl
 exact fun _ R _=>R
theorem S50_ok {v0 v1:Value} {K:Cont} {w:World} (h:S50 v0 v1 K w):callK Tryz.prog 50 [v0,v1] K w:=okS An50 good mixed Tryz.func50 (by kernel_rfl) h (by kernel_rfl)

def An52:Ann:=(.node [] [] .nil (.node [] [] .nil (.node [15] [(7,7),(15,22)] (.node [] [] .nil (.node [] [] (.node [] [] .nil .nil) (.node [] [] (.node [] [] .nil .nil) .nil))) .nil)))
def S52 (v0 v1 v2:Value) (K:Cont) (w:World):Prop:=by
 refine' (?f:∀ B R,PX Tryz.prog okf K (PG Tryz.prog okf Tryz.f52 An52 [v0,v1,v2] w) B R→Prop) _ _ ⟨?a,?b⟩
 case a=>intro _;intros;conv=>lhs;reduce
 case b=>dsimp only [PI,plit_eq];rfl
 exact fun _ R _=>R
theorem S52_ok {v0 v1 v2:Value} {K:Cont} {w:World} (h:S52 v0 v1 v2 K w):callK Tryz.prog 52 [v0,v1,v2] K w:=okS An52 good mixed Tryz.func52 (by kernel_rfl) h (by kernel_rfl)

def An53:Ann:=(.node [] [] .nil (.node [] [] .nil (.node [] [] .nil (.node [] [] .nil (.node [] [] .nil .nil)))))
def S53 (v0 v1:Value) (K:Cont) (w:World):Prop:=by
 refine' (?f:∀ B R,PX Tryz.prog okf K (PG Tryz.prog okf Tryz.f53 An53 [v0,v1] w) B R→Prop) _ _ ⟨?a,?b⟩
 case a=>intro _;intros;conv=>lhs;reduce
 case b=>dsimp only [PI,plit_eq];rfl
 exact fun _ R _=>R
theorem S53_ok {v0 v1:Value} {K:Cont} {w:World} (h:S53 v0 v1 K w):callK Tryz.prog 53 [v0,v1] K w:=okS An53 good mixed Tryz.func53 (by kernel_rfl) h (by kernel_rfl)

def An54:Ann:=(.node [] [] .nil .nil)
def S54 (v0 v1:Value) (K:Cont) (w:World):Prop:=by
 refine' (?f:∀ B R,PX Tryz.prog okf K (PG Tryz.prog okf Tryz.f54 An54 [v0,v1] w) B R→Prop) _ _ ⟨?a,?b⟩
 case a=>intro _;intros;conv=>lhs;reduce
 case b=>dsimp only [PI,plit_eq];rfl
 exact fun _ R _=>R
theorem S54_ok {v0 v1:Value} {K:Cont} {w:World} (h:S54 v0 v1 K w):callK Tryz.prog 54 [v0,v1] K w:=okS An54 good mixed Tryz.func54 (by kernel_rfl) h (by kernel_rfl)

def An55:Ann:=(.node [] [] .nil (.node [] [] .nil (.node [15] [(7,7),(15,22)] (.node [] [] .nil (.node [] [] (.node [] [] .nil .nil) (.node [] [] (.node [] [] .nil .nil) .nil))) .nil)))
def S55 (v0 v1 v2:Value) (K:Cont) (w:World):Prop:=by
 refine' (?f:∀ B R,PX Tryz.prog okf K (PG Tryz.prog okf Tryz.f55 An55 [v0,v1,v2] w) B R→Prop) _ _ ⟨?a,?b⟩
 case a=>intro _;intros;conv=>lhs;reduce
 case b=>dsimp only [PI,plit_eq];rfl
 exact fun _ R _=>R
theorem S55_ok {v0 v1 v2:Value} {K:Cont} {w:World} (h:S55 v0 v1 v2 K w):callK Tryz.prog 55 [v0,v1,v2] K w:=okS An55 good mixed Tryz.func55 (by kernel_rfl) h (by kernel_rfl)

def An56:Ann:=(.node [] [] .nil (.node [] [] .nil (.node [] [] .nil .nil)))
def S56 (v0 v1:Value) (K:Cont) (w:World):Prop:=by
 refine' (?f:∀ B R,PX Tryz.prog okf K (PG Tryz.prog okf Tryz.f56 An56 [v0,v1] w) B R→Prop) _ _ ⟨?a,?b⟩
 case a=>intro _;intros;conv=>lhs;reduce
 case b=>dsimp only [PI,plit_eq];rfl
 exact fun _ R _=>R
theorem S56_ok {v0 v1:Value} {K:Cont} {w:World} (h:S56 v0 v1 K w):callK Tryz.prog 56 [v0,v1] K w:=okS An56 good mixed Tryz.func56 (by kernel_rfl) h (by kernel_rfl)

def An57:Ann:=(.node [] [] .nil (.node [] [] (.node [] [] .nil (.node [8] [(4,5),(8,18)] (.node [] [] .nil (.node [] [] (.node [] [] .nil .nil) (.node [] [] (.node [] [] .nil (.node [] [] .nil (.node [] [] (.node [] [] .nil .nil) .nil))) .nil))) .nil)) (.node [] [] .nil .nil)))
def S57 (v0 v1:Value) (K:Cont) (w:World):Prop:=by
 refine' (?f:∀ B R,PX Tryz.prog okf K (PG Tryz.prog okf Tryz.f57 An57 [v0,v1] w) B R→Prop) _ _ ⟨?a,?b⟩
 case a=>intro _;intros;conv=>lhs;reduce
 case b=>dsimp only [PI,plit_eq];rfl
 exact fun _ R _=>R
theorem S57_ok {v0 v1:Value} {K:Cont} {w:World} (h:S57 v0 v1 K w):callK Tryz.prog 57 [v0,v1] K w:=okS An57 good mixed Tryz.func57 (by kernel_rfl) h (by kernel_rfl)

def An59:Ann:=(.node [] [] .nil (.node [] [] .nil .nil))
def S59 (v0 v1:Value) (K:Cont) (w:World):Prop:=by
 refine' (?f:∀ B R,PX Tryz.prog okf K (PG Tryz.prog okf Tryz.f59 An59 [v0,v1] w) B R→Prop) _ _ ⟨?a,?b⟩
 case a=>intro _;intros;conv=>lhs;reduce
 case b=>dsimp only [PI,plit_eq];rfl
 exact fun _ R _=>R
theorem S59_ok {v0 v1:Value} {K:Cont} {w:World} (h:S59 v0 v1 K w):callK Tryz.prog 59 [v0,v1] K w:=okS An59 good mixed Tryz.func59 (by kernel_rfl) h (by kernel_rfl)

def An60:Ann:=(.node [] [] .nil (.node [] [] .nil .nil))
def S60 (v0 v1:Value) (K:Cont) (w:World):Prop:=by
 refine' (?f:∀ B R,PX Tryz.prog okf K (PG Tryz.prog okf Tryz.f60 An60 [v0,v1] w) B R→Prop) _ _ ⟨?a,?b⟩
 case a=>intro _;intros;conv=>lhs;reduce
 case b=>dsimp only [PI,plit_eq];rfl
 exact fun _ R _=>R
theorem S60_ok {v0 v1:Value} {K:Cont} {w:World} (h:S60 v0 v1 K w):callK Tryz.prog 60 [v0,v1] K w:=okS An60 good mixed Tryz.func60 (by kernel_rfl) h (by kernel_rfl)

def An85:Ann:=(.node [] [] .nil (.node [] [] .nil (.node [] [] (.node [4,5] [(4,5),(14,29)] (.cut [] [(14,22)] (.node [] [] .nil (.node [] [] .nil .nil)) (.node [] [] .nil .nil)) .nil) (.node [] [] .nil .nil))))
def S85 (v0 v1:Value) (K:Cont) (w:World):Prop:=by
 refine' (?f:∀ B R,PX Tryz.prog okf K (PG Tryz.prog okf Tryz.f85 An85 [v0,v1] w) B R→Prop) _ _ ⟨?a,?b⟩
 case a=>intro _;intros;conv=>lhs;reduce
 case b=>dsimp only [PI,plit_eq];rfl
 exact fun _ R _=>R
theorem S85_ok {v0 v1:Value} {K:Cont} {w:World} (h:S85 v0 v1 K w):callK Tryz.prog 85 [v0,v1] K w:=okS An85 good mixed Tryz.func85 (by kernel_rfl) h (by kernel_rfl)

def An86:Ann:=(.node [] [] .nil (.node [] [] .nil (.node [] [] (.node [] [] .nil (.node [] [] .nil .nil)) (.node [] [] .nil .nil))))
def S86 (v0:Value) (K:Cont) (w:World):Prop:=by
 refine' (?f:∀ B R,PX Tryz.prog okf K (PG Tryz.prog okf Tryz.f86 An86 [v0] w) B R→Prop) _ _ ⟨?a,?b⟩
 case a=>intro _;intros;conv=>lhs;reduce
 case b=>dsimp only [PI,plit_eq];rfl
 exact fun _ R _=>R
theorem S86_ok {v0:Value} {K:Cont} {w:World} (h:S86 v0 K w):callK Tryz.prog 86 [v0] K w:=okS An86 good mixed Tryz.func86 (by kernel_rfl) h (by kernel_rfl)

def An87:Ann:=(.node [] [] .nil (.node [] [] .nil (.node [] [] (.node [4,5] [(4,5),(14,29)] (.cut [] [(14,22)] (.node [] [] .nil (.node [] [] .nil .nil)) (.node [] [] .nil .nil)) .nil) (.node [] [] .nil .nil))))
def S87 (v0 v1:Value) (K:Cont) (w:World):Prop:=by
 refine' (?f:∀ B R,PX Tryz.prog okf K (PG Tryz.prog okf Tryz.f87 An87 [v0,v1] w) B R→Prop) _ _ ⟨?a,?b⟩
 case a=>intro _;intros;conv=>lhs;reduce
 case b=>dsimp only [PI,plit_eq];rfl
 exact fun _ R _=>R
theorem S87_ok {v0 v1:Value} {K:Cont} {w:World} (h:S87 v0 v1 K w):callK Tryz.prog 87 [v0,v1] K w:=okS An87 good mixed Tryz.func87 (by kernel_rfl) h (by kernel_rfl)

def An88:Ann:=(.node [] [] .nil (.node [] [] .nil (.node [] [] .nil .nil)))
def S88 (v0:Value) (K:Cont) (w:World):Prop:=by
 refine' (?f:∀ B R,PX Tryz.prog okf K (PG Tryz.prog okf Tryz.f88 An88 [v0] w) B R→Prop) _ _ ⟨?a,?b⟩
 case a=>intro _;intros;conv=>lhs;reduce
 case b=>dsimp only [PI,plit_eq];rfl
 exact fun _ R _=>R
theorem S88_ok {v0:Value} {K:Cont} {w:World} (h:S88 v0 K w):callK Tryz.prog 88 [v0] K w:=okS An88 good mixed Tryz.func88 (by kernel_rfl) h (by kernel_rfl)

def An90:Ann:=(.node [] [] .nil (.node [] [] .nil (.node [] [] .nil (.node [] [] .nil (.node [] [] .nil .nil)))))
def S90 (v0:Value) (K:Cont) (w:World):Prop:=by
 refine' (?f:∀ B R,PX Tryz.prog okf K (PG Tryz.prog okf Tryz.f90 An90 [v0] w) B R→Prop) _ _ ⟨?a,?b⟩
 case a=>intro _;intros;conv=>lhs;reduce
 case b=>dsimp only [PI,plit_eq];rfl
 exact fun _ R _=>R
theorem S90_ok {v0:Value} {K:Cont} {w:World} (h:S90 v0 K w):callK Tryz.prog 90 [v0] K w:=okS An90 good mixed Tryz.func90 (by kernel_rfl) h (by kernel_rfl)

def An77:Ann:=(.node [] [] .nil (.node [] [] .nil (.node [15] [(7,7),(15,22)] (.node [] [] .nil (.node [] [] (.node [] [] .nil .nil) (.node [] [] (.node [] [] .nil .nil) .nil))) .nil)))
def S77 (v0 v1 v2:Value) (K:Cont) (w:World):Prop:=by
 refine' (?f:∀ B R,PX Tryz.prog okf K (PG Tryz.prog okf Tryz.f77 An77 [v0,v1,v2] w) B R→Prop) _ _ ⟨?a,?b⟩
 case a=>intro _;intros;conv=>lhs;reduce
 case b=>dsimp only [PI,plit_eq];rfl
 exact fun _ R _=>R
theorem S77_ok {v0 v1 v2:Value} {K:Cont} {w:World} (h:S77 v0 v1 v2 K w):callK Tryz.prog 77 [v0,v1,v2] K w:=okS An77 good mixed Tryz.func77 (by kernel_rfl) h (by kernel_rfl)

def An78:Ann:=.nil
def S78 (v0 v1:Value) (K:Cont) (w:World):Prop:=by
 refine' (?f:∀ B R,PX Tryz.prog okf K (PG Tryz.prog okf Tryz.f78 An78 [v0,v1] w) B R→Prop) _ _ ⟨?a,?b⟩
 case a=>intro _;intros;conv=>lhs;reduce
 case b=>dsimp only [PI,plit_eq];rfl
 exact fun _ R _=>R
theorem S78_ok {v0 v1:Value} {K:Cont} {w:World} (h:S78 v0 v1 K w):callK Tryz.prog 78 [v0,v1] K w:=okS An78 good mixed Tryz.func78 (by kernel_rfl) h (by kernel_rfl)

def An79:Ann:=.nil
def S79 (v0 v1:Value) (K:Cont) (w:World):Prop:=by
 refine' (?f:∀ B R,PX Tryz.prog okf K (PG Tryz.prog okf Tryz.f79 An79 [v0,v1] w) B R→Prop) _ _ ⟨?a,?b⟩
 case a=>intro _;intros;conv=>lhs;reduce
 case b=>dsimp only [PI,plit_eq];rfl
 exact fun _ R _=>R
theorem S79_ok {v0 v1:Value} {K:Cont} {w:World} (h:S79 v0 v1 K w):callK Tryz.prog 79 [v0,v1] K w:=okS An79 good mixed Tryz.func79 (by kernel_rfl) h (by kernel_rfl)

def An80:Ann:=(.node [] [] .nil (.node [] [] .nil (.node [] [] .nil (.node [] [] .nil .nil))))
def S80 (v0 v1:Value) (K:Cont) (w:World):Prop:=by
 refine' (?f:∀ B R,PX Tryz.prog okf K (PG Tryz.prog okf Tryz.f80 An80 [v0,v1] w) B R→Prop) _ _ ⟨?a,?b⟩
 case a=>intro _;intros;conv=>lhs;reduce
 case b=>dsimp only [PI,plit_eq];rfl
 exact fun _ R _=>R
theorem S80_ok {v0 v1:Value} {K:Cont} {w:World} (h:S80 v0 v1 K w):callK Tryz.prog 80 [v0,v1] K w:=okS An80 good mixed Tryz.func80 (by kernel_rfl) h (by kernel_rfl)

def An108:Ann:=(.node [] [] .nil (.node [] [] .nil (.node [15] [(7,7),(15,22)] (.node [] [] .nil (.node [] [] (.node [] [] .nil .nil) (.node [] [] (.node [] [] .nil .nil) .nil))) .nil)))
def S108 (v0 v1 v2:Value) (K:Cont) (w:World):Prop:=by
 refine' (?f:∀ B R,PX Tryz.prog okf K (PG Tryz.prog okf Tryz.f108 An108 [v0,v1,v2] w) B R→Prop) _ _ ⟨?a,?b⟩
 case a=>intro _;intros;conv=>lhs;reduce
 case b=>dsimp only [PI,plit_eq];rfl
 exact fun _ R _=>R
theorem S108_ok {v0 v1 v2:Value} {K:Cont} {w:World} (h:S108 v0 v1 v2 K w):callK Tryz.prog 108 [v0,v1,v2] K w:=okS An108 good mixed Tryz.func108 (by kernel_rfl) h (by kernel_rfl)

def An109:Ann:=(.node [] [] .nil (.node [] [] .nil .nil))
def S109 (v0 v1:Value) (K:Cont) (w:World):Prop:=by
 refine' (?f:∀ B R,PX Tryz.prog okf K (PG Tryz.prog okf Tryz.f109 An109 [v0,v1] w) B R→Prop) _ _ ⟨?a,?b⟩
 case a=>intro _;intros;conv=>lhs;reduce
 case b=>dsimp only [PI,plit_eq];rfl
 exact fun _ R _=>R
theorem S109_ok {v0 v1:Value} {K:Cont} {w:World} (h:S109 v0 v1 K w):callK Tryz.prog 109 [v0,v1] K w:=okS An109 good mixed Tryz.func109 (by kernel_rfl) h (by kernel_rfl)

end Go.Proofs.YtaimlfomodfekaaGreatDoor

namespace Go.Proofs.YtaimlfomodfekaaGreatDoor
open Go Go.K

theorem zig_i {n:Int} {xo yo xo' yo' xo2 yo2:Operand} {K:Cont} {w:World} (hn:In64 n) (h:K (.int .u64 (zigN n:Nat)) w) :
  runK Tryz.prog (convert 3 38 (.int .i64 n)) (fun t6 w1=>runK Tryz.prog (binS .shl 38 xo yo t6 (.int .u64 1)) (fun t7 w2=>runK Tryz.prog (binS .shr 3 xo' yo' (.int .i64 n) (.int .u64 63)) (fun t9 w3=>runK Tryz.prog (convert 3 38 t9) (fun t10 w4=>runK Tryz.prog (binS .xor 38 xo2 yo2 t7 t10) K w4) w3) w2) w1) w:=by
 refine runK_i (run_conv (k:=.u64) w (by kernel_rfl) (by kernel_rfl)) ?_
 refine runK_i (run_shl (n:=1) w (by decide)) ?_
 refine runK_i (run_shr (n:=63) w (by decide)) ?_
 refine runK_i (run_conv (k:=.u64) w (by kernel_rfl) (by kernel_rfl)) ?_
 have h0:=hn.1
 have h1:=hn.2
 have ua:U64 (IntKind.u64.wrap (IntKind.u64.wrap n * 2 ^ 1)):=by
  rw [wrapu64_mod];exact ⟨by omega,by omega⟩
 have ub:U64 (IntKind.u64.wrap (n.fdiv (2 ^ 63))):=by
  rw [wrapu64_mod];exact ⟨by omega,by omega⟩
 refine runK_i (run_xor64 w ua ub) ?_
 refine Eq.mpr (congrArg (fun z:Int=>K (.int .u64 z) w) (?_:_=((zigN n:Nat):Int))) h
 rw [wrapu64_mod,wrapu64_mod,wrapu64_mod,Int.fdiv_eq_ediv_of_nonneg _ (by decide)]
 have e63:((2:Int) ^ 63)=9223372036854775808:=by decide
 have e1:((2:Int) ^ 1)=2:=by decide
 rw [e63,e1]
 by_cases hn:0≤n
 ·have q:n / 9223372036854775808=0:=by omega
  rw [q]
  simp only [Int.zero_emod,Int.toNat_zero,Nat.xor_zero]
  unfold zigN
  rw [if_pos hn]
  omega
 ·have q:n / 9223372036854775808=-1:=by omega
  rw [q]
  have r:((-1:Int) % 18446744073709551616).toNat=2 ^ 64 - 1:=by decide
  rw [r,Nat.xor_comm,Lib.xor_ones64 _ (by omega)]
  unfold zigN
  rw [if_neg hn]
  omega
theorem uv10 (n:Nat):(uv n).length≤10:=(uvB_len 9 n).2
theorem uz10 (n:Int):(uz n).length≤10:=uv10 _
theorem uf10 (b:Bool):(uf b).length≤10:=uv10 _
theorem eSV_len (v:AVal):(eSV v).length≤40+v.s.size:=by
 have a:=uv10 v.kind.toNat;have b:=uz10 v.n;have c:=uv10 v.f.toNat;have d:=uv10 (bytesL v.s).length;have e:=bytesL_len v.s
 show (uv v.kind.toNat++(uz v.n++(uv v.f.toNat++(uv (bytesL v.s).length++bytesL v.s)))).length≤_
 simp only [List.length_append];omega
theorem eSA_len (a:Attr):(eSA a).length≤60 * mAttr a:=by
 have h:=uz10 a.key;have:=eSV_len a.val
 unfold eSA mAttr;rw [List.length_append];omega
theorem eSC_len (a:Chg):(eSC a).length≤70 * mChg a:=by
 have h:=uz10 a.key;have h':=uf10 a.gone;have:=eSV_len a.val
 unfold eSC mChg;simp only [List.length_append];omega
theorem eSK_len (k:DKey):(eSK k).length≤60:=by
 have a:=uz10 k.id;have b:=uf10 k.block;have c:=uv10 k.kind.toNat;have d:=uf10 k.after;have e:=uf10 k.before;have f:=uz10 k.group
 unfold eSK;simp only [List.length_append];omega
theorem runs_len (l:List Int):(l.flatMap uz).length≤10 * l.length:=by
 induction l with
 | nil=>simp
 | cons a l ih=>have:=uz10 a;simp only [List.flatMap_cons,List.length_append,List.length_cons];omega
theorem eSO_len (x:Dop):(eSO x).length≤100 * mDop x:=by
 have a:=uv10 x.kind.toNat;have b:=uz10 x.n;have c:=uv10 x.runes.length;have d:=uv10 x.set.length;have e:=uv10 x.patch.length
 have f:=runs_len x.runes;have g:=flat_sum eSA_len x.set;have h:=flat_sum eSC_len x.patch
 unfold eSO encM mDop mSet mPat;simp only [List.length_append];omega
theorem keys_len (l:List DKey):(l.flatMap eSK).length≤60 * l.length:=by
 induction l with
 | nil=>simp
 | cons a l ih=>have:=eSK_len a;simp only [List.flatMap_cons,List.length_append,List.length_cons];omega
section
variable {G G':Nat→Prop} {W W':World} {c:Nat} {l:List Int}
theorem suint_ok {n:Nat} (h:WrI G W c l) (hl:l.length+20≤1099511627776) (hn:n < 18446744073709551616) :
  callK Tryz.prog 49 [.pointer (some ⟨c,0,none⟩),.int .u64 n] (fun _ w'=>WrI G w' c (l++uv n)∧Mod G W w') W:=by
 apply S49_ok
 unfold S49
 have e128:(128:Nat) ^ (9+1)=1180591620717411303424:=by decide
 refine LoopK_i (fun vs W1=>∃ (f m:Nat) (pre:List Int),vs=[.int .u64 m]∧uv n=pre++uvB f m∧m < 128 ^ (f+1)∧m < 18446744073709551616∧pre.length+f=9∧WrI G W1 c (l++pre)∧Mod G W W1) (fun vs _=>iOf vs 0)
  ⟨9,n,[],rfl,rfl,by omega,hn,rfl,by rw [List.append_nil];exact h,Mod.refl _ _⟩ ?_
 rintro vs W1 ⟨f,m,pre,rfl,hu,hm,hm2,hf,hw,hM⟩ _
 simp only [nth_s,nth_z,List.headD_cons,List.tail_cons]
 obtain ⟨bv,hb,_⟩:=hw.ex
 have lp:(l++pre).length=l.length+pre.length:=List.length_append
 rw [gtK_i]
 refine condK_p (fun hgt=>?_) fun hle=>?_
 ·cases f with
  | zero=>simp at hm;omega
  | succ f=>
   have hstep:uvB (f+1) m=((m % 128+128:Nat):Int) :: uvB f (m / 128):=by
    simp only [uvB];rw [if_neg (by omega)]
   refine nilckK_s ?_
   rw [faK_i,addr0]
   refine ld1K_i hb ?_
   refine conv64_8 (runK_i (run_or8 W1 (by omega) (by omega)) ?_)
   have e8:((m:Int) % 256 % 128+128)=((m % 128+128:Nat):Int):=by omega
   rw [e8]
   refine hw.put hb (by omega) fun w' hw' hM'=>?_
   refine runK_i (run_shr (n:=7) w' (by decide)) ?_
   have e7:((m:Int)).fdiv (2 ^ 7)=((m / 128:Nat):Int):=by
    rw [Int.fdiv_eq_ediv_of_nonneg _ (by decide)];show (m:Int) / 128=_;omega
   rw [e7]
   refine ⟨⟨f,m / 128,pre++[((m % 128+128:Nat):Int)],rfl,by rw [hu,hstep];simp,?_,by omega,by simp;omega,by rw [←List.append_assoc];exact hw',hM.trans hM'⟩,?_⟩
   ·rw [Nat.pow_succ] at hm
    exact Nat.div_lt_of_lt_mul (by omega)
   ·show (((m / 128:Nat):Int)).toNat < ((m:Nat):Int).toNat
    omega
 ·have hend:uvB f m=[(m:Int)]:=by
   cases f with
   | zero=>rfl
   | succ f=>simp only [uvB];rw [if_pos (by omega)]
  refine nilckK_s ?_
  rw [faK_i,addr0]
  refine ld1K_i hb ?_
  refine conv64_8 ?_
  rw [show ((m:Int) % 256)=m by omega]
  refine hw.put hb (by omega) fun w' hw' hM'=>⟨?_,hM.trans hM'⟩
  rw [hu,hend,←List.append_assoc]
  exact hw'
theorem sint_ok {n:Int} (h:WrI G W c l) (hl:l.length+20≤1099511627776) (hn:In64 n) :
  callK Tryz.prog 23 [.pointer (some ⟨c,0,none⟩),.int .i64 n] (fun _ w'=>WrI G w' c (l++uz n)∧Mod G W w') W:=by
 apply S23_ok
 unfold S23
 exact zig_i hn (callK_mono (suint_ok h hl (zigN_lt hn.1 hn.2)) fun _ _ h=>h)
theorem sflag_ok {n:Bool} (h:WrI G W c l) (hl:l.length+20≤1099511627776) :
  callK Tryz.prog 50 [.pointer (some ⟨c,0,none⟩),.bool n] (fun _ w'=>WrI G w' c (l++uf n)∧Mod G W w') W:=by
 apply S50_ok
 unfold S50
 refine condK_bb (fun e=>?_) fun e=>?_
 ·subst e;exact callK_mono (suint_ok (n:=1) h hl (by decide)) fun _ _ h=>h
 ·subst e;exact callK_mono (suint_ok (n:=0) h hl (by decide)) fun _ _ h=>h
theorem sbytes_ok {S:Nat→Prop} {xv:Value} {x:List Int} (h:WrI G W c l) (hx:RBytes S W xv x) (hS:∀ z,S z→¬ G z) (hl:l.length+x.length+20≤1099511627776) :
  callK Tryz.prog 54 [.pointer (some ⟨c,0,none⟩),xv] (fun _ w'=>WrI G w' c (l++encX x)∧Mod G W w') W:=by
 apply S54_ok
 unfold S54
 obtain ⟨a,cc,rfl,_⟩:=hx.shape
 rw [lenK_i]
 refine conv_64 (by omega) ?_
 refine callK_mono (suint_ok h (by omega) (by omega)) ?_
 rintro _ w1 ⟨h1,m1⟩
 obtain ⟨bv,hb,_⟩:=h1.ex
 refine nilckK_s ?_
 rw [faK_i,addr0]
 refine ld1K_i hb ?_
 have hul:(uv x.length).length≤10:=(uvB_len 9 x.length).2
 refine h1.app hb (hx.mod m1 (fun z _ hz=>hS z hz) (by decide) fun _ _ h=>h) (by rw [List.length_append];omega) fun W' h' m'=>⟨?_,m1.trans m'⟩
 unfold encX
 rw [←List.append_assoc]
 exact h'
theorem svalue_ok {v:AVal} (h:WrI G W c l) (hv:InSV v) (hl:l.length+v.s.size+100≤1099511627776) :
  callK Tryz.prog 80 [.pointer (some ⟨c,0,none⟩),.agg v.cells.toArray] (fun _ w'=>WrI G w' c (l++eSV v)∧Mod G W w') W:=by
 apply S80_ok
 unfold S80
 refine boxn_i fun b w1 hb hz g hc _=>?_
 have h1:=h.narrow g
 have nb:¬ (G b∧¬ (W.heap.size≤b∧b < w1.heap.size)):=fun e=>e.2 ⟨by omega,by omega⟩
 have m1:Mod (fun z=>G z∧¬ (W.heap.size≤z∧z < w1.heap.size)) w1 w1:=Mod.refl _ _
 obtain ⟨k,hkk⟩:∃ k:Nat,v.kind=k:=⟨v.kind.toNat,by have:=hv.1;omega⟩
 obtain ⟨q,hq⟩:∃ q:Nat,v.f=q:=⟨v.f.toNat,by have:=hv.2.2.1;omega⟩
 have hk:=hv.1
 have hf:=hv.2.2.1
 have a1:=uv10 k
 have a2:=uz10 v.n
 have a3:=uv10 q
 rw [faK_i]
 refine ld1K_i (m1.cell (hc 0 _ rfl) nb) ?_
 rw [hkk]
 refine conv8_64 (by omega) ?_
 refine callK_mono (suint_ok h1 (by first | omega | (simp only [List.length_append];omega)) (by omega)) ?_
 rintro _ w2 ⟨h2,n2⟩
 have m2:=m1.trans n2
 rw [faK_i]
 refine ld1K_i (m2.cell (hc 1 _ rfl) nb) ?_
 refine callK_mono (sint_ok h2 (by first | omega | (simp only [List.length_append];omega)) hv.2.1) ?_
 rintro _ w3 ⟨h3,n3⟩
 have m3:=m2.trans n3
 rw [faK_i]
 refine ld1K_i (m3.cell (hc 2 _ rfl) nb) ?_
 rw [hq]
 refine callK_mono (suint_ok h3 (by first | omega | (simp only [List.length_append];omega)) (by omega)) ?_
 rintro _ w4 ⟨h4,n4⟩
 have m4:=m3.trans n4
 rw [faK_i]
 refine ld1K_i (m4.cell (hc 3 _ rfl) nb) ?_
 refine strbytes' (by omega) fun v5 w5 g5 hb5=>?_
 have h5:=h4.narrow g5
 refine callK_mono (sbytes_ok h5 hb5 (fun z hz e=>e.2 hz) (by rw [bytesL_len];simp only [List.length_append];omega)) ?_
 rintro _ w6 ⟨h6,n6⟩
 have m6:=(m4.trans (g5.mono fun _ _ e=>e.elim)).trans (n6.mono fun z _ e=>e.1)
 refine ⟨?_,(g.mono fun _ _ e=>e.elim).trans (m6.mono fun z _ e=>e.1)⟩
 have e:=(h6.widen fun z hz=>hz.1).widen (G:=G) fun z hz=>hz.1
 have ev:eSV v=uv k++(uz v.n++(uv q++encX (bytesL v.s))):=by
  show uv v.kind.toNat++(uz v.n++(uv v.f.toNat++encX (bytesL v.s)))=_
  rw [hkk,hq];rfl
 rw [ev]
 simpa only [List.append_assoc] using e
theorem sattr_ok {a:Attr} (h:WrI G W c l) (ha:InSA a) (hl:l.length+mAttr a+200≤1099511627776) :
  callK Tryz.prog 109 [.pointer (some ⟨c,0,none⟩),.agg a.cells.toArray] (fun _ w'=>WrI G w' c (l++eSA a)∧Mod G W w') W:=by
 apply S109_ok
 unfold S109
 refine boxn_i fun b w1 hb hz g hc _=>?_
 have h1:=h.narrow g
 have nb:¬ (G b∧¬ (W.heap.size≤b∧b < w1.heap.size)):=fun e=>e.2 ⟨by omega,by omega⟩
 have m1:Mod (fun z=>G z∧¬ (W.heap.size≤z∧z < w1.heap.size)) w1 w1:=Mod.refl _ _
 simp only [mAttr] at hl
 have a1:=uz10 a.key
 rw [faK_i]
 refine ld1K_i (m1.cell (hc 0 _ rfl) nb) ?_
 refine callK_mono (sint_ok h1 (by first | omega | (simp only [List.length_append];omega)) ha.1) ?_
 rintro _ w2 ⟨h2,n2⟩
 have m2:=m1.trans n2
 rw [faK_i]
 refine ldnK_i (vs:=a.val.cells) rfl (fun j u hu=>by rw [Addr.add_add];exact m2.cell (hc (1+j) u (by rw [Nat.add_comm];exact hu)) (by rw [addr0];exact nb)) ?_
 refine callK_mono (svalue_ok h2 ha.2 (by first | omega | (simp only [List.length_append];omega))) ?_
 rintro _ w3 ⟨h3,n3⟩
 have m3:=m2.trans n3
 refine ⟨?_,(g.mono fun _ _ e=>e.elim).trans (m3.mono fun z _ e=>e.1)⟩
 have e:=h3.widen (G:=G) fun z hz=>hz.1
 simpa only [eSA,List.append_assoc] using e
theorem schg_ok {a:Chg} (h:WrI G W c l) (ha:InSC a) (hl:l.length+mChg a+200≤1099511627776) :
  callK Tryz.prog 56 [.pointer (some ⟨c,0,none⟩),.agg a.cells.toArray] (fun _ w'=>WrI G w' c (l++eSC a)∧Mod G W w') W:=by
 apply S56_ok
 unfold S56
 refine boxn_i fun b w1 hb hz g hc _=>?_
 have h1:=h.narrow g
 have nb:¬ (G b∧¬ (W.heap.size≤b∧b < w1.heap.size)):=fun e=>e.2 ⟨by omega,by omega⟩
 have m1:Mod (fun z=>G z∧¬ (W.heap.size≤z∧z < w1.heap.size)) w1 w1:=Mod.refl _ _
 simp only [mChg] at hl
 have a1:=uz10 a.key
 have a2:=uf10 a.gone
 rw [faK_i]
 refine ld1K_i (m1.cell (hc 0 _ rfl) nb) ?_
 refine callK_mono (sint_ok h1 (by first | omega | (simp only [List.length_append];omega)) ha.1) ?_
 rintro _ w2 ⟨h2,n2⟩
 have m2:=m1.trans n2
 rw [faK_i]
 refine ld1K_i (m2.cell (hc 1 _ rfl) nb) ?_
 refine callK_mono (sflag_ok h2 (by first | omega | (simp only [List.length_append];omega))) ?_
 rintro _ w3 ⟨h3,n3⟩
 have m3:=m2.trans n3
 rw [faK_i]
 refine ldnK_i (vs:=a.val.cells) rfl (fun j u hu=>by rw [Addr.add_add];exact m3.cell (hc (2+j) u (by rw [Nat.add_comm];exact hu)) (by rw [addr0];exact nb)) ?_
 refine callK_mono (svalue_ok h3 ha.2 (by first | omega | (simp only [List.length_append];omega))) ?_
 rintro _ w4 ⟨h4,n4⟩
 have m4:=m3.trans n4
 refine ⟨?_,(g.mono fun _ _ e=>e.elim).trans (m4.mono fun z _ e=>e.1)⟩
 have e:=h4.widen (G:=G) fun z hz=>hz.1
 simpa only [eSC,List.append_assoc] using e
theorem skey_ok {a:DKey} (h:WrI G W c l) (ha:InSK a) (hl:l.length+200≤1099511627776) :
  callK Tryz.prog 22 [.pointer (some ⟨c,0,none⟩),.agg a.cells.toArray] (fun _ w'=>WrI G w' c (l++eSK a)∧Mod G W w') W:=by
 apply S22_ok
 unfold S22
 refine boxn_i fun b w1 hb hz g hc _=>?_
 have h1:=h.narrow g
 have nb:¬ (G b∧¬ (W.heap.size≤b∧b < w1.heap.size)):=fun e=>e.2 ⟨by omega,by omega⟩
 have m1:Mod (fun z=>G z∧¬ (W.heap.size≤z∧z < w1.heap.size)) w1 w1:=Mod.refl _ _
 obtain ⟨k,hkk⟩:∃ k:Nat,a.kind=k:=⟨a.kind.toNat,by have:=ha.2.1;omega⟩
 have hk:=ha.2.1
 have a1:=uz10 a.id;have a2:=uf10 a.block;have a3:=uv10 k;have a4:=uf10 a.after;have a5:=uf10 a.before;have a6:=uz10 a.group
 rw [faK_i]
 refine ld1K_i (m1.cell (hc 0 _ rfl) nb) ?_
 refine callK_mono (sint_ok h1 (by first | omega | (simp only [List.length_append];omega)) ha.1) ?_
 rintro _ w2 ⟨h2,n2⟩
 have m2:=m1.trans n2
 rw [faK_i]
 refine ld1K_i (m2.cell (hc 1 _ rfl) nb) ?_
 refine callK_mono (sflag_ok h2 (by first | omega | (simp only [List.length_append];omega))) ?_
 rintro _ w3 ⟨h3,n3⟩
 have m3:=m2.trans n3
 rw [faK_i]
 refine ld1K_i (m3.cell (hc 2 _ rfl) nb) ?_
 rw [hkk]
 refine conv8_64 (by omega) ?_
 refine callK_mono (suint_ok h3 (by first | omega | (simp only [List.length_append];omega)) (by omega)) ?_
 rintro _ w4 ⟨h4,n4⟩
 have m4:=m3.trans n4
 rw [faK_i]
 refine ld1K_i (m4.cell (hc 3 _ rfl) nb) ?_
 refine callK_mono (sflag_ok h4 (by first | omega | (simp only [List.length_append];omega))) ?_
 rintro _ w5 ⟨h5,n5⟩
 have m5:=m4.trans n5
 rw [faK_i]
 refine ld1K_i (m5.cell (hc 4 _ rfl) nb) ?_
 refine callK_mono (sflag_ok h5 (by first | omega | (simp only [List.length_append];omega))) ?_
 rintro _ w6 ⟨h6,n6⟩
 have m6:=m5.trans n6
 rw [faK_i]
 refine ld1K_i (m6.cell (hc 5 _ rfl) nb) ?_
 refine callK_mono (sint_ok h6 (by first | omega | (simp only [List.length_append];omega)) ha.2.2) ?_
 rintro _ w7 ⟨h7,n7⟩
 have m7:=m6.trans n7
 refine ⟨?_,(g.mono fun _ _ e=>e.elim).trans (m7.mono fun z _ e=>e.1)⟩
 have e:=h7.widen (G:=G) fun z hz=>hz.1
 have ek:uv a.kind.toNat=uv k:=by rw [hkk];rfl
 simpa only [eSK,ek,List.append_assoc] using e
theorem slist_attr {S:Nat→Prop} {fv xv:Value} {x:List Attr} (h:WrI G W c l) (hx:SlR S 5 RAttr W xv x) (hR:∀ W' r a,Mod G W W'→RAttr W r a→RAttr W' r a) (hS:∀ z,S z→¬ G z) (hl:l.length+20≤1099511627776)
  (hf:∀ i (hi:i < x.length) W' r l',WrI G W' c l'→Mod G W W'→RAttr W' r x[i]→l'.length≤l.length+10+(x.flatMap eSA).length→∀ K:Cont,(∀ v w',WrI G w' c (l'++eSA x[i])∧Mod G W' w'→K v w')→callyK Tryz.prog okf fv [.agg r.toArray] K W') :
  callK Tryz.prog 108 [.pointer (some ⟨c,0,none⟩),xv,fv] (fun _ w'=>WrI G w' c (l++encM eSA x)∧Mod G W w') W:=by
 apply S108_ok
 unfold S108
 obtain ⟨a,cc,rfl,hm⟩:=hx.shape
 simp only [maxLen] at hm
 rw [lenK_i]
 refine conv_64 (by omega) ?_
 refine callK_mono (suint_ok h hl (by omega)) ?_
 rintro _ w2 ⟨h2,m2⟩
 rw [lenK_i]
 have hul:(uv x.length).length≤10:=(uvB_len 9 x.length).2
 have hfl:∀ i,((x.take i).flatMap eSA).length≤(x.flatMap eSA).length:=fun i=>by
  have e:x.flatMap eSA=(x.take i).flatMap eSA++(x.drop i).flatMap eSA:=by rw [←List.flatMap_append,List.take_append_drop]
  rw [e,List.length_append];omega
 refine LoopK_i (fun vs W1=>∃ i:Nat,i≤x.length∧vs=[.int .i64 i]∧WrI G W1 c (l++(uv x.length++(x.take i).flatMap eSA))∧Mod G W W1) (fun vs _=>x.length - iOf vs 0) ⟨0,Nat.zero_le _,rfl,by simpa using h2,m2⟩ ?_
 rintro vs W1 ⟨i,hi,rfl,h1,m1⟩ _
 simp only [nth_z,List.headD_cons]
 rw [ltK_i]
 refine condK_p (fun hlt=>?_) fun hge=>?_
 ·have hlt':i < x.length:=by omega
  obtain ⟨p,r,rfl,hSp,hr,hc,hRr⟩:=hx.get hlt'
  refine ixK_n hlt' (ldnK_i hr (fun j u hu=>by rw [Addr.add_add];exact m1.cell (hc j u hu) (by rw [add_block];exact hS _ hSp)) ?_)
  refine newst_n hr rfl (RAttr.one (w:=W) hRr) fun b w3 hb hz g3 hc3 _=>?_
  refine ldnK_i hr hc3 ?_
  have m3:Mod G W w3:=m1.trans (g3.mono fun _ _ e=>e.elim)
  refine hf i hlt' w3 r _ (h1.grow g3) m3 (hR _ _ _ m3 hRr) (by have:=hfl i;simp only [List.length_append];omega) _ ?_
  rintro _ w4 ⟨h4,m4⟩
  rw [addK_i,loop_step (by omega)]
  refine ⟨⟨i+1,hlt',rfl,?_,m3.trans m4⟩,by rw [iOf0,iOf0];omega⟩
  have e:l++(uv x.length++(x.take (i+1)).flatMap eSA)=l++(uv x.length++(x.take i).flatMap eSA)++eSA x[i]:=by
   rw [List.take_add_one,List.getElem?_eq_getElem hlt',List.flatMap_append]
   simp
  rw [e];exact h4
 ·have:i=x.length:=by omega
  subst this
  rw [List.take_length] at h1
  exact ⟨h1,m1⟩
theorem slist_chg {S:Nat→Prop} {fv xv:Value} {x:List Chg} (h:WrI G W c l) (hx:SlR S 6 RChg W xv x) (hR:∀ W' r a,Mod G W W'→RChg W r a→RChg W' r a) (hS:∀ z,S z→¬ G z) (hl:l.length+20≤1099511627776)
  (hf:∀ i (hi:i < x.length) W' r l',WrI G W' c l'→Mod G W W'→RChg W' r x[i]→l'.length≤l.length+10+(x.flatMap eSC).length→∀ K:Cont,(∀ v w',WrI G w' c (l'++eSC x[i])∧Mod G W' w'→K v w')→callyK Tryz.prog okf fv [.agg r.toArray] K W') :
  callK Tryz.prog 55 [.pointer (some ⟨c,0,none⟩),xv,fv] (fun _ w'=>WrI G w' c (l++encM eSC x)∧Mod G W w') W:=by
 apply S55_ok
 unfold S55
 obtain ⟨a,cc,rfl,hm⟩:=hx.shape
 simp only [maxLen] at hm
 rw [lenK_i]
 refine conv_64 (by omega) ?_
 refine callK_mono (suint_ok h hl (by omega)) ?_
 rintro _ w2 ⟨h2,m2⟩
 rw [lenK_i]
 have hul:(uv x.length).length≤10:=(uvB_len 9 x.length).2
 have hfl:∀ i,((x.take i).flatMap eSC).length≤(x.flatMap eSC).length:=fun i=>by
  have e:x.flatMap eSC=(x.take i).flatMap eSC++(x.drop i).flatMap eSC:=by rw [←List.flatMap_append,List.take_append_drop]
  rw [e,List.length_append];omega
 refine LoopK_i (fun vs W1=>∃ i:Nat,i≤x.length∧vs=[.int .i64 i]∧WrI G W1 c (l++(uv x.length++(x.take i).flatMap eSC))∧Mod G W W1) (fun vs _=>x.length - iOf vs 0) ⟨0,Nat.zero_le _,rfl,by simpa using h2,m2⟩ ?_
 rintro vs W1 ⟨i,hi,rfl,h1,m1⟩ _
 simp only [nth_z,List.headD_cons]
 rw [ltK_i]
 refine condK_p (fun hlt=>?_) fun hge=>?_
 ·have hlt':i < x.length:=by omega
  obtain ⟨p,r,rfl,hSp,hr,hc,hRr⟩:=hx.get hlt'
  refine ixK_n hlt' (ldnK_i hr (fun j u hu=>by rw [Addr.add_add];exact m1.cell (hc j u hu) (by rw [add_block];exact hS _ hSp)) ?_)
  refine newst_n hr rfl (RChg.one (w:=W) hRr) fun b w3 hb hz g3 hc3 _=>?_
  refine ldnK_i hr hc3 ?_
  have m3:Mod G W w3:=m1.trans (g3.mono fun _ _ e=>e.elim)
  refine hf i hlt' w3 r _ (h1.grow g3) m3 (hR _ _ _ m3 hRr) (by have:=hfl i;simp only [List.length_append];omega) _ ?_
  rintro _ w4 ⟨h4,m4⟩
  rw [addK_i,loop_step (by omega)]
  refine ⟨⟨i+1,hlt',rfl,?_,m3.trans m4⟩,by rw [iOf0,iOf0];omega⟩
  have e:l++(uv x.length++(x.take (i+1)).flatMap eSC)=l++(uv x.length++(x.take i).flatMap eSC)++eSC x[i]:=by
   rw [List.take_add_one,List.getElem?_eq_getElem hlt',List.flatMap_append]
   simp
  rw [e];exact h4
 ·have:i=x.length:=by omega
  subst this
  rw [List.take_length] at h1
  exact ⟨h1,m1⟩
theorem slist_key {S:Nat→Prop} {fv xv:Value} {x:List DKey} (h:WrI G W c l) (hx:SlR S 6 RKey W xv x) (hR:∀ W' r a,Mod G W W'→RKey W r a→RKey W' r a) (hS:∀ z,S z→¬ G z) (hl:l.length+20≤1099511627776)
  (hf:∀ i (hi:i < x.length) W' r l',WrI G W' c l'→Mod G W W'→RKey W' r x[i]→l'.length≤l.length+10+(x.flatMap eSK).length→∀ K:Cont,(∀ v w',WrI G w' c (l'++eSK x[i])∧Mod G W' w'→K v w')→callyK Tryz.prog okf fv [.agg r.toArray] K W') :
  callK Tryz.prog 21 [.pointer (some ⟨c,0,none⟩),xv,fv] (fun _ w'=>WrI G w' c (l++encM eSK x)∧Mod G W w') W:=by
 apply S21_ok
 unfold S21
 obtain ⟨a,cc,rfl,hm⟩:=hx.shape
 simp only [maxLen] at hm
 rw [lenK_i]
 refine conv_64 (by omega) ?_
 refine callK_mono (suint_ok h hl (by omega)) ?_
 rintro _ w2 ⟨h2,m2⟩
 rw [lenK_i]
 have hul:(uv x.length).length≤10:=(uvB_len 9 x.length).2
 have hfl:∀ i,((x.take i).flatMap eSK).length≤(x.flatMap eSK).length:=fun i=>by
  have e:x.flatMap eSK=(x.take i).flatMap eSK++(x.drop i).flatMap eSK:=by rw [←List.flatMap_append,List.take_append_drop]
  rw [e,List.length_append];omega
 refine LoopK_i (fun vs W1=>∃ i:Nat,i≤x.length∧vs=[.int .i64 i]∧WrI G W1 c (l++(uv x.length++(x.take i).flatMap eSK))∧Mod G W W1) (fun vs _=>x.length - iOf vs 0) ⟨0,Nat.zero_le _,rfl,by simpa using h2,m2⟩ ?_
 rintro vs W1 ⟨i,hi,rfl,h1,m1⟩ _
 simp only [nth_z,List.headD_cons]
 rw [ltK_i]
 refine condK_p (fun hlt=>?_) fun hge=>?_
 ·have hlt':i < x.length:=by omega
  obtain ⟨p,r,rfl,hSp,hr,hc,hRr⟩:=hx.get hlt'
  refine ixK_n hlt' (ldnK_i hr (fun j u hu=>by rw [Addr.add_add];exact m1.cell (hc j u hu) (by rw [add_block];exact hS _ hSp)) ?_)
  refine newst_n hr rfl (RKey.one (w:=W) hRr) fun b w3 hb hz g3 hc3 _=>?_
  refine ldnK_i hr hc3 ?_
  have m3:Mod G W w3:=m1.trans (g3.mono fun _ _ e=>e.elim)
  refine hf i hlt' w3 r _ (h1.grow g3) m3 (hR _ _ _ m3 hRr) (by have:=hfl i;simp only [List.length_append];omega) _ ?_
  rintro _ w4 ⟨h4,m4⟩
  rw [addK_i,loop_step (by omega)]
  refine ⟨⟨i+1,hlt',rfl,?_,m3.trans m4⟩,by rw [iOf0,iOf0];omega⟩
  have e:l++(uv x.length++(x.take (i+1)).flatMap eSK)=l++(uv x.length++(x.take i).flatMap eSK)++eSK x[i]:=by
   rw [List.take_add_one,List.getElem?_eq_getElem hlt',List.flatMap_append]
   simp
  rw [e];exact h4
 ·have:i=x.length:=by omega
  subst this
  rw [List.take_length] at h1
  exact ⟨h1,m1⟩
theorem slist_op {S D:Nat→Prop} {fv xv:Value} {x:List Dop} (h:WrI G W c l) (hx:SlR S 5 (RDop D) W xv x) (hR:∀ W' r a,Mod G W W'→(RDop D) W r a→(RDop D) W' r a) (hS:∀ z,S z→¬ G z) (hl:l.length+20≤1099511627776)
  (hf:∀ i (hi:i < x.length) W' r l',WrI G W' c l'→Mod G W W'→(RDop D) W' r x[i]→l'.length≤l.length+10+(x.flatMap eSO).length→∀ K:Cont,(∀ v w',WrI G w' c (l'++eSO x[i])∧Mod G W' w'→K v w')→callyK Tryz.prog okf fv [.agg r.toArray] K W') :
  callK Tryz.prog 52 [.pointer (some ⟨c,0,none⟩),xv,fv] (fun _ w'=>WrI G w' c (l++encM eSO x)∧Mod G W w') W:=by
 apply S52_ok
 unfold S52
 obtain ⟨a,cc,rfl,hm⟩:=hx.shape
 simp only [maxLen] at hm
 rw [lenK_i]
 refine conv_64 (by omega) ?_
 refine callK_mono (suint_ok h hl (by omega)) ?_
 rintro _ w2 ⟨h2,m2⟩
 rw [lenK_i]
 have hul:(uv x.length).length≤10:=(uvB_len 9 x.length).2
 have hfl:∀ i,((x.take i).flatMap eSO).length≤(x.flatMap eSO).length:=fun i=>by
  have e:x.flatMap eSO=(x.take i).flatMap eSO++(x.drop i).flatMap eSO:=by rw [←List.flatMap_append,List.take_append_drop]
  rw [e,List.length_append];omega
 refine LoopK_i (fun vs W1=>∃ i:Nat,i≤x.length∧vs=[.int .i64 i]∧WrI G W1 c (l++(uv x.length++(x.take i).flatMap eSO))∧Mod G W W1) (fun vs _=>x.length - iOf vs 0) ⟨0,Nat.zero_le _,rfl,by simpa using h2,m2⟩ ?_
 rintro vs W1 ⟨i,hi,rfl,h1,m1⟩ _
 simp only [nth_z,List.headD_cons]
 rw [ltK_i]
 refine condK_p (fun hlt=>?_) fun hge=>?_
 ·have hlt':i < x.length:=by omega
  obtain ⟨p,r,rfl,hSp,hr,hc,hRr⟩:=hx.get hlt'
  refine ixK_n hlt' (ldnK_i hr (fun j u hu=>by rw [Addr.add_add];exact m1.cell (hc j u hu) (by rw [add_block];exact hS _ hSp)) ?_)
  refine newst_n hr rfl (RDop.one hRr) fun b w3 hb hz g3 hc3 _=>?_
  refine ldnK_i hr hc3 ?_
  have m3:Mod G W w3:=m1.trans (g3.mono fun _ _ e=>e.elim)
  refine hf i hlt' w3 r _ (h1.grow g3) m3 (hR _ _ _ m3 hRr) (by have:=hfl i;simp only [List.length_append];omega) _ ?_
  rintro _ w4 ⟨h4,m4⟩
  rw [addK_i,loop_step (by omega)]
  refine ⟨⟨i+1,hlt',rfl,?_,m3.trans m4⟩,by rw [iOf0,iOf0];omega⟩
  have e:l++(uv x.length++(x.take (i+1)).flatMap eSO)=l++(uv x.length++(x.take i).flatMap eSO)++eSO x[i]:=by
   rw [List.take_add_one,List.getElem?_eq_getElem hlt',List.flatMap_append]
   simp
  rw [e];exact h4
 ·have:i=x.length:=by omega
  subst this
  rw [List.take_length] at h1
  exact ⟨h1,m1⟩
theorem slist_run {S:Nat→Prop} {fv xv:Value} {x:List Int} (h:WrI G W c l) (hx:SlR S 1 RRune W xv x) (hS:∀ z,S z→¬ G z) (hl:l.length+20≤1099511627776)
  (hf:∀ i (hi:i < x.length) W' r l',WrI G W' c l'→Mod G W W'→RRune W' r x[i]→l'.length≤l.length+10+(x.flatMap uz).length→∀ K:Cont,(∀ v w',WrI G w' c (l'++uz x[i])∧Mod G W' w'→K v w')→callyK Tryz.prog okf fv [.int .i32 x[i]] K W') :
  callK Tryz.prog 77 [.pointer (some ⟨c,0,none⟩),xv,fv] (fun _ w'=>WrI G w' c (l++encM uz x)∧Mod G W w') W:=by
 apply S77_ok
 unfold S77
 obtain ⟨a,cc,rfl,hm⟩:=hx.shape
 simp only [maxLen] at hm
 rw [lenK_i]
 refine conv_64 (by omega) ?_
 refine callK_mono (suint_ok h hl (by omega)) ?_
 rintro _ w2 ⟨h2,m2⟩
 rw [lenK_i]
 have hul:(uv x.length).length≤10:=(uvB_len 9 x.length).2
 have hfl:∀ i,((x.take i).flatMap uz).length≤(x.flatMap uz).length:=fun i=>by
  have e:x.flatMap uz=(x.take i).flatMap uz++(x.drop i).flatMap uz:=by rw [←List.flatMap_append,List.take_append_drop]
  rw [e,List.length_append];omega
 refine LoopK_i (fun vs W1=>∃ i:Nat,i≤x.length∧vs=[.int .i64 i]∧WrI G W1 c (l++(uv x.length++(x.take i).flatMap uz))∧Mod G W W1) (fun vs _=>x.length - iOf vs 0) ⟨0,Nat.zero_le _,rfl,by simpa using h2,m2⟩ ?_
 rintro vs W1 ⟨i,hi,rfl,h1,m1⟩ _
 simp only [nth_z,List.headD_cons]
 rw [ltK_i]
 refine condK_p (fun hlt=>?_) fun hge=>?_
 ·have hlt':i < x.length:=by omega
  obtain ⟨p,r,rfl,hSp,hr,hc,hRr⟩:=hx.get hlt'
  obtain rfl:r=[.int .i32 x[i]]:=hRr
  refine ixK_n hlt' (ld1K_i (m1.cell (hc 0 _ rfl) (by rw [add_block];exact hS _ hSp)) ?_)
  have m3:=m1
  refine hf i hlt' W1 _ _ h1 m3 rfl (by have:=hfl i;simp only [List.length_append];omega) _ ?_
  rintro _ w4 ⟨h4,m4⟩
  rw [addK_i,loop_step (by omega)]
  refine ⟨⟨i+1,hlt',rfl,?_,m3.trans m4⟩,by rw [iOf0,iOf0];omega⟩
  have e:l++(uv x.length++(x.take (i+1)).flatMap uz)=l++(uv x.length++(x.take i).flatMap uz)++uz x[i]:=by
   rw [List.take_add_one,List.getElem?_eq_getElem hlt',List.flatMap_append]
   simp
  rw [e];exact h4
 ·have:i=x.length:=by omega
  subst this
  rw [List.take_length] at h1
  exact ⟨h1,m1⟩
theorem sset_ok {S:Nat→Prop} {xv:Value} {x:List Attr} (h:WrI G W c l) (hx:RSet S W xv x) (hS:∀ z,S z→¬ G z) (ha:∀ a ∈ x,InSA a) (hl:l.length+61 * mSet x+300≤1099511627776) :
  callK Tryz.prog 79 [.pointer (some ⟨c,0,none⟩),xv] (fun _ w'=>WrI G w' c (l++encM eSA x)∧Mod G W w') W:=by
 apply S79_ok
 unfold S79
 have hfs:=flat_sum eSA_len x
 have hm:(x.map mAttr).sum=mSet x:=rfl
 rw [hm] at hfs
 refine callK_mono (slist_attr h hx (fun _ _ _ _ h=>h) hS (by omega) fun i hi W' r l' hw m hr hl' K hK=>?_) fun _ _ h=>h
 have hr':r=x[i].cells:=hr
 subst hr'
 have hma:=mSet_mem (List.getElem_mem hi)
 exact callyK_g (bs:=[_]) (cs:=[]) (by kernel_rfl) (callK_mono (sattr_ok hw (ha _ (List.getElem_mem hi)) (by unfold mAttr;omega)) hK)
theorem spatch_ok {S:Nat→Prop} {xv:Value} {x:List Chg} (h:WrI G W c l) (hx:RPat S W xv x) (hS:∀ z,S z→¬ G z) (ha:∀ a ∈ x,InSC a) (hl:l.length+71 * mPat x+300≤1099511627776) :
  callK Tryz.prog 55 [.pointer (some ⟨c,0,none⟩),xv,.func (.func 56) #[.pointer (some ⟨c,0,none⟩)] #[]] (fun _ w'=>WrI G w' c (l++encM eSC x)∧Mod G W w') W:=by
 have hfs:=flat_sum eSC_len x
 have hm:(x.map mChg).sum=mPat x:=rfl
 rw [hm] at hfs
 refine slist_chg h hx (fun _ _ _ _ h=>h) hS (by omega) fun i hi W' r l' hw m hr hl' K hK=>?_
 have hr':r=x[i].cells:=hr
 subst hr'
 have hma:=mPat_mem (List.getElem_mem hi)
 exact callyK_g (bs:=[_]) (cs:=[]) (by kernel_rfl) (callK_mono (schg_ok hw (ha _ (List.getElem_mem hi)) (by unfold mChg;omega)) hK)
theorem skeysW_ok {S:Nat→Prop} {xv:Value} {x:List DKey} (h:WrI G W c l) (hx:RKeys S W xv x) (hS:∀ z,S z→¬ G z) (ha:∀ a ∈ x,InSK a) (hl:l.length+61 * x.length+300≤1099511627776) :
  callK Tryz.prog 21 [.pointer (some ⟨c,0,none⟩),xv,.func (.func 22) #[.pointer (some ⟨c,0,none⟩)] #[]] (fun _ w'=>WrI G w' c (l++encM eSK x)∧Mod G W w') W:=by
 have hfs:=keys_len x
 refine slist_key h hx (fun _ _ _ _ h=>h) hS (by omega) fun i hi W' r l' hw m hr hl' K hK=>?_
 have hr':r=x[i].cells:=hr
 subst hr'
 exact callyK_g (bs:=[_]) (cs:=[]) (by kernel_rfl) (callK_mono (skey_ok hw (ha _ (List.getElem_mem hi)) (by omega)) hK)
theorem sop_ok {D:Nat→Prop} {r:List Value} {o:Dop} (h:WrI G W c l) (hr:RDop D W r o) (hD:∀ z,D z→¬ G z) (ho:InSO o) (hl:l.length+101 * mDop o+400≤1099511627776) :
  callK Tryz.prog 53 [.pointer (some ⟨c,0,none⟩),.agg r.toArray] (fun _ w'=>WrI G w' c (l++eSO o)∧Mod G W w') W:=by
 apply S53_ok
 unfold S53
 obtain ⟨rv,sv,pv,rfl,r1,r2,r3⟩:=hr
 refine box1_i rfl fun t w0 ht hz0 g0 tc _=>?_
 refine boxn_i fun b w1 hb hz g1 hc _=>?_
 have g:=g0.trans g1
 have h1:=h.narrow g
 have s0:=g0.size
 have nb:¬ (G b∧¬ (W.heap.size≤b∧b < w1.heap.size)):=fun e=>e.2 ⟨by omega,by omega⟩
 have nt:¬ (G t∧¬ (W.heap.size≤t∧t < w1.heap.size)):=fun e=>e.2 ⟨by omega,by omega⟩
 have hD1:∀ z,D z→¬ (G z∧¬ (W.heap.size≤z∧z < w1.heap.size)):=fun z hz e=>hD z hz e.1
 have tc:=g1.cell tc fun h=>h
 have m1:Mod (fun z=>G z∧¬ (W.heap.size≤z∧z < w1.heap.size)) w1 w1:=Mod.refl _ _
 obtain ⟨k,hkk⟩:∃ k:Nat,o.kind=k:=⟨o.kind.toNat,by have:=ho.1;omega⟩
 obtain ⟨hk,hn,hrn,hst,hpt⟩:=ho
 have a1:=uv10 k;have a2:=uz10 o.n;have a3:=uv10 o.runes.length;have a4:=uv10 o.set.length;have a5:=uv10 o.patch.length
 have f1:=runs_len o.runes
 have f2:=flat_sum eSA_len o.set
 have hm2:(o.set.map mAttr).sum=mSet o.set:=rfl
 rw [hm2] at f2
 simp only [mDop] at hl
 refine ld1K_i (m1.cell tc nt) ?_
 rw [faK_i]
 refine ld1K_i (m1.cell (hc 0 _ rfl) nb) ?_
 rw [hkk]
 refine conv8_64 (by omega) ?_
 refine callK_mono (suint_ok h1 (by omega) (by omega)) ?_
 rintro _ w2 ⟨h2,n2⟩
 have m2:=m1.trans n2
 refine ld1K_i (m2.cell tc nt) ?_
 rw [faK_i]
 refine ld1K_i (m2.cell (hc 1 _ rfl) nb) ?_
 refine callK_mono (sint_ok h2 (by first | omega | (simp only [List.length_append];omega)) hn) ?_
 rintro _ w3 ⟨h3,n3⟩
 have m3:=m2.trans n3
 refine ld1K_i (m3.cell tc nt) ?_
 rw [faK_i]
 refine ld1K_i (m3.cell (hc 2 _ rfl) nb) ?_
 refine callK_mono (slist_run h3 (SlR.mono r1 (fun _ _ h=>h) (fun z hz hd=>((g.mono fun _ _ e=>e.elim).trans m3).same z hz (hD1 z hd)) (by decide) fun _ _ h=>h) hD1 (by first | omega | (simp only [List.length_append];omega)) fun i hi W' r l' hw m hr hl' K hK=>?_) ?_
 ·refine callyK_g (bs:=[]) (cs:=[_]) (by kernel_rfl) ?_
  show callK Tryz.prog 78 [.int .i32 o.runes[i],.pointer (some ⟨t,0,none⟩)] K W'
  apply S78_ok
  unfold S78
  refine ld1K_i (m.cell (m3.cell tc nt) nt) ?_
  have hri:=hrn.2 _ (List.getElem_mem hi)
  have hrj:=hri.i64
  refine runK_i (run_conv (k:=.i64) W' (by kernel_rfl) (by kernel_rfl)) ?_
  rw [wrap64 (by have:=hrj.1;omega) (by have:=hrj.2;omega)]
  exact callK_mono (sint_ok hw (by simp only [List.length_append] at hl';omega) hrj) fun _ w' h=>hK _ w' h
 rintro _ w4 ⟨h4,n4⟩
 have m4:=m3.trans n4
 refine ld1K_i (m4.cell tc nt) ?_
 rw [faK_i]
 refine ld1K_i (m4.cell (hc 3 _ rfl) nb) ?_
 refine callK_mono (sset_ok h4 (SlR.mono r2 (fun _ _ h=>h) (fun z hz hd=>((g.mono fun _ _ e=>e.elim).trans m4).same z hz (hD1 z hd)) (by decide) fun _ _ h=>h) hD1 hst.2 (by simp only [List.length_append,encM];omega)) ?_
 rintro _ w5 ⟨h5,n5⟩
 have m5:=m4.trans n5
 refine ld1K_i (m5.cell tc nt) ?_
 rw [faK_i]
 refine ld1K_i (m5.cell (hc 4 _ rfl) nb) ?_
 refine ld1K_i (m5.cell tc nt) ?_
 refine callK_mono (spatch_ok h5 (SlR.mono r3 (fun _ _ h=>h) (fun z hz hd=>((g.mono fun _ _ e=>e.elim).trans m5).same z hz (hD1 z hd)) (by decide) fun _ _ h=>h) hD1 hpt.2 (by simp only [List.length_append,encM];omega)) ?_
 rintro _ w6 ⟨h6,n6⟩
 have m6:=m5.trans n6
 refine ⟨?_,(g.mono fun _ _ e=>e.elim).trans (m6.mono fun z _ e=>e.1)⟩
 have e:=h6.widen (G:=G) fun z hz=>hz.1
 have ek:uv o.kind.toNat=uv k:=by rw [hkk];rfl
 simpa only [eSO,ek,List.append_assoc] using e
theorem sops_ok {S D:Nat→Prop} {xv:Value} {x:List Dop} (h:WrI G W c l) (hx:RDops S D W xv x) (hS:∀ z,S z→¬ G z) (hD:∀ z,D z→¬ G z) (ha:∀ a ∈ x,InSO a) (hl:l.length+202 * mDops x+500≤1099511627776) :
  callK Tryz.prog 52 [.pointer (some ⟨c,0,none⟩),xv,.func (.func 53) #[.pointer (some ⟨c,0,none⟩)] #[]] (fun _ w'=>WrI G w' c (l++encM eSO x)∧Mod G W w') W:=by
 have hfs:=flat_sum eSO_len x
 have hm:(x.map mDop).sum=mDops x:=rfl
 rw [hm] at hfs
 refine slist_op h hx (fun W' r a m hr=>hr.mod m (fun z _ hz=>hD z hz) fun _ _ h=>h) hS (by omega) fun i hi W' r l' hw m hr hl' K hK=>?_
 have hma:=mDops_mem (List.getElem_mem hi)
 exact callyK_g (bs:=[_]) (cs:=[]) (by kernel_rfl) (callK_mono (sop_ok hw hr hD (ha _ (List.getElem_mem hi)) (by omega)) hK)
end
end Go.Proofs.YtaimlfomodfekaaGreatDoor

namespace Go.Proofs.YtaimlfomodfekaaGreatDoor
open Go Go.K

def chL:Nat→List Nat
 | 1=>[111] | 2=>[98] | 3=>[105,98] | 4=>[105,106] | 5=>[105,106,112] | 6=>[105,106,112] | 7=>[105,106,107,121] | 8=>[105,106] | 9=>[105,106] | 10=>[105]
 | 11=>[46] | 12=>[46] | 13=>[46] | 14=>[46] | 15=>[46] | 16=>[46] | 17=>[46] | 18=>[46] | 19=>[105] | 20=>[105] | 21=>[46] | _=>[]
def fldS (k:Nat):ByteArray:=⟨((chL k).map UInt8.ofNat).toArray⟩
def IsCh (c:Nat):Prop:=c=105∨c=106∨c=107∨c=121∨c=111∨c=98∨c=112∨c=46
theorem chL_mem {k c:Nat} (h:c ∈ chL k):IsCh c:=by
 unfold chL at h
 split at h <;> simp at h <;> unfold IsCh <;> omega
theorem fldS_size (k:Nat):(fldS k).size=(chL k).length:=by
 show (((chL k).map UInt8.ofNat).toArray).size=_
 simp
theorem fldS_at {k p:Nat} (h:p < (chL k).length) (h':p < (fldS k).size):((fldS k)[p]'h').toNat=(chL k)[p]∧IsCh (chL k)[p]:=by
 have hc:=chL_mem (List.getElem_mem h)
 refine ⟨?_,hc⟩
 have e:(fldS k).data[p]'h'=UInt8.ofNat (chL k)[p]:=by simp [fldS]
 show ((fldS k).data[p]'h').toNat=_
 rw [e]
 have e2:(UInt8.ofNat (chL k)[p]).toNat=(chL k)[p] % 256:=by simp
 rw [e2]
 unfold IsCh at hc
 omega
structure Flds (w:World):Prop where
 at_:∀ k,k < 22→w.cell? ⟨0,k,none⟩=some (.string (fldS k))
theorem Flds.mod {M:Nat→Prop} {w w':World} (h:Flds w) (g:Mod M w w') (hM:¬ M 0):Flds w':=⟨fun k hk=>g.cell (h.at_ k hk) hM⟩
theorem Flds.grow {w w':World} (h:Flds w) (g:Grow w w'):Flds w':=h.mod g fun h=>h
theorem sof_ok {k:Nat} {w:World} (h:Flds w) (hk:k < 256):callK Tryz.prog 27 [.int .u8 k] (fun v w'=>v=.string (fldS k)∧w'=w) w:=by
 apply S27_ok
 unfold S27
 refine runK_i (run_conv (k:=.i64) w (by kernel_rfl) (by kernel_rfl)) ?_
 rw [wrap64 (by omega) (by omega),geK_i]
 refine condK_p (fun e=>⟨?_,rfl⟩) fun e=>?_
 ·have e':chL k=[]:=by
   unfold chL
   split <;> first | omega | rfl
  show Value.string _=.string _
  unfold fldS
  rw [e']
  rfl
 ·refine runK_i (run_indexAt_arr (n:=22) (e:=9) (i:=Tryz.t9) (s:=1) (by kernel_rfl) (by kernel_rfl) (by kernel_rfl) (by omega) (by omega)) ?_
  have e1:(⟨0,0,none⟩:Addr).add ((k:Int).toNat * 1)=⟨0,k,none⟩:=by
   unfold Addr.add
   split <;> simp_all
  rw [e1]
  exact ld1K_i (h.at_ k (by omega)) ⟨rfl,rfl⟩
def eNum (ch:Nat) (c:Cmd):List Int:=if ch=105 then uz c.i else if ch=106 then uz c.j else if ch=107 then uz c.key else if ch=121 then uz c.by_ else []
def eRest (ch:Nat) (c:Cmd):List Int:=if ch=111 then encM eSO c.ops else if ch=98 then encX c.bytes else if ch=112 then encM eSC c.patch else []
def eCh (c:Cmd) (ch:Nat):List Int:=eNum ch c++eRest ch c
theorem eF_chs {k:Nat} {c:Cmd} (hk:isK k):eF k c=(chL k).flatMap (eCh c):=by
 simp only [isK,decide_eq_true_eq] at hk
 have:k=1∨k=2∨k=3∨k=4∨k=5∨k=6∨k=7∨k=8∨k=9∨k=10∨k=11∨k=12∨k=13∨k=14∨k=15∨k=16∨k=17∨k=18∨k=19∨k=20∨k=21:=by omega
 rcases this with rfl | rfl | rfl | rfl | rfl | rfl | rfl | rfl | rfl | rfl | rfl | rfl | rfl | rfl | rfl | rfl | rfl | rfl | rfl | rfl | rfl <;> simp [eF,hasI,hasJ,hasS,hasO,hasB,hasP,chL,eCh,eNum,eRest]
theorem snum_ok {a:Addr} {ch:Nat} {w:World} (hc:IsCh ch):callK Tryz.prog 51 [.pointer (some a),.int .i32 ch] (fun v w'=>w'=w∧((∃ j:Nat,(ch=105∧j=1∨ch=106∧j=2∨ch=107∧j=3∨ch=121∧j=4)∧v=.tuple #[.pointer (some (a.add j)),.bool true])∨(ch≠105∧ch≠106∧ch≠107∧ch≠121)∧v=.tuple #[.pointer none,.bool false])) w:=by
 apply S51_ok
 unfold S51
 rw [eqK_i]
 refine condK_p (fun e=>nilckK_s ?_) fun e1=>?_
 ·rw [faK_i];exact ⟨rfl,.inl ⟨1,by omega,rfl⟩⟩
 rw [eqK_i]
 refine condK_p (fun e=>nilckK_s ?_) fun e2=>?_
 ·rw [faK_i];exact ⟨rfl,.inl ⟨2,by omega,rfl⟩⟩
 rw [eqK_i]
 refine condK_p (fun e=>nilckK_s ?_) fun e3=>?_
 ·rw [faK_i];exact ⟨rfl,.inl ⟨3,by omega,rfl⟩⟩
 rw [eqK_i]
 refine condK_p (fun e=>nilckK_s ?_) fun e4=>?_
 ·rw [faK_i];exact ⟨rfl,.inl ⟨4,by omega,rfl⟩⟩
 exact ⟨rfl,.inr ⟨by omega,rfl⟩⟩
def RCmd (D:Nat→Prop) (w:World) (r:List Value) (c:Cmd):Prop:=∃ ov bv pv,r=[.int .u8 c.kind,.int .i64 c.i,.int .i64 c.j,.int .i64 c.key,.int .i64 c.by_,ov,bv,pv]∧RDops D D w ov c.ops∧RBytes D w bv c.bytes∧RPat D w pv c.patch
theorem RCmd.mod {D M:Nat→Prop} {w w':World} {r:List Value} {c:Cmd} (h:RCmd D w r c) (g:Mod M w w') (hM:∀ z,M z→D z→False):RCmd D w' r c:=by
 obtain ⟨ov,bv,pv,e,h1,h2,h3⟩:=h
 exact ⟨ov,bv,pv,e,SlR.mono h1 (fun _ _ h=>h) (fun z hz hd=>g.same z hz fun e=>hM z e hd) (by decide) fun r y h=>h.mod g (fun b _ hd hm=>hM b hm hd) fun _ _ h=>h,SlR.mono h2 (fun _ _ h=>h) (fun z hz hd=>g.same z hz fun e=>hM z e hd) (by decide) fun _ _ h=>h,SlR.mono h3 (fun _ _ h=>h) (fun z hz hd=>g.same z hz fun e=>hM z e hd) (by decide) fun _ _ h=>h⟩
def mCmd (c:Cmd):Nat:=1+mDops c.ops+c.bytes.length+mPat c.patch
theorem eNum_len (c:Cmd) (ch:Nat):(eNum ch c).length≤10:=by
 unfold eNum
 repeat' split
 all_goals first | exact uz10 _ | simp
theorem eRest_len (c:Cmd) (ch:Nat):(eRest ch c).length≤390 * mCmd c:=by
 have b1:=uv10 c.ops.length;have b2:=uv10 c.bytes.length;have b3:=uv10 c.patch.length
 have f1:=flat_sum eSO_len c.ops;have f2:=flat_sum eSC_len c.patch
 unfold eRest encM encX mCmd mDops mPat
 repeat' split
 all_goals first | (rw [List.length_append];omega) | simp
theorem eCh_len (c:Cmd) (ch:Nat):(eCh c ch).length≤400 * mCmd c:=by
 have a:=eNum_len c ch;have b:=eRest_len c ch
 have:1≤mCmd c:=by unfold mCmd;omega
 unfold eCh
 rw [List.length_append];omega
theorem chL_len (k:Nat):(chL k).length≤4:=by
 unfold chL
 split <;> decide
theorem World.heap_lt {w:World} {b:Nat} {o:Obj} (h:w.heap[b]?=some o):b < w.heap.size:=(Array.getElem?_eq_some_iff.1 h).1
theorem addr0' {b n:Nat}:((⟨b,0,none⟩:Addr).add n).block=b:=add_block _ _
theorem flat_le {α:Type} {f:α→List Int} {m:Nat} (h:∀ a,(f a).length≤m):∀ l:List α,(l.flatMap f).length≤l.length * m:=by
 intro l
 induction l with
 | nil=>simp
 | cons a l ih=>have:=h a;simp only [List.flatMap_cons,List.length_append,List.length_cons,Nat.add_mul];omega
section
variable {G:Nat→Prop} {W:World} {c:Nat} {l:List Int}
theorem WrI.mod {M:Nat→Prop} {W':World} (h:WrI G W c l) (m:Mod M W W') (hM:∀ z,M z→¬ G z):WrI G W' c l:=by
 obtain ⟨bv,h1,h2,h3⟩:=h.ex
 exact ⟨⟨bv,m.cell h1 fun e=>hM c e h.gc,OwnR.mod h2 m (fun g hg e=>hM g e (h3 g hg).1) fun _ _ _ h=>h,h3⟩,h.live.mod m fun e=>hM c e h.gc,h.gc,fun z hz=>h.gn z (Nat.le_trans m.size hz)⟩
theorem scmd_ok {D:Nat→Prop} {r:List Value} {cm:Cmd} (h:WrI G W c l) (hr:RCmd D W r cm) (hD:∀ z,D z→¬ G z) (hc:InC cm) (hF:Flds W) (hg:¬ G 0) (hl:l.length+2000 * mCmd cm+1000≤1099511627776) :
  callK Tryz.prog 24 [.pointer (some ⟨c,0,none⟩),.agg r.toArray] (fun _ w'=>WrI G w' c (l++eCmd cm)∧Mod G W w') W:=by
 apply S24_ok
 unfold S24
 obtain ⟨ov,bv,pv,rfl,hx,hby,hp⟩:=hr
 obtain ⟨⟨hk,_⟩,i1,i2,i3,i4,i5,i6,i7⟩:=hc
 have hk':=hk
 simp only [isK,decide_eq_true_eq] at hk'
 refine boxn_i fun b w1 hb hz g hcl _=>?_
 have h1:=h.narrow g
 obtain ⟨G1,hG1⟩:∃ G1:Nat→Prop,G1=fun z=>G z∧¬ (W.heap.size≤z∧z < w1.heap.size):=⟨_,rfl⟩
 rw [←hG1] at h1
 have nb:¬ G1 b:=by rw [hG1];exact fun e=>e.2 ⟨by omega,by omega⟩
 have GG:∀ z,G1 z→G z:=by rw [hG1];exact fun z e=>e.1
 have hD1:∀ z,D z→¬ G1 z:=fun z hz e=>hD z hz (GG z e)
 have m1:Mod G1 w1 w1:=Mod.refl _ _
 obtain ⟨k,hkk⟩:∃ k:Nat,cm.kind=k:=⟨cm.kind.toNat,by omega⟩
 have a0:=uv10 k
 have hM1:1≤mCmd cm:=by unfold mCmd;omega
 rw [faK_i]
 refine ld1K_i (m1.cell (hcl 0 _ rfl) nb) ?_
 rw [hkk]
 refine conv8_64 (by omega) ?_
 refine callK_mono (suint_ok h1 (by omega) (by omega)) ?_
 rintro _ w2 ⟨h2,m2⟩
 rw [faK_i]
 refine ld1K_i (m2.cell (hcl 0 _ rfl) nb) ?_
 rw [hkk]
 refine callK_mono (sof_ok ((hF.grow g).mod m2 fun e=>hg (GG _ e)) (by omega)) ?_
 rintro _ _ ⟨rfl,rfl⟩
 rename World=>w2
 refine runK_i (run_range_string _ _ _ Tryz.underlying9) ?_
 have g3:Grow w2 (w2.iter (fldS k) 0):=Mod.alloc _ _ _
 have hit:=World.iter_heap w2 (fldS k) 0
 have z3:(w2.iter (fldS k) 0).heap.size=w2.heap.size+1:=by simp [World.iter]
 have h3:=h2.narrow g3
 generalize w2.iter (fldS k) 0=w3 at g3 hit z3 h3 ⊢
 obtain ⟨ib,hib⟩:∃ ib,ib=w2.heap.size:=⟨_,rfl⟩
 rw [←hib] at hit ⊢
 obtain ⟨G2,hG2⟩:∃ G2:Nat→Prop,G2=fun z=>G1 z∧¬ (w2.heap.size≤z∧z < w3.heap.size):=⟨_,rfl⟩
 rw [←hG2] at h3
 have ni:¬ G2 ib:=by rw [hG2];exact fun e=>e.2 ⟨by omega,by omega⟩
 have GG2:∀ z,G2 z→G1 z:=by rw [hG2];exact fun z e=>e.1
 have hi1:G1 ib:=h2.gn ib (by omega)
 have s2:=m2.size
 have fin:∀ w',WrI G2 w' c (l++uv k++(chL k).flatMap (eCh cm))→Mod G1 w1 w'→WrI G w' c (l++eCmd cm)∧Mod G W w':=fun w' hw hm=>by
  refine ⟨?_,(g.mono fun _ _ e=>e.elim).trans (hm.mono fun z _ e=>GG z e)⟩
  have e:=hw.widen (G:=G) fun z hz=>GG z (GG2 z hz)
  unfold eCmd
  rw [hkk,eF_chs (hkk ▸ hk),show ((k:Int)).toNat=k from rfl,←List.append_assoc]
  exact e
 have hlen:∀ p,((chL k).take p |>.flatMap (eCh cm)).length≤1600 * mCmd cm:=fun p=>by
  have:=flat_le (eCh_len cm) ((chL k).take p)
  have h4:=chL_len k
  have h5:((chL k).take p).length≤4:=by rw [List.length_take];omega
  have:=Nat.mul_le_mul_right (400 * mCmd cm) h5
  omega
 refine LoopK_i (fun vs w=>∃ p,p≤(chL k).length∧vs=[]∧w.heap[ib]?=some (.stringIter (fldS k) p)∧WrI G2 w c (l++uv k++((chL k).take p).flatMap (eCh cm))∧Mod G1 w1 w) (fun _ w=>(chL k).length - w.iterPos ib)
  ⟨0,Nat.zero_le _,rfl,hit,by simpa using h3,m2.trans (g3.mono fun _ _ e=>e.elim)⟩ ?_
 rintro vs w0 ⟨p,hpl,rfl,hiw,hw,hm⟩ _
 have hpos:w0.iterPos ib=p:=iterPos_of hiw
 by_cases hpe:p < (chL k).length
 rotate_left
 ·have hpe':p=(chL k).length:=by omega
  refine runK_i (Lib.run_next_end_at w0 ib _ p 0 hiw (by rw [fldS_size];omega)) ?_
  refine extK_i (vs:=[_]) rfl ?_
  refine condK_f ?_
  rw [hpe',List.take_length] at hw
  exact fin w0 hw hm
 have hsz:p < (fldS k).size:=by rw [fldS_size];exact hpe
 obtain ⟨hch,hIs⟩:=fldS_at hpe hsz
 refine runK_i (Lib.run_next_ascii_at w0 ib _ p 0 hiw hsz (by unfold IsCh at hIs;omega)) ?_
 rw [hch]
 have mi:Mod (fun z=>z=ib) w0 (w0.iterAt ib (fldS k) (p+1)):=Mod.setObj w0 ib _ _ hiw
 have hiw':=Lib.iterAt_heap w0 ib (fldS k) p (p+1) hiw
 have hw':WrI G2 (w0.iterAt ib (fldS k) (p+1)) c (l++uv k++((chL k).take p).flatMap (eCh cm)):=hw.mod mi fun z hz e=>ni (hz ▸ e)
 have hm':=hm.trans (mi.mono fun z _ e=>e ▸ hi1)
 generalize w0.iterAt ib (fldS k) (p+1)=w at hiw' hw' hm' ⊢
 generalize hcd:(chL k)[p]=ch at hIs ⊢
 refine extK_i (vs:=[_,_,_]) rfl (condK_t (extK_i (vs:=[_,_,_]) rfl ?_))
 have hlp:=hlen p
 have hrl:=eNum_len cm ch
 have hnext:((chL k).take (p+1)).flatMap (eCh cm)=((chL k).take p).flatMap (eCh cm)++eCh cm ch:=by
  rw [List.take_add_one,List.getElem?_eq_getElem hpe,hcd,List.flatMap_append]
  simp
 have done:∀ w' x,x=eRest ch cm→w'.heap[ib]?=some (.stringIter (fldS k) (p+1))→WrI G2 w' c (l++uv k++((chL k).take p).flatMap (eCh cm)++eNum ch cm++x)→Mod G1 w1 w'→(∃ p,p≤(chL k).length∧([]:List Value)=[]∧w'.heap[ib]?=some (.stringIter (fldS k) p)∧WrI G2 w' c (l++uv k++((chL k).take p).flatMap (eCh cm))∧Mod G1 w1 w')∧(chL k).length - w'.iterPos ib < (chL k).length - w0.iterPos ib:=fun w' x ex h1 h2 h3=>by
  refine ⟨⟨p+1,hpe,rfl,h1,?_,h3⟩,by rw [hpos,iterPos_of h1];omega⟩
  rw [hnext,show eCh cm ch=eNum ch cm++x from ex ▸ rfl]
  simpa only [List.append_assoc] using h2
 refine JoinK_i (fun vs w'=>vs=[]∧w'.heap[ib]?=some (.stringIter (fldS k) (p+1))∧WrI G2 w' c (l++uv k++((chL k).take p).flatMap (eCh cm)++eNum ch cm)∧Mod G1 w1 w') ?_ ?_
 ·rintro _ w' ⟨rfl,hi2,hw2,hm2⟩ _
  have hD2:∀ z,D z→¬ G2 z:=fun z hz e=>hD1 z hz (GG2 z e)
  have sm:∀ z,z < W.heap.size→D z→w'.heap[z]?=W.heap[z]?:=fun z hz hd=>((g.mono fun _ _ e=>e.elim).trans hm2).same z hz (hD1 z hd)
  rw [eqK_i]
  refine condK_p (fun e=>?_) fun e1=>?_
  ·rw [faK_i]
   refine ld1K_i (hm2.cell (hcl 5 _ rfl) nb) ?_
   refine callK_mono (sops_ok hw2 (SlR.mono hx (fun _ _ h=>h) sm (by decide) fun r y h=>h.mod ((g.mono fun _ _ e=>e.elim).trans hm2) (fun b _ hd hm=>hD1 b hd hm) fun _ _ h=>h) hD2 hD2 i5.2 (by unfold mCmd at *;simp only [List.length_append];omega)) ?_
   rintro _ w4 ⟨h4,n4⟩
   exact done w4 _ (by unfold eRest;rw [if_pos (by omega)]) ((n4.same ib (World.heap_lt hi2) ni).trans hi2) h4 (hm2.trans (n4.mono fun z _ e=>GG2 z e))
  rw [eqK_i]
  refine condK_p (fun e=>?_) fun e2=>?_
  ·rw [faK_i]
   refine ld1K_i (hm2.cell (hcl 6 _ rfl) nb) ?_
   refine callK_mono (sbytes_ok hw2 (SlR.mono hby (fun _ _ h=>h) sm (by decide) fun _ _ h=>h) hD2 (by unfold mCmd at *;simp only [List.length_append];omega)) ?_
   rintro _ w4 ⟨h4,n4⟩
   exact done w4 _ (by unfold eRest;rw [if_neg (by omega),if_pos (by omega)]) ((n4.same ib (World.heap_lt hi2) ni).trans hi2) h4 (hm2.trans (n4.mono fun z _ e=>GG2 z e))
  rw [eqK_i]
  refine condK_p (fun e=>?_) fun e3=>?_
  ·rw [faK_i]
   refine ld1K_i (hm2.cell (hcl 7 _ rfl) nb) ?_
   refine callK_mono (spatch_ok hw2 (SlR.mono hp (fun _ _ h=>h) sm (by decide) fun _ _ h=>h) hD2 i7.2 (by unfold mCmd at *;simp only [List.length_append];omega)) ?_
   rintro _ w4 ⟨h4,n4⟩
   exact done w4 _ (by unfold eRest;rw [if_neg (by omega),if_neg (by omega),if_pos (by omega)]) ((n4.same ib (World.heap_lt hi2) ni).trans hi2) h4 (hm2.trans (n4.mono fun z _ e=>GG2 z e))
  ·exact done w' _ (by unfold eRest;rw [if_neg (by omega),if_neg (by omega),if_neg (by omega)]) hi2 (by rw [List.append_nil];exact hw2) hm2
 ·refine callK_mono (snum_ok hIs) ?_
  rintro _ _ ⟨rfl,⟨j,hj,rfl⟩ | ⟨hj,rfl⟩⟩
  ·rename World=>w
   refine extK_i (vs:=[_,_]) rfl (extK_i (vs:=[_,_]) rfl (condK_t (nilckK_s ?_)))
   have put:∀ x:Int,In64 x→(([.int .u8 cm.kind,.int .i64 cm.i,.int .i64 cm.j,.int .i64 cm.key,.int .i64 cm.by_,ov,bv,pv]:List Value)[j]?=some (.int .i64 x))→eNum ch cm=uz x→ld1K (.pointer (some ((⟨b,0,none⟩:Addr).add j))) (fun t29 w18=>callK Tryz.prog 23 [.pointer (some ⟨c,0,none⟩),t29] (fun _ w19=>(([]:List Value)=[]∧w19.heap[ib]?=some (.stringIter (fldS k) (p+1))∧WrI G2 w19 c (l++uv k++((chL k).take p).flatMap (eCh cm)++eNum ch cm)∧Mod G1 w1 w19)) w18) w:=fun x hx1 hx2 hx3=>by
    refine ld1K_i (hm'.cell (hcl j _ hx2) (by rw [addr0'];exact nb)) ?_
    refine callK_mono (sint_ok hw' (by simp only [List.length_append];omega) hx1) ?_
    rintro _ w4 ⟨h4,n4⟩
    exact ⟨rfl,(n4.same ib (World.heap_lt hiw') ni).trans hiw',by rw [hx3];exact h4,hm'.trans (n4.mono fun z _ e=>GG2 z e)⟩
   rcases hj with ⟨rfl,rfl⟩ | ⟨rfl,rfl⟩ | ⟨rfl,rfl⟩ | ⟨rfl,rfl⟩
   ·exact put cm.i i1 rfl rfl
   ·exact put cm.j i2 rfl rfl
   ·exact put cm.key i3 rfl rfl
   ·exact put cm.by_ i4 rfl rfl
  ·rename World=>w
   refine extK_i (vs:=[_,_]) rfl (extK_i (vs:=[_,_]) rfl (condK_f ⟨rfl,hiw',?_,hm'⟩))
   have e:eNum ch cm=[]:=by unfold eNum;rw [if_neg hj.1,if_neg hj.2.1,if_neg hj.2.2.1,if_neg hj.2.2.2]
   rw [e,List.append_nil]
   exact hw'
end
end Go.Proofs.YtaimlfomodfekaaGreatDoor

namespace Go.Proofs.YtaimlfomodfekaaGreatDoor
open Go Go.K

theorem sop1_ok {D D':Nat→Prop} {r r':List Value} {a b:Dop} {w:World} (ha:RDop D w r a) (hb:RDop D' w r' b) :
  callK Tryz.prog 59 [.agg r.toArray,.agg r'.toArray] (fun v w'=>v=.bool (decide (a=b))∧Grow w w') w:=by
 apply S59_ok
 unfold S59
 have no:∀ w',Grow w w'→a≠b→Value.bool false=.bool (decide (a=b))∧Grow w w':=fun w' g hn=>⟨by rw [decide_eq_false hn],g⟩
 obtain ⟨rv,sv,pv,rfl,h1,h2,h3⟩:=ha
 obtain ⟨rv',sv',pv',rfl,h1',h2',h3'⟩:=hb
 refine boxn_i fun b1 w1 _ _ g1 hc1 _=>boxn_i fun b2 w2 _ _ g2 hc2 _=>?_
 have g02:=g1.trans g2
 have A:∀ {W},Grow w2 W→∀ j u,[Value.int .u8 a.kind,.int .i64 a.n,rv,sv,pv][j]?=some u→W.cell? ((⟨b1,0,none⟩:Addr).add j)=some u:=fun hW j u hu=>(g2.trans hW).cell (hc1 j u hu) fun h=>h
 have B:∀ {W},Grow w2 W→∀ j u,[Value.int .u8 b.kind,.int .i64 b.n,rv',sv',pv'][j]?=some u→W.cell? ((⟨b2,0,none⟩:Addr).add j)=some u:=fun hW j u hu=>hW.cell (hc2 j u hu) fun h=>h
 simp only [faK_i]
 refine ld1K_i (A (Mod.refl _ _) 0 _ rfl) (ld1K_i (B (Mod.refl _ _) 0 _ rfl) ?_)
 rw [eqK_i]
 refine condK_p (fun e0=>?_) fun e0=>no _ g02 fun e=>e0 (by rw [e])
 refine ld1K_i (A (Mod.refl _ _) 1 _ rfl) (ld1K_i (B (Mod.refl _ _) 1 _ rfl) ?_)
 rw [eqK_i]
 refine condK_p (fun e1=>?_) fun e1=>no _ g02 fun e=>e1 (by rw [e])
 refine ld1K_i (A (Mod.refl _ _) 2 _ rfl) (ld1K_i (B (Mod.refl _ _) 2 _ rfl) ?_)
 refine callK_mono (eq_run (h1.grow g02 (by decide) fun _ _ h=>h) (h1'.grow g02 (by decide) fun _ _ h=>h)) ?_
 rintro v3 w3 ⟨rfl,g3⟩
 refine condK_p (fun e2=>?_) fun e2=>no _ (g02.trans g3) fun e=>e2 (by rw [e])
 refine ld1K_i (A g3 3 _ rfl) (ld1K_i (B g3 3 _ rfl) ?_)
 refine callK_mono (eq_set (h2.grow (g02.trans g3) (by decide) fun _ _ h=>h) (h2'.grow (g02.trans g3) (by decide) fun _ _ h=>h)) ?_
 rintro v4 w4 ⟨rfl,g4⟩
 have g04:=(g02.trans g3).trans g4
 refine condK_p (fun e3=>?_) fun e3=>no _ g04 fun e=>e3 (by rw [e])
 refine ld1K_i (A (g3.trans g4) 4 _ rfl) (ld1K_i (B (g3.trans g4) 4 _ rfl) ?_)
 refine callK_mono (eq_pat (h3.grow g04 (by decide) fun _ _ h=>h) (h3'.grow g04 (by decide) fun _ _ h=>h)) ?_
 rintro v5 w5 ⟨rfl,g5⟩
 refine ⟨?_,g04.trans g5⟩
 congr 1
 rw [decide_eq_decide]
 constructor
 ·intro e4;cases a;cases b;simp only at e0 e1 e2 e3 e4;subst e0;subst e1;subst e2;subst e3;subst e4;rfl
 ·intro e;rw [e]
theorem sopeq_ok {S S' D D':Nat→Prop} {a b:Value} {l m:List Dop} {w:World} (ha:RDops S D w a l) (hb:RDops S' D' w b m) :
  callK Tryz.prog 58 [a,b,.func (.func 59) #[] #[]] (fun v w'=>v=.bool (decide (l=m))∧Grow w w') w:=by
 apply S58_ok
 unfold S58
 have ha0:=ha
 have hb0:=hb
 obtain ⟨pa,ca,rfl,hla⟩:=ha.shape
 obtain ⟨pb,cb,rfl,hlb⟩:=hb.shape
 simp only [maxLen] at hla hlb
 have no:∀ w',Grow w w'→l≠m→Value.bool false=.bool (decide (l=m))∧Grow w w':=fun w' g hn=>⟨by rw [decide_eq_false hn],g⟩
 rw [lenK_i,lenK_i,neK_i]
 refine condK_neg (fun hlen=>?_) fun hlen=>no _ (Mod.refl _ _) fun e=>hlen (by rw [e])
 rw [lenK_i]
 refine LoopK_i (fun vs w1=>∃ k:Nat,k≤l.length∧vs=[.int .i64 k]∧Grow w w1∧l.take k=m.take k) (fun vs _=>l.length - iOf vs 0) ⟨0,Nat.zero_le _,rfl,Mod.refl _ _,rfl⟩ ?_
 rintro vs w1 ⟨k,hk,rfl,hg,ht⟩ _
 rw [nth_z,List.headD_cons,ltK_i]
 refine condK_p (fun hlt=>?_) fun hge=>?_
 ·have hlt':k < l.length:=by omega
  have hlm':k < m.length:=by omega
  obtain ⟨p,r,rfl,_,hr,hc,ho⟩:=(RDops.grow ha hg).get hlt'
  obtain ⟨p',r',rfl,_,hr',hc',ho'⟩:=(RDops.grow hb hg).get hlm'
  refine ixK_n hlt' (ldnK_i hr (fun j u hu=>by rw [Addr.add_add];exact hc j u hu) ?_)
  refine newst_n (vs:=r) hr rfl ho.one fun b1 w2 hb1 hz1 g2 hc2 _=>?_
  refine ixK_n hlm' (ldnK_i hr' (fun j u hu=>by rw [Addr.add_add];exact g2.cell (hc' j u hu) fun h=>h) ?_)
  refine newst_n (vs:=r') hr' rfl ho'.one fun b2 w3 hb2 hz2 g3 hc3 _=>?_
  refine ldnK_i hr (fun j u hu=>g3.cell (hc2 j u hu) fun h=>h) ?_
  refine ldnK_i hr' hc3 ?_
  have g03:Grow w1 w3:=g2.trans g3
  refine callyK_f (by kernel_rfl) ?_
  refine callK_mono (sop1_ok (ho.mod (D':=D) g03 (fun _ _ _ h=>h) fun _ _ h=>h) (ho'.mod (D':=D') g03 (fun _ _ _ h=>h) fun _ _ h=>h)) ?_
  rintro v4 w4 ⟨rfl,g4⟩
  have g14:=g03.trans g4
  rw [notK_i]
  refine condK_neg (fun he=>?_) fun he=>no _ (hg.trans g14) fun e=>he (by subst e;rfl)
  rw [addK_i,loop_step (by omega)]
  refine ⟨⟨k+1,hlt',rfl,hg.trans g14,?_⟩,by rw [iOf0,iOf0];omega⟩
  rw [List.take_add_one,List.take_add_one,ht,List.getElem?_eq_getElem hlt',List.getElem?_eq_getElem hlm',he]
 ·have:k=l.length:=by omega
  subst this
  rw [List.take_length,show l.length=m.length by omega,List.take_length] at ht
  exact ⟨by rw [decide_eq_true ht],hg⟩
theorem strOf_injS {a b:List Int} (ha:ByteL a) (hb:ByteL b) (h:strOf a=strOf b):a=b:=by
 have:=congrArg bytesL h
 rwa [bytesL_strOf ha,bytesL_strOf hb] at this
theorem beq_ok {S S':Nat→Prop} {a b:Value} {l m:List Int} {w:World} (ha:RBytes S w a l) (hb:RBytes S' w b m) (hl:ByteL l) (hm:ByteL m) :
  callK Tryz.prog 60 [a,b] (fun v w'=>v=.bool (decide (l=m))∧Grow w w') w:=by
 apply S60_ok
 unfold S60
 refine runK_i (run_str ha hl) (runK_i (run_str hb hm) ?_)
 rw [seqK_i]
 refine ⟨?_,Mod.refl _ _⟩
 congr 1
 rw [decide_eq_decide]
 exact ⟨strOf_injS hl hm,fun e=>by rw [e]⟩
theorem scm1_ok {D D':Nat→Prop} {r r':List Value} {a b:Cmd} {w:World} (ha:RCmd D w r a) (hb:RCmd D' w r' b) (ba:ByteL a.bytes) (bb:ByteL b.bytes) :
  callK Tryz.prog 28 [.agg r.toArray,.agg r'.toArray] (fun v w'=>v=.bool (decide (a=b))∧Grow w w') w:=by
 apply S28_ok
 unfold S28
 have no:∀ w',Grow w w'→a≠b→Value.bool false=.bool (decide (a=b))∧Grow w w':=fun w' g hn=>⟨by rw [decide_eq_false hn],g⟩
 obtain ⟨ov,bv,pv,rfl,h1,h2,h3⟩:=ha
 obtain ⟨ov',bv',pv',rfl,h1',h2',h3'⟩:=hb
 refine boxn_i fun b1 w1 _ _ g1 hc1 _=>boxn_i fun b2 w2 _ _ g2 hc2 _=>?_
 have g02:=g1.trans g2
 have A:∀ {W},Grow w2 W→∀ j u,[Value.int .u8 a.kind,.int .i64 a.i,.int .i64 a.j,.int .i64 a.key,.int .i64 a.by_,ov,bv,pv][j]?=some u→W.cell? ((⟨b1,0,none⟩:Addr).add j)=some u:=fun hW j u hu=>(g2.trans hW).cell (hc1 j u hu) fun h=>h
 have B:∀ {W},Grow w2 W→∀ j u,[Value.int .u8 b.kind,.int .i64 b.i,.int .i64 b.j,.int .i64 b.key,.int .i64 b.by_,ov',bv',pv'][j]?=some u→W.cell? ((⟨b2,0,none⟩:Addr).add j)=some u:=fun hW j u hu=>hW.cell (hc2 j u hu) fun h=>h
 simp only [faK_i]
 refine ld1K_i (A (Mod.refl _ _) 0 _ rfl) (ld1K_i (B (Mod.refl _ _) 0 _ rfl) ?_)
 rw [eqK_i]
 refine condK_p (fun e0=>?_) fun e0=>no _ g02 fun e=>e0 (by rw [e])
 refine ld1K_i (A (Mod.refl _ _) 1 _ rfl) (ld1K_i (B (Mod.refl _ _) 1 _ rfl) ?_)
 rw [eqK_i]
 refine condK_p (fun e1=>?_) fun e1=>no _ g02 fun e=>e1 (by rw [e])
 refine ld1K_i (A (Mod.refl _ _) 2 _ rfl) (ld1K_i (B (Mod.refl _ _) 2 _ rfl) ?_)
 rw [eqK_i]
 refine condK_p (fun e2=>?_) fun e2=>no _ g02 fun e=>e2 (by rw [e])
 refine ld1K_i (A (Mod.refl _ _) 3 _ rfl) (ld1K_i (B (Mod.refl _ _) 3 _ rfl) ?_)
 rw [eqK_i]
 refine condK_p (fun e3=>?_) fun e3=>no _ g02 fun e=>e3 (by rw [e])
 refine ld1K_i (A (Mod.refl _ _) 4 _ rfl) (ld1K_i (B (Mod.refl _ _) 4 _ rfl) ?_)
 rw [eqK_i]
 refine condK_p (fun e4=>?_) fun e4=>no _ g02 fun e=>e4 (by rw [e])
 refine ld1K_i (A (Mod.refl _ _) 5 _ rfl) (ld1K_i (B (Mod.refl _ _) 5 _ rfl) ?_)
 refine callK_mono (sopeq_ok (RDops.grow h1 g02) (RDops.grow h1' g02)) ?_
 rintro v3 w3 ⟨rfl,g3⟩
 refine condK_p (fun e5=>?_) fun e5=>no _ (g02.trans g3) fun e=>e5 (by rw [e])
 refine ld1K_i (A g3 6 _ rfl) (ld1K_i (B g3 6 _ rfl) ?_)
 refine callK_mono (beq_ok (h2.grow (g02.trans g3) (by decide) fun _ _ h=>h) (h2'.grow (g02.trans g3) (by decide) fun _ _ h=>h) ba bb) ?_
 rintro v4 w4 ⟨rfl,g4⟩
 have g04:=(g02.trans g3).trans g4
 refine condK_p (fun e6=>?_) fun e6=>no _ g04 fun e=>e6 (by rw [e])
 refine ld1K_i (A (g3.trans g4) 7 _ rfl) (ld1K_i (B (g3.trans g4) 7 _ rfl) ?_)
 refine callK_mono (eq_pat (h3.grow g04 (by decide) fun _ _ h=>h) (h3'.grow g04 (by decide) fun _ _ h=>h)) ?_
 rintro v5 w5 ⟨rfl,g5⟩
 refine ⟨?_,g04.trans g5⟩
 congr 1
 rw [decide_eq_decide]
 constructor
 ·intro e7;cases a;cases b;simp only at e0 e1 e2 e3 e4 e5 e6 e7;subst e0;subst e1;subst e2;subst e3;subst e4;subst e5;subst e6;subst e7;rfl
 ·intro e;rw [e]
def RCmds (S D:Nat→Prop) (w:World) (v:Value) (l:List Cmd):Prop:=SlR S 8 (RCmd D) w v l
theorem RCmd.grow {D:Nat→Prop} {w w':World} {r:List Value} {c:Cmd} (h:RCmd D w r c) (g:Grow w w'):RCmd D w' r c:=h.mod g fun _ h=>h.elim
theorem RCmds.grow {S D:Nat→Prop} {w w':World} {v:Value} {l:List Cmd} (h:RCmds S D w v l) (g:Grow w w'):RCmds S D w' v l:=SlR.grow h g (by decide) fun _ _ h=>h.grow g
theorem RCmd.one {D:Nat→Prop} {w:World} {r:List Value} {c:Cmd} (h:RCmd D w r c):∀ u ∈ r,u.oneCell'=true:=by
 obtain ⟨ov,bv,pv,rfl,h1,h2,h3⟩:=h
 obtain ⟨_,_,rfl,_⟩:=h1.shape
 obtain ⟨_,_,rfl,_⟩:=h2.shape
 obtain ⟨_,_,rfl,_⟩:=h3.shape
 intro u hu
 simp at hu
 rcases hu with rfl | rfl | rfl | rfl | rfl | rfl | rfl | rfl <;> rfl
theorem scmeq_ok {S S' D D':Nat→Prop} {a b:Value} {l m:List Cmd} {w:World} (ha:RCmds S D w a l) (hb:RCmds S' D' w b m) (bl:∀ c ∈ l,ByteL c.bytes) (bm:∀ c ∈ m,ByteL c.bytes) :
  callK Tryz.prog 32 [a,b,.func (.func 28) #[] #[]] (fun v w'=>v=.bool (decide (l=m))∧Grow w w') w:=by
 apply S32_ok
 unfold S32
 have ha0:=ha
 have hb0:=hb
 obtain ⟨pa,ca,rfl,hla⟩:=ha.shape
 obtain ⟨pb,cb,rfl,hlb⟩:=hb.shape
 simp only [maxLen] at hla hlb
 have no:∀ w',Grow w w'→l≠m→Value.bool false=.bool (decide (l=m))∧Grow w w':=fun w' g hn=>⟨by rw [decide_eq_false hn],g⟩
 rw [lenK_i,lenK_i,neK_i]
 refine condK_neg (fun hlen=>?_) fun hlen=>no _ (Mod.refl _ _) fun e=>hlen (by rw [e])
 rw [lenK_i]
 refine LoopK_i (fun vs w1=>∃ k:Nat,k≤l.length∧vs=[.int .i64 k]∧Grow w w1∧l.take k=m.take k) (fun vs _=>l.length - iOf vs 0) ⟨0,Nat.zero_le _,rfl,Mod.refl _ _,rfl⟩ ?_
 rintro vs w1 ⟨k,hk,rfl,hg,ht⟩ _
 rw [nth_z,List.headD_cons,ltK_i]
 refine condK_p (fun hlt=>?_) fun hge=>?_
 ·have hlt':k < l.length:=by omega
  have hlm':k < m.length:=by omega
  obtain ⟨p,r,rfl,_,hr,hc,ho⟩:=(RCmds.grow ha hg).get hlt'
  obtain ⟨p',r',rfl,_,hr',hc',ho'⟩:=(RCmds.grow hb hg).get hlm'
  refine ixK_n hlt' (ldnK_i hr (fun j u hu=>by rw [Addr.add_add];exact hc j u hu) ?_)
  refine newst_n (vs:=r) hr rfl ho.one fun b1 w2 hb1 hz1 g2 hc2 _=>?_
  refine ixK_n hlm' (ldnK_i hr' (fun j u hu=>by rw [Addr.add_add];exact g2.cell (hc' j u hu) fun h=>h) ?_)
  refine newst_n (vs:=r') hr' rfl ho'.one fun b2 w3 hb2 hz2 g3 hc3 _=>?_
  refine ldnK_i hr (fun j u hu=>g3.cell (hc2 j u hu) fun h=>h) ?_
  refine ldnK_i hr' hc3 ?_
  have g03:Grow w1 w3:=g2.trans g3
  refine callyK_f (by kernel_rfl) ?_
  refine callK_mono (scm1_ok (ho.grow g03) (ho'.grow g03) (bl _ (List.getElem_mem hlt')) (bm _ (List.getElem_mem hlm'))) ?_
  rintro v4 w4 ⟨rfl,g4⟩
  have g14:=g03.trans g4
  rw [notK_i]
  refine condK_neg (fun he=>?_) fun he=>no _ (hg.trans g14) fun e=>he (by subst e;rfl)
  rw [addK_i,loop_step (by omega)]
  refine ⟨⟨k+1,hlt',rfl,hg.trans g14,?_⟩,by rw [iOf0,iOf0];omega⟩
  rw [List.take_add_one,List.take_add_one,ht,List.getElem?_eq_getElem hlt',List.getElem?_eq_getElem hlm',he]
 ·have:k=l.length:=by omega
  subst this
  rw [List.take_length,show l.length=m.length by omega,List.take_length] at ht
  exact ⟨by rw [decide_eq_true ht],hg⟩
theorem eq_keys {S S':Nat→Prop} {a b:Value} {l m:List DKey} {w:World} (ha:RKeys S w a l) (hb:RKeys S' w b m) :
  callK Tryz.prog 31 [a,b] (fun v w'=>v=.bool (decide (l=m))∧Grow w w') w:=by
 apply S31_ok
 unfold S31
 obtain ⟨pa,ca,rfl,hla⟩:=ha.shape
 obtain ⟨pb,cb,rfl,hlb⟩:=hb.shape
 simp only [lenK_i]
 rw [neK_i]
 refine condK_neg (fun hlen=>?_) fun hlen=>?_
 ·exact eq_loop (K:=fun v w'=>v=.bool (decide (l=m))∧Grow w w') (bin:=fun x y=>binS .neq 59 _ _ x y) ha hb (by omega) hla (fun r r' x y w1 hx hy=>by subst hx;subst hy;exact run_ne_key _ _ _ _ w1) fun _ hg=>⟨rfl,hg⟩
 ·refine ⟨?_,Mod.refl _ _⟩
  congr 1;symm
  rw [decide_eq_false_iff_not]
  intro e;exact hlen (by rw [e])
def RScr (S D:Nat→Prop) (w:World) (r:List Value) (s:Scr):Prop:=∃ kv cv,r=[kv,.int .i64 s.most,.int .i64 s.undo,cv]∧RKeys S w kv s.keys∧RCmds S D w cv s.cmds
theorem RScr.grow {S D:Nat→Prop} {w w':World} {r:List Value} {s:Scr} (h:RScr S D w r s) (g:Grow w w'):RScr S D w' r s:=by
 obtain ⟨kv,cv,e,h1,h2⟩:=h
 exact ⟨kv,cv,e,h1.grow g (by decide) fun _ _ h=>h,h2.grow g⟩
theorem ssame_ok {S D S' D':Nat→Prop} {r r':List Value} {a b:Scr} {w:World} (ha:RScr S D w r a) (hb:RScr S' D' w r' b) (ba:∀ c ∈ a.cmds,ByteL c.bytes) (bb:∀ c ∈ b.cmds,ByteL c.bytes) :
  callK Tryz.prog 12 [.agg r.toArray,.agg r'.toArray] (fun v w'=>v=.bool (decide (a=b))∧Grow w w') w:=by
 apply S12_ok
 unfold S12
 have no:∀ w',Grow w w'→a≠b→Value.bool false=.bool (decide (a=b))∧Grow w w':=fun w' g hn=>⟨by rw [decide_eq_false hn],g⟩
 obtain ⟨kv,cv,rfl,h1,h2⟩:=ha
 obtain ⟨kv',cv',rfl,h1',h2'⟩:=hb
 refine boxn_i fun b1 w1 _ _ g1 hc1 _=>boxn_i fun b2 w2 _ _ g2 hc2 _=>?_
 have g02:=g1.trans g2
 have A:∀ {W},Grow w2 W→∀ j u,[kv,.int .i64 a.most,.int .i64 a.undo,cv][j]?=some u→W.cell? ((⟨b1,0,none⟩:Addr).add j)=some u:=fun hW j u hu=>(g2.trans hW).cell (hc1 j u hu) fun h=>h
 have B:∀ {W},Grow w2 W→∀ j u,[kv',.int .i64 b.most,.int .i64 b.undo,cv'][j]?=some u→W.cell? ((⟨b2,0,none⟩:Addr).add j)=some u:=fun hW j u hu=>hW.cell (hc2 j u hu) fun h=>h
 simp only [faK_i]
 refine ld1K_i (A (Mod.refl _ _) 0 _ rfl) (ld1K_i (B (Mod.refl _ _) 0 _ rfl) ?_)
 refine callK_mono (eq_keys (h1.grow g02 (by decide) fun _ _ h=>h) (h1'.grow g02 (by decide) fun _ _ h=>h)) ?_
 rintro v3 w3 ⟨rfl,g3⟩
 refine condK_p (fun e0=>?_) fun e0=>no _ (g02.trans g3) fun e=>e0 (by rw [e])
 refine ld1K_i (A g3 1 _ rfl) (ld1K_i (B g3 1 _ rfl) ?_)
 rw [eqK_i]
 refine condK_p (fun e1=>?_) fun e1=>no _ (g02.trans g3) fun e=>e1 (by rw [e])
 refine ld1K_i (A g3 2 _ rfl) (ld1K_i (B g3 2 _ rfl) ?_)
 rw [eqK_i]
 refine condK_p (fun e2=>?_) fun e2=>no _ (g02.trans g3) fun e=>e2 (by rw [e])
 refine ld1K_i (A g3 3 _ rfl) (ld1K_i (B g3 3 _ rfl) ?_)
 refine callK_mono (scmeq_ok (h2.grow (g02.trans g3)) (h2'.grow (g02.trans g3)) ba bb) ?_
 rintro v5 w5 ⟨rfl,g5⟩
 refine ⟨?_,(g02.trans g3).trans g5⟩
 congr 1
 rw [decide_eq_decide]
 constructor
 ·intro e3;cases a;cases b;simp only at e0 e1 e2 e3;subst e0;subst e1;subst e2;subst e3;rfl
 ·intro e;rw [e]
end Go.Proofs.YtaimlfomodfekaaGreatDoor

namespace Go.K
open Go
theorem slice_lh {α:Type} {P:Program} {t e k:Nat} {i:TypeInfo} {R:World→List Value→α→Prop} {S:Nat→Prop} {w:World} {a:Option Addr} {n c:Nat} {l:List α} {j q:Nat} {K:Cont} (ht:P.underlying t=some (.slice e)) (hi:P.info? e=some i) (hk:i.size=k)
  (h:SlR S k R w (.slice a n c) l) (hjq:j≤q) (hq:q≤l.length) (hK:∀ v',SlR S k R w v' ((l.take q).drop j)→K v' w):runK P (Instr.sliceAt t (.slice a n c) (some (.int .i64 j)) (some (.int .i64 q)) none) K w:=by
 obtain ⟨a',c',e1,h1,h2,h3⟩:=h
 cases e1
 have hel:P.elem t=e:=by simp [Program.elem,ht]
 refine ⟨sliced a j q c k,w,?_,hK _ ?_⟩
 ·rw [run_sliceAt_slice _ _ _ _ _ _ (by rw [hel];exact ht),run_slice_lh _ _ _ _ _ (by rw [hel];exact ht) _ _ _ _ (by omega) (by omega) (by omega),hel]
  simp [sizeOf,typeInfo,hi,hk]
 ·unfold sliced
  have hl:((l.take q).drop j).length=q - j:=by simp;omega
  refine ⟨_,_,by rw [hl],by rw [hl];omega,by omega,fun m x hx=>?_⟩
  rw [List.getElem?_drop,List.getElem?_take] at hx
  split at hx
  ·obtain ⟨p,r,rfl,hS,hr,hc,hR⟩:=h3 _ x hx
   rw [if_neg (by omega)]
   refine ⟨p.add (j * k),r,rfl,by rw [add_block];exact hS,hr,fun y u hu=>?_,hR⟩
   rw [Addr.add_add,←Nat.add_assoc,←Nat.add_mul]
   exact hc y u hu
  ·cases hx
end Go.K

namespace Go.Proofs.YtaimlfomodfekaaGreatDoor
open Go Go.K

theorem or_add {n m i:Nat} (h:n < 2 ^ i):n ||| (m * 2 ^ i)=n+m * 2 ^ i:=by
 rw [Nat.or_comm,←Nat.shiftLeft_eq,←Nat.shiftLeft_add_eq_or_of_lt h];omega
theorem run_ob64 {t:TypeId} {xo yo:Operand} {a b:Nat} (w:World) (ha:a < 18446744073709551616) (hb:b < 18446744073709551616):(binS .or t xo yo (.int .u64 a) (.int .u64 b)).run Tryz.prog w=.ok (.int .u64 ((a ||| b:Nat):Int)) w∧(binS .and t xo yo (.int .u64 a) (.int .u64 b)).run Tryz.prog w=.ok (.int .u64 ((a &&& b:Nat):Int)) w:=by
 have e64:∀ x:Nat,x < 18446744073709551616→(BitVec.ofInt 64 (x:Int)).toNat=x:=fun x hx=>by
  rw [BitVec.ofInt_natCast,BitVec.toNat_ofNat];exact Nat.mod_eq_of_lt (by omega)
 constructor
 ·rw [(run_bits w).1]
  show Result.ok (Value.int .u64 (IntKind.u64.wrap ((BitVec.ofInt 64 (a:Int) ||| BitVec.ofInt 64 (b:Int)).toNat:Int))) w=_
  have:=Nat.or_lt_two_pow (n:=64) ha hb
  rw [BitVec.toNat_or,e64 a ha,e64 b hb,wrapu64 ⟨by omega,by omega⟩]
 ·rw [(run_bits w).2]
  show Result.ok (Value.int .u64 (IntKind.u64.wrap ((BitVec.ofInt 64 (a:Int) &&& BitVec.ofInt 64 (b:Int)).toNat:Int))) w=_
  have:=Nat.and_le_left (n:=a) (m:=b)
  rw [BitVec.toNat_and,e64 a ha,e64 b hb,wrapu64 ⟨by omega,by omega⟩]
theorem conv8_u64 {x:Int} {K:Cont} {w:World} (h0:0≤x) (h1:x < 256) (h:K (.int .u64 x) w):runK Tryz.prog (convert 5 38 (.int .u8 x)) K w:=by
 refine runK_i (run_conv (k:=.u64) w (by kernel_rfl) (by kernel_rfl)) ?_
 rw [wrapu64 ⟨by omega,by omega⟩];exact h
theorem pow7 (i:Nat):(2:Nat) ^ (7 * i)=128 ^ i:=by rw [Nat.pow_mul]
theorem dig_i {n x i:Nat} {t t':TypeId} {xo yo xo' yo':Operand} {K:Cont} {w:World} (hi:i≤9) (hn:n < 128 ^ i) (hx:x < 128) (h9:i=9→x≤1) (h:K (.int .u64 ((n+128 ^ i * x:Nat):Int)) w) :
  runK Tryz.prog (binS .shl t xo yo (.int .u64 x) (.int .i64 ((7 * i:Nat):Int))) (fun t49 w7=>runK Tryz.prog (binS .or t' xo' yo' (.int .u64 n) t49) K w7) w:=by
 refine runK_i (run_shl (n:=7 * i) w (by show 7 * i≤64;omega)) ?_
 have hp:128 ^ i * x < 18446744073709551616:=by
  have e8:(128:Nat) ^ 9=9223372036854775808:=by decide
  by_cases h9':i=9
  ·subst h9';rw [e8];have:=h9 rfl;omega
  ·have hle:128 ^ i≤128 ^ 8:=Nat.pow_le_pow_right (by decide) (by omega)
   have e7:(128:Nat) ^ 8=72057594037927936:=by decide
   have:=Nat.mul_le_mul hle (show x≤127 by omega)
   omega
 have e:(x:Int) * 2 ^ (7 * i)=((x * 2 ^ (7 * i):Nat):Int):=by push_cast;rfl
 rw [e,pow7,Nat.mul_comm,wrapu64 ⟨by omega,by omega⟩]
 have hn':n < 18446744073709551616:=by
  have hle:128 ^ i≤128 ^ 9:=Nat.pow_le_pow_right (by decide) hi
  have e8:(128:Nat) ^ 9=9223372036854775808:=by decide
  omega
 refine runK_i (run_ob64 w hn' hp).1 ?_
 have e2:=or_add (n:=n) (m:=x) (i:=7 * i) (by rw [pow7];exact hn)
 rw [pow7,Nat.mul_comm] at e2
 rw [e2];exact h
set_option maxRecDepth 4000 in
theorem ruint_ok {S:Nat→Prop} {v:Value} {b:List Int} {p:Nat} {w:World} (h:RBytes S w v b) (hb:∀ x ∈ b,0≤x∧x < 256) (hp:p≤b.length) (hl:b.length≤1099511627776) :
  callK Tryz.prog 83 [v,.int .i64 p] (fun v' w'=>w'=w∧((∃ (n:Nat) (t:List Int),v'=.tuple #[.int .u64 n,.int .i64 ((b.length - t.length:Nat):Int),.int .i64 0]∧uvR 9 true (b.drop p)=some (n,t))∨(v'=.tuple #[.int .u64 0,.int .i64 0,.int .i64 3]∧uvR 9 true (b.drop p)=none))) w:=by
 apply S83_ok
 unfold S83
 obtain ⟨a,c,rfl,hm⟩:=h.shape
 refine JoinK_i (fun vs W=>W=w∧vs=[.int .u64 0]) ?_ ?_
 rotate_left
 ·rw [ltK_i]
  refine condK_p (fun e=>by omega) fun _=>?_
  rw [lenK_i,gtK_i]
  refine condK_p (fun e=>by omega) fun _=>⟨rfl,rfl⟩
 rintro _ _ ⟨rfl,rfl⟩ _
 rename World=>w
 refine slice_lo (e:=5) (k:=1) (i:=Tryz.t5) (by kernel_rfl) (by kernel_rfl) rfl h hp fun v2 h2=>?_
 obtain ⟨a2,c2,rfl,hm2⟩:=h2.shape
 have hdl:(b.drop p).length=b.length - p:=List.length_drop
 have hbd:∀ x ∈ b.drop p,0≤x∧x < 256:=fun x hx=>hb x (List.mem_of_mem_drop hx)
 generalize hL:b.drop p=L at h2 hdl hbd
 rw [lenK_i,nth_z,List.headD_cons]
 refine LoopK_i (fun vs W=>∃ i n:Nat,i≤L.length∧i≤9∧vs=[.int .u64 n,.int .i64 i]∧W=w∧n < 128 ^ i∧uvR 9 true L=(uvR (9 - i) (decide (i=0)) (L.drop i)).map fun r=>(n+128 ^ i * r.1,r.2)) (fun vs _=>L.length - iOf vs 1) ⟨0,0,Nat.zero_le _,by omega,rfl,rfl,by decide,by
  simp only [Nat.sub_zero,List.drop_zero,decide_true,Nat.pow_zero,Nat.one_mul,Nat.zero_add]
  cases uvR 9 true L <;> rfl⟩ ?_
 rintro vs W ⟨i,n,hi,hi9,rfl,rfl,hn,he⟩ _
 rename World=>w
 simp only [nth_s,nth_z,List.headD_cons,List.tail_cons]
 rw [ltK_i]
 refine condK_p (fun hlt=>?_) fun hge=>?_
 rotate_left
 ·refine ⟨by trivial,.inr ⟨by trivial,?_⟩⟩
  rw [he,List.drop_eq_nil_of_le (by omega)]
  unfold uvR;rfl
 have hlt':i < L.length:=by omega
 obtain ⟨q,r,rfl,_,_,hc,rfl⟩:=h2.get hlt'
 refine ixK_n hlt' ?_
 refine ld1K_i (by have:=hc 0 _ rfl;exact this) ?_
 have hx:=hbd _ (List.getElem_mem hlt')
 rw [List.drop_eq_getElem_cons hlt'] at he
 generalize L[i]=x at he hx
 have none':((9 - i=0∧1 < x)∨(decide (i=0)=false∧x=0))→uvR 9 true L=none:=fun e=>by
  rw [he];unfold uvR;rw [if_pos e];rfl
 refine JoinK_i (fun vs W=>W=w∧∃ B:Bool,vs=[.bool B]∧(B=true↔((9 - i=0∧1 < x)∨(decide (i=0)=false∧x=0)))) ?_ ?_
 rotate_left
 ·have p2:∀ {A:Value→Prop},(¬ (9 - i=0∧1 < x))→(∀ B:Bool,(B=true↔((9 - i=0∧1 < x)∨(decide (i=0)=false∧x=0)))→A (.bool B))→gtK .i64 (.int .i64 (i:Int)) (.int .i64 0) fun t35=>condK t35 (eqK .u8 (.int .u8 x) (.int .u8 0) fun t38=>A t38) (A (.bool false)):=by
   intro A hno hA
   rw [gtK_i]
   refine condK_p (fun e=>?_) fun e=>hA _ ?_
   ·rw [eqK_i]
    refine hA _ ?_
    rw [decide_eq_true_eq]
    exact ⟨fun e'=>.inr ⟨decide_eq_false (by omega),e'⟩,fun e'=>by rcases e' with e' | e';exact (hno e').elim;exact e'.2⟩
   ·refine ⟨fun e'=>(by cases e'),fun e'=>?_⟩
    rcases e' with e' | e'
    ·exact (hno e').elim
    ·have:=of_decide_eq_false e'.1;omega
  rw [eqK_i]
  refine condK_p (fun e9=>?_) fun e9=>p2 (fun e=>by omega) fun B hB=>⟨rfl,B,rfl,hB⟩
  rw [gtK_i]
  refine condK_p (fun ex=>⟨rfl,true,rfl,⟨fun _=>.inl ⟨by omega,ex⟩,fun _=>rfl⟩⟩) fun ex=>p2 (fun e=>ex e.2) fun B hB=>⟨rfl,B,rfl,hB⟩
 rintro _ _ ⟨rfl,B,rfl,hB⟩ _
 rename World=>w
 simp only [nth_z,List.headD_cons]
 refine condK_bb (fun e=>⟨by trivial,.inr ⟨by trivial,none' (hB.1 e)⟩⟩) fun e=>?_
 have hno:¬ ((9 - i=0∧1 < x)∨(decide (i=0)=false∧x=0)):=fun e'=>by rw [hB.2 e'] at e;cases e
 have hx9:i=9→x≤1:=fun e'=>Int.not_lt.1 fun e''=>hno (.inl ⟨by omega,e''⟩)
 have m7:IntKind.i64.wrap (7 * (i:Int))=((7 * i:Nat):Int):=by rw [wrap64 (by omega) (by omega)];push_cast;rfl
 rw [ltK_i]
 refine condK_p (fun hs=>?_) fun hs=>?_
 ·refine conv8_u64 hx.1 hx.2 ?_
  rw [mulK_i,m7]
  obtain ⟨k,rfl⟩:∃ k:Nat,x=k:=⟨x.toNat,by omega⟩
  refine dig_i hi9 hn (by omega) (fun e'=>by have:=hx9 e';omega) ?_
  rw [addK_i,addK_i,wrap64 (x:=(p:Int)+i) (by omega) (by omega),wrap64 (by omega) (by omega)]
  refine ⟨by trivial,.inl ⟨n+128 ^ i * k,L.drop (i+1),?_,?_⟩⟩
  ·rw [List.length_drop,hdl,show ((p:Int)+i+1)=((b.length - (b.length - p - (i+1)):Nat):Int) by omega]
  ·rw [he];unfold uvR;rw [if_neg hno,if_pos (by omega)];simp
 ·obtain ⟨k,rfl⟩:∃ k:Nat,x=k:=⟨x.toNat,by omega⟩
  refine runK_i (run_bit8 (a:=k) (b:=127) w (by omega) (by omega)).2 ?_
  have e127:k &&& 127=k - 128:=by
   have:k &&& 127=k % 128:=Nat.and_two_pow_sub_one_eq_mod k 7
   rw [this];omega
  rw [e127]
  refine conv8_u64 (by omega) (by omega) ?_
  rw [mulK_i,m7]
  have hi8:i < 9:=by
   rcases Nat.lt_or_ge i 9 with h | h
   ·exact h
   ·have:=hx9 (by omega);omega
  refine dig_i hi9 hn (by omega) (fun e'=>by omega) ?_
  rw [addK_i,loop_step (by omega)]
  refine ⟨⟨i+1,n+128 ^ i * (k - 128),hlt',by omega,rfl,by trivial,?_,?_⟩,by rw [iOf1,iOf1];omega⟩
  ·have:128 ^ i * (k - 128)≤128 ^ i * 127:=Nat.mul_le_mul_left _ (by omega)
   rw [Nat.pow_succ];omega
  ·rw [he]
   obtain ⟨f,hf⟩:∃ f,9 - i=f+1:=⟨8 - i,by omega⟩
   have hf2:9 - (i+1)=f:=by omega
   rw [hf,hf2]
   have hno':¬ ((f+1=0∧1 < (k:Int))∨(decide (i=0)=false∧(k:Int)=0)):=by rw [←hf];exact hno
   conv=>lhs;unfold uvR
   rw [if_neg hno',if_neg (by omega)]
   simp only [Nat.add_one_ne_zero,decide_false]
   cases uvR f false (L.drop (i+1)) with
   | none=>rfl
   | some r=>
    simp only [Option.map_some,Option.some.injEq,Prod.mk.injEq,and_true]
    rw [Nat.pow_succ,Nat.mul_add,show ((k:Int) - 128).toNat=k - 128 by omega,Nat.mul_assoc]
    omega
theorem zag_ok {n:Nat} {w:World} (hn:n < 18446744073709551616):callK Tryz.prog 84 [.int .u64 n] (fun v' w'=>v'=.int .i64 (unzig n)∧w'=w) w:=by
 apply S84_ok
 unfold S84
 refine runK_i (run_shr (n:=1) w (by decide)) ?_
 have e1:((n:Int)).fdiv (2 ^ 1)=((n / 2:Nat):Int):=by
  rw [Int.fdiv_eq_ediv_of_nonneg _ (by decide)];show (n:Int) / 2=_;omega
 rw [e1]
 refine runK_i (run_conv (k:=.i64) w (by kernel_rfl) (by kernel_rfl)) ?_
 rw [wrap64 (by omega) (by omega)]
 refine runK_i (run_ob64 (a:=n) (b:=1) w hn (by omega)).2 ?_
 rw [Nat.and_one_is_mod]
 refine runK_i (run_conv (k:=.i64) w (by kernel_rfl) (by kernel_rfl)) ?_
 rw [wrap64 (by omega) (by omega)]
 have eneg:∀ x:Int,(Op.unary .neg (.int .i64 x)).run Tryz.prog w=.ok (.int .i64 (IntKind.i64.wrap (-x))) w:=fun x=>by simp [Op.unary,Op.intArith]
 refine runK_i (eneg _) ?_
 rw [wrap64 (by omega) (by omega)]
 have exor:∀ (t:TypeId) (xo yo:Operand) (a b:Int),(binS .xor t xo yo (.int .i64 a) (.int .i64 b)).run Tryz.prog w=.ok (.int .i64 (IntKind.i64.wrap (BitVec.ofInt 64 a ^^^ BitVec.ofInt 64 b).toNat)) w:=fun t xo yo a b=>by
  simp [binS,eqGuard,binOp,Op.intBits]
  rfl
 refine runK_i (exor _ _ _ _ _) ⟨?_,rfl⟩
 congr 1
 unfold unzig
 by_cases h0:n % 2=0
 ·rw [if_pos h0,h0]
  have:BitVec.ofInt 64 (-((0:Nat):Int))=0#64:=by decide
  rw [this,BitVec.xor_zero,BitVec.ofInt_natCast,BitVec.toNat_ofNat,Nat.mod_eq_of_lt (by omega),wrap64 (by omega) (by omega)]
 ·rw [if_neg h0,show n % 2=1 by omega]
  have:=Lib.i64_not (n / 2) (by omega)
  rw [BitVec.xor_comm]
  exact this
theorem rint_ok {S:Nat→Prop} {v:Value} {b:List Int} {p:Nat} {w:World} (h:RBytes S w v b) (hb:∀ x ∈ b,0≤x∧x < 256) (hp:p≤b.length) (hl:b.length≤1099511627776) :
  callK Tryz.prog 68 [v,.int .i64 p] (fun v' w'=>w'=w∧((∃ (n:Nat) (t:List Int),v'=.tuple #[.int .i64 (unzig n),.int .i64 ((b.length - t.length:Nat):Int),.int .i64 0]∧uvR 9 true (b.drop p)=some (n,t))∨((∃ x y,v'=.tuple #[x,y,.int .i64 3])∧uvR 9 true (b.drop p)=none))) w:=by
 apply S68_ok
 unfold S68
 refine callK_mono (ruint_ok h hb hp hl) ?_
 rintro _ _ ⟨rfl,⟨n,t,rfl,he⟩ | ⟨rfl,he⟩⟩
 ·rename World=>w
  have hn:=(read_uv (fun x hx=>hb x (List.mem_of_mem_drop hx)) he).2
  refine extK_i (vs:=[_,_,_]) rfl (extK_i (vs:=[_,_,_]) rfl (extK_i (vs:=[_,_,_]) rfl ?_))
  refine callK_mono (zag_ok hn) ?_
  rintro _ _ ⟨rfl,rfl⟩
  exact ⟨rfl,.inl ⟨n,t,rfl,he⟩⟩
 ·rename World=>w
  refine extK_i (vs:=[_,_,_]) rfl (extK_i (vs:=[_,_,_]) rfl (extK_i (vs:=[_,_,_]) rfl ?_))
  refine callK_mono (zag_ok (n:=0) (by omega)) ?_
  rintro _ _ ⟨rfl,rfl⟩
  exact ⟨rfl,.inr ⟨⟨_,_,rfl⟩,he⟩⟩
end Go.Proofs.YtaimlfomodfekaaGreatDoor

namespace Go.Proofs.YtaimlfomodfekaaGreatDoor
open Go Go.K

theorem drop_suf {b u t:List Int} {p:Nat} (hp:p≤b.length) (e:b.drop p=u++t):b.length - t.length=p+u.length∧p+u.length≤b.length∧b.drop (p+u.length)=t:=by
 have hl:=congrArg List.length e
 rw [List.length_drop,List.length_append] at hl
 refine ⟨by omega,by omega,?_⟩
 rw [←List.drop_drop,e,List.drop_left]
section
variable {α:Type} {f:α→List Int} {R:α→Prop} {b:List Int} {p q:Nat} {bad:Bool} {a:α}
theorem RdP.no (hp:p≤b.length) (h:∀ c t,R c→b.drop p≠f c++t):RdP f R b p bad a p true:=
 ⟨Nat.le_refl _,hp,fun _=>rfl,fun e=>(by cases e),fun _ c t hc ht=>(h c t hc ht).elim⟩
theorem RdP.ok (hp:p≤q) (hq:q≤b.length) (hR:R a) (e:b.drop p=f a++b.drop q):RdP f R b p bad a q bad:=
 ⟨hp,hq,fun h=>h,fun _=>⟨hR,e⟩,fun h _ _ _ _=>h⟩
end
theorem rbat_ok {S:Nat→Prop} {v:Value} {b:List Int} {p:Nat} {w:World} (h:RBytes S w v b) (hb:∀ x ∈ b,0≤x∧x < 256) (hp:p≤b.length) (hl:b.length≤1099511627776) :
  callK Tryz.prog 89 [v,.int .i64 p,.int .i64 b.length] (fun v' w'=>Grow w w'∧((∃ (x:List Int) (q:Nat) (xv:Value),v'=.tuple #[xv,.int .i64 q,.int .i64 0]∧OBytes w.heap.size w' xv x∧p≤q∧q≤b.length∧b.drop p=encX x++b.drop q)∨
   ((∃ x y,v'=.tuple #[x,y,.int .i64 3])∧∀ x t,x.length < 9223372036854775808→b.drop p≠encX x++t))) w:=by
 apply S89_ok
 unfold S89
 obtain ⟨a,c,rfl,hm⟩:=h.shape
 refine callK_mono (ruint_ok h hb hp hl) ?_
 have hbd:∀ x ∈ b.drop p,0≤x∧x < 256:=fun x hx=>hb x (List.mem_of_mem_drop hx)
 rintro _ _ ⟨rfl,⟨n,t,rfl,he⟩ | ⟨rfl,he⟩⟩
 rotate_left
 ·rename World=>w
  refine extK_i (vs:=[_,_,_]) rfl (extK_i (vs:=[_,_,_]) rfl (extK_i (vs:=[_,_,_]) rfl ?_))
  have bad:∀ x t,x.length < 9223372036854775808→b.drop p≠encX x++t:=fun x t hx e=>by
   unfold encX at e
   rw [List.append_assoc] at e
   rw [e,uv_read _ (by omega)] at he
   cases he
  refine JoinK_i (fun _ _=>False) (fun _ _ h=>h.elim) ?_
  rw [neK_i]
  exact condK_neg (fun e=>by cases e) fun _=>⟨Mod.refl _ _,.inr ⟨⟨_,_,rfl⟩,bad⟩⟩
 rename World=>w
 refine extK_i (vs:=[_,_,_]) rfl (extK_i (vs:=[_,_,_]) rfl (extK_i (vs:=[_,_,_]) rfl ?_))
 obtain ⟨hd,hn⟩:=read_uv hbd he
 obtain ⟨s1,s2,s3⟩:=drop_suf hp hd
 rw [s1]
 generalize hq:p+(uv n).length=q0 at *
 have ht:t.length=b.length - q0:=by rw [←s3,List.length_drop]
 have bad:b.length - q0 < n→∀ x t,x.length < 9223372036854775808→b.drop p≠encX x++t:=fun hlt x t' hx e=>by
  unfold encX at e
  rw [List.append_assoc,hd] at e
  obtain ⟨e1,e2⟩:=uv_pre hn (by omega) e
  have:=congrArg List.length e2
  rw [List.length_append] at this
  omega
 refine JoinK_i (fun vs W=>W=w∧vs=[.int .i64 (q0:Nat)]∧n≤b.length - q0) ?_ ?_
 ·rintro _ _ ⟨rfl,rfl,hle⟩ _
  rename World=>w
  simp only [nth_z,List.headD_cons]
  refine runK_i (run_conv (k:=.i64) w (by kernel_rfl) (by kernel_rfl)) ?_
  rw [wrap64 (by omega) (by omega),addK_i,wrap64 (by omega) (by omega)]
  have e:(q0:Int)+(n:Int)=((q0+n:Nat):Int):=by push_cast;rfl
  rw [e]
  refine slice_lh (e:=5) (k:=1) (i:=Tryz.t5) (by kernel_rfl) (by kernel_rfl) rfl h (by omega) (by omega) fun v2 h2=>?_
  have hl2:((b.take (q0+n)).drop q0).length=n:=by rw [List.length_drop,List.length_take];omega
  refine callK_mono (clone_bytes h2 (by omega)) ?_
  rintro xv w2 ⟨o2,g2⟩
  refine ⟨g2,.inl ⟨_,q0+n,xv,rfl,o2,by omega,by omega,?_⟩⟩
  unfold encX
  rw [hl2,hd,List.append_assoc,←s3,List.drop_take]
  congr 1
  have e3:b.drop (q0+n)=(b.drop q0).drop n:=by rw [List.drop_drop]
  rw [e3,show q0+n - q0=n by omega,List.take_append_drop]
 ·rw [neK_i]
  refine condK_neg (fun _=>?_) fun e=>(e rfl).elim
  rw [ltK_i]
  refine condK_p (fun e=>by omega) fun _=>?_
  refine conv_64 (by omega) ?_
  rw [gtK_i]
  refine condK_p (fun e=>⟨Mod.refl _ _,.inr ⟨⟨_,_,rfl⟩,bad (by omega)⟩⟩) fun e=>?_
  rw [lenK_i,subK_i,wrap64 (by omega) (by omega),show ((b.length:Int) - (q0:Nat))=((b.length - q0:Nat):Int) by omega]
  refine conv_64 (by omega) ?_
  rw [gtK_i]
  exact condK_p (fun e=>⟨Mod.refl _ _,.inr ⟨⟨_,_,rfl⟩,bad (by omega)⟩⟩) fun e=>⟨rfl,rfl,by omega⟩
structure RdS (S:Nat→Prop) (W:World) (c:Nat) (bv:Value) (b:List Int) (p:Nat) (bad:Bool):Prop where
 c0:W.cell? ⟨c,0,none⟩=some bv
 c1:W.cell? ⟨c,1,none⟩=some (.int .i64 p)
 c2:W.cell? ⟨c,2,none⟩=some (.bool bad)
 l1:Live W ⟨c,1,none⟩
 l2:Live W ⟨c,2,none⟩
 row:RBytes S W bv b
 sep:∀ z,S z→z < c
 len:p≤b.length
section
variable {S:Nat→Prop} {W W':World} {c:Nat} {bv:Value} {b:List Int} {p q:Nat} {bad:Bool}
theorem RdS.lt (h:RdS S W c bv b p bad):c < W.heap.size:=World.block_lt_of_cell? W _ h.c0
theorem RdS.mod {M:Nat→Prop} (h:RdS S W c bv b p bad) (m:Mod M W W') (hc:∀ z,z≤c→¬ M z):RdS S W' c bv b p bad:=
 ⟨m.cell h.c0 (hc c (Nat.le_refl _)),m.cell h.c1 (hc c (Nat.le_refl _)),m.cell h.c2 (hc c (Nat.le_refl _)),h.l1.mod m (hc c (Nat.le_refl _)),h.l2.mod m (hc c (Nat.le_refl _)),h.row.mod m (fun z _ hz=>hc z (Nat.le_of_lt (h.sep z hz))) (by decide) fun _ _ h=>h,h.sep,h.len⟩
theorem RdS.grow (h:RdS S W c bv b p bad) (g:Grow W W'):RdS S W' c bv b p bad:=h.mod g fun _ _ h=>h
theorem ne_off {c i j:Nat} (h:i≠j):(⟨c,i,none⟩:Addr)≠⟨c,j,none⟩:=by intro e;simp only [Addr.mk.injEq] at e;omega
theorem RdS.bads {K:World→Prop} (h:RdS S W c bv b p bad) (hK:∀ W',RdS S W' c bv b p true→Mod (fun z=>z=c) W W'→K W') :
  nilckK (.pointer (some ⟨c,0,none⟩)) fun t=>faK 2 t fun q=>st1K q (.bool true) K W:=by
 refine nilckK_s ?_
 rw [faK_i,addr0]
 have m:Mod (fun z=>z=c) W (W.setCell ⟨c,2,none⟩ (.bool true)):=Mod.setCell _ _ _ rfl
 refine h.l2.st rfl rfl (hK _ ⟨?_,?_,World.cell?_setCell_same _ _ _ h.c2,h.l1.set _ _,h.l2.set _ _,h.row.mod m (fun z _ hz e=>by have:=h.sep z hz;omega) (by decide) fun _ _ h=>h,h.sep,h.len⟩ m)
 ·rw [World.cell?_setCell_other _ _ _ _ (ne_off (by decide))];exact h.c0
 ·rw [World.cell?_setCell_other _ _ _ _ (ne_off (by decide))];exact h.c1
theorem RdS.move {K:World→Prop} (h:RdS S W c bv b p bad) (hq:q≤b.length) (hK:∀ W',RdS S W' c bv b q bad→Mod (fun z=>z=c) W W'→K W') :
  nilckK (.pointer (some ⟨c,0,none⟩)) fun t=>faK 1 t fun u=>st1K u (.int .i64 q) K W:=by
 refine nilckK_s ?_
 rw [faK_i,addr0]
 have m:Mod (fun z=>z=c) W (W.setCell ⟨c,1,none⟩ (.int .i64 q)):=Mod.setCell _ _ _ rfl
 refine h.l1.st rfl rfl (hK _ ⟨?_,World.cell?_setCell_same _ _ _ h.c1,?_,h.l1.set _ _,h.l2.set _ _,h.row.mod m (fun z _ hz e=>by have:=h.sep z hz;omega) (by decide) fun _ _ h=>h,h.sep,hq⟩ m)
 ·rw [World.cell?_setCell_other _ _ _ _ (ne_off (by decide))];exact h.c0
 ·rw [World.cell?_setCell_other _ _ _ _ (ne_off (by decide))];exact h.c2
variable (hb:∀ x ∈ b,0≤x∧x < 256) (hl:b.length≤1099511627776)
include hb hl
end
end Go.Proofs.YtaimlfomodfekaaGreatDoor

namespace Go.Proofs.YtaimlfomodfekaaGreatDoor
open Go Go.K

structure BoxN (W:World) (g:Nat) (vs:List Value):Prop where
 cells:∀ j u,vs[j]?=some u→W.cell? ⟨g,j,none⟩=some u
 live:∀ j,j < vs.length→Live W ⟨g,j,none⟩
section
variable {W W':World} {g:Nat} {vs:List Value}
theorem BoxN.mod {M:Nat→Prop} (h:BoxN W g vs) (m:Mod M W W') (hg:¬ M g):BoxN W' g vs:=⟨fun j u hu=>m.cell (h.cells j u hu) hg,fun j hj=>(h.live j hj).mod m hg⟩
theorem BoxN.st {j:Nat} {u:Value} {K:World→Prop} (h:BoxN W g vs) (hj:j < vs.length) (h1:u.oneCell'=true) (h2:u.cells=#[u]) (hK:∀ W',BoxN W' g (vs.set j u)→Mod (fun z=>z=g) W W'→K W') :
  faK j (.pointer (some ⟨g,0,none⟩)) fun q=>st1K q u K W:=by
 rw [faK_i,addr0]
 refine (h.live j hj).st h1 h2 (hK _ ⟨fun i y hy=>?_,fun i hi=>(h.live i (by simpa using hi)).set _ _⟩ (Mod.setCell _ _ _ rfl))
 rw [List.getElem?_set] at hy
 split at hy
 ·rename_i e
  subst e
  first | (rw [if_pos hj] at hy;cases hy) | cases hy
  exact World.cell?_setCell_same _ _ _ (h.cells j _ (List.getElem?_eq_getElem hj))
 ·rename_i e
  rw [World.cell?_setCell_other _ _ _ _ (by intro e';simp only [Addr.mk.injEq] at e';omega)]
  exact h.cells i y hy
theorem BoxN.ld {n:Nat} {K:Cont} (h:BoxN W g vs) (hn:vs.length=n) (hK:K (.agg vs.toArray) W):ldnK n (.pointer (some ⟨g,0,none⟩)) K W:=
 ldnK_i hn (fun j u hu=>by rw [addr0];exact h.cells j u hu) hK
theorem BoxN.stn {n:Nat} {us:List Value} {K:World→Prop} (h:BoxN W g vs) (hn:vs.length=n) (hu:us.length=n) (h1:∀ v ∈ us,v.oneCell'=true) (hK:∀ W',BoxN W' g us→Mod (fun z=>z=g) W W'→K W') :
  stnK n (.pointer (some ⟨g,0,none⟩)) (.agg us.toArray) K W:=
 stn_over hu h1 (fun j hj=>by rw [addr0];exact h.live j (by omega)) fun W' m hc hl=>hK W' ⟨fun j u hj=>by have:=hc j u hj;rwa [addr0] at this,fun j hj=>hl _ (h.live j (by omega))⟩ m
theorem BoxN.new {t:TypeId} {K:Cont} (hK:∀ g W',g=W.heap.size→W'.heap.size=W.heap.size+1→Grow W W'→BoxN W' g vs→K (.pointer (some ⟨g,0,none⟩)) W'):newK t vs K W:=by
 obtain ⟨us,e,h2⟩:=boxn_i (t:=t) (vs:=vs) (K:=K) (w:=W) fun b w1 h1 h2 h3 h4 h5=>hK b w1 h1 h2 h3 ⟨fun j u hu=>by have:=h4 j u hu;rwa [addr0] at this,fun j hj=>by have:=h5 j hj;rwa [addr0] at this⟩
 have:us=vs:=by
  have e':=Value.agg.inj e
  simpa using (congrArg Array.toList e').symm
 subst this
 exact h2
end
theorem conv_u8n {n:Nat} {K:Cont} {w:World} (hn:n≤255) (h:K (.int .u8 n) w):runK Tryz.prog (convert 38 5 (.int .u64 n)) K w:=by
 refine conv64_8 ?_
 rw [show ((n:Int) % 256)=n by omega];exact h
section
variable {S:Nat→Prop} {W W':World} {c:Nat} {bv:Value} {b:List Int} {p q:Nat} {bad:Bool}
variable (hb:∀ x ∈ b,0≤x∧x < 256) (hl:b.length≤1099511627776)
include hb hl
end
end Go.Proofs.YtaimlfomodfekaaGreatDoor

namespace Go.Proofs.YtaimlfomodfekaaGreatDoor
open Go Go.K

abbrev RApart (E:Nat→Prop) (ov:Value):World→List Value→Dop→Prop:=RDop fun b=>ov.ownBlock≠some b∧E b
theorem apart_push {E:Nat→Prop} {B:Nat} {w0 w':World} {ov ov':Value} {l':List Dop} (h:OwnR B 80 5 (RDop fun b=>b < w0.heap.size∧ov.ownBlock≠some b∧E b) w' ov' l') (hs:∀ g,ov'.ownBlock=some g→ov.ownBlock=some g∨w0.heap.size≤g) :
  OwnR B 80 5 (RApart E ov') w' ov' l':=
 OwnR.mod h (Mod.refl (fun _=>False) _) (fun _ _ h=>h) fun r y _ hy=>RDop.mod hy (Mod.refl (fun _=>False) _) (fun _ _ _ h=>h) fun b hb hd=>⟨fun e=>by
  rcases hs b e with h | h
  ·exact hd.2.1 h
  ·have:=hd.1;omega,hd.2.2⟩
end Go.Proofs.YtaimlfomodfekaaGreatDoor
