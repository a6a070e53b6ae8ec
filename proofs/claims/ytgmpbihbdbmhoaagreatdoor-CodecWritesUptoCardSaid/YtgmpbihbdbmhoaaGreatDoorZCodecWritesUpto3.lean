/- Plain law: the bytes of runes, and what is read back of them. No program in sight, no conditions. Contracts: the document's values, keys, sets and patches that may be. Conditions: the size of a text. The plain law of patches: one behind the other, and on sets: the program's merges and the document's one by one agree where keys rise. No program in sight, no conditions. The plain law of normal forms: the program's maker and the document's form agree, and what holds of a form. No program in sight. More of the plain law of normal forms: how much they have, and that a gap's order is nothing. No program in sight. The plain law of composing deltas: cut in ones; the maker that is told the parts comes to the same. No program in sight, no conditions. Contracts: the document's sets and patches that may be; keys that may be a schema's. Conditions: the sizes of texts. Contracts: keys that may be a schema's; how much a delta has; deltas that may be; what is tame. Conditions: the sizes. Contracts: deltas that may be; what is tame; whether deltas are alike. Conditions: the sizes. The plain law of composing deltas: what may be, composed, may be; how long it gets. No program in sight. Plain law: the bytes of a delta; no two that may be have the same, not even as a beginning. No program in sight. Conditions: the numbers lie in their types. Plain laws: what is no number; eight bytes in one word. No conditions. By a program of ours: of each function below the predicate that its code comes to, and that it is sound. No conditions. Contracts: eight bytes as a word; whether bytes are UTF-8. Conditions: the two tables lie in memory as they are laid. By a program of ours: of each function below the predicate that its code comes to, and that it is sound. No conditions. Maps whose keys are ints, in memory. No conditions. A schema in memory; contracts of what reads it: Find, Len, Keys, Group; of one key by itself; of comparing keys. No conditions. -/
import Derived.Test.YtgmpbihbdbmhoaaGreatDoorZCodecWritesUpto2
import Derived.MapKept
namespace Go.Proofs.YtgmpbihbdbmhoaaGreatDoor
open Go Go.K

def oneB (r:Int):List Int:=
 if r < 128 then [r] else if r < 2048 then [192+r / 64,128+r % 64] else if r < 65536 then [224+r / 4096,128+r / 64 % 64,128+r % 64]
 else [240+r / 262144,128+r / 4096 % 64,128+r / 64 % 64,128+r % 64]
def textR (l:List Int):List Int:=l.flatMap oneB
theorem oneB_len (r:Int):1≤(oneB r).length∧(oneB r).length≤4:=by
 unfold oneB
 split
 ·simp
 split
 ·simp
 split <;> simp
theorem oneB_byte {r:Int} (h:MayR r):∀ x ∈ oneB r,0≤x∧x < 256:=by
 unfold MayR at h
 unfold oneB
 intro x hx
 split at hx
 ·simp at hx;omega
 split at hx
 ·simp at hx;omega
 split at hx
 ·simp at hx;omega
 ·simp at hx;omega
theorem next_one {r:Int} (h:MayR r) (t:List Int):nextB (oneB r++t)=(r,(oneB r).length):=by
 unfold MayR at h
 unfold oneB
 by_cases h1:r < 128
 ·rw [if_pos h1];exact next_ascii (by omega) h1
 rw [if_neg h1]
 by_cases h2:r < 2048
 ·rw [if_pos h2]
  have hs:hdSize (192+r / 64)=2:=by unfold hdSize;rw [if_neg (by omega),if_pos (by omega)]
  have hl:hdLo (192+r / 64)=128:=by unfold hdLo;rw [if_neg (by omega),if_neg (by omega)]
  have hh:hdHi (192+r / 64)=191:=by unfold hdHi;rw [if_neg (by omega),if_neg (by omega)]
  show nextB (_ :: _ :: t)=_
  rw [next_2 hs (by omega) (by omega),hl,hh,if_pos (by omega)]
  simp only [Prod.mk.injEq,List.length_cons,List.length_nil,and_true]
  omega
 rw [if_neg h2]
 by_cases h3:r < 65536
 ·rw [if_pos h3]
  have hs:hdSize (224+r / 4096)=3:=by unfold hdSize;rw [if_neg (by omega),if_neg (by omega),if_pos (by omega)]
  have hl:hdLo (224+r / 4096)≤128+r / 64 % 64:=by
   unfold hdLo
   split
   ·omega
   ·split <;> omega
  have hh:128+r / 64 % 64≤hdHi (224+r / 4096):=by
   unfold hdHi
   split
   ·omega
   ·split <;> omega
  show nextB (_ :: _ :: _ :: t)=_
  rw [next_3 hs (by omega) (by omega) (by omega) (by omega),if_pos ⟨⟨hl,hh⟩,by omega,by omega⟩]
  simp only [Prod.mk.injEq,List.length_cons,List.length_nil,and_true]
  omega
 ·rw [if_neg h3]
  have hs:hdSize (240+r / 262144)=4:=by unfold hdSize;rw [if_neg (by omega),if_neg (by omega),if_neg (by omega),if_pos (by omega)]
  have hl:hdLo (240+r / 262144)≤128+r / 4096 % 64:=by
   unfold hdLo
   split
   ·omega
   ·split <;> omega
  have hh:128+r / 4096 % 64≤hdHi (240+r / 262144):=by
   unfold hdHi
   split
   ·omega
   ·split <;> omega
  show nextB (_ :: _ :: _ :: _ :: t)=_
  rw [next_4 hs (by omega) (by omega) (by omega) (by omega) (by omega) (by omega),if_pos ⟨⟨hl,hh⟩,by omega,by omega⟩]
  simp only [Prod.mk.injEq,List.length_cons,List.length_nil,and_true]
  omega
theorem next_inv {b:List Int} (hb:∀ x ∈ b,0≤x∧x < 256) (hne:b≠[]) (hn:(nextB b).2≠0):MayR (nextB b).1∧b=oneB (nextB b).1++b.drop (nextB b).2:=by
 match b,hne with
 | b0 :: t,_=>
  have h0:=hb b0 (by simp)
  by_cases ha:b0 < 128
  ·rw [next_ascii h0.1 ha]
   refine ⟨by unfold MayR;omega,?_⟩
   unfold oneB
   rw [if_pos ha]
   rfl
  rcases (show hdSize b0=0∨hdSize b0=2∨hdSize b0=3∨hdSize b0=4 by unfold hdSize;(repeat' split) <;> simp) with hs | hs | hs | hs
  ·rw [next_bad hb (by omega) hs] at hn;exact (hn rfl).elim
  ·have hr:194≤b0∧b0 < 224:=by
    unfold hdSize at hs
    (repeat' split at hs) <;> omega
   match t,hb with
   | [],hb=>rw [next_short h0.2 (by rw [hs];simp)] at hn;exact (hn rfl).elim
   | c1 :: t,hb=>
    have h1:=hb c1 (by simp)
    have hl:hdLo b0=128:=by unfold hdLo;rw [if_neg (by omega),if_neg (by omega)]
    have hh:hdHi b0=191:=by unfold hdHi;rw [if_neg (by omega),if_neg (by omega)]
    have e:=next_2 (t:=t) hs h1.1 h1.2
    rw [hl,hh] at e
    by_cases hc:128≤c1∧c1≤191
    ·rw [if_pos hc] at e
     rw [e]
     refine ⟨by unfold MayR;simp only;omega,?_⟩
     simp only [List.drop_succ_cons,List.drop_zero]
     unfold oneB
     rw [if_neg (by omega),if_pos (by omega)]
     simp only [List.cons_append,List.nil_append,List.cons.injEq,and_true]
     omega
    ·rw [if_neg hc] at e;rw [e] at hn;exact (hn rfl).elim
  ·have hr:224≤b0∧b0 < 240:=by
    unfold hdSize at hs
    (repeat' split at hs) <;> omega
   match t,hb with
   | [],hb=>rw [next_short h0.2 (by rw [hs];simp)] at hn;exact (hn rfl).elim
   | [c1],hb=>rw [next_short h0.2 (by rw [hs];simp)] at hn;exact (hn rfl).elim
   | c1 :: c2 :: t,hb=>
    have h1:=hb c1 (by simp)
    have h2:=hb c2 (by simp)
    have e:=next_3 (t:=t) hs h1.1 h1.2 h2.1 h2.2
    by_cases hc:(hdLo b0≤c1∧c1≤hdHi b0)∧128≤c2∧c2≤191
    ·rw [if_pos hc] at e
     rw [e]
     obtain ⟨⟨l1,l2⟩,l3,l4⟩:=hc
     have lo:128≤c1∧(b0=224→160≤c1):=by
      unfold hdLo at l1
      (repeat' split at l1) <;> omega
     have hi:c1≤191∧(b0=237→c1≤159):=by
      unfold hdHi at l2
      (repeat' split at l2) <;> omega
     refine ⟨by unfold MayR;simp only;omega,?_⟩
     simp only [List.drop_succ_cons,List.drop_zero]
     unfold oneB
     rw [if_neg (by omega),if_neg (by omega),if_pos (by omega)]
     simp only [List.cons_append,List.nil_append,List.cons.injEq,and_true]
     omega
    ·rw [if_neg hc] at e;rw [e] at hn;exact (hn rfl).elim
  ·have hr:240≤b0∧b0 < 245:=by
    unfold hdSize at hs
    (repeat' split at hs) <;> omega
   match t,hb with
   | [],hb=>rw [next_short h0.2 (by rw [hs];simp)] at hn;exact (hn rfl).elim
   | [c1],hb=>rw [next_short h0.2 (by rw [hs];simp)] at hn;exact (hn rfl).elim
   | [c1,c2],hb=>rw [next_short h0.2 (by rw [hs];simp)] at hn;exact (hn rfl).elim
   | c1 :: c2 :: c3 :: t,hb=>
    have h1:=hb c1 (by simp)
    have h2:=hb c2 (by simp)
    have h3:=hb c3 (by simp)
    have e:=next_4 (t:=t) hs h1.1 h1.2 h2.1 h2.2 h3.1 h3.2
    by_cases hc:(hdLo b0≤c1∧c1≤hdHi b0)∧(128≤c2∧c2≤191)∧128≤c3∧c3≤191
    ·rw [if_pos hc] at e
     rw [e]
     obtain ⟨⟨l1,l2⟩,⟨l3,l4⟩,l5,l6⟩:=hc
     have lo:128≤c1∧(b0=240→144≤c1):=by
      unfold hdLo at l1
      (repeat' split at l1) <;> omega
     have hi:c1≤191∧(b0=244→c1≤143):=by
      unfold hdHi at l2
      (repeat' split at l2) <;> omega
     refine ⟨by unfold MayR;simp only;omega,?_⟩
     simp only [List.drop_succ_cons,List.drop_zero]
     unfold oneB
     rw [if_neg (by omega),if_neg (by omega),if_neg (by omega)]
     simp only [List.cons_append,List.nil_append,List.cons.injEq,and_true]
     omega
    ·rw [if_neg hc] at e;rw [e] at hn;exact (hn rfl).elim
theorem read_text:∀ {l:List Int},(∀ r ∈ l,MayR r)→readB (textR l)=some l:=by
 intro l
 induction l with
 | nil=>intro _;exact readB_nil
 | cons r l ih=>
  intro h
  have hr:=h r (by simp)
  have hne:textR (r :: l)≠[]:=by
   show oneB r++textR l≠[]
   have:=(oneB_len r).1
   intro e
   rw [List.append_eq_nil_iff] at e
   rw [e.1] at this;simp at this
  rw [readB_cons hne]
  have e:nextB (textR (r :: l))=(r,(oneB r).length):=next_one hr _
  rw [e]
  have h0:=(oneB_len r).1
  simp only
  rw [if_neg (by omega)]
  have hd:(textR (r :: l)).drop (oneB r).length=textR l:=by show (oneB r++textR l).drop _=_;simp
  rw [hd,ih fun x hx=>h x (by simp [hx])]
  rfl
theorem text_read:∀ (n:Nat) {b l:List Int},b.length≤n→(∀ x ∈ b,0≤x∧x < 256)→readB b=some l→b=textR l∧∀ r ∈ l,MayR r:=by
 intro n
 induction n with
 | zero=>
  intro b l hn hb h
  obtain rfl:b=[]:=List.eq_nil_of_length_eq_zero (by omega)
  rw [readB_nil] at h
  cases h
  exact ⟨rfl,by simp⟩
 | succ n ih=>
  intro b l hn hb h
  by_cases hne:b=[]
  ·subst hne
   rw [readB_nil] at h
   cases h
   exact ⟨rfl,by simp⟩
  rw [readB_cons hne] at h
  by_cases h0:(nextB b).2=0
  ·rw [if_pos h0] at h;cases h
  rw [if_neg h0] at h
  obtain ⟨h1,h2⟩:=next_inv hb hne h0
  cases hr:readB (b.drop (nextB b).2) with
  | none=>rw [hr] at h;cases h
  | some m=>
   rw [hr] at h
   simp only [Option.map_some,Option.some.injEq] at h
   subst h
   have hm:=ih (b:=b.drop (nextB b).2) (by rw [List.length_drop];omega) (fun x hx=>hb x (List.mem_of_mem_drop hx)) hr
   refine ⟨?_,fun r hx=>?_⟩
   ·show b=oneB _++textR m
    rw [←hm.1];exact h2
   ·rcases List.mem_cons.1 hx with rfl | hx
    ·exact h1
    ·exact hm.2 r hx
end Go.Proofs.YtgmpbihbdbmhoaaGreatDoor

namespace Go.Proofs.YtgmpbihbdbmhoaaGreatDoor
open Go Go.K

theorem cell_allocF (W:World) (c:Array Value) (t:TypeId) (fr:Nat × Nat) (i:Nat):(W.alloc (.cells c t fr)).cell? ⟨W.heap.size,i,none⟩=c[i]?:=by
 have h:(W.alloc (.cells c t fr)).heap[W.heap.size]?=some (.cells c t fr):=heap_alloc_new W _
 unfold World.cell?
 simp only [h]
 rfl
theorem strbytes {s:ByteArray} {K:Cont} {w:World} (hs:s.size * 4≤140737488355328) (hK:∀ v w',Grow w w'→RBytes (fun _=>True) w' v (bytesL s)→K v w'):runK Tryz.prog (convert 9 31 (.string s)) K w:=by
 refine ⟨_,_,run_bytes_of_string w _ _ 5 s (by kernel_rfl) (by kernel_rfl) (by kernel_rfl),hK _ _ ((Mod.drew (fun _=>False) w).trans (Mod.alloc _ _ _)) ?_⟩
 have hl:(bytesL s).length=s.size:=by simp [bytesL]
 have hm:s.size≤maxLen:=by simp only [maxLen];omega
 refine ⟨_,_,by rw [hl],by rw [hl];exact grownCap_ge _ _ _ _,grownCap_le_maxLen _ _ _ _ hm,fun i x hx=>⟨_,[.int .u8 x],rfl,trivial,rfl,fun j u hu=>?_,rfl⟩⟩
 have hj:j=0:=by have:=(List.getElem?_eq_some_iff.1 hu).1;simp at this;exact this
 subst hj
 simp at hu;subst hu
 rw [addr0,Nat.mul_one,Nat.add_zero]
 have hi:=(List.getElem?_eq_some_iff.1 hx).1
 rw [hl] at hi
 have hx':x=((s.data[i]'hi).toNat:Int):=by
  simp only [bytesL,List.getElem?_map,Array.getElem?_toList] at hx
  rw [Array.getElem?_eq_getElem hi] at hx
  simpa using hx.symm
 subst hx'
 have hs2:i < s.data.size:=hi
 refine (cell_allocF w.drew _ _ _ i).trans ?_
 simp [bytesRow,Array.getElem?_append,hi]
def NoNum (f:Int):Prop:=9218868437227405312 < f.tmod 9223372036854775808
instance (f:Int):Decidable (NoNum f):=by unfold NoNum;infer_instance
theorem none_ok {f:Int} {w:World}:callK Tryz.prog 142 [.int .u64 f] (fun v w'=>v=.bool (decide (NoNum f))∧w'=w) w:=by
 apply S142_ok
 unfold S142
 refine rem_i (by decide) ?_
 rw [gtK_i]
 exact ⟨rfl,rfl⟩
def noS:ByteArray:=ByteArray.mk #[]
def ValOK (v:AVal):Prop:=(v.kind=1∧v=⟨1,v.n,0,noS⟩∧(v.n=0∨v.n=1))∨(v.kind=2∧v=⟨2,v.n,0,noS⟩)∨(v.kind=3∧v=⟨3,0,v.f,noS⟩∧(¬ NoNum v.f∨v.f=9221120237041090560))∨
 (v.kind=4∧v=⟨4,0,0,v.s⟩∧v.s.size≤64∧(readB (bytesL v.s)).isSome=true)
instance (v:AVal):Decidable (ValOK v):=by unfold ValOK;infer_instance
theorem AVal.one (v:AVal):∀ u ∈ v.cells,u.oneCell'=true:=by
 intro u hu
 simp only [AVal.cells,List.mem_cons,List.not_mem_nil,or_false] at hu
 rcases hu with rfl | rfl | rfl | rfl <;> rfl
theorem rval_ok {v:AVal} {w:World} (hs:v.s.size * 4≤140737488355328) :
  callK Tryz.prog 108 [.agg v.cells.toArray] (fun v' w'=>v'=.bool (decide (ValOK v))∧Grow w w') w:=by
 apply S108_ok
 unfold S108
 refine boxn_i fun b w1 _ hz g hc _=>?_
 have l0:=hc 0 _ rfl
 have l1:=hc 1 _ rfl
 have l2:=hc 2 _ rfl
 have l3:=hc 3 _ rfl
 have key:∀ (b:Bool) w',Grow w w'→(b=true↔ValOK v)→Value.bool b=.bool (decide (ValOK v))∧Grow w w':=fun b w' g h=>⟨by congr 1;rw [Bool.eq_iff_iff,h,decide_eq_true_eq],g⟩
 have no:∀ w',Grow w w'→¬ ValOK v→Value.bool false=.bool (decide (ValOK v))∧Grow w w':=fun w' g h=>key false w' g (by simp only [Bool.false_eq_true,false_iff];exact h)
 have hall:∀ j u,v.cells[j]?=some u→w1.cell? ((⟨b,0,none⟩:Addr).add j)=some u:=hc
 simp only [faK_i]
 refine ld1K_i l0 ?_
 rw [eqK_i]
 refine condK_p (fun k1=>?_) fun k1=>?_
 ·refine ldnK_i rfl hall (ld1K_i l1 ?_)
  refine ⟨(⟨1,v.n,0,noS⟩:AVal).cells.toArray,by kernel_rfl,runK_i (run_eq_val _ _ v ⟨1,v.n,0,noS⟩ w1) ?_⟩
  refine condK_p (fun e1=>?_) fun e1=>no _ g ?_
  ·refine ld1K_i l1 ?_
   rw [eqK_i]
   refine condK_p (fun e2=>?_) fun e2=>?_
   ·exact key true _ g (by simp only [true_iff];exact .inl ⟨k1,e1,.inl e2⟩)
   ·refine ld1K_i l1 ?_
    rw [eqK_i]
    refine key _ _ g ?_
    rw [decide_eq_true_eq]
    refine ⟨fun h=>.inl ⟨k1,e1,.inr h⟩,fun h=>?_⟩
    rcases h with h | h | h | h
    ·exact h.2.2.resolve_left e2
    ·omega
    ·omega
    ·omega
  ·rintro (h | h | h | h)
   ·exact e1 h.2.1
   ·omega
   ·omega
   ·omega
 rw [eqK_i]
 refine condK_p (fun k2=>?_) fun k2=>?_
 ·refine ldnK_i rfl hall (ld1K_i l1 ?_)
  refine ⟨(⟨2,v.n,0,noS⟩:AVal).cells.toArray,by kernel_rfl,runK_i (run_eq_val _ _ v ⟨2,v.n,0,noS⟩ w1) ?_⟩
  refine key _ _ g ?_
  rw [decide_eq_true_eq]
  refine ⟨fun h=>.inr (.inl ⟨k2,h⟩),fun h=>?_⟩
  rcases h with h | h | h | h
  ·omega
  ·exact h.2
  ·omega
  ·omega
 rw [eqK_i]
 refine condK_p (fun k3=>?_) fun k3=>?_
 ·refine ldnK_i rfl hall (ld1K_i l2 ?_)
  refine ⟨(⟨3,0,v.f,noS⟩:AVal).cells.toArray,by kernel_rfl,runK_i (run_eq_val _ _ v ⟨3,0,v.f,noS⟩ w1) ?_⟩
  refine condK_p (fun e1=>?_) fun e1=>no _ g ?_
  ·refine ld1K_i l2 (callK_mono none_ok ?_)
   rintro v2 w2 ⟨rfl,rfl⟩
   rw [notK_i]
   refine condK_neg (fun e2=>?_) fun e2=>?_
   ·refine ld1K_i l2 ?_
    rw [eqK_i]
    refine key _ _ g ?_
    rw [decide_eq_true_eq]
    refine ⟨fun h=>.inr (.inr (.inl ⟨k3,e1,.inr h⟩)),fun h=>?_⟩
    rcases h with h | h | h | h
    ·omega
    ·omega
    ·exact h.2.2.resolve_left fun h=>h e2
    ·omega
   ·exact key true _ g (by simp only [true_iff];exact .inr (.inr (.inl ⟨k3,e1,.inl e2⟩)))
  ·rintro (h | h | h | h)
   ·omega
   ·omega
   ·exact e1 h.2.1
   ·omega
 rw [eqK_i]
 refine condK_p (fun k4=>?_) fun k4=>no _ g ?_
 ·refine ld1K_i l3 (strbytes hs fun v2 w2 g2 hb=>callK_mono (read_ok hb ?_) ?_)
  ·have:(bytesL v.s).length=v.s.size:=by simp [bytesL]
   omega
  rintro v3 w3 ⟨g3,hm⟩
  have g13:=g2.trans g3
  have g03:=g.trans g13
  have sh:∃ sl,v3=.tuple #[sl,.int .i64 (if (readB (bytesL v.s)).isSome then 0 else 3)]:=by
   cases hr:readB (bytesL v.s) with
   | none=>rw [hr] at hm;exact ⟨_,by rw [hm];rfl⟩
   | some l=>rw [hr] at hm;obtain ⟨sl,e,_⟩:=hm;exact ⟨sl,by rw [e];rfl⟩
  obtain ⟨sl,rfl⟩:=sh
  refine extK_i (vs:=[sl,.int .i64 (if (readB (bytesL v.s)).isSome then 0 else 3)]) (by rfl) (extK_i (vs:=[sl,.int .i64 (if (readB (bytesL v.s)).isSome then 0 else 3)]) (by rfl) ?_)
  refine ldnK_i rfl (fun j u hu=>g13.cell (hall j u hu) fun h=>h) (ld1K_i (g13.cell l3 fun h=>h) ?_)
  refine ⟨(⟨4,0,0,v.s⟩:AVal).cells.toArray,by kernel_rfl,runK_i (run_eq_val _ _ v ⟨4,0,0,v.s⟩ w3) ?_⟩
  refine condK_p (fun e1=>?_) fun e1=>no _ g03 ?_
  ·refine ld1K_i (g13.cell l3 fun h=>h) ?_
   rw [slenK_i,leK_i]
   refine condK_p (fun e2=>?_) fun e2=>no _ g03 ?_
   ·rw [eqK_i]
    refine key _ _ g03 ?_
    rw [decide_eq_true_eq]
    constructor
    ·intro h
     refine .inr (.inr (.inr ⟨k4,e1,by omega,?_⟩))
     cases hr:(readB (bytesL v.s)).isSome with
     | true=>rfl
     | false=>rw [hr] at h;simp at h
    ·intro h
     rcases h with h | h | h | h
     ·omega
     ·omega
     ·omega
     ·rw [h.2.2.2];rfl
   ·rintro (h | h | h | h)
    ·omega
    ·omega
    ·omega
    ·have:=h.2.2.1;omega
  ·rintro (h | h | h | h)
   ·omega
   ·omega
   ·omega
   ·exact e1 h.2.1
 ·rintro (h | h | h | h) <;> omega

def DKey.zero:DKey:=⟨0,false,0,false,false,0⟩
def findK (keys:List DKey) (id:Int):Option DKey:=keys.find? fun k=>decide (k.id=id)
theorem find_ok {S:Nat→Prop} {v:Value} {keys:List DKey} {id:Int} {w:World} (h:RKeys S w v keys) :
  callK Tryz.prog 111 [v,.int .i64 id] (fun v' w'=>v'=.tuple #[.agg ((findK keys id).getD DKey.zero).cells.toArray,.bool (findK keys id).isSome]∧Grow w w') w:=by
 apply S111_ok
 unfold S111
 obtain ⟨a,c,rfl,hm⟩:=h.shape
 simp only [maxLen] at hm
 refine newz_i fun b w1 hb hz g _ hl=>?_
 have fillBox:∀ (k:DKey) (K':Cont),(∀ w2,Grow w w2→K' (.agg k.cells.toArray) w2)→stnK 6 (.pointer (some ⟨b,0,none⟩)) (.agg k.cells.toArray) (fun w5=>ldnK 6 (.pointer (some ⟨b,0,none⟩)) K' w5) w1:=by
  intro k K' hK'
  refine stn_over rfl (RKey.one (w:=w) (x:=k) rfl) hl fun w2 m2 hc2 _=>?_
  exact ldnK_i (vs:=k.cells) rfl hc2 (hK' _ (g.next m2 fun x hx e=>by omega))
 refine LoopK_i (fun vs w2=>∃ i:Nat,i≤keys.length∧vs=[.int .i64 i]∧w2=w1∧∀ k ∈ keys.take i,¬ k.id=id) (fun vs _=>keys.length - iOf vs 0) ⟨0,Nat.zero_le _,rfl,rfl,by simp⟩ ?_
 rintro vs _ ⟨i,hi,rfl,rfl,hno⟩ _
 rename World=>w1
 rw [lenK_i,nth_z,List.headD_cons,ltK_i]
 refine condK_p (fun hlt=>?_) fun hge=>?_
 ·have hlt':i < keys.length:=by omega
  obtain ⟨p,r,rfl,_,hr,hc,rfl⟩:=(h.grow g (by decide) fun _ _ h=>h).get hlt'
  refine ixK_n hlt' ?_
  rw [faK_i,Addr.add_add]
  refine ld1K_i (hc 0 _ rfl) ?_
  rw [eqK_i]
  refine condK_p (fun he=>?_) fun he=>?_
  ·refine ixK_n hlt' (ldnK_i hr (fun j u hu=>by rw [Addr.add_add];exact hc j u hu) ?_)
   have hf:findK keys id=some keys[i]:=by
    unfold findK
    rw [List.find?_eq_some_iff_append]
    refine ⟨by simpa using he,keys.take i,keys.drop (i+1),?_,fun k hk=>by simpa using hno k hk⟩
    rw [←List.drop_eq_getElem_cons hlt',List.take_append_drop]
   rw [hf]
   exact fillBox keys[i] _ fun w2 g2=>⟨rfl,g2⟩
  ·rw [addK_i,loop_step (by omega)]
   refine ⟨⟨i+1,hlt',rfl,rfl,fun k hk=>?_⟩,by rw [iOf0,iOf0];omega⟩
   rw [List.take_add_one,List.getElem?_eq_getElem hlt'] at hk
   rcases List.mem_append.1 hk with hk | hk
   ·exact hno k hk
   ·simp at hk;subst hk;exact he
 ·have:i=keys.length:=by omega
  subst this
  rw [List.take_length] at hno
  have hf:findK keys id=none:=by
   unfold findK
   rw [List.find?_eq_none]
   intro k hk;simpa using hno k hk
  rw [hf]
  refine ⟨DKey.zero.cells.toArray,by kernel_rfl,?_⟩
  exact fillBox DKey.zero _ fun w2 g2=>⟨rfl,g2⟩
def FitsK (keys:List DKey) (id:Int) (v:AVal):Prop:=∃ k,findK keys id=some k∧ValOK v∧v.kind=k.kind
open Classical in
theorem rfits_ok {S:Nat→Prop} {kv:Value} {keys:List DKey} {id:Int} {v:AVal} {w:World} (h:RKeys S w kv keys) (hs:v.s.size * 4≤140737488355328) :
  callK Tryz.prog 109 [kv,.int .i64 id,.agg v.cells.toArray] (fun v' w'=>v'=.bool (decide (FitsK keys id v))∧Grow w w') w:=by
 apply S109_ok
 unfold S109
 have no:∀ w',Grow w w'→¬ FitsK keys id v→Value.bool false=.bool (decide (FitsK keys id v))∧Grow w w':=fun w' g h=>⟨by rw [decide_eq_false h],g⟩
 refine boxn_i fun b w1 _ hz g hc _=>?_
 refine callK_mono (find_ok (h.grow g (by decide) fun _ _ h=>h)) ?_
 rintro v2 w2 ⟨rfl,g2⟩
 refine extK_i (vs:=[_,_]) (by rfl) (extK_i (vs:=[_,_]) (by rfl) ?_)
 generalize hk:(findK keys id).getD DKey.zero=k
 refine newst_i (vs:=k.cells) rfl (RKey.one (w:=w) (x:=k) rfl) fun b2 w3 _ hz3 g3 hc3 _=>?_
 have g13:=g2.trans g3
 have g03:=g.trans g13
 cases hf:findK keys id with
 | none=>
  rw [Option.isSome_none]
  exact no _ g03 (by rintro ⟨k,e,_⟩;rw [hf] at e;cases e)
 | some k'=>
  rw [hf] at hk
  simp only [Option.getD_some] at hk
  subst hk
  rw [Option.isSome_some,condK_b,if_pos rfl]
  refine ldnK_i rfl (fun j u hu=>g13.cell (hc j u hu) fun h=>h) (callK_mono (rval_ok hs) ?_)
  rintro v4 w4 ⟨rfl,g4⟩
  have g04:=g03.trans g4
  refine condK_p (fun ho=>?_) fun ho=>no _ g04 (by rintro ⟨_,_,h,_⟩;exact ho h)
  rw [faK_i]
  refine ld1K_i ((g13.trans g4).cell (hc 0 _ rfl) fun h=>h) ?_
  rw [faK_i]
  refine ld1K_i (g4.cell (hc3 2 _ rfl) fun h=>h) ?_
  rw [eqK_i]
  refine ⟨?_,g04⟩
  congr 1
  rw [decide_eq_decide]
  constructor
  ·intro h;exact ⟨k',hf,ho,h⟩
  ·rintro ⟨k,e,_,h⟩;rw [hf] at e;cases e;exact h
end Go.Proofs.YtgmpbihbdbmhoaaGreatDoor

namespace Go.Proofs.YtgmpbihbdbmhoaaGreatDoor
open Go Go.K

abbrev RisP (l:List Chg):Prop:=l.Pairwise fun a b=>a.key < b.key
abbrev RisS (l:List Attr):Prop:=l.Pairwise fun a b=>a.key < b.key
def without (l:List Attr) (k:Int):List Attr:=l.filter fun a=>decide (a.key≠k)
theorem few {α:Type} {key:α→Int} {l:List α} {ids:List Int} (h:l.Pairwise fun a b=>key a < key b) (hm:∀ x ∈ l,key x ∈ ids):l.length≤ids.length:=by
 induction l generalizing ids with
 | nil=>simp
 | cons a l ih=>
  rw [List.pairwise_cons] at h
  have ha:=hm a (by simp)
  have:=ih (ids:=ids.erase (key a)) h.2 fun x hx=>by
   rw [List.mem_erase_of_ne]
   ·exact hm x (by simp [hx])
   ·have:=h.1 x hx;omega
  rw [List.length_erase_of_mem ha] at this
  have:0 < ids.length:=List.length_pos_of_mem ha
  simp only [List.length_cons]
  omega
theorem ris_pw {α:Type} {key:α→Int} {l:List α} (h:∀ i,1≤i→i < l.length→∀ a b,l[i - 1]?=some a→l[i]?=some b→key a < key b):l.Pairwise fun a b=>key a < key b:=by
 rw [List.pairwise_iff_getElem]
 intro i j hi hj hij
 obtain ⟨d,rfl⟩:∃ d,j=i+1+d:=⟨j - i - 1,by omega⟩
 clear hij
 induction d with
 | zero=>exact h (i+1) (by omega) hj _ _ (by simp) (List.getElem?_eq_getElem hj)
 | succ d ih=>
  have:=ih (by omega)
  have:=h (i+1+d+1) (by omega) hj (l[i+1+d]'(by omega)) _ (by simp) (List.getElem?_eq_getElem hj)
  simp only [Nat.add_assoc] at *
  omega
theorem pw_ris {α:Type} {key:α→Int} {l:List α} (h:l.Pairwise fun a b=>key a < key b):∀ i,1≤i→i < l.length→∀ a b,l[i - 1]?=some a→l[i]?=some b→key a < key b:=by
 intro i h1 h2 a b ha hb
 rw [List.pairwise_iff_getElem] at h
 have:=h (i - 1) i (by omega) h2 (by omega)
 rw [List.getElem?_eq_getElem (by omega)] at ha
 rw [List.getElem?_eq_getElem h2] at hb
 cases ha;cases hb;exact this
end Go.Proofs.YtgmpbihbdbmhoaaGreatDoor

namespace Go.Proofs.YtgmpbihbdbmhoaaGreatDoor
open Go Go.K

structure MkS where
 done:List Dop
 ins:List Dop
 gone:Int
def MkS.z:MkS:=⟨[],[],0⟩
def gapL (ins:List Dop) (gone:Int):List Dop:=if 0 < gone then ins++[⟨3,gone,[],[],[]⟩] else ins
def putS (d:List Dop) (n:Int) (p:List Chg):List Dop:=
 match d.getLast? with
 | some o=>if o.kind=1∧o.patch=p then d.set (d.length - 1) ⟨o.kind,IntKind.i64.wrap (o.n+n),o.runes,o.set,o.patch⟩ else d++[⟨1,n,[],[],p⟩]
 | none=>d++[⟨1,n,[],[],p⟩]
def retS (s:MkS) (n:Int) (p:List Chg):MkS:=if n < 1 then s else ⟨putS (s.done++gapL s.ins s.gone) n p,[],0⟩
def addI (ins:List Dop) (rs:List Int) (set:List Attr):List Dop:=
 match ins.getLast? with
 | some o=>if o.set=set then ins.set (ins.length - 1) ⟨o.kind,o.n,o.runes++rs,o.set,o.patch⟩ else ins++[⟨2,0,rs,set,[]⟩]
 | none=>ins++[⟨2,0,rs,set,[]⟩]
def insS (s:MkS) (rs:List Int) (set:List Attr):MkS:=if rs=[] then s else ⟨s.done,addI s.ins rs set,s.gone⟩
def delS (s:MkS) (n:Int):MkS:=⟨s.done,s.ins,IntKind.i64.wrap (s.gone+maxI n 0)⟩
def stepS (s:MkS) (o:Dop):MkS:=if o.kind=1 then retS s o.n o.patch else if o.kind=2 then insS s o.runes o.set else delS s o.n
def trimL (l:List Dop):List Dop:=match l.getLast? with | some o=>if o.kind=1∧o.patch=[] then l.dropLast else l | none=>l
def opsS (s:MkS):List Dop:=trimL (s.done++gapL s.ins s.gone)
def runS (x:List Dop):MkS:=x.foldl stepS MkS.z
def normB (x:List Dop):List Dop:=opsS (runS x)

def rgapF (a:List Dop × Int) (o:Dop):List Dop × Int:=
 if o.kind=3 then (a.1,IntKind.i64.wrap (a.2+o.n)) else
 match a.1.getLast? with
 | some q=>if q.set=o.set then (a.1.set (a.1.length - 1) ⟨q.kind,q.n,q.runes++o.runes,q.set,q.patch⟩,a.2) else (a.1++[o],a.2)
 | none=>(a.1++[o],a.2)
def rgap (x:List Dop):List Dop:=gapL (x.foldl rgapF ([],0)).1 (x.foldl rgapF ([],0)).2
def rput (d:List Dop) (o:Dop):List Dop:=
 match d.getLast? with
 | some q=>if q.kind=1∧q.patch=o.patch then d.set (d.length - 1) ⟨q.kind,IntKind.i64.wrap (q.n+o.n),q.runes,q.set,q.patch⟩ else d++[o]
 | none=>d++[o]
def rofF (a:List Dop × List Dop) (o:Dop):List Dop × List Dop:=if o.kind=1 then (rput (a.1++rgap a.2) o,[]) else (a.1,a.2++[o])
def rof (x:List Dop):List Dop:=trimL ((x.foldl rofF ([],[])).1++rgap (x.foldl rofF ([],[])).2)

def Form1 (o:Dop):Prop:=(o.kind=1∧o.runes=[]∧o.set=[]∧1≤o.n∧o.n≤536870912)∨(o.kind=3∧o.runes=[]∧o.set=[]∧o.patch=[]∧1≤o.n∧o.n≤536870912)∨(o.kind=2∧o.n=0∧o.patch=[]∧o.runes≠[])
theorem norm_rel (x:List Dop) (h:∀ o ∈ x,Form1 o):(runS x).done=(x.foldl rofF ([],[])).1∧((runS x).ins,(runS x).gone)=(x.foldl rofF ([],[])).2.foldl rgapF ([],0):=by
 induction x using rev_ind with
 | h0=>exact ⟨rfl,rfl⟩
 | h1 x o ih=>
  obtain ⟨h1,h2⟩:=ih fun o ho=>h o (by simp [ho])
  have ho:=h o (by simp)
  unfold runS at h1 h2 ⊢
  simp only [List.foldl_append,List.foldl_cons,List.foldl_nil]
  generalize x.foldl stepS MkS.z=s at h1 h2 ⊢
  generalize x.foldl rofF ([],[])=a at h1 h2 ⊢
  obtain ⟨done,ins,gone⟩:=s
  obtain ⟨out,seg⟩:=a
  obtain ⟨k,n,rs,set,p⟩:=o
  simp only at h1 h2
  subst h1
  rcases ho with ⟨e1,e2,e3,e4,e5⟩ | ⟨e1,e2,e3,e4,e5,e6⟩ | ⟨e1,e2,e3,e4⟩
  ·simp only at e1 e2 e3 e4 e5
   subst e1;subst e2;subst e3
   have hgap:gapL ins gone=rgap seg:=by unfold rgap;rw [←h2]
   simp only [stepS,rofF,if_true,retS,if_neg (show ¬ n < 1 by omega),hgap]
   exact ⟨rfl,rfl⟩
  ·simp only at e1 e2 e3 e4 e5 e6
   subst e1;subst e2;subst e3;subst e4
   have:maxI n 0=n:=by unfold maxI;rw [if_neg (by omega)]
   simp only [stepS,rofF,show ¬ (3:Int)=1 by decide,show ¬ (3:Int)=2 by decide,if_false,List.foldl_append,List.foldl_cons,List.foldl_nil,delS,this]
   refine ⟨trivial,?_⟩
   rw [←h2]
   simp only [rgapF,if_true]
  ·simp only at e1 e2 e3 e4
   subst e1;subst e2;subst e3
   simp only [stepS,rofF,show ¬ (2:Int)=1 by decide,if_true,if_false,List.foldl_append,List.foldl_cons,List.foldl_nil,insS,if_neg e4,addI]
   refine ⟨trivial,?_⟩
   rw [←h2]
   simp only [rgapF,show ¬ (2:Int)=3 by decide,if_false]
   cases ins.getLast? with
   | none=>rfl
   | some q=>simp only;split <;> rfl
theorem norm_eq (x:List Dop) (h:∀ o ∈ x,Form1 o):normB x=rof x:=by
 obtain ⟨h1,h2⟩:=norm_rel x h
 unfold normB opsS rof rgap
 rw [h1,←h2]

inductive InsC:List Dop→Prop
 | nil:InsC []
 | snoc (i:List Dop) (rs:List Int) (set:List Attr) (h:InsC i) (hr:rs≠[]) (hs:∀ q,i.getLast?=some q→q.set≠set):InsC (i++[⟨2,0,rs,set,[]⟩])
inductive DoneC:List Dop→Prop
 | nil:DoneC []
 | snoc (d ins:List Dop) (gone n:Int) (p:List Chg) (h:DoneC d) (hi:InsC ins) (hg:0≤gone) (hb:gone≤4611686018427387904) (hn:1≤n) (hp:ins=[]→gone=0→∀ q,d.getLast?=some q→q.patch≠p):DoneC (d++gapL ins gone++[⟨1,n,[],[],p⟩])
theorem InsC.add {ins:List Dop} (h:InsC ins) {rs:List Int} (hr:rs≠[]) (set:List Attr):InsC (addI ins rs set):=by
 cases h with
 | nil=>exact InsC.snoc [] rs set .nil hr fun q hq=>by simp at hq
 | snoc i rs' set' h hr' hs=>
  unfold addI
  simp only [List.getLast?_append,List.getLast?_singleton,Option.some_or]
  by_cases e:set'=set
  ·rw [if_pos e]
   have:(i++[(⟨2,0,rs',set',[]⟩:Dop)]).set ((i++[(⟨2,0,rs',set',[]⟩:Dop)]).length - 1) ⟨2,0,rs'++rs,set',[]⟩=i++[⟨2,0,rs'++rs,set',[]⟩]:=by simp
   rw [this]
   exact InsC.snoc i _ set' h (by simp [hr']) hs
  ·rw [if_neg e]
   exact InsC.snoc _ rs set (InsC.snoc i rs' set' h hr' hs) hr fun q hq=>by
    simp only [List.getLast?_append,List.getLast?_singleton,Option.some_or,Option.some.injEq] at hq
    subst hq;exact e
theorem InsC.kinds {ins:List Dop} (h:InsC ins):∀ o ∈ ins,o.kind=2:=by
 induction h with
 | nil=>intro o ho;simp at ho
 | snoc i rs set h hr hs ih=>
  intro o ho
  rcases List.mem_append.1 ho with ho | ho
  ·exact ih o ho
  ·simp at ho;subst ho;rfl
theorem InsC.run {ins:List Dop} (h:InsC ins) (d:List Dop) (g:Int):ins.foldl stepS ⟨d,[],g⟩=⟨d,ins,g⟩:=by
 induction h with
 | nil=>rfl
 | snoc i rs set h hr hs ih=>
  rw [List.foldl_append,ih]
  simp only [List.foldl_cons,List.foldl_nil,stepS,show ¬ (2:Int)=1 by decide,if_true,if_false,insS,if_neg hr,addI]
  cases e:i.getLast? with
  | none=>rfl
  | some q=>simp only;rw [if_neg (hs q e)]
theorem gapL_last {ins:List Dop} {gone:Int} (h:InsC ins):∀ o,(gapL ins gone).getLast?=some o→o.kind≠1:=by
 intro o ho
 unfold gapL at ho
 split at ho
 ·simp only [List.getLast?_append,List.getLast?_singleton,Option.some_or,Option.some.injEq] at ho
  subst ho;intro h;cases h
 ·have:=h.kinds o (List.mem_of_getLast? ho)
  omega
theorem gapL_nil {ins:List Dop} {gone:Int} (h0:0≤gone) (h:gapL ins gone=[]):ins=[]∧gone=0:=by
 unfold gapL at h
 split at h
 ·simp at h
 ·exact ⟨h,by omega⟩
theorem last_app {d g:List Dop}:(d++g).getLast?=match g.getLast? with | some o=>some o | none=>d.getLast?:=by
 rw [List.getLast?_append];cases g.getLast? <;> rfl
theorem gap_run {ins:List Dop} (h:InsC ins) (d:List Dop) {g:Int} (hg:0≤g) (hb:g≤4611686018427387904):(gapL ins g).foldl stepS ⟨d,[],0⟩=⟨d,ins,g⟩:=by
 unfold gapL
 split
 ·rw [List.foldl_append,h.run]
  simp only [List.foldl_cons,List.foldl_nil,stepS,show ¬ (3:Int)=1 by decide,show ¬ (3:Int)=2 by decide,if_false,delS]
  have:maxI g 0=g:=by unfold maxI;rw [if_neg (by omega)]
  rw [this,wrap64 (by omega) (by omega)]
  congr 1;omega
 ·rw [h.run];congr 1;omega
theorem put_new {d g:List Dop} {n:Int} {p:List Chg} (h1:∀ o,g.getLast?=some o→o.kind≠1) (h2:g=[]→∀ q,d.getLast?=some q→q.patch≠p):putS (d++g) n p=d++g++[⟨1,n,[],[],p⟩]:=by
 unfold putS
 rw [last_app]
 cases e:g.getLast? with
 | some o=>simp only;rw [if_neg (fun h=>h1 o e h.1)]
 | none=>
  have:g=[]:=List.getLast?_eq_none_iff.1 e
  subst this
  simp only [List.append_nil]
  cases e2:d.getLast? with
  | none=>rfl
  | some q=>simp only;rw [if_neg (fun h=>h2 rfl q e2 h.2)]
theorem DoneC.run {d:List Dop} (h:DoneC d):d.foldl stepS MkS.z=⟨d,[],0⟩:=by
 induction h with
 | nil=>rfl
 | snoc d ins gone n p h hi hg hb hn hp ih=>
  rw [List.foldl_append,List.foldl_append,ih,gap_run hi d hg hb]
  simp only [List.foldl_cons,List.foldl_nil,stepS,if_true,retS,if_neg (show ¬ n < 1 by omega)]
  rw [put_new (gapL_last hi) fun e=>hp (gapL_nil hg e).1 (gapL_nil hg e).2]
def sumN (l:List Dop):Int:=(l.map (·.n)).sum
theorem sumN_app (l m:List Dop):sumN (l++m)=sumN l+sumN m:=by simp [sumN]
theorem sumN_one (o:Dop):sumN [o]=o.n:=by simp [sumN]
theorem InsC.sum {ins:List Dop} (h:InsC ins):sumN ins=0:=by
 induction h with
 | nil=>rfl
 | snoc i rs set h hr hs ih=>rw [sumN_app,sumN_one,ih];rfl
theorem gapL_sum {ins:List Dop} {g:Int} (h:InsC ins) (hg:0≤g):sumN (gapL ins g)=g:=by
 unfold gapL;split
 ·rw [sumN_app,sumN_one,h.sum];simp
 ·rw [h.sum];omega
theorem DoneC.nn {d:List Dop} (h:DoneC d):0≤sumN d:=by
 induction h with
 | nil=>simp [sumN]
 | snoc d ins gone n p h hi hg hb hn hp ih=>rw [sumN_app,sumN_app,sumN_one,gapL_sum hi hg];simp only;omega
structure Canon (s:MkS) (t:Int):Prop where
 done:DoneC s.done
 ins:InsC s.ins
 gone:0≤s.gone
 sum:sumN s.done+s.gone=t
theorem Canon.step {s:MkS} {t:Int} (h:Canon s t) {o:Dop} (ho:Form1 o) (ht:t+o.n≤4611686018427387904):Canon (stepS s o) (t+o.n):=by
 obtain ⟨done,ins,gone⟩:=s
 obtain ⟨h1,h2,h3,h4⟩:=h
 simp only at h1 h2 h3 h4
 obtain ⟨k,n,rs,set,p⟩:=o
 have hnn:=h1.nn
 rcases ho with ⟨e1,e2,e3,e4,e5⟩ | ⟨e1,e2,e3,e4,e5,e6⟩ | ⟨e1,e2,e3,e4⟩
 ·simp only at e1 e2 e3 e4 e5 ht
  subst e1
  simp only [stepS,if_true,retS,if_neg (show ¬ n < 1 by omega)]
  have key:DoneC (putS (done++gapL ins gone) n p)∧sumN (putS (done++gapL ins gone) n p)=t+n:=by
   by_cases hgap:gapL ins gone=[]
   ·obtain ⟨e8,e9⟩:=gapL_nil h3 hgap
    subst e8;subst e9
    rw [hgap,List.append_nil]
    cases h1 with
    | nil=>exact ⟨DoneC.snoc [] [] 0 n p .nil .nil (by omega) (by omega) e4 fun _ _ q hq=>by simp at hq,by simp only [putS,List.getLast?_nil,sumN_app,sumN_one] at h4 ⊢;omega⟩
    | snoc d ins gone n' p' h hi hg hb hn hp=>
     unfold putS
     rw [List.getLast?_append,List.getLast?_singleton,Option.some_or]
     simp only [true_and]
     rw [sumN_app,sumN_app,sumN_one,gapL_sum hi hg] at h4
     simp only at h4
     have hdn:=h.nn
     by_cases e:p'=p
     ·rw [if_pos e]
      have e10:(d++gapL ins gone++[(⟨1,n',[],[],p'⟩:Dop)]).set ((d++gapL ins gone++[(⟨1,n',[],[],p'⟩:Dop)]).length - 1) ⟨1,IntKind.i64.wrap (n'+n),[],[],p'⟩=d++gapL ins gone++[⟨1,IntKind.i64.wrap (n'+n),[],[],p'⟩]:=by
       rw [List.set_append_right _ _ (by simp)];simp
      rw [e10,wrap64 (by omega) (by omega)]
      refine ⟨DoneC.snoc d ins gone (n'+n) p' h hi hg hb (by omega) hp,?_⟩
      rw [sumN_app,sumN_app,sumN_one,gapL_sum hi hg];simp only;omega
     ·rw [if_neg e]
      have:=DoneC.snoc (d++gapL ins gone++[⟨1,n',[],[],p'⟩]) [] 0 n p (DoneC.snoc d ins gone n' p' h hi hg hb hn hp) .nil (by omega) (by omega) e4 fun _ _ q hq=>by
       rw [List.getLast?_append,List.getLast?_singleton,Option.some_or] at hq;cases hq;exact e
      simp only [gapL,show ¬ (0:Int) < 0 by decide,if_false,List.append_nil] at this
      refine ⟨this,?_⟩
      simp only [sumN_app,sumN_one,gapL_sum hi hg];omega
   ·rw [put_new (gapL_last h2) fun e=>(hgap e).elim]
    refine ⟨DoneC.snoc done ins gone n p h1 h2 h3 (by omega) e4 fun e8 e9=>(hgap (by subst e8;subst e9;rfl)).elim,?_⟩
    rw [sumN_app,sumN_app,sumN_one,gapL_sum h2 h3];simp only;omega
  exact ⟨key.1,.nil,by simp,by simp only;omega⟩
 ·simp only at e1 e2 e3 e4 e5 e6 ht
  subst e1
  simp only [stepS,show ¬ (3:Int)=1 by decide,show ¬ (3:Int)=2 by decide,if_false,delS]
  have:maxI n 0=n:=by unfold maxI;rw [if_neg (by omega)]
  rw [this,wrap64 (by omega) (by omega)]
  exact ⟨h1,h2,by simp only;omega,by simp only;omega⟩
 ·simp only at e1 e2 e3 e4 ht
  subst e1;subst e2
  simp only [stepS,show ¬ (2:Int)=1 by decide,if_true,if_false,insS,if_neg e4]
  exact ⟨h1,h2.add e4 set,h3,by simp only;omega⟩
theorem Form1.nn {o:Dop} (h:Form1 o):0≤o.n∧o.n≤536870912:=by
 rcases h with ⟨_,_,_,h,h'⟩ | ⟨_,_,_,_,h,h'⟩ | ⟨_,h,_⟩ <;> omega
theorem sumN_form (x:List Dop) (h:∀ o ∈ x,Form1 o):0≤sumN x∧sumN x≤x.length * 536870912:=by
 induction x with
 | nil=>simp [sumN]
 | cons o x ih=>
  have h1:=ih fun o ho=>h o (by simp [ho])
  have h2:=(h o (by simp)).nn
  have:sumN (o :: x)=o.n+sumN x:=by simp [sumN]
  rw [this]
  simp only [List.length_cons]
  omega
theorem canon_run (x:List Dop) (h:∀ o ∈ x,Form1 o) (hl:x.length≤8589934592):Canon (runS x) (sumN x):=by
 induction x using rev_ind with
 | h0=>exact ⟨.nil,.nil,by decide,by decide⟩
 | h1 x o ih=>
  have hx:∀ o ∈ x,Form1 o:=fun o ho=>h o (by simp [ho])
  have ho:=h o (by simp)
  simp only [List.length_append,List.length_cons,List.length_nil] at hl
  have h1:=ih (fun o ho=>hx o ho) (by omega)
  have h2:=sumN_form x fun o ho=>hx o ho
  have h3:=ho.nn
  unfold runS at h1 ⊢
  rw [List.foldl_append,sumN_app,sumN_one]
  exact h1.step ho (by omega)
theorem trim_fix {d ins:List Dop} {g:Int} (hd:DoneC d) (hi:InsC ins) (hg:0≤g) (hb:g≤4611686018427387904):normB (trimL (d++gapL ins g))=trimL (d++gapL ins g):=by
 have same:∀ (d ins:List Dop) (g:Int),DoneC d→InsC ins→0≤g→g≤4611686018427387904→normB (d++gapL ins g)=trimL (d++gapL ins g):=by
  intro d ins g hd hi hg hb
  unfold normB runS opsS
  rw [List.foldl_append,hd.run,gap_run hi d hg hb]
 by_cases hgap:gapL ins g=[]
 ·rw [hgap,List.append_nil]
  cases hd with
  | nil=>rfl
  | snoc d ins' g' n p h hi' hg' hb' hn hp=>
   by_cases e:p=[]
   ·subst e
    have e1:trimL (d++gapL ins' g'++[(⟨1,n,[],[],[]⟩:Dop)])=d++gapL ins' g':=by
     unfold trimL
     rw [List.getLast?_append,List.getLast?_singleton,Option.some_or]
     simp only [and_self,if_true,List.dropLast_concat]
    rw [e1,same d ins' g' h hi' hg' hb']
    unfold trimL
    rw [last_app]
    cases e2:(gapL ins' g').getLast? with
    | some o=>simp only;rw [if_neg (fun h=>gapL_last hi' o e2 h.1)]
    | none=>
     have e3:gapL ins' g'=[]:=List.getLast?_eq_none_iff.1 e2
     obtain ⟨e4,e5⟩:=gapL_nil hg' e3
     rw [e3,List.append_nil]
     simp only
     cases e6:d.getLast? with
     | none=>rfl
     | some q=>simp only;rw [if_neg (fun h=>hp e4 e5 q e6 h.2)]
   ·have hD:=DoneC.snoc d ins' g' n p h hi' hg' hb' hn hp
    have e1:trimL (d++gapL ins' g'++[(⟨1,n,[],[],p⟩:Dop)])=d++gapL ins' g'++[⟨1,n,[],[],p⟩]:=by
     unfold trimL
     rw [List.getLast?_append,List.getLast?_singleton,Option.some_or]
     simp only [e,and_false,if_false]
    rw [e1]
    have:=same _ [] 0 hD .nil (by omega) (by omega)
    simp only [gapL,show ¬ (0:Int) < 0 by decide,if_false,List.append_nil] at this
    exact this.trans e1
 ·have e1:trimL (d++gapL ins g)=d++gapL ins g:=by
   unfold trimL
   rw [last_app]
   cases e2:(gapL ins g).getLast? with
   | some o=>simp only;rw [if_neg (fun h=>gapL_last hi o e2 h.1)]
   | none=>exact (hgap (List.getLast?_eq_none_iff.1 e2)).elim
  rw [e1,same d ins g hd hi hg hb,e1]
theorem norm_twice (x:List Dop) (h:∀ o ∈ x,Form1 o) (hl:x.length≤8589934592):normB (normB x)=normB x:=by
 have c:=canon_run x h hl
 have h2:=sumN_form x h
 have h3:=c.done.nn
 have h4:=c.sum
 exact trim_fix c.done c.ins c.gone (by omega)
end Go.Proofs.YtgmpbihbdbmhoaaGreatDoor

namespace Go.Proofs.YtgmpbihbdbmhoaaGreatDoor
open Go Go.K

def runesN (l:List Dop):Nat:=(l.map fun o=>o.runes.length).sum
def goneN (l:List Dop):Int:=(l.map fun o=>if o.kind=3 then o.n else 0).sum
theorem runesN_app (l m:List Dop):runesN (l++m)=runesN l+runesN m:=by simp [runesN]
theorem goneN_app (l m:List Dop):goneN (l++m)=goneN l+goneN m:=by simp [goneN]
theorem runesN_one (o:Dop):runesN [o]=o.runes.length:=by simp [runesN]
theorem goneN_one (o:Dop):goneN [o]=if o.kind=3 then o.n else 0:=by simp [goneN]
theorem set_last (i:List Dop) (b o:Dop):(i++[b]).set ((i++[b]).length - 1) o=i++[o]:=by
 rw [List.set_append_right _ _ (by simp)];simp
theorem putS_n (d:List Dop) (n:Int) (p:List Chg):runesN (putS d n p)=runesN d∧goneN (putS d n p)=goneN d∧(putS d n p).length≤d.length+1:=by
 rcases snoc_cases d with rfl | ⟨i,b,rfl⟩
 ·exact ⟨by simp [putS,runesN],by simp [putS,goneN],by simp [putS]⟩
 ·unfold putS
  rw [List.getLast?_append,List.getLast?_singleton,Option.some_or]
  simp only
  by_cases e:b.kind=1∧b.patch=p
  ·rw [if_pos e,set_last]
   refine ⟨by simp only [runesN_app,runesN_one],?_,by simp⟩
   simp only [goneN_app,goneN_one,e.1,show ¬ (1:Int)=3 by decide,if_false]
  ·rw [if_neg e]
   exact ⟨by simp only [runesN_app,runesN_one,List.length_nil,Nat.add_zero],by simp only [goneN_app,goneN_one,show ¬ (1:Int)=3 by decide,if_false,Int.add_zero],by simp⟩
theorem addI_n (d:List Dop) (rs:List Int) (set:List Attr):runesN (addI d rs set)=runesN d+rs.length∧(addI d rs set).length≤d.length+1:=by
 rcases snoc_cases d with rfl | ⟨i,b,rfl⟩
 ·exact ⟨by simp [addI,runesN],by simp [addI]⟩
 ·unfold addI
  rw [List.getLast?_append,List.getLast?_singleton,Option.some_or]
  simp only
  by_cases e:b.set=set
  ·rw [if_pos e,set_last]
   exact ⟨by simp only [runesN_app,runesN_one,List.length_append];omega,by simp⟩
  ·rw [if_neg e]
   exact ⟨by simp only [runesN_app,runesN_one],by simp⟩
theorem gapL_n {ins:List Dop} {g:Int} (h:InsC ins) (hg:0≤g):runesN (gapL ins g)=runesN ins∧goneN (gapL ins g)=g∧(gapL ins g).length=ins.length+if 0 < g then 1 else 0:=by
 have hz:goneN ins=0:=by
  have hk:=h.kinds
  clear h
  induction ins with
  | nil=>rfl
  | cons o l ih=>
   have:=ih fun o ho=>hk o (by simp [ho])
   have h2:=hk o (by simp)
   have e:goneN (o :: l)=(if o.kind=3 then o.n else 0)+goneN l:=by simp [goneN]
   rw [e,this,h2];rfl
 unfold gapL
 by_cases h0:0 < g
 ·rw [if_pos h0,if_pos h0]
  refine ⟨by simp only [runesN_app,runesN_one,List.length_nil,Nat.add_zero],?_,by simp⟩
  simp only [goneN_app,goneN_one,if_true,hz];omega
 ·rw [if_neg h0,if_neg h0]
  exact ⟨rfl,by omega,by simp⟩
theorem DoneC.bare {d:List Dop} (h:DoneC d):∀ o ∈ d,o.kind=1→o.runes=[]:=by
 induction h with
 | nil=>intro o ho;simp at ho
 | snoc d ins gone n p h hi hg hb hn hp ih=>
  intro o ho hk
  rcases List.mem_append.1 ho with ho | ho
  ·rcases List.mem_append.1 ho with ho | ho
   ·exact ih o ho hk
   ·unfold gapL at ho
    split at ho
    ·rcases List.mem_append.1 ho with ho | ho
     ·have:=hi.kinds o ho;omega
     ·simp at ho;subst ho;rfl
    ·have:=hi.kinds o ho;omega
  ·simp at ho;subst ho;rfl
theorem short_run (x:List Dop) (h:∀ o ∈ x,Form1 o) (hl:x.length≤8589934592) :
  runesN (runS x).done+runesN (runS x).ins=runesN x∧goneN (runS x).done+(runS x).gone=goneN x∧(runS x).done.length+(runS x).ins.length+(if 0 < (runS x).gone then 1 else 0)≤x.length:=by
 induction x using rev_ind with
 | h0=>exact ⟨rfl,rfl,by simp [runS,MkS.z]⟩
 | h1 x o ih=>
  have hx:∀ o ∈ x,Form1 o:=fun o ho=>h o (by simp [ho])
  have ho:=h o (by simp)
  simp only [List.length_append,List.length_cons,List.length_nil] at hl
  have hI:=ih (fun o ho=>hx o ho) (by omega)
  have c:=canon_run x (fun o ho=>hx o ho) (by omega)
  have h2:=sumN_form x fun o ho=>hx o ho
  rw [runesN_app,goneN_app,runesN_one,goneN_one,List.length_append,List.length_singleton]
  unfold runS at hI c ⊢
  simp only [List.foldl_append,List.foldl_cons,List.foldl_nil]
  generalize x.foldl stepS MkS.z=s at hI c ⊢
  obtain ⟨done,ins,gone⟩:=s
  obtain ⟨c1,c2,c3,c4⟩:=c
  obtain ⟨i1,i2,i3⟩:=hI
  obtain ⟨k,n,rs,set,p⟩:=o
  simp only at c1 c2 c3 c4 i1 i2 i3 ⊢
  have hdn:=c1.nn
  rcases ho with ⟨e1,e2,e3,e4,e5⟩ | ⟨e1,e2,e3,e4,e5,e6⟩ | ⟨e1,e2,e3,e4⟩
  ·simp only at e1 e2 e3 e4 e5
   subst e1;subst e2;subst e3
   simp only [stepS,if_true,retS,if_neg (show ¬ n < 1 by omega)]
   obtain ⟨p1,p2,p3⟩:=putS_n (done++gapL ins gone) n p
   obtain ⟨g1,g2,g3⟩:=gapL_n c2 c3
   rw [p1,p2,runesN_app,goneN_app,g1,g2]
   rw [List.length_append,g3] at p3
   refine ⟨by simp [runesN] at i1 ⊢;omega,?_,?_⟩
   ·simp only [show ¬ (1:Int)=3 by decide,if_false];omega
   ·simp only [List.length_nil,show ¬ (0:Int) < 0 by decide,if_false];omega
  ·simp only at e1 e2 e3 e4 e5 e6
   subst e1;subst e2;subst e3;subst e4
   have:maxI n 0=n:=by unfold maxI;rw [if_neg (by omega)]
   simp only [stepS,show ¬ (3:Int)=1 by decide,show ¬ (3:Int)=2 by decide,if_false,delS,this,if_true]
   rw [wrap64 (by omega) (by omega)]
   refine ⟨by simp;omega,by omega,?_⟩
   split <;> split at i3 <;> omega
  ·simp only at e1 e2 e3 e4
   subst e1;subst e2;subst e3
   simp only [stepS,show ¬ (2:Int)=1 by decide,show ¬ (2:Int)=3 by decide,if_true,if_false,insS,if_neg e4]
   obtain ⟨a1,a2⟩:=addI_n ins rs set
   rw [a1]
   refine ⟨by omega,by omega,by omega⟩
theorem norm_short (x:List Dop) (h:∀ o ∈ x,Form1 o) (hl:x.length≤8589934592):runesN (normB x)=runesN x∧goneN (normB x)=goneN x∧(normB x).length≤x.length:=by
 obtain ⟨h1,h2,h3⟩:=short_run x h hl
 have c:=canon_run x h hl
 obtain ⟨g1,g2,g3⟩:=gapL_n c.ins c.gone
 have e1:runesN ((runS x).done++gapL (runS x).ins (runS x).gone)=runesN x:=by rw [runesN_app,g1];exact h1
 have e2:goneN ((runS x).done++gapL (runS x).ins (runS x).gone)=goneN x:=by rw [goneN_app,g2];exact h2
 have e3:((runS x).done++gapL (runS x).ins (runS x).gone).length≤x.length:=by rw [List.length_append,g3];omega
 have e4:∀ o ∈ (runS x).done++gapL (runS x).ins (runS x).gone,o.kind=1→o.runes=[]:=by
  intro o ho hk
  rcases List.mem_append.1 ho with ho | ho
  ·exact c.done.bare o ho hk
  ·unfold gapL at ho
   split at ho
   ·rcases List.mem_append.1 ho with ho | ho
    ·have:=c.ins.kinds o ho;omega
    ·simp at ho;subst ho;rfl
   ·have:=c.ins.kinds o ho;omega
 unfold normB opsS
 generalize (runS x).done++gapL (runS x).ins (runS x).gone=l at e1 e2 e3 e4
 unfold trimL
 rcases snoc_cases l with rfl | ⟨i,b,rfl⟩
 ·exact ⟨e1,e2,e3⟩
 ·rw [List.getLast?_append,List.getLast?_singleton,Option.some_or]
  simp only
  by_cases e:b.kind=1∧b.patch=[]
  ·rw [if_pos e,List.dropLast_concat]
   have:=e4 b (by simp) e.1
   rw [runesN_app,runesN_one,this] at e1
   rw [goneN_app,goneN_one,if_neg (by rw [e.1];decide)] at e2
   simp at e1 e2 e3
   exact ⟨e1,e2,by omega⟩
  ·rw [if_neg e];exact ⟨e1,e2,e3⟩

end Go.Proofs.YtgmpbihbdbmhoaaGreatDoor

namespace Go.Proofs.YtgmpbihbdbmhoaaGreatDoor
open Go Go.K

def lenN (o:Dop):Nat:=if o.kind=2 then o.runes.length else o.n.toNat
def ones (o:Dop):List Dop:=if o.kind=2 then o.runes.map fun r=>⟨2,0,[r],o.set,o.patch⟩ else List.replicate o.n.toNat ⟨o.kind,1,[],o.set,o.patch⟩
theorem wrapI_in {x:Int} (h0:0≤x) (h1:x≤1099511627776):IntKind.i64.wrap x=x:=by
 simp only [IntKind.wrap,IntKind.bits,IntKind.signed]
 simp
 omega
def restO (n:Nat) (o:Dop):Dop:=if o.kind=2 then ⟨2,o.n,o.runes.drop n,o.set,o.patch⟩ else ⟨o.kind,o.n - n,o.runes,o.set,o.patch⟩
def behind (n:Nat):List Dop→List Dop
 | []=>[]
 | o :: x=>if n < lenN o then restO n o :: x else x
def total (x:List Dop):Nat:=(x.map lenN).sum
section
variable {one:Dop→Dop→List Dop}
end
end Go.Proofs.YtgmpbihbdbmhoaaGreatDoor

namespace Go.Proofs.YtgmpbihbdbmhoaaGreatDoor
open Go Go.K

def RisN {α:Type} (key:α→Int) (l:List α) (n:Nat):Prop:=∀ i,1≤i→i < n→∀ a b,l[i - 1]?=some a→l[i]?=some b→key a < key b
theorem ris_loop {α:Type} {k:Nat} {R:World→List Value→α→Prop} {key:α→Int} {S:Nat→Prop} {w:World} {a:Option Addr} {c:Nat} {l:List α} {K:Cont} (h:SlR S k R w (.slice a l.length c) l) (hm:l.length≤maxLen) (hk:0 < k)
  (hR:∀ w r x,R w r x→r[0]?=some (.int .i64 (key x))) (h1:∀ w',Grow w w'→RisN key l l.length→K (.bool true) w') (h0:∀ w',Grow w w'→¬ RisN key l l.length→K (.bool false) w') :
  LoopK [(.int .i64 1)] (fun vs again w1=>∀ _:Env,lenK (.slice a l.length c) fun t6=>ltK .i64 (nth vs 0) t6 fun t7=>condK t7
   (DrawK w1 (fun C=>subK .i64 (nth vs 0) (.int .i64 1) fun t12=>ixK k (.slice a l.length c) t12 fun t13=>faK 0 t13 fun t14=>qld1K C t14 fun t15=>ixK k (.slice a l.length c) (nth vs 0) fun t18=>faK 0 t18 fun t19=>qld1K C t19 fun t20=>geK .i64 t15 t20 fun t21=>
    ∀ w2:World,C w2→condK t21 (K (.bool false) w2) (addK .i64 (nth vs 0) (.int .i64 1) fun t9=>again [t9] w2)))
   (K (.bool true) w1)) w:=by
 simp only [maxLen] at hm
 refine LoopK_i (fun vs w1=>∃ i:Nat,1≤i∧vs=[.int .i64 i]∧Grow w w1∧(i≤l.length∨i=1)∧RisN key l i) (fun vs _=>l.length - iOf vs 0) ⟨1,Nat.le_refl _,rfl,Mod.refl _ _,.inr rfl,fun i h1 h2=>by omega⟩ ?_
 rintro vs w1 ⟨i,hi1,rfl,hg,hi2,hris⟩ _
 rw [lenK_i,nth_z,List.headD_cons,ltK_i]
 refine condK_p (fun hlt=>?_) fun hge=>?_
 ·have hlt':i < l.length:=by omega
  refine ⟨fun w2=>Grow w1 w2,Mod.drew _ _,?_⟩
  obtain ⟨p,r,rfl,_,hr,hc,hx⟩:=h.get (show i - 1 < l.length by omega)
  obtain ⟨_,r',e,_,hr',hc',hx'⟩:=h.get hlt'
  cases e
  rw [subK_i,wrap64 (by omega) (by omega),show ((i:Int) - 1)=((i - 1:Nat):Int) by omega]
  refine ixK_n (by omega) ?_
  rw [faK_i,Addr.add_add]
  refine qld1K_i (fun w2 h2=>h2.cell (hg.cell (hc 0 _ (hR _ _ _ hx)) fun h=>h) fun h=>h) ?_
  refine ixK_n hlt' ?_
  rw [faK_i,Addr.add_add]
  refine qld1K_i (fun w2 h2=>h2.cell (hg.cell (hc' 0 _ (hR _ _ _ hx')) fun h=>h) fun h=>h) ?_
  rw [geK_i]
  intro w2 h2
  refine condK_p (fun hx=>?_) fun hx=>?_
  ·refine h0 _ (hg.trans h2) fun hall=>?_
   have:=hall i hi1 hlt' _ _ (List.getElem?_eq_getElem (by omega)) (List.getElem?_eq_getElem hlt')
   omega
  ·rw [addK_i,loop_step (by omega)]
   refine ⟨⟨i+1,by omega,rfl,hg.trans h2,.inl hlt',fun j h1 h2 a b ha hb=>?_⟩,by rw [iOf0,iOf0];omega⟩
   by_cases e:j=i
   ·subst e
    rw [List.getElem?_eq_getElem (by omega)] at ha
    rw [List.getElem?_eq_getElem hlt'] at hb
    cases ha;cases hb;omega
   ·exact hris j h1 (by omega) a b ha hb
 ·refine h1 _ hg fun j h1 h2=>?_
  by_cases e:i≤l.length
  ·exact hris j h1 (by omega)
  ·omega
abbrev RisA (l:List Attr):Prop:=RisN Attr.key l l.length
abbrev RisC (l:List Chg):Prop:=RisN Chg.key l l.length
open Classical in
theorem risa_ok {S:Nat→Prop} {v:Value} {l:List Attr} {w:World} (h:RSet S w v l):callK Tryz.prog 107 [v] (fun v' w'=>v'=.bool (decide (RisA l))∧Grow w w') w:=by
 apply S107_ok
 unfold S107
 obtain ⟨a,c,rfl,hm⟩:=h.shape
 exact ris_loop (K:=fun v' w'=>v'=.bool (decide (RisA l))∧Grow w w') (key:=Attr.key) h hm (by decide) (fun w r x hx=>by subst hx;rfl) (fun w' g hr=>⟨by rw [decide_eq_true hr],g⟩) fun w' g hr=>⟨by rw [decide_eq_false hr],g⟩
open Classical in
theorem risc_ok {S:Nat→Prop} {v:Value} {l:List Chg} {w:World} (h:RPat S w v l):callK Tryz.prog 110 [v] (fun v' w'=>v'=.bool (decide (RisC l))∧Grow w w') w:=by
 apply S110_ok
 unfold S110
 obtain ⟨a,c,rfl,hm⟩:=h.shape
 exact ris_loop (K:=fun v' w'=>v'=.bool (decide (RisC l))∧Grow w w') (key:=Chg.key) h hm (by decide) (fun w r x hx=>by subst hx;rfl) (fun w' g hr=>⟨by rw [decide_eq_true hr],g⟩) fun w' g hr=>⟨by rw [decide_eq_false hr],g⟩

def SetBad (l:List Attr):Prop:=¬ RisA l∨64 < l.length∨∃ a ∈ l,¬ ValOK a.val
def SetNoKey (keys:List DKey) (l:List Attr):Prop:=∃ a ∈ l,¬ FitsK keys a.key a.val
open Classical in
noncomputable def maySet (keys:List DKey) (l:List Attr):Int:=if SetBad l then 3 else if SetNoKey keys l then 4 else 0
open Classical in
theorem mayset_ok {S S':Nat→Prop} {kv v:Value} {keys:List DKey} {l:List Attr} {w:World} (hk:RKeys S w kv keys) (h:RSet S' w v l) (hs:∀ a ∈ l,a.val.s.size * 4≤140737488355328) :
  callK Tryz.prog 56 [kv,v] (fun v' w'=>v'=.int .i64 (maySet keys l)∧Grow w w') w:=by
 apply S56_ok
 unfold S56
 obtain ⟨a,c,rfl,hm⟩:=h.shape
 simp only [maxLen] at hm
 have bad:∀ w',Grow w w'→SetBad l→Value.int .i64 3=.int .i64 (maySet keys l)∧Grow w w':=fun w' g hb=>⟨by rw [maySet,if_pos hb],g⟩
 refine JoinK_i (fun vs w1=>Grow w w1∧RisA l∧l.length≤64) ?_ ?_
 ·rintro vs w1 ⟨g1,hris,h64⟩ _
  refine LoopK_i (fun vs w2=>∃ i:Nat,i≤l.length∧vs=[.int .i64 i]∧Grow w w2∧∀ a ∈ l.take i,ValOK a.val) (fun vs _=>l.length - iOf vs 0) ⟨0,Nat.zero_le _,rfl,g1,by simp⟩ ?_
  rintro vs w2 ⟨i,hi,rfl,g2,hv⟩ _
  rw [lenK_i,nth_z,List.headD_cons,ltK_i]
  refine condK_p (fun hlt=>?_) fun hge=>?_
  ·have hlt':i < l.length:=by omega
   obtain ⟨p,r,rfl,_,hr,hc,rfl⟩:=(h.grow g2 (by decide) fun _ _ h=>h).get hlt'
   refine ixK_n hlt' ?_
   rw [faK_i,Addr.add_add]
   refine ldnK_i (vs:=l[i].val.cells) rfl (fun j u hu=>by rw [Addr.add_add,Nat.add_assoc];exact hc (1+j) u (by rw [Nat.add_comm];exact hu)) ?_
   refine callK_mono (rval_ok (hs _ (by simp))) ?_
   rintro v3 w3 ⟨rfl,g3⟩
   rw [notK_i]
   refine condK_neg (fun ho=>?_) fun ho=>bad _ (g2.trans g3) (.inr (.inr ⟨_,by simp,ho⟩))
   rw [addK_i,loop_step (by omega)]
   refine ⟨⟨i+1,hlt',rfl,g2.trans g3,fun a ha=>?_⟩,by rw [iOf0,iOf0];omega⟩
   rw [List.take_add_one,List.getElem?_eq_getElem hlt'] at ha
   rcases List.mem_append.1 ha with ha | ha
   ·exact hv a ha
   ·simp at ha;subst ha;exact ho
  ·have:i=l.length:=by omega
   subst this
   rw [List.take_length] at hv
   have ok:¬ SetBad l:=by
    rintro (h | h | ⟨a,ha,h⟩)
    ·exact h hris
    ·omega
    ·exact h (hv a ha)
   refine LoopK_i (fun vs w3=>∃ i:Nat,i≤l.length∧vs=[.int .i64 i]∧Grow w w3∧∀ a ∈ l.take i,FitsK keys a.key a.val) (fun vs _=>l.length - iOf vs 0) ⟨0,Nat.zero_le _,rfl,g2,by simp⟩ ?_
   rintro vs w3 ⟨i,hi,rfl,g3,hf⟩ _
   rw [lenK_i,nth_z,List.headD_cons,ltK_i]
   refine condK_p (fun hlt=>?_) fun hge=>?_
   ·have hlt':i < l.length:=by omega
    have g3d:Grow w w3.drew:=g3.trans (Mod.drew _ _)
    obtain ⟨p,r,rfl,hS,hr,hc,rfl⟩:=((h.old (by decide)).grow g3d (by decide) fun _ _ h=>h).get hlt'
    refine drawC_i (fun _ b=>False) ?_
    refine ixK_n hlt' ?_
    rw [faK_i,Addr.add_add]
    refine sld1_i ⟨hc 0 _ rfl,fun j _ h=>h⟩ ?_
    refine ixK_n hlt' ?_
    rw [faK_i,Addr.add_add]
    refine sldn_i (vs:=l[i].val.cells) rfl (fun j u hu=>⟨by rw [Addr.add_add,Nat.add_assoc];exact hc (1+j) u (by rw [Nat.add_comm];exact hu),fun j _ h=>h⟩) ?_
    refine callK_mono (rfits_ok (hk.grow g3d (by decide) fun _ _ h=>h) (hs _ (by simp))) ?_
    rintro v4 w4 ⟨rfl,g4⟩
    refine ⟨g4,?_⟩
    rw [notK_i]
    refine condK_neg (fun ho=>?_) fun ho=>⟨by rw [maySet,if_neg ok,if_pos ⟨_,by simp,ho⟩],g3d.trans g4⟩
    rw [addK_i,loop_step (by omega)]
    refine ⟨⟨i+1,hlt',rfl,g3d.trans g4,fun a ha=>?_⟩,by rw [iOf0,iOf0];omega⟩
    rw [List.take_add_one,List.getElem?_eq_getElem hlt'] at ha
    rcases List.mem_append.1 ha with ha | ha
    ·exact hf a ha
    ·simp at ha;subst ha;exact ho
   ·have:i=l.length:=by omega
    subst this
    rw [List.take_length] at hf
    refine ⟨?_,g3⟩
    rw [maySet,if_neg ok,if_neg]
    rintro ⟨a,ha,h⟩;exact h (hf a ha)
 ·refine callK_mono (risa_ok h) ?_
  rintro v2 w2 ⟨rfl,g2⟩
  rw [notK_i]
  refine condK_neg (fun hr=>?_) fun hr=>bad _ g2 (.inl hr)
  rw [lenK_i,gtK_i]
  refine condK_p (fun h6=>bad _ g2 (.inr (.inl (by omega)))) fun h6=>⟨g2,hr,by omega⟩
def AVal.zero:AVal:=⟨0,0,0,noS⟩
def PatBad (p:List Chg):Prop:=¬ RisC p∨64 < p.length∨∃ c ∈ p,(c.gone=true∧c.val≠AVal.zero)∨(c.gone=false∧¬ ValOK c.val)
def PatNoKey (keys:List DKey) (p:List Chg):Prop:=∃ c ∈ p,findK keys c.key=none∨(c.gone=false∧¬ FitsK keys c.key c.val)
open Classical in
noncomputable def mayPat (keys:List DKey) (p:List Chg):Int:=if PatBad p then 3 else if PatNoKey keys p then 4 else 0
open Classical in
theorem maypat_ok {S S':Nat→Prop} {kv v:Value} {keys:List DKey} {l:List Chg} {w:World} (hk:RKeys S w kv keys) (h:RPat S' w v l) (hs:∀ a ∈ l,a.val.s.size * 4≤140737488355328) :
  callK Tryz.prog 57 [kv,v] (fun v' w'=>v'=.int .i64 (mayPat keys l)∧Grow w w') w:=by
 apply S57_ok
 unfold S57
 obtain ⟨a,c,rfl,hm⟩:=h.shape
 simp only [maxLen] at hm
 have bad:∀ w',Grow w w'→PatBad l→Value.int .i64 3=.int .i64 (mayPat keys l)∧Grow w w':=fun w' g hb=>⟨by rw [mayPat,if_pos hb],g⟩
 refine JoinK_i (fun vs w1=>Grow w w1∧RisC l∧l.length≤64) ?_ ?_
 ·rintro vs w1 ⟨g1,hris,h64⟩ _
  refine LoopK_i (fun vs w2=>∃ i:Nat,i≤l.length∧vs=[.int .i64 i]∧Grow w w2∧∀ c ∈ l.take i,¬ ((c.gone=true∧c.val≠AVal.zero)∨(c.gone=false∧¬ ValOK c.val))) (fun vs _=>l.length - iOf vs 0) ⟨0,Nat.zero_le _,rfl,g1,by simp⟩ ?_
  rintro vs w2 ⟨i,hi,rfl,g2,hv⟩ _
  rw [lenK_i,nth_z,List.headD_cons,ltK_i]
  refine condK_p (fun hlt=>?_) fun hge=>?_
  ·have hlt':i < l.length:=by omega
   refine JoinK_i (fun vs w3=>Grow w w3∧¬ ((l[i].gone=true∧l[i].val≠AVal.zero)∨(l[i].gone=false∧¬ ValOK l[i].val))) ?_ ?_
   ·rintro vs w3 ⟨g3,ho⟩ _
    rw [addK_i,loop_step (by omega)]
    refine ⟨⟨i+1,hlt',rfl,g3,fun a ha=>?_⟩,by rw [iOf0,iOf0];omega⟩
    rw [List.take_add_one,List.getElem?_eq_getElem hlt'] at ha
    rcases List.mem_append.1 ha with ha | ha
    ·exact hv a ha
    ·simp at ha;subst ha;exact ho
   ·have bad':∀ w',Grow w w'→((l[i].gone=true∧l[i].val≠AVal.zero)∨(l[i].gone=false∧¬ ValOK l[i].val))→Value.int .i64 3=.int .i64 (mayPat keys l)∧Grow w w':=fun w' g hb=>bad w' g (.inr (.inr ⟨_,by simp,hb⟩))
    obtain ⟨p,r,rfl,_,hr,hc,hx⟩:=(h.grow g2 (by decide) fun _ _ h=>h).get hlt'
    subst hx
    have cv:∀ j u,l[i].val.cells[j]?=some u→w2.cell? (((p.add (i * 6)).add 2).add j)=some u:=fun j u hu=>by rw [Addr.add_add,Addr.add_add];exact hc (2+j) u (by rw [Nat.add_comm];exact hu)
    have cg:w2.cell? ((p.add (i * 6)).add 1)=some (.bool l[i].gone):=by rw [Addr.add_add];exact hc 1 _ rfl
    refine ixK_n hlt' ?_
    rw [faK_i]
    refine ld1K_i cg ?_
    cases hg:l[i].gone with
    | true=>
     rw [condK_b,if_pos rfl]
     refine ixK_n hlt' ?_
     rw [faK_i]
     refine ldnK_i (vs:=l[i].val.cells) rfl cv ?_
     refine ⟨AVal.zero.cells.toArray,by kernel_rfl,runK_i (run_ne_val _ _ l[i].val AVal.zero w2) ?_⟩
     refine condK_neg (fun hz=>?_) fun hz=>bad' _ g2 (.inl ⟨hg,hz⟩)
     refine ixK_n hlt' ?_
     rw [faK_i]
     refine ld1K_i cg ?_
     rw [hg,notK_i,condK_b]
     refine (if_neg (by simp)).mpr ⟨g2,?_⟩
     rintro (h | h)
     ·exact h.2 hz
     ·cases h.1
    | false=>
     rw [condK_b]
     refine (if_neg (by simp)).mpr ?_
     refine ixK_n hlt' ?_
     rw [faK_i]
     refine ld1K_i cg ?_
     rw [hg,notK_i,condK_b]
     refine (if_pos (by simp)).mpr ?_
     refine ixK_n hlt' ?_
     rw [faK_i]
     refine ldnK_i (vs:=l[i].val.cells) rfl cv ?_
     refine callK_mono (rval_ok (hs _ (by simp))) ?_
     rintro v3 w3 ⟨rfl,g3⟩
     rw [notK_i]
     refine condK_neg (fun ho=>⟨g2.trans g3,?_⟩) fun ho=>bad' _ (g2.trans g3) (.inr ⟨hg,ho⟩)
     rintro (h | h)
     ·cases h.1
     ·exact h.2 ho
  ·have:i=l.length:=by omega
   subst this
   rw [List.take_length] at hv
   have ok:¬ PatBad l:=by
    rintro (h | h | ⟨a,ha,h⟩)
    ·exact h hris
    ·omega
    ·exact hv a ha h
   refine LoopK_i (fun vs w3=>∃ i:Nat,i≤l.length∧vs=[.int .i64 i]∧Grow w w3∧∀ c ∈ l.take i,¬ (findK keys c.key=none∨(c.gone=false∧¬ FitsK keys c.key c.val))) (fun vs _=>l.length - iOf vs 0) ⟨0,Nat.zero_le _,rfl,g2,by simp⟩ ?_
   rintro vs w3 ⟨i,hi,rfl,g3,hf⟩ _
   rw [lenK_i,nth_z,List.headD_cons,ltK_i]
   refine condK_p (fun hlt=>?_) fun hge=>?_
   ·have hlt':i < l.length:=by omega
    refine JoinK_i (fun vs w4=>Grow w w4∧¬ (findK keys l[i].key=none∨(l[i].gone=false∧¬ FitsK keys l[i].key l[i].val))) ?_ ?_
    ·rintro vs w4 ⟨g4,ho⟩ _
     rw [addK_i,loop_step (by omega)]
     refine ⟨⟨i+1,hlt',rfl,g4,fun a ha=>?_⟩,by rw [iOf0,iOf0];omega⟩
     rw [List.take_add_one,List.getElem?_eq_getElem hlt'] at ha
     rcases List.mem_append.1 ha with ha | ha
     ·exact hf a ha
     ·simp at ha;subst ha;exact ho
    ·have bad':∀ w',Grow w w'→(findK keys l[i].key=none∨(l[i].gone=false∧¬ FitsK keys l[i].key l[i].val))→Value.int .i64 4=.int .i64 (mayPat keys l)∧Grow w w':=fun w' g hb=>⟨by rw [mayPat,if_neg ok,if_pos ⟨_,by simp,hb⟩],g⟩
     obtain ⟨p,r,rfl,_,hr,hc,hx⟩:=h.get hlt'
     subst hx
     have cell:∀ {W:World},Grow w W→∀ j u,l[i].cells[j]?=some u→W.cell? ((p.add (i * 6)).add j)=some u:=fun hW j u hu=>by rw [Addr.add_add];exact hW.cell (hc j u hu) fun h=>h
     refine ixK_n hlt' ?_
     rw [faK_i]
     refine ld1K_i (cell g3 0 _ rfl) ?_
     refine callK_mono (find_ok (hk.grow g3 (by decide) fun _ _ h=>h)) ?_
     rintro v4 w4 ⟨rfl,g4⟩
     refine extK_i (vs:=[_,_]) (by rfl) (extK_i (vs:=[_,_]) (by rfl) ?_)
     generalize hkk:(findK keys l[i].key).getD DKey.zero=kk
     refine newst_i (vs:=kk.cells) rfl (RKey.one (w:=w) (x:=kk) rfl) fun b5 w5 _ _ g5 _ _=>?_
     have g05:Grow w w5.drew:=((g3.trans g4).trans g5).trans (Mod.drew _ _)
     refine drawC_i (fun _ b=>False) ?_
     rw [notK_i]
     cases hfk:findK keys l[i].key with
     | none=>
      rw [Option.isSome_none,condK_b]
      exact (if_pos (by rfl)).mpr (bad' _ g05 (.inl hfk))
     | some k'=>
      rw [Option.isSome_some,condK_b]
      refine (if_neg (by simp)).mpr ?_
      refine ixK_n hlt' ?_
      rw [faK_i]
      refine sld1_i ⟨cell g05 1 _ rfl,fun j _ h=>h⟩ ?_
      rw [notK_i]
      cases hg:l[i].gone with
      | true=>
       rw [condK_b]
       refine (if_neg (by simp)).mpr ⟨g05,?_⟩
       rintro (h | h)
       ·first | cases h | (rw [hfk] at h;cases h)
       ·first | cases h.1 | (rw [hg] at h;cases h.1)
      | false=>
       rw [condK_b]
       refine (if_pos (by simp)).mpr ?_
       refine ixK_n hlt' ?_
       rw [faK_i]
       refine sld1_i ⟨cell g05 0 _ rfl,fun j _ h=>h⟩ ?_
       refine ixK_n hlt' ?_
       rw [faK_i]
       refine sldn_i (vs:=l[i].val.cells) rfl (fun j u hu=>⟨by rw [Addr.add_add];exact cell g05 (2+j) u (by rw [Nat.add_comm];exact hu),fun j _ h=>h⟩) ?_
       refine callK_mono (rfits_ok (hk.grow g05 (by decide) fun _ _ h=>h) (hs _ (by simp))) ?_
       rintro v6 w6 ⟨rfl,g6⟩
       refine ⟨g6,?_⟩
       rw [notK_i]
       refine condK_neg (fun ho=>⟨g05.trans g6,?_⟩) fun ho=>bad' _ (g05.trans g6) (.inr ⟨hg,ho⟩)
       rintro (h | h)
       ·first | cases h | (rw [hfk] at h;cases h)
       ·exact h.2 ho
   ·have:i=l.length:=by omega
    subst this
    rw [List.take_length] at hf
    refine ⟨?_,g3⟩
    rw [mayPat,if_neg ok,if_neg]
    rintro ⟨a,ha,h⟩;exact hf a ha h
 ·refine callK_mono (risc_ok h) ?_
  rintro v2 w2 ⟨rfl,g2⟩
  rw [notK_i]
  refine condK_neg (fun hr=>?_) fun hr=>bad _ g2 (.inl hr)
  rw [lenK_i,gtK_i]
  refine condK_p (fun h6=>bad _ g2 (.inr (.inl (by omega)))) fun h6=>⟨g2,hr,by omega⟩
end Go.Proofs.YtgmpbihbdbmhoaaGreatDoor

namespace Go.Proofs.YtgmpbihbdbmhoaaGreatDoor
open Go Go.K

def KeyOK (k:DKey):Prop:=1≤k.id∧k.id≤1000∧1≤k.kind∧k.kind≤4∧0≤k.group∧k.group≤8∧(k.block=false→k.group=0)∧(k.block=true→k.before=false)
def MayN (keys:List DKey) (n:Nat):Prop:=∀ i,i < n→∀ k,keys[i]?=some k→KeyOK k∧∀ j,j < i→∀ k',keys[j]?=some k'→k'.id≠k.id
def MayKeys (keys:List DKey):Prop:=keys.length≤64∧MayN keys keys.length
def szA (l:List Attr):Nat:=(l.map fun a=>a.val.s.size).sum
def szC (l:List Chg):Nat:=(l.map fun a=>a.val.s.size).sum
theorem mSet_eq (l:List Attr):mSet l=l.length+szA l:=by
 induction l with
 | nil=>rfl
 | cons a l ih=>simp only [mSet,szA,List.map_cons,List.sum_cons,List.length_cons,mAttr] at ih ⊢;omega
theorem mPat_eq (l:List Chg):mPat l=l.length+szC l:=by
 induction l with
 | nil=>rfl
 | cons a l ih=>simp only [mPat,szC,List.map_cons,List.sum_cons,List.length_cons,mChg] at ih ⊢;omega
theorem szA_take {l:List Attr} {k:Nat} (h:k < l.length):szA (l.take (k+1))=szA (l.take k)+l[k].val.s.size:=by
 rw [List.take_add_one,List.getElem?_eq_getElem h];simp only [szA,Option.toList,List.map_append,List.sum_append,List.map_cons,List.map_nil,List.sum_cons,List.sum_nil,Nat.add_zero]
theorem szC_take {l:List Chg} {k:Nat} (h:k < l.length):szC (l.take (k+1))=szC (l.take k)+l[k].val.s.size:=by
 rw [List.take_add_one,List.getElem?_eq_getElem h];simp only [szC,Option.toList,List.map_append,List.sum_append,List.map_cons,List.map_nil,List.sum_cons,List.sum_nil,Nat.add_zero]
theorem mDops_take {l:List Dop} {k:Nat} (h:k < l.length):mDops (l.take (k+1))=mDops (l.take k)+mDop l[k]:=by
 rw [List.take_add_one,List.getElem?_eq_getElem h];simp only [mDops,Option.toList,List.map_append,List.sum_append,List.map_cons,List.map_nil,List.sum_cons,List.sum_nil,Nat.add_zero]
theorem mDops_mem {l:List Dop} {o:Dop} (h:o ∈ l):mDop o≤mDops l:=by
 induction l with
 | nil=>simp at h
 | cons a l ih=>
  have e:mDops (a :: l)=mDop a+mDops l:=by simp [mDops]
  rcases List.mem_cons.1 h with rfl | h
  ·omega
  ·have:=ih h;omega
theorem mDops_len (l:List Dop):l.length≤mDops l:=by
 induction l with
 | nil=>exact Nat.zero_le _
 | cons a l ih=>simp only [mDops,List.map_cons,List.sum_cons,List.length_cons,mDop] at ih ⊢;omega
theorem mDops_le (l:List Dop) (k:Nat):mDops (l.take k)≤mDops l:=by
 have:mDops l=mDops (l.take k)+mDops (l.drop k):=by
  conv=>lhs;rw [←List.take_append_drop k l]
  simp only [mDops,List.map_append,List.sum_append]
 omega
theorem szA_le (l:List Attr) (k:Nat):szA (l.take k)≤szA l:=by
 have:szA l=szA (l.take k)+szA (l.drop k):=by
  conv=>lhs;rw [←List.take_append_drop k l]
  simp only [szA,List.map_append,List.sum_append]
 omega
theorem szC_le (l:List Chg) (k:Nat):szC (l.take k)≤szC l:=by
 have:szC l=szC (l.take k)+szC (l.drop k):=by
  conv=>lhs;rw [←List.take_append_drop k l]
  simp only [szC,List.map_append,List.sum_append]
 omega
theorem mSet_mem {l:List Attr} {a:Attr} (h:a ∈ l):a.val.s.size+1≤mSet l:=by
 induction l with
 | nil=>simp at h
 | cons b l ih=>
  have e:mSet (b :: l)=mAttr b+mSet l:=by simp [mSet]
  rcases List.mem_cons.1 h with rfl | h
  ·simp only [mAttr] at e;omega
  ·have:=ih h;omega
theorem mPat_mem {l:List Chg} {a:Chg} (h:a ∈ l):a.val.s.size+1≤mPat l:=by
 induction l with
 | nil=>simp at h
 | cons b l ih=>
  have e:mPat (b :: l)=mChg b+mPat l:=by simp [mPat]
  rcases List.mem_cons.1 h with rfl | h
  ·simp only [mChg] at e;omega
  ·have:=ih h;omega
theorem size_ok {S D:Nat→Prop} {v:Value} {x:List Dop} {w:World} (h:RDops S D w v x) (hb:mDops x≤1099511627776) :
  callK Tryz.prog 6 [v] (fun v' w'=>v'=.int .i64 (mDops x)∧Grow w w') w:=by
 apply S6_ok
 unfold S6
 obtain ⟨a,c,rfl,hm⟩:=h.shape
 simp only [maxLen] at hm
 refine LoopK_i (fun vs w1=>∃ k:Nat,k≤x.length∧vs=[.int .i64 (mDops (x.take k)),.int .i64 k]∧Grow w w1) (fun vs _=>x.length - iOf vs 1) ⟨0,Nat.zero_le _,rfl,Mod.refl _ _⟩ ?_
 rintro vs w1 ⟨k,hk,rfl,hg⟩ _
 simp only [nth_s,nth_z,List.headD_cons,List.tail_cons]
 rw [lenK_i,ltK_i]
 refine condK_p (fun hlt=>?_) fun hge=>?_
 ·have hlt':k < x.length:=by omega
  have hmk:=mDops_take hlt'
  have hmk1:=mDops_le x (k+1)
  obtain ⟨p,r,rfl,_,hr,hc,rv,sv,pv,rfl,h1,h2,h3⟩:=(RDops.grow h hg).get hlt'
  obtain ⟨a1,c1,rfl,m1⟩:=h1.shape
  obtain ⟨a2,c2,rfl,m2⟩:=h2.shape
  obtain ⟨a3,c3,rfl,m3⟩:=h3.shape
  have cl:∀ {W},Grow w1 W→∀ j u,[Value.int .u8 x[k].kind,.int .i64 x[k].n,.slice a1 x[k].runes.length c1,.slice a2 x[k].set.length c2,.slice a3 x[k].patch.length c3][j]?=some u→W.cell? ((p.add (k * 5)).add j)=some u:=fun hW j u hu=>by rw [Addr.add_add];exact hW.cell (hc j u hu) fun h=>h
  simp only [mDop,mSet_eq,mPat_eq] at hmk
  refine drawK_i (fun w2=>Grow w1 w2) (Mod.drew _ _) ?_
  rw [addK_i,wrap64 (by omega) (by omega)]
  refine ixK_n hlt' ?_
  rw [faK_i]
  refine qld1K_i (fun W hW=>cl hW 2 _ rfl) ?_
  rw [lenK_i,addK_i,wrap64 (by omega) (by omega)]
  refine ixK_n hlt' ?_
  rw [faK_i]
  refine qld1K_i (fun W hW=>cl hW 3 _ rfl) ?_
  rw [lenK_i,addK_i,wrap64 (by omega) (by omega)]
  refine ixK_n hlt' ?_
  rw [faK_i]
  refine qld1K_i (fun W hW=>cl hW 4 _ rfl) ?_
  rw [lenK_i,addK_i,wrap64 (by omega) (by omega)]
  intro w2 g2
  generalize hN:((mDops (x.take k):Nat):Int)+1+x[k].runes.length+x[k].set.length+x[k].patch.length=N
  refine LoopK_i (fun vs w3=>∃ i:Nat,i≤x[k].set.length∧vs=[.int .i64 (N+szA (x[k].set.take i)),.int .i64 i]∧Grow w1 w3) (fun vs _=>x[k].set.length - iOf vs 1) ⟨0,Nat.zero_le _,by simp [szA],g2⟩ ?_
  rintro vs w3 ⟨i,hi,rfl,g3⟩ _
  simp only [nth_s,nth_z,List.headD_cons,List.tail_cons]
  refine ixK_n hlt' ?_
  rw [faK_i]
  refine ld1K_i (cl g3 3 _ rfl) ?_
  rw [lenK_i,ltK_i]
  refine condK_p (fun hil=>?_) fun hig=>?_
  ·have hil':i < x[k].set.length:=by omega
   have hsk:=szA_take hil'
   have hsk1:=szA_le x[k].set (i+1)
   refine ixK_n hlt' ?_
   rw [faK_i]
   refine ld1K_i (cl g3 3 _ rfl) ?_
   obtain ⟨q,r',rfl,_,hr',hc',hx'⟩:=(h2.grow g3 (by decide) fun _ _ h=>h).get hil'
   subst hx'
   refine ixK_n hil' ?_
   rw [faK_i,faK_i,Addr.add_add,Addr.add_add]
   refine ld1K_i (hc' 4 _ rfl) ?_
   rw [slenK_i,addK_i,addK_i,loop_step (by omega),wrap64 (by omega) (by omega)]
   refine ⟨⟨i+1,hil',by rw [hsk];congr 2;omega,g3⟩,by rw [iOf1,iOf1];omega⟩
  ·have:i=x[k].set.length:=by omega
   subst this
   rw [List.take_length]
   generalize hN2:N+szA x[k].set=N2
   refine LoopK_i (fun vs w4=>∃ i:Nat,i≤x[k].patch.length∧vs=[.int .i64 (N2+szC (x[k].patch.take i)),.int .i64 i]∧Grow w1 w4) (fun vs _=>x[k].patch.length - iOf vs 1) ⟨0,Nat.zero_le _,by simp [szC],g3⟩ ?_
   rintro vs w4 ⟨i,hi,rfl,g4⟩ _
   simp only [nth_s,nth_z,List.headD_cons,List.tail_cons]
   refine ixK_n hlt' ?_
   rw [faK_i]
   refine ld1K_i (cl g4 4 _ rfl) ?_
   rw [lenK_i,ltK_i]
   refine condK_p (fun hil=>?_) fun hig=>?_
   ·have hil':i < x[k].patch.length:=by omega
    have hsk:=szC_take hil'
    have hsk1:=szC_le x[k].patch (i+1)
    refine ixK_n hlt' ?_
    rw [faK_i]
    refine ld1K_i (cl g4 4 _ rfl) ?_
    obtain ⟨q,r',rfl,_,hr',hc',hx'⟩:=(h3.grow g4 (by decide) fun _ _ h=>h).get hil'
    subst hx'
    refine ixK_n hil' ?_
    rw [faK_i,faK_i,Addr.add_add,Addr.add_add]
    refine ld1K_i (hc' 5 _ rfl) ?_
    rw [slenK_i,addK_i,addK_i,loop_step (by omega),wrap64 (by omega) (by omega)]
    refine ⟨⟨i+1,hil',by rw [hsk];congr 2;omega,g4⟩,by rw [iOf1,iOf1];omega⟩
   ·have:i=x[k].patch.length:=by omega
    subst this
    rw [List.take_length,addK_i,loop_step (by omega)]
    refine ⟨⟨k+1,hlt',?_,hg.trans g4⟩,by rw [iOf1,iOf1];omega⟩
    congr 2
    omega
 ·have:k=x.length:=by omega
  subst this
  rw [List.take_length]
  exact ⟨rfl,hg⟩
end Go.Proofs.YtgmpbihbdbmhoaaGreatDoor

namespace Go.Proofs.YtgmpbihbdbmhoaaGreatDoor
open Go Go.K

def OpsBad (keys:List DKey) (x:List Dop):Prop:=(∃ o ∈ x,¬ FormO o∨maySet keys o.set=3∨mayPat keys o.patch=3)∨536870912 < sumW takesF x∨536870912 < sumW makesF x
def OpsNoKey (keys:List DKey) (x:List Dop):Prop:=∃ o ∈ x,maySet keys o.set≠0∨mayPat keys o.patch≠0
open Classical in
noncomputable def mayOps (keys:List DKey) (x:List Dop):Int:=if OpsBad keys x then 3 else if OpsNoKey keys x then 4 else 0
open Classical in
theorem mayops_ok {S S' D:Nat→Prop} {kv v:Value} {keys:List DKey} {x:List Dop} {w:World} (hk:RKeys S w kv keys) (h:RDops S' D w v x) (hb:mDops x≤1099511627776) :
  callK Tryz.prog 23 [kv,v] (fun v' w'=>v'=.int .i64 (mayOps keys x)∧Grow w w') w:=by
 apply S23_ok
 unfold S23
 obtain ⟨a,c,rfl,hm⟩:=h.shape
 simp only [maxLen] at hm
 have hss:∀ o ∈ x,(∀ a ∈ o.set,a.val.s.size * 4≤140737488355328)∧(∀ a ∈ o.patch,a.val.s.size * 4≤140737488355328):=by
  intro o ho
  have:=mDops_mem ho
  simp only [mDop] at this
  exact ⟨fun a ha=>by have:=mSet_mem ha;omega,fun a ha=>by have:=mPat_mem ha;omega⟩
 have bad:∀ w',Grow w w'→OpsBad keys x→Value.int .i64 3=.int .i64 (mayOps keys x)∧Grow w w':=fun w' g hb=>⟨by rw [mayOps,if_pos hb],g⟩
 refine LoopK_i (fun vs w1=>∃ k:Nat,k≤x.length∧vs=[.int .i64 k]∧Grow w w1∧∀ o ∈ x.take k,FormO o∧maySet keys o.set≠3∧mayPat keys o.patch≠3) (fun vs _=>x.length - iOf vs 0) ⟨0,Nat.zero_le _,rfl,Mod.refl _ _,by simp⟩ ?_
 rintro vs w1 ⟨k,hkl,rfl,g1,hall⟩ _
 rw [lenK_i,nth_z,List.headD_cons,ltK_i]
 refine condK_p (fun hlt=>?_) fun hge=>?_
 ·have hlt':k < x.length:=by omega
  refine JoinK_i (fun vs w2=>Grow w w2∧FormO x[k]∧maySet keys x[k].set≠3∧mayPat keys x[k].patch≠3) ?_ ?_
  ·rintro vs w2 ⟨g2,ho⟩ _
   rw [addK_i,loop_step (by omega)]
   refine ⟨⟨k+1,hlt',rfl,g2,fun o hoo=>?_⟩,by rw [iOf0,iOf0];omega⟩
   rw [List.take_add_one,List.getElem?_eq_getElem hlt'] at hoo
   rcases List.mem_append.1 hoo with hoo | hoo
   ·exact hall o hoo
   ·simp at hoo;subst hoo;exact ho
  ·obtain ⟨p,r,rfl,_,hr,hc,ho⟩:=(RDops.grow h g1).get hlt'
   have hmem:x[k] ∈ x:=by simp
   refine ixK_n hlt' (ldnK_i hr (fun j u hu=>by rw [Addr.add_add];exact hc j u hu) ?_)
   refine callK_mono (form_ok ho) ?_
   rintro v2 w2 ⟨rfl,g2⟩
   have g02:=g1.trans g2
   rw [notK_i]
   refine condK_neg (fun hf=>?_) fun hf=>bad _ g02 (.inl ⟨_,hmem,.inl hf⟩)
   obtain ⟨rv,sv,pv,rfl,h1,h2,h3⟩:=ho.mod (D':=D) g2 (fun _ _ _ h=>h) fun _ _ h=>h
   refine ixK_n hlt' ?_
   rw [faK_i,Addr.add_add]
   refine ld1K_i (g2.cell (hc 3 _ rfl) fun h=>h) ?_
   refine callK_mono (mayset_ok (hk.grow g02 (by decide) fun _ _ h=>h) h2 (hss _ hmem).1) ?_
   rintro v3 w3 ⟨rfl,g3⟩
   rw [eqK_i]
   refine condK_p (fun hs=>bad _ (g02.trans g3) (.inl ⟨_,hmem,.inr (.inl hs)⟩)) fun hs=>?_
   refine ixK_n hlt' ?_
   rw [faK_i,Addr.add_add]
   refine ld1K_i ((g2.trans g3).cell (hc 4 _ rfl) fun h=>h) ?_
   refine callK_mono (maypat_ok (hk.grow (g02.trans g3) (by decide) fun _ _ h=>h) (h3.grow g3 (by decide) fun _ _ h=>h) (hss _ hmem).2) ?_
   rintro v4 w4 ⟨rfl,g4⟩
   rw [eqK_i]
   exact condK_p (fun hs=>bad _ ((g02.trans g3).trans g4) (.inl ⟨_,hmem,.inr (.inr hs)⟩)) fun hp=>⟨(g02.trans g3).trans g4,hf,hs,hp⟩
 ·have:k=x.length:=by omega
  subst this
  rw [List.take_length] at hall
  refine JoinK_i (fun vs w2=>Grow w w2∧¬ OpsBad keys x) ?_ ?_
  ·rintro vs w2 ⟨g2,ok⟩ _
   refine LoopK_i (fun vs w3=>∃ k:Nat,k≤x.length∧vs=[.int .i64 k]∧Grow w w3∧∀ o ∈ x.take k,maySet keys o.set=0∧mayPat keys o.patch=0) (fun vs _=>x.length - iOf vs 0) ⟨0,Nat.zero_le _,rfl,g2,by simp⟩ ?_
   rintro vs w3 ⟨k,hkl,rfl,g3,hz⟩ _
   rw [lenK_i,nth_z,List.headD_cons,ltK_i]
   refine condK_p (fun hlt=>?_) fun hge=>?_
   ·have hlt':k < x.length:=by omega
    have hmem:x[k] ∈ x:=by simp
    have four:∀ w',Grow w w'→(maySet keys x[k].set≠0∨mayPat keys x[k].patch≠0)→Value.int .i64 4=.int .i64 (mayOps keys x)∧Grow w w':=fun w' g hb=>⟨by rw [mayOps,if_neg ok,if_pos ⟨_,hmem,hb⟩],g⟩
    obtain ⟨p,r,rfl,_,hr,hc,rv,sv,pv,rfl,h1,h2,h3⟩:=(RDops.grow h g3).get hlt'
    refine ixK_n hlt' ?_
    rw [faK_i,Addr.add_add]
    refine ld1K_i (hc 3 _ rfl) ?_
    refine callK_mono (mayset_ok (hk.grow g3 (by decide) fun _ _ h=>h) h2 (hss _ hmem).1) ?_
    rintro v4 w4 ⟨rfl,g4⟩
    rw [neK_i]
    refine condK_neg (fun hs=>?_) fun hs=>four _ (g3.trans g4) (.inl hs)
    refine ixK_n hlt' ?_
    rw [faK_i,Addr.add_add]
    refine ld1K_i (g4.cell (hc 4 _ rfl) fun h=>h) ?_
    refine callK_mono (maypat_ok (hk.grow (g3.trans g4) (by decide) fun _ _ h=>h) (h3.grow g4 (by decide) fun _ _ h=>h) (hss _ hmem).2) ?_
    rintro v5 w5 ⟨rfl,g5⟩
    rw [neK_i]
    refine condK_neg (fun hp=>?_) fun hp=>four _ ((g3.trans g4).trans g5) (.inr hp)
    rw [addK_i,loop_step (by omega)]
    refine ⟨⟨k+1,hlt',rfl,(g3.trans g4).trans g5,fun o hoo=>?_⟩,by rw [iOf0,iOf0];omega⟩
    rw [List.take_add_one,List.getElem?_eq_getElem hlt'] at hoo
    rcases List.mem_append.1 hoo with hoo | hoo
    ·exact hz o hoo
    ·simp at hoo;subst hoo;exact ⟨hs,hp⟩
   ·have:k=x.length:=by omega
    subst this
    rw [List.take_length] at hz
    refine ⟨?_,g3⟩
    rw [mayOps,if_neg ok,if_neg]
    rintro ⟨o,ho,h | h⟩
    ·exact h (hz o ho).1
    ·exact h (hz o ho).2
  ·refine callK_mono (takes_ok (RDops.grow h g1)) ?_
   rintro v2 w2 ⟨rfl,g2⟩
   rw [gtK_i]
   refine condK_p (fun ht=>bad _ (g1.trans g2) (.inr (.inl ht))) fun ht=>?_
   refine callK_mono (makes_ok (RDops.grow h (g1.trans g2))) ?_
   rintro v3 w3 ⟨rfl,g3⟩
   rw [gtK_i]
   refine condK_p (fun hm=>bad _ ((g1.trans g2).trans g3) (.inr (.inr hm))) fun hm=>⟨(g1.trans g2).trans g3,?_⟩
   rintro (⟨o,ho,h⟩ | h | h)
   ·obtain ⟨q1,q2,q3⟩:=hall o ho
    rcases h with h | h | h
    ·exact h q1
    ·exact q2 h
    ·exact q3 h
   ·exact ht h
   ·exact hm h
theorem same1_ok {D D':Nat→Prop} {r r':List Value} {a b:Dop} {w:World} (ha:RDop D w r a) (hb:RDop D' w r' b) :
  callK Tryz.prog 121 [.agg r.toArray,.agg r'.toArray] (fun v w'=>v=.bool (decide (a=b))∧Grow w w') w:=by
 apply S121_ok
 unfold S121
 have no:∀ w',Grow w w'→a≠b→Value.bool false=.bool (decide (a=b))∧Grow w w':=fun w' g hn=>⟨by rw [decide_eq_false hn],g⟩
 obtain ⟨rv,sv,pv,rfl,h1,h2,h3⟩:=ha
 obtain ⟨rv',sv',pv',rfl,h1',h2',h3'⟩:=hb
 refine boxn_i fun b1 w1 _ _ g1 hc1 _=>boxn_i fun b2 w2 _ _ g2 hc2 _=>?_
 have g02:=g1.trans g2
 have A:∀ {W},Grow w2 W→∀ j u,[Value.int .u8 a.kind,.int .i64 a.n,rv,sv,pv][j]?=some u→W.cell? ((⟨b1,0,none⟩:Addr).add j)=some u:=fun hW j u hu=>(g2.trans hW).cell (hc1 j u hu) fun h=>h
 have B:∀ {W},Grow w2 W→∀ j u,[Value.int .u8 b.kind,.int .i64 b.n,rv',sv',pv'][j]?=some u→W.cell? ((⟨b2,0,none⟩:Addr).add j)=some u:=fun hW j u hu=>hW.cell (hc2 j u hu) fun h=>h
 simp only [faK_i]
 refine ld1K_i (A (Mod.refl _ _) 0 _ rfl) (ld1K_i (B (Mod.refl _ _) 0 _ rfl) ?_)
 rw [eqK_i]
 refine condK_p (fun e0=>?_) fun e0=>no _ g02 fun e=>e0 (by rw [e])
 refine ld1K_i (A (Mod.refl _ _) 1 _ rfl) (ld1K_i (B (Mod.refl _ _) 1 _ rfl) ?_)
 rw [eqK_i]
 refine condK_p (fun e1=>?_) fun e1=>no _ g02 fun e=>e1 (by rw [e])
 refine ld1K_i (A (Mod.refl _ _) 2 _ rfl) (ld1K_i (B (Mod.refl _ _) 2 _ rfl) ?_)
 refine callK_mono (eq_run (h1.grow g02 (by decide) fun _ _ h=>h) (h1'.grow g02 (by decide) fun _ _ h=>h)) ?_
 rintro v3 w3 ⟨rfl,g3⟩
 refine condK_p (fun e2=>?_) fun e2=>no _ (g02.trans g3) fun e=>e2 (by rw [e])
 refine ld1K_i (A g3 3 _ rfl) (ld1K_i (B g3 3 _ rfl) ?_)
 refine callK_mono (same_set (h2.grow (g02.trans g3) (by decide) fun _ _ h=>h) (h2'.grow (g02.trans g3) (by decide) fun _ _ h=>h)) ?_
 rintro v4 w4 ⟨rfl,g4⟩
 have g04:=(g02.trans g3).trans g4
 refine condK_p (fun e3=>?_) fun e3=>no _ g04 fun e=>e3 (by rw [e])
 refine ld1K_i (A (g3.trans g4) 4 _ rfl) (ld1K_i (B (g3.trans g4) 4 _ rfl) ?_)
 refine callK_mono (same_pat (h3.grow g04 (by decide) fun _ _ h=>h) (h3'.grow g04 (by decide) fun _ _ h=>h)) ?_
 rintro v5 w5 ⟨rfl,g5⟩
 refine ⟨?_,g04.trans g5⟩
 congr 1
 rw [decide_eq_decide]
 constructor
 ·intro e4;cases a;cases b;simp only at e0 e1 e2 e3 e4;subst e0;subst e1;subst e2;subst e3;subst e4;rfl
 ·intro e;rw [e]
theorem same_dops {S S' D D':Nat→Prop} {a b:Value} {l m:List Dop} {w:World} (ha:RDops S D w a l) (hb:RDops S' D' w b m) :
  callK Tryz.prog 72 [a,b] (fun v w'=>v=.bool (decide (l=m))∧Grow w w') w:=by
 apply S72_ok
 unfold S72
 apply S120_ok
 unfold S120
 have ha0:=ha
 have hb0:=hb
 obtain ⟨pa,ca,rfl,hla⟩:=ha.shape
 obtain ⟨pb,cb,rfl,hlb⟩:=hb.shape
 simp only [maxLen] at hla hlb
 have no:∀ w',Grow w w'→l≠m→Value.bool false=.bool (decide (l=m))∧Grow w w':=fun w' g hn=>⟨by rw [decide_eq_false hn],g⟩
 rw [lenK_i,lenK_i,neK_i]
 refine condK_neg (fun hlen=>?_) fun hlen=>no _ (Mod.refl _ _) fun e=>hlen (by rw [e])
 rw [lenK_i]
 refine LoopK_i (fun vs w1=>∃ k:Nat,k≤l.length∧vs=[.int .i64 k]∧Grow w w1∧l.take k=m.take k) (fun vs _=>l.length - iOf vs 0) ⟨0,Nat.zero_le _,rfl,Mod.refl _ _,rfl⟩ ?_
 rintro vs w1 ⟨k,hk,rfl,hg,ht⟩ _
 rw [nth_z,List.headD_cons,ltK_i]
 refine condK_p (fun hlt=>?_) fun hge=>?_
 ·have hlt':k < l.length:=by omega
  have hlm':k < m.length:=by omega
  obtain ⟨p,r,rfl,_,hr,hc,ho⟩:=(RDops.grow ha hg).get hlt'
  obtain ⟨p',r',rfl,_,hr',hc',ho'⟩:=(RDops.grow hb hg).get hlm'
  refine ixK_n hlt' (ldnK_i hr (fun j u hu=>by rw [Addr.add_add];exact hc j u hu) ?_)
  refine newst_n (vs:=r) hr rfl ho.one fun b1 w2 hb1 hz1 g2 hc2 _=>?_
  refine ixK_n hlm' (ldnK_i hr' (fun j u hu=>by rw [Addr.add_add];exact g2.cell (hc' j u hu) fun h=>h) ?_)
  refine newst_n (vs:=r') hr' rfl ho'.one fun b2 w3 hb2 hz2 g3 hc3 _=>?_
  refine ldnK_i hr (fun j u hu=>g3.cell (hc2 j u hu) fun h=>h) ?_
  refine ldnK_i hr' hc3 ?_
  have g03:Grow w1 w3:=g2.trans g3
  refine callyK_f (by kernel_rfl) ?_
  refine callK_mono (same1_ok (ho.mod (D':=D) g03 (fun _ _ _ h=>h) fun _ _ h=>h) (ho'.mod (D':=D') g03 (fun _ _ _ h=>h) fun _ _ h=>h)) ?_
  rintro v4 w4 ⟨rfl,g4⟩
  have g14:=g03.trans g4
  rw [notK_i]
  refine condK_neg (fun he=>?_) fun he=>no _ (hg.trans g14) fun e=>he (by subst e;rfl)
  rw [addK_i,loop_step (by omega)]
  refine ⟨⟨k+1,hlt',rfl,hg.trans g14,?_⟩,by rw [iOf0,iOf0];omega⟩
  rw [List.take_add_one,List.take_add_one,ht,List.getElem?_eq_getElem hlt',List.getElem?_eq_getElem hlm',he]
 ·have:k=l.length:=by omega
  subst this
  rw [List.take_length,show l.length=m.length by omega,List.take_length] at ht
  exact ⟨by rw [decide_eq_true ht],hg⟩
end Go.Proofs.YtgmpbihbdbmhoaaGreatDoor

namespace Go.Proofs.YtgmpbihbdbmhoaaGreatDoor
open Go Go.K

def Good (PS:List Attr→Prop) (PP:List Chg→Prop) (o:Dop):Prop:=(o.kind=1∧o.runes=[]∧o.set=[]∧1≤o.n∧PP o.patch)∨(o.kind=3∧o.runes=[]∧o.set=[]∧o.patch=[]∧1≤o.n)∨
 (o.kind=2∧(∀ r ∈ o.runes,MayR r)∧o.n=0∧o.patch=[]∧o.runes≠[]∧PS o.set)
theorem total_app (x y:List Dop):total (x++y)=total x+total y:=by simp [total]
theorem total_one (o:Dop):total [o]=lenN o:=by simp [total]
theorem total_mem {x:List Dop} {o:Dop} (h:o ∈ x):lenN o≤total x:=by
 induction x with
 | nil=>simp at h
 | cons a x ih=>
  simp only [total,List.map_cons,List.sum_cons] at *
  rcases List.mem_cons.1 h with rfl | h
  ·omega
  ·have:=ih h;omega
theorem set_end (i:List Dop) (b o:Dop):(i++[b]).set ((i++[b]).length - 1) o=i++[o]:=by
 rw [List.set_append_right _ _ (by simp)];simp
section
variable {PS:List Attr→Prop} {PP:List Chg→Prop}
theorem good_gap {ins:List Dop} {g:Int} (h:∀ o ∈ ins,Good PS PP o∧o.kind=2):∀ o ∈ gapL ins g,Good PS PP o:=by
 intro o ho
 unfold gapL at ho
 split at ho
 ·rcases List.mem_append.1 ho with h' | h'
  ·exact (h o h').1
  ·simp at h';subst h';exact .inr (.inl ⟨rfl,rfl,rfl,rfl,by simp only;omega⟩)
 ·exact (h o ho).1
theorem total_gap (ins:List Dop) (g:Int):total (gapL ins g)=total ins+g.toNat:=by
 unfold gapL
 split
 ·rw [total_app,total_one];simp [lenN]
 ·omega
structure GoodM (PS:List Attr→Prop) (PP:List Chg→Prop) (s:MkS) (t:Nat):Prop where
 done:∀ o ∈ s.done,Good PS PP o
 ins:∀ o ∈ s.ins,Good PS PP o∧o.kind=2
 gone:0≤s.gone
 tot:total s.done+total s.ins+s.gone.toNat≤t
theorem good_step {s:MkS} {t:Nat} {o:Dop} (h:GoodM PS PP s t) (ho:Good PS PP o) (ht:t+lenN o≤1099511627776):GoodM PS PP (stepS s o) (t+lenN o):=by
 obtain ⟨done,ins,gone⟩:=s
 obtain ⟨h1,h2,h3,h4⟩:=h
 simp only at h1 h2 h3 h4
 obtain ⟨k,n,rs,set,p⟩:=o
 rcases ho with ⟨e1,e2,e3,e4,e5⟩ | ⟨e1,e2,e3,e4,e5⟩ | ⟨e1,e2,e3,e4,e5,e6⟩
 ·simp only at e1 e2 e3 e4 e5
  subst e1;subst e2;subst e3
  simp only [lenN,show ¬ (1:Int)=2 by decide,if_false] at ht ⊢
  simp only [stepS,if_true,retS,if_neg (show ¬ n < 1 by omega)]
  have hd:∀ o ∈ done++gapL ins gone,Good PS PP o:=fun o ho=>by
   rcases List.mem_append.1 ho with h | h
   ·exact h1 o h
   ·exact good_gap h2 o h
  have td:total (done++gapL ins gone)≤t:=by rw [total_app,total_gap];omega
  generalize done++gapL ins gone=d at hd td ⊢
  have new:GoodM PS PP ⟨d++[⟨1,n,[],[],p⟩],[],0⟩ (t+n.toNat):=by
   refine ⟨fun o ho=>?_,by simp,by simp,?_⟩
   ·rcases List.mem_append.1 ho with h | h
    ·exact hd o h
    ·simp at h;subst h;exact .inl ⟨rfl,rfl,rfl,e4,e5⟩
   ·simp only [total_app,total_one,lenN,show ¬ (1:Int)=2 by decide,if_false]
    simp [total];simp [total] at td;omega
  unfold putS
  rcases List.eq_nil_or_concat d with rfl | ⟨i,q,rfl⟩
  ·exact new
  ·simp only [List.concat_eq_append,List.getLast?_append,List.getLast?_singleton,Option.some_or] at *
   by_cases e:q.kind=1∧q.patch=p
   ·rw [if_pos e]
    have hq:=hd q (by simp)
    obtain ⟨kq,nq,rq,sq,pq⟩:=q
    simp only at e
    obtain ⟨rfl,rfl⟩:=e
    rcases hq with ⟨f1,f2,f3,f4,f5⟩ | ⟨f1,_⟩ | ⟨f1,_⟩
    ·simp only at f2 f3 f4
     subst f2;subst f3
     rw [total_app,total_one] at td
     simp only [lenN,show ¬ (1:Int)=2 by decide,if_false] at td
     dsimp only
     rw [wrapI_in (by omega) (by omega),set_end]
     refine ⟨fun o ho=>?_,by simp,by simp,?_⟩
     ·rcases List.mem_append.1 ho with h | h
      ·exact hd o (by simp [h])
      ·simp at h;subst h;exact .inl ⟨rfl,rfl,rfl,by simp only;omega,e5⟩
     ·simp only [total_app,total_one,lenN,show ¬ (1:Int)=2 by decide,if_false]
      simp [total];simp [total] at td;omega
    ·simp at f1
    ·simp at f1
   ·rw [if_neg e];exact new
 ·simp only at e1 e2 e3 e4 e5
  subst e1;subst e2;subst e3;subst e4
  simp only [lenN,show ¬ (3:Int)=2 by decide,if_false] at ht ⊢
  simp only [stepS,show ¬ (3:Int)=1 by decide,show ¬ (3:Int)=2 by decide,if_false,delS]
  have:maxI n 0=n:=by unfold maxI;rw [if_neg (by omega)]
  rw [this,wrapI_in (by omega) (by omega)]
  exact ⟨h1,h2,by simp only;omega,by simp only;omega⟩
 ·simp only at e1 e2 e3 e4 e5 e6
  subst e1;subst e3;subst e4
  simp only [lenN,if_true] at ht ⊢
  simp only [stepS,show ¬ (2:Int)=1 by decide,if_true,if_false,insS,if_neg e5]
  have new:GoodM PS PP ⟨done,ins++[⟨2,0,rs,set,[]⟩],gone⟩ (t+rs.length):=by
   refine ⟨h1,fun o ho=>?_,h3,?_⟩
   ·rcases List.mem_append.1 ho with h | h
    ·exact h2 o h
    ·simp at h;subst h;exact ⟨.inr (.inr ⟨rfl,e2,rfl,rfl,e5,e6⟩),rfl⟩
   ·simp only [total_app,total_one,lenN,if_true];omega
  unfold addI
  rcases List.eq_nil_or_concat ins with rfl | ⟨i,q,rfl⟩
  ·exact new
  ·simp only [List.concat_eq_append,List.getLast?_append,List.getLast?_singleton,Option.some_or] at *
   by_cases e:q.set=set
   ·rw [if_pos e]
    have hq:=h2 q (by simp)
    obtain ⟨kq,nq,rq,sq,pq⟩:=q
    simp only at e
    subst e
    obtain ⟨hq,hk⟩:=hq
    simp only at hk
    subst hk
    rcases hq with ⟨f1,_⟩ | ⟨f1,_⟩ | ⟨f1,f2,f3,f4,f5,f6⟩
    ·simp at f1
    ·simp at f1
    ·simp only at f2 f3 f4 f5 f6
     subst f3;subst f4
     rw [set_end]
     refine ⟨h1,fun o ho=>?_,h3,?_⟩
     ·rcases List.mem_append.1 ho with h | h
      ·exact h2 o (by simp [h])
      ·simp at h;subst h
       exact ⟨.inr (.inr ⟨rfl,fun r hr=>by rcases List.mem_append.1 hr with h | h;exact f2 r h;exact e2 r h,rfl,rfl,by simp [e5],f6⟩),rfl⟩
     ·simp only [total_app,total_one,lenN,if_true,List.length_append] at h4 ⊢;omega
   ·rw [if_neg e];exact new
theorem good_run (x:List Dop) (h:∀ o ∈ x,Good PS PP o) (hb:total x≤1099511627776):GoodM PS PP (runS x) (total x):=by
 induction x using rev_ind with
 | h0=>exact ⟨by simp [runS,MkS.z],by simp [runS,MkS.z],by simp [runS,MkS.z],by simp [runS,MkS.z,total]⟩
 | h1 x o ih=>
  rw [total_app,total_one] at hb ⊢
  have:=good_step (ih (fun o ho=>h o (by simp [ho])) (by omega)) (h o (by simp)) hb
  simpa [runS] using this
theorem good_norm (x:List Dop) (h:∀ o ∈ x,Good PS PP o) (hb:total x≤1099511627776):(∀ o ∈ normB x,Good PS PP o)∧total (normB x)≤total x:=by
 obtain ⟨h1,h2,h3,h4⟩:=good_run x h hb
 have hd:∀ o ∈ (runS x).done++gapL (runS x).ins (runS x).gone,Good PS PP o:=fun o ho=>by
  rcases List.mem_append.1 ho with h | h
  ·exact h1 o h
  ·exact good_gap h2 o h
 have td:total ((runS x).done++gapL (runS x).ins (runS x).gone)≤total x:=by rw [total_app,total_gap];omega
 unfold normB opsS
 generalize (runS x).done++gapL (runS x).ins (runS x).gone=d at hd td
 unfold trimL
 rcases List.eq_nil_or_concat d with rfl | ⟨i,q,rfl⟩
 ·exact ⟨hd,td⟩
 ·simp only [List.concat_eq_append,List.getLast?_append,List.getLast?_singleton,Option.some_or,List.dropLast_concat] at *
  split
  ·rw [total_app] at td
   exact ⟨fun o ho=>hd o (by simp [ho]),by omega⟩
  ·exact ⟨hd,td⟩
end
section
variable {ks:List DKey}
def SetK (ks:List DKey) (l:List Attr):Prop:=RisS l∧l.length≤64∧∀ a ∈ l,ValOK a.val∧FitsK ks a.key a.val
def PatK (ks:List DKey) (p:List Chg):Prop:=RisP p∧p.length≤64∧∀ c ∈ p,(c.gone=true→c.val=AVal.zero)∧(c.gone=false→ValOK c.val∧FitsK ks c.key c.val)∧findK ks c.key≠none
theorem setK_iff {l:List Attr}:maySet ks l=0↔SetK ks l:=by
 unfold maySet
 constructor
 ·intro h
  split at h
  ·cases h
  ·split at h
   ·cases h
   ·rename_i h1 h2
    refine ⟨Classical.byContradiction fun hn=>h1 (.inl fun hr=>hn (ris_pw hr)),Classical.byContradiction fun hn=>h1 (.inr (.inl (by omega))),fun a ha=>⟨Classical.byContradiction fun hn=>h1 (.inr (.inr ⟨a,ha,hn⟩)),Classical.byContradiction fun hn=>h2 ⟨a,ha,hn⟩⟩⟩
 ·rintro ⟨h1,h2,h3⟩
  rw [if_neg,if_neg]
  ·rintro ⟨a,ha,hn⟩;exact hn (h3 a ha).2
  ·rintro (hn | hn | ⟨a,ha,hn⟩)
   ·exact hn (pw_ris h1)
   ·omega
   ·exact hn (h3 a ha).1
theorem patK_iff {l:List Chg}:mayPat ks l=0↔PatK ks l:=by
 unfold mayPat
 constructor
 ·intro h
  split at h
  ·cases h
  ·split at h
   ·cases h
   ·rename_i h1 h2
    refine ⟨Classical.byContradiction fun hn=>h1 (.inl fun hr=>hn (ris_pw hr)),Classical.byContradiction fun hn=>h1 (.inr (.inl (by omega))),fun a ha=>⟨fun hg=>Classical.byContradiction fun hn=>h1 (.inr (.inr ⟨a,ha,.inl ⟨hg,hn⟩⟩)),fun hg=>⟨Classical.byContradiction fun hn=>h1 (.inr (.inr ⟨a,ha,.inr ⟨hg,hn⟩⟩)),Classical.byContradiction fun hn=>h2 ⟨a,ha,.inr ⟨hg,hn⟩⟩⟩,fun hn=>h2 ⟨a,ha,.inl hn⟩⟩⟩
 ·rintro ⟨h1,h2,h3⟩
  rw [if_neg,if_neg]
  ·rintro ⟨a,ha,hn | ⟨hg,hn⟩⟩
   ·exact (h3 a ha).2.2 hn
   ·exact hn ((h3 a ha).2.1 hg).2
  ·rintro (hn | hn | ⟨a,ha,⟨hg,hn⟩ | ⟨hg,hn⟩⟩)
   ·exact hn (pw_ris h1)
   ·omega
   ·exact hn ((h3 a ha).1 hg)
   ·exact hn ((h3 a ha).2.1 hg).1
theorem setK_nil:SetK ks []:=⟨List.Pairwise.nil,by simp,by simp⟩
theorem patK_nil:PatK ks []:=⟨List.Pairwise.nil,by simp,by simp⟩
theorem find_id {id:Int} {k:DKey} (h:findK ks id=some k):id ∈ ks.map DKey.id:=by
 have h1:=List.find?_some h
 simp at h1
 exact List.mem_map.2 ⟨k,List.mem_of_find?_eq_some h,h1⟩
theorem find_id' {id:Int} (h:findK ks id≠none):id ∈ ks.map DKey.id:=by
 cases e:findK ks id with
 | none=>exact (h e).elim
 | some k=>exact find_id e
abbrev GoodK (ks:List DKey) (o:Dop):Prop:=Good (SetK ks) (PatK ks) o
theorem GoodK.form {o:Dop} (h:GoodK ks o) (hl:lenN o≤536870912):FormO o∧SetK ks o.set∧PatK ks o.patch:=by
 rcases h with ⟨h1,h2,h3,h4,h5⟩ | ⟨h1,h2,h3,h4,h5⟩ | ⟨h1,h2,h3,h4,h5,h6⟩
 ·simp only [lenN,h1,show ¬ (1:Int)=2 by decide,if_false] at hl
  exact ⟨.inl ⟨h1,h2,h3,h4,by omega⟩,by rw [h3];exact setK_nil,h5⟩
 ·simp only [lenN,h1,show ¬ (3:Int)=2 by decide,if_false] at hl
  exact ⟨.inr (.inl ⟨h1,h2,h3,h4,h5,by omega⟩),by rw [h3];exact setK_nil,by rw [h4];exact patK_nil⟩
 ·simp only [lenN,h1,if_true] at hl
  exact ⟨.inr (.inr ⟨h1,h2,h3,h4,List.length_pos_iff.2 h5,hl⟩),h6,by rw [h4];exact patK_nil⟩
theorem FormO.good {o:Dop} (h:FormO o) (hs:SetK ks o.set) (hp:PatK ks o.patch):GoodK ks o∧lenN o≤536870912:=by
 rcases h with ⟨h1,h2,h3,h4,h5⟩ | ⟨h1,h2,h3,h4,h5,h6⟩ | ⟨h1,h2,h3,h4,h5,h6⟩
 ·exact ⟨.inl ⟨h1,h2,h3,h4,hp⟩,by simp only [lenN,h1,show ¬ (1:Int)=2 by decide,if_false];omega⟩
 ·exact ⟨.inr (.inl ⟨h1,h2,h3,h4,h5⟩),by simp only [lenN,h1,show ¬ (3:Int)=2 by decide,if_false];omega⟩
 ·exact ⟨.inr (.inr ⟨h1,h2,h3,h4,by intro e;rw [e] at h5;simp at h5,hs⟩),by simp only [lenN,h1,if_true];exact h6⟩
theorem may_good {x:List Dop} (h:mayOps ks x=0):∀ o ∈ x,GoodK ks o∧lenN o≤536870912:=by
 unfold mayOps at h
 split at h
 ·cases h
 ·split at h
  ·cases h
  ·rename_i h1 h2
   intro o ho
   refine FormO.good (Classical.byContradiction fun hn=>h1 (.inl ⟨o,ho,.inl hn⟩)) (setK_iff.1 (Classical.byContradiction fun hn=>h2 ⟨o,ho,.inl hn⟩)) (patK_iff.1 (Classical.byContradiction fun hn=>h2 ⟨o,ho,.inr hn⟩))
theorem sumW_total {f:Dop→Int} (x:List Dop) (h:∀ o ∈ x,0≤f o∧f o≤lenN o) (hb:total x≤1099511627776):0≤sumW f x∧sumW f x≤total x:=by
 induction x using rev_ind with
 | h0=>exact ⟨by simp [sumW],by simp [sumW]⟩
 | h1 x o ih=>
  rw [total_app,total_one] at hb ⊢
  have i1:=ih (fun o ho=>h o (by simp [ho])) (by omega)
  have i2:=h o (by simp)
  have e:sumW f (x++[o])=IntKind.i64.wrap (sumW f x+f o):=by simp [sumW]
  rw [e,wrapI_in (by omega) (by omega)]
  omega
theorem good_may {x:List Dop} (h:∀ o ∈ x,GoodK ks o) (hb:total x≤536870912):mayOps ks x=0:=by
 have hf:∀ o ∈ x,FormO o∧SetK ks o.set∧PatK ks o.patch:=fun o ho=>GoodK.form (h o ho) (by have:=total_mem ho;omega)
 have hn:∀ o ∈ x,0≤o.n:=fun o ho=>by
  rcases h o ho with ⟨_,_,_,h4,_⟩ | ⟨_,_,_,_,h4⟩ | ⟨_,_,h4,_⟩ <;> omega
 have ht:=sumW_total (f:=takesF) x (fun o ho=>by
  have:=hn o ho
  unfold takesF lenN
  split <;> omega) (by omega)
 have hm:=sumW_total (f:=makesF) x (fun o ho=>by
  have:=hn o ho
  unfold makesF lenN lenO
  split
  ·split <;> omega
  ·split <;> omega) (by omega)
 unfold mayOps
 rw [if_neg,if_neg]
 ·rintro ⟨o,ho,hn | hn⟩
  ·exact hn (setK_iff.2 (hf o ho).2.1)
  ·exact hn (patK_iff.2 (hf o ho).2.2)
 ·rintro (⟨o,ho,hn | hn | hn⟩ | hn | hn)
  ·exact hn (hf o ho).1
  ·rw [setK_iff.2 (hf o ho).2.1] at hn;cases hn
  ·rw [patK_iff.2 (hf o ho).2.2] at hn;cases hn
  ·omega
  ·omega
end
end Go.Proofs.YtgmpbihbdbmhoaaGreatDoor

namespace Go.Proofs.YtgmpbihbdbmhoaaGreatDoor
open Go Go.K

def encV (v:AVal):List Int:=uv v.kind.toNat++(if v.kind=1∨v.kind=2 then uv (zigN v.n) else if v.kind=3 then uv v.f.toNat else if v.kind=4 then uv v.s.size++bytesL v.s else [])
def encAt (a:Attr):List Int:=uv a.key.toNat++encV a.val
def encCh (c:Chg):List Int:=uv c.key.toNat++(if c.gone then uv 0 else encV c.val)
def encM {α:Type} (f:α→List Int) (l:List α):List Int:=uv l.length++l.flatMap f
def encX (b:List Int):List Int:=uv b.length++b
def encOp (o:Dop):List Int:=uv o.kind.toNat++(if o.kind=1 then uv o.n.toNat++encM encCh o.patch else if o.kind=2 then encX (textR o.runes)++encM encAt o.set else if o.kind=3 then uv o.n.toNat else [])
def encL (x:List Dop):List Int:=encM encOp x
def RepV (v:AVal):Prop:=((v.kind=1∨v.kind=2)∧(-9223372036854775808≤v.n∧v.n≤9223372036854775807)∧v.f=0∧v.s=⟨#[]⟩)∨(v.kind=3∧v.n=0∧(0≤v.f∧v.f < 18446744073709551616)∧v.s=⟨#[]⟩)∨(v.kind=4∧v.n=0∧v.f=0∧v.s.size < 9223372036854775808)
def Key63 (k:Int):Prop:=0≤k∧k < 9223372036854775808
def RepA (a:Attr):Prop:=Key63 a.key∧RepV a.val
def RepC (c:Chg):Prop:=Key63 c.key∧((c.gone=true∧c.val=AVal.zero)∨(c.gone=false∧RepV c.val))
def RepM {α:Type} (R:α→Prop) (l:List α):Prop:=l.length < 9223372036854775808∧∀ x ∈ l,R x
def RepOm (m:Int) (o:Dop):Prop:=(o.kind=1∧(0≤o.n∧o.n≤m)∧o.runes=[]∧o.set=[]∧RepM RepC o.patch)∨(o.kind=2∧o.n=0∧(∀ r ∈ o.runes,MayR r)∧(textR o.runes).length < 9223372036854775808∧RepM RepA o.set∧o.patch=[])∨(o.kind=3∧(0≤o.n∧o.n≤m)∧o.runes=[]∧o.set=[]∧o.patch=[])
abbrev RepO:Dop→Prop:=RepOm 536870912
def PF {α:Type} (f:α→List Int) (R:α→Prop):Prop:=∀ a b x y,R a→R b→f a++x=f b++y→a=b∧x=y
theorem PF.flat {α:Type} {f:α→List Int} {R:α→Prop} (h:PF f R):∀ {l m:List α} {x y:List Int},(∀ a ∈ l,R a)→(∀ a ∈ m,R a)→l.length=m.length→l.flatMap f++x=m.flatMap f++y→l=m∧x=y:=by
 intro l
 induction l with
 | nil=>
  intro m x y _ _ hl e
  obtain rfl:m=[]:=List.eq_nil_of_length_eq_zero (by simpa using hl.symm)
  exact ⟨rfl,e⟩
 | cons a l ih=>
  intro m x y ha hm hl e
  match m,hl with
  | b :: m,hl=>
   simp only [List.flatMap_cons,List.append_assoc] at e
   obtain ⟨e1,e2⟩:=h _ _ _ _ (ha a (by simp)) (hm b (by simp)) e
   obtain ⟨e3,e4⟩:=ih (fun z hz=>ha z (by simp [hz])) (fun z hz=>hm z (by simp [hz])) (by simpa using hl) e2
   exact ⟨by rw [e1,e3],e4⟩
theorem PF.many {α:Type} {f:α→List Int} {R:α→Prop} (h:PF f R):PF (encM f) (RepM R):=by
 intro l m x y hl hm e
 unfold encM at e
 rw [List.append_assoc,List.append_assoc] at e
 obtain ⟨e1,e⟩:=uv_pre (by have:=hl.1;omega) (by have:=hm.1;omega) e
 exact h.flat hl.2 hm.2 e1 e
theorem pf_bytes {a b x y:List Int} (ha:a.length < 9223372036854775808) (hb:b.length < 9223372036854775808) (e:encX a++x=encX b++y):a=b∧x=y:=by
 unfold encX at e
 rw [List.append_assoc,List.append_assoc] at e
 obtain ⟨e1,e⟩:=uv_pre (by omega) (by omega) e
 exact List.append_inj e e1
theorem textR_inj {l m:List Int} (hl:∀ r ∈ l,MayR r) (hm:∀ r ∈ m,MayR r) (e:textR l=textR m):l=m:=by
 have h1:=read_text hl
 rw [e,read_text hm] at h1
 cases h1;rfl
theorem RepV.kind {v:AVal} (h:RepV v):1≤v.kind∧v.kind≤4:=by
 rcases h with ⟨h,_⟩ | ⟨h,_⟩ | ⟨h,_⟩ <;> omega
theorem pf_val:PF encV RepV:=by
 intro a b x y ha hb e
 have ka:=ha.kind
 have kb:=hb.kind
 unfold encV at e
 rw [List.append_assoc,List.append_assoc] at e
 obtain ⟨e1,e⟩:=uv_pre (by omega) (by omega) e
 have ek:a.kind=b.kind:=by omega
 obtain ⟨k,n,f,s⟩:=a
 obtain ⟨k',n',f',s'⟩:=b
 simp only at ek e ka
 subst ek
 unfold RepV at ha hb
 simp only at ha hb
 rcases ha with ⟨h1,h2,rfl,rfl⟩ | ⟨h1,rfl,h2,rfl⟩ | ⟨h1,rfl,rfl,h2⟩
 ·rcases hb with ⟨_,g2,rfl,rfl⟩ | ⟨g1,_⟩ | ⟨g1,_⟩
  ·rw [if_pos h1,if_pos h1] at e
   obtain ⟨e1,e⟩:=uv_pre (zigN_lt h2.1 h2.2) (zigN_lt g2.1 g2.2) e
   rw [zigN_inj e1]
   exact ⟨rfl,e⟩
  ·omega
  ·omega
 ·rcases hb with ⟨g1,_⟩ | ⟨_,rfl,g2,rfl⟩ | ⟨g1,_⟩
  ·omega
  ·rw [if_neg (by omega),if_pos h1,if_neg (by omega),if_pos h1] at e
   obtain ⟨e1,e2⟩:=uv_pre (by omega) (by omega) e
   have:f=f':=by omega
   exact ⟨by rw [this],e2⟩
  ·omega
 ·rcases hb with ⟨g1,_⟩ | ⟨g1,_⟩ | ⟨_,rfl,rfl,g2⟩
  ·omega
  ·omega
  ·rw [if_neg (by omega),if_neg (by omega),if_pos h1,if_neg (by omega),if_neg (by omega),if_pos h1,List.append_assoc,List.append_assoc] at e
   obtain ⟨e1,e⟩:=uv_pre (by omega) (by omega) e
   obtain ⟨e2,e⟩:=List.append_inj e (by rw [bytesL_len,bytesL_len,e1])
   rw [bytesL_inj e2]
   exact ⟨rfl,e⟩
theorem pf_attr:PF encAt RepA:=by
 intro a b x y ha hb e
 unfold encAt at e
 rw [List.append_assoc,List.append_assoc] at e
 have h1:=ha.1
 have h2:=hb.1
 unfold Key63 at h1 h2
 obtain ⟨e1,e3⟩:=uv_pre (by omega) (by omega) e
 obtain ⟨e2,e4⟩:=pf_val _ _ _ _ ha.2 hb.2 e3
 obtain ⟨k,v⟩:=a
 obtain ⟨k',v'⟩:=b
 simp only at e1 e2 h1 h2
 have:k=k':=by omega
 exact ⟨by rw [this,e2],e4⟩
theorem encV_head {v:AVal} (h:RepV v) {x y:List Int}:uv 0++x≠encV v++y:=by
 intro e
 have:=h.kind
 unfold encV at e
 rw [List.append_assoc] at e
 have:=(uv_pre (by omega) (by omega) e).1
 omega
theorem pf_chg:PF encCh RepC:=by
 intro a b x y ha hb e
 unfold encCh at e
 rw [List.append_assoc,List.append_assoc] at e
 have h1:=ha.1
 have h2:=hb.1
 unfold Key63 at h1 h2
 obtain ⟨e1,e3⟩:=uv_pre (by omega) (by omega) e
 clear e
 obtain ⟨k,g,v⟩:=a
 obtain ⟨k',g',v'⟩:=b
 have ha2:=ha.2
 have hb2:=hb.2
 simp only at e1 e3 h1 h2 ha2 hb2
 have ek:k=k':=by omega
 rcases ha2 with ⟨rfl,rfl⟩ | ⟨rfl,hv⟩
 ·rcases hb2 with ⟨rfl,rfl⟩ | ⟨rfl,hv'⟩
  ·exact ⟨by rw [ek],List.append_cancel_left e3⟩
  ·exact (encV_head hv' e3).elim
 ·rcases hb2 with ⟨rfl,rfl⟩ | ⟨rfl,hv'⟩
  ·exact (encV_head hv e3.symm).elim
  ·obtain ⟨e4,e5⟩:=pf_val _ _ _ _ hv hv' e3
   exact ⟨by rw [ek,e4],e5⟩
theorem RepO.kind {m:Int} {o:Dop} (h:RepOm m o):1≤o.kind∧o.kind≤3:=by
 rcases h with ⟨h,_⟩ | ⟨h,_⟩ | ⟨h,_⟩ <;> omega
theorem pf_op {m:Int} (hm:m≤4294967296):PF encOp (RepOm m):=by
 intro a b x y ha hb e
 have ka:=RepO.kind ha
 have kb:=RepO.kind hb
 unfold encOp at e
 rw [List.append_assoc,List.append_assoc] at e
 obtain ⟨e1,e⟩:=uv_pre (by omega) (by omega) e
 have ek:a.kind=b.kind:=by omega
 obtain ⟨k,n,rs,st,pt⟩:=a
 obtain ⟨k',n',rs',st',pt'⟩:=b
 simp only at ek e ka
 subst ek
 unfold RepOm at ha hb
 simp only at ha hb
 rcases ha with ⟨h1,h2,rfl,rfl,h3⟩ | ⟨h1,rfl,h2,h3,h4,rfl⟩ | ⟨h1,h2,rfl,rfl,rfl⟩
 ·rcases hb with ⟨_,g2,rfl,rfl,g3⟩ | ⟨g1,_⟩ | ⟨g1,_⟩
  ·rw [if_pos h1,if_pos h1,List.append_assoc,List.append_assoc] at e
   obtain ⟨e2,e3⟩:=uv_pre (by omega) (by omega) e
   obtain ⟨e4,e5⟩:=pf_chg.many _ _ _ _ h3 g3 e3
   have:n=n':=by omega
   exact ⟨by rw [this,e4],e5⟩
  ·omega
  ·omega
 ·rcases hb with ⟨g1,_⟩ | ⟨_,rfl,g2,g3,g4,rfl⟩ | ⟨g1,_⟩
  ·omega
  ·rw [if_neg (by omega),if_pos h1,if_neg (by omega),if_pos h1,List.append_assoc,List.append_assoc] at e
   obtain ⟨e2,e3⟩:=pf_bytes h3 g3 e
   obtain ⟨e4,e5⟩:=pf_attr.many _ _ _ _ h4 g4 e3
   exact ⟨by rw [textR_inj h2 g2 e2,e4],e5⟩
  ·omega
 ·rcases hb with ⟨g1,_⟩ | ⟨g1,_⟩ | ⟨_,g2,rfl,rfl,rfl⟩
  ·omega
  ·omega
  ·rw [if_neg (by omega),if_neg (by omega),if_pos h1,if_neg (by omega),if_neg (by omega),if_pos h1] at e
   obtain ⟨e2,e3⟩:=uv_pre (by omega) (by omega) e
   have:n=n':=by omega
   exact ⟨by rw [this],e3⟩
theorem pf_ops:PF encL (RepM RepO):=(pf_op (by decide)).many
theorem encL_inj {x y:List Dop} (hx:RepM RepO x) (hy:RepM RepO y) (h:encL x=encL y):x=y:=(pf_ops x y [] [] hx hy (by rw [h])).1
theorem uv_pos (n:Nat):1≤(uv n).length:=(uvB_len 9 n).1
theorem encOp_pos (o:Dop):1≤(encOp o).length:=by unfold encOp;have:=uv_pos o.kind.toNat;rw [List.length_append];omega
theorem encAt_pos (a:Attr):1≤(encAt a).length:=by unfold encAt;have:=uv_pos a.key.toNat;rw [List.length_append];omega
theorem encCh_pos (c:Chg):1≤(encCh c).length:=by unfold encCh;have:=uv_pos c.key.toNat;rw [List.length_append];omega
theorem flat_len_le {α:Type} {f:α→List Int} (h:∀ a,1≤(f a).length):∀ l:List α,l.length≤(l.flatMap f).length:=by
 intro l
 induction l with
 | nil=>simp
 | cons a l ih=>have:=h a;simp only [List.flatMap_cons,List.length_append,List.length_cons];omega
end Go.Proofs.YtgmpbihbdbmhoaaGreatDoor

namespace Go.Proofs.YtgmpbihbdbmhoaaGreatDoor
open Go Go.K
theorem order_self (n:Nat):(FloatKind.f64.format.order n n != some .eq)=decide (NoNum (n:Int)):=by
 have h1:Ieee.double.signWeight=9223372036854775808:=by decide
 have h2:Ieee.double.infRung=9218868437227405312:=by decide
 have h3:Ieee.double.binade=4503599627370496:=by decide
 have hN:NoNum (n:Int)↔9218868437227405312 < n % 9223372036854775808:=by
  unfold NoNum
  rw [Int.tmod_eq_emod_of_nonneg (by omega)]
  omega
 have hs:∀ x:Int,compare x x=.eq:=fun x=>by simp [compare,compareOfLessAndEq]
 have hn:∀ x:Nat,compare x x=.eq:=fun x=>by simp [compare,compareOfLessAndEq]
 rw [show decide (NoNum (n:Int))=decide (9218868437227405312 < n % 9223372036854775808) from decide_eq_decide.2 hN]
 show ((Ieee.double.read n).order (Ieee.double.read n) != some .eq)=_
 unfold Ieee.Format.read
 simp only [h1,h2,h3]
 split
 ·rename_i hh
  have:¬ 9218868437227405312 < n % 9223372036854775808:=by omega
  simp only [Ieee.Datum.order,hs,decide_eq_false this];rfl
 ·split
  ·have:¬ 9218868437227405312 < n % 9223372036854775808:=by omega
   simp only [Ieee.Datum.order,hs,decide_eq_false this];rfl
  ·split
   ·have:¬ 9218868437227405312 < n % 9223372036854775808:=by omega
    simp only [Ieee.Datum.order,hn,decide_eq_false this];rfl
   ·have:9218868437227405312 < n % 9223372036854775808:=by omega
    simp only [Ieee.Datum.order,decide_eq_true this];rfl
def U64 (x:Int):Prop:=0≤x∧x < 18446744073709551616
def orN (a b:Int):Int:=((a.toNat ||| b.toNat:Nat):Int)
theorem wrapu64 {x:Int} (h:U64 x):IntKind.u64.wrap x=x:=by
 have e1:(2:Int) ^ IntKind.u64.bits=18446744073709551616:=by decide
 unfold U64 at h
 simp only [IntKind.wrap,e1,IntKind.signed,Bool.false_and]
 rw [if_neg (by decide)]
 omega
theorem bv_or {a b:Int} (ha:U64 a) (hb:U64 b):((BitVec.ofInt 64 a ||| BitVec.ofInt 64 b).toNat:Int)=orN a b:=by
 unfold U64 at ha hb
 unfold orN
 rw [BitVec.toNat_or,BitVec.toNat_ofInt,BitVec.toNat_ofInt]
 have e:((2 ^ 64:Nat):Int)=18446744073709551616:=by decide
 rw [e,Int.emod_eq_of_lt ha.1 ha.2,Int.emod_eq_of_lt hb.1 hb.2]
theorem bv_and {a b:Int} (ha:U64 a) (hb:U64 b):((BitVec.ofInt 64 a &&& BitVec.ofInt 64 b).toNat:Int)=((a.toNat &&& b.toNat:Nat):Int):=by
 unfold U64 at ha hb
 rw [BitVec.toNat_and,BitVec.toNat_ofInt,BitVec.toNat_ofInt]
 have e:((2 ^ 64:Nat):Int)=18446744073709551616:=by decide
 rw [e,Int.emod_eq_of_lt ha.1 ha.2,Int.emod_eq_of_lt hb.1 hb.2]
theorem orN_U {a b:Int} (ha:U64 a) (hb:U64 b):U64 (orN a b):=by
 unfold U64 at *
 unfold orN
 have:a.toNat ||| b.toNat < 2 ^ 64:=Nat.or_lt_two_pow (by omega) (by omega)
 omega
def HiB (x:Int) (j:Nat):Prop:=x.toNat.testBit (8 * j+7)=true
theorem HiB.l {a b:Int} {j:Nat} (h:HiB a j):HiB (orN a b) j:=by
 unfold HiB orN at *
 rw [Int.toNat_natCast,Nat.testBit_or,h,Bool.true_or]
theorem HiB.r {a b:Int} {j:Nat} (h:HiB b j):HiB (orN a b) j:=by
 unfold HiB orN at *
 rw [Int.toNat_natCast,Nat.testBit_or,h,Bool.or_true]
theorem hib_byte {x:Int} {j:Nat} (hj:j < 8) (h0:128≤x) (h1:x < 256):U64 (x * 2 ^ (8 * j))∧HiB (x * 2 ^ (8 * j)) j:=by
 obtain ⟨n,rfl⟩:∃ n:Nat,x=n:=⟨x.toNat,by omega⟩
 have e:((n:Int) * 2 ^ (8 * j))=((n * 2 ^ (8 * j):Nat):Int):=by rw [Int.natCast_mul,Int.natCast_pow];rfl
 have hp:n * 2 ^ (8 * j) < 2 ^ (8+8 * j):=by
  rw [Nat.pow_add]
  exact Nat.mul_lt_mul_of_pos_right (by omega) (Nat.pow_pos (by decide))
 have hq:2 ^ (8+8 * j)≤2 ^ 64:=Nat.pow_le_pow_right (by decide) (by omega)
 refine ⟨?_,?_⟩
 ·rw [e];unfold U64;omega
 ·rw [e];unfold HiB
  rw [Int.toNat_natCast,Nat.testBit_mul_two_pow]
  simp only [show 8 * j≤8 * j+7 by omega,decide_true,Bool.true_and,show 8 * j+7 - 8 * j=7 by omega]
  rw [Nat.testBit_eq_decide_div_mod_eq]
  rw [decide_eq_true_eq]
  omega
theorem hib_u {x:Int} {j:Nat} (hj:j < 8) (h0:0≤x) (h1:x < 256):U64 (x * 2 ^ (8 * j)):=by
 obtain ⟨n,rfl⟩:∃ n:Nat,x=n:=⟨x.toNat,by omega⟩
 have e:((n:Int) * 2 ^ (8 * j))=((n * 2 ^ (8 * j):Nat):Int):=by rw [Int.natCast_mul,Int.natCast_pow];rfl
 have hp:n * 2 ^ (8 * j) < 2 ^ (8+8 * j):=by
  rw [Nat.pow_add]
  exact Nat.mul_lt_mul_of_pos_right (by omega) (Nat.pow_pos (by decide))
 have hq:2 ^ (8+8 * j)≤2 ^ 64:=Nat.pow_le_pow_right (by decide) (by omega)
 rw [e];unfold U64;omega
theorem hib_none {x:Int} (h:x.toNat &&& 9259542123273814144=0) {j:Nat} (hj:j < 8):¬ HiB x j:=by
 intro hx
 unfold HiB at hx
 have:(x.toNat &&& 9259542123273814144).testBit (8 * j+7)=true:=by
  rw [Nat.testBit_and,hx,Bool.true_and]
  rcases (show j=0∨j=1∨j=2∨j=3∨j=4∨j=5∨j=6∨j=7 by omega) with rfl | rfl | rfl | rfl | rfl | rfl | rfl | rfl <;> decide
 rw [h,Nat.zero_testBit] at this
 cases this
end Go.Proofs.YtgmpbihbdbmhoaaGreatDoor

namespace Go.Proofs.YtgmpbihbdbmhoaaGreatDoor
open Go Go.K
def S131 (v0 v1 v2:Value) (K:Cont) (w:World):Prop:=
 boxnK 59 v2 (fun t5 w1=>
 callK Tryz.prog 132 [v0,v1] (fun t12 w2=>
 extK 0 t12 fun t13=>
 extK 1 t12 fun t14=>
 newK 43 [(.int .i64 0),(.bool false),(.int .u8 0),(.bool false),(.bool false),(.int .i64 0)] (fun t7 w3=>
 stnK 6 t7 t13 (fun w4=>
 condK t14
 (faK 2 t7 fun t17=>
 ld1K t17 (fun t18 w5=>
 faK 0 t5 fun t19=>
 ld1K t19 (fun t20 w6=>
 eqK .u8 t18 t20 fun t21=>
 condK t21
 (ldnK 4 t5 (fun t24 w7=>
 callK Tryz.prog 130 [t24] (fun t25 w8=>
 K t25 w8) w7) w6)
 (K (.bool false) w6)) w5) w4)
 (K (.bool false) w4)) w3) w2) w1) w
theorem S131_eq (v0 v1 v2:Value) (K:Cont) (w:World):S131 v0 v1 v2 K w=D Tryz.prog okf 27 (bodyOf Tryz.f131) (.node [] [] .nil (.node [] [] .nil (.node [] [] .nil .nil))) (retK Tryz.prog [.tmp 6] K) (nth [v0,v1,v2]) w:=by kernel_rfl
theorem S131_ok {v0 v1 v2:Value} {K:Cont} {w:World} (h:S131 v0 v1 v2 K w):callK Tryz.prog 131 [v0,v1,v2] K w:=
 callK_of (P:=Tryz.prog) (ok:=okf) (n:=27) (fn:=Tryz.f131) (c:=bodyOf Tryz.f131) (rs:=[.tmp 6]) (an:=(.node [] [] .nil (.node [] [] .nil (.node [] [] .nil .nil)))) good mixed Tryz.func131 (by kernel_rfl) (by kernel_rfl) (by kernel_rfl) (by kernel_rfl) (Eq.mp (S131_eq v0 v1 v2 K w) h)

def S130 (v0:Value) (K:Cont) (w:World):Prop:=
 boxnK 59 v0 (fun t1 w1=>
 faK 0 t1 fun t5=>
 ld1K t5 (fun t6 w2=>
 eqK .u8 t6 (.int .u8 1) fun t8=>
 condK t8
 (DrawK w2 (fun C=>
 qldnK C 4 t1 fun t9=>
 faK 1 t1 fun t10=>
 qld1K C t10 fun t11=>
 eqK .i64 t11 (.int .i64 1) fun t12=>
 qcallK Tryz.prog C 149 [t12] fun t13=>
 qrunK Tryz.prog C (binS .eql 59 (.tmp 9) (.tmp 13) t9 t13) fun t14=>
 ∀ w3:World,C w3→
 K t14 w3))
 (eqK .u8 t6 (.int .u8 2) fun t16=>
 condK t16
 (DrawK w2 (fun C_1=>
 qldnK C_1 4 t1 fun t17=>
 faK 1 t1 fun t18=>
 qld1K C_1 t18 fun t19=>
 qcallK Tryz.prog C_1 150 [t19] fun t20=>
 qrunK Tryz.prog C_1 (binS .eql 59 (.tmp 17) (.tmp 20) t17 t20) fun t21=>
 ∀ w4:World,C_1 w4→
 K t21 w4))
 (eqK .u8 t6 (.int .u8 3) fun t23=>
 condK t23
 (DrawK w2 (fun C_2=>
 qldnK C_2 4 t1 fun t24=>
 faK 2 t1 fun t25=>
 qld1K C_2 t25 fun t26=>
 qextK Tryz.prog C_2 152 [t26] fun t27=>
 qcallK Tryz.prog C_2 151 [t27] fun t28=>
 qrunK Tryz.prog C_2 (binS .eql 59 (.tmp 24) (.tmp 28) t24 t28) fun t29=>
 ∀ w5:World,C_2 w5→
 K t29 w5))
 (eqK .u8 t6 (.int .u8 4) fun t31=>
 condK t31
 (faK 3 t1 fun t33=>
 ld1K t33 (fun t34 w6=>
 callK Tryz.prog 153 [t34] (fun t35 w7=>
 extK 0 t35 fun t36=>
 extK 1 t35 fun t37=>
 newK 59 [(.int .u8 0),(.int .i64 0),(.int .u64 0),(.string (ByteArray.mk #[]))] (fun t3 w8=>
 stnK 4 t3 t36 (fun w9=>
 eqK .i64 t37 (.int .i64 0) fun t39=>
 condK t39
 (ldnK 4 t1 (fun t41 w10=>
 ldnK 4 t3 (fun t42 w11=>
 runK Tryz.prog (binS .eql 59 (.tmp 41) (.tmp 42) t41 t42) (fun t43 w12=>
 K t43 w12) w11) w10) w9)
 (K (.bool false) w9)) w8) w7) w6) w2)
 (K (.bool false) w2))))) w1) w
theorem S130_eq (v0:Value) (K:Cont) (w:World):S130 v0 K w=D Tryz.prog okf 45 (bodyOf Tryz.f130) (.node [] [] .nil (.node [] [] (.node [] [] .nil (.node [] [] .nil (.node [] [] (.node [] [] .draw .nil) (.node [] [] .nil (.node [] [] (.node [] [] .draw .nil) (.node [] [] .nil (.node [] [] (.node [] [] .draw .nil) (.node [] [] .nil (.node [] [] (.node [] [] .nil (.node [] [] .nil .nil)) .nil))))))))) (.node [] [] .nil .nil))) (retK Tryz.prog [.tmp 2] K) (nth [v0]) w:=by kernel_rfl
theorem S130_ok {v0:Value} {K:Cont} {w:World} (h:S130 v0 K w):callK Tryz.prog 130 [v0] K w:=
 callK_of (P:=Tryz.prog) (ok:=okf) (n:=45) (fn:=Tryz.f130) (c:=bodyOf Tryz.f130) (rs:=[.tmp 2]) (an:=(.node [] [] .nil (.node [] [] (.node [] [] .nil (.node [] [] .nil (.node [] [] (.node [] [] .draw .nil) (.node [] [] .nil (.node [] [] (.node [] [] .draw .nil) (.node [] [] .nil (.node [] [] (.node [] [] .draw .nil) (.node [] [] .nil (.node [] [] (.node [] [] .nil (.node [] [] .nil .nil)) .nil))))))))) (.node [] [] .nil .nil)))) good mixed Tryz.func130 (by kernel_rfl) (by kernel_rfl) (by kernel_rfl) (by kernel_rfl) (Eq.mp (S130_eq v0 K w) h)

def S149 (v0:Value) (K:Cont) (w:World):Prop:=
 newK 59 [(.int .u8 0),(.int .i64 0),(.int .u64 0),(.string (ByteArray.mk #[]))] (fun t2 w1=>
 buildK [(0,1),(1,1),(2,1),(3,1)] [(.int .u8 0),(.int .i64 0),(.int .u64 0),(.string (ByteArray.mk #[]))] [(0,(.int .u8 1))] fun t4=>
 newK 59 [(.int .u8 0),(.int .i64 0),(.int .u64 0),(.string (ByteArray.mk #[]))] (fun t3 w2=>
 stnK 4 t3 t4 (fun w3=>
 condK v0
 (faK 1 t3 fun t6=>
 st1K t6 (.int .i64 1) (fun w4=>
 ldnK 4 t3 (fun t7 w5=>
 stnK 4 t2 t7 (fun w6=>
 ldnK 4 t2 (fun r0 w7=>
 K r0 w7) w6) w5) w4) w3)
 (ldnK 4 t3 (fun t7_1 w8=>
 stnK 4 t2 t7_1 (fun w9=>
 ldnK 4 t2 (fun r0_1 w10=>
 K r0_1 w10) w9) w8) w3)) w2) w1) w
theorem S149_eq (v0:Value) (K:Cont) (w:World):S149 v0 K w=D Tryz.prog okf 8 (bodyOf Tryz.f149) (.node [] [] .nil (.node [] [] .nil (.node [] [] (.node [] [] .nil (.node [] [] .nil .nil)) (.node [] [] .nil .nil)))) (retK Tryz.prog [.cell 2 59] K) (nth [v0]) w:=by kernel_rfl
theorem S149_ok {v0:Value} {K:Cont} {w:World} (h:S149 v0 K w):callK Tryz.prog 149 [v0] K w:=
 callK_of (P:=Tryz.prog) (ok:=okf) (n:=8) (fn:=Tryz.f149) (c:=bodyOf Tryz.f149) (rs:=[.cell 2 59]) (an:=(.node [] [] .nil (.node [] [] .nil (.node [] [] (.node [] [] .nil (.node [] [] .nil .nil)) (.node [] [] .nil .nil))))) good mixed Tryz.func149 (by kernel_rfl) (by kernel_rfl) (by kernel_rfl) (by kernel_rfl) (Eq.mp (S149_eq v0 K w) h)

def S150 (v0:Value) (K:Cont) (w:World):Prop:=
 newK 59 [(.int .u8 0),(.int .i64 0),(.int .u64 0),(.string (ByteArray.mk #[]))] (fun t2 w1=>
 buildK [(0,1),(1,1),(2,1),(3,1)] [(.int .u8 0),(.int .i64 0),(.int .u64 0),(.string (ByteArray.mk #[]))] [(0,(.int .u8 2)),(1,v0)] fun t4=>
 stnK 4 t2 t4 (fun w2=>
 ldnK 4 t2 (fun r0 w3=>
 K r0 w3) w2) w1) w
theorem S150_eq (v0:Value) (K:Cont) (w:World):S150 v0 K w=D Tryz.prog okf 5 (bodyOf Tryz.f150) (.node [] [] .nil (.node [] [] .nil .nil)) (retK Tryz.prog [.cell 2 59] K) (nth [v0]) w:=by kernel_rfl
theorem S150_ok {v0:Value} {K:Cont} {w:World} (h:S150 v0 K w):callK Tryz.prog 150 [v0] K w:=
 callK_of (P:=Tryz.prog) (ok:=okf) (n:=5) (fn:=Tryz.f150) (c:=bodyOf Tryz.f150) (rs:=[.cell 2 59]) (an:=(.node [] [] .nil (.node [] [] .nil .nil))) good mixed Tryz.func150 (by kernel_rfl) (by kernel_rfl) (by kernel_rfl) (by kernel_rfl) (Eq.mp (S150_eq v0 K w) h)

def S151 (v0:Value) (K:Cont) (w:World):Prop:=
 newK 59 [(.int .u8 0),(.int .i64 0),(.int .u64 0),(.string (ByteArray.mk #[]))] (fun t2 w1=>
 callK Tryz.prog 157 [v0] (fun t4 w2=>
 condK t4
 (buildK [(0,1),(1,1),(2,1),(3,1)] [(.int .u8 0),(.int .i64 0),(.int .u64 0),(.string (ByteArray.mk #[]))] [(0,(.int .u8 3)),(2,(.int .u64 9221120237041090560))] fun t5=>
 stnK 4 t2 t5 (fun w3=>
 ldnK 4 t2 (fun r0 w4=>
 K r0 w4) w3) w2)
 (extcK Tryz.prog 158 [v0] (fun t7 w5=>
 buildK [(0,1),(1,1),(2,1),(3,1)] [(.int .u8 0),(.int .i64 0),(.int .u64 0),(.string (ByteArray.mk #[]))] [(0,(.int .u8 3)),(2,t7)] fun t8=>
 stnK 4 t2 t8 (fun w6=>
 ldnK 4 t2 (fun r0_1 w7=>
 K r0_1 w7) w6) w5) w2)) w1) w
theorem S151_eq (v0:Value) (K:Cont) (w:World):S151 v0 K w=D Tryz.prog okf 9 (bodyOf Tryz.f151) (.node [] [] .nil (.node [] [] (.node [] [] .nil (.node [] [] (.node [] [] .nil .nil) .nil)) (.node [] [] .nil .nil))) (retK Tryz.prog [.cell 2 59] K) (nth [v0]) w:=by kernel_rfl
theorem S151_ok {v0:Value} {K:Cont} {w:World} (h:S151 v0 K w):callK Tryz.prog 151 [v0] K w:=
 callK_of (P:=Tryz.prog) (ok:=okf) (n:=9) (fn:=Tryz.f151) (c:=bodyOf Tryz.f151) (rs:=[.cell 2 59]) (an:=(.node [] [] .nil (.node [] [] (.node [] [] .nil (.node [] [] (.node [] [] .nil .nil) .nil)) (.node [] [] .nil .nil)))) good mixed Tryz.func151 (by kernel_rfl) (by kernel_rfl) (by kernel_rfl) (by kernel_rfl) (Eq.mp (S151_eq v0 K w) h)

def S153 (v0:Value) (K:Cont) (w:World):Prop:=
 newK 59 [(.int .u8 0),(.int .i64 0),(.int .u64 0),(.string (ByteArray.mk #[]))] (fun t2 w1=>
 slenK v0 fun t7=>
 gtK .i64 t7 (.int .i64 64) fun t8=>
 condK t8
 (buildK [(0,1),(1,1),(2,1),(3,1)] [(.int .u8 0),(.int .i64 0),(.int .u64 0),(.string (ByteArray.mk #[]))] [] fun t9=>
 stnK 4 t2 t9 (fun w2=>
 ldnK 4 t2 (fun r0 w3=>
 K (.tuple #[r0,(.int .i64 3)]) w3) w2) w1)
 (runK Tryz.prog (convert 9 31 v0) (fun t12 w4=>
 callK Tryz.prog 68 [t12] (fun t13 w5=>
 extK 0 t13 fun _t14=>
 extK 1 t13 fun t15=>
 neK .i64 t15 (.int .i64 0) fun t17=>
 condK t17
 (buildK [(0,1),(1,1),(2,1),(3,1)] [(.int .u8 0),(.int .i64 0),(.int .u64 0),(.string (ByteArray.mk #[]))] [] fun t18=>
 stnK 4 t2 t18 (fun w6=>
 ldnK 4 t2 (fun r0_1 w7=>
 K (.tuple #[r0_1,t15]) w7) w6) w5)
 (buildK [(0,1),(1,1),(2,1),(3,1)] [(.int .u8 0),(.int .i64 0),(.int .u64 0),(.string (ByteArray.mk #[]))] [(0,(.int .u8 4)),(3,v0)] fun t21=>
 stnK 4 t2 t21 (fun w8=>
 ldnK 4 t2 (fun r0_2 w9=>
 K (.tuple #[r0_2,(.int .i64 0)]) w9) w8) w5)) w4) w1)) w
theorem S153_eq (v0:Value) (K:Cont) (w:World):S153 v0 K w=D Tryz.prog okf 22 (bodyOf Tryz.f153) (.node [] [] .nil (.node [] [] (.node [] [] .nil (.node [] [] (.node [] [] .nil .nil) .nil)) (.node [] [] (.node [] [] .nil (.node [] [] .nil (.node [] [] (.node [] [] .nil .nil) .nil))) (.node [] [] .nil .nil)))) (retK Tryz.prog [.cell 2 59,.tmp 3] K) (nth [v0]) w:=by kernel_rfl
theorem S153_ok {v0:Value} {K:Cont} {w:World} (h:S153 v0 K w):callK Tryz.prog 153 [v0] K w:=
 callK_of (P:=Tryz.prog) (ok:=okf) (n:=22) (fn:=Tryz.f153) (c:=bodyOf Tryz.f153) (rs:=[.cell 2 59,.tmp 3]) (an:=(.node [] [] .nil (.node [] [] (.node [] [] .nil (.node [] [] (.node [] [] .nil .nil) .nil)) (.node [] [] (.node [] [] .nil (.node [] [] .nil (.node [] [] (.node [] [] .nil .nil) .nil))) (.node [] [] .nil .nil))))) good mixed Tryz.func153 (by kernel_rfl) (by kernel_rfl) (by kernel_rfl) (by kernel_rfl) (Eq.mp (S153_eq v0 K w) h)

def S157 (v0:Value) (K:Cont) (w:World):Prop:=
 runK Tryz.prog (binS .neq 189 (.tmp 3) (.tmp 4) v0 v0) (fun t5 w1=>
 K t5 w1) w
theorem S157_eq (v0:Value) (K:Cont) (w:World):S157 v0 K w=D Tryz.prog okf 6 (bodyOf Tryz.f157) (.node [] [] .nil (.node [] [] .nil .nil)) (retK Tryz.prog [.tmp 2] K) (nth [v0]) w:=by kernel_rfl
theorem S157_ok {v0:Value} {K:Cont} {w:World} (h:S157 v0 K w):callK Tryz.prog 157 [v0] K w:=
 callK_of (P:=Tryz.prog) (ok:=okf) (n:=6) (fn:=Tryz.f157) (c:=bodyOf Tryz.f157) (rs:=[.tmp 2]) (an:=(.node [] [] .nil (.node [] [] .nil .nil))) good mixed Tryz.func157 (by kernel_rfl) (by kernel_rfl) (by kernel_rfl) (by kernel_rfl) (Eq.mp (S157_eq v0 K w) h)

def S68 (v0:Value) (K:Cont) (w:World):Prop:=
 callK Tryz.prog 118 [v0] (fun t8 w1=>
 notK t8 fun t9=>
 condK t9
 (K (.tuple #[(.slice none 0 0),(.int .i64 3)]) w1)
 (runK Tryz.prog (convert 31 9 v0) (fun t11 w2=>
 runK Tryz.prog (Instr.range 9 t11) (fun t12 w3=>
 LoopK [(.slice none 0 0)] (fun vs again w4=>∀ _h:Env,
 runK Tryz.prog (Instr.next t12 true 0) (fun t13 w5=>
 extK 0 t13 fun t14=>
 condK t14
 (extK 2 t13 fun t15=>
 rowK 21 1 1 [(.int .i32 0)] [(0,t15)] (fun t18 w6=>
 runK Tryz.prog (Builtin.append_ #[52,52] 52 [(nth vs 0),t18].toArray) (fun t19 w7=>
 again [t19] w7) w6) w5)
 (K (.tuple #[(nth vs 0),(.int .i64 0)]) w5)) w4) w3) w2) w1)) w
theorem S68_eq (v0:Value) (K:Cont) (w:World):S68 v0 K w=D Tryz.prog okf 21 (bodyOf Tryz.f68) (.node [] [] .nil (.node [] [] (.node [] [] .nil (.node [] [] (.node [] [] .nil .nil) .nil)) (.node [] [] .nil (.node [] [] (.node [] [] .nil (.node [4] [(4,4),(6,6),(13,19)] (.node [] [] .nil (.node [] [] (.node [] [] .nil .nil) (.node [] [] .nil .nil))) .nil)) (.node [] [] .nil .nil))))) (retK Tryz.prog [.tmp 2,.tmp 3] K) (nth [v0]) w:=by kernel_rfl
theorem S68_ok {v0:Value} {K:Cont} {w:World} (h:S68 v0 K w):callK Tryz.prog 68 [v0] K w:=
 callK_of (P:=Tryz.prog) (ok:=okf) (n:=21) (fn:=Tryz.f68) (c:=bodyOf Tryz.f68) (rs:=[.tmp 2,.tmp 3]) (an:=(.node [] [] .nil (.node [] [] (.node [] [] .nil (.node [] [] (.node [] [] .nil .nil) .nil)) (.node [] [] .nil (.node [] [] (.node [] [] .nil (.node [4] [(4,4),(6,6),(13,19)] (.node [] [] .nil (.node [] [] (.node [] [] .nil .nil) (.node [] [] .nil .nil))) .nil)) (.node [] [] .nil .nil)))))) good mixed Tryz.func68 (by kernel_rfl) (by kernel_rfl) (by kernel_rfl) (by kernel_rfl) (Eq.mp (S68_eq v0 K w) h)

def S118 (v0:Value) (K:Cont) (w:World):Prop:=
 lenK v0 fun t9=>
 lenK v0 fun t11=>
 runK Tryz.prog (Instr.sliceAt 31 v0 none (some t9) (some t11)) (fun t12 w1=>
 LoopK [t12] (fun vs again w2=>∀ _h:Env,
 lenK (nth vs 0) fun t14=>
 gtK .i64 t14 (.int .i64 0) fun t15=>
 condK t15
 (ixK 1 (nth vs 0) (.int .i64 0) fun t17=>
 ld1K t17 (fun t18 w3=>
 ltK .u8 t18 (.int .u8 128) fun t20=>
 condK t20
 (runK Tryz.prog (Instr.sliceAt 31 (nth vs 0) (some (.int .i64 1)) none none) (fun t22 w4=>
 JoinK (fun vs_1 w5=>∀ _h_1:Env,
 condK (nth vs_1 0)
 (runK Tryz.prog (Instr.sliceAt 31 t22 (some (.int .i64 8)) none none) (fun t33 w6=>
 JoinK (fun vs_2 w7=>∀ _h_2:Env,
 condK (nth vs_2 0)
 (runK Tryz.prog (Instr.sliceAt 31 t33 (some (.int .i64 16)) none none) (fun t48 w8=>
 LoopK [t48] (fun vs_3 again_1 w9=>∀ _h_3:Env,
 DrawK w9 (fun C=>
 lenK (nth vs_3 0) fun t50=>
 gtK .i64 t50 (.int .i64 32) fun t51=>
 condK t51
 (qcallK Tryz.prog C 145 [(nth vs_3 0)] fun t54=>
 qrunK Tryz.prog C (Instr.sliceAt 31 (nth vs_3 0) (some (.int .i64 8)) none none) fun t56=>
 qcallK Tryz.prog C 145 [t56] fun t57=>
 qrunK Tryz.prog C (binS .or 12 (.tmp 54) (.tmp 57) t54 t57) fun t58=>
 qrunK Tryz.prog C (Instr.sliceAt 31 (nth vs_3 0) (some (.int .i64 16)) none none) fun t60=>
 qcallK Tryz.prog C 145 [t60] fun t61=>
 qrunK Tryz.prog C (Instr.sliceAt 31 (nth vs_3 0) (some (.int .i64 24)) none none) fun t63=>
 qcallK Tryz.prog C 145 [t63] fun t64=>
 qrunK Tryz.prog C (binS .or 12 (.tmp 61) (.tmp 64) t61 t64) fun t65=>
 qrunK Tryz.prog C (binS .or 12 (.tmp 58) (.tmp 65) t58 t65) fun t66=>
 qrunK Tryz.prog C (binS .and 12 (.tmp 66) (.const (.int .u64 9259542123273814144)) t66 (.int .u64 9259542123273814144)) fun t67=>
 eqK .u64 t67 (.int .u64 0) fun t68=>
 ∀ w10:World,C w10→
 condK t68
 (runK Tryz.prog (Instr.sliceAt 31 (nth vs_3 0) (some (.int .i64 32)) none none) (fun t71 w11=>
 again_1 [t71] w11) w10)
 (again [(nth vs_3 0)] w10))
 (∀ w12:World,C w12→
 again [(nth vs_3 0)] w12))) w8) w7)
 (again [t33] w7)) (fun J_1=>
 DrawK w6 (fun C_1=>
 lenK t33 fun t35=>
 gtK .i64 t35 (.int .i64 16) fun t36=>
 condK t36
 (qcallK Tryz.prog C_1 145 [t33] fun t39=>
 qrunK Tryz.prog C_1 (Instr.sliceAt 31 t33 (some (.int .i64 8)) none none) fun t41=>
 qcallK Tryz.prog C_1 145 [t41] fun t42=>
 qrunK Tryz.prog C_1 (binS .or 12 (.tmp 39) (.tmp 42) t39 t42) fun t43=>
 qrunK Tryz.prog C_1 (binS .and 12 (.tmp 43) (.const (.int .u64 9259542123273814144)) t43 (.int .u64 9259542123273814144)) fun t44=>
 eqK .u64 t44 (.int .u64 0) fun t45=>
 ∀ w14:World,C_1 w14→
 J_1 [t45] w14)
 (∀ w15:World,C_1 w15→
 J_1 [(.bool false)] w15)))) w5)
 (again [t22] w5)) (fun J=>
 lenK t22 fun t24=>
 gtK .i64 t24 (.int .i64 8) fun t25=>
 condK t25
 (callK Tryz.prog 145 [t22] (fun t28 w16=>
 runK Tryz.prog (binS .and 12 (.tmp 28) (.const (.int .u64 9259542123273814144)) t28 (.int .u64 9259542123273814144)) (fun t29 w17=>
 eqK .u64 t29 (.int .u64 0) fun t30=>
 J [t30] w17) w16) w4)
 (J [(.bool false)] w4))) w3)
 (runK Tryz.prog (Instr.indexAt 177 (.pointer (some ⟨0,0,none⟩)) t18) (fun t73 w18=>
 ld1K t73 (fun t74 w19=>
 runK Tryz.prog (binS .and 5 (.tmp 75) (.const (.int .u8 7)) t74 (.int .u8 7)) (fun t76 w20=>
 runK Tryz.prog (convert 5 3 t76) (fun t77 w21=>
 runK Tryz.prog (binS .shr 5 (.tmp 78) (.const (.int .u64 4)) t74 (.int .u64 4)) (fun t79 w22=>
 runK Tryz.prog (Instr.indexAt 180 (.pointer (some ⟨1,0,none⟩)) t79) (fun t80 w23=>
 ldnK 2 t80 (fun t81 w24=>
 newK 179 [(.int .u8 0),(.int .u8 0)] (fun t6 w25=>
 stnK 2 t6 t81 (fun w26=>
 eqK .i64 t77 (.int .i64 2) fun t84=>
 condK t84
 (JoinK (fun _vs_4 w27=>∀ _h_4:Env,
 runK Tryz.prog (Instr.sliceAt 31 (nth vs 0) (some (.int .i64 2)) none none) (fun t105 w28=>
 again [t105] w28) w27) (fun J_2=>
 DrawK w26 (fun C_2=>
 lenK (nth vs 0) fun t86=>
 ltK .i64 t86 (.int .i64 2) fun t87=>
 condK t87
 (∀ w29:World,C_2 w29→
 K (.bool false) w29)
 (ixK 1 (nth vs 0) (.int .i64 1) fun t90=>
 qld1K C_2 t90 fun t91=>
 faK 0 t6 fun t92=>
 qld1K C_2 t92 fun t93=>
 ltK .u8 t91 t93 fun t94=>
 condK t94
 (∀ w30:World,C_2 w30→
 K (.bool false) w30)
 (faK 1 t6 fun t97=>
 qld1K C_2 t97 fun t98=>
 ixK 1 (nth vs 0) (.int .i64 1) fun t100=>
 qld1K C_2 t100 fun t101=>
 ltK .u8 t98 t101 fun t102=>
 ∀ w31:World,C_2 w31→
 condK t102
 (K (.bool false) w31)
 (J_2 [] w31))))))
 (eqK .i64 t77 (.int .i64 3) fun t107=>
 condK t107
 (JoinK (fun _vs_5 w32=>∀ _h_5:Env,
 runK Tryz.prog (Instr.sliceAt 31 (nth vs 0) (some (.int .i64 3)) none none) (fun t140 w33=>
 again [t140] w33) w32) (fun J_3=>
 DrawK w26 (fun C_3=>
 lenK (nth vs 0) fun t109=>
 ltK .i64 t109 (.int .i64 3) fun t110=>
 condK t110
 (∀ w34:World,C_3 w34→
 K (.bool false) w34)
 (ixK 1 (nth vs 0) (.int .i64 1) fun t113=>
 qld1K C_3 t113 fun t114=>
 faK 0 t6 fun t115=>
 qld1K C_3 t115 fun t116=>
 ltK .u8 t114 t116 fun t117=>
 condK t117
 (∀ w35:World,C_3 w35→
 K (.bool false) w35)
 (faK 1 t6 fun t120=>
 qld1K C_3 t120 fun t121=>
 ixK 1 (nth vs 0) (.int .i64 1) fun t123=>
 qld1K C_3 t123 fun t124=>
 ltK .u8 t121 t124 fun t125=>
 condK t125
 (∀ w36:World,C_3 w36→
 K (.bool false) w36)
 (ixK 1 (nth vs 0) (.int .i64 2) fun t129=>
 qld1K C_3 t129 fun t130=>
 ltK .u8 t130 (.int .u8 128) fun t131=>
 condK t131
 (∀ w37:World,C_3 w37→
 K (.bool false) w37)
 (ixK 1 (nth vs 0) (.int .i64 2) fun t135=>
 qld1K C_3 t135 fun t136=>
 ltK .u8 (.int .u8 191) t136 fun t137=>
 ∀ w38:World,C_3 w38→
 condK t137
 (K (.bool false) w38)
 (J_3 [] w38))))))))
 (eqK .i64 t77 (.int .i64 4) fun t142=>
 condK t142
 (JoinK (fun _vs_6 w39=>∀ _h_6:Env,
 runK Tryz.prog (Instr.sliceAt 31 (nth vs 0) (some (.int .i64 4)) none none) (fun t187 w40=>
 again [t187] w40) w39) (fun J_4=>
 DrawK w26 (fun C_4=>
 lenK (nth vs 0) fun t144=>
 ltK .i64 t144 (.int .i64 4) fun t145=>
 condK t145
 (∀ w41:World,C_4 w41→
 K (.bool false) w41)
 (ixK 1 (nth vs 0) (.int .i64 1) fun t148=>
 qld1K C_4 t148 fun t149=>
 faK 0 t6 fun t150=>
 qld1K C_4 t150 fun t151=>
 ltK .u8 t149 t151 fun t152=>
 condK t152
 (∀ w42:World,C_4 w42→
 K (.bool false) w42)
 (faK 1 t6 fun t155=>
 qld1K C_4 t155 fun t156=>
 ixK 1 (nth vs 0) (.int .i64 1) fun t158=>
 qld1K C_4 t158 fun t159=>
 ltK .u8 t156 t159 fun t160=>
 condK t160
 (∀ w43:World,C_4 w43→
 K (.bool false) w43)
 (ixK 1 (nth vs 0) (.int .i64 2) fun t164=>
 qld1K C_4 t164 fun t165=>
 ltK .u8 t165 (.int .u8 128) fun t166=>
 condK t166
 (∀ w44:World,C_4 w44→
 K (.bool false) w44)
 (ixK 1 (nth vs 0) (.int .i64 2) fun t170=>
 qld1K C_4 t170 fun t171=>
 ltK .u8 (.int .u8 191) t171 fun t172=>
 condK t172
 (∀ w45:World,C_4 w45→
 K (.bool false) w45)
 (ixK 1 (nth vs 0) (.int .i64 3) fun t176=>
 qld1K C_4 t176 fun t177=>
 ltK .u8 t177 (.int .u8 128) fun t178=>
 condK t178
 (∀ w46:World,C_4 w46→
 K (.bool false) w46)
 (ixK 1 (nth vs 0) (.int .i64 3) fun t182=>
 qld1K C_4 t182 fun t183=>
 ltK .u8 (.int .u8 191) t183 fun t184=>
 ∀ w47:World,C_4 w47→
 condK t184
 (K (.bool false) w47)
 (J_4 [] w47))))))))))
 (K (.bool false) w26)))) w25) w24) w23) w22) w21) w20) w19) w18) w3)) w2)
 (K (.bool true) w2)) w1) w
theorem S118_eq (v0:Value) (K:Cont) (w:World):S118 v0 K w=D Tryz.prog okf 188 (bodyOf Tryz.f118) (.node [] [] .nil (.node [] [] .nil (.node [] [] (.node [0] [(0,0),(2,6),(13,187)] (.node [] [] (.node [] [] .nil (.node [] [] .nil .nil)) (.node [] [] .nil (.node [] [] (.node [] [] .nil (.node [] [] (.node [] [] .nil (.node [] [] (.cut [31] [(23,31)] .nil (.node [] [] (.node [] [] .nil (.cut [46] [(34,46)] .draw (.node [] [] (.node [] [] .nil (.node [0] [(0,0),(49,71)] (.node [] [] (.node [] [] .draw (.node [] [] .nil .nil)) .nil) .nil)) .nil))) .nil)) .nil)) .nil)) (.node [] [] .nil (.node [] [] .nil (.node [] [] .nil (.node [] [] .nil (.node [] [] .nil (.node [] [] (.cut [] [(2,2),(85,103)] (.node [] [] .draw (.node [] [] (.node [] [] .nil .nil) .nil)) .nil) (.node [] [] .nil (.node [] [] (.cut [] [(2,2),(108,138)] (.node [] [] .draw (.node [] [] (.node [] [] .nil .nil) .nil)) .nil) (.node [] [] .nil (.node [] [] (.cut [] [(2,2),(143,185)] (.node [] [] .draw (.node [] [] (.node [] [] .nil .nil) .nil)) .nil) (.node [] [] .nil .nil)))))))))))))) .nil) (.node [] [] .nil .nil)))) (retK Tryz.prog [.tmp 2] K) (nth [v0]) w:=by kernel_rfl
theorem S118_ok {v0:Value} {K:Cont} {w:World} (h:S118 v0 K w):callK Tryz.prog 118 [v0] K w:=
 callK_of (P:=Tryz.prog) (ok:=okf) (n:=188) (fn:=Tryz.f118) (c:=bodyOf Tryz.f118) (rs:=[.tmp 2]) (an:=(.node [] [] .nil (.node [] [] .nil (.node [] [] (.node [0] [(0,0),(2,6),(13,187)] (.node [] [] (.node [] [] .nil (.node [] [] .nil .nil)) (.node [] [] .nil (.node [] [] (.node [] [] .nil (.node [] [] (.node [] [] .nil (.node [] [] (.cut [31] [(23,31)] .nil (.node [] [] (.node [] [] .nil (.cut [46] [(34,46)] .draw (.node [] [] (.node [] [] .nil (.node [0] [(0,0),(49,71)] (.node [] [] (.node [] [] .draw (.node [] [] .nil .nil)) .nil) .nil)) .nil))) .nil)) .nil)) .nil)) (.node [] [] .nil (.node [] [] .nil (.node [] [] .nil (.node [] [] .nil (.node [] [] .nil (.node [] [] (.cut [] [(2,2),(85,103)] (.node [] [] .draw (.node [] [] (.node [] [] .nil .nil) .nil)) .nil) (.node [] [] .nil (.node [] [] (.cut [] [(2,2),(108,138)] (.node [] [] .draw (.node [] [] (.node [] [] .nil .nil) .nil)) .nil) (.node [] [] .nil (.node [] [] (.cut [] [(2,2),(143,185)] (.node [] [] .draw (.node [] [] (.node [] [] .nil .nil) .nil)) .nil) (.node [] [] .nil .nil)))))))))))))) .nil) (.node [] [] .nil .nil))))) good mixed Tryz.func118 (by kernel_rfl) (by kernel_rfl) (by kernel_rfl) (by kernel_rfl) (Eq.mp (S118_eq v0 K w) h)

def S145 (v0:Value) (K:Cont) (w:World):Prop:=
 DrawK w (fun C_1=>
 ixK 1 v0 (.int .i64 0) fun t26=>
 qld1K C_1 t26 fun t27=>
 qrunK Tryz.prog C_1 (convert 5 57 t27) fun t28=>
 ixK 1 v0 (.int .i64 1) fun t30=>
 qld1K C_1 t30 fun t31=>
 qrunK Tryz.prog C_1 (convert 5 57 t31) fun t32=>
 qrunK Tryz.prog C_1 (binS .shl 57 (.tmp 32) (.const (.int .u64 8)) t32 (.int .u64 8)) fun t33=>
 qrunK Tryz.prog C_1 (binS .or 57 (.tmp 28) (.tmp 33) t28 t33) fun t34=>
 ixK 1 v0 (.int .i64 2) fun t36=>
 qld1K C_1 t36 fun t37=>
 qrunK Tryz.prog C_1 (convert 5 57 t37) fun t38=>
 qrunK Tryz.prog C_1 (binS .shl 57 (.tmp 38) (.const (.int .u64 16)) t38 (.int .u64 16)) fun t39=>
 qrunK Tryz.prog C_1 (binS .or 57 (.tmp 34) (.tmp 39) t34 t39) fun t40=>
 ixK 1 v0 (.int .i64 3) fun t42=>
 qld1K C_1 t42 fun t43=>
 qrunK Tryz.prog C_1 (convert 5 57 t43) fun t44=>
 qrunK Tryz.prog C_1 (binS .shl 57 (.tmp 44) (.const (.int .u64 24)) t44 (.int .u64 24)) fun t45=>
 qrunK Tryz.prog C_1 (binS .or 57 (.tmp 40) (.tmp 45) t40 t45) fun t46=>
 ixK 1 v0 (.int .i64 4) fun t48=>
 qld1K C_1 t48 fun t49=>
 qrunK Tryz.prog C_1 (convert 5 57 t49) fun t50=>
 qrunK Tryz.prog C_1 (binS .shl 57 (.tmp 50) (.const (.int .u64 32)) t50 (.int .u64 32)) fun t51=>
 qrunK Tryz.prog C_1 (binS .or 57 (.tmp 46) (.tmp 51) t46 t51) fun t52=>
 ixK 1 v0 (.int .i64 5) fun t54=>
 qld1K C_1 t54 fun t55=>
 qrunK Tryz.prog C_1 (convert 5 57 t55) fun t56=>
 qrunK Tryz.prog C_1 (binS .shl 57 (.tmp 56) (.const (.int .u64 40)) t56 (.int .u64 40)) fun t57=>
 qrunK Tryz.prog C_1 (binS .or 57 (.tmp 52) (.tmp 57) t52 t57) fun t58=>
 ixK 1 v0 (.int .i64 6) fun t60=>
 qld1K C_1 t60 fun t61=>
 qrunK Tryz.prog C_1 (convert 5 57 t61) fun t62=>
 qrunK Tryz.prog C_1 (binS .shl 57 (.tmp 62) (.const (.int .u64 48)) t62 (.int .u64 48)) fun t63=>
 qrunK Tryz.prog C_1 (binS .or 57 (.tmp 58) (.tmp 63) t58 t63) fun t64=>
 ixK 1 v0 (.int .i64 7) fun t66=>
 qld1K C_1 t66 fun t67=>
 qrunK Tryz.prog C_1 (convert 5 57 t67) fun t68=>
 qrunK Tryz.prog C_1 (binS .shl 57 (.tmp 68) (.const (.int .u64 56)) t68 (.int .u64 56)) fun t69=>
 qrunK Tryz.prog C_1 (binS .or 57 (.tmp 64) (.tmp 69) t64 t69) fun t70=>
 ∀ w2:World,C_1 w2→
 K t70 w2)
theorem S145_eq (v0:Value) (K:Cont) (w:World):S145 v0 K w=D Tryz.prog okf 71 (bodyOf Tryz.f145) (.node [] [] .nil (.node [] [] (.node [] [] (.node [] [] .draw .nil) .nil) (.node [] [] .draw .nil))) (retK Tryz.prog [.tmp 2] K) (nth [v0]) w:=by kernel_rfl
theorem S145_ok {v0:Value} {K:Cont} {w:World} (h:S145 v0 K w):callK Tryz.prog 145 [v0] K w:=
 callK_of (P:=Tryz.prog) (ok:=okf) (n:=71) (fn:=Tryz.f145) (c:=bodyOf Tryz.f145) (rs:=[.tmp 2]) (an:=(.node [] [] .nil (.node [] [] (.node [] [] (.node [] [] .draw .nil) .nil) (.node [] [] .draw .nil)))) good mixed Tryz.func145 (by kernel_rfl) (by kernel_rfl) (by kernel_rfl) (by kernel_rfl) (Eq.mp (S145_eq v0 K w) h)

end Go.Proofs.YtgmpbihbdbmhoaaGreatDoor

namespace Go.K
open Go
theorem slice_lo_run {P:Program} {t e k:Nat} {i:TypeInfo} {a:Option Addr} {n c j:Nat} (ht:P.underlying t=some (.slice e)) (hi:P.info? e=some i) (hk:i.size=k) (hj:j≤n) (w:World):(Instr.sliceAt t (.slice a n c) (some (.int .i64 j)) none none).run P w=.ok (sliced a j n c k) w:=by
 have hel:P.elem t=e:=by simp [Program.elem,ht]
 rw [run_sliceAt_slice _ _ _ _ _ _ (by rw [hel];exact ht),run_slice_l _ _ _ _ _ (by rw [hel];exact ht) _ _ (by omega) (by omega),hel]
 simp [sizeOf,typeInfo,hi,hk]
theorem slice_lo_sl {α:Type} {k:Nat} {R:World→List Value→α→Prop} {S:Nat→Prop} {w:World} {a:Option Addr} {n c:Nat} {l:List α} {j:Nat} (h:SlR S k R w (.slice a n c) l) (hj:j≤l.length):SlR S k R w (sliced a j n c k) (l.drop j):=by
 obtain ⟨a',c',e1,h1,h2,h3⟩:=h
 cases e1
 unfold sliced
 refine ⟨_,_,by rw [List.length_drop],by rw [List.length_drop];omega,by omega,fun q x hx=>?_⟩
 rw [List.getElem?_drop] at hx
 obtain ⟨p,r,rfl,hS,hr,hc,hR⟩:=h3 _ x hx
 have hlt:=(List.getElem?_eq_some_iff.1 hx).1
 rw [if_neg (by omega)]
 refine ⟨p.add (j * k),r,rfl,by rw [add_block];exact hS,hr,fun m u hu=>?_,hR⟩
 rw [Addr.add_add,←Nat.add_assoc,←Nat.add_mul]
 exact hc m u hu
theorem slice_all_run {P:Program} {t e k:Nat} {i:TypeInfo} {a:Option Addr} {n c:Nat} (ht:P.underlying t=some (.slice e)) (hi:P.info? e=some i) (hk:i.size=k) (hc:n≤c) (w:World):∃ a',(Instr.sliceAt t (.slice a n c) none (some (.int .i64 n)) (some (.int .i64 n))).run P w=.ok (.slice a' n n) w∧(0 < n→a'=a):=by
 have hel:P.elem t=e:=by simp [Program.elem,ht]
 refine ⟨if n=0 then a else a.map (·.add (0 * k)),?_,fun h=>?_⟩
 ·rw [run_sliceAt_slice _ _ _ _ _ _ (by rw [hel];exact ht)]
  simp [Instr.slice,run_underlying ht,Instr.sliceBounds,run_sliceBound,hc,sizeOf,typeInfo,hi,hk,Result.andThen]
 ·rw [if_neg (by omega)]
  cases a with
  | none=>rfl
  | some a=>simp [Addr.add]
theorem run_indexAt_arr {P:Program} {t e n s:Nat} {i:TypeInfo} {k:IntKind} {a:Addr} {j:Int} {w:World} (ht:P.underlying t=some (.array n e)) (hi:P.info? e=some i) (hs:i.size=s) (h0:0≤j) (h1:j < n):(Instr.indexAt t (.pointer (some a)) (.int k j)).run P w=.ok (.pointer (some (a.add (j.toNat * s)))) w:=by
 simp [Instr.indexAt,Instr.sureAddr,run_underlying ht,asIntOf,sizeOf,typeInfo,hi,hs,h0,h1,Result.andThen]
theorem run_conv {P:Program} {s d:TypeId} {q k:IntKind} {n:Int} (w:World) (hs:(P.underlying s).isSome=true) (hd:P.underlying d=some (.int k)):(convert s d (.int q n)).run P w=.ok (.int k (k.wrap n)) w:=by
 obtain ⟨e,he⟩:=Option.isSome_iff_exists.mp hs
 simp [convert,run_underlying he,run_underlying hd,Conv.intToInt]
theorem run_shl {P:Program} {t:TypeId} {xo yo:Operand} {k q:IntKind} {a:Int} {n:Nat} (w:World) (hn:n≤k.bits):(binS .shl t xo yo (.int k a) (.int q n)).run P w=.ok (.int k (k.wrap (a * 2 ^ n))) w:=by
 have h0:¬ ((n:Int) < 0):=by omega
 simp [binS,eqGuard,binOp,Op.shift,Nat.min_eq_left hn,h0]
theorem run_shr {P:Program} {t:TypeId} {xo yo:Operand} {k q:IntKind} {a:Int} {n:Nat} (w:World) (hn:n≤k.bits):(binS .shr t xo yo (.int k a) (.int q n)).run P w=.ok (.int k (a.fdiv (2 ^ n))) w:=by
 have h0:¬ ((n:Int) < 0):=by omega
 simp [binS,eqGuard,binOp,Op.shift,Nat.min_eq_left hn,h0]
theorem run_bits {P:Program} {t:TypeId} {xo yo:Operand} {k:IntKind} {a b:Int} (w:World):(binS .or t xo yo (.int k a) (.int k b)).run P w=.ok (.int k (k.wrap (BitVec.ofInt k.bits a ||| BitVec.ofInt k.bits b).toNat)) w∧(binS .and t xo yo (.int k a) (.int k b)).run P w=.ok (.int k (k.wrap (BitVec.ofInt k.bits a &&& BitVec.ofInt k.bits b).toNat)) w:=by
 constructor <;> simp [binS,eqGuard,binOp,Op.intBits]
end Go.K
namespace Go.Proofs.YtgmpbihbdbmhoaaGreatDoor
open Go Go.K

theorem run_or64 {t:TypeId} {xo yo:Operand} {a b:Int} (w:World) (ha:U64 a) (hb:U64 b):(binS .or t xo yo (.int .u64 a) (.int .u64 b)).run Tryz.prog w=.ok (.int .u64 (orN a b)) w:=by
 rw [(run_bits w).1]
 have e:((BitVec.ofInt IntKind.u64.bits a ||| BitVec.ofInt IntKind.u64.bits b).toNat:Int)=orN a b:=bv_or ha hb
 rw [e,wrapu64 (orN_U ha hb)]
theorem run_and64 {t:TypeId} {xo yo:Operand} {a b:Int} (w:World) (ha:U64 a) (hb:U64 b):(binS .and t xo yo (.int .u64 a) (.int .u64 b)).run Tryz.prog w=.ok (.int .u64 ((a.toNat &&& b.toNat:Nat):Int)) w:=by
 rw [(run_bits w).2]
 have e:((BitVec.ofInt IntKind.u64.bits a &&& BitVec.ofInt IntKind.u64.bits b).toNat:Int)=((a.toNat &&& b.toNat:Nat):Int):=bv_and ha hb
 rw [e,wrapu64 ⟨by omega,?_⟩]
 have:=Nat.and_le_left (n:=a.toNat) (m:=b.toNat)
 have:=ha.2
 have:=ha.1
 omega
def shB (x:Int) (j:Nat):Int:=x * 2 ^ (8 * j)
def wordN (b:List Int):Int:=orN (orN (orN (orN (orN (orN (orN (b.getD 0 0) (shB (b.getD 1 0) 1)) (shB (b.getD 2 0) 2)) (shB (b.getD 3 0) 3)) (shB (b.getD 4 0) 4)) (shB (b.getD 5 0) 5)) (shB (b.getD 6 0) 6)) (shB (b.getD 7 0) 7)
abbrev ByteL (b:List Int):Prop:=∀ x ∈ b,0≤x∧x < 256
theorem ByteL.getD {b:List Int} (h:ByteL b) (j:Nat):0≤b.getD j 0∧b.getD j 0 < 256:=by
 rw [List.getD_eq_getElem?_getD]
 cases e:b[j]? with
 | none=>simp
 | some x=>exact h x (List.mem_iff_getElem?.2 ⟨j,e⟩)
theorem ByteL.drop {b:List Int} (h:ByteL b) (j:Nat):ByteL (b.drop j):=fun x hx=>h x (List.mem_of_mem_drop hx)
theorem byte_U {x:Int} (h:0≤x∧x < 256):U64 x:=⟨h.1,by omega⟩
theorem wordN_U {b:List Int} (h:ByteL b):U64 (wordN b):=by
 have u:∀ j,j < 8→U64 (shB (b.getD j 0) j):=fun j hj=>hib_u hj (h.getD j).1 (h.getD j).2
 unfold wordN
 exact orN_U (orN_U (orN_U (orN_U (orN_U (orN_U (orN_U (byte_U (h.getD 0)) (u 1 (by decide))) (u 2 (by decide))) (u 3 (by decide))) (u 4 (by decide))) (u 5 (by decide))) (u 6 (by decide))) (u 7 (by decide))
theorem wordN_hi {b:List Int} (h:ByteL b) {j:Nat} (hj:j < 8) (hx:128≤b.getD j 0):HiB (wordN b) j:=by
 have hh:=(hib_byte hj hx (h.getD j).2).2
 unfold wordN
 rcases (show j=0∨j=1∨j=2∨j=3∨j=4∨j=5∨j=6∨j=7 by omega) with rfl | rfl | rfl | rfl | rfl | rfl | rfl | rfl
 ·rw [show b.getD 0 0 * 2 ^ (8 * 0)=b.getD 0 0 by omega] at hh
  exact .l (.l (.l (.l (.l (.l (.l hh))))))
 ·exact .l (.l (.l (.l (.l (.l (.r hh))))))
 ·exact .l (.l (.l (.l (.l (.r hh)))))
 ·exact .l (.l (.l (.l (.r hh))))
 ·exact .l (.l (.l (.r hh)))
 ·exact .l (.l (.r hh))
 ·exact .l (.r hh)
 ·exact .r hh
theorem word_step {C:World→Prop} {p:Addr} {n c:Nat} {b:Int} {j:Nat} {m:Int} {xo yo:Operand} {k:Value→Prop} (hj:j < n) (hm:m=8 * j) (hj8:j < 8) (hb:0≤b∧b < 256) (hc:∀ w,C w→w.cell? (p.add (j * 1))=some (.int .u8 b)) (hk:k (.int .u64 (shB b j))) :
  ixK 1 (.slice (some p) n c) (.int .i64 j) fun t30=>qld1K C t30 fun t31=>qrunK Tryz.prog C (convert 5 57 t31) fun t32=>qrunK Tryz.prog C (binS .shl 57 xo yo t32 (.int .u64 m)) k:=by
 refine ixK_n hj (qld1K_i hc ⟨.int .u64 (IntKind.u64.wrap b),fun w _=>run_conv (k:=.u64) w (by kernel_rfl) (by kernel_rfl),?_⟩)
 rw [wrapu64 (byte_U hb)]
 subst hm
 refine ⟨_,fun w _=>?_,hk⟩
 have e:=run_shl (P:=Tryz.prog) (t:=57) (xo:=xo) (yo:=yo) (k:=.u64) (q:=.u64) (a:=b) (n:=8 * j) w (by show 8 * j≤64;omega)
 rw [wrapu64 (hib_u hj8 hb.1 hb.2)] at e
 have e2:((8 * j:Nat):Int)=8 * (j:Int):=by omega
 rw [e2] at e
 exact e
theorem word_ok {S:Nat→Prop} {v:Value} {b:List Int} {w:World} (h:RBytes S w v b) (hb:ByteL b) (hl:8≤b.length) :
  callK Tryz.prog 145 [v] (fun v' w'=>v'=.int .u64 (wordN b)∧Grow w w') w:=by
 apply S145_ok
 unfold S145
 obtain ⟨a,c,rfl,hm⟩:=h.shape
 have cell:∀ j (hj:j < b.length),∃ p,a=some p∧w.cell? (p.add (j * 1))=some (.int .u8 (b.getD j 0)):=by
  intro j hj
  obtain ⟨p,r,rfl,_,hr,hc,rfl⟩:=h.get hj
  refine ⟨p,rfl,?_⟩
  rw [List.getD_eq_getElem?_getD,List.getElem?_eq_getElem hj]
  exact hc 0 _ rfl
 obtain ⟨p,rfl,c0⟩:=cell 0 (by omega)
 have cellp:∀ j,j < b.length→w.cell? (p.add (j * 1))=some (.int .u8 (b.getD j 0)):=fun j hj=>by obtain ⟨p',e,hc⟩:=cell j hj;cases e;exact hc
 refine drawK_i (fun w2=>Grow w w2) (Mod.drew _ _) ?_
 have hc:∀ j,j < b.length→∀ w2,Grow w w2→w2.cell? (p.add (j * 1))=some (.int .u8 (b.getD j 0)):=fun j hj w2 g=>g.cell (cellp j hj) fun h=>h
 have u:∀ j,j < 8→U64 (shB (b.getD j 0) j):=fun j hj=>hib_u hj (hb.getD j).1 (hb.getD j).2
 refine ixK_n (j:=0) (by omega) (qld1K_i (hc 0 (by omega)) ⟨.int .u64 (IntKind.u64.wrap (b.getD 0 0)),fun w _=>run_conv (k:=.u64) w (by kernel_rfl) (by kernel_rfl),?_⟩)
 rw [wrapu64 (byte_U (hb.getD 0))]
 have u0:=byte_U (hb.getD 0)
 refine word_step (j:=1) (by omega) rfl (by decide) (hb.getD 1) (hc 1 (by omega)) ⟨_,fun w _=>run_or64 w u0 (u 1 (by decide)),?_⟩
 have u1:=orN_U u0 (u 1 (by decide))
 refine word_step (j:=2) (by omega) rfl (by decide) (hb.getD 2) (hc 2 (by omega)) ⟨_,fun w _=>run_or64 w u1 (u 2 (by decide)),?_⟩
 have u2:=orN_U u1 (u 2 (by decide))
 refine word_step (j:=3) (by omega) rfl (by decide) (hb.getD 3) (hc 3 (by omega)) ⟨_,fun w _=>run_or64 w u2 (u 3 (by decide)),?_⟩
 have u3:=orN_U u2 (u 3 (by decide))
 refine word_step (j:=4) (by omega) rfl (by decide) (hb.getD 4) (hc 4 (by omega)) ⟨_,fun w _=>run_or64 w u3 (u 4 (by decide)),?_⟩
 have u4:=orN_U u3 (u 4 (by decide))
 refine word_step (j:=5) (by omega) rfl (by decide) (hb.getD 5) (hc 5 (by omega)) ⟨_,fun w _=>run_or64 w u4 (u 5 (by decide)),?_⟩
 have u5:=orN_U u4 (u 5 (by decide))
 refine word_step (j:=6) (by omega) rfl (by decide) (hb.getD 6) (hc 6 (by omega)) ⟨_,fun w _=>run_or64 w u5 (u 6 (by decide)),?_⟩
 have u6:=orN_U u5 (u 6 (by decide))
 refine word_step (j:=7) (by omega) rfl (by decide) (hb.getD 7) (hc 7 (by omega)) ⟨_,fun w _=>run_or64 w u6 (u 7 (by decide)),?_⟩
 exact fun w2 g=>⟨rfl,g⟩
theorem word_ascii {b:List Int} (hb:ByteL b) (h:((wordN b).toNat &&& 9259542123273814144:Nat)=0) {j:Nat} (hj:j < 8):b.getD j 0 < 128:=by
 have:=hib_none h hj
 have hx:¬ 128≤b.getD j 0:=fun hx=>this (wordN_hi hb hj hx)
 omega
end Go.Proofs.YtgmpbihbdbmhoaaGreatDoor

namespace Go.Proofs.YtgmpbihbdbmhoaaGreatDoor
open Go Go.K
def S5 (v0:Value) (K:Cont) (w:World):Prop:=
 lenK v0 fun t10=>
 gtK .i64 t10 (.int .i64 64) fun t11=>
 condK t11
 (K (.tuple #[(.pointer none),(.int .i64 3)]) w)
 (callK Tryz.prog 14 [v0] (fun t13 w1=>
 runK Tryz.prog (Instr.makeMap 44 none) (fun t14 w2=>
 buildK [(0,1),(1,1)] [(.slice none 0 0),(.map none)] [(0,t13),(1,t14)] fun t15=>
 boxnK 46 t15 (fun t16 w3=>
 lenK v0 fun t18=>
 LoopK [(.int .i64 0)] (fun vs again w4=>∀ _h:Env,
 ltK .i64 (nth vs 0) t18 fun t20=>
 condK t20
 (ixK 6 v0 (nth vs 0) fun t21=>
 ldnK 6 t21 (fun t22 w5=>
 newK 43 [(.int .i64 0),(.bool false),(.int .u8 0),(.bool false),(.bool false),(.int .i64 0)] (fun t6 w6=>
 stnK 6 t6 t22 (fun w7=>
 JoinK (fun _vs_1 w8=>∀ _h_1:Env,
 DrawC [7] [[],[0],[0,1],[0,1,2],[],[4],[],[0,1,2,3,4,5,6]] w8.drew (fun M St=>
 nilckK t16 fun t40=>
 faK 1 t40 fun t41=>
 sld1 (St 3) t41 fun t42=>
 faK 0 t6 fun t43=>
 sld1 (St 5) t43 fun t44=>
 sldn (St 6) 6 t6 fun t45=>
 runK Tryz.prog (do Instr.mapUpdate 44 t42 t44 t45;pure undef) (fun _u w9=>
 Mod (M 7) w8.drew w9∧
 addK .i64 (nth vs 0) (.int .i64 1) fun t46=>
 again [t46] w9) w8.drew)) (fun J=>
 JoinK (fun vs_2 w10=>∀ _h_2:Env,
 condK (nth vs_2 0)
 (K (.tuple #[(.pointer none),(.int .i64 3)]) w10)
 (ldnK 6 t6 (fun t35 w11=>
 callK Tryz.prog 15 [t35] (fun t36 w12=>
 notK t36 fun t37=>
 condK t37
 (K (.tuple #[(.pointer none),(.int .i64 3)]) w12)
 (J [] w12)) w11) w10)) (fun J_1=>
 DrawC [6,10,11] [[],[0],[0,1],[0,1,2],[],[4],[0,1,2,3,4,5],[0,1,2,3,4,5,6],[0,1,2,3,4,5,6,7],[0,1,2,3,4,5,6,7],[],[0,1,2,3,4,5,6,7,8,10],[0,1,2,3,4,5,6,7,8,9,10,11]] w7.drew (fun M_1 St_1=>
 nilckK t16 fun t25=>
 faK 1 t25 fun t26=>
 sld1 (St_1 3) t26 fun t27=>
 faK 0 t6 fun t28=>
 sld1 (St_1 5) t28 fun t29=>
 (runK Tryz.prog (Instr.lookup 44 t27 t29 true) (fun t30 w13=>
 Mod (M_1 6) w7.drew w13∧
 extK 0 t30 fun t31=>
 extK 1 t30 fun t32=>
 newK 43 [(.int .i64 0),(.bool false),(.int .u8 0),(.bool false),(.bool false),(.int .i64 0)] (fun t7 w14=>
 Mod (M_1 10) w13 w14∧
 stnK 6 t7 t31 (fun w15=>
 Mod (M_1 11) w14 w15∧
 J_1 [t32] w15) w14) w13) w7.drew)∧
 (newK 43 [(.int .i64 0),(.bool false),(.int .u8 0),(.bool false),(.bool false),(.int .i64 0)] (fun t7_1 w16=>
 Mod (M_1 10) w7.drew w16∧
 runK Tryz.prog (Instr.lookup 44 t27 t29 true) (fun t30_1 w17=>
 Mod (M_1 6) w16 w17∧
 extK 0 t30_1 fun t31_1=>
 extK 1 t30_1 fun t32_1=>
 stnK 6 t7_1 t31_1 (fun w18=>
 Mod (M_1 11) w17 w18∧
 J_1 [t32_1] w18) w17) w16) w7.drew))))) w6) w5) w4)
 (nilckK t16 fun t48=>
 faK 0 t48 fun t49=>
 ld1K t49 (fun t50 w19=>
 callK Tryz.prog 16 [t50,(.func (.func 17) #[] #[])] (fun _t51 w20=>
 K (.tuple #[t16,(.int .i64 0)]) w20) w19) w4)) w3) w2) w1) w)
theorem S5_eq (v0:Value) (K:Cont) (w:World):S5 v0 K w=D Tryz.prog okf 53 (bodyOf Tryz.f5) (.node [] [] .nil (.node [] [] (.node [] [] .nil (.node [] [] (.node [] [] .nil .nil) .nil)) (.node [] [] .nil (.node [] [] (.node [] [] .nil (.node [19] [(2,3),(6,8),(19,46)] (.node [] [] .nil (.node [] [] (.node [] [] .nil .nil) (.node [] [] (.node [] [] .nil (.cut [] [(2,3),(7,8),(23,38)] (.cut [8] [(7,8),(23,32)] (.dt [6,10,11] [[],[0],[0,1],[0,1,2],[],[4],[0,1,2,3,4,5],[0,1,2,3,4,5,6],[0,1,2,3,4,5,6,7],[0,1,2,3,4,5,6,7],[],[0,1,2,3,4,5,6,7,8,10],[0,1,2,3,4,5,6,7,8,9,10,11]] [[6]] (.op 0 (.op 1 (.op 2 (.op 3 (.op 4 (.op 5 (.br (.op 6 (.op 7 (.op 8 (.op 9 (.op 10 (.op 11 (.op 12 .nil))))))) (.op 10 (.op 6 (.op 7 (.op 8 (.op 9 (.op 11 (.op 12 .nil))))))))))))))) (.node [] [] .nil (.node [] [] (.node [] [] .nil .nil) .nil))) (.dc [7] [[],[0],[0,1],[0,1,2],[],[4],[],[0,1,2,3,4,5,6]] []))) .nil))) .nil)) (.node [] [] .nil (.node [] [] .nil .nil)))))) (retK Tryz.prog [.tmp 2,.tmp 3] K) (nth [v0]) w:=by kernel_rfl
theorem S5_ok {v0:Value} {K:Cont} {w:World} (h:S5 v0 K w):callK Tryz.prog 5 [v0] K w:=
 callK_of (P:=Tryz.prog) (ok:=okf) (n:=53) (fn:=Tryz.f5) (c:=bodyOf Tryz.f5) (rs:=[.tmp 2,.tmp 3]) (an:=(.node [] [] .nil (.node [] [] (.node [] [] .nil (.node [] [] (.node [] [] .nil .nil) .nil)) (.node [] [] .nil (.node [] [] (.node [] [] .nil (.node [19] [(2,3),(6,8),(19,46)] (.node [] [] .nil (.node [] [] (.node [] [] .nil .nil) (.node [] [] (.node [] [] .nil (.cut [] [(2,3),(7,8),(23,38)] (.cut [8] [(7,8),(23,32)] (.dt [6,10,11] [[],[0],[0,1],[0,1,2],[],[4],[0,1,2,3,4,5],[0,1,2,3,4,5,6],[0,1,2,3,4,5,6,7],[0,1,2,3,4,5,6,7],[],[0,1,2,3,4,5,6,7,8,10],[0,1,2,3,4,5,6,7,8,9,10,11]] [[6]] (.op 0 (.op 1 (.op 2 (.op 3 (.op 4 (.op 5 (.br (.op 6 (.op 7 (.op 8 (.op 9 (.op 10 (.op 11 (.op 12 .nil))))))) (.op 10 (.op 6 (.op 7 (.op 8 (.op 9 (.op 11 (.op 12 .nil))))))))))))))) (.node [] [] .nil (.node [] [] (.node [] [] .nil .nil) .nil))) (.dc [7] [[],[0],[0,1],[0,1,2],[],[4],[],[0,1,2,3,4,5,6]] []))) .nil))) .nil)) (.node [] [] .nil (.node [] [] .nil .nil))))))) good mixed Tryz.func5 (by kernel_rfl) (by kernel_rfl) (by kernel_rfl) (by kernel_rfl) (Eq.mp (S5_eq v0 K w) h)

def S14 (v0:Value) (K:Cont) (w:World):Prop:=
 snilK v0 fun b4=>
 condK (.bool b4)
 (K (.slice none 0 0) w)
 (rowK 43 6 0 [] [] (fun t5 w1=>
 runK Tryz.prog (Builtin.append_ #[22,22] 22 [t5,v0].toArray) (fun t7 w2=>
 K t7 w2) w1) w)
theorem S14_eq (v0:Value) (K:Cont) (w:World):S14 v0 K w=D Tryz.prog okf 8 (bodyOf Tryz.f14) (.node [] [] .nil (.node [] [] (.node [] [] .nil (.node [] [] (.node [] [] .nil .nil) .nil)) (.node [] [] .nil .nil))) (retK Tryz.prog [.tmp 2] K) (nth [v0]) w:=by kernel_rfl
theorem S14_ok {v0:Value} {K:Cont} {w:World} (h:S14 v0 K w):callK Tryz.prog 14 [v0] K w:=
 callK_of (P:=Tryz.prog) (ok:=okf) (n:=8) (fn:=Tryz.f14) (c:=bodyOf Tryz.f14) (rs:=[.tmp 2]) (an:=(.node [] [] .nil (.node [] [] (.node [] [] .nil (.node [] [] (.node [] [] .nil .nil) .nil)) (.node [] [] .nil .nil)))) good mixed Tryz.func14 (by kernel_rfl) (by kernel_rfl) (by kernel_rfl) (by kernel_rfl) (Eq.mp (S14_eq v0 K w) h)

def S15 (v0:Value) (K:Cont) (w:World):Prop:=
 boxnK 43 v0 (fun t1 w1=>
 JoinK (fun vs w2=>∀ _h:Env,
 condK (nth vs 0)
 (K (.bool false) w2)
 (faK 1 t1 fun t23=>
 ld1K t23 (fun t24 w3=>
 condK t24
 (faK 4 t1 fun t25=>
 ld1K t25 (fun t26 w4=>
 notK t26 fun t27=>
 condK t27
 (faK 5 t1 fun t29=>
 ld1K t29 (fun t30 w5=>
 geK .i64 t30 (.int .i64 0) fun t31=>
 condK t31
 (faK 5 t1 fun t34=>
 ld1K t34 (fun t35 w6=>
 leK .i64 t35 (.int .i64 8) fun t36=>
 K t36 w6) w5)
 (K (.bool false) w5)) w4)
 (K (.bool false) w4)) w3)
 (faK 5 t1 fun t38=>
 ld1K t38 (fun t39 w7=>
 eqK .i64 t39 (.int .i64 0) fun t40=>
 K t40 w7) w3)) w2)) (fun J=>
 faK 0 t1 fun t4=>
 ld1K t4 (fun t5 w8=>
 ltK .i64 t5 (.int .i64 1) fun t6=>
 condK t6
 (J [(.bool true)] w8)
 (faK 0 t1 fun t8=>
 ld1K t8 (fun t9 w9=>
 gtK .i64 t9 (.int .i64 1000) fun t10=>
 condK t10
 (J [(.bool true)] w9)
 (faK 2 t1 fun t13=>
 ld1K t13 (fun t14 w10=>
 ltK .u8 t14 (.int .u8 1) fun t15=>
 condK t15
 (J [(.bool true)] w10)
 (faK 2 t1 fun t18=>
 ld1K t18 (fun t19 w11=>
 gtK .u8 t19 (.int .u8 4) fun t20=>
 J [t20] w11) w10)) w9)) w8)) w1)) w
theorem S15_eq (v0:Value) (K:Cont) (w:World):S15 v0 K w=D Tryz.prog okf 41 (bodyOf Tryz.f15) (.node [] [] .nil (.node [] [] (.cut [3] [(3,21)] .nil (.node [] [] (.node [] [] .nil .nil) (.node [] [] .nil (.node [] [] (.node [] [] .nil .nil) .nil)))) (.node [] [] .nil .nil))) (retK Tryz.prog [.tmp 2] K) (nth [v0]) w:=by kernel_rfl
theorem S15_ok {v0:Value} {K:Cont} {w:World} (h:S15 v0 K w):callK Tryz.prog 15 [v0] K w:=
 callK_of (P:=Tryz.prog) (ok:=okf) (n:=41) (fn:=Tryz.f15) (c:=bodyOf Tryz.f15) (rs:=[.tmp 2]) (an:=(.node [] [] .nil (.node [] [] (.cut [3] [(3,21)] .nil (.node [] [] (.node [] [] .nil .nil) (.node [] [] .nil (.node [] [] (.node [] [] .nil .nil) .nil)))) (.node [] [] .nil .nil)))) good mixed Tryz.func15 (by kernel_rfl) (by kernel_rfl) (by kernel_rfl) (by kernel_rfl) (Eq.mp (S15_eq v0 K w) h)

def S17 (v0 v1:Value) (K:Cont) (w:World):Prop:=
 boxnK 43 v0 (fun t2 w1=>
 boxnK 43 v1 (fun t3 w2=>
 faK 0 t2 fun t5=>
 ld1K t5 (fun t6 w3=>
 faK 0 t3 fun t7=>
 ld1K t7 (fun t8 w4=>
 callK Tryz.prog 18 [t6,t8] (fun t9 w5=>
 K t9 w5) w4) w3) w2) w1) w
theorem S17_eq (v0 v1:Value) (K:Cont) (w:World):S17 v0 v1 K w=D Tryz.prog okf 10 (bodyOf Tryz.f17) (.node [] [] .nil (.node [] [] .nil .nil)) (retK Tryz.prog [.tmp 4] K) (nth [v0,v1]) w:=by kernel_rfl
theorem S17_ok {v0 v1:Value} {K:Cont} {w:World} (h:S17 v0 v1 K w):callK Tryz.prog 17 [v0,v1] K w:=
 callK_of (P:=Tryz.prog) (ok:=okf) (n:=10) (fn:=Tryz.f17) (c:=bodyOf Tryz.f17) (rs:=[.tmp 4]) (an:=(.node [] [] .nil (.node [] [] .nil .nil))) good mixed Tryz.func17 (by kernel_rfl) (by kernel_rfl) (by kernel_rfl) (by kernel_rfl) (Eq.mp (S17_eq v0 v1 K w) h)

def S18 (v0 v1:Value) (K:Cont) (w:World):Prop:=
 callK Tryz.prog 41 [v0] (fun t8 w1=>
 callK Tryz.prog 41 [v1] (fun t10 w2=>
 condK t8
 (condK t10
 (K (.int .i64 0) w2)
 (K (.int .i64 (-1)) w2))
 (condK t10
 (K (.int .i64 1) w2)
 (ltK .i64 v0 v1 fun t16=>
 condK t16
 (K (.int .i64 (-1)) w2)
 (gtK .i64 v0 v1 fun t19=>
 condK t19
 (K (.int .i64 1) w2)
 (K (.int .i64 0) w2))))) w1) w
theorem S18_eq (v0 v1:Value) (K:Cont) (w:World):S18 v0 v1 K w=D Tryz.prog okf 20 (bodyOf Tryz.f18) (.node [] [] .nil (.node [] [] .nil (.node [] [] .nil (.node [] [] (.node [] [] .nil (.node [] [] (.node [] [] (.node [] [] .nil (.node [] [] (.node [] [] .nil .nil) .nil)) (.node [] [] .nil .nil)) .nil)) (.node [] [] (.node [] [] .nil (.node [] [] (.node [] [] .nil .nil) .nil)) (.node [] [] (.node [] [] .nil (.node [] [] (.node [] [] .nil .nil) .nil)) (.node [] [] (.node [] [] .nil (.node [] [] (.node [] [] .nil .nil) .nil)) (.node [] [] .nil .nil)))))))) (retK Tryz.prog [.tmp 4] K) (nth [v0,v1]) w:=by kernel_rfl
theorem S18_ok {v0 v1:Value} {K:Cont} {w:World} (h:S18 v0 v1 K w):callK Tryz.prog 18 [v0,v1] K w:=
 callK_of (P:=Tryz.prog) (ok:=okf) (n:=20) (fn:=Tryz.f18) (c:=bodyOf Tryz.f18) (rs:=[.tmp 4]) (an:=(.node [] [] .nil (.node [] [] .nil (.node [] [] .nil (.node [] [] (.node [] [] .nil (.node [] [] (.node [] [] (.node [] [] .nil (.node [] [] (.node [] [] .nil .nil) .nil)) (.node [] [] .nil .nil)) .nil)) (.node [] [] (.node [] [] .nil (.node [] [] (.node [] [] .nil .nil) .nil)) (.node [] [] (.node [] [] .nil (.node [] [] (.node [] [] .nil .nil) .nil)) (.node [] [] (.node [] [] .nil (.node [] [] (.node [] [] .nil .nil) .nil)) (.node [] [] .nil .nil))))))))) good mixed Tryz.func18 (by kernel_rfl) (by kernel_rfl) (by kernel_rfl) (by kernel_rfl) (Eq.mp (S18_eq v0 v1 K w) h)

def S132 (v0 v1:Value) (K:Cont) (w:World):Prop:=
 newK 43 [(.int .i64 0),(.bool false),(.int .u8 0),(.bool false),(.bool false),(.int .i64 0)] (fun t4 w1=>
 pnilK v0 fun b9=>
 condK (.bool b9)
 (buildK [(0,1),(1,1),(2,1),(3,1),(4,1),(5,1)] [(.int .i64 0),(.bool false),(.int .u8 0),(.bool false),(.bool false),(.int .i64 0)] [] fun t10=>
 stnK 6 t4 t10 (fun w2=>
 ldnK 6 t4 (fun r0 w3=>
 K (.tuple #[r0,(.bool false)]) w3) w2) w1)
 (nilckK v0 fun t13=>
 faK 1 t13 fun t14=>
 ld1K t14 (fun t15 w4=>
 runK Tryz.prog (Instr.lookup 44 t15 v1 true) (fun t17 w5=>
 extK 0 t17 fun t18=>
 extK 1 t17 fun t19=>
 newK 43 [(.int .i64 0),(.bool false),(.int .u8 0),(.bool false),(.bool false),(.int .i64 0)] (fun t6 w6=>
 stnK 6 t6 t18 (fun w7=>
 ldnK 6 t6 (fun t20 w8=>
 stnK 6 t4 t20 (fun w9=>
 ldnK 6 t4 (fun r0_1 w10=>
 K (.tuple #[r0_1,t19]) w10) w9) w8) w7) w6) w5) w4) w1)) w
theorem S132_eq (v0 v1:Value) (K:Cont) (w:World):S132 v0 v1 K w=D Tryz.prog okf 22 (bodyOf Tryz.f132) (.node [] [] .nil (.node [] [] (.node [] [] .nil (.node [] [] (.node [] [] .nil .nil) .nil)) (.node [] [] .nil (.node [] [] .nil .nil)))) (retK Tryz.prog [.cell 4 43,.tmp 5] K) (nth [v0,v1]) w:=by kernel_rfl
theorem S132_ok {v0 v1:Value} {K:Cont} {w:World} (h:S132 v0 v1 K w):callK Tryz.prog 132 [v0,v1] K w:=
 callK_of (P:=Tryz.prog) (ok:=okf) (n:=22) (fn:=Tryz.f132) (c:=bodyOf Tryz.f132) (rs:=[.cell 4 43,.tmp 5]) (an:=(.node [] [] .nil (.node [] [] (.node [] [] .nil (.node [] [] (.node [] [] .nil .nil) .nil)) (.node [] [] .nil (.node [] [] .nil .nil))))) good mixed Tryz.func132 (by kernel_rfl) (by kernel_rfl) (by kernel_rfl) (by kernel_rfl) (Eq.mp (S132_eq v0 v1 K w) h)

def S41 (v0:Value) (K:Cont) (w:World):Prop:=
 neK .i64 v0 v0 fun t5=>
 K t5 w
theorem S41_eq (v0:Value) (K:Cont) (w:World):S41 v0 K w=D Tryz.prog okf 6 (bodyOf Tryz.f41) (.node [] [] .nil (.node [] [] .nil .nil)) (retK Tryz.prog [.tmp 2] K) (nth [v0]) w:=by kernel_rfl
theorem S41_ok {v0:Value} {K:Cont} {w:World} (h:S41 v0 K w):callK Tryz.prog 41 [v0] K w:=
 callK_of (P:=Tryz.prog) (ok:=okf) (n:=6) (fn:=Tryz.f41) (c:=bodyOf Tryz.f41) (rs:=[.tmp 2]) (an:=(.node [] [] .nil (.node [] [] .nil .nil))) good mixed Tryz.func41 (by kernel_rfl) (by kernel_rfl) (by kernel_rfl) (by kernel_rfl) (Eq.mp (S41_eq v0 K w) h)

end Go.Proofs.YtgmpbihbdbmhoaaGreatDoor

namespace Go.K
open Go

def MapI (w:World) (b:Nat) (l:List (Int × Value)):Prop:=∃ es clock,w.heap[b]?=some (.map es clock)∧es.toList.map (fun e=>(e.key,e.val))=l.map fun p=>(Value.int .i64 p.1,p.2)
theorem MapI.lt {w:World} {b:Nat} {l:List (Int × Value)} (h:MapI w b l):b < w.heap.size:=by
 obtain ⟨es,c,hb,_⟩:=h
 exact (Array.getElem?_eq_some_iff.1 hb).1
theorem MapI.mod {M:Nat→Prop} {w w':World} {b:Nat} {l:List (Int × Value)} (h:MapI w b l) (hm:Mod M w w') (hb:¬ M b):MapI w' b l:=by
 have hl:=h.lt
 obtain ⟨es,c,h1,h2⟩:=h
 exact ⟨es,c,(hm.same b hl hb).trans h1,h2⟩
theorem MapI.make (w:World):MapI (w.alloc (.map #[] 0)) w.heap.size []:=⟨#[],0,(MapKept.heap_alloc w _).1,rfl⟩

theorem findNow_int (k:Int):∀ (es:List MapEntry) (l:List (Int × Value)) (i:Nat),(es.map fun e=>(e.key,e.val))=(l.map fun p=>(Value.int .i64 p.1,p.2))→
  ∃ r,Instr.findNow (.int .i64) (.int .i64 k) es i=some r∧((r=none∧l.find? (fun p=>decide (p.1=k))=none)∨∃ j p,r=some (j,p.2)∧l.find? (fun p=>decide (p.1=k))=some p):=by
 intro es
 induction es with
 | nil=>
  intro l i h
  cases l with
  | nil=>exact ⟨none,rfl,.inl ⟨rfl,rfl⟩⟩
  | cons p l=>simp at h
 | cons e es ih=>
  intro l i h
  cases l with
  | nil=>simp at h
  | cons p l=>
   simp only [List.map_cons,List.cons.injEq,Prod.mk.injEq] at h
   obtain ⟨⟨h1,h2⟩,h3⟩:=h
   obtain ⟨r,hr,hiff⟩:=MapKept.sameNow_of_keys (d:=.int .i64) (a:=.int .i64 k) (b:=e.key) rfl (by rw [h1];rfl)
   rw [h1] at hiff
   cases r with
   | true=>
    have hk:k=p.1:=by have:=hiff.1 rfl;simpa using this
    exact ⟨some (i,e.val),by simp [Instr.findNow,hr],.inr ⟨i,p,by rw [h2],by simp [hk]⟩⟩
   | false=>
    have hk:¬ p.1=k:=fun e=>by have:=hiff.2 (by rw [e]);cases this
    obtain ⟨r,h4,h5⟩:=ih l (i+1) h3
    refine ⟨r,by simp [Instr.findNow,hr,h4],?_⟩
    simpa [List.find?_cons,hk] using h5
theorem isKeyI (k:Int):MapKept.IsKey (.int .i64) (.int .i64 k):=rfl
theorem map_lookup {P:Program} {t kt et:TypeId} {z:Value} {w:World} {b:Nat} {l:List (Int × Value)} (ht:P.underlying t=some (.map kt et)) (hk:P.underlying kt=some (.int .i64)) (hz:(zeroValue et).run P w=.ok z w) (h:MapI w b l) (k:Int) :
  (Instr.lookup t (.map (some b)) (.int .i64 k) true).run P w=.ok (.tuple #[((l.find? fun p=>decide (p.1=k)).map (·.2)).getD z,.bool (l.find? fun p=>decide (p.1=k)).isSome]) w:=by
 obtain ⟨es,clock,hb,he⟩:=h
 obtain ⟨r,h1,h2⟩:=findNow_int k es.toList l 0 he
 have hf:=MapKept.run_findKey (w:=w) hk h1
 have hc:=fun em=>MapKept.run_checkKey (w:=w) hk (isKeyI k) em 9999
 rcases h2 with ⟨rfl,h2⟩ | ⟨j,p,rfl,h2⟩
 ·simp [Instr.lookup,run_underlying ht,MapKept.run_getObj_map hb,hc,hf,hz,Result.andThen,h2]
 ·simp [Instr.lookup,run_underlying ht,MapKept.run_getObj_map hb,hc,hf,Result.andThen,h2]
theorem map_update {P:Program} {t kt et:TypeId} {w:World} {b:Nat} {l:List (Int × Value)} (ht:P.underlying t=some (.map kt et)) (hk:P.underlying kt=some (.int .i64)) (h:MapI w b l) (k:Int) (v:Value) (hn:l.find? (fun p=>decide (p.1=k))=none) :
  ∃ w',(Instr.mapUpdate t (.map (some b)) (.int .i64 k) v).run P w=.ok () w'∧MapI w' b (l++[(k,v)])∧Mod (fun x=>x=b) w w':=by
 obtain ⟨es,clock,hb,he⟩:=h
 obtain ⟨r,h1,h2⟩:=findNow_int k es.toList l 0 he
 have hf:=MapKept.run_findKey (w:=w) hk h1
 have hc:=fun em=>MapKept.run_checkKey (w:=w) hk (isKeyI k) em 9999
 rcases h2 with ⟨rfl,h2⟩ | ⟨j,p,rfl,h2⟩
 ·refine ⟨{ w with heap:=w.heap.setIfInBounds b (.map (es.push ⟨.int .i64 k,v,clock⟩) (clock+1)) },by simp [Instr.mapUpdate,run_underlying ht,MapKept.run_getObj_map hb,hc,hf,MapKept.run_setObj_map _ hb,Result.andThen],⟨_,_,(MapKept.heap_set hb).1,?_⟩,⟨rfl,rfl,rfl,by simp,fun x _ hx=>(MapKept.heap_set hb).2 x hx⟩⟩
  simp [he]
 ·rw [h2] at hn;cases hn
end Go.K

namespace Go.K
open Go
theorem pnilK_s {a:Addr} {K:Bool→Prop} (h:K false):pnilK (.pointer (some a)) K:=⟨_,rfl,h⟩
theorem condK_f {A B:Prop} (h:B):condK (.bool false) A B:=h
theorem condK_t {A B:Prop} (h:A):condK (.bool true) A B:=h
theorem nilckK_s {a:Addr} {K:Value→Prop} (h:K (.pointer (some a))):nilckK (.pointer (some a)) K:=⟨_,rfl,h⟩
end Go.K
namespace Go.Proofs.YtgmpbihbdbmhoaaGreatDoor
open Go Go.K

theorem elem_key:ElemOK Tryz.prog 22 43 6 24:=⟨Tryz.t43,.agg #[.int .i64 0,.bool false,.int .u8 0,.bool false,.bool false,.int .i64 0],by kernel_rfl,by kernel_rfl,by kernel_rfl,by kernel_rfl,by kernel_rfl,by rfl,by decide⟩
open Classical in
theorem may1_ok {k:DKey} {w:World}:callK Tryz.prog 15 [.agg k.cells.toArray] (fun v' w'=>v'=.bool (decide (KeyOK k))∧Grow w w') w:=by
 apply S15_ok
 unfold S15
 refine boxn_i fun b w1 _ _ g hc _=>?_
 have l0:=hc 0 _ rfl
 have l1:=hc 1 _ rfl
 have l2:=hc 2 _ rfl
 have l4:=hc 4 _ rfl
 have l5:=hc 5 _ rfl
 simp only [faK_i]
 have ans:∀ q:Bool,(q=true↔KeyOK k)→Value.bool q=.bool (decide (KeyOK k))∧Grow w w1:=fun q h=>⟨by congr 1;rw [Bool.eq_iff_iff,h,decide_eq_true_eq],g⟩
 refine JoinK_i (fun vs w2=>w2=w1∧∃ q:Bool,vs=[.bool q]∧(q=false↔1≤k.id∧k.id≤1000∧1≤k.kind∧k.kind≤4)) ?_ ?_
 ·rintro vs _ ⟨rfl,q,rfl,hq⟩ _
  rename World=>w1
  rw [nth_z,List.headD_cons]
  cases q with
  | true=>exact condK_t (ans false ⟨fun h=>(nomatch h),fun h=>by have:=hq.2 ⟨h.1,h.2.1,h.2.2.1,h.2.2.2.1⟩;cases this⟩)
  | false=>
   obtain ⟨h1,h2,h3,h4⟩:=hq.1 rfl
   refine condK_f (ld1K_i l1 ?_)
   cases hb:k.block with
   | true=>
    refine condK_t (ld1K_i l4 ?_)
    rw [notK_i]
    cases hf:k.before with
    | true=>exact condK_f (ans false ⟨fun h=>(nomatch h),fun h=>by have:=h.2.2.2.2.2.2.2 hb;rw [hf] at this;cases this⟩)
    | false=>
     refine condK_t (ld1K_i l5 ?_)
     rw [geK_i]
     refine condK_p (fun h5=>?_) fun h5=>ans false ⟨fun h=>(nomatch h),fun h=>by have:=h.2.2.2.2.1;omega⟩
     refine ld1K_i l5 ?_
     rw [leK_i]
     refine ans _ ?_
     rw [decide_eq_true_eq]
     exact ⟨fun h6=>⟨h1,h2,h3,h4,h5,h6,(fun e=>by rw [hb] at e;cases e),fun _=>hf⟩,fun h=>h.2.2.2.2.2.1⟩
   | false=>
    refine condK_f (ld1K_i l5 ?_)
    rw [eqK_i]
    refine ans _ ?_
    rw [decide_eq_true_eq]
    exact ⟨fun h6=>⟨h1,h2,h3,h4,by omega,by omega,fun _=>h6,fun e=>by rw [hb] at e;cases e⟩,fun h=>h.2.2.2.2.2.2.1 hb⟩
 ·refine ld1K_i l0 ?_
  rw [ltK_i]
  refine condK_p (fun h1=>⟨rfl,true,rfl,⟨fun h=>(nomatch h),fun h=>by omega⟩⟩) fun h1=>?_
  refine ld1K_i l0 ?_
  rw [gtK_i]
  refine condK_p (fun h2=>⟨rfl,true,rfl,⟨fun h=>(nomatch h),fun h=>by omega⟩⟩) fun h2=>?_
  refine ld1K_i l2 ?_
  rw [ltK_i]
  refine condK_p (fun h3=>⟨rfl,true,rfl,⟨fun h=>(nomatch h),fun h=>by omega⟩⟩) fun h3=>?_
  refine ld1K_i l2 ?_
  rw [gtK_i]
  refine ⟨rfl,_,rfl,?_⟩
  rw [decide_eq_false_iff_not]
  exact ⟨fun h=>by omega,fun h=>by omega⟩

theorem clone_key {S:Nat→Prop} {v:Value} {l:List DKey} {w:World} (h:RKeys S w v l) (hl:l.length≤1099511627776) :
  callK Tryz.prog 14 [v] (fun v' w'=>OwnR w.heap.size 43 6 RKey w' v' l∧Grow w w') w:=by
 apply S14_ok
 unfold S14
 exact clone_g (K:=fun v' w'=>OwnR w.heap.size 43 6 RKey w' v' l∧Grow w w') elem_key h (by omega) (fun _ _ _=>RKey.one) (fun _ _ _ _ _ _ h=>h) fun _ _ h g=>⟨h,g⟩

def cmpI (a b:Int):Int:=if a < b then -1 else if b < a then 1 else 0
theorem cmp_ok {a b:Int} {w:World}:callK Tryz.prog 18 [.int .i64 a,.int .i64 b] (fun v' w'=>v'=.int .i64 (cmpI a b)∧w'=w) w:=by
 have nan:∀ (c:Int) (K:Cont),K (.bool false) w→callK Tryz.prog 41 [.int .i64 c] K w:=by
  intro c K hK
  apply S41_ok
  unfold S41
  rw [neK_i]
  rw [show (!decide (c=c))=false by simp];exact hK
 apply S18_ok
 unfold S18
 refine nan _ _ (nan _ _ ?_)
 refine condK_f (condK_f ?_)
 rw [ltK_i]
 unfold cmpI
 refine condK_p (fun h=>⟨by rw [if_pos h],rfl⟩) fun h=>?_
 rw [gtK_i]
 exact condK_p (fun h2=>⟨by rw [if_neg h,if_pos h2],rfl⟩) fun h2=>⟨by rw [if_neg h,if_neg h2],rfl⟩

def SchR (D:Nat→Prop) (w:World) (v:Value) (ks:List DKey):Prop:=
 ∃ b m kv l,v=.pointer (some ⟨b,0,none⟩)∧D b∧D m∧w.cell? ⟨b,0,none⟩=some kv∧w.cell? ⟨b,1,none⟩=some (.map (some m))∧SlR D 6 RKey w kv ks∧MapI w m l∧
  ∀ id:Int,(l.find? fun p=>decide (p.1=id)).map (·.2)=(findK ks id).map fun k=>.agg k.cells.toArray
theorem SchR.mod {D M:Nat→Prop} {w w':World} {v:Value} {ks:List DKey} (h:SchR D w v ks) (hm:Mod M w w') (hd:∀ b,b < w.heap.size→D b→¬ M b):SchR D w' v ks:=by
 obtain ⟨b,m,kv,l,rfl,h1,h2,h3,h4,h5,h6,h7⟩:=h
 have hb:=World.block_lt_of_cell? w _ h3
 exact ⟨b,m,kv,l,rfl,h1,h2,hm.cell h3 (hd _ hb h1),hm.cell h4 (hd _ hb h1),h5.mod hm hd (by decide) fun _ _ h=>h,h6.mod hm (hd _ h6.lt h2),h7⟩
theorem SchR.grow {D:Nat→Prop} {w w':World} {v:Value} {ks:List DKey} (h:SchR D w v ks) (hm:Grow w w'):SchR D w' v ks:=h.mod hm fun _ _ _ h=>h
theorem zero_key (w:World):(zeroValue 43).run Tryz.prog w=.ok (.agg DKey.zero.cells.toArray) w:=run_zeroValue (by kernel_rfl) w
theorem sfind_ok {D:Nat→Prop} {v:Value} {ks:List DKey} {w:World} (h:SchR D w v ks) (id:Int) :
  callK Tryz.prog 132 [v,.int .i64 id] (fun v' w'=>v'=.tuple #[.agg ((findK ks id).getD DKey.zero).cells.toArray,.bool (findK ks id).isSome]∧Grow w w') w:=by
 apply S132_ok
 unfold S132
 obtain ⟨b,m,kv,l,rfl,_,_,h3,h4,h5,h6,h7⟩:=h
 refine newz_i fun b4 w1 hb4 hz4 g4 _ hl4=>?_
 refine pnilK_s (condK_f (nilckK_s ?_))
 rw [faK_i]
 refine ld1K_i (g4.cell (by rw [addr0];exact h4) fun h=>h) ?_
 refine runK_i (map_lookup Tryz.underlying44 Tryz.underlying3 (zero_key _) (h6.mod g4 fun h=>h) id) ?_
 have e1:((l.find? fun p=>decide (p.1=id)).map (·.2)).getD (.agg DKey.zero.cells.toArray)=.agg ((findK ks id).getD DKey.zero).cells.toArray:=by
  rw [h7];cases findK ks id <;> rfl
 have e2:(l.find? fun p=>decide (p.1=id)).isSome=(findK ks id).isSome:=by
  have:=congrArg Option.isSome (h7 id)
  simpa using this
 rw [e1,e2]
 refine extK_i (vs:=[_,_]) (by rfl) (extK_i (vs:=[_,_]) (by rfl) ?_)
 generalize (findK ks id).getD DKey.zero=k
 refine newst_n (vs:=k.cells) rfl rfl (RKey.one (w:=w) (x:=k) rfl) fun b6 w3 hb6 hz6 g6 hc6 _=>?_
 refine ldnK_i (vs:=k.cells) rfl hc6 ?_
 refine stn_over rfl (RKey.one (w:=w) (x:=k) rfl) (fun j hj=>(hl4 j hj).mod g6 fun h=>h) fun w4 m4 hc4 _=>?_
 refine ldnK_i (vs:=k.cells) rfl hc4 ⟨rfl,?_⟩
 exact (g4.trans g6).next m4 fun x hx e=>by omega
end Go.Proofs.YtgmpbihbdbmhoaaGreatDoor
