/- The plain law of patches: one behind the other, and on sets: the program's merges and the document's one by one agree where keys rise. No program in sight, no conditions. The plain law of normal forms: the program's maker and the document's form agree, and what holds of a form. No program in sight. The plain law of composing deltas: cut in ones; the maker that is told the parts comes to the same. No program in sight, no conditions. Contracts: the document's sets and patches that may be; keys that may be a schema's. Conditions: the sizes of texts. Contracts: keys that may be a schema's; how much a delta has; deltas that may be; what is tame. Conditions: the sizes. Contracts: deltas that may be; what is tame; whether deltas are alike. Conditions: the sizes. The plain law of composing deltas: what may be, composed, may be; how long it gets. No program in sight. By a program of ours: of each function below the predicate that its code comes to, and that it is sound. No conditions. By a program of ours: of each function below the predicate that its code comes to, and that it is sound. No conditions. Maps whose keys are ints, in memory. No conditions. A schema in memory; contracts of what reads it: Find, Len, Keys, Group; of one key by itself; of comparing keys. No conditions. -/
import Derived.Test.YtlbaopamhkmepaaGreatDoorZHistoryPlaysUpto2
import Derived.MapKept
namespace Go.Proofs.YtlbaopamhkmepaaGreatDoor
open Go Go.K

abbrev RisP (l:List Chg):Prop:=l.Pairwise fun a b=>a.key < b.key
abbrev RisS (l:List Attr):Prop:=l.Pairwise fun a b=>a.key < b.key
def putF (c:Chg) (a:List Chg × Bool) (x:Chg):List Chg × Bool:=
 ((if a.2=false∧c.key≤x.key then a.1++[c] else a.1)++(if x.key=c.key then [] else [x]),a.2 || decide (c.key≤x.key))
def endF (c:Chg) (a:List Chg × Bool):List Chg:=if a.2 then a.1 else a.1++[c]
def putP (p:List Chg) (c:Chg):List Chg:=endF c (p.foldl (putF c) ([],false))
def rcomP (p q:List Chg):List Chg:=q.foldl putP p
def lowC (c:Chg):List Chg→List Chg
 | []=>[]
 | a :: p=>if a.key≤c.key then (if a.key < c.key then a :: lowC c p else lowC c p) else []
def highC (c:Chg):List Chg→List Chg
 | []=>[]
 | a :: p=>if a.key≤c.key then highC c p else a :: p
def comP:List Chg→List Chg→List Chg
 | p,[]=>p
 | p,c :: q=>lowC c p++c :: comP (highC c p) q
theorem putF_pre (c:Chg):∀ (b o:List Chg) (f:Bool),b.foldl (putF c) (o,f)=(o++(b.foldl (putF c) ([],f)).1,(b.foldl (putF c) ([],f)).2):=by
 intro b
 induction b with
 | nil=>intro o f;simp
 | cons x b ih=>
  intro o f
  simp only [List.foldl_cons]
  have e:∀ o:List Chg,putF c (o,f) x=(o++(putF c ([],f) x).1,(putF c ([],f) x).2):=by
   intro o
   simp only [putF]
   split <;> simp
  rw [e o,ih,ih (putF c ([],f) x).1]
  simp
theorem putF_low (c:Chg):∀ (a:List Chg),(∀ x ∈ a,x.key < c.key)→a.foldl (putF c) ([],false)=(a,false):=by
 intro a
 induction a with
 | nil=>intro _;rfl
 | cons x a ih=>
  intro h
  have hx:=h x (by simp)
  have e:putF c ([],false) x=([x],false):=by
   simp only [putF]
   rw [if_neg (by omega),if_neg (by omega),decide_eq_false (by omega)];rfl
  rw [List.foldl_cons,e,putF_pre,ih fun y hy=>h y (by simp [hy])]
  simp
theorem putP_low {a b:List Chg} {c:Chg} (h:∀ x ∈ a,x.key < c.key):putP (a++b) c=a++putP b c:=by
 unfold putP
 rw [List.foldl_append,putF_low c a h,putF_pre]
 unfold endF
 simp only
 split <;> simp
theorem putF_in (c:Chg):∀ (b o:List Chg),(∀ x ∈ b,c.key < x.key)→b.foldl (putF c) (o,true)=(o++b,true):=by
 intro b
 induction b with
 | nil=>intro o _;simp
 | cons x b ih=>
  intro o h
  have hx:=h x (by simp)
  have e:putF c (o,true) x=(o++[x],true):=by
   simp only [putF]
   rw [if_neg (by simp),if_neg (by omega)];rfl
  rw [List.foldl_cons,e,ih _ fun y hy=>h y (by simp [hy])]
  simp
theorem putP_high {b:List Chg} {c:Chg} (h:∀ x ∈ b,c.key < x.key):putP b c=c :: b:=by
 cases b with
 | nil=>rfl
 | cons x b=>
  have hx:=h x (by simp)
  have e:putF c ([],false) x=([c,x],true):=by
   simp only [putF]
   rw [if_pos (by exact ⟨trivial,by omega⟩),if_neg (by omega),decide_eq_true (by omega)];rfl
  unfold putP
  rw [List.foldl_cons,e,putF_in c b _ fun y hy=>h y (by simp [hy])]
  rfl
theorem putP_same {x:Chg} {b:List Chg} {c:Chg} (hx:x.key=c.key) (h:∀ x ∈ b,c.key < x.key):putP (x :: b) c=c :: b:=by
 have e:putF c ([],false) x=([c],true):=by
  simp only [putF]
  rw [if_pos (by exact ⟨trivial,by omega⟩),if_pos hx,decide_eq_true (by omega)];rfl
 unfold putP
 rw [List.foldl_cons,e,putF_in c b _ h]
 rfl
theorem low_high {c:Chg} {b:List Chg} (h:∀ x ∈ b,c.key < x.key):lowC c b=[]∧highC c b=b:=by
 cases b with
 | nil=>exact ⟨rfl,rfl⟩
 | cons x b=>
  have hx:=h x (by simp)
  simp only [lowC,highC]
  rw [if_neg (by omega),if_neg (by omega)]
  exact ⟨rfl,rfl⟩
theorem put_com {p:List Chg} {c:Chg} (h:RisP p):putP p c=lowC c p++c :: highC c p:=by
 induction p with
 | nil=>rfl
 | cons a p ih=>
  rw [RisP,List.pairwise_cons] at h
  obtain ⟨h1,h2⟩:=h
  rcases Int.lt_trichotomy a.key c.key with hlt | heq | hgt
  ·simp only [lowC,highC]
   rw [if_pos (by omega),if_pos hlt,if_pos (by omega),show a :: p=[a]++p from rfl,putP_low (by simpa using hlt),ih h2]
   rfl
  ·have hp:∀ x ∈ p,c.key < x.key:=fun x hx=>by have:=h1 x hx;omega
   obtain ⟨e1,e2⟩:=low_high hp
   simp only [lowC,highC]
   rw [if_pos (by omega),if_neg (by omega),if_pos (by omega),putP_same heq hp,e1,e2]
   rfl
  ·have hp:∀ x ∈ a :: p,c.key < x.key:=fun x hx=>by
    rcases List.mem_cons.1 hx with rfl | hx
    ·exact hgt
    ·have:=h1 x hx;omega
   obtain ⟨e1,e2⟩:=low_high hp
   rw [putP_high hp,e1,e2];rfl
theorem lowC_mem {c:Chg} {p:List Chg} {x:Chg} (h:x ∈ lowC c p):x ∈ p∧x.key < c.key:=by
 induction p with
 | nil=>simp [lowC] at h
 | cons a p ih=>
  simp only [lowC] at h
  split at h
  ·split at h
   ·rcases List.mem_cons.1 h with rfl | h
    ·exact ⟨by simp,by assumption⟩
    ·exact ⟨by simp [(ih h).1],(ih h).2⟩
   ·exact ⟨by simp [(ih h).1],(ih h).2⟩
  ·simp at h
theorem highC_mem {c:Chg} {p:List Chg} {x:Chg} (h:x ∈ highC c p):x ∈ p:=by
 induction p with
 | nil=>simp [highC] at h
 | cons a p ih=>
  simp only [highC] at h
  split at h
  ·simp [ih h]
  ·exact h
theorem highC_gt {c:Chg} {p:List Chg} (hp:RisP p) {x:Chg} (h:x ∈ highC c p):c.key < x.key:=by
 induction p with
 | nil=>simp [highC] at h
 | cons a p ih=>
  rw [RisP,List.pairwise_cons] at hp
  simp only [highC] at h
  split at h
  ·exact ih hp.2 h
  ·rcases List.mem_cons.1 h with rfl | h
   ·omega
   ·have:=hp.1 x h;omega
theorem lowC_ris {c:Chg} {p:List Chg} (hp:RisP p):RisP (lowC c p):=by
 induction p with
 | nil=>exact List.Pairwise.nil
 | cons a p ih=>
  rw [RisP,List.pairwise_cons] at hp
  simp only [lowC]
  split
  ·split
   ·exact List.pairwise_cons.2 ⟨fun x hx=>hp.1 x (lowC_mem hx).1,ih hp.2⟩
   ·exact ih hp.2
  ·exact List.Pairwise.nil
theorem highC_ris {c:Chg} {p:List Chg} (hp:RisP p):RisP (highC c p):=by
 induction p with
 | nil=>exact List.Pairwise.nil
 | cons a p ih=>
  have hp':=hp
  rw [RisP,List.pairwise_cons] at hp
  simp only [highC]
  split
  ·exact ih hp.2
  ·exact hp'
theorem comP_mem {p q:List Chg} {x:Chg} (h:x ∈ comP p q):x ∈ p∨x ∈ q:=by
 induction q generalizing p with
 | nil=>exact .inl h
 | cons c q ih=>
  simp only [comP] at h
  rcases List.mem_append.1 h with h | h
  ·exact .inl (lowC_mem h).1
  ·rcases List.mem_cons.1 h with rfl | h
   ·exact .inr (by simp)
   ·rcases ih h with h | h
    ·exact .inl (highC_mem h)
    ·exact .inr (by simp [h])
theorem comP_ris {p q:List Chg} (hp:RisP p) (hq:RisP q):RisP (comP p q):=by
 induction q generalizing p with
 | nil=>exact hp
 | cons c q ih=>
  rw [RisP,List.pairwise_cons] at hq
  simp only [comP]
  have gt:∀ x ∈ comP (highC c p) q,c.key < x.key:=fun x hx=>by
   rcases comP_mem hx with h | h
   ·exact highC_gt hp h
   ·exact hq.1 x h
  refine List.pairwise_append.2 ⟨lowC_ris hp,List.pairwise_cons.2 ⟨gt,ih (highC_ris hp) hq.2⟩,fun a ha b hb=>?_⟩
  have:=(lowC_mem ha).2
  rcases List.mem_cons.1 hb with rfl | hb
  ·exact this
  ·have:=gt b hb;omega
theorem rcom_low {a:List Chg}:∀ {q b:List Chg},(∀ x ∈ a,∀ c ∈ q,x.key < c.key)→rcomP (a++b) q=a++rcomP b q:=by
 intro q
 induction q with
 | nil=>intro b _;rfl
 | cons c q ih=>
  intro b h
  unfold rcomP at ih ⊢
  rw [List.foldl_cons,List.foldl_cons,putP_low fun x hx=>h x hx c (by simp)]
  exact ih fun x hx c hc=>h x hx c (by simp [hc])
theorem rcom_eq {p q:List Chg} (hp:RisP p) (hq:RisP q):rcomP p q=comP p q:=by
 induction q generalizing p with
 | nil=>rfl
 | cons c q ih=>
  rw [RisP,List.pairwise_cons] at hq
  simp only [comP]
  rw [←ih (highC_ris hp) hq.2]
  show rcomP (putP p c) q=_
  rw [put_com hp,show lowC c p++c :: highC c p=(lowC c p++[c])++highC c p by simp,rcom_low]
  ·simp
  ·intro x hx d hd
   have:=hq.1 d hd
   rcases List.mem_append.1 hx with h | h
   ·have:=(lowC_mem h).2;omega
   ·simp at h;subst h;exact this

def lowA (c:Chg):List Attr→List Attr
 | []=>[]
 | a :: s=>if a.key < c.key then a :: lowA c s else []
def highA (c:Chg):List Attr→List Attr
 | []=>[]
 | a :: s=>if a.key < c.key then highA c s else if a.key=c.key then s else a :: s
def midA (c:Chg):List Attr:=if c.gone then [] else [⟨c.key,c.val⟩]
def appP:List Attr→List Chg→List Attr
 | s,[]=>s
 | s,c :: p=>lowA c s++midA c++appP (highA c s) p
def without (l:List Attr) (k:Int):List Attr:=l.filter fun a=>decide (a.key≠k)
def withF (a:Attr) (o:List Attr × Bool) (x:Attr):List Attr × Bool:=((if o.2=false∧a.key < x.key then o.1++[a] else o.1)++[x],o.2 || decide (a.key < x.key))
def endA (a:Attr) (o:List Attr × Bool):List Attr:=if o.2 then o.1 else o.1++[a]
def withA (l:List Attr) (a:Attr):List Attr:=endA a ((without l a.key).foldl (withF a) ([],false))
def putA (s:List Attr) (c:Chg):List Attr:=if c.gone then without s c.key else withA s ⟨c.key,c.val⟩
def rappP (s:List Attr) (p:List Chg):List Attr:=p.foldl putA s
theorem without_low {a b:List Attr} {k:Int} (h:∀ x ∈ a,x.key < k):without (a++b) k=a++without b k:=by
 unfold without
 rw [List.filter_append,List.filter_eq_self.2]
 intro x hx
 have:=h x hx
 simp;omega
theorem withF_pre (c:Attr):∀ (b o:List Attr) (f:Bool),b.foldl (withF c) (o,f)=(o++(b.foldl (withF c) ([],f)).1,(b.foldl (withF c) ([],f)).2):=by
 intro b
 induction b with
 | nil=>intro o f;simp
 | cons x b ih=>
  intro o f
  simp only [List.foldl_cons]
  have e:∀ o:List Attr,withF c (o,f) x=(o++(withF c ([],f) x).1,(withF c ([],f) x).2):=by
   intro o
   simp only [withF]
   split <;> simp
  rw [e o,ih,ih (withF c ([],f) x).1]
  simp
theorem withF_low (c:Attr):∀ (a:List Attr),(∀ x ∈ a,x.key < c.key)→a.foldl (withF c) ([],false)=(a,false):=by
 intro a
 induction a with
 | nil=>intro _;rfl
 | cons x a ih=>
  intro h
  have hx:=h x (by simp)
  have e:withF c ([],false) x=([x],false):=by
   simp only [withF]
   rw [if_neg (by omega),decide_eq_false (by omega)];rfl
  rw [List.foldl_cons,e,withF_pre,ih fun y hy=>h y (by simp [hy])]
  simp
theorem withF_in (c:Attr):∀ (b o:List Attr),b.foldl (withF c) (o,true)=(o++b,true):=by
 intro b
 induction b with
 | nil=>intro o;simp
 | cons x b ih=>
  intro o
  have e:withF c (o,true) x=(o++[x],true):=by simp [withF]
  rw [List.foldl_cons,e,ih]
  simp
theorem withA_low {a b:List Attr} {c:Attr} (h:∀ x ∈ a,x.key < c.key):withA (a++b) c=a++withA b c:=by
 unfold withA
 rw [without_low h,List.foldl_append,withF_low c a h,withF_pre]
 unfold endA
 simp only
 split <;> simp
theorem without_high {b:List Attr} {k:Int} (h:∀ x ∈ b,k < x.key):without b k=b:=by
 unfold without
 rw [List.filter_eq_self]
 intro x hx
 have:=h x hx
 simp;omega
theorem withA_of {b b':List Attr} {c:Attr} (e:without b c.key=b') (h:∀ x ∈ b',c.key < x.key):withA b c=c :: b':=by
 unfold withA
 rw [e]
 cases b' with
 | nil=>rfl
 | cons x b'=>
  have hx:=h x (by simp)
  have e:withF c ([],false) x=([c,x],true):=by
   simp only [withF]
   rw [if_pos (by exact ⟨trivial,hx⟩),decide_eq_true hx];rfl
  rw [List.foldl_cons,e,withF_in]
  rfl
theorem putA_low {a b:List Attr} {c:Chg} (h:∀ x ∈ a,x.key < c.key):putA (a++b) c=a++putA b c:=by
 unfold putA
 split
 ·exact without_low h
 ·exact withA_low (c:=⟨c.key,c.val⟩) h
theorem highA_hi {c:Chg} {b:List Attr} (h:∀ x ∈ b,c.key < x.key):lowA c b=[]∧highA c b=b:=by
 cases b with
 | nil=>exact ⟨rfl,rfl⟩
 | cons x b=>
  have hx:=h x (by simp)
  simp only [lowA,highA]
  rw [if_neg (by omega),if_neg (by omega),if_neg (by omega)]
  exact ⟨rfl,rfl⟩
theorem putA_of {b b':List Attr} {c:Chg} (e:without b c.key=b') (h:∀ x ∈ b',c.key < x.key):putA b c=midA c++b':=by
 unfold putA midA
 split
 ·exact e
 ·exact withA_of (c:=⟨c.key,c.val⟩) e h
theorem putA_eq {s:List Attr} {c:Chg} (h:RisS s):putA s c=lowA c s++midA c++highA c s:=by
 induction s with
 | nil=>simp [putA,midA,lowA,highA,without,withA,endA]
 | cons a s ih=>
  rw [RisS,List.pairwise_cons] at h
  obtain ⟨h1,h2⟩:=h
  rcases Int.lt_trichotomy a.key c.key with hlt | heq | hgt
  ·simp only [lowA,highA]
   rw [if_pos hlt,if_pos hlt,show a :: s=[a]++s from rfl,putA_low (by simpa using hlt),ih h2]
   rfl
  ·have hs:∀ x ∈ s,c.key < x.key:=fun x hx=>by have:=h1 x hx;omega
   simp only [lowA,highA]
   rw [if_neg (by omega),if_neg (by omega),if_pos heq]
   refine (putA_of (b':=s) ?_ hs).trans (by simp)
   have:=without_high hs
   unfold without at this ⊢
   rw [List.filter_cons,if_neg (by simp [heq]),this]
  ·have hs:∀ x ∈ a :: s,c.key < x.key:=fun x hx=>by
    rcases List.mem_cons.1 hx with rfl | hx
    ·exact hgt
    ·have:=h1 x hx;omega
   obtain ⟨e1,e2⟩:=highA_hi hs
   rw [e1,e2]
   exact (putA_of (without_high hs) hs).trans (by simp)
theorem lowA_mem {c:Chg} {p:List Attr} {x:Attr} (h:x ∈ lowA c p):x ∈ p∧x.key < c.key:=by
 induction p with
 | nil=>simp [lowA] at h
 | cons a p ih=>
  simp only [lowA] at h
  split at h
  ·rcases List.mem_cons.1 h with rfl | h
   ·exact ⟨by simp,by assumption⟩
   ·exact ⟨by simp [(ih h).1],(ih h).2⟩
  ·simp at h
theorem highA_mem {c:Chg} {p:List Attr} {x:Attr} (h:x ∈ highA c p):x ∈ p:=by
 induction p with
 | nil=>simp [highA] at h
 | cons a p ih=>
  simp only [highA] at h
  split at h
  ·simp [ih h]
  ·split at h
   ·simp [h]
   ·exact h
theorem highA_gt {c:Chg} {p:List Attr} (hp:RisS p) {x:Attr} (h:x ∈ highA c p):c.key < x.key:=by
 induction p with
 | nil=>simp [highA] at h
 | cons a p ih=>
  rw [RisS,List.pairwise_cons] at hp
  simp only [highA] at h
  split at h
  ·exact ih hp.2 h
  ·split at h
   ·have:=hp.1 x h;omega
   ·rcases List.mem_cons.1 h with rfl | h
    ·omega
    ·have:=hp.1 x h;omega
theorem lowA_ris {c:Chg} {p:List Attr} (hp:RisS p):RisS (lowA c p):=by
 induction p with
 | nil=>exact List.Pairwise.nil
 | cons a p ih=>
  rw [RisS,List.pairwise_cons] at hp
  simp only [lowA]
  split
  ·exact List.pairwise_cons.2 ⟨fun x hx=>hp.1 x (lowA_mem hx).1,ih hp.2⟩
  ·exact List.Pairwise.nil
theorem highA_ris {c:Chg} {p:List Attr} (hp:RisS p):RisS (highA c p):=by
 induction p with
 | nil=>exact List.Pairwise.nil
 | cons a p ih=>
  have hp':=hp
  rw [RisS,List.pairwise_cons] at hp
  simp only [highA]
  split
  ·exact ih hp.2
  ·split
   ·exact hp.2
   ·exact hp'
theorem midA_mem {c:Chg} {x:Attr} (h:x ∈ midA c):c.gone=false∧x=⟨c.key,c.val⟩:=by
 unfold midA at h
 split at h
 ·simp at h
 ·rename_i hg;exact ⟨by simpa using hg,by simpa using h⟩
theorem appP_mem {s:List Attr} {p:List Chg} {x:Attr} (h:x ∈ appP s p):x ∈ s∨∃ c ∈ p,c.gone=false∧x=⟨c.key,c.val⟩:=by
 induction p generalizing s with
 | nil=>exact .inl h
 | cons c p ih=>
  simp only [appP] at h
  rcases List.mem_append.1 h with h | h
  ·rcases List.mem_append.1 h with h | h
   ·exact .inl (lowA_mem h).1
   ·exact .inr ⟨c,by simp,midA_mem h⟩
  ·rcases ih h with h | ⟨d,hd,h⟩
   ·exact .inl (highA_mem h)
   ·exact .inr ⟨d,by simp [hd],h⟩
theorem appP_ris {s:List Attr} {p:List Chg} (hs:RisS s) (hp:RisP p):RisS (appP s p):=by
 induction p generalizing s with
 | nil=>exact hs
 | cons c p ih=>
  rw [RisP,List.pairwise_cons] at hp
  simp only [appP]
  have gt:∀ x ∈ appP (highA c s) p,c.key < x.key:=fun x hx=>by
   rcases appP_mem hx with h | ⟨d,hd,_,rfl⟩
   ·exact highA_gt hs h
   ·exact hp.1 d hd
  refine List.pairwise_append.2 ⟨List.pairwise_append.2 ⟨lowA_ris hs,?_,fun a ha b hb=>?_⟩,ih (highA_ris hs) hp.2,fun a ha b hb=>?_⟩
  ·unfold midA;split
   ·exact List.Pairwise.nil
   ·exact List.pairwise_singleton _ _
  ·obtain ⟨_,rfl⟩:=midA_mem hb
   exact (lowA_mem ha).2
  ·have h2:=gt b hb
   rcases List.mem_append.1 ha with h | h
   ·have:=(lowA_mem h).2;omega
   ·obtain ⟨_,rfl⟩:=midA_mem h
    exact h2
theorem rapp_low {a:List Attr}:∀ {p:List Chg} {b:List Attr},(∀ x ∈ a,∀ c ∈ p,x.key < c.key)→rappP (a++b) p=a++rappP b p:=by
 intro p
 induction p with
 | nil=>intro b _;rfl
 | cons c p ih=>
  intro b h
  unfold rappP at ih ⊢
  rw [List.foldl_cons,List.foldl_cons,putA_low fun x hx=>h x hx c (by simp)]
  exact ih fun x hx c hc=>h x hx c (by simp [hc])
theorem rapp_eq {s:List Attr} {p:List Chg} (hs:RisS s) (hp:RisP p):rappP s p=appP s p:=by
 induction p generalizing s with
 | nil=>rfl
 | cons c p ih=>
  rw [RisP,List.pairwise_cons] at hp
  simp only [appP]
  rw [←ih (highA_ris hs) hp.2]
  show rappP (putA s c) p=_
  rw [putA_eq hs,rapp_low]
  intro x hx d hd
  have:=hp.1 d hd
  rcases List.mem_append.1 hx with h | h
  ·have:=(lowA_mem h).2;omega
  ·obtain ⟨_,rfl⟩:=midA_mem h
   exact this
theorem few {α:Type} {key:α→Int} {l:List α} {ids:List Int} (h:l.Pairwise fun a b=>key a < key b) (hm:∀ x ∈ l,key x ∈ ids):l.length≤ids.length:=by
 induction l generalizing ids with
 | nil=>simp
 | cons a l ih=>
  rw [List.pairwise_cons] at h
  have ha:=hm a (by simp)
  have:=ih (ids:=ids.erase (key a)) h.2 fun x hx=>by
   rw [List.mem_erase_of_ne]
   ·exact hm x (by simp [hx])
   ·have:=h.1 x hx;omega
  rw [List.length_erase_of_mem ha] at this
  have:0 < ids.length:=List.length_pos_of_mem ha
  simp only [List.length_cons]
  omega
theorem ris_pw {α:Type} {key:α→Int} {l:List α} (h:∀ i,1≤i→i < l.length→∀ a b,l[i - 1]?=some a→l[i]?=some b→key a < key b):l.Pairwise fun a b=>key a < key b:=by
 rw [List.pairwise_iff_getElem]
 intro i j hi hj hij
 obtain ⟨d,rfl⟩:∃ d,j=i+1+d:=⟨j - i - 1,by omega⟩
 clear hij
 induction d with
 | zero=>exact h (i+1) (by omega) hj _ _ (by simp) (List.getElem?_eq_getElem hj)
 | succ d ih=>
  have:=ih (by omega)
  have:=h (i+1+d+1) (by omega) hj (l[i+1+d]'(by omega)) _ (by simp) (List.getElem?_eq_getElem hj)
  simp only [Nat.add_assoc] at *
  omega
theorem pw_ris {α:Type} {key:α→Int} {l:List α} (h:l.Pairwise fun a b=>key a < key b):∀ i,1≤i→i < l.length→∀ a b,l[i - 1]?=some a→l[i]?=some b→key a < key b:=by
 intro i h1 h2 a b ha hb
 rw [List.pairwise_iff_getElem] at h
 have:=h (i - 1) i (by omega) h2 (by omega)
 rw [List.getElem?_eq_getElem (by omega)] at ha
 rw [List.getElem?_eq_getElem h2] at hb
 cases ha;cases hb;exact this
end Go.Proofs.YtlbaopamhkmepaaGreatDoor

namespace Go.Proofs.YtlbaopamhkmepaaGreatDoor
open Go Go.K

structure MkS where
 done:List Dop
 ins:List Dop
 gone:Int
def MkS.z:MkS:=⟨[],[],0⟩
def gapL (ins:List Dop) (gone:Int):List Dop:=if 0 < gone then ins++[⟨3,gone,[],[],[]⟩] else ins
def putS (d:List Dop) (n:Int) (p:List Chg):List Dop:=
 match d.getLast? with
 | some o=>if o.kind=1∧o.patch=p then d.set (d.length - 1) ⟨o.kind,IntKind.i64.wrap (o.n+n),o.runes,o.set,o.patch⟩ else d++[⟨1,n,[],[],p⟩]
 | none=>d++[⟨1,n,[],[],p⟩]
def retS (s:MkS) (n:Int) (p:List Chg):MkS:=if n < 1 then s else ⟨putS (s.done++gapL s.ins s.gone) n p,[],0⟩
def addI (ins:List Dop) (rs:List Int) (set:List Attr):List Dop:=
 match ins.getLast? with
 | some o=>if o.set=set then ins.set (ins.length - 1) ⟨o.kind,o.n,o.runes++rs,o.set,o.patch⟩ else ins++[⟨2,0,rs,set,[]⟩]
 | none=>ins++[⟨2,0,rs,set,[]⟩]
def insS (s:MkS) (rs:List Int) (set:List Attr):MkS:=if rs=[] then s else ⟨s.done,addI s.ins rs set,s.gone⟩
def delS (s:MkS) (n:Int):MkS:=⟨s.done,s.ins,IntKind.i64.wrap (s.gone+maxI n 0)⟩
def stepS (s:MkS) (o:Dop):MkS:=if o.kind=1 then retS s o.n o.patch else if o.kind=2 then insS s o.runes o.set else delS s o.n
def trimL (l:List Dop):List Dop:=match l.getLast? with | some o=>if o.kind=1∧o.patch=[] then l.dropLast else l | none=>l
def opsS (s:MkS):List Dop:=trimL (s.done++gapL s.ins s.gone)
def runS (x:List Dop):MkS:=x.foldl stepS MkS.z
def normB (x:List Dop):List Dop:=opsS (runS x)

def rgapF (a:List Dop × Int) (o:Dop):List Dop × Int:=
 if o.kind=3 then (a.1,IntKind.i64.wrap (a.2+o.n)) else
 match a.1.getLast? with
 | some q=>if q.set=o.set then (a.1.set (a.1.length - 1) ⟨q.kind,q.n,q.runes++o.runes,q.set,q.patch⟩,a.2) else (a.1++[o],a.2)
 | none=>(a.1++[o],a.2)
def rgap (x:List Dop):List Dop:=gapL (x.foldl rgapF ([],0)).1 (x.foldl rgapF ([],0)).2
def rput (d:List Dop) (o:Dop):List Dop:=
 match d.getLast? with
 | some q=>if q.kind=1∧q.patch=o.patch then d.set (d.length - 1) ⟨q.kind,IntKind.i64.wrap (q.n+o.n),q.runes,q.set,q.patch⟩ else d++[o]
 | none=>d++[o]
def rofF (a:List Dop × List Dop) (o:Dop):List Dop × List Dop:=if o.kind=1 then (rput (a.1++rgap a.2) o,[]) else (a.1,a.2++[o])
def rof (x:List Dop):List Dop:=trimL ((x.foldl rofF ([],[])).1++rgap (x.foldl rofF ([],[])).2)

def Form1 (o:Dop):Prop:=(o.kind=1∧o.runes=[]∧o.set=[]∧1≤o.n∧o.n≤536870912)∨(o.kind=3∧o.runes=[]∧o.set=[]∧o.patch=[]∧1≤o.n∧o.n≤536870912)∨(o.kind=2∧o.n=0∧o.patch=[]∧o.runes≠[])
theorem norm_rel (x:List Dop) (h:∀ o ∈ x,Form1 o):(runS x).done=(x.foldl rofF ([],[])).1∧((runS x).ins,(runS x).gone)=(x.foldl rofF ([],[])).2.foldl rgapF ([],0):=by
 induction x using rev_ind with
 | h0=>exact ⟨rfl,rfl⟩
 | h1 x o ih=>
  obtain ⟨h1,h2⟩:=ih fun o ho=>h o (by simp [ho])
  have ho:=h o (by simp)
  unfold runS at h1 h2 ⊢
  simp only [List.foldl_append,List.foldl_cons,List.foldl_nil]
  generalize x.foldl stepS MkS.z=s at h1 h2 ⊢
  generalize x.foldl rofF ([],[])=a at h1 h2 ⊢
  obtain ⟨done,ins,gone⟩:=s
  obtain ⟨out,seg⟩:=a
  obtain ⟨k,n,rs,set,p⟩:=o
  simp only at h1 h2
  subst h1
  rcases ho with ⟨e1,e2,e3,e4,e5⟩ | ⟨e1,e2,e3,e4,e5,e6⟩ | ⟨e1,e2,e3,e4⟩
  ·simp only at e1 e2 e3 e4 e5
   subst e1;subst e2;subst e3
   have hgap:gapL ins gone=rgap seg:=by unfold rgap;rw [←h2]
   simp only [stepS,rofF,if_true,retS,if_neg (show ¬ n < 1 by omega),hgap]
   exact ⟨rfl,rfl⟩
  ·simp only at e1 e2 e3 e4 e5 e6
   subst e1;subst e2;subst e3;subst e4
   have:maxI n 0=n:=by unfold maxI;rw [if_neg (by omega)]
   simp only [stepS,rofF,show ¬ (3:Int)=1 by decide,show ¬ (3:Int)=2 by decide,if_false,List.foldl_append,List.foldl_cons,List.foldl_nil,delS,this]
   refine ⟨trivial,?_⟩
   rw [←h2]
   simp only [rgapF,if_true]
  ·simp only at e1 e2 e3 e4
   subst e1;subst e2;subst e3
   simp only [stepS,rofF,show ¬ (2:Int)=1 by decide,if_true,if_false,List.foldl_append,List.foldl_cons,List.foldl_nil,insS,if_neg e4,addI]
   refine ⟨trivial,?_⟩
   rw [←h2]
   simp only [rgapF,show ¬ (2:Int)=3 by decide,if_false]
   cases ins.getLast? with
   | none=>rfl
   | some q=>simp only;split <;> rfl
theorem norm_eq (x:List Dop) (h:∀ o ∈ x,Form1 o):normB x=rof x:=by
 obtain ⟨h1,h2⟩:=norm_rel x h
 unfold normB opsS rof rgap
 rw [h1,←h2]

end Go.Proofs.YtlbaopamhkmepaaGreatDoor

namespace Go.Proofs.YtlbaopamhkmepaaGreatDoor
open Go Go.K

def lenN (o:Dop):Nat:=if o.kind=2 then o.runes.length else o.n.toNat
def ones (o:Dop):List Dop:=if o.kind=2 then o.runes.map fun r=>⟨2,0,[r],o.set,o.patch⟩ else List.replicate o.n.toNat ⟨o.kind,1,[],o.set,o.patch⟩
def onesL (x:List Dop):List Dop:=x.flatMap ones
def refC (one:Dop→Dop→List Dop):List Dop→List Dop→List Dop
 | a,[]=>a
 | a,c :: b=>if c.kind=2 then c :: refC one a b else
   a.takeWhile (fun o=>decide (o.kind=3)) ++
   match a.dropWhile (fun o=>decide (o.kind=3)) with
   | []=>one ⟨1,1,[],[],[]⟩ c++refC one [] b
   | u :: a=>one u c++refC one a b
theorem wrapI_add (a b:Int):IntKind.i64.wrap (IntKind.i64.wrap a+b)=IntKind.i64.wrap (a+b):=by
 simp only [IntKind.wrap,IntKind.bits,IntKind.signed]
 simp
 omega
theorem wrapI_in {x:Int} (h0:0≤x) (h1:x≤1099511627776):IntKind.i64.wrap x=x:=by
 simp only [IntKind.wrap,IntKind.bits,IntKind.signed]
 simp
 omega
theorem del_two (s:MkS) {a b:Int} (ha:0≤a) (hb:0≤b):delS (delS s a) b=delS s (a+b):=by
 unfold delS maxI
 rw [if_neg (by omega),if_neg (by omega),if_neg (by omega)]
 simp only [wrapI_add,Int.add_assoc]
theorem ins_two (s:MkS) (a b:List Int) (set:List Attr):insS (insS s a set) b set=insS s (a++b) set:=by
 unfold insS
 by_cases ha:a=[]
 ·subst ha;simp
 by_cases hb:b=[]
 ·subst hb;simp [ha]
 rw [if_neg ha,if_neg hb,if_neg (by simp [ha])]
 have e:addI (addI s.ins a set) b set=addI s.ins (a++b) set:=by
  generalize s.ins=ins
  unfold addI
  rcases List.eq_nil_or_concat ins with rfl | ⟨i,o,rfl⟩
  ·simp
  ·simp only [List.concat_eq_append,List.getLast?_append,List.getLast?_singleton,Option.some_or]
   by_cases e:o.set=set
   ·simp [e]
   ·simp [e]
 simp only [e]
theorem ret_two (s:MkS) {a b:Int} (ha:1≤a) (hb:1≤b) (hab:a+b≤1099511627776) (p:List Chg):retS (retS s a p) b p=retS s (a+b) p:=by
 unfold retS
 rw [if_neg (by omega),if_neg (by omega),if_neg (by omega)]
 simp only [gapL,Int.lt_irrefl,if_false,List.append_nil]
 generalize s.done++(if 0 < s.gone then s.ins++[⟨3,s.gone,[],[],[]⟩] else s.ins)=d
 congr 1
 unfold putS
 rcases List.eq_nil_or_concat d with rfl | ⟨i,o,rfl⟩
 ·simp [wrapI_in (show 0≤a+b by omega) hab]
 ·simp only [List.concat_eq_append,List.getLast?_append,List.getLast?_singleton,Option.some_or]
  by_cases e:o.kind=1∧o.patch=p
  ·simp [e,wrapI_add,Int.add_assoc]
  ·simp [e,wrapI_in (show 0≤a+b by omega) hab]
theorem del_n (s:MkS) (n:Nat) (set:List Attr) (p:List Chg):(List.replicate n (⟨3,1,[],set,p⟩:Dop)).foldl stepS s=delS s n∨(n=0∧(List.replicate n (⟨3,1,[],set,p⟩:Dop)).foldl stepS s=s):=by
 induction n generalizing s with
 | zero=>exact .inr ⟨rfl,rfl⟩
 | succ n ih=>
  left
  rw [List.replicate_succ,List.foldl_cons]
  have e:stepS s ⟨3,1,[],set,p⟩=delS s 1:=by simp [stepS]
  rw [e]
  rcases ih (delS s 1) with h | ⟨rfl,h⟩
  ·rw [h,del_two s (by decide) (by omega)]
   congr 1;omega
  ·rw [h];rfl
theorem ret_n (s:MkS) (n:Nat) (h1:1≤n) (h2:n≤1099511627776) (set:List Attr) (p:List Chg):(List.replicate n (⟨1,1,[],set,p⟩:Dop)).foldl stepS s=retS s n p:=by
 induction n generalizing s with
 | zero=>omega
 | succ n ih=>
  rw [List.replicate_succ,List.foldl_cons]
  have e:stepS s ⟨1,1,[],set,p⟩=retS s 1 p:=by simp [stepS]
  rw [e]
  by_cases hn:n=0
  ·subst hn;rfl
  ·rw [ih _ (by omega) (by omega),ret_two s (by decide) (by omega) (by omega)]
   congr 1;omega
theorem ins_n (s:MkS) (rs:List Int) (set:List Attr) (p:List Chg):(rs.map fun r=>(⟨2,0,[r],set,p⟩:Dop)).foldl stepS s=insS s rs set:=by
 induction rs generalizing s with
 | nil=>simp [insS]
 | cons r rs ih=>
  rw [List.map_cons,List.foldl_cons]
  have e:stepS s ⟨2,0,[r],set,p⟩=insS s [r] set:=by simp [stepS]
  rw [e,ih,ins_two]
  rfl
structure Opk (o:Dop):Prop where
 k:o.kind=1∨o.kind=2∨o.kind=3
 pos:1≤lenN o
 le:lenN o≤536870912
theorem ones_len (o:Dop):(ones o).length=lenN o:=by unfold ones lenN;split <;> simp
theorem tell_ones (s:MkS) {o:Dop} (h:Opk o):(ones o).foldl stepS s=stepS s o:=by
 obtain ⟨k,n,rs,set,p⟩:=o
 obtain ⟨h1,h2,h3⟩:=h
 simp only [lenN] at h1 h2 h3
 rcases h1 with rfl | rfl | rfl
 ·simp only [ones,show ¬ (1:Int)=2 by decide,if_false] at *
  rw [ret_n _ _ h2 (by omega)]
  simp only [stepS,if_true]
  rw [show ((n.toNat:Nat):Int)=n by omega]
 ·simp only [ones,if_true]
  rw [ins_n]
  simp [stepS]
 ·simp only [ones,show ¬ (3:Int)=2 by decide,if_false] at *
  rcases del_n s n.toNat set p with h | ⟨h,_⟩
  ·rw [h]
   simp only [stepS,show ¬ (3:Int)=1 by decide,show ¬ (3:Int)=2 by decide,if_false]
   rw [show ((n.toNat:Nat):Int)=n by omega]
  ·omega
def headO (n:Nat) (o:Dop):Dop:=if o.kind=2 then ⟨2,o.n,o.runes.take n,o.set,o.patch⟩ else ⟨o.kind,n,o.runes,o.set,o.patch⟩
def restO (n:Nat) (o:Dop):Dop:=if o.kind=2 then ⟨2,o.n,o.runes.drop n,o.set,o.patch⟩ else ⟨o.kind,o.n - n,o.runes,o.set,o.patch⟩
def behind (n:Nat):List Dop→List Dop
 | []=>[]
 | o :: x=>if n < lenN o then restO n o :: x else x
theorem ones_cut {n:Nat} {o:Dop} (h:n≤lenN o):ones (headO n o)++ones (restO n o)=ones o:=by
 obtain ⟨k,m,rs,set,p⟩:=o
 by_cases e:k=2
 ·subst e
  simp only [ones,headO,restO,if_true,←List.map_append,List.take_append_drop]
 ·simp only [lenN,ones,headO,restO,e,if_false] at *
  rw [←List.replicate_append_replicate.symm]
  congr 1
  omega
theorem onesL_cut {n:Nat} {o:Dop} {x:List Dop} (h:n≤lenN o):onesL (o :: x)=ones (headO n o)++onesL (behind n (o :: x)):=by
 simp only [behind]
 split
 ·simp only [onesL,List.flatMap_cons,←List.append_assoc,ones_cut h]
 ·have e:n=lenN o:=by omega
  have h2:ones (restO n o)=[]:=List.length_eq_zero_iff.1 (by
   have:=congrArg List.length (ones_cut h)
   simp only [List.length_append,ones_len] at this
   have h3:lenN (headO n o)=n:=by
    obtain ⟨k,m,rs,set,p⟩:=o
    by_cases e:k=2
    ·subst e;simp [lenN,headO] at *;omega
    ·simp [lenN,headO,e] at *
   rw [ones_len];omega)
  have:=ones_cut h
  rw [h2,List.append_nil] at this
  simp only [onesL,List.flatMap_cons,this]
theorem headO_len {n:Nat} {o:Dop} (h:n≤lenN o):lenN (headO n o)=n:=by
 obtain ⟨k,m,rs,set,p⟩:=o
 by_cases e:k=2
 ·subst e;simp [lenN,headO] at *;omega
 ·simp [lenN,headO,e] at *
theorem restO_len {n:Nat} {o:Dop} (h:n≤lenN o):lenN (restO n o)=lenN o - n:=by
 obtain ⟨k,m,rs,set,p⟩:=o
 by_cases e:k=2
 ·subst e;simp [lenN,restO] at *
 ·simp [lenN,restO,e] at *
theorem headO_kind (n:Nat) (o:Dop):(headO n o).kind=o.kind:=by unfold headO;split <;> simp_all
theorem restO_kind (n:Nat) (o:Dop):(restO n o).kind=o.kind:=by unfold restO;split <;> simp_all
theorem headO_all {o:Dop} (h:Opk o):headO (lenN o) o=o:=by
 obtain ⟨k,m,rs,set,p⟩:=o
 obtain ⟨_,h2,_⟩:=h
 by_cases e:k=2
 ·subst e;simp [headO,lenN]
 ·simp only [headO,lenN,e,if_false] at *
  congr;omega
theorem ones_kind {o u:Dop} (h:u ∈ ones o):u.kind=o.kind∧u.set=o.set∧u.patch=o.patch:=by
 unfold ones at h
 split at h
 ·simp only [List.mem_map] at h
  obtain ⟨r,_,rfl⟩:=h
  exact ⟨by simp_all,rfl,rfl⟩
 ·rw [List.mem_replicate] at h
  rw [h.2];exact ⟨rfl,rfl,rfl⟩
def total (x:List Dop):Nat:=(x.map lenN).sum
theorem total_behind {n:Nat} {o:Dop} {x:List Dop} (h:n≤lenN o):total (behind n (o :: x))+n=total (o :: x):=by
 simp only [behind]
 split
 ·simp only [total,List.map_cons,List.sum_cons,restO_len h];omega
 ·simp only [total,List.map_cons,List.sum_cons];omega
theorem onesL_len (x:List Dop):(onesL x).length=total x:=by
 induction x with
 | nil=>rfl
 | cons o x ih=>simp only [onesL,List.flatMap_cons,List.length_append,ones_len,total,List.map_cons,List.sum_cons] at *;omega
section
variable {one:Dop→Dop→List Dop}
theorem refC_ins:∀ {A a b:List Dop},(∀ c ∈ A,c.kind=2)→refC one a (A++b)=A++refC one a b:=by
 intro A
 induction A with
 | nil=>intro a b _;rfl
 | cons c A ih=>
  intro a b h
  rw [List.cons_append]
  simp only [refC]
  rw [if_pos (h c (by simp)),ih fun c hc=>h c (by simp [hc])]
  rfl
theorem refC_del {A a:List Dop} {c:Dop} {b:List Dop} (hA:∀ u ∈ A,u.kind=3) (hc:c.kind≠2):refC one (A++a) (c :: b)=A++refC one a (c :: b):=by
 induction A with
 | nil=>rfl
 | cons u A ih=>
  have hu:=hA u (by simp)
  have:=ih fun u hu=>hA u (by simp [hu])
  simp only [refC,if_neg hc] at this ⊢
  rw [List.cons_append,List.takeWhile_cons,if_pos (by simp [hu]),List.dropWhile_cons,if_pos (by simp [hu]),List.cons_append,this]
  rfl
theorem refC_both:∀ {A a B b:List Dop},A.length=B.length→(∀ u ∈ A,u.kind≠3)→(∀ c ∈ B,c.kind≠2)→refC one (A++a) (B++b)=(A.zipWith one B).flatten++refC one a b:=by
 intro A
 induction A with
 | nil=>intro a B b h _ _;cases B with
  | nil=>rfl
  | cons c B=>simp at h
 | cons u A ih=>
  intro a B b h hA hB
  cases B with
  | nil=>simp at h
  | cons c B=>
   have hu:=hA u (by simp)
   have hc:=hB c (by simp)
   simp only [List.cons_append,refC]
   rw [if_neg hc,List.takeWhile_cons,if_neg (by simp [hu]),List.dropWhile_cons,if_neg (by simp [hu])]
   simp only [List.nil_append,List.zipWith_cons_cons,List.flatten_cons,List.append_assoc]
   rw [ih (by simpa using h) (fun u hu=>hA u (by simp [hu])) fun c hc=>hB c (by simp [hc])]
theorem refC_none:∀ {B b:List Dop},(∀ c ∈ B,c.kind≠2)→refC one [] (B++b)=(B.map fun c=>one ⟨1,1,[],[],[]⟩ c).flatten++refC one [] b:=by
 intro B
 induction B with
 | nil=>intro b _;rfl
 | cons c B ih=>
  intro b hB
  have hc:=hB c (by simp)
  simp only [List.cons_append,refC]
  rw [if_neg hc]
  simp only [List.takeWhile_nil,List.dropWhile_nil,List.nil_append,List.map_cons,List.flatten_cons,List.append_assoc]
  rw [ih fun c hc=>hB c (by simp [hc])]
theorem refC_mem {b a:List Dop} {z:Dop} (h:z ∈ refC one a b):z ∈ a∨z ∈ b∨∃ u c,(u ∈ a∨u=⟨1,1,[],[],[]⟩)∧c ∈ b∧c.kind≠2∧z ∈ one u c:=by
 induction b generalizing a with
 | nil=>exact .inl h
 | cons c b ih=>
  simp only [refC] at h
  split at h
  ·rcases List.mem_cons.1 h with rfl | h
   ·exact .inr (.inl (by simp))
   ·rcases ih h with h | h | ⟨u,d,h1,h2,h3,h4⟩
    ·exact .inl h
    ·exact .inr (.inl (by simp [h]))
    ·exact .inr (.inr ⟨u,d,h1,by simp [h2],h3,h4⟩)
  ·rename_i hc
   rcases List.mem_append.1 h with h | h
   ·exact .inl ((List.takeWhile_sublist _).subset h)
   ·have hd:∀ u ∈ a.dropWhile (fun o=>decide (o.kind=3)),u ∈ a:=fun u hu=>(List.dropWhile_sublist _).subset hu
    revert hd h
    generalize a.dropWhile (fun o=>decide (o.kind=3))=a'
    intro h hd
    cases a' with
    | nil=>
     simp only at h
     rcases List.mem_append.1 h with h | h
     ·exact .inr (.inr ⟨_,c,.inr rfl,by simp,hc,h⟩)
     ·rcases ih h with h | h | ⟨u,d,h1,h2,h3,h4⟩
      ·simp at h
      ·exact .inr (.inl (by simp [h]))
      ·exact .inr (.inr ⟨u,d,by rcases h1 with h1 | h1;simp at h1;exact .inr h1,by simp [h2],h3,h4⟩)
    | cons u a'=>
     simp only at h
     rcases List.mem_append.1 h with h | h
     ·exact .inr (.inr ⟨u,c,.inl (hd u (by simp)),by simp,hc,h⟩)
     ·rcases ih h with h | h | ⟨u',d,h1,h2,h3,h4⟩
      ·exact .inl (hd z (by simp [h]))
      ·exact .inr (.inl (by simp [h]))
      ·exact .inr (.inr ⟨u',d,by rcases h1 with h1 | h1;exact .inl (hd u' (by simp [h1]));exact .inr h1,by simp [h2],h3,h4⟩)
end
def partP (ks:List DKey) (b:Bool) (p:List Chg):List Chg:=p.filter fun c=>match findK ks c.key with | some k=>decide (k.block=b) | none=>false
def cellP (ks:List DKey) (set:List Attr) (p:List Chg) (r:Int):List Attr:=appP set (partP ks (decide (r=10)) p)
def oneP (ks:List DKey) (u c:Dop):List Dop:=
 if u.kind=1 then (if c.kind=3 then [c] else if c.kind=1 then [⟨1,1,[],[],comP u.patch c.patch⟩] else [])
 else if c.kind=1 then [⟨2,0,[u.runes.headD 0],cellP ks u.set c.patch (u.runes.headD 0),[]⟩] else []
def bothS (ks:List DKey) (s:MkS) (u v:Dop):MkS:=
 if u.kind=1 then (if v.kind=1 then retS s v.n (comP u.patch v.patch) else delS s v.n)
 else if v.kind=1 then u.runes.foldl (fun s r=>insS s [r] (cellP ks u.set v.patch r)) s else s
theorem zip_same {α β γ:Type} (f:α→β→γ) (x:α):∀ (B:List β) (n:Nat),B.length=n→(List.replicate n x).zipWith f B=B.map (f x):=by
 intro B
 induction B with
 | nil=>intro n h;simp at h;subst h;rfl
 | cons c B ih=>intro n h;simp at h;subst h;rw [List.replicate_succ,List.zipWith_cons_cons,ih _ rfl];rfl
theorem both_ones (ks:List DKey) (s:MkS) {u v:Dop} {n:Nat} (hu:lenN u=n) (hv:lenN v=n) (h1:1≤n) (h2:n≤536870912) (ku:u.kind=1∨u.kind=2) (kv:v.kind=1∨v.kind=3) :
  ((ones u).zipWith (oneP ks) (ones v)).flatten.foldl stepS s=bothS ks s u v:=by
 obtain ⟨k,m,rs,set,p⟩:=u
 obtain ⟨k',m',rs',set',p'⟩:=v
 simp only at ku kv
 have o1:∀ c,oneP ks ⟨1,1,[],set,p⟩ c=if c.kind=3 then [c] else if c.kind=1 then [⟨1,1,[],[],comP p c.patch⟩] else []:=fun c=>rfl
 rcases ku with rfl | rfl <;> rcases kv with rfl | rfl
 ·simp only [lenN,show ¬ (1:Int)=2 by decide,if_false] at hu hv
  simp only [ones,show ¬ (1:Int)=2 by decide,if_false,hu,hv,List.zipWith_replicate,o1,show ¬ (1:Int)=3 by decide,if_true]
  rw [List.flatten_replicate_singleton,Nat.min_self,ret_n _ _ h1 (by omega)]
  simp only [bothS,if_true]
  rw [show ((n:Nat):Int)=m' by omega]
 ·simp only [lenN,show ¬ (1:Int)=2 by decide,show ¬ (3:Int)=2 by decide,if_false] at hu hv
  simp only [ones,show ¬ (1:Int)=2 by decide,show ¬ (3:Int)=2 by decide,if_false,hu,hv,List.zipWith_replicate,o1,if_true]
  rw [List.flatten_replicate_singleton,Nat.min_self]
  rcases del_n s n set' p' with h | ⟨h,_⟩
  ·rw [h]
   simp only [bothS,if_true,show ¬ (3:Int)=1 by decide,if_false]
   rw [show ((n:Nat):Int)=m' by omega]
  ·omega
 ·simp only [lenN,show ¬ (1:Int)=2 by decide,if_true,if_false] at hu hv
  simp only [ones,show ¬ (1:Int)=2 by decide,if_true,if_false,hv,bothS,show ¬ (2:Int)=1 by decide]
  clear h1 h2
  induction rs generalizing s n m' with
  | nil=>simp
  | cons r rs ih=>
   simp only [List.length_cons] at hu
   subst hu
   rw [List.map_cons,List.replicate_succ,List.zipWith_cons_cons,List.flatten_cons,List.foldl_append,List.foldl_cons]
   rw [←ih (m':=rs.length) (n:=rs.length) _ (by omega) rfl]
   rfl
 ·simp only [lenN,show ¬ (3:Int)=2 by decide,if_true,if_false] at hu hv
  simp only [ones,show ¬ (3:Int)=2 by decide,if_true,if_false,hv,bothS,show ¬ (2:Int)=1 by decide,show ¬ (3:Int)=1 by decide]
  clear h1 h2
  induction rs generalizing s n m' with
  | nil=>simp
  | cons r rs ih=>
   simp only [List.length_cons] at hu
   subst hu
   rw [List.map_cons,List.replicate_succ,List.zipWith_cons_cons,List.flatten_cons,List.foldl_append]
   exact ih (m':=rs.length) (n:=rs.length) _ (by omega) rfl
def goC (ks:List DKey) (s:MkS) (u v:List Dop):MkS:=(refC (oneP ks) (onesL u) (onesL v)).foldl stepS s
theorem onesL_cons (o:Dop) (x:List Dop):onesL (o :: x)=ones o++onesL x:=rfl
theorem go_ins {ks:List DKey} {s:MkS} {u v:List Dop} {o:Dop} (ho:Opk o) (hk:o.kind=2):goC ks s u (o :: v)=goC ks (stepS s o) u v:=by
 unfold goC
 rw [onesL_cons,refC_ins fun c hc=>(ones_kind hc).1.trans hk,List.foldl_append,tell_ones s ho]
theorem onesL_ne {o:Dop} {x:List Dop} (ho:Opk o):∃ c b,onesL (o :: x)=c :: b∧c.kind=o.kind:=by
 rw [onesL_cons]
 have:=ones_len o
 have hp:=ho.pos
 cases e:ones o with
 | nil=>rw [e] at this;simp at this;omega
 | cons c b=>exact ⟨c,b++onesL x,rfl,(ones_kind (o:=o) (u:=c) (by simp [e])).1⟩
theorem go_del {ks:List DKey} {s:MkS} {u v:List Dop} {d o:Dop} (hd:Opk d) (ho:Opk o) (kd:d.kind=3) (hk:o.kind≠2):goC ks s (d :: u) (o :: v)=goC ks (stepS s d) u (o :: v):=by
 unfold goC
 obtain ⟨c,b,e,kc⟩:=onesL_ne (x:=v) ho
 rw [e,onesL_cons,refC_del (fun u hu=>(ones_kind hu).1.trans kd) (by omega),List.foldl_append,tell_ones s hd]
theorem go_both {ks:List DKey} {s:MkS} {u v:List Dop} {a o:Dop} {n:Nat} (ha:Opk a) (ho:Opk o) (ka:a.kind≠3) (hk:o.kind≠2) (hn:n=min (lenN a) (lenN o)) :
  goC ks s (a :: u) (o :: v)=goC ks (bothS ks s (headO n a) (headO n o)) (behind n (a :: u)) (behind n (o :: v)):=by
 have h1:=ha.pos
 have h2:=ho.pos
 have h3:=ha.le
 have na:n≤lenN a:=by omega
 have no:n≤lenN o:=by omega
 unfold goC
 rw [onesL_cut na,onesL_cut no,refC_both (by rw [ones_len,ones_len,headO_len na,headO_len no]) (fun u hu=>by rw [(ones_kind hu).1,headO_kind];exact ka) (fun c hc=>by rw [(ones_kind hc).1,headO_kind];exact hk),List.foldl_append,
  both_ones ks s (headO_len na) (headO_len no) (by omega) (by omega) (by rw [headO_kind];rcases ha.k with h | h | h <;> simp_all) (by rw [headO_kind];rcases ho.k with h | h | h <;> simp_all)]
theorem go_none {ks:List DKey} {s:MkS} {v:List Dop} {o:Dop} (ho:Opk o) (hk:o.kind≠2) :
  goC ks s [] (o :: v)=goC ks (bothS ks s ⟨1,lenN o,[],[],[]⟩ o) [] v:=by
 have h2:=ho.pos
 have h3:=ho.le
 unfold goC
 rw [onesL_cons,show onesL []=[] from rfl,refC_none (fun c hc=>by rw [(ones_kind hc).1];exact hk),List.foldl_append]
 congr 1
 rw [←both_ones ks s (u:=⟨1,lenN o,[],[],[]⟩) (v:=o) (n:=lenN o) (by simp [lenN]) rfl h2 h3 (.inl rfl) (by rcases ho.k with h | h | h <;> simp_all)]
 congr 2
 rw [show ones ⟨1,lenN o,[],[],[]⟩=List.replicate (lenN o) ⟨1,1,[],[],[]⟩ by simp [ones]]
 exact (zip_same (oneP ks) (⟨1,1,[],[],[]⟩:Dop) (ones o) _ (ones_len o)).symm
theorem tell_all {x:List Dop}:∀ {s:MkS},(∀ o ∈ x,Opk o)→(onesL x).foldl stepS s=x.foldl stepS s:=by
 induction x with
 | nil=>intro s _;rfl
 | cons o x ih=>
  intro s h
  rw [onesL_cons,List.foldl_append,tell_ones s (h o (by simp)),ih fun u hu=>h u (by simp [hu])]
  rfl
theorem go_end {ks:List DKey} {s:MkS} {u:List Dop} (h:∀ o ∈ u,Opk o):goC ks s u []=u.foldl stepS s:=by
 unfold goC
 rw [show onesL []=[] from rfl]
 simp only [refC]
 exact tell_all h
end Go.Proofs.YtlbaopamhkmepaaGreatDoor

namespace Go.Proofs.YtlbaopamhkmepaaGreatDoor
open Go Go.K

def RisN {α:Type} (key:α→Int) (l:List α) (n:Nat):Prop:=∀ i,1≤i→i < n→∀ a b,l[i - 1]?=some a→l[i]?=some b→key a < key b
theorem ris_loop {α:Type} {k:Nat} {R:World→List Value→α→Prop} {key:α→Int} {S:Nat→Prop} {w:World} {a:Option Addr} {c:Nat} {l:List α} {K:Cont} (h:SlR S k R w (.slice a l.length c) l) (hm:l.length≤maxLen) (hk:0 < k)
  (hR:∀ w r x,R w r x→r[0]?=some (.int .i64 (key x))) (h1:∀ w',Grow w w'→RisN key l l.length→K (.bool true) w') (h0:∀ w',Grow w w'→¬ RisN key l l.length→K (.bool false) w') :
  LoopK [(.int .i64 1)] (fun vs again w1=>∀ _:Env,lenK (.slice a l.length c) fun t6=>ltK .i64 (nth vs 0) t6 fun t7=>condK t7
   (DrawK w1 (fun C=>subK .i64 (nth vs 0) (.int .i64 1) fun t12=>ixK k (.slice a l.length c) t12 fun t13=>faK 0 t13 fun t14=>qld1K C t14 fun t15=>ixK k (.slice a l.length c) (nth vs 0) fun t18=>faK 0 t18 fun t19=>qld1K C t19 fun t20=>geK .i64 t15 t20 fun t21=>
    ∀ w2:World,C w2→condK t21 (K (.bool false) w2) (addK .i64 (nth vs 0) (.int .i64 1) fun t9=>again [t9] w2)))
   (K (.bool true) w1)) w:=by
 simp only [maxLen] at hm
 refine LoopK_i (fun vs w1=>∃ i:Nat,1≤i∧vs=[.int .i64 i]∧Grow w w1∧(i≤l.length∨i=1)∧RisN key l i) (fun vs _=>l.length - iOf vs 0) ⟨1,Nat.le_refl _,rfl,Mod.refl _ _,.inr rfl,fun i h1 h2=>by omega⟩ ?_
 rintro vs w1 ⟨i,hi1,rfl,hg,hi2,hris⟩ _
 rw [lenK_i,nth_z,List.headD_cons,ltK_i]
 refine condK_p (fun hlt=>?_) fun hge=>?_
 ·have hlt':i < l.length:=by omega
  refine ⟨fun w2=>Grow w1 w2,Mod.drew _ _,?_⟩
  obtain ⟨p,r,rfl,_,hr,hc,hx⟩:=h.get (show i - 1 < l.length by omega)
  obtain ⟨_,r',e,_,hr',hc',hx'⟩:=h.get hlt'
  cases e
  rw [subK_i,wrap64 (by omega) (by omega),show ((i:Int) - 1)=((i - 1:Nat):Int) by omega]
  refine ixK_n (by omega) ?_
  rw [faK_i,Addr.add_add]
  refine qld1K_i (fun w2 h2=>h2.cell (hg.cell (hc 0 _ (hR _ _ _ hx)) fun h=>h) fun h=>h) ?_
  refine ixK_n hlt' ?_
  rw [faK_i,Addr.add_add]
  refine qld1K_i (fun w2 h2=>h2.cell (hg.cell (hc' 0 _ (hR _ _ _ hx')) fun h=>h) fun h=>h) ?_
  rw [geK_i]
  intro w2 h2
  refine condK_p (fun hx=>?_) fun hx=>?_
  ·refine h0 _ (hg.trans h2) fun hall=>?_
   have:=hall i hi1 hlt' _ _ (List.getElem?_eq_getElem (by omega)) (List.getElem?_eq_getElem hlt')
   omega
  ·rw [addK_i,loop_step (by omega)]
   refine ⟨⟨i+1,by omega,rfl,hg.trans h2,.inl hlt',fun j h1 h2 a b ha hb=>?_⟩,by rw [iOf0,iOf0];omega⟩
   by_cases e:j=i
   ·subst e
    rw [List.getElem?_eq_getElem (by omega)] at ha
    rw [List.getElem?_eq_getElem hlt'] at hb
    cases ha;cases hb;omega
   ·exact hris j h1 (by omega) a b ha hb
 ·refine h1 _ hg fun j h1 h2=>?_
  by_cases e:i≤l.length
  ·exact hris j h1 (by omega)
  ·omega
abbrev RisA (l:List Attr):Prop:=RisN Attr.key l l.length
abbrev RisC (l:List Chg):Prop:=RisN Chg.key l l.length
open Classical in
theorem risa_ok {S:Nat→Prop} {v:Value} {l:List Attr} {w:World} (h:RSet S w v l):callK Tryz.prog 164 [v] (fun v' w'=>v'=.bool (decide (RisA l))∧Grow w w') w:=by
 apply S164_ok
 unfold S164
 obtain ⟨a,c,rfl,hm⟩:=h.shape
 exact ris_loop (K:=fun v' w'=>v'=.bool (decide (RisA l))∧Grow w w') (key:=Attr.key) h hm (by decide) (fun w r x hx=>by subst hx;rfl) (fun w' g hr=>⟨by rw [decide_eq_true hr],g⟩) fun w' g hr=>⟨by rw [decide_eq_false hr],g⟩
open Classical in
theorem risc_ok {S:Nat→Prop} {v:Value} {l:List Chg} {w:World} (h:RPat S w v l):callK Tryz.prog 167 [v] (fun v' w'=>v'=.bool (decide (RisC l))∧Grow w w') w:=by
 apply S167_ok
 unfold S167
 obtain ⟨a,c,rfl,hm⟩:=h.shape
 exact ris_loop (K:=fun v' w'=>v'=.bool (decide (RisC l))∧Grow w w') (key:=Chg.key) h hm (by decide) (fun w r x hx=>by subst hx;rfl) (fun w' g hr=>⟨by rw [decide_eq_true hr],g⟩) fun w' g hr=>⟨by rw [decide_eq_false hr],g⟩

def SetBad (l:List Attr):Prop:=¬ RisA l∨64 < l.length∨∃ a ∈ l,¬ ValOK a.val
def SetNoKey (keys:List DKey) (l:List Attr):Prop:=∃ a ∈ l,¬ FitsK keys a.key a.val
open Classical in
noncomputable def maySet (keys:List DKey) (l:List Attr):Int:=if SetBad l then 3 else if SetNoKey keys l then 4 else 0
open Classical in
theorem mayset_ok {S S':Nat→Prop} {kv v:Value} {keys:List DKey} {l:List Attr} {w:World} (hk:RKeys S w kv keys) (h:RSet S' w v l) (hs:∀ a ∈ l,a.val.s.size * 4≤140737488355328) :
  callK Tryz.prog 102 [kv,v] (fun v' w'=>v'=.int .i64 (maySet keys l)∧Grow w w') w:=by
 apply S102_ok
 unfold S102
 obtain ⟨a,c,rfl,hm⟩:=h.shape
 simp only [maxLen] at hm
 have bad:∀ w',Grow w w'→SetBad l→Value.int .i64 3=.int .i64 (maySet keys l)∧Grow w w':=fun w' g hb=>⟨by rw [maySet,if_pos hb],g⟩
 refine JoinK_i (fun vs w1=>Grow w w1∧RisA l∧l.length≤64) ?_ ?_
 ·rintro vs w1 ⟨g1,hris,h64⟩ _
  refine LoopK_i (fun vs w2=>∃ i:Nat,i≤l.length∧vs=[.int .i64 i]∧Grow w w2∧∀ a ∈ l.take i,ValOK a.val) (fun vs _=>l.length - iOf vs 0) ⟨0,Nat.zero_le _,rfl,g1,by simp⟩ ?_
  rintro vs w2 ⟨i,hi,rfl,g2,hv⟩ _
  rw [lenK_i,nth_z,List.headD_cons,ltK_i]
  refine condK_p (fun hlt=>?_) fun hge=>?_
  ·have hlt':i < l.length:=by omega
   obtain ⟨p,r,rfl,_,hr,hc,rfl⟩:=(h.grow g2 (by decide) fun _ _ h=>h).get hlt'
   refine ixK_n hlt' ?_
   rw [faK_i,Addr.add_add]
   refine ldnK_i (vs:=l[i].val.cells) rfl (fun j u hu=>by rw [Addr.add_add,Nat.add_assoc];exact hc (1+j) u (by rw [Nat.add_comm];exact hu)) ?_
   refine callK_mono (rval_ok (hs _ (by simp))) ?_
   rintro v3 w3 ⟨rfl,g3⟩
   rw [notK_i]
   refine condK_neg (fun ho=>?_) fun ho=>bad _ (g2.trans g3) (.inr (.inr ⟨_,by simp,ho⟩))
   rw [addK_i,loop_step (by omega)]
   refine ⟨⟨i+1,hlt',rfl,g2.trans g3,fun a ha=>?_⟩,by rw [iOf0,iOf0];omega⟩
   rw [List.take_add_one,List.getElem?_eq_getElem hlt'] at ha
   rcases List.mem_append.1 ha with ha | ha
   ·exact hv a ha
   ·simp at ha;subst ha;exact ho
  ·have:i=l.length:=by omega
   subst this
   rw [List.take_length] at hv
   have ok:¬ SetBad l:=by
    rintro (h | h | ⟨a,ha,h⟩)
    ·exact h hris
    ·omega
    ·exact h (hv a ha)
   refine LoopK_i (fun vs w3=>∃ i:Nat,i≤l.length∧vs=[.int .i64 i]∧Grow w w3∧∀ a ∈ l.take i,FitsK keys a.key a.val) (fun vs _=>l.length - iOf vs 0) ⟨0,Nat.zero_le _,rfl,g2,by simp⟩ ?_
   rintro vs w3 ⟨i,hi,rfl,g3,hf⟩ _
   rw [lenK_i,nth_z,List.headD_cons,ltK_i]
   refine condK_p (fun hlt=>?_) fun hge=>?_
   ·have hlt':i < l.length:=by omega
    have g3d:Grow w w3.drew:=g3.trans (Mod.drew _ _)
    obtain ⟨p,r,rfl,hS,hr,hc,rfl⟩:=((h.old (by decide)).grow g3d (by decide) fun _ _ h=>h).get hlt'
    refine drawC_i (fun _ b=>False) ?_
    refine ixK_n hlt' ?_
    rw [faK_i,Addr.add_add]
    refine sld1_i ⟨hc 0 _ rfl,fun j _ h=>h⟩ ?_
    refine ixK_n hlt' ?_
    rw [faK_i,Addr.add_add]
    refine sldn_i (vs:=l[i].val.cells) rfl (fun j u hu=>⟨by rw [Addr.add_add,Nat.add_assoc];exact hc (1+j) u (by rw [Nat.add_comm];exact hu),fun j _ h=>h⟩) ?_
    refine callK_mono (rfits_ok (hk.grow g3d (by decide) fun _ _ h=>h) (hs _ (by simp))) ?_
    rintro v4 w4 ⟨rfl,g4⟩
    refine ⟨g4,?_⟩
    rw [notK_i]
    refine condK_neg (fun ho=>?_) fun ho=>⟨by rw [maySet,if_neg ok,if_pos ⟨_,by simp,ho⟩],g3d.trans g4⟩
    rw [addK_i,loop_step (by omega)]
    refine ⟨⟨i+1,hlt',rfl,g3d.trans g4,fun a ha=>?_⟩,by rw [iOf0,iOf0];omega⟩
    rw [List.take_add_one,List.getElem?_eq_getElem hlt'] at ha
    rcases List.mem_append.1 ha with ha | ha
    ·exact hf a ha
    ·simp at ha;subst ha;exact ho
   ·have:i=l.length:=by omega
    subst this
    rw [List.take_length] at hf
    refine ⟨?_,g3⟩
    rw [maySet,if_neg ok,if_neg]
    rintro ⟨a,ha,h⟩;exact h (hf a ha)
 ·refine callK_mono (risa_ok h) ?_
  rintro v2 w2 ⟨rfl,g2⟩
  rw [notK_i]
  refine condK_neg (fun hr=>?_) fun hr=>bad _ g2 (.inl hr)
  rw [lenK_i,gtK_i]
  refine condK_p (fun h6=>bad _ g2 (.inr (.inl (by omega)))) fun h6=>⟨g2,hr,by omega⟩
def AVal.zero:AVal:=⟨0,0,0,noS⟩
def PatBad (p:List Chg):Prop:=¬ RisC p∨64 < p.length∨∃ c ∈ p,(c.gone=true∧c.val≠AVal.zero)∨(c.gone=false∧¬ ValOK c.val)
def PatNoKey (keys:List DKey) (p:List Chg):Prop:=∃ c ∈ p,findK keys c.key=none∨(c.gone=false∧¬ FitsK keys c.key c.val)
open Classical in
noncomputable def mayPat (keys:List DKey) (p:List Chg):Int:=if PatBad p then 3 else if PatNoKey keys p then 4 else 0
open Classical in
theorem maypat_ok {S S':Nat→Prop} {kv v:Value} {keys:List DKey} {l:List Chg} {w:World} (hk:RKeys S w kv keys) (h:RPat S' w v l) (hs:∀ a ∈ l,a.val.s.size * 4≤140737488355328) :
  callK Tryz.prog 103 [kv,v] (fun v' w'=>v'=.int .i64 (mayPat keys l)∧Grow w w') w:=by
 apply S103_ok
 unfold S103
 obtain ⟨a,c,rfl,hm⟩:=h.shape
 simp only [maxLen] at hm
 have bad:∀ w',Grow w w'→PatBad l→Value.int .i64 3=.int .i64 (mayPat keys l)∧Grow w w':=fun w' g hb=>⟨by rw [mayPat,if_pos hb],g⟩
 refine JoinK_i (fun vs w1=>Grow w w1∧RisC l∧l.length≤64) ?_ ?_
 ·rintro vs w1 ⟨g1,hris,h64⟩ _
  refine LoopK_i (fun vs w2=>∃ i:Nat,i≤l.length∧vs=[.int .i64 i]∧Grow w w2∧∀ c ∈ l.take i,¬ ((c.gone=true∧c.val≠AVal.zero)∨(c.gone=false∧¬ ValOK c.val))) (fun vs _=>l.length - iOf vs 0) ⟨0,Nat.zero_le _,rfl,g1,by simp⟩ ?_
  rintro vs w2 ⟨i,hi,rfl,g2,hv⟩ _
  rw [lenK_i,nth_z,List.headD_cons,ltK_i]
  refine condK_p (fun hlt=>?_) fun hge=>?_
  ·have hlt':i < l.length:=by omega
   refine JoinK_i (fun vs w3=>Grow w w3∧¬ ((l[i].gone=true∧l[i].val≠AVal.zero)∨(l[i].gone=false∧¬ ValOK l[i].val))) ?_ ?_
   ·rintro vs w3 ⟨g3,ho⟩ _
    rw [addK_i,loop_step (by omega)]
    refine ⟨⟨i+1,hlt',rfl,g3,fun a ha=>?_⟩,by rw [iOf0,iOf0];omega⟩
    rw [List.take_add_one,List.getElem?_eq_getElem hlt'] at ha
    rcases List.mem_append.1 ha with ha | ha
    ·exact hv a ha
    ·simp at ha;subst ha;exact ho
   ·have bad':∀ w',Grow w w'→((l[i].gone=true∧l[i].val≠AVal.zero)∨(l[i].gone=false∧¬ ValOK l[i].val))→Value.int .i64 3=.int .i64 (mayPat keys l)∧Grow w w':=fun w' g hb=>bad w' g (.inr (.inr ⟨_,by simp,hb⟩))
    obtain ⟨p,r,rfl,_,hr,hc,hx⟩:=(h.grow g2 (by decide) fun _ _ h=>h).get hlt'
    subst hx
    have cv:∀ j u,l[i].val.cells[j]?=some u→w2.cell? (((p.add (i * 6)).add 2).add j)=some u:=fun j u hu=>by rw [Addr.add_add,Addr.add_add];exact hc (2+j) u (by rw [Nat.add_comm];exact hu)
    have cg:w2.cell? ((p.add (i * 6)).add 1)=some (.bool l[i].gone):=by rw [Addr.add_add];exact hc 1 _ rfl
    refine ixK_n hlt' ?_
    rw [faK_i]
    refine ld1K_i cg ?_
    cases hg:l[i].gone with
    | true=>
     rw [condK_b,if_pos rfl]
     refine ixK_n hlt' ?_
     rw [faK_i]
     refine ldnK_i (vs:=l[i].val.cells) rfl cv ?_
     refine ⟨AVal.zero.cells.toArray,by kernel_rfl,runK_i (run_ne_val _ _ l[i].val AVal.zero w2) ?_⟩
     refine condK_neg (fun hz=>?_) fun hz=>bad' _ g2 (.inl ⟨hg,hz⟩)
     refine ixK_n hlt' ?_
     rw [faK_i]
     refine ld1K_i cg ?_
     rw [hg,notK_i,condK_b]
     refine (if_neg (by simp)).mpr ⟨g2,?_⟩
     rintro (h | h)
     ·exact h.2 hz
     ·cases h.1
    | false=>
     rw [condK_b]
     refine (if_neg (by simp)).mpr ?_
     refine ixK_n hlt' ?_
     rw [faK_i]
     refine ld1K_i cg ?_
     rw [hg,notK_i,condK_b]
     refine (if_pos (by simp)).mpr ?_
     refine ixK_n hlt' ?_
     rw [faK_i]
     refine ldnK_i (vs:=l[i].val.cells) rfl cv ?_
     refine callK_mono (rval_ok (hs _ (by simp))) ?_
     rintro v3 w3 ⟨rfl,g3⟩
     rw [notK_i]
     refine condK_neg (fun ho=>⟨g2.trans g3,?_⟩) fun ho=>bad' _ (g2.trans g3) (.inr ⟨hg,ho⟩)
     rintro (h | h)
     ·cases h.1
     ·exact h.2 ho
  ·have:i=l.length:=by omega
   subst this
   rw [List.take_length] at hv
   have ok:¬ PatBad l:=by
    rintro (h | h | ⟨a,ha,h⟩)
    ·exact h hris
    ·omega
    ·exact hv a ha h
   refine LoopK_i (fun vs w3=>∃ i:Nat,i≤l.length∧vs=[.int .i64 i]∧Grow w w3∧∀ c ∈ l.take i,¬ (findK keys c.key=none∨(c.gone=false∧¬ FitsK keys c.key c.val))) (fun vs _=>l.length - iOf vs 0) ⟨0,Nat.zero_le _,rfl,g2,by simp⟩ ?_
   rintro vs w3 ⟨i,hi,rfl,g3,hf⟩ _
   rw [lenK_i,nth_z,List.headD_cons,ltK_i]
   refine condK_p (fun hlt=>?_) fun hge=>?_
   ·have hlt':i < l.length:=by omega
    refine JoinK_i (fun vs w4=>Grow w w4∧¬ (findK keys l[i].key=none∨(l[i].gone=false∧¬ FitsK keys l[i].key l[i].val))) ?_ ?_
    ·rintro vs w4 ⟨g4,ho⟩ _
     rw [addK_i,loop_step (by omega)]
     refine ⟨⟨i+1,hlt',rfl,g4,fun a ha=>?_⟩,by rw [iOf0,iOf0];omega⟩
     rw [List.take_add_one,List.getElem?_eq_getElem hlt'] at ha
     rcases List.mem_append.1 ha with ha | ha
     ·exact hf a ha
     ·simp at ha;subst ha;exact ho
    ·have bad':∀ w',Grow w w'→(findK keys l[i].key=none∨(l[i].gone=false∧¬ FitsK keys l[i].key l[i].val))→Value.int .i64 4=.int .i64 (mayPat keys l)∧Grow w w':=fun w' g hb=>⟨by rw [mayPat,if_neg ok,if_pos ⟨_,by simp,hb⟩],g⟩
     obtain ⟨p,r,rfl,_,hr,hc,hx⟩:=h.get hlt'
     subst hx
     have cell:∀ {W:World},Grow w W→∀ j u,l[i].cells[j]?=some u→W.cell? ((p.add (i * 6)).add j)=some u:=fun hW j u hu=>by rw [Addr.add_add];exact hW.cell (hc j u hu) fun h=>h
     refine ixK_n hlt' ?_
     rw [faK_i]
     refine ld1K_i (cell g3 0 _ rfl) ?_
     refine callK_mono (find_ok (hk.grow g3 (by decide) fun _ _ h=>h)) ?_
     rintro v4 w4 ⟨rfl,g4⟩
     refine extK_i (vs:=[_,_]) (by rfl) (extK_i (vs:=[_,_]) (by rfl) ?_)
     generalize hkk:(findK keys l[i].key).getD DKey.zero=kk
     refine newst_i (vs:=kk.cells) rfl (RKey.one (w:=w) (x:=kk) rfl) fun b5 w5 _ _ g5 _ _=>?_
     have g05:Grow w w5.drew:=((g3.trans g4).trans g5).trans (Mod.drew _ _)
     refine drawC_i (fun _ b=>False) ?_
     rw [notK_i]
     cases hfk:findK keys l[i].key with
     | none=>
      rw [Option.isSome_none,condK_b]
      exact (if_pos (by rfl)).mpr (bad' _ g05 (.inl hfk))
     | some k'=>
      rw [Option.isSome_some,condK_b]
      refine (if_neg (by simp)).mpr ?_
      refine ixK_n hlt' ?_
      rw [faK_i]
      refine sld1_i ⟨cell g05 1 _ rfl,fun j _ h=>h⟩ ?_
      rw [notK_i]
      cases hg:l[i].gone with
      | true=>
       rw [condK_b]
       refine (if_neg (by simp)).mpr ⟨g05,?_⟩
       rintro (h | h)
       ·first | cases h | (rw [hfk] at h;cases h)
       ·first | cases h.1 | (rw [hg] at h;cases h.1)
      | false=>
       rw [condK_b]
       refine (if_pos (by simp)).mpr ?_
       refine ixK_n hlt' ?_
       rw [faK_i]
       refine sld1_i ⟨cell g05 0 _ rfl,fun j _ h=>h⟩ ?_
       refine ixK_n hlt' ?_
       rw [faK_i]
       refine sldn_i (vs:=l[i].val.cells) rfl (fun j u hu=>⟨by rw [Addr.add_add];exact cell g05 (2+j) u (by rw [Nat.add_comm];exact hu),fun j _ h=>h⟩) ?_
       refine callK_mono (rfits_ok (hk.grow g05 (by decide) fun _ _ h=>h) (hs _ (by simp))) ?_
       rintro v6 w6 ⟨rfl,g6⟩
       refine ⟨g6,?_⟩
       rw [notK_i]
       refine condK_neg (fun ho=>⟨g05.trans g6,?_⟩) fun ho=>bad' _ (g05.trans g6) (.inr ⟨hg,ho⟩)
       rintro (h | h)
       ·first | cases h | (rw [hfk] at h;cases h)
       ·exact h.2 ho
   ·have:i=l.length:=by omega
    subst this
    rw [List.take_length] at hf
    refine ⟨?_,g3⟩
    rw [mayPat,if_neg ok,if_neg]
    rintro ⟨a,ha,h⟩;exact hf a ha h
 ·refine callK_mono (risc_ok h) ?_
  rintro v2 w2 ⟨rfl,g2⟩
  rw [notK_i]
  refine condK_neg (fun hr=>?_) fun hr=>bad _ g2 (.inl hr)
  rw [lenK_i,gtK_i]
  refine condK_p (fun h6=>bad _ g2 (.inr (.inl (by omega)))) fun h6=>⟨g2,hr,by omega⟩
end Go.Proofs.YtlbaopamhkmepaaGreatDoor

namespace Go.Proofs.YtlbaopamhkmepaaGreatDoor
open Go Go.K

def KeyOK (k:DKey):Prop:=1≤k.id∧k.id≤1000∧1≤k.kind∧k.kind≤4∧0≤k.group∧k.group≤8∧(k.block=false→k.group=0)∧(k.block=true→k.before=false)
def MayN (keys:List DKey) (n:Nat):Prop:=∀ i,i < n→∀ k,keys[i]?=some k→KeyOK k∧∀ j,j < i→∀ k',keys[j]?=some k'→k'.id≠k.id
def MayKeys (keys:List DKey):Prop:=keys.length≤64∧MayN keys keys.length
def szA (l:List Attr):Nat:=(l.map fun a=>a.val.s.size).sum
def szC (l:List Chg):Nat:=(l.map fun a=>a.val.s.size).sum
theorem mSet_eq (l:List Attr):mSet l=l.length+szA l:=by
 induction l with
 | nil=>rfl
 | cons a l ih=>simp only [mSet,szA,List.map_cons,List.sum_cons,List.length_cons,mAttr] at ih ⊢;omega
theorem mPat_eq (l:List Chg):mPat l=l.length+szC l:=by
 induction l with
 | nil=>rfl
 | cons a l ih=>simp only [mPat,szC,List.map_cons,List.sum_cons,List.length_cons,mChg] at ih ⊢;omega
theorem szA_take {l:List Attr} {k:Nat} (h:k < l.length):szA (l.take (k+1))=szA (l.take k)+l[k].val.s.size:=by
 rw [List.take_add_one,List.getElem?_eq_getElem h];simp only [szA,Option.toList,List.map_append,List.sum_append,List.map_cons,List.map_nil,List.sum_cons,List.sum_nil,Nat.add_zero]
theorem szC_take {l:List Chg} {k:Nat} (h:k < l.length):szC (l.take (k+1))=szC (l.take k)+l[k].val.s.size:=by
 rw [List.take_add_one,List.getElem?_eq_getElem h];simp only [szC,Option.toList,List.map_append,List.sum_append,List.map_cons,List.map_nil,List.sum_cons,List.sum_nil,Nat.add_zero]
theorem mDops_take {l:List Dop} {k:Nat} (h:k < l.length):mDops (l.take (k+1))=mDops (l.take k)+mDop l[k]:=by
 rw [List.take_add_one,List.getElem?_eq_getElem h];simp only [mDops,Option.toList,List.map_append,List.sum_append,List.map_cons,List.map_nil,List.sum_cons,List.sum_nil,Nat.add_zero]
theorem mDops_mem {l:List Dop} {o:Dop} (h:o ∈ l):mDop o≤mDops l:=by
 induction l with
 | nil=>simp at h
 | cons a l ih=>
  have e:mDops (a :: l)=mDop a+mDops l:=by simp [mDops]
  rcases List.mem_cons.1 h with rfl | h
  ·omega
  ·have:=ih h;omega
theorem mDops_len (l:List Dop):l.length≤mDops l:=by
 induction l with
 | nil=>exact Nat.zero_le _
 | cons a l ih=>simp only [mDops,List.map_cons,List.sum_cons,List.length_cons,mDop] at ih ⊢;omega
theorem mDops_le (l:List Dop) (k:Nat):mDops (l.take k)≤mDops l:=by
 have:mDops l=mDops (l.take k)+mDops (l.drop k):=by
  conv=>lhs;rw [←List.take_append_drop k l]
  simp only [mDops,List.map_append,List.sum_append]
 omega
theorem szA_le (l:List Attr) (k:Nat):szA (l.take k)≤szA l:=by
 have:szA l=szA (l.take k)+szA (l.drop k):=by
  conv=>lhs;rw [←List.take_append_drop k l]
  simp only [szA,List.map_append,List.sum_append]
 omega
theorem szC_le (l:List Chg) (k:Nat):szC (l.take k)≤szC l:=by
 have:szC l=szC (l.take k)+szC (l.drop k):=by
  conv=>lhs;rw [←List.take_append_drop k l]
  simp only [szC,List.map_append,List.sum_append]
 omega
theorem mSet_mem {l:List Attr} {a:Attr} (h:a ∈ l):a.val.s.size+1≤mSet l:=by
 induction l with
 | nil=>simp at h
 | cons b l ih=>
  have e:mSet (b :: l)=mAttr b+mSet l:=by simp [mSet]
  rcases List.mem_cons.1 h with rfl | h
  ·simp only [mAttr] at e;omega
  ·have:=ih h;omega
theorem mPat_mem {l:List Chg} {a:Chg} (h:a ∈ l):a.val.s.size+1≤mPat l:=by
 induction l with
 | nil=>simp at h
 | cons b l ih=>
  have e:mPat (b :: l)=mChg b+mPat l:=by simp [mPat]
  rcases List.mem_cons.1 h with rfl | h
  ·simp only [mChg] at e;omega
  ·have:=ih h;omega
theorem size_ok {S D:Nat→Prop} {v:Value} {x:List Dop} {w:World} (h:RDops S D w v x) (hb:mDops x≤1099511627776) :
  callK Tryz.prog 34 [v] (fun v' w'=>v'=.int .i64 (mDops x)∧Grow w w') w:=by
 apply S34_ok
 unfold S34
 obtain ⟨a,c,rfl,hm⟩:=h.shape
 simp only [maxLen] at hm
 refine LoopK_i (fun vs w1=>∃ k:Nat,k≤x.length∧vs=[.int .i64 (mDops (x.take k)),.int .i64 k]∧Grow w w1) (fun vs _=>x.length - iOf vs 1) ⟨0,Nat.zero_le _,rfl,Mod.refl _ _⟩ ?_
 rintro vs w1 ⟨k,hk,rfl,hg⟩ _
 simp only [nth_s,nth_z,List.headD_cons,List.tail_cons]
 rw [lenK_i,ltK_i]
 refine condK_p (fun hlt=>?_) fun hge=>?_
 ·have hlt':k < x.length:=by omega
  have hmk:=mDops_take hlt'
  have hmk1:=mDops_le x (k+1)
  obtain ⟨p,r,rfl,_,hr,hc,rv,sv,pv,rfl,h1,h2,h3⟩:=(RDops.grow h hg).get hlt'
  obtain ⟨a1,c1,rfl,m1⟩:=h1.shape
  obtain ⟨a2,c2,rfl,m2⟩:=h2.shape
  obtain ⟨a3,c3,rfl,m3⟩:=h3.shape
  have cl:∀ {W},Grow w1 W→∀ j u,[Value.int .u8 x[k].kind,.int .i64 x[k].n,.slice a1 x[k].runes.length c1,.slice a2 x[k].set.length c2,.slice a3 x[k].patch.length c3][j]?=some u→W.cell? ((p.add (k * 5)).add j)=some u:=fun hW j u hu=>by rw [Addr.add_add];exact hW.cell (hc j u hu) fun h=>h
  simp only [mDop,mSet_eq,mPat_eq] at hmk
  refine drawK_i (fun w2=>Grow w1 w2) (Mod.drew _ _) ?_
  rw [addK_i,wrap64 (by omega) (by omega)]
  refine ixK_n hlt' ?_
  rw [faK_i]
  refine qld1K_i (fun W hW=>cl hW 2 _ rfl) ?_
  rw [lenK_i,addK_i,wrap64 (by omega) (by omega)]
  refine ixK_n hlt' ?_
  rw [faK_i]
  refine qld1K_i (fun W hW=>cl hW 3 _ rfl) ?_
  rw [lenK_i,addK_i,wrap64 (by omega) (by omega)]
  refine ixK_n hlt' ?_
  rw [faK_i]
  refine qld1K_i (fun W hW=>cl hW 4 _ rfl) ?_
  rw [lenK_i,addK_i,wrap64 (by omega) (by omega)]
  intro w2 g2
  generalize hN:((mDops (x.take k):Nat):Int)+1+x[k].runes.length+x[k].set.length+x[k].patch.length=N
  refine LoopK_i (fun vs w3=>∃ i:Nat,i≤x[k].set.length∧vs=[.int .i64 (N+szA (x[k].set.take i)),.int .i64 i]∧Grow w1 w3) (fun vs _=>x[k].set.length - iOf vs 1) ⟨0,Nat.zero_le _,by simp [szA],g2⟩ ?_
  rintro vs w3 ⟨i,hi,rfl,g3⟩ _
  simp only [nth_s,nth_z,List.headD_cons,List.tail_cons]
  refine ixK_n hlt' ?_
  rw [faK_i]
  refine ld1K_i (cl g3 3 _ rfl) ?_
  rw [lenK_i,ltK_i]
  refine condK_p (fun hil=>?_) fun hig=>?_
  ·have hil':i < x[k].set.length:=by omega
   have hsk:=szA_take hil'
   have hsk1:=szA_le x[k].set (i+1)
   refine ixK_n hlt' ?_
   rw [faK_i]
   refine ld1K_i (cl g3 3 _ rfl) ?_
   obtain ⟨q,r',rfl,_,hr',hc',hx'⟩:=(h2.grow g3 (by decide) fun _ _ h=>h).get hil'
   subst hx'
   refine ixK_n hil' ?_
   rw [faK_i,faK_i,Addr.add_add,Addr.add_add]
   refine ld1K_i (hc' 4 _ rfl) ?_
   rw [slenK_i,addK_i,addK_i,loop_step (by omega),wrap64 (by omega) (by omega)]
   refine ⟨⟨i+1,hil',by rw [hsk];congr 2;omega,g3⟩,by rw [iOf1,iOf1];omega⟩
  ·have:i=x[k].set.length:=by omega
   subst this
   rw [List.take_length]
   generalize hN2:N+szA x[k].set=N2
   refine LoopK_i (fun vs w4=>∃ i:Nat,i≤x[k].patch.length∧vs=[.int .i64 (N2+szC (x[k].patch.take i)),.int .i64 i]∧Grow w1 w4) (fun vs _=>x[k].patch.length - iOf vs 1) ⟨0,Nat.zero_le _,by simp [szC],g3⟩ ?_
   rintro vs w4 ⟨i,hi,rfl,g4⟩ _
   simp only [nth_s,nth_z,List.headD_cons,List.tail_cons]
   refine ixK_n hlt' ?_
   rw [faK_i]
   refine ld1K_i (cl g4 4 _ rfl) ?_
   rw [lenK_i,ltK_i]
   refine condK_p (fun hil=>?_) fun hig=>?_
   ·have hil':i < x[k].patch.length:=by omega
    have hsk:=szC_take hil'
    have hsk1:=szC_le x[k].patch (i+1)
    refine ixK_n hlt' ?_
    rw [faK_i]
    refine ld1K_i (cl g4 4 _ rfl) ?_
    obtain ⟨q,r',rfl,_,hr',hc',hx'⟩:=(h3.grow g4 (by decide) fun _ _ h=>h).get hil'
    subst hx'
    refine ixK_n hil' ?_
    rw [faK_i,faK_i,Addr.add_add,Addr.add_add]
    refine ld1K_i (hc' 5 _ rfl) ?_
    rw [slenK_i,addK_i,addK_i,loop_step (by omega),wrap64 (by omega) (by omega)]
    refine ⟨⟨i+1,hil',by rw [hsk];congr 2;omega,g4⟩,by rw [iOf1,iOf1];omega⟩
   ·have:i=x[k].patch.length:=by omega
    subst this
    rw [List.take_length,addK_i,loop_step (by omega)]
    refine ⟨⟨k+1,hlt',?_,hg.trans g4⟩,by rw [iOf1,iOf1];omega⟩
    congr 2
    omega
 ·have:k=x.length:=by omega
  subst this
  rw [List.take_length]
  exact ⟨rfl,hg⟩
end Go.Proofs.YtlbaopamhkmepaaGreatDoor

namespace Go.Proofs.YtlbaopamhkmepaaGreatDoor
open Go Go.K

def OpsBad (keys:List DKey) (x:List Dop):Prop:=(∃ o ∈ x,¬ FormO o∨maySet keys o.set=3∨mayPat keys o.patch=3)∨536870912 < sumW takesF x∨536870912 < sumW makesF x
def OpsNoKey (keys:List DKey) (x:List Dop):Prop:=∃ o ∈ x,maySet keys o.set≠0∨mayPat keys o.patch≠0
open Classical in
noncomputable def mayOps (keys:List DKey) (x:List Dop):Int:=if OpsBad keys x then 3 else if OpsNoKey keys x then 4 else 0
open Classical in
theorem mayops_ok {S S' D:Nat→Prop} {kv v:Value} {keys:List DKey} {x:List Dop} {w:World} (hk:RKeys S w kv keys) (h:RDops S' D w v x) (hb:mDops x≤1099511627776) :
  callK Tryz.prog 62 [kv,v] (fun v' w'=>v'=.int .i64 (mayOps keys x)∧Grow w w') w:=by
 apply S62_ok
 unfold S62
 obtain ⟨a,c,rfl,hm⟩:=h.shape
 simp only [maxLen] at hm
 have hss:∀ o ∈ x,(∀ a ∈ o.set,a.val.s.size * 4≤140737488355328)∧(∀ a ∈ o.patch,a.val.s.size * 4≤140737488355328):=by
  intro o ho
  have:=mDops_mem ho
  simp only [mDop] at this
  exact ⟨fun a ha=>by have:=mSet_mem ha;omega,fun a ha=>by have:=mPat_mem ha;omega⟩
 have bad:∀ w',Grow w w'→OpsBad keys x→Value.int .i64 3=.int .i64 (mayOps keys x)∧Grow w w':=fun w' g hb=>⟨by rw [mayOps,if_pos hb],g⟩
 refine LoopK_i (fun vs w1=>∃ k:Nat,k≤x.length∧vs=[.int .i64 k]∧Grow w w1∧∀ o ∈ x.take k,FormO o∧maySet keys o.set≠3∧mayPat keys o.patch≠3) (fun vs _=>x.length - iOf vs 0) ⟨0,Nat.zero_le _,rfl,Mod.refl _ _,by simp⟩ ?_
 rintro vs w1 ⟨k,hkl,rfl,g1,hall⟩ _
 rw [lenK_i,nth_z,List.headD_cons,ltK_i]
 refine condK_p (fun hlt=>?_) fun hge=>?_
 ·have hlt':k < x.length:=by omega
  refine JoinK_i (fun vs w2=>Grow w w2∧FormO x[k]∧maySet keys x[k].set≠3∧mayPat keys x[k].patch≠3) ?_ ?_
  ·rintro vs w2 ⟨g2,ho⟩ _
   rw [addK_i,loop_step (by omega)]
   refine ⟨⟨k+1,hlt',rfl,g2,fun o hoo=>?_⟩,by rw [iOf0,iOf0];omega⟩
   rw [List.take_add_one,List.getElem?_eq_getElem hlt'] at hoo
   rcases List.mem_append.1 hoo with hoo | hoo
   ·exact hall o hoo
   ·simp at hoo;subst hoo;exact ho
  ·obtain ⟨p,r,rfl,_,hr,hc,ho⟩:=(RDops.grow h g1).get hlt'
   have hmem:x[k] ∈ x:=by simp
   refine ixK_n hlt' (ldnK_i hr (fun j u hu=>by rw [Addr.add_add];exact hc j u hu) ?_)
   refine callK_mono (form_ok ho) ?_
   rintro v2 w2 ⟨rfl,g2⟩
   have g02:=g1.trans g2
   rw [notK_i]
   refine condK_neg (fun hf=>?_) fun hf=>bad _ g02 (.inl ⟨_,hmem,.inl hf⟩)
   obtain ⟨rv,sv,pv,rfl,h1,h2,h3⟩:=ho.mod (D':=D) g2 (fun _ _ _ h=>h) fun _ _ h=>h
   refine ixK_n hlt' ?_
   rw [faK_i,Addr.add_add]
   refine ld1K_i (g2.cell (hc 3 _ rfl) fun h=>h) ?_
   refine callK_mono (mayset_ok (hk.grow g02 (by decide) fun _ _ h=>h) h2 (hss _ hmem).1) ?_
   rintro v3 w3 ⟨rfl,g3⟩
   rw [eqK_i]
   refine condK_p (fun hs=>bad _ (g02.trans g3) (.inl ⟨_,hmem,.inr (.inl hs)⟩)) fun hs=>?_
   refine ixK_n hlt' ?_
   rw [faK_i,Addr.add_add]
   refine ld1K_i ((g2.trans g3).cell (hc 4 _ rfl) fun h=>h) ?_
   refine callK_mono (maypat_ok (hk.grow (g02.trans g3) (by decide) fun _ _ h=>h) (h3.grow g3 (by decide) fun _ _ h=>h) (hss _ hmem).2) ?_
   rintro v4 w4 ⟨rfl,g4⟩
   rw [eqK_i]
   exact condK_p (fun hs=>bad _ ((g02.trans g3).trans g4) (.inl ⟨_,hmem,.inr (.inr hs)⟩)) fun hp=>⟨(g02.trans g3).trans g4,hf,hs,hp⟩
 ·have:k=x.length:=by omega
  subst this
  rw [List.take_length] at hall
  refine JoinK_i (fun vs w2=>Grow w w2∧¬ OpsBad keys x) ?_ ?_
  ·rintro vs w2 ⟨g2,ok⟩ _
   refine LoopK_i (fun vs w3=>∃ k:Nat,k≤x.length∧vs=[.int .i64 k]∧Grow w w3∧∀ o ∈ x.take k,maySet keys o.set=0∧mayPat keys o.patch=0) (fun vs _=>x.length - iOf vs 0) ⟨0,Nat.zero_le _,rfl,g2,by simp⟩ ?_
   rintro vs w3 ⟨k,hkl,rfl,g3,hz⟩ _
   rw [lenK_i,nth_z,List.headD_cons,ltK_i]
   refine condK_p (fun hlt=>?_) fun hge=>?_
   ·have hlt':k < x.length:=by omega
    have hmem:x[k] ∈ x:=by simp
    have four:∀ w',Grow w w'→(maySet keys x[k].set≠0∨mayPat keys x[k].patch≠0)→Value.int .i64 4=.int .i64 (mayOps keys x)∧Grow w w':=fun w' g hb=>⟨by rw [mayOps,if_neg ok,if_pos ⟨_,hmem,hb⟩],g⟩
    obtain ⟨p,r,rfl,_,hr,hc,rv,sv,pv,rfl,h1,h2,h3⟩:=(RDops.grow h g3).get hlt'
    refine ixK_n hlt' ?_
    rw [faK_i,Addr.add_add]
    refine ld1K_i (hc 3 _ rfl) ?_
    refine callK_mono (mayset_ok (hk.grow g3 (by decide) fun _ _ h=>h) h2 (hss _ hmem).1) ?_
    rintro v4 w4 ⟨rfl,g4⟩
    rw [neK_i]
    refine condK_neg (fun hs=>?_) fun hs=>four _ (g3.trans g4) (.inl hs)
    refine ixK_n hlt' ?_
    rw [faK_i,Addr.add_add]
    refine ld1K_i (g4.cell (hc 4 _ rfl) fun h=>h) ?_
    refine callK_mono (maypat_ok (hk.grow (g3.trans g4) (by decide) fun _ _ h=>h) (h3.grow g4 (by decide) fun _ _ h=>h) (hss _ hmem).2) ?_
    rintro v5 w5 ⟨rfl,g5⟩
    rw [neK_i]
    refine condK_neg (fun hp=>?_) fun hp=>four _ ((g3.trans g4).trans g5) (.inr hp)
    rw [addK_i,loop_step (by omega)]
    refine ⟨⟨k+1,hlt',rfl,(g3.trans g4).trans g5,fun o hoo=>?_⟩,by rw [iOf0,iOf0];omega⟩
    rw [List.take_add_one,List.getElem?_eq_getElem hlt'] at hoo
    rcases List.mem_append.1 hoo with hoo | hoo
    ·exact hz o hoo
    ·simp at hoo;subst hoo;exact ⟨hs,hp⟩
   ·have:k=x.length:=by omega
    subst this
    rw [List.take_length] at hz
    refine ⟨?_,g3⟩
    rw [mayOps,if_neg ok,if_neg]
    rintro ⟨o,ho,h | h⟩
    ·exact h (hz o ho).1
    ·exact h (hz o ho).2
  ·refine callK_mono (takes_ok (RDops.grow h g1)) ?_
   rintro v2 w2 ⟨rfl,g2⟩
   rw [gtK_i]
   refine condK_p (fun ht=>bad _ (g1.trans g2) (.inr (.inl ht))) fun ht=>?_
   refine callK_mono (makes_ok (RDops.grow h (g1.trans g2))) ?_
   rintro v3 w3 ⟨rfl,g3⟩
   rw [gtK_i]
   refine condK_p (fun hm=>bad _ ((g1.trans g2).trans g3) (.inr (.inr hm))) fun hm=>⟨(g1.trans g2).trans g3,?_⟩
   rintro (⟨o,ho,h⟩ | h | h)
   ·obtain ⟨q1,q2,q3⟩:=hall o ho
    rcases h with h | h | h
    ·exact h q1
    ·exact q2 h
    ·exact q3 h
   ·exact ht h
   ·exact hm h
theorem FormO.f1 {o:Dop} (h:FormO o):Form1 o:=by
 rcases h.form1 with h | h | h
 ·exact .inl h
 ·exact .inr (.inl h)
 ·exact .inr (.inr h)
end Go.Proofs.YtlbaopamhkmepaaGreatDoor

namespace Go.Proofs.YtlbaopamhkmepaaGreatDoor
open Go Go.K

def Good (PS:List Attr→Prop) (PP:List Chg→Prop) (o:Dop):Prop:=(o.kind=1∧o.runes=[]∧o.set=[]∧1≤o.n∧PP o.patch)∨(o.kind=3∧o.runes=[]∧o.set=[]∧o.patch=[]∧1≤o.n)∨
 (o.kind=2∧(∀ r ∈ o.runes,MayR r)∧o.n=0∧o.patch=[]∧o.runes≠[]∧PS o.set)
theorem total_app (x y:List Dop):total (x++y)=total x+total y:=by simp [total]
theorem total_one (o:Dop):total [o]=lenN o:=by simp [total]
theorem total_mem {x:List Dop} {o:Dop} (h:o ∈ x):lenN o≤total x:=by
 induction x with
 | nil=>simp at h
 | cons a x ih=>
  simp only [total,List.map_cons,List.sum_cons] at *
  rcases List.mem_cons.1 h with rfl | h
  ·omega
  ·have:=ih h;omega
theorem set_end (i:List Dop) (b o:Dop):(i++[b]).set ((i++[b]).length - 1) o=i++[o]:=by
 rw [List.set_append_right _ _ (by simp)];simp
section
variable {PS:List Attr→Prop} {PP:List Chg→Prop}
theorem good_gap {ins:List Dop} {g:Int} (h:∀ o ∈ ins,Good PS PP o∧o.kind=2):∀ o ∈ gapL ins g,Good PS PP o:=by
 intro o ho
 unfold gapL at ho
 split at ho
 ·rcases List.mem_append.1 ho with h' | h'
  ·exact (h o h').1
  ·simp at h';subst h';exact .inr (.inl ⟨rfl,rfl,rfl,rfl,by simp only;omega⟩)
 ·exact (h o ho).1
theorem total_gap (ins:List Dop) (g:Int):total (gapL ins g)=total ins+g.toNat:=by
 unfold gapL
 split
 ·rw [total_app,total_one];simp [lenN]
 ·omega
structure GoodM (PS:List Attr→Prop) (PP:List Chg→Prop) (s:MkS) (t:Nat):Prop where
 done:∀ o ∈ s.done,Good PS PP o
 ins:∀ o ∈ s.ins,Good PS PP o∧o.kind=2
 gone:0≤s.gone
 tot:total s.done+total s.ins+s.gone.toNat≤t
theorem good_step {s:MkS} {t:Nat} {o:Dop} (h:GoodM PS PP s t) (ho:Good PS PP o) (ht:t+lenN o≤1099511627776):GoodM PS PP (stepS s o) (t+lenN o):=by
 obtain ⟨done,ins,gone⟩:=s
 obtain ⟨h1,h2,h3,h4⟩:=h
 simp only at h1 h2 h3 h4
 obtain ⟨k,n,rs,set,p⟩:=o
 rcases ho with ⟨e1,e2,e3,e4,e5⟩ | ⟨e1,e2,e3,e4,e5⟩ | ⟨e1,e2,e3,e4,e5,e6⟩
 ·simp only at e1 e2 e3 e4 e5
  subst e1;subst e2;subst e3
  simp only [lenN,show ¬ (1:Int)=2 by decide,if_false] at ht ⊢
  simp only [stepS,if_true,retS,if_neg (show ¬ n < 1 by omega)]
  have hd:∀ o ∈ done++gapL ins gone,Good PS PP o:=fun o ho=>by
   rcases List.mem_append.1 ho with h | h
   ·exact h1 o h
   ·exact good_gap h2 o h
  have td:total (done++gapL ins gone)≤t:=by rw [total_app,total_gap];omega
  generalize done++gapL ins gone=d at hd td ⊢
  have new:GoodM PS PP ⟨d++[⟨1,n,[],[],p⟩],[],0⟩ (t+n.toNat):=by
   refine ⟨fun o ho=>?_,by simp,by simp,?_⟩
   ·rcases List.mem_append.1 ho with h | h
    ·exact hd o h
    ·simp at h;subst h;exact .inl ⟨rfl,rfl,rfl,e4,e5⟩
   ·simp only [total_app,total_one,lenN,show ¬ (1:Int)=2 by decide,if_false]
    simp [total];simp [total] at td;omega
  unfold putS
  rcases List.eq_nil_or_concat d with rfl | ⟨i,q,rfl⟩
  ·exact new
  ·simp only [List.concat_eq_append,List.getLast?_append,List.getLast?_singleton,Option.some_or] at *
   by_cases e:q.kind=1∧q.patch=p
   ·rw [if_pos e]
    have hq:=hd q (by simp)
    obtain ⟨kq,nq,rq,sq,pq⟩:=q
    simp only at e
    obtain ⟨rfl,rfl⟩:=e
    rcases hq with ⟨f1,f2,f3,f4,f5⟩ | ⟨f1,_⟩ | ⟨f1,_⟩
    ·simp only at f2 f3 f4
     subst f2;subst f3
     rw [total_app,total_one] at td
     simp only [lenN,show ¬ (1:Int)=2 by decide,if_false] at td
     dsimp only
     rw [wrapI_in (by omega) (by omega),set_end]
     refine ⟨fun o ho=>?_,by simp,by simp,?_⟩
     ·rcases List.mem_append.1 ho with h | h
      ·exact hd o (by simp [h])
      ·simp at h;subst h;exact .inl ⟨rfl,rfl,rfl,by simp only;omega,e5⟩
     ·simp only [total_app,total_one,lenN,show ¬ (1:Int)=2 by decide,if_false]
      simp [total];simp [total] at td;omega
    ·simp at f1
    ·simp at f1
   ·rw [if_neg e];exact new
 ·simp only at e1 e2 e3 e4 e5
  subst e1;subst e2;subst e3;subst e4
  simp only [lenN,show ¬ (3:Int)=2 by decide,if_false] at ht ⊢
  simp only [stepS,show ¬ (3:Int)=1 by decide,show ¬ (3:Int)=2 by decide,if_false,delS]
  have:maxI n 0=n:=by unfold maxI;rw [if_neg (by omega)]
  rw [this,wrapI_in (by omega) (by omega)]
  exact ⟨h1,h2,by simp only;omega,by simp only;omega⟩
 ·simp only at e1 e2 e3 e4 e5 e6
  subst e1;subst e3;subst e4
  simp only [lenN,if_true] at ht ⊢
  simp only [stepS,show ¬ (2:Int)=1 by decide,if_true,if_false,insS,if_neg e5]
  have new:GoodM PS PP ⟨done,ins++[⟨2,0,rs,set,[]⟩],gone⟩ (t+rs.length):=by
   refine ⟨h1,fun o ho=>?_,h3,?_⟩
   ·rcases List.mem_append.1 ho with h | h
    ·exact h2 o h
    ·simp at h;subst h;exact ⟨.inr (.inr ⟨rfl,e2,rfl,rfl,e5,e6⟩),rfl⟩
   ·simp only [total_app,total_one,lenN,if_true];omega
  unfold addI
  rcases List.eq_nil_or_concat ins with rfl | ⟨i,q,rfl⟩
  ·exact new
  ·simp only [List.concat_eq_append,List.getLast?_append,List.getLast?_singleton,Option.some_or] at *
   by_cases e:q.set=set
   ·rw [if_pos e]
    have hq:=h2 q (by simp)
    obtain ⟨kq,nq,rq,sq,pq⟩:=q
    simp only at e
    subst e
    obtain ⟨hq,hk⟩:=hq
    simp only at hk
    subst hk
    rcases hq with ⟨f1,_⟩ | ⟨f1,_⟩ | ⟨f1,f2,f3,f4,f5,f6⟩
    ·simp at f1
    ·simp at f1
    ·simp only at f2 f3 f4 f5 f6
     subst f3;subst f4
     rw [set_end]
     refine ⟨h1,fun o ho=>?_,h3,?_⟩
     ·rcases List.mem_append.1 ho with h | h
      ·exact h2 o (by simp [h])
      ·simp at h;subst h
       exact ⟨.inr (.inr ⟨rfl,fun r hr=>by rcases List.mem_append.1 hr with h | h;exact f2 r h;exact e2 r h,rfl,rfl,by simp [e5],f6⟩),rfl⟩
     ·simp only [total_app,total_one,lenN,if_true,List.length_append] at h4 ⊢;omega
   ·rw [if_neg e];exact new
theorem good_run (x:List Dop) (h:∀ o ∈ x,Good PS PP o) (hb:total x≤1099511627776):GoodM PS PP (runS x) (total x):=by
 induction x using rev_ind with
 | h0=>exact ⟨by simp [runS,MkS.z],by simp [runS,MkS.z],by simp [runS,MkS.z],by simp [runS,MkS.z,total]⟩
 | h1 x o ih=>
  rw [total_app,total_one] at hb ⊢
  have:=good_step (ih (fun o ho=>h o (by simp [ho])) (by omega)) (h o (by simp)) hb
  simpa [runS] using this
theorem good_norm (x:List Dop) (h:∀ o ∈ x,Good PS PP o) (hb:total x≤1099511627776):(∀ o ∈ normB x,Good PS PP o)∧total (normB x)≤total x:=by
 obtain ⟨h1,h2,h3,h4⟩:=good_run x h hb
 have hd:∀ o ∈ (runS x).done++gapL (runS x).ins (runS x).gone,Good PS PP o:=fun o ho=>by
  rcases List.mem_append.1 ho with h | h
  ·exact h1 o h
  ·exact good_gap h2 o h
 have td:total ((runS x).done++gapL (runS x).ins (runS x).gone)≤total x:=by rw [total_app,total_gap];omega
 unfold normB opsS
 generalize (runS x).done++gapL (runS x).ins (runS x).gone=d at hd td
 unfold trimL
 rcases List.eq_nil_or_concat d with rfl | ⟨i,q,rfl⟩
 ·exact ⟨hd,td⟩
 ·simp only [List.concat_eq_append,List.getLast?_append,List.getLast?_singleton,Option.some_or,List.dropLast_concat] at *
  split
  ·rw [total_app] at td
   exact ⟨fun o ho=>hd o (by simp [ho]),by omega⟩
  ·exact ⟨hd,td⟩
end
section
variable {ks:List DKey}
def SetK (ks:List DKey) (l:List Attr):Prop:=RisS l∧l.length≤64∧∀ a ∈ l,ValOK a.val∧FitsK ks a.key a.val
def PatK (ks:List DKey) (p:List Chg):Prop:=RisP p∧p.length≤64∧∀ c ∈ p,(c.gone=true→c.val=AVal.zero)∧(c.gone=false→ValOK c.val∧FitsK ks c.key c.val)∧findK ks c.key≠none
theorem setK_iff {l:List Attr}:maySet ks l=0↔SetK ks l:=by
 unfold maySet
 constructor
 ·intro h
  split at h
  ·cases h
  ·split at h
   ·cases h
   ·rename_i h1 h2
    refine ⟨Classical.byContradiction fun hn=>h1 (.inl fun hr=>hn (ris_pw hr)),Classical.byContradiction fun hn=>h1 (.inr (.inl (by omega))),fun a ha=>⟨Classical.byContradiction fun hn=>h1 (.inr (.inr ⟨a,ha,hn⟩)),Classical.byContradiction fun hn=>h2 ⟨a,ha,hn⟩⟩⟩
 ·rintro ⟨h1,h2,h3⟩
  rw [if_neg,if_neg]
  ·rintro ⟨a,ha,hn⟩;exact hn (h3 a ha).2
  ·rintro (hn | hn | ⟨a,ha,hn⟩)
   ·exact hn (pw_ris h1)
   ·omega
   ·exact hn (h3 a ha).1
theorem patK_iff {l:List Chg}:mayPat ks l=0↔PatK ks l:=by
 unfold mayPat
 constructor
 ·intro h
  split at h
  ·cases h
  ·split at h
   ·cases h
   ·rename_i h1 h2
    refine ⟨Classical.byContradiction fun hn=>h1 (.inl fun hr=>hn (ris_pw hr)),Classical.byContradiction fun hn=>h1 (.inr (.inl (by omega))),fun a ha=>⟨fun hg=>Classical.byContradiction fun hn=>h1 (.inr (.inr ⟨a,ha,.inl ⟨hg,hn⟩⟩)),fun hg=>⟨Classical.byContradiction fun hn=>h1 (.inr (.inr ⟨a,ha,.inr ⟨hg,hn⟩⟩)),Classical.byContradiction fun hn=>h2 ⟨a,ha,.inr ⟨hg,hn⟩⟩⟩,fun hn=>h2 ⟨a,ha,.inl hn⟩⟩⟩
 ·rintro ⟨h1,h2,h3⟩
  rw [if_neg,if_neg]
  ·rintro ⟨a,ha,hn | ⟨hg,hn⟩⟩
   ·exact (h3 a ha).2.2 hn
   ·exact hn ((h3 a ha).2.1 hg).2
  ·rintro (hn | hn | ⟨a,ha,⟨hg,hn⟩ | ⟨hg,hn⟩⟩)
   ·exact hn (pw_ris h1)
   ·omega
   ·exact hn ((h3 a ha).1 hg)
   ·exact hn ((h3 a ha).2.1 hg).1
theorem setK_nil:SetK ks []:=⟨List.Pairwise.nil,by simp,by simp⟩
theorem patK_nil:PatK ks []:=⟨List.Pairwise.nil,by simp,by simp⟩
theorem find_id {id:Int} {k:DKey} (h:findK ks id=some k):id ∈ ks.map DKey.id:=by
 have h1:=List.find?_some h
 simp at h1
 exact List.mem_map.2 ⟨k,List.mem_of_find?_eq_some h,h1⟩
theorem find_id' {id:Int} (h:findK ks id≠none):id ∈ ks.map DKey.id:=by
 cases e:findK ks id with
 | none=>exact (h e).elim
 | some k=>exact find_id e
theorem comP_may (h64:ks.length≤64) {p q:List Chg} (hp:PatK ks p) (hq:PatK ks q):PatK ks (comP p q):=by
 have hm:∀ c ∈ comP p q,(c.gone=true→c.val=AVal.zero)∧(c.gone=false→ValOK c.val∧FitsK ks c.key c.val)∧findK ks c.key≠none:=fun c hc=>by
  rcases comP_mem hc with h | h
  ·exact hp.2.2 c h
  ·exact hq.2.2 c h
 have hr:=comP_ris hp.1 hq.1
 refine ⟨hr,?_,hm⟩
 have:=few (key:=Chg.key) (ids:=ks.map DKey.id) hr fun c hc=>find_id' (hm c hc).2.2
 rw [List.length_map] at this
 omega
theorem appP_may (h64:ks.length≤64) {s:List Attr} {p:List Chg} (hs:SetK ks s) (hp:RisP p) (hp2:∀ c ∈ p,c.gone=false→ValOK c.val∧FitsK ks c.key c.val):SetK ks (appP s p):=by
 have hm:∀ a ∈ appP s p,ValOK a.val∧FitsK ks a.key a.val:=fun a ha=>by
  rcases appP_mem ha with h | ⟨c,hc,hg,rfl⟩
  ·exact hs.2.2 a h
  ·exact hp2 c hc hg
 have hr:=appP_ris hs.1 hp
 refine ⟨hr,?_,hm⟩
 have:=few (key:=Attr.key) (ids:=ks.map DKey.id) hr fun a ha=>by
  obtain ⟨k,hk,_⟩:=(hm a ha).2
  exact find_id hk
 rw [List.length_map] at this
 omega
theorem cellP_may (h64:ks.length≤64) {s:List Attr} {p:List Chg} (hs:SetK ks s) (hp:PatK ks p) (r:Int):SetK ks (cellP ks s p r):=by
 refine appP_may h64 hs (hp.1.filter _) fun c hc hg=>(hp.2.2 c (List.mem_filter.1 hc).1).2.1 hg
abbrev GoodK (ks:List DKey) (o:Dop):Prop:=Good (SetK ks) (PatK ks) o
theorem GoodK.opk {o:Dop} (h:GoodK ks o) (hl:lenN o≤536870912):Opk o:=by
 rcases h with ⟨h1,_,_,h4,_⟩ | ⟨h1,_,_,_,h4⟩ | ⟨h1,_,_,_,h4,_⟩
 ·exact ⟨.inl h1,by simp only [lenN,h1,show ¬ (1:Int)=2 by decide,if_false];omega,hl⟩
 ·exact ⟨.inr (.inr h1),by simp only [lenN,h1,show ¬ (3:Int)=2 by decide,if_false];omega,hl⟩
 ·refine ⟨.inr (.inl h1),?_,hl⟩
  simp only [lenN,h1,if_true]
  exact List.length_pos_iff.2 h4
theorem GoodK.form {o:Dop} (h:GoodK ks o) (hl:lenN o≤536870912):FormO o∧SetK ks o.set∧PatK ks o.patch:=by
 rcases h with ⟨h1,h2,h3,h4,h5⟩ | ⟨h1,h2,h3,h4,h5⟩ | ⟨h1,h2,h3,h4,h5,h6⟩
 ·simp only [lenN,h1,show ¬ (1:Int)=2 by decide,if_false] at hl
  exact ⟨.inl ⟨h1,h2,h3,h4,by omega⟩,by rw [h3];exact setK_nil,h5⟩
 ·simp only [lenN,h1,show ¬ (3:Int)=2 by decide,if_false] at hl
  exact ⟨.inr (.inl ⟨h1,h2,h3,h4,h5,by omega⟩),by rw [h3];exact setK_nil,by rw [h4];exact patK_nil⟩
 ·simp only [lenN,h1,if_true] at hl
  exact ⟨.inr (.inr ⟨h1,h2,h3,h4,List.length_pos_iff.2 h5,hl⟩),h6,by rw [h4];exact patK_nil⟩
theorem FormO.good {o:Dop} (h:FormO o) (hs:SetK ks o.set) (hp:PatK ks o.patch):GoodK ks o∧lenN o≤536870912:=by
 rcases h with ⟨h1,h2,h3,h4,h5⟩ | ⟨h1,h2,h3,h4,h5,h6⟩ | ⟨h1,h2,h3,h4,h5,h6⟩
 ·exact ⟨.inl ⟨h1,h2,h3,h4,hp⟩,by simp only [lenN,h1,show ¬ (1:Int)=2 by decide,if_false];omega⟩
 ·exact ⟨.inr (.inl ⟨h1,h2,h3,h4,h5⟩),by simp only [lenN,h1,show ¬ (3:Int)=2 by decide,if_false];omega⟩
 ·exact ⟨.inr (.inr ⟨h1,h2,h3,h4,by intro e;rw [e] at h5;simp at h5,hs⟩),by simp only [lenN,h1,if_true];exact h6⟩
theorem may_good {x:List Dop} (h:mayOps ks x=0):∀ o ∈ x,GoodK ks o∧lenN o≤536870912:=by
 unfold mayOps at h
 split at h
 ·cases h
 ·split at h
  ·cases h
  ·rename_i h1 h2
   intro o ho
   refine FormO.good (Classical.byContradiction fun hn=>h1 (.inl ⟨o,ho,.inl hn⟩)) (setK_iff.1 (Classical.byContradiction fun hn=>h2 ⟨o,ho,.inl hn⟩)) (patK_iff.1 (Classical.byContradiction fun hn=>h2 ⟨o,ho,.inr hn⟩))
theorem sumW_total {f:Dop→Int} (x:List Dop) (h:∀ o ∈ x,0≤f o∧f o≤lenN o) (hb:total x≤1099511627776):0≤sumW f x∧sumW f x≤total x:=by
 induction x using rev_ind with
 | h0=>exact ⟨by simp [sumW],by simp [sumW]⟩
 | h1 x o ih=>
  rw [total_app,total_one] at hb ⊢
  have i1:=ih (fun o ho=>h o (by simp [ho])) (by omega)
  have i2:=h o (by simp)
  have e:sumW f (x++[o])=IntKind.i64.wrap (sumW f x+f o):=by simp [sumW]
  rw [e,wrapI_in (by omega) (by omega)]
  omega
theorem good_may {x:List Dop} (h:∀ o ∈ x,GoodK ks o) (hb:total x≤536870912):mayOps ks x=0:=by
 have hf:∀ o ∈ x,FormO o∧SetK ks o.set∧PatK ks o.patch:=fun o ho=>GoodK.form (h o ho) (by have:=total_mem ho;omega)
 have hn:∀ o ∈ x,0≤o.n:=fun o ho=>by
  rcases h o ho with ⟨_,_,_,h4,_⟩ | ⟨_,_,_,_,h4⟩ | ⟨_,_,h4,_⟩ <;> omega
 have ht:=sumW_total (f:=takesF) x (fun o ho=>by
  have:=hn o ho
  unfold takesF lenN
  split <;> omega) (by omega)
 have hm:=sumW_total (f:=makesF) x (fun o ho=>by
  have:=hn o ho
  unfold makesF lenN lenO
  split
  ·split <;> omega
  ·split <;> omega) (by omega)
 unfold mayOps
 rw [if_neg,if_neg]
 ·rintro ⟨o,ho,hn | hn⟩
  ·exact hn (setK_iff.2 (hf o ho).2.1)
  ·exact hn (patK_iff.2 (hf o ho).2.2)
 ·rintro (⟨o,ho,hn | hn | hn⟩ | hn | hn)
  ·exact hn (hf o ho).1
  ·rw [setK_iff.2 (hf o ho).2.1] at hn;cases hn
  ·rw [patK_iff.2 (hf o ho).2.2] at hn;cases hn
  ·omega
  ·omega
theorem good_ones {o u:Dop} (h:GoodK ks o) (hu:u ∈ ones o):GoodK ks u∧lenN u=1:=by
 rcases h with ⟨h1,h2,h3,h4,h5⟩ | ⟨h1,h2,h3,h4,h5⟩ | ⟨h1,h2,h3,h4,h5,h6⟩
 ·simp only [ones,h1,show ¬ (1:Int)=2 by decide,if_false] at hu
  rw [List.mem_replicate] at hu
  rw [hu.2]
  exact ⟨.inl ⟨rfl,rfl,h3,by simp only;omega,h5⟩,rfl⟩
 ·simp only [ones,h1,show ¬ (3:Int)=2 by decide,if_false] at hu
  rw [List.mem_replicate] at hu
  rw [hu.2]
  exact ⟨.inr (.inl ⟨rfl,rfl,h3,h4,by simp only;omega⟩),rfl⟩
 ·simp only [ones,h1,if_true,List.mem_map] at hu
  obtain ⟨r,hr,rfl⟩:=hu
  exact ⟨.inr (.inr ⟨rfl,by simpa using h2 r hr,rfl,h4,by simp,h6⟩),by simp [lenN]⟩
theorem good_onesL {x:List Dop} (h:∀ o ∈ x,GoodK ks o):∀ u ∈ onesL x,GoodK ks u∧lenN u=1:=by
 intro u hu
 simp only [onesL,List.mem_flatMap] at hu
 obtain ⟨o,ho,hu⟩:=hu
 exact good_ones (h o ho) hu
theorem oneP_good (h64:ks.length≤64) {u c z:Dop} (hu:GoodK ks u∧lenN u=1) (hc:GoodK ks c∧lenN c=1) (hz:z ∈ oneP ks u c):GoodK ks z∧lenN z=1:=by
 unfold oneP at hz
 split at hz
 ·rename_i k1
  split at hz
  ·simp at hz;subst hz;exact hc
  ·split at hz
   ·rename_i k3
    simp at hz
    subst hz
    refine ⟨.inl ⟨rfl,rfl,rfl,(show (1:Int)≤1 by decide),?_⟩,rfl⟩
    rcases hu.1 with ⟨_,_,_,_,hp⟩ | ⟨h,_⟩ | ⟨h,_⟩
    ·rcases hc.1 with ⟨_,_,_,_,hq⟩ | ⟨h,_⟩ | ⟨h,_⟩
     ·exact comP_may h64 hp hq
     ·omega
     ·omega
    ·omega
    ·omega
   ·simp at hz
 ·split at hz
  ·rename_i k1 k2
   simp at hz
   rcases hc.1 with ⟨_,_,_,_,hq⟩ | ⟨h,_⟩ | ⟨h,_⟩
   ·rcases hu.1 with ⟨h,_⟩ | ⟨h,h2,h3,h4,h5⟩ | ⟨_,h2,_,_,h5,h6⟩
    ·omega
    ·subst hz
     -- an insert of no rune never comes: a delete has none
     rcases hu with ⟨_,hl⟩
     refine ⟨.inr (.inr ⟨rfl,?_,rfl,rfl,by simp,?_⟩),by simp [lenN]⟩
     ·rw [h2];simp [MayR]
     ·rw [h3];exact cellP_may h64 setK_nil hq _
    ·subst hz
     refine ⟨.inr (.inr ⟨rfl,?_,rfl,rfl,by simp,cellP_may h64 h6 hq _⟩),by simp [lenN]⟩
     cases e:u.runes with
     | nil=>exact (h5 e).elim
     | cons r rs=>simpa using h2 r (by simp [e])
   ·omega
   ·omega
  ·simp at hz
theorem refC_len {one:Dop→Dop→List Dop} (h:∀ u c,(one u c).length≤1):∀ {b a:List Dop},(refC one a b).length≤a.length+b.length:=by
 intro b
 induction b with
 | nil=>intro a;simp [refC]
 | cons c b ih=>
  intro a
  simp only [refC]
  split
  ·have:=ih (a:=a);simp only [List.length_cons];omega
  ·have e:=congrArg List.length (List.takeWhile_append_dropWhile (p:=fun o:Dop=>decide (o.kind=3)) (l:=a))
   simp only [List.length_append] at e ⊢
   revert e
   generalize a.dropWhile (fun o=>decide (o.kind=3))=a'
   intro e
   cases a' with
   | nil=>
    have:=ih (a:=[])
    have:=h ⟨1,1,[],[],[]⟩ c
    simp only [List.length_append,List.length_nil,List.length_cons] at *
    omega
   | cons u a'=>
    have:=ih (a:=a')
    have:=h u c
    simp only [List.length_append,List.length_cons] at *
    omega
theorem total_units {x:List Dop} (h:∀ o ∈ x,lenN o=1):total x=x.length:=by
 induction x with
 | nil=>rfl
 | cons o x ih=>
  have:=ih fun o ho=>h o (by simp [ho])
  simp only [total,List.map_cons,List.sum_cons,List.length_cons] at *
  rw [h o (by simp)];omega
def cmpD (ks:List DKey) (x y:List Dop):List Dop:=normB (refC (oneP ks) (onesL x) (onesL y))
theorem ref_good (h64:ks.length≤64) {x y:List Dop} (hx:∀ o ∈ x,GoodK ks o) (hy:∀ o ∈ y,GoodK ks o):(∀ z ∈ refC (oneP ks) (onesL x) (onesL y),GoodK ks z∧lenN z=1)∧total (refC (oneP ks) (onesL x) (onesL y))≤total x+total y:=by
 have h1:=good_onesL hx
 have h2:=good_onesL hy
 have hz:∀ z ∈ refC (oneP ks) (onesL x) (onesL y),GoodK ks z∧lenN z=1:=by
  intro z hz
  rcases refC_mem hz with h | h | ⟨u,c,hu,hc,_,h⟩
  ·exact h1 z h
  ·exact h2 z h
  ·refine oneP_good h64 ?_ (h2 c hc) h
   rcases hu with hu | rfl
   ·exact h1 u hu
   ·exact ⟨.inl ⟨rfl,rfl,rfl,by decide,patK_nil⟩,rfl⟩
 refine ⟨hz,?_⟩
 rw [total_units fun z h=>(hz z h).2,←onesL_len x,←onesL_len y]
 refine refC_len fun u c=>?_
 unfold oneP
 split
 ·split
  ·simp
  ·split <;> simp
 ·split <;> simp
theorem cmp_good (h64:ks.length≤64) {x y:List Dop} (hx:∀ o ∈ x,GoodK ks o) (hy:∀ o ∈ y,GoodK ks o) (hb:total x+total y≤1099511627776):(∀ z ∈ cmpD ks x y,GoodK ks z)∧total (cmpD ks x y)≤total x+total y:=by
 obtain ⟨h1,h2⟩:=ref_good h64 hx hy
 obtain ⟨h3,h4⟩:=good_norm _ (fun z hz=>(h1 z hz).1) (by omega)
 exact ⟨h3,by unfold cmpD;omega⟩
end
end Go.Proofs.YtlbaopamhkmepaaGreatDoor

namespace Go.Proofs.YtlbaopamhkmepaaGreatDoor
open Go Go.K
def S59 (v0 v1:Value) (K:Cont) (w:World):Prop:=
 lenK v1 fun t10=>
 LoopK [(.int .i64 0),(.int .i64 0)] (fun vs again w1=>∀ _h:Env,
 ltK .i64 (nth vs 1) t10 fun t12=>
 condK t12
 (ixK 5 v1 (nth vs 1) fun t13=>
 ldnK 5 t13 (fun t14 w2=>
 newK 39 [(.int .u8 0),(.int .i64 0),(.slice none 0 0),(.slice none 0 0),(.slice none 0 0)] (fun t7 w3=>
 stnK 5 t7 t14 (fun w4=>
 ldnK 5 t7 (fun t16 w5=>
 callK Tryz.prog 93 [v0,t16] (fun t17 w6=>
 eqK .i64 t17 (.int .i64 3) fun t20=>
 condK t20
 (K t17 w6)
 (neK .i64 t17 (.int .i64 0) fun t24=>
 condK t24
 (addK .i64 (nth vs 1) (.int .i64 1) fun t26=>
 again [t17,t26] w6)
 (addK .i64 (nth vs 1) (.int .i64 1) fun t26_1=>
 again [(nth vs 0),t26_1] w6))) w5) w4) w3) w2) w1)
 (callK Tryz.prog 94 [v1] (fun t28 w7=>
 gtK .i64 t28 (.int .i64 536870912) fun t29=>
 condK t29
 (K (.int .i64 3) w7)
 (callK Tryz.prog 95 [v1] (fun t32 w8=>
 gtK .i64 t32 (.int .i64 536870912) fun t33=>
 condK t33
 (K (.int .i64 3) w8)
 (K (nth vs 0) w8)) w7)) w1)) w
theorem S59_eq (v0 v1:Value) (K:Cont) (w:World):S59 v0 v1 K w=D Tryz.prog okf 36 (bodyOf Tryz.f59) (.node [] [] .nil (.node [] [] .nil (.node [] [] (.node [] [] .nil (.node [5,11] [(4,5),(7,8),(11,26)] (.node [] [] .nil (.node [] [] (.node [] [] .nil .nil) (.node [] [] (.node [] [] .nil (.node [] [] .nil (.node [] [] .nil (.node [] [] (.node [] [] .nil .nil) (.node [] [] .nil (.node [] [] .nil .nil)))))) .nil))) .nil)) (.node [] [] (.node [] [] .nil (.node [] [] (.node [] [] .nil .nil) .nil)) (.node [] [] .nil .nil))))) (retK Tryz.prog [.tmp 4] K) (nth [v0,v1]) w:=by kernel_rfl
theorem S59_ok {v0 v1:Value} {K:Cont} {w:World} (h:S59 v0 v1 K w):callK Tryz.prog 59 [v0,v1] K w:=
 callK_of (P:=Tryz.prog) (ok:=okf) (n:=36) (fn:=Tryz.f59) (c:=bodyOf Tryz.f59) (rs:=[.tmp 4]) (an:=(.node [] [] .nil (.node [] [] .nil (.node [] [] (.node [] [] .nil (.node [5,11] [(4,5),(7,8),(11,26)] (.node [] [] .nil (.node [] [] (.node [] [] .nil .nil) (.node [] [] (.node [] [] .nil (.node [] [] .nil (.node [] [] .nil (.node [] [] (.node [] [] .nil .nil) (.node [] [] .nil (.node [] [] .nil .nil)))))) .nil))) .nil)) (.node [] [] (.node [] [] .nil (.node [] [] (.node [] [] .nil .nil) .nil)) (.node [] [] .nil .nil)))))) good mixed Tryz.func59 (by kernel_rfl) (by kernel_rfl) (by kernel_rfl) (by kernel_rfl) (Eq.mp (S59_eq v0 v1 K w) h)

def S93 (v0 v1:Value) (K:Cont) (w:World):Prop:=
 boxnK 39 v1 (fun t3 w1=>
 JoinK (fun _vs w2=>∀ _h:Env,
 faK 3 t3 fun t20=>
 ld1K t20 (fun t21 w3=>
 callK Tryz.prog 154 [v0,t21] (fun t22 w4=>
 neK .i64 t22 (.int .i64 0) fun t24=>
 condK t24
 (K t22 w4)
 (faK 4 t3 fun t27=>
 ld1K t27 (fun t28 w5=>
 callK Tryz.prog 155 [v0,t28] (fun t29 w6=>
 K t29 w6) w5) w4)) w3) w2) (fun J=>
 ldnK 5 t3 (fun t6 w7=>
 callK Tryz.prog 152 [t6] (fun t7 w8=>
 notK t7 fun t8=>
 condK t8
 (K (.int .i64 3) w8)
 (ldnK 5 t3 (fun t10 w9=>
 callK Tryz.prog 153 [t10] (fun t11 w10=>
 ltK .i64 t11 (.int .i64 1) fun t12=>
 condK t12
 (K (.int .i64 3) w10)
 (ldnK 5 t3 (fun t15 w11=>
 callK Tryz.prog 153 [t15] (fun t16 w12=>
 gtK .i64 t16 (.int .i64 536870912) fun t17=>
 condK t17
 (K (.int .i64 3) w12)
 (J [] w12)) w11) w10)) w9) w8)) w7) w1)) w
theorem S93_eq (v0 v1:Value) (K:Cont) (w:World):S93 v0 v1 K w=D Tryz.prog okf 30 (bodyOf Tryz.f93) (.node [] [] .nil (.cut [] [(4,4),(6,18)] (.node [] [] .nil (.node [] [] (.node [] [] .nil .nil) .nil)) (.node [] [] (.node [] [] .nil (.node [] [] .nil (.node [] [] (.node [] [] .nil .nil) .nil))) (.node [] [] .nil .nil)))) (retK Tryz.prog [.tmp 4] K) (nth [v0,v1]) w:=by kernel_rfl
theorem S93_ok {v0 v1:Value} {K:Cont} {w:World} (h:S93 v0 v1 K w):callK Tryz.prog 93 [v0,v1] K w:=
 callK_of (P:=Tryz.prog) (ok:=okf) (n:=30) (fn:=Tryz.f93) (c:=bodyOf Tryz.f93) (rs:=[.tmp 4]) (an:=(.node [] [] .nil (.cut [] [(4,4),(6,18)] (.node [] [] .nil (.node [] [] (.node [] [] .nil .nil) .nil)) (.node [] [] (.node [] [] .nil (.node [] [] .nil (.node [] [] (.node [] [] .nil .nil) .nil))) (.node [] [] .nil .nil))))) good mixed Tryz.func93 (by kernel_rfl) (by kernel_rfl) (by kernel_rfl) (by kernel_rfl) (Eq.mp (S93_eq v0 v1 K w) h)

def S152 (v0:Value) (K:Cont) (w:World):Prop:=
 boxnK 39 v0 (fun t1 w1=>
 JoinK (fun vs w2=>∀ _h:Env,
 faK 0 t1 fun t14=>
 ld1K t14 (fun t15 w3=>
 eqK .u8 t15 (.int .u8 1) fun t17=>
 condK t17
 (notK (nth vs 0) fun t19=>
 K t19 w3)
 (eqK .u8 t15 (.int .u8 3) fun t21=>
 condK t21
 (notK (nth vs 0) fun t23=>
 condK t23
 (faK 4 t1 fun t25=>
 ld1K t25 (fun t26 w4=>
 lenK t26 fun t27=>
 eqK .i64 t27 (.int .i64 0) fun t28=>
 K t28 w4) w3)
 (K (.bool false) w3))
 (eqK .u8 t15 (.int .u8 2) fun t31=>
 condK t31
 (faK 1 t1 fun t32=>
 ld1K t32 (fun t33 w5=>
 eqK .i64 t33 (.int .i64 0) fun t34=>
 condK t34
 (faK 4 t1 fun t36=>
 ld1K t36 (fun t37 w6=>
 lenK t37 fun t38=>
 eqK .i64 t38 (.int .i64 0) fun t39=>
 condK t39
 (faK 2 t1 fun t42=>
 ld1K t42 (fun t43 w7=>
 callK Tryz.prog 189 [t43,(.func (.func 190) #[] #[])] (fun t44 w8=>
 notK t44 fun t45=>
 K t45 w8) w7) w6)
 (K (.bool false) w6)) w5)
 (K (.bool false) w5)) w3)
 (K (.bool false) w3)))) w2) (fun J=>
 faK 2 t1 fun t4=>
 ld1K t4 (fun t5 w9=>
 lenK t5 fun t6=>
 gtK .i64 t6 (.int .i64 0) fun t7=>
 condK t7
 (J [(.bool true)] w9)
 (faK 3 t1 fun t9=>
 ld1K t9 (fun t10 w10=>
 lenK t10 fun t11=>
 gtK .i64 t11 (.int .i64 0) fun t12=>
 J [t12] w10) w9)) w1)) w
theorem S152_eq (v0:Value) (K:Cont) (w:World):S152 v0 K w=D Tryz.prog okf 47 (bodyOf Tryz.f152) (.node [] [] .nil (.cut [3] [(3,13)] .nil (.node [] [] (.node [] [] .nil (.node [] [] .nil (.node [] [] (.node [] [] .nil .nil) (.node [] [] .nil (.node [] [] (.node [] [] .nil .nil) (.node [] [] .nil (.node [] [] (.node [] [] .nil .nil) .nil))))))) (.node [] [] .nil .nil)))) (retK Tryz.prog [.tmp 2] K) (nth [v0]) w:=by kernel_rfl
theorem S152_ok {v0:Value} {K:Cont} {w:World} (h:S152 v0 K w):callK Tryz.prog 152 [v0] K w:=
 callK_of (P:=Tryz.prog) (ok:=okf) (n:=47) (fn:=Tryz.f152) (c:=bodyOf Tryz.f152) (rs:=[.tmp 2]) (an:=(.node [] [] .nil (.cut [3] [(3,13)] .nil (.node [] [] (.node [] [] .nil (.node [] [] .nil (.node [] [] (.node [] [] .nil .nil) (.node [] [] .nil (.node [] [] (.node [] [] .nil .nil) (.node [] [] .nil (.node [] [] (.node [] [] .nil .nil) .nil))))))) (.node [] [] .nil .nil))))) good mixed Tryz.func152 (by kernel_rfl) (by kernel_rfl) (by kernel_rfl) (by kernel_rfl) (Eq.mp (S152_eq v0 K w) h)

def S190 (v0:Value) (K:Cont) (w:World):Prop:=
 callK Tryz.prog 159 [v0] (fun t4 w1=>
 notK t4 fun t5=>
 K t5 w1) w
theorem S190_eq (v0:Value) (K:Cont) (w:World):S190 v0 K w=D Tryz.prog okf 6 (bodyOf Tryz.f190) (.node [] [] .nil (.node [] [] .nil .nil)) (retK Tryz.prog [.tmp 2] K) (nth [v0]) w:=by kernel_rfl
theorem S190_ok {v0:Value} {K:Cont} {w:World} (h:S190 v0 K w):callK Tryz.prog 190 [v0] K w:=
 callK_of (P:=Tryz.prog) (ok:=okf) (n:=6) (fn:=Tryz.f190) (c:=bodyOf Tryz.f190) (rs:=[.tmp 2]) (an:=(.node [] [] .nil (.node [] [] .nil .nil))) good mixed Tryz.func190 (by kernel_rfl) (by kernel_rfl) (by kernel_rfl) (by kernel_rfl) (Eq.mp (S190_eq v0 K w) h)

def S153 (v0:Value) (K:Cont) (w:World):Prop:=
 boxnK 39 v0 (fun t1 w1=>
 faK 0 t1 fun t3=>
 ld1K t3 (fun t4 w2=>
 eqK .u8 t4 (.int .u8 2) fun t5=>
 condK t5
 (faK 2 t1 fun t6=>
 ld1K t6 (fun t7 w3=>
 lenK t7 fun t8=>
 K t8 w3) w2)
 (faK 1 t1 fun t9=>
 ld1K t9 (fun t10 w4=>
 K t10 w4) w2)) w1) w
theorem S153_eq (v0:Value) (K:Cont) (w:World):S153 v0 K w=D Tryz.prog okf 11 (bodyOf Tryz.f153) (.node [] [] .nil (.node [] [] (.node [] [] .nil (.node [] [] (.node [] [] .nil .nil) .nil)) (.node [] [] .nil .nil))) (retK Tryz.prog [.tmp 2] K) (nth [v0]) w:=by kernel_rfl
theorem S153_ok {v0:Value} {K:Cont} {w:World} (h:S153 v0 K w):callK Tryz.prog 153 [v0] K w:=
 callK_of (P:=Tryz.prog) (ok:=okf) (n:=11) (fn:=Tryz.f153) (c:=bodyOf Tryz.f153) (rs:=[.tmp 2]) (an:=(.node [] [] .nil (.node [] [] (.node [] [] .nil (.node [] [] (.node [] [] .nil .nil) .nil)) (.node [] [] .nil .nil)))) good mixed Tryz.func153 (by kernel_rfl) (by kernel_rfl) (by kernel_rfl) (by kernel_rfl) (Eq.mp (S153_eq v0 K w) h)

def S94 (v0:Value) (K:Cont) (w:World):Prop:=
 lenK v0 fun t7=>
 LoopK [(.int .i64 0),(.int .i64 0)] (fun vs again w1=>∀ _h:Env,
 ltK .i64 (nth vs 1) t7 fun t9=>
 condK t9
 (ixK 5 v0 (nth vs 1) fun t10=>
 ldnK 5 t10 (fun t11 w2=>
 newK 39 [(.int .u8 0),(.int .i64 0),(.slice none 0 0),(.slice none 0 0),(.slice none 0 0)] (fun t5 w3=>
 stnK 5 t5 t11 (fun w4=>
 faK 0 t5 fun t12=>
 ld1K t12 (fun t13 w5=>
 neK .u8 t13 (.int .u8 2) fun t14=>
 condK t14
 (faK 1 t5 fun t16=>
 ld1K t16 (fun t17 w6=>
 addK .i64 (nth vs 0) t17 fun t18=>
 addK .i64 (nth vs 1) (.int .i64 1) fun t19=>
 again [t18,t19] w6) w5)
 (addK .i64 (nth vs 1) (.int .i64 1) fun t19_1=>
 again [(nth vs 0),t19_1] w5)) w4) w3) w2) w1)
 (K (nth vs 0) w1)) w
theorem S94_eq (v0:Value) (K:Cont) (w:World):S94 v0 K w=D Tryz.prog okf 21 (bodyOf Tryz.f94) (.node [] [] .nil (.node [] [] .nil (.node [] [] (.node [] [] .nil (.node [3,8] [(3,3),(5,5),(8,19)] (.node [] [] .nil (.node [] [] (.node [] [] .nil .nil) (.node [] [] (.node [] [] .nil (.node [] [] .nil (.node [] [] .nil .nil))) .nil))) .nil)) (.node [] [] .nil .nil)))) (retK Tryz.prog [.tmp 2] K) (nth [v0]) w:=by kernel_rfl
theorem S94_ok {v0:Value} {K:Cont} {w:World} (h:S94 v0 K w):callK Tryz.prog 94 [v0] K w:=
 callK_of (P:=Tryz.prog) (ok:=okf) (n:=21) (fn:=Tryz.f94) (c:=bodyOf Tryz.f94) (rs:=[.tmp 2]) (an:=(.node [] [] .nil (.node [] [] .nil (.node [] [] (.node [] [] .nil (.node [3,8] [(3,3),(5,5),(8,19)] (.node [] [] .nil (.node [] [] (.node [] [] .nil .nil) (.node [] [] (.node [] [] .nil (.node [] [] .nil (.node [] [] .nil .nil))) .nil))) .nil)) (.node [] [] .nil .nil))))) good mixed Tryz.func94 (by kernel_rfl) (by kernel_rfl) (by kernel_rfl) (by kernel_rfl) (Eq.mp (S94_eq v0 K w) h)

def S95 (v0:Value) (K:Cont) (w:World):Prop:=
 lenK v0 fun t7=>
 LoopK [(.int .i64 0),(.int .i64 0)] (fun vs again w1=>∀ _h:Env,
 ltK .i64 (nth vs 1) t7 fun t9=>
 condK t9
 (ixK 5 v0 (nth vs 1) fun t10=>
 ldnK 5 t10 (fun t11 w2=>
 newK 39 [(.int .u8 0),(.int .i64 0),(.slice none 0 0),(.slice none 0 0),(.slice none 0 0)] (fun t5 w3=>
 stnK 5 t5 t11 (fun w4=>
 faK 0 t5 fun t12=>
 ld1K t12 (fun t13 w5=>
 neK .u8 t13 (.int .u8 3) fun t14=>
 condK t14
 (ldnK 5 t5 (fun t16 w6=>
 callK Tryz.prog 153 [t16] (fun t17 w7=>
 addK .i64 (nth vs 0) t17 fun t18=>
 addK .i64 (nth vs 1) (.int .i64 1) fun t19=>
 again [t18,t19] w7) w6) w5)
 (addK .i64 (nth vs 1) (.int .i64 1) fun t19_1=>
 again [(nth vs 0),t19_1] w5)) w4) w3) w2) w1)
 (K (nth vs 0) w1)) w
theorem S95_eq (v0:Value) (K:Cont) (w:World):S95 v0 K w=D Tryz.prog okf 21 (bodyOf Tryz.f95) (.node [] [] .nil (.node [] [] .nil (.node [] [] (.node [] [] .nil (.node [3,8] [(3,3),(5,5),(8,19)] (.node [] [] .nil (.node [] [] (.node [] [] .nil .nil) (.node [] [] (.node [] [] .nil (.node [] [] .nil (.node [] [] .nil .nil))) .nil))) .nil)) (.node [] [] .nil .nil)))) (retK Tryz.prog [.tmp 2] K) (nth [v0]) w:=by kernel_rfl
theorem S95_ok {v0:Value} {K:Cont} {w:World} (h:S95 v0 K w):callK Tryz.prog 95 [v0] K w:=
 callK_of (P:=Tryz.prog) (ok:=okf) (n:=21) (fn:=Tryz.f95) (c:=bodyOf Tryz.f95) (rs:=[.tmp 2]) (an:=(.node [] [] .nil (.node [] [] .nil (.node [] [] (.node [] [] .nil (.node [3,8] [(3,3),(5,5),(8,19)] (.node [] [] .nil (.node [] [] (.node [] [] .nil .nil) (.node [] [] (.node [] [] .nil (.node [] [] .nil (.node [] [] .nil .nil))) .nil))) .nil)) (.node [] [] .nil .nil))))) good mixed Tryz.func95 (by kernel_rfl) (by kernel_rfl) (by kernel_rfl) (by kernel_rfl) (Eq.mp (S95_eq v0 K w) h)

def S159 (v0:Value) (K:Cont) (w:World):Prop:=
 callK Tryz.prog 195 [v0] (fun t4 w1=>
 K t4 w1) w
theorem S159_eq (v0:Value) (K:Cont) (w:World):S159 v0 K w=D Tryz.prog okf 5 (bodyOf Tryz.f159) (.node [] [] .nil (.node [] [] .nil .nil)) (retK Tryz.prog [.tmp 2] K) (nth [v0]) w:=by kernel_rfl
theorem S159_ok {v0:Value} {K:Cont} {w:World} (h:S159 v0 K w):callK Tryz.prog 159 [v0] K w:=
 callK_of (P:=Tryz.prog) (ok:=okf) (n:=5) (fn:=Tryz.f159) (c:=bodyOf Tryz.f159) (rs:=[.tmp 2]) (an:=(.node [] [] .nil (.node [] [] .nil .nil))) good mixed Tryz.func159 (by kernel_rfl) (by kernel_rfl) (by kernel_rfl) (by kernel_rfl) (Eq.mp (S159_eq v0 K w) h)

def S195 (v0:Value) (K:Cont) (w:World):Prop:=
 leK .i32 (.int .i32 0) v0 fun t5=>
 condK t5
 (ltK .i32 v0 (.int .i32 55296) fun t8=>
 condK t8
 (K (.bool true) w)
 (ltK .i32 (.int .i32 57343) v0 fun t12=>
 condK t12
 (leK .i32 v0 (.int .i32 1114111) fun t15=>
 condK t15
 (K (.bool true) w)
 (K (.bool false) w))
 (K (.bool false) w)))
 (ltK .i32 (.int .i32 57343) v0 fun t12_1=>
 condK t12_1
 (leK .i32 v0 (.int .i32 1114111) fun t15_1=>
 condK t15_1
 (K (.bool true) w)
 (K (.bool false) w))
 (K (.bool false) w))
theorem S195_eq (v0:Value) (K:Cont) (w:World):S195 v0 K w=D Tryz.prog okf 17 (bodyOf Tryz.f195) (.node [] [] .nil (.node [] [] (.node [] [] .nil (.node [] [] (.node [] [] .nil .nil) (.node [] [] .nil (.node [] [] (.node [] [] .nil .nil) .nil)))) (.node [] [] .nil .nil))) (retK Tryz.prog [.tmp 2] K) (nth [v0]) w:=by kernel_rfl
theorem S195_ok {v0:Value} {K:Cont} {w:World} (h:S195 v0 K w):callK Tryz.prog 195 [v0] K w:=
 callK_of (P:=Tryz.prog) (ok:=okf) (n:=17) (fn:=Tryz.f195) (c:=bodyOf Tryz.f195) (rs:=[.tmp 2]) (an:=(.node [] [] .nil (.node [] [] (.node [] [] .nil (.node [] [] (.node [] [] .nil .nil) (.node [] [] .nil (.node [] [] (.node [] [] .nil .nil) .nil)))) (.node [] [] .nil .nil)))) good mixed Tryz.func195 (by kernel_rfl) (by kernel_rfl) (by kernel_rfl) (by kernel_rfl) (Eq.mp (S195_eq v0 K w) h)

def S189 (v0 v1:Value) (K:Cont) (w:World):Prop:=
 callK Tryz.prog 205 [v0,v1] (fun t7 w1=>
 geK .i64 t7 (.int .i64 0) fun t8=>
 K t8 w1) w
theorem S189_eq (v0 v1:Value) (K:Cont) (w:World):S189 v0 v1 K w=D Tryz.prog okf 9 (bodyOf Tryz.f189) (.node [] [] .nil (.node [] [] .nil .nil)) (retK Tryz.prog [.tmp 4] K) (nth [v0,v1]) w:=by kernel_rfl
theorem S189_ok {v0 v1:Value} {K:Cont} {w:World} (h:S189 v0 v1 K w):callK Tryz.prog 189 [v0,v1] K w:=
 callK_of (P:=Tryz.prog) (ok:=okf) (n:=9) (fn:=Tryz.f189) (c:=bodyOf Tryz.f189) (rs:=[.tmp 4]) (an:=(.node [] [] .nil (.node [] [] .nil .nil))) good mixed Tryz.func189 (by kernel_rfl) (by kernel_rfl) (by kernel_rfl) (by kernel_rfl) (Eq.mp (S189_eq v0 v1 K w) h)

def S205 (v0 v1:Value) (K:Cont) (w:World):Prop:=
 lenK v0 fun t7=>
 LoopK [(.int .i64 0)] (fun vs again w1=>∀ _h:Env,
 ltK .i64 (nth vs 0) t7 fun t9=>
 condK t9
 (ixK 1 v0 (nth vs 0) fun t14=>
 ld1K t14 (fun t15 w2=>
 callyK Tryz.prog okf v1 [t15] (fun t16 w3=>
 condK t16
 (K (nth vs 0) w3)
 (addK .i64 (nth vs 0) (.int .i64 1) fun t18=>
 again [t18] w3)) w2) w1)
 (K (.int .i64 (-1)) w1)) w
theorem S205_eq (v0 v1:Value) (K:Cont) (w:World):S205 v0 v1 K w=D Tryz.prog okf 19 (bodyOf Tryz.f205) (.node [] [] .nil (.node [] [] (.node [] [] .nil (.node [8] [(4,5),(8,18)] (.node [] [] .nil (.node [] [] (.node [] [] .nil .nil) (.node [] [] (.node [] [] .nil (.node [] [] .nil (.node [] [] (.node [] [] .nil .nil) .nil))) .nil))) .nil)) (.node [] [] .nil .nil))) (retK Tryz.prog [.tmp 4] K) (nth [v0,v1]) w:=by kernel_rfl
theorem S205_ok {v0 v1:Value} {K:Cont} {w:World} (h:S205 v0 v1 K w):callK Tryz.prog 205 [v0,v1] K w:=
 callK_of (P:=Tryz.prog) (ok:=okf) (n:=19) (fn:=Tryz.f205) (c:=bodyOf Tryz.f205) (rs:=[.tmp 4]) (an:=(.node [] [] .nil (.node [] [] (.node [] [] .nil (.node [8] [(4,5),(8,18)] (.node [] [] .nil (.node [] [] (.node [] [] .nil .nil) (.node [] [] (.node [] [] .nil (.node [] [] .nil (.node [] [] (.node [] [] .nil .nil) .nil))) .nil))) .nil)) (.node [] [] .nil .nil)))) good mixed Tryz.func205 (by kernel_rfl) (by kernel_rfl) (by kernel_rfl) (by kernel_rfl) (Eq.mp (S205_eq v0 v1 K w) h)

def S155 (v0 v1:Value) (K:Cont) (w:World):Prop:=
 lenK v1 fun t11=>
 gtK .i64 t11 (.int .i64 64) fun t12=>
 condK t12
 (K (.int .i64 3) w)
 (lenK v1 fun t14=>
 LoopK [(.int .i64 0),(.int .i64 0)] (fun vs again w1=>∀ _h:Env,
 ltK .i64 (nth vs 1) t14 fun t16=>
 condK t16
 (JoinK (fun vs_1 w2=>∀ _h_1:Env,
 addK .i64 (nth vs 1) (.int .i64 1) fun t75=>
 again [(nth vs_1 0),t75] w2) (fun J=>
 ixK 6 v1 (nth vs 1) fun t18=>
 ldnK 6 t18 (fun t19 w3=>
 newK 111 [(.int .i64 0),(.bool false),(.int .u8 0),(.int .i64 0),(.int .u64 0),(.string (ByteArray.mk #[]))] (fun t7 w4=>
 stnK 6 t7 t19 (fun w5=>
 faK 0 t7 fun t22=>
 ld1K t22 (fun t23 w6=>
 callK Tryz.prog 193 [v0,t23] (fun t24 w7=>
 extK 0 t24 fun t25=>
 extK 1 t24 fun t26=>
 newK 84 [(.int .i64 0),(.bool false),(.int .u8 0),(.bool false),(.bool false),(.int .i64 0)] (fun t8 w8=>
 stnK 6 t8 t25 (fun w9=>
 JoinK (fun vs_2 w10=>∀ _h_2:Env,
 condK (nth vs_2 0)
 (K (.int .i64 3) w10)
 (notK t26 fun t60=>
 condK t60
 (J [(.int .i64 4)] w10)
 (faK 1 t7 fun t62=>
 ld1K t62 (fun t63 w11=>
 notK t63 fun t64=>
 condK t64
 (faK 0 t7 fun t67=>
 ld1K t67 (fun t68 w12=>
 faK 2 t7 fun t69=>
 ldnK 4 t69 (fun t70 w13=>
 callK Tryz.prog 192 [v0,t68,t70] (fun t71 w14=>
 notK t71 fun t72=>
 condK t72
 (J [(.int .i64 4)] w14)
 (J [(nth vs 0)] w14)) w13) w12) w11)
 (J [(nth vs 0)] w11)) w10))) (fun J_1=>
 JoinK (fun vs_3 w15=>∀ _h_3:Env,
 condK (nth vs_3 0)
 (J_1 [(nth vs_3 0)] w15)
 (faK 1 t7 fun t41=>
 ld1K t41 (fun t42 w16=>
 condK t42
 (faK 2 t7 fun t44=>
 ldnK 4 t44 (fun t45 w17=>
 buildK [(0,1),(1,1),(2,1),(3,1)] [(.int .u8 0),(.int .i64 0),(.int .u64 0),(.string (ByteArray.mk #[]))] [] fun t46=>
 runK Tryz.prog (binS .neq 107 (.tmp 45) (.tmp 46) t45 t46) (fun t47 w18=>
 condK t47
 (J_1 [t47] w18)
 (faK 1 t7 fun t49=>
 ld1K t49 (fun t50 w19=>
 notK t50 fun t51=>
 condK t51
 (faK 2 t7 fun t53=>
 ldnK 4 t53 (fun t54 w20=>
 callK Tryz.prog 191 [t54] (fun t55 w21=>
 notK t55 fun t56=>
 J_1 [t56] w21) w20) w19)
 (J_1 [(.bool false)] w19)) w18)) w17) w16)
 (faK 1 t7 fun t49_1=>
 ld1K t49_1 (fun t50_1 w22=>
 notK t50_1 fun t51_1=>
 condK t51_1
 (faK 2 t7 fun t53_1=>
 ldnK 4 t53_1 (fun t54_1 w23=>
 callK Tryz.prog 191 [t54_1] (fun t55_1 w24=>
 notK t55_1 fun t56_1=>
 J_1 [t56_1] w24) w23) w22)
 (J_1 [(.bool false)] w22)) w16)) w15)) (fun J_2=>
 DrawK w9 (fun C=>
 gtK .i64 (nth vs 1) (.int .i64 0) fun t29=>
 condK t29
 (subK .i64 (nth vs 1) (.int .i64 1) fun t33=>
 ixK 6 v1 t33 fun t34=>
 faK 0 t34 fun t35=>
 qld1K C t35 fun t36=>
 faK 0 t7 fun t37=>
 qld1K C t37 fun t38=>
 geK .i64 t36 t38 fun t39=>
 ∀ w25:World,C w25→
 J_2 [t39] w25)
 (∀ w26:World,C w26→
 J_2 [(.bool false)] w26))))) w8) w7) w6) w5) w4) w3) w1))
 (K (nth vs 0) w1)) w)
theorem S155_eq (v0 v1:Value) (K:Cont) (w:World):S155 v0 v1 K w=D Tryz.prog okf 77 (bodyOf Tryz.f155) (.node [] [] .nil (.node [] [] (.node [] [] .nil (.node [] [] (.node [] [] .nil .nil) .nil)) (.node [] [] .nil (.node [] [] (.node [] [] .nil (.node [5,15] [(4,9),(15,75)] (.node [] [] .nil (.node [] [] (.node [] [] .nil .nil) (.cut [5] [(4,9),(17,74)] (.node [] [] .nil (.node [] [] .nil (.cut [27] [(27,57)] (.cut [27] [(27,40)] .draw (.node [] [] .nil (.node [] [] .nil (.node [] [] .nil .nil)))) (.node [] [] (.node [] [] .nil .nil) (.node [] [] .nil (.node [] [] .nil .nil)))))) .nil))) .nil)) (.node [] [] .nil .nil))))) (retK Tryz.prog [.tmp 4] K) (nth [v0,v1]) w:=by kernel_rfl
theorem S155_ok {v0 v1:Value} {K:Cont} {w:World} (h:S155 v0 v1 K w):callK Tryz.prog 155 [v0,v1] K w:=
 callK_of (P:=Tryz.prog) (ok:=okf) (n:=77) (fn:=Tryz.f155) (c:=bodyOf Tryz.f155) (rs:=[.tmp 4]) (an:=(.node [] [] .nil (.node [] [] (.node [] [] .nil (.node [] [] (.node [] [] .nil .nil) .nil)) (.node [] [] .nil (.node [] [] (.node [] [] .nil (.node [5,15] [(4,9),(15,75)] (.node [] [] .nil (.node [] [] (.node [] [] .nil .nil) (.cut [5] [(4,9),(17,74)] (.node [] [] .nil (.node [] [] .nil (.cut [27] [(27,57)] (.cut [27] [(27,40)] .draw (.node [] [] .nil (.node [] [] .nil (.node [] [] .nil .nil)))) (.node [] [] (.node [] [] .nil .nil) (.node [] [] .nil (.node [] [] .nil .nil)))))) .nil))) .nil)) (.node [] [] .nil .nil)))))) good mixed Tryz.func155 (by kernel_rfl) (by kernel_rfl) (by kernel_rfl) (by kernel_rfl) (Eq.mp (S155_eq v0 v1 K w) h)

def S185 (v0 v1:Value) (K:Cont) (w:World):Prop:=
 lenK v1 fun t10=>
 LoopK [(.slice none 0 0),(.int .i64 0),(.int .i64 0)] (fun vs again w1=>∀ _h:Env,
 ltK .i64 (nth vs 2) t10 fun t12=>
 condK t12
 (ixK 6 v1 (nth vs 2) fun t13=>
 ldnK 6 t13 (fun t14 w2=>
 newK 111 [(.int .i64 0),(.bool false),(.int .u8 0),(.int .i64 0),(.int .u64 0),(.string (ByteArray.mk #[]))] (fun t8 w3=>
 stnK 6 t8 t14 (fun w4=>
 JoinK (fun vs_1 w5=>∀ _h_1:Env,
 ldnK 6 t8 (fun t47 w6=>
 rowK 111 6 1 [(.int .i64 0),(.bool false),(.int .u8 0),(.int .i64 0),(.int .u64 0),(.string (ByteArray.mk #[]))] [(0,t47)] (fun t48 w7=>
 runK Tryz.prog (Builtin.append_ #[37,37] 37 [(nth vs_1 0),t48].toArray) (fun t49 w8=>
 addK .i64 (nth vs 2) (.int .i64 1) fun t50=>
 again [t49,(nth vs_1 1),t50] w8) w7) w6) w5) (fun J=>
 LoopK [(nth vs 0),(nth vs 1)] (fun vs_2 again_1 w9=>∀ _h_2:Env,
 JoinK (fun _vs_3 w10=>∀ _h_3:Env,
 DrawK w10 (fun C=>
 ixK 6 v0 (nth vs_2 1) fun t33=>
 faK 0 t33 fun t34=>
 qld1K C t34 fun t35=>
 faK 0 t8 fun t36=>
 qld1K C t36 fun t37=>
 ltK .i64 t35 t37 fun t38=>
 ∀ w11:World,C w11→
 condK t38
 (ixK 6 v0 (nth vs_2 1) fun t42=>
 ldnK 6 t42 (fun t43 w12=>
 rowK 111 6 1 [(.int .i64 0),(.bool false),(.int .u8 0),(.int .i64 0),(.int .u64 0),(.string (ByteArray.mk #[]))] [(0,t43)] (fun t44 w13=>
 runK Tryz.prog (Builtin.append_ #[37,37] 37 [(nth vs_2 0),t44].toArray) (fun t45 w14=>
 addK .i64 (nth vs_2 1) (.int .i64 1) fun t30=>
 again_1 [t45,t30] w14) w13) w12) w11)
 (addK .i64 (nth vs_2 1) (.int .i64 1) fun t30_1=>
 again_1 [(nth vs_2 0),t30_1] w11))) (fun J_1=>
 DrawK w9 (fun C_1=>
 lenK v0 fun t17=>
 ltK .i64 (nth vs_2 1) t17 fun t18=>
 condK t18
 (ixK 6 v0 (nth vs_2 1) fun t22=>
 faK 0 t22 fun t23=>
 qld1K C_1 t23 fun t24=>
 faK 0 t8 fun t25=>
 qld1K C_1 t25 fun t26=>
 leK .i64 t24 t26 fun t27=>
 ∀ w15:World,C_1 w15→
 condK t27
 (J_1 [] w15)
 (J [(nth vs_2 0),(nth vs_2 1)] w15))
 (∀ w16:World,C_1 w16→
 J [(nth vs_2 0),(nth vs_2 1)] w16)))) w4)) w3) w2) w1)
 (runK Tryz.prog (Instr.sliceAt 37 v0 (some (nth vs 1)) none none) (fun t54 w17=>
 runK Tryz.prog (Builtin.append_ #[37,37] 37 [(nth vs 0),t54].toArray) (fun t55 w18=>
 K t55 w18) w17) w1)) w
theorem S185_eq (v0 v1:Value) (K:Cont) (w:World):S185 v0 v1 K w=D Tryz.prog okf 56 (bodyOf Tryz.f185) (.node [] [] .nil (.node [] [] .nil (.node [] [] .nil (.node [] [] (.node [] [] .nil (.node [5,6,11] [(5,6),(8,8),(11,50)] (.node [] [] .nil (.node [] [] (.node [] [] .nil .nil) (.node [] [] (.node [] [] .nil (.cut [5,6] [(5,6),(15,45)] (.node [5,6] [(5,6),(15,45)] (.cut [] [(15,28)] (.node [] [] .draw (.node [] [] .nil .nil)) (.node [] [] (.node [] [] .draw (.node [] [] .nil .nil)) .nil)) .nil) .nil)) .nil))) .nil)) (.node [] [] .nil .nil))))) (retK Tryz.prog [.tmp 4] K) (nth [v0,v1]) w:=by kernel_rfl
theorem S185_ok {v0 v1:Value} {K:Cont} {w:World} (h:S185 v0 v1 K w):callK Tryz.prog 185 [v0,v1] K w:=
 callK_of (P:=Tryz.prog) (ok:=okf) (n:=56) (fn:=Tryz.f185) (c:=bodyOf Tryz.f185) (rs:=[.tmp 4]) (an:=(.node [] [] .nil (.node [] [] .nil (.node [] [] .nil (.node [] [] (.node [] [] .nil (.node [5,6,11] [(5,6),(8,8),(11,50)] (.node [] [] .nil (.node [] [] (.node [] [] .nil .nil) (.node [] [] (.node [] [] .nil (.cut [5,6] [(5,6),(15,45)] (.node [5,6] [(5,6),(15,45)] (.cut [] [(15,28)] (.node [] [] .draw (.node [] [] .nil .nil)) (.node [] [] (.node [] [] .draw (.node [] [] .nil .nil)) .nil)) .nil) .nil)) .nil))) .nil)) (.node [] [] .nil .nil)))))) good mixed Tryz.func185 (by kernel_rfl) (by kernel_rfl) (by kernel_rfl) (by kernel_rfl) (Eq.mp (S185_eq v0 v1 K w) h)

def S203 (v0 v1:Value) (K:Cont) (w:World):Prop:=
 lenK v1 fun t10=>
 LoopK [(.slice none 0 0),(.int .i64 0),(.int .i64 0)] (fun vs again w1=>∀ _h:Env,
 ltK .i64 (nth vs 2) t10 fun t12=>
 condK t12
 (JoinK (fun vs_1 w2=>∀ _h_1:Env,
 addK .i64 (nth vs 2) (.int .i64 1) fun t70=>
 again [(nth vs_1 0),(nth vs_1 1),t70] w2) (fun J=>
 ixK 6 v1 (nth vs 2) fun t13=>
 ldnK 6 t13 (fun t14 w3=>
 newK 111 [(.int .i64 0),(.bool false),(.int .u8 0),(.int .i64 0),(.int .u64 0),(.string (ByteArray.mk #[]))] (fun t8 w4=>
 stnK 6 t8 t14 (fun w5=>
 LoopK [(nth vs 0),(nth vs 1)] (fun vs_2 again_1 w6=>∀ _h_2:Env,
 lenK v0 fun t17=>
 ltK .i64 (nth vs_2 1) t17 fun t18=>
 condK t18
 (JoinK (fun vs_3 w7=>∀ _h_3:Env,
 faK 1 t8 fun t48=>
 ld1K t48 (fun t49 w8=>
 notK t49 fun t50=>
 condK t50
 (faK 0 t8 fun t52=>
 ld1K t52 (fun t53 w9=>
 faK 2 t8 fun t54=>
 ldnK 4 t54 (fun t55 w10=>
 buildK [(0,1),(1,4)] [(.int .i64 0),(.int .u8 0),(.int .i64 0),(.int .u64 0),(.string (ByteArray.mk #[]))] [(0,t53),(1,t55)] fun t56=>
 rowK 109 5 1 [(.int .i64 0),(.int .u8 0),(.int .i64 0),(.int .u64 0),(.string (ByteArray.mk #[]))] [(0,t56)] (fun t57 w11=>
 runK Tryz.prog (Builtin.append_ #[36,36] 36 [(nth vs_3 0),t57].toArray) (fun t58 w12=>
 J [t58,(nth vs_3 1)] w12) w11) w10) w9) w8)
 (J [(nth vs_3 0),(nth vs_3 1)] w8)) w7) (fun J_1=>
 DrawK w6 (fun C=>
 ixK 5 v0 (nth vs_2 1) fun t24=>
 faK 0 t24 fun t25=>
 qld1K C t25 fun t26=>
 faK 0 t8 fun t27=>
 qld1K C t27 fun t28=>
 ltK .i64 t26 t28 fun t29=>
 ∀ w13:World,C w13→
 condK t29
 (ixK 5 v0 (nth vs_2 1) fun t33=>
 ldnK 5 t33 (fun t34 w14=>
 rowK 109 5 1 [(.int .i64 0),(.int .u8 0),(.int .i64 0),(.int .u64 0),(.string (ByteArray.mk #[]))] [(0,t34)] (fun t35 w15=>
 runK Tryz.prog (Builtin.append_ #[36,36] 36 [(nth vs_2 0),t35].toArray) (fun t36 w16=>
 addK .i64 (nth vs_2 1) (.int .i64 1) fun t20=>
 again_1 [t36,t20] w16) w15) w14) w13)
 (DrawK w13 (fun C_1=>
 ixK 5 v0 (nth vs_2 1) fun t40=>
 faK 0 t40 fun t41=>
 qld1K C_1 t41 fun t42=>
 faK 0 t8 fun t43=>
 qld1K C_1 t43 fun t44=>
 eqK .i64 t42 t44 fun t45=>
 ∀ w17:World,C_1 w17→
 condK t45
 (addK .i64 (nth vs_2 1) (.int .i64 1) fun t47=>
 J_1 [(nth vs_2 0),t47] w17)
 (J_1 [(nth vs_2 0),(nth vs_2 1)] w17))))))
 (faK 1 t8 fun t59=>
 ld1K t59 (fun t60 w18=>
 notK t60 fun t61=>
 condK t61
 (faK 0 t8 fun t63=>
 ld1K t63 (fun t64 w19=>
 faK 2 t8 fun t65=>
 ldnK 4 t65 (fun t66 w20=>
 buildK [(0,1),(1,4)] [(.int .i64 0),(.int .u8 0),(.int .i64 0),(.int .u64 0),(.string (ByteArray.mk #[]))] [(0,t64),(1,t66)] fun t67=>
 rowK 109 5 1 [(.int .i64 0),(.int .u8 0),(.int .i64 0),(.int .u64 0),(.string (ByteArray.mk #[]))] [(0,t67)] (fun t68 w21=>
 runK Tryz.prog (Builtin.append_ #[36,36] 36 [(nth vs_2 0),t68].toArray) (fun t69 w22=>
 J [t69,(nth vs_2 1)] w22) w21) w20) w19) w18)
 (J [(nth vs_2 0),(nth vs_2 1)] w18)) w6)) w5) w4) w3) w1))
 (runK Tryz.prog (Instr.sliceAt 36 v0 (some (nth vs 1)) none none) (fun t74 w23=>
 runK Tryz.prog (Builtin.append_ #[36,36] 36 [(nth vs 0),t74].toArray) (fun t75 w24=>
 K t75 w24) w23) w1)) w
theorem S203_eq (v0 v1:Value) (K:Cont) (w:World):S203 v0 v1 K w=D Tryz.prog okf 76 (bodyOf Tryz.f203) (.node [] [] .nil (.node [] [] .nil (.node [] [] .nil (.node [] [] .nil (.node [] [] (.node [] [] .nil (.node [5,6,11] [(5,6),(8,8),(11,70)] (.node [] [] .nil (.node [] [] (.node [] [] .nil .nil) (.cut [5,6] [(5,6),(8,8),(13,69)] (.node [] [] .nil (.node [] [] (.node [5,6] [(5,6),(15,58)] (.node [] [] (.node [] [] .nil (.node [] [] .nil .nil)) (.node [] [] (.cut [5,6] [(5,6),(21,47)] (.node [] [] .draw (.node [] [] (.node [] [] .nil .nil) (.node [] [] .draw (.node [] [] .nil .nil)))) (.node [] [] (.node [] [] .nil (.node [] [] .nil .nil)) .nil)) .nil)) .nil) (.node [] [] .nil (.node [] [] .nil .nil)))) .nil))) .nil)) (.node [] [] .nil .nil)))))) (retK Tryz.prog [.tmp 4] K) (nth [v0,v1]) w:=by kernel_rfl
theorem S203_ok {v0 v1:Value} {K:Cont} {w:World} (h:S203 v0 v1 K w):callK Tryz.prog 203 [v0,v1] K w:=
 callK_of (P:=Tryz.prog) (ok:=okf) (n:=76) (fn:=Tryz.f203) (c:=bodyOf Tryz.f203) (rs:=[.tmp 4]) (an:=(.node [] [] .nil (.node [] [] .nil (.node [] [] .nil (.node [] [] .nil (.node [] [] (.node [] [] .nil (.node [5,6,11] [(5,6),(8,8),(11,70)] (.node [] [] .nil (.node [] [] (.node [] [] .nil .nil) (.cut [5,6] [(5,6),(8,8),(13,69)] (.node [] [] .nil (.node [] [] (.node [5,6] [(5,6),(15,58)] (.node [] [] (.node [] [] .nil (.node [] [] .nil .nil)) (.node [] [] (.cut [5,6] [(5,6),(21,47)] (.node [] [] .draw (.node [] [] (.node [] [] .nil .nil) (.node [] [] .draw (.node [] [] .nil .nil)))) (.node [] [] (.node [] [] .nil (.node [] [] .nil .nil)) .nil)) .nil)) .nil) (.node [] [] .nil (.node [] [] .nil .nil)))) .nil))) .nil)) (.node [] [] .nil .nil))))))) good mixed Tryz.func203 (by kernel_rfl) (by kernel_rfl) (by kernel_rfl) (by kernel_rfl) (Eq.mp (S203_eq v0 v1 K w) h)

def S204 (v0 v1 v2:Value) (K:Cont) (w:World):Prop:=
 box1K 23 v0 (fun t3 w1=>
 box1K 4 v2 (fun t5 w2=>
 callK Tryz.prog 140 [v1] (fun t8 w3=>
 callK Tryz.prog 214 [t8,(.func (.func 215) #[] #[t3,t5])] (fun t10 w4=>
 K t10 w4) w3) w2) w1) w
theorem S204_eq (v0 v1 v2:Value) (K:Cont) (w:World):S204 v0 v1 v2 K w=D Tryz.prog okf 11 (bodyOf Tryz.f204) (.node [] [] .nil (.node [] [] .nil .nil)) (retK Tryz.prog [.tmp 6] K) (nth [v0,v1,v2]) w:=by kernel_rfl
theorem S204_ok {v0 v1 v2:Value} {K:Cont} {w:World} (h:S204 v0 v1 v2 K w):callK Tryz.prog 204 [v0,v1,v2] K w:=
 callK_of (P:=Tryz.prog) (ok:=okf) (n:=11) (fn:=Tryz.f204) (c:=bodyOf Tryz.f204) (rs:=[.tmp 6]) (an:=(.node [] [] .nil (.node [] [] .nil .nil))) good mixed Tryz.func204 (by kernel_rfl) (by kernel_rfl) (by kernel_rfl) (by kernel_rfl) (Eq.mp (S204_eq v0 v1 v2 K w) h)

def S215 (v0 v1 v2:Value) (K:Cont) (w:World):Prop:=
 boxnK 111 v0 (fun t3 w1=>
 ld1K v1 (fun t8 w2=>
 faK 0 t3 fun t9=>
 ld1K t9 (fun t10 w3=>
 callK Tryz.prog 193 [t8,t10] (fun t11 w4=>
 extK 0 t11 fun t12=>
 extK 1 t11 fun t13=>
 newK 84 [(.int .i64 0),(.bool false),(.int .u8 0),(.bool false),(.bool false),(.int .i64 0)] (fun t5 w5=>
 stnK 6 t5 t12 (fun w6=>
 notK t13 fun t15=>
 condK t15
 (K (.bool true) w6)
 (faK 1 t5 fun t17=>
 ld1K t17 (fun t18 w7=>
 ld1K v2 (fun t19 w8=>
 bneK t18 t19 fun t20=>
 K t20 w8) w7) w6)) w5) w4) w3) w2) w1) w
theorem S215_eq (v0 v1 v2:Value) (K:Cont) (w:World):S215 v0 v1 v2 K w=D Tryz.prog okf 22 (bodyOf Tryz.f215) (.node [] [] .nil (.node [] [] .nil (.node [] [] .nil .nil))) (retK Tryz.prog [.tmp 4] K) (nth [v0,v1,v2]) w:=by kernel_rfl
theorem S215_ok {v0 v1 v2:Value} {K:Cont} {w:World} (h:S215 v0 v1 v2 K w):callK Tryz.prog 215 [v0,v1,v2] K w:=
 callK_of (P:=Tryz.prog) (ok:=okf) (n:=22) (fn:=Tryz.f215) (c:=bodyOf Tryz.f215) (rs:=[.tmp 4]) (an:=(.node [] [] .nil (.node [] [] .nil (.node [] [] .nil .nil)))) good mixed Tryz.func215 (by kernel_rfl) (by kernel_rfl) (by kernel_rfl) (by kernel_rfl) (Eq.mp (S215_eq v0 v1 v2 K w) h)

def S214 (v0 v1:Value) (K:Cont) (w:World):Prop:=
 callK Tryz.prog 218 [v0,v1] (fun t10 w1=>
 eqK .i64 t10 (.int .i64 (-1)) fun t12=>
 condK t12
 (K v0 w1)
 (addK .i64 t10 (.int .i64 1) fun t15=>
 LoopK [t10,t15] (fun vs again w2=>∀ _h:Env,
 lenK v0 fun t18=>
 ltK .i64 (nth vs 1) t18 fun t19=>
 condK t19
 (ixK 6 v0 (nth vs 1) fun t24=>
 ldnK 6 t24 (fun t25 w3=>
 newK 111 [(.int .i64 0),(.bool false),(.int .u8 0),(.int .i64 0),(.int .u64 0),(.string (ByteArray.mk #[]))] (fun t7 w4=>
 stnK 6 t7 t25 (fun w5=>
 ldnK 6 t7 (fun t27 w6=>
 callyK Tryz.prog okf v1 [t27] (fun t28 w7=>
 notK t28 fun t29=>
 condK t29
 (ldnK 6 t7 (fun t32 w8=>
 ixK 6 v0 (nth vs 0) fun t33=>
 stnK 6 t33 t32 (fun w9=>
 addK .i64 (nth vs 0) (.int .i64 1) fun t35=>
 addK .i64 (nth vs 1) (.int .i64 1) fun t21=>
 again [t35,t21] w9) w8) w7)
 (addK .i64 (nth vs 1) (.int .i64 1) fun t21_1=>
 again [(nth vs 0),t21_1] w7)) w6) w5) w4) w3) w2)
 (runK Tryz.prog (Instr.sliceAt 37 v0 (some (nth vs 0)) none none) (fun t38 w10=>
 runK Tryz.prog (Builtin.clear_ #[37] 0 [t38].toArray) (fun _u w11=>
 runK Tryz.prog (Instr.sliceAt 37 v0 none (some (nth vs 0)) none) (fun t41 w12=>
 K t41 w12) w11) w10) w2)) w1)) w
theorem S214_eq (v0 v1:Value) (K:Cont) (w:World):S214 v0 v1 K w=D Tryz.prog okf 42 (bodyOf Tryz.f214) (.node [] [] .nil (.node [] [] .nil (.node [] [] (.node [] [] .nil (.node [] [] (.node [] [] .nil .nil) .nil)) (.node [] [] (.node [] [] .nil (.node [5,6] [(5,7),(16,35)] (.node [] [] (.node [] [] .nil (.node [] [] .nil .nil)) (.node [] [] (.node [] [] .nil (.node [] [] .nil (.node [] [] (.node [] [] .nil .nil) .nil))) .nil)) .nil)) (.node [] [] .nil (.node [] [] .nil .nil)))))) (retK Tryz.prog [.tmp 4] K) (nth [v0,v1]) w:=by kernel_rfl
theorem S214_ok {v0 v1:Value} {K:Cont} {w:World} (h:S214 v0 v1 K w):callK Tryz.prog 214 [v0,v1] K w:=
 callK_of (P:=Tryz.prog) (ok:=okf) (n:=42) (fn:=Tryz.f214) (c:=bodyOf Tryz.f214) (rs:=[.tmp 4]) (an:=(.node [] [] .nil (.node [] [] .nil (.node [] [] (.node [] [] .nil (.node [] [] (.node [] [] .nil .nil) .nil)) (.node [] [] (.node [] [] .nil (.node [5,6] [(5,7),(16,35)] (.node [] [] (.node [] [] .nil (.node [] [] .nil .nil)) (.node [] [] (.node [] [] .nil (.node [] [] .nil (.node [] [] (.node [] [] .nil .nil) .nil))) .nil)) .nil)) (.node [] [] .nil (.node [] [] .nil .nil))))))) good mixed Tryz.func214 (by kernel_rfl) (by kernel_rfl) (by kernel_rfl) (by kernel_rfl) (Eq.mp (S214_eq v0 v1 K w) h)

def S218 (v0 v1:Value) (K:Cont) (w:World):Prop:=
 lenK v0 fun t7=>
 LoopK [(.int .i64 0)] (fun vs again w1=>∀ _h:Env,
 ltK .i64 (nth vs 0) t7 fun t9=>
 condK t9
 (ixK 6 v0 (nth vs 0) fun t14=>
 ldnK 6 t14 (fun t15 w2=>
 callyK Tryz.prog okf v1 [t15] (fun t16 w3=>
 condK t16
 (K (nth vs 0) w3)
 (addK .i64 (nth vs 0) (.int .i64 1) fun t18=>
 again [t18] w3)) w2) w1)
 (K (.int .i64 (-1)) w1)) w
theorem S218_eq (v0 v1:Value) (K:Cont) (w:World):S218 v0 v1 K w=D Tryz.prog okf 19 (bodyOf Tryz.f218) (.node [] [] .nil (.node [] [] (.node [] [] .nil (.node [8] [(4,5),(8,18)] (.node [] [] .nil (.node [] [] (.node [] [] .nil .nil) (.node [] [] (.node [] [] .nil (.node [] [] .nil (.node [] [] (.node [] [] .nil .nil) .nil))) .nil))) .nil)) (.node [] [] .nil .nil))) (retK Tryz.prog [.tmp 4] K) (nth [v0,v1]) w:=by kernel_rfl
theorem S218_ok {v0 v1:Value} {K:Cont} {w:World} (h:S218 v0 v1 K w):callK Tryz.prog 218 [v0,v1] K w:=
 callK_of (P:=Tryz.prog) (ok:=okf) (n:=19) (fn:=Tryz.f218) (c:=bodyOf Tryz.f218) (rs:=[.tmp 4]) (an:=(.node [] [] .nil (.node [] [] (.node [] [] .nil (.node [8] [(4,5),(8,18)] (.node [] [] .nil (.node [] [] (.node [] [] .nil .nil) (.node [] [] (.node [] [] .nil (.node [] [] .nil (.node [] [] (.node [] [] .nil .nil) .nil))) .nil))) .nil)) (.node [] [] .nil .nil)))) good mixed Tryz.func218 (by kernel_rfl) (by kernel_rfl) (by kernel_rfl) (by kernel_rfl) (Eq.mp (S218_eq v0 v1 K w) h)

def S186 (v0 v1 v2:Value) (K:Cont) (w:World):Prop:=
 boxnK 152 v1 (fun t4 w1=>
 newK 152 [(.int .i32 0),(.slice none 0 0)] (fun t6 w2=>
 DrawC [9,10,12] [[],[0],[],[2],[],[],[],[6],[6,7],[4,5,6,7,8],[2,3,4,5,6,7,8,9],[0,1,2,3,4,5,6,7,8,9,10],[0,1,2,3,4,5,6,7,8,9,10,11]] w2.drew (fun M St=>
 faK 0 t4 fun t7=>
 sld1 (St 1) t7 fun t8=>
 faK 1 t4 fun t9=>
 sld1 (St 3) t9 fun t10=>
 faK 0 t4 fun t13=>
 sld1 (St 7) t13 fun t14=>
 eqK .i32 t14 (.int .i32 10) fun t15=>
 callK Tryz.prog 204 [v0,v2,t15] (fun t16 w3=>
 Mod (M 9) w2.drew w3∧
 callK Tryz.prog 203 [t10,t16] (fun t17 w4=>
 Mod (M 10) w3 w4∧
 buildK [(0,1),(1,1)] [(.int .i32 0),(.slice none 0 0)] [(0,t8),(1,t17)] fun t18=>
 stnK 2 t6 t18 (fun w5=>
 Mod (M 12) w4 w5∧
 ldnK 2 t6 (fun r0 w6=>
 K r0 w6) w5) w4) w3) w2.drew)) w1) w
theorem S186_eq (v0 v1 v2:Value) (K:Cont) (w:World):S186 v0 v1 v2 K w=D Tryz.prog okf 19 (bodyOf Tryz.f186) (.node [] [] .nil (.node [] [] (.dc [9,10,12] [[],[0],[],[2],[],[],[],[6],[6,7],[4,5,6,7,8],[2,3,4,5,6,7,8,9],[0,1,2,3,4,5,6,7,8,9,10],[0,1,2,3,4,5,6,7,8,9,10,11]] [[9,10]]) .nil)) (retK Tryz.prog [.cell 6 152] K) (nth [v0,v1,v2]) w:=by kernel_rfl
theorem S186_ok {v0 v1 v2:Value} {K:Cont} {w:World} (h:S186 v0 v1 v2 K w):callK Tryz.prog 186 [v0,v1,v2] K w:=
 callK_of (P:=Tryz.prog) (ok:=okf) (n:=19) (fn:=Tryz.f186) (c:=bodyOf Tryz.f186) (rs:=[.cell 6 152]) (an:=(.node [] [] .nil (.node [] [] (.dc [9,10,12] [[],[0],[],[2],[],[],[],[6],[6,7],[4,5,6,7,8],[2,3,4,5,6,7,8,9],[0,1,2,3,4,5,6,7,8,9,10],[0,1,2,3,4,5,6,7,8,9,10,11]] [[9,10]]) .nil))) good mixed Tryz.func186 (by kernel_rfl) (by kernel_rfl) (by kernel_rfl) (by kernel_rfl) (Eq.mp (S186_eq v0 v1 v2 K w) h)

def S141 (v0 v1 v2:Value) (K:Cont) (w:World):Prop:=
 callK Tryz.prog 59 [v0,v1] (fun t11 w1=>
 callK Tryz.prog 59 [v0,v2] (fun t14 w2=>
 eqK .i64 t11 (.int .i64 0) fun t16=>
 condK t16
 (K t14 w2)
 (eqK .i64 t14 (.int .i64 3) fun t19=>
 condK t19
 (K t14 w2)
 (K t11 w2))) w1) w
theorem S141_eq (v0 v1 v2:Value) (K:Cont) (w:World):S141 v0 v1 v2 K w=D Tryz.prog okf 23 (bodyOf Tryz.f141) (.node [] [] .nil (.node [] [] .nil (.node [] [] (.node [] [] .nil (.node [] [] (.node [] [] .nil .nil) .nil)) (.node [] [] .nil .nil)))) (retK Tryz.prog [.tmp 6] K) (nth [v0,v1,v2]) w:=by kernel_rfl
theorem S141_ok {v0 v1 v2:Value} {K:Cont} {w:World} (h:S141 v0 v1 v2 K w):callK Tryz.prog 141 [v0,v1,v2] K w:=
 callK_of (P:=Tryz.prog) (ok:=okf) (n:=23) (fn:=Tryz.f141) (c:=bodyOf Tryz.f141) (rs:=[.tmp 6]) (an:=(.node [] [] .nil (.node [] [] .nil (.node [] [] (.node [] [] .nil (.node [] [] (.node [] [] .nil .nil) .nil)) (.node [] [] .nil .nil))))) good mixed Tryz.func141 (by kernel_rfl) (by kernel_rfl) (by kernel_rfl) (by kernel_rfl) (Eq.mp (S141_eq v0 v1 v2 K w) h)

def S144 (v0 v1:Value) (K:Cont) (w:World):Prop:=
 boxnK 39 v1 (fun t3 w1=>
 faK 0 t3 fun t4=>
 ld1K t4 (fun t5 w2=>
 eqK .u8 t5 (.int .u8 1) fun t11=>
 condK t11
 (faK 1 t3 fun t13=>
 ld1K t13 (fun t14 w3=>
 faK 4 t3 fun t15=>
 ld1K t15 (fun t16 w4=>
 callK Tryz.prog 76 [v0,t14,t16] (fun _t17 w5=>
 K (.tuple #[]) w5) w4) w3) w2)
 (eqK .u8 t5 (.int .u8 2) fun t19=>
 condK t19
 (faK 2 t3 fun t21=>
 ld1K t21 (fun t22 w6=>
 faK 3 t3 fun t23=>
 ld1K t23 (fun t24 w7=>
 callK Tryz.prog 77 [v0,t22,t24] (fun _t25 w8=>
 K (.tuple #[]) w8) w7) w6) w2)
 (faK 1 t3 fun t7=>
 ld1K t7 (fun t8 w9=>
 callK Tryz.prog 78 [v0,t8] (fun _t9 w10=>
 K (.tuple #[]) w10) w9) w2))) w1) w
theorem S144_eq (v0 v1:Value) (K:Cont) (w:World):S144 v0 v1 K w=D Tryz.prog okf 26 (bodyOf Tryz.f144) (.node [] [] .nil (.node [] [] .nil (.node [] [] .nil (.node [] [] .nil (.node [] [] .nil (.node [] [] .nil .nil)))))) (retK Tryz.prog [] K) (nth [v0,v1]) w:=by kernel_rfl
theorem S144_ok {v0 v1:Value} {K:Cont} {w:World} (h:S144 v0 v1 K w):callK Tryz.prog 144 [v0,v1] K w:=
 callK_of (P:=Tryz.prog) (ok:=okf) (n:=26) (fn:=Tryz.f144) (c:=bodyOf Tryz.f144) (rs:=[]) (an:=(.node [] [] .nil (.node [] [] .nil (.node [] [] .nil (.node [] [] .nil (.node [] [] .nil (.node [] [] .nil .nil))))))) good mixed Tryz.func144 (by kernel_rfl) (by kernel_rfl) (by kernel_rfl) (by kernel_rfl) (Eq.mp (S144_eq v0 v1 K w) h)

def S147 (v0 v1 v2 v3:Value) (K:Cont) (w:World):Prop:=
 boxnK 39 v2 (fun t6 w1=>
 boxnK 39 v3 (fun t7 w2=>
 JoinK (fun vs w3=>∀ _h:Env,
 condK (nth vs 0)
 (DrawC [7,8] [[],[],[1],[],[3],[],[5],[3,4,5,6],[0,1,2,3,4,5,6,7]] w3.drew (fun M St=>
 faK 1 t7 fun t21=>
 sld1 (St 2) t21 fun t22=>
 faK 4 t6 fun t23=>
 sld1 (St 4) t23 fun t24=>
 faK 4 t7 fun t25=>
 sld1 (St 6) t25 fun t26=>
 callK Tryz.prog 185 [t24,t26] (fun t27 w4=>
 Mod (M 7) w3.drew w4∧
 callK Tryz.prog 76 [v1,t22,t27] (fun _t28 w5=>
 Mod (M 8) w4 w5∧
 K (.tuple #[]) w5) w4) w3.drew))
 (faK 0 t6 fun t30=>
 ld1K t30 (fun t31 w6=>
 eqK .u8 t31 (.int .u8 1) fun t32=>
 condK t32
 (faK 1 t7 fun t34=>
 ld1K t34 (fun t35 w7=>
 callK Tryz.prog 78 [v1,t35] (fun _t36 w8=>
 K (.tuple #[]) w8) w7) w6)
 (faK 0 t7 fun t38=>
 ld1K t38 (fun t39 w9=>
 eqK .u8 t39 (.int .u8 1) fun t40=>
 condK t40
 (faK 2 t6 fun t41=>
 ld1K t41 (fun t42 w10=>
 lenK t42 fun t43=>
 LoopK [(.int .i64 0)] (fun vs_1 again w11=>∀ _h_1:Env,
 ltK .i64 (nth vs_1 0) t43 fun t45=>
 condK t45
 (ixK 1 t42 (nth vs_1 0) fun t46=>
 ld1K t46 (fun t47 w12=>
 faK 3 t6 fun t50=>
 ld1K t50 (fun t51 w13=>
 buildK [(0,1),(1,1)] [(.int .i32 0),(.slice none 0 0)] [(0,t47),(1,t51)] fun t52=>
 faK 4 t7 fun t53=>
 ld1K t53 (fun t54 w14=>
 callK Tryz.prog 186 [v0,t52,t54] (fun t55 w15=>
 newK 152 [(.int .i32 0),(.slice none 0 0)] (fun t10 w16=>
 stnK 2 t10 t55 (fun w17=>
 faK 0 t10 fun t57=>
 ld1K t57 (fun t58 w18=>
 rowK 21 1 1 [(.int .i32 0)] [(0,t58)] (fun t59 w19=>
 faK 1 t10 fun t60=>
 ld1K t60 (fun t61 w20=>
 callK Tryz.prog 77 [v1,t59,t61] (fun _t62 w21=>
 addK .i64 (nth vs_1 0) (.int .i64 1) fun t63=>
 again [t63] w21) w20) w19) w18) w17) w16) w15) w14) w13) w12) w11)
 (K (.tuple #[]) w11)) w10) w9)
 (K (.tuple #[]) w9)) w6)) w3)) (fun J=>
 faK 0 t6 fun t12=>
 ld1K t12 (fun t13 w22=>
 eqK .u8 t13 (.int .u8 1) fun t14=>
 condK t14
 (faK 0 t7 fun t16=>
 ld1K t16 (fun t17 w23=>
 eqK .u8 t17 (.int .u8 1) fun t18=>
 J [t18] w23) w22)
 (J [(.bool false)] w22)) w2)) w1) w
theorem S147_eq (v0 v1 v2 v3:Value) (K:Cont) (w:World):S147 v0 v1 v2 v3 K w=D Tryz.prog okf 64 (bodyOf Tryz.f147) (.node [] [] .nil (.cut [11] [(11,19)] .nil (.node [] [] (.dc [7,8] [[],[],[1],[],[3],[],[5],[3,4,5,6],[0,1,2,3,4,5,6,7]] []) (.node [] [] .nil (.node [] [] .nil (.node [] [] .nil (.node [] [] (.node [] [] .nil (.node [44] [(9,10),(44,63)] (.node [] [] .nil (.node [] [] (.node [] [] .nil .nil) (.node [] [] (.node [] [] .nil (.node [] [] .nil .nil)) .nil))) .nil)) .nil))))))) (retK Tryz.prog [] K) (nth [v0,v1,v2,v3]) w:=by kernel_rfl
theorem S147_ok {v0 v1 v2 v3:Value} {K:Cont} {w:World} (h:S147 v0 v1 v2 v3 K w):callK Tryz.prog 147 [v0,v1,v2,v3] K w:=
 callK_of (P:=Tryz.prog) (ok:=okf) (n:=64) (fn:=Tryz.f147) (c:=bodyOf Tryz.f147) (rs:=[]) (an:=(.node [] [] .nil (.cut [11] [(11,19)] .nil (.node [] [] (.dc [7,8] [[],[],[1],[],[3],[],[5],[3,4,5,6],[0,1,2,3,4,5,6,7]] []) (.node [] [] .nil (.node [] [] .nil (.node [] [] .nil (.node [] [] (.node [] [] .nil (.node [44] [(9,10),(44,63)] (.node [] [] .nil (.node [] [] (.node [] [] .nil .nil) (.node [] [] (.node [] [] .nil (.node [] [] .nil .nil)) .nil))) .nil)) .nil)))))))) good mixed Tryz.func147 (by kernel_rfl) (by kernel_rfl) (by kernel_rfl) (by kernel_rfl) (Eq.mp (S147_eq v0 v1 v2 v3 K w) h)

def S87 (v0 v1 v2:Value) (K:Cont) (w:World):Prop:=
 callK Tryz.prog 141 [v0,v1,v2] (fun t17 w1=>
 neK .i64 t17 (.int .i64 0) fun t19=>
 condK t19
 (K (.tuple #[(.slice none 0 0),t17]) w1)
 (callK Tryz.prog 75 [] (fun t21 w2=>
 buildK [(0,1),(1,1)] [(.slice none 0 0),(.int .i64 0)] [(0,v1)] fun t23=>
 boxnK 196 t23 (fun t24 w3=>
 buildK [(0,1),(1,1)] [(.slice none 0 0),(.int .i64 0)] [(0,v2)] fun t26=>
 boxnK 196 t26 (fun t27 w4=>
 LoopK [] (fun _vs again w5=>∀ _h:Env,
 callK Tryz.prog 142 [t27] (fun t29 w6=>
 notK t29 fun t30=>
 condK t30
 (callK Tryz.prog 143 [t27] (fun t33 w7=>
 eqK .u8 t33 (.int .u8 2) fun t34=>
 condK t34
 (callK Tryz.prog 145 [t27,(.int .i64 536870912)] (fun t37 w8=>
 callK Tryz.prog 144 [t21,t37] (fun _t38 w9=>
 again [] w9) w8) w7)
 (callK Tryz.prog 143 [t24] (fun t41 w10=>
 eqK .u8 t41 (.int .u8 3) fun t42=>
 condK t42
 (callK Tryz.prog 145 [t24,(.int .i64 536870912)] (fun t45 w11=>
 callK Tryz.prog 144 [t21,t45] (fun _t46 w12=>
 again [] w12) w11) w10)
 (callK Tryz.prog 146 [t24] (fun t48 w13=>
 callK Tryz.prog 146 [t27] (fun t50 w14=>
 minK .i64 t48 t50 fun t51=>
 callK Tryz.prog 145 [t24,t51] (fun t56 w15=>
 callK Tryz.prog 145 [t27,t51] (fun t59 w16=>
 callK Tryz.prog 147 [v0,t21,t56,t59] (fun _t60 w17=>
 again [] w17) w16) w15) w14) w13) w10)) w7)) w6)
 (LoopK [] (fun _vs_1 again_1 w18=>∀ _h_1:Env,
 callK Tryz.prog 142 [t24] (fun t62 w19=>
 notK t62 fun t63=>
 condK t63
 (callK Tryz.prog 145 [t24,(.int .i64 536870912)] (fun t66 w20=>
 callK Tryz.prog 144 [t21,t66] (fun _t67 w21=>
 again_1 [] w21) w20) w19)
 (callK Tryz.prog 79 [t21] (fun t69 w22=>
 callK Tryz.prog 94 [t69] (fun t71 w23=>
 gtK .i64 t71 (.int .i64 536870912) fun t72=>
 condK t72
 (K (.tuple #[(.slice none 0 0),(.int .i64 3)]) w23)
 (callK Tryz.prog 95 [t69] (fun t75 w24=>
 gtK .i64 t75 (.int .i64 536870912) fun t76=>
 condK t76
 (K (.tuple #[(.slice none 0 0),(.int .i64 3)]) w24)
 (K (.tuple #[t69,(.int .i64 0)]) w24)) w23)) w22) w19)) w18) w6)) w5) w4) w3) w2) w1)) w
theorem S87_eq (v0 v1 v2:Value) (K:Cont) (w:World):S87 v0 v1 v2 K w=D Tryz.prog okf 79 (bodyOf Tryz.f87) (.node [] [] .nil (.node [] [] (.node [] [] .nil (.node [] [] .nil (.node [] [] (.node [] [] .nil .nil) .nil))) (.node [] [] .nil (.node [] [] .nil (.node [] [] .nil (.node [] [] (.node [] [(12,12),(28,60)] (.node [] [] (.node [] [] .nil (.node [] [] .nil .nil)) (.node [] [] (.node [] [] .nil (.node [] [] (.node [] [] .nil .nil) (.node [] [] .nil (.node [] [] (.node [] [] .nil .nil) .nil)))) (.node [] [] .nil .nil))) .nil) (.node [] [] (.node [] [(61,67)] (.node [] [] (.node [] [] .nil (.node [] [] .nil .nil)) .nil) .nil) (.node [] [] .nil (.node [] [] (.node [] [] .nil (.node [] [] (.node [] [] .nil .nil) .nil)) (.node [] [] .nil .nil)))))))))) (retK Tryz.prog [.tmp 6,.tmp 7] K) (nth [v0,v1,v2]) w:=by kernel_rfl
theorem S87_ok {v0 v1 v2:Value} {K:Cont} {w:World} (h:S87 v0 v1 v2 K w):callK Tryz.prog 87 [v0,v1,v2] K w:=
 callK_of (P:=Tryz.prog) (ok:=okf) (n:=79) (fn:=Tryz.f87) (c:=bodyOf Tryz.f87) (rs:=[.tmp 6,.tmp 7]) (an:=(.node [] [] .nil (.node [] [] (.node [] [] .nil (.node [] [] .nil (.node [] [] (.node [] [] .nil .nil) .nil))) (.node [] [] .nil (.node [] [] .nil (.node [] [] .nil (.node [] [] (.node [] [(12,12),(28,60)] (.node [] [] (.node [] [] .nil (.node [] [] .nil .nil)) (.node [] [] (.node [] [] .nil (.node [] [] (.node [] [] .nil .nil) (.node [] [] .nil (.node [] [] (.node [] [] .nil .nil) .nil)))) (.node [] [] .nil .nil))) .nil) (.node [] [] (.node [] [(61,67)] (.node [] [] (.node [] [] .nil (.node [] [] .nil .nil)) .nil) .nil) (.node [] [] .nil (.node [] [] (.node [] [] .nil (.node [] [] (.node [] [] .nil .nil) .nil)) (.node [] [] .nil .nil))))))))))) good mixed Tryz.func87 (by kernel_rfl) (by kernel_rfl) (by kernel_rfl) (by kernel_rfl) (Eq.mp (S87_eq v0 v1 v2 K w) h)

def S142 (v0:Value) (K:Cont) (w:World):Prop:=
 nilckK v0 fun t4=>
 faK 0 t4 fun t5=>
 ld1K t5 (fun t6 w1=>
 lenK t6 fun t7=>
 eqK .i64 t7 (.int .i64 0) fun t8=>
 K t8 w1) w
theorem S142_eq (v0:Value) (K:Cont) (w:World):S142 v0 K w=D Tryz.prog okf 9 (bodyOf Tryz.f142) (.node [] [] .nil (.node [] [] .nil .nil)) (retK Tryz.prog [.tmp 2] K) (nth [v0]) w:=by kernel_rfl
theorem S142_ok {v0:Value} {K:Cont} {w:World} (h:S142 v0 K w):callK Tryz.prog 142 [v0] K w:=
 callK_of (P:=Tryz.prog) (ok:=okf) (n:=9) (fn:=Tryz.f142) (c:=bodyOf Tryz.f142) (rs:=[.tmp 2]) (an:=(.node [] [] .nil (.node [] [] .nil .nil))) good mixed Tryz.func142 (by kernel_rfl) (by kernel_rfl) (by kernel_rfl) (by kernel_rfl) (Eq.mp (S142_eq v0 K w) h)

def S143 (v0:Value) (K:Cont) (w:World):Prop:=
 callK Tryz.prog 142 [v0] (fun t4 w1=>
 condK t4
 (K (.int .u8 1) w1)
 (nilckK v0 fun t6=>
 faK 0 t6 fun t7=>
 ld1K t7 (fun t8 w2=>
 ixK 5 t8 (.int .i64 0) fun t9=>
 faK 0 t9 fun t10=>
 ld1K t10 (fun t11 w3=>
 K t11 w3) w2) w1)) w
theorem S143_eq (v0:Value) (K:Cont) (w:World):S143 v0 K w=D Tryz.prog okf 12 (bodyOf Tryz.f143) (.node [] [] .nil (.node [] [] (.node [] [] .nil (.node [] [] (.node [] [] .nil .nil) .nil)) (.node [] [] .nil .nil))) (retK Tryz.prog [.tmp 2] K) (nth [v0]) w:=by kernel_rfl
theorem S143_ok {v0:Value} {K:Cont} {w:World} (h:S143 v0 K w):callK Tryz.prog 143 [v0] K w:=
 callK_of (P:=Tryz.prog) (ok:=okf) (n:=12) (fn:=Tryz.f143) (c:=bodyOf Tryz.f143) (rs:=[.tmp 2]) (an:=(.node [] [] .nil (.node [] [] (.node [] [] .nil (.node [] [] (.node [] [] .nil .nil) .nil)) (.node [] [] .nil .nil)))) good mixed Tryz.func143 (by kernel_rfl) (by kernel_rfl) (by kernel_rfl) (by kernel_rfl) (Eq.mp (S143_eq v0 K w) h)

def S145 (v0 v1:Value) (K:Cont) (w:World):Prop:=
 newK 39 [(.int .u8 0),(.int .i64 0),(.slice none 0 0),(.slice none 0 0),(.slice none 0 0)] (fun t4 w1=>
 callK Tryz.prog 142 [v0] (fun t7 w2=>
 condK t7
 (buildK [(0,1),(1,1),(2,1),(3,1),(4,1)] [(.int .u8 0),(.int .i64 0),(.slice none 0 0),(.slice none 0 0),(.slice none 0 0)] [(0,(.int .u8 1)),(1,v1)] fun t9=>
 stnK 5 t4 t9 (fun w3=>
 ldnK 5 t4 (fun r0 w4=>
 K r0 w4) w3) w2)
 (nilckK v0 fun t11=>
 faK 0 t11 fun t12=>
 ld1K t12 (fun t13 w5=>
 ixK 5 t13 (.int .i64 0) fun t14=>
 ldnK 5 t14 (fun t15 w6=>
 newK 39 [(.int .u8 0),(.int .i64 0),(.slice none 0 0),(.slice none 0 0),(.slice none 0 0)] (fun t5 w7=>
 stnK 5 t5 t15 (fun w8=>
 callK Tryz.prog 184 [v0] (fun t18 w9=>
 minK .i64 v1 t18 fun t19=>
 JoinK (fun _vs w10=>∀ _h:Env,
 nilckK v0 fun t40=>
 faK 1 t40 fun t41=>
 ld1K t41 (fun t42 w11=>
 addK .i64 t42 t19 fun t44=>
 nilckK v0 fun t45=>
 faK 1 t45 fun t46=>
 st1K t46 t44 (fun w12=>
 callK Tryz.prog 184 [v0] (fun t48 w13=>
 eqK .i64 t48 (.int .i64 0) fun t49=>
 condK t49
 (nilckK v0 fun t53=>
 faK 0 t53 fun t54=>
 ld1K t54 (fun t55 w14=>
 runK Tryz.prog (Instr.sliceAt 31 t55 (some (.int .i64 1)) none none) (fun t56 w15=>
 nilckK v0 fun t57=>
 faK 0 t57 fun t58=>
 st1K t58 t56 (fun w16=>
 nilckK v0 fun t59=>
 faK 1 t59 fun t60=>
 st1K t60 (.int .i64 0) (fun w17=>
 ldnK 5 t5 (fun t61 w18=>
 stnK 5 t4 t61 (fun w19=>
 ldnK 5 t4 (fun r0_1 w20=>
 K r0_1 w20) w19) w18) w17) w16) w15) w14) w13)
 (ldnK 5 t5 (fun t61_1 w21=>
 stnK 5 t4 t61_1 (fun w22=>
 ldnK 5 t4 (fun r0_2 w23=>
 K r0_2 w23) w22) w21) w13)) w12) w11) w10) (fun J=>
 faK 0 t5 fun t20=>
 ld1K t20 (fun t21 w24=>
 eqK .u8 t21 (.int .u8 2) fun t22=>
 condK t22
 (DrawC [12,14] [[],[0],[],[2],[2,3],[2,3,4],[],[6],[6,7],[6,7,8],[],[6,7,8,9,10],[0,1,2,3,4,5,6,7,8,9,10,11],[0,1,2,3,4,5,6,7,8,9,10,11,12],[0,1,2,3,4,5,6,7,8,9,10,11,12,13]] w24.drew (fun M St=>
 faK 2 t5 fun t23=>
 sld1 (St 1) t23 fun t24=>
 nilckK v0 fun t26=>
 faK 1 t26 fun t27=>
 sld1 (St 5) t27 fun t28=>
 nilckK v0 fun t30=>
 faK 1 t30 fun t31=>
 sld1 (St 9) t31 fun t32=>
 addK .i64 t32 t19 fun t34=>
 runK Tryz.prog (Instr.sliceAt 35 t24 (some t28) (some t34) none) (fun t35 w25=>
 Mod (M 12) w24.drew w25∧
 faK 2 t5 fun t36=>
 st1K t36 t35 (fun w26=>
 Mod (M 14) w25 w26∧
 J [] w26) w25) w24.drew))
 (faK 1 t5 fun t38=>
 st1K t38 t19 (fun w27=>
 J [] w27) w24)) w9)) w8) w7) w6) w5) w2)) w1) w
theorem S145_eq (v0 v1:Value) (K:Cont) (w:World):S145 v0 v1 K w=D Tryz.prog okf 62 (bodyOf Tryz.f145) (.node [] [] .nil (.node [] [] (.node [] [] .nil (.node [] [] (.node [] [] .nil .nil) .nil)) (.node [] [] .nil (.node [] [] .nil (.cut [] [(20,38)] (.node [] [] .nil (.node [] [] (.dc [12,14] [[],[0],[],[2],[2,3],[2,3,4],[],[6],[6,7],[6,7,8],[],[6,7,8,9,10],[0,1,2,3,4,5,6,7,8,9,10,11],[0,1,2,3,4,5,6,7,8,9,10,11,12],[0,1,2,3,4,5,6,7,8,9,10,11,12,13]] [[12]]) .nil)) (.node [] [] .nil (.node [] [] (.node [] [] .nil (.node [] [] .nil .nil)) (.node [] [] .nil .nil)))))))) (retK Tryz.prog [.cell 4 39] K) (nth [v0,v1]) w:=by kernel_rfl
theorem S145_ok {v0 v1:Value} {K:Cont} {w:World} (h:S145 v0 v1 K w):callK Tryz.prog 145 [v0,v1] K w:=
 callK_of (P:=Tryz.prog) (ok:=okf) (n:=62) (fn:=Tryz.f145) (c:=bodyOf Tryz.f145) (rs:=[.cell 4 39]) (an:=(.node [] [] .nil (.node [] [] (.node [] [] .nil (.node [] [] (.node [] [] .nil .nil) .nil)) (.node [] [] .nil (.node [] [] .nil (.cut [] [(20,38)] (.node [] [] .nil (.node [] [] (.dc [12,14] [[],[0],[],[2],[2,3],[2,3,4],[],[6],[6,7],[6,7,8],[],[6,7,8,9,10],[0,1,2,3,4,5,6,7,8,9,10,11],[0,1,2,3,4,5,6,7,8,9,10,11,12],[0,1,2,3,4,5,6,7,8,9,10,11,12,13]] [[12]]) .nil)) (.node [] [] .nil (.node [] [] (.node [] [] .nil (.node [] [] .nil .nil)) (.node [] [] .nil .nil))))))))) good mixed Tryz.func145 (by kernel_rfl) (by kernel_rfl) (by kernel_rfl) (by kernel_rfl) (Eq.mp (S145_eq v0 v1 K w) h)

def S146 (v0:Value) (K:Cont) (w:World):Prop:=
 callK Tryz.prog 142 [v0] (fun t4 w1=>
 condK t4
 (K (.int .i64 536870912) w1)
 (callK Tryz.prog 184 [v0] (fun t6 w2=>
 K t6 w2) w1)) w
theorem S146_eq (v0:Value) (K:Cont) (w:World):S146 v0 K w=D Tryz.prog okf 7 (bodyOf Tryz.f146) (.node [] [] .nil (.node [] [] (.node [] [] .nil (.node [] [] (.node [] [] .nil .nil) .nil)) (.node [] [] .nil .nil))) (retK Tryz.prog [.tmp 2] K) (nth [v0]) w:=by kernel_rfl
theorem S146_ok {v0:Value} {K:Cont} {w:World} (h:S146 v0 K w):callK Tryz.prog 146 [v0] K w:=
 callK_of (P:=Tryz.prog) (ok:=okf) (n:=7) (fn:=Tryz.f146) (c:=bodyOf Tryz.f146) (rs:=[.tmp 2]) (an:=(.node [] [] .nil (.node [] [] (.node [] [] .nil (.node [] [] (.node [] [] .nil .nil) .nil)) (.node [] [] .nil .nil)))) good mixed Tryz.func146 (by kernel_rfl) (by kernel_rfl) (by kernel_rfl) (by kernel_rfl) (Eq.mp (S146_eq v0 K w) h)

def S184 (v0:Value) (K:Cont) (w:World):Prop:=
 nilckK v0 fun t4=>
 faK 0 t4 fun t5=>
 ld1K t5 (fun t6 w1=>
 ixK 5 t6 (.int .i64 0) fun t7=>
 faK 0 t7 fun t8=>
 ld1K t8 (fun t9 w2=>
 eqK .u8 t9 (.int .u8 2) fun t10=>
 condK t10
 (DrawK w2 (fun C=>
 nilckK v0 fun t12=>
 faK 0 t12 fun t13=>
 qld1K C t13 fun t14=>
 ixK 5 t14 (.int .i64 0) fun t15=>
 faK 2 t15 fun t16=>
 qld1K C t16 fun t17=>
 lenK t17 fun t18=>
 nilckK v0 fun t20=>
 faK 1 t20 fun t21=>
 qld1K C t21 fun t22=>
 subK .i64 t18 t22 fun t23=>
 ∀ w3:World,C w3→
 K t23 w3))
 (DrawK w2 (fun C_1=>
 nilckK v0 fun t25=>
 faK 0 t25 fun t26=>
 qld1K C_1 t26 fun t27=>
 ixK 5 t27 (.int .i64 0) fun t28=>
 faK 1 t28 fun t29=>
 qld1K C_1 t29 fun t30=>
 nilckK v0 fun t32=>
 faK 1 t32 fun t33=>
 qld1K C_1 t33 fun t34=>
 subK .i64 t30 t34 fun t35=>
 ∀ w4:World,C_1 w4→
 K t35 w4))) w1) w
theorem S184_eq (v0:Value) (K:Cont) (w:World):S184 v0 K w=D Tryz.prog okf 36 (bodyOf Tryz.f184) (.node [] [] .nil (.node [] [] (.node [] [] .nil (.node [] [] (.node [] [] .draw .nil) .nil)) (.node [] [] .draw .nil))) (retK Tryz.prog [.tmp 2] K) (nth [v0]) w:=by kernel_rfl
theorem S184_ok {v0:Value} {K:Cont} {w:World} (h:S184 v0 K w):callK Tryz.prog 184 [v0] K w:=
 callK_of (P:=Tryz.prog) (ok:=okf) (n:=36) (fn:=Tryz.f184) (c:=bodyOf Tryz.f184) (rs:=[.tmp 2]) (an:=(.node [] [] .nil (.node [] [] (.node [] [] .nil (.node [] [] (.node [] [] .draw .nil) .nil)) (.node [] [] .draw .nil)))) good mixed Tryz.func184 (by kernel_rfl) (by kernel_rfl) (by kernel_rfl) (by kernel_rfl) (Eq.mp (S184_eq v0 K w) h)

end Go.Proofs.YtlbaopamhkmepaaGreatDoor

namespace Go.Proofs.YtlbaopamhkmepaaGreatDoor
open Go Go.K
def S14 (v0:Value) (K:Cont) (w:World):Prop:=
 lenK v0 fun t10=>
 gtK .i64 t10 (.int .i64 64) fun t11=>
 condK t11
 (K (.tuple #[(.pointer none),(.int .i64 3)]) w)
 (callK Tryz.prog 43 [v0] (fun t13 w1=>
 runK Tryz.prog (Instr.makeMap 85 none) (fun t14 w2=>
 buildK [(0,1),(1,1)] [(.slice none 0 0),(.map none)] [(0,t13),(1,t14)] fun t15=>
 boxnK 87 t15 (fun t16 w3=>
 lenK v0 fun t18=>
 LoopK [(.int .i64 0)] (fun vs again w4=>∀ _h:Env,
 ltK .i64 (nth vs 0) t18 fun t20=>
 condK t20
 (ixK 6 v0 (nth vs 0) fun t21=>
 ldnK 6 t21 (fun t22 w5=>
 newK 84 [(.int .i64 0),(.bool false),(.int .u8 0),(.bool false),(.bool false),(.int .i64 0)] (fun t6 w6=>
 stnK 6 t6 t22 (fun w7=>
 JoinK (fun _vs_1 w8=>∀ _h_1:Env,
 DrawC [7] [[],[0],[0,1],[0,1,2],[],[4],[],[0,1,2,3,4,5,6]] w8.drew (fun M St=>
 nilckK t16 fun t40=>
 faK 1 t40 fun t41=>
 sld1 (St 3) t41 fun t42=>
 faK 0 t6 fun t43=>
 sld1 (St 5) t43 fun t44=>
 sldn (St 6) 6 t6 fun t45=>
 runK Tryz.prog (do Instr.mapUpdate 85 t42 t44 t45;pure undef) (fun _u w9=>
 Mod (M 7) w8.drew w9∧
 addK .i64 (nth vs 0) (.int .i64 1) fun t46=>
 again [t46] w9) w8.drew)) (fun J=>
 JoinK (fun vs_2 w10=>∀ _h_2:Env,
 condK (nth vs_2 0)
 (K (.tuple #[(.pointer none),(.int .i64 3)]) w10)
 (ldnK 6 t6 (fun t35 w11=>
 callK Tryz.prog 44 [t35] (fun t36 w12=>
 notK t36 fun t37=>
 condK t37
 (K (.tuple #[(.pointer none),(.int .i64 3)]) w12)
 (J [] w12)) w11) w10)) (fun J_1=>
 DrawC [6,10,11] [[],[0],[0,1],[0,1,2],[],[4],[0,1,2,3,4,5],[0,1,2,3,4,5,6],[0,1,2,3,4,5,6,7],[0,1,2,3,4,5,6,7],[],[0,1,2,3,4,5,6,7,8,10],[0,1,2,3,4,5,6,7,8,9,10,11]] w7.drew (fun M_1 St_1=>
 nilckK t16 fun t25=>
 faK 1 t25 fun t26=>
 sld1 (St_1 3) t26 fun t27=>
 faK 0 t6 fun t28=>
 sld1 (St_1 5) t28 fun t29=>
 (runK Tryz.prog (Instr.lookup 85 t27 t29 true) (fun t30 w13=>
 Mod (M_1 6) w7.drew w13∧
 extK 0 t30 fun t31=>
 extK 1 t30 fun t32=>
 newK 84 [(.int .i64 0),(.bool false),(.int .u8 0),(.bool false),(.bool false),(.int .i64 0)] (fun t7 w14=>
 Mod (M_1 10) w13 w14∧
 stnK 6 t7 t31 (fun w15=>
 Mod (M_1 11) w14 w15∧
 J_1 [t32] w15) w14) w13) w7.drew)∧
 (newK 84 [(.int .i64 0),(.bool false),(.int .u8 0),(.bool false),(.bool false),(.int .i64 0)] (fun t7_1 w16=>
 Mod (M_1 10) w7.drew w16∧
 runK Tryz.prog (Instr.lookup 85 t27 t29 true) (fun t30_1 w17=>
 Mod (M_1 6) w16 w17∧
 extK 0 t30_1 fun t31_1=>
 extK 1 t30_1 fun t32_1=>
 stnK 6 t7_1 t31_1 (fun w18=>
 Mod (M_1 11) w17 w18∧
 J_1 [t32_1] w18) w17) w16) w7.drew))))) w6) w5) w4)
 (nilckK t16 fun t48=>
 faK 0 t48 fun t49=>
 ld1K t49 (fun t50 w19=>
 callK Tryz.prog 45 [t50,(.func (.func 46) #[] #[])] (fun _t51 w20=>
 K (.tuple #[t16,(.int .i64 0)]) w20) w19) w4)) w3) w2) w1) w)
theorem S14_eq (v0:Value) (K:Cont) (w:World):S14 v0 K w=D Tryz.prog okf 53 (bodyOf Tryz.f14) (.node [] [] .nil (.node [] [] (.node [] [] .nil (.node [] [] (.node [] [] .nil .nil) .nil)) (.node [] [] .nil (.node [] [] (.node [] [] .nil (.node [19] [(2,3),(6,8),(19,46)] (.node [] [] .nil (.node [] [] (.node [] [] .nil .nil) (.node [] [] (.node [] [] .nil (.cut [] [(2,3),(7,8),(23,38)] (.cut [8] [(7,8),(23,32)] (.dt [6,10,11] [[],[0],[0,1],[0,1,2],[],[4],[0,1,2,3,4,5],[0,1,2,3,4,5,6],[0,1,2,3,4,5,6,7],[0,1,2,3,4,5,6,7],[],[0,1,2,3,4,5,6,7,8,10],[0,1,2,3,4,5,6,7,8,9,10,11]] [[6]] (.op 0 (.op 1 (.op 2 (.op 3 (.op 4 (.op 5 (.br (.op 6 (.op 7 (.op 8 (.op 9 (.op 10 (.op 11 (.op 12 .nil))))))) (.op 10 (.op 6 (.op 7 (.op 8 (.op 9 (.op 11 (.op 12 .nil))))))))))))))) (.node [] [] .nil (.node [] [] (.node [] [] .nil .nil) .nil))) (.dc [7] [[],[0],[0,1],[0,1,2],[],[4],[],[0,1,2,3,4,5,6]] []))) .nil))) .nil)) (.node [] [] .nil (.node [] [] .nil .nil)))))) (retK Tryz.prog [.tmp 2,.tmp 3] K) (nth [v0]) w:=by kernel_rfl
theorem S14_ok {v0:Value} {K:Cont} {w:World} (h:S14 v0 K w):callK Tryz.prog 14 [v0] K w:=
 callK_of (P:=Tryz.prog) (ok:=okf) (n:=53) (fn:=Tryz.f14) (c:=bodyOf Tryz.f14) (rs:=[.tmp 2,.tmp 3]) (an:=(.node [] [] .nil (.node [] [] (.node [] [] .nil (.node [] [] (.node [] [] .nil .nil) .nil)) (.node [] [] .nil (.node [] [] (.node [] [] .nil (.node [19] [(2,3),(6,8),(19,46)] (.node [] [] .nil (.node [] [] (.node [] [] .nil .nil) (.node [] [] (.node [] [] .nil (.cut [] [(2,3),(7,8),(23,38)] (.cut [8] [(7,8),(23,32)] (.dt [6,10,11] [[],[0],[0,1],[0,1,2],[],[4],[0,1,2,3,4,5],[0,1,2,3,4,5,6],[0,1,2,3,4,5,6,7],[0,1,2,3,4,5,6,7],[],[0,1,2,3,4,5,6,7,8,10],[0,1,2,3,4,5,6,7,8,9,10,11]] [[6]] (.op 0 (.op 1 (.op 2 (.op 3 (.op 4 (.op 5 (.br (.op 6 (.op 7 (.op 8 (.op 9 (.op 10 (.op 11 (.op 12 .nil))))))) (.op 10 (.op 6 (.op 7 (.op 8 (.op 9 (.op 11 (.op 12 .nil))))))))))))))) (.node [] [] .nil (.node [] [] (.node [] [] .nil .nil) .nil))) (.dc [7] [[],[0],[0,1],[0,1,2],[],[4],[],[0,1,2,3,4,5,6]] []))) .nil))) .nil)) (.node [] [] .nil (.node [] [] .nil .nil))))))) good mixed Tryz.func14 (by kernel_rfl) (by kernel_rfl) (by kernel_rfl) (by kernel_rfl) (Eq.mp (S14_eq v0 K w) h)

def S43 (v0:Value) (K:Cont) (w:World):Prop:=
 snilK v0 fun b4=>
 condK (.bool b4)
 (K (.slice none 0 0) w)
 (rowK 84 6 0 [] [] (fun t5 w1=>
 runK Tryz.prog (Builtin.append_ #[48,48] 48 [t5,v0].toArray) (fun t7 w2=>
 K t7 w2) w1) w)
theorem S43_eq (v0:Value) (K:Cont) (w:World):S43 v0 K w=D Tryz.prog okf 8 (bodyOf Tryz.f43) (.node [] [] .nil (.node [] [] (.node [] [] .nil (.node [] [] (.node [] [] .nil .nil) .nil)) (.node [] [] .nil .nil))) (retK Tryz.prog [.tmp 2] K) (nth [v0]) w:=by kernel_rfl
theorem S43_ok {v0:Value} {K:Cont} {w:World} (h:S43 v0 K w):callK Tryz.prog 43 [v0] K w:=
 callK_of (P:=Tryz.prog) (ok:=okf) (n:=8) (fn:=Tryz.f43) (c:=bodyOf Tryz.f43) (rs:=[.tmp 2]) (an:=(.node [] [] .nil (.node [] [] (.node [] [] .nil (.node [] [] (.node [] [] .nil .nil) .nil)) (.node [] [] .nil .nil)))) good mixed Tryz.func43 (by kernel_rfl) (by kernel_rfl) (by kernel_rfl) (by kernel_rfl) (Eq.mp (S43_eq v0 K w) h)

def S44 (v0:Value) (K:Cont) (w:World):Prop:=
 boxnK 84 v0 (fun t1 w1=>
 JoinK (fun vs w2=>∀ _h:Env,
 condK (nth vs 0)
 (K (.bool false) w2)
 (faK 1 t1 fun t23=>
 ld1K t23 (fun t24 w3=>
 condK t24
 (faK 4 t1 fun t25=>
 ld1K t25 (fun t26 w4=>
 notK t26 fun t27=>
 condK t27
 (faK 5 t1 fun t29=>
 ld1K t29 (fun t30 w5=>
 geK .i64 t30 (.int .i64 0) fun t31=>
 condK t31
 (faK 5 t1 fun t34=>
 ld1K t34 (fun t35 w6=>
 leK .i64 t35 (.int .i64 8) fun t36=>
 K t36 w6) w5)
 (K (.bool false) w5)) w4)
 (K (.bool false) w4)) w3)
 (faK 5 t1 fun t38=>
 ld1K t38 (fun t39 w7=>
 eqK .i64 t39 (.int .i64 0) fun t40=>
 K t40 w7) w3)) w2)) (fun J=>
 faK 0 t1 fun t4=>
 ld1K t4 (fun t5 w8=>
 ltK .i64 t5 (.int .i64 1) fun t6=>
 condK t6
 (J [(.bool true)] w8)
 (faK 0 t1 fun t8=>
 ld1K t8 (fun t9 w9=>
 gtK .i64 t9 (.int .i64 1000) fun t10=>
 condK t10
 (J [(.bool true)] w9)
 (faK 2 t1 fun t13=>
 ld1K t13 (fun t14 w10=>
 ltK .u8 t14 (.int .u8 1) fun t15=>
 condK t15
 (J [(.bool true)] w10)
 (faK 2 t1 fun t18=>
 ld1K t18 (fun t19 w11=>
 gtK .u8 t19 (.int .u8 4) fun t20=>
 J [t20] w11) w10)) w9)) w8)) w1)) w
theorem S44_eq (v0:Value) (K:Cont) (w:World):S44 v0 K w=D Tryz.prog okf 41 (bodyOf Tryz.f44) (.node [] [] .nil (.node [] [] (.cut [3] [(3,21)] .nil (.node [] [] (.node [] [] .nil .nil) (.node [] [] .nil (.node [] [] (.node [] [] .nil .nil) .nil)))) (.node [] [] .nil .nil))) (retK Tryz.prog [.tmp 2] K) (nth [v0]) w:=by kernel_rfl
theorem S44_ok {v0:Value} {K:Cont} {w:World} (h:S44 v0 K w):callK Tryz.prog 44 [v0] K w:=
 callK_of (P:=Tryz.prog) (ok:=okf) (n:=41) (fn:=Tryz.f44) (c:=bodyOf Tryz.f44) (rs:=[.tmp 2]) (an:=(.node [] [] .nil (.node [] [] (.cut [3] [(3,21)] .nil (.node [] [] (.node [] [] .nil .nil) (.node [] [] .nil (.node [] [] (.node [] [] .nil .nil) .nil)))) (.node [] [] .nil .nil)))) good mixed Tryz.func44 (by kernel_rfl) (by kernel_rfl) (by kernel_rfl) (by kernel_rfl) (Eq.mp (S44_eq v0 K w) h)

def S46 (v0 v1:Value) (K:Cont) (w:World):Prop:=
 boxnK 84 v0 (fun t2 w1=>
 boxnK 84 v1 (fun t3 w2=>
 faK 0 t2 fun t5=>
 ld1K t5 (fun t6 w3=>
 faK 0 t3 fun t7=>
 ld1K t7 (fun t8 w4=>
 callK Tryz.prog 47 [t6,t8] (fun t9 w5=>
 K t9 w5) w4) w3) w2) w1) w
theorem S46_eq (v0 v1:Value) (K:Cont) (w:World):S46 v0 v1 K w=D Tryz.prog okf 10 (bodyOf Tryz.f46) (.node [] [] .nil (.node [] [] .nil .nil)) (retK Tryz.prog [.tmp 4] K) (nth [v0,v1]) w:=by kernel_rfl
theorem S46_ok {v0 v1:Value} {K:Cont} {w:World} (h:S46 v0 v1 K w):callK Tryz.prog 46 [v0,v1] K w:=
 callK_of (P:=Tryz.prog) (ok:=okf) (n:=10) (fn:=Tryz.f46) (c:=bodyOf Tryz.f46) (rs:=[.tmp 4]) (an:=(.node [] [] .nil (.node [] [] .nil .nil))) good mixed Tryz.func46 (by kernel_rfl) (by kernel_rfl) (by kernel_rfl) (by kernel_rfl) (Eq.mp (S46_eq v0 v1 K w) h)

def S47 (v0 v1:Value) (K:Cont) (w:World):Prop:=
 callK Tryz.prog 82 [v0] (fun t8 w1=>
 callK Tryz.prog 82 [v1] (fun t10 w2=>
 condK t8
 (condK t10
 (K (.int .i64 0) w2)
 (K (.int .i64 (-1)) w2))
 (condK t10
 (K (.int .i64 1) w2)
 (ltK .i64 v0 v1 fun t16=>
 condK t16
 (K (.int .i64 (-1)) w2)
 (gtK .i64 v0 v1 fun t19=>
 condK t19
 (K (.int .i64 1) w2)
 (K (.int .i64 0) w2))))) w1) w
theorem S47_eq (v0 v1:Value) (K:Cont) (w:World):S47 v0 v1 K w=D Tryz.prog okf 20 (bodyOf Tryz.f47) (.node [] [] .nil (.node [] [] .nil (.node [] [] .nil (.node [] [] (.node [] [] .nil (.node [] [] (.node [] [] (.node [] [] .nil (.node [] [] (.node [] [] .nil .nil) .nil)) (.node [] [] .nil .nil)) .nil)) (.node [] [] (.node [] [] .nil (.node [] [] (.node [] [] .nil .nil) .nil)) (.node [] [] (.node [] [] .nil (.node [] [] (.node [] [] .nil .nil) .nil)) (.node [] [] (.node [] [] .nil (.node [] [] (.node [] [] .nil .nil) .nil)) (.node [] [] .nil .nil)))))))) (retK Tryz.prog [.tmp 4] K) (nth [v0,v1]) w:=by kernel_rfl
theorem S47_ok {v0 v1:Value} {K:Cont} {w:World} (h:S47 v0 v1 K w):callK Tryz.prog 47 [v0,v1] K w:=
 callK_of (P:=Tryz.prog) (ok:=okf) (n:=20) (fn:=Tryz.f47) (c:=bodyOf Tryz.f47) (rs:=[.tmp 4]) (an:=(.node [] [] .nil (.node [] [] .nil (.node [] [] .nil (.node [] [] (.node [] [] .nil (.node [] [] (.node [] [] (.node [] [] .nil (.node [] [] (.node [] [] .nil .nil) .nil)) (.node [] [] .nil .nil)) .nil)) (.node [] [] (.node [] [] .nil (.node [] [] (.node [] [] .nil .nil) .nil)) (.node [] [] (.node [] [] .nil (.node [] [] (.node [] [] .nil .nil) .nil)) (.node [] [] (.node [] [] .nil (.node [] [] (.node [] [] .nil .nil) .nil)) (.node [] [] .nil .nil))))))))) good mixed Tryz.func47 (by kernel_rfl) (by kernel_rfl) (by kernel_rfl) (by kernel_rfl) (Eq.mp (S47_eq v0 v1 K w) h)

def S193 (v0 v1:Value) (K:Cont) (w:World):Prop:=
 newK 84 [(.int .i64 0),(.bool false),(.int .u8 0),(.bool false),(.bool false),(.int .i64 0)] (fun t4 w1=>
 pnilK v0 fun b9=>
 condK (.bool b9)
 (buildK [(0,1),(1,1),(2,1),(3,1),(4,1),(5,1)] [(.int .i64 0),(.bool false),(.int .u8 0),(.bool false),(.bool false),(.int .i64 0)] [] fun t10=>
 stnK 6 t4 t10 (fun w2=>
 ldnK 6 t4 (fun r0 w3=>
 K (.tuple #[r0,(.bool false)]) w3) w2) w1)
 (nilckK v0 fun t13=>
 faK 1 t13 fun t14=>
 ld1K t14 (fun t15 w4=>
 runK Tryz.prog (Instr.lookup 85 t15 v1 true) (fun t17 w5=>
 extK 0 t17 fun t18=>
 extK 1 t17 fun t19=>
 newK 84 [(.int .i64 0),(.bool false),(.int .u8 0),(.bool false),(.bool false),(.int .i64 0)] (fun t6 w6=>
 stnK 6 t6 t18 (fun w7=>
 ldnK 6 t6 (fun t20 w8=>
 stnK 6 t4 t20 (fun w9=>
 ldnK 6 t4 (fun r0_1 w10=>
 K (.tuple #[r0_1,t19]) w10) w9) w8) w7) w6) w5) w4) w1)) w
theorem S193_eq (v0 v1:Value) (K:Cont) (w:World):S193 v0 v1 K w=D Tryz.prog okf 22 (bodyOf Tryz.f193) (.node [] [] .nil (.node [] [] (.node [] [] .nil (.node [] [] (.node [] [] .nil .nil) .nil)) (.node [] [] .nil (.node [] [] .nil .nil)))) (retK Tryz.prog [.cell 4 84,.tmp 5] K) (nth [v0,v1]) w:=by kernel_rfl
theorem S193_ok {v0 v1:Value} {K:Cont} {w:World} (h:S193 v0 v1 K w):callK Tryz.prog 193 [v0,v1] K w:=
 callK_of (P:=Tryz.prog) (ok:=okf) (n:=22) (fn:=Tryz.f193) (c:=bodyOf Tryz.f193) (rs:=[.cell 4 84,.tmp 5]) (an:=(.node [] [] .nil (.node [] [] (.node [] [] .nil (.node [] [] (.node [] [] .nil .nil) .nil)) (.node [] [] .nil (.node [] [] .nil .nil))))) good mixed Tryz.func193 (by kernel_rfl) (by kernel_rfl) (by kernel_rfl) (by kernel_rfl) (Eq.mp (S193_eq v0 v1 K w) h)

def S82 (v0:Value) (K:Cont) (w:World):Prop:=
 neK .i64 v0 v0 fun t5=>
 K t5 w
theorem S82_eq (v0:Value) (K:Cont) (w:World):S82 v0 K w=D Tryz.prog okf 6 (bodyOf Tryz.f82) (.node [] [] .nil (.node [] [] .nil .nil)) (retK Tryz.prog [.tmp 2] K) (nth [v0]) w:=by kernel_rfl
theorem S82_ok {v0:Value} {K:Cont} {w:World} (h:S82 v0 K w):callK Tryz.prog 82 [v0] K w:=
 callK_of (P:=Tryz.prog) (ok:=okf) (n:=6) (fn:=Tryz.f82) (c:=bodyOf Tryz.f82) (rs:=[.tmp 2]) (an:=(.node [] [] .nil (.node [] [] .nil .nil))) good mixed Tryz.func82 (by kernel_rfl) (by kernel_rfl) (by kernel_rfl) (by kernel_rfl) (Eq.mp (S82_eq v0 K w) h)

end Go.Proofs.YtlbaopamhkmepaaGreatDoor

namespace Go.K
open Go

def MapI (w:World) (b:Nat) (l:List (Int × Value)):Prop:=∃ es clock,w.heap[b]?=some (.map es clock)∧es.toList.map (fun e=>(e.key,e.val))=l.map fun p=>(Value.int .i64 p.1,p.2)
theorem MapI.lt {w:World} {b:Nat} {l:List (Int × Value)} (h:MapI w b l):b < w.heap.size:=by
 obtain ⟨es,c,hb,_⟩:=h
 exact (Array.getElem?_eq_some_iff.1 hb).1
theorem MapI.mod {M:Nat→Prop} {w w':World} {b:Nat} {l:List (Int × Value)} (h:MapI w b l) (hm:Mod M w w') (hb:¬ M b):MapI w' b l:=by
 have hl:=h.lt
 obtain ⟨es,c,h1,h2⟩:=h
 exact ⟨es,c,(hm.same b hl hb).trans h1,h2⟩
theorem MapI.make (w:World):MapI (w.alloc (.map #[] 0)) w.heap.size []:=⟨#[],0,(MapKept.heap_alloc w _).1,rfl⟩

theorem findNow_int (k:Int):∀ (es:List MapEntry) (l:List (Int × Value)) (i:Nat),(es.map fun e=>(e.key,e.val))=(l.map fun p=>(Value.int .i64 p.1,p.2))→
  ∃ r,Instr.findNow (.int .i64) (.int .i64 k) es i=some r∧((r=none∧l.find? (fun p=>decide (p.1=k))=none)∨∃ j p,r=some (j,p.2)∧l.find? (fun p=>decide (p.1=k))=some p):=by
 intro es
 induction es with
 | nil=>
  intro l i h
  cases l with
  | nil=>exact ⟨none,rfl,.inl ⟨rfl,rfl⟩⟩
  | cons p l=>simp at h
 | cons e es ih=>
  intro l i h
  cases l with
  | nil=>simp at h
  | cons p l=>
   simp only [List.map_cons,List.cons.injEq,Prod.mk.injEq] at h
   obtain ⟨⟨h1,h2⟩,h3⟩:=h
   obtain ⟨r,hr,hiff⟩:=MapKept.sameNow_of_keys (d:=.int .i64) (a:=.int .i64 k) (b:=e.key) rfl (by rw [h1];rfl)
   rw [h1] at hiff
   cases r with
   | true=>
    have hk:k=p.1:=by have:=hiff.1 rfl;simpa using this
    exact ⟨some (i,e.val),by simp [Instr.findNow,hr],.inr ⟨i,p,by rw [h2],by simp [hk]⟩⟩
   | false=>
    have hk:¬ p.1=k:=fun e=>by have:=hiff.2 (by rw [e]);cases this
    obtain ⟨r,h4,h5⟩:=ih l (i+1) h3
    refine ⟨r,by simp [Instr.findNow,hr,h4],?_⟩
    simpa [List.find?_cons,hk] using h5
theorem isKeyI (k:Int):MapKept.IsKey (.int .i64) (.int .i64 k):=rfl
theorem map_lookup {P:Program} {t kt et:TypeId} {z:Value} {w:World} {b:Nat} {l:List (Int × Value)} (ht:P.underlying t=some (.map kt et)) (hk:P.underlying kt=some (.int .i64)) (hz:(zeroValue et).run P w=.ok z w) (h:MapI w b l) (k:Int) :
  (Instr.lookup t (.map (some b)) (.int .i64 k) true).run P w=.ok (.tuple #[((l.find? fun p=>decide (p.1=k)).map (·.2)).getD z,.bool (l.find? fun p=>decide (p.1=k)).isSome]) w:=by
 obtain ⟨es,clock,hb,he⟩:=h
 obtain ⟨r,h1,h2⟩:=findNow_int k es.toList l 0 he
 have hf:=MapKept.run_findKey (w:=w) hk h1
 have hc:=fun em=>MapKept.run_checkKey (w:=w) hk (isKeyI k) em 9999
 rcases h2 with ⟨rfl,h2⟩ | ⟨j,p,rfl,h2⟩
 ·simp [Instr.lookup,run_underlying ht,MapKept.run_getObj_map hb,hc,hf,hz,Result.andThen,h2]
 ·simp [Instr.lookup,run_underlying ht,MapKept.run_getObj_map hb,hc,hf,Result.andThen,h2]
theorem map_update {P:Program} {t kt et:TypeId} {w:World} {b:Nat} {l:List (Int × Value)} (ht:P.underlying t=some (.map kt et)) (hk:P.underlying kt=some (.int .i64)) (h:MapI w b l) (k:Int) (v:Value) (hn:l.find? (fun p=>decide (p.1=k))=none) :
  ∃ w',(Instr.mapUpdate t (.map (some b)) (.int .i64 k) v).run P w=.ok () w'∧MapI w' b (l++[(k,v)])∧Mod (fun x=>x=b) w w':=by
 obtain ⟨es,clock,hb,he⟩:=h
 obtain ⟨r,h1,h2⟩:=findNow_int k es.toList l 0 he
 have hf:=MapKept.run_findKey (w:=w) hk h1
 have hc:=fun em=>MapKept.run_checkKey (w:=w) hk (isKeyI k) em 9999
 rcases h2 with ⟨rfl,h2⟩ | ⟨j,p,rfl,h2⟩
 ·refine ⟨{ w with heap:=w.heap.setIfInBounds b (.map (es.push ⟨.int .i64 k,v,clock⟩) (clock+1)) },by simp [Instr.mapUpdate,run_underlying ht,MapKept.run_getObj_map hb,hc,hf,MapKept.run_setObj_map _ hb,Result.andThen],⟨_,_,(MapKept.heap_set hb).1,?_⟩,⟨rfl,rfl,rfl,by simp,fun x _ hx=>(MapKept.heap_set hb).2 x hx⟩⟩
  simp [he]
 ·rw [h2] at hn;cases hn
end Go.K

namespace Go.K
open Go
theorem pnilK_s {a:Addr} {K:Bool→Prop} (h:K false):pnilK (.pointer (some a)) K:=⟨_,rfl,h⟩
theorem condK_f {A B:Prop} (h:B):condK (.bool false) A B:=h
theorem condK_t {A B:Prop} (h:A):condK (.bool true) A B:=h
theorem nilckK_s {a:Addr} {K:Value→Prop} (h:K (.pointer (some a))):nilckK (.pointer (some a)) K:=⟨_,rfl,h⟩
end Go.K
namespace Go.Proofs.YtlbaopamhkmepaaGreatDoor
open Go Go.K

theorem elem_key:ElemOK Tryz.prog 48 84 6 24:=⟨Tryz.t84,.agg #[.int .i64 0,.bool false,.int .u8 0,.bool false,.bool false,.int .i64 0],by kernel_rfl,by kernel_rfl,by kernel_rfl,by kernel_rfl,by kernel_rfl,by rfl,by decide⟩
open Classical in
theorem may1_ok {k:DKey} {w:World}:callK Tryz.prog 44 [.agg k.cells.toArray] (fun v' w'=>v'=.bool (decide (KeyOK k))∧Grow w w') w:=by
 apply S44_ok
 unfold S44
 refine boxn_i fun b w1 _ _ g hc _=>?_
 have l0:=hc 0 _ rfl
 have l1:=hc 1 _ rfl
 have l2:=hc 2 _ rfl
 have l4:=hc 4 _ rfl
 have l5:=hc 5 _ rfl
 simp only [faK_i]
 have ans:∀ q:Bool,(q=true↔KeyOK k)→Value.bool q=.bool (decide (KeyOK k))∧Grow w w1:=fun q h=>⟨by congr 1;rw [Bool.eq_iff_iff,h,decide_eq_true_eq],g⟩
 refine JoinK_i (fun vs w2=>w2=w1∧∃ q:Bool,vs=[.bool q]∧(q=false↔1≤k.id∧k.id≤1000∧1≤k.kind∧k.kind≤4)) ?_ ?_
 ·rintro vs _ ⟨rfl,q,rfl,hq⟩ _
  rename World=>w1
  rw [nth_z,List.headD_cons]
  cases q with
  | true=>exact condK_t (ans false ⟨fun h=>(nomatch h),fun h=>by have:=hq.2 ⟨h.1,h.2.1,h.2.2.1,h.2.2.2.1⟩;cases this⟩)
  | false=>
   obtain ⟨h1,h2,h3,h4⟩:=hq.1 rfl
   refine condK_f (ld1K_i l1 ?_)
   cases hb:k.block with
   | true=>
    refine condK_t (ld1K_i l4 ?_)
    rw [notK_i]
    cases hf:k.before with
    | true=>exact condK_f (ans false ⟨fun h=>(nomatch h),fun h=>by have:=h.2.2.2.2.2.2.2 hb;rw [hf] at this;cases this⟩)
    | false=>
     refine condK_t (ld1K_i l5 ?_)
     rw [geK_i]
     refine condK_p (fun h5=>?_) fun h5=>ans false ⟨fun h=>(nomatch h),fun h=>by have:=h.2.2.2.2.1;omega⟩
     refine ld1K_i l5 ?_
     rw [leK_i]
     refine ans _ ?_
     rw [decide_eq_true_eq]
     exact ⟨fun h6=>⟨h1,h2,h3,h4,h5,h6,(fun e=>by rw [hb] at e;cases e),fun _=>hf⟩,fun h=>h.2.2.2.2.2.1⟩
   | false=>
    refine condK_f (ld1K_i l5 ?_)
    rw [eqK_i]
    refine ans _ ?_
    rw [decide_eq_true_eq]
    exact ⟨fun h6=>⟨h1,h2,h3,h4,by omega,by omega,fun _=>h6,fun e=>by rw [hb] at e;cases e⟩,fun h=>h.2.2.2.2.2.2.1 hb⟩
 ·refine ld1K_i l0 ?_
  rw [ltK_i]
  refine condK_p (fun h1=>⟨rfl,true,rfl,⟨fun h=>(nomatch h),fun h=>by omega⟩⟩) fun h1=>?_
  refine ld1K_i l0 ?_
  rw [gtK_i]
  refine condK_p (fun h2=>⟨rfl,true,rfl,⟨fun h=>(nomatch h),fun h=>by omega⟩⟩) fun h2=>?_
  refine ld1K_i l2 ?_
  rw [ltK_i]
  refine condK_p (fun h3=>⟨rfl,true,rfl,⟨fun h=>(nomatch h),fun h=>by omega⟩⟩) fun h3=>?_
  refine ld1K_i l2 ?_
  rw [gtK_i]
  refine ⟨rfl,_,rfl,?_⟩
  rw [decide_eq_false_iff_not]
  exact ⟨fun h=>by omega,fun h=>by omega⟩

theorem clone_key {S:Nat→Prop} {v:Value} {l:List DKey} {w:World} (h:RKeys S w v l) (hl:l.length≤1099511627776) :
  callK Tryz.prog 43 [v] (fun v' w'=>OwnR w.heap.size 84 6 RKey w' v' l∧Grow w w') w:=by
 apply S43_ok
 unfold S43
 exact clone_g (K:=fun v' w'=>OwnR w.heap.size 84 6 RKey w' v' l∧Grow w w') elem_key h (by omega) (fun _ _ _=>RKey.one) (fun _ _ _ _ _ _ h=>h) fun _ _ h g=>⟨h,g⟩

def cmpI (a b:Int):Int:=if a < b then -1 else if b < a then 1 else 0
theorem cmp_ok {a b:Int} {w:World}:callK Tryz.prog 47 [.int .i64 a,.int .i64 b] (fun v' w'=>v'=.int .i64 (cmpI a b)∧w'=w) w:=by
 have nan:∀ (c:Int) (K:Cont),K (.bool false) w→callK Tryz.prog 82 [.int .i64 c] K w:=by
  intro c K hK
  apply S82_ok
  unfold S82
  rw [neK_i]
  rw [show (!decide (c=c))=false by simp];exact hK
 apply S47_ok
 unfold S47
 refine nan _ _ (nan _ _ ?_)
 refine condK_f (condK_f ?_)
 rw [ltK_i]
 unfold cmpI
 refine condK_p (fun h=>⟨by rw [if_pos h],rfl⟩) fun h=>?_
 rw [gtK_i]
 exact condK_p (fun h2=>⟨by rw [if_neg h,if_pos h2],rfl⟩) fun h2=>⟨by rw [if_neg h,if_neg h2],rfl⟩

def SchR (D:Nat→Prop) (w:World) (v:Value) (ks:List DKey):Prop:=
 ∃ b m kv l,v=.pointer (some ⟨b,0,none⟩)∧D b∧D m∧w.cell? ⟨b,0,none⟩=some kv∧w.cell? ⟨b,1,none⟩=some (.map (some m))∧SlR D 6 RKey w kv ks∧MapI w m l∧
  ∀ id:Int,(l.find? fun p=>decide (p.1=id)).map (·.2)=(findK ks id).map fun k=>.agg k.cells.toArray
theorem SchR.mod {D M:Nat→Prop} {w w':World} {v:Value} {ks:List DKey} (h:SchR D w v ks) (hm:Mod M w w') (hd:∀ b,b < w.heap.size→D b→¬ M b):SchR D w' v ks:=by
 obtain ⟨b,m,kv,l,rfl,h1,h2,h3,h4,h5,h6,h7⟩:=h
 have hb:=World.block_lt_of_cell? w _ h3
 exact ⟨b,m,kv,l,rfl,h1,h2,hm.cell h3 (hd _ hb h1),hm.cell h4 (hd _ hb h1),h5.mod hm hd (by decide) fun _ _ h=>h,h6.mod hm (hd _ h6.lt h2),h7⟩
theorem SchR.grow {D:Nat→Prop} {w w':World} {v:Value} {ks:List DKey} (h:SchR D w v ks) (hm:Grow w w'):SchR D w' v ks:=h.mod hm fun _ _ _ h=>h
theorem SchR.sub {D D':Nat→Prop} {w:World} {v:Value} {ks:List DKey} (h:SchR D w v ks) (hd:∀ b,b < w.heap.size→D b→D' b):SchR D' w v ks:=by
 obtain ⟨b,m,kv,l,rfl,h1,h2,h3,h4,h5,h6,h7⟩:=h
 exact ⟨b,m,kv,l,rfl,hd _ (World.block_lt_of_cell? w _ h3) h1,hd _ h6.lt h2,h3,h4,h5.sub hd (by decide) fun _ _ h=>h,h6,h7⟩

theorem zero_key (w:World):(zeroValue 84).run Tryz.prog w=.ok (.agg DKey.zero.cells.toArray) w:=run_zeroValue (by kernel_rfl) w
theorem sfind_ok {D:Nat→Prop} {v:Value} {ks:List DKey} {w:World} (h:SchR D w v ks) (id:Int) :
  callK Tryz.prog 193 [v,.int .i64 id] (fun v' w'=>v'=.tuple #[.agg ((findK ks id).getD DKey.zero).cells.toArray,.bool (findK ks id).isSome]∧Grow w w') w:=by
 apply S193_ok
 unfold S193
 obtain ⟨b,m,kv,l,rfl,_,_,h3,h4,h5,h6,h7⟩:=h
 refine newz_i fun b4 w1 hb4 hz4 g4 _ hl4=>?_
 refine pnilK_s (condK_f (nilckK_s ?_))
 rw [faK_i]
 refine ld1K_i (g4.cell (by rw [addr0];exact h4) fun h=>h) ?_
 refine runK_i (map_lookup Tryz.underlying85 Tryz.underlying3 (zero_key _) (h6.mod g4 fun h=>h) id) ?_
 have e1:((l.find? fun p=>decide (p.1=id)).map (·.2)).getD (.agg DKey.zero.cells.toArray)=.agg ((findK ks id).getD DKey.zero).cells.toArray:=by
  rw [h7];cases findK ks id <;> rfl
 have e2:(l.find? fun p=>decide (p.1=id)).isSome=(findK ks id).isSome:=by
  have:=congrArg Option.isSome (h7 id)
  simpa using this
 rw [e1,e2]
 refine extK_i (vs:=[_,_]) (by rfl) (extK_i (vs:=[_,_]) (by rfl) ?_)
 generalize (findK ks id).getD DKey.zero=k
 refine newst_n (vs:=k.cells) rfl rfl (RKey.one (w:=w) (x:=k) rfl) fun b6 w3 hb6 hz6 g6 hc6 _=>?_
 refine ldnK_i (vs:=k.cells) rfl hc6 ?_
 refine stn_over rfl (RKey.one (w:=w) (x:=k) rfl) (fun j hj=>(hl4 j hj).mod g6 fun h=>h) fun w4 m4 hc4 _=>?_
 refine ldnK_i (vs:=k.cells) rfl hc4 ⟨rfl,?_⟩
 exact (g4.trans g6).next m4 fun x hx e=>by omega
end Go.Proofs.YtlbaopamhkmepaaGreatDoor
