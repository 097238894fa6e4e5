/- Specs on abstract heaps, part 0: what the operations do to values that are known. -/
import Derived.Test.YthhegdifbnghpaaGreatDoorQam
import Derived.Laws.Strings
import Derived.Test.YthhegdifbnghpaaGreatDoorQab
import Derived.Sort.MapsRangeIn
import Derived.RangeFuncGives
set_option linter.unusedSimpArgs false
set_option linter.unusedVariables false
namespace Go.Abs
open Go
abbrev ptr (b o:Nat):V:=.pointer (some ⟨b,o,none⟩)
abbrev nil:V:=.pointer none
abbrev str (s:ByteArray):V:=.string s
abbrev i64 (n:Int):V:=.int .i64 n
section
variable {h:aA}
@[simp] theorem aZ9 (K:V→Prop):kv none K=False:=aU7 K
@[simp] theorem bK (b o:Nat):aM (ptr b o)=some (ptr b o):=rfl
@[simp] theorem bE (b o n:Nat):aF (some n) (ptr b o)=some (ptr b (o+n)):=rfl
@[simp] theorem bU (vs:Array V) (i:Nat):bJ (.tuple vs) i=vs[i]?:=rfl
@[simp] theorem dE (b:Bool):aUn .not (.bool b)=some (.bool (!b)):=rfl
@[simp] theorem dA (p c:Bool) (b o:Nat):aC (.ptr p) .eql c (ptr b o) nil h=some (.bool false):=rfl
@[simp] theorem aC9 (p c:Bool) (b o:Nat):aC (.ptr p) .neq c (ptr b o) nil h=some (.bool true):=rfl
@[simp] theorem tX (p c:Bool):aC (.ptr p) .eql c nil nil h=some (.bool true):=rfl
@[simp] theorem aM3 (p c:Bool):aC (.ptr p) .neq c nil nil h=some (.bool false):=rfl
@[simp] theorem aMg (c:Bool) (b:Nat):aC .map .eql c (.map (some b)) (.map none) h=some (.bool false):=rfl
@[simp] theorem bAa (c:Bool):aC .map .eql c (.map none) (.map none) h=some (.bool true):=rfl
@[simp] theorem aQ (b w:Bool) (x:Option V):gdV (.bool b) w x=if b=w then x else some gone:=by cases b<;>cases w<;>rfl
@[simp] theorem dO (w:Bool) (x:Option V):gdV gone w x=some gone:=rfl
@[simp] theorem aS (b o:Nat):ldD .one (ptr b o) h=h.rd b o:=rfl
@[simp] theorem qK (n b o:Nat):ldD (.agg n) (ptr b o) h=(h.rdN b o n).map fun l=>.agg l.toArray:=rfl
@[simp] theorem qX (k c) (t:IntKind) (a b:Int):aC k .add c (.int t a) (.int t b) h=some (.int t (t.wrap (a+b))):=by simp[aC,eX]
@[simp] theorem xP (k c) (t:IntKind) (a b:Int):aC k .sub c (.int t a) (.int t b) h=some (.int t (t.wrap (a - b))):=by simp[aC,eX]
@[simp] theorem aZ0 (k c) (t:IntKind) (a b:Int):aC k .mul c (.int t a) (.int t b) h=some (.int t (t.wrap (a*b))):=by simp[aC,eX]
@[simp] theorem aZ1 (k c) (t:IntKind) (a b:Int):aC k .quo c (.int t a) (.int t b) h=if b=0 then none else some (.int t (t.wrap (a.tdiv b))):=by simp[aC,eX]
@[simp] theorem aZ2 (k c) (t:IntKind) (a b:Int):aC k .rem c (.int t a) (.int t b) h=if b=0 then none else some (.int t (a.tmod b)):=by simp[aC,eX]
@[simp] theorem dD (k c) (t:IntKind) (a b:Int):aC k .eql c (.int t a) (.int t b) h=some (.bool (a==b)):=by simp[aC,eX]
@[simp] theorem gK (k c) (t:IntKind) (a b:Int):aC k .neq c (.int t a) (.int t b) h=some (.bool (a != b)):=by simp[aC,eX]
@[simp] theorem cN (k c) (t:IntKind) (a b:Int):aC k .lss c (.int t a) (.int t b) h=some (.bool (decide (a<b))):=by simp[aC,eX]
@[simp] theorem pY (k c) (t:IntKind) (a b:Int):aC k .leq c (.int t a) (.int t b) h=some (.bool (decide (a≤b))):=by simp[aC,eX]
@[simp] theorem iK (k c) (t:IntKind) (a b:Int):aC k .gtr c (.int t a) (.int t b) h=some (.bool (decide (a > b))):=by simp[aC,eX]
@[simp] theorem fH (k c) (t:IntKind) (a b:Int):aC k .geq c (.int t a) (.int t b) h=some (.bool (decide (a≥b))):=by simp[aC,eX]
@[simp] theorem tE (k c) (op:BinOp) (a b:ByteArray):aC k op c (str a) (str b) h=qV op a b:=rfl
@[simp] theorem aRg (c) (a b:Bool):aC .bool .eql c (.bool a) (.bool b) h=some (.bool (a==b)):=rfl
@[simp] theorem aZz (c) (a b:Bool):aC .bool .neq c (.bool a) (.bool b) h=some (.bool (!(a==b))):=rfl
@[simp] theorem max2 (t:IntKind) (a b:Int):gI true [.int t a,.int t b]=some (.int t (max a b)):=by
 simp only[gI,tC,if_true]
 congr 2
 split<;>omega
@[simp] theorem min2 (t:IntKind) (a b:Int):gI false [.int t a,.int t b]=some (.int t (min a b)):=by
 simp only[gI,tC,if_true,Bool.false_eq_true,if_false]
 congr 2
 split<;>omega
theorem aH {b:Nat} {cs:List V} {e:Nat} {k:BK} (hb:h.get b=some (.cells cs e k)) (o:Nat):h.rd b o=cs[o]?:=by simp[aA.rd,hb]
theorem kG {b:Nat} {cs:List V} {e:Nat} {k:BK} (hb:h.get b=some (.cells cs e k)) (o n:Nat):h.rdN b o n=if o+n≤cs.length then some ((cs.drop o).take n) else none:=by simp[aA.rdN,hb]
@[simp] theorem wJ (b:Nat) (o:cH) (x:Nat):(h.put b o).get x=if x=b then some o else h.get x:=rfl
@[simp] theorem aN1 (b:Nat) (o:cH):(h.put b o).next=h.next:=rfl
@[simp] theorem aMy (o:cH) (x:Nat):(h.new o).get x=if x=h.next then some o else h.get x:=rfl
@[simp] theorem rF (o:cH):(h.new o).next=h.next+1:=rfl
@[simp] theorem aZ7 (b x:Nat):(h.kill b).get x=if x=b then none else h.get x:=rfl
@[simp] theorem aZ8 (b:Nat):(h.kill b).next=h.next:=rfl
end
/-! ### What of a heap may have changed -/
structure Mod (h:aA) (fp:List Nat) (h':aA) (fp':List Nat):Prop where
 next:h.next≤h'.next
 same:∀x,x<h.next→x∉fp→h'.get x=h.get x
 new:∀x∈fp',x∈fp∨h.next≤x
 lt:∀x∈fp',x<h'.next
theorem Mod.refl {h:aA} {fp:List Nat} (hl:∀x∈fp,x<h.next):Mod h fp h fp:=⟨Nat.le_refl _,fun _ _ _=>rfl,fun _ h=>.inl h,hl⟩
theorem Mod.trans {h h1 h2:aA} {a b c:List Nat} (x:Mod h a h1 b) (y:Mod h1 b h2 c):Mod h a h2 c:=
 ⟨Nat.le_trans x.next y.next,fun k hk hn=>(y.same k (Nat.lt_of_lt_of_le hk x.next) fun hb=>by rcases x.new k hb with h | h;exact hn h;omega).trans (x.same k hk hn),
  fun k hk=>by rcases y.new k hk with h | h;exact x.new k h;exact .inr (Nat.le_trans x.next h),y.lt⟩
structure En where
 k:ByteArray
 v:V
 b:Nat
def ME (e:En):MapEntry:={ key:=.string e.k,val:=e.v,born:=e.b }
def bD (k:ByteArray):List En→Option V
 | []=>none
 | e::l=>if e.k=k then some e.v else bD k l
def cM (k:ByteArray) (v:V) (c:Nat):List En→List En
 | []=>[⟨k,v,c⟩]
 | e::l=>if e.k=k then ⟨k,v,e.b⟩::l else e::cM k v c l
def eS (k:ByteArray):List En→List En
 | []=>[]
 | e::l=>if e.k=k then l else e::eS k l
def gO (k:ByteArray):List En→Option Nat
 | []=>none
 | e::l=>if e.k=k then some 0 else (gO k l).map (·+ 1)
theorem aFh (a b:ByteArray):(a==b)=decide (a=b):=by
 obtain⟨a⟩:=a
 obtain⟨b⟩:=b
 have e:((⟨a⟩:ByteArray)==⟨b⟩)=(a==b):=rfl
 rw[e]
 by_cases h:a=b
 ·subst h;simp
 ·have:¬((⟨a⟩:ByteArray)=⟨b⟩):=fun hh=>h (by cases hh;rfl)
  simp[h,this]
instance:LawfulBEq ByteArray where
 eq_of_beq {a b} h:=by rw[aFh]at h;exact of_decide_eq_true h
 rfl {a}:=by rw[aFh];simp
theorem aUr (a b:ByteArray):sN .string (.string a) (.string b)=some (decide (a=b)):=by
 show some (a==b)=_
 rw[aFh]
theorem aBj (k:ByteArray):∀(l:List En) (i:Nat),findD .string (.string k) (l.map ME) i=some (match gO k l,bD k l with | some j,some v=>some (i+j,v) | _,_=>none)
 | [],i=>rfl
 | e::l,i=>by
  have hk:sN .string (.string k) (ME e).key=some (decide (k=e.k)):=aUr _ _
  have hc:bS (ME e).key=true:=rfl
  simp only[List.map_cons,findD,hk,hc,if_true,gO,bD]
  by_cases hk:k=e.k
  ·have hk':e.k=k:=hk.symm
   simp only[decide_eq_true hk,if_pos hk']
   rfl
  ·have hk':¬e.k=k:=fun h=>hk h.symm
   simp only[decide_eq_false hk,if_neg hk',aBj k l (i+1)]
   cases gO k l<;>cases bD k l<;>simp<;>omega
theorem aBp (k:ByteArray):∀(l:List En),(gO k l).isSome=(bD k l).isSome
 | []=>rfl
 | e::l=>by
  simp only[gO,bD]
  split
  ·rfl
  ·simp[aBp k l]
@[simp] theorem aKy (k k':ByteArray) (v:V) (c:Nat):∀(l:List En),bD k (cM k' v c l)=if k'=k then some v else bD k l
 | []=>by simp[cM,bD]
 | e::l=>by
  simp only[cM]
  by_cases h:e.k=k'
  ·subst h
   simp only[if_true,bD]
   split<;>rfl
  ·simp only[if_neg h,bD,aKy k k' v c l]
   by_cases h2:e.k=k
   ·simp only[h2,if_true]
    have:¬k'=k:=fun h3=>h (h2.trans h3.symm)
    simp[this]
   ·simp[h2]
def bT (l:List En):List ByteArray:=l.map (·.k)
theorem get_none {k:ByteArray}:∀{l:List En},k∉bT l↔bD k l=none
 | []=>by simp[bT,bD]
 | e::l=>by
  have:=@get_none k l
  simp only[bT,List.map_cons,List.mem_cons,not_or,bD]at *
  by_cases h:e.k=k
  ·simp[h]
  ·simp only[if_neg h,←this]
   constructor
   ·exact fun h=>h.2
   ·exact fun h2=>⟨fun h3=>h h3.symm,h2⟩
theorem aLn (k:ByteArray) (v:V) (c:Nat):∀(l:List En),bT (cM k v c l)=if bD k l=none then bT l++[k] else bT l
 | []=>rfl
 | e::l=>by
  simp only[cM,bD]
  by_cases h:e.k=k
  ·simp[h,bT]
  ·simp only[if_neg h]
   have:=aLn k v c l
   simp only[bT,List.map_cons]at *
   rw[this]
   split<;>rfl
theorem aCk {k:ByteArray} {v:V} {c:Nat} {l:List En} (h:(bT l).Nodup):(bT (cM k v c l)).Nodup:=by
 rw[aLn]
 split
 ·rename_i hg
  have:=get_none.2 hg
  rw[List.nodup_append]
  refine⟨h,by simp,?_⟩
  intro a ha b hb
  simp at hb
  subst hb
  exact fun e=>this (e▸ha)
 ·exact h
theorem aGx (k:ByteArray):∀(l:List En),bT (eS k l)=(bT l).erase k
 | []=>rfl
 | e::l=>by
  simp only[eS,bT,List.map_cons,List.erase_cons]
  by_cases h:e.k=k
  ·simp[h]
  ·have:=aGx k l
   simp only[bT]at this
   simp[h,this]
theorem aKx {k k':ByteArray}:∀{l:List En},(bT l).Nodup→bD k (eS k' l)=if k'=k then none else bD k l
 | [],_=>by simp[eS,bD]
 | e::l,h=>by
  simp only[bT,List.map_cons,List.nodup_cons]at h
  simp only[eS]
  by_cases hk:e.k=k'
  ·subst hk
   simp only[if_true,bD]
   by_cases h2:e.k=k
   ·subst h2;simp only[if_true];exact get_none.1 h.1
   ·simp[h2]
  ·simp only[if_neg hk,bD]
   by_cases h2:e.k=k
   ·subst h2
    have:¬k'=e.k:=fun h3=>hk h3.symm
    simp[this]
   ·simp only[if_neg h2]
    exact aKx h.2
theorem aMp (k:ByteArray) (v:V) (c:Nat):∀(l:List En) (j:Nat),gO k l=some j→(l.map ME).modify j (fun e=>{ e with key:=.string k,val:=v })=(cM k v c l).map ME
 | [],j,h=>by simp[gO]at h
 | e::l,j,h=>by
  simp only[gO]at h
  simp only[cM]
  split at h
  ·rename_i hk
   cases h
   simp[hk,ME]
  ·rename_i hk
   obtain⟨i,hi,rfl⟩:=Option.map_eq_some_iff.1 h
   simp only[if_neg hk,List.map_cons,List.modify_succ_cons,aMp k v c l i hi]
theorem aKf (k:ByteArray):∀(l:List En) (j:Nat),gO k l=some j→(l.map ME).eraseIdx j=(eS k l).map ME
 | [],j,h=>by simp[gO]at h
 | e::l,j,h=>by
  simp only[gO]at h
  simp only[eS]
  split at h
  ·rename_i hk
   cases h
   simp[hk]
  ·rename_i hk
   obtain⟨i,hi,rfl⟩:=Option.map_eq_some_iff.1 h
   simp only[if_neg hk,List.map_cons,List.eraseIdx_cons_succ,aKf k l i hi]
theorem aHm (k:ByteArray) (v:V) (c:Nat):∀(l:List En),bD k l=none→(cM k v c l)=l++[⟨k,v,c⟩]
 | [],_=>rfl
 | e::l,h=>by
  simp only[bD]at h
  split at h
  ·cases h
  ·rename_i hk;simp only[cM,if_neg hk,aHm k v c l h];rfl
theorem aF1 (k:ByteArray):∀(l:List En),bD k l=none→eS k l=l
 | [],_=>rfl
 | e::l,h=>by
  simp only[bD]at h
  split at h
  ·cases h
  ·rename_i hk;simp only[eS,if_neg hk,aF1 k l h]
theorem aK9 (k:ByteArray):∀(l:List En) (j:Nat),gO k l=some j→∃e,l[j]? = some e∧e.k=k
 | [],j,h=>by simp[gO]at h
 | e::l,j,h=>by
  simp only[gO]at h
  split at h
  ·rename_i hk;cases h;exact⟨e,rfl,hk⟩
  ·obtain⟨i,hi,rfl⟩:=Option.map_eq_some_iff.1 h
   obtain⟨e',h1,h2⟩:=aK9 k l i hi
   exact⟨e',by simpa using h1,h2⟩
section
variable {h:aA} {b clk:Nat} {l:List En} {z:V}
theorem aB0 (hb:h.get b=some (.map (l.map ME) clk)) (k:ByteArray) (ok:Bool) :
 bW (some (.string,some z)) (.map (some b)) (str k) ok h=some (if ok then .tuple #[(bD k l).getD z,.bool (bD k l).isSome] else (bD k l).getD z):=by
 have hi:=aBp k l
 simp only[bW,oF,if_true,hb,aBj]
 cases h1:gO k l with
 | none=>
  rw[h1]at hi
  have:bD k l=none:=by cases h2:bD k l<;>simp_all
  simp[this]
 | some j=>
  rw[h1]at hi
  cases h2:bD k l with
  | none=>simp[h2]at hi
  | some v=>simp
theorem aPg (hb:h.get b=some (.map (l.map ME) clk)) (k:ByteArray) (v:V) :
 cU (some (.string,some z)) (.map (some b)) (str k) v h=some (h.put b (.map ((cM k v clk l).map ME) (if bD k l=none then clk+1 else clk))):=by
 have hi:=aBp k l
 simp only[cU,oF,if_true,hb,aBj]
 cases h1:gO k l with
 | none=>
  rw[h1]at hi
  have:bD k l=none:=by cases h2:bD k l<;>simp_all
  simp[this,aHm k v clk l this,ME]
 | some j=>
  rw[h1]at hi
  cases h2:bD k l with
  | none=>simp[h2]at hi
  | some u=>
   obtain⟨e,he,hk⟩:=aK9 k l j h1
   have hs:((l.map ME)[j]?).any (fun e=>Instr.sameBits 10000 e.key (str k))=true:=by
    simp[he,ME,hk,Instr.sameBits]
   have:=aMp k v clk l j h1
   simp only[Nat.zero_add,hs,if_true,this]
   simp
theorem aS1 (hb:h.get b=some (.map (l.map ME) clk)) (k:ByteArray) :
 gL (some (.string,some z)) (.map (some b)) (str k) h=some (h.put b (.map ((eS k l).map ME) clk)):=by
 have hi:=aBp k l
 simp only[gL,oF,if_true,hb,aBj]
 cases h1:gO k l with
 | none=>
  rw[h1]at hi
  have:bD k l=none:=by cases h2:bD k l<;>simp_all
  simp[aF1 k l this]
 | some j=>
  rw[h1]at hi
  cases h2:bD k l with
  | none=>simp[h2]at hi
  | some u=>
   have:=aKf k l j h1
   simp[this]
end
end Go.Abs
namespace Go.Abs
open Go
structure KD (κ:Type) [DecidableEq κ] where
 kk:pA
 enc:κ→V
 ok:∀k,oF kk (enc k)=true
 eq:∀a b,sN kk (enc a) (enc b)=some (decide (a=b))
 closed:∀a,bS (enc a)=true
 bits:∀a,Instr.sameBits 10000 (enc a) (enc a)=true
structure Eg (κ:Type) where
 k:κ
 v:V
 b:Nat
section
variable {κ:Type} [DecidableEq κ] (D:KD κ)
def KD.me (e:Eg κ):MapEntry:={ key:=D.enc e.k,val:=e.v,born:=e.b }
def cC (k:κ):List (Eg κ)→Option V
 | []=>none
 | e::l=>if e.k=k then some e.v else cC k l
def mT (k:κ) (v:V) (c:Nat):List (Eg κ)→List (Eg κ)
 | []=>[⟨k,v,c⟩]
 | e::l=>if e.k=k then ⟨k,v,e.b⟩::l else e::mT k v c l
def lY (k:κ):List (Eg κ)→List (Eg κ)
 | []=>[]
 | e::l=>if e.k=k then l else e::lY k l
def gP (k:κ):List (Eg κ)→Option Nat
 | []=>none
 | e::l=>if e.k=k then some 0 else (gP k l).map (·+ 1)
theorem aBi (k:κ):∀(l:List (Eg κ)) (i:Nat),findD D.kk (D.enc k) (l.map D.me) i=some (match gP k l,cC k l with | some j,some v=>some (i+j,v) | _,_=>none)
 | [],i=>rfl
 | e::l,i=>by
  have hk:sN D.kk (D.enc k) (D.me e).key=some (decide (k=e.k)):=D.eq _ _
  have hc:bS (D.me e).key=true:=D.closed _
  simp only[List.map_cons,findD,hk,hc,if_true,gP,cC]
  by_cases hk:k=e.k
  ·have hk':e.k=k:=hk.symm
   simp only[decide_eq_true hk,if_pos hk']
   rfl
  ·have hk':¬e.k=k:=fun h=>hk h.symm
   simp only[decide_eq_false hk,if_neg hk',aBi k l (i+1)]
   cases gP k l<;>cases cC k l<;>simp<;>omega
theorem aBq (k:κ):∀(l:List (Eg κ)),(gP k l).isSome=(cC k l).isSome
 | []=>rfl
 | e::l=>by
  simp only[gP,cC]
  split
  ·rfl
  ·simp[aBq k l]
@[simp] theorem aT5 (k k':κ) (v:V) (c:Nat):∀(l:List (Eg κ)),cC k (mT k' v c l)=if k'=k then some v else cC k l
 | []=>by simp[mT,cC]
 | e::l=>by
  simp only[mT]
  by_cases h:e.k=k'
  ·subst h
   simp only[if_true,cC]
   split<;>rfl
  ·simp only[if_neg h,cC,aT5 k k' v c l]
   by_cases h2:e.k=k
   ·simp only[h2,if_true]
    have:¬k'=k:=fun h3=>h (h2.trans h3.symm)
    simp[this]
   ·simp[h2]
def iA (l:List (Eg κ)):List κ:=l.map (·.k)
theorem aGi {k:κ}:∀{l:List (Eg κ)},k∉iA l↔cC k l=none
 | []=>by simp[iA,cC]
 | e::l=>by
  have:=@aGi k l
  simp only[iA,List.map_cons,List.mem_cons,not_or,cC]at *
  by_cases h:e.k=k
  ·simp[h]
  ·simp only[if_neg h,←this]
   constructor
   ·exact fun h=>h.2
   ·exact fun h2=>⟨fun h3=>h h3.symm,h2⟩
theorem aT4 {k k':κ}:∀{l:List (Eg κ)},(iA l).Nodup→cC k (lY k' l)=if k'=k then none else cC k l
 | [],_=>by simp[lY,cC]
 | e::l,h=>by
  simp only[iA,List.map_cons,List.nodup_cons]at h
  simp only[lY]
  by_cases hk:e.k=k'
  ·subst hk
   simp only[if_true,cC]
   by_cases h2:e.k=k
   ·subst h2;simp only[if_true];exact aGi.1 h.1
   ·simp[h2]
  ·simp only[if_neg hk,cC]
   by_cases h2:e.k=k
   ·subst h2
    have:¬k'=e.k:=fun h3=>hk h3.symm
    simp[this]
   ·simp only[if_neg h2]
    exact aT4 h.2
theorem aKw {e:Eg κ}:∀{l:List (Eg κ)},(iA l).Nodup→e∈l→cC e.k l=some e.v
 | [],_,h=>by simp at h
 | a::l,hn,h=>by
  simp only[iA,List.map_cons,List.nodup_cons]at hn
  simp only[cC]
  rcases List.mem_cons.1 h with rfl | h
  ·simp
  ·have:a.k≠e.k:=fun he=>hn.1 (he▸List.mem_map.2 ⟨e,h,rfl⟩)
   rw[if_neg this]
   exact aKw hn.2 h
theorem aMo (k:κ) (v:V) (c:Nat):∀(l:List (Eg κ)) (j:Nat),gP k l=some j→(l.map D.me).modify j (fun e=>{ e with key:=D.enc k,val:=v })=(mT k v c l).map D.me
 | [],j,h=>by simp[gP]at h
 | e::l,j,h=>by
  simp only[gP]at h
  simp only[mT]
  split at h
  ·rename_i hk
   cases h
   simp[hk,KD.me]
  ·rename_i hk
   obtain⟨i,hi,rfl⟩:=Option.map_eq_some_iff.1 h
   simp only[if_neg hk,List.map_cons,List.modify_succ_cons,aMo k v c l i hi]
theorem aKe (k:κ):∀(l:List (Eg κ)) (j:Nat),gP k l=some j→(l.map D.me).eraseIdx j=(lY k l).map D.me
 | [],j,h=>by simp[gP]at h
 | e::l,j,h=>by
  simp only[gP]at h
  simp only[lY]
  split at h
  ·rename_i hk
   cases h
   simp[hk]
  ·rename_i hk
   obtain⟨i,hi,rfl⟩:=Option.map_eq_some_iff.1 h
   simp only[if_neg hk,List.map_cons,List.eraseIdx_cons_succ,aKe k l i hi]
theorem aHl (k:κ) (v:V) (c:Nat):∀(l:List (Eg κ)),cC k l=none→(mT k v c l)=l++[⟨k,v,c⟩]
 | [],_=>rfl
 | e::l,h=>by
  simp only[cC]at h
  split at h
  ·cases h
  ·rename_i hk;simp only[mT,if_neg hk,aHl k v c l h];rfl
theorem aFz (k:κ):∀(l:List (Eg κ)),cC k l=none→lY k l=l
 | [],_=>rfl
 | e::l,h=>by
  simp only[cC]at h
  split at h
  ·cases h
  ·rename_i hk;simp only[lY,if_neg hk,aFz k l h]
theorem aK7 (k:κ):∀(l:List (Eg κ)) (j:Nat),gP k l=some j→∃e,l[j]? = some e∧e.k=k
 | [],j,h=>by simp[gP]at h
 | e::l,j,h=>by
  simp only[gP]at h
  split at h
  ·rename_i hk;cases h;exact⟨e,rfl,hk⟩
  ·obtain⟨i,hi,rfl⟩:=Option.map_eq_some_iff.1 h
   obtain⟨e',h1,h2⟩:=aK7 k l i hi
   exact⟨e',by simpa using h1,h2⟩
variable {h:aA} {b clk:Nat} {l:List (Eg κ)} {z:V}
theorem aG3 (hb:h.get b=some (.map (l.map D.me) clk)) (k:κ) (ok:Bool) :
 bW (some (D.kk,some z)) (.map (some b)) (D.enc k) ok h=some (if ok then .tuple #[(cC k l).getD z,.bool (cC k l).isSome] else (cC k l).getD z):=by
 have hi:=aBq k l
 simp only[bW,D.ok,if_true,hb,aBi]
 cases h1:gP k l with
 | none=>
  rw[h1]at hi
  have:cC k l=none:=by cases h2:cC k l<;>simp_all
  simp[this]
 | some j=>
  rw[h1]at hi
  cases h2:cC k l with
  | none=>simp[h2]at hi
  | some v=>simp
theorem aZi (hb:h.get b=some (.map (l.map D.me) clk)) (k:κ) (v:V) :
 cU (some (D.kk,some z)) (.map (some b)) (D.enc k) v h=some (h.put b (.map ((mT k v clk l).map D.me) (if cC k l=none then clk+1 else clk))):=by
 have hi:=aBq k l
 simp only[cU,D.ok,if_true,hb,aBi]
 cases h1:gP k l with
 | none=>
  rw[h1]at hi
  have:cC k l=none:=by cases h2:cC k l<;>simp_all
  simp[this,aHl k v clk l this,KD.me]
 | some j=>
  rw[h1]at hi
  cases h2:cC k l with
  | none=>simp[h2]at hi
  | some u=>
   obtain⟨e,he,hk⟩:=aK7 k l j h1
   have hs:((l.map D.me)[j]?).any (fun e=>Instr.sameBits 10000 e.key (D.enc k))=true:=by
    simp[he,KD.me,hk,D.bits]
   have:=aMo D k v clk l j h1
   simp only[Nat.zero_add,hs,if_true,this]
   simp
theorem aS0 (hb:h.get b=some (.map (l.map D.me) clk)) (k:κ) :
 gL (some (D.kk,some z)) (.map (some b)) (D.enc k) h=some (h.put b (.map ((lY k l).map D.me) clk)):=by
 have hi:=aBq k l
 simp only[gL,D.ok,if_true,hb,aBi]
 cases h1:gP k l with
 | none=>
  rw[h1]at hi
  have:cC k l=none:=by cases h2:cC k l<;>simp_all
  simp[aFz k l this]
 | some j=>
  rw[h1]at hi
  cases h2:cC k l with
  | none=>simp[h2]at hi
  | some u=>
   have:=aKe D k l j h1
   simp[this]
end
/-! ### A transaction's name; a lock -/
structure IdM where
 client:Int
 seq:Int
 deriving DecidableEq,Inhabited
def IdM.agg (i:IdM):V:=.agg #[i64 i.client,i64 i.seq]
def cB (l:List IdM):List V:=l.flatMap fun i=>[i64 i.client,i64 i.seq]
theorem aTs (l:List IdM) (x:IdM):cB (l++[x])=cB l++[i64 x.client,i64 x.seq]:=by simp[cB]
theorem sJ (l:List IdM):(cB l).length=l.length*2:=by
 induction l with
 | nil=>rfl
 | cons a l ih=>
  simp only[cB,List.flatMap_cons,List.length_append,List.length_cons,List.length_nil]at ih ⊢
  omega
theorem aTr {l:List IdM}:∀v∈cB l,bS v=true:=by
 intro v hv
 obtain⟨i,_,hv⟩:=List.mem_flatMap.1 hv
 simp only[List.mem_cons,List.not_mem_nil,or_false]at hv
 rcases hv with rfl | rfl<;>rfl
structure bF where
 space:ByteArray
 key:ByteArray
 all:Bool
 deriving DecidableEq,Inhabited
def bF.agg (k:bF):V:=.agg #[str k.space,str k.key,.bool k.all]
def bM:KD IdM where
 kk:=.struct false [(0,.int),(1,.int)]
 enc:=IdM.agg
 ok:=fun k=>by simp[oF,IdM.agg,bS,iL]
 eq:=fun a b=>by
  obtain⟨a1,a2⟩:=a
  obtain⟨b1,b2⟩:=b
  simp only[sN,IdM.agg,Bool.false_eq_true,if_false]
  by_cases h1:a1=b1
  ·by_cases h2:a2=b2
   ·simp[h1,h2,fK,eqD]
   ·simp[h1,h2,fK,eqD]
  ·simp[h1,fK,eqD]
 closed:=fun a=>by simp[IdM.agg,bS,iL]
 bits:=fun a=>by simp[IdM.agg,Instr.sameBits]
theorem aJg (a:ByteArray):a.toList=a.data.toList:=by first | exact ByteArray.toList_eq a | exact Go.ByteArray.toList_eq a
theorem aJf {a b:ByteArray} (h:¬a=b):¬a.toList=b.toList:=by
 intro e
 rw[aJg,aJg]at e
 exact h (by cases a;cases b;exact congrArg ByteArray.mk (Array.ext' e))
def eJ:KD bF where
 kk:=.struct false [(0,.string),(1,.string),(2,.bool)]
 enc:=bF.agg
 ok:=fun k=>by simp[oF,bF.agg,bS,iL]
 eq:=fun a b=>by
  obtain⟨a1,a2,a3⟩:=a
  obtain⟨b1,b2,b3⟩:=b
  simp only[sN,bF.agg,Bool.false_eq_true,if_false]
  by_cases h1:a1=b1
  ·by_cases h2:a2=b2
   ·cases a3<;>cases b3<;>simp[h1,h2,fK,eqD]
   ·have:=aJf h2
    simp[h1,h2,fK,eqD,this]
  ·have:=aJf h1
   simp[h1,fK,eqD,this]
 closed:=fun a=>by simp[bF.agg,bS,iL]
 bits:=fun a=>by simp[bF.agg,Instr.sameBits]
end Go.Abs
namespace Go.Abs
open Go
structure Seen (es done:List MapEntry) (seen:Array Nat):Prop where
 sub:∀e∈done,e∈es
 nd:(done.map (·.born)).Nodup
 eq:seen=(done.map (·.born)).toArray
theorem Seen.nil (es:List MapEntry):Seen es [] #[]:=⟨by simp,by simp,rfl⟩
variable {es done:List MapEntry} {seen:Array Nat} {h:aA} {it m clk:Nat}
theorem Seen.push (s:Seen es done seen) {e:MapEntry} (he:e∈es) (hn:e.born∉seen):Seen es (done++[e]) (seen.push e.born):=by
 refine⟨fun x hx=>?_,?_,?_⟩
 ·rcases List.mem_append.1 hx with hx | hx
  ·exact s.sub x hx
  ·simp only[List.mem_singleton]at hx
   rw[hx];exact he
 ·rw[List.map_append,List.nodup_append]
  refine⟨s.nd,by simp,fun a ha b hb=>?_⟩
  simp only[List.map_cons,List.map_nil,List.mem_singleton]at hb
  rintro rfl
  apply hn
  rw[s.eq,←hb]
  simpa using ha
 ·rw[s.eq];simp
theorem born_inj (hn:(es.map (·.born)).Nodup) {a b:MapEntry} (ha:a∈es) (hb:b∈es) (e:a.born=b.born):a=b:=by
 induction es with
 | nil=>simp at ha
 | cons x l ih=>
  simp only[List.map_cons,List.nodup_cons]at hn
  rcases List.mem_cons.1 ha with rfl | ha'<;>rcases List.mem_cons.1 hb with rfl | hb'
  ·rfl
  ·exact absurd (List.mem_map.2 ⟨b,hb',e.symm⟩) hn.1
  ·exact absurd (List.mem_map.2 ⟨a,ha',e⟩) hn.1
  ·exact ih hn.2 ha' hb'
theorem rG {α β:Type} {f:α→β}:∀{l:List α},(l.map f).Nodup→l.Nodup
 | [],_=>by simp
 | a::l,h=>by
  simp only[List.map_cons,List.nodup_cons]at h ⊢
  exact⟨fun hm=>h.1 (List.mem_map.2 ⟨a,hm,rfl⟩),rG h.2⟩
theorem Seen.new (s:Seen es done seen) {e:MapEntry} (hn:e.born∉seen):e∉done:=fun hm=>hn (by rw[s.eq];simpa using ⟨e,hm,rfl⟩)
theorem Seen.lt (s:Seen es done seen) {e:MapEntry} (he:e∈es) (hn:e.born∉seen):done.length<es.length:=by
 have s':=s.push he hn
 have h1:(done++[e]).Nodup:=rG s'.nd
 have:=h1.length_le_of_subset (fun x hx=>s'.sub x hx)
 simp at this
 omega
theorem Seen.le (s:Seen es done seen):done.length≤es.length:=(rG s.nd).length_le_of_subset fun x hx=>s.sub x hx
theorem Seen.all (s:Seen es done seen) (hn:(es.map (·.born)).Nodup) (ha:∀e∈es,e.born∈seen):es.Perm done:=by
 refine (List.perm_ext_iff_of_nodup (rG hn) (rG s.nd)).2 fun e=>⟨fun he=>?_,s.sub e⟩
 have:=ha e he
 rw[s.eq]at this
 obtain⟨x,hx,hxe⟩:∃x∈done,x.born=e.born:=by simpa using this
 rw[←born_inj hn (s.sub x hx) he hxe]
 exact hx
theorem aWc (hb:∀e∈es,e.born<clk) (g1:h.get it=some (.miter (some m) clk seen clk)) (g2:h.get m=some (.map es clk)) {K:V→aA→Prop}
 (hK:∀e∈es,e.born∉seen→K (.tuple #[.bool true,e.key,e.val]) (h.put it (.miter (some m) clk (seen.push e.born) clk)))
 (hE:(∀e∈es,e.born∈seen)→K (.tuple #[.bool false]) h):dS (ptr it 0) false h K:=by
 have guard:(!seen.isEmpty&&!es.isEmpty&&es.all (·.born≥clk))=false:=by
  cases hg:es with
  | nil=>simp
  | cons a l=>
   have:=hb a (by simp[hg])
   have:¬a.born≥clk:=by omega
   simp[this]
 have old:∀l:List MapEntry,(∀e∈l,e.born<clk)→l.filter (·.born<clk)=l∧l.filter (·.born≥clk)=[]:=by
  intro l hl
  refine⟨List.filter_eq_self.2 fun e he=>by simpa using hl e he,List.filter_eq_nil_iff.2 fun e he=>?_⟩
  have:=hl e he
  simp;omega
 obtain⟨o1,o2⟩:=old (es.filter fun e=>!seen.contains e.born) fun e he=>hb e ((List.mem_filter.1 he).1)
 simp only[dS,g1,g2]
 refine⟨guard,fun c hc=>?_⟩
 simp only[pZ,o1,o2,List.append_nil]at hc
 rcases List.mem_append.1 hc with hc | hc
 ·split at hc
  ·rename_i hem
   simp only[List.mem_singleton]at hc
   subst hc
   refine hE fun e he=>?_
   rw[List.isEmpty_iff]at hem
   have:=List.filter_eq_nil_iff.1 hem e he
   simpa using this
  ·simp at hc
 ·obtain⟨e,he,rfl⟩:=List.mem_map.1 hc
  obtain⟨he1,he2⟩:=List.mem_filter.1 he
  exact hK e he1 (by simpa using he2)
theorem aS9 {e:MapEntry} (hn:(es.map (·.born)).Nodup) (he:e∈es) (g1:h.get it=some (.miter (some m) clk (seen.push e.born) clk)) (g2:h.get m=some (.map es clk)) :
 gV (ptr it 0) h=some (.tuple #[e.key,e.val]):=by
 obtain⟨e',hf⟩:∃e',es.find? (·.born==e.born)=some e':=by
  have:(es.find? (·.born==e.born)).isSome:=List.find?_isSome.2 ⟨e,he,by simp⟩
  exact Option.isSome_iff_exists.1 this
 have h1:e'∈es:=List.mem_of_find?_eq_some hf
 have h2:e'.born=e.born:=by simpa using List.find?_some hf
 obtain rfl:=born_inj hn h1 he h2
 simp only[gV,g1,g2,Array.back?_push,if_true,hf,Option.map_some]
end Go.Abs
namespace Go.Abs
open Go Go.RowKit
variable {P:Program} {W:World} {b r clk:Nat} {ces:Array MapEntry} {seen:Array Nat}
theorem aXm {t kt et:TypeId} (ht:P.underlying t=some (.map kt et)) (hm:W.heap[b]? = some (.map ces clk)) :
 (Instr.range t (.map (some b))).run P W = .ok (.pointer (some ⟨W.heap.size,0,none⟩)) (W.alloc (.mapIter (some b) clk #[] clk)):=by
 simp only[Instr.range,Sem.run_bind,bN ht,Result.andThen_ok,Sem.run_pure,kI hm (fun c e f he=>by cases he)]
 rfl
theorem aXl {t:TypeId} (hlt:∀e∈ces.toList,e.born<clk) (hm:W.heap[b]? = some (.map ces clk)) (hr:W.heap[r]? = some (.mapIter (some b) clk seen clk)) :
 ((∀e∈ces.toList,e.born∈seen)∧∃w0,w0.heap=W.heap∧w0.os=W.os∧w0.tape=W.tape∧w0.output=W.output∧(Instr.next (.pointer (some ⟨r,0,none⟩)) false t).run P W = .ok (.tuple #[.bool false]) w0) ∨
 ∃e∈ces.toList,e.born∉seen∧∃w1,(Instr.next (.pointer (some ⟨r,0,none⟩)) false t).run P W = .ok (.tuple #[.bool true,e.key,e.val]) w1∧W.grownBy w1 (some r)∧w1.heap.size=W.heap.size ∧
  w1.heap[r]? = some (.mapIter (some b) clk (seen.push e.born) clk):=by
 have hg:=kI (P:=P) hr (fun c e f he=>by cases he)
 have hgm:=kI (P:=P) hm (fun c e f he=>by cases he)
 have hc:(!seen.isEmpty&&!ces.isEmpty&&ces.all fun e=>decide (e.born≥clk))=false:=by
  cases hl:ces.toList with
  | nil=>
   have:ces.isEmpty=true:=by rw[←Array.isEmpty_toList,hl];rfl
   simp[this]
  | cons a l=>
   have h1:=hlt a (by simp[hl])
   have:(ces.all fun e=>decide (e.born≥clk))=false:=by
    rw[←Array.all_toList,hl]
    have:¬a.born≥clk:=by omega
    simp[this]
   simp[this]
 obtain⟨c',w',hrun,hw',hmem⟩:=aOl (P:=P) (w:=W) (es:=ces) (since:=clk) (seen:=seen)
 have split1:(Instr.next (.pointer (some ⟨r,0,none⟩)) false t).run P W=((match some c' with
  | some (some e)=>do setObj r (.mapIter (some b) clk (seen.push e.born) clk);pure (.tuple #[.bool true,e.key,e.val])
  | some none=>pure (.tuple #[.bool false])
  | none=>stuck "Next: no such candidate":Sem V).run P w'):=by
  simp only[Sem.run_bind,Sem.run_pure]at hrun
  simp only[Instr.next,Sem.run_bind,hg,Result.andThen_ok,hgm,hc,Bool.false_eq_true,if_false]
  revert hrun
  generalize (choose _).run P W=q
  intro hrun
  cases q with
  | halt x y=>simp at hrun
  | ok i w1=>
   simp only[Result.andThen_ok,Result.ok.injEq]at hrun ⊢
   obtain⟨hrun,rfl⟩:=hrun
   rw[hrun]
   rfl
 have hsame:w'.heap=W.heap∧w'.os=W.os∧w'.tape=W.tape∧w'.output=W.output:=by
  rcases hw' with rfl | rfl<;>exact⟨rfl,rfl,rfl,rfl⟩
 have old:∀l:List MapEntry,(∀e∈l,e.born<clk)→l.filter (·.born<clk)=l∧l.filter (·.born≥clk)=[]:=by
  intro l hl
  refine⟨List.filter_eq_self.2 fun e he=>by simpa using hl e he,List.filter_eq_nil_iff.2 fun e he=>?_⟩
  have:=hl e he
  simp;omega
 obtain⟨o1,o2⟩:=old (ces.toList.filter fun e=>!seen.contains e.born) fun e he=>hlt e ((List.mem_filter.1 he).1)
 simp only[pZ,o1,o2,List.append_nil]at hmem
 rcases List.mem_append.1 hmem with hc | hc
 ·left
  split at hc
  ·rename_i hem
   simp only[List.mem_singleton]at hc
   subst hc
   refine⟨fun e he=>?_,w',hsame.1,hsame.2.1,hsame.2.2.1,hsame.2.2.2,by rw[split1];rfl⟩
   rw[List.isEmpty_iff]at hem
   have:=List.filter_eq_nil_iff.1 hem e he
   simpa using this
  ·simp at hc
 ·right
  obtain⟨e,he,rfl⟩:=List.mem_map.1 hc
  obtain⟨he1,he2⟩:=List.mem_filter.1 he
  have hwb:w'.heap[r]? = some (.mapIter (some b) clk seen clk):=by rw[hsame.1];exact hr
  have hlt':r<w'.heap.size:=(Array.getElem?_eq_some_iff.1 hwb).1
  refine⟨e,he1,by simpa using he2,{ w' with heap:=w'.heap.setIfInBounds r (.mapIter (some b) clk (seen.push e.born) clk) },?_,⟨hsame.2.1,hsame.2.2.1,hsame.2.2.2,?_,fun k hk hkr=>?_⟩,?_,?_⟩
  ·rw[split1]
   simp only[Sem.run_bind,uI (P:=P) hwb (fun c e f he=>by cases he),Result.andThen_ok,Sem.run_pure]
  ·simp[hsame.1]
  ·have:r≠k:=fun e=>hkr (by rw[e])
   simp[Array.getElem?_setIfInBounds_ne this,hsame.1]
  ·simp[hsame.1]
  ·simp[hlt']
theorem aHn {e:MapEntry} (hn:(ces.toList.map (·.born)).Nodup) (he:e∈ces.toList) (hm:W.heap[b]? = some (.map ces clk)) (hr:W.heap[r]? = some (.mapIter (some b) clk (seen.push e.born) clk)) :
 (Instr.entry (.pointer (some ⟨r,0,none⟩))).run P W = .ok (.tuple #[e.key,e.val]) W:=by
 have hg:=kI (P:=P) hr (fun c e f he=>by cases he)
 have hgm:=kI (P:=P) hm (fun c e f he=>by cases he)
 have hf:ces.find? (·.born==e.born)=some e:=by
  rw[←Array.find?_toList]
  revert hn he
  generalize ces.toList=l
  intro hn he
  induction l with
  | nil=>simp at he
  | cons a l ih=>
   simp only[List.map_cons,List.nodup_cons]at hn
   rcases List.mem_cons.1 he with rfl | he'
   ·simp
   ·have:a.born≠e.born:=fun h=>hn.1 (List.mem_map.2 ⟨e,he',h.symm⟩)
    rw[List.find?_cons_of_neg (by simpa using this)]
    exact ih hn.2 he'
 simp[Instr.entry,hg,hgm,hf]
section
variable {F:Fence} {n:Nat} {ops:Array Oper} {rest:List Oper} {o:Oper} {a:Act} {Q:Exit→Act→World→Prop}
theorem aIa (hg:o.guard=none) (m:Operand) (t:TypeId) (hop:o.op=Op.range t m) (kt et:TypeId) (ht:P.underlying t=some (.map kt et)) (hm:a.eval m = .map (some b)) (hb:W.heap[b]? = some (.map ces clk))
 (hK:wpListIn F n P ops Q rest (a.put o.dst (.pointer (some ⟨W.heap.size,0,none⟩))) (W.alloc (.mapIter (some b) clk #[] clk))):wpListIn F n P ops Q (o::rest) a W:=by
 refine wpListIn_plain hg fun K' hK'=>?_
 unfold Oper.wpIn
 refine⟨by simp[Oper.about,hop],?_⟩
 rw[Oper.semAt_plain F _ _ (by rw[hop];intro c hc';cases hc')]
 simp[execOp,hop,hm,aXm (P:=P) ht hb,Result.andThen]
 exact hK' _ _ hK
theorem aH9 (hg:o.guard=none) (it:Operand) (hop:o.op=Op.next it false) (hit:a.eval it = .pointer (some ⟨r,0,none⟩)) (hlt:∀e∈ces.toList,e.born<clk)
 (hm:W.heap[b]? = some (.map ces clk)) (hr:W.heap[r]? = some (.mapIter (some b) clk seen clk))
 (hDone:(∀e∈ces.toList,e.born∈seen)→∀w0,W.grownBy w0 none→wpListIn F n P ops Q rest (a.put o.dst (.tuple #[.bool false])) w0)
 (hMore:∀e∈ces.toList,e.born∉seen→∀w1,W.grownBy w1 (some r)→w1.heap.size=W.heap.size→w1.heap[r]? = some (.mapIter (some b) clk (seen.push e.born) clk) →
  wpListIn F n P ops Q rest (a.put o.dst (.tuple #[.bool true,e.key,e.val])) w1):wpListIn F n P ops Q (o::rest) a W:=by
 refine wpListIn_plain hg fun K' hK'=>?_
 unfold Oper.wpIn
 refine⟨by simp[Oper.about,hop],?_⟩
 rw[Oper.semAt_plain F _ _ (by rw[hop];intro c hc';cases hc')]
 rcases aXl (P:=P) (t:=o.type) hlt hm hr with ⟨h0,w0,e1,e2,e3,e4,hrun⟩ | ⟨e,he,hne,w1,hrun,h1,h2,h3⟩
 ·simp[execOp,hop,hit,hrun,Result.andThen]
  exact hK' _ _ (hDone h0 w0 ⟨e2,e3,e4,by rw[e1];exact Nat.le_refl _,fun k _ _=>by rw[e1]⟩)
 ·simp[execOp,hop,hit,hrun,Result.andThen]
  exact hK' _ _ (hMore e he hne w1 h1 h2 h3)
end
end Go.Abs
namespace Go.Abs
open Go
/-! ### Heaps over heaps -/
abbrev kR:=List (Nat×Option cH)
def vU (g:Nat→Option cH):kR→Nat→Option cH
 | [],x=>g x
 | (k,o)::D,x=>cond (Nat.beq x k) o (vU g D x)
def toH (h:aA) (D:kR) (n:Nat):aA:=⟨vU h.get D,h.next+n⟩
theorem aLs {g:Nat→Option cH} {x:Nat} {o:cH}:∀{D:kR},vU g D x=some o→(x,some o)∈D∨((∀p∈D,p.1≠x)∧g x=some o)
 | [],h=>.inr ⟨by simp,h⟩
 | (k,o')::D,h=>by
  simp only[vU]at h
  cases e:Nat.beq x k with
  | true=>
   rw[e]at h
   have:=Nat.eq_of_beq_eq_true e
   subst this
   simp only[cond_true]at h
   subst h
   exact .inl (by simp)
  | false=>
   rw[e]at h
   simp only[cond_false]at h
   rcases aLs h with h1 | ⟨h1,h2⟩
   ·exact .inl (by simp[h1])
   ·refine .inr ⟨fun p hp=>?_,h2⟩
    rcases List.mem_cons.1 hp with rfl | hp
    ·rintro rfl
     rw[Nat.beq_refl]at e
     cases e
    ·exact h1 p hp
theorem aLt {g:Nat→Option cH} {x:Nat}:∀{D:kR},(∀p∈D,p.1≠x)→vU g D x=g x
 | [],_=>rfl
 | (k,o)::D,h=>by
  have hk:Nat.beq x k=false:=by
   cases e:Nat.beq x k with
   | false=>rfl
   | true=>exact absurd (Nat.eq_of_beq_eq_true e).symm (h (k,o) (by simp))
  simp only[vU,hk,cond_false]
  exact aLt fun p hp=>h p (by simp[hp])
/-! ### Other names -/
def zC (m:Nat→Option Nat):V→Option V
 | .bool b=>some (.bool b)
 | .int k n=>some (.int k n)
 | .string s=>some (.string s)
 | .pointer none=>some (.pointer none)
 | .pointer (some ⟨b,o,none⟩)=>(m b).map fun b'=>.pointer (some ⟨b',o,none⟩)
 | .slice none n c=>some (.slice none n c)
 | .slice (some ⟨b,o,none⟩) n c=>(m b).map fun b'=>.slice (some ⟨b',o,none⟩) n c
 | .map none=>some (.map none)
 | .map (some b)=>(m b).map fun b'=>.map (some b')
 | .nilFunc=>some .nilFunc
 | .nilIface=>some .nilIface
 | _=>none
def uG (m:Nat→Option Nat):List V→Option (List V)
 | []=>some []
 | v::l=>match zC m v,uG m l with
  | some v',some l'=>some (v'::l')
  | _,_=>none
def wL (m:Nat→Option Nat):V→Option V
 | .agg c=>(uG m c.toList).map fun l=>.agg l.toArray
 | .func fn f c=>match uG m f.toList,uG m c.toList with
  | some f',some c'=>some (.func fn f'.toArray c'.toArray)
  | _,_=>none
 | .iface t v=>(zC m v).map fun v'=>.iface t v'
 | v=>zC m v
def pP (m:Nat→Option Nat):List V→Option (List V)
 | []=>some []
 | v::l=>match wL m v,pP m l with
  | some v',some l'=>some (v'::l')
  | _,_=>none
def aHp (m:Nat→Option Nat):V→Option V
 | .tuple c=>(pP m c.toList).map fun l=>.tuple l.toArray
 | v=>wL m v
def zD (m:Nat→Option Nat):List MapEntry→Option (List MapEntry)
 | []=>some []
 | e::l=>match wL m e.key,wL m e.val,zD m l with
  | some k,some v,some l'=>some (⟨k,v,e.born⟩::l')
  | _,_,_=>none
def wM (m:Nat→Option Nat):cH→Option cH
 | .cells c e k=>(pP m c).map fun c'=>.cells c' e k
 | .map es clk=>(zD m es).map fun es'=>.map es' clk
 | .siter s p=>some (.siter s p)
 | .miter none a s l=>some (.miter none a s l)
 | .miter (some b) a s l=>(m b).map fun b'=>.miter (some b') a s l
set_option linter.unusedSectionVars false
section
variable {r r2:Ren} {m:Nat→Option Nat} (hm:∀b b' t,m b=some b'→r b=some t→r2 b'=some t)
include hm
theorem aHo {x y x':V} (h:zC m x=some y) (hv:VR r x x'):VR r2 y x':=by
 unfold zC at h
 split at h
 case h_5 b o=>
  obtain⟨b',hb,rfl⟩:=Option.map_eq_some_iff.1 h
  cases hv with
  | ptr h1=>exact .ptr (hm _ _ _ hb h1)
 case h_6 n c=>
  cases h
  cases hv with
  | sliceNil=>exact .sliceNil
  | sliceGone a c=>exact .sliceGone a c
 case h_7 b o n c=>
  obtain⟨b',hb,rfl⟩:=Option.map_eq_some_iff.1 h
  cases hv with
  | slice h1 h2 h3 h4=>exact .slice (hm _ _ _ hb h1) h2 h3 h4
 case h_9 b=>
  obtain⟨b',hb,rfl⟩:=Option.map_eq_some_iff.1 h
  cases hv with
  | map h1=>exact .map (hm _ _ _ hb h1)
 case h_12=>cases h
 all_goals
  cases h
  cases hv
  constructor
theorem aDl:∀{x y x':List V},uG m x=some y→VRl r x x'→VRl r2 y x'
 | [],y,x',h,hv=>by
  simp only[uG,Option.some.injEq]at h
  subst h
  have:x'=[]:=List.eq_nil_of_length_eq_zero hv.1.symm
  subst this
  exact VRl.nil _
 | v::l,y,x',h,hv=>by
  simp only[uG]at h
  split at h
  ·rename_i v' l' h1 h2
   cases h
   cases x' with
   | nil=>have:=hv.1;simp at this
   | cons a x'=>
    exact VRl.cons (aHo hm h1 (hv.2 0 (by simp) (by simp))) (aDl h2 ⟨by simpa using hv.1,fun i h3 h4=>hv.2 (i+1) (by simpa using h3) (by simpa using h4)⟩)
  ·cases h
theorem aDk {x y x':V} (h:wL m x=some y) (hv:VR r x x'):VR r2 y x':=by
 unfold wL at h
 split at h
 ·obtain⟨l,hl,rfl⟩:=Option.map_eq_some_iff.1 h
  cases hv with
  | agg h1 h2=>
   have:=aDl hm hl (VRa.toList ⟨h1,h2⟩)
   exact VRl.agg this
 ·split at h
  ·rename_i f' c' h1 h2
   cases h
   cases hv with
   | func _ a1 a2 a3 a4=>
    have b1:=(aDl hm h1 (VRa.toList ⟨a1,a2⟩)).toArray
    have b2:=(aDl hm h2 (VRa.toList ⟨a3,a4⟩)).toArray
    exact .func _ b1.1 b1.2 b2.1 b2.2
  ·cases h
 ·obtain⟨v',h1,rfl⟩:=Option.map_eq_some_iff.1 h
  cases hv with
  | iface _ h2=>exact .iface _ (aHo hm h1 h2)
 ·exact aHo hm h hv
theorem aHq:∀{x y x':List V},pP m x=some y→VRl r x x'→VRl r2 y x'
 | [],y,x',h,hv=>by
  simp only[pP,Option.some.injEq]at h
  subst h
  have:x'=[]:=List.eq_nil_of_length_eq_zero hv.1.symm
  subst this
  exact VRl.nil _
 | v::l,y,x',h,hv=>by
  simp only[pP]at h
  split at h
  ·rename_i v' l' h1 h2
   cases h
   cases x' with
   | nil=>have:=hv.1;simp at this
   | cons a x'=>
    exact VRl.cons (aDk hm h1 (hv.2 0 (by simp) (by simp))) (aHq h2 ⟨by simpa using hv.1,fun i h3 h4=>hv.2 (i+1) (by simpa using h3) (by simpa using h4)⟩)
  ·cases h
theorem aXq {x y x':V} (h:aHp m x=some y) (hv:VR r x x'):VR r2 y x':=by
 unfold aHp at h
 split at h
 ·rename_i c
  obtain⟨l,hl,rfl⟩:=Option.map_eq_some_iff.1 h
  cases hv with
  | bY v=>
   have:l=[]:=by
    have:pP m []=some l:=hl
    simpa[pP]using this.symm
   subst this
   exact .bY _
  | tuple h1 h2=>
   have:=(aHq hm hl (VRa.toList ⟨h1,h2⟩)).toArray
   exact .tuple this.1 this.2
 ·exact aDk hm h hv
theorem aOa:∀{x y x':List MapEntry},zD m x=some y→VRe r x x'→VRe r2 y x'
 | [],y,x',h,hv=>by
  simp only[zD,Option.some.injEq]at h
  subst h
  exact⟨hv.1,fun i h=>by simp at h⟩
 | e::l,y,x',h,hv=>by
  simp only[zD]at h
  split at h
  ·rename_i k v l' h1 h2 h3
   cases h
   cases x' with
   | nil=>have:=hv.1;simp at this
   | cons a x'=>
    obtain⟨a1,a2,a3⟩:=hv.2 0 (by simp) (by simp)
    have ht:=aOa h3 hv.tail
    refine⟨by simp[ht.1],fun i h4 h5=>?_⟩
    cases i with
    | zero=>exact⟨aDk hm h1 a1,aDk hm h2 a2,a3⟩
    | succ i=>exact ht.2 i (by simpa using h4) (by simpa using h5)
  ·cases h
theorem aOb:∀{x y:List V},pP m x=some y→y.length=x.length
 | [],y,h=>by simp only[pP,Option.some.injEq]at h;rw[←h]
 | v::l,y,h=>by
  simp only[pP]at h
  split at h
  ·rename_i v' l' h1 h2
   cases h
   simp[aOb h2]
  ·cases h
theorem aXs {B:Nat} {w:World} {t:Tgt} {o o':cH} (h:wM m o=some o') (hO:OR B r w t o):OR B r2 w t o':=by
 unfold wM at h
 split at h
 ·rename_i c e k
  obtain⟨c',hc,rfl⟩:=Option.map_eq_some_iff.1 h
  obtain⟨h0,⟨cc,el,fr,h1,h2,h3,h4,h5⟩,h6⟩:=hO
  have hl:=aOb hm hc
  refine⟨h0,⟨cc,el,fr,h1,h2,by omega,fun i hi hi'=>?_,h5⟩,h6⟩
  have hv:VRl r c ((cc.toList.drop t.sh).take c.length):=⟨by simp;omega,fun j a b=>by simpa[Nat.add_comm]using h4 j a (by omega)⟩
  have:=(aHq hm hc hv).2 i hi (by simp;omega)
  simpa[Nat.add_comm]using this
 ·rename_i es clk
  obtain⟨es',hc,rfl⟩:=Option.map_eq_some_iff.1 h
  obtain⟨h0,ces,h1,h2,h3⟩:=hO
  have hv:VRe r es ces.toList:=⟨by simpa using h2,fun i a b=>by simpa using h3 i a (by simpa using b)⟩
  have hv':=aOa hm hc hv
  exact⟨h0,ces,h1,by simpa using hv'.1,fun i a b=>by have:=hv'.2 i a (by simpa using b);simpa only[Array.getElem_toList]using this⟩
 ·cases h;exact hO
 ·cases h;exact hO
 ·rename_i b a s l
  obtain⟨b',hb,rfl⟩:=Option.map_eq_some_iff.1 h
  obtain⟨h0,tm,h1,h2⟩:=hO
  exact⟨h0,tm,hm _ _ _ hb h1,h2⟩
end
theorem aXr {m:Nat→Option Nat} {o o':cH} (h:wM m o=some o'):(o.tR↔o'.tR):=by
 unfold wM at h
 split at h
 ·obtain⟨c',_,rfl⟩:=Option.map_eq_some_iff.1 h
  constructor
  ·rintro⟨c,e,he⟩;cases he;exact⟨_,_,rfl⟩
  ·rintro⟨c,e,he⟩;cases he;exact⟨_,_,rfl⟩
 ·obtain⟨c',_,rfl⟩:=Option.map_eq_some_iff.1 h
  constructor<;>(rintro⟨c,e,he⟩;cases he)
 ·cases h;rfl
 ·cases h;rfl
 ·obtain⟨b',_,rfl⟩:=Option.map_eq_some_iff.1 h
  constructor<;>(rintro⟨c,e,he⟩;cases he)
theorem VR.under {r0 r r2:Ren} (hu:∀b t,r0 b=some t→∀t',r b=some t'→r2 b=some t') {x x0:V} (h0:VR r0 x x0):∀{x':V},VR r x x'→VR r2 x x':=by
 induction h0 with
 | bY v=>intro x' h;exact .bY _
 | gone=>intro x' h;cases h;exact .gone
 | bool b=>intro x' h;cases h;exact .bool b
 | int k n=>intro x' h;cases h;exact .int k n
 | float k n=>intro x' h;cases h;exact .float k n
 | string s=>intro x' h;cases h;exact .string s
 | ptrNil=>intro x' h;cases h;exact .ptrNil
 | ptr h1=>intro x' h;cases h with | ptr h2=>exact .ptr (hu _ _ h1 _ h2)
 | sliceNil=>intro x' h;cases h;exact .sliceNil
 | slice h1 _ _ _=>intro x' h;cases h with | slice h2 a b c=>exact .slice (hu _ _ h1 _ h2) a b c
 | sliceGone a c=>intro x' h;cases h with | sliceGone a c=>exact .sliceGone a c
 | mapNil=>intro x' h;cases h;exact .mapNil
 | map h1=>intro x' h;cases h with | map h2=>exact .map (hu _ _ h1 _ h2)
 | nilFunc=>intro x' h;cases h;exact .nilFunc
 | func fn a1 _ a3 _ i1 i2=>
  intro x' h
  cases h with
  | func _ b1 b2 b3 b4=>exact .func fn b1 (fun i h1 h2=>i1 i h1 (by omega) (b2 i h1 h2)) b3 fun i h1 h2=>i2 i h1 (by omega) (b4 i h1 h2)
 | iface t _ ih=>intro x' h;cases h with | iface _ h2=>exact .iface t (ih h2)
 | nilIface=>intro x' h;cases h;exact .nilIface
 | agg hc _ ih=>intro x' h;cases h with | agg b1 b2=>exact .agg b1 fun i h1 h2=>ih i h1 (by omega) (b2 i h1 h2)
 | tuple hc _ ih=>
  intro x' h
  cases h with
  | bY v=>exact .bY _
  | tuple b1 b2=>exact .tuple b1 fun i h1 h2=>ih i h1 (by omega) (b2 i h1 h2)
theorem OR.under {r0 r r2:Ren} (hu:∀b t,r0 b=some t→∀t',r b=some t'→r2 b=some t') {B B0:Nat} {w w0:World} {t t0:Tgt} {o:cH} (h0:OR B0 r0 w0 t0 o) (h:OR B r w t o):OR B r2 w t o:=by
 cases o with
 | cells c e k=>
  obtain⟨_,⟨cc0,_,_,_,_,z3,z4,_⟩,_⟩:=h0
  obtain⟨a0,⟨cc,el,fr,a1,a2,a3,a4,a5⟩,a6⟩:=h
  exact⟨a0,⟨cc,el,fr,a1,a2,a3,fun i hi hi'=>(z4 i hi (by omega)).under hu (a4 i hi hi'),a5⟩,a6⟩
 | map es clk=>
  obtain⟨_,ces0,_,z2,z3⟩:=h0
  obtain⟨a0,ces,a1,a2,a3⟩:=h
  exact⟨a0,ces,a1,a2,fun i hi hi'=>⟨(z3 i hi (by omega)).1.under hu (a3 i hi hi').1,(z3 i hi (by omega)).2.1.under hu (a3 i hi hi').2.1,(a3 i hi hi').2.2⟩⟩
 | siter s p=>exact h
 | miter m a s l=>
  cases m with
  | none=>exact h
  | some m=>
   obtain⟨_,tm0,z1,_⟩:=h0
   obtain⟨a0,tm,a1,a2⟩:=h
   exact⟨a0,tm,hu _ _ z1 _ a1,a2⟩
end Go.Abs
namespace Go.Abs
open Go
def mL (b:Nat):List Nat→Bool
 | []=>false
 | a::l=>cond (Nat.beq b a) true (mL b l)
theorem yR {b:Nat}:∀{l:List Nat},mL b l=true↔b∈l
 | []=>by simp[mL]
 | a::l=>by
  simp only[mL]
  cases e:Nat.beq b a with
  | true=>simp[Nat.eq_of_beq_eq_true e]
  | false=>
   have:b≠a:=fun h=>by rw[h,Nat.beq_refl]at e;cases e
   simp[yR (l:=l),this]
def eH:V→List Nat
 | .pointer (some ⟨b,_,_⟩)=>[b]
 | .slice (some ⟨b,_,_⟩) _ _=>[b]
 | .map (some b)=>[b]
 | _=>[]
def aAf:List V→List Nat
 | []=>[]
 | v::l=>eH v++aAf l
def aAe:V→List Nat
 | .agg c=>aAf c.toList
 | .func _ f c=>aAf f.toList++aAf c.toList
 | .iface _ v=>eH v
 | v=>eH v
def aFl:List V→List Nat
 | []=>[]
 | v::l=>aAe v++aFl l
def aRi:V→List Nat
 | .tuple c=>aFl c.toList
 | v=>aAe v
def aJi:List MapEntry→List Nat
 | []=>[]
 | e::l=>aAe e.key++(aAe e.val++aJi l)
def aJj:cH→List Nat
 | .cells c _ _=>aFl c
 | .map es _=>aJi es
 | .siter _ _=>[]
 | .miter (some m) _ _ _=>[m]
 | .miter none _ _ _=>[]
def rJ (h:aA) (base:Nat):Nat→List Nat→List Nat→Option (List Nat)
 | _,[],acc=>some acc
 | 0,_::_,_=>none
 | k+1,b::l,acc=>
  cond (Nat.blt b base) (rJ h base k l acc) (cond (mL b acc) (rJ h base k l acc)
   (match h.get b with
   | some o=>rJ h base k (aJj o++l) (b::acc)
   | none=>rJ h base k l (b::acc)))
theorem zB {h:aA} {base:Nat}:∀{k:Nat} {l acc L:List Nat},rJ h base k l acc=some L→acc.Nodup→(∀b∈acc,base≤b)→L.Nodup∧∀b∈L,base≤b
 | k,[],acc,L,h,hn,hb=>by
  have:acc=L:=by cases k<;>simpa[rJ]using h
  subst this
  exact⟨hn,hb⟩
 | 0,_::_,_,_,h,_,_=>by simp[rJ]at h
 | k+1,b::l,acc,L,h,hn,hb=>by
  simp only[rJ]at h
  cases e1:Nat.blt b base with
  | true=>rw[e1]at h;exact zB h hn hb
  | false=>
   rw[e1]at h
   simp only[cond_false]at h
   cases e2:mL b acc with
   | true=>rw[e2]at h;exact zB h hn hb
   | false=>
    rw[e2]at h
    simp only[cond_false]at h
    have hnb:b∉acc:=fun hm=>by rw[yR.2 hm]at e2;cases e2
    have hle:base≤b:=by
     have:¬Nat.blt b base=true:=by rw[e1];simp
     unfold Nat.blt at this
     rw[Nat.ble_eq]at this
     omega
    have hn':(b::acc).Nodup:=List.nodup_cons.2 ⟨hnb,hn⟩
    have hb':∀x∈b::acc,base≤x:=fun x hx=>by
     rcases List.mem_cons.1 hx with rfl | hx
     ·exact hle
     ·exact hb x hx
    split at h
    ·exact zB h hn' hb'
    ·exact zB h hn' hb'
def yK:List Nat→Nat→Nat→Option Nat
 | [],_,_=>none
 | a::l,b,i=>cond (Nat.beq a b) (some i) (yK l b (i+1))
theorem aK8 {b:Nat}:∀{l:List Nat} {i j:Nat},yK l b i=some j→i≤j∧l[j - i]? = some b
 | [],_,_,h=>by simp[yK]at h
 | a::l,i,j,h=>by
  simp only[yK]at h
  cases e:Nat.beq a b with
  | true=>
   rw[e]at h
   simp only[cond_true,Option.some.injEq]at h
   subst h
   simp[Nat.eq_of_beq_eq_true e]
  | false=>
   rw[e]at h
   obtain⟨h1,h2⟩:=aK8 (l:=l) (i:=i+1) (by simpa using h)
   refine⟨by omega,?_⟩
   rw[show j - i=(j - (i+1))+1 by omega,List.getElem?_cons_succ,h2]
def yT (base:Nat) (L:List Nat) (b:Nat):Option Nat:=cond (Nat.blt b base) (some b) (yK L b base)
def iE (base:Nat) (L:List Nat) (x:Nat):Option Nat:=if x<base then some x else L[x - base]?
theorem xQ {a b:Nat}:Nat.blt a b=true↔a<b:=by
 unfold Nat.blt
 rw[Nat.ble_eq]
 exact Iff.rfl
theorem aV4 {base:Nat} {L:List Nat} {b x:Nat} (h:yT base L b=some x):iE base L x=some b:=by
 unfold yT at h
 cases e:Nat.blt b base with
 | true=>
  rw[e]at h
  simp only[cond_true,Option.some.injEq]at h
  subst h
  have:=xQ.1 e
  simp[iE,this]
 | false=>
  rw[e]at h
  obtain⟨h1,h2⟩:=aK8 (by simpa using h)
  simp[iE,show ¬x<base by omega,h2]
def yO (m:Nat→Option Nat) (h:aA):List (Nat×Nat)→Option kR
 | []=>some []
 | (b,x)::l=>
  match h.get b,yO m h l with
  | none,some D=>some ((x,none)::D)
  | some o,some D=>(match wM m o with
   | some o'=>some ((x,some o')::D)
   | none=>none)
  | _,none=>none
theorem aGy {m:Nat→Option Nat} {h:aA}:∀{ps:List (Nat×Nat)} {D:kR},yO m h ps=some D →
 D.map (·.1)=ps.map (·.2)∧∀x o,(x,some o)∈D→∃b o0,(b,x)∈ps∧h.get b=some o0∧wM m o0=some o
 | [],D,hD=>by
  simp only[yO,Option.some.injEq]at hD
  subst hD
  exact⟨rfl,fun x o hx=>by simp at hx⟩
 | (b,x)::l,D,hD=>by
  simp only[yO]at hD
  split at hD
  ·rename_i D' hb hl
   cases hD
   obtain⟨h1,h2⟩:=aGy hl
   refine⟨by simp[h1],fun y o hy=>?_⟩
   rcases List.mem_cons.1 hy with hy | hy
   ·cases hy
   ·obtain⟨b',o0,a1,a2,a3⟩:=h2 y o hy
    exact⟨b',o0,by simp[a1],a2,a3⟩
  ·rename_i o D' hb hl
   split at hD
   ·rename_i o' ho
    cases hD
    obtain⟨h1,h2⟩:=aGy hl
    refine⟨by simp[h1],fun y o1 hy=>?_⟩
    rcases List.mem_cons.1 hy with hy | hy
    ·cases hy
     exact⟨b,o,by simp,hb,ho⟩
    ·obtain⟨b',o0,a1,a2,a3⟩:=h2 y o1 hy
     exact⟨b',o0,by simp[a1],a2,a3⟩
   ·cases hD
  ·cases hD
def zM:List Nat→Nat→List (Nat×Nat)
 | [],_=>[]
 | a::l,i=>(a,i)::zM l (i+1)
theorem aPl {b x:Nat}:∀{l:List Nat} {i:Nat},(b,x)∈zM l i↔i≤x∧l[x - i]? = some b
 | [],i=>by simp[zM]
 | a::l,i=>by
  simp only[zM,List.mem_cons,aPl (l:=l),Prod.mk.injEq]
  constructor
  ·rintro (⟨rfl,rfl⟩ | ⟨h1,h2⟩)
   ·simp
   ·refine⟨by omega,?_⟩
    rw[show x - i=(x - (i+1))+1 by omega,List.getElem?_cons_succ,h2]
  ·rintro⟨h1,h2⟩
   by_cases hx:x=i
   ·subst hx
    simp at h2
    exact .inl ⟨h2.symm,rfl⟩
   ·right
    refine⟨by omega,?_⟩
    rw[show x - i=(x - (i+1))+1 by omega,List.getElem?_cons_succ]at h2
    exact h2
abbrev Nd:=V×kR×Nat
def aOi (h:aA):List Nat→List Nat
 | []=>[]
 | b::l=>(match h.get b with | some o=>aJj o | none=>[])++aOi h l
def sU (base:Nat) (d:List Nat) (v:V) (h:aA):Option Nd:=
 match rJ h base 100000 (aRi v++aOi h d) []with
 | none=>none
 | some L=>
  match aHp (yT base L) v,yO (yT base L) h (d.map (fun b=>(b,b))++zM L base) with
  | some v2,some D=>some (v2,D,L.length)
  | _,_=>none
variable {J:World→Prop} {B:Nat}
theorem aWg {r0 r:Ren} {h0 h:aA} {w0 w:World} (hR0:R J B r0 h0 w0) (hR:R J B r h w) (hE:Ext r0 h0 w0 r h w) {d:List Nat} (hdb:∀b∈d,b<h0.next)
 (hd:∀b,b<h0.next→b∉d→h.get b=h0.get b) {v v':V} (hv:VR r v v') {v2:V} {D:kR} {n:Nat} (hn:sU h0.next d v h=some (v2,D,n)) :
 ∃r2,R J B r2 (toH h0 D n) w∧Ext r0 h0 w0 r2 (toH h0 D n) w∧VR r2 v2 v':=by
 unfold sU at hn
 split at hn
 ·cases hn
 rename_i L hL
 split at hn
 case h_2=>cases hn
 rename_i v2' D' hv2 hD
 simp only[Option.some.injEq,Prod.mk.injEq]at hn
 obtain⟨rfl,rfl,rfl⟩:=hn
 obtain⟨hnd,hge⟩:=zB hL (by simp) (by simp)
 obtain⟨hk,hmem⟩:=aGy hD
 let base:=h0.next
 let r2:Ren:=fun x=>(iE base L x).bind r
 have hm:∀b b' t,yT base L b=some b'→r b=some t→r2 b'=some t:=fun b b' t h1 h2=>by
  show (iE base L b').bind r=some t
  rw[aV4 h1]
  exact h2
 have hr0:∀b t,r0 b=some t→b<base:=fun b t h=>(hR0.lt b t h).2
 have hr2:∀b,b<base→r2 b=r b:=fun b hb=>by show (iE base L b).bind r=r b;simp[iE,hb]
 have key:∀x o,(toH h0 D' L.length).get x=some o→∃b o0,iE base L x=some b∧h.get b=some o0∧(∀t,r b=some t→OR B r w t o0→OR B r2 w t o)∧(o0.tR↔o.tR):=by
  intro x o hx
  rcases aLs hx with h1 | ⟨h1,h2⟩
  ·obtain⟨b,o0,a1,a2,a3⟩:=hmem x o h1
   refine⟨b,o0,?_,a2,fun t ht hO=>aXs hm a3 hO,aXr a3⟩
   rcases List.mem_append.1 a1 with a1 | a1
   ·obtain⟨b',hb',e⟩:=List.mem_map.1 a1
    simp only[Prod.mk.injEq]at e
    obtain⟨rfl,rfl⟩:=e
    have:=hdb _ hb'
    show (if b'<base then some b' else _)=_
    rw[if_pos this]
   ·obtain⟨c1,c2⟩:=aPl.1 a1
    show (if x<base then some x else L[x - base]?)=some b
    rw[if_neg (show ¬x<base from Nat.not_lt.2 c1),c2]
  ·obtain⟨t0,ht0,hO0⟩:=hR0.live x o h2
   have hxb:=hr0 x t0 ht0
   have hxd:x∉d:=fun hm'=>by
    have:x∈D'.map (·.1):=by
     rw[hk]
     exact List.mem_map.2 ⟨(x,x),List.mem_append.2 (.inl (List.mem_map.2 ⟨x,hm',rfl⟩)),rfl⟩
    obtain⟨p,hp,e⟩:=List.mem_map.1 this
    exact h1 p hp e
   refine⟨x,o,?_,(hd x hxb hxd).trans h2,fun t ht hO=>?_,Iff.rfl⟩
   ·show (if x<base then some x else _)=_
    rw[if_pos hxb]
   ·exact OR.under (fun b t0 h3 t' h4=>by rw[hr2 b (hr0 b t0 h3)];exact h4) hO0 hO
 have hinj:∀x x' b,iE base L x=some b→iE base L x'=some b→x=x':=by
  intro x x' b h1 h2
  unfold iE at h1 h2
  have big:∀{i:Nat},L[i]? = some b→base≤b:=fun h=>hge b (List.mem_of_getElem? h)
  split at h1<;>split at h2
  ·simp only[Option.some.injEq]at h1 h2;omega
  ·have:=big h2;simp only[Option.some.injEq]at h1;omega
  ·have:=big h1;simp only[Option.some.injEq]at h2;omega
  ·have e1:=List.getElem?_eq_some_iff.1 h1
   have e2:=List.getElem?_eq_some_iff.1 h2
   have:=(List.getElem_inj hnd).1 (e1.2.trans e2.2.symm)
   omega
 refine⟨r2,⟨hR.base,fun x t hx=>?_,fun x o hx=>?_,fun x x' o o' t t' hx hx' ht ht' e=>?_,hR.inv⟩,⟨fun b t hb=>?_,Nat.le_add_right _ _,hE.os,hE.tape,hE.output,hE.size,hE.block,fun k hk2 hf=>?_⟩,aXq hm hv2 hv⟩
 ·obtain⟨b,hb,hrb⟩:=Option.bind_eq_some_iff.1 (show (iE base L x).bind r=some t from hx)
  refine⟨(hR.lt b t hrb).1,?_⟩
  show x<base+L.length
  unfold iE at hb
  split at hb
  ·omega
  ·have:=(List.getElem?_eq_some_iff.1 hb).1;omega
 ·obtain⟨b,o0,a1,a2,a3,_⟩:=key x o hx
  obtain⟨t,ht,hO⟩:=hR.live b o0 a2
  exact⟨t,by show (iE base L x).bind r=some t;rw[a1];exact ht,a3 t ht hO⟩
 ·obtain⟨b,o0,a1,a2,_,a4⟩:=key x o hx
  obtain⟨b',o0',a1',a2',_,a4'⟩:=key x' o' hx'
  have ht:r b=some t:=by have:(iE base L x).bind r=some t:=ht;rwa [a1]at this
  have ht':r b'=some t':=by have:(iE base L x').bind r=some t':=ht';rwa [a1']at this
  rcases hR.inj b b' o0 o0' t t' a2 a2' ht ht' e with rfl | ⟨c1,c2⟩
  ·exact .inl (hinj x x' b a1 a1')
  ·exact .inr ⟨a4.1 c1,a4'.1 c2⟩
 ·rw[hr2 b (hr0 b t hb)]
  exact hE.ren b t hb
 ·obtain⟨x,t,⟨o,ho,hw⟩,hx,rfl⟩:=hf
  obtain⟨b,o0,a1,a2,_,a4⟩:=key x o ho
  have hb:r b=some t:=by have:(iE base L x).bind r=some t:=hx;rwa [a1]at this
  refine hE.feet _ hk2 ⟨b,t,⟨o0,a2,fun c e he=>?_⟩,hb,rfl⟩
  obtain⟨c',e',he'⟩:=a4.1 ⟨c,e,he⟩
  exact hw c' e' he'
end Go.Abs
namespace Go.Abs
open Go
def hdB:List V→List Nat
 | x::_=>eH x
 | []=>[]
def wR (o:Op) (e:Nat→V):List Nat:=
 match o with
 | .store _ a _=>eH (aEv e a)
 | .insert _ m _ _=>eH (aEv e m)
 | .mapUpdate _ m _ _=>eH (aEv e m)
 | .convert _ _ x=>eH (aEv e x)
 | .call c=>hdB (fM e c.args)
 | _=>[]
structure Fr2 (h h':aA) (bs:List Nat):Prop where
 next:h.next≤h'.next
 same:∀b,b<h.next→b∉bs→h'.get b=h.get b
variable {h h':aA} {bs:List Nat} {b:Nat}
theorem Fr2.refl:Fr2 h h bs:=⟨Nat.le_refl _,fun _ _ _=>rfl⟩
theorem Fr2.new (o:cH):Fr2 h (h.new o) bs:=
 ⟨by simp[aA.new],fun b hb _=>by
  have:b≠h.next:=by omega
  simp[aA.new,this]⟩
theorem Fr2.put (o:cH) (hb:b∈bs):Fr2 h (h.put b o) bs:=
 ⟨by simp[aA.put],fun x hx hn=>by
  have:x≠b:=fun e=>hn (e▸hb)
  simp[aA.put,this]⟩
theorem Fr2.aU6 (o:cH) (hb:b∈bs):Fr2 h ((h.kill b).new o) bs:=
 ⟨by simp[aA.new,aA.kill],fun x hx hn=>by
  have h1:x≠b:=fun e=>hn (e▸hb)
  have h2:x≠h.next:=by omega
  simp[aA.new,aA.kill,h1,h2]⟩
theorem Fr2.wr {o:Nat} {vs:List V} (hw:h.wr b o vs=some h') (hb:b∈bs):Fr2 h h' bs:=by
 unfold aA.wr at hw
 split at hw
 ·split at hw
  ·cases hw;exact Fr2.put _ hb
  ·cases hw
 ·cases hw
theorem aMw {e:Option Nat} {v x:V} (hn:aY e v h=some (x,h')):Fr2 h h' bs:=by
 unfold aY at hn
 split at hn
 ·cases hn;exact Fr2.new _
 ·cases hn
theorem aRl {k:Option (Nat×List V)} {n:Nat} {ps:List (Nat×V)} {x:V} (hn:dN k n ps h=some (x,h')):Fr2 h h' bs:=by
 unfold dN at hn
 split at hn
 ·split at hn
  ·obtain⟨l,_,e⟩:=Option.map_eq_some_iff.1 hn
   cases e
   exact Fr2.new _
  ·cases hn
 ·cases hn
theorem aVr {k:Option (Nat×Nat×List V)} {l c x:V} (hn:aB2 k l c h=some (x,h')):Fr2 h h' bs:=by
 unfold aB2 at hn
 split at hn
 ·split at hn
  ·cases hn;exact Fr2.new _
  ·cases hn
 ·cases hn
theorem aXj {k:RgK} {x y:V} (hn:gS k x h=some (y,h')):Fr2 h h' bs:=by
 unfold gS at hn
 split at hn
 ·cases hn;exact Fr2.new _
 ·cases hn;exact Fr2.new _
 ·split at hn
  ·cases hn;exact Fr2.new _
  ·cases hn
 ·cases hn
theorem aMe {m:Option (pA×Option V)} {x k v:V} (hn:cU m x k v h=some h'):Fr2 h h' (eH x):=by
 unfold cU at hn
 split at hn
 ·split at hn
  ·split at hn
   ·rename_i b
    have hb:b∈eH (.map (some b)):=by simp[eH]
    split at hn
    ·split at hn
     ·split at hn
      ·cases hn;exact Fr2.put _ hb
      ·cases hn
     ·cases hn;exact Fr2.put _ hb
     ·cases hn
    ·cases hn
   ·cases hn
  ·cases hn
 ·cases hn
theorem aSz {m:Option (pA×Option V)} {x k:V} (hn:gL m x k h=some h'):Fr2 h h' (eH x):=by
 unfold gL at hn
 split at hn
 ·split at hn
  ·split at hn
   ·cases hn;exact Fr2.refl
   ·rename_i b
    have hb:b∈eH (.map (some b)):=by simp[eH]
    split at hn
    ·split at hn
     ·cases hn;exact Fr2.put _ hb
     ·cases hn;exact Fr2.put _ hb
     ·cases hn
    ·cases hn
   ·cases hn
  ·cases hn
 ·cases hn
theorem aSn {k:zQ} {x y:V} (hn:eQ k x h=some (y,h')):Fr2 h h' (eH x):=by
 unfold eQ at hn
 split at hn
 ·split at hn
  ·cases hn;exact Fr2.refl
  ·cases hn
 ·split at hn
  ·cases hn;exact Fr2.refl
  ·cases hn
 ·obtain⟨l,_,e⟩:=Option.map_eq_some_iff.1 hn
  cases e
  exact Fr2.refl
 ·split at hn
  ·cases hn;exact Fr2.new _
  ·cases hn
 ·unfold xK at hn
  split at hn
  ·split at hn
   ·cases hn
    exact Fr2.put _ (by simp[eH])
   ·cases hn
  ·cases hn
 ·cases hn
theorem aQ0 {k:Option (Nat×Nat×List V)} {s x y:V} (hn:dU k s x h=some (y,h')):Fr2 h h' (eH s):=by
 unfold dU at hn
 split at hn
 ·split at hn
  ·split at hn
   ·split at hn
    ·cases hn;exact Fr2.refl
    ·split at hn
     ·obtain⟨l,_,e⟩:=Option.map_eq_some_iff.1 hn
      cases e
      exact Fr2.new _
     ·cases hn
   ·rename_i b o m c
    have hb:b∈eH (.slice (some ⟨b,o,none⟩) m c):=by simp[eH]
    split at hn
    ·cases hn;exact Fr2.refl
    ·split at hn
     ·split at hn
      ·split at hn
       ·obtain⟨l,hl,e⟩:=Option.map_eq_some_iff.1 hn
        cases e
        exact Fr2.wr hl hb
       ·cases hn
      ·cases hn
     ·split at hn
      ·split at hn
       ·split at hn
        ·cases hn;exact Fr2.new _
        ·split at hn
         ·split at hn
          ·cases hn;exact Fr2.aU6 _ hb
          ·cases hn
         ·cases hn
       ·cases hn
      ·cases hn
   ·cases hn
  ·cases hn
 ·cases hn
theorem aSq {k:Option Nat} {d s y:V} (hn:aAk k d s h=some (y,h')):Fr2 h h' (eH d):=by
 unfold aAk at hn
 split at hn
 ·cases hn;exact Fr2.refl
 ·split at hn
  ·split at hn
   ·dsimp only at hn
    split at hn
    ·obtain⟨l,hl,e⟩:=Option.map_eq_some_iff.1 hn
     cases e
     exact Fr2.wr hl (by simp[eH])
    ·cases hn
   ·cases hn
  ·cases hn
 ·cases hn
theorem aR1 {k:Option (Option (List V))} {x:V} (hn:qC k x h=some h'):Fr2 h h' (eH x):=by
 unfold qC at hn
 split at hn
 ·split at hn
  ·split at hn
   ·cases hn;exact Fr2.refl
   ·cases hn
  ·cases hn;exact Fr2.refl
  ·split at hn
   ·split at hn
    ·exact Fr2.wr hn (by simp[eH])
    ·cases hn
   ·cases hn
  ·cases hn
 ·cases hn
theorem aRq {P:Program} {b:Builtin} {ts:Array TypeId} {args:List V} {v:V} (hn:lT P b ts args h=some (v,h')):Fr2 h h' (hdB args):=by
 unfold lT at hn
 split at hn
 ·rename_i s x
  have hn:uQ P ts s x h=some (v,h'):=hn
  rw[aIu]at hn;exact aQ0 hn
 ·rename_i d s
  have hn:uS P ts d s h=some (v,h'):=hn
  rw[aIy]at hn;exact aSq hn
 ·obtain⟨l,_,e⟩:=Option.map_eq_some_iff.1 hn
  cases e;exact Fr2.refl
 ·obtain⟨l,hl,e⟩:=Option.map_eq_some_iff.1 hn
  cases e
  obtain⟨t,_,ht⟩:=Option.bind_eq_some_iff.1 hl
  rw[aIz]at ht
  exact aSz ht
 ·obtain⟨l,hl,e⟩:=Option.map_eq_some_iff.1 hn
  cases e
  rw[aIw]at hl
  exact aR1 hl
 ·obtain⟨l,_,e⟩:=Option.map_eq_some_iff.1 hn
  cases e;exact Fr2.refl
 ·obtain⟨l,_,e⟩:=Option.map_eq_some_iff.1 hn
  cases e;exact Fr2.refl
 ·cases hn
theorem aQp {P:Program} {o:Op} {e:Nat→V} {v:V} (hn:aOp P o e h=some (v,h')):Fr2 h h' (wR o e):=by
 have pure:∀{α:Type} {x:Option α} {f:α→V},(x.map fun a=>(f a,h))=some (v,h')→Fr2 h h' (wR o e):=fun hx=>by
  obtain⟨l,_,e⟩:=Option.map_eq_some_iff.1 hx
  cases e;exact Fr2.refl
 cases o
 case move=>cases hn;exact Fr2.refl
 case assign=>cases hn;exact Fr2.refl
 case pick c a b=>
  simp only[aOp]at hn
  split at hn
  ·cases hn;exact Fr2.refl
  ·cases hn
 case alloc t=>
  simp only[aOp]at hn
  obtain⟨z,_,hz⟩:=Option.bind_eq_some_iff.1 hn
  rw[zZ]at hz
  exact aMw hz
 case box t x=>
  simp only[aOp,zZ]at hn
  exact aMw hn
 case buildSlice t n ps=>
  simp only[aOp,aIv]at hn
  exact aRl hn
 case insert t m k x=>
  simp only[aOp,zY]at hn
  obtain⟨l,hl,e⟩:=Option.map_eq_some_iff.1 hn
  cases e
  exact aMe hl
 case mapUpdate t m k x=>
  simp only[aOp,zY]at hn
  obtain⟨l,hl,e⟩:=Option.map_eq_some_iff.1 hn
  cases e
  exact aMe hl
 case store t a x=>
  simp only[aOp,aI7]at hn
  obtain⟨l,hl,e'⟩:=Option.map_eq_some_iff.1 hn
  cases e'
  unfold stD at hl
  split at hl
  ·rename_i b o he
   split at hl
   ·split at hl
    ·refine Fr2.wr hl ?_
     simp[wR,he,eH]
    ·cases hl
   ·cases hl
  ·cases hl
 case convert s d x=>
  simp only[aOp,aIx]at hn
  exact aSn hn
 case makeInterface t x=>
  simp only[aOp]at hn
  split at hn
  ·cases hn
  ·cases hn;exact Fr2.refl
  ·cases hn
 case makeFunc=>cases hn;exact Fr2.refl
 case makeMap t r=>
  simp only[aOp]at hn
  split at hn
  ·cases hn;exact Fr2.new _
  ·split at hn
   ·cases hn;exact Fr2.new _
   ·cases hn
  ·cases hn
 case makeSlice t l c=>
  simp only[aOp,aI4]at hn
  exact aVr hn
 case range t x=>
  simp only[aOp,aI6]at hn
  exact aXj hn
 case call c=>
  simp only[aOp]at hn
  split at hn
  ·exact aRq hn
  ·cases hn
 case build=>exact pure hn
 case load=>exact pure hn
 case nilCheck=>exact pure hn
 case binOp=>exact pure hn
 case unOp=>exact pure hn
 case slice=>exact pure hn
 case fieldAddr=>exact pure hn
 case field=>exact pure hn
 case indexAddr=>exact pure hn
 case index=>exact pure hn
 case lookup=>exact pure hn
 case entry=>exact pure hn
 case typeAssert=>exact pure hn
 case extract=>exact pure hn
 all_goals cases hn
end Go.Abs
