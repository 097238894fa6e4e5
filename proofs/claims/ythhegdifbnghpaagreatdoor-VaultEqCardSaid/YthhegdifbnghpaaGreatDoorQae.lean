/- Our own abstract machine, part 16: the other operations over what they need to know of types; the evaluator over them. -/
import Derived.Test.YthhegdifbnghpaaGreatDoorQad
set_option linter.unusedSimpArgs false
set_option linter.unusedVariables false
namespace Go.Abs
open Go
def aC (k:EqK) (op:BinOp) (c:Bool) (x y:V) (h:aA):Option V:=
 match x,y with
 | .int k a,.int k' b=>
  match op with
  | .shl=>uW .shl k a b
  | .shr=>uW .shr k a b
  | op=>if k=k' then eX op k a b else none
 | .string a,.string b=>qV op a b
 | x,y=>
  match op with
  | .eql=>(eqD k c x y h).map .bool
  | .neq=>(eqD k c x y h).map fun b=>.bool (!b)
  | _=>none
theorem aQd (P:Program) (op:BinOp) (t:TypeId) (c:Bool) (x y:V) (h:aA):wX P op t c x y h=aC (eqK P t) op c x y h:=by
 unfold wX aC
 simp only[aQg]
 rfl
inductive zQ where
 | int (k:IntKind)
 | str
 | toStr
 | toBytes
 | mark
 | bad
def vE (P:Program) (s d:TypeId):zQ:=
 match P.underlying s,P.underlying d with
 | some (.int _),some (.int k)=>.int k
 | some .string,some .string=>.str
 | some (.slice e),some .string=>(match P.underlying e with | some (.int .u8)=>.toStr | _=>.bad)
 | some .string,some (.slice e)=>(match P.underlying e with | some (.int .u8)=>.toBytes | _=>.bad)
 | some (.slice _),some (.slice e)=>(match P.underlying e with | some (.int .u8)=>if s=d then .mark else .bad | _=>.bad)
 | _,_=>.bad
def eQ (k:zQ) (x:V) (h:aA):Option (V×aA):=
 match k with
 | .int k=>(match x with | .int _ n=>some (.int k (k.wrap n),h) | _=>none)
 | .str=>(match x with | .string b=>some (.string b,h) | _=>none)
 | .toStr=>((jB 1 x h).bind bytesOf).map fun l=>(.string ⟨l.toArray⟩,h)
 | .toBytes=>(match x with
  | .string b=>some (.slice (some ⟨h.next,0,none⟩) b.size (2*b.size+1),h.new (.cells (b.data.toList.map fun x=>.int .u8 x.toNat) 1 .str))
  | _=>none)
 | .mark=>xK x h
 | .bad=>none
theorem aIx (P:Program) (s d:TypeId) (x:V) (h:aA):xB P s d x h=eQ (vE P s d) x h:=by
 unfold xB vE
 generalize P.underlying s=us
 generalize P.underlying d=ud
 cases us with
 | none=>rfl
 | some u=>
  cases ud with
  | none=>cases u<;>first | rfl | (cases x<;>rfl)
  | some v=>
   cases u
   case slice e=>
    cases v
    case string=>
     simp only
     generalize P.underlying e=q
     cases q with
     | none=>rfl
     | some q=>
      cases q
      case int k=>cases k<;>rfl
      all_goals rfl
    case slice e'=>
     simp only
     generalize P.underlying e'=q
     cases q with
     | none=>rfl
     | some q=>
      cases q
      case int k=>cases k<;>first | rfl | (simp only;split<;>rfl)
      all_goals rfl
    all_goals first | rfl | (cases x<;>rfl)
   case string=>
    cases v
    case slice e=>
     cases x
     case string b=>
      simp only
      generalize P.underlying e=q
      cases q with
      | none=>rfl
      | some q=>
       cases q
       case int k=>cases k<;>rfl
       all_goals rfl
     all_goals
      simp only
      generalize P.underlying e=q
      cases q with
      | none=>rfl
      | some q=>
       cases q
       case int k=>cases k<;>rfl
       all_goals rfl
    all_goals first | rfl | (cases x<;>rfl)
   all_goals (cases v<;>first | rfl | (cases x<;>rfl))
inductive SlK where
 | str
 | slice (size:Nat)
 | bad
def slK (P:Program) (t:TypeId):SlK:=
 match P.underlying t with
 | some .string=>.str
 | some (.slice e)=>(match szT P e with | some n=>.slice n | none=>.bad)
 | _=>.bad
def cK (k:SlK) (x:V) (lo hi mx:Option V) (h:aA):Option V:=
 match k,x with
 | .str,.string s=>
  match mx,cD hi s.size s.size with
  | none,some u=>(cD lo u 0).map fun l=>.string (s.extract l u)
  | _,_=>none
 | .slice _,.slice none 0 0=>
  match mx,hi with
  | none,hi=>
   match cD hi 0 0,cD lo 0 0 with
   | some _,some _=>some (.slice none 0 0)
   | _,_=>none
  | some m,some u=>
   match dL m 0,dL u 0,cD lo 0 0 with
   | some _,some _,some _=>some (.slice none 0 0)
   | _,_,_=>none
  | _,_=>none
 | .slice _,.slice none 0 1=>
  match mx,cD hi 0 0,cD lo 0 0 with
  | none,some _,some _=>some (.slice none 0 1)
  | _,_,_=>none
 | .slice size,.slice (some ⟨b,o,none⟩) n c=>
  match h.get b with
  | some (.cells _ esz _)=>
   if size=esz then
    match mx with
    | none=>
     match cD hi (c / 2) n with
     | some u=>
      match cD lo u 0 with
      | some l=>
       if l=0 then some (.slice (some ⟨b,o,none⟩) u c)
       else if l<c / 2 then some (.slice (some ⟨b,o+l*size,none⟩) (u - l) (c - 2*l))
       else if c % 2=0 then some (.slice (some ⟨b,o,none⟩) (u - l) 0)
       else some (.slice none 0 1)
      | none=>none
     | none=>none
    | some m=>
     match dL m (c / 2),hi with
     | some m,some u=>
      match dL u m with
      | some u=>
       match cD lo u 0 with
       | some l=>some (.slice (some ⟨b,if m=l then o else o+l*size,none⟩) (u - l) (2*(m - l)))
       | none=>none
      | none=>none
     | _,_=>none
   else none
  | _=>none
 | _,_=>none
theorem aQr (P:Program) (t:TypeId) (x:V) (lo hi mx:Option V) (h:aA):xM P t x lo hi mx h=cK (slK P t) x lo hi mx h:=by
 unfold xM slK
 generalize P.underlying t=u
 cases u with
 | none=>rfl
 | some d=>
  cases d
  case slice e=>
   cases x with
   | slice a n c=>
    cases a with
    | none=>
     cases n with
     | zero=>
      cases c with
      | zero=>
       simp only
       generalize szT P e=m
       cases m with
       | none=>rfl
       | some m=>cases mx<;>cases hi<;>rfl
      | succ c=>
       cases c with
       | zero=>
        simp only
        generalize szT P e=m
        cases m with
        | none=>rfl
        | some m=>cases mx<;>simp only[cK]<;>cases cD hi 0 0<;>cases cD lo 0 0<;>rfl
       | succ c=>simp only;cases szT P e<;>rfl
     | succ n=>simp only;cases szT P e<;>rfl
    | some a=>
     obtain⟨b,o,sp⟩:=a
     cases sp with
     | none=>
      simp only
      generalize szT P e=m
      cases m with
      | none=>rfl
      | some m=>
       simp only[cK]
       generalize h.get b=q
       cases q with
       | none=>rfl
       | some q=>cases q<;>rfl
     | some s=>simp only;cases szT P e<;>rfl
   | _=>simp only;cases szT P e<;>rfl
  case string=>cases x<;>rfl
  all_goals rfl
def aF (off:Option Nat) (x:V):Option V:=
 match x,off with
 | .pointer (some ⟨b,o,none⟩),some off=>some (.pointer (some ⟨b,o+off,none⟩))
 | _,_=>none
def aC5 (l:Lay) (cs:Array V) (off:Nat):Option V:=
 match l with
 | .agg n=>some (.agg (cs.extract off (off+n)))
 | .one=>cs[off]?
 | .bad=>none
theorem aI5 (P:Program) (t:TypeId) (cs:Array V) (off:Nat):uV P t cs off=aC5 (oG P t) cs off:=by
 unfold uV aC5 oG
 cases jK P t with
 | none=>rfl
 | some b=>cases b<;>cases szT P t<;>rfl
def aBf (P:Program) (t:TypeId) (i:Nat):Option (Lay×Nat):=
 match P.underlying t with
 | some (.struct fs)=>(fs[i]?).map fun f=>(oG P f.type,f.offset)
 | _=>none
def aF8 (k:Option (Lay×Nat)) (x:V):Option V:=
 match k,x with
 | some (l,off),.agg cs=>aC5 l cs off
 | _,_=>none
theorem aQh (P:Program) (t:TypeId) (x:V) (i:Nat):xE P t x i=aF8 (aBf P t i) x:=by
 unfold xE aBf
 rcases P.underlying t with _ | d
 ·rfl
 ·cases d
  case struct fs=>
   cases x<;>simp only[aI5]<;>cases fs[i]?<;>rfl
  all_goals first | rfl | (cases x<;>rfl)
inductive IxK where
 | slice (size:Nat)
 | array (n size:Nat) (l:Lay)
 | str
 | bad
def ixK (P:Program) (t:TypeId):IxK:=
 match P.underlying t with
 | some (.slice e)=>(match szT P e with | some n=>.slice n | none=>.bad)
 | some (.array n e)=>(match szT P e with | some s=>.array n s (oG P e) | none=>.bad)
 | some .string=>.str
 | _=>.bad
def aV (k:IxK) (x i:V):Option V:=
 match k,x,i with
 | .slice size,.slice (some ⟨b,o,none⟩) n _,.int _ i=>if 0≤i∧i<n then some (.pointer (some ⟨b,o+i.toNat*size,none⟩)) else none
 | .array n size _,.pointer (some ⟨b,o,none⟩),.int _ i=>if 0≤i∧i<n then some (.pointer (some ⟨b,o+i.toNat*size,none⟩)) else none
 | _,_,_=>none
theorem aQi (P:Program) (t:TypeId) (x i:V):xG P t x i=aV (ixK P t) x i:=by
 unfold xG ixK
 generalize P.underlying t=u
 cases u with
 | none=>rfl
 | some d=>
  cases d
  case slice e=>
   cases x with
   | slice a n c=>
    cases a with
    | none=>simp only;cases szT P e<;>rfl
    | some a=>
     obtain⟨b,o,sp⟩:=a
     cases sp with
     | none=>cases i<;>(simp only;generalize szT P e=m;cases m<;>rfl)
     | some s=>simp only;cases szT P e<;>rfl
   | _=>simp only;cases szT P e<;>rfl
  case array n e=>
   cases x with
   | pointer a=>
    cases a with
    | none=>simp only;cases szT P e<;>rfl
    | some a=>
     obtain⟨b,o,sp⟩:=a
     cases sp with
     | none=>cases i<;>(simp only;generalize szT P e=m;generalize oG P e=l;cases m<;>rfl)
     | some s=>simp only;cases szT P e<;>rfl
   | _=>simp only;cases szT P e<;>rfl
  all_goals rfl
def iQ (k:IxK) (x i:V):Option V:=
 match k,x,i with
 | .array n size l,.agg cs,.int _ i=>if 0≤i∧i<n then aC5 l cs (i.toNat*size) else none
 | .str,.string s,.int _ i=>
  match (if 0≤i then s[i.toNat]? else none) with
  | some b=>some (.int .u8 b.toNat)
  | none=>none
 | _,_,_=>none
theorem aQj (P:Program) (t:TypeId) (x i:V):xF P t x i=iQ (ixK P t) x i:=by
 unfold xF ixK
 simp only[aI5]
 generalize P.underlying t=u
 cases u with
 | none=>rfl
 | some d=>
  cases d
  case slice e=>simp only;cases szT P e<;>rfl
  case array n e=>
   cases x with
   | agg cs=>cases i<;>(simp only;generalize szT P e=m;generalize oG P e=l;cases m<;>rfl)
   | _=>simp only;cases szT P e<;>rfl
  case string=>cases x with
   | string s=>cases i<;>rfl
   | _=>rfl
  all_goals rfl
/-! ### Maps -/
inductive pA where
 | int | string
 | struct (st:Bool) (fs:List (Nat×FK))
 | bad
def vR (P:Program) (t:TypeId):pA:=
 match P.underlying t with
 | some (.int _)=>.int
 | some .string=>.string
 | some (.struct fs)=>.struct (P.stoodInHeld t) (fkL P fs.toList)
 | _=>.bad
def sN (k:pA) (x y:V):Option Bool:=
 match k,x,y with
 | .int,.int k a,.int k' b=>if k=k' then some (a==b) else none
 | .string,.string a,.string b=>some (a==b)
 | .struct st fs,.agg a,.agg b=>if st then none else fK a b fs
 | _,_,_=>none
theorem aQl (P:Program) (t:TypeId) (x y:V):rT P t x y=sN (vR P t) x y:=by
 unfold rT vR
 simp only[aI0]
 generalize P.underlying t=u
 cases u with
 | none=>rfl
 | some d=>
  cases d
  case struct fs=>cases x with
   | agg a=>cases y<;>rfl
   | _=>rfl
  case int k=>cases x with
   | int k a=>cases y<;>rfl
   | _=>rfl
  case string=>cases x with
   | string a=>cases y<;>rfl
   | _=>rfl
  all_goals rfl
def oF (k:pA) (x:V):Bool:=
 match k,x with
 | .int,.int _ _=>true
 | .string,.string _=>true
 | .struct _ fs,.agg cs=>bS (.agg cs)&&fs.all fun (o,k)=>match k,cs[o]? with
  | .int,some (.int _ _)=>true
  | .string,some (.string _)=>true
  | .bool,some (.bool _)=>true
  | _,_=>false
 | _,_=>false
theorem aFa (P:Program) (t:TypeId) (x:V):qU P t x=oF (vR P t) x:=by
 unfold qU vR
 rcases P.underlying t with _ | d
 ·rfl
 ·cases d
  case struct fs=>
   cases x<;>try rfl
   rename_i cs
   simp only[oF]
   congr 1
   rw[←Array.all_toList,fkL,List.all_map]
   congr 1
   funext f
   simp only[Function.comp,fkT]
   by_cases hn:f.name = "_"
   ·simp[hn]
   ·have:(f.name != "_")=true:=by simpa using hn
    simp only[this,hn,Bool.true_and,if_false]
    generalize cs[f.offset]? = p
    rcases P.underlying f.type with _ | d
    ·rfl
    ·rcases p with _ | v
     ·cases d<;>rfl
     ·cases d<;>first | rfl | (cases v<;>rfl)
  all_goals first | rfl | (cases x<;>rfl)
def findD (kk:pA) (k:V):List MapEntry→Nat→Option (Option (Nat×V))
 | [],_=>some none
 | e::es,i=>
  match sN kk k e.key with
  | some true=>if bS e.key then some (some (i,e.val)) else none
  | some false=>if bS e.key then findD kk k es (i+1) else none
  | none=>none
theorem aE9 (P:Program) (t:TypeId) (k:V) (es:List MapEntry) (i:Nat):pW P t k es i=findD (vR P t) k es i:=by
 induction es generalizing i with
 | nil=>rfl
 | cons e es ih=>simp only[pW,findD,aQl,ih];rfl
def pJ (P:Program) (t:TypeId):Option (pA×Option V):=
 match P.underlying t with
 | some (.map kt et)=>some (vR P kt,zeroOf P et)
 | _=>none
def bW (m:Option (pA×Option V)) (x k:V) (ok:Bool) (h:aA):Option V:=
 match m with
 | some (kk,z)=>
  if oF kk k then
   match z,(match x with
    | .map none=>some none
    | .map (some b)=>(match h.get b with | some (.map es _)=>findD kk k es 0 | _=>none)
    | _=>none) with
   | some _,some (some (_,v))=>some (if ok then .tuple #[v,.bool true] else v)
   | some z,some none=>some (if ok then .tuple #[z,.bool false] else z)
   | _,_=>none
  else none
 | none=>none
theorem aQn (P:Program) (t:TypeId) (x k:V) (ok:Bool) (h:aA):xI P t x k ok h=bW (pJ P t) x k ok h:=by
 unfold xI pJ
 rcases P.underlying t with _ | d
 ·rfl
 ·cases d<;>try rfl
  simp only[bW,aFa,aE9]
  rfl
def cU (m:Option (pA×Option V)) (x k v:V) (h:aA):Option aA:=
 match m with
 | some (kk,_)=>
  if oF kk k then
   match x with
   | .map (some b)=>
    match h.get b with
    | some (.map es clock)=>
     match findD kk k es 0 with
     | some (some (i,_))=>if (es[i]?).any (fun e=>Instr.sameBits 10000 e.key k) then some (h.put b (.map (es.modify i fun e=>{ e with key:=k,val:=v }) clock)) else none
     | some none=>some (h.put b (.map (es++[{ key:=k,val:=v,born:=clock }]) (clock+1)))
     | none=>none
    | _=>none
   | _=>none
  else none
 | none=>none
theorem zY (P:Program) (t:TypeId) (x k v:V) (h:aA):uT P t x k v h=cU (pJ P t) x k v h:=by
 unfold uT pJ
 rcases P.underlying t with _ | d
 ·rfl
 ·cases d<;>try rfl
  simp only[cU,aFa,aE9]
  rfl
def gL (m:Option (pA×Option V)) (x k:V) (h:aA):Option aA:=
 match m with
 | some (kk,_)=>
  if oF kk k then
   match x with
   | .map none=>some h
   | .map (some b)=>
    match h.get b with
    | some (.map es clock)=>
     match findD kk k es 0 with
     | some (some (i,_))=>some (h.put b (.map (es.eraseIdx i) clock))
     | some none=>some (h.put b (.map es clock))
     | none=>none
    | _=>none
   | _=>none
  else none
 | none=>none
theorem aIz (P:Program) (t:TypeId) (x k:V) (h:aA):xC P t x k h=gL (pJ P t) x k h:=by
 unfold xC pJ
 rcases P.underlying t with _ | d
 ·rfl
 ·cases d<;>try rfl
  simp only[gL,aFa,aE9]
  rfl
inductive RgK where
 | str | map | bad
def rgK (P:Program) (t:TypeId):RgK:=
 match P.underlying t with
 | some .string=>.str
 | some (.map _ _)=>.map
 | _=>.bad
def gS (k:RgK) (x:V) (h:aA):Option (V×aA):=
 match k,x with
 | .str,.string s=>some (.pointer (some ⟨h.next,0,none⟩),h.new (.siter s 0))
 | .map,.map none=>some (.pointer (some ⟨h.next,0,none⟩),h.new (.miter none 0 #[] 0))
 | .map,.map (some b)=>(match h.get b with | some (.map _ clock)=>some (.pointer (some ⟨h.next,0,none⟩),h.new (.miter (some b) clock #[] clock)) | _=>none)
 | _,_=>none
theorem aI6 (P:Program) (t:TypeId) (x:V) (h:aA):xL P t x h=gS (rgK P t) x h:=by
 unfold xL rgK
 rcases P.underlying t with _ | d
 ·rfl
 ·cases d
  case map k e=>
   cases x<;>try rfl
   rename_i r
   cases r<;>rfl
  all_goals first | rfl | (cases x<;>rfl)
def qW (good:Bool) (x:V) (asserted:TypeId) (ok:Bool):Option V:=
 match x with
 | .iface t v=>if good&&t==asserted then some (if ok then .tuple #[v,.bool true] else v) else none
 | _=>none
def aAj (P:Program) (t:TypeId):Bool:=
 match P.underlying t with
 | some (.interface _)=>false
 | some _=>true
 | none=>false
theorem aQc (P:Program) (x:V) (t:TypeId) (ok:Bool):wW P x t ok=qW (aAj P t) x t ok:=by
 unfold wW aAj
 rcases P.underlying t with _ | d
 ·cases x<;>simp[qW]
 ·cases d<;>cases x<;>simp[qW]
def mkK (P:Program) (t:TypeId):Option (Nat×Nat×List V):=
 match gZ P t with
 | some e=>
  match P.info? e,(zeroOf P e).bind cellsOf with
  | some i,some z=>some (i.size,i.bytes,z)
  | _,_=>none
 | none=>none
def aB2 (k:Option (Nat×Nat×List V)) (l c:V) (h:aA):Option (V×aA):=
 match k,l,c with
 | some (size,bytes,z),.int _ l,.int _ c=>
  if 0≤l∧l≤c∧c≤1099511627776∧bytes≤64∧z.length=size∧0<size then
   some (.slice (some ⟨h.next,0,none⟩) l.toNat (2*c.toNat),h.new (.cells (eO z (c.toNat*size)) size .rw))
  else none
 | _,_,_=>none
theorem aI4 (P:Program) (t:TypeId) (l c:V) (h:aA):xJ P t l c h=aB2 (mkK P t) l c h:=by
 unfold xJ mkK
 generalize gZ P t=u
 cases u with
 | none=>rfl
 | some e=>
  cases l with
  | int k l=>
   cases c with
   | int k c=>simp only;generalize P.info? e=i;generalize (zeroOf P e).bind cellsOf=z;cases i<;>cases z<;>rfl
   | _=>simp only;cases P.info? e<;>cases (zeroOf P e).bind cellsOf<;>rfl
  | _=>simp only;cases P.info? e<;>cases (zeroOf P e).bind cellsOf<;>rfl
def aFf (P:Program) (ts:Array TypeId):Option (Nat×Nat×List V):=
 match ts[0]?,ts[1]? with
 | some t,some xt=>if tA P xt then mkK P t else none
 | _,_=>none
def dU (k:Option (Nat×Nat×List V)) (s x:V) (h:aA):Option (V×aA):=
 match k,dX x with
 | some (size,bytes,z),some n=>
  if 0<size∧bytes≤64∧z.length=size then
   match s with
   | .slice none 0 0=>
    if n=0 then some (.slice none 0 0,h)
    else if n≤1099511627776 then
     (dT size x h).map fun new=>(.slice (some ⟨h.next,0,none⟩) n (2*n+1),h.new (.cells new size .rw))
    else none
   | .slice (some ⟨b,o,none⟩) m c=>
    if n=0 then some (.slice (some ⟨b,o,none⟩) m c,h) else
    if m+n≤c / 2 then
     match dT size x h,h.get b with
     | some new,some (.cells _ esz _)=>if esz=size∧new.all dH=true then (h.wr b (o+m*size) new).map fun h'=>(.slice (some ⟨b,o,none⟩) (m+n) c,h') else none
     | _,_=>none
    else if m+n≤1099511627776 then
     match dT size x h,h.rdN b o (m*size) with
     | some new,some old=>
      if c % 2=0 then some (.slice (some ⟨h.next,0,none⟩) (m+n) (2*(m+n)+1),h.new (.cells (old++new) size .rw))
      else
       match h.get b with
       | some (.cells _ esz k)=>
        if esz=size∧k≠.ro∧new.all dH=true then some (.slice (some ⟨h.next,0,none⟩) (m+n) (2*(m+n)+1),(h.kill b).new (.cells (old++new) size (if o=0 then k else .rs)))
        else none
       | _=>none
     | _,_=>none
    else none
   | _=>none
  else none
 | _,_=>none
theorem aIu (P:Program) (ts:Array TypeId) (s x:V) (h:aA):uQ P ts s x h=dU (aFf P ts) s x h:=by
 unfold uQ aFf mkK
 cases ts[0]? with
 | none=>rfl
 | some t=>
  cases ts[1]? with
  | none=>simp only[Option.bind_some];cases gZ P t<;>rfl
  | some xt=>
   simp only[Option.bind_some]
   cases gZ P t with
   | none=>simp only[ite_self];rfl
   | some e=>
    simp only
    cases P.info? e with
    | none=>simp only[ite_self];rfl
    | some i=>
     cases (zeroOf P e).bind cellsOf with
     | none=>simp only[ite_self];cases dX x<;>rfl
     | some z=>
      cases hn:dX x with
      | none=>
       by_cases hs:tA P xt=true
       ·rw[if_pos hs];unfold dU;rw[hn]
       ·rw[if_neg hs];rfl
      | some n=>
       simp only
       by_cases hs:tA P xt=true
       ·rw[if_pos hs]
        unfold dU
        rw[hn]
        simp only
        by_cases hc:0<i.size∧i.bytes≤64∧z.length=i.size
        ·rw[if_pos ⟨hs,hc⟩,if_pos hc]
         rfl
        ·rw[if_neg (fun h=>hc h.2),if_neg hc]
       ·rw[if_neg hs,if_neg (fun h=>hs h.1)]
        rfl
def aFw (P:Program) (ts:Array TypeId):Option Nat:=((ts[0]?).bind (gZ P)).bind (szT P)
def aAk (k:Option Nat) (d s:V) (h:aA):Option (V×aA):=
 match k,d,dX s with
 | some _,.slice none 0 0,some _=>some (.int .i64 0,h)
 | some size,.slice (some ⟨b,o,none⟩) m _,some n=>
  if 0<size then
   match dT size s h with
   | some cs=>let k:=Nat.min n m;if (cs.take (k*size)).all dH=true then (h.wr b o (cs.take (k*size))).map fun h'=>(.int .i64 k,h') else none
   | none=>none
  else none
 | _,_,_=>none
theorem aIy (P:Program) (ts:Array TypeId) (d s:V) (h:aA):uS P ts d s h=aAk (aFw P ts) d s h:=by
 unfold uS aFw
 cases (ts[0]?).bind (gZ P) with
 | none=>rfl
 | some e=>simp only[Option.bind_some];cases szT P e<;>rfl
inductive aIl where
 | str | array (n:Nat) | slice | map | bad
def vX (P:Program) (ts:Array TypeId):aIl:=
 match (ts[0]?).bind P.underlying with
 | some .string=>.str
 | some (.array n _)=>.array n
 | some (.slice _)=>.slice
 | some (.map _ _)=>.map
 | _=>.bad
def bH (k:aIl) (x:V) (h:aA):Option V:=
 match k,x with
 | .str,.string s=>some (.int .i64 s.size)
 | .array n,_=>some (.int .i64 n)
 | .slice,.slice _ n _=>some (.int .i64 n)
 | .map,.map none=>some (.int .i64 0)
 | .map,.map (some b)=>(match h.get b with | some (.map es _)=>some (.int .i64 es.length) | _=>none)
 | _,_=>none
theorem aQm (P:Program) (ts:Array TypeId) (x:V) (h:aA):xH P ts x h=bH (vX P ts) x h:=by
 unfold xH vX
 rcases (ts[0]?).bind P.underlying with _ | d
 ·rfl
 ·cases d
  case map k e=>
   cases x<;>try rfl
   rename_i r
   cases r<;>rfl
  all_goals first | rfl | (cases x<;>rfl)
def aFq (P:Program) (ts:Array TypeId):Option (Option (List V)):=((ts[0]?).bind (gZ P)).map fun e=>(zeroOf P e).bind cellsOf
def qC (k:Option (Option (List V))) (x:V) (h:aA):Option aA:=
 match k,x with
 | some z,.slice a n c=>
  match a,n with
  | none,0=>if c=0 then some h else none
  | some _,0=>some h
  | some ⟨b,o,none⟩,n+1=>
   match z with
   | some z=>if z.length≠0∧z.all dH=true then h.wr b o (eO z ((n+1)*z.length)) else none
   | none=>none
  | _,_=>none
 | _,_=>none
theorem aIw (P:Program) (ts:Array TypeId) (x:V) (h:aA):xA P ts x h=qC (aFq P ts) x h:=by
 unfold xA aFq
 cases (ts[0]?).bind (gZ P) with
 | none=>rfl
 | some e=>cases x<;>rfl
end Go.Abs
namespace Go.Abs
open Go
inductive kV (x:Option V) (h:aA) (K:V→aA→Prop):Prop
 | mk (v:V) (hx:x=some v) (hk:K v h)
inductive kP (x:Option (V×aA)) (K:V→aA→Prop):Prop
 | mk (v:V) (h:aA) (hx:x=some (v,h)) (hk:K v h)
inductive kH (x:Option aA) (K:V→aA→Prop):Prop
 | mk (h:aA) (hx:x=some h) (hk:K bY h)
@[simp] theorem mC (v:V) (h:aA) (K:V→aA→Prop):kV (some v) h K=K v h:=propext ⟨fun⟨_,hx,hk⟩=>(by cases hx;exact hk),fun hk=>⟨v,rfl,hk⟩⟩
@[simp] theorem aZ (v:V) (h:aA) (K:V→aA→Prop):kP (some (v,h)) K=K v h:=propext ⟨fun⟨_,_,hx,hk⟩=>(by cases hx;exact hk),fun hk=>⟨v,h,rfl,hk⟩⟩
@[simp] theorem bV (h:aA) (K:V→aA→Prop):kH (some h) K=K bY h:=propext ⟨fun⟨_,hx,hk⟩=>(by cases hx;exact hk),fun hk=>⟨h,rfl,hk⟩⟩
@[simp] theorem aZ6 (h:aA) (K:V→aA→Prop):kV none h K=False:=propext ⟨fun⟨_,hx,_⟩=>(by cases hx),False.elim⟩
@[simp] theorem aZ5 (K:V→aA→Prop):kP none K=False:=propext ⟨fun⟨_,_,hx,_⟩=>(by cases hx),False.elim⟩
@[simp] theorem aZ4 (K:V→aA→Prop):kH none K=False:=propext ⟨fun⟨_,hx,_⟩=>(by cases hx),False.elim⟩
section
variable (P:Program) (I:FuncId→Option Spec)
def aGs (t:TypeId):Option Bool:=
 match P.underlying t with
 | some (.interface _)=>none
 | some _=>some true
 | none=>none
def aMd (t:TypeId):Bool:=
 match P.underlying t with
 | some (.map _ _)=>true
 | _=>false
def fO (good:Bool) (r:Option V) (h:aA):Option (V×aA):=
 if good then
  match r with
  | none=>some (.map (some h.next),h.new (.map [] 0))
  | some (.int _ _)=>some (.map (some h.next),h.new (.map [] 0))
  | _=>none
 else none
def lW (b:Builtin) (ts:Array TypeId) (args:List V) (h:aA) (K:V→aA→Prop):Prop:=
 match b,args with
 | .append,[s,x]=>kP (dU (aFf P ts) s x h) K
 | .copy,[d,s]=>kP (aAk (aFw P ts) d s h) K
 | .len,[x]=>kV (bH (vX P ts) x h) h K
 | .delete,[m,k]=>kH (gL ((ts[0]?).bind (pJ P)) m k h) K
 | .clear,[x]=>kH (qC (aFq P ts) x h) K
 | .min,l=>kV (gI false l) h K
 | .max,l=>kV (gI true l) h K
 | _,_=>False
def doD (o:Op) (e:Nat→V) (h:aA) (K:V→aA→Prop):Prop:=
 match o with
 | .move x=>K (aEv e x) h
 | .assign x=>K (aEv e x) h
 | .pick c a b=>(match aEv e c with | .bool true=>K (aEv e a) h | .bool false=>K (aEv e b) h | _=>False)
 | .alloc t=>(match zeroOf P t with | some z=>kP (aY (aBe P t) z h) K | none=>False)
 | .box t x=>kP (aY (aBe P t) (aEv e x) h) K
 | .build t ps=>kV (cA (aAg P t) (ps.toList.map fun p=>(p.1,aEv e p.2))) h K
 | .buildSlice t n ps=>kP (dN (elK P t) n (ps.toList.map fun p=>(p.1,aEv e p.2)) h) K
 | .insert t m k v=>kH (cU (pJ P t) (aEv e m) (aEv e k) (aEv e v) h) K
 | .load t a=>kV (ldD (oG P t) (aEv e a) h) h K
 | .store t a x=>kH (stD (szT P t) (aEv e a) (aEv e x) h) K
 | .nilCheck x=>kV (aM (aEv e x)) h K
 | .binOp op t x y _=>kV (aC (eqK P t) op (jN x||jN y) (aEv e x) (aEv e y) h) h K
 | .unOp op _ x=>kV (aUn op (aEv e x)) h K
 | .convert s d x=>kP (eQ (vE P s d) (aEv e x) h) K
 | .makeInterface t x=>(match aGs P t with | some _=>K (.iface t (aEv e x)) h | none=>False)
 | .makeFunc fn f c=>K (.func fn (f.map (aEv e)) (c.map (aEv e))) h
 | .makeMap t r=>kP (fO (aMd P t) (r.map (aEv e)) h) K
 | .makeSlice t l c=>kP (aB2 (mkK P t) (aEv e l) (aEv e c) h) K
 | .slice t x lo hi mx=>kV (cK (slK P t) (aEv e x) (lo.map (aEv e)) (hi.map (aEv e)) (mx.map (aEv e)) h) h K
 | .fieldAddr t x i=>kV (aF (aBg P t i) (aEv e x)) h K
 | .field t x i=>kV (aF8 (aBf P t i) (aEv e x)) h K
 | .indexAddr t x i=>kV (aV (ixK P t) (aEv e x) (aEv e i)) h K
 | .index t x i=>kV (iQ (ixK P t) (aEv e x) (aEv e i)) h K
 | .lookup t x i ok=>kV (bW (pJ P t) (aEv e x) (aEv e i) ok h) h K
 | .mapUpdate t m k v=>kH (cU (pJ P t) (aEv e m) (aEv e k) (aEv e v) h) K
 | .range t x=>kP (gS (rgK P t) (aEv e x) h) K
 | .next it s=>dS (aEv e it) s h K
 | .entry it=>kV (gV (aEv e it) h) h K
 | .typeAssert x _ t ok=>kV (qW (aAj P t) (aEv e x) t ok) h K
 | .extract t i=>kV (bJ (aEv e t) i) h K
 | .call c=>
  match c.callee with
  | .value f=>cR I (aEv e f) (fM e c.args) h K
  | .builtin b=>lW P b c.argTypes (fM e c.args) h K
  | .invoke _ _=>False
 | _=>False
theorem hG (x:Option V) (h:aA) (K:V→aA→Prop):(match x.map (fun v=>(v,h)) with | some (v,h)=>K v h | none=>False)=kV x h K:=by cases x<;>simp
theorem yL (x:Option aA) (K:V→aA→Prop):(match x.map (fun h=>(Abs.bY,h)) with | some (v,h)=>K v h | none=>False)=kH x K:=by cases x<;>simp
theorem sM (x:Option (V×aA)) (K:V→aA→Prop):(match x with | some (v,h)=>K v h | none=>False)=kP x K:=by rcases x with _ | ⟨v,h⟩<;>simp
theorem aRp (b:Builtin) (ts:Array TypeId) (args:List V) (h:aA) (K:V→aA→Prop) :
 (match lT P b ts args h with | some (v,h)=>K v h | none=>False)=lW P b ts args h K:=by
 cases b<;>try rfl
 case append=>
  match args with
  | []=>rfl
  | [_]=>rfl
  | [s,x]=>(simp only[lT,lW,aIu];exact sM _ _)
  | _::_::_::_=>rfl
 case copy=>
  match args with
  | []=>rfl
  | [_]=>rfl
  | [s,x]=>(simp only[lT,lW,aIy];exact sM _ _)
  | _::_::_::_=>rfl
 case len=>
  match args with
  | []=>rfl
  | [x]=>(simp only[lT,lW,aQm];exact hG _ _ _)
  | _::_::_=>rfl
 case delete=>
  match args with
  | []=>rfl
  | [_]=>rfl
  | [s,x]=>
   simp only[lT,lW]
   cases ts[0]? with
   | none=>simp[gL]
   | some t=>(simp only[Option.bind_some,aIz];exact yL _ _)
  | _::_::_::_=>rfl
 case clear=>
  match args with
  | []=>rfl
  | [x]=>(simp only[lT,lW,aIw];exact yL _ _)
  | _::_::_=>rfl
 case min=>(simp only[lT,lW];exact hG _ _ _)
 case max=>(simp only[lT,lW];exact hG _ _ _)
theorem aJ1 (o:Op) (e:Nat→V) (h:aA) (K:V→aA→Prop):aDo P I o e h K=doD P I o e h K:=by
 cases o<;>simp only[aDo,aOp,doD]
 case pick c a b=>
  cases aEv e c<;>try rfl
  rename_i t
  cases t<;>rfl
 case alloc t=>
  cases zeroOf P t with
  | none=>rfl
  | some z=>(simp only[Option.bind_some,zZ];exact sM _ _)
 case box t x=>(simp only[zZ];exact sM _ _)
 case build t ps=>(simp only[aQe];exact hG _ _ _)
 case buildSlice t n ps=>(simp only[aIv];exact sM _ _)
 case insert t m k v=>(simp only[zY];exact yL _ _)
 case load t a=>(simp only[aI3];exact hG _ _ _)
 case store t a x=>(simp only[aI7];exact yL _ _)
 case nilCheck x=>exact hG _ _ _
 case binOp op t x y yt=>(simp only[aQd];exact hG _ _ _)
 case unOp op t x=>exact hG _ _ _
 case convert s d x=>(simp only[aIx];exact sM _ _)
 case makeInterface t x=>
  unfold aGs
  rcases P.underlying t with _ | d
  ·rfl
  ·cases d<;>rfl
 case makeMap t r=>
  unfold aMd fO
  rcases P.underlying t with _ | d
  ·cases r<;>simp
  ·cases d<;>cases r<;>first | (simp;done) | (rename_i x;simp only[Option.map_some,if_true];cases aEv e x<;>simp)
 case makeSlice t l c=>(simp only[aI4];exact sM _ _)
 case slice t x lo hi mx=>(simp only[aQr];exact hG _ _ _)
 case fieldAddr t x i=>
  exact hG _ _ _
 case field t x i=>(simp only[aQh];exact hG _ _ _)
 case indexAddr t x i=>(simp only[aQi];exact hG _ _ _)
 case index t x i=>(simp only[aQj];exact hG _ _ _)
 case lookup t x i ok=>(simp only[aQn];exact hG _ _ _)
 case mapUpdate t m k v=>(simp only[zY];exact yL _ _)
 case range t x=>(simp only[aI6];exact sM _ _)
 case entry it=>exact hG _ _ _
 case typeAssert x xt t ok=>(simp only[aQc];exact hG _ _ _)
 case extract t i=>exact hG _ _ _
 case call c=>
  cases c.callee with
  | value f=>rfl
  | builtin b=>exact aRp P b _ _ h K
  | invoke r m=>rfl
/-! ### The evaluator once more -/
def opD (ops:Array Oper) (i:Nat) (s:St) (K:St→Prop):Prop:=
 match ops[i]? with
 | none=>K s
 | some o=>
  match eN ops o s.e with
  | some true=>doD P I o.op s.e s.h fun v h=>K ((s.put o.dst v).at h)
  | some false=>K (s.put o.dst gone)
  | none=>False
theorem aNe (ops:Array Oper) (i:Nat) (s:St) (K:St→Prop):vJ P I ops i s K=opD P I ops i s K:=by
 unfold vJ opD
 simp only[aJ1]
 rfl
def lF (ops:Array Oper):List Nat→St→(St→Prop)→Prop
 | [],s,K=>K s
 | i::rest,s,K=>opD P I ops i s fun s=>lF ops rest s K
theorem aWv (ops:Array Oper) (l:List Nat) (s:St) (K:St→Prop):yH P I ops l s K=lF P I ops l s K:=by
 induction l generalizing s with
 | nil=>rfl
 | cons i l ih=>simp only[yH,lF,aNe,ih]
def pX (ops:Array Oper):Nat→Array Bool→St→(St→Prop)→Prop
 | 0,listed,s,K=>Region.ready .any ops listed=[]∧K s
 | fuel+1,listed,s,K=>
  (Region.ready .any ops listed=[]→K s) ∧
  ∀i∈Region.ready .any ops listed,opD P I ops i s fun s=>pX ops fuel (listed.setIfInBounds i true) s K
theorem any_eq (ops:Array Oper) (fuel:Nat) (listed:Array Bool) (s:St) (K:St→Prop):yG P I ops fuel listed s K=pX P I ops fuel listed s K:=by
 induction fuel generalizing listed s with
 | zero=>rfl
 | succ n ih=>simp only[yG,pX,aNe,ih]
def cS:Code→St→(Ex→St→Prop)→Prop
 | .skip,s,K=>K .normal s
 | .region _ ops false,s,K=>lF P I ops (List.range ops.size) s fun s=>K .normal s
 | .region _ ops true,s,K=>pX P I ops ops.size (Array.replicate ops.size false) s fun s=>K .normal s
 | .seq a b,s,K=>cS a s fun x s=>match x with
  | .normal=>cS b s K
  | x=>K x s
 | .cond c a b,s,K=>match aEv s.e c with
  | .bool true=>cS a s K
  | .bool false=>cS b s K
  | _=>False
 | .block id c,s,K=>cS c s fun x s=>match x with
  | .exit j=>if j=id then K .normal s else K (.exit j) s
  | x=>K x s
 | .loop c,s,K=>∃n,pI (cS c) n s K
 | .exit id,s,K=>K (.exit id) s
 | .label _,s,K=>K .normal s
 | .ret,s,K=>K .ret s
 | .rangeFunc _ _ _ _,_,_=>False
 | .scope _,_,_=>False
 | .goto _,_,_=>False
 | .refuse _,_,_=>False
theorem aSc (c:Code):∀(s:St) (K:Ex→St→Prop),evC P I c s K=cS P I c s K:=by
 induction c with
 | region id ops draw=>intro s K;cases draw<;>simp only[evC,cS,aWv,any_eq]
 | seq a b iha ihb=>intro s K;simp only[evC,cS,iha,ihb];rfl
 | cond c a b iha ihb=>intro s K;simp only[evC,cS,iha,ihb];rfl
 | block id c ih=>intro s K;simp only[evC,cS,ih];rfl
 | loop c ih=>intro s K;simp only[evC,cS];rw[show evC P I c=cS P I c from funext fun s=>funext fun K=>ih s K]
 | _=>intro s K;rfl
def oT (h:aA) (e:Nat→V):List ResultVar→Option (List V)
 | []=>some []
 | .tmp t::r=>(oT h e r).map fun l=>e t::l
 | .cell a t::r=>(ldD (oG P t) (e a) h).bind fun v=>(oT h e r).map fun l=>v::l
theorem aXu (h:aA) (e:Nat→V) (l:List ResultVar):kY P h e l=oT P h e l:=by
 induction l with
 | nil=>rfl
 | cons x l ih=>cases x<;>simp only[kY,oT,ih,aI3]
def tL (f:Func) (args:List V) (h:aA) (K:V→aA→Prop):Prop:=
 match f.body with
 | none=>False
 | some c=>cS P I c ⟨tD args,h⟩ fun x s=>
  match x with
  | .exit _=>False
  | _=>
   match oT P s.h s.e f.results.toList with
   | some l=>K (mX l) s.h
   | none=>False
theorem aT3 (f:Func) (args:List V) (h:aA) (K:V→aA→Prop):evF P I f args h K=tL P I f args h K:=by
 unfold evF tL
 simp only[aSc,aXu]
 rfl
end
theorem aD.aM6 {P:Program} {J:World→Prop} {I:FuncId→Option Spec} (hI:aO P J I) (hm:P.follows .mixedOrders=true) {f:FuncId} {fn:Func} {c:Code} (hf:P.funcs[f]? = some fn) (hb:fn.body=some c) (hok:codeOk fn.ntmps c=true)
 (hcall:∀(args:Array V) (w:World),(callFunc f args).run P w = .ok (.enter f args) w) :
 aD P J f (fun args h K=>args.length≤fn.ntmps∧tL P I fn args h K):=by
 have:=aD.aWn hI hm hf hb hok hcall
 simp only[aT3]at this
 exact this
theorem aD.tZ {P:Program} {J:World→Prop} {f:FuncId} {s s':Spec} (h:aD P J f s) (hi:∀args h K,s' args h K→s args h K):aD P J f s':=
 fun B hJ r hp w args args' Q hs hR ha=>h B hJ r hp w args args' Q (hi _ _ _ hs) hR ha
end Go.Abs
