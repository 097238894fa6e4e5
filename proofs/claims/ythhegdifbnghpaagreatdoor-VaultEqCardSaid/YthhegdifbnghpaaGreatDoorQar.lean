/- What the evaluator reckons, and closed functions. -/
import Derived.Test.YthhegdifbnghpaaGreatDoorQao
import Derived.Test.YthhegdifbnghpaaGreatDoorQaq
set_option linter.unusedSimpArgs false
set_option linter.unusedVariables false
namespace Go.Abs
open Go Go.RowKit Go.Shelf Go.Proofs
theorem aEi (h:aA):toH h [] 0=h:=rfl
theorem aH4 (h:aA) (o:cH):toH h [(h.next,some o)] 1=h.new o:=by
 unfold toH aA.new
 congr 1
 funext x
 show cond (Nat.beq x h.next) (some o) (h.get x)=if x=h.next then some o else h.get x
 by_cases hx:x=h.next
 ·rw[hx,Nat.beq_refl];simp
 ·have:Nat.beq x h.next=false:=by
   cases e:Nat.beq x h.next with
   | false=>rfl
   | true=>exact absurd (Nat.eq_of_beq_eq_true e) hx
  rw[this,if_neg hx];rfl
variable {P:Program} {J:World→Prop}
def aEe (g:List V→aA→Option (V×aA)):List V→aA→Ans:=fun args h=>match g args h with
 | some (v,_)=>some [(v,[],0)]
 | none=>none
theorem aO4 {f:FuncId} {g:List V→aA→Option (V×aA)} (hs:aD P J f (vK g)) (hg:∀args h v h',g args h=some (v,h')→h'=h):aD P J f (kT (aEe g)):=by
 refine hs.tZ fun args h K hk=>?_
 obtain⟨outs,h1,h2⟩:=hk
 unfold aEe at h1
 split at h1
 ·rename_i v h' hx
  cases h1
  unfold vK
  rw[hx,aZ,hg _ _ _ _ hx]
  have:=h2 (v,[],0) (by simp)
  rwa [aEi]at this
 ·cases h1
theorem aTy:∀args h v h',yI args h=some (v,h')→h'=h:=by
 intro args h v h' hx
 unfold yI at hx
 split at hx
 ·split at hx
  ·cases hx;rfl
  ·cases hx
 ·cases hx
theorem aZb:∀args h v h',trimB args h=some (v,h')→h'=h:=by
 intro args h v h' hx
 unfold trimB at hx
 split at hx
 ·split at hx
  ·cases hx;rfl
  ·cases hx
 ·cases hx
def aFr:List V→aA→Ans
 | [.iface t (.map (some b))],h=>(match h.get b with
  | some (.map es clk)=>some [(.iface t (.map (some h.next)),[(h.next,some (.map es clk))],1)]
  | _=>none)
 | _,_=>none
theorem aR3 {f:FuncId} (h:aD P J f L.clone):aD P J f (kT aFr):=by
 refine h.tZ fun args hp K hs=>?_
 obtain⟨outs,h1,h2⟩:=hs
 unfold aFr at h1
 unfold L.clone
 split at h1
 ·rename_i t b
  split at h1
  ·rename_i es clk hb
   cases h1
   simp only[hb]
   have:=h2 _ (List.mem_singleton.2 rfl)
   rwa [aH4]at this
  ·cases h1
 ·cases h1
def aHv (ok:List Nat):List V→aA→Ans
 | [.func (.func g) f c],h=>
  cond (Nat.beq f.size 0&&mL g ok)
   (match c.toList with
   | [.pointer (some ⟨b,0,none⟩)]=>
    (match h.get b with
    | some (.cells [.map (some m)] e .rw)=>
     (match h.get m with
     | some (.map [] clk)=>some [(.slice none 0 0,[],0)]
     | some (.map [⟨.string s,v,bn⟩] clk)=>cond (Nat.ble s.data.toList.length 1000000&&Nat.blt bn clk) (some [(.slice (some ⟨h.next,0,none⟩) 1 3,[(h.next,some (.cells [.string s] 1 .rw))],1)]) none
     | _=>none)
    | _=>none)
   | _=>none) none
 | _,_=>none
theorem aYe {f:FuncId} {ok:List Nat} {oP:FuncId→Prop} (ho:∀g∈ok,oP g) (h:aD P J f (L.Sorted oP)):aD P J f (kT (aHv ok)):=by
 refine h.tZ fun args hp K hs=>?_
 obtain⟨outs,hs,h2⟩:=hs
 unfold aHv at hs
 unfold L.Sorted
 split at hs
 ·rename_i g ff c
  generalize hg:(Nat.beq ff.size 0&&mL g ok)=gb at hs
  cases gb with
  | false=>cases hs
  | true=>
   simp only[cond_true]at hs
   simp only[Bool.and_eq_true]at hg
   have hf':ff = #[]:=Array.eq_empty_of_size_eq_zero (Nat.eq_of_beq_eq_true hg.1)
   have hok:oP g:=ho g (yR.1 hg.2)
   split at hs
   ·rename_i b hc
    have hc':c = #[.pointer (some ⟨b,0,none⟩)]:=Array.ext' (by rw[hc])
    split at hs
    ·rename_i m e hb
     split at hs
     ·rename_i clk hm
      cases hs
      refine⟨hf',hok,b,m,[],clk,e,.rw,hc',hb,hm,by simp,by simp,by simp,by simp,?_⟩
      have:=h2 _ (List.mem_singleton.2 rfl)
      rw[aEi]at this
      simpa[eR,sZ,rN]using this
     ·rename_i s v bn clk hm
      generalize hx:(Nat.ble s.data.toList.length 1000000&&Nat.blt bn clk)=xb at hs
      cases xb with
      | false=>cases hs
      | true=>
       simp only[cond_true]at hs
       cases hs
       simp only[Bool.and_eq_true]at hx
       have hsz:s.size≤maxLen:=by
        have:s.size=s.data.toList.length:=by rw[Array.length_toList];rfl
        have h2:1000000≤maxLen:=by decide
        have:=Nat.le_of_ble_eq_true hx.1
        omega
       refine⟨hf',hok,b,m,[⟨.string s,v,bn⟩],clk,e,.rw,hc',hb,hm,by simp,by simpa using ⟨hsz,xQ.1 hx.2⟩,by simp,by simp,?_⟩
       have e1:eR [⟨.string s,v,bn⟩]=[hU (.string s)]:=by simp[eR]
       rw[e1]
       have e2:encStr (hU (.string s)) = .string s:=by first | rfl | exact encStr_keyB _ | simp[encStr,hU]
       have:=h2 _ (List.mem_singleton.2 rfl)
       rw[aH4]at this
       simpa[sZ,rN,e2]using this
     ·cases hs
    ·cases hs
   ·cases hs
 ·cases hs
def aFu (h:aA) (ks:List IdM):Nd:=match ks with
 | []=>(.slice none 0 0,[],0)
 | k::l=>(.slice (some ⟨h.next,0,none⟩) (k::l).length (2*(k::l).length+1),[(h.next,some (.cells (cB (k::l)) 2 .rw))],1)
def aFv (ok:List Nat):List V→aA→Ans
 | [.func (.func g) f c],h=>
  cond (Nat.beq f.size 0&&mL g ok)
   (match c.toList with
   | [.pointer (some ⟨b,0,none⟩)]=>
    (match h.get b with
    | some (.cells [.map (some m)] e .rw)=>
     (match h.get m with
     | some (.map es clk)=>
      (match yJ es with
      | some t=>cond (Nat.ble t.length 1000&&ndB (t.map (·.b))&&(t.all fun e=>Nat.blt e.b clk)) (some ((perms (iA t)).map (aFu h))) none
      | none=>none)
     | _=>none)
    | _=>none)
   | _=>none) none
 | _,_=>none
theorem aSd {f:FuncId} {ok:List Nat} {oP:FuncId→Prop} (ho:∀g∈ok,oP g) (h:aD P J f (L.wU oP)):aD P J f (kT (aFv ok)):=by
 refine h.tZ fun args hp K hs=>?_
 obtain⟨outs,hs,hk⟩:=hs
 unfold aFv at hs
 unfold L.wU
 split at hs
 ·rename_i g ff c
  generalize hg:(Nat.beq ff.size 0&&mL g ok)=gb at hs
  cases gb with
  | false=>cases hs
  | true=>
   simp only[cond_true]at hs
   simp only[Bool.and_eq_true]at hg
   have hf':ff = #[]:=Array.eq_empty_of_size_eq_zero (Nat.eq_of_beq_eq_true hg.1)
   have hok:oP g:=ho g (yR.1 hg.2)
   split at hs
   ·rename_i b hc
    have hc':c = #[ptr b 0]:=Array.ext' (by rw[hc])
    split at hs
    ·rename_i m e hb
     split at hs
     ·rename_i es clk hm
      split at hs
      ·rename_i t ht
       generalize hx:(Nat.ble t.length 1000&&ndB (t.map (·.b))&&(t.all fun e=>Nat.blt e.b clk))=xb at hs
       cases xb with
       | false=>cases hs
       | true=>
        simp only[cond_true,Option.some.injEq]at hs
        subst hs
        simp only[Bool.and_eq_true,List.all_eq_true]at hx
        obtain⟨⟨h1,h2⟩,h3⟩:=hx
        refine⟨hf',hok,b,m,t,clk,e,.rw,hc',hb,by rw[hm,aK4 ht],?_,aMu h2,fun e he=>xQ.1 (h3 e he),fun ks hks=>?_⟩
        ·have:=Nat.le_of_ble_eq_true h1;omega
        ·have:=hk _ (List.mem_map.2 ⟨ks,aMh hks,rfl⟩)
         cases ks with
         | nil=>
          simp only[aFu,aEi]at this
          simpa[rZ,rY]using this
         | cons a l=>
          simp only[aFu,aH4]at this
          simpa[rZ,rY]using this
      ·cases hs
     ·cases hs
    ·cases hs
   ·cases hs
 ·cases hs
/-! ### Closed functions -/
def rR:Spec:=fun args h K=>args=[]∧K (.bool true) h
def uO:List V→aA→Ans
 | [],_=>some [(.bool true,[],0)]
 | _,_=>none
theorem aZd {f:FuncId} (h:aD P J f rR):aD P J f (kT uO):=by
 refine h.tZ fun args hp K hs=>?_
 obtain⟨outs,h1,h2⟩:=hs
 unfold uO at h1
 split at h1
 ·cases h1
  have:=h2 _ (List.mem_singleton.2 rfl)
  rw[aEi]at this
  exact⟨rfl,this⟩
 ·cases h1
def lkL {α:Type}:List (Nat×α)→FuncId→Option α
 | [],_=>none
 | (n,a)::l,f=>if Nat.beq f n then some a else lkL l f
theorem aL2 {α:Type} {p:FuncId→α→Prop}:∀{l:List (Nat×α)},(∀x∈l,p x.1 x.2)→∀f g,lkL l f=some g→p f g
 | [],_,_,_,h=>by cases h
 | (n,a)::l,hp,f,g,h=>by
  unfold lkL at h
  split at h
  ·rename_i hf
   cases h
   rw[Nat.eq_of_beq_eq_true hf]
   exact hp (n,a) (by simp)
  ·exact aL2 (fun x hx=>hp x (by simp[hx])) f g h
def aLd:Ans→Bool
 | some l=>l.all fun (nd:Nd)=>match nd.1 with | .bool true=>true | _=>false
 | none=>false
theorem xV {L:List (Nat×(List V→aA→Ans))} {T:List (Nat×An)} (hm:P.follows .mixedOrders=true) (hL:∀f g,lkL L f=some g→aD P J f (kT g)) (hT:zN P T) (n f:Nat)
 (h:aLd (tF P (lkL L) (lkA T) 200 n f [] ⟨fun _=>none,0⟩)=true):aD P J f rR:=by
 refine aD.alone (aJl (T:=lkA T) (F:=200) hm hL (aL1 hT) n f) rfl (by simp) ?_
 unfold aLd at h
 split at h
 ·rename_i l hl
  refine⟨l,hl,fun nd hn=>?_⟩
  have:=List.all_eq_true.1 h nd hn
  split at this
  ·assumption
  ·cases this
 ·cases h
theorem aCd {L:List (Nat×(List V→aA→Ans))} (hL:∀f g,lkL L f=some g→aD P J f (kT g)) {n:Nat} (h:aD P J n rR) :
 ∀f g,lkL ((n,uO)::L) f=some g→aD P J f (kT g):=by
 intro f g hg
 unfold lkL at hg
 split at hg
 ·rename_i hf
  cases hg
  rw[Nat.eq_of_beq_eq_true hf]
  exact aZd h
 ·exact hL f g hg
end Go.Abs
