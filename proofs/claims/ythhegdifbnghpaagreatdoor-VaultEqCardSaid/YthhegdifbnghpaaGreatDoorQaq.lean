/- Library functions that the evaluator reckons: they do as the shelf's contracts say. No program in sight. -/
import Derived.Test.YthhegdifbnghpaaGreatDoorQam
import Derived.Test.YthhegdifbnghpaaGreatDoorQap
import Derived.Shelf.Strings.SlTrimAscii
import Derived.Shelf.Strconv.Itoa4
set_option linter.unusedSimpArgs false
set_option linter.unusedVariables false
namespace Go.Abs
open Go Go.RowKit Go.Shelf Go.Proofs
def aFy (n:Nat):List UInt8:=if n<10 then [UInt8.ofNat (48+n)] else [UInt8.ofNat (48+n / 10),UInt8.ofNat (48+n % 10)]
theorem aSv {n:Nat} (h:n<100):Lib.decDigits n=aFy n:=by
 rw[Lib.decDigits]
 unfold aFy
 split
 ·rfl
 ·rw[Lib.decDigits,dif_pos (by omega)]
  rfl
def yI:List V→aA→Option (V×aA)
 | [.int .i64 n,.int .i64 10],h=>if 0≤n∧n<100 then some (.string ⟨(aFy n.toNat).toArray⟩,h) else none
 | _,_=>none
def trimB:List V→aA→Option (V×aA)
 | [.string s,.string cs],h=>
  if s.data.toList.length≤1000000∧cs.data.toList.length≤1000000∧(cs.data.toList.all fun b=>decide (b.toNat<128))=true then some (.string ⟨(Lib.trimS s.data.toList cs.data.toList).toArray⟩,h) else none
 | _,_=>none
variable {P:Program} {ρ:Shelf.Ren} {J:World→Prop}
theorem aTx (hD:DF J) (L:Lays.n173 P ρ) (hcall:∀(args:Array V) (w:World),(callFunc (ρ.f 173) args).run P w = .ok (.enter (ρ.f 173) args) w):aD P J (ρ.f 173) (vK yI):=by
 refine aD.aCm hD hcall fun args hp Q w hs _=>?_
 unfold vK yI at hs
 split at hs
 ·rename_i n
  split at hs
  ·rename_i hn
   rw[aZ]at hs
   refine⟨_,by simp[bS],rfl,hs,?_⟩
   have:=Any.strconv_FormatInt_10_small L n.toNat (by omega) w
   rw[aSv (by omega)]at this
   rw[show ((n.toNat:Nat):Int)=n by omega]at this
   refine this.mono ?_
   rintro e w' ⟨rfl,rfl⟩
   exact⟨rfl,Below.refl _ _⟩
  ·simp at hs
 ·simp at hs
theorem aZa (hD:DF J) (L:Lays.n160 P ρ) (h116:(P.info? (ρ.t 116)).map (fun i=>(i.zero,i.size))=some (some (.agg (Array.replicate 256 (.bool false))),256))
 (hcall:∀(args:Array V) (w:World),(callFunc (ρ.f 160) args).run P w = .ok (.enter (ρ.f 160) args) w):aD P J (ρ.f 160) (vK trimB):=by
 refine aD.aCm hD hcall fun args hp Q w hs _=>?_
 unfold vK trimB at hs
 split at hs
 ·rename_i s cs
  split at hs
  ·rename_i hn
   rw[aZ]at hs
   refine⟨_,by simp[bS],rfl,hs,?_⟩
   have e1:s.size=s.data.toList.length:=Array.length_toList.symm
   have e2:cs.size=cs.data.toList.length:=Array.length_toList.symm
   exact Any.strings_Trim_laid L h116 s cs w (by omega) (by omega) (ascii_of_all hn.2.2)
  ·simp at hs
 ·simp at hs
def aZ3:List V→aA→Option (V×aA)
 | [.iface t (.map (some b))],h=>(match h.get b with
  | some (.map es clk)=>some (.iface t (.map (some h.next)),h.new (.map es clk))
  | _=>none)
 | _,_=>none
def wI {α:Type} (a:α):List α→List (List α)
 | []=>[[a]]
 | b::l=>(a::b::l)::(wI a l).map (b::·)
def perms {α:Type}:List α→List (List α)
 | []=>[[]]
 | a::l=>(perms l).flatMap (wI a)
theorem aMj {α:Type} (a:α):∀(x y:List α),x++a::y∈wI a (x++y)
 | [],[]=>by simp[wI]
 | [],b::y=>by simp[wI]
 | b::x,y=>by
  simp only[List.cons_append,wI,List.mem_cons,List.mem_map]
  exact .inr ⟨_,aMj a x y,rfl⟩
theorem aMh {α:Type}:∀{l m:List α},m.Perm l→m∈perms l
 | [],m,p=>by simp[List.Perm.eq_nil p,perms]
 | a::l,m,p=>by
  obtain⟨x,y,rfl⟩:=List.append_of_mem (p.mem_iff.2 (List.mem_cons_self:a∈a::l))
  have p2:(x++y).Perm l:=(List.perm_cons a).1 (List.perm_middle.symm.trans p)
  exact List.mem_flatMap.2 ⟨x++y,aMh p2,aMj a x y⟩
def aGr:MapEntry→Option (Eg IdM)
 | ⟨.agg c,v,b⟩=>(match c.toList with
  | [.int .i64 x,.int .i64 y]=>some ⟨⟨x,y⟩,v,b⟩
  | _=>none)
 | _=>none
def yJ:List MapEntry→Option (List (Eg IdM))
 | []=>some []
 | e::l=>match aGr e,yJ l with
  | some a,some r=>some (a::r)
  | _,_=>none
theorem aUb {e:MapEntry} {a:Eg IdM} (h:aGr e=some a):e=bM.me a:=by
 unfold aGr at h
 split at h
 ·split at h
  ·rename_i c v b l x y hc
   cases h
   have:c = #[i64 x,i64 y]:=Array.ext' (by rw[hc])
   rw[this]
   rfl
  ·cases h
 ·cases h
theorem aK4:∀{l:List MapEntry} {t:List (Eg IdM)},yJ l=some t→l=t.map bM.me
 | [],t,h=>by simp only[yJ,Option.some.injEq]at h;rw[←h];rfl
 | e::l,t,h=>by
  simp only[yJ]at h
  split at h
  ·rename_i a r h1 h2
   cases h
   rw[List.map_cons,←aK4 h2,←aUb h1]
  ·cases h
def ndB:List Nat→Bool
 | []=>true
 | a::l=>!(l.any fun b=>Nat.beq a b)&&ndB l
theorem aMu:∀{l:List Nat},ndB l=true→l.Nodup
 | [],_=>by simp
 | a::l,h=>by
  simp only[ndB,Bool.and_eq_true,Bool.not_eq_true',List.any_eq_false]at h
  rw[List.nodup_cons]
  exact⟨fun hm=>h.1 a hm (by simp),aMu h.2⟩
end Go.Abs
