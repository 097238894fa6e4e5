/- maps.Keys(m) of maps whose keys are transactions' names: each key comes once. (After the guides' worked proof at another dump.) -/
import Derived.Test.YthhegdifbnghpaaGreatDoorQan
import Derived.Test.YthhegdifbnghpaaGreatDoorProg
import Derived.RangeFuncGives
import Derived.Maps.AppendAt
import Derived.Shelf.AbstractIn
import Derived.RangeFuncSeq
import Derived.Sort.MapsRangeIn
import Derived.Sort.KeysCollected
import Derived.WalkKit
import Derived.OwnWalkIn
import Derived.TacticsInMore
import Derived.RegionIn
import Derived.LoopNIn
import Derived.LoopIn
import Derived.Shelf.Abstract
set_option linter.unusedSimpArgs false
set_option linter.unusedVariables false
namespace Go.Abs
open Go Go.RowKit Go.Maps Go.Sort Go.Shelf Go.Proofs
def vW (r N:Nat) (w:World):Nat:=match w.heap[r]? with | some (.mapIter _ _ seen _)=>N - seen.size | _=>0
theorem tM (W:World) (o:Obj):W.grownBy (W.alloc o) none:=⟨rfl,rfl,rfl,by simp,fun k hk _=>Below.heap_alloc W o k hk⟩
set_option maxRecDepth 100000 in
set_option maxHeartbeats 1000000 in
theorem Col.aU4 (F:Fence) (n:Nat) (h10:F.fn 153) (hro:F.round=none) (hn:1≤n) (l Bm b:Nat) (ces:Array MapEntry) (clk:Nat) (J:List IdM→World→Prop)
 (hlt:∀e∈ces.toList,e.born<clk) (hnd:(ces.toList.map (·.born)).Nodup) (hkey:∀e∈ces.toList,∃i:IdM,e.key=i.agg)
 (hY:∀pre x W,J pre W→pre.length<ces.size→YieldAt F (n - 1) Tryz.prog l #[IdM.agg x] W fun e W'=>e = .returned (.bool true)∧J (pre++[x]) W'∧KeepsWalks W W')
 (W:World) (hJ:AbidesFrom W.heap.size J) (hm:W.cell? ⟨Bm,0,none⟩=some (.map (some b))) (hb:W.heap[b]? = some (.map ces clk)) (h0:J [] W) :
 CallsIn F n Tryz.prog 153 #[.func (.yield l) #[] #[],.pointer (some ⟨Bm,0,none⟩)] W fun e W'=>(∃v,e = .returned v)∧∃ss:List IdM,(ss.map IdM.agg).Perm (ces.toList.map (·.key))∧J ss W':=by
 have hbl:b<W.heap.size:=(Array.getElem?_eq_some_iff.1 hb).1
 refine callsIn_of_wp Tryz.func153 rfl h10 ?_ hro
 simp only[Tryz.ntmps153,List.size_toArray,List.length_cons,List.length_nil,Nat.reduceAdd,Nat.reduceSub,Array.replicate_succ,Array.replicate_zero,List.push_toArray,List.append_toArray,List.nil_append,List.cons_append]
 gi_wp2_with (first
  | (gi_at_range;refine aIa rfl _ 160 rfl 27 _ Tryz.underlying160 rfl hb ?_)
  | gi_in)
 go_frame
 gi_loopw [3] (fun _ wr=>∃(seen:Array Nat) (done:List MapEntry) (ss:List IdM),wr.heap[b]? = some (.map ces clk)∧wr.heap[W.heap.size]? = some (.mapIter (some b) clk seen clk)∧Seen ces.toList done seen∧done.map (·.key)=ss.map IdM.agg∧J ss wr)
  (fun _ wr=>vW W.heap.size ces.size wr)
 case atStart=>
  exact⟨#[],[],[],(Below.heap_alloc W _ b hbl).trans hb,World.alloc_heap_new W _,Seen.nil _,rfl,hJ [] W _ none h0 (tM W _) (fun r e=>by cases e)⟩
 case round=>
  obtain⟨seen,done,ss,hmb,hri,hsn,hds,hJs⟩:=hrel
  gi_wp2_with (first
   | (gi_at_next;refine aH9 rfl _ rfl rfl hlt hmb hri ?_ ?_)
   | gi_in)
  ·intro hall w0 hg0
   gi_wp2
   go_end0
   refine⟨⟨_,rfl⟩,ss,?_,hJ ss wr w0 none hJs hg0 (fun r e=>by cases e)⟩
   rw[←hds]
   exact ((hsn.all hnd fun e he=>hall e (by simpa using he)).map _).symm
  ·intro e he0 hne w2 hg2 hs2 hr2
   have he:e∈ces.toList:=by simpa using he0
   obtain⟨x,hx⟩:=hkey e he
   obtain⟨ek,ev,eb⟩:=e
   simp only at hx hr2 hne
   subst hx
   have hmb2:w2.heap[b]? = some (.map ces clk):=(hg2.block b (Array.getElem?_eq_some_iff.1 hmb).1 (fun e=>by cases e;omega)).trans hmb
   have hen:=aHn (P:=Tryz.prog) (e:=⟨x.agg,ev,eb⟩) hnd he hmb2 hr2
   simp only at hen
   have hJ2:J ss w2:=hJ ss wr w2 (some W.heap.size) hJs hg2 (fun r e=>by cases e;exact⟨Nat.le_refl _,_,hri,rfl⟩)
   have hsn2:=hsn.push he hne
   have hlen:ss.length<ces.size:=by
    have h1:=hsn.lt he hne
    have h2:=congrArg List.length hds
    simp only[List.length_map]at h2
    have h3:ces.toList.length=ces.size:=Array.length_toList
    omega
   have hds2:(done++[(⟨x.agg,ev,eb⟩:MapEntry)]).map (·.key)=(ss++[x]).map IdM.agg:=by simp[hds]
   clear hs2
   simp only[IdM.agg,i64]at hen ⊢
   have hs3:(w2.alloc (.cells #[.int .i64 x.client,.int .i64 x.seq] 27)).heap.size=w2.heap.size+1:=by simp
   obtain⟨fn,tmps,assign,body,hy,hR⟩:=hY ss x (w2.alloc (.cells #[.int .i64 x.client,.int .i64 x.seq] 27)) (hJ ss w2 _ none hJ2 (tM _ _) (fun r e=>by cases e)) hlen
   have hmb3:(w2.alloc (.cells #[.int .i64 x.client,.int .i64 x.seq] 27)).heap[b]? = some (.map ces clk):=(Below.heap_alloc _ _ b (Array.getElem?_eq_some_iff.1 hmb2).1).trans hmb2
   have hr3:(w2.alloc (.cells #[.int .i64 x.client,.int .i64 x.seq] 27)).heap[W.heap.size]? = some (.mapIter (some b) clk (seen.push eb) clk):=(Below.heap_alloc _ _ _ (Array.getElem?_eq_some_iff.1 hr2).1).trans hr2
   clear hs3
   simp only[IdM.agg,i64]at hy
   gi_wp2
   refine hR.mono ?_
   rintro e W3 ⟨rfl,hJ3,hk3⟩
   gi_wp2
   have hr4:=hk3.same _ _ hr3 rfl
   go_roundw
   case rel=>exact⟨_,_,_,hk3.same _ _ hmb3 rfl,hr4,hsn2,hds2,hJ3⟩
   case measure=>
    have h1:=hsn.lt he hne
    have h3:ces.toList.length=ces.size:=Array.length_toList
    have h4:seen.size=done.length:=by rw[hsn.eq];simp
    simp only[vW,hr4,hri,Array.size_push]
    omega
set_option maxRecDepth 100000 in
set_option maxHeartbeats 1000000 in
theorem Col.aU5 (F:Fence) (n:Nat) (h10:F.fn 207) (hro:F.round=none) (hn:1≤n) (l Bm b:Nat) (ces:Array MapEntry) (clk:Nat) (J:List IdM→World→Prop)
 (hlt:∀e∈ces.toList,e.born<clk) (hnd:(ces.toList.map (·.born)).Nodup) (hkey:∀e∈ces.toList,∃i:IdM,e.key=i.agg)
 (hY:∀pre x W,J pre W→pre.length<ces.size→YieldAt F (n - 1) Tryz.prog l #[IdM.agg x] W fun e W'=>e = .returned (.bool true)∧J (pre++[x]) W'∧KeepsWalks W W')
 (W:World) (hJ:AbidesFrom W.heap.size J) (hm:W.cell? ⟨Bm,0,none⟩=some (.map (some b))) (hb:W.heap[b]? = some (.map ces clk)) (h0:J [] W) :
 CallsIn F n Tryz.prog 207 #[.func (.yield l) #[] #[],.pointer (some ⟨Bm,0,none⟩)] W fun e W'=>(∃v,e = .returned v)∧∃ss:List IdM,(ss.map IdM.agg).Perm (ces.toList.map (·.key))∧J ss W':=by
 have hbl:b<W.heap.size:=(Array.getElem?_eq_some_iff.1 hb).1
 refine callsIn_of_wp Tryz.func207 rfl h10 ?_ hro
 simp only[Tryz.ntmps207,List.size_toArray,List.length_cons,List.length_nil,Nat.reduceAdd,Nat.reduceSub,Array.replicate_succ,Array.replicate_zero,List.push_toArray,List.append_toArray,List.nil_append,List.cons_append]
 gi_wp2_with (first
  | (gi_at_range;refine aIa rfl _ 214 rfl 27 _ Tryz.underlying214 rfl hb ?_)
  | gi_in)
 go_frame
 gi_loopw [3] (fun _ wr=>∃(seen:Array Nat) (done:List MapEntry) (ss:List IdM),wr.heap[b]? = some (.map ces clk)∧wr.heap[W.heap.size]? = some (.mapIter (some b) clk seen clk)∧Seen ces.toList done seen∧done.map (·.key)=ss.map IdM.agg∧J ss wr)
  (fun _ wr=>vW W.heap.size ces.size wr)
 case atStart=>
  exact⟨#[],[],[],(Below.heap_alloc W _ b hbl).trans hb,World.alloc_heap_new W _,Seen.nil _,rfl,hJ [] W _ none h0 (tM W _) (fun r e=>by cases e)⟩
 case round=>
  obtain⟨seen,done,ss,hmb,hri,hsn,hds,hJs⟩:=hrel
  gi_wp2_with (first
   | (gi_at_next;refine aH9 rfl _ rfl rfl hlt hmb hri ?_ ?_)
   | gi_in)
  ·intro hall w0 hg0
   gi_wp2
   go_end0
   refine⟨⟨_,rfl⟩,ss,?_,hJ ss wr w0 none hJs hg0 (fun r e=>by cases e)⟩
   rw[←hds]
   exact ((hsn.all hnd fun e he=>hall e (by simpa using he)).map _).symm
  ·intro e he0 hne w2 hg2 hs2 hr2
   have he:e∈ces.toList:=by simpa using he0
   obtain⟨x,hx⟩:=hkey e he
   obtain⟨ek,ev,eb⟩:=e
   simp only at hx hr2 hne
   subst hx
   have hmb2:w2.heap[b]? = some (.map ces clk):=(hg2.block b (Array.getElem?_eq_some_iff.1 hmb).1 (fun e=>by cases e;omega)).trans hmb
   have hen:=aHn (P:=Tryz.prog) (e:=⟨x.agg,ev,eb⟩) hnd he hmb2 hr2
   simp only at hen
   have hJ2:J ss w2:=hJ ss wr w2 (some W.heap.size) hJs hg2 (fun r e=>by cases e;exact⟨Nat.le_refl _,_,hri,rfl⟩)
   have hsn2:=hsn.push he hne
   have hlen:ss.length<ces.size:=by
    have h1:=hsn.lt he hne
    have h2:=congrArg List.length hds
    simp only[List.length_map]at h2
    have h3:ces.toList.length=ces.size:=Array.length_toList
    omega
   have hds2:(done++[(⟨x.agg,ev,eb⟩:MapEntry)]).map (·.key)=(ss++[x]).map IdM.agg:=by simp[hds]
   clear hs2
   simp only[IdM.agg,i64]at hen ⊢
   have hs3:(w2.alloc (.cells #[.int .i64 x.client,.int .i64 x.seq] 27)).heap.size=w2.heap.size+1:=by simp
   obtain⟨fn,tmps,assign,body,hy,hR⟩:=hY ss x (w2.alloc (.cells #[.int .i64 x.client,.int .i64 x.seq] 27)) (hJ ss w2 _ none hJ2 (tM _ _) (fun r e=>by cases e)) hlen
   have hmb3:(w2.alloc (.cells #[.int .i64 x.client,.int .i64 x.seq] 27)).heap[b]? = some (.map ces clk):=(Below.heap_alloc _ _ b (Array.getElem?_eq_some_iff.1 hmb2).1).trans hmb2
   have hr3:(w2.alloc (.cells #[.int .i64 x.client,.int .i64 x.seq] 27)).heap[W.heap.size]? = some (.mapIter (some b) clk (seen.push eb) clk):=(Below.heap_alloc _ _ _ (Array.getElem?_eq_some_iff.1 hr2).1).trans hr2
   clear hs3
   simp only[IdM.agg,i64]at hy
   gi_wp2
   refine hR.mono ?_
   rintro e W3 ⟨rfl,hJ3,hk3⟩
   gi_wp2
   have hr4:=hk3.same _ _ hr3 rfl
   go_roundw
   case rel=>exact⟨_,_,_,hk3.same _ _ hmb3 rfl,hr4,hsn2,hds2,hJ3⟩
   case measure=>
    have h1:=hsn.lt he hne
    have h3:ces.toList.length=ces.size:=Array.length_toList
    have h4:seen.size=done.length:=by rw[hsn.eq];simp
    simp only[vW,hr4,hri,Array.size_push]
    omega
set_option maxRecDepth 100000 in
set_option maxHeartbeats 1000000 in
theorem Col.aU3 (F:Fence) (n:Nat) (h10:F.fn 130) (hro:F.round=none) (hn:1≤n) (l Bm b:Nat) (ces:Array MapEntry) (clk:Nat) (J:List IdM→World→Prop)
 (hlt:∀e∈ces.toList,e.born<clk) (hnd:(ces.toList.map (·.born)).Nodup) (hkey:∀e∈ces.toList,∃i:IdM,e.key=i.agg)
 (hY:∀pre x W,J pre W→pre.length<ces.size→YieldAt F (n - 1) Tryz.prog l #[IdM.agg x] W fun e W'=>e = .returned (.bool true)∧J (pre++[x]) W'∧KeepsWalks W W')
 (W:World) (hJ:AbidesFrom W.heap.size J) (hm:W.cell? ⟨Bm,0,none⟩=some (.map (some b))) (hb:W.heap[b]? = some (.map ces clk)) (h0:J [] W) :
 CallsIn F n Tryz.prog 130 #[.func (.yield l) #[] #[],.pointer (some ⟨Bm,0,none⟩)] W fun e W'=>(∃v,e = .returned v)∧∃ss:List IdM,(ss.map IdM.agg).Perm (ces.toList.map (·.key))∧J ss W':=by
 have hbl:b<W.heap.size:=(Array.getElem?_eq_some_iff.1 hb).1
 refine callsIn_of_wp Tryz.func130 rfl h10 ?_ hro
 simp only[Tryz.ntmps130,List.size_toArray,List.length_cons,List.length_nil,Nat.reduceAdd,Nat.reduceSub,Array.replicate_succ,Array.replicate_zero,List.push_toArray,List.append_toArray,List.nil_append,List.cons_append]
 gi_wp2_with (first
  | (gi_at_range;refine aIa rfl _ 122 rfl 27 _ Tryz.underlying122 rfl hb ?_)
  | gi_in)
 go_frame
 gi_loopw [3] (fun _ wr=>∃(seen:Array Nat) (done:List MapEntry) (ss:List IdM),wr.heap[b]? = some (.map ces clk)∧wr.heap[W.heap.size]? = some (.mapIter (some b) clk seen clk)∧Seen ces.toList done seen∧done.map (·.key)=ss.map IdM.agg∧J ss wr)
  (fun _ wr=>vW W.heap.size ces.size wr)
 case atStart=>
  exact⟨#[],[],[],(Below.heap_alloc W _ b hbl).trans hb,World.alloc_heap_new W _,Seen.nil _,rfl,hJ [] W _ none h0 (tM W _) (fun r e=>by cases e)⟩
 case round=>
  obtain⟨seen,done,ss,hmb,hri,hsn,hds,hJs⟩:=hrel
  gi_wp2_with (first
   | (gi_at_next;refine aH9 rfl _ rfl rfl hlt hmb hri ?_ ?_)
   | gi_in)
  ·intro hall w0 hg0
   gi_wp2
   go_end0
   refine⟨⟨_,rfl⟩,ss,?_,hJ ss wr w0 none hJs hg0 (fun r e=>by cases e)⟩
   rw[←hds]
   exact ((hsn.all hnd fun e he=>hall e (by simpa using he)).map _).symm
  ·intro e he0 hne w2 hg2 hs2 hr2
   have he:e∈ces.toList:=by simpa using he0
   obtain⟨x,hx⟩:=hkey e he
   obtain⟨ek,ev,eb⟩:=e
   simp only at hx hr2 hne
   subst hx
   have hmb2:w2.heap[b]? = some (.map ces clk):=(hg2.block b (Array.getElem?_eq_some_iff.1 hmb).1 (fun e=>by cases e;omega)).trans hmb
   have hen:=aHn (P:=Tryz.prog) (e:=⟨x.agg,ev,eb⟩) hnd he hmb2 hr2
   simp only at hen
   have hJ2:J ss w2:=hJ ss wr w2 (some W.heap.size) hJs hg2 (fun r e=>by cases e;exact⟨Nat.le_refl _,_,hri,rfl⟩)
   have hsn2:=hsn.push he hne
   have hlen:ss.length<ces.size:=by
    have h1:=hsn.lt he hne
    have h2:=congrArg List.length hds
    simp only[List.length_map]at h2
    have h3:ces.toList.length=ces.size:=Array.length_toList
    omega
   have hds2:(done++[(⟨x.agg,ev,eb⟩:MapEntry)]).map (·.key)=(ss++[x]).map IdM.agg:=by simp[hds]
   clear hs2
   simp only[IdM.agg,i64]at hen ⊢
   have hs3:(w2.alloc (.cells #[.int .i64 x.client,.int .i64 x.seq] 27)).heap.size=w2.heap.size+1:=by simp
   obtain⟨fn,tmps,assign,body,hy,hR⟩:=hY ss x (w2.alloc (.cells #[.int .i64 x.client,.int .i64 x.seq] 27)) (hJ ss w2 _ none hJ2 (tM _ _) (fun r e=>by cases e)) hlen
   have hmb3:(w2.alloc (.cells #[.int .i64 x.client,.int .i64 x.seq] 27)).heap[b]? = some (.map ces clk):=(Below.heap_alloc _ _ b (Array.getElem?_eq_some_iff.1 hmb2).1).trans hmb2
   have hr3:(w2.alloc (.cells #[.int .i64 x.client,.int .i64 x.seq] 27)).heap[W.heap.size]? = some (.mapIter (some b) clk (seen.push eb) clk):=(Below.heap_alloc _ _ _ (Array.getElem?_eq_some_iff.1 hr2).1).trans hr2
   clear hs3
   simp only[IdM.agg,i64]at hy
   gi_wp2
   refine hR.mono ?_
   rintro e W3 ⟨rfl,hJ3,hk3⟩
   gi_wp2
   have hr4:=hk3.same _ _ hr3 rfl
   go_roundw
   case rel=>exact⟨_,_,_,hk3.same _ _ hmb3 rfl,hr4,hsn2,hds2,hJ3⟩
   case measure=>
    have h1:=hsn.lt he hne
    have h3:ces.toList.length=ces.size:=Array.length_toList
    have h4:seen.size=done.length:=by rw[hsn.eq];simp
    simp only[vW,hr4,hri,Array.size_push]
    omega
theorem Col.aU1 (F:Fence) (n:Nat) (h10:F.fn 153) (hro:F.round=none) (hn:1≤n) (Bm b:Nat) (ces:Array MapEntry) (clk:Nat) (hlt:∀e∈ces.toList,e.born<clk) (hnd:(ces.toList.map (·.born)).Nodup)
 (hkey:∀e∈ces.toList,∃i:IdM,e.key=i.agg) (w:World) (hBm:Bm<w.heap.size) (hm:w.cell? ⟨Bm,0,none⟩=some (.map (some b))) (hb:w.heap[b]? = some (.map ces clk)) :
 SeqGives F n Tryz.prog 153 #[.pointer (some ⟨Bm,0,none⟩)] IdM.agg (fun ss=>(ss.map IdM.agg).Perm (ces.toList.map (·.key))) ces.size w:=fun l J W hW hJ hY h0=>
 Col.aU4 F n h10 hro hn l Bm b ces clk J hlt hnd hkey hY W hJ ((hW.cell (p:=⟨Bm,0,none⟩) hBm).trans hm) ((hW.block b (Array.getElem?_eq_some_iff.1 hb).1).trans hb) h0
theorem Col.aU2 (F:Fence) (n:Nat) (h10:F.fn 207) (hro:F.round=none) (hn:1≤n) (Bm b:Nat) (ces:Array MapEntry) (clk:Nat) (hlt:∀e∈ces.toList,e.born<clk) (hnd:(ces.toList.map (·.born)).Nodup)
 (hkey:∀e∈ces.toList,∃i:IdM,e.key=i.agg) (w:World) (hBm:Bm<w.heap.size) (hm:w.cell? ⟨Bm,0,none⟩=some (.map (some b))) (hb:w.heap[b]? = some (.map ces clk)) :
 SeqGives F n Tryz.prog 207 #[.pointer (some ⟨Bm,0,none⟩)] IdM.agg (fun ss=>(ss.map IdM.agg).Perm (ces.toList.map (·.key))) ces.size w:=fun l J W hW hJ hY h0=>
 Col.aU5 F n h10 hro hn l Bm b ces clk J hlt hnd hkey hY W hJ ((hW.cell (p:=⟨Bm,0,none⟩) hBm).trans hm) ((hW.block b (Array.getElem?_eq_some_iff.1 hb).1).trans hb) h0
theorem Col.aU0 (F:Fence) (n:Nat) (h10:F.fn 130) (hro:F.round=none) (hn:1≤n) (Bm b:Nat) (ces:Array MapEntry) (clk:Nat) (hlt:∀e∈ces.toList,e.born<clk) (hnd:(ces.toList.map (·.born)).Nodup)
 (hkey:∀e∈ces.toList,∃i:IdM,e.key=i.agg) (w:World) (hBm:Bm<w.heap.size) (hm:w.cell? ⟨Bm,0,none⟩=some (.map (some b))) (hb:w.heap[b]? = some (.map ces clk)) :
 SeqGives F n Tryz.prog 130 #[.pointer (some ⟨Bm,0,none⟩)] IdM.agg (fun ss=>(ss.map IdM.agg).Perm (ces.toList.map (·.key))) ces.size w:=fun l J W hW hJ hY h0=>
 Col.aU3 F n h10 hro hn l Bm b ces clk J hlt hnd hkey hY W hJ ((hW.cell (p:=⟨Bm,0,none⟩) hBm).trans hm) ((hW.block b (Array.getElem?_eq_some_iff.1 hb).1).trans hb) h0
end Go.Abs
