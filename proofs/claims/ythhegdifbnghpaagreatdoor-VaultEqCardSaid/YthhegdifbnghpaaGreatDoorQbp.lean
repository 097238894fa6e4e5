/- What is closed in the laws below: estafettelaw8.Begun, estafettelaw12.Begun: the kernel runs them. -/
import Derived.Test.YthhegdifbnghpaaGreatDoorQar
import Derived.Test.YthhegdifbnghpaaGreatDoorQbi
import Derived.Test.YthhegdifbnghpaaGreatDoorQbj
import Derived.Test.YthhegdifbnghpaaGreatDoorQap
import Derived.Test.YthhegdifbnghpaaGreatDoorQbn
import Derived.Shelf.SlLaysF0
import Derived.Ground.SlsfProg
import Derived.Ground.NamesProg
import Derived.Test.YthhegdifbnghpaaGreatDoorProg
import Derived.Test.YthhegdifbnghpaaGreatDoorQas
import Derived.Test.YthhegdifbnghpaaGreatDoorQax
import Derived.Test.YthhegdifbnghpaaGreatDoorQat
import Derived.Test.YthhegdifbnghpaaGreatDoorQbf
import Derived.Test.YthhegdifbnghpaaGreatDoorQbg
namespace Go.Proofs
open Go.Shelf
def Tryz.bAf : Go.Shelf.Ren := ⟨fun | 6 => 206 | 15 => 271 | 14 => 270 | 28 => 305 | 29 => 306 | 20 => 297 | 21 => 298 | 22 => 299 | 23 => 300 | 24 => 301 | 25 => 302 | 26 => 303 | 27 => 304 | 46 => 339 | 47 => 340 | 48 => 341 | 49 => 342 | 50 => 343 | 57 => 368 | n => n, fun | 22 => 42 | 24 => 27 | 25 => 220 | 3 => 3 | 39 => 337 | 0 => 0 | 53 => 222 | 55 => 334 | 4 => 4 | 46 => 359 | 45 => 358 | 50 => 352 | 5 => 5 | 9 => 9 | 66 => 392 | 70 => 396 | 76 => 417 | 77 => 418 | n => n, fun | n => n⟩
theorem Tryz.bAe : Go.Proofs.SlLaysF0.n6 Tryz.prog Tryz.bAf := {
  mixed := by kernel_rfl
  f6 := ⟨Tryz.f206.name, by decide, Tryz.func206.trans (congrArg some (by kernel_rfl))⟩
  f14 := ⟨Tryz.f270.name, by decide, Tryz.func270.trans (congrArg some (by kernel_rfl))⟩
  f15 := Tryz.func271.trans (congrArg some (by kernel_rfl))
  f20 := ⟨Tryz.f297.name, by decide, Tryz.func297.trans (congrArg some (by kernel_rfl))⟩
  f21 := ⟨Tryz.f298.name, by decide, Tryz.func298.trans (congrArg some (by kernel_rfl))⟩
  f22 := ⟨Tryz.f299.name, by decide, Tryz.func299.trans (congrArg some (by kernel_rfl))⟩
  f23 := ⟨Tryz.f300.name, by decide, Tryz.func300.trans (congrArg some (by kernel_rfl))⟩
  f24 := ⟨Tryz.f301.name, by decide, Tryz.func301.trans (congrArg some (by kernel_rfl))⟩
  f25 := ⟨Tryz.f302.name, by decide, Tryz.func302.trans (congrArg some (by kernel_rfl))⟩
  f26 := ⟨Tryz.f303.name, by decide, Tryz.func303.trans (congrArg some (by kernel_rfl))⟩
  f27 := ⟨Tryz.f304.name, by decide, Tryz.func304.trans (congrArg some (by kernel_rfl))⟩
  f28 := Tryz.func305.trans (congrArg some (by kernel_rfl))
  f29 := Tryz.func306.trans (congrArg some (by kernel_rfl))
  f46 := ⟨Tryz.f339.name, by decide, Tryz.func339.trans (congrArg some (by kernel_rfl))⟩
  f47 := Tryz.func340.trans (congrArg some (by kernel_rfl))
  f48 := Tryz.func341.trans (congrArg some (by kernel_rfl))
  f49 := ⟨Tryz.f342.name, by decide, Tryz.func342.trans (congrArg some (by kernel_rfl))⟩
  f50 := ⟨Tryz.f343.name, by decide, Tryz.func343.trans (congrArg some (by kernel_rfl))⟩
  f57 := ⟨Tryz.f368.name, by decide, Tryz.func368.trans (congrArg some (by kernel_rfl))⟩
  t0 := Tryz.underlying0
  a0 := Tryz.isAgg0
  z0 := Tryz.sizeOf0
  v0 := Tryz.zeroValue0
  t3 := Tryz.underlying3
  a3 := Tryz.isAgg3
  z3 := Tryz.sizeOf3
  v3 := Tryz.zeroValue3
  t4 := Tryz.underlying4
  a4 := Tryz.isAgg4
  z4 := Tryz.sizeOf4
  v4 := Tryz.zeroValue4
  t5 := Tryz.underlying5
  a5 := Tryz.isAgg5
  z5 := Tryz.sizeOf5
  v5 := Tryz.zeroValue5
  t9 := Tryz.underlying9
  a9 := Tryz.isAgg9
  z9 := Tryz.sizeOf9
  v9 := Tryz.zeroValue9
  t22 := Tryz.underlying42
  a22 := Tryz.isAgg42
  z22 := Tryz.sizeOf42
  v22 := Tryz.zeroValue42
  t25 := Tryz.underlying220
  a25 := Tryz.isAgg220
  z25 := Tryz.sizeOf220
  v25 := Tryz.zeroValue220
  t39 := Tryz.underlying337
  a39 := Tryz.isAgg337
  z39 := Tryz.sizeOf337
  v39 := Tryz.zeroValue337
  t45 := Tryz.underlying358
  a45 := Tryz.isAgg358
  z45 := Tryz.sizeOf358
  v45 := Tryz.zeroValue358
  t46 := Tryz.underlying359
  a46 := Tryz.isAgg359
  z46 := Tryz.sizeOf359
  v46 := Tryz.zeroValue359
  t50 := Tryz.underlying352
  a50 := Tryz.isAgg352
  z50 := Tryz.sizeOf352
  v50 := Tryz.zeroValue352
  t53 := Tryz.underlying222
  a53 := Tryz.isAgg222
  z53 := Tryz.sizeOf222
  v53 := Tryz.zeroValue222
  t55 := Tryz.underlying334
  a55 := Tryz.isAgg334
  z55 := Tryz.sizeOf334
  v55 := Tryz.zeroValue334
  t66 := Tryz.underlying392
  a66 := Tryz.isAgg392
  z66 := Tryz.sizeOf392
  v66 := Tryz.zeroValue392
  t70 := Tryz.underlying396
  a70 := Tryz.isAgg396
  z70 := Tryz.sizeOf396
  v70 := Tryz.zeroValue396
  t76 := Tryz.underlying417
  a76 := Tryz.isAgg417
  z76 := Tryz.sizeOf417
  v76 := Tryz.zeroValue417
  t77 := Tryz.underlying418
  a77 := Tryz.isAgg418
  z77 := Tryz.sizeOf418
  v77 := Tryz.zeroValue418 }
end Go.Proofs
set_option linter.unusedSimpArgs false
set_option linter.unusedVariables false
namespace Go.Abs
open Go Go.Proofs
theorem yS:Tryz.prog.follows .mixedOrders=true:=by kernel_rfl
def PU:List (Nat×(List V→aA→Ans)):=[(336,aEe yI),(337,aEe trimB),(317,aFr),(154,aHv [316,293,219]),(72,aFv [153,207,130])]
theorem nI:aO Tryz.prog J8 (fun _=>none):=fun _ _ h=>by cases h
theorem nM:aJ (fun _=>none):=fun _ _ h=>by cases h
theorem aIp:∀f g,lkL PU f=some g→aD Tryz.prog J8 f (kT g):=by
 refine aL2 (p:=fun f g=>aD Tryz.prog J8 f (kT g)) fun x hx=>?_
 simp only[PU,List.mem_cons,List.not_mem_nil,or_false]at hx
 rcases hx with rfl | rfl | rfl | rfl | rfl
 ·have e:Tryz.aLv.f 173=336:=by kernel_rfl
  have h:=aTx (J:=J8) rQ Tryz.aVc (by rw[e];exact Tryz.call336)
  rw[e]at h
  exact aO4 h aTy
 ·have e:Tryz.aGz.f 160=337:=by kernel_rfl
  have h:=aZa (J:=J8) rQ Tryz.aLu (by kernel_rfl) (by rw[e];exact Tryz.call337)
  rw[e]at h
  exact aO4 h aZb
 ·exact aR3 (S.pL nI nM)
 ·refine aYe (fun g hg=>?_) (S.oW nI nM)
  simp only[List.mem_cons,List.not_mem_nil,or_false]at hg
  rcases hg with rfl | rfl | rfl
  ·exact .inl rfl
  ·exact .inr (.inl rfl)
  ·exact .inr (.inr rfl)
 ·refine aSd (fun g hg=>?_) (S.uK nI nM)
  simp only[List.mem_cons,List.not_mem_nil,or_false]at hg
  rcases hg with rfl | rfl | rfl
  ·exact .inl rfl
  ·exact .inr (.inl rfl)
  ·exact .inr (.inr rfl)
set_option maxRecDepth 100000
theorem aQ7:aD Tryz.prog J8 239 rR:=xV yS aIp W7.wV 40 239 (by kernel_rfl)
def P1:=(239,uO)::PU
theorem aE4:∀f g,lkL P1 f=some g→aD Tryz.prog J8 f (kT g):=aCd aIp aQ7
theorem aRb:aD Tryz.prog J8 103 rR:=xV yS aE4 W7.wV 40 103 (by kernel_rfl)
theorem aRa:aD Tryz.prog J8 240 rR:=xV yS aE4 W7.wV 40 240 (by kernel_rfl)
def P7:=(240,uO)::P1
theorem aIo:∀f g,lkL P7 f=some g→aD Tryz.prog J8 f (kT g):=aCd aE4 aRa
theorem aQ8:aD Tryz.prog J8 104 rR:=xV yS aIo W7.wV 40 104 (by kernel_rfl)
end Go.Abs
namespace Go.Proofs
open Go.Shelf
end Go.Proofs
set_option maxRecDepth 20000
namespace Go.Abs
open Go Go.Proofs Go.RowKit
theorem aD.aRt {P:Program} {J:World→Prop} {f:FuncId} {s:Spec} (hs:aD P J f s) (hcall:∀(args:Array V) (w:World),(callFunc f args).run P w = .ok (.enter f args) w)
 {l:List V} (hc:∀v∈l,bS v=true) {v0:V} (h0:bS v0=true) (hq:s l ⟨fun _=>none,0⟩ fun v _=>v=v0) {w:World} (hJ:cP J w.heap.size) (hw:J w) :
 Calls P f l.toArray w fun e w'=>e = .returned v0∧Below w.heap.size w w'∧J w':=by
 have hR:R J w.heap.size (fun _=>none) ⟨fun _=>none,0⟩ w:=⟨Nat.le_refl _,fun _ _ h=>(by cases h),fun _ _ h=>(by cases h),fun _ _ _ _ _ _ h=>(by cases h),hw⟩
 obtain⟨n,w1,h1,h2⟩:=hs _ hJ _ _ w l l.toArray _ hq hR ⟨rfl,fun i h1 h2=>VR.closed (hc _ (List.getElem_mem h1))⟩
 rw[hcall]at h1
 cases h1
 refine Calls.mono h2 ?_
 rintro e w' ⟨v',rfl,r',v,h',rfl,hR',hE,hv⟩
 exact⟨by rw[VR.oE h0 hv],hE.below hR,hR'.inv⟩
variable {J:World→Prop} {I:FuncId→Option Spec}
theorem Ord.mixed:Tryz.prog.follows .mixedOrders=true:=by kernel_rfl
theorem Ord.isNaN:aD Tryz.prog J 272 (F.cmp_isNaN_int ⟨I,kk⟩):=by
 refine aD.aT (I:=lkI []) (aX trivial) (aW _) Ord.mixed W7.A.cmp_isNaN_int Tryz.func272 rfl (by kernel_rfl) (by kernel_rfl) Tryz.call272 fun args h K hs=>?_
 match args,hs with
 | [a0],hs=>exact⟨Nat.le_of_ble_eq_true (by kernel_rfl),Eq.mp (by kernel_rfl) hs⟩
theorem Ord.compare:aD Tryz.prog J 209 (F.iM ⟨I,kk⟩):=by
 refine aD.aT (I:=lkI [(272,F.cmp_isNaN_int ⟨I,kk⟩)]) (aX ⟨Ord.isNaN,trivial⟩) (aW _) Ord.mixed W7.A.iM Tryz.func209 rfl (by kernel_rfl) (by kernel_rfl) Tryz.call209 fun args h K hs=>?_
 match args,hs with
 | [a0,a1],hs=>exact⟨Nat.le_of_ble_eq_true (by kernel_rfl),Eq.mp (by kernel_rfl) hs⟩
theorem Ord.aUp:aD Tryz.prog J 273 (F.gX ⟨I,kk⟩):=by
 refine aD.aT (I:=lkI []) (aX trivial) (aW _) Ord.mixed W7.A.gX Tryz.func273 rfl (by kernel_rfl) (by kernel_rfl) Tryz.call273 fun args h K hs=>?_
 match args,hs with
 | [a0],hs=>exact⟨Nat.le_of_ble_eq_true (by kernel_rfl),Eq.mp (by kernel_rfl) hs⟩
theorem Ord.aSj:aD Tryz.prog J 210 (F.iN ⟨I,kk⟩):=by
 refine aD.aT (I:=lkI [(273,F.gX ⟨I,kk⟩)]) (aX ⟨Ord.aUp,trivial⟩) (aW _) Ord.mixed W7.A.iN Tryz.func210 rfl (by kernel_rfl) (by kernel_rfl) Tryz.call210 fun args h K hs=>?_
 match args,hs with
 | [a0,a1],hs=>exact⟨Nat.le_of_ble_eq_true (by kernel_rfl),Eq.mp (by kernel_rfl) hs⟩
theorem Ord.or_:aD Tryz.prog J 208 (F.fW ⟨I,kk⟩):=by
 refine aD.aT (I:=lkI []) (aX trivial) (aW _) Ord.mixed W7.A.fW Tryz.func208 rfl (by kernel_rfl) (by kernel_rfl) Tryz.call208 fun args h K hs=>?_
 match args,hs with
 | [a0],hs=>exact⟨Nat.le_of_ble_eq_true (by kernel_rfl),Eq.mp (by kernel_rfl) hs⟩
theorem Ord.order:aD Tryz.prog J 133 (F.gQ ⟨I,kk⟩):=by
 refine aD.aT (I:=lkI [(209,F.iM ⟨I,kk⟩),(210,F.iN ⟨I,kk⟩),(208,F.fW ⟨I,kk⟩)]) (aX ⟨Ord.compare,Ord.aSj,Ord.or_,trivial⟩) (aW _) Ord.mixed W7.A.gQ Tryz.func133 rfl (by kernel_rfl) (by kernel_rfl) Tryz.call133 fun args h K hs=>?_
 match args,hs with
 | [a0,a1],hs=>exact⟨Nat.le_of_ble_eq_true (by kernel_rfl),Eq.mp (by kernel_rfl) hs⟩
theorem Ord.calls (W:World) (x y:IdM):Calls Tryz.prog 133 #[x.agg,y.agg] W fun e w'=>e = .returned (.int .i64 (iZ x y))∧Below W.heap.size W w'∧W.drawn≤w'.drawn:=by
 have hs:aD Tryz.prog (fun w=>W.drawn≤w.drawn) 133 (cl (F.gQ ⟨fun _=>none,kk⟩)):=aD.cl Ord.order
 exact hs.aRt (l:=[x.agg,y.agg]) Tryz.call133 (by simp[IdM.agg,bS,iL]) (v0:=i64 (iZ x y)) rfl (aK (gQ x y) fun r h ⟨e,_⟩=>e) (fun w w' h _ hd=>Nat.le_trans h hd) (Nat.le_refl _)
theorem Ord.aX8:aD Tryz.prog J8 206 (F.nO ⟨I,kk⟩):=by
 have e:Tryz.bAf.f 6=206:=by kernel_rfl
 have h:=L.aP7 (J:=J8) (cf:=iZ) rQ Tryz.bAe (fun w=>by kernel_rfl) (fun w=>by kernel_rfl) Tryz.call133 aWy Ord.calls (by rw[e];exact Tryz.call206)
 rw[e]at h
 exact h
end Go.Abs
set_option maxRecDepth 100000
namespace Go.Abs
open Go Go.Proofs
def PV:List (Nat×(List V→aA→Ans)):=(103,uO)::(104,uO)::P7
theorem aP5:∀f g,lkL PV f=some g→aD Tryz.prog J8 f (kT g):=aCd (aCd aIo aQ8) aRb
theorem aQ9:aD Tryz.prog J8 47 rR:=xV yS aP5 W7.wV 60 47 (by kernel_rfl)
end Go.Abs
set_option maxRecDepth 20000
namespace Go.Abs
open Go Go.Proofs
abbrev J:World→Prop:=J8
variable {I:FuncId→Option Spec}
theorem mixed:Tryz.prog.follows .mixedOrders=true:=by kernel_rfl
theorem S.nJ (hI:aO Tryz.prog J I) (mI:aJ I):aD Tryz.prog J 200 (F.nJ ⟨I,kk⟩):=by
 refine aD.aT (I:=I) hI mI mixed W7.A.nJ Tryz.func200 rfl (by kernel_rfl) (by kernel_rfl) Tryz.call200 fun args h K hs=>?_
 match args,hs with
 | [a0,a1],hs=>exact⟨Nat.le_of_ble_eq_true (by kernel_rfl),Eq.mp (by kernel_rfl) hs⟩
theorem S.nF (hI:aO Tryz.prog J I) (mI:aJ I):aD Tryz.prog J 125 (F.nF ⟨I,kk⟩):=by
 refine aD.aT (I:=lkI [(200,F.nJ ⟨I,kk⟩)]) (aX ⟨S.nJ hI mI,trivial⟩) (aW _) mixed W7.A.nF Tryz.func125 rfl (by kernel_rfl) (by kernel_rfl) Tryz.call125 fun args h K hs=>?_
 match args,hs with
 | [a0,a1],hs=>exact⟨Nat.le_of_ble_eq_true (by kernel_rfl),Eq.mp (by kernel_rfl) hs⟩
theorem S.jW (hI:aO Tryz.prog J I) (mI:aJ I):aD Tryz.prog J 201 (F.jW ⟨I,kk⟩):=by
 refine aD.aT (I:=lkI []) (aX trivial) (aW _) mixed W7.A.jW Tryz.func201 rfl (by kernel_rfl) (by kernel_rfl) Tryz.call201 fun args h K hs=>?_
 match args,hs with
 | [a0],hs=>exact⟨Nat.le_of_ble_eq_true (by kernel_rfl),Eq.mp (by kernel_rfl) hs⟩
theorem S.nU (hI:aO Tryz.prog J I) (mI:aJ I):aD Tryz.prog J 295 (F.nU ⟨I,kk⟩):=by
 refine aD.aT (I:=I) hI mI mixed W7.A.nU Tryz.func295 rfl (by kernel_rfl) (by kernel_rfl) Tryz.call295 fun args h K hs=>?_
 match args,hs with
 | [a0,a1,a2],hs=>exact⟨Nat.le_of_ble_eq_true (by kernel_rfl),Eq.mp (by kernel_rfl) hs⟩
theorem S.nT (hI:aO Tryz.prog J I) (mI:aJ I):aD Tryz.prog J 268 (F.nT ⟨I,kk⟩):=by
 refine aD.aT (I:=lkI [(295,F.nU ⟨I,kk⟩)]) (aX ⟨S.nU hI mI,trivial⟩) (aW _) mixed W7.A.nT Tryz.func268 rfl (by kernel_rfl) (by kernel_rfl) Tryz.call268 fun args h K hs=>?_
 match args,hs with
 | [a0,a1],hs=>exact⟨Nat.le_of_ble_eq_true (by kernel_rfl),Eq.mp (by kernel_rfl) hs⟩
theorem S.nS (hI:aO Tryz.prog J I) (mI:aJ I):aD Tryz.prog J 203 (F.nS ⟨I,kk⟩):=by
 refine aD.aT (I:=lkI [(268,F.nT ⟨I,kk⟩)]) (aX ⟨S.nT hI mI,trivial⟩) (aW _) mixed W7.A.nS Tryz.func203 rfl (by kernel_rfl) (by kernel_rfl) Tryz.call203 fun args h K hs=>?_
 match args,hs with
 | [a0,a1],hs=>exact⟨Nat.le_of_ble_eq_true (by kernel_rfl),Eq.mp (by kernel_rfl) hs⟩
theorem S.jV (hI:aO Tryz.prog J I) (mI:aJ I):aD Tryz.prog J 204 (F.jV ⟨I,kk⟩):=by
 refine aD.aT (I:=lkI []) (aX trivial) (aW _) mixed W7.A.jV Tryz.func204 rfl (by kernel_rfl) (by kernel_rfl) Tryz.call204 fun args h K hs=>?_
 match args,hs with
 | [a0],hs=>exact⟨Nat.le_of_ble_eq_true (by kernel_rfl),Eq.mp (by kernel_rfl) hs⟩
theorem S.eU (hI:aO Tryz.prog J I) (mI:aJ I):aD Tryz.prog J 202 (F.eU ⟨I,kk⟩):=by
 refine aD.aT (I:=lkI []) (aX trivial) (aW _) mixed W7.A.eU Tryz.func202 rfl (by kernel_rfl) (by kernel_rfl) Tryz.call202 fun args h K hs=>?_
 match args,hs with
 | [a0],hs=>exact⟨Nat.le_of_ble_eq_true (by kernel_rfl),Eq.mp (by kernel_rfl) hs⟩
theorem S.jU (hI:aO Tryz.prog J I) (mI:aJ I):aD Tryz.prog J 127 (F.jU ⟨I,kk⟩):=by
 refine aD.aT (I:=lkI [(201,F.jW ⟨I,kk⟩),(203,F.nS ⟨I,kk⟩),(204,F.jV ⟨I,kk⟩)]) (aX ⟨S.jW hI mI,S.nS hI mI,S.jV hI mI,trivial⟩) (aW _) mixed W7.A.jU Tryz.func127 rfl (by kernel_rfl) (by kernel_rfl) Tryz.call127 fun args h K hs=>?_
 match args,hs with
 | [a0],hs=>exact⟨Nat.le_of_ble_eq_true (by kernel_rfl),Eq.mp (by kernel_rfl) hs⟩
theorem S.oQ (hI:aO Tryz.prog J I) (mI:aJ I):aD Tryz.prog J 126 (F.oQ ⟨I,kk⟩):=by
 refine aD.aT (I:=lkI [(127,F.jU ⟨I,kk⟩)]) (aX ⟨S.jU hI mI,trivial⟩) (aW _) mixed W7.A.oQ Tryz.func126 rfl (by kernel_rfl) (by kernel_rfl) Tryz.call126 fun args h K hs=>?_
 match args,hs with
 | [a0],hs=>exact⟨Nat.le_of_ble_eq_true (by kernel_rfl),Eq.mp (by kernel_rfl) hs⟩
theorem S.jS (hI:aO Tryz.prog J I) (mI:aJ I):aD Tryz.prog J 64 (F.jS ⟨I,kk⟩):=by
 refine aD.aT (I:=lkI [(125,F.nF ⟨I,kk⟩)]) (aX ⟨S.nF hI mI,trivial⟩) (aW _) mixed W7.A.jS Tryz.func64 rfl (by kernel_rfl) (by kernel_rfl) Tryz.call64 fun args h K hs=>?_
 match args,hs with
 | [a0],hs=>exact⟨Nat.le_of_ble_eq_true (by kernel_rfl),Eq.mp (by kernel_rfl) hs⟩
theorem S.mZ (hI:aO Tryz.prog J I) (mI:aJ I):aD Tryz.prog J 65 (F.mZ ⟨I,kk⟩):=by
 refine aD.aT (I:=lkI []) (aX trivial) (aW _) mixed W7.A.mZ Tryz.func65 rfl (by kernel_rfl) (by kernel_rfl) Tryz.call65 fun args h K hs=>?_
 match args,hs with
 | [a0],hs=>exact⟨Nat.le_of_ble_eq_true (by kernel_rfl),Eq.mp (by kernel_rfl) hs⟩
theorem S.mO (hI:aO Tryz.prog J I) (mI:aJ I):aD Tryz.prog J 71 (F.mO ⟨I,kk⟩):=by
 refine aD.aT (I:=lkI []) (aX trivial) (aW _) mixed W7.A.mO Tryz.func71 rfl (by kernel_rfl) (by kernel_rfl) Tryz.call71 fun args h K hs=>?_
 match args,hs with
 | [a0],hs=>exact⟨Nat.le_of_ble_eq_true (by kernel_rfl),Eq.mp (by kernel_rfl) hs⟩
theorem S.oL (hI:aO Tryz.prog J I) (mI:aJ I):aD Tryz.prog J 132 (F.oL ⟨I,kk⟩):=by
 refine aD.aT (I:=lkI []) (aX trivial) (aW _) mixed W7.A.oL Tryz.func132 rfl (by kernel_rfl) (by kernel_rfl) Tryz.call132 fun args h K hs=>?_
 match args,hs with
 | [a0],hs=>exact⟨Nat.le_of_ble_eq_true (by kernel_rfl),Eq.mp (by kernel_rfl) hs⟩
theorem S.pM (hI:aO Tryz.prog J I) (mI:aJ I):aD Tryz.prog J 305 (F.pM ⟨I,kk⟩):=by
 refine aD.aT (I:=lkI []) (aX trivial) (aW _) mixed W7.A.pM Tryz.func305 rfl (by kernel_rfl) (by kernel_rfl) Tryz.call305 fun args h K hs=>?_
 match args,hs with
 | [a0],hs=>exact⟨Nat.le_of_ble_eq_true (by kernel_rfl),Eq.mp (by kernel_rfl) hs⟩
theorem S.mK (hI:aO Tryz.prog J I) (mI:aJ I):aD Tryz.prog J 306 (F.mK ⟨I,kk⟩):=by
 refine aD.aT (I:=lkI []) (aX trivial) (aW _) mixed W7.A.mK Tryz.func306 rfl (by kernel_rfl) (by kernel_rfl) Tryz.call306 fun args h K hs=>?_
 match args,hs with
 | [a0],hs=>exact⟨Nat.le_of_ble_eq_true (by kernel_rfl),Eq.mp (by kernel_rfl) hs⟩
theorem S.mJ (hI:aO Tryz.prog J I) (mI:aJ I):aD Tryz.prog J 271 (F.mJ ⟨I,kk⟩):=by
 refine aD.aT (I:=lkI [(305,F.pM ⟨I,kk⟩),(306,F.mK ⟨I,kk⟩)]) (aX ⟨S.pM hI mI,S.mK hI mI,trivial⟩) (aW _) mixed W7.A.mJ Tryz.func271 rfl (by kernel_rfl) (by kernel_rfl) Tryz.call271 fun args h K hs=>?_
 match args,hs with
 | [a0],hs=>exact⟨Nat.le_of_ble_eq_true (by kernel_rfl),Eq.mp (by kernel_rfl) hs⟩
theorem S.pQ (hI:aO Tryz.prog J I) (mI:aJ I):aD Tryz.prog J 297 (F.pQ ⟨I,kk⟩):=by
 refine aD.aT (I:=I) hI mI mixed W7.A.pQ Tryz.func297 rfl (by kernel_rfl) (by kernel_rfl) Tryz.call297 fun args h K hs=>?_
 match args,hs with
 | [a0,a1,a2,a3],hs=>exact⟨Nat.le_of_ble_eq_true (by kernel_rfl),Eq.mp (by kernel_rfl) hs⟩
theorem Sr.qS (hI:aO Tryz.prog J I) (mI:aJ I):∀fuel,aD Tryz.prog J 270 (Fr.qS fuel ⟨I,kk⟩)
 | 0=>aD.no
 | fuel+1=>by
  refine aD.aT (I:=lkI [(297,F.pQ ⟨I,kk⟩),(270,Fr.qS fuel ⟨I,kk⟩)]) (aX ⟨S.pQ hI mI,Sr.qS hI mI fuel,trivial⟩) (aW _) mixed W7.A.qS Tryz.func270 rfl (by kernel_rfl) (by kernel_rfl) Tryz.call270 fun args h K hs=>?_
  match args,hs with
  | [a0,a1,a2,a3,a4],hs=>exact⟨Nat.le_of_ble_eq_true (by kernel_rfl),Eq.mp (by kernel_rfl) hs⟩
theorem S.nO (_:aO Tryz.prog J I) (_:aJ I):aD Tryz.prog J 206 (F.nO ⟨I,kk⟩):=Ord.aX8
theorem S.oV (hI:aO Tryz.prog J I) (mI:aJ I):aD Tryz.prog J 131 (F.oV ⟨I,kk⟩):=by
 refine aD.aT (I:=lkI [(72,F.uK ⟨I,kk⟩),(206,F.nO ⟨I,kk⟩)]) (aX ⟨S.uK hI mI,S.nO hI mI,trivial⟩) (aW _) mixed W7.A.oV Tryz.func131 rfl (by kernel_rfl) (by kernel_rfl) Tryz.call131 fun args h K hs=>?_
 match args,hs with
 | [a0,a1],hs=>exact⟨Nat.le_of_ble_eq_true (by kernel_rfl),Eq.mp (by kernel_rfl) hs⟩
theorem S.cmp_isNaN_int (hI:aO Tryz.prog J I) (mI:aJ I):aD Tryz.prog J 272 (F.cmp_isNaN_int ⟨I,kk⟩):=by
 refine aD.aT (I:=lkI []) (aX trivial) (aW _) mixed W7.A.cmp_isNaN_int Tryz.func272 rfl (by kernel_rfl) (by kernel_rfl) Tryz.call272 fun args h K hs=>?_
 match args,hs with
 | [a0],hs=>exact⟨Nat.le_of_ble_eq_true (by kernel_rfl),Eq.mp (by kernel_rfl) hs⟩
theorem S.iM (hI:aO Tryz.prog J I) (mI:aJ I):aD Tryz.prog J 209 (F.iM ⟨I,kk⟩):=by
 refine aD.aT (I:=lkI [(272,F.cmp_isNaN_int ⟨I,kk⟩)]) (aX ⟨S.cmp_isNaN_int hI mI,trivial⟩) (aW _) mixed W7.A.iM Tryz.func209 rfl (by kernel_rfl) (by kernel_rfl) Tryz.call209 fun args h K hs=>?_
 match args,hs with
 | [a0,a1],hs=>exact⟨Nat.le_of_ble_eq_true (by kernel_rfl),Eq.mp (by kernel_rfl) hs⟩
theorem S.gX (hI:aO Tryz.prog J I) (mI:aJ I):aD Tryz.prog J 273 (F.gX ⟨I,kk⟩):=by
 refine aD.aT (I:=lkI []) (aX trivial) (aW _) mixed W7.A.gX Tryz.func273 rfl (by kernel_rfl) (by kernel_rfl) Tryz.call273 fun args h K hs=>?_
 match args,hs with
 | [a0],hs=>exact⟨Nat.le_of_ble_eq_true (by kernel_rfl),Eq.mp (by kernel_rfl) hs⟩
theorem S.iN (hI:aO Tryz.prog J I) (mI:aJ I):aD Tryz.prog J 210 (F.iN ⟨I,kk⟩):=by
 refine aD.aT (I:=lkI [(273,F.gX ⟨I,kk⟩)]) (aX ⟨S.gX hI mI,trivial⟩) (aW _) mixed W7.A.iN Tryz.func210 rfl (by kernel_rfl) (by kernel_rfl) Tryz.call210 fun args h K hs=>?_
 match args,hs with
 | [a0,a1],hs=>exact⟨Nat.le_of_ble_eq_true (by kernel_rfl),Eq.mp (by kernel_rfl) hs⟩
theorem S.fW (hI:aO Tryz.prog J I) (mI:aJ I):aD Tryz.prog J 208 (F.fW ⟨I,kk⟩):=by
 refine aD.aT (I:=lkI []) (aX trivial) (aW _) mixed W7.A.fW Tryz.func208 rfl (by kernel_rfl) (by kernel_rfl) Tryz.call208 fun args h K hs=>?_
 match args,hs with
 | [a0],hs=>exact⟨Nat.le_of_ble_eq_true (by kernel_rfl),Eq.mp (by kernel_rfl) hs⟩
theorem S.gQ (hI:aO Tryz.prog J I) (mI:aJ I):aD Tryz.prog J 133 (F.gQ ⟨I,kk⟩):=by
 refine aD.aT (I:=lkI [(209,F.iM ⟨I,kk⟩),(210,F.iN ⟨I,kk⟩),(208,F.fW ⟨I,kk⟩)]) (aX ⟨S.iM hI mI,S.iN hI mI,S.fW hI mI,trivial⟩) (aW _) mixed W7.A.gQ Tryz.func133 rfl (by kernel_rfl) (by kernel_rfl) Tryz.call133 fun args h K hs=>?_
 match args,hs with
 | [a0,a1],hs=>exact⟨Nat.le_of_ble_eq_true (by kernel_rfl),Eq.mp (by kernel_rfl) hs⟩
theorem S.lE (hI:aO Tryz.prog J I) (mI:aJ I):aD Tryz.prog J 74 (F.lE ⟨I,kk⟩):=by
 refine aD.aT (I:=lkI [(132,F.oL ⟨I,kk⟩),(131,F.oV ⟨I,kk⟩)]) (aX ⟨S.oL hI mI,S.oV hI mI,trivial⟩) (aW _) mixed W7.A.lE Tryz.func74 rfl (by kernel_rfl) (by kernel_rfl) Tryz.call74 fun args h K hs=>?_
 match args,hs with
 | [a0],hs=>exact⟨Nat.le_of_ble_eq_true (by kernel_rfl),Eq.mp (by kernel_rfl) hs⟩
theorem S.fC (hI:aO Tryz.prog J I) (mI:aJ I):aD Tryz.prog J 68 (F.fC ⟨I,kk⟩):=by
 refine aD.aT (I:=lkI []) (aX trivial) (aW _) mixed W7.A.fC Tryz.func68 rfl (by kernel_rfl) (by kernel_rfl) Tryz.call68 fun args h K hs=>?_
 match args,hs with
 | [a0],hs=>exact⟨Nat.le_of_ble_eq_true (by kernel_rfl),Eq.mp (by kernel_rfl) hs⟩
def A.xZ:An:=(.s (.s (.seq (.s (.join 75557863725914323158912 [] (.cond (.seq (.join 34359476224 [] (.draw #[0,0,2,6,14,30,62,0,128,384,896,1920,3968,0,8192,24702,57470,131071,262143,524287] (.qs [0,1,2,3,4,5,7,8,9,10,11,13] (.fork (.fork (.c 6 [10] (.fork (.c 12 [4] (.c 14 [4,10] (.q 15 (.c 16 [10] (.q 17 (.q 18 (.c 19 [] .done))))))) (.c 14 [4,10] (.q 15 (.fork (.c 12 [4] (.c 16 [10] (.q 17 (.q 18 (.c 19 [] .done))))) (.c 16 [10] (.c 12 [4] (.q 17 (.q 18 (.c 19 [] .done)))))))))) (.c 12 [4] (.fork (.c 6 [10] (.c 14 [4,10] (.q 15 (.c 16 [10] (.q 17 (.q 18 (.c 19 [] .done))))))) (.c 14 [4,10] (.c 6 [10] (.q 15 (.c 16 [10] (.q 17 (.q 18 (.c 19 [] .done)))))))))) (.c 14 [4,10] (.fork (.c 6 [10] (.q 15 (.fork (.c 12 [4] (.c 16 [10] (.q 17 (.q 18 (.c 19 [] .done))))) (.c 16 [10] (.c 12 [4] (.q 17 (.q 18 (.c 19 [] .done)))))))) (.c 12 [4] (.c 6 [10] (.q 15 (.c 16 [10] (.q 17 (.q 18 (.c 19 [] .done))))))))))))) (.s (.block (.loop 75557863724814811793280 [] (.s (.seq (.cond .l .l) (.block (.s (.s (.block (.loop 75557854718715068679680 [53] (.s (.seq (.cond .l .l) (.seq (.block (.s (.draw #[0,1,0,0,8,24,56,0,0,256,0,1792,3840,0,8192,8063,40831,131071,262143] (.qs [0,1,2,3,4,5,6,7,8,9,10,11,12,13,14,15] (.c 16 [14] (.q 17 (.c 18 [] .done))))))) .l)))))))))))))) .l))) (.seq (.draw #[0,1,3,7,0,16,63,0,128,511,1023] (.qs [0,1,2,3,4,5,6,7] (.c 8 [3,5,6] (.c 9 [] (.q 10 .done))))) (.draw #[0,1,3,7,0,16,0,0,128,384,896,1984,4095] (.qs [0,1,2,3,4,5,6,7,8,9,10,11] (.c 12 [] .done)))))))
theorem S.jP (hI:aO Tryz.prog J I) (mI:aJ I):aD Tryz.prog J 105 (F.jP ⟨I,kk⟩):=by
 refine aD.aT (I:=lkI []) (aX trivial) (aW _) mixed W7.A.jP Tryz.func105 rfl (by kernel_rfl) (by kernel_rfl) Tryz.call105 fun args h K hs=>?_
 match args,hs with
 | [],hs=>exact⟨Nat.le_of_ble_eq_true (by kernel_rfl),Eq.mp (by kernel_rfl) hs⟩
theorem S.iH (hI:aO Tryz.prog J I) (mI:aJ I):aD Tryz.prog J 48 (F.iH ⟨I,kk⟩):=by
 refine aD.aT (I:=lkI [(105,F.jP ⟨I,kk⟩),(71,F.mO ⟨I,kk⟩)]) (aX ⟨S.jP hI mI,S.mO hI mI,trivial⟩) (aW _) mixed W7.A.iH Tryz.func48 rfl (by kernel_rfl) (by kernel_rfl) Tryz.call48 fun args h K hs=>?_
 match args,hs with
 | [],hs=>exact⟨Nat.le_of_ble_eq_true (by kernel_rfl),Eq.mp (by kernel_rfl) hs⟩
theorem S.fU (hI:aO Tryz.prog J I) (mI:aJ I):aD Tryz.prog J 195 (F.fU ⟨I,kk⟩):=by
 refine aD.aT (I:=lkI []) (aX trivial) (aW _) mixed W7.A.fU Tryz.func195 rfl (by kernel_rfl) (by kernel_rfl) Tryz.call195 fun args h K hs=>?_
 match args,hs with
 | [a0,a1],hs=>exact⟨Nat.le_of_ble_eq_true (by kernel_rfl),Eq.mp (by kernel_rfl) hs⟩
theorem S.iX (hI:aO Tryz.prog J I) (mI:aJ I):aD Tryz.prog J 111 (F.iX ⟨I,kk⟩):=by
 refine aD.aT (I:=lkI []) (aX trivial) (aW _) mixed W7.A.iX Tryz.func111 rfl (by kernel_rfl) (by kernel_rfl) Tryz.call111 fun args h K hs=>?_
 match args,hs with
 | [a0,a1],hs=>exact⟨Nat.le_of_ble_eq_true (by kernel_rfl),Eq.mp (by kernel_rfl) hs⟩
theorem S.lR (hI:aO Tryz.prog J I) (mI:aJ I):aD Tryz.prog J 55 (F.lR ⟨I,kk⟩):=by
 refine aD.aT (I:=lkI [(111,F.iX ⟨I,kk⟩)]) (aX ⟨S.iX hI mI,trivial⟩) (aW _) mixed W7.A.lR Tryz.func55 rfl (by kernel_rfl) (by kernel_rfl) Tryz.call55 fun args h K hs=>?_
 match args,hs with
 | [a0,a1],hs=>exact⟨Nat.le_of_ble_eq_true (by kernel_rfl),Eq.mp (by kernel_rfl) hs⟩
theorem S.jT (hI:aO Tryz.prog J I) (mI:aJ I):aD Tryz.prog J 184 (F.jT ⟨I,kk⟩):=by
 refine aD.aT (I:=lkI []) (aX trivial) (aW _) mixed W7.A.jT Tryz.func184 rfl (by kernel_rfl) (by kernel_rfl) Tryz.call184 fun args h K hs=>?_
 match args,hs with
 | [a0],hs=>exact⟨Nat.le_of_ble_eq_true (by kernel_rfl),Eq.mp (by kernel_rfl) hs⟩
theorem S.oX (hI:aO Tryz.prog J I) (mI:aJ I):aD Tryz.prog J 327 (F.oX ⟨I,kk⟩):=by
 refine aD.aT (I:=I) hI mI mixed W7.A.oX Tryz.func327 rfl (by kernel_rfl) (by kernel_rfl) Tryz.call327 fun args h K hs=>?_
 match args,hs with
 | [a0,a1,a2,a3],hs=>exact⟨Nat.le_of_ble_eq_true (by kernel_rfl),Eq.mp (by kernel_rfl) hs⟩
theorem Sr.fZ (hI:aO Tryz.prog J I) (mI:aJ I):∀fuel,aD Tryz.prog J 285 (Fr.fZ fuel ⟨I,kk⟩)
 | 0=>aD.no
 | fuel+1=>by
  refine aD.aT (I:=lkI [(327,F.oX ⟨I,kk⟩),(285,Fr.fZ fuel ⟨I,kk⟩)]) (aX ⟨S.oX hI mI,Sr.fZ hI mI fuel,trivial⟩) (aW _) mixed W7.A.fZ Tryz.func285 rfl (by kernel_rfl) (by kernel_rfl) Tryz.call285 fun args h K hs=>?_
  match args,hs with
  | [a0,a1,a2,a3,a4],hs=>exact⟨Nat.le_of_ble_eq_true (by kernel_rfl),Eq.mp (by kernel_rfl) hs⟩
theorem S.fZ (hI:aO Tryz.prog J I) (mI:aJ I):aD Tryz.prog J 285 (F.fZ ⟨I,kk⟩):=aD.ex (Sr.fZ hI mI)
theorem S.nP (hI:aO Tryz.prog J I) (mI:aJ I):aD Tryz.prog J 242 (F.nP ⟨I,kk⟩):=by
 refine aD.aT (I:=lkI [(271,F.mJ ⟨I,kk⟩),(285,F.fZ ⟨I,kk⟩)]) (aX ⟨S.mJ hI mI,S.fZ hI mI,trivial⟩) (aW _) mixed W7.A.nP Tryz.func242 rfl (by kernel_rfl) (by kernel_rfl) Tryz.call242 fun args h K hs=>?_
 match args,hs with
 | [a0,a1],hs=>exact⟨Nat.le_of_ble_eq_true (by kernel_rfl),Eq.mp (by kernel_rfl) hs⟩
theorem S.nB (hI:aO Tryz.prog J I) (mI:aJ I):aD Tryz.prog J 244 (F.nB ⟨I,kk⟩):=by
 refine aD.aT (I:=lkI []) (aX trivial) (aW _) mixed W7.A.nB Tryz.func244 rfl (by kernel_rfl) (by kernel_rfl) Tryz.call244 fun args h K hs=>?_
 match args,hs with
 | [a0],hs=>exact⟨Nat.le_of_ble_eq_true (by kernel_rfl),Eq.mp (by kernel_rfl) hs⟩
theorem S.cmp_isNaN_string (hI:aO Tryz.prog J I) (mI:aJ I):aD Tryz.prog J 335 (F.cmp_isNaN_string ⟨I,kk⟩):=by
 refine aD.aT (I:=lkI []) (aX trivial) (aW _) mixed W7.A.cmp_isNaN_string Tryz.func335 rfl (by kernel_rfl) (by kernel_rfl) Tryz.call335 fun args h K hs=>?_
 match args,hs with
 | [a0],hs=>exact⟨Nat.le_of_ble_eq_true (by kernel_rfl),Eq.mp (by kernel_rfl) hs⟩
theorem S.kX (hI:aO Tryz.prog J I) (mI:aJ I):aD Tryz.prog J 286 (F.kX ⟨I,kk⟩):=by
 refine aD.aT (I:=lkI [(335,F.cmp_isNaN_string ⟨I,kk⟩)]) (aX ⟨S.cmp_isNaN_string hI mI,trivial⟩) (aW _) mixed W7.A.kX Tryz.func286 rfl (by kernel_rfl) (by kernel_rfl) Tryz.call286 fun args h K hs=>?_
 match args,hs with
 | [a0,a1],hs=>exact⟨Nat.le_of_ble_eq_true (by kernel_rfl),Eq.mp (by kernel_rfl) hs⟩
theorem S.fN (hI:aO Tryz.prog J I) (mI:aJ I):aD Tryz.prog J 243 (F.fN ⟨I,kk⟩):=by
 refine aD.aT (I:=lkI [(286,F.kX ⟨I,kk⟩),(208,F.fW ⟨I,kk⟩)]) (aX ⟨S.kX hI mI,S.fW hI mI,trivial⟩) (aW _) mixed W7.A.fN Tryz.func243 rfl (by kernel_rfl) (by kernel_rfl) Tryz.call243 fun args h K hs=>?_
 match args,hs with
 | [a0,a1],hs=>exact⟨Nat.le_of_ble_eq_true (by kernel_rfl),Eq.mp (by kernel_rfl) hs⟩
theorem S.fX (hI:aO Tryz.prog J I) (mI:aJ I):aD Tryz.prog J 173 (F.fX ⟨I,kk⟩):=by
 refine aD.aT (I:=lkI [(242,F.nP ⟨I,kk⟩),(244,F.nB ⟨I,kk⟩)]) (aX ⟨S.nP hI mI,S.nB hI mI,trivial⟩) (aW _) mixed W7.A.fX Tryz.func173 rfl (by kernel_rfl) (by kernel_rfl) Tryz.call173 fun args h K hs=>?_
 match args,hs with
 | [a0],hs=>exact⟨Nat.le_of_ble_eq_true (by kernel_rfl),Eq.mp (by kernel_rfl) hs⟩
theorem S.jQ (hI:aO Tryz.prog J I) (mI:aJ I):aD Tryz.prog J 113 (F.jQ ⟨I,kk⟩):=by
 refine aD.aT (I:=lkI [(184,F.jT ⟨I,kk⟩),(173,F.fX ⟨I,kk⟩)]) (aX ⟨S.jT hI mI,S.fX hI mI,trivial⟩) (aW _) mixed W7.A.jQ Tryz.func113 rfl (by kernel_rfl) (by kernel_rfl) Tryz.call113 fun args h K hs=>?_
 match args,hs with
 | [a0],hs=>exact⟨Nat.le_of_ble_eq_true (by kernel_rfl),Eq.mp (by kernel_rfl) hs⟩
theorem S.nK (hI:aO Tryz.prog J I) (mI:aJ I):aD Tryz.prog J 259 (F.nK ⟨I,kk⟩):=by
 refine aD.aT (I:=I) hI mI mixed W7.A.nK Tryz.func259 rfl (by kernel_rfl) (by kernel_rfl) Tryz.call259 fun args h K hs=>?_
 match args,hs with
 | [a0,a1],hs=>exact⟨Nat.le_of_ble_eq_true (by kernel_rfl),Eq.mp (by kernel_rfl) hs⟩
theorem S.lL (hI:aO Tryz.prog J I) (mI:aJ I):aD Tryz.prog J 181 (F.lL ⟨I,kk⟩):=by
 refine aD.aT (I:=lkI [(259,F.nK ⟨I,kk⟩)]) (aX ⟨S.nK hI mI,trivial⟩) (aW _) mixed W7.A.lL Tryz.func181 rfl (by kernel_rfl) (by kernel_rfl) Tryz.call181 fun args h K hs=>?_
 match args,hs with
 | [a0,a1],hs=>exact⟨Nat.le_of_ble_eq_true (by kernel_rfl),Eq.mp (by kernel_rfl) hs⟩
theorem S.jR (hI:aO Tryz.prog J I) (mI:aJ I):aD Tryz.prog J 183 (F.jR ⟨I,kk⟩):=by
 refine aD.aT (I:=lkI []) (aX trivial) (aW _) mixed W7.A.jR Tryz.func183 rfl (by kernel_rfl) (by kernel_rfl) Tryz.call183 fun args h K hs=>?_
 match args,hs with
 | [a0,a1],hs=>exact⟨Nat.le_of_ble_eq_true (by kernel_rfl),Eq.mp (by kernel_rfl) hs⟩
theorem S.jO (hI:aO Tryz.prog J I) (mI:aJ I):aD Tryz.prog J 182 (F.jO ⟨I,kk⟩):=by
 refine aD.aT (I:=lkI [(183,F.jR ⟨I,kk⟩)]) (aX ⟨S.jR hI mI,trivial⟩) (aW _) mixed W7.A.jO Tryz.func182 rfl (by kernel_rfl) (by kernel_rfl) Tryz.call182 fun args h K hs=>?_
 match args,hs with
 | [a0,a1],hs=>exact⟨Nat.le_of_ble_eq_true (by kernel_rfl),Eq.mp (by kernel_rfl) hs⟩
theorem S.mG (hI:aO Tryz.prog J I) (mI:aJ I):aD Tryz.prog J 112 (F.mG ⟨I,kk⟩):=by
 refine aD.aT (I:=lkI [(181,F.lL ⟨I,kk⟩)]) (aX ⟨S.lL hI mI,trivial⟩) (aW _) mixed W7.A.mG Tryz.func112 rfl (by kernel_rfl) (by kernel_rfl) Tryz.call112 fun args h K hs=>?_
 match args,hs with
 | [a0,a1,a2],hs=>exact⟨Nat.le_of_ble_eq_true (by kernel_rfl),Eq.mp (by kernel_rfl) hs⟩
theorem S.oJ (hI:aO Tryz.prog J I) (mI:aJ I):aD Tryz.prog J 278 (F.oJ ⟨I,kk⟩):=by
 refine aD.aT (I:=lkI [(317,F.pL ⟨I,kk⟩)]) (aX ⟨S.pL hI mI,trivial⟩) (aW _) mixed W7.A.oJ Tryz.func278 rfl (by kernel_rfl) (by kernel_rfl) Tryz.call278 fun args h K hs=>?_
 match args,hs with
 | [a0],hs=>exact⟨Nat.le_of_ble_eq_true (by kernel_rfl),Eq.mp (by kernel_rfl) hs⟩
theorem S.kM (hI:aO Tryz.prog J I) (mI:aJ I):aD Tryz.prog J 223 (F.kM ⟨I,kk⟩):=by
 refine aD.aT (I:=lkI [(278,F.oJ ⟨I,kk⟩)]) (aX ⟨S.oJ hI mI,trivial⟩) (aW _) mixed W7.A.kM Tryz.func223 rfl (by kernel_rfl) (by kernel_rfl) Tryz.call223 fun args h K hs=>?_
 match args,hs with
 | [a0],hs=>exact⟨Nat.le_of_ble_eq_true (by kernel_rfl),Eq.mp (by kernel_rfl) hs⟩
theorem S.fT (hI:aO Tryz.prog J I) (mI:aJ I):aD Tryz.prog J 221 (F.fT ⟨I,kk⟩):=by
 refine aD.aT (I:=lkI []) (aX trivial) (aW _) mixed W7.A.fT Tryz.func221 rfl (by kernel_rfl) (by kernel_rfl) Tryz.call221 fun args h K hs=>?_
 match args,hs with
 | [a0],hs=>exact⟨Nat.le_of_ble_eq_true (by kernel_rfl),Eq.mp (by kernel_rfl) hs⟩
theorem S.kD (hI:aO Tryz.prog J I) (mI:aJ I):aD Tryz.prog J 224 (F.kD ⟨I,kk⟩):=by
 refine aD.aT (I:=lkI [(221,F.fT ⟨I,kk⟩)]) (aX ⟨S.fT hI mI,trivial⟩) (aW _) mixed W7.A.kD Tryz.func224 rfl (by kernel_rfl) (by kernel_rfl) Tryz.call224 fun args h K hs=>?_
 match args,hs with
 | [a0],hs=>exact⟨Nat.le_of_ble_eq_true (by kernel_rfl),Eq.mp (by kernel_rfl) hs⟩
theorem S.oI (hI:aO Tryz.prog J I) (mI:aJ I):aD Tryz.prog J 279 (F.oI ⟨I,kk⟩):=by
 refine aD.aT (I:=lkI [(317,F.pL ⟨I,kk⟩)]) (aX ⟨S.pL hI mI,trivial⟩) (aW _) mixed W7.A.oI Tryz.func279 rfl (by kernel_rfl) (by kernel_rfl) Tryz.call279 fun args h K hs=>?_
 match args,hs with
 | [a0],hs=>exact⟨Nat.le_of_ble_eq_true (by kernel_rfl),Eq.mp (by kernel_rfl) hs⟩
theorem S.kQ (hI:aO Tryz.prog J I) (mI:aJ I):aD Tryz.prog J 225 (F.kQ ⟨I,kk⟩):=by
 refine aD.aT (I:=lkI [(68,F.fC ⟨I,kk⟩),(279,F.oI ⟨I,kk⟩)]) (aX ⟨S.fC hI mI,S.oI hI mI,trivial⟩) (aW _) mixed W7.A.kQ Tryz.func225 rfl (by kernel_rfl) (by kernel_rfl) Tryz.call225 fun args h K hs=>?_
 match args,hs with
 | [a0],hs=>exact⟨Nat.le_of_ble_eq_true (by kernel_rfl),Eq.mp (by kernel_rfl) hs⟩
theorem S.fD (hI:aO Tryz.prog J I) (mI:aJ I):aD Tryz.prog J 165 (F.fD ⟨I,kk⟩):=by
 refine aD.aT (I:=lkI [(223,F.kM ⟨I,kk⟩),(224,F.kD ⟨I,kk⟩),(225,F.kQ ⟨I,kk⟩)]) (aX ⟨S.kM hI mI,S.kD hI mI,S.kQ hI mI,trivial⟩) (aW _) mixed W7.A.fD Tryz.func165 rfl (by kernel_rfl) (by kernel_rfl) Tryz.call165 fun args h K hs=>?_
 match args,hs with
 | [a0],hs=>exact⟨Nat.le_of_ble_eq_true (by kernel_rfl),Eq.mp (by kernel_rfl) hs⟩
theorem S.oA (hI:aO Tryz.prog J I) (mI:aJ I):aD Tryz.prog J 185 (F.oA ⟨I,kk⟩):=by
 refine aD.aT (I:=lkI [(165,F.fD ⟨I,kk⟩)]) (aX ⟨S.fD hI mI,trivial⟩) (aW _) mixed W7.A.oA Tryz.func185 rfl (by kernel_rfl) (by kernel_rfl) Tryz.call185 fun args h K hs=>?_
 match args,hs with
 | [a0,a1,a2],hs=>exact⟨Nat.le_of_ble_eq_true (by kernel_rfl),Eq.mp (by kernel_rfl) hs⟩
theorem S.nX (hI:aO Tryz.prog J I) (mI:aJ I):aD Tryz.prog J 186 (F.nX ⟨I,kk⟩):=by
 refine aD.aT (I:=lkI []) (aX trivial) (aW _) mixed W7.A.nX Tryz.func186 rfl (by kernel_rfl) (by kernel_rfl) Tryz.call186 fun args h K hs=>?_
 match args,hs with
 | [a0,a1],hs=>exact⟨Nat.le_of_ble_eq_true (by kernel_rfl),Eq.mp (by kernel_rfl) hs⟩
theorem S.kL (hI:aO Tryz.prog J I) (mI:aJ I):aD Tryz.prog J 231 (F.kL ⟨I,kk⟩):=by
 refine aD.aT (I:=lkI []) (aX trivial) (aW _) mixed W7.A.kL Tryz.func231 rfl (by kernel_rfl) (by kernel_rfl) Tryz.call231 fun args h K hs=>?_
 match args,hs with
 | [],hs=>exact⟨Nat.le_of_ble_eq_true (by kernel_rfl),Eq.mp (by kernel_rfl) hs⟩
theorem S.jZ (hI:aO Tryz.prog J I) (mI:aJ I):aD Tryz.prog J 232 (F.jZ ⟨I,kk⟩):=by
 refine aD.aT (I:=lkI []) (aX trivial) (aW _) mixed W7.A.jZ Tryz.func232 rfl (by kernel_rfl) (by kernel_rfl) Tryz.call232 fun args h K hs=>?_
 match args,hs with
 | [a0],hs=>exact⟨Nat.le_of_ble_eq_true (by kernel_rfl),Eq.mp (by kernel_rfl) hs⟩
theorem S.kO (hI:aO Tryz.prog J I) (mI:aJ I):aD Tryz.prog J 233 (F.kO ⟨I,kk⟩):=by
 refine aD.aT (I:=lkI []) (aX trivial) (aW _) mixed W7.A.kO Tryz.func233 rfl (by kernel_rfl) (by kernel_rfl) Tryz.call233 fun args h K hs=>?_
 match args,hs with
 | [],hs=>exact⟨Nat.le_of_ble_eq_true (by kernel_rfl),Eq.mp (by kernel_rfl) hs⟩
theorem S.gC (hI:aO Tryz.prog J I) (mI:aJ I):aD Tryz.prog J 187 (F.gC ⟨I,kk⟩):=by
 refine aD.aT (I:=lkI [(231,F.kL ⟨I,kk⟩),(232,F.jZ ⟨I,kk⟩),(233,F.kO ⟨I,kk⟩)]) (aX ⟨S.kL hI mI,S.jZ hI mI,S.kO hI mI,trivial⟩) (aW _) mixed W7.A.gC Tryz.func187 rfl (by kernel_rfl) (by kernel_rfl) Tryz.call187 fun args h K hs=>?_
 match args,hs with
 | [a0,a1],hs=>exact⟨Nat.le_of_ble_eq_true (by kernel_rfl),Eq.mp (by kernel_rfl) hs⟩
theorem S.iG (hI:aO Tryz.prog J I) (mI:aJ I):aD Tryz.prog J 175 (F.iG ⟨I,kk⟩):=by
 refine aD.aT (I:=lkI []) (aX trivial) (aW _) mixed W7.A.iG Tryz.func175 rfl (by kernel_rfl) (by kernel_rfl) Tryz.call175 fun args h K hs=>?_
 match args,hs with
 | [a0,a1,a2],hs=>exact⟨Nat.le_of_ble_eq_true (by kernel_rfl),Eq.mp (by kernel_rfl) hs⟩
theorem S.eM (hI:aO Tryz.prog J I) (mI:aJ I):aD Tryz.prog J 174 (F.eM ⟨I,kk⟩):=by
 refine aD.aT (I:=lkI []) (aX trivial) (aW _) mixed W7.A.eM Tryz.func174 rfl (by kernel_rfl) (by kernel_rfl) Tryz.call174 fun args h K hs=>?_
 match args,hs with
 | [a0,a1],hs=>exact⟨Nat.le_of_ble_eq_true (by kernel_rfl),Eq.mp (by kernel_rfl) hs⟩
theorem S.iF (hI:aO Tryz.prog J I) (mI:aJ I):aD Tryz.prog J 176 (F.iF ⟨I,kk⟩):=by
 refine aD.aT (I:=lkI [(174,F.eM ⟨I,kk⟩)]) (aX ⟨S.eM hI mI,trivial⟩) (aW _) mixed W7.A.iF Tryz.func176 rfl (by kernel_rfl) (by kernel_rfl) Tryz.call176 fun args h K hs=>?_
 match args,hs with
 | [a0,a1],hs=>exact⟨Nat.le_of_ble_eq_true (by kernel_rfl),Eq.mp (by kernel_rfl) hs⟩
theorem S.lO (hI:aO Tryz.prog J I) (mI:aJ I):aD Tryz.prog J 260 (F.lO ⟨I,kk⟩):=by
 refine aD.aT (I:=lkI [(175,F.iG ⟨I,kk⟩),(176,F.iF ⟨I,kk⟩),(174,F.eM ⟨I,kk⟩)]) (aX ⟨S.iG hI mI,S.iF hI mI,S.eM hI mI,trivial⟩) (aW _) mixed W7.A.lO Tryz.func260 rfl (by kernel_rfl) (by kernel_rfl) Tryz.call260 fun args h K hs=>?_
 match args,hs with
 | [a0,a1],hs=>exact⟨Nat.le_of_ble_eq_true (by kernel_rfl),Eq.mp (by kernel_rfl) hs⟩
theorem S.mW (hI:aO Tryz.prog J I) (mI:aJ I):aD Tryz.prog J 234 (F.mW ⟨I,kk⟩):=by
 refine aD.aT (I:=lkI []) (aX trivial) (aW _) mixed W7.A.mW Tryz.func234 rfl (by kernel_rfl) (by kernel_rfl) Tryz.call234 fun args h K hs=>?_
 match args,hs with
 | [a0,a1],hs=>exact⟨Nat.le_of_ble_eq_true (by kernel_rfl),Eq.mp (by kernel_rfl) hs⟩
theorem S.dF (hI:aO Tryz.prog J I) (mI:aJ I):aD Tryz.prog J 290 (F.dF ⟨I,kk⟩):=by
 refine aD.aT (I:=lkI [(336,F.zJ ⟨I,kk⟩)]) (aX ⟨S.zJ hI mI,trivial⟩) (aW _) mixed W7.A.dF Tryz.func290 rfl (by kernel_rfl) (by kernel_rfl) Tryz.call290 fun args h K hs=>?_
 match args,hs with
 | [a0],hs=>exact⟨Nat.le_of_ble_eq_true (by kernel_rfl),Eq.mp (by kernel_rfl) hs⟩
theorem S.fY (hI:aO Tryz.prog J I) (mI:aJ I):aD Tryz.prog J 280 (F.fY ⟨I,kk⟩):=by
 refine aD.aT (I:=lkI []) (aX trivial) (aW _) mixed W7.A.fY Tryz.func280 rfl (by kernel_rfl) (by kernel_rfl) Tryz.call280 fun args h K hs=>?_
 match args,hs with
 | [a0,a1,a2],hs=>exact⟨Nat.le_of_ble_eq_true (by kernel_rfl),Eq.mp (by kernel_rfl) hs⟩
theorem S.lK (hI:aO Tryz.prog J I) (mI:aJ I):aD Tryz.prog J 235 (F.lK ⟨I,kk⟩):=by
 refine aD.aT (I:=lkI [(280,F.fY ⟨I,kk⟩)]) (aX ⟨S.fY hI mI,trivial⟩) (aW _) mixed W7.A.lK Tryz.func235 rfl (by kernel_rfl) (by kernel_rfl) Tryz.call235 fun args h K hs=>?_
 match args,hs with
 | [a0,a1,a2],hs=>exact⟨Nat.le_of_ble_eq_true (by kernel_rfl),Eq.mp (by kernel_rfl) hs⟩
theorem S.gF (hI:aO Tryz.prog J I) (mI:aJ I):aD Tryz.prog J 291 (F.gF ⟨I,kk⟩):=by
 refine aD.aT (I:=lkI [(337,F.zK ⟨I,kk⟩),(338,F.wP ⟨I,kk⟩)]) (aX ⟨S.zK hI mI,S.wP hI mI,trivial⟩) (aW _) mixed W7.A.gF Tryz.func291 rfl (by kernel_rfl) (by kernel_rfl) Tryz.call291 fun args h K hs=>?_
 match args,hs with
 | [a0],hs=>exact⟨Nat.le_of_ble_eq_true (by kernel_rfl),Eq.mp (by kernel_rfl) hs⟩
theorem S.nH (hI:aO Tryz.prog J I) (mI:aJ I):aD Tryz.prog J 281 (F.nH ⟨I,kk⟩):=by
 refine aD.aT (I:=I) hI mI mixed W7.A.nH Tryz.func281 rfl (by kernel_rfl) (by kernel_rfl) Tryz.call281 fun args h K hs=>?_
 match args,hs with
 | [a0,a1],hs=>exact⟨Nat.le_of_ble_eq_true (by kernel_rfl),Eq.mp (by kernel_rfl) hs⟩
theorem S.gR (hI:aO Tryz.prog J I) (mI:aJ I):aD Tryz.prog J 282 (F.gR ⟨I,kk⟩):=by
 refine aD.aT (I:=lkI []) (aX trivial) (aW _) mixed W7.A.gR Tryz.func282 rfl (by kernel_rfl) (by kernel_rfl) Tryz.call282 fun args h K hs=>?_
 match args,hs with
 | [a0,a1,a2,a3],hs=>exact⟨Nat.le_of_ble_eq_true (by kernel_rfl),Eq.mp (by kernel_rfl) hs⟩
theorem S.mU (hI:aO Tryz.prog J I) (mI:aJ I):aD Tryz.prog J 236 (F.mU ⟨I,kk⟩):=by
 refine aD.aT (I:=lkI [(281,F.nH ⟨I,kk⟩),(280,F.fY ⟨I,kk⟩)]) (aX ⟨S.nH hI mI,S.fY hI mI,trivial⟩) (aW _) mixed W7.A.mU Tryz.func236 rfl (by kernel_rfl) (by kernel_rfl) Tryz.call236 fun args h K hs=>?_
 match args,hs with
 | [a0,a1,a2,a3],hs=>exact⟨Nat.le_of_ble_eq_true (by kernel_rfl),Eq.mp (by kernel_rfl) hs⟩
theorem S.mV (hI:aO Tryz.prog J I) (mI:aJ I):aD Tryz.prog J 292 (F.mV ⟨I,kk⟩):=by
 refine aD.aT (I:=lkI [(280,F.fY ⟨I,kk⟩)]) (aX ⟨S.fY hI mI,trivial⟩) (aW _) mixed W7.A.mV Tryz.func292 rfl (by kernel_rfl) (by kernel_rfl) Tryz.call292 fun args h K hs=>?_
 match args,hs with
 | [a0],hs=>exact⟨Nat.le_of_ble_eq_true (by kernel_rfl),Eq.mp (by kernel_rfl) hs⟩
theorem S.lN (hI:aO Tryz.prog J I) (mI:aJ I):aD Tryz.prog J 261 (F.lN ⟨I,kk⟩):=by
 refine aD.aT (I:=lkI [(234,F.mW ⟨I,kk⟩),(290,F.dF ⟨I,kk⟩),(235,F.lK ⟨I,kk⟩),(291,F.gF ⟨I,kk⟩),(236,F.mU ⟨I,kk⟩),(292,F.mV ⟨I,kk⟩)]) (aX ⟨S.mW hI mI,S.dF hI mI,S.lK hI mI,S.gF hI mI,S.mU hI mI,S.mV hI mI,trivial⟩) (aW _) mixed W7.A.lN Tryz.func261 rfl (by kernel_rfl) (by kernel_rfl) Tryz.call261 fun args h K hs=>?_
 match args,hs with
 | [a0,a1,a2],hs=>exact⟨Nat.le_of_ble_eq_true (by kernel_rfl),Eq.mp (by kernel_rfl) hs⟩
theorem S.eV (hI:aO Tryz.prog J I) (mI:aJ I):aD Tryz.prog J 222 (F.eV ⟨I,kk⟩):=by
 refine aD.aT (I:=lkI []) (aX trivial) (aW _) mixed W7.A.eV Tryz.func222 rfl (by kernel_rfl) (by kernel_rfl) Tryz.call222 fun args h K hs=>?_
 match args,hs with
 | [a0],hs=>exact⟨Nat.le_of_ble_eq_true (by kernel_rfl),Eq.mp (by kernel_rfl) hs⟩
theorem S.nV (hI:aO Tryz.prog J I) (mI:aJ I):aD Tryz.prog J 237 (F.nV ⟨I,kk⟩):=by
 refine aD.aT (I:=lkI [(222,F.eV ⟨I,kk⟩)]) (aX ⟨S.eV hI mI,trivial⟩) (aW _) mixed W7.A.nV Tryz.func237 rfl (by kernel_rfl) (by kernel_rfl) Tryz.call237 fun args h K hs=>?_
 match args,hs with
 | [a0,a1],hs=>exact⟨Nat.le_of_ble_eq_true (by kernel_rfl),Eq.mp (by kernel_rfl) hs⟩
theorem S.fV (hI:aO Tryz.prog J I) (mI:aJ I):aD Tryz.prog J 194 (F.fV ⟨I,kk⟩):=by
 refine aD.aT (I:=lkI []) (aX trivial) (aW _) mixed W7.A.fV Tryz.func194 rfl (by kernel_rfl) (by kernel_rfl) Tryz.call194 fun args h K hs=>?_
 match args,hs with
 | [a0,a1],hs=>exact⟨Nat.le_of_ble_eq_true (by kernel_rfl),Eq.mp (by kernel_rfl) hs⟩
theorem S.jF (hI:aO Tryz.prog J I) (mI:aJ I):aD Tryz.prog J 163 (F.jF ⟨I,kk⟩):=by
 refine aD.aT (I:=lkI [(194,F.fV ⟨I,kk⟩),(222,F.eV ⟨I,kk⟩),(68,F.fC ⟨I,kk⟩)]) (aX ⟨S.fV hI mI,S.eV hI mI,S.fC hI mI,trivial⟩) (aW _) mixed W7.A.jF Tryz.func163 rfl (by kernel_rfl) (by kernel_rfl) Tryz.call163 fun args h K hs=>?_
 match args,hs with
 | [a0,a1,a2],hs=>exact⟨Nat.le_of_ble_eq_true (by kernel_rfl),Eq.mp (by kernel_rfl) hs⟩
theorem S.nW (hI:aO Tryz.prog J I) (mI:aJ I):aD Tryz.prog J 238 (F.nW ⟨I,kk⟩):=by
 refine aD.aT (I:=lkI [(194,F.fV ⟨I,kk⟩),(222,F.eV ⟨I,kk⟩)]) (aX ⟨S.fV hI mI,S.eV hI mI,trivial⟩) (aW _) mixed W7.A.nW Tryz.func238 rfl (by kernel_rfl) (by kernel_rfl) Tryz.call238 fun args h K hs=>?_
 match args,hs with
 | [a0,a1,a2,a3],hs=>exact⟨Nat.le_of_ble_eq_true (by kernel_rfl),Eq.mp (by kernel_rfl) hs⟩
theorem S.gT (hI:aO Tryz.prog J I) (mI:aJ I):aD Tryz.prog J 262 (F.gT ⟨I,kk⟩):=by
 refine aD.aT (I:=lkI [(237,F.nV ⟨I,kk⟩),(290,F.dF ⟨I,kk⟩),(163,F.jF ⟨I,kk⟩),(291,F.gF ⟨I,kk⟩),(238,F.nW ⟨I,kk⟩)]) (aX ⟨S.nV hI mI,S.dF hI mI,S.jF hI mI,S.gF hI mI,S.nW hI mI,trivial⟩) (aW _) mixed W7.A.gT Tryz.func262 rfl (by kernel_rfl) (by kernel_rfl) Tryz.call262 fun args h K hs=>?_
 match args,hs with
 | [a0,a1],hs=>exact⟨Nat.le_of_ble_eq_true (by kernel_rfl),Eq.mp (by kernel_rfl) hs⟩
theorem S.fE (hI:aO Tryz.prog J I) (mI:aJ I):aD Tryz.prog J 188 (F.fE ⟨I,kk⟩):=by
 refine aD.aT (I:=lkI [(260,F.lO ⟨I,kk⟩),(261,F.lN ⟨I,kk⟩),(262,F.gT ⟨I,kk⟩)]) (aX ⟨S.lO hI mI,S.lN hI mI,S.gT hI mI,trivial⟩) (aW _) mixed W7.A.fE Tryz.func188 rfl (by kernel_rfl) (by kernel_rfl) Tryz.call188 fun args h K hs=>?_
 match args,hs with
 | [a0,a1,a2],hs=>exact⟨Nat.le_of_ble_eq_true (by kernel_rfl),Eq.mp (by kernel_rfl) hs⟩
theorem S.nY (hI:aO Tryz.prog J I) (mI:aJ I):aD Tryz.prog J 114 (F.nY ⟨I,kk⟩):=by
 refine aD.aT (I:=lkI [(185,F.oA ⟨I,kk⟩),(186,F.nX ⟨I,kk⟩),(187,F.gC ⟨I,kk⟩),(188,F.fE ⟨I,kk⟩)]) (aX ⟨S.oA hI mI,S.nX hI mI,S.gC hI mI,S.fE hI mI,trivial⟩) (aW _) mixed W7.A.nY Tryz.func114 rfl (by kernel_rfl) (by kernel_rfl) Tryz.call114 fun args h K hs=>?_
 match args,hs with
 | [a0,a1,a2],hs=>exact⟨Nat.le_of_ble_eq_true (by kernel_rfl),Eq.mp (by kernel_rfl) hs⟩
theorem S.iU (hI:aO Tryz.prog J I) (mI:aJ I):aD Tryz.prog J 107 (F.iU ⟨I,kk⟩):=by
 refine aD.aT (I:=lkI [(173,F.fX ⟨I,kk⟩)]) (aX ⟨S.fX hI mI,trivial⟩) (aW _) mixed W7.A.iU Tryz.func107 rfl (by kernel_rfl) (by kernel_rfl) Tryz.call107 fun args h K hs=>?_
 match args,hs with
 | [a0,a1],hs=>exact⟨Nat.le_of_ble_eq_true (by kernel_rfl),Eq.mp (by kernel_rfl) hs⟩
theorem S.iT (hI:aO Tryz.prog J I) (mI:aJ I):aD Tryz.prog J 108 (F.iT ⟨I,kk⟩):=by
 refine aD.aT (I:=lkI [(107,F.iU ⟨I,kk⟩)]) (aX ⟨S.iU hI mI,trivial⟩) (aW _) mixed W7.A.iT Tryz.func108 rfl (by kernel_rfl) (by kernel_rfl) Tryz.call108 fun args h K hs=>?_
 match args,hs with
 | [a0,a1],hs=>exact⟨Nat.le_of_ble_eq_true (by kernel_rfl),Eq.mp (by kernel_rfl) hs⟩
theorem S.lS (hI:aO Tryz.prog J I) (mI:aJ I):aD Tryz.prog J 52 (F.lS ⟨I,kk⟩):=by
 refine aD.aT (I:=lkI [(111,F.iX ⟨I,kk⟩),(64,F.jS ⟨I,kk⟩),(68,F.fC ⟨I,kk⟩),(113,F.jQ ⟨I,kk⟩),(112,F.mG ⟨I,kk⟩),(65,F.mZ ⟨I,kk⟩),(114,F.nY ⟨I,kk⟩),(108,F.iT ⟨I,kk⟩)]) (aX ⟨S.iX hI mI,S.jS hI mI,S.fC hI mI,S.jQ hI mI,S.mG hI mI,S.mZ hI mI,S.nY hI mI,S.iT hI mI,trivial⟩) (aW _) mixed W7.A.lS Tryz.func52 rfl (by kernel_rfl) (by kernel_rfl) Tryz.call52 fun args h K hs=>?_
 match args,hs with
 | [a0,a1,a2,a3],hs=>exact⟨Nat.le_of_ble_eq_true (by kernel_rfl),Eq.mp (by kernel_rfl) hs⟩
theorem S.nL (hI:aO Tryz.prog J I) (mI:aJ I):aD Tryz.prog J 266 (F.nL ⟨I,kk⟩):=by
 refine aD.aT (I:=I) hI mI mixed W7.A.nL Tryz.func266 rfl (by kernel_rfl) (by kernel_rfl) Tryz.call266 fun args h K hs=>?_
 match args,hs with
 | [a0,a1],hs=>exact⟨Nat.le_of_ble_eq_true (by kernel_rfl),Eq.mp (by kernel_rfl) hs⟩
theorem S.jC (hI:aO Tryz.prog J I) (mI:aJ I):aD Tryz.prog J 197 (F.jC ⟨I,kk⟩):=by
 refine aD.aT (I:=lkI [(266,F.nL ⟨I,kk⟩)]) (aX ⟨S.nL hI mI,trivial⟩) (aW _) mixed W7.A.jC Tryz.func197 rfl (by kernel_rfl) (by kernel_rfl) Tryz.call197 fun args h K hs=>?_
 match args,hs with
 | [a0,a1],hs=>exact⟨Nat.le_of_ble_eq_true (by kernel_rfl),Eq.mp (by kernel_rfl) hs⟩
theorem S.mM (hI:aO Tryz.prog J I) (mI:aJ I):aD Tryz.prog J 106 (F.mM ⟨I,kk⟩):=by
 refine aD.aT (I:=lkI []) (aX trivial) (aW _) mixed W7.A.mM Tryz.func106 rfl (by kernel_rfl) (by kernel_rfl) Tryz.call106 fun args h K hs=>?_
 match args,hs with
 | [a0,a1],hs=>exact⟨Nat.le_of_ble_eq_true (by kernel_rfl),Eq.mp (by kernel_rfl) hs⟩
theorem S.nZ (hI:aO Tryz.prog J I) (mI:aJ I):aD Tryz.prog J 109 (F.nZ ⟨I,kk⟩):=by
 refine aD.aT (I:=lkI [(174,F.eM ⟨I,kk⟩),(175,F.iG ⟨I,kk⟩),(176,F.iF ⟨I,kk⟩)]) (aX ⟨S.eM hI mI,S.iG hI mI,S.iF hI mI,trivial⟩) (aW _) mixed W7.A.nZ Tryz.func109 rfl (by kernel_rfl) (by kernel_rfl) Tryz.call109 fun args h K hs=>?_
 match args,hs with
 | [a0,a1,a2,a3],hs=>exact⟨Nat.le_of_ble_eq_true (by kernel_rfl),Eq.mp (by kernel_rfl) hs⟩
theorem S.jG (hI:aO Tryz.prog J I) (mI:aJ I):aD Tryz.prog J 50 (F.jG ⟨I,kk⟩):=by
 refine aD.aT (I:=lkI [(106,F.mM ⟨I,kk⟩),(107,F.iU ⟨I,kk⟩),(108,F.iT ⟨I,kk⟩),(109,F.nZ ⟨I,kk⟩)]) (aX ⟨S.mM hI mI,S.iU hI mI,S.iT hI mI,S.nZ hI mI,trivial⟩) (aW _) mixed W7.A.jG Tryz.func50 rfl (by kernel_rfl) (by kernel_rfl) Tryz.call50 fun args h K hs=>?_
 match args,hs with
 | [a0,a1,a2],hs=>exact⟨Nat.le_of_ble_eq_true (by kernel_rfl),Eq.mp (by kernel_rfl) hs⟩
theorem S.pE (_:aO Tryz.prog J I) (_:aJ I):aD Tryz.prog J 47 (F.pE ⟨I,kk⟩):=aQ9
theorem S.oN (hI:aO Tryz.prog J I) (mI:aJ I):aD Tryz.prog J 277 (F.oN ⟨I,kk⟩):=by
 refine aD.aT (I:=lkI []) (aX trivial) (aW _) mixed W7.A.oN Tryz.func277 rfl (by kernel_rfl) (by kernel_rfl) Tryz.call277 fun args h K hs=>?_
 match args,hs with
 | [a0],hs=>exact⟨Nat.le_of_ble_eq_true (by kernel_rfl),Eq.mp (by kernel_rfl) hs⟩
theorem S.jE (hI:aO Tryz.prog J I) (mI:aJ I):aD Tryz.prog J 220 (F.jE ⟨I,kk⟩):=by
 refine aD.aT (I:=lkI [(277,F.oN ⟨I,kk⟩),(154,F.oW ⟨I,kk⟩)]) (aX ⟨S.oN hI mI,S.oW hI mI,trivial⟩) (aW _) mixed W7.A.jE Tryz.func220 rfl (by kernel_rfl) (by kernel_rfl) Tryz.call220 fun args h K hs=>?_
 match args,hs with
 | [a0],hs=>exact⟨Nat.le_of_ble_eq_true (by kernel_rfl),Eq.mp (by kernel_rfl) hs⟩
theorem S.lH (hI:aO Tryz.prog J I) (mI:aJ I):aD Tryz.prog J 158 (F.lH ⟨I,kk⟩):=by
 refine aD.aT (I:=lkI [(221,F.fT ⟨I,kk⟩)]) (aX ⟨S.fT hI mI,trivial⟩) (aW _) mixed W7.A.lH Tryz.func158 rfl (by kernel_rfl) (by kernel_rfl) Tryz.call158 fun args h K hs=>?_
 match args,hs with
 | [a0],hs=>exact⟨Nat.le_of_ble_eq_true (by kernel_rfl),Eq.mp (by kernel_rfl) hs⟩
theorem S.lI (hI:aO Tryz.prog J I) (mI:aJ I):aD Tryz.prog J 159 (F.lI ⟨I,kk⟩):=by
 refine aD.aT (I:=lkI [(221,F.fT ⟨I,kk⟩)]) (aX ⟨S.fT hI mI,trivial⟩) (aW _) mixed W7.A.lI Tryz.func159 rfl (by kernel_rfl) (by kernel_rfl) Tryz.call159 fun args h K hs=>?_
 match args,hs with
 | [a0],hs=>exact⟨Nat.le_of_ble_eq_true (by kernel_rfl),Eq.mp (by kernel_rfl) hs⟩
theorem S.lJ (hI:aO Tryz.prog J I) (mI:aJ I):aD Tryz.prog J 160 (F.lJ ⟨I,kk⟩):=by
 refine aD.aT (I:=lkI []) (aX trivial) (aW _) mixed W7.A.lJ Tryz.func160 rfl (by kernel_rfl) (by kernel_rfl) Tryz.call160 fun args h K hs=>?_
 match args,hs with
 | [a0],hs=>exact⟨Nat.le_of_ble_eq_true (by kernel_rfl),Eq.mp (by kernel_rfl) hs⟩
theorem S.oM (hI:aO Tryz.prog J I) (mI:aJ I):aD Tryz.prog J 265 (F.oM ⟨I,kk⟩):=by
 refine aD.aT (I:=lkI []) (aX trivial) (aW _) mixed W7.A.oM Tryz.func265 rfl (by kernel_rfl) (by kernel_rfl) Tryz.call265 fun args h K hs=>?_
 match args,hs with
 | [a0],hs=>exact⟨Nat.le_of_ble_eq_true (by kernel_rfl),Eq.mp (by kernel_rfl) hs⟩
theorem S.gU (hI:aO Tryz.prog J I) (mI:aJ I):aD Tryz.prog J 196 (F.gU ⟨I,kk⟩):=by
 refine aD.aT (I:=lkI [(265,F.oM ⟨I,kk⟩),(154,F.oW ⟨I,kk⟩)]) (aX ⟨S.oM hI mI,S.oW hI mI,trivial⟩) (aW _) mixed W7.A.gU Tryz.func196 rfl (by kernel_rfl) (by kernel_rfl) Tryz.call196 fun args h K hs=>?_
 match args,hs with
 | [a0],hs=>exact⟨Nat.le_of_ble_eq_true (by kernel_rfl),Eq.mp (by kernel_rfl) hs⟩
def A.oK:An:=(.s (.seq (.s (.cond (.s .l) .l)) (.seq (.s (.block (.loop 274877646784 [] (.s (.seq (.cond .l .l) (.block (.s (.s (.s (.cond (.s .l) .l)))))))))) (.s .l))))
theorem S.oK (hI:aO Tryz.prog J I) (mI:aJ I):aD Tryz.prog J 119 (F.oK ⟨I,kk⟩):=by
 refine aD.aT (I:=I) hI mI mixed A.oK Tryz.func119 rfl (by kernel_rfl) (by kernel_rfl) Tryz.call119 fun args h K hs=>?_
 match args,hs with
 | [a0,a1,a2],hs=>exact⟨Nat.le_of_ble_eq_true (by kernel_rfl),Eq.mp (by kernel_rfl) hs⟩
def A.pK:An:=(.s (.seq (.s (.cond (.s .l) .l)) (.seq (.s (.block (.loop 274877646784 [] (.s (.seq (.cond .l .l) (.block (.s (.s (.s (.cond (.s .l) .l)))))))))) (.s .l))))
theorem S.pK (hI:aO Tryz.prog J I) (mI:aJ I):aD Tryz.prog J 121 (F.pK ⟨I,kk⟩):=by
 refine aD.aT (I:=I) hI mI mixed A.pK Tryz.func121 rfl (by kernel_rfl) (by kernel_rfl) Tryz.call121 fun args h K hs=>?_
 match args,hs with
 | [a0,a1,a2],hs=>exact⟨Nat.le_of_ble_eq_true (by kernel_rfl),Eq.mp (by kernel_rfl) hs⟩
def A.oU:An:=(.s (.seq (.s (.cond (.s .l) .l)) (.seq (.s (.block (.loop 67100720 [13] (.s (.seq (.cond .l .l) (.seq (.block (.s (.seq (.draw #[0,0,3,7,0,0,48,112,255] (.qs [0,1,2,3,4,5,6,7,8] .done)) (.cond (.s .l) .l)))) .l)))))) (.s .l))))
theorem S.oU (hI:aO Tryz.prog J I) (mI:aJ I):aD Tryz.prog J 123 (F.oU ⟨I,kk⟩):=by
 refine aD.aT (I:=lkI []) (aX trivial) (aW _) mixed A.oU Tryz.func123 rfl (by kernel_rfl) (by kernel_rfl) Tryz.call123 fun args h K hs=>?_
 match args,hs with
 | [a0,a1],hs=>exact⟨Nat.le_of_ble_eq_true (by kernel_rfl),Eq.mp (by kernel_rfl) hs⟩
theorem S.jD (hI:aO Tryz.prog J I) (mI:aJ I):aD Tryz.prog J 264 (F.jD ⟨I,kk⟩):=by
 refine aD.aT (I:=lkI [(174,F.eM ⟨I,kk⟩)]) (aX ⟨S.eM hI mI,trivial⟩) (aW _) mixed W7.A.jD Tryz.func264 rfl (by kernel_rfl) (by kernel_rfl) Tryz.call264 fun args h K hs=>?_
 match args,hs with
 | [a0,a1,a2],hs=>exact⟨Nat.le_of_ble_eq_true (by kernel_rfl),Eq.mp (by kernel_rfl) hs⟩
theorem S.nQ (hI:aO Tryz.prog J I) (mI:aJ I):aD Tryz.prog J 191 (F.nQ ⟨I,kk⟩):=by
 refine aD.aT (I:=lkI [(220,F.jE ⟨I,kk⟩),(195,F.fU ⟨I,kk⟩),(197,F.jC ⟨I,kk⟩)]) (aX ⟨S.jE hI mI,S.fU hI mI,S.jC hI mI,trivial⟩) (aW _) mixed W7.A.nQ Tryz.func191 rfl (by kernel_rfl) (by kernel_rfl) Tryz.call191 fun args h K hs=>?_
 match args,hs with
 | [a0,a1],hs=>exact⟨Nat.le_of_ble_eq_true (by kernel_rfl),Eq.mp (by kernel_rfl) hs⟩
theorem S.lM (hI:aO Tryz.prog J I) (mI:aJ I):aD Tryz.prog J 192 (F.lM ⟨I,kk⟩):=by
 refine aD.aT (I:=lkI []) (aX trivial) (aW _) mixed W7.A.lM Tryz.func192 rfl (by kernel_rfl) (by kernel_rfl) Tryz.call192 fun args h K hs=>?_
 match args,hs with
 | [a0,a1],hs=>exact⟨Nat.le_of_ble_eq_true (by kernel_rfl),Eq.mp (by kernel_rfl) hs⟩
theorem S.nN (hI:aO Tryz.prog J I) (mI:aJ I):aD Tryz.prog J 294 (F.nN ⟨I,kk⟩):=by
 refine aD.aT (I:=lkI []) (aX trivial) (aW _) mixed W7.A.nN Tryz.func294 rfl (by kernel_rfl) (by kernel_rfl) Tryz.call294 fun args h K hs=>?_
 match args,hs with
 | [a0,a1],hs=>exact⟨Nat.le_of_ble_eq_true (by kernel_rfl),Eq.mp (by kernel_rfl) hs⟩
theorem S.nG (hI:aO Tryz.prog J I) (mI:aJ I):aD Tryz.prog J 267 (F.nG ⟨I,kk⟩):=by
 refine aD.aT (I:=lkI [(294,F.nN ⟨I,kk⟩)]) (aX ⟨S.nN hI mI,trivial⟩) (aW _) mixed W7.A.nG Tryz.func267 rfl (by kernel_rfl) (by kernel_rfl) Tryz.call267 fun args h K hs=>?_
 match args,hs with
 | [a0,a1],hs=>exact⟨Nat.le_of_ble_eq_true (by kernel_rfl),Eq.mp (by kernel_rfl) hs⟩
theorem S.lP (hI:aO Tryz.prog J I) (mI:aJ I):aD Tryz.prog J 198 (F.lP ⟨I,kk⟩):=by
 refine aD.aT (I:=lkI [(196,F.gU ⟨I,kk⟩),(267,F.nG ⟨I,kk⟩),(222,F.eV ⟨I,kk⟩),(163,F.jF ⟨I,kk⟩)]) (aX ⟨S.gU hI mI,S.nG hI mI,S.eV hI mI,S.jF hI mI,trivial⟩) (aW _) mixed W7.A.lP Tryz.func198 rfl (by kernel_rfl) (by kernel_rfl) Tryz.call198 fun args h K hs=>?_
 match args,hs with
 | [a0],hs=>exact⟨Nat.le_of_ble_eq_true (by kernel_rfl),Eq.mp (by kernel_rfl) hs⟩
theorem S.kJ (hI:aO Tryz.prog J I) (mI:aJ I):aD Tryz.prog J 193 (F.kJ ⟨I,kk⟩):=by
 refine aD.aT (I:=lkI [(194,F.fV ⟨I,kk⟩)]) (aX ⟨S.fV hI mI,trivial⟩) (aW _) mixed W7.A.kJ Tryz.func193 rfl (by kernel_rfl) (by kernel_rfl) Tryz.call193 fun args h K hs=>?_
 match args,hs with
 | [a0,a1,a2],hs=>exact⟨Nat.le_of_ble_eq_true (by kernel_rfl),Eq.mp (by kernel_rfl) hs⟩
theorem S.fF (hI:aO Tryz.prog J I) (mI:aJ I):aD Tryz.prog J 120 (F.fF ⟨I,kk⟩):=by
 refine aD.aT (I:=lkI [(191,F.nQ ⟨I,kk⟩),(160,F.lJ ⟨I,kk⟩),(158,F.lH ⟨I,kk⟩),(192,F.lM ⟨I,kk⟩),(159,F.lI ⟨I,kk⟩),(196,F.gU ⟨I,kk⟩),(195,F.fU ⟨I,kk⟩),(197,F.jC ⟨I,kk⟩),(198,F.lP ⟨I,kk⟩)]) (aX ⟨S.nQ hI mI,S.lJ hI mI,S.lH hI mI,S.lM hI mI,S.lI hI mI,S.gU hI mI,S.fU hI mI,S.jC hI mI,S.lP hI mI,trivial⟩) (aW _) mixed W7.A.fF Tryz.func120 rfl (by kernel_rfl) (by kernel_rfl) Tryz.call120 fun args h K hs=>?_
 match args,hs with
 | [a0,a1],hs=>exact⟨Nat.le_of_ble_eq_true (by kernel_rfl),Eq.mp (by kernel_rfl) hs⟩
def A.rL:An:=(.s (.seq (.s (.cond (.s .l) .l)) (.seq (.s (.block (.loop 67100720 [13] (.s (.seq (.cond .l .l) (.seq (.block (.s (.seq (.draw #[0,0,3,7,0,0,48,112,255] (.qs [0,1,2,3,4,5,6,7,8] .done)) (.cond (.s .l) .l)))) .l)))))) (.s .l))))
theorem S.rL (hI:aO Tryz.prog J I) (mI:aJ I):aD Tryz.prog J 199 (F.rL ⟨I,kk⟩):=by
 refine aD.aT (I:=lkI []) (aX trivial) (aW _) mixed A.rL Tryz.func199 rfl (by kernel_rfl) (by kernel_rfl) Tryz.call199 fun args h K hs=>?_
 match args,hs with
 | [a0,a1],hs=>exact⟨Nat.le_of_ble_eq_true (by kernel_rfl),Eq.mp (by kernel_rfl) hs⟩
def A.rO:An:=(.s (.seq (.draw #[0,1,3,7,0,16,48,112,255,511,1023,2047,4095,8191,1023,17407,50175,115711,262143,524287,1048575,2097151,4194303,8388607,16777215,2097151,35651583,102760447,236978175,536870911,1073741823,2147483647,4294967295,8589934591,17179869183,34359738367,4294967295,73014444031,210453397503,485331304447,1099511627775,2199023255551,4398046511103] (.qs [0,1,2,3,4,5,6,7,8,9,10,11,12,13,14,15,16,17] (.c 18 [] (.qs [19,20,21,22,23,24,25,26,27,28] (.c 29 [] (.qs [30,31,32,33,34,35,36,37,38,39] (.c 40 [] (.q 41 (.q 42 .done))))))))) .l))
theorem S.rO (hI:aO Tryz.prog J I) (mI:aJ I):aD Tryz.prog J 122 (F.rO ⟨I,kk⟩):=by
 refine aD.aT (I:=lkI [(199,F.rL ⟨I,kk⟩),(195,F.fU ⟨I,kk⟩),(119,F.oK ⟨I,kk⟩)]) (aX ⟨S.rL hI mI,S.fU hI mI,S.oK hI mI,trivial⟩) (aW _) mixed A.rO Tryz.func122 rfl (by kernel_rfl) (by kernel_rfl) Tryz.call122 fun args h K hs=>?_
 match args,hs with
 | [a0,a1],hs=>exact⟨Nat.le_of_ble_eq_true (by kernel_rfl),Eq.mp (by kernel_rfl) hs⟩
def A.oY:An:=(.s (.seq (.s (.cond (.s .l) .l)) (.seq (.draw #[0,1,3,7,0,16,48,112,255,511,1023,2047,4095,8191,1023,17407,50175,115711,262143,524287,1048575,2097151,4194303,8388607,16777215,33554431,2097151,69206015,203423743,471859199,1073741823,2147483647,4294967295,8589934591] (.qs [0,1,2,3,4,5,6,7] (.c 8 [] (.qs [9,10,11,12,13,14,15,16,17] (.c 18 [] (.qs [19,20,21,22,23,24,26,27,28,29] (.c 25 [29] (.c 30 [] (.c 31 [] (.q 32 (.q 33 .done))))))))))) .l)))
theorem S.oY (hI:aO Tryz.prog J I) (mI:aJ I):aD Tryz.prog J 60 (F.oY ⟨I,kk⟩):=by
 refine aD.aT (I:=lkI [(119,F.oK ⟨I,kk⟩),(121,F.pK ⟨I,kk⟩),(74,F.lE ⟨I,kk⟩),(123,F.oU ⟨I,kk⟩)]) (aX ⟨S.oK hI mI,S.pK hI mI,S.lE hI mI,S.oU hI mI,trivial⟩) (aW _) mixed A.oY Tryz.func60 rfl (by kernel_rfl) (by kernel_rfl) Tryz.call60 fun args h K hs=>?_
 match args,hs with
 | [a0,a1],hs=>exact⟨Nat.le_of_ble_eq_true (by kernel_rfl),Eq.mp (by kernel_rfl) hs⟩
def A.qZ:An:=(.s (.s .l))
theorem S.qZ (hI:aO Tryz.prog J I) (mI:aJ I):aD Tryz.prog J 59 (F.qZ ⟨I,kk⟩):=by
 refine aD.aT (I:=lkI []) (aX trivial) (aW _) mixed A.qZ Tryz.func59 rfl (by kernel_rfl) (by kernel_rfl) Tryz.call59 fun args h K hs=>?_
 match args,hs with
 | [a0],hs=>exact⟨Nat.le_of_ble_eq_true (by kernel_rfl),Eq.mp (by kernel_rfl) hs⟩
end Go.Abs
namespace Go.Abs
open Go Go.Proofs
def Z0:FE:=⟨fun _=>none,kk⟩
def Z1:FE:=⟨lkI [(202,F.eU Z0)],kk⟩
theorem sT:aO Tryz.prog J (fun _=>none):=fun _ _ h=>by cases h
theorem sS:aJ (fun _=>none):=fun _ _ h=>by cases h
theorem aQa:aO Tryz.prog J Z1.I:=aX ⟨S.eU sT sS,trivial⟩
theorem aIr:aJ Z1.I:=aW _
end Go.Abs
namespace Go.Abs
open Go Go.Proofs
def ZA:FE:=⟨lkI [(193,F.kJ Z0),(264,F.jD Z0)],kk⟩
def ZS:FE:=⟨lkI [(120,F.fF ZA)],kk⟩
def IW:FuncId→Option Spec:=lkI [(282,F.gR Z0),(126,F.oQ Z1),(202,F.eU Z0),(182,F.jO Z0),(243,F.fN Z0),(133,F.gQ Z0),(120,F.fF ZA),(122,F.rO ZS)]
def EW:FE:=⟨IW,kk⟩
theorem aIs:aO Tryz.prog J ZA.I:=aX ⟨S.kJ sT sS,S.jD sT sS,trivial⟩
theorem zU:aJ ZA.I:=aW _
theorem aQb:aO Tryz.prog J ZS.I:=aX ⟨S.fF aIs zU,trivial⟩
theorem aIt:aJ ZS.I:=aW _
theorem aP2:aO Tryz.prog J IW:=
 aX ⟨S.gR sT sS,S.oQ aQa aIr,S.eU sT sS,S.jO sT sS,S.fN sT sS,S.gQ sT sS,S.fF aIs zU,S.rO aQb aIt,trivial⟩
theorem aIk:aJ IW:=aW _
theorem veW:VlE EW:=⟨⟨aIk,⟨Z1,rfl,aIr,Z0,rfl⟩,⟨Z0,rfl⟩⟩,⟨Z0,rfl⟩,⟨Z0,rfl⟩,⟨Z0,rfl⟩,⟨Z0,rfl⟩⟩
theorem aTj:EqE EW:=⟨ZA,Z0,rfl,zU,rfl,rfl⟩
theorem aXz:zS EW:=⟨ZS,rfl,aIt,ZA,Z0,rfl,zU,rfl,rfl⟩
end Go.Abs
