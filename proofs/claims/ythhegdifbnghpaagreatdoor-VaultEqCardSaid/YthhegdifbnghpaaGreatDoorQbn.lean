/- Library functions at the seat's program: their specs speak truly. -/
import Derived.Test.YthhegdifbnghpaaGreatDoorQap
import Derived.Test.YthhegdifbnghpaaGreatDoorQbj
import Derived.Test.YthhegdifbnghpaaGreatDoorQbk
import Derived.Test.YthhegdifbnghpaaGreatDoorQbm
import Derived.Shelf.SlMaps.Clone
import Derived.Lib.LaidTab
set_option linter.unusedSimpArgs false
set_option linter.unusedVariables false
namespace Go.Abs
open Go Go.RowKit Go.Proofs
variable {I:FuncId→Option Spec}
theorem aHj:Tryz.prog.globalNamed "internal/strconv.uint64pow10" = some 0:=by kernel_rfl
def J8 (w:World):Prop:=Lib.TabIs Tryz.prog w "internal/strconv.uint64pow10" .u64 Lib.pow10Tab
theorem rQ:DF J8:=fun _ _ h=>h
theorem aP3 {W:World} (h:J8 W):cP J8 W.heap.size:=by
 unfold J8 Lib.TabIs World.var? at h
 rw[aHj]at h
 simp only[Option.bind_some]at h
 have hlt:0<W.heap.size:=by
  rcases Nat.lt_or_ge 0 W.heap.size with h' | h'
  ·exact h'
  ·rw[Array.getElem?_eq_none h']at h;cases h
 intro w w' hw hb _
 unfold J8 Lib.TabIs World.var? at hw ⊢
 rw[aHj]at hw ⊢
 simp only[Option.bind_some]at hw ⊢
 rw[hb.block 0 hlt]
 exact hw
def kk:Nat→Nat:=fun i=>([282,193,264,316,293,370,126,202,182,243,133,153,219,207,120,122,130,141,213,215,168,228,170,230,0,0]:List Nat).getD i 0
theorem S.zJ (_:aO Tryz.prog J8 I) (_:aJ I):aD Tryz.prog J8 336 (F.zJ ⟨I,kk⟩):=by
 have e:Tryz.aLy.f 173=336:=by kernel_rfl
 have h:=L.aP1 (J:=J8) rQ Tryz.aVf (fun w h=>h) (by rw[e];exact Tryz.call336)
 rw[e]at h
 exact h
theorem S.wP (_:aO Tryz.prog J8 I) (_:aJ I):aD Tryz.prog J8 338 (F.wP ⟨I,kk⟩):=by
 have e:Tryz.aLw.f 174=338:=by kernel_rfl
 have h:=L.aP6 (J:=J8) rQ Tryz.aVd (by rw[e];exact Tryz.call338)
 rw[e]at h
 exact h
theorem S.zK (_:aO Tryz.prog J8 I) (_:aJ I):aD Tryz.prog J8 337 (F.zK ⟨I,kk⟩):=by
 have e:Tryz.aGz.f 160=337:=by kernel_rfl
 have h:=L.aP9 (J:=J8) rQ Tryz.aLu (by kernel_rfl) (by rw[e];exact Tryz.call337)
 rw[e]at h
 exact h
theorem S.pL (_:aO Tryz.prog J8 I) (_:aJ I):aD Tryz.prog J8 317 (F.pL ⟨I,kk⟩):=
 L.aR8 fun t b w es clock hb=>by
  rw[run_callFunc_extern Tryz.func317 (by kernel_rfl) (by kernel_rfl) (by kernel_rfl) (e:=Extern.MapsClone.clone) (by kernel_rfl),run_maps_clone_sl w t hb]
  rfl
theorem aYf (m:Nat):AnyZ.SortsIn Tryz.prog Tryz.aOx Fence.wide m:=
 ⟨fun blk off cap ss W hH hblk hsz=>callsIn_wide.2 (AnyM.slices_Sort_string Tryz.aOw blk off cap ss W hH hblk hsz),
  fun p cap W=>callsIn_wide.2 (AnyM.slices_Sort_string_none Tryz.aOw p cap W)⟩
theorem aHw (g bm:Nat) (w:World) (D0:DataW Unit) (eg:∀args w,(callFunc g args).run Tryz.prog w = .ok (.enter g args) w) (hmax:Maps.size D0≤maxLen) (hbytes:Maps.size D0*16≤140737488355328)
 (hseq:SeqGives Fence.wide 2 Tryz.prog g #[.pointer (some ⟨bm,0,none⟩)] encStr (fun ss=>ss.Perm (strKeys D0)) (Maps.size D0) w) :
 Calls Tryz.prog 154 #[.func (.func g) #[] #[.pointer (some ⟨bm,0,none⟩)]] w fun e w'=>∃(v:Value) (ss:List (List UInt8)),e = .returned v∧ss.Perm (strKeys D0) ∧
  w'.ownsRow w.heap.size 9 1 v ss.length ((ss.mergeSort (fun x y=>decide (x≤y))).map encStr)∧(v = .slice none 0 0↔ss=[])∧Below w.heap.size w w':=
 callsIn_wide.1 (AnyZ.sorted_in Tryz.aYd Fence.wide 5 trivial trivial trivial trivial rfl (by omega) (aYf _) Tryz.call218 g #[.pointer (some ⟨bm,0,none⟩)] trivial eg _ _ hmax hbytes _ hseq)
theorem S.oW (_:aO Tryz.prog J8 I) (_:aJ I):aD Tryz.prog J8 154 (F.oW ⟨I,kk⟩):=by
 refine L.aP8 rQ Tryz.underlying9 Tryz.call154 fun g hg bm w b nn D0 hbm hm hown hmax hbytes=>?_
 rcases hg with rfl | rfl | rfl
 ·exact aHw 316 bm w D0 Tryz.call316 hmax hbytes (AnyZ.keys_gives (ρ:=Tryz.aLj) { Tryz.aUy with } Fence.wide 2 trivial rfl (by omega) bm b nn D0 w hbm hm hown)
 ·exact aHw 293 bm w D0 Tryz.call293 hmax hbytes (AnyZ.keys_gives (ρ:=Tryz.aLi) { Tryz.aUx with } Fence.wide 2 trivial rfl (by omega) bm b nn D0 w hbm hm hown)
 ·exact aHw 219 bm w D0 Tryz.call219 hmax hbytes (AnyZ.keys_gives (ρ:=Tryz.aLh) { Tryz.aUw with } Fence.wide 2 trivial rfl (by omega) bm b nn D0 w hbm hm hown)
theorem S.uK (_:aO Tryz.prog J8 I) (_:aJ I):aD Tryz.prog J8 72 (F.uK ⟨I,kk⟩):=by
 refine L.aPq (et:=27) rQ Tryz.call72 fun g hg bm b ces clk hlt hnd hkey hmax hbytes w hbm hm hb=>?_
 rcases hg with rfl | rfl | rfl
 ·exact Col.aSg bm b ces clk hlt hnd hkey hmax hbytes w hbm hm hb
 ·exact Col.aSh bm b ces clk hlt hnd hkey hmax hbytes w hbm hm hb
 ·exact Col.aSf bm b ces clk hlt hnd hkey hmax hbytes w hbm hm hb
end Go.Abs
