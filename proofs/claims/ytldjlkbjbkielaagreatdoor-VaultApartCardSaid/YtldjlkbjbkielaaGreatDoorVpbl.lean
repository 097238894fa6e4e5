/- Library functions at the seat's program: their specs speak truly. -/
import Derived.Test.YtldjlkbjbkielaaGreatDoorVpao
import Derived.Test.YtldjlkbjbkielaaGreatDoorVpbh
import Derived.Test.YtldjlkbjbkielaaGreatDoorVpbi
import Derived.Test.YtldjlkbjbkielaaGreatDoorVpbk
import Derived.Shelf.SlMaps.Clone
import Derived.Lib.LaidTab
set_option linter.unusedSimpArgs false
set_option linter.unusedVariables false
namespace Go.Abs
open Go Go.RowKit Go.Proofs
variable {I : FuncId → Option Spec}
theorem aFz : Tryz.prog.globalNamed "internal/strconv.uint64pow10" = some 0 := by kernel_rfl
def J8 (w : World) : Prop := Lib.TabIs Tryz.prog w "internal/strconv.uint64pow10" .u64 Lib.pow10Tab
theorem sR : DF J8 := fun _ _ h => h
theorem aOc {W : World} (h : J8 W) : cM J8 W.heap.size := by
 unfold J8 Lib.TabIs World.var? at h
 rw [aFz] at h
 simp only [Option.bind_some] at h
 have hlt : 0 < W.heap.size := by
  rcases Nat.lt_or_ge 0 W.heap.size with h' | h'
  · exact h'
  · rw [Array.getElem?_eq_none h'] at h; cases h
 intro w w' hw hb _
 unfold J8 Lib.TabIs World.var? at hw ⊢
 rw [aFz] at hw ⊢
 simp only [Option.bind_some] at hw ⊢
 rw [hb.block 0 hlt]
 exact hw
def kk : Nat → Nat := fun i => ([271, 183, 259, 324, 299, 364, 150, 239, 153, 221, 174, 171, 180, 250, 101, 103, 201] : List Nat).getD i 0
theorem S.yV (_ : aN Tryz.prog J8 I) (_ : aH I) : aD Tryz.prog J8 321 (F.yV ⟨I, kk⟩) := by
 have e : Tryz.aKh.f 173 = 321 := by kernel_rfl
 have h := L.aOa (J := J8) sR Tryz.aTk (fun w h => h) (by rw [e]; exact Tryz.call321)
 rw [e] at h
 exact h
theorem S.wH (_ : aN Tryz.prog J8 I) (_ : aH I) : aD Tryz.prog J8 323 (F.wH ⟨I, kk⟩) := by
 have e : Tryz.aKf.f 174 = 323 := by kernel_rfl
 have h := L.aOf (J := J8) sR Tryz.aTi (by rw [e]; exact Tryz.call323)
 rw [e] at h
 exact h
theorem S.yW (_ : aN Tryz.prog J8 I) (_ : aH I) : aD Tryz.prog J8 322 (F.yW ⟨I, kk⟩) := by
 have e : Tryz.aFf.f 160 = 322 := by kernel_rfl
 have h := L.aOh (J := J8) sR Tryz.aKd (by kernel_rfl) (by rw [e]; exact Tryz.call322)
 rw [e] at h
 exact h
theorem S.pA (_ : aN Tryz.prog J8 I) (_ : aH I) : aD Tryz.prog J8 287 (F.pA ⟨I, kk⟩) :=
 L.aQg fun t b w es clock hb => by
  rw [run_callFunc_extern Tryz.func287 (by kernel_rfl) (by kernel_rfl) (by kernel_rfl) (e := Extern.MapsClone.clone) (by kernel_rfl), run_maps_clone_sl w t hb]
  rfl
theorem aV7 (m : Nat) : AnyZ.SortsIn Tryz.prog Tryz.aM9 Fence.wide m :=
 ⟨fun blk off cap ss W hH hblk hsz => callsIn_wide.2 (AnyM.slices_Sort_string Tryz.aM8 blk off cap ss W hH hblk hsz),
  fun p cap W => callsIn_wide.2 (AnyM.slices_Sort_string_none Tryz.aM8 p cap W)⟩
theorem aGe (g bm : Nat) (w : World) (D0 : DataW Unit) (eg : ∀ args w, (callFunc g args).run Tryz.prog w = .ok (.enter g args) w) (hmax : Maps.size D0 ≤ maxLen) (hbytes : Maps.size D0 * 16 ≤ 140737488355328)
 (hseq : SeqGives Fence.wide 2 Tryz.prog g #[.pointer (some ⟨bm, 0, none⟩)] encStr (fun ss => ss.Perm (strKeys D0)) (Maps.size D0) w) :
 Calls Tryz.prog 97 #[.func (.func g) #[] #[.pointer (some ⟨bm, 0, none⟩)]] w fun e w' => ∃ (v : Value) (ss : List (List UInt8)), e = .returned v ∧ ss.Perm (strKeys D0) ∧
  w'.ownsRow w.heap.size 9 1 v ss.length ((ss.mergeSort (fun x y => decide (x ≤ y))).map encStr) ∧ (v = .slice none 0 0 ↔ ss = []) ∧ Below w.heap.size w w' :=
 callsIn_wide.1 (AnyZ.sorted_in Tryz.aV4 Fence.wide 5 trivial trivial trivial trivial rfl (by omega) (aV7 _) Tryz.call179 g #[.pointer (some ⟨bm, 0, none⟩)] trivial eg _ _ hmax hbytes _ hseq)
theorem S.pJ (_ : aN Tryz.prog J8 I) (_ : aH I) : aD Tryz.prog J8 97 (F.pJ ⟨I, kk⟩) := by
 refine L.aOg sR Tryz.underlying9 Tryz.call97 fun g hg bm w b nn D0 hbm hm hown hmax hbytes => ?_
 rcases hg with rfl | rfl | rfl
 · exact aGe 324 bm w D0 Tryz.call324 hmax hbytes (AnyZ.keys_gives (ρ := Tryz.aJ3) { Tryz.aS0 with } Fence.wide 2 trivial rfl (by omega) bm b nn D0 w hbm hm hown)
 · exact aGe 299 bm w D0 Tryz.call299 hmax hbytes (AnyZ.keys_gives (ρ := Tryz.aJ2) { Tryz.aSz with } Fence.wide 2 trivial rfl (by omega) bm b nn D0 w hbm hm hown)
 · exact aGe 180 bm w D0 Tryz.call180 hmax hbytes (AnyZ.keys_gives (ρ := Tryz.aJ4) { Tryz.aS1 with } Fence.wide 2 trivial rfl (by omega) bm b nn D0 w hbm hm hown)
theorem S.uC (_ : aN Tryz.prog J8 I) (_ : aH I) : aD Tryz.prog J8 93 (F.uC ⟨I, kk⟩) := by
 refine L.aN1 (et := 29) sR Tryz.call93 fun g hg bm b ces clk hlt hnd hkey hmax hbytes w hbm hm hb => ?_
 rcases hg with rfl | rfl | rfl
 · exact Col.aQo bm b ces clk hlt hnd hkey hmax hbytes w hbm hm hb
 · exact Col.aQq bm b ces clk hlt hnd hkey hmax hbytes w hbm hm hb
 · exact Col.aQp bm b ces clk hlt hnd hkey hmax hbytes w hbm hm hb
end Go.Abs
