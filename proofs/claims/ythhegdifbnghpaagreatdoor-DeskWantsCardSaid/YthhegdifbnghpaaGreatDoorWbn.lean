/- Library functions at the seat's program: their specs speak truly. -/
import Derived.Test.YthhegdifbnghpaaGreatDoorWap
import Derived.Test.YthhegdifbnghpaaGreatDoorWbj
import Derived.Test.YthhegdifbnghpaaGreatDoorWbk
import Derived.Test.YthhegdifbnghpaaGreatDoorWbm
import Derived.Shelf.SlMaps.Clone
import Derived.Lib.LaidTab
set_option linter.unusedSimpArgs false
set_option linter.unusedVariables false
namespace Go.Abs
open Go Go.RowKit Go.Proofs
variable {I : FuncId → Option Spec}
theorem pow10_at : Tryz.prog.globalNamed "internal/strconv.uint64pow10" = some 0 := by kernel_rfl
def J8 (w : World) : Prop := Lib.TabIs Tryz.prog w "internal/strconv.uint64pow10" .u64 Lib.pow10Tab
theorem J8_free : DF J8 := fun _ _ h => h
theorem J8_stays {W : World} (h : J8 W) : Stays J8 W.heap.size := by
 unfold J8 Lib.TabIs World.var? at h
 rw [pow10_at] at h
 simp only [Option.bind_some] at h
 have hlt : 0 < W.heap.size := by
  rcases Nat.lt_or_ge 0 W.heap.size with h' | h'
  · exact h'
  · rw [Array.getElem?_eq_none h'] at h; cases h
 intro w w' hw hb _
 unfold J8 Lib.TabIs World.var? at hw ⊢
 rw [pow10_at] at hw ⊢
 simp only [Option.bind_some] at hw ⊢
 rw [hb.block 0 hlt]
 exact hw
def kk : Nat → Nat := fun i => ([282, 193, 264, 316, 293, 370, 126, 202, 182, 243, 133, 153, 219, 207, 120, 122, 130, 141, 213, 215, 168, 228, 170, 230, 0, 0] : List Nat).getD i 0
theorem S.strconv_FormatInt (_ : SoundI Tryz.prog J8 I) (_ : MonoI I) : SoundF Tryz.prog J8 336 (F.strconv_FormatInt ⟨I, kk⟩) := by
 have e : Tryz.laysM173_ren.f 173 = 336 := by kernel_rfl
 have h := L.FormatInt_sound (J := J8) J8_free Tryz.laysM173 (fun w h => h) (by rw [e]; exact Tryz.call336)
 rw [e] at h
 exact h
theorem S.strconv_ParseInt (_ : SoundI Tryz.prog J8 I) (_ : MonoI I) : SoundF Tryz.prog J8 338 (F.strconv_ParseInt ⟨I, kk⟩) := by
 have e : Tryz.lays174_ren.f 174 = 338 := by kernel_rfl
 have h := L.ParseInt_sound (J := J8) J8_free Tryz.lays174 (by rw [e]; exact Tryz.call338)
 rw [e] at h
 exact h
theorem S.strings_Trim (_ : SoundI Tryz.prog J8 I) (_ : MonoI I) : SoundF Tryz.prog J8 337 (F.strings_Trim ⟨I, kk⟩) := by
 have e : Tryz.lays160_ren.f 160 = 337 := by kernel_rfl
 have h := L.Trim_sound (J := J8) J8_free Tryz.lays160 (by kernel_rfl) (by rw [e]; exact Tryz.call337)
 rw [e] at h
 exact h
theorem S.maps_clone (_ : SoundI Tryz.prog J8 I) (_ : MonoI I) : SoundF Tryz.prog J8 317 (F.maps_clone ⟨I, kk⟩) :=
 L.clone_sound fun t b w es clock hb => by
  rw [run_callFunc_extern Tryz.func317 (by kernel_rfl) (by kernel_rfl) (by kernel_rfl) (e := Extern.MapsClone.clone) (by kernel_rfl), run_maps_clone_sl w t hb]
  rfl
theorem sorts154 (m : Nat) : AnyZ.SortsIn Tryz.prog Tryz.sorted154_ren Fence.wide m :=
 ⟨fun blk off cap ss W hH hblk hsz => callsIn_wide.2 (AnyM.slices_Sort_string Tryz.sort218 blk off cap ss W hH hblk hsz),
  fun p cap W => callsIn_wide.2 (AnyM.slices_Sort_string_none Tryz.sort218 p cap W)⟩
theorem sorted_at (g bm : Nat) (w : World) (D0 : DataW Unit) (eg : ∀ args w, (callFunc g args).run Tryz.prog w = .ok (.enter g args) w) (hmax : Maps.size D0 ≤ maxLen) (hbytes : Maps.size D0 * 16 ≤ 140737488355328)
 (hseq : SeqGives Fence.wide 2 Tryz.prog g #[.pointer (some ⟨bm, 0, none⟩)] encStr (fun ss => ss.Perm (strKeys D0)) (Maps.size D0) w) :
 Calls Tryz.prog 154 #[.func (.func g) #[] #[.pointer (some ⟨bm, 0, none⟩)]] w fun e w' => ∃ (v : Value) (ss : List (List UInt8)), e = .returned v ∧ ss.Perm (strKeys D0) ∧
  w'.ownsRow w.heap.size 9 1 v ss.length ((ss.mergeSort (fun x y => decide (x ≤ y))).map encStr) ∧ (v = .slice none 0 0 ↔ ss = []) ∧ Below w.heap.size w w' :=
 callsIn_wide.1 (AnyZ.sorted_in Tryz.sorted154 Fence.wide 5 trivial trivial trivial trivial rfl (by omega) (sorts154 _) Tryz.call218 g #[.pointer (some ⟨bm, 0, none⟩)] trivial eg _ _ hmax hbytes _ hseq)
theorem S.slices_Sorted_string (_ : SoundI Tryz.prog J8 I) (_ : MonoI I) : SoundF Tryz.prog J8 154 (F.slices_Sorted_string ⟨I, kk⟩) := by
 refine L.Sorted_sound J8_free Tryz.underlying9 Tryz.call154 fun g hg bm w b nn D0 hbm hm hown hmax hbytes => ?_
 rcases hg with rfl | rfl | rfl
 · exact sorted_at 316 bm w D0 Tryz.call316 hmax hbytes (AnyZ.keys_gives (ρ := Tryz.keys277_ren) { Tryz.keys277 with } Fence.wide 2 trivial rfl (by omega) bm b nn D0 w hbm hm hown)
 · exact sorted_at 293 bm w D0 Tryz.call293 hmax hbytes (AnyZ.keys_gives (ρ := Tryz.keys265_ren) { Tryz.keys265 with } Fence.wide 2 trivial rfl (by omega) bm b nn D0 w hbm hm hown)
 · exact sorted_at 219 bm w D0 Tryz.call219 hmax hbytes (AnyZ.keys_gives (ρ := Tryz.keys155_ren) { Tryz.keys155 with } Fence.wide 2 trivial rfl (by omega) bm b nn D0 w hbm hm hown)
theorem S.slices_Collect_api_Id (_ : SoundI Tryz.prog J8 I) (_ : MonoI I) : SoundF Tryz.prog J8 72 (F.slices_Collect_api_Id ⟨I, kk⟩) := by
 refine L.CollectId_sound (et := 27) J8_free Tryz.call72 fun g hg bm b ces clk hlt hnd hkey hmax hbytes w hbm hm hb => ?_
 rcases hg with rfl | rfl | rfl
 · exact Col.collect_at153 bm b ces clk hlt hnd hkey hmax hbytes w hbm hm hb
 · exact Col.collect_at207 bm b ces clk hlt hnd hkey hmax hbytes w hbm hm hb
 · exact Col.collect_at130 bm b ces clk hlt hnd hkey hmax hbytes w hbm hm hb
end Go.Abs
