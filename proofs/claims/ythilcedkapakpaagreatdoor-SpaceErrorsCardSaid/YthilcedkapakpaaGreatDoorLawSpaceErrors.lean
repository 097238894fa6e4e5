/- SpaceErrors: for all arguments the call returns true, and they read behind it as before; its conditions: the listed package-level variables hold what the program's text lays. -/
import Derived.Test.YthilcedkapakpaaGreatDoorBrg8
import Derived.Test.YthilcedkapakpaaGreatDoorEnv8
import Derived.Test.YthilcedkapakpaaGreatDoorFctSpaceErrors
import Derived.Test.YthilcedkapakpaaGreatDoorSlb
import Derived.Test.YthilcedkapakpaaGreatDoorSlc
import Derived.ChangeMaps5
import Derived.Test.YthilcedkapakpaaGreatDoorLqErrs
set_option linter.unusedSimpArgs false
set_option linter.unusedVariables false
namespace Go.Proofs.YthilcedkapakpaaGreatDoor.spaceErrors
open Go Go.ChangeShapes Go.WideShapes Go.ChangeAt Go.RowKit Go.ChangeMaps

set_option maxRecDepth 100000 in
theorem contract (H : Type) (enc : TypeId × Value → H) (W : World) (base : Nat) (args : Array Value) (ds gs : List (DataW H)) (before : List MemPlace)
    (hval : ∀ (j : Nat) t v, Tryz.f9.params[j]? = some t → args[j]? = some v → Value.okWide Tryz.prog W .any base t v)
    (hW : DataW.Whole enc Tryz.prog Tryz.f9.params.toList Rows.spaceErrorsSpec.vars false W args.toList ds gs before) (hL : laidMetH Tryz.prog Brg.laid W)
    (hsz : ∀ (j : Nat) t d, Tryz.f9.params.toList[j]? = some t → ds[j]? = some d → ∀ n ∈ d.weights Tryz.prog t, n ≤ reachBytes) :
    Calls Tryz.prog 9 args W fun e W' => ∃ v, e = .returned v ∧ Rows.spaceErrorsSpec.post enc Tryz.prog Tryz.f9 false true false false W args v W' := by
  have hj : Abs.J8 W := Brg.j8 hL
  have hW' := hW
  obtain ⟨p, q, hA0, hV, rfl, hfz, hnd⟩ := hW
  have hA : DataW.TrodAll enc Tryz.prog W 0 (fun _ => true) true Tryz.f9.params.toList args.toList ds p := hA0
  rw [Tryz.params9] at hA hval hsz
  obtain ⟨v0, v1, v2, d0, d1, d2, p0, p1, p2, rfl, rfl, rfl, h0, h1, h2⟩ := trodAll_three hA
  obtain ⟨rfl, rfl⟩ := trodVars_none hV
  obtain ⟨x0, e0, _, _, w0⟩ := open_int Tryz.underlying3 (hval 0 3 v0 rfl rfl) h0
  obtain ⟨l, r, g, v, hR, hv, hl, hn⟩ := Abs.open_oqs (J := Abs.J8) Tryz.underlying66 Tryz.underlying72 (by kernel_rfl) (by intro i hi; match i, hi with | 0, _ => exact ⟨_, rfl, rfl, by kernel_rfl, by kernel_rfl⟩ | 1, _ => exact ⟨_, rfl, rfl, by kernel_rfl, by kernel_rfl⟩ | 2, _ => exact ⟨_, rfl, rfl, by kernel_rfl, by kernel_rfl⟩ | 3, _ => exact ⟨_, rfl, rfl, by kernel_rfl, by kernel_rfl⟩ | 4, _ => exact ⟨_, rfl, rfl, by kernel_rfl, by kernel_rfl⟩ | k + 5, hk => exact absurd hk (by omega)) rfl hj (hval 1 66 v1 rfl rfl) h1 (hsz 1 66 d1 rfl rfl)
  obtain ⟨x2, e2, _, z2⟩ := Abs.open_oq1 Tryz.underlying72 (by kernel_rfl) (by intro i hi; match i, hi with | 0, _ => exact ⟨_, rfl, rfl, by kernel_rfl, by kernel_rfl⟩ | 1, _ => exact ⟨_, rfl, rfl, by kernel_rfl, by kernel_rfl⟩ | 2, _ => exact ⟨_, rfl, rfl, by kernel_rfl, by kernel_rfl⟩ | 3, _ => exact ⟨_, rfl, rfl, by kernel_rfl, by kernel_rfl⟩ | 4, _ => exact ⟨_, rfl, rfl, by kernel_rfl, by kernel_rfl⟩ | k + 5, hk => exact absurd hk (by omega)) rfl (hval 2 72 v2 rfl rfl) h2 (hsz 2 72 d2 rfl rfl)
  subst e0
  subst e2
  clear hA0
  simp only [List.append_nil, List.append_assoc] at hW'
  refine (Abs.SoundF.callsR (J := Abs.J8) (Abs.S.estafettelaw8_SpaceErrors Abs.I8_sound Abs.I8_mono) Tryz.call9 (Abs.J8_stays hj) hR (Abs.VRl.cons (.int _ _) (Abs.VRl.cons hv (Abs.VRl.cons (Abs.VR.closed (Abs.oq_closed x2)) (Abs.VRl.nil _)))) rfl (Abs.law_SpaceErrors Abs.I8_mono Abs.E8_ack Abs.E8_eq Abs.E8_alike hl (fun o ho => ⟨Nat.le_trans (hn.2 o ho).1 Abs.reach_BB, Nat.le_trans (hn.2 o ho).2 Abs.reach_BB⟩) x0 x2 ⟨Nat.le_trans z2.1 Abs.reach_BB, Nat.le_trans z2.2 Abs.reach_BB⟩)).mono fun e W' ⟨he, hb⟩ => ?_
  subst he
  exact ⟨_, rfl, _, _, _, [], _, [], hW', trodAll_mk1 (shut_bool Tryz.underlying4 _), trodAll_mk3 (Below.trod Brg.laidOut (by kernel_rfl) (of_decide_eq_true (by kernel_rfl)) h0 hb fun x hx => by simpa using hW'.lt x (by simp [hx])) (Below.trod Brg.laidOut (by kernel_rfl) (of_decide_eq_true (by kernel_rfl)) h1 hb fun x hx => by simpa using hW'.lt x (by simp [hx])) (Below.trod Brg.laidOut (by kernel_rfl) (of_decide_eq_true (by kernel_rfl)) h2 hb fun x hx => by simpa using hW'.lt x (by simp [hx])), rfl, hb.frame _, fun h => by cases h⟩

theorem reads (os : Os) {H : Type} (enc : TypeId × Value → H) : ∃ places, DataW.whole enc Tryz.prog ((Brg.world os).forCall (fun _ _ => 0) ⟨#[], #[.int .i64 0, .slice none 0 0, .agg #[.int .i64 0, .string ⟨#[]⟩, .string ⟨#[]⟩, .string ⟨#[]⟩, .int .i64 0]], []⟩).memory Tryz.f9.params.toList Rows.spaceErrorsSpec.vars false (#[.int .i64 0, .slice none 0 0, .agg #[.int .i64 0, .string ⟨#[]⟩, .string ⟨#[]⟩, .string ⟨#[]⟩, .int .i64 0]] : Array Value).toList 8 = some ([.lit (.int .i64 0), .nil, .agg [.lit (.int .i64 0), .lit (.string []), .lit (.string []), .lit (.string []), .lit (.int .i64 0)]], [], places) :=
  ⟨[], by kernel_rfl⟩

theorem okw (os : Os) : Input.okWideB Tryz.prog ((Brg.world os).forCall (fun _ _ => 0) ⟨#[], #[.int .i64 0, .slice none 0 0, .agg #[.int .i64 0, .string ⟨#[]⟩, .string ⟨#[]⟩, .string ⟨#[]⟩, .int .i64 0]], []⟩) 9 ⟨#[], #[.int .i64 0, .slice none 0 0, .agg #[.int .i64 0, .string ⟨#[]⟩, .string ⟨#[]⟩, .string ⟨#[]⟩, .int .i64 0]], []⟩ = true := by kernel_rfl

theorem sized (os : Os) {H : Type} (enc : TypeId × Value → H) : (OpenSpec.ofChange Rows.spaceErrorsSpec).bare.sizedB enc Tryz.prog Tryz.f9 false ((Brg.world os).forCall (fun _ _ => 0) ⟨#[], #[.int .i64 0, .slice none 0 0, .agg #[.int .i64 0, .string ⟨#[]⟩, .string ⟨#[]⟩, .string ⟨#[]⟩, .int .i64 0]], []⟩).memory #[.int .i64 0, .slice none 0 0, .agg #[.int .i64 0, .string ⟨#[]⟩, .string ⟨#[]⟩, .string ⟨#[]⟩, .int .i64 0]] 8 = true := by kernel_rfl

theorem fits (os : Os) {H : Type} (enc : TypeId × Value → H) : (OpenSpec.ofChange Rows.spaceErrorsSpec).preRow enc Tryz.prog Tryz.f9 [] false Brg.laid ((Brg.world os).forCall (fun _ _ => 0) ⟨#[], #[.int .i64 0, .slice none 0 0, .agg #[.int .i64 0, .string ⟨#[]⟩, .string ⟨#[]⟩, .string ⟨#[]⟩, .int .i64 0]], []⟩).memory #[.int .i64 0, .slice none 0 0, .agg #[.int .i64 0, .string ⟨#[]⟩, .string ⟨#[]⟩, .string ⟨#[]⟩, .int .i64 0]] := by
  obtain ⟨places, hx⟩ := reads os enc
  exact OpenSpec.preRow_of_cond 8 hx (by kernel_rfl) (fun k hk => by cases hk) (sized os enc) (Brg.laid_metH os #[.int .i64 0, .slice none 0 0, .agg #[.int .i64 0, .string ⟨#[]⟩, .string ⟨#[]⟩, .string ⟨#[]⟩, .int .i64 0]])

set_option maxRecDepth 100000 in
theorem lifted (os : Os) (started : os.Started) (H : Type) (enc : TypeId × Value → H) (F : Stop.Interp) :
    ReturnsInHanded {} Tryz.checked os 9 .any ((OpenSpec.ofChange Rows.spaceErrorsSpec).preRow enc Tryz.prog Tryz.f9 [] false Brg.laid) (((OpenSpec.ofChange Rows.spaceErrorsSpec).at F).post enc Tryz.prog Tryz.f9 false true false false) := by
  refine returnsInHanded_of_row (C := Tryz.checked) (s := OpenSpec.ofChange Rows.spaceErrorsSpec) Brg.own started (by kernel_rfl) Tryz.func9
    (Brg.witness_of (C := Tryz.checked) (Brg.world os) (World.laidAll_os _ _ _) #[.int .i64 0, .slice none 0 0, .agg #[.int .i64 0, .string ⟨#[]⟩, .string ⟨#[]⟩, .string ⟨#[]⟩, .int .i64 0]] (Brg.shaped os #[.int .i64 0, .slice none 0 0, .agg #[.int .i64 0, .string ⟨#[]⟩, .string ⟨#[]⟩, .string ⟨#[]⟩, .int .i64 0]]) (okw os) (fits os enc)) ?_
  intro W base args ds gs before hval hW _ _ hsz hL _ _
  exact contract H enc W base args ds gs before hval hW hL (Abs.sizes_of hsz)

theorem said : Rows.SpaceErrorsSaid :=
  OpenClaim.holds_of_cond 9 Tryz.f9 rfl rfl rfl rfl rfl rfl rfl ⟨rfl, rfl, rfl, rfl, rfl⟩ rfl rfl rfl rfl rfl (by kernel_rfl) Tryz.func9 facts
    (of_decide_eq_true (by kernel_rfl)) (by unfold Func.isWrapper; first | (rw [if_pos (by decide +kernel)]; kernel_rfl) | (rw [if_neg (by decide +kernel)]; exact ⟨rfl, rfl⟩))
    (fun os started H enc _ F => by rw [OpenClaim.pre_eq_preRow]; exact lifted os started H enc F)

/-- No parameter wants a stand-in; the program's own looks are off: what the card asks. -/
theorem plain (f : FuncId) (fn : Func) (hf : Tryz.pinned.checked.prog.funcNamed Rows.spaceErrorsRow.func = some f) (hfn : Tryz.pinned.checked.prog.funcs[f]? = some fn) :
    true = Tryz.pinned.checked.prog.looks [] ∧ ∀ (j : Nat) t, fn.params[j]? = some t → Tryz.pinned.checked.prog.wantsStandIn t = false := by
  obtain rfl : f = 9 := Option.some.inj ((show Tryz.prog.funcNamed Rows.spaceErrorsRow.func = some 9 by kernel_rfl).symm.trans hf) |>.symm
  obtain rfl : fn = Tryz.f9 := (Option.some.inj (Tryz.func9.symm.trans hfn)).symm
  refine ⟨by kernel_rfl, fun j t ht => ?_⟩
  rw [Tryz.params9] at ht
  have hm : t ∈ [3, 66, 72] := by simpa using Array.mem_of_getElem? ht
  have hall : ([3, 66, 72].all fun u => !Tryz.prog.wantsStandIn u) = true := by kernel_rfl
  exact (show Tryz.prog.wantsStandIn t = false by simpa using List.all_eq_true.1 hall t hm)

theorem card : Rows.SpaceErrorsCardSaid :=
  Claim7.holds_tied_plain_at .later [] _ _ _ _ said (fun _ h => by cases h) (by kernel_rfl) (fun _ h => by cases h) spaceErrors_row_tie rfl ⟨rfl, rfl⟩ (by kernel_rfl) rfl plain (by kernel_rfl)

end Go.Proofs.YthilcedkapakpaaGreatDoor.spaceErrors
