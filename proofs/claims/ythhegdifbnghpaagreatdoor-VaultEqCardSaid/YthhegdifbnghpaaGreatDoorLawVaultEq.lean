/- VaultEq: for all arguments the call returns true, and they read behind it as before; its conditions: the listed package-level variables hold what the program's text lays. -/
import Derived.Test.YthhegdifbnghpaaGreatDoorQbo
import Derived.Test.YthhegdifbnghpaaGreatDoorQbp
import Derived.Test.YthhegdifbnghpaaGreatDoorCrdVaultEq
import Derived.Test.YthhegdifbnghpaaGreatDoorFcuVaultEq
import Derived.Test.YthhegdifbnghpaaGreatDoorQbg
import Derived.Carry
import Derived.ChangeMaps5
import Derived.Test.YthhegdifbnghpaaGreatDoorQSEq
import Derived.Test.YthhegdifbnghpaaGreatDoorQbh
set_option linter.unusedSimpArgs false
set_option linter.unusedVariables false
namespace Go.Proofs.YthhegdifbnghpaaGreatDoor.vaultEq
open Go Go.ChangeShapes Go.WideShapes Go.ChangeAt Go.RowKit Go.ChangeMaps

set_option maxRecDepth 100000 in
theorem contract (H : Type) (enc : TypeId × Value → H) (W : World) (base : Nat) (args : Array Value) (ds gs : List (DataW H)) (before : List MemPlace)
    (hval : ∀ (j : Nat) t v, Tryz.f13.params[j]? = some t → args[j]? = some v → Value.okWide Tryz.prog W .any base t v)
    (hW : DataW.Whole enc Tryz.prog Tryz.f13.params.toList Rows.vaultEqSpec.vars false W args.toList ds gs before) (hL : laidMetH Tryz.prog Brg.laid W) :
    Calls Tryz.prog 13 args W fun e W' => ∃ v, e = .returned v ∧ Rows.vaultEqSpec.post enc Tryz.prog Tryz.f13 false true false false W args v W' := by
  have hj : Abs.J8 W := Brg.j8 hL
  have hW' := hW
  obtain ⟨p, q, hA0, hV, rfl, hfz, hnd⟩ := hW
  have hA : DataW.TrodAll enc Tryz.prog W 0 (fun _ => true) true Tryz.f13.params.toList args.toList ds p := hA0
  rw [Tryz.params13] at hA hval
  obtain ⟨v0, v1, d0, d1, p0, p1, rfl, rfl, rfl, h0, h1⟩ := trodAll_two hA
  obtain ⟨rfl, rfl⟩ := trodVars_none hV
  obtain ⟨r, g, hR⟩ := Abs.R.start (J := Abs.J8) (W := W) hj
  obtain ⟨x1, e1⟩ := Abs.aWq Tryz.underlying27 (by kernel_rfl) rfl ⟨_, rfl, rfl, by kernel_rfl, by kernel_rfl⟩ ⟨_, rfl, rfl, by kernel_rfl, by kernel_rfl⟩ (hval 1 27 v1 rfl rfl) h1
  obtain ⟨l0, r0, g0, u0, hR, hv0, ho0, hm0, hz0⟩ := Abs.aWu (J := Abs.J8) Tryz.underlying97 ⟨Tryz.underlying100, by kernel_rfl, rfl, ⟨_, rfl, rfl, by kernel_rfl, by kernel_rfl⟩, ⟨_, _, rfl, rfl, by kernel_rfl, Tryz.underlying27, rfl, ⟨_, rfl, rfl, by kernel_rfl, by kernel_rfl⟩, ⟨_, rfl, rfl, by kernel_rfl, by kernel_rfl⟩⟩, ⟨_, rfl, rfl, by kernel_rfl, rfl⟩, ⟨_, rfl, rfl, by kernel_rfl, by kernel_rfl⟩, ⟨_, rfl, rfl, by kernel_rfl, by kernel_rfl⟩⟩ Tryz.underlying31 Tryz.underlying30 (by kernel_rfl) (by intro i hi; match i, hi with | 0, _ => exact ⟨_, rfl, rfl, by kernel_rfl, by kernel_rfl⟩ | 1, _ => exact ⟨_, rfl, rfl, by kernel_rfl, by kernel_rfl⟩ | 2, _ => exact ⟨_, rfl, rfl, by kernel_rfl, by kernel_rfl⟩ | 3, _ => exact ⟨_, rfl, rfl, by kernel_rfl, by kernel_rfl⟩ | 4, _ => exact ⟨_, rfl, rfl, by kernel_rfl, by kernel_rfl⟩ | k + 5, hk => exact absurd hk (by omega)) rfl hR (hval 0 97 v0 rfl rfl) h0
  subst e1
  clear hA0
  simp only [List.append_nil, List.append_assoc] at hW'
  refine (Abs.aD.aRu (J := Abs.J8) (Abs.aD.cl (Abs.S.tJ Abs.aP2 Abs.aIk)) Tryz.call13 (Abs.aP3 hj) hR (Abs.VRl.cons hv0 (Abs.VRl.cons (Abs.VR.closed (Abs.bM.closed _)) (Abs.VRl.nil _))) rfl (Abs.aVb Abs.veW Abs.aTj Abs.aXz Abs.aYa ho0 hz0 x1)).mono fun e W' ⟨he, hb⟩ => ?_
  subst he
  exact ⟨_, rfl, _, _, _, [], _, [], hW', trodAll_mk1 (shut_bool Tryz.underlying4 _), trodAll_mk2 (Below.trod Brg.laidOut (by kernel_rfl) (of_decide_eq_true (by kernel_rfl)) h0 hb fun x hx => by simpa using hW'.lt x (by simp [hx])) (Below.trod Brg.laidOut (by kernel_rfl) (of_decide_eq_true (by kernel_rfl)) h1 hb fun x hx => by simpa using hW'.lt x (by simp [hx])), rfl, hb.frame _, fun h => by cases h⟩

theorem reads (os : Os) {H : Type} (enc : TypeId × Value → H) : ∃ places, DataW.whole enc Tryz.prog ((Brg.world os).forCall (fun _ _ => 0) ⟨#[], #[.slice none 0 0, .agg #[.int .i64 0, .int .i64 0]], []⟩).memory Tryz.f13.params.toList Rows.vaultEqSpec.vars false (#[.slice none 0 0, .agg #[.int .i64 0, .int .i64 0]] : Array Value).toList 8 = some ([.nil, .agg [.lit (.int .i64 0), .lit (.int .i64 0)]], [], places) :=
  ⟨[], by kernel_rfl⟩

theorem okw (os : Os) : Input.okWideB Tryz.prog ((Brg.world os).forCall (fun _ _ => 0) ⟨#[], #[.slice none 0 0, .agg #[.int .i64 0, .int .i64 0]], []⟩) 13 ⟨#[], #[.slice none 0 0, .agg #[.int .i64 0, .int .i64 0]], []⟩ = true := by kernel_rfl

theorem sized (os : Os) {H : Type} (enc : TypeId × Value → H) : (OpenSpec.ofChange Rows.vaultEqSpec).bare.sizedB enc Tryz.prog Tryz.f13 false ((Brg.world os).forCall (fun _ _ => 0) ⟨#[], #[.slice none 0 0, .agg #[.int .i64 0, .int .i64 0]], []⟩).memory #[.slice none 0 0, .agg #[.int .i64 0, .int .i64 0]] 8 = true := by kernel_rfl

theorem fits (os : Os) {H : Type} (enc : TypeId × Value → H) : (OpenSpec.ofChange Rows.vaultEqSpec).preRow enc Tryz.prog Tryz.f13 [] false Brg.laid ((Brg.world os).forCall (fun _ _ => 0) ⟨#[], #[.slice none 0 0, .agg #[.int .i64 0, .int .i64 0]], []⟩).memory #[.slice none 0 0, .agg #[.int .i64 0, .int .i64 0]] := by
  obtain ⟨places, hx⟩ := reads os enc
  exact OpenSpec.preRow_of_cond 8 hx (by kernel_rfl) (fun k hk => by cases hk) (sized os enc) (Brg.aU9 os #[.slice none 0 0, .agg #[.int .i64 0, .int .i64 0]])

set_option maxRecDepth 100000 in
theorem lifted (os : Os) (started : os.Started) (H : Type) (enc : TypeId × Value → H) (F : Stop.Interp) :
    ReturnsInHanded {} Tryz.checked os 13 .any ((OpenSpec.ofChange Rows.vaultEqSpec).preRow enc Tryz.prog Tryz.f13 [] false Brg.laid) (((OpenSpec.ofChange Rows.vaultEqSpec).at F).post enc Tryz.prog Tryz.f13 false true false false) := by
  refine returnsInHanded_of_row (C := Tryz.checked) (s := OpenSpec.ofChange Rows.vaultEqSpec) Brg.own started (by kernel_rfl) Tryz.func13
    (Brg.aZt (C := Tryz.checked) (Brg.world os) (World.laidAll_os _ _ _) #[.slice none 0 0, .agg #[.int .i64 0, .int .i64 0]] (Brg.shaped os #[.slice none 0 0, .agg #[.int .i64 0, .int .i64 0]]) (okw os) (fits os enc)) ?_
  intro W base args ds gs before hval hW _ _ _ hL _ _
  exact contract H enc W base args ds gs before hval hW hL

theorem said : Rows.VaultEqSaid :=
  OpenClaim.holds_of_cond 13 Tryz.f13 rfl rfl rfl rfl rfl rfl rfl ⟨rfl, rfl, rfl, rfl, rfl⟩ rfl rfl rfl rfl rfl (by kernel_rfl) Tryz.func13 facts
    (of_decide_eq_true (by kernel_rfl)) (by unfold Func.isWrapper; first | (rw [if_pos (by decide +kernel)]; kernel_rfl) | (rw [if_neg (by decide +kernel)]; exact ⟨rfl, rfl⟩))
    (fun os started H enc _ F => by rw [OpenClaim.pre_eq_preRow]; exact lifted os started H enc F)

/-- No parameter wants a stand-in; the program's own looks are off: what the card asks. -/
theorem plain (f : FuncId) (fn : Func) (hf : Tryz.pinned.checked.prog.funcNamed Rows.vaultEqRow.func = some f) (hfn : Tryz.pinned.checked.prog.funcs[f]? = some fn) :
    true = Tryz.pinned.checked.prog.looks [] ∧ ∀ (j : Nat) t, fn.params[j]? = some t → Tryz.pinned.checked.prog.wantsStandIn t = false := by
  obtain rfl : f = 13 := Option.some.inj ((show Tryz.prog.funcNamed Rows.vaultEqRow.func = some 13 by kernel_rfl).symm.trans hf) |>.symm
  obtain rfl : fn = Tryz.f13 := (Option.some.inj (Tryz.func13.symm.trans hfn)).symm
  refine ⟨by kernel_rfl, fun j t ht => ?_⟩
  rw [Tryz.params13] at ht
  have hm : t ∈ [97, 27] := by simpa using Array.mem_of_getElem? ht
  have hall : ([97, 27].all fun u => !Tryz.prog.wantsStandIn u) = true := by kernel_rfl
  exact (show Tryz.prog.wantsStandIn t = false by simpa using List.all_eq_true.1 hall t hm)

theorem card : Rows.VaultEqCardSaid :=
  Claim7.holds_tied_plain_at .later [] _ _ _ _ said (fun _ h => by cases h) c1 (fun _ h => by cases h) vaultEq_row_tie rfl ⟨rfl, rfl⟩ (by kernel_rfl) rfl plain c3

end Go.Proofs.YthhegdifbnghpaaGreatDoor.vaultEq
