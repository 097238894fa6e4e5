/- VaultApart: for all arguments the call returns true, and they read behind it as before; its conditions: the listed package-level variables hold what the program's text lays. -/
import Derived.Test.YtldjlkbjbkielaaGreatDoorVpbm
import Derived.Test.YtldjlkbjbkielaaGreatDoorVpbn
import Derived.Test.YtldjlkbjbkielaaGreatDoorCrdVaultApart
import Derived.Test.YtldjlkbjbkielaaGreatDoorFcuVaultApart
import Derived.Test.YtldjlkbjbkielaaGreatDoorVpbf
import Derived.Carry
import Derived.ChangeMaps5
import Derived.Test.YtldjlkbjbkielaaGreatDoorVpan
import Derived.Test.YtldjlkbjbkielaaGreatDoorVpSApart
set_option linter.unusedSimpArgs false
set_option linter.unusedVariables false
namespace Go.Proofs.YtldjlkbjbkielaaGreatDoor.vaultApart
open Go Go.ChangeShapes Go.WideShapes Go.ChangeAt Go.RowKit Go.ChangeMaps

set_option maxRecDepth 100000 in
theorem contract (H : Type) (enc : TypeId × Value → H) (W : World) (base : Nat) (args : Array Value) (ds gs : List (DataW H)) (before : List MemPlace)
    (hval : ∀ (j : Nat) t v, Tryz.f11.params[j]? = some t → args[j]? = some v → Value.okWide Tryz.prog W .any base t v)
    (hW : DataW.Whole enc Tryz.prog Tryz.f11.params.toList Rows.vaultApartSpec.vars false W args.toList ds gs before) (hL : laidMetH Tryz.prog Brg.laid W) :
    Calls Tryz.prog 11 args W fun e W' => ∃ v, e = .returned v ∧ Rows.vaultApartSpec.post enc Tryz.prog Tryz.f11 false true false false W args v W' := by
  have hj : Abs.J8 W := Brg.j8 hL
  have hW' := hW
  obtain ⟨p, q, hA0, hV, rfl, hfz, hnd⟩ := hW
  have hA : DataW.TrodAll enc Tryz.prog W 0 (fun _ => true) true Tryz.f11.params.toList args.toList ds p := hA0
  rw [Tryz.params11] at hA hval
  obtain ⟨v0, v1, v2, v3, v4, v5, d0, d1, d2, d3, d4, d5, p0, p1, p2, p3, p4, p5, rfl, rfl, rfl, h0, h1, h2, h3, h4, h5⟩ := aW4 hA
  obtain ⟨rfl, rfl⟩ := trodVars_none hV
  obtain ⟨r, g, hR⟩ := Abs.R.start (J := Abs.J8) (W := W) hj
  obtain ⟨x0, e0, _, _, w0⟩ := open_string Tryz.underlying9 (hval 0 9 v0 rfl rfl) h0
  obtain ⟨x1, e1, _, _, w1⟩ := open_string Tryz.underlying9 (hval 1 9 v1 rfl rfl) h1
  obtain ⟨x2, e2, _, _, w2⟩ := open_string Tryz.underlying9 (hval 2 9 v2 rfl rfl) h2
  obtain ⟨x3, e3, _, _, w3⟩ := open_string Tryz.underlying9 (hval 3 9 v3 rfl rfl) h3
  obtain ⟨x4, e4, _, _⟩ := open_bool Tryz.underlying4 (hval 4 4 v4 rfl rfl) h4
  obtain ⟨x5, e5, _, _⟩ := open_bool Tryz.underlying4 (hval 5 4 v5 rfl rfl) h5
  subst e0
  subst e1
  subst e2
  subst e3
  subst e4
  subst e5
  clear hA0
  simp only [List.append_nil, List.append_assoc] at hW'
  refine (Abs.aD.aP5 (J := Abs.J8) (Abs.aD.cl (Abs.S.tB Abs.aOb Abs.aG2)) Tryz.call11 (Abs.aOc hj) hR (Abs.VRl.cons (.string _) (Abs.VRl.cons (.string _) (Abs.VRl.cons (.string _) (Abs.VRl.cons (.string _) (Abs.VRl.cons (.bool _) (Abs.VRl.cons (.bool _) (Abs.VRl.nil _))))))) rfl (Abs.aTg Abs.aXi Abs.aRq x0 x1 x2 x3 x4 x5)).mono fun e W' ⟨he, hb⟩ => ?_
  subst he
  exact ⟨_, rfl, _, _, _, [], _, [], hW', trodAll_mk1 (shut_bool Tryz.underlying4 _), aW3 (Below.trod Brg.laidOut (by kernel_rfl) (of_decide_eq_true (by kernel_rfl)) h0 hb fun x hx => by simpa using hW'.lt x (by simp [hx])) (Below.trod Brg.laidOut (by kernel_rfl) (of_decide_eq_true (by kernel_rfl)) h1 hb fun x hx => by simpa using hW'.lt x (by simp [hx])) (Below.trod Brg.laidOut (by kernel_rfl) (of_decide_eq_true (by kernel_rfl)) h2 hb fun x hx => by simpa using hW'.lt x (by simp [hx])) (Below.trod Brg.laidOut (by kernel_rfl) (of_decide_eq_true (by kernel_rfl)) h3 hb fun x hx => by simpa using hW'.lt x (by simp [hx])) (Below.trod Brg.laidOut (by kernel_rfl) (of_decide_eq_true (by kernel_rfl)) h4 hb fun x hx => by simpa using hW'.lt x (by simp [hx])) (Below.trod Brg.laidOut (by kernel_rfl) (of_decide_eq_true (by kernel_rfl)) h5 hb fun x hx => by simpa using hW'.lt x (by simp [hx])), rfl, hb.frame _, fun h => by cases h⟩

theorem reads (os : Os) {H : Type} (enc : TypeId × Value → H) : ∃ places, DataW.whole enc Tryz.prog ((Brg.world os).forCall (fun _ _ => 0) ⟨#[], #[.string ⟨#[]⟩, .string ⟨#[]⟩, .string ⟨#[]⟩, .string ⟨#[]⟩, .bool false, .bool false], []⟩).memory Tryz.f11.params.toList Rows.vaultApartSpec.vars false (#[.string ⟨#[]⟩, .string ⟨#[]⟩, .string ⟨#[]⟩, .string ⟨#[]⟩, .bool false, .bool false] : Array Value).toList 8 = some ([.lit (.string []), .lit (.string []), .lit (.string []), .lit (.string []), .lit (.bool false), .lit (.bool false)], [], places) :=
  ⟨[], by kernel_rfl⟩

theorem okw (os : Os) : Input.okWideB Tryz.prog ((Brg.world os).forCall (fun _ _ => 0) ⟨#[], #[.string ⟨#[]⟩, .string ⟨#[]⟩, .string ⟨#[]⟩, .string ⟨#[]⟩, .bool false, .bool false], []⟩) 11 ⟨#[], #[.string ⟨#[]⟩, .string ⟨#[]⟩, .string ⟨#[]⟩, .string ⟨#[]⟩, .bool false, .bool false], []⟩ = true := by kernel_rfl

theorem sized (os : Os) {H : Type} (enc : TypeId × Value → H) : (OpenSpec.ofChange Rows.vaultApartSpec).bare.sizedB enc Tryz.prog Tryz.f11 false ((Brg.world os).forCall (fun _ _ => 0) ⟨#[], #[.string ⟨#[]⟩, .string ⟨#[]⟩, .string ⟨#[]⟩, .string ⟨#[]⟩, .bool false, .bool false], []⟩).memory #[.string ⟨#[]⟩, .string ⟨#[]⟩, .string ⟨#[]⟩, .string ⟨#[]⟩, .bool false, .bool false] 8 = true := by kernel_rfl

theorem fits (os : Os) {H : Type} (enc : TypeId × Value → H) : (OpenSpec.ofChange Rows.vaultApartSpec).preRow enc Tryz.prog Tryz.f11 [] false Brg.laid ((Brg.world os).forCall (fun _ _ => 0) ⟨#[], #[.string ⟨#[]⟩, .string ⟨#[]⟩, .string ⟨#[]⟩, .string ⟨#[]⟩, .bool false, .bool false], []⟩).memory #[.string ⟨#[]⟩, .string ⟨#[]⟩, .string ⟨#[]⟩, .string ⟨#[]⟩, .bool false, .bool false] := by
  obtain ⟨places, hx⟩ := reads os enc
  exact OpenSpec.preRow_of_cond 8 hx (by kernel_rfl) (fun k hk => by cases hk) (sized os enc) (Brg.aTe os #[.string ⟨#[]⟩, .string ⟨#[]⟩, .string ⟨#[]⟩, .string ⟨#[]⟩, .bool false, .bool false])

set_option maxRecDepth 100000 in
theorem lifted (os : Os) (started : os.Started) (H : Type) (enc : TypeId × Value → H) (F : Stop.Interp) :
    ReturnsInHanded {} Tryz.checked os 11 .any ((OpenSpec.ofChange Rows.vaultApartSpec).preRow enc Tryz.prog Tryz.f11 [] false Brg.laid) (((OpenSpec.ofChange Rows.vaultApartSpec).at F).post enc Tryz.prog Tryz.f11 false true false false) := by
  refine returnsInHanded_of_row (C := Tryz.checked) (s := OpenSpec.ofChange Rows.vaultApartSpec) Brg.own started (by kernel_rfl) Tryz.func11
    (Brg.aXk (C := Tryz.checked) (Brg.world os) (World.laidAll_os _ _ _) #[.string ⟨#[]⟩, .string ⟨#[]⟩, .string ⟨#[]⟩, .string ⟨#[]⟩, .bool false, .bool false] (Brg.shaped os #[.string ⟨#[]⟩, .string ⟨#[]⟩, .string ⟨#[]⟩, .string ⟨#[]⟩, .bool false, .bool false]) (okw os) (fits os enc)) ?_
  intro W base args ds gs before hval hW _ _ _ hL _ _
  exact contract H enc W base args ds gs before hval hW hL

theorem said : Rows.VaultApartSaid :=
  OpenClaim.holds_of_cond 11 Tryz.f11 rfl rfl rfl rfl rfl rfl rfl ⟨rfl, rfl, rfl, rfl, rfl⟩ rfl rfl rfl rfl rfl (by kernel_rfl) Tryz.func11 facts
    (of_decide_eq_true (by kernel_rfl)) (by unfold Func.isWrapper; first | (rw [if_pos (by decide +kernel)]; kernel_rfl) | (rw [if_neg (by decide +kernel)]; exact ⟨rfl, rfl⟩))
    (fun os started H enc _ F => by rw [OpenClaim.pre_eq_preRow]; exact lifted os started H enc F)

/-- No parameter wants a stand-in; the program's own looks are off: what the card asks. -/
theorem plain (f : FuncId) (fn : Func) (hf : Tryz.pinned.checked.prog.funcNamed Rows.vaultApartRow.func = some f) (hfn : Tryz.pinned.checked.prog.funcs[f]? = some fn) :
    true = Tryz.pinned.checked.prog.looks [] ∧ ∀ (j : Nat) t, fn.params[j]? = some t → Tryz.pinned.checked.prog.wantsStandIn t = false := by
  obtain rfl : f = 11 := Option.some.inj ((show Tryz.prog.funcNamed Rows.vaultApartRow.func = some 11 by kernel_rfl).symm.trans hf) |>.symm
  obtain rfl : fn = Tryz.f11 := (Option.some.inj (Tryz.func11.symm.trans hfn)).symm
  refine ⟨by kernel_rfl, fun j t ht => ?_⟩
  rw [Tryz.params11] at ht
  have hm : t ∈ [9, 9, 9, 9, 4, 4] := by simpa using Array.mem_of_getElem? ht
  have hall : ([9, 9, 9, 9, 4, 4].all fun u => !Tryz.prog.wantsStandIn u) = true := by kernel_rfl
  exact (show Tryz.prog.wantsStandIn t = false by simpa using List.all_eq_true.1 hall t hm)

theorem card : Rows.VaultApartCardSaid :=
  Claim7.holds_tied_plain_at .later [] _ _ _ _ said (fun _ h => by cases h) c1 (fun _ h => by cases h) vaultApart_row_tie rfl ⟨rfl, rfl⟩ (by kernel_rfl) rfl plain c3

end Go.Proofs.YtldjlkbjbkielaaGreatDoor.vaultApart
