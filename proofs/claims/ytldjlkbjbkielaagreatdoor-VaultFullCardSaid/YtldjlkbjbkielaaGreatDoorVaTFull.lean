/- VaultFull, on abstract heaps. -/
import Derived.Test.YtldjlkbjbkielaaGreatDoorVabf
import Derived.Test.YtldjlkbjbkielaaGreatDoorVaar
set_option maxRecDepth 20000
set_option linter.unusedVariables false
set_option linter.unusedSimpArgs false
namespace Go.Abs
open Go
def F.estafettelaw14_VaultFull (E : FE) : Spec := fun args h K => match args with
| [a0, a1] =>
cl (F.estafettelaw14_begun E) [] h fun v16_0 h =>
kv (aUn .not v16_0) fun v18_1 =>
ifV v18_1 (
K (.bool false) h) (
kv (binD .bad .rem true a0 (.int .i64 17) h) fun v20_2 =>
kv (binD .bad .add true v20_2 (.int .i64 17) h) fun v21_3 =>
kv (binD .bad .rem true v21_3 (.int .i64 17) h) fun v22_4 =>
kv (binD .bad .rem true a1 (.int .i64 10) h) fun v24_5 =>
kv (binD .bad .add true v24_5 (.int .i64 10) h) fun v25_6 =>
kv (binD .bad .rem true v25_6 (.int .i64 10) h) fun v26_7 =>
cl (F.vault_New E) [] h fun v27_8 h =>
∃ (Inv9 : Nat → List V → AHeap → Prop) (n9 : Nat), Inv9 n9 [(.int .i64 0), (.int .i64 0)] h ∧ ∀ (n9 : Nat) (e9 : Nat → V) (h : AHeap), Inv9 n9 [(e9 7), (e9 8)] h →
kv (binD .bad .lss false (e9 8) v22_4 h) fun v30_10 =>
ifV v30_10 (
kv (binD .bad .add true (e9 8) (.int .i64 1) h) fun v34_11 =>
kv (buildD (.struct [(.int .i64 0), (.int .i64 0)] [(0, 1), (1, 1)]) [(0, (.int .i64 1)), (1, v34_11)]) fun v35_12 =>
kP (newD none (.agg #[(.int .i64 0), (.int .i64 0)]) h) fun v9_13 h =>
kH (stD (some 2) v9_13 v35_12 h) fun _ h =>
kv (ldD (.agg 2) v9_13 h) fun v38_14 =>
cl (F.estafettelaw14_abc E) [(e9 8)] h fun v40_15 h =>
ldD (.agg 2) v9_13 h = some v38_14 ∧
kv (binD .bad .add true (.string ⟨#[115]⟩) v40_15 h) fun v41_16 =>
kv (buildD (.struct [(.int .i64 0), (.string ⟨#[]⟩), (.string ⟨#[]⟩), (.string ⟨#[]⟩), (.int .i64 0)] [(0, 1), (1, 1), (2, 1), (3, 1), (4, 1)]) [(0, (.int .i64 1)), (1, v41_16), (4, (.int .i64 1))]) fun v42_17 =>
kP (buildSliceD (some (5, [(.int .i64 0), (.string ⟨#[]⟩), (.string ⟨#[]⟩), (.string ⟨#[]⟩), (.int .i64 0)])) 1 [(0, v42_17)] h) fun v43_18 h =>
ldD (.agg 2) v9_13 h = some v38_14 ∧
cl (F.vault_Vault_Prepare E) [v27_8, v38_14, v43_18, (.int .i64 0)] h fun v44_19 h =>
kv (aExtract v44_19 0) fun v45_20 =>
kv (aExtract v44_19 1) fun v46_21 =>
kv (aUn .not v46_21) fun v48_22 =>
ifV v48_22 (
K (.bool false) h) (
kv (binD .bad .rem true (e9 8) (.int .i64 2) h) fun v50_23 =>
kv (binD .bad .eql true v50_23 (.int .i64 0) h) fun v51_24 =>
ifV v51_24 (
kv (ldD (.agg 2) v9_13 h) fun v53_25 =>
cl (F.vault_Vault_Decide E) [v27_8, v53_25, (.bool true)] h fun v54_26 h =>
kv (binD .bad .add true (e9 7) (.int .i64 1) h) fun v56_27 =>
kv (binD .bad .add true (e9 8) (.int .i64 1) h) fun v32_28 =>
∃ m, m < n9 ∧ Inv9 m [v56_27, v32_28] h) (
kv (binD .bad .add true (e9 8) (.int .i64 1) h) fun v32_29 =>
∃ m, m < n9 ∧ Inv9 m [(e9 7), v32_29] h))) (
∃ (Inv30 : Nat → List V → AHeap → Prop) (n30 : Nat), Inv30 n30 [(.slice none 0 0), (.int .i64 0)] h ∧ ∀ (n30 : Nat) (e30 : Nat → V) (h : AHeap), Inv30 n30 [(e30 12), (e30 13)] h →
kv (binD .bad .lss false (e30 13) v26_7 h) fun v59_31 =>
kv (gdV v59_31 true (some (e30 13))) fun v61_32 =>
kv (gdV v59_31 true (binD .bad .lss true v61_32 (.int .i64 8) h)) fun v62_33 =>
kv (pickV v59_31 v62_33 (.bool false)) fun v63_34 =>
ifV v63_34 (
cl (F.estafettelaw14_abc E) [(e30 13)] h fun v68_35 h =>
kv (binD .bad .add true (.string ⟨#[116]⟩) v68_35 h) fun v69_36 =>
kv (buildD (.struct [(.int .i64 0), (.string ⟨#[]⟩), (.string ⟨#[]⟩), (.string ⟨#[]⟩), (.int .i64 0)] [(0, 1), (1, 1), (2, 1), (3, 1), (4, 1)]) [(0, (.int .i64 1)), (1, v69_36), (4, (.int .i64 1))]) fun v70_37 =>
kP (buildSliceD (some (5, [(.int .i64 0), (.string ⟨#[]⟩), (.string ⟨#[]⟩), (.string ⟨#[]⟩), (.int .i64 0)])) 1 [(0, v70_37)] h) fun v71_38 h =>
kP (appendD (some (5, 64, [(.int .i64 0), (.string ⟨#[]⟩), (.string ⟨#[]⟩), (.string ⟨#[]⟩), (.int .i64 0)])) (e30 12) v71_38 h) fun v72_39 h =>
kv (binD .bad .add true (e30 13) (.int .i64 1) h) fun v65_40 =>
∃ m, m < n30 ∧ Inv30 m [v72_39, v65_40] h) (
kv (buildD (.struct [(.int .i64 0), (.int .i64 0)] [(0, 1), (1, 1)]) [(0, (.int .i64 2)), (1, (.int .i64 1))]) fun v75_41 =>
cl (F.vault_Vault_Prepare E) [v27_8, v75_41, (e30 12), (.int .i64 0)] h fun v77_42 h =>
kv (aExtract v77_42 0) fun v78_43 =>
kv (aExtract v77_42 1) fun v79_44 =>
kv (lenD .slice (e30 12) h) fun v82_45 =>
kv (binD .bad .gtr true v82_45 (.int .i64 0) h) fun v83_46 =>
kv (gdV v83_46 true (some v22_4)) fun v85_47 =>
kv (gdV v83_46 true (some (e30 12))) fun v86_48 =>
kv (gdV v83_46 true (lenD .slice v86_48 h)) fun v87_49 =>
kv (gdV v83_46 true (binD .bad .add false v85_47 v87_49 h)) fun v88_50 =>
kv (gdV v83_46 true (binD .bad .leq true v88_50 (.int .i64 16) h)) fun v89_51 =>
kv (pickV v83_46 v89_51 (.bool false)) fun v90_52 =>
kv (binD .bool .eql false v79_44 v90_52 h) fun v91_53 =>
kv (gdV v91_53 true (some v27_8)) fun v93_54 =>
gdC v91_53 true h (fun K55 => cl (F.vault_Vault_Spaces E) [v93_54] h fun v h => K55 v h) fun v94_56 h =>
kv (gdV v91_53 true (lenD .slice v94_56 h)) fun v95_57 =>
kv (gdV v91_53 true (some (e9 7))) fun v96_58 =>
kv (gdV v91_53 true (binD .bad .eql false v95_57 v96_58 h)) fun v97_59 =>
kv (pickV v91_53 v97_59 (.bool false)) fun v98_60 =>
K v98_60 h)))
| _ => False
end Go.Abs
set_option linter.unusedSimpArgs false
set_option linter.unusedVariables false
namespace Go.Abs
open Go Go.Proofs
variable {E : FE} {h : AHeap} {v : V}
abbrev st0 : VltM := ⟨[], [], [], []⟩
end Go.Abs
set_option maxRecDepth 100000
namespace Go.Abs
open Go Go.Proofs
variable {E : FE} {h : AHeap} {v w : V} {F : Fr} {L : List Pl} {k : Nat} {st : VltM}
/-! ### Plain: the kernel runs it -/
def cN (i : Nat) : ByteArray := ⟨#[UInt8.ofNat (97 + i)]⟩
def sOp (i : Nat) : List Oq := [⟨1, ⟨#[115, UInt8.ofNat (97 + i)]⟩, ⟨#[]⟩, ⟨#[]⟩, 1⟩]
def tOp (i : Nat) : Oq := ⟨1, ⟨#[116, UInt8.ofNat (97 + i)]⟩, ⟨#[]⟩, ⟨#[]⟩, 1⟩
def tOps (m : Nat) : List Oq := (List.range m).map tOp
def fullStep (S : VltM) (i : Nat) : VltM := if i % 2 = 0 then (decV (prepV S ⟨1, ((i + 1 : Nat) : Int)⟩ (sOp i) 0).2 ⟨1, ((i + 1 : Nat) : Int)⟩ true).2 else (prepV S ⟨1, ((i + 1 : Nat) : Int)⟩ (sOp i) 0).2
def fullSt : Nat → VltM
 | 0 => st0
 | i + 1 => fullStep (fullSt i) i
def fullAt (i : Nat) (S : VltM) : Bool := decide (S.sp.length = (i + 1) / 2) && (prepV S ⟨1, ((i + 1 : Nat) : Int)⟩ (sOp i) 0).1.2 && (List.range 9).all fun m => (prepV S ⟨2, 1⟩ (tOps m) 0).1.2 == (decide (0 < m) && decide (i + m ≤ 16)) && decide ((prepV S ⟨2, 1⟩ (tOps m) 0).2.sp.length = (i + 1) / 2)
def fullGo : Nat → Nat → VltM → Bool
 | 0, _, _ => true
 | f + 1, i, S => fullAt i S && fullGo f (i + 1) (fullStep S i)
theorem full_last : (List.range 9).all (fun m => (prepV (fullSt 16) ⟨2, 1⟩ (tOps m) 0).1.2 == (decide (0 < m) && decide (16 + m ≤ 16)) && decide ((prepV (fullSt 16) ⟨2, 1⟩ (tOps m) 0).2.sp.length = 8)) = true := by kernel_rfl
theorem full_go : fullGo 16 0 st0 = true := by kernel_rfl
theorem full_of : ∀ (f i : Nat), fullGo f i (fullSt i) = true → ∀ j, i ≤ j → j < i + f → fullAt j (fullSt j) = true
 | 0, i, _, j, h1, h2 => by omega
 | f + 1, i, h, j, h1, h2 => by
  have h' : (fullAt i (fullSt i) && fullGo f (i + 1) (fullSt (i + 1))) = true := h
  rw [Bool.and_eq_true] at h'
  by_cases e : j = i
  · subst e; exact h'.1
  · exact full_of f (i + 1) h'.2 j (by omega) (by omega)
theorem full_step {i : Nat} (hi : i < 16) : (prepV (fullSt i) ⟨1, ((i + 1 : Nat) : Int)⟩ (sOp i) 0).1.2 = true := by
 have := full_of 16 0 full_go i (by omega) (by omega)
 simp only [fullAt, Bool.and_eq_true] at this
 exact this.1.2
theorem full_end {n m : Nat} (hn : n ≤ 16) (hm : m ≤ 8) : (prepV (fullSt n) ⟨2, 1⟩ (tOps m) 0).1.2 = (decide (0 < m) && decide (n + m ≤ 16)) ∧ (prepV (fullSt n) ⟨2, 1⟩ (tOps m) 0).2.sp.length = (n + 1) / 2 := by
 have hmr : m ∈ List.range 9 := List.mem_range.2 (by omega)
 by_cases h : n = 16
 · subst h
   have := List.all_eq_true.1 full_last m hmr
   rw [Bool.and_eq_true, beq_iff_eq, decide_eq_true_eq] at this
   exact this
 · have h2 := full_of 16 0 full_go n (by omega) (by omega)
   simp only [fullAt, Bool.and_eq_true] at h2
   have := List.all_eq_true.1 h2.2 m hmr
   rw [Bool.and_eq_true, beq_iff_eq, decide_eq_true_eq] at this
   exact this
theorem full_inv (i : Nat) : VInv (16 * i) (fullSt i) := by
 induction i with
 | zero => exact VInv.nil
 | succ i ih =>
  show VInv (16 * (i + 1)) (fullStep (fullSt i) i)
  unfold fullStep
  split
  · exact (inv_dec (inv_prep ih _ _ _) _ _).mono (by omega)
  · exact (inv_prep ih _ _ _).mono (by omega)
/-! ### The call -/
theorem law14_abc (i : Nat) (hi : i ≤ 100) : cl (Go.Abs.F.estafettelaw14_abc E) [i64 i] h fun r h' => r = str (cN i) ∧ Mod h [] h' [] := by
 refine cl_of ?_
 have hw : IntKind.u8.wrap (97 + (i : Int)) = 97 + (i : Int) := by
  simp [IntKind.wrap, IntKind.signed, IntKind.bits]
  omega
 simp only [Go.Abs.F.estafettelaw14_abc]
 rw [add_i64 97 _ (by omega) (by omega), kv_some]
 simp only [convD, Option.map_some, kv_some, hw]
 refine kP_of (v := .slice (some ⟨h.next, 0, none⟩) 1 2) (g := h.new (.cells [.int .u8 (97 + (i : Int))] 1 .rw)) rfl ?_
 have e1 : sliceCells 1 (.slice (some ⟨h.next, 0, none⟩) 1 2) (h.new (.cells [.int .u8 (97 + (i : Int))] 1 .rw)) = some [.int .u8 (97 + (i : Int))] := by
  show (h.new (.cells [.int .u8 (97 + (i : Int))] 1 .rw)).rdN h.next 0 (1 * 1) = _
  rw [rdN_of (h := h.new (.cells [.int .u8 (97 + (i : Int))] 1 .rw)) (b := h.next) (cs := [.int .u8 (97 + (i : Int))]) (e := 1) (k := .rw) (by simp)]
  rfl
 have e2 : (97 + (i : Int)).toNat = 97 + i := by omega
 simp only [e1, Option.bind_some, bytesOf, Option.map_some, kv_some, e2]
 exact ⟨rfl, Mod.newBox (fp := []) (by simp)⟩
theorem append_op {l : List Oq} {fp : List Nat} (s : SlE dOp h fp v l) (hsz : l.length ≤ 1000000) (o : Oq) :
 ∃ h1, buildSliceD (some (5, [(.int .i64 0), (.string ⟨#[]⟩), (.string ⟨#[]⟩), (.string ⟨#[]⟩), (.int .i64 0)])) 1 [(0, o.agg)] h = some (.slice (some ⟨h.next, 0, none⟩) 1 2, h1) ∧
  ∃ v' h2 fp', appendD (some (5, 64, [(.int .i64 0), (.string ⟨#[]⟩), (.string ⟨#[]⟩), (.string ⟨#[]⟩), (.int .i64 0)])) v (.slice (some ⟨h.next, 0, none⟩) 1 2) h1 = some (v', h2) ∧ SlE dOp h2 fp' v' (l ++ [o]) ∧ Mod h fp h2 fp' := by
 refine ⟨h.new (.cells (dOp.enc o) 5 .rw), rfl, ?_⟩
 have s1 : SlE dOp (h.new (.cells (dOp.enc o) 5 .rw)) fp v l := s.keep (Mod.newBox (fp := []) (by simp))
 have hsrc : aSrc 5 (.slice (some ⟨h.next, 0, none⟩) 1 2) (h.new (.cells (dOp.enc o) 5 .rw)) = some (dOp.enc o) := by
  show (h.new (.cells (dOp.enc o) 5 .rw)).rdN h.next 0 (1 * 5) = _
  rw [rdN_of (h := h.new (.cells (dOp.enc o) 5 .rw)) (b := h.next) (cs := dOp.enc o) (e := 5) (k := .rw) (by simp)]
  rfl
 obtain ⟨v', h2, fp', e1, e2, e3⟩ := Sl.append (bytes := 64) (z := zOp) s1 rfl (by decide) (by decide) (x := .slice (some ⟨h.next, 0, none⟩) 1 2) (k := 1) rfl (fun _ => hsrc) rfl rfl (by omega)
 refine ⟨v', h2, fp', e1, ?_, (Mod.newBox (h := h) (fp := fp) s.lt).trans e3⟩
 have : SlE dOp h2 fp' v' (l ++ [o]) ↔ Sl h2 fp' v' 5 (l.length + 1) (dOp.flat l ++ dOp.enc o) := by
  unfold SlE
  rw [dOp.flat_app, EL.flat_cons, EL.flat_nil, List.append_nil, List.length_append, List.length_cons, List.length_nil]
  exact Iff.rfl
 exact this.2 e2
theorem mod_of (x d : Int) (hd : 0 < d) (hd2 : d ≤ 1000) : ∃ n : Nat, (n : Int) < d ∧ ∀ {h : AHeap} {X : V → Prop}, X (i64 n) →
 kv (binD .bad .rem true (i64 x) (i64 d) h) fun v2 => kv (binD .bad .add true v2 (i64 d) h) fun v3 => kv (binD .bad .rem true v3 (i64 d) h) X := by
 have h1 := Int.tmod_lt_of_pos x hd
 have h2 : -d < x.tmod d := Int.lt_tmod_of_pos x hd
 have h3 : 0 ≤ (x.tmod d + d).tmod d := Int.tmod_nonneg _ (by omega)
 have h4 := Int.tmod_lt_of_pos (x.tmod d + d) hd
 refine ⟨((x.tmod d + d).tmod d).toNat, by omega, fun {h X} hX => ?_⟩
 rw [bin_rem, if_neg (by omega), kv_some, add_i64 _ d (by omega) (by omega), kv_some, bin_rem, if_neg (by omega), kv_some]
 rwa [Int.toNat_of_nonneg h3] at hX
theorem s_cat (i : Nat) : binD .bad .add true (.string ⟨#[115]⟩) (str (cN i)) h = some (str ⟨#[115, UInt8.ofNat (97 + i)]⟩) := by
 have e := str_add .bad true ⟨#[115]⟩ (cN i) (show (1 : Nat) + 1 ≤ _ by omega) (h := h)
 rw [e]
 rfl
theorem t_cat (i : Nat) : binD .bad .add true (.string ⟨#[116]⟩) (str (cN i)) h = some (str ⟨#[116, UInt8.ofNat (97 + i)]⟩) := by
 have e := str_add .bad true ⟨#[116]⟩ (cN i) (show (1 : Nat) + 1 ≤ _ by omega) (h := h)
 rw [e]
 rfl
theorem tOps_succ (j : Nat) : tOps (j + 1) = tOps j ++ [tOp j] := by
 unfold tOps
 rw [List.range_succ, List.map_append]
 rfl
theorem tOps_len (j : Nat) : (tOps j).length = j := by simp [tOps]
set_option maxHeartbeats 4000000 in
theorem law_VaultFull (ve : VlE E) (x y : Int) : cl (Go.Abs.F.estafettelaw14_VaultFull E) [i64 x, i64 y] h fun r _ => r = .bool true := by
 refine cl_of ?_
 simp only [Go.Abs.F.estafettelaw14_VaultFull]
 refine cl_then begun_spec ?_
 rintro r h1 ⟨rfl, rfl⟩
 simp only [not_bool, Bool.not_true, kv_some, ifV_bool, Bool.false_eq_true, if_false]
 obtain ⟨n, hn, hn'⟩ := mod_of x 17 (by omega) (by omega)
 refine hn' ?_
 obtain ⟨m, hm, hm'⟩ := mod_of y 10 (by omega) (by omega)
 refine hm' ?_
 clear hn' hm'
 have s0 : Sep (⟨h1.next, fun _ => True, fun _ _ _ _ _ _ _ => trivial⟩ : Fr) h1 [] := ⟨Nat.le_refl _, trivial, [], rfl⟩
 generalize (⟨h1.next, fun _ => True, fun _ _ _ _ _ _ _ => trivial⟩ : Fr) = Fq at s0
 refine cl_then (vault_New 0 s0) ?_
 intro p h2 s1
 refine ⟨fun q vs h' => ∃ i : Nat, vs = [i64 (((i + 1) / 2 : Nat) : Int), i64 i] ∧ q = n - i ∧ i ≤ n ∧ Sep Fq h' (plVlt (16 * i) p (fullSt i) :: []), n, ⟨0, rfl, by omega, by omega, s1⟩, ?_⟩
 clear s1
 rintro q e9 h3 ⟨i, he, rfl, hi, s1⟩
 simp only [List.cons.injEq, and_true] at he
 obtain ⟨he1, he2⟩ := he
 simp only [he1, he2, bin_lss, kv_some, ifV_bool, decide_eq_true_eq]
 rcases Nat.lt_or_ge i n with hx | hx
 · rw [if_pos (show ((i : Nat) : Int) < (n : Int) by omega)]
   have ei : ((i : Nat) : Int) + 1 = ((i + 1 : Nat) : Int) := by omega
   rw [add_i64 _ 1 (by omega) (by omega), kv_some, ei]
   refine kv_of (v := (⟨1, ((i + 1 : Nat) : Int)⟩ : IdM).agg) rfl ?_
   rw [newI0, kP_some]
   have s2 := s1.box (cId ⟨0, 0⟩) 2
   rw [st2 s2.get, kH_some]
   have s3 := s2.write (cs' := cId ⟨1, ((i + 1 : Nat) : Int)⟩)
   generalize AHeap.put _ _ _ = h4 at s3 ⊢
   generalize h3.next = bi at s3 ⊢
   clear s2 s1
   rw [ld2 s3.get, kv_some]
   refine cl_then (law14_abc i (by omega)) ?_
   rintro r5 h5 ⟨rfl, m5⟩
   have s4 := s3.skip m5
   refine ⟨ld2 s4.get, ?_⟩
   rw [s_cat, kv_some]
   refine kv_of (v := Oq.agg ⟨1, ⟨#[115, UInt8.ofNat (97 + i)]⟩, ⟨#[]⟩, ⟨#[]⟩, 1⟩) rfl ?_
   refine kP_of (v := .slice (some ⟨h5.next, 0, none⟩) 1 2) (g := h5.new (.cells (dOp.flat (sOp i)) 5 .rw)) rfl ?_
   have s5 := s4.litOps (sOp i) (by simp [sOp])
   refine ⟨ld2 (Sep.get (s5.re3 [1] rfl)), ?_⟩
   have hz : ∀ o ∈ sOp i, o.space.size ≤ maxLen := by
    intro o ho
    simp only [sOp, List.mem_singleton] at ho
    rw [ho]
    show 2 ≤ maxLen
    decide
   refine cl_then (vault_Prepare (ops := sOp i) ve ⟨1, ((i + 1 : Nat) : Int)⟩ 0 (full_inv i) (by omega) (by simp [sOp]) hz (s5.re3 [2, 0, 1] rfl)) ?_
   rintro r6 h6 ⟨w6, rfl, s6⟩
   have i1 := inv_prep (full_inv i) ⟨1, ((i + 1 : Nat) : Int)⟩ (sOp i) 0
   have hst : fullSt (i + 1) = fullStep (fullSt i) i := rfl
   simp only [extract_tuple, List.getElem?_toArray, List.getElem?_cons_zero, List.getElem?_cons_succ, kv_some, not_bool, full_step (show i < 16 by omega), Bool.not_true, ifV_bool, Bool.false_eq_true, if_false]
   unfold fullStep at hst
   have etm : ((i : Nat) : Int).tmod 2 = ((i % 2 : Nat) : Int) := rfl
   rw [bin_rem, if_neg (by decide), kv_some, etm, bin_eql, kv_some, ifV_bool]
   by_cases hev : i % 2 = 0
   · rw [if_pos hev] at hst
     rw [if_pos (by rw [hev]; rfl), ld2 (Sep.get (s6.re4 [3] rfl)), kv_some]
     refine cl_then (vault_Decide ve ⟨1, ((i + 1 : Nat) : Int)⟩ true i1 (by omega) (s6.re4 [1] rfl)) ?_
     rintro r7 h7 ⟨rfl, s7⟩
     rw [add_i64 _ 1 (by omega) (by omega), kv_some, add_i64 _ 1 (by omega) (by omega), kv_some]
     refine ⟨n - (i + 1), by omega, i + 1, ?_, rfl, by omega, ?_⟩
     · have : (((i + 1) / 2 : Nat) : Int) + 1 = (((i + 1 + 1) / 2 : Nat) : Int) := by omega
       rw [this, ei]
     · rw [hst]
       exact mono_vlt (by omega) s7
   · rw [if_neg hev] at hst
     rw [if_neg (by simp; omega), add_i64 _ 1 (by omega) (by omega), kv_some]
     refine ⟨n - (i + 1), by omega, i + 1, ?_, rfl, by omega, ?_⟩
     · have : (((i + 1) / 2 : Nat) : Int) = (((i + 1 + 1) / 2 : Nat) : Int) := by omega
       rw [this, ei]
     · rw [hst]
       exact mono_vlt (by omega) (s6.re4 [1] rfl)
 rw [if_neg (show ¬ ((i : Nat) : Int) < (n : Int) by omega)]
 have hin : i = n := by omega
 subst hin
 have s2 := s1.nilOps
 refine ⟨fun q vs h' => ∃ (j : Nat) (w : V), vs = [w, i64 j] ∧ q = m - j ∧ j ≤ m ∧ j ≤ 8 ∧ Sep Fq h' (plOps w (tOps j) :: plVlt (16 * i) p (fullSt i) :: []), m, ⟨0, _, rfl, by omega, by omega, by omega, s2⟩, ?_⟩
 clear s1 s2
 rintro q e30 h4 ⟨j, w, he, rfl, hj, hj8, s1⟩
 simp only [List.cons.injEq, and_true] at he
 obtain ⟨he3, he4⟩ := he
 simp only [he3, he4, bin_lss, kv_some]
 by_cases hx2 : j < m ∧ j < 8
 · have c1 : (decide (((j : Nat) : Int) < ((m : Nat) : Int))) = true := decide_eq_true (by omega)
   have c2 : (decide (((j : Nat) : Int) < 8)) = true := decide_eq_true (by omega)
   simp only [c1, gdV_bool, if_true, kv_some, bin_lss, c2, pickV_bool, ifV_bool]
   refine cl_then (law14_abc j (by omega)) ?_
   rintro r5 h5 ⟨rfl, m5⟩
   have s4 := s1.skip m5
   rw [t_cat, kv_some]
   refine kv_of (v := Oq.agg (tOp j)) rfl ?_
   obtain ⟨f, qq, kk⟩ := s4.head
   have qq : SlE dOp h5 f w (tOps j) := qq
   obtain ⟨h6, a1, w', h7, fw, a2, q7, m7⟩ := append_op qq (by rw [tOps_len]; omega) (tOp j)
   rw [a1, kP_some, a2, kP_some, add_i64 _ 1 (by omega) (by omega), kv_some]
   refine ⟨m - (j + 1), by omega, j + 1, w', by simp, rfl, by omega, by omega, ?_⟩
   rw [tOps_succ]
   exact kk (plOps w' _) m7 q7
 · have c3 : ∀ X : V → Prop, X (.bool false) → kv (gdV (.bool (decide (((j : Nat) : Int) < ((m : Nat) : Int)))) true (some (i64 j))) fun v50 => kv (gdV (.bool (decide (((j : Nat) : Int) < ((m : Nat) : Int)))) true (binD .bad .lss true v50 (.int .i64 8) h4)) fun v51 =>
       kv (pickV (.bool (decide (((j : Nat) : Int) < ((m : Nat) : Int)))) v51 (.bool false)) X := by
    intro X hX
    by_cases h1 : j < m
    · have c1 : (decide (((j : Nat) : Int) < ((m : Nat) : Int))) = true := decide_eq_true (by omega)
      have c2 : (decide (((j : Nat) : Int) < 8)) = false := decide_eq_false (by omega)
      simp only [c1, gdV_bool, if_true, kv_some, bin_lss, c2, pickV_bool]
      exact hX
    · have c1 : (decide (((j : Nat) : Int) < ((m : Nat) : Int))) = false := decide_eq_false (by omega)
      simp only [c1, gdV_bool, Bool.false_eq_true, if_false, kv_some, gdV_gone, pickV_bool]
      exact hX
   refine c3 _ ?_
   rw [ifV_bool, if_neg (by simp)]
   refine kv_of (v := (⟨2, 1⟩ : IdM).agg) rfl ?_
   have hz : ∀ o ∈ tOps j, o.space.size ≤ maxLen := by
    intro o ho
    obtain ⟨q, _, rfl⟩ := List.mem_map.1 ho
    show 2 ≤ maxLen
    decide
   refine cl_then (vault_Prepare (ops := tOps j) ve ⟨2, 1⟩ 0 (full_inv i) (by omega) (by rw [tOps_len]; omega) hz s1.up1) ?_
   rintro r6 h6 ⟨w6, rfl, s6⟩
   have i1 := inv_prep (full_inv i) ⟨2, 1⟩ (tOps j) 0
   obtain ⟨e1, e2⟩ := full_end (n := i) (m := j) (by omega) hj8
   generalize prepV (fullSt i) ⟨2, 1⟩ (tOps j) 0 = P at s6 i1 e1 e2 ⊢
   obtain ⟨f6, q6, _⟩ := s6.up2.head
   have q6 : SlE dOp h6 f6 w (tOps j) := q6
   have hlen := q6.len
   rw [tOps_len] at hlen
   simp only [extract_tuple, List.getElem?_toArray, List.getElem?_cons_zero, List.getElem?_cons_succ, kv_some, hlen, bin_gtr, e1]
   have told : ∀ X : V → Prop, X (.bool (decide (0 < j) && decide (i + j ≤ 16))) → kv (gdV (.bool (decide (((j : Nat) : Int) > 0))) true (some (i64 i))) fun v85 => kv (gdV (.bool (decide (((j : Nat) : Int) > 0))) true (some w)) fun v86 => kv (gdV (.bool (decide (((j : Nat) : Int) > 0))) true (lenD .slice v86 h6)) fun v87 =>
    kv (gdV (.bool (decide (((j : Nat) : Int) > 0))) true (binD .bad .add false v85 v87 h6)) fun v88 => kv (gdV (.bool (decide (((j : Nat) : Int) > 0))) true (binD .bad .leq true v88 (.int .i64 16) h6)) fun v89 => kv (pickV (.bool (decide (((j : Nat) : Int) > 0))) v89 (.bool false)) X := by
    intro X hX
    by_cases h0 : 0 < j
    · have c1 : (decide (((j : Nat) : Int) > 0)) = true := decide_eq_true (by omega)
      have ea : binD .bad .add false (i64 i) (i64 j) h6 = some (i64 ((i : Int) + (j : Int))) := add_i64 _ _ (by omega) (by omega)
      simp only [c1, gdV_bool, if_true, kv_some, hlen, ea, bin_leq, pickV_bool]
      have e3 : (decide ((i : Int) + (j : Int) ≤ 16)) = (decide (0 < j) && decide (i + j ≤ 16)) := by
       rw [decide_eq_true h0, Bool.true_and]
       exact decide_eq_decide.2 (by omega)
      rw [e3]
      exact hX
    · have c1 : (decide (((j : Nat) : Int) > 0)) = false := decide_eq_false (by omega)
      simp only [c1, gdV_bool, Bool.false_eq_true, if_false, kv_some, gdV_gone, pickV_bool]
      rw [decide_eq_false h0, Bool.false_and] at hX
      exact hX
   refine told _ ?_
   rw [bin_bool_eq, kv_some, beq_self_eq_true]
   simp only [gdV_bool, if_true, kv_some]
   refine gdC_yes rfl (cl_then (vault_Spaces (by have := i1.nsp; omega) i1.zsp s6.up1) ?_)
   intro r8 h8 s8
   obtain ⟨f8, q8, _⟩ := s8.head
   have hl8 : lenD .slice r8 h8 = some (i64 ((namesT P.2.sp).length : Nat)) := Sl.len q8
   rw [namesT_len, e2] at hl8
   simp only [gdV_bool, if_true, kv_some, hl8, bin_eql, beq_self_eq_true, pickV_bool]
end Go.Abs
