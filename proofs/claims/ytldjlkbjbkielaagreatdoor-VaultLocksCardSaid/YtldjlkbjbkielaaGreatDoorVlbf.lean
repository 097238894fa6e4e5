/- Names: a list of them made a set, a set told as a list; a vault's Waits, Spaces, Space. -/
import Derived.Test.YtldjlkbjbkielaaGreatDoorVlbe
import Derived.Test.YtldjlkbjbkielaaGreatDoorVlaw
import Derived.Test.YtldjlkbjbkielaaGreatDoorVlbb
import Derived.Test.YtldjlkbjbkielaaGreatDoorVlat
set_option linter.unusedSimpArgs false
set_option linter.unusedVariables false
namespace Go.Abs
open Go Go.Proofs
variable {E : FE} {F : Fr} {h : AHeap} {L : List Pl} {k : Nat} {p v : V} {st : VltM} {ov : List IdM}
def plIl (v : V) (l : List IdM) : Pl := ⟨fun h f => SlE dId h f v l, fun _ _ q => q.lt, fun _ _ _ q hl hs => SlE.same q hl hs⟩
theorem col_row (ks : List IdM) (h : AHeap) : ∃ fp', SlE dId (colH ks h) fp' (colV ks h) ks ∧ Mod h [] (colH ks h) fp' := by
 unfold colH colV
 by_cases hk : ks = []
 · subst hk
   exact ⟨[], SlE.nil (D := dId), Mod.refl (by simp)⟩
 · rw [if_neg hk, if_neg hk]
   refine ⟨[h.next], ⟨dId.flat_len ks, .inr ⟨h.next, 2 * ks.length + 1, flatI ks, rfl, rfl, by simp, by omega, by simp; rfl, ?_, ?_⟩⟩, by simp, fun x hx _ => ?_, by simp, by simp⟩
   · rw [flatI_len]
     have : (2 * ks.length + 1) / 2 = ks.length := by omega
     rw [this]
     exact Nat.le_refl _
   · rw [List.take_of_length_le (by rw [flatI_len]; exact Nat.le_refl _)]
     rfl
   · have a : x ≠ h.next := by omega
     simp [a]
theorem keys_collect {α : Type} {A : IdM → V → α → Pl} {m b g : Nat} {l : List (IdM × α)} (s : Sep F h (plGM kdId A m l :: plBox b [.map (some m)] 1 :: L)) (hl : l.length ≤ 1000000) (hg : g = E.k 11 ∨ g = E.k 13 ∨ g = E.k 16) {K : V → AHeap → Prop}
 (hK : ∀ r h' ks, ks.Perm (keysL l) → Sep F h' (plIl r ks :: plGM kdId A m l :: plBox b [.map (some m)] 1 :: L) → K r h') :
 cl (Go.Abs.F.slices_Collect_api_Id E) [.func (.func g) #[] #[ptr b 0]] h K := by
 refine cl_of ?_
 obtain ⟨t, clk, q, s1⟩ := s.openM
 have gm := s1.mapGet
 rw [map_meg] at gm
 have htl : t.length = l.length := by have := q.perm.length_eq; simpa [absE] using this
 refine ⟨rfl, hg, b, m, t.map Et.g, clk, 1, .rw, rfl, s.drop.get, gm, by simp; omega, ?_, ?_, fun ks hks => ?_⟩
 · rw [List.map_map]; exact q.bn
 · intro e he
   obtain ⟨e', he', rfl⟩ := List.mem_map.1 he
   exact q.lt e' he'
 · obtain ⟨fp', r1, r2⟩ := col_row ks h
   refine hK _ _ ks ?_ (s.alloc (plIl (colV ks h) ks) r2 r1)
   rw [keysG_g, ← absE_keys] at hks
   exact hks.trans (keys_perm q.perm)
def SortOk (E : FE) (n : Nat) : Prop := ∀ (h : AHeap) (fp : List Nat) (v : V) (l : List IdM), SlE dId h fp v l → l.length ≤ n →
 cl (Go.Abs.F.slices_SortFunc_Sapi_Id_api_Id E) [v, .func (.func (E.k 10)) #[] #[]] h fun r h' => ∃ l', l'.Perm l ∧ Srtd ordI l' ∧ SlE dId h' fp v l' ∧ Mod h fp h' fp
theorem sort12 (ve : VlE E) : SortOk E 12 := fun h fp v l s hl => by
 obtain ⟨E1, hE1⟩ := ve.nord
 exact sort_id ve.op.mono ordI_ord s (cmp_id hE1) hl
theorem ids_All {n : Nat} (so : SortOk E n) (hl : ov.length ≤ n) (hn : n ≤ 1000000) (s : Sep F h (plIds p ov :: L)) :
 cl (Go.Abs.F.name_Ids_All E) [p] h fun r h' => ∃ l', l'.Perm ov ∧ Srtd ordI l' ∧ Sep F h' (plIl r l' :: plIds p ov :: L) := by
 refine cl_of ?_
 obtain ⟨b, m, l, rfl, hp, s0⟩ := s.openIds
 have r0 : h.rd b 0 = some (.map (some m)) := by rw [rd_of s0.get 0]; rfl
 simp only [Go.Abs.F.name_Ids_All, ptr_eq_nil, kv_some, ifV_bool, Bool.false_eq_true, if_false, aNil_ptr, fieldAddr_ptr, ld_one, Nat.zero_add, r0]
 refine cl_of ?_
 have e2 : newD none (.map (some m)) h = some (ptr h.next 0, h.new (.cells [.map (some m)] 1 .rw)) := rfl
 simp only [Go.Abs.F.maps_Keys_map_api_Id_bool_api_Id_bool, e2, kP_some]
 have s1 := s0.box [.map (some m)] 1
 generalize h.new (.cells [.map (some m)] 1 .rw) = h1 at s1 ⊢
 generalize h.next = bx at s1 ⊢
 refine cl_of ?_
 simp only [Go.Abs.F.slices_SortedFunc_api_Id]
 have hll : l.length ≤ n := by
  have := hp.length_eq
  simp only [keysL, List.length_map] at this
  omega
 refine keys_collect (s1.re3 [2, 0, 1] rfl) (by omega) (.inr (.inl rfl)) fun r h2 ks hks s2 => ?_
 obtain ⟨f, q, kk⟩ := s2.head
 have q : SlE dId h2 f r ks := q
 have hkl : ks.length ≤ n := by
  have := hks.length_eq
  simp only [keysL, List.length_map] at this
  omega
 refine cl_then (so h2 f r ks q hkl) ?_
 rintro r2 h3 ⟨l', hl', hs, q2, m2⟩
 refine ⟨l', (hl'.trans hks).trans hp, hs, ?_⟩
 have s3 := kk (plIl r l') m2 q2
 exact (Sep.closeIds hp (s3.re4 [3, 1, 0] rfl)).up1
theorem ids_New {l : List IdM} (hnd : l.Nodup) (hl : l.length ≤ 1000000) (s : Sep F h (plIl v l :: L)) :
 cl (Go.Abs.F.name_New E) [v] h fun r h' => Sep F h' (plIds r l :: plIl v l :: L) := by
 refine cl_of ?_
 simp only [Go.Abs.F.name_New]
 have e1 : makeMapD true none h = some (.map (some h.next), h.new (.map [] 0)) := rfl
 rw [e1, kP_some]
 have s1 := s.newM (D := kdId) (A := idV)
 generalize h.new (.map [] 0) = h1 at s1 ⊢
 generalize h.next = m at s1 ⊢
 have e2 : buildD (.struct [(.map none)] [(0, 1)]) [(0, .map (some m))] = some (.agg #[.map (some m)]) := rfl
 have e3 : newD none (.agg #[.map (some m)]) h1 = some (ptr h1.next 0, h1.new (.cells [.map (some m)] 1 .rw)) := rfl
 rw [e2, kv_some, e3, kP_some]
 have s2 := s1.box [.map (some m)] 1
 generalize h1.new (.cells [.map (some m)] 1 .rw) = h2 at s2 ⊢
 generalize h1.next = b at s2 ⊢
 obtain ⟨f0, q0, _⟩ := s2.up2.head
 have q0 : SlE dId h2 f0 v l := q0
 rw [q0.len, kv_some]
 refine ⟨fun n vs h' => ∃ (i : Nat) (ls : List (IdM × Unit)), vs = [i64 i] ∧ n = l.length - i ∧ i ≤ l.length ∧ keysL ls = l.take i ∧ Sep F h' (plBox b [.map (some m)] 1 :: plGM kdId idV m ls :: plIl v l :: L), l.length, ⟨0, [], rfl, by omega, by omega, by simp [keysL], s2⟩, ?_⟩
 rintro n e h3 ⟨i, ls, he, rfl, hi, hk, s3⟩
 simp only [List.cons.injEq, and_true] at he
 simp only [he, bin_lss, kv_some, ifV_bool, decide_eq_true_eq]
 rcases Nat.lt_or_ge i l.length with hx | hx
 case inr =>
  rw [if_neg (show ¬ ((i : Nat) : Int) < (l.length : Nat) by omega)]
  rw [List.take_of_length_le hx] at hk
  exact Sep.closeIds (by rw [hk]) s3
 rw [if_pos (show ((i : Nat) : Int) < (l.length : Nat) by omega)]
 obtain ⟨f1, q1, _⟩ := s3.up2.head
 have q1 : SlE dId h3 f1 v l := q1
 have hg : l[i]? = some l[i] := List.getElem?_eq_getElem hx
 obtain ⟨c, i1, i2⟩ := q1.ld hg
 have i1 : indexAddrD (.slice 2) _ _ = _ := i1
 have i2 : ldD (.agg 2) _ _ = some (l[i]).agg := i2
 have htk : l.take (i + 1) = l.take i ++ [l[i]] := by rw [List.take_add_one, hg]; rfl
 have hni : l[i] ∉ l.take i := by
  have := hnd
  rw [← List.take_append_drop (i + 1) l, htk, List.append_assoc, List.nodup_append] at this
  intro hm
  exact this.2.2 _ hm l[i] (List.mem_append_left _ (List.mem_singleton.2 rfl)) rfl
 generalize l[i] = x at i2 htk hni
 simp only [i1, kv_some, i2, newI0, kP_some]
 have s4 := s3.box (cId ⟨0, 0⟩) 2
 rw [st2 s4.get, kH_some]
 have s5 := s4.write (cs' := cId x)
 generalize AHeap.put _ _ _ = h5 at s5 ⊢
 have r0 : h5.rd b 0 = some (.map (some m)) := by rw [rd_of s5.drop.get 0]; rfl
 simp only [aNil_ptr, kv_some, fieldAddr_ptr, ld_one, Nat.zero_add, r0, ld2 s5.get]
 obtain ⟨h6, e6, s6⟩ := Sep.insM (D := kdId) (A := idV) (k := x) (v := .bool true) (x := ()) (z := .bool false) (Sep.up1 (Sep.mkPure (φ := (Value.bool true : V) = .bool true) rfl s5.drop.up1))
 have e6 : mapUpdateD (some ((.struct false [(0, .int), (1, .int)]), (some (.bool false)))) (.map (some m)) x.agg (.bool true) h5 = some h6 := e6
 rw [e6, kH_some, add_i64 _ 1 (by omega) (by omega), kv_some]
 refine ⟨l.length - (i + 1), by omega, i + 1, _, by simp, rfl, by omega, ?_, s6.up1⟩
 have hk2 : Go.Abs.lkp x ls = none := lkp_none.2 (by rw [hk]; exact hni)
 rw [keys_ins, if_pos hk2, hk, htk]
theorem vault_Waits {n : Nat} (so : SortOk E n) (hl : st.pt.length ≤ n) (hn : n ≤ 1000000) (s : Sep F h (plVlt k p st :: L)) :
 cl (Go.Abs.F.vault_Vault_Waits E) [p] h fun r h' => ∃ l', l'.Perm (keysL st.pt) ∧ Srtd ordI l' ∧ Sep F h' (plIl r l' :: plVlt k p st :: L) := by
 refine cl_of ?_
 obtain ⟨b, ms, a, mp, c, rfl, s0⟩ := s.openVlt
 have r2 : h.rd b 2 = some (.map (some mp)) := by rw [rd_of s0.get 2]; rfl
 simp only [Go.Abs.F.vault_Vault_Waits, ptr_eq_nil, kv_some, ifV_bool, Bool.false_eq_true, if_false, aNil_ptr, fieldAddr_ptr, ld_one, Nat.zero_add, r2]
 refine cl_of ?_
 have e2 : newD none (.map (some mp)) h = some (ptr h.next 0, h.new (.cells [.map (some mp)] 1 .rw)) := rfl
 simp only [Go.Abs.F.maps_Keys_map_api_Id_vault_part_api_Id_vault_part, e2, kP_some]
 have s1 := s0.box [.map (some mp)] 1
 generalize h.new (.cells [.map (some mp)] 1 .rw) = h1 at s1 ⊢
 generalize h.next = bx at s1 ⊢
 have hnd := Sep.nodupM (s1.re6 [4] rfl)
 refine keys_collect (s1.re6 [4, 0, 1, 2, 3, 5] rfl) (by omega) (.inl rfl) fun r h2 ks hks s2 => ?_
 have hkl : ks.length ≤ n := by
  have := hks.length_eq
  simp only [keysL, List.length_map] at this
  omega
 refine cl_then (ids_New (hks.nodup_iff.2 hnd) (by omega) s2) ?_
 intro q h3 s3
 refine cl_then (ids_All so hkl hn s3) ?_
 rintro r2 h4 ⟨l', hl', hs, s4⟩
 refine ⟨l', hl'.trans hks, hs, ?_⟩
 exact (Sep.closeVlt (s4.re9 [5, 6, 7, 3, 8, 0] rfl)).up1
end Go.Abs
namespace Go.Abs
open Go Go.Proofs
variable {E : FE} {F : Fr} {h : AHeap} {L : List Pl} {k : Nat} {p v : V} {st : VltM}
theorem kv_of {x : Option V} {v : V} {K : V → Prop} (hx : x = some v) (hk : K v) : kv x K := by subst hx; rwa [kv_some]
theorem kP_of {x : Option (V × AHeap)} {v : V} {g : AHeap} {K : V → AHeap → Prop} (hx : x = some (v, g)) (hk : K v g) : kP x K := by subst hx; rwa [kP_some]
theorem begun_spec : cl (Go.Abs.F.estafettelaw14_begun E) [] h fun r h' => r = .bool true ∧ h' = h := cl_of ⟨rfl, rfl, rfl⟩
theorem Sep.litOps (s : Sep F h L) (l : List Oq) (hl : l ≠ []) : Sep F (h.new (.cells (dOp.flat l) 5 .rw)) (plOps (.slice (some ⟨h.next, 0, none⟩) l.length (2 * l.length)) l :: L) :=
 s.alloc (a' := [h.next]) (plOps (.slice (some ⟨h.next, 0, none⟩) l.length (2 * l.length)) l) ⟨by simp, fun x hx _ => by
  have : x ≠ h.next := by omega
  simp [this], by simp, by simp⟩ (SlE.lit dOp h l hl)
theorem Ro.pre {N es n k : Nat} {cs : List V} (s : Ro N h v es n cs) (he : 0 < es) (hk : k ≤ n) : ∃ v', sliceD (.slice es) v none (some (i64 k)) none h = some v' ∧ aLenOf v' = some k ∧ (k ≠ 0 → aSrc es v' h = some (cs.take (k * es))) := by
 obtain ⟨h0, h1, ⟨rfl, rfl⟩ | ⟨b, o, c, all, rfl, hb, hc, hg, ha⟩⟩ := s
 · obtain rfl : k = 0 := by omega
   exact ⟨.slice none 0 0, by simp [sliceD, aBoundO, aBound], rfl, fun h => absurd rfl h⟩
 · have hk2 : (0 : Int) ≤ k ∧ (k : Int) ≤ ((c / 2 : Nat) : Int) := by omega
   refine ⟨.slice (some ⟨b, o, none⟩) k c, ?_, rfl, fun hk0 => ?_⟩
   · simp only [sliceD, hg, if_true, aBoundO, aBound, if_pos hk2, Int.toNat_natCast]
   · show h.rdN b o (k * es) = _
     have h2 : k * es ≤ n * es := Nat.mul_le_mul_right _ hk
     have h3 : ((all.drop o).take (n * es)).length = n * es := by rw [ha, h0]
     rw [List.length_take, List.length_drop] at h3
     have h4 : 0 < k * es := Nat.mul_pos (by omega) he
     rw [rdN_of hg, if_pos (by omega), ← ha, List.take_take, Nat.min_eq_left h2]
def G.cut (n : Int) : Spec := fun args h K => match args with
| [a0] =>
kv (lenD .slice a0 h) fun v5_0 =>
kv (aMinMax false [v5_0, (.int .i64 n)]) fun v6_1 =>
kv (sliceD (.slice 5) a0 none (some v6_1) none h) fun v7_2 =>
kP (appendD (some (5, 64, [(.int .i64 0), (.string ⟨#[]⟩), (.string ⟨#[]⟩), (.string ⟨#[]⟩), (.int .i64 0)])) (.slice none 0 0) v7_2 h) fun v8_3 h =>
K v8_3 h
| _ => False
theorem few_cut (E : FE) : Go.Abs.F.estafettelaw14_few E = G.cut 8 := rfl
theorem cut_ops {N : Nat} {l : List Oq} (n : Nat) (hn : n ≤ 1000) (hO : Oqs N h v l) (s : Sep F h L) : cl (G.cut n) [v] h fun r h' => Sep F h' (plOps r (l.take n) :: L) := by
 refine cl_of ?_
 have hO : Ro N h v 5 l.length (l.flatMap Oq.cells) := hO
 have e : min ((l.length : Nat) : Int) (n : Int) = ((min l.length n : Nat) : Int) := by omega
 simp only [G.cut]
 rw [Ro.len hO h, kv_some, min2, kv_some, e]
 obtain ⟨v', e1, e2, e3⟩ := Ro.pre hO (by decide) (k := min l.length n) (by omega)
 rw [e1, kv_some]
 have ht : l.take (min l.length n) = l.take n := by
  by_cases hl : l.length ≤ n
  · rw [Nat.min_eq_left hl, List.take_length, List.take_of_length_le hl]
  · rw [Nat.min_eq_right (by omega)]
 have hf : (l.flatMap Oq.cells).take (min l.length n * 5) = dOp.flat (l.take n) := by rw [← ht]; exact dOp.flat_take l _
 have hlen : (l.take n).length = min l.length n := by rw [List.length_take, Nat.min_comm]
 rw [hf] at e3
 obtain ⟨w, h', fp', a1, a2, a3⟩ := Sl.append (Sl.nil (h := h) (es := 5)) (bytes := 64) (z := zOp) (new := dOp.flat (l.take n)) rfl (by decide) (by decide) e2 e3 (by rw [dOp.flat_len, hlen]; rfl) (dOp.flat_one _) (by omega)
 simp only [zOp] at a1
 rw [a1, kP_some]
 refine s.alloc (plOps w (l.take n)) a3 ?_
 rw [Nat.zero_add, List.nil_append, ← hlen] at a2
 exact a2
variable {id : IdM} {ops : List Oq} {now : Int}
theorem prep_ov : (prepV st id ops now).2.ov = st.ov := by
 unfold prepV
 split
 · rfl
 · split
   · rfl
   · split
     · rfl
     · split <;> rfl
theorem prep_only (ho : ∀ e ∈ st.pt, e.1 = id) : ∀ e ∈ (prepV st id ops now).2.pt, e.1 = id := by
 unfold prepV
 split
 · exact ho
 · split
   · exact ho
   · rename_i hp
     split
     · exact ho
     · split
       · exact ho
       · intro e he
         have he : e ∈ ins id _ st.pt := he
         rw [ins_new hp] at he
         rcases List.mem_append.1 he with he | he
         · exact ho e he
         · rw [List.mem_singleton.1 he]
theorem dec_ov (yes : Bool) : id ∈ (decV st id yes).2.ov := by
 unfold decV
 split
 · assumption
 · split <;> simp
theorem dec_ov_eq {yes : Bool} (ho : id ∉ st.ov) : (decV st id yes).2.ov = id :: st.ov ∧ (decV st id yes).1 = true := by
 unfold decV
 rw [if_neg ho]
 split <;> exact ⟨rfl, rfl⟩
theorem dec_only {yes : Bool} (ho : id ∉ st.ov) (hd : (keysL st.pt).Nodup) (hp : ∀ e ∈ st.pt, e.1 = id) : (decV st id yes).2.pt = [] := by
 unfold decV
 rw [if_neg ho]
 cases hk : lkp id st.pt with
 | none =>
  show st.pt = []
  cases hpt : st.pt with
  | nil => rfl
  | cons a l =>
   exfalso
   have h1 := hp a (by rw [hpt]; simp)
   refine lkp_none.1 hk ?_
   rw [hpt]
   exact List.mem_map.2 ⟨a, by simp, h1⟩
 | some x =>
  show rmv id st.pt = []
  cases hr : rmv id st.pt with
  | nil => rfl
  | cons a l =>
   exfalso
   obtain ⟨h1, h2⟩ := mem_rmv hd (show a ∈ rmv id st.pt by rw [hr]; simp)
   exact h2 (hp a h1)
theorem one_pt {yes : Bool} (i : VInv k st) (ho : id ∉ st.ov) (hp : st.pt = []) : (decV (prepV st id ops now).2 id yes).2.pt = [] :=
 dec_only (by rw [prep_ov]; exact ho) (inv_prep i id ops now).dpt (prep_only (by rw [hp]; simp))
end Go.Abs
