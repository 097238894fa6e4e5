/- Specs on abstract heaps, part 39: spaces that are compared, whichever they are. -/
import Derived.Test.YthilcedkapakpaaGreatDoorRepI
import Derived.Test.YthilcedkapakpaaGreatDoorLqKinds
set_option linter.unusedSimpArgs false
set_option linter.unusedVariables false
namespace Go.Abs
open Go Go.Proofs
variable {E E1 : FE} {h h' : AHeap} {p q : V}

theorem msg_cmp (m n : Msg) (c : Bool) : ∃ b : Bool, binD (.struct [(0, .int), (1, .string), (2, .int), (3, .int)]) .neq c m.agg n.agg h = some (.bool b) ∧ (b = false ↔ m = n) := by
  obtain ⟨i1, v1, c1, t1⟩ := m
  obtain ⟨i2, v2, c2, t2⟩ := n
  by_cases h1 : i1 = i2
  · by_cases h2 : v1 = v2
    · by_cases h3 : c1 = c2
      · by_cases h4 : t1 = t2
        · exact ⟨false, by simp [binD, Msg.agg, eqD, eqFieldsD, h1, h2, h3, h4], by simp [h1, h2, h3, h4]⟩
        · exact ⟨true, by simp [binD, Msg.agg, eqD, eqFieldsD, h1, h2, h3, h4], by simp [h4]⟩
      · exact ⟨true, by simp [binD, Msg.agg, eqD, eqFieldsD, h1, h2, h3], by simp [h3]⟩
    · have : (v1.toList == v2.toList) = false := by rw [ba_toList_eq]; simp [h2]
      exact ⟨true, by simp [binD, Msg.agg, eqD, eqFieldsD, h1, this], by simp [h2]⟩
  · exact ⟨true, by simp [binD, Msg.agg, eqD, eqFieldsD, h1], by simp [h1]⟩

theorem pr_cmp (m n : Pr) (c : Bool) : ∃ b : Bool, binD (.struct [(0, .string), (1, .string), (2, .int)]) .neq c m.agg n.agg h = some (.bool b) ∧ (b = false ↔ m = n) := by
  obtain ⟨k1, v1, a1⟩ := m
  obtain ⟨k2, v2, a2⟩ := n
  by_cases h1 : k1 = k2
  · by_cases h2 : v1 = v2
    · by_cases h3 : a1 = a2
      · exact ⟨false, by simp [binD, Pr.agg, eqD, eqFieldsD, h1, h2, h3], by simp [h1, h2, h3]⟩
      · exact ⟨true, by simp [binD, Pr.agg, eqD, eqFieldsD, h1, h2, h3], by simp [h3]⟩
    · have : (v1.toList == v2.toList) = false := by rw [ba_toList_eq]; simp [h2]
      exact ⟨true, by simp [binD, Pr.agg, eqD, eqFieldsD, h1, this], by simp [h2]⟩
  · have : (k1.toList == k2.toList) = false := by rw [ba_toList_eq]; simp [h1]
    exact ⟨true, by simp [binD, Pr.agg, eqD, eqFieldsD, this], by simp [h1]⟩

theorem take_eq {α : Type} {a b : List α} (hl : a.length = b.length) {i : Nat} (hi : i < a.length) (ht : a.take i = b.take i) (he : a[i] = b[i]'(by omega)) : a.take (i + 1) = b.take (i + 1) := by
  rw [List.take_succ_eq_append_getElem hi, List.take_succ_eq_append_getElem (by omega : i < b.length), ht, he]

/-- slices.Equal of messages. -/
theorem eq_msgsG {v w : V} {a b : List Msg} {fa fb : List Nat} (ha : Ms h fa v a) (hb : Ms h fb w b) (hsz : a.length ≤ 1000000) :
    cl (Go.Abs.F.slices_Equal_Sapi_Msg_api_Msg E) [v, w] h fun r h' => h' = h ∧ ∃ x : Bool, r = .bool x ∧ (x = true ↔ a = b) := by
  refine cl_of ?_
  have l1 := Sl.len ha
  have l2 := Sl.len hb
  simp only [Go.Abs.F.slices_Equal_Sapi_Msg_api_Msg, l1, l2, kv_some, bin_neq, ifV_bool]
  by_cases hl : a.length = b.length
  · have e : ((a.length : Int) != (b.length : Int)) = false := by simp [hl]
    rw [e]
    simp only [Bool.false_eq_true, if_false]
    refine ⟨fun k vs h' => ∃ i : Nat, i ≤ a.length ∧ k = a.length - i ∧ vs = [i64 i] ∧ h' = h ∧ a.take i = b.take i, a.length, ⟨0, by omega, by omega, rfl, rfl, by simp⟩, ?_⟩
    rintro k e h1 ⟨i, hi, rfl, he, e1, ht⟩
    rw [e1]
    simp only [List.cons.injEq, and_true] at he
    simp only [he, kv_some, bin_lss, ifV_bool]
    by_cases hx : i < a.length
    · have hx' : (i : Int) < (a.length : Nat) := by omega
      have hxb : i < b.length := by omega
      obtain ⟨b1, x1, _, x2, _⟩ := Ms.at ha (i := i) (m := a[i]) (by simp [hx])
      obtain ⟨b2, y1, _, y2, _⟩ := Ms.at hb (i := i) (m := b[i]) (by simp [hxb])
      obtain ⟨c, hc1, hc2⟩ := msg_cmp (h := h) a[i] b[i] false
      simp only [hx', decide_true, if_true, x1, x2, y1, y2, kv_some]
      rw [hc1, kv_some]
      simp only [ifV_bool]
      cases c with
      | true =>
        simp only [if_true]
        exact ⟨trivial, false, rfl, by
          constructor
          · intro h; cases h
          · intro h
            subst h
            have := hc2.2 rfl
            cases this⟩
      | false =>
        simp only [Bool.false_eq_true, if_false]
        rw [add_i64 _ 1 (by omega) (by omega), kv_some]
        exact ⟨a.length - (i + 1), by omega, i + 1, by omega, rfl, by simp, trivial, take_eq hl hx ht (hc2.1 rfl)⟩
    · have hx' : ¬ (i : Int) < (a.length : Nat) := by omega
      simp only [hx', decide_false, Bool.false_eq_true, if_false]
      rw [List.take_of_length_le (by omega), List.take_of_length_le (by omega)] at ht
      exact ⟨trivial, true, rfl, by simp [ht]⟩
  · have e : ((a.length : Int) != (b.length : Int)) = true := by simp; omega
    rw [e]
    simp only [if_true]
    exact ⟨trivial, false, rfl, by
      constructor
      · intro h; cases h
      · intro h; exact absurd (by rw [h]) hl⟩

/-- Two states that are the same, as their faces tell. -/
def EqP : SpSt → SpSt → Prop
  | .tab g1, .tab g2 => ∀ k, getE k g1 = getE k g2
  | .qu _ n1 i1 l1, .qu _ n2 i2 l2 => n1 = n2 ∧ i1 = i2 ∧ l1 = l2
  | .to l1 g1, .to l2 g2 => l1 = l2 ∧ ∀ k, getE k g1 = getE k g2
  | _, _ => False

theorem keysT_eq {g1 g2 : List En} (n1 : (keysE g1).Nodup) (n2 : (keysE g2).Nodup) : keysT g1 = keysT g2 ↔ ∀ k, (getE k g1).isSome = (getE k g2).isSome := by
  have mem : ∀ (g : List En) k, k ∈ keysE g ↔ (getE k g).isSome = true := by
    intro g k
    rw [Option.isSome_iff_ne_none, ne_eq, ← get_none]
    simp
  constructor
  · intro he k
    have h1 : k ∈ keysE g1 ↔ k ∈ keysE g2 := by rw [← (keysT_perm g1).mem_iff, ← (keysT_perm g2).mem_iff, he]
    rw [mem, mem] at h1
    exact Bool.eq_iff_iff.2 h1
  · intro hk
    have hp : (keysE g1).Perm (keysE g2) := (List.perm_ext_iff_of_nodup n1 n2).2 fun k => by rw [mem, mem, hk]
    have hb : ∀ g : List En, (g.map ME).map (fun e => keyB e.key) = (keysE g).map kl := by
      intro g
      rw [keysE, List.map_map, List.map_map]
      rfl
    unfold keysT srtK
    rw [hb, hb, mergeSort_of_perm (hp.map kl)]

theorem getE_eq {g1 g2 : List En} (n1 : (keysE g1).Nodup) (n2 : (keysE g2).Nodup) {α : Type} (tx : ByteArray → List En → α) (htx : ∀ k, (getE k g1).isSome = true → (getE k g2).isSome = true → (tx k g1 = tx k g2 ↔ getE k g1 = getE k g2)) :
    (keysT g1 = keysT g2 ∧ ∀ k ∈ keysT g1, tx k g1 = tx k g2) ↔ ∀ k, getE k g1 = getE k g2 := by
  have mem : ∀ k, k ∈ keysT g1 ↔ (getE k g1).isSome = true := by
    intro k
    rw [(keysT_perm g1).mem_iff, Option.isSome_iff_ne_none, ne_eq, ← get_none]
    simp
  constructor
  · rintro ⟨hk, ht⟩ k
    have hs := (keysT_eq n1 n2).1 hk k
    cases hg : (getE k g1).isSome with
    | true => exact (htx k hg (by rw [← hs, hg])).1 (ht k ((mem k).2 hg))
    | false =>
      have h1 : getE k g1 = none := by simpa using hg
      have h2 : getE k g2 = none := by rw [hg] at hs; simpa using hs.symm
      rw [h1, h2]
  · intro he
    refine ⟨(keysT_eq n1 n2).2 fun k => by rw [he], fun k hk => ?_⟩
    have h1 := (mem k).1 hk
    exact (htx k h1 (by rw [← he]; exact h1)).2 (he k)

/-- A key's text. -/
def txt (k : ByteArray) (g : List En) : ByteArray := match getE k g with | some (.string s) => s | _ => ⟨#[]⟩

theorem txt_of {g : List En} (hv : ∀ e ∈ g, ∃ s, e.v = str s) (k : ByteArray) : (getE k g).getD (str ⟨#[]⟩) = str (txt k g) := by
  unfold txt
  cases hk : getE k g with
  | none => rfl
  | some v =>
    obtain ⟨e, he, rfl⟩ := getE_mem hk
    obtain ⟨s, hs⟩ := hv e he
    rw [hs]
    rfl

theorem txt_eq {g1 g2 : List En} (h1 : ∀ e ∈ g1, ∃ s, e.v = str s) (h2 : ∀ e ∈ g2, ∃ s, e.v = str s) (k : ByteArray) (s1 : (getE k g1).isSome = true) (s2 : (getE k g2).isSome = true) : txt k g1 = txt k g2 ↔ getE k g1 = getE k g2 := by
  obtain ⟨v1, e1⟩ := Option.isSome_iff_exists.1 s1
  obtain ⟨v2, e2⟩ := Option.isSome_iff_exists.1 s2
  obtain ⟨x1, m1, rfl⟩ := getE_mem e1
  obtain ⟨x2, m2, rfl⟩ := getE_mem e2
  obtain ⟨t1, q1⟩ := h1 x1 m1
  obtain ⟨t2, q2⟩ := h2 x2 m2
  simp only [txt, e1, e2, q1, q2, Option.some.injEq, Value.string.injEq]

theorem atN_eq {g1 g2 : List En} (h1 : ∀ e ∈ g1, ∃ n : Int, e.v = i64 n) (h2 : ∀ e ∈ g2, ∃ n : Int, e.v = i64 n) (k : ByteArray) (s1 : (getE k g1).isSome = true) (s2 : (getE k g2).isSome = true) : atN k g1 = atN k g2 ↔ getE k g1 = getE k g2 := by
  obtain ⟨v1, e1⟩ := Option.isSome_iff_exists.1 s1
  obtain ⟨v2, e2⟩ := Option.isSome_iff_exists.1 s2
  obtain ⟨x1, m1, rfl⟩ := getE_mem e1
  obtain ⟨x2, m2, rfl⟩ := getE_mem e2
  obtain ⟨t1, q1⟩ := h1 x1 m1
  obtain ⟨t2, q2⟩ := h2 x2 m2
  simp only [atN, e1, e2, q1, q2, Option.some.injEq, Value.int.injEq, true_and]

theorem not_any {l : List ByteArray} {P : ByteArray → Bool} : (!l.any P) = true ↔ ∀ k ∈ l, P k = false := by
  rw [Bool.not_eq_true', List.any_eq_false]
  simp

/-- Two tables. -/
theorem alikeG {g1 g2 : List En} {fa fb : List Nat} (hM : MonoI E.I) (hE : E.I (E.k 2) = some (cl (Go.Abs.F.space_alike_1 E1))) (a : Tab h fa p g1) (b : Tab h fb q g2) (v1 : ∀ e ∈ g1, ∃ s, e.v = str s) (v2 : ∀ e ∈ g2, ∃ s, e.v = str s)
    (s1 : ∀ e ∈ g1, e.k.size ≤ maxLen) (s2 : ∀ e ∈ g2, e.k.size ≤ maxLen) (l1 : g1.length ≤ 1000) (l2 : g2.length ≤ 1000) :
    cl (Go.Abs.F.space_alike E) [p, q] h fun r h' => (∃ x : Bool, r = .bool x ∧ (x = true ↔ ∀ k, getE k g1 = getE k g2)) ∧ Mod h [] h' [] := by
  have hge := getE_eq a.nd b.nd txt fun k => txt_eq v1 v2 k
  refine cl_of ?_
  obtain ⟨pa, _⟩ := a.isPtr
  obtain ⟨pb, _⟩ := b.isPtr
  simp only [Go.Abs.F.space_alike, box1 p pa, box1 q pb, kP_some]
  have m0 : Mod h [] ((h.new (.cells [p] 1 .rw)).new (.cells [q] 1 .rw)) [] := (Mod.box0 _).trans (Mod.box0 _)
  have g1' : ((h.new (.cells [p] 1 .rw)).new (.cells [q] 1 .rw)).get h.next = some (.cells [p] 1 .rw) := by simp
  have g2' : ((h.new (.cells [p] 1 .rw)).new (.cells [q] 1 .rw)).get (h.next + 1) = some (.cells [q] 1 .rw) := by simp
  have n1 : h.next < ((h.new (.cells [p] 1 .rw)).new (.cells [q] 1 .rw)).next := by simp; omega
  have n2 : h.next + 1 < ((h.new (.cells [p] 1 .rw)).new (.cells [q] 1 .rw)).next := by simp
  simp only [new_next]
  generalize (h.new (.cells [p] 1 .rw)).new (.cells [q] 1 .rw) = h0 at m0 g1' g2' n1 n2 ⊢
  have rp : ∀ {h'}, Mod h0 [] h' [] → h'.rd h.next 0 = some p := fun m => by rw [rd_keep m n1]; exact rd_of g1' 0
  have rq : ∀ {h'}, Mod h0 [] h' [] → h'.rd (h.next + 1) 0 = some q := fun m => by rw [rd_keep m n2]; exact rd_of g2' 0
  have keepA : ∀ {h'}, Mod h0 [] h' [] → Tab h' fa p g1 := fun m => a.same (m0.trans m).next fun x hx => (m0.trans m).same x (a.lt x hx) (by simp)
  have keepB : ∀ {h'}, Mod h0 [] h' [] → Tab h' fb q g2 := fun m => b.same (m0.trans m).next fun x hx => (m0.trans m).same x (b.lt x hx) (by simp)
  have mr : Mod h0 [] h0 [] := Mod.refl (by simp)
  simp only [ld_one, rp mr, rq mr, kv_some]
  refine cl_then (table_KeysT (keepA mr) s1 l1) ?_
  rintro r1 h1 ⟨f1, t1, m1⟩
  have m1 := m1.nil
  simp only [ld_one, rq m1, true_and]
  refine cl_then (table_KeysT (keepB m1) s2 l2) ?_
  rintro r2 h2 ⟨f2, t2, m2⟩
  have m2' := m1.trans m2.nil
  have t1' : Ts h2 f1 r1 (keysT g1) := t1.same m2.next fun x hx => m2.same x (t1.lt x hx) (by simp)
  refine cl_then (eq_texts t1'.rdt t2.rdt (by rw [keysT_len]; omega)) ?_
  rintro r h3 ⟨e3, rfl⟩
  rw [e3]
  by_cases hk : keysT g1 = keysT g2
  · simp only [hk, decide_true, not_bool, Bool.not_true, kv_some, ifV_bool, Bool.false_eq_true, if_false, ld_one, rp m2']
    refine cl_then (table_KeysT (keepA m2') s1 l1) ?_
    rintro r3 h4 ⟨f3, t3, m3⟩
    have m3' := m2'.trans m3.nil
    refine cl_then (any_texts hM t3.rdt (by rw [keysT_len]; omega) (fun k => !decide (txt k g1 = txt k g2)) fun s _ => ?_) ?_
    · simp only [aCall, hE]
      refine cl_of ?_
      show Go.Abs.F.space_alike_1 E1 [str s, ptr h.next 0, ptr (h.next + 1) 0] h4 _
      simp only [Go.Abs.F.space_alike_1, ld_one, rp m3', kv_some]
      refine cl_then (table_Get (keepA m3') v1 s) ?_
      rintro r h5 ⟨e5, rfl⟩
      rw [e5]
      simp only [extract_tuple, List.getElem?_toArray, List.getElem?_cons_zero, List.getElem?_cons_succ, kv_some, ld_one, rq m3']
      refine cl_then (table_Get (keepB m3') v2 s) ?_
      rintro r h6 ⟨e6, rfl⟩
      rw [e6]
      simp only [extract_tuple, List.getElem?_toArray, List.getElem?_cons_zero, List.getElem?_cons_succ, kv_some, txt_of v1, txt_of v2, str_neq]
      exact ⟨trivial, trivial⟩
    · rintro r h5 ⟨e5, rfl⟩
      rw [e5]
      simp only [not_bool, kv_some]
      refine ⟨⟨_, rfl, ?_⟩, m0.trans m3'⟩
      rw [not_any, ← hge]
      simp [hk]
  · simp only [hk, decide_false, not_bool, Bool.not_false, kv_some, ifV_bool, if_true]
    refine ⟨⟨false, rfl, ?_⟩, m0.trans m2'⟩
    rw [← hge]
    simp [hk]

end Go.Abs

set_option linter.unusedSimpArgs false
set_option linter.unusedVariables false
namespace Go.Abs
open Go Go.Proofs
variable {E E1 : FE} {h h' : AHeap} {p q pt qt : V} {fa fb : List Nat} {k : Nat}

theorem pairs_eq {ps1 ps2 : List Pr} (r1 : Rise ps1) (r2 : Rise ps2) (f : Pr → V) (hinj : ∀ a ∈ ps1, ∀ b ∈ ps2, a.key = b.key → f a = f b → a = b) : ps1 = ps2 ↔ ∀ k, (hitP k ps1).map f = (hitP k ps2).map f := by
  constructor
  · intro h k; rw [h]
  · intro h
    have mem : ∀ (ps : List Pr), Rise ps → ∀ k, k ∈ ps.map (·.key) ↔ (hitP k ps).isSome = true := by
      intro ps r k
      constructor
      · intro hk
        obtain ⟨q, hq, rfl⟩ := List.mem_map.1 hk
        rw [hit_of r hq]; rfl
      · intro hk
        obtain ⟨q, hq⟩ := Option.isSome_iff_exists.1 hk
        obtain ⟨h1, h2⟩ := hit_mem hq
        exact List.mem_map.2 ⟨q, h1, h2⟩
    have hperm : (ps1.map (·.key)).Perm (ps2.map (·.key)) := (List.perm_ext_iff_of_nodup (rise_nodup r1) (rise_nodup r2)).2 fun k => by
      rw [mem ps1 r1, mem ps2 r2]
      have := congrArg Option.isSome (h k)
      simp only [Option.isSome_map] at this
      rw [this]
    have hkeys : ps1.map (·.key) = ps2.map (·.key) := by
      refine List.Perm.eq_of_pairwise (le := fun a b => kl a < kl b) (fun a b _ _ h1 h2 => absurd h2 (lt_asy h1)) (List.pairwise_map.2 r1) (List.pairwise_map.2 r2) hperm
    have hlen : ps1.length = ps2.length := by simpa using congrArg List.length hkeys
    refine List.ext_getElem hlen fun i h1 h2 => ?_
    have hk : ps1[i].key = ps2[i].key := by
      have := congrArg (fun l => l[i]?) hkeys
      simpa [h1, h2] using this
    refine hinj _ (List.getElem_mem h1) _ (List.getElem_mem h2) hk ?_
    have hf := h ps1[i].key
    rw [hit_of r1 (List.getElem_mem h1), hk, hit_of r2 (List.getElem_mem h2)] at hf
    simpa using hf

/-- The document's spaces are the same just where the states are. -/
theorem rel_eq {S1 S2 : SpSt} {s1 s2 : SpM} (R1 : RelS S1 s1) (R2 : RelS S2 s2) (hk : S1.kind = S2.kind) : (s1.pairs = s2.pairs ∧ s1.items = s2.items ∧ s1.lost = s2.lost ∧ (s1.kind = 2 → s1.next = s2.next)) ↔ EqP S1 S2 := by
  cases S1 with
  | tab g1 =>
    cases S2 with
    | tab g2 =>
      obtain ⟨k1, t1, n1, i1, l1, z1⟩ := R1
      obtain ⟨k2, t2, n2, i2, l2, z2⟩ := R2
      have := pairs_eq t1.rise t2.rise (fun q => str q.val) fun a ha b hb hkey hf => by
        obtain ⟨ka, va, aa⟩ := a
        obtain ⟨kb, vb, ab⟩ := b
        have e1 := z1 _ ha
        have e2 := z2 _ hb
        simp only at hkey hf e1 e2
        have e3 : va = vb := by simpa using hf
        rw [hkey, e3, e1, e2]
      rw [i1, i2, l1, l2, k1, this]
      simp only [true_and, EqP, t1.same, t2.same]
      constructor
      · rintro ⟨h, _⟩; exact h
      · exact fun h => ⟨h, fun h => by cases h⟩
    | qu a b i l => cases hk
    | to l g => cases hk
  | qu a1 b1 i1 l1 =>
    cases S2 with
    | tab g2 => cases hk
    | qu a2 b2 i2 l2 =>
      obtain ⟨k1, p1, m1, n1, t1, o1⟩ := R1
      obtain ⟨k2, p2, m2, n2, t2, o2⟩ := R2
      rw [p1, p2, t1, t2, o1, o2, k1, n1, n2]
      simp only [true_and, EqP, forall_const]
      constructor
      · rintro ⟨h1, h2, h3⟩; exact ⟨h3, h1, h2⟩
      · rintro ⟨h1, h2, h3⟩; exact ⟨h2, h3, h1⟩
    | to l g => cases hk
  | to l1 g1 =>
    cases S2 with
    | tab g2 => cases hk
    | qu a b i l => cases hk
    | to l2 g2 =>
      obtain ⟨k1, t1, n1, i1, o1, z1⟩ := R1
      obtain ⟨k2, t2, n2, i2, o2, z2⟩ := R2
      have := pairs_eq t1.rise t2.rise (fun q => i64 q.at_) fun a ha b hb hkey hf => by
        obtain ⟨ka, va, aa⟩ := a
        obtain ⟨kb, vb, ab⟩ := b
        have e1 := z1 _ ha
        have e2 := z2 _ hb
        simp only at hkey hf e1 e2
        have e3 : aa = ab := by simpa using hf
        rw [hkey, e3, e1, e2]
      have hinj : l1.map tmsg = l2.map tmsg ↔ l1 = l2 := by
        constructor
        · intro h
          have := congrArg (List.map (·.val)) h
          rwa [map_val, map_val] at this
        · intro h; rw [h]
      rw [i1, i2, o1, o2, k1, this, hinj]
      simp only [true_and, EqP, t1.same, t2.same]
      constructor
      · rintro ⟨h1, h2, _⟩; exact ⟨h2, h1⟩
      · rintro ⟨h1, h2⟩; exact ⟨h2, h1, fun h => by cases h⟩

theorem Eq_tabG {g1 g2 : List En} (hM : MonoI E.I) (hE : E.I (E.k 2) = some (cl (Go.Abs.F.space_alike_1 E1))) (a : Spa h fa p (cTab pt) (plTab pt g1)) (b : Spa h fb q (cTab qt) (plTab qt g2)) (v1 : ∀ e ∈ g1, ∃ s, e.v = str s) (v2 : ∀ e ∈ g2, ∃ s, e.v = str s)
    (s1 : ∀ e ∈ g1, e.k.size ≤ maxLen) (s2 : ∀ e ∈ g2, e.k.size ≤ maxLen) (l1 : g1.length ≤ 1000) (l2 : g2.length ≤ 1000) :
    cl (Go.Abs.F.space_Space_Eq E) [p, q] h fun r h' => (∃ x : Bool, r = .bool x ∧ (x = true ↔ EqP (.tab g1) (.tab g2))) ∧ Mod h [] h' [] := by
  refine cl_of ?_
  obtain ⟨h0, x, ba, bb, f, f', rfl, rfl, e1, e2, m0, st, kA, kB⟩ := eqst a b
  have mr : Mod h0 [] h0 [] := Mod.refl (by simp)
  simp only [Go.Abs.F.space_Space_Eq, e1, e2, kP_some]
  simp only [ld_one, st.rp mr, st.rq mr, kv_some, ptr_eq_nil, gdV_bool, if_true, pickV_bool, Bool.false_eq_true, if_false, aNil_ptr, fieldAddr_ptr, Nat.zero_add, st.ra mr, st.rb mr, List.getElem?_cons_zero, List.getElem?_cons_succ, bin_neq, bne_self_eq_false, ifV_bool, bin_eql, beq_self_eq_true]
  refine cl_then (alikeG hM hE (kA mr) (kB mr) v1 v2 s1 s2 l1 l2) ?_
  rintro r h1 ⟨hx, m1⟩
  exact ⟨hx, m0.trans m1⟩

theorem Eq_quG {a1 n1 a2 n2 : Int} {i1 o1 i2 o2 : List Msg} (a : Spa h fa p (cQu pt) (plQu pt a1 n1 i1 o1)) (b : Spa h fb q (cQu qt) (plQu qt a2 n2 i2 o2)) (z1 : i1.length + o1.length ≤ 1000000) (z2 : i2.length + o2.length ≤ 1000000) :
    cl (Go.Abs.F.space_Space_Eq E) [p, q] h fun r h' => (∃ x : Bool, r = .bool x ∧ (x = true ↔ EqP (.qu a1 n1 i1 o1) (.qu a2 n2 i2 o2))) ∧ Mod h [] h' [] := by
  refine cl_of ?_
  obtain ⟨h0, x, ba, bb, f, f', rfl, rfl, e1, e2, m0, st, kA, kB⟩ := eqst a b
  have mr : Mod h0 [] h0 [] := Mod.refl (by simp)
  simp only [Go.Abs.F.space_Space_Eq, e1, e2, kP_some]
  simp only [ld_one, st.rp mr, st.rq mr, kv_some, ptr_eq_nil, gdV_bool, if_true, pickV_bool, Bool.false_eq_true, if_false, aNil_ptr, fieldAddr_ptr, Nat.zero_add, st.ra mr, st.rb mr, List.getElem?_cons_zero, List.getElem?_cons_succ, bin_neq, bne_self_eq_false, ifV_bool, bin_eql, beq_self_eq_true, show ((2 : Int) == 1) = false from rfl]
  refine cl_then (queue_Next (kA mr)) ?_
  rintro r h1 ⟨e3, rfl⟩
  rw [e3]
  simp only [ld_one, st.rq mr, st.rb mr, List.getElem?_cons_zero, List.getElem?_cons_succ, true_and]
  refine cl_then (queue_Next (kB mr)) ?_
  rintro r h1 ⟨e4, rfl⟩
  rw [e4]
  simp only [bin_eql, kv_some]
  -- no: nothing more is looked at
  have stop : ∀ {h3 : AHeap}, Mod h0 [] h3 [] → ¬ EqP (.qu a1 n1 i1 o1) (.qu a2 n2 i2 o2) → (∃ x : Bool, Value.bool false = .bool x ∧ (x = true ↔ EqP (.qu a1 n1 i1 o1) (.qu a2 n2 i2 o2))) ∧ Mod h [] h3 [] :=
    fun m hn => ⟨⟨false, rfl, by simp [hn]⟩, m0.trans m⟩
  by_cases hn : n1 = n2
  · have hb : (n1 == n2) = true := by simpa using hn
    simp only [hb, gdV_bool, if_true, kv_some, ld_one, st.rp mr, st.rq mr, st.ra mr, st.rb mr, List.getElem?_cons_zero, List.getElem?_cons_succ, aNil_ptr, fieldAddr_ptr, Nat.zero_add]
    refine gdC_yes rfl (cl_then (queue_Items (kA mr) (by omega)) ?_)
    rintro ra h2 ⟨f2, s2, m2⟩
    have m2' := m2.nil
    simp only [gdV_bool, if_true, ld_one, st.rq m2', st.rb m2', List.getElem?_cons_zero, List.getElem?_cons_succ, true_and]
    refine gdC_yes rfl (cl_then (queue_Items (kB m2') (by omega)) ?_)
    rintro rb h3 ⟨f3, s3, m3⟩
    have m3' := m2'.trans m3.nil
    have s2' : Ms h3 f2 ra i1 := s2.same m3.next fun y hy => m3.same y (s2.lt y hy) (by simp)
    refine gdC_yes rfl (cl_then (eq_msgsG s2' s3 (by omega)) ?_)
    rintro r h4 ⟨e5, y, rfl, hy⟩
    rw [e5]
    cases y with
    | false =>
      simp only [pickV_bool, if_true, kv_some, gdV_bool, gdV_gone, Bool.false_eq_true, if_false]
      refine gdC_no (by decide) ?_
      refine gdC_no (by decide) ?_
      refine gdC_no (by decide) ?_
      try simp only [pickV_bool, Bool.false_eq_true, if_false, kv_some]
      refine stop m3' fun hE => ?_
      have := hy.2 hE.2.1
      cases this
    | true =>
      have hi := hy.1 rfl
      simp only [pickV_bool, if_true, kv_some, gdV_bool, ld_one, st.rp m3', st.rq m3', st.ra m3', st.rb m3', List.getElem?_cons_zero, List.getElem?_cons_succ, aNil_ptr, fieldAddr_ptr, Nat.zero_add]
      refine gdC_yes rfl (cl_then (queue_Lost (kA m3') (by omega)) ?_)
      rintro rc h5 ⟨f5, s5, m5⟩
      have m5' := m3'.trans m5.nil
      simp only [gdV_bool, if_true, ld_one, st.rq m5', st.rb m5', List.getElem?_cons_zero, List.getElem?_cons_succ, true_and]
      refine gdC_yes rfl (cl_then (queue_Lost (kB m5') (by omega)) ?_)
      rintro rd h6 ⟨f6, s6, m6⟩
      have m6' := m5'.trans m6.nil
      have s5' : Ms h6 f5 rc o1 := s5.same m6.next fun y hy => m6.same y (s5.lt y hy) (by simp)
      refine gdC_yes rfl (cl_then (eq_msgsG s5' s6 (by omega)) ?_)
      rintro r h7 ⟨e7, y, rfl, hy⟩
      rw [e7]
      try simp only [pickV_bool, if_true, kv_some]
      refine ⟨⟨y, rfl, ?_⟩, m0.trans m6'⟩
      rw [hy]
      exact ⟨fun h => ⟨hn, hi, h⟩, fun h => h.2.2⟩
  · have hb : (n1 == n2) = false := by simpa using hn
    simp only [hb, gdV_bool, gdV_gone, Bool.false_eq_true, if_false, kv_some]
    refine gdC_no (by decide) ?_
    refine gdC_no (by decide) ?_
    refine gdC_no (by decide) ?_
    simp only [pickV_bool, Bool.false_eq_true, if_false, kv_some, gdV_bool, gdV_gone]
    refine gdC_no (by decide) ?_
    refine gdC_no (by decide) ?_
    refine gdC_no (by decide) ?_
    try simp only [pickV_bool, Bool.false_eq_true, if_false, kv_some]
    exact stop mr fun hE => hn hE.1

theorem Eq_toG {l1 l2 : List ByteArray} {g1 g2 : List En} (hM : MonoI E.I) (hE : E.I (E.k 1) = some (cl (Go.Abs.F.space_Space_Eq_1 E1))) (a : Spa h fa p (cTo pt) (plTo pt l1 g1)) (b : Spa h fb q (cTo qt) (plTo qt l2 g2)) (n1 : (keysE g1).Nodup) (n2 : (keysE g2).Nodup)
    (s1 : ∀ e ∈ g1, e.k.size ≤ maxLen) (s2 : ∀ e ∈ g2, e.k.size ≤ maxLen) (z1 : g1.length ≤ 1000) (z2 : g2.length ≤ 1000) (y1 : l1.length ≤ 1000000) (y2 : l2.length ≤ 1000000) :
    cl (Go.Abs.F.space_Space_Eq E) [p, q] h fun r h' => (∃ x : Bool, r = .bool x ∧ (x = true ↔ EqP (.to l1 g1) (.to l2 g2))) ∧ Mod h [] h' [] := by
  refine cl_of ?_
  obtain ⟨h0, x, ba, bb, f, f', rfl, rfl, e1, e2, m0, st, kA, kB⟩ := eqst a b
  have mr : Mod h0 [] h0 [] := Mod.refl (by simp)
  have v1 := To.vals (kA mr)
  have v2 := To.vals (kB mr)
  have hge := getE_eq n1 n2 atN fun k => atN_eq v1 v2 k
  simp only [Go.Abs.F.space_Space_Eq, e1, e2, kP_some]
  simp only [ld_one, st.rp mr, st.rq mr, kv_some, ptr_eq_nil, gdV_bool, if_true, pickV_bool, Bool.false_eq_true, if_false, aNil_ptr, fieldAddr_ptr, Nat.zero_add, st.ra mr, st.rb mr, List.getElem?_cons_zero, List.getElem?_cons_succ, bin_neq, bne_self_eq_false, ifV_bool, bin_eql, beq_self_eq_true, show ((3 : Int) == 1) = false from rfl, show ((3 : Int) == 2) = false from rfl]
  refine cl_then (topic_Groups (kA mr) s1 z1) ?_
  rintro ra h1 ⟨f1, t1, m1⟩
  have m1' := m1.nil
  simp only [ld_one, st.rq m1', st.rb m1', List.getElem?_cons_zero, List.getElem?_cons_succ, true_and]
  refine cl_then (topic_Groups (kB m1') s2 z2) ?_
  rintro rb h2 ⟨f2, t2, m2⟩
  have m2' := m1'.trans m2.nil
  have t1' : Ts h2 f1 ra (keysT g1) := t1.same m2.next fun y hy => m2.same y (t1.lt y hy) (by simp)
  refine cl_then (eq_texts t1'.rdt t2.rdt (by rw [keysT_len]; omega)) ?_
  rintro r h3 ⟨e3, rfl⟩
  rw [e3]
  have stop : ∀ {h3 : AHeap}, Mod h0 [] h3 [] → ¬ EqP (.to l1 g1) (.to l2 g2) → (∃ x : Bool, Value.bool false = .bool x ∧ (x = true ↔ EqP (.to l1 g1) (.to l2 g2))) ∧ Mod h [] h3 [] :=
    fun m hn => ⟨⟨false, rfl, by simp [hn]⟩, m0.trans m⟩
  by_cases hk : keysT g1 = keysT g2
  · simp only [hk, decide_true, gdV_bool, if_true, kv_some, ld_one, st.rp m2', st.ra m2', List.getElem?_cons_zero, List.getElem?_cons_succ, aNil_ptr, fieldAddr_ptr, Nat.zero_add]
    refine gdC_yes rfl (cl_then (topic_Groups (kA m2') s1 z1) ?_)
    rintro rc h4 ⟨f4, t4, m4⟩
    have m4' := m2'.trans m4.nil
    refine gdC_yes rfl (cl_then (any_texts hM t4.rdt (by rw [keysT_len]; omega) (fun k => !decide (atN k g1 = atN k g2)) fun s _ => ?_) ?_)
    · simp only [aCall, hE]
      refine cl_of ?_
      show Go.Abs.F.space_Space_Eq_1 E1 [str s, ptr x 0, ptr (x + 1) 0] h4 _
      simp only [Go.Abs.F.space_Space_Eq_1, ld_one, st.rp m4', st.rq m4', st.ra m4', st.rb m4', List.getElem?_cons_zero, List.getElem?_cons_succ, aNil_ptr, fieldAddr_ptr, Nat.zero_add, kv_some]
      refine cl_then (topic_At (kA m4') s) ?_
      rintro r h5 ⟨e5, rfl⟩
      rw [e5, atE_eq v1]
      simp only [ld_one, st.rq m4', st.rb m4', List.getElem?_cons_zero, List.getElem?_cons_succ, true_and]
      refine cl_then (topic_At (kB m4') s) ?_
      rintro r h6 ⟨e6, rfl⟩
      rw [e6, atE_eq v2]
      simp only [bin_neq, kv_some]
      refine ⟨trivial, ?_⟩
      by_cases hh : atN s g1 = atN s g2 <;> simp [hh]
    rintro r h5 ⟨e5, rfl⟩
    rw [e5]
    simp only [not_bool, kv_some, gdV_bool, if_true, pickV_bool]
    cases hany : (keysT g1).any (fun k => !decide (atN k g1 = atN k g2)) with
    | true =>
      simp only [Bool.not_true, gdV_bool, gdV_gone, Bool.false_eq_true, if_false, kv_some]
      refine gdC_no (by decide) ?_
      refine gdC_no (by decide) ?_
      refine gdC_no (by decide) ?_
      try simp only [pickV_bool, Bool.false_eq_true, if_false, kv_some]
      refine stop m4' fun hE => ?_
      have h1 := (hge.2 hE.2).2
      obtain ⟨k, hk1, hk2⟩ := List.any_eq_true.1 hany
      simp [h1 k hk1] at hk2
    | false =>
      have hat : ∀ k ∈ keysT g1, atN k g1 = atN k g2 := by
        rw [List.any_eq_false] at hany
        intro k hk1
        have := hany k hk1
        simpa using this
      have hgg := hge.1 ⟨hk, hat⟩
      simp only [Bool.not_false, gdV_bool, if_true, kv_some, pickV_bool, ld_one, st.rp m4', st.rq m4', st.ra m4', st.rb m4', List.getElem?_cons_zero, List.getElem?_cons_succ, aNil_ptr, fieldAddr_ptr, Nat.zero_add]
      refine gdC_yes rfl (cl_then (all_texts (kA m4') s1 z1 y1) ?_)
      rintro rd h6 ⟨f6, t6, m6⟩
      have m6' := m4'.trans m6
      simp only [gdV_bool, if_true, ld_one, st.rq m6', st.rb m6', List.getElem?_cons_zero, List.getElem?_cons_succ, true_and]
      refine gdC_yes rfl (cl_then (all_texts (kB m6') s2 z2 y2) ?_)
      rintro re h7 ⟨f7, t7, m7⟩
      have m7' := m6'.trans m7
      have t6' : Ts h7 f6 rd l1 := t6.same m7.next fun y hy => m7.same y (t6.lt y hy) (by simp)
      refine gdC_yes rfl (cl_then (eq_texts t6'.rdt t7.rdt (by omega)) ?_)
      rintro r h8 ⟨e8, rfl⟩
      rw [e8]
      try simp only [pickV_bool, if_true, kv_some]
      refine ⟨⟨_, rfl, ?_⟩, m0.trans m7'⟩
      rw [decide_eq_true_eq]
      exact ⟨fun h => ⟨h, hgg⟩, fun h => h.1⟩
  · simp only [hk, decide_false, gdV_bool, gdV_gone, Bool.false_eq_true, if_false, kv_some]
    refine gdC_no (by decide) ?_
    refine gdC_no (by decide) ?_
    simp only [pickV_bool, Bool.false_eq_true, if_false, kv_some, gdV_bool, gdV_gone]
    refine gdC_no (by decide) ?_
    refine gdC_no (by decide) ?_
    refine gdC_no (by decide) ?_
    try simp only [pickV_bool, Bool.false_eq_true, if_false, kv_some]
    exact stop m2' fun hE => hk (hge.2 hE.2).1

end Go.Abs

set_option linter.unusedSimpArgs false
set_option linter.unusedVariables false
namespace Go.Abs
open Go Go.Proofs
variable {E E1 : FE} {h h' : AHeap} {p q : V} {fa fb : List Nat} {k : Nat}

theorem EqG (hM : MonoI E.I) (hE1 : E.I (E.k 1) = some (cl (Go.Abs.F.space_Space_Eq_1 E1))) (hE2 : E.I (E.k 2) = some (cl (Go.Abs.F.space_alike_1 E1))) {S1 S2 : SpSt} {s1 s2 : SpM} (a : SpS h fa p S1) (b : SpS h fb q S2) (i1 : SI k S1) (i2 : SI k S2) (hk : k ≤ 1000)
    (R1 : RelS S1 s1) (R2 : RelS S2 s2) (hkd : S1.kind = S2.kind) :
    cl (Go.Abs.F.space_Space_Eq E) [p, q] h fun r h' => (∃ x : Bool, r = .bool x ∧ (x = true ↔ EqP S1 S2)) ∧ Mod h [] h' [] := by
  obtain ⟨pt, a⟩ := a
  obtain ⟨qt, b⟩ := b
  cases S1 with
  | tab g1 =>
    cases S2 with
    | tab g2 => exact Eq_tabG hM hE2 a b (fun e he => by obtain ⟨s, h, _⟩ := i1.1 e he; exact ⟨s, h⟩) (fun e he => by obtain ⟨s, h, _⟩ := i2.1 e he; exact ⟨s, h⟩) i1.2.1 i2.2.1 (Nat.le_trans i1.2.2 hk) (Nat.le_trans i2.2.2 hk)
    | qu a b i l => cases hkd
    | to l g => cases hkd
  | qu a1 b1 i1' l1 =>
    cases S2 with
    | tab g2 => cases hkd
    | qu a2 b2 i2' l2 => exact Eq_quG a b (by have := QI.len i1; omega) (by have := QI.len i2; omega)
    | to l g => cases hkd
  | to l1 g1 =>
    cases S2 with
    | tab g2 => cases hkd
    | qu a b i l => cases hkd
    | to l2 g2 => exact Eq_toG hM hE1 a b R1.2.2.1 R2.2.2.1 i1.2.2.2.1 i2.2.2.2.1 (Nat.le_trans i1.2.2.2.2 hk) (Nat.le_trans i2.2.2.2.2 hk) (by have := i1.1; omega) (by have := i2.1; omega)

theorem Prs.agg {v : V} {l : List Pr} {fp : List Nat} (c : Prs h fp v l) {i : Nat} {q : Pr} (hi : l[i]? = some q) :
    ∃ b, indexAddrD (.slice 3) v (i64 i) = some (ptr b (i * 3)) ∧ ldD (.agg 3) (ptr b (i * 3)) h = some q.agg := by
  have hil : i < l.length := (List.getElem?_eq_some_iff.1 hi).1
  have hq : l[i] = q := (List.getElem?_eq_some_iff.1 hi).2
  obtain ⟨h0, ⟨rfl, h1, rfl⟩ | ⟨b, cp, all, rfl, rfl, hb, hc, h2, h3, h4⟩⟩ := c
  · omega
  have hall : l.length * 3 ≤ all.length := Nat.le_trans (Nat.mul_le_mul_right _ hc) h3
  have b1 : (0 : Int) ≤ (i : Int) ∧ (i : Int) < (l.length : Nat) := by omega
  refine ⟨b, by simp only [indexAddrD, if_pos b1, Int.toNat_natCast, Nat.zero_add], ?_⟩
  have hrow : (all.drop (i * 3)).take 3 = q.cells := by
    have e := fm_drop Pr.cells 3 prc_len l i
    rw [List.drop_eq_getElem_cons hil, List.flatMap_cons, hq, ← h4, List.drop_take] at e
    have e2 := congrArg (List.take 3) e
    rw [List.take_take, Nat.min_eq_left (by omega)] at e2
    rw [e2]
    rfl
  rw [ld_agg, rdN_of h2, if_pos (by omega), hrow]
  rfl

/-- **The document's Eq.** -/
theorem doc_Eq {s1 s2 : SpM} (c1 : Sp h fa p s1) (c2 : Sp h fb q s2) (hkd : s1.kind = s2.kind) (z1 : s1.pairs.length + s1.items.length + s1.lost.length ≤ 1000000) :
    cl (Go.Abs.F.estafetteref8_Space_Eq E) [p, q] h fun r h' => h' = h ∧ ∃ x : Bool, r = .bool x ∧ (x = true ↔ (s1.pairs = s2.pairs ∧ s1.items = s2.items ∧ s1.lost = s2.lost ∧ (s1.kind = 2 → s1.next = s2.next))) := by
  refine cl_of ?_
  obtain ⟨b, fP, fI, fL, vP, vI, vL, rfl, rfl, c⟩ := c1
  obtain ⟨b', fP', fI', fL', vP', vI', vL', rfl, rfl, c'⟩ := c2
  have lP := Sl.len c.pairs
  have lI := Sl.len c.items
  have lL := Sl.len c.lost
  have lP' := Sl.len c'.pairs
  have lI' := Sl.len c'.items
  have lL' := Sl.len c'.lost
  rw [hkd]
  have no : ¬ (s1.pairs = s2.pairs ∧ s1.items = s2.items ∧ s1.lost = s2.lost ∧ (s2.kind = 2 → s1.next = s2.next)) → (True ∧ ∃ x : Bool, Value.bool false = .bool x ∧ (x = true ↔ (s1.pairs = s2.pairs ∧ s1.items = s2.items ∧ s1.lost = s2.lost ∧ (s2.kind = 2 → s1.next = s2.next)))) :=
    fun hn => ⟨trivial, false, rfl, by simp [hn]⟩
  have gff : ∀ x, gdV (.bool false) false x = x := fun _ => rfl
  have pff : ∀ x y : V, pickV (.bool false) x y = some y := fun _ _ => rfl
  simp only [Go.Abs.F.estafetteref8_Space_Eq]
  simp only [aNil_ptr, kv_some, fieldAddr_ptr, ld_one, Nat.zero_add, rd_of c.cell, rd_of c'.cell, List.getElem?_cons_zero, List.getElem?_cons_succ, hkd, bin_neq, bne_self_eq_false, gff, lP, lP', pff]
  by_cases hp : s1.pairs.length = s2.pairs.length
  · have e1 : ((s1.pairs.length : Int) != (s2.pairs.length : Int)) = false := by simp [hp]
    simp only [e1, gff, pff, kv_some, aNil_ptr, fieldAddr_ptr, ld_one, Nat.zero_add, rd_of c.cell, rd_of c'.cell, List.getElem?_cons_zero, List.getElem?_cons_succ, lI, lI', bin_neq]
    by_cases hi : s1.items.length = s2.items.length
    · have e2 : ((s1.items.length : Int) != (s2.items.length : Int)) = false := by simp [hi]
      simp only [e2, gff, pff, kv_some, aNil_ptr, fieldAddr_ptr, ld_one, Nat.zero_add, rd_of c.cell, rd_of c'.cell, List.getElem?_cons_zero, List.getElem?_cons_succ, lL, lL', bin_neq]
      by_cases hl : s1.lost.length = s2.lost.length
      · have e3 : ((s1.lost.length : Int) != (s2.lost.length : Int)) = false := by simp [hl]
        simp only [e3, gff, pff, kv_some, aNil_ptr, fieldAddr_ptr, ld_one, Nat.zero_add, rd_of c.cell, rd_of c'.cell, List.getElem?_cons_zero, List.getElem?_cons_succ, bin_eql, hkd]
        have nx : ∀ X : V → Prop, X (.bool (decide (s2.kind = 2 ∧ s1.next ≠ s2.next))) →
            (kv (gdV (.bool (s2.kind == 2)) true (some (ptr b 0))) fun v63 => kv (gdV (.bool (s2.kind == 2)) true (aNil v63)) fun v64 => kv (gdV (.bool (s2.kind == 2)) true (fieldAddrD (some 6) v64)) fun v65 => kv (gdV (.bool (s2.kind == 2)) true (ldD .one v65 h)) fun v66 =>
              kv (gdV (.bool (s2.kind == 2)) true (some (ptr b' 0))) fun v67 => kv (gdV (.bool (s2.kind == 2)) true (aNil v67)) fun v68 => kv (gdV (.bool (s2.kind == 2)) true (fieldAddrD (some 6) v68)) fun v69 => kv (gdV (.bool (s2.kind == 2)) true (ldD .one v69 h)) fun v70 =>
              kv (gdV (.bool (s2.kind == 2)) true (binD .bad .neq false v66 v70 h)) fun v71 => kv (pickV (.bool (s2.kind == 2)) v71 (.bool false)) X) := by
          intro X hX
          by_cases h2 : s2.kind = 2
          · have e4 : (s2.kind == 2) = true := by simpa using h2
            simp only [e4, gdV_bool, if_true, kv_some, aNil_ptr, fieldAddr_ptr, ld_one, Nat.zero_add, rd_of c.cell, rd_of c'.cell, List.getElem?_cons_zero, List.getElem?_cons_succ, bin_neq, pickV_bool]
            have : (s1.next != s2.next) = decide (s2.kind = 2 ∧ s1.next ≠ s2.next) := by
              by_cases hh : s1.next = s2.next <;> simp [hh, h2]
            rw [this]
            exact hX
          · have e4 : (s2.kind == 2) = false := by simpa using h2
            have : decide (s2.kind = 2 ∧ s1.next ≠ s2.next) = false := by simp [h2]
            rw [this] at hX
            simpa only [e4, gdV_bool, gdV_gone, Bool.false_eq_true, if_false, kv_some, pickV_bool] using hX
        refine nx _ ?_
        simp only [ifV_bool, kv_some]
        by_cases hnx : s2.kind = 2 ∧ s1.next ≠ s2.next
        · rw [decide_eq_true hnx]
          simp only [if_true]
          exact no fun hh => hnx.2 (hh.2.2.2 hnx.1)
        · rw [decide_eq_false hnx]
          simp only [Bool.false_eq_true, if_false]
          have hnx' : s2.kind = 2 → s1.next = s2.next := fun hk => by
            by_cases hh : s1.next = s2.next
            · exact hh
            · exact absurd ⟨hk, hh⟩ hnx
          -- the pairs
          refine ⟨fun m vs h' => ∃ i : Nat, i ≤ s1.pairs.length ∧ m = s1.pairs.length - i ∧ vs = [i64 i] ∧ h' = h ∧ s1.pairs.take i = s2.pairs.take i, s1.pairs.length, ⟨0, by omega, by omega, rfl, rfl, by simp⟩, ?_⟩
          rintro m e h1 ⟨i, hi1, rfl, he, e1', ht⟩
          rw [e1']
          simp only [List.cons.injEq, and_true] at he
          simp only [he, aNil_ptr, kv_some, fieldAddr_ptr, ld_one, Nat.zero_add, rd_of c.cell, rd_of c'.cell, List.getElem?_cons_zero, List.getElem?_cons_succ, lP, bin_lss, ifV_bool]
          by_cases hx : i < s1.pairs.length
          · have hx' : (i : Int) < (s1.pairs.length : Nat) := by omega
            have hxb : i < s2.pairs.length := by omega
            obtain ⟨b1, x1, x2⟩ := Prs.agg c.pairs (i := i) (q := s1.pairs[i]) (by simp [hx])
            obtain ⟨b2, y1, y2⟩ := Prs.agg c'.pairs (i := i) (q := s2.pairs[i]) (by simp [hxb])
            obtain ⟨cc, hc1, hc2⟩ := pr_cmp (h := h) s1.pairs[i] s2.pairs[i] false
            simp only [hx', decide_true, if_true, x1, x2, y1, y2, kv_some]
            rw [hc1, kv_some]
            simp only [ifV_bool]
            cases cc with
            | true =>
              simp only [if_true]
              refine no fun hh => ?_
              have : s1.pairs[i] = s2.pairs[i] := by simp only [hh.1]
              have := hc2.2 this
              cases this
            | false =>
              simp only [Bool.false_eq_true, if_false]
              rw [add_i64 _ 1 (by omega) (by omega), kv_some]
              exact ⟨s1.pairs.length - (i + 1), by omega, i + 1, by omega, rfl, by simp, trivial, take_eq hp hx ht (hc2.1 rfl)⟩
          · have hx' : ¬ (i : Int) < (s1.pairs.length : Nat) := by omega
            simp only [hx', decide_false, Bool.false_eq_true, if_false]
            rw [List.take_of_length_le (by omega), List.take_of_length_le (by omega)] at ht
            have hpairs := ht
            clear ht
            -- the items
            refine ⟨fun m vs h' => ∃ i : Nat, i ≤ s1.items.length ∧ m = s1.items.length - i ∧ vs = [i64 i] ∧ h' = h ∧ s1.items.take i = s2.items.take i, s1.items.length, ⟨0, by omega, by omega, rfl, rfl, by simp⟩, ?_⟩
            rintro m e2 h2 ⟨i, hi2, rfl, he2, e2', ht⟩
            rw [e2']
            simp only [List.cons.injEq, and_true] at he2
            simp only [he2, aNil_ptr, kv_some, fieldAddr_ptr, ld_one, Nat.zero_add, rd_of c.cell, rd_of c'.cell, List.getElem?_cons_zero, List.getElem?_cons_succ, lI, bin_lss, ifV_bool]
            by_cases hx : i < s1.items.length
            · have hx' : (i : Int) < (s1.items.length : Nat) := by omega
              have hxb : i < s2.items.length := by omega
              obtain ⟨b1, x1, _, x2, _⟩ := Ms.at c.items (i := i) (m := s1.items[i]) (by simp [hx])
              obtain ⟨b2, y1, _, y2, _⟩ := Ms.at c'.items (i := i) (m := s2.items[i]) (by simp [hxb])
              obtain ⟨cc, hc1, hc2⟩ := msg_cmp (h := h) s1.items[i] s2.items[i] false
              simp only [hx', decide_true, if_true, x1, x2, y1, y2, kv_some]
              rw [hc1, kv_some]
              simp only [ifV_bool]
              cases cc with
              | true =>
                simp only [if_true]
                refine no fun hh => ?_
                have : s1.items[i] = s2.items[i] := by simp only [hh.2.1]
                have := hc2.2 this
                cases this
              | false =>
                simp only [Bool.false_eq_true, if_false]
                rw [add_i64 _ 1 (by omega) (by omega), kv_some]
                exact ⟨s1.items.length - (i + 1), by omega, i + 1, by omega, rfl, by simp, trivial, take_eq hi hx ht (hc2.1 rfl)⟩
            · have hx' : ¬ (i : Int) < (s1.items.length : Nat) := by omega
              simp only [hx', decide_false, Bool.false_eq_true, if_false]
              rw [List.take_of_length_le (by omega), List.take_of_length_le (by omega)] at ht
              have hitems := ht
              clear ht
              -- what is lost
              refine ⟨fun m vs h' => ∃ i : Nat, i ≤ s1.lost.length ∧ m = s1.lost.length - i ∧ vs = [i64 i] ∧ h' = h ∧ s1.lost.take i = s2.lost.take i, s1.lost.length, ⟨0, by omega, by omega, rfl, rfl, by simp⟩, ?_⟩
              rintro m e3 h3 ⟨i, hi3, rfl, he3, e3', ht⟩
              rw [e3']
              simp only [List.cons.injEq, and_true] at he3
              simp only [he3, aNil_ptr, kv_some, fieldAddr_ptr, ld_one, Nat.zero_add, rd_of c.cell, rd_of c'.cell, List.getElem?_cons_zero, List.getElem?_cons_succ, lL, bin_lss, ifV_bool]
              by_cases hx : i < s1.lost.length
              · have hx' : (i : Int) < (s1.lost.length : Nat) := by omega
                have hxb : i < s2.lost.length := by omega
                obtain ⟨b1, x1, _, x2, _⟩ := Ms.at c.lost (i := i) (m := s1.lost[i]) (by simp [hx])
                obtain ⟨b2, y1, _, y2, _⟩ := Ms.at c'.lost (i := i) (m := s2.lost[i]) (by simp [hxb])
                obtain ⟨cc, hc1, hc2⟩ := msg_cmp (h := h) s1.lost[i] s2.lost[i] false
                simp only [hx', decide_true, if_true, x1, x2, y1, y2, kv_some]
                rw [hc1, kv_some]
                simp only [ifV_bool]
                cases cc with
                | true =>
                  simp only [if_true]
                  refine no fun hh => ?_
                  have : s1.lost[i] = s2.lost[i] := by simp only [hh.2.2.1]
                  have := hc2.2 this
                  cases this
                | false =>
                  simp only [Bool.false_eq_true, if_false]
                  rw [add_i64 _ 1 (by omega) (by omega), kv_some]
                  exact ⟨s1.lost.length - (i + 1), by omega, i + 1, by omega, rfl, by simp, trivial, take_eq hl hx ht (hc2.1 rfl)⟩
              · have hx' : ¬ (i : Int) < (s1.lost.length : Nat) := by omega
                simp only [hx', decide_false, Bool.false_eq_true, if_false]
                rw [List.take_of_length_le (by omega), List.take_of_length_le (by omega)] at ht
                exact ⟨trivial, true, rfl, by simp only [true_iff]; exact ⟨hpairs, hitems, ht, hnx'⟩⟩
      · have e3 : ((s1.lost.length : Int) != (s2.lost.length : Int)) = true := by simp; omega
        simp only [e3, gdV_bool, gdV_gone, Bool.true_eq_false, if_false, if_true, kv_some, pickV_bool, ifV_bool]
        exact no fun hh => hl (by rw [hh.2.2.1])
    · have e2 : ((s1.items.length : Int) != (s2.items.length : Int)) = true := by simp; omega
      simp only [e2, gdV_bool, gdV_gone, Bool.true_eq_false, if_false, if_true, kv_some, pickV_bool, ifV_bool]
      exact no fun hh => hi (by rw [hh.2.1])
  · have e1 : ((s1.pairs.length : Int) != (s2.pairs.length : Int)) = true := by simp; omega
    simp only [e1, gdV_bool, gdV_gone, Bool.true_eq_false, if_false, if_true, kv_some, pickV_bool, ifV_bool]
    exact no fun hh => hp (by rw [hh.1])

end Go.Abs

set_option linter.unusedSimpArgs false
set_option linter.unusedVariables false
namespace Go.Abs
open Go Go.Proofs
variable {E E1 : FE} {h h' : AHeap} {p w : V} {fa fb fp fq : List Nat} {k : Nat} {g : List En} {ps : List Pr} {l : List ByteArray} {s : SpM}

theorem TG.sorted {f : Pr → V} (t : TG f g ps) (hn : (keysE g).Nodup) : keysT g = ps.map (·.key) := by
  have e : (g.map ME).map (fun e => keyB e.key) = (keysE g).map kl := by
    rw [keysE, List.map_map, List.map_map]
    rfl
  have hs : srtK (g.map ME) = ps.map fun p => kl p.key := by
    unfold srtK
    rw [e]
    have tr : ∀ a b c : List UInt8, decide (a ≤ b) = true → decide (b ≤ c) = true → decide (a ≤ c) = true := fun a b c h1 h2 => by simp only [decide_eq_true_eq] at *; exact List.le_trans h1 h2
    have to : ∀ a b : List UInt8, (decide (a ≤ b) || decide (b ≤ a)) = true := fun a b => by simp only [Bool.or_eq_true, decide_eq_true_eq]; exact List.le_total a b
    refine List.Perm.eq_of_pairwise (le := fun a b => decide (a ≤ b) = true) (fun a b _ _ h1 h2 => ?_) (List.pairwise_mergeSort tr to _) ?_ ((List.mergeSort_perm _ _).trans ?_)
    · simp only [decide_eq_true_eq] at h1 h2
      exact List.le_antisymm h1 h2
    · refine List.pairwise_map.2 (t.rise.imp fun {a b} hab => ?_)
      simp only [decide_eq_true_eq]
      exact List.le_of_lt hab
    · have := (t.perm hn).map kl
      rw [List.map_map] at this
      exact this
  unfold keysT
  rw [hs, List.map_map]
  refine List.map_congr_left fun q _ => ?_
  obtain ⟨⟨⟨kk⟩⟩, v, a⟩ := q
  rfl

theorem law_sameTopic (t : To h fp p l g) (c : Sp h fq w s) (tg : TG (fun q => i64 q.at_) g s.pairs) (hn : (keysE g).Nodup) (hil : s.items.length = l.length) (hs : ∀ e ∈ g, e.k.size ≤ maxLen) (hl : g.length ≤ 1000) (hll : l.length ≤ 1000000) :
    cl (Go.Abs.F.estafettelaw8_sameTopic E) [p, w] h fun r h' => r = .bool true ∧ Mod h [] h' [] := by
  have hlen := tg.len hn
  refine cl_of ?_
  simp only [Go.Abs.F.estafettelaw8_sameTopic]
  refine cl_then (topic_Groups t hs hl) ?_
  rintro r h1 ⟨f1, k1, m1⟩
  have m1' : Mod h [] h1 [] := m1.nil
  have t1 : To h1 fp p l g := t.same m1.next fun x hx => m1.same x (t.lt x hx) (by simp)
  have c1 : Sp h1 fq w s := c.same m1.next fun x hx => m1.same x (c.lt x hx) (by simp)
  rw [tg.sorted hn] at k1
  clear t c
  obtain ⟨b, fP, fI, fL, vP, vI, vL, rfl, rfl, c1⟩ := c1
  have lI := Sl.len c1.items
  have lP := Sl.len c1.pairs
  have lK := Sl.len k1
  rw [List.length_map] at lK
  simp only [aNil_ptr, kv_some, fieldAddr_ptr, ld_one, Nat.zero_add, rd_of c1.cell, List.getElem?_cons_succ, List.getElem?_cons_zero, lI]
  refine cl_then (topic_Len t1) ?_
  rintro r2 h2 ⟨eh, rfl⟩
  rw [eh]
  have e1 : ((l.length : Int) != (s.items.length : Int)) = false := by simp [hil]
  simp only [rd_of c1.cell, List.getElem?_cons_succ, List.getElem?_cons_zero, true_and, bin_neq, e1, kv_some, gdV_bool, if_true, lK, aNil_ptr, fieldAddr_ptr, ld_one, Nat.zero_add, lP, bne_self_eq_false, pickV_bool, Bool.false_eq_true, if_false, ifV_bool]
  have hget := fun k => topic_At (E := E) t1 k
  have hv := t1.vals
  refine ⟨fun n vs h' => ∃ i : Nat, i ≤ s.pairs.length ∧ n = s.pairs.length - i ∧ vs = [i64 i] ∧ h' = h1, s.pairs.length, ⟨0, by omega, by omega, rfl, rfl⟩, ?_⟩
  rintro n e h3 ⟨i, hi, rfl, he, e3⟩
  simp only [List.cons.injEq, and_true] at he
  rw [e3]
  simp only [he, lK, kv_some, bin_lss, ifV_bool]
  by_cases hx : i < s.pairs.length
  · have hx' : (i : Int) < (s.pairs.length : Nat) := by omega
    obtain ⟨q, hq⟩ : ∃ q, s.pairs[i]? = some q := ⟨s.pairs[i], by simp [hx]⟩
    obtain ⟨bk, o, i1, i3⟩ := k1.rdt.2 i q.key (by rw [List.getElem?_map, hq]; rfl)
    obtain ⟨bp, _, j1, j2, _, j3⟩ := Prs.at c1.pairs hq
    have hh : hitP q.key s.pairs = some q := hit_of tg.rise (List.mem_of_getElem? hq)
    simp only [hx', decide_true, if_true, i1, kv_some, ld_one, i3, aNil_ptr, fieldAddr_ptr, Nat.zero_add, rd_of c1.cell, List.getElem?_cons_succ, List.getElem?_cons_zero, j1, Nat.add_zero, j2, str_neq, Bool.not_true, gdV_bool, j3]
    refine gdC_yes rfl (cl_then (hget q.key) ?_)
    rintro r4 h4 ⟨e4, rfl⟩
    rw [e4, atE_eq hv]
    have ea : atN q.key g = q.at_ := by
      unfold atN
      rw [tg.same, hh]
      rfl
    simp only [rd_of c1.cell, List.getElem?_cons_succ, List.getElem?_cons_zero, true_and, gdV_bool, if_true, j3, ld_one, ea, bin_neq, bne_self_eq_false, kv_some, pickV_bool, Bool.false_eq_true, if_false, ifV_bool]
    rw [add_i64 _ 1 (by omega) (by omega), kv_some]
    exact ⟨s.pairs.length - (i + 1), by omega, i + 1, by omega, rfl, by simp, trivial⟩
  · have hx' : ¬ (i : Int) < (s.pairs.length : Nat) := by omega
    simp only [hx', decide_false, Bool.false_eq_true, if_false]
    exact m1'

/-- vals(). -/
theorem law_vals {v : V} {ms : List Msg} {f : List Nat} (t : Ms h f v ms) (hsz : ms.length ≤ 1000000) : cl (Go.Abs.F.estafettelaw8_vals E) [v] h fun r h' => ∃ fp', Ts h' fp' r (ms.map (·.val)) ∧ Mod h [] h' fp' := by
  refine cl_of ?_
  simp only [Go.Abs.F.estafettelaw8_vals]
  refine ⟨fun m vs h' => ∃ (x : V) (i : Nat) (f1 : List Nat), vs = [x, i64 i] ∧ i ≤ ms.length ∧ m = ms.length - i ∧ Ts h' f1 x ((ms.map (·.val)).take i) ∧ Mod h [] h' f1, ms.length, ⟨.slice none 0 0, 0, [], rfl, by omega, by omega, by simpa [Ts] using (Sl.nil : Sl h [] (.slice none 0 0) 1 0 []), Mod.refl (by simp)⟩, ?_⟩
  rintro m e h1 ⟨x, i, f1, he, hi, rfl, t1, m1⟩
  simp only [List.cons.injEq, and_true] at he
  obtain ⟨e1, e2⟩ := he
  have u1 : Ms h1 f v ms := t.same m1.next fun y hy => m1.same y (t.lt y hy) (by simp)
  have lM := Sl.len u1
  simp only [e1, e2, lM, kv_some, bin_lss, ifV_bool]
  by_cases hx : i < ms.length
  · have hx' : (i : Int) < (ms.length : Nat) := by omega
    obtain ⟨b1, x1, _, _, _, x2, _⟩ := Ms.at u1 (i := i) (m := ms[i]) (by simp [hx])
    obtain ⟨v', h2, f2, p1, p2, p3, p4⟩ := t1.push ms[i].val (by simp; omega)
    simp only [hx', decide_true, if_true, x1, kv_some, fieldAddr_ptr, ld_one, x2]
    rw [p1, kP_some, p2, kP_some, add_i64 _ 1 (by omega) (by omega), kv_some]
    refine ⟨ms.length - (i + 1), by omega, v', i + 1, f2, by simp, by omega, rfl, ?_, m1.trans p4⟩
    have : (ms.map (·.val)).take (i + 1) = (ms.map (·.val)).take i ++ [ms[i].val] := by
      rw [List.take_succ_eq_append_getElem (by simpa using hx)]
      simp
    rw [this]
    exact p3
  · have hx' : ¬ (i : Int) < (ms.length : Nat) := by omega
    simp only [hx', decide_false, Bool.false_eq_true, if_false]
    rw [List.take_of_length_le (by simp; omega)] at t1
    exact ⟨f1, t1, m1⟩

def noGroup : ByteArray := ⟨#[110, 111, 32, 103, 114, 111, 117, 112, 32, 104, 97, 115, 32, 97, 32, 110, 97, 109, 101, 32, 111, 102, 32, 115, 111, 32, 109, 97, 110, 121, 32, 108, 101, 116, 116, 101, 114, 115, 32, 97, 115, 32, 116, 104, 105, 115, 32, 111, 110, 101]⟩

/-- **A space tells what the document's does.** -/
theorem law_Same {S : SpSt} (a : SpS h fa p S) (c : Sp h fb w s) (R : RelS S s) (hi : SI k S) (hk : k ≤ 1000) (h30 : ∀ l g, S = .to l g → ∀ e ∈ g, e.k.size ≤ 30) :
    cl (Go.Abs.F.estafettelaw8_Same E) [p, w] h fun r h' => r = .bool true ∧ Mod h [] h' [] := by
  obtain ⟨pt, a⟩ := a
  obtain ⟨b, f, rfl, rfl, hg, hA, up⟩ := a.open
  have c0 := c
  obtain ⟨b', fP, fI, fL, vP, vI, vL, rfl, rfl, cc⟩ := c
  refine cl_of ?_
  simp only [Go.Abs.F.estafettelaw8_Same]
  cases S with
  | tab g =>
    obtain ⟨hkd, tg, hn, hit, hlo, _⟩ := R
    have hg' : h.get b = some (.cells (cTab pt) 4 .rw) := hg
    simp only [ptr_eq_nil, kv_some, gdV_bool, if_true, aNil_ptr, fieldAddr_ptr, ld_one, Nat.zero_add, rd_of hg', rd_of cc.cell, List.getElem?_cons_zero, List.getElem?_cons_succ, hkd, bin_neq, bne_self_eq_false, pickV_bool, Bool.false_eq_true, if_false, ifV_bool, bin_eql, beq_self_eq_true]
    have hlen := tg.len hn
    refine cl_then (law_sameTable hA c0 ⟨tg.rise, tg.same⟩ (fun q hq => ?_) (by have := hi.2.2; omega)) ?_
    · have : q.key ∈ keysE g := (tg.perm hn).mem_iff.2 (List.mem_map.2 ⟨q, hq, rfl⟩)
      obtain ⟨e, he, hek⟩ := List.mem_map.1 this
      rw [← hek]
      exact hi.2.1 e he
    · rintro r h1 ⟨rfl, m⟩
      exact ⟨rfl, m⟩
  | qu x n i l =>
    obtain ⟨hkd, hpr, hmo, hne, hit, hlo⟩ := R
    subst hmo hne hit hlo
    have hlen := QI.len hi
    have hg' : h.get b = some (.cells (cQu pt) 4 .rw) := hg
    simp only [ptr_eq_nil, kv_some, gdV_bool, if_true, aNil_ptr, fieldAddr_ptr, ld_one, Nat.zero_add, rd_of hg', rd_of cc.cell, List.getElem?_cons_zero, List.getElem?_cons_succ, hkd, bin_neq, bne_self_eq_false, pickV_bool, Bool.false_eq_true, if_false, ifV_bool, bin_eql, beq_self_eq_true, show ((2 : Int) == 1) = false from rfl]
    refine cl_then (queue_Items hA (by omega)) ?_
    rintro r h1 ⟨f1, t1, m1⟩
    have c1 : SpC h1 b' fP fI fL vP vI vL s := cc.same m1.next fun y hy => m1.same y (cc.lt y hy) (by simp)
    have hA1 : Qu h1 f pt s.most s.next s.items s.lost := Qu.same hA m1.next fun y hy => m1.same y (Qu.lt hA y hy) (by simp)
    have hg1 : h1.get b = some (.cells (cQu pt) 4 .rw) := by rw [m1.same b (a.lt b (by simp)) (by simp), hg']
    simp only [rd_of c1.cell, List.getElem?_cons_zero, List.getElem?_cons_succ, true_and]
    refine cl_then (law_msgs t1 c1.items (by omega)) ?_
    rintro r h2 ⟨rfl, e2⟩
    rw [e2]
    simp only [gdV_bool, if_true, kv_some, aNil_ptr, fieldAddr_ptr, ld_one, Nat.zero_add, rd_of hg1, rd_of c1.cell, List.getElem?_cons_zero, List.getElem?_cons_succ]
    refine gdC_yes rfl (cl_then (queue_Lost hA1 (by omega)) ?_)
    rintro r h3 ⟨f3, t3, m3⟩
    have c3 : SpC h3 b' fP fI fL vP vI vL s := c1.same m3.next fun y hy => m3.same y (c1.lt y hy) (by simp)
    have hA3 : Qu h3 f pt s.most s.next s.items s.lost := Qu.same hA1 m3.next fun y hy => m3.same y (Qu.lt hA1 y hy) (by simp)
    have hb1 : b < h1.next := Nat.lt_of_lt_of_le (a.lt b (by simp)) m1.next
    have hg3 : h3.get b = some (.cells (cQu pt) 4 .rw) := by rw [m3.same b hb1 (by simp), hg1]
    simp only [gdV_bool, if_true, ld_one, rd_of c3.cell, List.getElem?_cons_zero, List.getElem?_cons_succ, true_and]
    refine gdC_yes rfl (cl_then (law_msgs t3 c3.lost (by omega)) ?_)
    rintro r h4 ⟨rfl, e4⟩
    rw [e4]
    simp only [pickV_bool, gdV_bool, if_true, kv_some, aNil_ptr, fieldAddr_ptr, ld_one, Nat.zero_add, rd_of hg3, rd_of c3.cell, List.getElem?_cons_zero, List.getElem?_cons_succ]
    refine gdC_yes rfl (cl_then (queue_Next hA3) ?_)
    rintro r h5 ⟨e5, rfl⟩
    rw [e5]
    simp only [gdV_bool, if_true, ld_one, rd_of c3.cell, List.getElem?_cons_zero, List.getElem?_cons_succ, true_and, bin_eql, beq_self_eq_true, kv_some, pickV_bool]
    exact m1.nil.trans m3.nil
  | to l g =>
    obtain ⟨hkd, tg, hn, hit, hlo, _⟩ := R
    have h64 := hi.1
    have hil : s.items.length = l.length := by rw [hit]; simp
    have hg' : h.get b = some (.cells (cTo pt) 4 .rw) := hg
    simp only [ptr_eq_nil, kv_some, gdV_bool, if_true, aNil_ptr, fieldAddr_ptr, ld_one, Nat.zero_add, rd_of hg', rd_of cc.cell, List.getElem?_cons_zero, List.getElem?_cons_succ, hkd, bin_neq, bne_self_eq_false, pickV_bool, Bool.false_eq_true, if_false, ifV_bool, bin_eql, beq_self_eq_true, show ((3 : Int) == 1) = false from rfl, show ((3 : Int) == 2) = false from rfl]
    refine cl_then (law_sameTopic hA c0 tg hn hil hi.2.2.2.1 (Nat.le_trans hi.2.2.2.2 hk) (by omega)) ?_
    rintro r h1 ⟨rfl, m1⟩
    have c1 : SpC h1 b' fP fI fL vP vI vL s := cc.same m1.next fun y hy => m1.same y (cc.lt y hy) (by simp)
    have hA1 : To h1 f pt l g := To.same hA m1.next fun y hy => m1.same y (To.lt hA y hy) (by simp)
    have hg1 : h1.get b = some (.cells (cTo pt) 4 .rw) := by rw [m1.same b (a.lt b (by simp)) (by simp), hg']
    simp only [gdV_bool, if_true, kv_some, aNil_ptr, fieldAddr_ptr, ld_one, Nat.zero_add, rd_of hg1, rd_of c1.cell, List.getElem?_cons_zero, List.getElem?_cons_succ]
    have hno : atN noGroup g = 0 := by
      have : getE noGroup g = none := by
        rw [← get_none]
        intro hm
        obtain ⟨e, he, hek⟩ := List.mem_map.1 hm
        have h1 := h30 l g rfl e he
        rw [hek] at h1
        have : noGroup.size = 50 := rfl
        omega
      unfold atN
      rw [this]
    refine gdC_yes rfl (cl_then (topic_Fetch hA1 noGroup (by rw [hno]; omega) 100 (by omega)) ?_)
    rintro r h2 ⟨f2, t2, m2⟩
    have c2 : SpC h2 b' fP fI fL vP vI vL s := c1.same m2.next fun y hy => m2.same y (c1.lt y hy) (by simp)
    rw [hno] at t2
    have e100 : (l.drop (0 : Int).toNat).take (min (max 100 0) ((l.length : Int) - 0)).toNat = l := by
      simp only [Int.toNat_zero, List.drop_zero]
      rw [List.take_of_length_le (by omega)]
    rw [e100] at t2
    simp only [gdV_bool, if_true, ld_one, rd_of c2.cell, List.getElem?_cons_zero, List.getElem?_cons_succ, true_and]
    refine gdC_yes rfl (cl_then (law_vals c2.items (by omega)) ?_)
    rintro r3 h3 ⟨f3, t3, m3⟩
    rw [hit, map_val] at t3
    have t2' : Ts h3 f2 r l := t2.same m3.next fun y hy => m3.same y (t2.lt y hy) (by simp)
    refine gdC_yes rfl (cl_then (law_texts t2'.rdt t3.rdt (by omega)) ?_)
    rintro r4 h4 ⟨e4, rfl⟩
    rw [e4]
    simp only [decide_true, pickV_bool, if_true, kv_some]
    exact ⟨trivial, (m1.trans m2.nil).trans m3.nil⟩

end Go.Abs
