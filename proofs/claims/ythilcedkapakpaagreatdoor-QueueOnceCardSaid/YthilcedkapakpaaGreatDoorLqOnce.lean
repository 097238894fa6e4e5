/- QueueOnce, on abstract heaps: what was acknowledged or was dead, by its numbers. -/
import Derived.Test.YthilcedkapakpaaGreatDoorLqQueue
set_option linter.unusedSimpArgs false
set_option linter.unusedVariables false
namespace Go.Abs
open Go
variable {E E0 : FE} {h : AHeap} {X : Fr} {L : List Pl} {p pw : V} {most next : Int} {items lost : List Msg}

/-- What is gone, by its numbers: each once. -/
def goneE (ks : List Int) : List MapEntry := ks.zipIdx.map fun x => { key := i64 x.1, val := i64 1, born := x.2 }

def plGone (p : V) (ks : List Int) : Pl :=
  ⟨fun h f => ∃ b, f = [b] ∧ p = .map (some b) ∧ b < h.next ∧ h.get b = some (.map (goneE ks) ks.length), fun h f ⟨b, e, _, hb, _⟩ x hx => by subst e; simp at hx; omega,
   fun h h' f ⟨b, e, ep, hb, hg⟩ hl hs => ⟨b, e, ep, by omega, by rw [hs b (by simp [e]), hg]⟩⟩

theorem goneE_snoc (ks : List Int) (k : Int) : goneE (ks ++ [k]) = goneE ks ++ [{ key := i64 k, val := i64 1, born := ks.length }] := by
  simp [goneE, List.zipIdx_append]

theorem find_gone {k : Int} {ks : List Int} (hk : k ∉ ks) : findD .int (i64 k) (goneE ks) 0 = some none := by
  have gen : ∀ (l : List (Int × Nat)) (i : Nat), (∀ x ∈ l, x.1 ≠ k) → findD .int (i64 k) (l.map fun x => { key := i64 x.1, val := i64 1, born := x.2 }) i = some none := by
    intro l
    induction l with
    | nil => intro i _; rfl
    | cons x l ih =>
      intro i hl
      have hx : keyEqD .int (i64 k) (i64 x.1) = some false := by
        have : ¬ k = x.1 := fun e => hl x (by simp) e.symm
        simp [keyEqD, this]
      have hc : closedV (i64 x.1) = true := rfl
      simp only [List.map_cons, findD, hx, hc, if_true]
      exact ih (i + 1) fun y hy => hl y (by simp [hy])
  refine gen _ _ fun x hx e => hk ?_
  rw [← e]
  exact (List.mem_zipIdx' hx).2 ▸ List.getElem_mem _

theorem lookup_gone {p : V} {ks : List Int} (s : Sep X h (plGone p ks :: L)) {k : Int} (hk : k ∉ ks) : lookupD (some (.int, (some (.int .i64 0)))) p (i64 k) false h = some (i64 0) := by
  obtain ⟨f, ⟨b, rfl, rfl, hb, hg⟩, _⟩ := s.head
  simp only [lookupD, keyOkD, if_true, hg, find_gone hk]
  rfl

theorem update_gone {p : V} {ks : List Int} (s : Sep X h (plGone p ks :: L)) {k : Int} (hk : k ∉ ks) :
    ∃ h', mapUpdateD (some (.int, (some (.int .i64 0)))) p (i64 k) (i64 1) h = some h' ∧ Sep X h' (plGone p (ks ++ [k]) :: L) := by
  obtain ⟨f, ⟨b, rfl, rfl, hb, hg⟩, kk⟩ := s.head
  refine ⟨_, by simp only [mapUpdateD, keyOkD, if_true, hg, find_gone hk]; rfl, kk (a' := [b]) _ ⟨by simp, fun x hx hn => ?_, fun x hx => .inl hx, fun x hx => by simp at hx; simp; omega⟩ ⟨b, rfl, rfl, by simpa using hb, ?_⟩⟩
  · have : x ≠ b := by simpa using hn
    simp [this]
  · simp [goneE_snoc]

/-- A look at all of a map. -/
def plIt (b m since : Nat) (seen : Array Nat) : Pl :=
  ⟨fun h f => f = [b] ∧ b < h.next ∧ h.get b = some (.miter (some m) since seen since), fun h f ⟨e, hb, _⟩ x hx => by subst e; simp at hx; omega,
   fun h h' f ⟨e, hb, hg⟩ hl hs => ⟨e, by omega, by rw [hs b (by simp [e]), hg]⟩⟩

/-- Whoever looks at all of it finds each once. -/
theorem range_gone {p : V} {ks : List Int} (s : Sep X h (plGone p ks :: L)) {K : AHeap → Prop} {Bad : Prop}
    (hK : ∀ h', Sep X h' (plGone p ks :: L) → K h') :
    kP (rangeD .map p h) fun v161 h => ∃ (Inv : Nat → List V → AHeap → Prop) (n : Nat), Inv n [] h ∧ ∀ (n : Nat) (e : Nat → V) (h : AHeap), Inv n [] h →
      aNext v161 false h fun v162 h => kv (aExtract v162 0) fun v163 => ifV v163 (kV (aEntry v161 h) h fun v164 h => kv (aExtract v164 1) fun v165 => kv (binD .bad .neq true v165 (.int .i64 1) h) fun v167 => ifV v167 Bad (∃ m, m < n ∧ Inv m [] h)) (K h) := by
  obtain ⟨f, ⟨b, rfl, rfl, hb, hg⟩, kk⟩ := s.head
  have e1 : rangeD .map (.map (some b)) h = some (.pointer (some ⟨h.next, 0, none⟩), h.new (.miter (some b) ks.length #[] ks.length)) := by simp only [rangeD, hg]
  rw [e1, kP_some]
  have gE : ∀ e ∈ goneE ks, e.val = i64 1 ∧ e.born < ks.length := by
    intro e he
    simp only [goneE, List.mem_map] at he
    obtain ⟨x, hx, rfl⟩ := he
    have := List.mem_zipIdx' hx
    exact ⟨rfl, by have := this.1; simpa using this⟩
  have s1 : Sep X (h.new (.miter (some b) ks.length #[] ks.length)) (plIt h.next b ks.length #[] :: plGone (.map (some b)) ks :: L) :=
    s.alloc (a' := [h.next]) _ ⟨by simp, fun x hx _ => by have : x ≠ h.next := by omega
                                                          simp [this], by simp, by simp⟩ ⟨rfl, by simp, by simp⟩
  generalize h.new (.miter (some b) ks.length #[] ks.length) = h1 at s1
  refine ⟨fun n vs h' => ∃ seen, n = ((goneE ks).filter fun e => !seen.contains e.born).length ∧ Sep X h' (plIt h.next b ks.length seen :: plGone (.map (some b)) ks :: L), _, ⟨#[], rfl, s1⟩, ?_⟩
  rintro _ e h2 ⟨seen, rfl, s2⟩
  obtain ⟨f2, ⟨rfl, hb2, g2⟩, k2⟩ := s2.head
  obtain ⟨f3, ⟨b3, rfl, hb3, hb4, g3⟩, _⟩ := s2.h1
  obtain rfl : b = b3 := by cases hb3; rfl
  have guard : (!seen.isEmpty && !(goneE ks).isEmpty && (goneE ks).all (·.born ≥ ks.length)) = false := by
    cases hg : goneE ks with
    | nil => simp
    | cons a l =>
      have := (gE a (by simp [hg])).2
      have : ¬ a.born ≥ ks.length := by omega
      simp [this]
  have old : ∀ l : List MapEntry, (∀ e ∈ l, e.born < ks.length) → l.filter (·.born < ks.length) = l ∧ l.filter (·.born ≥ ks.length) = [] := by
    intro l hl
    refine ⟨List.filter_eq_self.2 fun e he => by simpa using hl e he, List.filter_eq_nil_iff.2 fun e he => ?_⟩
    have := hl e he
    simp; omega
  obtain ⟨o1, o2⟩ := old ((goneE ks).filter fun e => !seen.contains e.born) fun e he => (gE e ((List.mem_filter.1 he).1)).2
  simp only [aNext, g2, g3]
  refine ⟨guard, fun c hc => ?_⟩
  simp only [cands, o1, o2, List.append_nil] at hc
  rcases List.mem_append.1 hc with hc | hc
  · have hc : c = none := by
      split at hc <;> simp at hc
      exact hc
    subst hc
    simp only [extract_tuple, List.getElem?_toArray, List.getElem?_cons_zero, kv_some, ifV_bool, Bool.false_eq_true, if_false]
    exact hK _ s2.drop
  · obtain ⟨e, he, rfl⟩ := List.mem_map.1 hc
    have hes : e ∈ goneE ks := (List.mem_filter.1 he).1
    have s3 : Sep X (h2.put h.next (.miter (some b) ks.length (seen.push e.born) ks.length)) (plIt h.next b ks.length (seen.push e.born) :: plGone (.map (some b)) ks :: L) :=
      k2 (a' := [h.next]) _ ⟨by simp, fun x hx hn => by have : x ≠ h.next := by simpa using hn
                                                        simp [this], fun x hx => .inl hx, fun x hx => by simp at hx; simp; omega⟩ ⟨rfl, hb2, by simp⟩
    obtain ⟨_, ⟨_, _, g5⟩, _⟩ := s3.head
    obtain ⟨_, ⟨b5, _, hb5, _, g6⟩, _⟩ := s3.h1
    obtain rfl : b = b5 := by cases hb5; rfl
    simp only [extract_tuple, List.getElem?_toArray, List.getElem?_cons_zero, kv_some, ifV_bool, if_true]
    obtain ⟨e', hf⟩ : ∃ e', (goneE ks).find? (·.born == e.born) = some e' := by
      have : ((goneE ks).find? (·.born == e.born)).isSome := List.find?_isSome.2 ⟨e, hes, by simp⟩
      exact Option.isSome_iff_exists.1 this
    have hv := (gE e' (List.mem_of_find?_eq_some hf)).1
    simp only [aEntry, g5, g6, Array.back?_push, if_true, hf, Option.map_some, kV_some, extract_tuple, List.getElem?_toArray, List.getElem?_cons_succ, List.getElem?_cons_zero, kv_some, hv, bin_neq, bne_self_eq_false, ifV_bool, Bool.false_eq_true, if_false]
    refine ⟨_, ?_, seen.push e.born, rfl, s3⟩
    have e1 : ((goneE ks).filter fun x => !(seen.push e.born).contains x.born) = (((goneE ks).filter fun x => !seen.contains x.born).filter fun x => !(x.born == e.born)) := by
      rw [List.filter_filter]
      congr 1
      funext x
      simp only [Array.contains_push]
      cases seen.contains x.born <;> cases (x.born == e.born) <;> rfl
    rw [e1]
    refine List.length_filter_lt_length_iff_exists.2 ⟨e, he, by simp⟩

/-- Its numbers. -/
def idsM (l : List Msg) : List Int := l.map (·.id)

def upto (n : Nat) : List Int := (List.range n).map fun (i : Nat) => (i : Int) + 1

theorem upto_succ (n : Nat) : upto (n + 1) = upto n ++ [(n : Int) + 1] := by simp [upto, List.range_succ]

theorem mem_upto {n : Nat} {x : Int} : x ∈ upto n ↔ 1 ≤ x ∧ x ≤ n := by
  simp only [upto, List.mem_map, List.mem_range]
  constructor
  · rintro ⟨i, hi, rfl⟩; omega
  · intro h
    exact ⟨(x - 1).toNat, by omega, by omega⟩

theorem upto_nodup (n : Nat) : (upto n).Nodup := by
  unfold upto
  rw [List.nodup_iff_pairwise_ne, List.pairwise_map]
  exact List.nodup_range.imp fun h => by omega

/-- Each message is at one place. -/
structure OQ (m : Int) (S : Nat) (its los : List Msg) (ks : List Int) : Prop where
  m1 : 1 ≤ m ∧ m ≤ 9
  len : its.length + los.length ≤ 64
  cI : ∀ x ∈ its, 0 ≤ x.count ∧ x.count ≤ m
  cL : ∀ x ∈ los, x.count ≤ m
  perm : (idsM its ++ (idsM los ++ ks)).Perm (upto S)

variable {m : Int} {S : Nat} {its los : List Msg} {ks : List Int}

theorem OQ.nodup (w : OQ m S its los ks) : (idsM its ++ (idsM los ++ ks)).Nodup := (w.perm.nodup_iff).2 (upto_nodup S)

theorem OQ.total (w : OQ m S its los ks) : its.length + (los.length + ks.length) = S := by
  have := w.perm.length_eq
  simpa [idsM, upto] using this

theorem OQ.ofIts (w : OQ m S its los ks) {x : Msg} (hx : x ∈ its) : 1 ≤ x.id ∧ x.id ≤ S ∧ x.id ∉ ks ∧ x.count ≤ m := by
  have h1 : x.id ∈ idsM its := List.mem_map.2 ⟨x, hx, rfl⟩
  have h2 := mem_upto.1 (w.perm.mem_iff.1 (List.mem_append_left _ h1))
  have h3 := w.nodup
  rw [List.nodup_append] at h3
  exact ⟨h2.1, h2.2, fun hk => h3.2.2 _ h1 _ (by simp [hk]) rfl, (w.cI x hx).2⟩

theorem OQ.ofLos (w : OQ m S its los ks) {x : Msg} (hx : x ∈ los) : 1 ≤ x.id ∧ x.id ≤ S ∧ x.id ∉ ks ∧ x.count ≤ m := by
  have h1 : x.id ∈ idsM los := List.mem_map.2 ⟨x, hx, rfl⟩
  have h2 := mem_upto.1 (w.perm.mem_iff.1 (List.mem_append_right _ (List.mem_append_left _ h1)))
  have h3 := w.nodup
  rw [List.nodup_append, List.nodup_append] at h3
  exact ⟨h2.1, h2.2, fun hk => h3.2.1.2.2 _ h1 _ hk rfl, w.cL x hx⟩

theorem OQ.send (w : OQ m S its los ks) (x : ByteArray) (hl : its.length + los.length < 64) : OQ m (S + 1) (its ++ [⟨(S : Int) + 1, x, 0, 0⟩]) los ks := by
  refine ⟨w.m1, by simp; omega, fun y hy => ?_, w.cL, ?_⟩
  · simp only [List.mem_append, List.mem_singleton] at hy
    rcases hy with hy | rfl
    · exact w.cI y hy
    · have := w.m1; simp only; omega
  · rw [upto_succ]
    have e : idsM (its ++ [⟨(S : Int) + 1, x, 0, 0⟩]) = idsM its ++ [(S : Int) + 1] := by simp [idsM]
    rw [e, List.append_assoc]
    refine (List.Perm.trans ?_ (w.perm.append_right [(S : Int) + 1]))
    rw [List.append_assoc]
    exact List.Perm.append_left _ List.perm_append_comm

theorem recvL_ids (m now ticks : Int) : ∀ l : List Msg, (idsM (recvL m now ticks l).1 ++ idsM (recvL m now ticks l).2.1).Perm (idsM l)
  | [] => by simp [recvL, idsM]
  | a :: l => by
    have ih := recvL_ids m now ticks l
    simp only [recvL]
    split
    · simp only [idsM, List.map_cons, List.cons_append]
      exact ih.cons _
    · split
      · simp only [idsM, List.map_cons]
        exact List.perm_middle.trans (ih.cons _)
      · simp [idsM]

theorem recvL_cnt {m now ticks : Int} : ∀ l : List Msg, (∀ x ∈ l, 0 ≤ x.count ∧ x.count ≤ m) → (∀ x ∈ (recvL m now ticks l).1, 0 ≤ x.count ∧ x.count ≤ m) ∧ ∀ x ∈ (recvL m now ticks l).2.1, x.count ≤ m
  | [], _ => by simp [recvL]
  | a :: l, hl => by
    have ih := recvL_cnt (now := now) (ticks := ticks) l fun x hx => hl x (by simp [hx])
    have ha := hl a (by simp)
    simp only [recvL]
    split
    · refine ⟨fun x hx => ?_, ih.2⟩
      rcases List.mem_cons.1 hx with rfl | hx
      · exact ha
      · exact ih.1 x hx
    · split
      · refine ⟨ih.1, fun x hx => ?_⟩
        rcases List.mem_cons.1 hx with rfl | hx
        · exact ha.2
        · exact ih.2 x hx
      · rename_i hc
        refine ⟨fun x hx => ?_, by simp⟩
        rcases List.mem_cons.1 hx with rfl | hx
        · simp only; omega
        · exact hl x (by simp [hx])

theorem OQ.recv (w : OQ m S its los ks) (now ticks : Int) : OQ m S (recvL m now ticks its).1 (los ++ (recvL m now ticks its).2.1) ks := by
  have hl := recvL_len m now ticks its
  have hc := recvL_cnt (now := now) (ticks := ticks) its w.cI
  refine ⟨w.m1, by have := w.len; simp; omega, hc.1, fun x hx => ?_, ?_⟩
  · rcases List.mem_append.1 hx with hx | hx
    · exact w.cL x hx
    · exact hc.2 x hx
  · refine List.Perm.trans ?_ w.perm
    have e : idsM (los ++ (recvL m now ticks its).2.1) = idsM los ++ idsM (recvL m now ticks its).2.1 := by simp [idsM]
    rw [e]
    have hp := List.perm_iff_count.1 (recvL_ids m now ticks its)
    rw [List.perm_iff_count]
    intro a
    have := hp a
    simp only [List.count_append] at this ⊢
    omega

theorem OQ.ack (w : OQ m S its los ks) {j : Nat} (hj : j < its.length) : OQ m S (its.eraseIdx j) los (ks ++ [its[j].id]) := by
  refine ⟨w.m1, by have := w.len; have := List.length_eraseIdx_le its j; omega, fun x hx => w.cI x (List.mem_of_mem_eraseIdx hx), w.cL, ?_⟩
  refine List.Perm.trans ?_ w.perm
  have e : its = its.take j ++ its[j] :: its.drop (j + 1) := by rw [← List.drop_eq_getElem_cons hj, List.take_append_drop]
  have e1 : idsM (its.eraseIdx j) = idsM (its.take j) ++ idsM (its.drop (j + 1)) := by rw [List.eraseIdx_eq_take_drop_succ]; simp [idsM]
  have e2 : idsM its = idsM (its.take j) ++ its[j].id :: idsM (its.drop (j + 1)) := by
    conv => lhs; rw [e]
    simp only [idsM, List.map_append, List.map_cons]
  rw [e1, e2, List.perm_iff_count]
  intro a
  simp only [List.count_append, List.count_cons, List.count_nil]
  omega

theorem OQ.dead {a : Msg} (w : OQ m S its (a :: los) ks) : OQ m S its los (ks ++ [a.id]) := by
  refine ⟨w.m1, by have := w.len; simp at this; omega, w.cI, fun x hx => w.cL x (by simp [hx]), ?_⟩
  refine List.Perm.trans ?_ w.perm
  refine List.Perm.append_left _ ?_
  simp only [idsM, List.map_cons]
  rw [← List.append_assoc]
  exact List.perm_append_comm

end Go.Abs
