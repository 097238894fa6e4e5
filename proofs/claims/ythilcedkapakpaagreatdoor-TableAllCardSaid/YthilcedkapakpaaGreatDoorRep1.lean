/- Specs on abstract heaps, part 1: tables. -/
import Derived.Test.YthilcedkapakpaaGreatDoorRepA
import Derived.Test.YthilcedkapakpaaGreatDoorFns8
set_option linter.unusedSimpArgs false
set_option linter.unusedVariables false
namespace Go.Abs
open Go

/-- A map's entries came one behind the other. -/
def Stp (l : List En) (clk : Nat) : Prop := (l.map (·.b)).Nodup ∧ ∀ e ∈ l, e.b < clk

theorem put_b {k : ByteArray} {v : V} {c : Nat} : ∀ {l : List En}, getE k l ≠ none → (putE k v c l).map (·.b) = l.map (·.b)
  | [], h => absurd rfl h
  | e :: l, h => by
    simp only [putE, getE] at h ⊢
    split
    · rfl
    · rename_i hk
      rw [if_neg hk] at h
      rw [List.map_cons, put_b h, List.map_cons]

theorem stp_put {k : ByteArray} {v : V} {clk : Nat} {l : List En} (s : Stp l clk) : Stp (putE k v clk l) (if getE k l = none then clk + 1 else clk) := by
  have h2 : ∀ x ∈ l.map (·.b), x < clk := fun x hx => by
    obtain ⟨e, he, rfl⟩ := List.mem_map.1 hx
    exact s.2 e he
  by_cases hk : getE k l = none
  · rw [if_pos hk, put_new _ _ _ _ hk]
    refine ⟨?_, fun e he => ?_⟩
    · rw [List.map_append, List.nodup_append]
      refine ⟨s.1, by simp, fun a ha b hb => ?_⟩
      have := h2 a ha
      simp at hb
      omega
    · rcases List.mem_append.1 he with he | he
      · have := s.2 e he; omega
      · simp at he; subst he; simp
  · rw [if_neg hk]
    have e := put_b (k := k) (v := v) (c := clk) (l := l) hk
    refine ⟨by rw [e]; exact s.1, fun x hx => h2 _ ?_⟩
    rw [← e]
    exact List.mem_map.2 ⟨x, hx, rfl⟩

theorem delE_sub (k : ByteArray) : ∀ l : List En, (delE k l).Sublist l
  | [] => List.Sublist.refl _
  | e :: l => by
    simp only [delE]
    split
    · exact List.sublist_cons_self _ _
    · exact (delE_sub k l).cons_cons e

theorem stp_del {k : ByteArray} {clk : Nat} {l : List En} (s : Stp l clk) : Stp (delE k l) clk :=
  ⟨s.1.sublist ((delE_sub k l).map _), fun e he => s.2 e ((delE_sub k l).mem he)⟩

/-- A table: its variable, its map. -/
def Tab (h : AHeap) (fp : List Nat) (p : V) (l : List En) : Prop :=
  ∃ b m clk, p = ptr b 0 ∧ fp = [b, m] ∧ b ≠ m ∧ b < h.next ∧ m < h.next ∧ h.get b = some (.cells [.map (some m)] 1 .rw) ∧ h.get m = some (.map (l.map ME) clk) ∧ (keysE l).Nodup ∧ Stp l clk

theorem Tab.lt {h : AHeap} {fp : List Nat} {p : V} {l : List En} (t : Tab h fp p l) : ∀ x ∈ fp, x < h.next := by
  obtain ⟨b, m, clk, rfl, rfl, hne, hb, hm, h1, h2, hn⟩ := t
  simp
  exact ⟨hb, hm⟩

theorem Tab.same {h h' : AHeap} {fp : List Nat} {p : V} {l : List En} (t : Tab h fp p l) (hl : h.next ≤ h'.next) (hs : ∀ x ∈ fp, h'.get x = h.get x) : Tab h' fp p l := by
  obtain ⟨b, m, clk, rfl, rfl, hne, hb, hm, h1, h2, hn⟩ := t
  exact ⟨b, m, clk, rfl, rfl, hne, by omega, by omega, by rw [hs b (by simp), h1], by rw [hs m (by simp), h2], hn⟩

variable {E : FE} {h : AHeap} {fp : List Nat} {p : V} {l : List En}

theorem table_New : cl (F.table_New E) [] h fun r h' => ∃ fp, Tab h' fp r [] ∧ Mod h [] h' fp := by
  refine cl_of ?_
  simp only [F.table_New, makeMapD, if_true, kP_some, buildD, aFill, cellsOf, newD]
  simp only [List.getElem?_cons_zero, setList, List.length_cons, List.length_nil, List.set_cons_zero, Nat.le_refl, and_self, if_true, aFill, Option.map_some, kv_some, cellsOf, kP_some, Option.getD_none, Nat.zero_add]
  refine ⟨[h.next + 1, h.next], ⟨h.next + 1, h.next, 0, by simp, rfl, by simp, by simp, by simp; omega, by simp, by simp, by simp [keysE], by simp [Stp]⟩, by simp; omega, fun x hx _ => ?_, fun x hx => ?_, fun x hx => ?_⟩
  · have h1 : x ≠ h.next := by omega
    have h2 : x ≠ h.next + 1 := by omega
    simp [h1, h2]
  · simp at hx; right; omega
  · simp at hx ⊢; omega

theorem table_Get (t : Tab h fp p l) (hv : ∀ e ∈ l, ∃ s, e.v = str s) (k : ByteArray) :
    cl (F.table_Table_Get E) [p, str k] h fun r h' => h' = h ∧ r = .tuple #[(getE k l).getD (str ⟨#[]⟩), .bool (getE k l).isSome] := by
  obtain ⟨b, m, clk, rfl, rfl, hne, hb, hm, h1, h2, hn⟩ := t
  refine cl_of ?_
  simp [F.table_Table_Get, rd_of h1, lookup_map h2]

theorem table_Put (t : Tab h fp p l) (k : ByteArray) (v : V) :
    cl (F.table_Table_Put E) [p, str k, v] h fun r h' => r = .bool (getE k l).isNone ∧ ∃ c, Tab h' fp p (putE k v c l) ∧ Mod h fp h' fp := by
  have hlt := t.lt
  obtain ⟨b, m, clk, rfl, rfl, hne, hb, hm, h1, h2, hn⟩ := t
  refine cl_of ?_
  simp [F.table_Table_Put, rd_of h1, lookup_map h2, update_map h2]
  refine ⟨⟨clk, b, m, _, rfl, rfl, hne, hb, hm, by simp [hne, h1], by simp, nodup_put hn.1, stp_put hn.2⟩, by simp, fun x hx hnx => ?_, fun x hx => .inl hx, fun x hx => hlt x hx⟩
  simp at hnx
  simp [hnx.2]

theorem table_Del (t : Tab h fp p l) (hv : ∀ e ∈ l, ∃ s, e.v = str s) (k : ByteArray) :
    cl (F.table_Table_Del E) [p, str k] h fun r h' => r = .bool (getE k l).isSome ∧ Tab h' fp p (delE k l) ∧ Mod h fp h' fp := by
  have hlt := t.lt
  have hg := table_Get (E := E) t hv k
  obtain ⟨b, m, clk, rfl, rfl, hne, hb, hm, h1, h2, hn⟩ := t
  refine cl_of ?_
  simp only [F.table_Table_Del]
  refine cl_then hg ?_
  rintro r h' ⟨rfl, rfl⟩
  cases hk : getE k l with
  | none =>
    simp [hk]
    rw [del_none k l hk]
    exact ⟨⟨b, m, clk, rfl, rfl, hne, hb, hm, h1, h2, hn⟩, Mod.refl hlt⟩
  | some v =>
    simp [hk, rd_of h1, delete_map h2]
    refine ⟨⟨b, m, clk, rfl, rfl, hne, hb, hm, by simp [hne, h1], by simp, by rw [keys_del]; exact hn.1.erase _, stp_del hn.2⟩, by simp, fun x hx hnx => ?_, fun x hx => .inl hx, fun x hx => hlt x hx⟩
    simp at hnx
    simp [hnx.2]

end Go.Abs
