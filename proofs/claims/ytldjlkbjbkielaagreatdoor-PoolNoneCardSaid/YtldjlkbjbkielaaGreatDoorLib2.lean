/- Library functions: what the shelf's contracts say of them, as specs. No program in sight. (To stand in the place of the placeholders of Lib0, Lib1.) -/
import Derived.Test.YtldjlkbjbkielaaGreatDoorAbs25
import Derived.Shelf.Strings.SlTrimAscii
import Derived.Shelf.Strconv.Itoa4
import Derived.Shelf.Strconv.ParseIntPublic10
set_option linter.unusedSimpArgs false
set_option linter.unusedVariables false
namespace Go.Abs
open Go Go.RowKit Go.Shelf Go.Proofs

def L.FormatInt : Spec := fun args h K => match args with
  | [.int .i64 n, .int .i64 10] => -9223372036854775808 ≤ n ∧ n ≤ 9223372036854775807 ∧ K (.string ⟨(Lib.itoa n).toArray⟩) h
  | _ => False

def L.ParseInt : Spec := fun args h K => match args with
  | [.string s, .int .i64 10, .int .i64 64] => ∃ v, s.data.toList.length ≤ 1000000 ∧ Lib.parseIntB 64 s.data.toList = .ok v ∧ K (.tuple #[.int .i64 v, .nilIface]) h
  | _ => False

def L.Trim : Spec := fun args h K => match args with
  | [.string s, .string cs] => s.data.toList.length ≤ 1000000 ∧ cs.data.toList.length ≤ 1000000 ∧ (cs.data.toList.all fun b => decide (b.toNat < 128)) = true ∧ K (.string ⟨(Lib.trimS s.data.toList cs.data.toList).toArray⟩) h
  | _ => False

def L.clone : Spec := fun args h K => match args with
  | [.iface t (.map (some b))] => (match h.get b with
    | some (.map es clk) => K (.iface t (.map (some h.next))) (h.new (.map es clk))
    | _ => False)
  | _ => False

variable {P : Program} {ρ : Shelf.Ren} {J : World → Prop}

theorem below_grow (w : World) (k : Nat) (os : Array Obj) : Below w.heap.size w (Sort.grow (w.drewN k) os) :=
  ⟨rfl, rfl, rfl, by simp [World.drewN], fun i hi => Sort.heap_grow_old (w.drewN k) os hi⟩

theorem below_bytesWorld (w : World) (e : TypeId) (s : ByteArray) : Below w.heap.size w (Lib.bytesWorld w e s) := by
  refine ⟨?_, ?_, ?_, ?_, fun i hi => ?_⟩
  · simp [Lib.bytesWorld, World.freeze] <;> rfl
  · simp [Lib.bytesWorld, World.freeze] <;> rfl
  · simp [Lib.bytesWorld, World.freeze] <;> rfl
  · simp only [Lib.bytesWorld, World.freeze]
    rw [if_neg (by decide)]
    simp only [Array.size_modify]
    show w.heap.size ≤ (w.heap.push _).size
    simp
  · have hne : w.heap.size ≠ i := by omega
    simp only [Lib.bytesWorld, World.freeze]
    rw [if_neg (by decide)]
    simp only [Array.getElem?_modify, hne, if_false]
    exact heap_alloc_lt (w := w.drew) hi

theorem L.FormatInt_sound (hD : DF J) (M : LaysM.n173 P ρ) (hJ : ∀ w, J w → Lib.TabIs P w "internal/strconv.uint64pow10" .u64 Lib.pow10Tab)
    (hcall : ∀ (args : Array V) (w : World), (callFunc (ρ.f 173) args).run P w = .ok (.enter (ρ.f 173) args) w) : SoundF P J (ρ.f 173) L.FormatInt := by
  refine SoundF.of_plain hD hcall fun args hp Q w hs hw => ?_
  unfold L.FormatInt at hs
  split at hs
  · rename_i n
    obtain ⟨h0, h1, hq⟩ := hs
    refine ⟨_, by simp [closedV], rfl, hq, ?_⟩
    refine (Any.strconv_FormatInt_10 M n h0 h1 w (hJ w hw)).mono ?_
    rintro e w' ⟨rfl, k, os, rfl⟩
    exact ⟨rfl, below_grow w k os⟩
  · exact hs.elim

theorem L.Trim_sound (hD : DF J) (M : Lays.n160 P ρ) (h116 : (P.info? (ρ.t 116)).map (fun i => (i.zero, i.size)) = some (some (.agg (Array.replicate 256 (.bool false))), 256))
    (hcall : ∀ (args : Array V) (w : World), (callFunc (ρ.f 160) args).run P w = .ok (.enter (ρ.f 160) args) w) : SoundF P J (ρ.f 160) L.Trim := by
  refine SoundF.of_plain hD hcall fun args hp Q w hs _ => ?_
  unfold L.Trim at hs
  split at hs
  · rename_i s cs
    obtain ⟨h1, h2, h3, hq⟩ := hs
    refine ⟨_, by simp [closedV], rfl, hq, ?_⟩
    have e1 : s.size = s.data.toList.length := Array.length_toList.symm
    have e2 : cs.size = cs.data.toList.length := Array.length_toList.symm
    exact Any.strings_Trim_laid M h116 s cs w (by omega) (by omega) (ascii_of_all h3)
  · exact hs.elim

/-- The like of VR for closed tuples. -/
theorem VR.tup {r : Ren} {l : List V} (h : ∀ v ∈ l, closedV v = true) : VR r (.tuple l.toArray) (.tuple l.toArray) :=
  .tuple rfl fun i h1 _ => VR.closed (h _ (by simp))

theorem L.ParseInt_sound (hD : DF J) (M : LaysC.n174 P ρ) (hcall : ∀ (args : Array V) (w : World), (callFunc (ρ.f 174) args).run P w = .ok (.enter (ρ.f 174) args) w) : SoundF P J (ρ.f 174) L.ParseInt := by
  refine SoundF.of_calls hcall fun B hJ r hp w args args' Q hs hR ha => ?_
  unfold L.ParseInt at hs
  split at hs
  · rename_i s
    obtain ⟨v, h1, h2, hq⟩ := hs
    rw [ha.closed (by simp [closedV])]
    have e1 : s.size = s.data.toList.length := Array.length_toList.symm
    refine (Any.strconv_ParseInt_10_at64_ok M s (by omega) v h2 w).mono ?_
    rintro e w' ⟨rfl, hw⟩
    have hb : Below w.heap.size w w' := by
      rcases hw with rfl | ⟨t, rfl⟩
      · exact Below.refl _ _
      · exact below_bytesWorld w _ t
    obtain ⟨hR', hE⟩ := hR.below hJ hD hb
    exact ⟨_, rfl, r, _, hp, hq, hR', hE, VR.tup (l := [.int .i64 v, .nilIface]) (by simp [closedV])⟩
  · exact hs.elim

theorem L.clone_sound {f : FuncId} (hrun : ∀ (t : TypeId) (b : Nat) (w : World) (es : Array MapEntry) (clock : Nat), w.heap[b]? = some (.map es clock) →
      (callFunc f #[.iface t (.map (some b))]).run P w = .ok (.value (.iface t (.map (some w.heap.size)))) (w.alloc (.map es clock))) : SoundF P J f L.clone := by
  intro B hJ r hp w args args' Q hs hR ha
  unfold L.clone at hs
  split at hs
  · rename_i t b
    split at hs
    · rename_i es clk hb
      obtain ⟨tm, ces, ht, hBm, hw, hsz, hve⟩ : ∃ tm ces, r b = some tm ∧ B ≤ tm.blk ∧ w.heap[tm.blk]? = some (.map ces clk) ∧ ces.size = es.length ∧
          ∀ (i : Nat) (h : i < es.length) (h' : i < ces.size), VR r es[i].key ces[i].key ∧ VR r es[i].val ces[i].val ∧ ces[i].born = es[i].born := by
        obtain ⟨tm, h1, h2, ces, h3, h4, h5⟩ := hR.live b _ hb
        exact ⟨tm, ces, h1, h2, h3, h4, h5⟩
      have hargs : args' = #[.iface t (.map (some tm.blk))] := by
        have hl := ha.1
        obtain ⟨l⟩ := args'
        match l, hl with
        | [x], _ =>
          have h0 := ha.2 0 (by simp) (by simp)
          simp only [List.getElem_cons_zero] at h0
          cases h0 with
          | iface _ h0 =>
            cases h0 with
            | map h0 =>
              rw [ht] at h0
              cases h0
              rfl
      subst hargs
      refine ⟨_, _, hrun t tm.blk w ces clk hw, ?_⟩
      have hle := hR.le_upd (t := ⟨w.heap.size, 0, 0⟩)
      obtain ⟨h1, h2⟩ := hR.alloc hJ (.map es clk) (.map ces clk) ⟨w.heap.size, 0, 0⟩ rfl
        ⟨hR.base, ces, heap_alloc_new, hsz, fun i a c => ⟨(hve i a c).1.mono hle, (hve i a c).2.1.mono hle, (hve i a c).2.2⟩⟩
      exact ⟨_, _, _, hs, h1, h2, .iface _ (.map (Ren.upd_same _ _ _))⟩
    · exact hs.elim
  · exact hs.elim

end Go.Abs
