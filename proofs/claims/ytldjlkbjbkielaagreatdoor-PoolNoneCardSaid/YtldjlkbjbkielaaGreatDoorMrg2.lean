/- Which old blocks an operation may turn. -/
import Derived.Test.YtldjlkbjbkielaaGreatDoorMrg1
set_option linter.unusedSimpArgs false
set_option linter.unusedVariables false
namespace Go.Abs
open Go

def hdB : List V → List Nat
  | x :: _ => blk0 x
  | [] => []

/-- What an operation may turn. -/
def tchd (o : Op) (e : Nat → V) : List Nat :=
  match o with
  | .store _ a _ => blk0 (aEv e a)
  | .insert _ m _ _ => blk0 (aEv e m)
  | .mapUpdate _ m _ _ => blk0 (aEv e m)
  | .convert _ _ x => blk0 (aEv e x)
  | .call c => hdB (evArr e c.args)
  | _ => []

structure Fr2 (h h' : AHeap) (bs : List Nat) : Prop where
  next : h.next ≤ h'.next
  same : ∀ b, b < h.next → b ∉ bs → h'.get b = h.get b

variable {h h' : AHeap} {bs : List Nat} {b : Nat}

theorem Fr2.refl : Fr2 h h bs := ⟨Nat.le_refl _, fun _ _ _ => rfl⟩

theorem Fr2.new (o : AObj) : Fr2 h (h.new o) bs :=
  ⟨by simp [AHeap.new], fun b hb _ => by
    have : b ≠ h.next := by omega
    simp [AHeap.new, this]⟩

theorem Fr2.put (o : AObj) (hb : b ∈ bs) : Fr2 h (h.put b o) bs :=
  ⟨by simp [AHeap.put], fun x hx hn => by
    have : x ≠ b := fun e => hn (e ▸ hb)
    simp [AHeap.put, this]⟩

theorem Fr2.killNew (o : AObj) (hb : b ∈ bs) : Fr2 h ((h.kill b).new o) bs :=
  ⟨by simp [AHeap.new, AHeap.kill], fun x hx hn => by
    have h1 : x ≠ b := fun e => hn (e ▸ hb)
    have h2 : x ≠ h.next := by omega
    simp [AHeap.new, AHeap.kill, h1, h2]⟩

theorem Fr2.wr {o : Nat} {vs : List V} (hw : h.wr b o vs = some h') (hb : b ∈ bs) : Fr2 h h' bs := by
  unfold AHeap.wr at hw
  split at hw
  · split at hw
    · cases hw; exact Fr2.put _ hb
    · cases hw
  · cases hw

theorem newD_frame {e : Option Nat} {v x : V} (hn : newD e v h = some (x, h')) : Fr2 h h' bs := by
  unfold newD at hn
  split at hn
  · cases hn; exact Fr2.new _
  · cases hn

theorem buildSliceD_frame {k : Option (Nat × List V)} {n : Nat} {ps : List (Nat × V)} {x : V} (hn : buildSliceD k n ps h = some (x, h')) : Fr2 h h' bs := by
  unfold buildSliceD at hn
  split at hn
  · split at hn
    · obtain ⟨l, _, e⟩ := Option.map_eq_some_iff.1 hn
      cases e
      exact Fr2.new _
    · cases hn
  · cases hn

theorem makeSliceD_frame {k : Option (Nat × Nat × List V)} {l c x : V} (hn : makeSliceD k l c h = some (x, h')) : Fr2 h h' bs := by
  unfold makeSliceD at hn
  split at hn
  · split at hn
    · cases hn; exact Fr2.new _
    · cases hn
  · cases hn

theorem rangeD_frame {k : RgK} {x y : V} (hn : rangeD k x h = some (y, h')) : Fr2 h h' bs := by
  unfold rangeD at hn
  split at hn
  · cases hn; exact Fr2.new _
  · cases hn; exact Fr2.new _
  · split at hn
    · cases hn; exact Fr2.new _
    · cases hn
  · cases hn

theorem mapUpdateD_frame {m : Option (KeyK × Option V)} {x k v : V} (hn : mapUpdateD m x k v h = some h') : Fr2 h h' (blk0 x) := by
  unfold mapUpdateD at hn
  split at hn
  · split at hn
    · split at hn
      · rename_i b
        have hb : b ∈ blk0 (.map (some b)) := by simp [blk0]
        split at hn
        · split at hn
          · split at hn
            · cases hn; exact Fr2.put _ hb
            · cases hn
          · cases hn; exact Fr2.put _ hb
          · cases hn
        · cases hn
      · cases hn
    · cases hn
  · cases hn

theorem deleteD_frame {m : Option (KeyK × Option V)} {x k : V} (hn : deleteD m x k h = some h') : Fr2 h h' (blk0 x) := by
  unfold deleteD at hn
  split at hn
  · split at hn
    · split at hn
      · cases hn; exact Fr2.refl
      · rename_i b
        have hb : b ∈ blk0 (.map (some b)) := by simp [blk0]
        split at hn
        · split at hn
          · cases hn; exact Fr2.put _ hb
          · cases hn; exact Fr2.put _ hb
          · cases hn
        · cases hn
      · cases hn
    · cases hn
  · cases hn

theorem convD_frame {k : ConvK} {x y : V} (hn : convD k x h = some (y, h')) : Fr2 h h' (blk0 x) := by
  unfold convD at hn
  split at hn
  · split at hn
    · cases hn; exact Fr2.refl
    · cases hn
  · split at hn
    · cases hn; exact Fr2.refl
    · cases hn
  · obtain ⟨l, _, e⟩ := Option.map_eq_some_iff.1 hn
    cases e
    exact Fr2.refl
  · split at hn
    · cases hn; exact Fr2.new _
    · cases hn
  · unfold aMark at hn
    split at hn
    · split at hn
      · cases hn
        exact Fr2.put _ (by simp [blk0])
      · cases hn
    · cases hn
  · cases hn

theorem appendD_frame {k : Option (Nat × Nat × List V)} {s x y : V} (hn : appendD k s x h = some (y, h')) : Fr2 h h' (blk0 s) := by
  unfold appendD at hn
  split at hn
  · split at hn
    · split at hn
      · split at hn
        · cases hn; exact Fr2.refl
        · split at hn
          · obtain ⟨l, _, e⟩ := Option.map_eq_some_iff.1 hn
            cases e
            exact Fr2.new _
          · cases hn
      · rename_i b o m c
        have hb : b ∈ blk0 (.slice (some ⟨b, o, none⟩) m c) := by simp [blk0]
        split at hn
        · cases hn; exact Fr2.refl
        · split at hn
          · split at hn
            · split at hn
              · obtain ⟨l, hl, e⟩ := Option.map_eq_some_iff.1 hn
                cases e
                exact Fr2.wr hl hb
              · cases hn
            · cases hn
          · split at hn
            · split at hn
              · split at hn
                · cases hn; exact Fr2.new _
                · split at hn
                  · split at hn
                    · cases hn; exact Fr2.killNew _ hb
                    · cases hn
                  · cases hn
              · cases hn
            · cases hn
      · cases hn
    · cases hn
  · cases hn

theorem copyD_frame {k : Option Nat} {d s y : V} (hn : copyD k d s h = some (y, h')) : Fr2 h h' (blk0 d) := by
  unfold copyD at hn
  split at hn
  · cases hn; exact Fr2.refl
  · split at hn
    · split at hn
      · dsimp only at hn
        split at hn
        · obtain ⟨l, hl, e⟩ := Option.map_eq_some_iff.1 hn
          cases e
          exact Fr2.wr hl (by simp [blk0])
        · cases hn
      · cases hn
    · cases hn
  · cases hn

theorem clearD_frame {k : Option (Option (List V))} {x : V} (hn : clearD k x h = some h') : Fr2 h h' (blk0 x) := by
  unfold clearD at hn
  split at hn
  · split at hn
    · split at hn
      · cases hn; exact Fr2.refl
      · cases hn
    · cases hn; exact Fr2.refl
    · split at hn
      · split at hn
        · exact Fr2.wr hn (by simp [blk0])
        · cases hn
      · cases hn
    · cases hn
  · cases hn

theorem builtin_frame {P : Program} {b : Builtin} {ts : Array TypeId} {args : List V} {v : V} (hn : aBuiltin P b ts args h = some (v, h')) : Fr2 h h' (hdB args) := by
  unfold aBuiltin at hn
  split at hn
  · rename_i s x
    have hn : aAppend P ts s x h = some (v, h') := hn
    rw [aAppend_eq] at hn; exact appendD_frame hn
  · rename_i d s
    have hn : aCopy P ts d s h = some (v, h') := hn
    rw [aCopy_eq] at hn; exact copyD_frame hn
  · obtain ⟨l, _, e⟩ := Option.map_eq_some_iff.1 hn
    cases e; exact Fr2.refl
  · obtain ⟨l, hl, e⟩ := Option.map_eq_some_iff.1 hn
    cases e
    obtain ⟨t, _, ht⟩ := Option.bind_eq_some_iff.1 hl
    rw [aDelete_eq] at ht
    exact deleteD_frame ht
  · obtain ⟨l, hl, e⟩ := Option.map_eq_some_iff.1 hn
    cases e
    rw [aClear_eq] at hl
    exact clearD_frame hl
  · obtain ⟨l, _, e⟩ := Option.map_eq_some_iff.1 hn
    cases e; exact Fr2.refl
  · obtain ⟨l, _, e⟩ := Option.map_eq_some_iff.1 hn
    cases e; exact Fr2.refl
  · cases hn

/-- **An operation turns no other block.** -/
theorem aOp_frame {P : Program} {o : Op} {e : Nat → V} {v : V} (hn : aOp P o e h = some (v, h')) : Fr2 h h' (tchd o e) := by
  have pure : ∀ {α : Type} {x : Option α} {f : α → V}, (x.map fun a => (f a, h)) = some (v, h') → Fr2 h h' (tchd o e) := fun hx => by
    obtain ⟨l, _, e⟩ := Option.map_eq_some_iff.1 hx
    cases e; exact Fr2.refl
  cases o
  case move => cases hn; exact Fr2.refl
  case assign => cases hn; exact Fr2.refl
  case pick c a b =>
    simp only [aOp] at hn
    split at hn
    · cases hn; exact Fr2.refl
    · cases hn
  case alloc t =>
    simp only [aOp] at hn
    obtain ⟨z, _, hz⟩ := Option.bind_eq_some_iff.1 hn
    rw [aNew_eq] at hz
    exact newD_frame hz
  case box t x =>
    simp only [aOp, aNew_eq] at hn
    exact newD_frame hn
  case buildSlice t n ps =>
    simp only [aOp, aBuildSlice_eq] at hn
    exact buildSliceD_frame hn
  case insert t m k x =>
    simp only [aOp, aMapUpdate_eq] at hn
    obtain ⟨l, hl, e⟩ := Option.map_eq_some_iff.1 hn
    cases e
    exact mapUpdateD_frame hl
  case mapUpdate t m k x =>
    simp only [aOp, aMapUpdate_eq] at hn
    obtain ⟨l, hl, e⟩ := Option.map_eq_some_iff.1 hn
    cases e
    exact mapUpdateD_frame hl
  case store t a x =>
    simp only [aOp, aStore_eq] at hn
    obtain ⟨l, hl, e'⟩ := Option.map_eq_some_iff.1 hn
    cases e'
    unfold stD at hl
    split at hl
    · rename_i b o he
      split at hl
      · split at hl
        · refine Fr2.wr hl ?_
          simp [tchd, he, blk0]
        · cases hl
      · cases hl
    · cases hl
  case convert s d x =>
    simp only [aOp, aConvert_eq] at hn
    exact convD_frame hn
  case makeInterface t x =>
    simp only [aOp] at hn
    split at hn
    · cases hn
    · cases hn; exact Fr2.refl
    · cases hn
  case makeFunc => cases hn; exact Fr2.refl
  case makeMap t r =>
    simp only [aOp] at hn
    split at hn
    · cases hn; exact Fr2.new _
    · split at hn
      · cases hn; exact Fr2.new _
      · cases hn
    · cases hn
  case makeSlice t l c =>
    simp only [aOp, aMakeSlice_eq] at hn
    exact makeSliceD_frame hn
  case range t x =>
    simp only [aOp, aRange_eq] at hn
    exact rangeD_frame hn
  case call c =>
    simp only [aOp] at hn
    split at hn
    · exact builtin_frame hn
    · cases hn
  case build => exact pure hn
  case load => exact pure hn
  case nilCheck => exact pure hn
  case binOp => exact pure hn
  case unOp => exact pure hn
  case slice => exact pure hn
  case fieldAddr => exact pure hn
  case field => exact pure hn
  case indexAddr => exact pure hn
  case index => exact pure hn
  case lookup => exact pure hn
  case entry => exact pure hn
  case typeAssert => exact pure hn
  case extract => exact pure hn
  all_goals cases hn

end Go.Abs
