/- Library functions that the evaluator reckons: they do as the shelf's contracts say. No program in sight. -/
import Derived.Test.YthilcedkapakpaaGreatDoorAbs25
import Derived.Shelf.Strings.SlTrimAscii
import Derived.Shelf.Strconv.Itoa4
set_option linter.unusedSimpArgs false
set_option linter.unusedVariables false
namespace Go.Abs
open Go Go.RowKit Go.Shelf Go.Proofs

/-- Decimal digits of numbers below 100. -/
def decB (n : Nat) : List UInt8 := if n < 10 then [UInt8.ofNat (48 + n)] else [UInt8.ofNat (48 + n / 10), UInt8.ofNat (48 + n % 10)]

theorem decB_eq {n : Nat} (h : n < 100) : Lib.decDigits n = decB n := by
  rw [Lib.decDigits]
  unfold decB
  split
  · rfl
  · rw [Lib.decDigits, dif_pos (by omega)]
    rfl

/-- strconv.FormatInt, base 10, below 100. -/
def fmtB : List V → AHeap → Option (V × AHeap)
  | [.int .i64 n, .int .i64 10], h => if 0 ≤ n ∧ n < 100 then some (.string ⟨(decB n.toNat).toArray⟩, h) else none
  | _, _ => none

/-- strings.Trim, of a text and a cutset of ASCII. -/
def trimB : List V → AHeap → Option (V × AHeap)
  | [.string s, .string cs], h =>
    if s.data.toList.length ≤ 1000000 ∧ cs.data.toList.length ≤ 1000000 ∧ (cs.data.toList.all fun b => decide (b.toNat < 128)) = true then some (.string ⟨(Lib.trimS s.data.toList cs.data.toList).toArray⟩, h) else none
  | _, _ => none

variable {P : Program} {ρ : Shelf.Ren} {J : World → Prop}

theorem fmtB_sound (L : Lays.n173 P ρ) (hcall : ∀ (args : Array V) (w : World), (callFunc (ρ.f 173) args).run P w = .ok (.enter (ρ.f 173) args) w) : SoundF P J (ρ.f 173) (fnSpec fmtB) := by
  refine SoundF.of_plain hcall fun args hp Q w hs _ => ?_
  unfold fnSpec fmtB at hs
  split at hs
  · rename_i n
    split at hs
    · rename_i hn
      rw [kP_some] at hs
      refine ⟨_, by simp [closedV], rfl, hs, ?_⟩
      have := Any.strconv_FormatInt_10_small L n.toNat (by omega) w
      rw [decB_eq (by omega)] at this
      rw [show ((n.toNat : Nat) : Int) = n by omega] at this
      refine this.mono ?_
      rintro e w' ⟨rfl, rfl⟩
      exact ⟨rfl, Below.refl _ _⟩
    · simp at hs
  · simp at hs

theorem trimB_sound (L : Lays.n160 P ρ) (h116 : (P.info? (ρ.t 116)).map (fun i => (i.zero, i.size)) = some (some (.agg (Array.replicate 256 (.bool false))), 256))
    (hcall : ∀ (args : Array V) (w : World), (callFunc (ρ.f 160) args).run P w = .ok (.enter (ρ.f 160) args) w) : SoundF P J (ρ.f 160) (fnSpec trimB) := by
  refine SoundF.of_plain hcall fun args hp Q w hs _ => ?_
  unfold fnSpec trimB at hs
  split at hs
  · rename_i s cs
    split at hs
    · rename_i hn
      rw [kP_some] at hs
      refine ⟨_, by simp [closedV], rfl, hs, ?_⟩
      have e1 : s.size = s.data.toList.length := Array.length_toList.symm
      have e2 : cs.size = cs.data.toList.length := Array.length_toList.symm
      exact Any.strings_Trim_laid L h116 s cs w (by omega) (by omega) (ascii_of_all hn.2.2)
    · simp at hs
  · simp at hs

/-- What the evaluator's end has to be. -/
def isT (v : V) (_ : AHeap) : Bool := match v with | .bool true => true | _ => false

theorem isT_eq {v : V} {h : AHeap} (hh : isT v h = true) : v = .bool true := by
  unfold isT at hh
  split at hh
  · rfl
  · cases hh

end Go.Abs
