/- Library functions that the evaluator reckons: they do as the shelf's contracts say. No program in sight. -/
import Derived.Test.YthhegdifbnghpaaGreatDoorWam
import Derived.Test.YthhegdifbnghpaaGreatDoorWap
import Derived.Shelf.Strings.SlTrimAscii
import Derived.Shelf.Strconv.Itoa4
set_option linter.unusedSimpArgs false
set_option linter.unusedVariables false
namespace Go.Abs
open Go Go.RowKit Go.Shelf Go.Proofs
def decB (n : Nat) : List UInt8 := if n < 10 then [UInt8.ofNat (48 + n)] else [UInt8.ofNat (48 + n / 10), UInt8.ofNat (48 + n % 10)]
theorem decB_eq {n : Nat} (h : n < 100) : Lib.decDigits n = decB n := by
 rw [Lib.decDigits]
 unfold decB
 split
 · rfl
 · rw [Lib.decDigits, dif_pos (by omega)]
   rfl
def fmtB : List V → AHeap → Option (V × AHeap)
 | [.int .i64 n, .int .i64 10], h => if 0 ≤ n ∧ n < 100 then some (.string ⟨(decB n.toNat).toArray⟩, h) else none
 | _, _ => none
def trimB : List V → AHeap → Option (V × AHeap)
 | [.string s, .string cs], h =>
  if s.data.toList.length ≤ 1000000 ∧ cs.data.toList.length ≤ 1000000 ∧ (cs.data.toList.all fun b => decide (b.toNat < 128)) = true then some (.string ⟨(Lib.trimS s.data.toList cs.data.toList).toArray⟩, h) else none
 | _, _ => none
variable {P : Program} {ρ : Shelf.Ren} {J : World → Prop}
theorem fmtB_sound (hD : DF J) (L : Lays.n173 P ρ) (hcall : ∀ (args : Array V) (w : World), (callFunc (ρ.f 173) args).run P w = .ok (.enter (ρ.f 173) args) w) : SoundF P J (ρ.f 173) (fnSpec fmtB) := by
 refine SoundF.of_plain hD hcall fun args hp Q w hs _ => ?_
 unfold fnSpec fmtB at hs
 split at hs
 · rename_i n
   split at hs
   · rename_i hn
     rw [kP_some] at hs
     refine ⟨_, by simp [closedV], rfl, hs, ?_⟩
     have := Any.strconv_FormatInt_10_small L n.toNat (by omega) w
     rw [decB_eq (by omega)] at this
     rw [show ((n.toNat : Nat) : Int) = n by omega] at this
     refine this.mono ?_
     rintro e w' ⟨rfl, rfl⟩
     exact ⟨rfl, Below.refl _ _⟩
   · simp at hs
 · simp at hs
theorem trimB_sound (hD : DF J) (L : Lays.n160 P ρ) (h116 : (P.info? (ρ.t 116)).map (fun i => (i.zero, i.size)) = some (some (.agg (Array.replicate 256 (.bool false))), 256))
 (hcall : ∀ (args : Array V) (w : World), (callFunc (ρ.f 160) args).run P w = .ok (.enter (ρ.f 160) args) w) : SoundF P J (ρ.f 160) (fnSpec trimB) := by
 refine SoundF.of_plain hD hcall fun args hp Q w hs _ => ?_
 unfold fnSpec trimB at hs
 split at hs
 · rename_i s cs
   split at hs
   · rename_i hn
     rw [kP_some] at hs
     refine ⟨_, by simp [closedV], rfl, hs, ?_⟩
     have e1 : s.size = s.data.toList.length := Array.length_toList.symm
     have e2 : cs.size = cs.data.toList.length := Array.length_toList.symm
     exact Any.strings_Trim_laid L h116 s cs w (by omega) (by omega) (ascii_of_all hn.2.2)
   · simp at hs
 · simp at hs
def cloneB : List V → AHeap → Option (V × AHeap)
 | [.iface t (.map (some b))], h => (match h.get b with
  | some (.map es clk) => some (.iface t (.map (some h.next)), h.new (.map es clk))
  | _ => none)
 | _, _ => none
def putEv {α : Type} (a : α) : List α → List (List α)
 | [] => [[a]]
 | b :: l => (a :: b :: l) :: (putEv a l).map (b :: ·)
def perms {α : Type} : List α → List (List α)
 | [] => [[]]
 | a :: l => (perms l).flatMap (putEv a)
theorem mem_putEv {α : Type} (a : α) : ∀ (x y : List α), x ++ a :: y ∈ putEv a (x ++ y)
 | [], [] => by simp [putEv]
 | [], b :: y => by simp [putEv]
 | b :: x, y => by
  simp only [List.cons_append, putEv, List.mem_cons, List.mem_map]
  exact .inr ⟨_, mem_putEv a x y, rfl⟩
theorem mem_perms {α : Type} : ∀ {l m : List α}, m.Perm l → m ∈ perms l
 | [], m, p => by simp [List.Perm.eq_nil p, perms]
 | a :: l, m, p => by
  obtain ⟨x, y, rfl⟩ := List.append_of_mem (p.mem_iff.2 (List.mem_cons_self : a ∈ a :: l))
  have p2 : (x ++ y).Perm l := (List.perm_cons a).1 (List.perm_middle.symm.trans p)
  exact List.mem_flatMap.2 ⟨x ++ y, mem_perms p2, mem_putEv a x y⟩
def idOf : MapEntry → Option (Eg IdM)
 | ⟨.agg c, v, b⟩ => (match c.toList with
  | [.int .i64 x, .int .i64 y] => some ⟨⟨x, y⟩, v, b⟩
  | _ => none)
 | _ => none
def idsOf : List MapEntry → Option (List (Eg IdM))
 | [] => some []
 | e :: l => match idOf e, idsOf l with
  | some a, some r => some (a :: r)
  | _, _ => none
theorem idOf_eq {e : MapEntry} {a : Eg IdM} (h : idOf e = some a) : e = kdId.me a := by
 unfold idOf at h
 split at h
 · split at h
   · rename_i c v b l x y hc
     cases h
     have : c = #[i64 x, i64 y] := Array.ext' (by rw [hc])
     rw [this]
     rfl
   · cases h
 · cases h
theorem idsOf_eq : ∀ {l : List MapEntry} {t : List (Eg IdM)}, idsOf l = some t → l = t.map kdId.me
 | [], t, h => by simp only [idsOf, Option.some.injEq] at h; rw [← h]; rfl
 | e :: l, t, h => by
  simp only [idsOf] at h
  split at h
  · rename_i a r h1 h2
    cases h
    rw [List.map_cons, ← idsOf_eq h2, ← idOf_eq h1]
  · cases h
def ndB : List Nat → Bool
 | [] => true
 | a :: l => !(l.any fun b => Nat.beq a b) && ndB l
theorem ndB_eq : ∀ {l : List Nat}, ndB l = true → l.Nodup
 | [], _ => by simp
 | a :: l, h => by
  simp only [ndB, Bool.and_eq_true, Bool.not_eq_true', List.any_eq_false] at h
  rw [List.nodup_cons]
  exact ⟨fun hm => h.1 a hm (by simp), ndB_eq h.2⟩
end Go.Abs
