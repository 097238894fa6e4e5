/- Library functions that the evaluator reckons: they do as the shelf's contracts say. No program in sight. -/
import Derived.Test.YtldjlkbjbkielaaGreatDoorAbs25
import Derived.Test.YtldjlkbjbkielaaGreatDoorLib2
import Derived.Test.YtldjlkbjbkielaaGreatDoorLib3
import Derived.Test.YtldjlkbjbkielaaGreatDoorLib4
import Derived.Shelf.Strings.SlTrimAscii
import Derived.Shelf.Strconv.Itoa4
set_option linter.unusedSimpArgs false
set_option linter.unusedVariables false
namespace Go.Abs
open Go Go.RowKit Go.Shelf Go.Proofs

/-- Decimal digits of numbers below 100. -/
def decB (n : Nat) : List UInt8 := if n < 10 then [UInt8.ofNat (48 + n)] else [UInt8.ofNat (48 + n / 10), UInt8.ofNat (48 + n % 10)]

theorem decB_eq {n : Nat} (h : n < 100) : Lib.decDigits n = decB n := by
  rw [Lib.decDigits]
  unfold decB
  split
  · rfl
  · rw [Lib.decDigits, dif_pos (by omega)]
    rfl

/-- strconv.FormatInt, base 10, below 100. -/
def fmtB : List V → AHeap → Option (V × AHeap)
  | [.int .i64 n, .int .i64 10], h => if 0 ≤ n ∧ n < 100 then some (.string ⟨(decB n.toNat).toArray⟩, h) else none
  | _, _ => none

/-- strings.Trim, of a text and a cutset of ASCII. -/
def trimB : List V → AHeap → Option (V × AHeap)
  | [.string s, .string cs], h =>
    if s.data.toList.length ≤ 1000000 ∧ cs.data.toList.length ≤ 1000000 ∧ (cs.data.toList.all fun b => decide (b.toNat < 128)) = true then some (.string ⟨(Lib.trimS s.data.toList cs.data.toList).toArray⟩, h) else none
  | _, _ => none

variable {P : Program} {ρ : Shelf.Ren} {J : World → Prop}

theorem fmtB_sound (hD : DF J) (L : Lays.n173 P ρ) (hcall : ∀ (args : Array V) (w : World), (callFunc (ρ.f 173) args).run P w = .ok (.enter (ρ.f 173) args) w) : SoundF P J (ρ.f 173) (fnSpec fmtB) := by
  refine SoundF.of_plain hD hcall fun args hp Q w hs _ => ?_
  unfold fnSpec fmtB at hs
  split at hs
  · rename_i n
    split at hs
    · rename_i hn
      rw [kP_some] at hs
      refine ⟨_, by simp [closedV], rfl, hs, ?_⟩
      have := Any.strconv_FormatInt_10_small L n.toNat (by omega) w
      rw [decB_eq (by omega)] at this
      rw [show ((n.toNat : Nat) : Int) = n by omega] at this
      refine this.mono ?_
      rintro e w' ⟨rfl, rfl⟩
      exact ⟨rfl, Below.refl _ _⟩
    · simp at hs
  · simp at hs

theorem trimB_sound (hD : DF J) (L : Lays.n160 P ρ) (h116 : (P.info? (ρ.t 116)).map (fun i => (i.zero, i.size)) = some (some (.agg (Array.replicate 256 (.bool false))), 256))
    (hcall : ∀ (args : Array V) (w : World), (callFunc (ρ.f 160) args).run P w = .ok (.enter (ρ.f 160) args) w) : SoundF P J (ρ.f 160) (fnSpec trimB) := by
  refine SoundF.of_plain hD hcall fun args hp Q w hs _ => ?_
  unfold fnSpec trimB at hs
  split at hs
  · rename_i s cs
    split at hs
    · rename_i hn
      rw [kP_some] at hs
      refine ⟨_, by simp [closedV], rfl, hs, ?_⟩
      have e1 : s.size = s.data.toList.length := Array.length_toList.symm
      have e2 : cs.size = cs.data.toList.length := Array.length_toList.symm
      exact Any.strings_Trim_laid L h116 s cs w (by omega) (by omega) (ascii_of_all hn.2.2)
    · simp at hs
  · simp at hs

/-- What the evaluator's end has to be. -/
def isT (v : V) (_ : AHeap) : Bool := match v with | .bool true => true | _ => false

theorem isT_eq {v : V} {h : AHeap} (hh : isT v h = true) : v = .bool true := by
  unfold isT at hh
  split at hh
  · rfl
  · cases hh


/-- maps.clone. -/
def cloneB : List V → AHeap → Option (V × AHeap)
  | [.iface t (.map (some b))], h => (match h.get b with
    | some (.map es clk) => some (.iface t (.map (some h.next)), h.new (.map es clk))
    | _ => none)
  | _, _ => none

theorem cloneB_sound {f : FuncId} (h : SoundF P J f L.clone) : SoundF P J f (anySpec (detB cloneB)) := by
  refine detB_sound (h.of_imp fun args hp K hs => ?_)
  unfold fnSpec cloneB at hs
  unfold L.clone
  split at hs
  · rename_i t b
    split at hs
    · rename_i es clk hb
      simp only [hb]
      rw [kP_some] at hs
      exact hs
    · simp at hs
  · simp at hs

/-- slices.Sorted(maps.Keys(m)) of a map of no or one text. -/
def sortedB (ok : List Nat) : List V → AHeap → Option (V × AHeap)
  | [.func (.func g) f c], h =>
    if f.size = 0 ∧ ok.contains g = true then
      (match c.toList with
      | [.pointer (some ⟨b, 0, none⟩)] =>
        (match h.get b with
        | some (.cells [.map (some m)] e k) =>
          (match h.get m with
          | some (.map [] clk) => some (.slice none 0 0, h)
          | some (.map [⟨.string s, v, bn⟩] clk) => if s.data.toList.length ≤ 1000000 ∧ bn < clk then some (.slice (some ⟨h.next, 0, none⟩) 1 3, h.new (.cells [.string s] 1 .rw)) else none
          | _ => none)
        | _ => none)
      | _ => none)
    else none
  | _, _ => none

theorem sortedB_sound {f : FuncId} {ok : List Nat} {oP : FuncId → Prop} (ho : ∀ g ∈ ok, oP g) (h : SoundF P J f (L.Sorted oP)) : SoundF P J f (anySpec (detB (sortedB ok))) := by
  refine detB_sound (h.of_imp fun args hp K hs => ?_)
  unfold fnSpec sortedB at hs
  unfold L.Sorted
  split at hs
  · rename_i g ff c
    split at hs
    · rename_i hg
      split at hs
      · rename_i b hc
        split at hs
        · rename_i m e k hb
          have hc' : c = #[.pointer (some ⟨b, 0, none⟩)] := Array.ext' (by rw [hc])
          have hf' : ff = #[] := Array.eq_empty_of_size_eq_zero hg.1
          have hok : oP g := ho g (by simpa using hg.2)
          split at hs
          · rename_i clk hm
            rw [kP_some] at hs
            refine ⟨hf', hok, b, m, [], clk, e, k, hc', hb, hm, by simp, by simp, by simp, by simp, ?_⟩
            simpa [srtK, sortV, sortH] using hs
          · rename_i s v bn clk hm
            split at hs
            · rename_i hx
              rw [kP_some] at hs
              have hsz : s.size ≤ maxLen := by
                have : s.size = s.data.toList.length := by rw [Array.length_toList]; rfl
                have h2 : 1000000 ≤ maxLen := by decide
                omega
              refine ⟨hf', hok, b, m, [⟨.string s, v, bn⟩], clk, e, k, hc', hb, hm, by simp, by simpa using ⟨hsz, hx.2⟩, by simp, by simp, ?_⟩
              have e1 : srtK [⟨.string s, v, bn⟩] = [keyB (.string s)] := by simp [srtK]
              rw [e1]
              have e2 : encStr (keyB (.string s)) = .string s := by first | rfl | exact encStr_keyB _ | simp [encStr, keyB]
              simpa [sortV, sortH, e2] using hs
            · simp at hs
          · simp at hs
        · simp at hs
      · simp at hs
    · simp at hs
  · simp at hs

/-! ### slices.Collect(maps.Keys(m)): in any order -/

def putEv {α : Type} (a : α) : List α → List (List α)
  | [] => [[a]]
  | b :: l => (a :: b :: l) :: (putEv a l).map (b :: ·)

def perms {α : Type} : List α → List (List α)
  | [] => [[]]
  | a :: l => (perms l).flatMap (putEv a)

theorem mem_putEv {α : Type} (a : α) : ∀ (x y : List α), x ++ a :: y ∈ putEv a (x ++ y)
  | [], [] => by simp [putEv]
  | [], b :: y => by simp [putEv]
  | b :: x, y => by
    simp only [List.cons_append, putEv, List.mem_cons, List.mem_map]
    exact .inr ⟨_, mem_putEv a x y, rfl⟩

theorem mem_perms {α : Type} : ∀ {l m : List α}, m.Perm l → m ∈ perms l
  | [], m, p => by simp [List.Perm.eq_nil p, perms]
  | a :: l, m, p => by
    obtain ⟨x, y, rfl⟩ := List.append_of_mem (p.mem_iff.2 (List.mem_cons_self : a ∈ a :: l))
    have p2 : (x ++ y).Perm l := (List.perm_cons a).1 (List.perm_middle.symm.trans p)
    exact List.mem_flatMap.2 ⟨x ++ y, mem_perms p2, mem_putEv a x y⟩

def idOf : MapEntry → Option (Eg IdM)
  | ⟨.agg c, v, b⟩ => (match c.toList with
    | [.int .i64 x, .int .i64 y] => some ⟨⟨x, y⟩, v, b⟩
    | _ => none)
  | _ => none

def idsOf : List MapEntry → Option (List (Eg IdM))
  | [] => some []
  | e :: l => match idOf e, idsOf l with
    | some a, some r => some (a :: r)
    | _, _ => none

theorem idOf_eq {e : MapEntry} {a : Eg IdM} (h : idOf e = some a) : e = kdId.me a := by
  unfold idOf at h
  split at h
  · split at h
    · rename_i c v b l x y hc
      cases h
      have : c = #[i64 x, i64 y] := Array.ext' (by rw [hc])
      rw [this]
      rfl
    · cases h
  · cases h

theorem idsOf_eq : ∀ {l : List MapEntry} {t : List (Eg IdM)}, idsOf l = some t → l = t.map kdId.me
  | [], t, h => by simp only [idsOf, Option.some.injEq] at h; rw [← h]; rfl
  | e :: l, t, h => by
    simp only [idsOf] at h
    split at h
    · rename_i a r h1 h2
      cases h
      rw [List.map_cons, ← idsOf_eq h2, ← idOf_eq h1]
    · cases h

def ndB : List Nat → Bool
  | [] => true
  | a :: l => !(l.any fun b => Nat.beq a b) && ndB l

theorem ndB_eq : ∀ {l : List Nat}, ndB l = true → l.Nodup
  | [], _ => by simp
  | a :: l, h => by
    simp only [ndB, Bool.and_eq_true, Bool.not_eq_true', List.any_eq_false] at h
    rw [List.nodup_cons]
    exact ⟨fun hm => h.1 a hm (by simp), ndB_eq h.2⟩

def colB (ok : List Nat) : List V → AHeap → KB → Bool
  | [.func (.func g) f c], h, K =>
    if f.size = 0 ∧ ok.contains g = true then
      (match c.toList with
      | [.pointer (some ⟨b, 0, none⟩)] =>
        (match h.get b with
        | some (.cells [.map (some m)] e k) =>
          (match h.get m with
          | some (.map es clk) =>
            (match idsOf es with
            | some t => Nat.ble t.length 1000 && ndB (t.map (·.b)) && (t.all fun e => Nat.blt e.b clk) && (perms (keysG t)).all fun ks => K (colV ks h) (colH ks h)
            | none => false)
          | _ => false)
        | _ => false)
      | _ => false)
    else false
  | _, _, _ => false

theorem colB_sound {f : FuncId} {ok : List Nat} {oP : FuncId → Prop} (ho : ∀ g ∈ ok, oP g) (h : SoundF P J f (L.CollectId oP)) : SoundF P J f (anySpec (colB ok)) := by
  refine h.of_imp fun args hp K hs => ?_
  obtain ⟨Kb, hs, hk⟩ := hs
  unfold colB at hs
  unfold L.CollectId
  split at hs
  · rename_i g ff c
    split at hs
    · rename_i hg
      split at hs
      · rename_i b hc
        split at hs
        · rename_i m e k hb
          split at hs
          · rename_i es clk hm
            split at hs
            · rename_i t ht
              simp only [Bool.and_eq_true, List.all_eq_true] at hs
              obtain ⟨⟨⟨h1, h2⟩, h3⟩, h4⟩ := hs
              have hc' : c = #[ptr b 0] := Array.ext' (by rw [hc])
              refine ⟨Array.eq_empty_of_size_eq_zero hg.1, ho g (by simpa using hg.2), b, m, t, clk, e, k, hc', hb, by rw [hm, idsOf_eq ht], ?_, ndB_eq h2, fun e he => ?_, fun ks hks => ?_⟩
              · have := Nat.le_of_ble_eq_true h1; omega
              · have := h3 e he
                unfold Nat.blt at this
                exact Nat.le_of_ble_eq_true this
              · exact hk _ _ (h4 ks (mem_perms hks))
            · cases hs
          · cases hs
        · cases hs
      · cases hs
    · cases hs
  · cases hs

end Go.Abs
