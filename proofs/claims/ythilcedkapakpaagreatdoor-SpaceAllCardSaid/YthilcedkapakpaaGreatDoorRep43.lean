/- Specs on abstract heaps, part 43: what else stays so of a space; a new space of either. -/
import Derived.Test.YthilcedkapakpaaGreatDoorRepJ
import Derived.Test.YthilcedkapakpaaGreatDoorLqErrs
set_option linter.unusedSimpArgs false
set_option linter.unusedVariables false
namespace Go.Abs
open Go Go.Proofs
variable {E E0 E1 : FE} {h h' : AHeap} {p q : V} {k : Nat}

/-- A topic's texts and names are short. -/
def KI : SpSt → Prop
  | .to l g => (∀ v ∈ l, v.size ≤ 120) ∧ ∀ e ∈ g, e.k.size ≤ 30
  | _ => True

theorem KI.step {S : SpSt} (s : KI S) (o : Oq) (now : Int) (c : Nat) (hz : o.key.size ≤ 30 ∧ o.val.size ≤ 120) : KI (S.act o now c).2.2 := by
  cases S with
  | tab g =>
    simp only [SpSt.act, doT]
    split
    · split
      · trivial
      · split <;> trivial
    · trivial
  | qu a b i l =>
    simp only [SpSt.act, doQ]
    split
    · split
      · split <;> trivial
      · split
        · split <;> trivial
        · split
          · split
            · split <;> trivial
            · trivial
          · trivial
    · trivial
  | to l g =>
    have put : ∀ n : Int, KI (.to l (putE o.key (i64 n) c g)) := fun n => ⟨s.1, fun e he => by
      rcases put_mem he with ⟨h1, _⟩ | h1
      · rw [h1]; exact hz.1
      · exact s.2 e h1⟩
    simp only [SpSt.act, doP]
    split
    · split
      · split
        · refine ⟨fun v hv => ?_, s.2⟩
          rcases List.mem_append.1 hv with hv | hv
          · exact s.1 v hv
          · simp only [List.mem_singleton] at hv
            rw [hv]; exact hz.2
        · exact s
      · split
        · exact s
        · split
          · split
            · exact put _
            · exact s
          · exact s
    · exact s

theorem act_kind (S : SpSt) (o : Oq) (now : Int) (c : Nat) : (S.act o now c).2.2.kind = S.kind := by
  cases S with
  | tab g =>
    simp only [SpSt.act, doT]
    split
    · split
      · rfl
      · split <;> rfl
    · rfl
  | qu a b i l =>
    simp only [SpSt.act, doQ]
    split
    · split
      · split <;> rfl
      · split
        · split <;> rfl
        · split
          · split
            · split <;> rfl
            · rfl
          · rfl
    · rfl
  | to l g =>
    simp only [SpSt.act, doP]
    split
    · split
      · split <;> rfl
      · split
        · rfl
        · split
          · split <;> rfl
          · rfl
    · rfl

theorem rel_len {S : SpSt} {s : SpM} (R : RelS S s) (hi : SI k S) (hk : k ≤ 1000) : s.pairs.length + s.items.length + s.lost.length ≤ 1000000 := by
  cases S with
  | tab g =>
    obtain ⟨_, tg, hn, hit, hlo, _⟩ := R
    have := tg.len hn
    have := hi.2.2
    rw [hit, hlo]
    simp only [List.length_nil]
    omega
  | qu a b i l =>
    obtain ⟨_, hp, _, _, hit, hlo⟩ := R
    have := QI.len hi
    rw [hit, hlo, hp]
    simp only [List.length_nil]
    omega
  | to l g =>
    obtain ⟨_, tg, hn, hit, hlo, _⟩ := R
    have := tg.len hn
    have := hi.2.2.2.2
    have := hi.1
    rw [hit, hlo]
    simp only [List.length_nil, List.length_map]
    omega

theorem rel_kind {S : SpSt} {s : SpM} (R : RelS S s) : s.kind = S.kind := by
  cases S <;> exact R.1

/-- A new space, and the document's. -/
theorem new_both (kd most : Int) (hk : kd = 1 ∨ kd = 2 ∨ kd = 3) : cl (Go.Abs.F.space_New E) [i64 kd, i64 most] h fun r h' => ∃ S fp, SpS h' fp r S ∧ Mod h [] h' fp ∧ SI 0 S ∧ KI S ∧ RelS S ⟨⟨#[]⟩, kd, [], max 1 (min most 9), [], [], 1⟩ := by
  rcases hk with rfl | rfl | rfl
  · refine cl_then (space_New_tab _) ?_
    rintro r h' ⟨pt, fp, s, m⟩
    exact ⟨.tab [], fp, ⟨pt, s⟩, m, ⟨by simp, by simp, by simp⟩, trivial, rfl, TG.nil, by simp [keysE], rfl, rfl, by simp⟩
  · refine cl_then (space_New_qu most) ?_
    rintro r h' ⟨pt, fp, s, m⟩
    exact ⟨.qu (min (max most 1) 9) 1 [] [], fp, ⟨pt, s⟩, m, ⟨by omega, by omega, by simp, by simp, by simp⟩, trivial, rfl, rfl, (by show max 1 (min most 9) = min (max most 1) 9; omega), rfl, rfl, rfl⟩
  · refine cl_then (space_New_to _) ?_
    rintro r h' ⟨pt, fp, s, m⟩
    exact ⟨.to [] [], fp, ⟨pt, s⟩, m, ⟨by simp, by simp, by simp, by simp, by simp⟩, ⟨by simp, by simp⟩, rfl, TG.nil, by simp [keysE], rfl, rfl, by simp⟩

/-- A list of numbers that was handed in. -/
def Ints (N : Nat) (h : AHeap) (v : V) (l : List Int) : Prop := Ro N h v 1 l.length (l.map i64)

theorem Ints.row {N : Nat} {v : V} {l : List Int} (s : Ints N h v l) {i : Nat} {x : Int} (hi : l[i]? = some x) : ∃ b off, indexAddrD (.slice 1) v (i64 i) = some (ptr b off) ∧ h.rd b off = some (i64 x) := by
  obtain ⟨hlt, hx⟩ := List.getElem?_eq_some_iff.1 hi
  obtain ⟨b, off, e, hr⟩ := Ro.at s hlt
  refine ⟨b, off, e, ?_⟩
  have := hr 0 (by decide)
  rw [Nat.add_zero] at this
  rw [this]
  simp [hi]

def frQN (N : Nat) (v : V) (l : List Oq) (u : V) (ns : List Int) : Fr := ⟨N, fun h => Oqs N h v l ∧ Ints N h u ns, fun _ _ _ _ s m hf => ⟨Ro.mod s.1 m hf, Ro.mod s.2 m hf⟩⟩

/-- An operation with its key and its value cut. -/
def Oq.cut (o : Oq) : Oq := { o with key := o.key.extract 0 (min o.key.size 30), val := o.val.extract 0 (min o.val.size 120) }

theorem Oq.cut_key (o : Oq) : o.cut.key.size ≤ 30 := by
  simp only [Oq.cut, ByteArray.size_extract]
  omega
theorem Oq.cut_val (o : Oq) : o.cut.val.size ≤ 120 := by
  simp only [Oq.cut, ByteArray.size_extract]
  omega

/-- Both. -/
structure SAll (i : Nat) (S : SpSt) (s : SpM) (C : SpSt) (c : SpM) : Prop where
  si : SI i S
  ki : KI S
  rs : RelS S s
  sic : SI i C
  kic : KI C
  rc : RelS C c
  kd : C.kind = S.kind

end Go.Abs
