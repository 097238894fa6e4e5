/- One transaction's votes, plainly. -/
import Derived.Test.YthhegdifbnghpaaGreatDoorVbd
set_option linter.unusedSimpArgs false
set_option linter.unusedVariables false
namespace Go.Abs
open Go Go.Proofs
structure VSt (id : IdM) (nn : Nat) (ops : List Oq) (left : Int) (dec no : Bool) (voted : List Bool) (d : DeskM) : Prop where
 vl : voted.length = nn
 di : DInv nn d
 dv : DV d
 last : (lkp id.client d.last).getD 0 = id.seq
 und : dec = false → no = false ∧ ∃ votes, d.opn = [(id, { newTr ops nn with votes := votes })] ∧ d.kept = [] ∧ (∀ s, s < nn → voted.getD s false = (lkp (s : Int) votes).isSome) ∧
  left + (votes.length : Nat) = ((shardsF (partsF ops nn)).length : Nat) ∧ votes.length < (shardsF (partsF ops nn)).length ∧ ∀ k v, lkp k votes = some v → v.yes = true
 decd : dec = true → ∃ t a, d.opn = [(id, t)] ∧ t.decided = true ∧ (lkp id.client d.kept).getD [] = [a] ∧ a.id = id ∧ a.err = (if no then 4 else 0) ∧ (no = false → a.vals.length = ops.length) ∧ a.vals.length ≤ 8
variable {id : IdM} {nn : Nat} {ops : List Oq} {left : Int} {dec no : Bool} {voted : List Bool} {d : DeskM}
theorem VU.ins {t : TransM} (vu : VU t) {v : VoteM} (hh : hasF t.parts v.shard = true) (hl : v.vals.length = (t.parts.getD v.shard.toNat []).length) : VU { t with votes := ins v.shard v t.votes } := by
 refine ⟨nodup_ins vu.nd, fun k' v' hk' => ?_⟩
 rw [lkp_ins] at hk'
 split at hk'
 · rename_i he
   subst he
   cases hk'
   exact ⟨hh, hl⟩
 · exact vu.each k' v' hk'
theorem lkp_one {κ α : Type} [DecidableEq κ] (k : κ) (x : α) : lkp k [(k, x)] = some x := by simp [lkp]
theorem ins_one {κ α : Type} [DecidableEq κ] (k : κ) (x y : α) : ins k y [(k, x)] = [(k, y)] := by simp [ins]
theorem ans_len (nn : Nat) (id : IdM) (t : TransM) : (ansOf nn id t).vals.length = if t.ok then t.ops.length else 0 := by
 unfold ansOf
 split <;> simp [valsF]
theorem VSt.step (ho : allO ops = true) (hn : 1 ≤ nn ∧ nn ≤ 3) (z : VSt id nn ops left dec no voted d) {s : Nat} (hs : s < nn) {v : VoteM} (h1 : v.id = id) (h2 : v.shard = s) (h3 : v.yes = true → v.vals.length = ((partsF ops nn).getD s []).length)
 {c now : Bool} {no' : Bool} {left' : Int} (hc : c = (!dec && hasF (partsF ops nn) s && !voted.getD s false)) (hno : no' = if c then no || !v.yes else no) (hleft : left' = if c then left - 1 else left) (hnow : now = (c && (no' || left' == 0))) :
 (voteV nn d v).1 = now ∧ VSt id nn ops left' (dec || now) no' (if c then voted.set s true else voted) (voteV nn d v).2 := by
 have h8 : ops.length ≤ 8 := by
  unfold allO at ho
  simp only [Bool.and_eq_true, decide_eq_true_eq] at ho
  exact ho.1.2
 cases dec with
 | true =>
  obtain ⟨t, a, e1, e2, e3⟩ := z.decd rfl
  have hv : voteV nn d v = (false, d) := by
   unfold voteV
   rw [h1, e1, lkp_one]
   simp [e2]
  simp only [Bool.not_true, Bool.false_and] at hc
  subst hc
  simp only [Bool.false_eq_true, if_false, Bool.false_and] at hno hleft hnow
  subst hno hleft hnow
  rw [hv]
  exact ⟨rfl, z⟩
 | false =>
 obtain ⟨hn0, votes, e1, e2, e3, e4, e5, e6⟩ := z.und rfl
 subst hn0
 have hl : lkp v.id d.opn = some { newTr ops nn with votes := votes } := by rw [h1, e1, lkp_one]
 have vu : VU { newTr ops nn with votes := votes } := z.dv.each v.id _ hl rfl
 have hsv : (lkp v.shard votes).isSome = voted.getD s false := by rw [h2, e3 s hs]
 have hlen : (v.yes && decide (v.vals.length ≠ ((partsF ops nn).getD v.shard.toNat []).length)) = false := by
  cases hy : v.yes with
  | false => rfl
  | true => rw [h2, Int.toNat_natCast, h3 hy]; simp
 simp only [Bool.not_false, Bool.true_and] at hc
 cases hcc : c with
 | false =>
  rw [hcc] at hc hno hleft hnow
  simp only [Bool.false_eq_true, if_false, Bool.false_and] at hno hleft hnow
  subst hno hleft hnow
  have hv : voteV nn d v = (false, d) := by
   unfold voteV
   rw [hl]
   have hz : (!hasF (partsF ops nn) v.shard || (lkp v.shard votes).isSome) = true := by
    rw [hsv, h2]
    cases hA : hasF (partsF ops nn) s with
    | false => rfl
    | true =>
     rw [hA] at hc
     cases hB : voted.getD s false with
     | true => rfl
     | false => rw [hB] at hc; cases hc
   show (if (false || !hasF (partsF ops nn) v.shard || (lkp v.shard votes).isSome || (v.yes && decide (v.vals.length ≠ ((partsF ops nn).getD v.shard.toNat []).length))) = true then (false, d) else _) = _
   rw [show (false || !hasF (partsF ops nn) v.shard || (lkp v.shard votes).isSome || (v.yes && decide (v.vals.length ≠ ((partsF ops nn).getD v.shard.toNat []).length))) = true from by rw [Bool.false_or, hz]; rfl]
   rfl
  rw [hv]
  refine ⟨rfl, ?_⟩
  simpa using z
 | true =>
 rw [hcc] at hc hno hleft hnow
 have hA : hasF (partsF ops nn) s = true := by
  cases hA : hasF (partsF ops nn) s with
  | true => rfl
  | false => rw [hA] at hc; cases hc
 have hB : voted.getD s false = false := by
  cases hB : voted.getD s false with
  | false => rfl
  | true => rw [hA, hB] at hc; cases hc
 have hnew : lkp v.shard votes = none := by
  rw [hB] at hsv
  cases hx : lkp v.shard votes with
  | none => rfl
  | some x => rw [hx] at hsv; cases hsv
 have hil : (ins v.shard v votes).length = votes.length + 1 := by rw [ins_new hnew]; simp
 simp only [if_true, Bool.false_or, Bool.true_and] at hno hleft hnow
 have hA' : hasF (partsF ops nn) v.shard = true := by rw [h2]; exact hA
 have hgo : voteV nn d v = if (v.yes && decide (votes.length + 1 < (shardsF (partsF ops nn)).length)) = true then (false, { d with opn := [(id, { newTr ops nn with votes := ins v.shard v votes })] })
  else (true, { d with opn := [(id, { newTr ops nn with votes := ins v.shard v votes, decided := true, ok := v.yes, nows := nowsOf nn { newTr ops nn with votes := ins v.shard v votes, decided := true, ok := v.yes } })], kept := [(id.client, [ansOf nn id { newTr ops nn with votes := ins v.shard v votes, decided := true, ok := v.yes }])] }) := by
  unfold voteV
  rw [hl]
  show (if (false || !hasF (partsF ops nn) v.shard || (lkp v.shard votes).isSome || (v.yes && decide (v.vals.length ≠ ((partsF ops nn).getD v.shard.toNat []).length))) = true then (false, d) else _) = _
  rw [show (false || !hasF (partsF ops nn) v.shard || (lkp v.shard votes).isSome || (v.yes && decide (v.vals.length ≠ ((partsF ops nn).getD v.shard.toNat []).length))) = false from by rw [hA', hnew, hlen]; rfl]
  rw [if_neg (by decide)]
  show (if (v.yes && decide ((ins v.shard v votes).length < (shardsF (partsF ops nn)).length)) = true then (false, { d with opn := ins v.id { newTr ops nn with votes := ins v.shard v votes } d.opn })
   else (true, { d with opn := ins v.id { newTr ops nn with votes := ins v.shard v votes, decided := true, ok := v.yes, nows := nowsOf nn { newTr ops nn with votes := ins v.shard v votes, decided := true, ok := v.yes } } d.opn, kept := ins v.id.client (keptL ((lkp v.id.client d.kept).getD []) (ansOf nn v.id { newTr ops nn with votes := ins v.shard v votes, decided := true, ok := v.yes })) d.kept })) = _
  rw [hil, h1, e1, e2, ins_one, ins_one]
  rfl
 have hset : ∀ k : Nat, k < nn → (voted.set s true).getD k false = (lkp (k : Int) (ins v.shard v votes)).isSome := by
  intro k hk
  rw [lkp_ins, List.getD_eq_getElem?_getD, List.getElem?_set, h2]
  by_cases hks : s = k
  · subst hks
    rw [if_pos rfl, if_pos (by rw [z.vl]; exact hs), if_pos rfl]
    rfl
  · rw [if_neg hks, if_neg (by omega), ← List.getD_eq_getElem?_getD, e3 k hk]
 have hk1 : (lkp id.client [(id.client, [ansOf nn id { newTr ops nn with votes := ins v.shard v votes, decided := true, ok := v.yes }])]).getD [] = [ansOf nn id { newTr ops nn with votes := ins v.shard v votes, decided := true, ok := v.yes }] := by
  rw [lkp_one]; rfl
 have diN : ∀ (t' : TransM), TInv nn t' → ∀ kk, DInv nn { d with opn := [(id, t')], kept := kk } := fun t' ht' kk => ⟨z.di.n, z.di.hn, fun id' t'' h => by
  simp only [lkp] at h
  split at h
  · cases h; exact ht'
  · cases h⟩
 have ti : ∀ votes' dc ok' nws, TInv nn { newTr ops nn with votes := votes', decided := dc, ok := ok', nows := nws } := fun _ _ _ _ => ⟨ho, rfl⟩
 rw [hgo]
 have h3' : v.yes = true → v.vals.length = ((partsF ops nn).getD v.shard.toNat []).length := fun hy => by rw [h2, Int.toNat_natCast]; exact h3 hy
 cases hy : v.yes with
 | true =>
  rw [hy] at hk1
  rw [hy] at hno
  simp only [Bool.not_true] at hno
  subst hno
  by_cases hf : votes.length + 1 < (shardsF (partsF ops nn)).length
  · have hw : now = false := by
     rw [hnow, hleft, Bool.false_or]
     exact beq_eq_false_iff_ne.2 (by omega)
    subst hw
    rw [if_pos (by simp [hf])]
    refine ⟨rfl, ⟨by simp [z.vl], ?_, ⟨fun id' t'' h hd => ?_, z.dv.kept⟩, z.last, fun _ => ⟨rfl, ins v.shard v votes, rfl, e2, ?_, by rw [hleft, hil]; omega, by rw [hil]; exact hf, fun k x hx => ?_⟩, fun h => by cases h⟩⟩
    · exact diN _ (ti _ _ _ _) _
    · simp only [lkp] at h
      split at h
      · cases h
        exact vu.ins hA' (h3' hy)
      · cases h
    · simpa using hset
    · rw [lkp_ins] at hx
      split at hx
      · cases hx; exact hy
      · exact e6 k x hx
  · have hw : now = true := by
     rw [hnow, hleft, Bool.false_or]
     exact beq_iff_eq.2 (by omega)
    subst hw
    rw [if_neg (by simp [hf])]
    refine ⟨rfl, ⟨by simp [z.vl], diN _ (ti _ _ _ _) _, ⟨fun id' t'' h hd => ?_, fun cc => ?_⟩, z.last, fun h => by simp at h, fun _ => ⟨_, _, rfl, rfl, hk1, ?_, ?_, fun _ => ?_, ?_⟩⟩⟩
    · simp only [lkp] at h
      split at h
      · cases h; cases hd
      · cases h
    · simp only [lkp]
      split <;> simp
    · unfold ansOf; simp [hy]
    · unfold ansOf; simp [hy]
    · rw [ans_len]; simp [hy, newTr]
    · rw [ans_len]; simp only [hy, if_true, newTr]; exact h8
 | false =>
  rw [hy] at hk1
  rw [hy] at hno
  simp only [Bool.not_false] at hno
  subst hno
  have hw : now = true := by rw [hnow]; rfl
  subst hw
  rw [if_neg (by simp)]
  refine ⟨rfl, ⟨by simp [z.vl], diN _ (ti _ _ _ _) _, ⟨fun id' t'' h hd => ?_, fun cc => ?_⟩, z.last, fun h => by simp at h, fun _ => ⟨_, _, rfl, rfl, hk1, ?_, ?_, (fun h => by cases h), ?_⟩⟩⟩
  · simp only [lkp] at h
    split at h
    · cases h; cases hd
    · cases h
  · simp only [lkp]
    split <;> simp
  · unfold ansOf; simp [hy]
  · unfold ansOf; simp [hy]
  · rw [ans_len]; simp [hy]
theorem VSt.answer (z : VSt id nn ops left dec no voted d) : (answerV d id).2 = dec ∧ (dec = true → (answerV d id).1.err = (if no then 4 else 0) ∧ (no = false → (answerV d id).1.vals.length = ops.length)) := by
 unfold answerV
 cases dec with
 | true =>
  obtain ⟨t, a, e1, e2, e3, e4, e5, e6, _⟩ := z.decd rfl
  rw [e3, List.find?_cons_of_pos (by simpa using e4)]
  exact ⟨rfl, fun _ => ⟨e5, e6⟩⟩
 | false =>
  obtain ⟨hn0, votes, e1, e2, _⟩ := z.und rfl
  have hs : staleV d id = false := by
   unfold staleV
   rw [e1, lkp_one]
   simp
  rw [e2, hs]
  exact ⟨rfl, fun h => by cases h⟩
end Go.Abs
namespace Go.Abs
open Go Go.Proofs
variable {E : FE} {h : AHeap}
theorem begun15_spec : cl (Go.Abs.F.estafettelaw15_begun E) [] h fun r h' => r = .bool true ∧ h' = h := cl_of ⟨rfl, rfl, rfl⟩
theorem guard2 {h0 : AHeap} {i n m : Int} (X : V → Prop) (hX : X (.bool (decide (i < n) && decide (i < m)))) :
 kv (gdV (.bool (decide (i < n))) true (some (i64 i))) fun v16 => kv (gdV (.bool (decide (i < n))) true (binD .bad .lss true v16 (.int .i64 m) h0)) fun v17 => kv (pickV (.bool (decide (i < n))) v17 (.bool false)) X := by
 by_cases h1 : i < n
 · simp only [h1, decide_true, gdV_bool, if_true, kv_some, bin_lss, pickV_bool, Bool.true_and] at hX ⊢
   exact hX
 · simp only [h1, decide_false, gdV_bool, Bool.false_eq_true, if_false, kv_some, pickV_bool, Bool.false_and] at hX ⊢
   exact hX
end Go.Abs
namespace Go.Abs
open Go Go.Proofs
variable {E : FE} {F : Fr} {h : AHeap} {L : List Pl}
abbrev opAK : Oq := ⟨3, ⟨#[97]⟩, ⟨#[107]⟩, ⟨#[]⟩, 0⟩
end Go.Abs
namespace Go.Abs
open Go Go.Proofs
variable {E : FE} {F : Fr} {h : AHeap} {L : List Pl}
def yesF (l : List Bool) (i : Nat) : Bool := decide (l.length ≤ i) || l.getD i false
def voteK (l : List Bool) (i : Nat) : VoteM := ⟨⟨3, (i : Int)⟩, 0, yesF l i, 0, if yesF l i then [⟨#[45]⟩] else []⟩
structure KInv (l : List Bool) (m : Nat) (d : DeskM) : Prop where
 n : d.n = ((1 : Nat) : Int)
 opn : d.opn = []
 last : (lkp 3 d.last).getD 0 = (m : Int)
 last2 : lkp 2 d.last = none
 kept2 : lkp 2 d.kept = none
 other : ∀ c, c ≠ 3 → lkp c d.kept = none
 kept : ((lkp 3 d.kept).getD []).map (fun a => (a.id, a.err)) = ((List.range m).drop (m - 8)).map fun j : Nat => ((⟨3, (j : Int) + 1⟩ : IdM), if yesF l (j + 1) then (0 : Int) else 4)
 vals : ∀ a ∈ (lkp 3 d.kept).getD [], a.vals.length ≤ 1
variable {l : List Bool} {m : Nat} {d : DeskM}
theorem KInv.len (k : KInv l m d) : ((lkp 3 d.kept).getD []).length ≤ 8 := by
 have := congrArg List.length k.kept
 simp only [List.length_map, List.length_drop, List.length_range] at this
 omega
def dB (d : DeskM) (m : Nat) : DeskM := { d with last := ins 3 ((m : Int) + 1) d.last, opn := [(⟨3, (m : Int) + 1⟩, newTr [opAK] 1)] }
def tV (l : List Bool) (m : Nat) : TransM := { newTr [opAK] 1 with votes := [(0, voteK l (m + 1))], decided := true, ok := yesF l (m + 1) }
def dV (l : List Bool) (d : DeskM) (m : Nat) : DeskM := { dB d m with
 opn := [(⟨3, (m : Int) + 1⟩, { tV l m with nows := nowsOf 1 (tV l m) })]
 kept := ins 3 (keptL ((lkp 3 d.kept).getD []) (ansOf 1 ⟨3, (m : Int) + 1⟩ (tV l m))) d.kept }
def dD (l : List Bool) (d : DeskM) (m : Nat) : DeskM := { dV l d m with opn := [] }
theorem drop_next {α : Type} {g : Nat → α} (m : Nat) : ((((List.range m).drop (m - 8)).map g ++ [g m]).drop ((m - (m - 8) + 1) - 8)) = ((List.range (m + 1)).drop (m + 1 - 8)).map g := by
 have h1 : ((List.range m).drop (m - 8)).map g ++ [g m] = ((List.range (m + 1)).drop (m - 8)).map g := by
  rw [List.range_succ, List.drop_append_of_le_length (by simp), List.map_append]
  rfl
 rw [h1, ← List.map_drop, List.drop_drop]
 congr 2
 omega
theorem KInv.next (k : KInv l m d) : KInv l (m + 1) (dD l d m) := by
 have hk : (lkp 3 (dD l d m).kept).getD [] = keptL ((lkp 3 d.kept).getD []) (ansOf 1 ⟨3, (m : Int) + 1⟩ (tV l m)) := by
  show (lkp 3 (ins 3 _ d.kept)).getD [] = _
  rw [lkp_ins, if_pos rfl]
  rfl
 have ha : (ansOf 1 ⟨3, (m : Int) + 1⟩ (tV l m)).id = ⟨3, (m : Int) + 1⟩ ∧ (ansOf 1 ⟨3, (m : Int) + 1⟩ (tV l m)).err = if yesF l (m + 1) then 0 else 4 := by
  unfold ansOf
  rw [show (tV l m).ok = yesF l (m + 1) from rfl]
  by_cases hy : yesF l (m + 1) = true <;> simp [hy]
 refine ⟨k.n, rfl, ?_, ?_, ?_, fun c hc => ?_, ?_, fun a haa => ?_⟩
 · show (lkp 3 (ins 3 ((m : Int) + 1) d.last)).getD 0 = _
   rw [lkp_ins, if_pos rfl]
   simp
 · show lkp 2 (ins 3 ((m : Int) + 1) d.last) = none
   rw [lkp_ins, if_neg (by decide)]
   exact k.last2
 · show lkp 2 (ins 3 _ d.kept) = none
   rw [lkp_ins, if_neg (by decide)]
   exact k.kept2
 · show lkp c (ins 3 _ d.kept) = none
   rw [lkp_ins, if_neg (fun e => hc e.symm)]
   exact k.other c hc
 · rw [hk]
   have hl : ((lkp 3 d.kept).getD []).length = m - (m - 8) := by
    have := congrArg List.length k.kept
    simpa only [List.length_map, List.length_drop, List.length_range] using this
   unfold keptL
   rw [List.map_drop, List.map_append, k.kept, List.length_append, hl, List.length_singleton, List.map_singleton, ha.1, ha.2]
   exact drop_next (g := fun j : Nat => ((⟨3, (j : Int) + 1⟩ : IdM), if yesF l (j + 1) then (0 : Int) else 4)) m
 · rw [hk] at haa
   unfold keptL at haa
   rcases List.mem_append.1 (List.mem_of_mem_drop haa) with h1 | h1
   · exact k.vals a h1
   · rw [List.mem_singleton.1 h1]
     unfold ansOf
     split
     · show (valsF [opAK] 1 _).length ≤ 1
       simp [valsF]
     · simp
end Go.Abs
namespace Go.Abs
open Go Go.Proofs
variable {E : FE} {F : Fr} {h : AHeap} {L : List Pl}
theorem len_str (x : ByteArray) (h : AHeap) : lenD .str (str x) h = some (i64 (x.size : Nat)) := rfl
theorem ref12_small (s : ByteArray) (hsz : s.size ≤ maxLen) : cl (Go.Abs.F.estafetteref12_small E) [str s] h fun r h' => h' = h ∧ r = .bool (smallT s && decide (1 ≤ s.size) && decide (s.size ≤ 20)) := by
 have hM : maxLen ≤ 9223372036854775807 := by decide
 refine cl_of ?_
 simp only [Go.Abs.F.estafetteref12_small]
 refine ⟨fun n vs h' => ∃ i : Nat, vs = [i64 i] ∧ n = s.size - i ∧ i ≤ s.size ∧ h' = h ∧ ∀ j, j < i → small1 (s.get! j) = true, s.size, ⟨0, rfl, rfl, by omega, rfl, fun j hj => by omega⟩, ?_⟩
 rintro n e h1 ⟨i, he, rfl, hi, rfl, hs⟩
 simp only [List.cons.injEq, and_true] at he
 simp only [he, len_str, kv_some, bin_lss, ifV_bool, decide_eq_true_eq]
 by_cases hx : i < s.size
 case neg =>
  rw [if_neg (show ¬ ((i : Nat) : Int) < (s.size : Nat) by omega)]
  have hsm : smallT s = true := smallT_of fun j hj => hs j (by omega)
  rw [hsm]
  by_cases h1 : 1 ≤ s.size
  · have h1' : ((s.size : Nat) : Int) ≥ 1 := by omega
    have e2 : decide (((s.size : Nat) : Int) ≤ 20) = decide (s.size ≤ 20) := by
     by_cases hz : s.size ≤ 20
     · rw [decide_eq_true hz]; exact decide_eq_true (by omega)
     · rw [decide_eq_false hz]; exact decide_eq_false (by omega)
    simp only [bin_geq, h1, h1', decide_true, kv_some, gdV_bool, if_true, len_str, bin_leq, pickV_bool, e2, Bool.true_and]
    constructor <;> first | rfl | trivial
  · have h1' : ¬ ((s.size : Nat) : Int) ≥ 1 := by omega
    simp only [bin_geq, h1, h1', decide_false, kv_some, gdV_bool, Bool.false_eq_true, if_false, pickV_bool, Bool.true_and, Bool.false_and]
    constructor <;> first | rfl | trivial
 rw [if_pos (show ((i : Nat) : Int) < (s.size : Nat) by omega)]
 have e8 := index_str s i hx
 rw [e8, kv_some]
 have hbad : small1 (s.get! i) = false → smallT s = false := fun hb => smallT_not hx hb
 have hgo : small1 (s.get! i) = true → kv (binD .bad .add true (i64 (i : Nat)) (.int .i64 1) h1) fun v9 => ∃ m, m < s.size - i ∧ ∃ i' : Nat, [v9] = [i64 i'] ∧ m = s.size - i' ∧ i' ≤ s.size ∧ h1 = h1 ∧ ∀ j, j < i' → small1 (s.get! j) = true := fun hb => by
  rw [add_i64 _ 1 (by omega) (by omega), kv_some]
  exact ⟨s.size - (i + 1), by omega, i + 1, rfl, rfl, by omega, rfl, fun j hj => by
   by_cases hji : j = i
   · rw [hji]; exact hb
   · exact hs j (by omega)⟩
 unfold small1 at hbad hgo
 generalize s.get! i = c at hbad hgo e8 ⊢
 simp only [bin_lss, bin_gtr, kv_some]
 by_cases c1 : c.toNat < 97
 · have c1' : ((c.toNat : Nat) : Int) < 97 := by omega
   have hb := hbad (by simp; omega)
   simp only [c1', decide_true, gdV_bool, Bool.true_eq_false, if_false, kv_some, pickV_bool, if_true, ifV_bool, hb, Bool.false_and]
   exact ⟨trivial, trivial⟩
 have c1' : ¬ ((c.toNat : Nat) : Int) < 97 := by omega
 have e9 : (decide (((c.toNat : Nat) : Int) > 122)) = !decide (c.toNat ≤ 122) := by
  by_cases hz : c.toNat ≤ 122
  · rw [decide_eq_true hz]; exact decide_eq_false (by omega)
  · rw [decide_eq_false hz]; exact decide_eq_true (by omega)
 simp only [c1', decide_false, gdV_bool, if_true, kv_some, e8, bin_gtr, pickV_bool, Bool.false_eq_true, if_false, ifV_bool, e9]
 by_cases c2 : c.toNat ≤ 122
 · simp only [c2, decide_true, Bool.not_true, Bool.false_eq_true, if_false]
   have := hgo (by simp; omega)
   rw [add_i64 _ 1 (by omega) (by omega), kv_some] at this ⊢
   obtain ⟨m, h1, i', h2, h3, h4, _, h5⟩ := this
   exact ⟨m, h1, i', h2, h3, h4, trivial, h5⟩
 · have hb := hbad (by simp; omega)
   simp only [c2, decide_false, Bool.not_false, if_true, hb, Bool.false_and]
   exact ⟨trivial, trivial⟩
theorem or_join {a b : Bool} {h : AHeap} {x : Nat} {A B : AHeap → Prop} (hP : if (a || b) = true then A h else B h) :
 ∃ K : List V → AHeap → Prop, (if a = true then K [.bool a] h else K [.bool b] h) ∧ ∀ (e : Nat → V) (h : AHeap), K [e x] h → ifV (e x) (A h) (B h) := by
 refine ⟨fun vs g => vs = [.bool (a || b)] ∧ g = h, ?_, ?_⟩
 · cases a <;> simp
 · rintro e g ⟨he, rfl⟩
   simp only [List.cons.injEq, and_true] at he
   rw [he, ifV_bool]
   exact hP
set_option maxHeartbeats 2000000 in
theorem ref12_May (o : Oq) (hsz : o.space.size ≤ maxLen) : cl (Go.Abs.F.estafetteref12_May E) [o.agg] h fun r h' => r = .bool (mayO o) ∧ Mod h [] h' [] := by
 refine cl_of ?_
 simp only [Go.Abs.F.estafetteref12_May, new5, kP_some]
 generalize hh : h.new (.cells o.cells 5 .rw) = h1
 have m1 : Mod h [] h1 [] := by
  rw [← hh]
  exact ⟨by simp, fun x hx _ => by have : x ≠ h.next := by omega
                                   simp [this], by simp, by simp⟩
 have g : h1.get h.next = some (.cells o.cells 5 .rw) := by rw [← hh]; simp
 have r0 : h1.rd h.next 0 = some (i64 o.fn) := rd_of g 0
 have r1 : h1.rd h.next 1 = some (str o.space) := rd_of g 1
 have r2 : h1.rd h.next 2 = some (str o.key) := rd_of g 2
 have r3 : h1.rd h.next 3 = some (str o.val) := rd_of g 3
 have r4 : h1.rd h.next 4 = some (i64 o.n) := rd_of g 4
 clear g hh
 generalize h.next = bx at r0 r1 r2 r3 r4 ⊢
 simp only [fieldAddr_ptr, Nat.zero_add, kv_some, ld_one, r1]
 refine cl_then (ref12_small o.space hsz) ?_
 rintro r h2 ⟨rfl, rfl⟩
 obtain ⟨fn, sp, key, val, n⟩ := o
 simp only at r0 r1 r2 r3 r4 ⊢
 have e0 : mayO ⟨fn, sp, key, val, n⟩ = ((smallT sp && decide (1 ≤ sp.size) && decide (sp.size ≤ 20)) && (decide (key.size ≤ 20) && decide (val.size ≤ 100) && decide (0 ≤ n) && decide (n ≤ 1099511627776)) &&
  (decide (1 ≤ fn) && decide (fn ≤ 12) && ((namesO fn).1 || decide (key.size = 0)) && ((namesO fn).2.1 || decide (val.size = 0)) && ((namesO fn).2.2 || decide (n = 0)) && (decide (fn ≠ 1) || makesO ⟨fn, sp, key, val, n⟩))) := by
  simp only [mayO]
  cases decide (1 ≤ fn) <;> cases decide (fn ≤ 12) <;> cases smallT sp <;> cases decide (1 ≤ sp.size) <;> cases decide (sp.size ≤ 20) <;> cases decide (key.size ≤ 20) <;> cases decide (val.size ≤ 100) <;> cases decide (0 ≤ n) <;> cases decide (n ≤ 1099511627776) <;> simp
 rw [e0]
 generalize hA : (smallT sp && decide (1 ≤ sp.size) && decide (sp.size ≤ 20)) = A
 cases A with
 | false =>
  simp only [not_bool, Bool.not_false, kv_some, gdV_bool, Bool.true_eq_false, if_false, pickV_bool, if_true, ifV_bool, Bool.false_and]
  exact ⟨trivial, m1⟩
 | true =>
 simp only [not_bool, Bool.not_true, kv_some, gdV_bool, if_true, pickV_bool, Bool.false_eq_true, if_false, fieldAddr_ptr, Nat.zero_add, ld_one, r2, r3, r4, len_str, bin_gtr, bin_lss, Bool.true_and]
 by_cases k1 : key.size ≤ 20
 case neg =>
  have k1' : ((key.size : Nat) : Int) > 20 := by omega
  simp only [k1, k1', decide_true, decide_false, gdV_bool, Bool.true_eq_false, if_false, kv_some, pickV_bool, if_true, ifV_bool, Bool.false_and]
  exact ⟨trivial, m1⟩
 have k1' : ¬ ((key.size : Nat) : Int) > 20 := by omega
 by_cases k2 : val.size ≤ 100
 case neg =>
  have k2' : ((val.size : Nat) : Int) > 100 := by omega
  simp only [k1, k1', k2, k2', decide_true, decide_false, gdV_bool, Bool.true_eq_false, if_false, kv_some, pickV_bool, if_true, ifV_bool, Bool.false_and, Bool.and_false, Bool.true_and, fieldAddr_ptr, Nat.zero_add, ld_one, r3, len_str, bin_gtr, Bool.false_eq_true]
  exact ⟨trivial, m1⟩
 have k2' : ¬ ((val.size : Nat) : Int) > 100 := by omega
 by_cases k3 : 0 ≤ n
 case neg =>
  have k3' : n < 0 := by omega
  simp only [k1, k1', k2, k2', k3, k3', decide_true, decide_false, gdV_bool, Bool.true_eq_false, if_false, kv_some, pickV_bool, if_true, ifV_bool, Bool.false_and, Bool.and_false, Bool.true_and, fieldAddr_ptr, Nat.zero_add, ld_one, r3, r4, len_str, bin_gtr, bin_lss, Bool.false_eq_true]
  exact ⟨trivial, m1⟩
 have k3' : ¬ n < 0 := by omega
 by_cases k4 : n ≤ 1099511627776
 case neg =>
  have k4' : n > 1099511627776 := by omega
  simp only [k1, k1', k2, k2', k3, k3', k4, k4', decide_true, decide_false, gdV_bool, Bool.true_eq_false, if_false, kv_some, pickV_bool, if_true, ifV_bool, Bool.false_and, Bool.and_false, Bool.true_and, fieldAddr_ptr, Nat.zero_add, ld_one, r3, r4, len_str, bin_gtr, bin_lss, Bool.false_eq_true]
  exact ⟨trivial, m1⟩
 have k4' : ¬ n > 1099511627776 := by omega
 simp only [k1, k1', k2, k2', k3, k3', k4, k4', decide_true, decide_false, gdV_bool, Bool.true_eq_false, if_false, kv_some, pickV_bool, if_true, ifV_bool, Bool.false_and, Bool.and_false, Bool.true_and, fieldAddr_ptr, Nat.zero_add, ld_one, r0, r2, r3, r4, len_str, bin_gtr, bin_lss, Bool.false_eq_true, str_nonnil, bin_neq, bin_eql]
 have nz : (n != 0) = !decide (n = 0) := by
  by_cases hz : n = 0
  · subst hz; rfl
  · simp [hz]
 by_cases f1 : fn = 1
 · subst f1
   have en : namesO 1 = (true, false, true) := rfl
   have eq1 : ((1 : Int) == 1) = true := rfl
   rw [if_pos eq1]
   have em : makesO ⟨1, sp, key, val, n⟩ = (decide (1 ≤ n) && decide (n ≤ 3) && (digitK key || (decide (key.size = 0) && decide (n ≠ 2)))) := rfl
   rw [em]
   by_cases kk1 : key.size = 1
   · have hb : (((key.size : Nat) : Int) == 1) = true := by rw [kk1]; rfl
     have hi : indexD .str (str key) (.int .i64 0) = some (.int .u8 (key.get! 0).toNat) := index_str key 0 (by omega)
     rw [digit_eq kk1]
     generalize (key.get! 0).toNat = c at hi ⊢
     have k0 : ¬ key.size = 0 := by omega
     by_cases c1 : 49 ≤ c <;> by_cases c2 : c ≤ 57 <;> by_cases n1 : 1 ≤ n <;> by_cases n3 : n ≤ 3 <;> by_cases v0 : val.size = 0 <;>
      simp [hb, hi, r2, r4, len_str, gdV_bool, pickV_bool, en, m1, k0, c1, c2, n1, n3, v0, show ((49 : Int) ≤ (c : Int)) ↔ 49 ≤ c by omega, show ((c : Int) ≤ (57 : Int)) ↔ c ≤ 57 by omega]
   · have hb : (((key.size : Nat) : Int) == 1) = false := by
      cases hc : (((key.size : Nat) : Int) == 1) with
      | false => rfl
      | true => rw [beq_iff_eq] at hc; omega
     rw [digit_no kk1]
     by_cases k0 : key.size = 0 <;> by_cases n1 : 1 ≤ n <;> by_cases n3 : n ≤ 3 <;> by_cases v0 : val.size = 0 <;> by_cases n2 : n = 2 <;>
      simp [hb, r2, r4, len_str, gdV_bool, pickV_bool, en, m1, k0, n1, n3, v0, n2]
 rw [if_neg (show ¬ (fn == 1) = true by simpa using f1)]
 refine or_join ?_
 by_cases f2 : fn = 2 ∨ fn = 9
 · have b2 : (fn == 2 || fn == 9) = true := by simpa using f2
   have en : namesO fn = (false, false, false) := by rcases f2 with rfl | rfl <;> rfl
   have h1 : 1 ≤ fn ∧ fn ≤ 12 := by omega
   rw [if_pos b2]
   simp only [not_bool, Bool.not_not, kv_some, en, f1, h1.1, h1.2, decide_true, Bool.false_or, Bool.true_and, ne_eq, not_false_eq_true, Bool.true_or, Bool.and_true, nz, gdV_bool]
   generalize decide (key.size = 0) = A
   generalize decide (val.size = 0) = B
   generalize decide (n = 0) = C
   cases A <;> cases B <;> cases C <;> simp [m1, gdV_bool, pickV_bool]
 rw [if_neg (show ¬ (fn == 2 || fn == 9) = true by simpa using f2)]
 refine or_join ?_
 by_cases f3 : fn = 3 ∨ fn = 5
 · have en : namesO fn = (true, false, false) := by rcases f3 with rfl | rfl <;> rfl
   have h1 : 1 ≤ fn ∧ fn ≤ 12 := by omega
   rw [if_pos (show (fn == 3 || fn == 5) = true by simpa using f3)]
   simp only [not_bool, Bool.not_not, kv_some, en, f1, h1.1, h1.2, decide_true, Bool.false_or, Bool.true_and, ne_eq, not_false_eq_true, Bool.true_or, Bool.and_true, nz, gdV_bool]
   generalize decide (val.size = 0) = B
   generalize decide (n = 0) = C
   cases B <;> cases C <;> simp [m1, gdV_bool, pickV_bool]
 rw [if_neg (show ¬ (fn == 3 || fn == 5) = true by simpa using f3)]
 by_cases f4 : fn = 4
 · subst f4
   have eq4 : ((4 : Int) == 4) = true := rfl
   have en : namesO 4 = (true, true, false) := rfl
   rw [if_pos eq4]
   simp only [not_bool, Bool.not_not, kv_some, en, f1, decide_true, Bool.false_or, Bool.true_and, ne_eq, not_false_eq_true, Bool.true_or, Bool.and_true, nz]
   exact ⟨by first | rfl | trivial | simp, m1⟩
 rw [if_neg (show ¬ (fn == 4) = true by simpa using f4)]
 refine or_join ?_
 by_cases f6 : fn = 6 ∨ fn = 10
 · have en : namesO fn = (false, true, false) := by rcases f6 with rfl | rfl <;> rfl
   have h1 : 1 ≤ fn ∧ fn ≤ 12 := by omega
   rw [if_pos (show (fn == 6 || fn == 10) = true by simpa using f6)]
   simp only [not_bool, Bool.not_not, kv_some, en, f1, h1.1, h1.2, decide_true, Bool.false_or, Bool.true_and, ne_eq, not_false_eq_true, Bool.true_or, Bool.and_true, nz, gdV_bool]
   generalize decide (key.size = 0) = B
   generalize decide (n = 0) = C
   cases B <;> cases C <;> simp [m1, gdV_bool, pickV_bool]
 rw [if_neg (show ¬ (fn == 6 || fn == 10) = true by simpa using f6)]
 by_cases f7 : fn = 7
 · subst f7
   have eq7 : ((7 : Int) == 7) = true := rfl
   have en : namesO 7 = (false, false, true) := rfl
   rw [if_pos eq7]
   simp only [not_bool, Bool.not_not, kv_some, en, f1, decide_true, Bool.false_or, Bool.true_and, ne_eq, not_false_eq_true, Bool.true_or, Bool.and_true, nz, gdV_bool]
   generalize decide (key.size = 0) = B
   generalize decide (val.size = 0) = C
   cases B <;> cases C <;> simp [m1, gdV_bool, pickV_bool]
 rw [if_neg (show ¬ (fn == 7) = true by simpa using f7)]
 refine or_join ?_
 by_cases f8 : fn = 8 ∨ fn = 11
 · have en : namesO fn = (true, false, true) := by rcases f8 with rfl | rfl <;> rfl
   have h1 : 1 ≤ fn ∧ fn ≤ 12 := by omega
   rw [if_pos (show (fn == 8 || fn == 11) = true by simpa using f8)]
   simp only [not_bool, Bool.not_not, kv_some, en, f1, h1.1, h1.2, decide_true, Bool.false_or, Bool.true_and, ne_eq, not_false_eq_true, Bool.true_or, Bool.and_true, nz, gdV_bool]
   exact ⟨by first | rfl | trivial | simp, m1⟩
 rw [if_neg (show ¬ (fn == 8 || fn == 11) = true by simpa using f8)]
 by_cases f12 : fn = 12
 · subst f12
   have eq12 : ((12 : Int) == 12) = true := rfl
   have en : namesO 12 = (true, true, true) := rfl
   rw [if_pos eq12]
   simp [en, m1]
 rw [if_neg (show ¬ (fn == 12) = true by simpa using f12)]
 have hno : (decide (1 ≤ fn) && decide (fn ≤ 12)) = false := by
  simp only [Bool.and_eq_false_iff, decide_eq_false_iff_not]
  omega
 rw [hno]
 simp [m1]
theorem ref12_All {fp : List Nat} {v : V} {l : List Oq} (s : SlE dOp h fp v l) (hsz : l.length ≤ 1000000) (hz : ∀ o ∈ l, o.space.size ≤ maxLen) :
 cl (Go.Abs.F.estafetteref12_All E) [v] h fun r h' => r = .bool (allO l) ∧ Mod h [] h' [] := by
 refine cl_of ?_
 simp only [Go.Abs.F.estafetteref12_All]
 refine ⟨fun n vs h' => ∃ i : Nat, vs = [i64 i] ∧ n = l.length - i ∧ i ≤ l.length ∧ Mod h [] h' [] ∧ ∀ o ∈ l.take i, mayO o = true, l.length, ⟨0, rfl, rfl, by omega, Mod.refl (by simp), by simp⟩, ?_⟩
 rintro n e h1 ⟨i, he, rfl, hi, m1, hm⟩
 simp only [List.cons.injEq, and_true] at he
 have s1 := s.mod m1 (by simp)
 simp only [he, s1.len, kv_some, bin_lss, ifV_bool, decide_eq_true_eq]
 by_cases hx : i < l.length
 case neg =>
  rw [if_neg (show ¬ ((i : Nat) : Int) < (l.length : Nat) by omega)]
  have ha : l.all mayO = true := by
   rw [List.all_eq_true]
   rw [List.take_of_length_le (by omega)] at hm
   exact hm
  unfold allO
  rw [ha, Bool.and_true]
  have e1 : decide (((l.length : Nat) : Int) ≥ 1) = decide (1 ≤ l.length) := by
   by_cases hz : 1 ≤ l.length
   · rw [decide_eq_true hz]; exact decide_eq_true (by omega)
   · rw [decide_eq_false hz]; exact decide_eq_false (by omega)
  have e2 : decide (((l.length : Nat) : Int) ≤ 8) = decide (l.length ≤ 8) := by
   by_cases hz : l.length ≤ 8
   · rw [decide_eq_true hz]; exact decide_eq_true (by omega)
   · rw [decide_eq_false hz]; exact decide_eq_false (by omega)
  simp only [bin_geq, kv_some, e1]
  cases decide (1 ≤ l.length) with
  | false =>
   simp only [gdV_bool, Bool.false_eq_true, if_false, kv_some, pickV_bool, Bool.false_and]
   exact ⟨trivial, m1⟩
  | true =>
   simp only [gdV_bool, if_true, kv_some, s1.len, bin_leq, e2, pickV_bool, Bool.true_and]
   exact ⟨trivial, m1⟩
 rw [if_pos (show ((i : Nat) : Int) < (l.length : Nat) by omega)]
 have hg : l[i]? = some l[i] := List.getElem?_eq_getElem hx
 obtain ⟨b, i1, i2⟩ := s1.ld hg
 have i1 : indexAddrD (.slice 5) v (i64 (i : Nat)) = some (ptr b (i * 5)) := i1
 have hmem : l[i] ∈ l := List.getElem_mem hx
 have htk : l.take (i + 1) = l.take i ++ [l[i]] := by rw [List.take_add_one, hg]; rfl
 generalize l[i] = o at i2 hmem htk
 have i2 : ldD (.agg 5) (ptr b (i * 5)) h1 = some o.agg := i2
 rw [i1, kv_some, i2, kv_some]
 refine cl_then (ref12_May o (hz o hmem)) ?_
 rintro r h2 ⟨rfl, m2⟩
 rw [not_bool, kv_some, ifV_bool]
 cases hmo : mayO o with
 | false =>
  have : allO l = false := by
   unfold allO
   have : l.all mayO = false := by
    cases hh : l.all mayO with
    | false => rfl
    | true => rw [List.all_eq_true] at hh; rw [hh o hmem] at hmo; cases hmo
   rw [this, Bool.and_false]
  simp only [Bool.not_false, if_true, this]
  exact ⟨trivial, m1.trans m2⟩
 | true =>
  simp only [Bool.not_true, Bool.false_eq_true, if_false]
  rw [add_i64 _ 1 (by omega) (by omega), kv_some]
  refine ⟨l.length - (i + 1), by omega, i + 1, rfl, rfl, by omega, m1.trans m2, fun o' ho' => ?_⟩
  rw [htk] at ho'
  rcases List.mem_append.1 ho' with ho' | ho'
  · exact hm o' ho'
  · rw [List.mem_singleton.1 ho']; exact hmo
end Go.Abs
namespace Go.Abs
open Go Go.Proofs
variable {E : FE} {F : Fr} {h : AHeap} {L : List Pl}
theorem ref1_bytes {bx c : Nat} {l : List UInt8} {k : BK} (hg : h.get bx = some (.cells (l.map fun x => .int .u8 x.toNat) 1 k)) (hl : l.length ≤ 1000000000) :
 cl (Go.Abs.F.estafetteref1_Mark E) [.slice (some ⟨bx, 0, none⟩) l.length c] h fun r h' => h' = h ∧ r = .int .u32 (((l.foldl markS (1, 0)).2 * 65536 + (l.foldl markS (1, 0)).1 : Nat) : Int) := by
 refine cl_of ?_
 simp only [Go.Abs.F.estafetteref1_Mark]
 refine cl_of ?_
 have ln : lenD .slice (.slice (some ⟨bx, 0, none⟩) l.length c) h = some (i64 (l.length : Nat)) := rfl
 have c1 : binD .bad .rem true (.int .u32 1) (.int .u32 65536) h = some (.int .u32 1) := by rfl
 have c2 : binD .bad .rem true (.int .u32 1) (.int .u32 65521) h = some (.int .u32 1) := by rfl
 have c3 : binD .bad .quo true (.int .u32 1) (.int .u32 65536) h = some (.int .u32 0) := by rfl
 have c4 : binD .bad .rem true (.int .u32 0) (.int .u32 65521) h = some (.int .u32 0) := by rfl
 simp only [Go.Abs.F.estafetteref1_Add, c1, c2, c3, c4, kv_some]
 refine ⟨fun n vs h' => h' = h ∧ ∃ i : Nat, i ≤ l.length ∧ n = l.length - i ∧ vs = [.int .u32 (((l.take i).foldl markS (1, 0)).1 : Nat), .int .u32 (((l.take i).foldl markS (1, 0)).2 : Nat), i64 i], l.length, ⟨rfl, 0, by omega, by omega, rfl⟩, ?_⟩
 rintro n e h1 ⟨rfl, i, hi, rfl, he⟩
 simp only [List.cons.injEq, and_true] at he
 obtain ⟨he1, he2, he3⟩ := he
 obtain ⟨b1, b2⟩ := mark_lt (l.take i) (1, 0) (by decide) (by decide)
 simp only [he1, he2, he3, ln, bin_lss, kv_some, ifV_bool, decide_eq_true_eq]
 by_cases hx : i < l.length
 · rw [if_pos (show ((i : Nat) : Int) < (l.length : Nat) by omega)]
   have hg2 : l[i]? = some l[i] := List.getElem?_eq_getElem hx
   have e1 : indexAddrD (.slice 1) (.slice (some ⟨bx, 0, none⟩) l.length c) (i64 i) = some (ptr bx i) := by
    have b3 : (0 : Int) ≤ (i : Int) ∧ (i : Int) < (l.length : Nat) := by omega
    simp only [indexAddrD, if_pos b3, Int.toNat_natCast, Nat.zero_add, Nat.mul_one]
   have e2 : ldD .one (ptr bx i) h1 = some (.int .u8 (l[i]).toNat) := by
    rw [ld_one, rd_of hg i, List.getElem?_map, hg2]
    rfl
   have hstep : (l.take (i + 1)).foldl markS (1, 0) = markS ((l.take i).foldl markS (1, 0)) l[i] := by
    rw [List.take_add_one, hg2, Option.toList_some, List.foldl_append]
    rfl
   generalize (l.take i).foldl markS (1, 0) = p at b1 b2 hstep ⊢
   have hc := (l[i]).toNat_lt
   generalize l[i] = ch at e2 hstep hc ⊢
   rw [e1, kv_some, e2, kv_some]
   have e3 : (convD (.int .u32) (.int .u8 (ch.toNat : Nat)) h1).map (·.1) = some (.int .u32 (ch.toNat : Nat)) := by
    simp only [convD, Option.map_some]
    rw [wrap32 (by omega) (by omega)]
   rw [e3, kv_some]
   have e4 : IntKind.wrap .u32 ((p.1 : Nat) + (ch.toNat : Nat) : Int) = ((p.1 + ch.toNat : Nat) : Int) := by
    rw [wrap32 (by omega) (by omega)]
    omega
   simp only [bin_add, e4, kv_some, bin_rem]
   rw [if_neg (by decide), kv_some]
   have e5 : ((p.1 + ch.toNat : Nat) : Int).tmod 65521 = (((p.1 + ch.toNat) % 65521 : Nat) : Int) := tmod_nat _ 65521
   rw [e5]
   have hlt := Nat.mod_lt (p.1 + ch.toNat) (show 65521 > 0 by decide)
   have e6 : IntKind.wrap .u32 ((p.2 : Nat) + (((p.1 + ch.toNat) % 65521 : Nat) : Int) : Int) = ((p.2 + (p.1 + ch.toNat) % 65521 : Nat) : Int) := by
    rw [wrap32 (by omega) (by omega)]
    omega
   simp only [bin_add, e6, kv_some, bin_rem]
   rw [if_neg (by decide), kv_some]
   have e7 : ((p.2 + (p.1 + ch.toNat) % 65521 : Nat) : Int).tmod 65521 = (((p.2 + (p.1 + ch.toNat) % 65521) % 65521 : Nat) : Int) := tmod_nat _ 65521
   have e8 : IntKind.wrap .i64 ((i : Nat) + 1 : Int) = ((i + 1 : Nat) : Int) := by
    have := add_i64 (h := h1) (k := .bad) (c := true) (i : Nat) 1 (by omega) (by omega)
    simpa using this
   rw [e7, e8]
   exact ⟨l.length - (i + 1), by omega, trivial, i + 1, by omega, rfl, by rw [hstep]; rfl⟩
 · rw [if_neg (show ¬ ((i : Nat) : Int) < (l.length : Nat) by omega)]
   have hl : l.take i = l := List.take_of_length_le (by omega)
   rw [hl] at b1 b2 ⊢
   generalize l.foldl markS (1, 0) = p at b1 b2 ⊢
   have e4 : IntKind.wrap .u32 ((p.2 : Nat) * 65536 : Int) = ((p.2 * 65536 : Nat) : Int) := by
    rw [wrap32 (by omega) (by omega)]
    omega
   have e5 : IntKind.wrap .u32 (((p.2 * 65536 : Nat) : Int) + (p.1 : Nat)) = ((p.2 * 65536 + p.1 : Nat) : Int) := by
    rw [wrap32 (by omega) (by omega)]
    omega
   simp only [bin_mul, e4, kv_some, bin_add, e5]
   exact ⟨trivial, trivial⟩
theorem ref1_Shard (s : ByteArray) (hs : s.size ≤ 1000000000) (n : Nat) (hn : 1 ≤ n ∧ n ≤ 1000) : cl (Go.Abs.F.estafetteref1_Shard E) [str s, i64 n] h fun r h' => r = i64 ((markN s % n : Nat) : Int) ∧ Mod h [] h' [] := by
 refine cl_of ?_
 have hn1 : ¬ (n : Int) < 1 := by omega
 have hb : convD .toBytes (str s) h = some (.slice (some ⟨h.next, 0, none⟩) s.size (2 * s.size + 1), h.new (.cells (s.data.toList.map fun x => .int .u8 x.toNat) 1 .str)) := rfl
 simp only [Go.Abs.F.estafetteref1_Shard, bin_lss, kv_some, hn1, decide_false, ifV_bool, Bool.false_eq_true, if_false, hb, kP_some]
 have hm : Mod h [] (h.new (.cells (s.data.toList.map fun x => .int .u8 x.toNat) 1 .str)) [] := ⟨by simp, fun x hx _ => by
  have : x ≠ h.next := by omega
  simp [this], by simp, by simp⟩
 have hg : (h.new (.cells (s.data.toList.map fun x => (.int .u8 x.toNat : V)) 1 .str)).get h.next = some (.cells (s.data.toList.map fun x => .int .u8 x.toNat) 1 .str) := by simp
 have hlen : s.data.toList.length = s.size := by rw [Array.length_toList]; rfl
 have hmk := ref1_bytes (E := E) (c := 2 * s.size + 1) hg (by omega)
 rw [hlen] at hmk
 refine cl_then hmk ?_
 rintro r h1 ⟨rfl, rfl⟩
 have hN : (s.data.toList.foldl markS (1, 0)).2 * 65536 + (s.data.toList.foldl markS (1, 0)).1 = markN s := rfl
 rw [hN]
 have hlt : markN s < 4294967296 := by
  have := mark_lt s.data.toList (1, 0) (by decide) (by decide)
  unfold markN
  omega
 have w64 : ∀ x : Nat, x < 4294967296 → IntKind.wrap .u64 (x : Int) = x := fun x hx => by simp [IntKind.wrap, IntKind.bits, IntKind.signed]; omega
 have wi64 : ∀ x : Nat, x < 4294967296 → IntKind.wrap .i64 (x : Int) = x := fun x hx => by
  have := add_i64 (h := h) (k := .bad) (c := true) (x : Nat) 0 (by omega) (by omega)
  simpa using this
 simp only [convD, Option.map_some, kv_some, bin_rem]
 rw [if_neg (by omega), kv_some, wi64 _ hlt, tmod_nat]
 exact ⟨rfl, hm⟩
theorem ref12_Parts {v : V} {l : List Oq} {n : Nat} (hn : 1 ≤ n ∧ n ≤ 3) (hl : l.length ≤ 100000) (hz : ∀ o ∈ l, o.space.size ≤ 1000000000) (s : Sep F h (plOps v l :: L)) :
 cl (Go.Abs.F.estafetteref12_Parts E) [v, i64 n] h fun r h' => Sep F h' (plPts r (partsF l n) :: plOps v l :: L) := by
 refine cl_of ?_
 have h1 : ¬ (n : Int) < 1 := by omega
 have h3 : ¬ (n : Int) > 3 := by omega
 simp only [Go.Abs.F.estafetteref12_Parts, bin_lss, bin_gtr, kv_some, gdV_bool, h1, h3, decide_false, if_true, pickV_bool, Bool.false_eq_true, if_false, ifV_bool]
 refine parts_make hn s fun w h1 s1 _ => ?_
 obtain ⟨f0, q0, _⟩ := s1.up1.head
 have q0 : SlE dOp h1 f0 v l := q0
 refine ⟨fun m vs h' => ∃ i : Nat, vs = [i64 i] ∧ m = l.length - i ∧ i ≤ l.length ∧ Sep F h' (plPts w (partsF (l.take i) n) :: plOps v l :: L), l.length, ⟨0, rfl, by omega, by omega, by simpa [partsF] using s1⟩, ?_⟩
 rintro m e h2 ⟨i, he, rfl, hi, s2⟩
 simp only [List.cons.injEq, and_true] at he
 obtain ⟨f1, q1, _⟩ := s2.up1.head
 have q1 : SlE dOp h2 f1 v l := q1
 simp only [he, q1.len, bin_lss, kv_some, ifV_bool, decide_eq_true_eq]
 by_cases hx : i < l.length
 case neg =>
  rw [if_neg (show ¬ ((i : Nat) : Int) < (l.length : Nat) by omega)]
  rw [List.take_of_length_le (by omega)] at s2
  exact s2
 rw [if_pos (show ((i : Nat) : Int) < (l.length : Nat) by omega)]
 have hg : l[i]? = some l[i] := List.getElem?_eq_getElem hx
 obtain ⟨c, _, i1, _, i3⟩ := q1.at hg
 have i1 : indexAddrD (.slice 5) v (i64 (i : Nat)) = some (ptr c (i * 5)) := i1
 have i3 : h2.rd c (i * 5 + 1) = some (str (l[i]).space) := i3 1 (by decide)
 rw [i1, kv_some, fieldAddr_ptr, kv_some, ld_one, i3, kv_some]
 refine cl_then (ref1_Shard (l[i]).space (hz _ (List.getElem_mem hx)) n (by omega)) ?_
 rintro r h5 ⟨rfl, m5⟩
 have s5 := s2.skip m5
 have hk : markN (l[i]).space % n < (partsF (l.take i) n).length := by rw [parts_len]; exact Nat.mod_lt _ (by omega)
 refine parts_add hk (fun p hp => ?_) i s5 fun h6 s6 => ?_
 · have := parts_small (l.take i).zipIdx n (List.replicate n []) 0 (fun p hp => by rw [(List.mem_replicate.1 hp).2]; simp) p hp
   rw [List.length_zipIdx, List.length_take] at this
   omega
 · rw [← parts_step l n i hx] at s6
   rw [add_i64 _ 1 (by omega) (by omega), kv_some]
   exact ⟨l.length - (i + 1), by omega, i + 1, by simp, rfl, by omega, s6⟩
end Go.Abs
