/- A desk's whole state, laid out; a new one. -/
import Derived.Test.YthhegdifbnghpaaGreatDoorWbd
set_option linter.unusedSimpArgs false
set_option linter.unusedVariables false
namespace Go.Abs
open Go Go.Proofs
variable {E : FE} {F : Fr} {h : AHeap} {L : List Pl}
def kdInt : KD Int where
 kk := .int
 enc := i64
 ok := fun k => by simp [keyOkD]
 eq := fun a b => by
  show (if IntKind.i64 = IntKind.i64 then some (a == b) else none) = _
  rw [if_pos rfl]
  by_cases h : a = b
  · simp [h]
  · simp [h]
 closed := fun a => by simp [closedV, closed0]
 bits := fun a => by simp [Instr.sameBits]
structure VoteM where
 id : IdM
 shard : Int
 yes : Bool
 now : Int
 vals : List ByteArray
structure AnsM where
 id : IdM
 err : Int
 vals : List ByteArray
structure TransM where
 ops : List Oq
 parts : List (List Int)
 votes : List (Int × VoteM)
 decided : Bool
 ok : Bool
 done : List (Int × Unit)
 nows : List Int
structure DeskM where
 n : Int
 last : List (Int × Int)
 opn : List (IdM × TransM)
 kept : List (Int × List AnsM)
def vtV (_ : Int) (v : V) (x : VoteM) : Pl := plEx fun (w : V) => plAll [plPure (v = .agg #[i64 x.id.client, i64 x.id.seq, i64 x.shard, .bool x.yes, i64 x.now, w]), plStrs w x.vals]
def dnV (_ : Int) (v : V) (_ : Unit) : Pl := plPure (v = .bool true)
def plTr (p : V) (t : TransM) : Pl := plEx fun (y : Nat × V × V × Nat × Nat × V) =>
 plAll [plPure (p = ptr y.1 0), plBox y.1 [y.2.1, y.2.2.1, .map (some y.2.2.2.1), .bool t.decided, .bool t.ok, .map (some y.2.2.2.2.1), y.2.2.2.2.2] 7, plOps y.2.1 t.ops, plPts y.2.2.1 t.parts, plGM kdInt vtV y.2.2.2.1 t.votes, plGM kdInt dnV y.2.2.2.2.1 t.done, plI64s y.2.2.2.2.2 t.nows]
def trV (_ : IdM) (v : V) (x : TransM) : Pl := plTr v x
theorem Sep.openTr {p : V} {t : TransM} (s : Sep F h (plTr p t :: L)) : ∃ b vo vp mv md vn, p = ptr b 0 ∧
 Sep F h (plBox b [vo, vp, .map (some mv), .bool t.decided, .bool t.ok, .map (some md), vn] 7 :: plOps vo t.ops :: plPts vp t.parts :: plGM kdInt vtV mv t.votes :: plGM kdInt dnV md t.done :: plI64s vn t.nows :: L) := by
 obtain ⟨⟨b, vo, vp, mv, md, vn⟩, s⟩ := s.ex
 have s1 := s.all
 obtain ⟨e, s2⟩ := Sep.pure (L := plBox b [vo, vp, .map (some mv), .bool t.decided, .bool t.ok, .map (some md), vn] 7 :: plOps vo t.ops :: plPts vp t.parts :: plGM kdInt vtV mv t.votes :: plGM kdInt dnV md t.done :: plI64s vn t.nows :: L) s1
 exact ⟨b, vo, vp, mv, md, vn, e, s2⟩
theorem Sep.closeTr {b mv md : Nat} {vo vp vn : V} {t : TransM}
 (s : Sep F h (plBox b [vo, vp, .map (some mv), .bool t.decided, .bool t.ok, .map (some md), vn] 7 :: plOps vo t.ops :: plPts vp t.parts :: plGM kdInt vtV mv t.votes :: plGM kdInt dnV md t.done :: plI64s vn t.nows :: L)) : Sep F h (plTr (ptr b 0) t :: L) :=
 Sep.mkEx (A := fun (y : Nat × V × V × Nat × Nat × V) => plAll [plPure (ptr b 0 = ptr y.1 0), plBox y.1 [y.2.1, y.2.2.1, .map (some y.2.2.2.1), .bool t.decided, .bool t.ok, .map (some y.2.2.2.2.1), y.2.2.2.2.2] 7, plOps y.2.1 t.ops, plPts y.2.2.1 t.parts, plGM kdInt vtV y.2.2.2.1 t.votes, plGM kdInt dnV y.2.2.2.2.1 t.done, plI64s y.2.2.2.2.2 t.nows]) (b, vo, vp, mv, md, vn)
  (Sep.mkAll (L' := [plPure (ptr b 0 = ptr b 0), plBox b [vo, vp, .map (some mv), .bool t.decided, .bool t.ok, .map (some md), vn] 7, plOps vo t.ops, plPts vp t.parts, plGM kdInt vtV mv t.votes, plGM kdInt dnV md t.done, plI64s vn t.nows]) (Sep.mkPure rfl s))
def AnsM.cells (a : AnsM) (t : Tri) : List V := [i64 a.id.client, i64 a.id.seq, i64 a.err, mkS t]
def dAn : EL (AnsM × Tri) := ⟨4, fun e => e.1.cells e.2, fun _ => rfl, fun _ => rfl, by decide⟩
def rdAn : RD (AnsM × Tri) := ⟨dAn, fun e => [plStrs (mkS e.2) e.1.vals]⟩
def plAns (v : V) (l : List AnsM) : Pl := plEx fun (qs : List (AnsM × Tri)) => plAll [plPure (qs.map (·.1) = l), plRow rdAn v qs]
def anV (_ : Int) (v : V) (x : List AnsM) : Pl := plAns v x
def lsV (_ : Int) (v : V) (x : Int) : Pl := plPure (v = i64 x)
def plDsk (p : V) (d : DeskM) : Pl := plEx fun (y : Nat × Nat × Nat × Nat) =>
 plAll [plPure (p = ptr y.1 0), plBox y.1 [i64 d.n, .map (some y.2.1), .map (some y.2.2.1), .map (some y.2.2.2)] 4, plGM kdInt lsV y.2.1 d.last, plGM kdId trV y.2.2.1 d.opn, plGM kdInt anV y.2.2.2 d.kept]
theorem Sep.openDsk {p : V} {d : DeskM} (s : Sep F h (plDsk p d :: L)) : ∃ b ml mo mk, p = ptr b 0 ∧
 Sep F h (plBox b [i64 d.n, .map (some ml), .map (some mo), .map (some mk)] 4 :: plGM kdInt lsV ml d.last :: plGM kdId trV mo d.opn :: plGM kdInt anV mk d.kept :: L) := by
 obtain ⟨⟨b, ml, mo, mk⟩, s⟩ := s.ex
 have s1 := s.all
 obtain ⟨e, s2⟩ := Sep.pure (L := plBox b [i64 d.n, .map (some ml), .map (some mo), .map (some mk)] 4 :: plGM kdInt lsV ml d.last :: plGM kdId trV mo d.opn :: plGM kdInt anV mk d.kept :: L) s1
 exact ⟨b, ml, mo, mk, e, s2⟩
theorem Sep.closeDsk {b ml mo mk : Nat} {d : DeskM} (s : Sep F h (plBox b [i64 d.n, .map (some ml), .map (some mo), .map (some mk)] 4 :: plGM kdInt lsV ml d.last :: plGM kdId trV mo d.opn :: plGM kdInt anV mk d.kept :: L)) : Sep F h (plDsk (ptr b 0) d :: L) :=
 Sep.mkEx (A := fun (y : Nat × Nat × Nat × Nat) => plAll [plPure (ptr b 0 = ptr y.1 0), plBox y.1 [i64 d.n, .map (some y.2.1), .map (some y.2.2.1), .map (some y.2.2.2)] 4, plGM kdInt lsV y.2.1 d.last, plGM kdId trV y.2.2.1 d.opn, plGM kdInt anV y.2.2.2 d.kept]) (b, ml, mo, mk)
  (Sep.mkAll (L' := [plPure (ptr b 0 = ptr b 0), plBox b [i64 d.n, .map (some ml), .map (some mo), .map (some mk)] 4, plGM kdInt lsV ml d.last, plGM kdId trV mo d.opn, plGM kdInt anV mk d.kept]) (Sep.mkPure rfl s))
theorem desk_New (n : Int) (hn : 1 ≤ n ∧ n ≤ 3) (s : Sep F h L) : cl (Go.Abs.F.desk_New E) [i64 n] h fun r h' => Sep F h' (plDsk r ⟨n, [], [], []⟩ :: L) := by
 refine cl_of ?_
 have h1 : ¬ n < 1 := by omega
 have h3 : ¬ n > 3 := by omega
 have em : ∀ h : AHeap, makeMapD true none h = some (.map (some h.next), h.new (.map [] 0)) := fun _ => rfl
 simp only [Go.Abs.F.desk_New, bin_lss, bin_gtr, kv_some, gdV_bool, h1, h3, decide_false, if_true, pickV_bool, Bool.false_eq_true, if_false, ifV_bool]
 rw [em, kP_some]
 have s1 := s.newM (D := kdInt) (A := lsV)
 generalize h.new (.map [] 0) = h1 at s1 ⊢
 generalize h.next = m1 at s1 ⊢
 rw [em, kP_some]
 have s2 := s1.newM (D := kdId) (A := trV)
 generalize h1.new (.map [] 0) = h2 at s2 ⊢
 generalize h1.next = m2 at s2 ⊢
 rw [em, kP_some]
 have s3 := s2.newM (D := kdInt) (A := anV)
 generalize h2.new (.map [] 0) = h3 at s3 ⊢
 generalize h2.next = m3 at s3 ⊢
 have e1 : buildD (.struct [(.int .i64 0), (.map none), (.map none), (.map none)] [(0, 1), (1, 1), (2, 1), (3, 1)]) [(0, i64 n), (1, .map (some m1)), (2, .map (some m2)), (3, .map (some m3))] = some (.agg #[i64 n, .map (some m1), .map (some m2), .map (some m3)]) := rfl
 have e2 : newD none (.agg #[i64 n, .map (some m1), .map (some m2), .map (some m3)]) h3 = some (ptr h3.next 0, h3.new (.cells [i64 n, .map (some m1), .map (some m2), .map (some m3)] 4 .rw)) := rfl
 rw [e1, kv_some, e2, kP_some]
 have s4 := s3.box [i64 n, .map (some m1), .map (some m2), .map (some m3)] 4
 exact Sep.closeDsk (d := ⟨n, [], [], []⟩) (s4.re4 [0, 3, 2, 1] rfl)
end Go.Abs
namespace Go.Abs
open Go Go.Proofs
variable {E : FE} {F : Fr} {h : AHeap} {L : List Pl}
def newTr (ops : List Oq) (n : Nat) : TransM := ⟨ops, partsF ops n, [], false, false, [], []⟩
def beginV (d : DeskM) (id : IdM) (ops : List Oq) : Bool × DeskM :=
 if clientB id && allO ops && decide ((lkp id.client d.last).getD 0 < id.seq) then (true, { d with last := ins id.client id.seq d.last, opn := ins id (newTr ops d.n.toNat) d.opn }) else (false, d)
theorem Sep.lookL {ml : Nat} {l : List (Int × Int)} (s : Sep F h (plGM kdInt lsV ml l :: L)) (n : Int) :
 lookupD (some (.int, (some (.int .i64 0)))) (.map (some ml)) (i64 n) false h = some (i64 ((lkp n l).getD 0)) := by
 cases hk : Go.Abs.lkp n l with
 | none =>
  have h1 := s.lookNone (z := .int .i64 0) hk false
  have h1 : lookupD (some (.int, (some (.int .i64 0)))) (.map (some ml)) (i64 n) false h = some (.int .i64 0) := h1
  rw [h1]; rfl
 | some x =>
  obtain ⟨w, h1, s1⟩ := s.lookSome (z := .int .i64 0) hk false
  have h1 : lookupD (some (.int, (some (.int .i64 0)))) (.map (some ml)) (i64 n) false h = some w := h1
  obtain ⟨hw, _⟩ := Sep.pure (φ := w = i64 x) s1
  rw [h1, hw]; rfl
theorem sl_form {α : Type} {D : EL α} {f : List Nat} {v : V} {l : List α} (q : SlE D h f v l) : ∃ t, v = mkS t := by
 obtain ⟨_, ⟨rfl, _, _⟩ | ⟨b, c, all, rfl, _⟩⟩ := q
 · exact ⟨(none, 0, 0), rfl⟩
 · exact ⟨(_, _, _), rfl⟩
theorem begin_fin {vC vP : V} {b bi m1 m2 ml mo mk nn : Nat} {id : IdM} {ops : List Oq} {n : Int} {last : List (Int × Int)} {opn : List (IdM × TransM)} {kept : List (Int × List AnsM)} {a2 : V}
 (s : Sep F h (plOps vC ops :: plPts vP (partsF ops nn) :: plGM kdInt vtV m1 [] :: plGM kdInt dnV m2 [] :: plBox bi (cId id) 2 :: plBox b [i64 n, .map (some ml), .map (some mo), .map (some mk)] 4 :: plOps a2 ops :: plGM kdId trV mo opn :: plGM kdInt lsV ml last :: plGM kdInt anV mk kept :: L)) {K : AHeap → Prop}
 (hK : ∀ h', Sep F h' (plDsk (ptr b 0) ⟨n, last, ins id (newTr ops nn) opn, kept⟩ :: plOps a2 ops :: L) → K h') :
kv (buildD (.struct [(.slice none 0 0), (.slice none 0 0), (.map none), (.bool false), (.bool false), (.map none), (.slice none 0 0)] [(0, 1), (1, 1), (2, 1), (3, 1), (4, 1), (5, 1), (6, 1)]) [(0, vC), (1, vP), (2, .map (some m1)), (5, .map (some m2))]) fun v54 =>
kP (newD none v54 h) fun v55 h =>
ldD .one (ptr b 2) h = some (.map (some mo)) ∧
ldD (.agg 2) (ptr bi 0) h = some id.agg ∧
kH (mapUpdateD (some ((.struct false [(0, .int), (1, .int)]), (some (.pointer none)))) (.map (some mo)) id.agg v55 h) fun _ h =>
K h := by
 obtain ⟨fC, qC, _⟩ := s.head
 obtain ⟨tC, rfl⟩ := sl_form (D := dOp) (show SlE dOp h fC vC ops from qC)
 obtain ⟨qs, _, sP⟩ := s.up1.openPts
 obtain ⟨fP, qP, _⟩ := sP.head
 obtain ⟨tP, rfl⟩ := sl_form (D := dSl) (show SlE dSl h fP vP _ from qP)
 have e1 : buildD (.struct [(.slice none 0 0), (.slice none 0 0), (.map none), (.bool false), (.bool false), (.map none), (.slice none 0 0)] [(0, 1), (1, 1), (2, 1), (3, 1), (4, 1), (5, 1), (6, 1)]) [(0, mkS tC), (1, mkS tP), (2, .map (some m1)), (5, .map (some m2))] = some (.agg #[mkS tC, mkS tP, .map (some m1), .bool false, .bool false, .map (some m2), .slice none 0 0]) := rfl
 have e2 : newD none (.agg #[mkS tC, mkS tP, .map (some m1), .bool false, .bool false, .map (some m2), .slice none 0 0]) h = some (ptr h.next 0, h.new (.cells [mkS tC, mkS tP, .map (some m1), .bool false, .bool false, .map (some m2), .slice none 0 0] 7 .rw)) := rfl
 rw [e1, kv_some, e2, kP_some]
 have s1 := s.box [mkS tC, mkS tP, .map (some m1), .bool false, .bool false, .map (some m2), .slice none 0 0] 7
 clear s sP
 generalize h.new (.cells [mkS tC, mkS tP, .map (some m1), .bool false, .bool false, .map (some m2), .slice none 0 0] 7 .rw) = h1 at s1 ⊢
 generalize h.next = bt at s1 ⊢
 have gb := Sep.get (s1.re11 [6] rfl)
 have gi := Sep.get (s1.re11 [5] rfl)
 refine ⟨by rw [ld_one, rd_of gb 2]; rfl, ld2 gi, ?_⟩
 have s2 : Sep F h1 (plTr (ptr bt 0) (newTr ops nn) :: plBox b [i64 n, .map (some ml), .map (some mo), .map (some mk)] 4 :: plOps a2 ops :: plGM kdId trV mo opn :: plGM kdInt lsV ml last :: plGM kdInt anV mk kept :: L) :=
  Sep.closeTr (t := newTr ops nn) ((Sep.noInts (s1.re11 [0, 1, 2, 3, 4, 6, 7, 8, 9, 10] rfl)).re11 [1, 2, 3, 4, 5, 0, 6, 7, 8, 9, 10] rfl)
 obtain ⟨h2, e3, s3⟩ := Sep.insM (D := kdId) (A := trV) (k := id) (v := ptr bt 0) (x := newTr ops nn) (z := nil) (s2.re6 [3, 0, 1, 2, 4, 5] rfl)
 have e3 : mapUpdateD (some ((.struct false [(0, .int), (1, .int)]), (some (.pointer none)))) (.map (some mo)) id.agg (ptr bt 0) h1 = some h2 := e3
 rw [e3, kH_some]
 refine hK _ ?_
 exact Sep.closeDsk (d := ⟨n, last, ins id (newTr ops nn) opn, kept⟩) (s3.re5 [1, 3, 0, 4, 2] rfl)
set_option maxHeartbeats 4000000 in
/-- All orders. -/
theorem begin_tree {b bi ml mo mk nn : Nat} {id : IdM} {ops : List Oq} {last : List (Int × Int)} {opn : List (IdM × TransM)} {kept : List (Int × List AnsM)} {a2 : V} (hn : 1 ≤ nn ∧ nn ≤ 3) (hl : ops.length ≤ 100000) (hz : ∀ o ∈ ops, o.space.size ≤ 1000000000)
 (s : Sep F h (plBox bi (cId id) 2 :: plBox b [i64 (nn : Nat), .map (some ml), .map (some mo), .map (some mk)] 4 :: plOps a2 ops :: plGM kdId trV mo opn :: plGM kdInt lsV ml last :: plGM kdInt anV mk kept :: L)) {K : AHeap → Prop}
 (hK : ∀ h', Sep F h' (plDsk (ptr b 0) ⟨(nn : Nat), last, ins id (newTr ops nn) opn, kept⟩ :: plOps a2 ops :: L) → K h') :
((cl (Go.Abs.F.slices_Clone_Sapi_Op_api_Op E) [a2] h fun v45_37 h =>
ldD .one (ptr b 2) h = some (.map (some mo)) ∧
ldD (.agg 2) (ptr bi 0) h = some id.agg ∧
ldD .one (ptr b 0) h = some (i64 (nn : Nat)) ∧
((cl (Go.Abs.F.op_Parts E) [a2, (i64 (nn : Nat))] h fun v51_38 h =>
ldD .one (ptr b 2) h = some (.map (some mo)) ∧
ldD (.agg 2) (ptr bi 0) h = some id.agg ∧
(kP (makeMapD true none h) fun v52_39 h =>
ldD .one (ptr b 2) h = some (.map (some mo)) ∧
ldD (.agg 2) (ptr bi 0) h = some id.agg ∧
ldD .one (ptr b 0) h = some (i64 (nn : Nat)) ∧
kP (makeMapD true none h) fun v53_40 h =>
ldD .one (ptr b 2) h = some (.map (some mo)) ∧
ldD (.agg 2) (ptr bi 0) h = some id.agg ∧
ldD .one (ptr b 0) h = some (i64 (nn : Nat)) ∧
kv (buildD (.struct [(.slice none 0 0), (.slice none 0 0), (.map none), (.bool false), (.bool false), (.map none), (.slice none 0 0)] [(0, 1), (1, 1), (2, 1), (3, 1), (4, 1), (5, 1), (6, 1)]) [(0, v45_37), (1, v51_38), (2, v52_39), (5, v53_40)]) fun v54_41 =>
kP (newD none v54_41 h) fun v55_42 h =>
ldD .one (ptr b 2) h = some (.map (some mo)) ∧
ldD (.agg 2) (ptr bi 0) h = some id.agg ∧
kH (mapUpdateD (some ((.struct false [(0, .int), (1, .int)]), (some (.pointer none)))) (.map (some mo)) id.agg v55_42 h) fun _ h =>
K h) ∧
(kP (makeMapD true none h) fun v53_43 h =>
ldD .one (ptr b 2) h = some (.map (some mo)) ∧
ldD (.agg 2) (ptr bi 0) h = some id.agg ∧
ldD .one (ptr b 0) h = some (i64 (nn : Nat)) ∧
kP (makeMapD true none h) fun v52_44 h =>
ldD .one (ptr b 2) h = some (.map (some mo)) ∧
ldD (.agg 2) (ptr bi 0) h = some id.agg ∧
ldD .one (ptr b 0) h = some (i64 (nn : Nat)) ∧
kv (buildD (.struct [(.slice none 0 0), (.slice none 0 0), (.map none), (.bool false), (.bool false), (.map none), (.slice none 0 0)] [(0, 1), (1, 1), (2, 1), (3, 1), (4, 1), (5, 1), (6, 1)]) [(0, v45_37), (1, v51_38), (2, v52_44), (5, v53_43)]) fun v54_45 =>
kP (newD none v54_45 h) fun v55_46 h =>
ldD .one (ptr b 2) h = some (.map (some mo)) ∧
ldD (.agg 2) (ptr bi 0) h = some id.agg ∧
kH (mapUpdateD (some ((.struct false [(0, .int), (1, .int)]), (some (.pointer none)))) (.map (some mo)) id.agg v55_46 h) fun _ h =>
K h)) ∧
(kP (makeMapD true none h) fun v52_47 h =>
ldD .one (ptr b 2) h = some (.map (some mo)) ∧
ldD (.agg 2) (ptr bi 0) h = some id.agg ∧
ldD .one (ptr b 0) h = some (i64 (nn : Nat)) ∧
(cl (Go.Abs.F.op_Parts E) [a2, (i64 (nn : Nat))] h fun v51_48 h =>
ldD .one (ptr b 2) h = some (.map (some mo)) ∧
ldD (.agg 2) (ptr bi 0) h = some id.agg ∧
kP (makeMapD true none h) fun v53_49 h =>
ldD .one (ptr b 2) h = some (.map (some mo)) ∧
ldD (.agg 2) (ptr bi 0) h = some id.agg ∧
ldD .one (ptr b 0) h = some (i64 (nn : Nat)) ∧
kv (buildD (.struct [(.slice none 0 0), (.slice none 0 0), (.map none), (.bool false), (.bool false), (.map none), (.slice none 0 0)] [(0, 1), (1, 1), (2, 1), (3, 1), (4, 1), (5, 1), (6, 1)]) [(0, v45_37), (1, v51_48), (2, v52_47), (5, v53_49)]) fun v54_50 =>
kP (newD none v54_50 h) fun v55_51 h =>
ldD .one (ptr b 2) h = some (.map (some mo)) ∧
ldD (.agg 2) (ptr bi 0) h = some id.agg ∧
kH (mapUpdateD (some ((.struct false [(0, .int), (1, .int)]), (some (.pointer none)))) (.map (some mo)) id.agg v55_51 h) fun _ h =>
K h) ∧
(kP (makeMapD true none h) fun v53_52 h =>
ldD .one (ptr b 2) h = some (.map (some mo)) ∧
ldD (.agg 2) (ptr bi 0) h = some id.agg ∧
ldD .one (ptr b 0) h = some (i64 (nn : Nat)) ∧
cl (Go.Abs.F.op_Parts E) [a2, (i64 (nn : Nat))] h fun v51_53 h =>
ldD .one (ptr b 2) h = some (.map (some mo)) ∧
ldD (.agg 2) (ptr bi 0) h = some id.agg ∧
kv (buildD (.struct [(.slice none 0 0), (.slice none 0 0), (.map none), (.bool false), (.bool false), (.map none), (.slice none 0 0)] [(0, 1), (1, 1), (2, 1), (3, 1), (4, 1), (5, 1), (6, 1)]) [(0, v45_37), (1, v51_53), (2, v52_47), (5, v53_52)]) fun v54_54 =>
kP (newD none v54_54 h) fun v55_55 h =>
ldD .one (ptr b 2) h = some (.map (some mo)) ∧
ldD (.agg 2) (ptr bi 0) h = some id.agg ∧
kH (mapUpdateD (some ((.struct false [(0, .int), (1, .int)]), (some (.pointer none)))) (.map (some mo)) id.agg v55_55 h) fun _ h =>
K h))) ∧
(kP (makeMapD true none h) fun v53_56 h =>
ldD .one (ptr b 2) h = some (.map (some mo)) ∧
ldD (.agg 2) (ptr bi 0) h = some id.agg ∧
ldD .one (ptr b 0) h = some (i64 (nn : Nat)) ∧
(cl (Go.Abs.F.op_Parts E) [a2, (i64 (nn : Nat))] h fun v51_57 h =>
ldD .one (ptr b 2) h = some (.map (some mo)) ∧
ldD (.agg 2) (ptr bi 0) h = some id.agg ∧
kP (makeMapD true none h) fun v52_58 h =>
ldD .one (ptr b 2) h = some (.map (some mo)) ∧
ldD (.agg 2) (ptr bi 0) h = some id.agg ∧
ldD .one (ptr b 0) h = some (i64 (nn : Nat)) ∧
kv (buildD (.struct [(.slice none 0 0), (.slice none 0 0), (.map none), (.bool false), (.bool false), (.map none), (.slice none 0 0)] [(0, 1), (1, 1), (2, 1), (3, 1), (4, 1), (5, 1), (6, 1)]) [(0, v45_37), (1, v51_57), (2, v52_58), (5, v53_56)]) fun v54_59 =>
kP (newD none v54_59 h) fun v55_60 h =>
ldD .one (ptr b 2) h = some (.map (some mo)) ∧
ldD (.agg 2) (ptr bi 0) h = some id.agg ∧
kH (mapUpdateD (some ((.struct false [(0, .int), (1, .int)]), (some (.pointer none)))) (.map (some mo)) id.agg v55_60 h) fun _ h =>
K h) ∧
(kP (makeMapD true none h) fun v52_61 h =>
ldD .one (ptr b 2) h = some (.map (some mo)) ∧
ldD (.agg 2) (ptr bi 0) h = some id.agg ∧
ldD .one (ptr b 0) h = some (i64 (nn : Nat)) ∧
cl (Go.Abs.F.op_Parts E) [a2, (i64 (nn : Nat))] h fun v51_62 h =>
ldD .one (ptr b 2) h = some (.map (some mo)) ∧
ldD (.agg 2) (ptr bi 0) h = some id.agg ∧
kv (buildD (.struct [(.slice none 0 0), (.slice none 0 0), (.map none), (.bool false), (.bool false), (.map none), (.slice none 0 0)] [(0, 1), (1, 1), (2, 1), (3, 1), (4, 1), (5, 1), (6, 1)]) [(0, v45_37), (1, v51_62), (2, v52_61), (5, v53_56)]) fun v54_63 =>
kP (newD none v54_63 h) fun v55_64 h =>
ldD .one (ptr b 2) h = some (.map (some mo)) ∧
ldD (.agg 2) (ptr bi 0) h = some id.agg ∧
kH (mapUpdateD (some ((.struct false [(0, .int), (1, .int)]), (some (.pointer none)))) (.map (some mo)) id.agg v55_64 h) fun _ h =>
K h))) ∧
(kP (makeMapD true none h) fun v52_65 h =>
ldD .one (ptr b 2) h = some (.map (some mo)) ∧
ldD (.agg 2) (ptr bi 0) h = some id.agg ∧
ldD .one (ptr b 0) h = some (i64 (nn : Nat)) ∧
(cl (Go.Abs.F.slices_Clone_Sapi_Op_api_Op E) [a2] h fun v45_66 h =>
ldD .one (ptr b 2) h = some (.map (some mo)) ∧
ldD (.agg 2) (ptr bi 0) h = some id.agg ∧
ldD .one (ptr b 0) h = some (i64 (nn : Nat)) ∧
(cl (Go.Abs.F.op_Parts E) [a2, (i64 (nn : Nat))] h fun v51_67 h =>
ldD .one (ptr b 2) h = some (.map (some mo)) ∧
ldD (.agg 2) (ptr bi 0) h = some id.agg ∧
kP (makeMapD true none h) fun v53_68 h =>
ldD .one (ptr b 2) h = some (.map (some mo)) ∧
ldD (.agg 2) (ptr bi 0) h = some id.agg ∧
ldD .one (ptr b 0) h = some (i64 (nn : Nat)) ∧
kv (buildD (.struct [(.slice none 0 0), (.slice none 0 0), (.map none), (.bool false), (.bool false), (.map none), (.slice none 0 0)] [(0, 1), (1, 1), (2, 1), (3, 1), (4, 1), (5, 1), (6, 1)]) [(0, v45_66), (1, v51_67), (2, v52_65), (5, v53_68)]) fun v54_69 =>
kP (newD none v54_69 h) fun v55_70 h =>
ldD .one (ptr b 2) h = some (.map (some mo)) ∧
ldD (.agg 2) (ptr bi 0) h = some id.agg ∧
kH (mapUpdateD (some ((.struct false [(0, .int), (1, .int)]), (some (.pointer none)))) (.map (some mo)) id.agg v55_70 h) fun _ h =>
K h) ∧
(kP (makeMapD true none h) fun v53_71 h =>
ldD .one (ptr b 2) h = some (.map (some mo)) ∧
ldD (.agg 2) (ptr bi 0) h = some id.agg ∧
ldD .one (ptr b 0) h = some (i64 (nn : Nat)) ∧
cl (Go.Abs.F.op_Parts E) [a2, (i64 (nn : Nat))] h fun v51_72 h =>
ldD .one (ptr b 2) h = some (.map (some mo)) ∧
ldD (.agg 2) (ptr bi 0) h = some id.agg ∧
kv (buildD (.struct [(.slice none 0 0), (.slice none 0 0), (.map none), (.bool false), (.bool false), (.map none), (.slice none 0 0)] [(0, 1), (1, 1), (2, 1), (3, 1), (4, 1), (5, 1), (6, 1)]) [(0, v45_66), (1, v51_72), (2, v52_65), (5, v53_71)]) fun v54_73 =>
kP (newD none v54_73 h) fun v55_74 h =>
ldD .one (ptr b 2) h = some (.map (some mo)) ∧
ldD (.agg 2) (ptr bi 0) h = some id.agg ∧
kH (mapUpdateD (some ((.struct false [(0, .int), (1, .int)]), (some (.pointer none)))) (.map (some mo)) id.agg v55_74 h) fun _ h =>
K h)) ∧
(kP (makeMapD true none h) fun v53_75 h =>
ldD .one (ptr b 2) h = some (.map (some mo)) ∧
ldD (.agg 2) (ptr bi 0) h = some id.agg ∧
ldD .one (ptr b 0) h = some (i64 (nn : Nat)) ∧
cl (Go.Abs.F.slices_Clone_Sapi_Op_api_Op E) [a2] h fun v45_76 h =>
ldD .one (ptr b 2) h = some (.map (some mo)) ∧
ldD (.agg 2) (ptr bi 0) h = some id.agg ∧
ldD .one (ptr b 0) h = some (i64 (nn : Nat)) ∧
cl (Go.Abs.F.op_Parts E) [a2, (i64 (nn : Nat))] h fun v51_77 h =>
ldD .one (ptr b 2) h = some (.map (some mo)) ∧
ldD (.agg 2) (ptr bi 0) h = some id.agg ∧
kv (buildD (.struct [(.slice none 0 0), (.slice none 0 0), (.map none), (.bool false), (.bool false), (.map none), (.slice none 0 0)] [(0, 1), (1, 1), (2, 1), (3, 1), (4, 1), (5, 1), (6, 1)]) [(0, v45_76), (1, v51_77), (2, v52_65), (5, v53_75)]) fun v54_78 =>
kP (newD none v54_78 h) fun v55_79 h =>
ldD .one (ptr b 2) h = some (.map (some mo)) ∧
ldD (.agg 2) (ptr bi 0) h = some id.agg ∧
kH (mapUpdateD (some ((.struct false [(0, .int), (1, .int)]), (some (.pointer none)))) (.map (some mo)) id.agg v55_79 h) fun _ h =>
K h))) ∧
(kP (makeMapD true none h) fun v53_80 h =>
ldD .one (ptr b 2) h = some (.map (some mo)) ∧
ldD (.agg 2) (ptr bi 0) h = some id.agg ∧
ldD .one (ptr b 0) h = some (i64 (nn : Nat)) ∧
(cl (Go.Abs.F.slices_Clone_Sapi_Op_api_Op E) [a2] h fun v45_81 h =>
ldD .one (ptr b 2) h = some (.map (some mo)) ∧
ldD (.agg 2) (ptr bi 0) h = some id.agg ∧
ldD .one (ptr b 0) h = some (i64 (nn : Nat)) ∧
(cl (Go.Abs.F.op_Parts E) [a2, (i64 (nn : Nat))] h fun v51_82 h =>
ldD .one (ptr b 2) h = some (.map (some mo)) ∧
ldD (.agg 2) (ptr bi 0) h = some id.agg ∧
kP (makeMapD true none h) fun v52_83 h =>
ldD .one (ptr b 2) h = some (.map (some mo)) ∧
ldD (.agg 2) (ptr bi 0) h = some id.agg ∧
ldD .one (ptr b 0) h = some (i64 (nn : Nat)) ∧
kv (buildD (.struct [(.slice none 0 0), (.slice none 0 0), (.map none), (.bool false), (.bool false), (.map none), (.slice none 0 0)] [(0, 1), (1, 1), (2, 1), (3, 1), (4, 1), (5, 1), (6, 1)]) [(0, v45_81), (1, v51_82), (2, v52_83), (5, v53_80)]) fun v54_84 =>
kP (newD none v54_84 h) fun v55_85 h =>
ldD .one (ptr b 2) h = some (.map (some mo)) ∧
ldD (.agg 2) (ptr bi 0) h = some id.agg ∧
kH (mapUpdateD (some ((.struct false [(0, .int), (1, .int)]), (some (.pointer none)))) (.map (some mo)) id.agg v55_85 h) fun _ h =>
K h) ∧
(kP (makeMapD true none h) fun v52_86 h =>
ldD .one (ptr b 2) h = some (.map (some mo)) ∧
ldD (.agg 2) (ptr bi 0) h = some id.agg ∧
ldD .one (ptr b 0) h = some (i64 (nn : Nat)) ∧
cl (Go.Abs.F.op_Parts E) [a2, (i64 (nn : Nat))] h fun v51_87 h =>
ldD .one (ptr b 2) h = some (.map (some mo)) ∧
ldD (.agg 2) (ptr bi 0) h = some id.agg ∧
kv (buildD (.struct [(.slice none 0 0), (.slice none 0 0), (.map none), (.bool false), (.bool false), (.map none), (.slice none 0 0)] [(0, 1), (1, 1), (2, 1), (3, 1), (4, 1), (5, 1), (6, 1)]) [(0, v45_81), (1, v51_87), (2, v52_86), (5, v53_80)]) fun v54_88 =>
kP (newD none v54_88 h) fun v55_89 h =>
ldD .one (ptr b 2) h = some (.map (some mo)) ∧
ldD (.agg 2) (ptr bi 0) h = some id.agg ∧
kH (mapUpdateD (some ((.struct false [(0, .int), (1, .int)]), (some (.pointer none)))) (.map (some mo)) id.agg v55_89 h) fun _ h =>
K h)) ∧
(kP (makeMapD true none h) fun v52_90 h =>
ldD .one (ptr b 2) h = some (.map (some mo)) ∧
ldD (.agg 2) (ptr bi 0) h = some id.agg ∧
ldD .one (ptr b 0) h = some (i64 (nn : Nat)) ∧
cl (Go.Abs.F.slices_Clone_Sapi_Op_api_Op E) [a2] h fun v45_91 h =>
ldD .one (ptr b 2) h = some (.map (some mo)) ∧
ldD (.agg 2) (ptr bi 0) h = some id.agg ∧
ldD .one (ptr b 0) h = some (i64 (nn : Nat)) ∧
cl (Go.Abs.F.op_Parts E) [a2, (i64 (nn : Nat))] h fun v51_92 h =>
ldD .one (ptr b 2) h = some (.map (some mo)) ∧
ldD (.agg 2) (ptr bi 0) h = some id.agg ∧
kv (buildD (.struct [(.slice none 0 0), (.slice none 0 0), (.map none), (.bool false), (.bool false), (.map none), (.slice none 0 0)] [(0, 1), (1, 1), (2, 1), (3, 1), (4, 1), (5, 1), (6, 1)]) [(0, v45_91), (1, v51_92), (2, v52_90), (5, v53_80)]) fun v54_93 =>
kP (newD none v54_93 h) fun v55_94 h =>
ldD .one (ptr b 2) h = some (.map (some mo)) ∧
ldD (.agg 2) (ptr bi 0) h = some id.agg ∧
kH (mapUpdateD (some ((.struct false [(0, .int), (1, .int)]), (some (.pointer none)))) (.map (some mo)) id.agg v55_94 h) fun _ h =>
K h)) := by
 have em : ∀ h : AHeap, makeMapD true none h = some (.map (some h.next), h.new (.map [] 0)) := fun _ => rfl
 have side : ∀ {g : AHeap} {M : List Pl}, Sep F g M → plBox b [i64 (nn : Nat), .map (some ml), .map (some mo), .map (some mk)] 4 ∈ M → plBox bi (cId id) 2 ∈ M → ldD .one (ptr b 2) g = some (.map (some mo)) ∧ ldD (.agg 2) (ptr bi 0) g = some id.agg ∧ ldD .one (ptr b 0) g = some (i64 (nn : Nat)) := fun s h1 h2 => by
  have gb := s.getM h1
  have gi := s.getM h2
  exact ⟨by rw [ld_one, rd_of gb 2]; rfl, ld2 gi, by rw [ld_one, rd_of gb 0]; rfl⟩
 refine ⟨?_, ?_⟩
 · refine ⟨?_, ?_⟩
   · obtain ⟨fo, qo⟩ := s.memP (A := plOps a2 ops) (by simp)
     refine cl_then (clone_ops qo (by omega)) ?_
     rintro vC g ⟨fC, qC, mC⟩
     have s := s.alloc (plOps vC ops) mC qC
     refine ⟨(side s (by simp) (by simp)).1, ?_⟩
     refine ⟨(side s (by simp) (by simp)).2.1, ?_⟩
     refine ⟨(side s (by simp) (by simp)).2.2, ?_⟩
     refine ⟨?_, ?_⟩
     · refine ⟨?_, ?_⟩
       · refine cl_then (op_Parts_ok hn hl hz (s.re7 [3, 0, 1, 2, 4, 5, 6] rfl)) ?_
         intro vP g s
         have s := s.re8 [0, 2, 3, 4, 1, 5, 6, 7] rfl
         refine ⟨(side s (by simp) (by simp)).1, ?_⟩
         refine ⟨(side s (by simp) (by simp)).2.1, ?_⟩
         refine ⟨?_, ?_⟩
         · rw [em, kP_some]
           have s := s.newM (D := kdInt) (A := vtV)
           generalize AHeap.new _ _ = g at s ⊢
           generalize AHeap.next _ = mA at s ⊢
           refine ⟨(side s (by simp) (by simp)).1, ?_⟩
           refine ⟨(side s (by simp) (by simp)).2.1, ?_⟩
           refine ⟨(side s (by simp) (by simp)).2.2, ?_⟩
           rw [em, kP_some]
           have s := s.newM (D := kdInt) (A := dnV)
           generalize AHeap.new _ _ = g at s ⊢
           generalize AHeap.next _ = mB at s ⊢
           refine ⟨(side s (by simp) (by simp)).1, ?_⟩
           refine ⟨(side s (by simp) (by simp)).2.1, ?_⟩
           refine ⟨(side s (by simp) (by simp)).2.2, ?_⟩
           exact begin_fin (s.re10 [3, 2, 1, 0, 4, 5, 6, 7, 8, 9] rfl) hK
         · rw [em, kP_some]
           have s := s.newM (D := kdInt) (A := dnV)
           generalize AHeap.new _ _ = g at s ⊢
           generalize AHeap.next _ = mB at s ⊢
           refine ⟨(side s (by simp) (by simp)).1, ?_⟩
           refine ⟨(side s (by simp) (by simp)).2.1, ?_⟩
           refine ⟨(side s (by simp) (by simp)).2.2, ?_⟩
           rw [em, kP_some]
           have s := s.newM (D := kdInt) (A := vtV)
           generalize AHeap.new _ _ = g at s ⊢
           generalize AHeap.next _ = mA at s ⊢
           refine ⟨(side s (by simp) (by simp)).1, ?_⟩
           refine ⟨(side s (by simp) (by simp)).2.1, ?_⟩
           refine ⟨(side s (by simp) (by simp)).2.2, ?_⟩
           exact begin_fin (s.re10 [3, 2, 0, 1, 4, 5, 6, 7, 8, 9] rfl) hK
       · rw [em, kP_some]
         have s := s.newM (D := kdInt) (A := vtV)
         generalize AHeap.new _ _ = g at s ⊢
         generalize AHeap.next _ = mA at s ⊢
         refine ⟨(side s (by simp) (by simp)).1, ?_⟩
         refine ⟨(side s (by simp) (by simp)).2.1, ?_⟩
         refine ⟨(side s (by simp) (by simp)).2.2, ?_⟩
         refine ⟨?_, ?_⟩
         · refine cl_then (op_Parts_ok hn hl hz (s.re8 [4, 0, 1, 2, 3, 5, 6, 7] rfl)) ?_
           intro vP g s
           have s := s.re9 [0, 2, 3, 4, 5, 1, 6, 7, 8] rfl
           refine ⟨(side s (by simp) (by simp)).1, ?_⟩
           refine ⟨(side s (by simp) (by simp)).2.1, ?_⟩
           rw [em, kP_some]
           have s := s.newM (D := kdInt) (A := dnV)
           generalize AHeap.new _ _ = g at s ⊢
           generalize AHeap.next _ = mB at s ⊢
           refine ⟨(side s (by simp) (by simp)).1, ?_⟩
           refine ⟨(side s (by simp) (by simp)).2.1, ?_⟩
           refine ⟨(side s (by simp) (by simp)).2.2, ?_⟩
           exact begin_fin (s.re10 [3, 1, 2, 0, 4, 5, 6, 7, 8, 9] rfl) hK
         · rw [em, kP_some]
           have s := s.newM (D := kdInt) (A := dnV)
           generalize AHeap.new _ _ = g at s ⊢
           generalize AHeap.next _ = mB at s ⊢
           refine ⟨(side s (by simp) (by simp)).1, ?_⟩
           refine ⟨(side s (by simp) (by simp)).2.1, ?_⟩
           refine ⟨(side s (by simp) (by simp)).2.2, ?_⟩
           refine cl_then (op_Parts_ok hn hl hz (s.re9 [5, 0, 1, 2, 3, 4, 6, 7, 8] rfl)) ?_
           intro vP g s
           have s := s.re10 [0, 2, 3, 4, 5, 6, 1, 7, 8, 9] rfl
           refine ⟨(side s (by simp) (by simp)).1, ?_⟩
           refine ⟨(side s (by simp) (by simp)).2.1, ?_⟩
           exact begin_fin (s.re10 [3, 0, 2, 1, 4, 5, 6, 7, 8, 9] rfl) hK
     · rw [em, kP_some]
       have s := s.newM (D := kdInt) (A := dnV)
       generalize AHeap.new _ _ = g at s ⊢
       generalize AHeap.next _ = mB at s ⊢
       refine ⟨(side s (by simp) (by simp)).1, ?_⟩
       refine ⟨(side s (by simp) (by simp)).2.1, ?_⟩
       refine ⟨(side s (by simp) (by simp)).2.2, ?_⟩
       refine ⟨?_, ?_⟩
       · refine cl_then (op_Parts_ok hn hl hz (s.re8 [4, 0, 1, 2, 3, 5, 6, 7] rfl)) ?_
         intro vP g s
         have s := s.re9 [0, 2, 3, 4, 5, 1, 6, 7, 8] rfl
         refine ⟨(side s (by simp) (by simp)).1, ?_⟩
         refine ⟨(side s (by simp) (by simp)).2.1, ?_⟩
         rw [em, kP_some]
         have s := s.newM (D := kdInt) (A := vtV)
         generalize AHeap.new _ _ = g at s ⊢
         generalize AHeap.next _ = mA at s ⊢
         refine ⟨(side s (by simp) (by simp)).1, ?_⟩
         refine ⟨(side s (by simp) (by simp)).2.1, ?_⟩
         refine ⟨(side s (by simp) (by simp)).2.2, ?_⟩
         exact begin_fin (s.re10 [3, 1, 0, 2, 4, 5, 6, 7, 8, 9] rfl) hK
       · rw [em, kP_some]
         have s := s.newM (D := kdInt) (A := vtV)
         generalize AHeap.new _ _ = g at s ⊢
         generalize AHeap.next _ = mA at s ⊢
         refine ⟨(side s (by simp) (by simp)).1, ?_⟩
         refine ⟨(side s (by simp) (by simp)).2.1, ?_⟩
         refine ⟨(side s (by simp) (by simp)).2.2, ?_⟩
         refine cl_then (op_Parts_ok hn hl hz (s.re9 [5, 0, 1, 2, 3, 4, 6, 7, 8] rfl)) ?_
         intro vP g s
         have s := s.re10 [0, 2, 3, 4, 5, 6, 1, 7, 8, 9] rfl
         refine ⟨(side s (by simp) (by simp)).1, ?_⟩
         refine ⟨(side s (by simp) (by simp)).2.1, ?_⟩
         exact begin_fin (s.re10 [3, 0, 1, 2, 4, 5, 6, 7, 8, 9] rfl) hK
   · rw [em, kP_some]
     have s := s.newM (D := kdInt) (A := vtV)
     generalize AHeap.new _ _ = g at s ⊢
     generalize AHeap.next _ = mA at s ⊢
     refine ⟨(side s (by simp) (by simp)).1, ?_⟩
     refine ⟨(side s (by simp) (by simp)).2.1, ?_⟩
     refine ⟨(side s (by simp) (by simp)).2.2, ?_⟩
     refine ⟨?_, ?_⟩
     · obtain ⟨fo, qo⟩ := s.memP (A := plOps a2 ops) (by simp)
       refine cl_then (clone_ops qo (by omega)) ?_
       rintro vC g ⟨fC, qC, mC⟩
       have s := s.alloc (plOps vC ops) mC qC
       refine ⟨(side s (by simp) (by simp)).1, ?_⟩
       refine ⟨(side s (by simp) (by simp)).2.1, ?_⟩
       refine ⟨(side s (by simp) (by simp)).2.2, ?_⟩
       refine ⟨?_, ?_⟩
       · refine cl_then (op_Parts_ok hn hl hz (s.re8 [4, 0, 1, 2, 3, 5, 6, 7] rfl)) ?_
         intro vP g s
         have s := s.re9 [0, 2, 3, 4, 5, 1, 6, 7, 8] rfl
         refine ⟨(side s (by simp) (by simp)).1, ?_⟩
         refine ⟨(side s (by simp) (by simp)).2.1, ?_⟩
         rw [em, kP_some]
         have s := s.newM (D := kdInt) (A := dnV)
         generalize AHeap.new _ _ = g at s ⊢
         generalize AHeap.next _ = mB at s ⊢
         refine ⟨(side s (by simp) (by simp)).1, ?_⟩
         refine ⟨(side s (by simp) (by simp)).2.1, ?_⟩
         refine ⟨(side s (by simp) (by simp)).2.2, ?_⟩
         exact begin_fin (s.re10 [2, 1, 3, 0, 4, 5, 6, 7, 8, 9] rfl) hK
       · rw [em, kP_some]
         have s := s.newM (D := kdInt) (A := dnV)
         generalize AHeap.new _ _ = g at s ⊢
         generalize AHeap.next _ = mB at s ⊢
         refine ⟨(side s (by simp) (by simp)).1, ?_⟩
         refine ⟨(side s (by simp) (by simp)).2.1, ?_⟩
         refine ⟨(side s (by simp) (by simp)).2.2, ?_⟩
         refine cl_then (op_Parts_ok hn hl hz (s.re9 [5, 0, 1, 2, 3, 4, 6, 7, 8] rfl)) ?_
         intro vP g s
         have s := s.re10 [0, 2, 3, 4, 5, 6, 1, 7, 8, 9] rfl
         refine ⟨(side s (by simp) (by simp)).1, ?_⟩
         refine ⟨(side s (by simp) (by simp)).2.1, ?_⟩
         exact begin_fin (s.re10 [2, 0, 3, 1, 4, 5, 6, 7, 8, 9] rfl) hK
     · rw [em, kP_some]
       have s := s.newM (D := kdInt) (A := dnV)
       generalize AHeap.new _ _ = g at s ⊢
       generalize AHeap.next _ = mB at s ⊢
       refine ⟨(side s (by simp) (by simp)).1, ?_⟩
       refine ⟨(side s (by simp) (by simp)).2.1, ?_⟩
       refine ⟨(side s (by simp) (by simp)).2.2, ?_⟩
       obtain ⟨fo, qo⟩ := s.memP (A := plOps a2 ops) (by simp)
       refine cl_then (clone_ops qo (by omega)) ?_
       rintro vC g ⟨fC, qC, mC⟩
       have s := s.alloc (plOps vC ops) mC qC
       refine ⟨(side s (by simp) (by simp)).1, ?_⟩
       refine ⟨(side s (by simp) (by simp)).2.1, ?_⟩
       refine ⟨(side s (by simp) (by simp)).2.2, ?_⟩
       refine cl_then (op_Parts_ok hn hl hz (s.re9 [5, 0, 1, 2, 3, 4, 6, 7, 8] rfl)) ?_
       intro vP g s
       have s := s.re10 [0, 2, 3, 4, 5, 6, 1, 7, 8, 9] rfl
       refine ⟨(side s (by simp) (by simp)).1, ?_⟩
       refine ⟨(side s (by simp) (by simp)).2.1, ?_⟩
       exact begin_fin (s.re10 [1, 0, 3, 2, 4, 5, 6, 7, 8, 9] rfl) hK
 · rw [em, kP_some]
   have s := s.newM (D := kdInt) (A := dnV)
   generalize AHeap.new _ _ = g at s ⊢
   generalize AHeap.next _ = mB at s ⊢
   refine ⟨(side s (by simp) (by simp)).1, ?_⟩
   refine ⟨(side s (by simp) (by simp)).2.1, ?_⟩
   refine ⟨(side s (by simp) (by simp)).2.2, ?_⟩
   refine ⟨?_, ?_⟩
   · obtain ⟨fo, qo⟩ := s.memP (A := plOps a2 ops) (by simp)
     refine cl_then (clone_ops qo (by omega)) ?_
     rintro vC g ⟨fC, qC, mC⟩
     have s := s.alloc (plOps vC ops) mC qC
     refine ⟨(side s (by simp) (by simp)).1, ?_⟩
     refine ⟨(side s (by simp) (by simp)).2.1, ?_⟩
     refine ⟨(side s (by simp) (by simp)).2.2, ?_⟩
     refine ⟨?_, ?_⟩
     · refine cl_then (op_Parts_ok hn hl hz (s.re8 [4, 0, 1, 2, 3, 5, 6, 7] rfl)) ?_
       intro vP g s
       have s := s.re9 [0, 2, 3, 4, 5, 1, 6, 7, 8] rfl
       refine ⟨(side s (by simp) (by simp)).1, ?_⟩
       refine ⟨(side s (by simp) (by simp)).2.1, ?_⟩
       rw [em, kP_some]
       have s := s.newM (D := kdInt) (A := vtV)
       generalize AHeap.new _ _ = g at s ⊢
       generalize AHeap.next _ = mA at s ⊢
       refine ⟨(side s (by simp) (by simp)).1, ?_⟩
       refine ⟨(side s (by simp) (by simp)).2.1, ?_⟩
       refine ⟨(side s (by simp) (by simp)).2.2, ?_⟩
       exact begin_fin (s.re10 [2, 1, 0, 3, 4, 5, 6, 7, 8, 9] rfl) hK
     · rw [em, kP_some]
       have s := s.newM (D := kdInt) (A := vtV)
       generalize AHeap.new _ _ = g at s ⊢
       generalize AHeap.next _ = mA at s ⊢
       refine ⟨(side s (by simp) (by simp)).1, ?_⟩
       refine ⟨(side s (by simp) (by simp)).2.1, ?_⟩
       refine ⟨(side s (by simp) (by simp)).2.2, ?_⟩
       refine cl_then (op_Parts_ok hn hl hz (s.re9 [5, 0, 1, 2, 3, 4, 6, 7, 8] rfl)) ?_
       intro vP g s
       have s := s.re10 [0, 2, 3, 4, 5, 6, 1, 7, 8, 9] rfl
       refine ⟨(side s (by simp) (by simp)).1, ?_⟩
       refine ⟨(side s (by simp) (by simp)).2.1, ?_⟩
       exact begin_fin (s.re10 [2, 0, 1, 3, 4, 5, 6, 7, 8, 9] rfl) hK
   · rw [em, kP_some]
     have s := s.newM (D := kdInt) (A := vtV)
     generalize AHeap.new _ _ = g at s ⊢
     generalize AHeap.next _ = mA at s ⊢
     refine ⟨(side s (by simp) (by simp)).1, ?_⟩
     refine ⟨(side s (by simp) (by simp)).2.1, ?_⟩
     refine ⟨(side s (by simp) (by simp)).2.2, ?_⟩
     obtain ⟨fo, qo⟩ := s.memP (A := plOps a2 ops) (by simp)
     refine cl_then (clone_ops qo (by omega)) ?_
     rintro vC g ⟨fC, qC, mC⟩
     have s := s.alloc (plOps vC ops) mC qC
     refine ⟨(side s (by simp) (by simp)).1, ?_⟩
     refine ⟨(side s (by simp) (by simp)).2.1, ?_⟩
     refine ⟨(side s (by simp) (by simp)).2.2, ?_⟩
     refine cl_then (op_Parts_ok hn hl hz (s.re9 [5, 0, 1, 2, 3, 4, 6, 7, 8] rfl)) ?_
     intro vP g s
     have s := s.re10 [0, 2, 3, 4, 5, 6, 1, 7, 8, 9] rfl
     refine ⟨(side s (by simp) (by simp)).1, ?_⟩
     refine ⟨(side s (by simp) (by simp)).2.1, ?_⟩
     exact begin_fin (s.re10 [1, 0, 2, 3, 4, 5, 6, 7, 8, 9] rfl) hK
end Go.Abs
namespace Go.Abs
open Go Go.Proofs
variable {E : FE} {F : Fr} {h : AHeap} {L : List Pl}
set_option maxHeartbeats 2000000 in
theorem desk_Begin (oe : OpE E) {p a2 : V} {d : DeskM} {nn : Nat} (hd : d.n = (nn : Nat)) (hn : 1 ≤ nn ∧ nn ≤ 3) (id : IdM) {ops : List Oq} (hl : ops.length ≤ 1000000) (hz : ∀ o ∈ ops, o.space.size ≤ maxLen)
 (s : Sep F h (plDsk p d :: plOps a2 ops :: L)) : cl (Go.Abs.F.desk_Desk_Begin E) [p, id.agg, a2] h fun r h' => r = .bool (beginV d id ops).1 ∧ Sep F h' (plDsk p (beginV d id ops).2 :: plOps a2 ops :: L) := by
 refine cl_of ?_
 obtain ⟨b, ml, mo, mk, rfl, s0⟩ := s.openDsk
 clear s
 simp only [Go.Abs.F.desk_Desk_Begin, new2, kP_some, ptr_eq_nil, kv_some, gdV_bool, if_true]
 have s1 := s0.box (cId id) 2
 clear s0
 generalize h.new (.cells (cId id) 2 .rw) = h1 at s1 ⊢
 generalize h.next = bi at s1 ⊢
 rw [ld2 s1.get, kv_some]
 refine gdC_yes rfl (cl_then (op_Client_ok id s1) ?_)
 rintro r h2 ⟨rfl, s2⟩
 clear s1
 have back : ∀ {g : AHeap}, Sep F g (plBox bi (cId id) 2 :: plBox b [i64 d.n, .map (some ml), .map (some mo), .map (some mk)] 4 :: plGM kdInt lsV ml d.last :: plGM kdId trV mo d.opn :: plGM kdInt anV mk d.kept :: plOps a2 ops :: L) → Sep F g (plDsk (ptr b 0) d :: plOps a2 ops :: L) := fun s => Sep.closeDsk s.drop
 simp only [not_bool, kv_some, pickV_bool, Bool.false_eq_true, if_false]
 unfold beginV
 cases hc : clientB id with
 | false =>
  simp only [Bool.not_false, gdV_bool, Bool.true_eq_false, if_false, kv_some, Bool.false_and, Bool.false_eq_true]
  refine gdC_no (by decide) ?_
  simp only [kv_some, pickV_bool, if_true, gdV_bool, Bool.true_eq_false, if_false, ifV_bool]
  exact ⟨trivial, back s2⟩
 | true =>
 simp only [Bool.not_true, gdV_bool, if_true, kv_some]
 obtain ⟨fo, qo⟩ := s2.memP (A := plOps a2 ops) (by simp)
 refine gdC_yes rfl (cl_then (op_All oe qo hl hz) ?_)
 rintro r h3 ⟨rfl, m3⟩
 have s3 := s2.skip m3
 clear s2 qo
 simp only [not_bool, kv_some, pickV_bool, Bool.false_eq_true, if_false]
 cases ha : allO ops with
 | false =>
  simp only [Bool.not_false, gdV_bool, Bool.true_eq_false, if_false, kv_some, Bool.and_false, Bool.false_and, Bool.false_eq_true, pickV_bool, if_true, ifV_bool]
  exact ⟨trivial, back s3⟩
 | true =>
 have r1 : h3.rd bi 1 = some (i64 id.seq) := by rw [rd_of s3.get 1]; rfl
 have r0 : h3.rd bi 0 = some (i64 id.client) := by rw [rd_of s3.get 0]; rfl
 have gb := Sep.get s3.up1
 have b1 : h3.rd b 1 = some (.map (some ml)) := by rw [rd_of gb 1]; rfl
 have b2 : h3.rd b 2 = some (.map (some mo)) := by rw [rd_of gb 2]; rfl
 simp only [Bool.not_true, gdV_bool, if_true, fieldAddr_ptr, kv_some, ld_one, Nat.zero_add, r1, r0, aNil_ptr, b1, Sep.lookL s3.up2 id.client, bin_leq, pickV_bool, Bool.false_eq_true, if_false, ifV_bool, decide_eq_true_eq]
 by_cases hq : id.seq ≤ (lkp id.client d.last).getD 0
 · rw [if_pos hq]
   have : ¬ (lkp id.client d.last).getD 0 < id.seq := by omega
   simp only [this, decide_false, Bool.and_false, Bool.false_eq_true, if_false]
   exact ⟨trivial, back s3⟩
 rw [if_neg hq]
 have hq' : (lkp id.client d.last).getD 0 < id.seq := by omega
 simp only [hq', decide_true, Bool.and_self, if_true]
 obtain ⟨h4, e4, s4⟩ := Sep.insM (D := kdInt) (A := lsV) (k := id.client) (v := i64 id.seq) (x := id.seq) (z := .int .i64 0) (Sep.up1 (Sep.mkPure (φ := (i64 id.seq : V) = i64 id.seq) rfl s3.up2))
 have e4 : mapUpdateD (some (.int, (some (.int .i64 0)))) (.map (some ml)) (i64 id.client) (i64 id.seq) h3 = some h4 := e4
 rw [e4, kH_some]
 have gb4 := Sep.get (s4.re6 [2] rfl)
 have c2 : h4.rd b 2 = some (.map (some mo)) := by rw [rd_of gb4 2]; rfl
 have c0 : h4.rd b 0 = some (i64 d.n) := by rw [rd_of gb4 0]; rfl
 have i4 : ldD (.agg 2) (ptr bi 0) h4 = some id.agg := ld2 (Sep.get s4.up1)
 have c2' : ldD .one (ptr b 2) h4 = some (.map (some mo)) := by rw [ld_one]; exact c2
 have c0' : ldD .one (ptr b 0) h4 = some (i64 d.n) := by rw [ld_one]; exact c0
 simp only [aNil_ptr, kv_some, fieldAddr_ptr, Nat.zero_add, c2, c0, i4]
 have hal := allF ha
 have hz9 : ∀ o ∈ ops, o.space.size ≤ 1000000000 := fun o ho => by
  have := hz o ho
  have h20 := (mayF (hal.2.2 o ho)).sp.2
  omega
 have hnn : d.n.toNat = nn := by rw [hd]; rfl
 rw [hnn, hd]
 rw [hd] at s4
 have s5 : Sep F h4 (plBox bi (cId id) 2 :: plBox b [i64 (nn : Nat), .map (some ml), .map (some mo), .map (some mk)] 4 :: plOps a2 ops :: plGM kdId trV mo d.opn :: plGM kdInt lsV ml (ins id.client id.seq d.last) :: plGM kdInt anV mk d.kept :: L) := s4.re6 [1, 2, 5, 3, 0, 4] rfl
 refine begin_tree hn (by omega) hz9 s5 ?_
 intro h' s'
 exact ⟨trivial, s'⟩
end Go.Abs
namespace Go.Abs
open Go Go.Proofs
variable {E : FE} {F : Fr} {h : AHeap} {L : List Pl}
theorem Sep.litInts (s : Sep F h L) (l : List Int) (hl : l ≠ []) : Sep F (h.new (.cells (dInt.flat l) 1 .rw)) (plI64s (.slice (some ⟨h.next, 0, none⟩) l.length (2 * l.length)) l :: L) :=
 s.alloc (a' := [h.next]) (plI64s (.slice (some ⟨h.next, 0, none⟩) l.length (2 * l.length)) l) ⟨by simp, fun x hx _ => by
  have : x ≠ h.next := by omega
  simp [this], by simp, by simp⟩ (SlE.lit dInt h l hl)
theorem Sep.litStrs (s : Sep F h L) (l : List ByteArray) (hl : l ≠ []) : Sep F (h.new (.cells (dStr.flat l) 1 .rw)) (plStrs (.slice (some ⟨h.next, 0, none⟩) l.length (2 * l.length)) l :: L) :=
 s.alloc (a' := [h.next]) (plStrs (.slice (some ⟨h.next, 0, none⟩) l.length (2 * l.length)) l) ⟨by simp, fun x hx _ => by
  have : x ≠ h.next := by omega
  simp [this], by simp, by simp⟩ (ts_sle.2 (SlE.lit dStr h l hl))
theorem Sep.noStrs (s : Sep F h L) : Sep F h (plStrs (.slice none 0 0) [] :: L) := s.alloc (a' := []) (plStrs (.slice none 0 0) []) (Mod.refl (by simp)) Sl.nil
theorem clock2 (now x y : Int) : clockV now [x, y] [] = now := rfl
end Go.Abs
namespace Go.Abs
open Go Go.Proofs
variable {E : FE} {F : Fr} {h : AHeap} {L : List Pl}
structure PtsR (h : AHeap) (v : V) (ps : List (List Int)) : Prop where
 len : lenD .slice v h = some (i64 ps.length)
 row : ∀ (i : Nat) (p : List Int), ps[i]? = some p → ∃ a t, indexAddrD (.slice 1) v (i64 i) = some a ∧ ldD .one a h = some t ∧ lenD .slice t h = some (i64 p.length) ∧
  ∀ (j : Nat) (x : Int), p[j]? = some x → ∃ c, indexAddrD (.slice 1) t (i64 j) = some c ∧ ldD .one c h = some (i64 x)
theorem Sep.ptsR {v : V} {ps : List (List Int)} (s : Sep F h (plPts v ps :: L)) : PtsR h v ps := by
 obtain ⟨qs, rfl, s1⟩ := s.openPts
 obtain ⟨f, q, _⟩ := s1.head
 have q : SlE dSl h f v (qs.map (·.1)) := q
 refine ⟨by rw [q.len, List.length_map, List.length_map], fun i p hp => ?_⟩
 rw [List.getElem?_map, Option.map_eq_some_iff] at hp
 obtain ⟨e, he, rfl⟩ := hp
 have hx : (qs.map (·.1))[i]? = some e.1 := by rw [List.getElem?_map, he]; rfl
 obtain ⟨b, _, a1, _, a3⟩ := q.at hx
 obtain ⟨f2, q2⟩ := s1.memP (A := pzI e) (List.mem_cons_of_mem _ (List.mem_append.2 (.inl (List.mem_map.2 ⟨e, List.mem_of_getElem? he, rfl⟩))))
 have q2 : SlE dInt h f2 (mkS e.1) e.2 := q2
 refine ⟨ptr b (i * 1), mkS e.1, a1, a3 0 (by decide), q2.len, fun j x hx => ?_⟩
 obtain ⟨b2, _, c1, _, c3⟩ := q2.at hx
 exact ⟨ptr b2 (j * 1), c1, c3 0 (by decide)⟩
def hasF (ps : List (List Int)) (s : Int) : Bool := decide (0 ≤ s) && decide (0 < (ps.getD s.toNat []).length)
theorem trans_has {b : Nat} {vp : V} {ps : List (List Int)} (r1 : h.rd b 1 = some vp) (q : PtsR h vp ps) (s : Int) :
 cl (Go.Abs.F.desk_trans_has E) [ptr b 0, i64 s] h fun r h' => r = .bool (hasF ps s) ∧ h' = h := by
 refine cl_of ?_
 simp only [Go.Abs.F.desk_trans_has, bin_geq, kv_some]
 unfold hasF
 by_cases h0 : 0 ≤ s
 case neg =>
  have h0' : ¬ s ≥ 0 := h0
  simp only [h0, h0', decide_false, gdV_bool, Bool.false_eq_true, if_false, kv_some, pickV_bool, Bool.false_and, show (false == true) = false from rfl]
  constructor <;> first | trivial | rfl
 obtain ⟨k, rfl⟩ : ∃ k : Nat, s = k := ⟨s.toNat, by omega⟩
 have h0' : (k : Int) ≥ 0 := h0
 simp only [h0, h0', decide_true, gdV_bool, if_true, kv_some, show (true == true) = true from rfl, aNil_ptr, fieldAddr_ptr, Nat.zero_add, ld_one, r1, q.len, bin_lss, pickV_bool, Bool.true_and, Int.toNat_natCast]
 by_cases hk : k < ps.length
 case neg =>
  have e : ps.getD k [] = [] := by rw [List.getD_eq_getElem?_getD, List.getElem?_eq_none (by omega)]; rfl
  have hk' : ¬ (k : Int) < (ps.length : Nat) := by omega
  simp only [hk', decide_false, gdV_bool, Bool.false_eq_true, if_false, kv_some, pickV_bool, e, List.length_nil, Nat.lt_irrefl, show (false == true) = false from rfl]
  constructor <;> first | trivial | rfl
 have hg : ps[k]? = some ps[k] := List.getElem?_eq_getElem hk
 have e : ps.getD k [] = ps[k] := by rw [List.getD_eq_getElem?_getD, hg]; rfl
 obtain ⟨a, t, a1, a2, a3, _⟩ := q.row k _ hg
 have hk' : (k : Int) < (ps.length : Nat) := by omega
 have e5 : decide (((ps[k]).length : Int) > 0) = decide (0 < (ps[k]).length) := by
  by_cases hz : 0 < (ps[k]).length
  · rw [decide_eq_true hz]; exact decide_eq_true (by omega)
  · rw [decide_eq_false hz]; exact decide_eq_false (by omega)
 simp only [hk', decide_true, gdV_bool, if_true, kv_some, aNil_ptr, fieldAddr_ptr, Nat.zero_add, ld_one, r1, a1, a2, a3, bin_gtr, pickV_bool, e, e5]
 constructor <;> first | trivial | rfl
def shardsF (ps : List (List Int)) : List Int := ((List.range ps.length).map fun i : Nat => (i : Int)).filter (hasF ps)
theorem shards_step (ps : List (List Int)) (i : Nat) : ((List.range (i + 1)).map fun i : Nat => (i : Int)).filter (hasF ps) = ((List.range i).map fun i : Nat => (i : Int)).filter (hasF ps) ++ if hasF ps i = true then [(i : Int)] else [] := by
 rw [List.range_succ, List.map_append, List.filter_append]
 congr 1
 simp only [List.map_cons, List.map_nil, List.filter_cons, List.filter_nil]
theorem trans_shards {b : Nat} {cs : List V} {vp : V} {ps : List (List Int)} (hc : cs[1]? = some vp) (hsz : ps.length ≤ 1000000) (s : Sep F h (plBox b cs 7 :: plPts vp ps :: L)) :
 cl (Go.Abs.F.desk_trans_shards E) [ptr b 0] h fun r h' => Sep F h' (plI64s r (shardsF ps) :: plBox b cs 7 :: plPts vp ps :: L) := by
 refine cl_of ?_
 have r1 : h.rd b 1 = some vp := by rw [rd_of s.get 1, hc]
 have q := s.up1.ptsR
 simp only [Go.Abs.F.desk_trans_shards, aNil_ptr, kv_some, fieldAddr_ptr, Nat.zero_add, ld_one, r1, q.len]
 refine ⟨fun n vs h' => ∃ (i : Nat) (t : Tri), vs = [mkS t, i64 i] ∧ n = ps.length - i ∧ i ≤ ps.length ∧ Sep F h' (plI64s (mkS t) (((List.range i).map fun i : Nat => (i : Int)).filter (hasF ps)) :: plBox b cs 7 :: plPts vp ps :: L),
  ps.length, ⟨0, (none, 0, 0), rfl, by omega, by omega, Sep.noInts s⟩, ?_⟩
 rintro n e h2 ⟨i, t, he, rfl, hi, s2⟩
 simp only [List.cons.injEq, and_true] at he
 simp only [he.1, he.2, bin_lss, kv_some, ifV_bool, decide_eq_true_eq]
 by_cases hx : i < ps.length
 case neg =>
  rw [if_neg (show ¬ ((i : Nat) : Int) < (ps.length : Nat) by omega)]
  obtain rfl : i = ps.length := by omega
  exact s2
 rw [if_pos (show ((i : Nat) : Int) < (ps.length : Nat) by omega)]
 have r1 : h2.rd b 1 = some vp := by rw [rd_of s2.up1.get 1, hc]
 have q := (s2.up2).ptsR
 refine cl_then (trans_has r1 q (i : Int)) ?_
 rintro r h3 ⟨rfl, rfl⟩
 rw [ifV_bool]
 have hst := shards_step ps i
 cases hb : hasF ps (i : Int) with
 | false =>
  rw [hb] at hst
  simp only [Bool.false_eq_true, if_false, List.append_nil] at hst ⊢
  rw [add_i64 _ 1 (by omega) (by omega), kv_some]
  exact ⟨ps.length - (i + 1), by omega, i + 1, t, by simp, rfl, by omega, by rw [hst]; exact s2⟩
 | true =>
  rw [hb] at hst
  simp only [if_true] at hst ⊢
  obtain ⟨f, q1, kk⟩ := s2.head
  have q1 : SlE dInt h3 f (mkS t) (((List.range i).map fun i : Nat => (i : Int)).filter (hasF ps)) := q1
  have hl : (((List.range i).map fun i : Nat => (i : Int)).filter (hasF ps)).length ≤ 1000000 := by
   refine Nat.le_trans (List.length_filter_le _ _) ?_
   simp; omega
  obtain ⟨h4, e4, t2, h5, f5, e5, q5, m5⟩ := append_int q1 hl (i : Int)
  rw [e4, kP_some, e5, kP_some, add_i64 _ 1 (by omega) (by omega), kv_some]
  refine ⟨ps.length - (i + 1), by omega, i + 1, t2, by simp, rfl, by omega, ?_⟩
  rw [hst]
  exact kk (plI64s (mkS t2) _) m5 q5
def bitF (y : Bool) : Int := if y then 1 else 0
theorem op_bit (y : Bool) : cl (Go.Abs.F.op_bit E) [.bool y] h fun r h' => r = i64 (bitF y) ∧ h' = h := by
 refine cl_of ?_
 simp only [Go.Abs.F.op_bit, ifV_bool]
 cases y <;> (constructor <;> first | trivial | rfl)
structure RecM where
 kind : Int
 nums : List Int
 texts : List ByteArray
def plRec (v : V) (r : RecM) : Pl := plEx fun (t : Tri × Tri) => plAll [plPure (v = .agg #[i64 r.kind, mkS t.1, mkS t.2]), plI64s (mkS t.1) r.nums, plStrs (mkS t.2) r.texts]
theorem Sep.openRec {v : V} {r : RecM} (s : Sep F h (plRec v r :: L)) : ∃ t u, v = .agg #[i64 r.kind, mkS t, mkS u] ∧ Sep F h (plI64s (mkS t) r.nums :: plStrs (mkS u) r.texts :: L) := by
 obtain ⟨⟨t, u⟩, s⟩ := s.ex
 have s1 := s.all
 obtain ⟨e, s2⟩ := Sep.pure (L := plI64s (mkS t) r.nums :: plStrs (mkS u) r.texts :: L) s1
 exact ⟨t, u, e, s2⟩
theorem Sep.closeRec {t u : Tri} {r : RecM} (s : Sep F h (plI64s (mkS t) r.nums :: plStrs (mkS u) r.texts :: L)) : Sep F h (plRec (.agg #[i64 r.kind, mkS t, mkS u]) r :: L) :=
 Sep.mkEx (A := fun (x : Tri × Tri) => plAll [plPure ((.agg #[i64 r.kind, mkS t, mkS u] : V) = .agg #[i64 r.kind, mkS x.1, mkS x.2]), plI64s (mkS x.1) r.nums, plStrs (mkS x.2) r.texts]) (t, u)
  (Sep.mkAll (L' := [plPure ((.agg #[i64 r.kind, mkS t, mkS u] : V) = .agg #[i64 r.kind, mkS t, mkS u]), plI64s (mkS t) r.nums, plStrs (mkS u) r.texts]) (Sep.mkPure rfl s))
def noRec : RecM := ⟨0, [], []⟩
def wordV (kind : Int) (id : IdM) (s : Int) (y : Bool) : RecM × Bool :=
 if (decide (kind = 6) || decide (kind = 7)) && clientB id && decide (0 ≤ s) && decide (s < 3) then (⟨kind, [id.client, id.seq, s, bitF y], []⟩, true) else (noRec, false)
end Go.Abs
namespace Go.Abs
open Go Go.Proofs
variable {E : FE} {F : Fr} {h : AHeap} {L : List Pl}
theorem ret3 {b : Nat} {c0 c1 c2 x0 x1 x2 : V} (s : Sep F h (plBox b [c0, c1, c2] 3 :: L)) (h0 : oneCell x0 = true) (h1 : oneCell x1 = true) (h2 : oneCell x2 = true) {K : V → AHeap → Prop}
 (hK : ∀ h', Sep F h' (plBox b [x0, x1, x2] 3 :: L) → K (.agg #[x0, x1, x2]) h') : kH (stD (some 3) (ptr b 0) (.agg #[x0, x1, x2]) h) fun _ h => kv (ldD (.agg 3) (ptr b 0) h) fun r => K r h := by
 rw [st_of (n := 3) (vs := [x0, x1, x2]) s.get (by simp) rfl rfl (by simp [h0, h1, h2]) (by simp), kH_some]
 have s1 := s.write (cs' := setList [c0, c1, c2] 0 [x0, x1, x2])
 have e : setList [c0, c1, c2] 0 [x0, x1, x2] = [x0, x1, x2] := rfl
 rw [e] at s1 ⊢
 rw [ld_agg, rdN_of s1.get]
 exact hK _ s1
theorem Sep.noRec (s : Sep F h L) : Sep F h (plRec (.agg #[i64 0, .slice none 0 0, .slice none 0 0]) noRec :: L) :=
 Sep.closeRec (t := (none, 0, 0)) (u := (none, 0, 0)) (r := Go.Abs.noRec) ((Sep.noStrs (Sep.noInts s)).up1)
theorem op_Word {kind : Int} (hk : kind = 6 ∨ kind = 7) (id : IdM) (sh : Int) (y : Bool) (s : Sep F h L) :
 cl (Go.Abs.F.op_Word E) [i64 kind, id.agg, i64 sh, .bool y] h fun r h' => ∃ v, r = .tuple #[v, .bool (wordV kind id sh y).2] ∧ Sep F h' (plRec v (wordV kind id sh y).1 :: L) := by
 refine cl_of ?_
 have hkd : (decide (kind = 6) || decide (kind = 7)) = true := by simpa using hk
 simp only [Go.Abs.F.op_Word, new2, kP_some]
 have s1 := s.box (cId id) 2
 generalize h.new (.cells (cId id) 2 .rw) = h1 at s1 ⊢
 generalize h.next = bi at s1 ⊢
 have e2 : newD none (.agg #[(.int .i64 0), (.slice none 0 0), (.slice none 0 0)]) h1 = some (ptr h1.next 0, h1.new (.cells [i64 0, .slice none 0 0, .slice none 0 0] 3 .rw)) := rfl
 rw [e2, kP_some]
 have s2 := s1.box [i64 0, .slice none 0 0, .slice none 0 0] 3
 clear s1 e2
 generalize h1.new (.cells [i64 0, .slice none 0 0, .slice none 0 0] 3 .rw) = h2 at s2 ⊢
 generalize h1.next = br at s2 ⊢
 have first : ∀ X : V → Prop, X (.bool false) → kv (binD .bad .neq true (i64 kind) (.int .i64 6) h2) fun v11 => kv (gdV v11 true (some (i64 kind))) fun v13 => kv (gdV v11 true (binD .bad .neq true v13 (.int .i64 7) h2)) fun v14 => kv (pickV v11 v14 (.bool false)) X := by
  intro X hX
  rcases hk with rfl | rfl
  · simp only [bin_neq, show ((6 : Int) != 6) = false from rfl, kv_some, gdV_bool, Bool.false_eq_true, if_false, pickV_bool]
    exact hX
  · simp only [bin_neq, show ((7 : Int) != 6) = true from rfl, show ((7 : Int) != 7) = false from rfl, kv_some, gdV_bool, if_true, pickV_bool]
    exact hX
 refine first _ ?_
 have li : ldD (.agg 2) (ptr bi 0) h2 = some id.agg := ld2 (Sep.get s2.up1)
 simp only [gdV_bool, if_true, li, kv_some]
 refine gdC_yes rfl (cl_then (op_Client_ok id s2) ?_)
 rintro r h3 ⟨rfl, s3⟩
 simp only [not_bool, kv_some, pickV_bool, Bool.false_eq_true, if_false]
 have eb : buildD (.struct [(.int .i64 0), (.slice none 0 0), (.slice none 0 0)] [(0, 1), (1, 1), (2, 1)]) [] = some (.agg #[i64 0, .slice none 0 0, .slice none 0 0]) := rfl
 have bad : wordV kind id sh y = (Go.Abs.noRec, false) → kH (stD (some 3) (ptr br 0) (.agg #[i64 0, .slice none 0 0, .slice none 0 0]) h3) fun _ h => kv (ldD (.agg 3) (ptr br 0) h) fun r18 => ∃ v, (.tuple #[r18, (.bool false)] : V) = .tuple #[v, .bool (wordV kind id sh y).2] ∧ Sep F h (plRec v (wordV kind id sh y).1 :: L) := by
  intro e
  rw [e]
  exact ret3 s3 rfl rfl rfl fun h' s' => ⟨_, rfl, (s'.drop.drop).noRec⟩
 have hw : wordV kind id sh y = if clientB id && decide (0 ≤ sh) && decide (sh < 3) then (⟨kind, [id.client, id.seq, sh, bitF y], []⟩, true) else (Go.Abs.noRec, false) := by
  unfold wordV
  rw [hkd, Bool.true_and]
 cases hc : clientB id with
 | false =>
  simp only [Bool.not_false, gdV_bool, Bool.true_eq_false, if_false, kv_some, pickV_bool, if_true, ifV_bool, eb]
  exact bad (by rw [hw, hc]; rfl)
 | true =>
 by_cases h0 : sh < 0
 · simp only [Bool.not_true, gdV_bool, if_true, kv_some, bin_lss, h0, decide_true, pickV_bool, Bool.false_eq_true, if_false, Bool.true_eq_false, ifV_bool, eb]
   exact bad (by rw [hw, decide_eq_false (show ¬ 0 ≤ sh by omega), Bool.and_false]; rfl)
 by_cases h3' : sh ≥ 3
 · simp only [Bool.not_true, gdV_bool, if_true, kv_some, bin_lss, h0, decide_false, pickV_bool, Bool.false_eq_true, if_false, bin_geq, h3', decide_true, ifV_bool, eb]
   exact bad (by rw [hw, decide_eq_false (show ¬ sh < 3 by omega), Bool.and_false]; rfl)
 have hw1 : wordV kind id sh y = (⟨kind, [id.client, id.seq, sh, bitF y], []⟩, true) := by
  rw [hw, hc, decide_eq_true (show 0 ≤ sh by omega), decide_eq_true (show sh < 3 by omega)]; rfl
 have i0 : h3.rd bi 0 = some (i64 id.client) := by rw [rd_of (Sep.get s3.up1) 0]; rfl
 have i1 : h3.rd bi 1 = some (i64 id.seq) := by rw [rd_of (Sep.get s3.up1) 1]; rfl
 simp only [Bool.not_true, gdV_bool, if_true, kv_some, bin_lss, h0, decide_false, pickV_bool, Bool.false_eq_true, if_false, bin_geq, h3', ifV_bool, fieldAddr_ptr, Nat.zero_add, ld_one, i0, i1]
 refine cl_then (op_bit y) ?_
 rintro r h4 ⟨rfl, rfl⟩
 simp only [i0, i1, true_and]
 rw [show buildSliceD (some (1, [(.int .i64 0)])) 4 [(0, i64 id.client), (1, i64 id.seq), (2, i64 sh), (3, i64 (bitF y))] h4 = some (.slice (some ⟨h4.next, 0, none⟩) 4 8, h4.new (.cells (dInt.flat [id.client, id.seq, sh, bitF y]) 1 .rw)) from rfl, kP_some]
 have s4 := s3.litInts [id.client, id.seq, sh, bitF y] (by simp)
 generalize h4.new (.cells (dInt.flat [id.client, id.seq, sh, bitF y]) 1 .rw) = h5 at s4 ⊢
 generalize h4.next = bn at s4 ⊢
 rw [show buildD (.struct [(.int .i64 0), (.slice none 0 0), (.slice none 0 0)] [(0, 1), (1, 1), (2, 1)]) [(0, i64 kind), (1, .slice (some ⟨bn, 0, none⟩) 4 8)] = some (.agg #[i64 kind, mkS (some ⟨bn, 0, none⟩, 4, 8), .slice none 0 0]) from rfl, kv_some]
 refine ret3 s4.up1 rfl rfl rfl fun h' s' => ⟨_, by rw [hw1], ?_⟩
 rw [hw1]
 have s5 : Sep F h' (plI64s (mkS (some ⟨bn, 0, none⟩, 4, 8)) [id.client, id.seq, sh, bitF y] :: L) := s'.re3 [1] rfl
 exact Sep.closeRec (t := (some ⟨bn, 0, none⟩, 4, 8)) (u := (none, 0, 0)) (r := ⟨kind, [id.client, id.seq, sh, bitF y], []⟩) (Sep.noStrs s5).up1
end Go.Abs
namespace Go.Abs
open Go Go.Proofs
variable {E : FE} {F : Fr} {h : AHeap} {L : List Pl}
theorem append_lit {α : Type} (D : EL α) {fp : List Nat} {v : V} {l : List α} (s : SlE D h fp v l) (xs : List α) (hx : xs ≠ []) {bytes : Nat} {z : List V} (hz : z.length = D.es) (hby : bytes ≤ 64) (hsz : l.length + xs.length ≤ 1000000) :
 ∃ t h2 fp', appendD (some (D.es, bytes, z)) v (.slice (some ⟨h.next, 0, none⟩) xs.length (2 * xs.length)) (h.new (.cells (D.flat xs) D.es .rw)) = some (mkS t, h2) ∧ SlE D h2 fp' (mkS t) (l ++ xs) ∧ Mod h fp h2 fp' := by
 have s1 : SlE D (h.new (.cells (D.flat xs) D.es .rw)) fp v l := SlE.same s (by simp) fun y hy => by
  have := s.lt y hy
  have : y ≠ h.next := by omega
  simp [this]
 have hp := D.flat_len xs
 obtain ⟨v', h', fl', a1, a2, a3⟩ := Sl.append s1 (x := .slice (some ⟨h.next, 0, none⟩) xs.length (2 * xs.length)) (k := xs.length) (bytes := bytes) (z := z) (new := D.flat xs) hz D.pos hby rfl
  (fun _ => by
   have : (h.new (.cells (D.flat xs) D.es .rw)).get h.next = some (.cells (D.flat xs) D.es .rw) := by simp
   simp only [aSrc, sliceCells]
   rw [rdN_of this, if_pos (by omega), List.drop_zero, ← hp, List.take_length]) hp (D.flat_one xs) (by omega)
 have a2' : SlE D h' fl' v' (l ++ xs) := by
  unfold SlE
  rw [List.length_append, D.flat_app]
  exact a2
 obtain ⟨t, rfl⟩ := sl_form a2'
 exact ⟨t, h', fl', a1, a2', (Mod.newBox (h := h) (fp := fp) s.lt).trans a3⟩
theorem Sep.appI {v : V} {l : List Int} (s : Sep F h (plI64s v l :: L)) (xs : List Int) (hx : xs ≠ []) (hsz : l.length + xs.length ≤ 1000000) :
 ∃ t h2, appendD (some (1, 8, [(.int .i64 0)])) v (.slice (some ⟨h.next, 0, none⟩) xs.length (2 * xs.length)) (h.new (.cells (dInt.flat xs) 1 .rw)) = some (mkS t, h2) ∧ Sep F h2 (plI64s (mkS t) (l ++ xs) :: L) := by
 obtain ⟨f, q, k⟩ := s.head
 obtain ⟨t, h2, fp', a1, a2, a3⟩ := append_lit dInt (show SlE dInt h f v l from q) xs hx (bytes := 8) (z := [(.int .i64 0)]) rfl (by decide) hsz
 exact ⟨t, h2, a1, k (plI64s (mkS t) (l ++ xs)) a3 a2⟩
theorem Sep.appS {v : V} {l : List ByteArray} (s : Sep F h (plStrs v l :: L)) (xs : List ByteArray) (hx : xs ≠ []) (hsz : l.length + xs.length ≤ 1000000) :
 ∃ t h2, appendD (some (1, 16, [(.string ⟨#[]⟩)])) v (.slice (some ⟨h.next, 0, none⟩) xs.length (2 * xs.length)) (h.new (.cells (dStr.flat xs) 1 .rw)) = some (mkS t, h2) ∧ Sep F h2 (plStrs (mkS t) (l ++ xs) :: L) := by
 obtain ⟨f, q, k⟩ := s.head
 have q : Ts h f v l := q
 obtain ⟨t, h2, fp', a1, a2, a3⟩ := append_lit dStr (ts_sle.1 q) xs hx (bytes := 16) (z := [(.string ⟨#[]⟩)]) rfl (by decide) hsz
 exact ⟨t, h2, a1, k (plStrs (mkS t) (l ++ xs)) a3 (ts_sle.2 a2)⟩
theorem Sep.appO {v : V} {l : List Oq} (s : Sep F h (plOps v l :: L)) (xs : List Oq) (hx : xs ≠ []) (hsz : l.length + xs.length ≤ 1000000) :
 ∃ t h2, appendD (some (5, 64, [(.int .i64 0), (.string ⟨#[]⟩), (.string ⟨#[]⟩), (.string ⟨#[]⟩), (.int .i64 0)])) v (.slice (some ⟨h.next, 0, none⟩) xs.length (2 * xs.length)) (h.new (.cells (dOp.flat xs) 5 .rw)) = some (mkS t, h2) ∧ Sep F h2 (plOps (mkS t) (l ++ xs) :: L) := by
 obtain ⟨f, q, k⟩ := s.head
 obtain ⟨t, h2, fp', a1, a2, a3⟩ := append_lit dOp (show SlE dOp h f v l from q) xs hx (bytes := 64) (z := [(.int .i64 0), (.string ⟨#[]⟩), (.string ⟨#[]⟩), (.string ⟨#[]⟩), (.int .i64 0)]) rfl (by decide) hsz
 exact ⟨t, h2, a1, k (plOps (mkS t) (l ++ xs)) a3 a2⟩
/-! ### op.Of -/
def ofF (ops : List Oq) (p : List Int) : List Oq := p.filterMap fun i => ops[i.toNat]?
theorem parts_in (l : List (Oq × Nat)) (n m : Nat) : ∀ (ps : List (List Int)), (∀ e ∈ l, e.2 < m) → (∀ p ∈ ps, ∀ x ∈ p, 0 ≤ x ∧ x < (m : Int)) → ∀ p ∈ l.foldl (fun ps e => addP ps (markN e.1.space % n) e.2) ps, ∀ x ∈ p, 0 ≤ x ∧ x < (m : Int) := by
 induction l with
 | nil => exact fun ps _ h => h
 | cons a l ih =>
  intro ps hl hps
  rw [List.foldl_cons]
  refine ih _ (fun e he => hl e (by simp [he])) fun q hq => ?_
  rcases List.mem_or_eq_of_mem_set hq with hq | rfl
  · exact hps q hq
  · intro x hx
    rcases List.mem_append.1 hx with hx | hx
    · rw [List.getD_eq_getElem?_getD] at hx
      cases hg : ps[markN a.1.space % n]? with
      | none => rw [hg] at hx; simp at hx
      | some q => rw [hg] at hx; exact hps q (List.mem_of_getElem? hg) x hx
    · have := hl a (by simp)
      have : x = (a.2 : Int) := by simpa using hx
      omega
theorem parts_lt {ops : List Oq} {n : Nat} {p : List Int} (hp : p ∈ partsF ops n) : ∀ x ∈ p, 0 ≤ x ∧ x < (ops.length : Int) :=
 parts_in ops.zipIdx n ops.length (List.replicate n []) (fun e he => by
  have := List.mem_zipIdx he
  omega) (fun p hp => by rw [(List.mem_replicate.1 hp).2]; simp) p hp
theorem parts_short {ops : List Oq} {n : Nat} {p : List Int} (hp : p ∈ partsF ops n) : p.length ≤ ops.length := by
 have := parts_small ops.zipIdx n (List.replicate n []) 0 (fun p hp => by rw [(List.mem_replicate.1 hp).2]; simp) p hp
 rw [List.length_zipIdx] at this
 omega
theorem ofF_len (l : List Oq) (p : List Int) : (ofF l p).length ≤ p.length := List.length_filterMap_le _ _
theorem op_Of {v : V} {l : List Oq} {n sh : Nat} (hn : 1 ≤ n ∧ n ≤ 3) (hs : sh < n) (hl : l.length ≤ 100000) (hz : ∀ o ∈ l, o.space.size ≤ 1000000000) (s : Sep F h (plOps v l :: L)) :
 cl (Go.Abs.F.op_Of E) [v, i64 sh, i64 n] h fun r h' => Sep F h' (plOps r (ofF l ((partsF l n).getD sh [])) :: plOps v l :: L) := by
 refine cl_of ?_
 simp only [Go.Abs.F.op_Of]
 refine cl_then (op_Parts_ok hn hl hz s) ?_
 intro w h1 s1
 have q := s1.ptsR
 have hlen := parts_len l n
 have h0 : ¬ ((sh : Nat) : Int) < 0 := by omega
 have h3 : ¬ ((sh : Nat) : Int) ≥ (n : Nat) := by omega
 obtain ⟨qs, hq, s1'⟩ := s1.openPts
 have hqn : sh < qs.length := by rw [← hq, List.length_map] at hlen; omega
 have he : qs[sh]? = some qs[sh] := List.getElem?_eq_getElem hqn
 have hm : (qs[sh]).2 ∈ partsF l n := by rw [← hq]; exact List.mem_map.2 ⟨_, List.getElem_mem hqn, rfl⟩
 have hgd : (partsF l n).getD sh [] = (qs[sh]).2 := by rw [← hq, List.getD_eq_getElem?_getD, List.getElem?_map, he]; rfl
 rw [hgd]
 have hmem : pzI qs[sh] ∈ qs.map pzI := List.mem_map.2 ⟨_, List.getElem_mem hqn, rfl⟩
 obtain ⟨f, q1, _⟩ := s1'.head
 have q1 : SlE dSl h1 f w (qs.map (·.1)) := q1
 have hx0 : (qs.map (·.1))[sh]? = some (qs[sh]).1 := by rw [List.getElem?_map, he]; rfl
 obtain ⟨b, _, a1, _, a2⟩ := q1.at hx0
 have a1 : indexAddrD (.slice 1) w (i64 sh) = some (ptr b (sh * 1)) := a1
 have a2 : h1.rd b (sh * 1) = some (mkS (qs[sh]).1) := a2 0 (by decide)
 generalize qs[sh] = ee at hm hmem a2
 obtain ⟨t, p⟩ := ee
 have hlp : p.length ≤ l.length := parts_short hm
 have hin : ∀ x ∈ p, 0 ≤ x ∧ x < (l.length : Int) := parts_lt hm
 obtain ⟨f2, q2⟩ := s1'.memP (A := pzI (t, p)) (List.mem_cons_of_mem _ (List.mem_append.2 (.inl hmem)))
 have q2 : SlE dInt h1 f2 (mkS t) p := q2
 simp only [bin_lss, h0, decide_false, kv_some, gdV_bool, if_true, q.len, hlen, bin_geq, h3, pickV_bool, Bool.false_eq_true, if_false, ifV_bool, a1, ld_one, a2, q2.len]
 refine ⟨fun m vs h' => ∃ (i : Nat) (u : Tri), vs = [mkS u, i64 i] ∧ m = p.length - i ∧ i ≤ p.length ∧ Sep F h' (plOps (mkS u) (ofF l (p.take i)) :: plSls w (qs.map (·.1)) :: (qs.map pzI ++ (plOps v l :: L))), p.length, ⟨0, (none, 0, 0), rfl, by omega, by omega, Sep.nilOps s1'⟩, ?_⟩
 rintro m e h2 ⟨i, u, he, rfl, hi, s2⟩
 simp only [List.cons.injEq, and_true] at he
 simp only [he.1, he.2, bin_lss, kv_some, ifV_bool, decide_eq_true_eq]
 by_cases hx : i < p.length
 case neg =>
  rw [if_neg (show ¬ ((i : Nat) : Int) < (p.length : Nat) by omega)]
  rw [List.take_of_length_le (by omega)] at s2
  exact (s2.up1.drop.perm List.perm_middle.symm).dropL
 rw [if_pos (show ((i : Nat) : Int) < (p.length : Nat) by omega)]
 obtain ⟨f3, q3⟩ := s2.memP (A := pzI (t, p)) (List.mem_cons_of_mem _ (List.mem_cons_of_mem _ (List.mem_append.2 (.inl hmem))))
 have q3 : SlE dInt h2 f3 (mkS t) p := q3
 have hg : p[i]? = some p[i] := List.getElem?_eq_getElem hx
 have hxb := hin _ (List.getElem_mem hx)
 have htk : p.take (i + 1) = p.take i ++ [p[i]] := by rw [List.take_add_one, hg]; rfl
 obtain ⟨b3, _, c1, _, c2⟩ := q3.at hg
 have c1 : indexAddrD (.slice 1) (mkS t) (i64 i) = some (ptr b3 (i * 1)) := c1
 have c2 : h2.rd b3 (i * 1) = some (i64 p[i]) := c2 0 (by decide)
 generalize p[i] = x at hxb htk c2
 obtain ⟨k, rfl⟩ : ∃ k : Nat, x = k := ⟨x.toNat, by omega⟩
 have hk : k < l.length := by omega
 have hgk : l[k]? = some l[k] := List.getElem?_eq_getElem hk
 obtain ⟨f4, q4⟩ := s2.memP (A := plOps v l) (by simp)
 have q4 : SlE dOp h2 f4 v l := q4
 obtain ⟨b4, i1, i2⟩ := q4.ld hgk
 have i1 : indexAddrD (.slice 5) v (i64 (k : Nat)) = _ := i1
 have i2 : ldD (.agg 5) _ _ = some (l[k]).agg := i2
 have hof : ofF l (p.take (i + 1)) = ofF l (p.take i) ++ [l[k]] := by
  unfold ofF
  rw [htk, List.filterMap_append]
  simp [hgk]
 have hsz : (ofF l (p.take i)).length + [l[k]].length ≤ 1000000 := by
  have := ofF_len l (p.take i)
  rw [List.length_take] at this
  simp
  omega
 obtain ⟨t', h3, e3, s3⟩ := s2.appO [l[k]] (by simp) hsz
 rw [c1, kv_some, ld_one, c2, kv_some, i1, kv_some, i2, kv_some]
 refine kP_of (v := .slice (some ⟨h2.next, 0, none⟩) 1 2) (g := h2.new (.cells (dOp.flat [l[k]]) 5 .rw)) rfl ?_
 refine kP_of e3 ?_
 rw [add_i64 _ 1 (by omega) (by omega), kv_some]
 refine ⟨p.length - (i + 1), by omega, i + 1, t', by simp, rfl, by omega, ?_⟩
 rw [hof]
 exact s3
/-! ### op.Put -/
def putV (kind : Int) (id : IdM) (ops : List Oq) : RecM × Bool :=
 if clientB id && allO ops then (⟨kind, id.client :: id.seq :: ops.flatMap fun o => [o.fn, o.n], ops.flatMap fun o => [o.space, o.key, o.val]⟩, true) else (noRec, false)
theorem flat2 (l : List Oq) : (l.flatMap fun o : Oq => [o.fn, o.n]).length = 2 * l.length := by
 induction l with
 | nil => rfl
 | cons a l ih => rw [List.flatMap_cons, List.length_append, ih, List.length_cons]; simp; omega
theorem flat3 (l : List Oq) : (l.flatMap fun o : Oq => [o.space, o.key, o.val]).length = 3 * l.length := by
 induction l with
 | nil => rfl
 | cons a l ih => rw [List.flatMap_cons, List.length_append, ih, List.length_cons]; simp; omega
theorem op_Put (oe : OpE E) {kind : Int} (hk : kind = 3 ∨ kind = 4) {v : V} {l : List Oq} (id : IdM) (hl : l.length ≤ 100000) (hz : ∀ o ∈ l, o.space.size ≤ maxLen) (s : Sep F h (plOps v l :: L)) :
 cl (Go.Abs.F.op_Put E) [id.agg, v, i64 kind] h fun r h' => ∃ w, r = .tuple #[w, .bool (putV kind id l).2] ∧ Sep F h' (plRec w (putV kind id l).1 :: plOps v l :: L) := by
 refine cl_of ?_
 simp only [Go.Abs.F.op_Put, new2, kP_some]
 have s1 := s.box (cId id) 2
 generalize h.new (.cells (cId id) 2 .rw) = h1 at s1 ⊢
 generalize h.next = bi at s1 ⊢
 have e2 : ∀ g : AHeap, newD none (.agg #[(.int .i64 0), (.slice none 0 0), (.slice none 0 0)]) g = some (ptr g.next 0, g.new (.cells [i64 0, .slice none 0 0, .slice none 0 0] 3 .rw)) := fun _ => rfl
 rw [e2, kP_some]
 have s2 := s1.box [i64 0, .slice none 0 0, .slice none 0 0] 3
 clear s1
 generalize h1.new (.cells [i64 0, .slice none 0 0, .slice none 0 0] 3 .rw) = h2 at s2 ⊢
 generalize h1.next = br at s2 ⊢
 have first : ∀ X : V → Prop, X (.bool false) → kv (binD .bad .neq true (i64 kind) (.int .i64 3) h2) fun v11 => kv (gdV v11 true (some (i64 kind))) fun v13 => kv (gdV v11 true (binD .bad .neq true v13 (.int .i64 4) h2)) fun v14 => kv (pickV v11 v14 (.bool false)) X := by
  intro X hX
  rcases hk with rfl | rfl
  · simp only [bin_neq, show ((3 : Int) != 3) = false from rfl, kv_some, gdV_bool, Bool.false_eq_true, if_false, pickV_bool]
    exact hX
  · simp only [bin_neq, show ((4 : Int) != 3) = true from rfl, show ((4 : Int) != 4) = false from rfl, kv_some, gdV_bool, if_true, pickV_bool]
    exact hX
 refine first _ ?_
 have li : ldD (.agg 2) (ptr bi 0) h2 = some id.agg := ld2 (Sep.get s2.up1)
 simp only [gdV_bool, if_true, li, kv_some]
 refine gdC_yes rfl (cl_then (op_Client_ok id s2) ?_)
 rintro r h3 ⟨rfl, s3⟩
 simp only [not_bool, kv_some, pickV_bool, Bool.false_eq_true, if_false]
 have eb : buildD (.struct [(.int .i64 0), (.slice none 0 0), (.slice none 0 0)] [(0, 1), (1, 1), (2, 1)]) [] = some (.agg #[i64 0, .slice none 0 0, .slice none 0 0]) := rfl
 have bad : ∀ {g : AHeap}, Sep F g (plBox br [i64 0, .slice none 0 0, .slice none 0 0] 3 :: plBox bi (cId id) 2 :: plOps v l :: L) → putV kind id l = (Go.Abs.noRec, false) →
  kH (stD (some 3) (ptr br 0) (.agg #[i64 0, .slice none 0 0, .slice none 0 0]) g) fun _ h => kv (ldD (.agg 3) (ptr br 0) h) fun r18 => ∃ w, (.tuple #[r18, (.bool false)] : V) = .tuple #[w, .bool (putV kind id l).2] ∧ Sep F h (plRec w (putV kind id l).1 :: plOps v l :: L) := by
  intro g sg e
  rw [e]
  exact ret3 sg rfl rfl rfl fun h' s' => ⟨_, rfl, (s'.drop.drop).noRec⟩
 cases hc : clientB id with
 | false =>
  simp only [Bool.not_false, gdV_bool, Bool.true_eq_false, if_false, kv_some]
  refine gdC_no (by decide) ?_
  simp only [kv_some, pickV_bool, if_true, gdV_bool, Bool.true_eq_false, if_false, ifV_bool, eb]
  exact bad s3 (by unfold putV; rw [hc]; rfl)
 | true =>
 simp only [Bool.not_true, gdV_bool, if_true, kv_some]
 obtain ⟨fo, qo⟩ := s3.memP (A := plOps v l) (by simp)
 refine gdC_yes rfl (cl_then (op_All oe qo (by omega) hz) ?_)
 rintro r h4 ⟨rfl, m4⟩
 have s4 := s3.skip m4
 clear s3 s2 qo m4 li
 simp only [not_bool, kv_some, pickV_bool, Bool.false_eq_true, if_false]
 cases ha : allO l with
 | false =>
  simp only [Bool.not_false, if_true, ifV_bool, eb, kv_some]
  exact bad s4 (by unfold putV; rw [hc, ha]; rfl)
 | true =>
 have hp : putV kind id l = (⟨kind, id.client :: id.seq :: l.flatMap fun o => [o.fn, o.n], l.flatMap fun o => [o.space, o.key, o.val]⟩, true) := by
  unfold putV; rw [hc, ha]; rfl
 have i0 : h4.rd bi 0 = some (i64 id.client) := by rw [rd_of (Sep.get s4.up1) 0]; rfl
 have i1 : h4.rd bi 1 = some (i64 id.seq) := by rw [rd_of (Sep.get s4.up1) 1]; rfl
 simp only [Bool.not_true, Bool.false_eq_true, if_false, ifV_bool, fieldAddr_ptr, Nat.zero_add, ld_one, i0, i1, kv_some]
 rw [show buildSliceD (some (1, [(.int .i64 0)])) 2 [(0, i64 id.client), (1, i64 id.seq)] h4 = some (.slice (some ⟨h4.next, 0, none⟩) 2 4, h4.new (.cells (dInt.flat [id.client, id.seq]) 1 .rw)) from rfl, kP_some]
 have s5 := s4.litInts [id.client, id.seq] (by simp)
 generalize h4.new (.cells (dInt.flat [id.client, id.seq]) 1 .rw) = h5 at s5 ⊢
 generalize h4.next = bn at s5 ⊢
 rw [show buildD (.struct [(.int .i64 0), (.slice none 0 0), (.slice none 0 0)] [(0, 1), (1, 1), (2, 1)]) [(0, i64 kind), (1, .slice (some ⟨bn, 0, none⟩) 2 4)] = some (.agg #[i64 kind, mkS (some ⟨bn, 0, none⟩, 2, 4), .slice none 0 0]) from rfl, kv_some, e2, kP_some]
 have s6 := s5.box [i64 0, .slice none 0 0, .slice none 0 0] 3
 generalize h5.new (.cells [i64 0, .slice none 0 0, .slice none 0 0] 3 .rw) = h6 at s6 ⊢
 generalize h5.next = bx at s6 ⊢
 rw [st_of (n := 3) (vs := [i64 kind, mkS (some ⟨bn, 0, none⟩, 2, 4), .slice none 0 0]) s6.get (by simp) rfl rfl rfl (by simp), kH_some]
 have s7 := s6.write (cs' := [i64 kind, mkS (some ⟨bn, 0, none⟩, 2, 4), .slice none 0 0])
 rw [show setList [i64 0, .slice none 0 0, .slice none 0 0] 0 [i64 kind, mkS (some ⟨bn, 0, none⟩, 2, 4), .slice none 0 0] = [i64 kind, mkS (some ⟨bn, 0, none⟩, 2, 4), .slice none 0 0] from rfl]
 generalize AHeap.put _ _ _ = h7 at s7 ⊢
 have s8 : Sep F h7 (plBox bx [i64 kind, mkS (some ⟨bn, 0, none⟩, 2, 4), mkS (none, 0, 0)] 3 :: plI64s (mkS (some ⟨bn, 0, none⟩, 2, 4)) [id.client, id.seq] :: plStrs (mkS (none, 0, 0)) [] :: plBox br [i64 0, .slice none 0 0, .slice none 0 0] 3 :: plOps v l :: L) := (Sep.noStrs s7).re6 [1, 2, 0, 3, 5] rfl
 obtain ⟨f0, q0⟩ := s8.memP (A := plOps v l) (by simp)
 have q0 : SlE dOp h7 f0 v l := q0
 have hal := allF ha
 have hl8 : l.length ≤ 8 := hal.2.1
 rw [q0.len, kv_some]
 refine ⟨fun m vs h' => ∃ (i : Nat) (t u : Tri), vs = [i64 i] ∧ m = l.length - i ∧ i ≤ l.length ∧ Sep F h' (plBox bx [i64 kind, mkS t, mkS u] 3 :: plI64s (mkS t) (id.client :: id.seq :: (l.take i).flatMap fun o => [o.fn, o.n]) :: plStrs (mkS u) ((l.take i).flatMap fun o => [o.space, o.key, o.val]) :: plBox br [i64 0, .slice none 0 0, .slice none 0 0] 3 :: plOps v l :: L),
  l.length, ⟨0, _, _, rfl, by omega, by omega, s8⟩, ?_⟩
 rintro m e g1 ⟨i, t, u, he, rfl, hi, z1⟩
 simp only [List.cons.injEq, and_true] at he
 simp only [he, bin_lss, kv_some, ifV_bool, decide_eq_true_eq]
 by_cases hx : i < l.length
 case neg =>
  rw [if_neg (show ¬ ((i : Nat) : Int) < (l.length : Nat) by omega)]
  rw [List.take_of_length_le (by omega)] at z1
  rw [ld_agg, rdN_of z1.get, if_pos (by simp), Option.map_some, kv_some]
  refine ret3 (z1.re5 [3, 1, 2, 4] rfl) rfl rfl rfl fun h' s' => ⟨_, by rw [hp], ?_⟩
  rw [hp]
  exact Sep.closeRec (r := ⟨kind, id.client :: id.seq :: l.flatMap fun o => [o.fn, o.n], l.flatMap fun o => [o.space, o.key, o.val]⟩) (s'.re4 [1, 2, 3] rfl)
 rw [if_pos (show ((i : Nat) : Int) < (l.length : Nat) by omega)]
 obtain ⟨f1, q1⟩ := z1.memP (A := plOps v l) (by simp)
 have q1 : SlE dOp g1 f1 v l := q1
 have hg : l[i]? = some l[i] := List.getElem?_eq_getElem hx
 obtain ⟨c, c1, c2⟩ := q1.ld hg
 have c1 : indexAddrD (.slice 5) v (i64 (i : Nat)) = _ := c1
 have c2 : ldD (.agg 5) _ _ = some (l[i]).agg := c2
 have hlen1 : ((l.take i).flatMap fun o : Oq => [o.fn, o.n]).length = 2 * i := by
  rw [flat2, List.length_take, Nat.min_eq_left (by omega)]
 have hlen2 : ((l.take i).flatMap fun o : Oq => [o.space, o.key, o.val]).length = 3 * i := by
  rw [flat3, List.length_take, Nat.min_eq_left (by omega)]
 have ht1 : ((l.take (i + 1)).flatMap fun o : Oq => [o.fn, o.n]) = ((l.take i).flatMap fun o : Oq => [o.fn, o.n]) ++ [(l[i]).fn, (l[i]).n] := by
  rw [List.take_add_one, hg, Option.toList_some, List.flatMap_append]; rfl
 have ht2 : ((l.take (i + 1)).flatMap fun o : Oq => [o.space, o.key, o.val]) = ((l.take i).flatMap fun o : Oq => [o.space, o.key, o.val]) ++ [(l[i]).space, (l[i]).key, (l[i]).val] := by
  rw [List.take_add_one, hg, Option.toList_some, List.flatMap_append]; rfl
 generalize l[i] = o at c2 ht1 ht2
 rw [c1, kv_some, c2, kv_some, newO0, kP_some]
 have z2 := z1.box (⟨0, ⟨#[]⟩, ⟨#[]⟩, ⟨#[]⟩, 0⟩ : Oq).cells 5
 rw [st5 z2.get, kH_some]
 have z3 := z2.write (cs' := o.cells)
 generalize AHeap.put _ _ _ = g3 at z3 ⊢
 generalize g1.next = bo at z3 ⊢
 clear z1 z2 q1 c1 c2
 have gx := Sep.get z3.up1
 have x1 : g3.rd bx 1 = some (mkS t) := by rw [rd_of gx 1]; rfl
 have o0 : g3.rd bo 0 = some (i64 o.fn) := by rw [rd_of z3.get 0]; rfl
 have o4 : g3.rd bo 4 = some (i64 o.n) := by rw [rd_of z3.get 4]; rfl
 simp only [fieldAddr_ptr, Nat.zero_add, kv_some, ld_one, x1, o0, o4]
 obtain ⟨t', g4, e4, z4⟩ := Sep.appI (z3.re6 [2, 0, 1, 3, 4, 5] rfl) [o.fn, o.n] (by simp) (by simp only [List.length_cons, hlen1, List.length_nil]; omega)
 refine kP_of (v := .slice (some ⟨g3.next, 0, none⟩) 2 4) (g := g3.new (.cells (dInt.flat [o.fn, o.n]) 1 .rw)) rfl (kP_of e4 ?_)
 rw [st_one (Sep.get z4.up2) (by simp) rfl rfl (by simp), kH_some]
 have z5 := Sep.write (cs' := [i64 kind, mkS t', mkS u]) z4.up2
 rw [show [i64 kind, mkS t, mkS u].set 1 (mkS t') = [i64 kind, mkS t', mkS u] from rfl]
 generalize AHeap.put _ _ _ = g5 at z5 ⊢
 have x2 : g5.rd bx 2 = some (mkS u) := by rw [rd_of z5.get 2]; rfl
 have gb := Sep.get z5.up2
 have o1 : g5.rd bo 1 = some (str o.space) := by rw [rd_of gb 1]; rfl
 have o2 : g5.rd bo 2 = some (str o.key) := by rw [rd_of gb 2]; rfl
 have o3 : g5.rd bo 3 = some (str o.val) := by rw [rd_of gb 3]; rfl
 simp only [x2, o1, o2, o3, kv_some]
 obtain ⟨u', g6, e6, z6⟩ := Sep.appS (z5.re6 [3, 0, 1, 2, 4, 5] rfl) [o.space, o.key, o.val] (by simp) (by simp only [List.length_cons, hlen2, List.length_nil]; omega)
 refine kP_of (v := .slice (some ⟨g5.next, 0, none⟩) 3 6) (g := g5.new (.cells (dStr.flat [o.space, o.key, o.val]) 1 .rw)) rfl (kP_of e6 ?_)
 rw [st_one (Sep.get z6.up1) (by simp) rfl rfl (by simp), kH_some]
 have z7 := Sep.write (cs' := [i64 kind, mkS t', mkS u']) z6.up1
 rw [show [i64 kind, mkS t', mkS u].set 2 (mkS u') = [i64 kind, mkS t', mkS u'] from rfl]
 generalize AHeap.put _ _ _ = g7 at z7 ⊢
 rw [add_i64 _ 1 (by omega) (by omega), kv_some]
 refine ⟨l.length - (i + 1), by omega, i + 1, t', u', by simp, rfl, by omega, ?_⟩
 rw [ht1, ht2]
 exact z7.re6 [0, 2, 1, 4, 5] rfl
end Go.Abs
