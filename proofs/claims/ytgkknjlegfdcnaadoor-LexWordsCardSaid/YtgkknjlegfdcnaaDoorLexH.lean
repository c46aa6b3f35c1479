/- The iterator: scanner.tokens. -/
import Derived.RangeFuncNested
import Derived.RangeFuncBound
import Derived.RangeFuncCalls
import Derived.RangeFuncLeaves
import Derived.Shelf.Abstract
import Derived.Shelf.RegionOpen
import Derived.WalkKit
import Derived.OwnWalkIn
import Derived.TacticsInMore
import Derived.LoopNIn
import Derived.LoopIn
import Derived.Maps.AppendAt
import Derived.Test.YtgkknjlegfdcnaaDoorLexG
namespace Go.Proofs.YtgkknjlegfdcnaaDoor.Lx
open Go.RowKit Go.Shelf Go.Proofs.YtgkknjlegfdcnaaDoor.Cal

attribute [local go_sem] Oper.semAt_some

def tokV (t : Tok) : Value := .agg #[.int .u8 (t.kind : Int), .string (bs t.text), .int .i64 (t.line : Int), .int .i64 (t.col : Int)]

theorem Off.grown {c : Nat} {a b : World} (h : Off c a b) : a.grownBy b (some c) :=
  ⟨h.os, h.tape, h.output, h.size, fun k hk hne => h.block k hk (fun e => hne (by rw [e]))⟩

/-- The end behind the last token of a line, in memory. -/
def finP (o : Option (Nat × Nat)) : Nat × Nat := match o with | none => (0, 0) | some p => p
def EndAt (w : World) (eb : Nat) (o : Option (Nat × Nat)) : Prop :=
  w.heap[eb]? = some (.cells #[.int .i64 ((finP o).1 : Int), .int .i64 ((finP o).2 : Int)] 26 (0, 0))

theorem EndAt.cells {w : World} {eb : Nat} {o : Option (Nat × Nat)} (h : EndAt w eb o) :
    w.cell? ⟨eb, 0, none⟩ = some (.int .i64 ((finP o).1 : Int)) ∧ w.cell? ⟨eb, 1, none⟩ = some (.int .i64 ((finP o).2 : Int)) ∧ (∀ i, w.frozen? ⟨eb, i, none⟩ = false) := by
  unfold EndAt at h
  refine ⟨?_, ?_, fun o => frozen_of_row _ _ _ _ _ h⟩ <;> simp [World.cell?, h]

/-- How much of the source is left, read off the world. -/
def leftOf (c : Nat) (w : World) : Nat := match w.cell? ⟨c, 2, none⟩ with | some (.string s) => s.size | _ => 0
theorem leftOf_eq {c : Nat} {w : World} {line col : Int} {l : List UInt8} (h : ScanAt w c line col l) : leftOf c w = l.length := by
  unfold leftOf; rw [h.cells.2.2.1]; exact bs_size l

def StOK (s : St) : Prop := s.line + s.left.length ≤ 70000 ∧ s.col + s.left.length ≤ 70000 ∧ 1 ≤ s.line ∧ 1 ≤ s.col ∧ s.left.length ≤ 65536 ∧ ∀ p, s.fin = some p → 1 ≤ p.1 ∧ p.1 ≤ 70000 ∧ 1 ≤ p.2 ∧ p.2 ≤ 70000

structure Body (c l B0 n : Nat) (J : List Tok → World → Prop) (Jx : Bad → World → Prop) : Prop where
  abide : ∀ pre W W' row, J pre W → W.grownBy W' row → (∀ r, row = some r → r = c ∨ B0 ≤ r ∧ ∃ cs, W.heap[r]? = some (.cells cs 26 (0, 0))) → J pre W'
  goes : ∀ pre t W eb cs1 cs2, J pre W → pre.length < 200000 → W.heap[c]? = some (.cells cs1 37 (0, 0)) → B0 ≤ eb → W.heap[eb]? = some (.cells cs2 26 (0, 0)) →
    YieldAt Fence.wide n Tryd.prog l #[tokV t, .int .i64 0] W fun e W' => e = .returned (.bool true) ∧ J (pre ++ [t]) W' ∧ W'.heap[c]? = W.heap[c]? ∧ W'.heap[eb]? = W.heap[eb]?
  stops : ∀ pre b t W, J pre W → b.err ≠ 0 → t.line = b.line → t.col = b.col → YieldAt Fence.wide n Tryd.prog l #[tokV t, .int .i64 (b.err : Int)] W fun e W' => e = .returned (.bool false) ∧ Jx b W'

def TokRel (c eb : Nat) (J : List Tok → World → Prop) (src : List UInt8) (wr : World) : Prop :=
  ∃ (pre : List Tok) (s : St) (f : Nat), ScanAt wr c (s.line : Int) (s.col : Int) s.left ∧ EndAt wr eb s.fin ∧ J pre wr ∧ StOK s ∧ s.left.length < f ∧
    lexS src = (pre ++ (lexF f s).1, (lexF f s).2)

theorem lexF_nil {f : Nat} {s : St} (h : s.left.drop (blankN s.left) = []) : lexF (f + 1) s = (endT s.fin, none) := by
  simp only [lexF, h]
theorem lexF_nl {f : Nat} {s : St} {r : List UInt8} (h : s.left.drop (blankN s.left) = 10 :: r) : lexF (f + 1) s = (endT s.fin ++ (lexF f ⟨r, s.line + 1, 1, none⟩).1, (lexF f ⟨r, s.line + 1, 1, none⟩).2) := by
  simp only [lexF, h, if_true]
theorem lexF_tok {f : Nat} {s : St} {c : UInt8} {r : List UInt8} (h : s.left.drop (blankN s.left) = c :: r) (hc : ¬ c = 10) (hk : (kindL (c :: r)).2.2 = 0) :
    lexF (f + 1) s = (⟨(kindL (c :: r)).1, (c :: r).take (kindL (c :: r)).2.1, s.line, s.col + blankN s.left⟩ :: (lexF f ⟨(c :: r).drop (kindL (c :: r)).2.1, s.line, s.col + blankN s.left + (kindL (c :: r)).2.1, some (s.line, s.col + blankN s.left + (kindL (c :: r)).2.1)⟩).1,
      (lexF f ⟨(c :: r).drop (kindL (c :: r)).2.1, s.line, s.col + blankN s.left + (kindL (c :: r)).2.1, some (s.line, s.col + blankN s.left + (kindL (c :: r)).2.1)⟩).2) := by
  simp only [lexF, h, if_neg hc, hk, if_true]
theorem lexF_bad {f : Nat} {s : St} {c : UInt8} {r : List UInt8} (h : s.left.drop (blankN s.left) = c :: r) (hc : ¬ c = 10) (hk : ¬ (kindL (c :: r)).2.2 = 0) :
    lexF (f + 1) s = ([], some ⟨(kindL (c :: r)).2.2, s.line, s.col + blankN s.left⟩) := by
  simp only [lexF, h, if_neg hc, if_neg hk]

theorem EndAt.none_set {w : World} {eb : Nat} {o : Option (Nat × Nat)} (h : EndAt w eb o) : EndAt ((w.setCell ⟨eb, 0, none⟩ (.int .i64 0)).setCell ⟨eb, 1, none⟩ (.int .i64 0)) eb none := by
  unfold EndAt at h ⊢
  rw [heap_setCell_same _ eb 1 _ _ _ (heap_setCell_same w eb 0 _ _ _ h)]; rfl
theorem EndAt.some_set {w : World} {eb : Nat} {o : Option (Nat × Nat)} (h : EndAt w eb o) (a b : Nat) (x y : Int) (hx : (a : Int) = x) (hy : (b : Int) = y) : EndAt ((w.setCell ⟨eb, 0, none⟩ (.int .i64 x)).setCell ⟨eb, 1, none⟩ (.int .i64 y)) eb (some (a, b)) := by
  subst hx hy
  unfold EndAt at h ⊢
  rw [heap_setCell_same _ eb 1 _ _ _ (heap_setCell_same w eb 0 _ _ _ h)]; rfl
theorem up_grown {w w' : World} (h : Up w w') : w.grownBy w' none := ⟨h.os, h.tape, h.output, h.size, fun k hk _ => h.block k hk⟩
theorem ScanAt.drew {w : World} {c : Nat} {line col : Int} {l : List UInt8} (h : ScanAt w c line col l) : ScanAt w.drew c line col l := h

theorem ScanAt.other {w : World} {c eb : Nat} {line col : Int} {l : List UInt8} (h : ScanAt w c line col l) (hne : c ≠ eb) (i : Nat) (v : Value) : ScanAt (w.setCell ⟨eb, i, none⟩ v) c line col l := by
  unfold ScanAt at h ⊢
  rw [heap_setCell_other _ _ _ _ hne]; exact h
theorem EndAt.off {w w' : World} {eb c : Nat} {o : Option (Nat × Nat)} (h : EndAt w eb o) (u : Off c w w') (hne : c ≠ eb) : EndAt w' eb o :=
  (u.block _ (Array.getElem?_eq_some_iff.1 h).1 (Ne.symm hne)).trans h
theorem grown_set (w : World) (eb i : Nat) (v : Value) : w.grownBy (w.setCell ⟨eb, i, none⟩ v) (some eb) :=
  ⟨rfl, rfl, rfl, by rw [World.size_setCell]; exact Nat.le_refl _, fun k _ hk => heap_setCell_other _ _ _ _ (fun e => hk (by rw [e]))⟩

theorem spanN_pos (p : UInt8 → Bool) (c : UInt8) (l : List UInt8) (h : p c = true) : 1 ≤ spanN p (c :: l) := by
  unfold spanN; rw [if_pos h]; omega

theorem numN_bd (l : List UInt8) : (numN l).1 ≤ l.length ∧ ((numN l).2 = 0 → spanN digB l ≤ (numN l).1) := by
  have hs := spanN_le digB l
  by_cases hA : ∃ d r, l.drop (spanN digB l) = 47 :: d :: r ∧ digB d = true
  · obtain ⟨d, r, hr, hd⟩ := hA
    rw [numN_A l _ d r rfl hr hd]
    have hl : (l.drop (spanN digB l)).length = (47 :: d :: r).length := by rw [hr]
    rw [List.length_drop] at hl
    have h2 := spanN_le digB (d :: r)
    simp only [List.length_cons] at hl h2
    unfold numR
    split
    · exact ⟨by simp only []; omega, fun _ => by simp only []; omega⟩
    · exact ⟨Nat.zero_le _, fun h => by simp at h⟩
  · rw [numN_B l _ rfl (fun d r hr => by
      cases hd : digB d
      · rfl
      · exact absurd ⟨d, r, hr, hd⟩ hA)]
    unfold numR
    split
    · exact ⟨hs, fun _ => Nat.le_refl _⟩
    · exact ⟨Nat.zero_le _, fun h => by simp at h⟩

theorem kindL_bd (c : UInt8) (l : List UInt8) : (kindL (c :: l)).2.1 ≤ (c :: l).length ∧ ((kindL (c :: l)).2.2 = 0 → 1 ≤ (kindL (c :: l)).2.1) := by
  cases hlet : letB c
  · cases hdat : datedB (c :: l)
    · cases hdig : digB c
      · rw [kindL_else hlet hdat hdig]
        split
        · exact ⟨by simp, fun _ => Nat.le_refl _⟩
        · exact ⟨Nat.zero_le _, fun h => by simp at h⟩
      · rw [kindL_num hlet hdat hdig]
        have h := numN_bd (c :: l)
        exact ⟨h.1, fun he => Nat.le_trans (spanN_pos digB c l hdig) (h.2 he)⟩
    · rw [kindL_date hlet hdat]
      have h10 : 10 ≤ (c :: l).length := by
        have := (dated_iff _).1 hdat 9 (by omega)
        simp only [datP, Bool.and_eq_true, decide_eq_true_eq] at this
        omega
      split
      · exact ⟨h10, fun _ => by decide⟩
      · exact ⟨Nat.zero_le _, fun h => by simp at h⟩
  · rw [kindL_word hlet]
    split
    · exact ⟨spanN_le _ _, fun _ => spanN_pos partB c l (by simp [partB, hlet])⟩
    · exact ⟨Nat.zero_le _, fun h => by simp at h⟩

theorem bs_take (l : List UInt8) (n : Nat) : (bs l).extract 0 n = bs (l.take n) := by
  apply ByteArray.ext
  rw [ByteArray.data_extract]
  simp [bs]

def endN (o : Option (Nat × Nat)) : Nat := match o with | none => 0 | some _ => 1
theorem endT_len (o : Option (Nat × Nat)) : (endT o).length = endN o := by cases o <;> rfl

theorem lexF_len (f : Nat) (s : St) : (lexF f s).1.length ≤ 2 * s.left.length + endN s.fin := by
  induction f generalizing s with
  | zero => simp [lexF]
  | succ f ih =>
    have hb := blankN_le s.left
    have hl : (s.left.drop (blankN s.left)).length = s.left.length - blankN s.left := List.length_drop
    cases hr : s.left.drop (blankN s.left) with
    | nil => rw [lexF_nil hr]; simp only [endT_len]; omega
    | cons c r =>
      rw [hr] at hl
      simp only [List.length_cons] at hl
      by_cases hc : c = 10
      · subst hc
        rw [lexF_nl hr]
        have h := ih ⟨r, s.line + 1, 1, none⟩
        have h0 : endN (none : Option (Nat × Nat)) = 0 := rfl
        simp only [List.length_append, endT_len] at h ⊢
        omega
      · by_cases hk : (kindL (c :: r)).2.2 = 0
        · rw [lexF_tok hr hc hk]
          have h2 := kindL_bd c r
          have h3 := h2.2 hk
          have h := ih ⟨(c :: r).drop (kindL (c :: r)).2.1, s.line, s.col + blankN s.left + (kindL (c :: r)).2.1, some (s.line, s.col + blankN s.left + (kindL (c :: r)).2.1)⟩
          have h0 : ∀ p : Nat × Nat, endN (some p) = 1 := fun _ => rfl
          simp only [List.length_cons, List.length_drop, h0] at h h2 ⊢
          omega
        · rw [lexF_bad hr hc hk]; simp

set_option maxRecDepth 100000 in
set_option maxHeartbeats 4000000 in
theorem tokens_in (c l B0 n : Nat) (hn : 1 ≤ n) (J : List Tok → World → Prop) (Jx : Bad → World → Prop) (HB : Hid (Body c l B0 (n - 1) J Jx)) (src : List UInt8) (hsrc : src.length ≤ 65536) (W : World)
    (hs : ScanAt W c 1 1 src) (hB0 : B0 ≤ W.heap.size) (h0 : J [] W) :
    CallsIn Fence.wide n Tryd.prog 14 #[.pointer (some ⟨c, 0, none⟩), .func (.yield l) #[] #[]] W fun e W' => (∃ v, e = .returned v) ∧
      (((lexS src).2 = none ∧ J (lexS src).1 W') ∨ (∃ b, (lexS src).2 = some b ∧ Jx b W')) := by
  have hcW : c ≠ W.heap.size := by
    have := (Array.getElem?_eq_some_iff.1 hs).1
    omega
  refine callsIn_of_wp Tryd.func14 rfl trivial ?_ rfl
  simp only [Tryd.ntmps14, List.size_toArray, List.length_cons, List.length_nil, Nat.reduceAdd, Nat.reduceSub, Array.replicate_succ, Array.replicate_zero, List.push_toArray, List.append_toArray, List.nil_append, List.cons_append]
  gi_wp2_with fail
  gi_loopw [] (TokRel c W.heap.size J src) (fun wr => leftOf c wr)
  case atStart =>
    refine ⟨[], start src, src.length + 1, hs.up ((Up.refl _).alloc _), World.alloc_heap_new W _, HB.out.abide _ _ _ none h0 (World.grownBy_alloc W _ none) (fun r hr => by cases hr), ⟨?_, ?_, Nat.le_refl _, Nat.le_refl _, hsrc, fun p hp => by cases hp⟩, ?_, ?_⟩
    · show 1 + src.length ≤ 70000; omega
    · show 1 + src.length ≤ 70000; omega
    · show src.length < src.length + 1; omega
    · rfl
  case round =>
    obtain ⟨pre, s, f, hs, he, hj, hok, hf, hlex⟩ := hrel
    obtain ⟨f, rfl⟩ : ∃ g, f = g + 1 := ⟨f - 1, by omega⟩
    obtain ⟨ok1, ok2, ok3, ok4, ok5, ok6⟩ := hok
    have hcb := hcW
    have heb0 : B0 ≤ W.heap.size := hB0
    have hbl := blankN_le s.left
    have hlen : (s.left.drop (blankN s.left)).length = s.left.length - blankN s.left := List.length_drop
    gi_wp2_with fail
    refine ⟨trivial, ?_⟩
    refine (callsIn_wide.2 (blanks_any c s.line s.col s.left wr hs (by omega) (by omega) (by omega))).mono ?_
    rintro e w1 ⟨rfl, s1, o1⟩
    have e1 : EndAt w1 W.heap.size s.fin := (o1.block _ (Array.getElem?_eq_some_iff.1 he).1 (Ne.symm hcb)).trans he
    have j1 : J pre w1 := HB.out.abide _ _ _ _ hj o1.grown (fun r hr => Or.inl (by cases hr; rfl))
    obtain ⟨h0, h1, h2, h3⟩ := s1.cells
    obtain ⟨p0, p1, p2⟩ := e1.cells
    have hleft1 : leftOf c wr = s.left.length := leftOf_eq hs
    have hpl : pre.length < 200000 := by
      have h1 := lexF_len (src.length + 1) (start src)
      have h2 : (lexS src).1.length = (pre ++ (lexF (f + 1) s).1).length := by rw [hlex]
      have h3 : endN (start src).fin = 0 := rfl
      have h4 : (start src).left.length = src.length := rfl
      unfold lexS at h2
      rw [List.length_append] at h2
      omega
    cases hrest : s.left.drop (blankN s.left) with
    | nil =>
      rw [hrest] at h2 hlen s1
      rw [lexF_nil hrest] at hlex
      have hE : (bs []).toList.isEmpty = true := by rw [bs_toList]; rfl
      cases hfin : s.fin with
      | none =>
        rw [hfin] at e1 p0 p1 hlex
        simp only [finP] at p0 p1
        gi_wp2_with fail
        refine ⟨fun _ h => (by cases h), ?_⟩
        gi_wp2_with fail
        refine bodyPost_ret (results_none rfl _ _ _) rfl ?_
        exact ⟨⟨_, rfl⟩, Or.inl ⟨by rw [hlex], by rw [hlex]; simpa [endT] using j1⟩⟩
      | some p =>
        rw [hfin] at e1 p0 p1 hlex
        obtain ⟨q1, q2, q3, q4⟩ := ok6 p hfin
        simp only [finP] at p0 p1
        obtain ⟨fn, tmps, assign, body, hy, hR⟩ := HB.out.goes pre ⟨5, [], p.1, p.2⟩ w1 W.heap.size _ _ j1 hpl s1 hB0 e1
        simp only [tokV] at hy
        rw [show bs [] = ⟨#[]⟩ from rfl, show ((5 : Nat) : Int) = 5 from rfl] at hy
        gi_wp2_with fail
        refine hR.mono ?_
        rintro e W3 ⟨rfl, j3, c3, e3⟩
        have s3 : ScanAt W3 c _ _ _ := c3.trans s1
        obtain ⟨i0, i1, i2, i3⟩ := s3.cells
        gi_wp2_with fail
        refine bodyPost_ret (results_none rfl _ _ _) rfl ?_
        exact ⟨⟨_, rfl⟩, Or.inl ⟨by rw [hlex], by rw [hlex]; exact j3⟩⟩
    | cons x r =>
      rw [hrest] at h2 hlen s1
      have hE : (bs (x :: r)).toList.isEmpty = false := by rw [bs_toList]; rfl
      have hsz0 : 0 < (bs (x :: r)).size := by rw [bs_size]; simp
      have hg0 : (bs (x :: r))[0] = x := bs_get _ 0 hsz0
      by_cases hx : x = 10
      · subst hx
        rw [lexF_nl hrest] at hlex
        have h10 : (((bs (10 :: r))[0].toNat : Int) == 10) = true := by rw [hg0]; rfl
        have hlr : r.length + 1 = s.left.length - blankN s.left := by simpa using hlen
        cases hfin : s.fin with
        | none =>
          rw [hfin] at e1 p0 p1 hlex
          simp only [finP] at p0 p1
          gi_wp2_with fail
          refine ⟨fun _ h => (by cases h), ?_⟩
          gi_wp2_with fail
          refine ⟨trivial, ?_⟩
          refine (callsIn_wide.2 (line_step c s.line (s.col + blankN s.left) 10 r _ ((s1.other hcb 0 _).other hcb 1 _) (by omega) (by omega) (by omega))).mono ?_
          rintro e w2 ⟨rfl, s2, o2⟩
          gi_wp2_with fail
          go_roundw
          case rel =>
            refine ⟨pre, ⟨r, s.line + 1, 1, none⟩, f, s2, (e1.none_set).off o2 hcb, ?_, ⟨by simp; omega, by simp; omega, by simp, by simp, by simp; omega, by simp⟩, by simp; omega, ?_⟩
            · refine HB.out.abide _ _ _ _ (HB.out.abide _ _ _ _ (HB.out.abide _ _ _ _ j1 (grown_set _ W.heap.size 0 _) ?_) (grown_set _ W.heap.size 1 _) ?_) o2.grown (fun r hr => Or.inl (by cases hr; rfl))
              · intro r hr; cases hr; exact Or.inr ⟨hB0, _, e1⟩
              · intro r hr; cases hr; exact Or.inr ⟨hB0, _, heap_setCell_same _ _ 0 _ _ _ e1⟩
            · rw [hlex]; simp [endT]
          case measure => rw [leftOf_eq s2, hleft1]; omega
        | some p =>
          rw [hfin] at e1 p0 p1 hlex
          obtain ⟨q1, q2, q3, q4⟩ := ok6 p hfin
          simp only [finP] at p0 p1
          obtain ⟨fn, tmps, assign, body, hy, hR⟩ := HB.out.goes pre ⟨5, [], p.1, p.2⟩ w1 W.heap.size _ _ j1 hpl s1 hB0 e1
          simp only [tokV] at hy
          rw [show bs [] = ⟨#[]⟩ from rfl, show ((5 : Nat) : Int) = 5 from rfl] at hy
          gi_wp2_with fail
          refine hR.mono ?_
          rintro e W3 ⟨rfl, j3, c3, e3⟩
          have s3 : ScanAt W3 c _ _ _ := c3.trans s1
          have e4 : EndAt W3 W.heap.size (some p) := e3.trans e1
          obtain ⟨i0, i1, i2, i3⟩ := s3.cells
          obtain ⟨k0, k1, k2⟩ := e4.cells
          gi_wp2_with fail
          refine ⟨trivial, ?_⟩
          refine (callsIn_wide.2 (line_step c s.line (s.col + blankN s.left) 10 r _ ((s3.other hcb 0 _).other hcb 1 _) (by omega) (by omega) (by omega))).mono ?_
          rintro e w2 ⟨rfl, s2, o2⟩
          gi_wp2_with fail
          go_roundw
          case rel =>
            refine ⟨pre ++ [⟨5, [], p.1, p.2⟩], ⟨r, s.line + 1, 1, none⟩, f, s2, (e4.none_set).off o2 hcb, ?_, ⟨by simp; omega, by simp; omega, by simp, by simp, by simp; omega, by simp⟩, by simp; omega, ?_⟩
            · refine HB.out.abide _ _ _ _ (HB.out.abide _ _ _ _ (HB.out.abide _ _ _ _ j3 (grown_set _ W.heap.size 0 _) ?_) (grown_set _ W.heap.size 1 _) ?_) o2.grown (fun r hr => Or.inl (by cases hr; rfl))
              · intro r hr; cases hr; exact Or.inr ⟨hB0, _, e4⟩
              · intro r hr; cases hr; exact Or.inr ⟨hB0, _, heap_setCell_same _ _ 0 _ _ _ e4⟩
            · rw [hlex]; simp [endT]
          case measure => rw [leftOf_eq s2, hleft1]; omega
      · have h10 : ((x.toNat : Int) == 10) = false := by
          have := byte_eq x 10 (by omega)
          rw [show ((10 : Nat) : Int) = 10 from rfl] at this
          rw [this]
          cases hq : (x == UInt8.ofNat 10)
          · rfl
          · exact absurd (eq_of_beq hq) hx
        have HK := kind_any x r
        have hkb := kindL_bd x r
        by_cases hk : (kindL (x :: r)).2.2 = 0
        · rw [lexF_tok hrest hx hk] at hlex
          have hkp := hkb.2 hk
          have hkl := hkb.1
          generalize kindL (x :: r) = q at *
          obtain ⟨kd, m, er⟩ := q
          simp only [] at hk hkp hkl HK hlex
          subst hk
          have HT := Lib.hid (bs_take (x :: r) m)
          have hm2 : (m : Int) ≤ ((bs (x :: r)).size : Int) := by rw [bs_size]; omega
          have HK2 := Lib.hid (fun w => HK w (by rw [hlen]; omega))
          clear HK hkb
          gi_wp2_with fail
          refine ⟨trivial, ?_⟩
          refine (callsIn_wide.2 (HK2.out _)).mono ?_
          rintro e w2 ⟨rfl, u2⟩
          have s2 := s1.up u2
          obtain ⟨g0, g1, g2, g3⟩ := s2.cells
          gi_wp2_with fail
          have ga0 : ∀ o, (w2.alloc o).cell? ⟨c, 0, none⟩ = some (.int .i64 (s.line : Int)) := fun o => (s2.up ((Up.refl _).alloc o)).cells.1
          have ga1 : ∀ o, (w2.alloc o).cell? ⟨c, 1, none⟩ = some (.int .i64 ((s.col : Int) + (blankN s.left : Nat))) := fun o => (s2.up ((Up.refl _).alloc o)).cells.2.1
          have ga2 : ∀ o, (w2.alloc o).cell? ⟨c, 2, none⟩ = some (.string (bs (x :: r))) := fun o => (s2.up ((Up.refl _).alloc o)).cells.2.2.1
          gi_region
          gi_wp2_with fail
          generalize hw3 : (w2.alloc (.cells #[.int .u8 (kd : Int), .string ((bs (x :: r)).extract 0 m), .int .i64 (s.line : Int), .int .i64 ((s.col : Int) + (blankN s.left : Nat))] 31)).drew = w3
          have u3 : Up w2 w3 := by rw [← hw3]; exact ((Up.refl _).alloc _).drew
          have s3 := s2.up u3
          have t3 : w3.heap[w2.heap.size]? = some (.cells #[.int .u8 (kd : Int), .string ((bs (x :: r)).extract 0 m), .int .i64 (s.line : Int), .int .i64 ((s.col : Int) + (blankN s.left : Nat))] 31 (0, 0)) := by
            rw [← hw3]; exact World.alloc_heap_new w2 _
          have hct : w2.heap.size ≠ c := fun e => by have := (Array.getElem?_eq_some_iff.1 s2).1; omega
          clear hw3 ga0 ga1 ga2 g0 g1 g2 g3 h0 h1 h2 h3 p0 p1 p2
          refine ⟨trivial, ?_⟩
          refine (callsIn_wide.2 (skip_any c m s.line (s.col + blankN s.left) (x :: r) w3 s3 hkl (by rw [hlen]; omega) (by omega) (by omega))).mono ?_
          rintro e w4 ⟨rfl, s4, o4⟩
          have t4 := (o4.block _ (Array.getElem?_eq_some_iff.1 t3).1 hct).trans t3
          have e4 : EndAt w4 W.heap.size s.fin := EndAt.off ((u2.trans u3).block _ (Array.getElem?_eq_some_iff.1 e1).1 |>.trans e1) o4 hcb
          have j4 : J pre w4 := HB.out.abide _ _ _ _ (HB.out.abide _ _ _ _ j1 (up_grown (u2.trans u3)) (fun r hr => by cases hr)) o4.grown (fun r hr => Or.inl (by cases hr; rfl))
          have hcast : ((s.col + blankN s.left : Nat) : Int) = (s.col : Int) + (blankN s.left : Nat) := by omega
          generalize w2.heap.size = tb at *
          have b0 : w4.cell? ⟨tb, 0, none⟩ = some (.int .u8 (kd : Int)) := by simp [World.cell?, t4]
          have b1 : w4.cell? ⟨tb, 1, none⟩ = some (.string ((bs (x :: r)).extract 0 m)) := by simp [World.cell?, t4]
          have b2 : w4.cell? ⟨tb, 2, none⟩ = some (.int .i64 (s.line : Int)) := by simp [World.cell?, t4]
          have b3 : w4.cell? ⟨tb, 3, none⟩ = some (.int .i64 ((s.col : Int) + (blankN s.left : Nat))) := by simp [World.cell?, t4]
          obtain ⟨fn, tmps, assign, body, hy, hR⟩ := HB.out.goes pre ⟨kd, (x :: r).take m, s.line, s.col + blankN s.left⟩ w4 W.heap.size _ _ j4 hpl s4 hB0 e4
          simp only [tokV] at hy
          rw [← HT.out, hcast] at hy
          gi_wp2_with fail
          refine hR.mono ?_
          rintro e W5 ⟨rfl, j5, c5, e5⟩
          have s5 : ScanAt W5 c _ _ _ := c5.trans s4
          have e6 : EndAt W5 W.heap.size s.fin := e5.trans e4
          obtain ⟨i0, i1, i2, i3⟩ := s5.cells
          obtain ⟨k0, k1, k2⟩ := e6.cells
          gi_wp2_with fail
          go_roundw
          case rel =>
            refine ⟨pre ++ [⟨kd, (x :: r).take m, s.line, s.col + blankN s.left⟩], ⟨(x :: r).drop m, s.line, s.col + blankN s.left + m, some (s.line, s.col + blankN s.left + m)⟩, f, ?_, e6.some_set _ _ _ _ rfl (by omega), ?_, ?_, ?_, ?_⟩
            · have := (s5.other hcb 0 (.int .i64 (s.line : Int))).other hcb 1 (.int .i64 ((s.col : Int) + (blankN s.left : Nat) + (m : Nat)))
              rw [show ((s.col + blankN s.left + m : Nat) : Int) = (s.col : Int) + (blankN s.left : Nat) + (m : Nat) by omega]
              exact this
            · refine HB.out.abide _ _ _ _ (HB.out.abide _ _ _ _ j5 (grown_set _ W.heap.size 0 _) ?_) (grown_set _ W.heap.size 1 _) ?_
              · intro r hr; cases hr; exact Or.inr ⟨hB0, _, e6⟩
              · intro r hr; cases hr; exact Or.inr ⟨hB0, _, heap_setCell_same _ _ 0 _ _ _ e6⟩
            · refine ⟨?_, ?_, ok3, ?_, ?_, ?_⟩
              · simp only [List.length_drop]; omega
              · simp only [List.length_drop]; omega
              · simp only []; omega
              · simp only [List.length_drop]; omega
              · intro p hp; cases hp; simp only []; omega
            · simp only [List.length_drop]; omega
            · rw [hlex, List.append_assoc]; rfl
          case measure =>
            have s6 := (s5.other hcb 0 (.int .i64 (s.line : Int))).other hcb 1 (.int .i64 ((s.col : Int) + (blankN s.left : Nat) + (m : Nat)))
            rw [leftOf_eq s6, hleft1, List.length_drop]; omega
        · rw [lexF_bad hrest hx hk] at hlex
          have hkl := hkb.1
          generalize kindL (x :: r) = q at *
          obtain ⟨kd, m, er⟩ := q
          simp only [] at hk hkl HK hlex
          have HT := Lib.hid (bs_take (x :: r) m)
          have hm2 : (m : Int) ≤ ((bs (x :: r)).size : Int) := by rw [bs_size]; omega
          have HK2 := Lib.hid (fun w => HK w (by rw [hlen]; omega))
          have her : ((er : Int) != 0) = true := by simpa using hk
          clear HK hkb
          gi_wp2_with fail
          refine ⟨trivial, ?_⟩
          refine (callsIn_wide.2 (HK2.out _)).mono ?_
          rintro e w2 ⟨rfl, u2⟩
          have s2 := s1.up u2
          obtain ⟨g0, g1, g2, g3⟩ := s2.cells
          gi_wp2_with fail
          have ga0 : ∀ o, (w2.alloc o).cell? ⟨c, 0, none⟩ = some (.int .i64 (s.line : Int)) := fun o => (s2.up ((Up.refl _).alloc o)).cells.1
          have ga1 : ∀ o, (w2.alloc o).cell? ⟨c, 1, none⟩ = some (.int .i64 ((s.col : Int) + (blankN s.left : Nat))) := fun o => (s2.up ((Up.refl _).alloc o)).cells.2.1
          have ga2 : ∀ o, (w2.alloc o).cell? ⟨c, 2, none⟩ = some (.string (bs (x :: r))) := fun o => (s2.up ((Up.refl _).alloc o)).cells.2.2.1
          gi_region
          gi_wp2_with fail
          generalize hw3 : (w2.alloc (.cells #[.int .u8 (kd : Int), .string ((bs (x :: r)).extract 0 m), .int .i64 (s.line : Int), .int .i64 ((s.col : Int) + (blankN s.left : Nat))] 31)).drew = w3
          have u3 : Up w2 w3 := by rw [← hw3]; exact ((Up.refl _).alloc _).drew
          have s3 := s2.up u3
          have t3 : w3.heap[w2.heap.size]? = some (.cells #[.int .u8 (kd : Int), .string ((bs (x :: r)).extract 0 m), .int .i64 (s.line : Int), .int .i64 ((s.col : Int) + (blankN s.left : Nat))] 31 (0, 0)) := by
            rw [← hw3]; exact World.alloc_heap_new w2 _
          have hct : w2.heap.size ≠ c := fun e => by have := (Array.getElem?_eq_some_iff.1 s2).1; omega
          clear hw3 ga0 ga1 ga2 g0 g1 g2 g3 h0 h1 h2 h3 p0 p1 p2
          refine ⟨trivial, ?_⟩
          refine (callsIn_wide.2 (skip_any c m s.line (s.col + blankN s.left) (x :: r) w3 s3 hkl (by rw [hlen]; omega) (by omega) (by omega))).mono ?_
          rintro e w4 ⟨rfl, s4, o4⟩
          have t4 := (o4.block _ (Array.getElem?_eq_some_iff.1 t3).1 hct).trans t3
          have e4 : EndAt w4 W.heap.size s.fin := EndAt.off ((u2.trans u3).block _ (Array.getElem?_eq_some_iff.1 e1).1 |>.trans e1) o4 hcb
          have j4 : J pre w4 := HB.out.abide _ _ _ _ (HB.out.abide _ _ _ _ j1 (up_grown (u2.trans u3)) (fun r hr => by cases hr)) o4.grown (fun r hr => Or.inl (by cases hr; rfl))
          have hcast : ((s.col + blankN s.left : Nat) : Int) = (s.col : Int) + (blankN s.left : Nat) := by omega
          generalize w2.heap.size = tb at *
          have b0 : w4.cell? ⟨tb, 0, none⟩ = some (.int .u8 (kd : Int)) := by simp [World.cell?, t4]
          have b1 : w4.cell? ⟨tb, 1, none⟩ = some (.string ((bs (x :: r)).extract 0 m)) := by simp [World.cell?, t4]
          have b2 : w4.cell? ⟨tb, 2, none⟩ = some (.int .i64 (s.line : Int)) := by simp [World.cell?, t4]
          have b3 : w4.cell? ⟨tb, 3, none⟩ = some (.int .i64 ((s.col : Int) + (blankN s.left : Nat))) := by simp [World.cell?, t4]
          obtain ⟨fn, tmps, assign, body, hy, hR⟩ := HB.out.stops pre ⟨er, s.line, s.col + blankN s.left⟩ ⟨kd, (x :: r).take m, s.line, s.col + blankN s.left⟩ w4 j4 hk rfl rfl
          simp only [tokV] at hy
          rw [← HT.out, hcast] at hy
          gi_wp2_with fail
          refine hR.mono ?_
          rintro e W5 ⟨rfl, j5⟩
          gi_wp2_with fail
          refine bodyPost_ret (results_none rfl _ _ _) rfl ?_
          exact ⟨⟨_, rfl⟩, Or.inr ⟨_, by rw [hlex], j5⟩⟩

end Go.Proofs.YtgkknjlegfdcnaaDoor.Lx
