/- Plain law: the place of an error; up to there a source has none, from there on the same. No program in sight. -/
import Derived.Test.YtgkknjlegfdcnaaPlA
import Derived.Test.YtgkknjlegfdcnaaLexY
namespace Go.Proofs.Ytgkknjlegfdcnaa.Lx
open Go.Proofs.Ytgkknjlegfdcnaa.Cal

/-- What stands at the place of an error. -/
structure ErrAt (l : List UInt8) (b : Bad) (k : Nat) : Prop where
  lt : k < l.length
  line : (b.line : Int) = lineN l k
  col : (b.col : Int) = colZ l k
  rest : lexS (l.drop k) = ([], some ⟨b.err, 1, 1⟩)

theorem err_rest {l : List UInt8} {k : Nat} {c : UInt8} {r : List UInt8} (h : l.drop k = c :: r) (hc : c ≠ 10) (hb : c ≠ 35 ∧ blankB c = false) (hk : ¬ (kindL (c :: r)).2.2 = 0) :
    lexS (l.drop k) = ([], some ⟨(kindL (c :: r)).2.2, 1, 1⟩) := by
  rw [lexS_A, h]
  have hz : blankN (c :: r) = 0 := blankN_tok hb.1 hb.2
  have := lexA_bad (s := start (c :: r)) (c := c) (r := r) (by show (c :: r).drop (blankN (c :: r)) = _; rw [hz]; rfl) hc hk
  rw [this]
  show ([], some (⟨_, 1, 1 + blankN (c :: r)⟩ : Bad)) = _
  rw [hz]

theorem err_split (l : List UInt8) (f : Nat) : ∀ (s : St) (i : Nat) (b : Bad), PosAt l s i → (lexF f s).2 = some b →
    ∃ n, ErrAt l b (i + n) ∧ ∀ g, (lexF g ⟨s.left.take n, s.line, s.col, s.fin⟩).2 = none := by
  induction f with
  | zero => intro s i b _ h; simp [lexF] at h
  | succ f ih =>
    rintro s i b ⟨hp, hln, hco, hi⟩ h
    have hb := blankN_le s.left
    have hbn := blank_nonl s.left
    rw [hp] at hb hbn
    obtain ⟨g1, g2⟩ := pos_go hi hb hbn
    cases hr : s.left.drop (blankN s.left) with
    | nil => rw [lexF_nil hr] at h; cases h
    | cons c r =>
      have hr2 : l.drop (i + blankN s.left) = c :: r := by rw [← List.drop_drop, ← hp]; exact hr
      rw [← hp] at g1 g2
      obtain ⟨hk1, hk2⟩ := drop_getD _ _ _ _ hr2
      have htb : ∀ m, blankN (s.left.take (blankN s.left + m)) = blankN s.left := fun m => blankN_take _ _ (by omega)
      have htd : ∀ m, (s.left.take (blankN s.left + m)).drop (blankN (s.left.take (blankN s.left + m))) = (c :: r).take m := fun m => by
        rw [htb, List.drop_take, hr, Nat.add_sub_cancel_left]
      by_cases hc : c = 10
      · rw [hc] at hr hk2 hr2 htd
        rw [lexF_nl hr] at h
        have hl1 := lineN_succ l _ hk1
        rw [if_pos hk2] at hl1
        obtain ⟨n, hE, hN⟩ := ih ⟨r, s.line + 1, 1, none⟩ (i + blankN s.left + 1) b ⟨by rw [← List.drop_drop, hr2]; rfl, by
          show ((s.line + 1 : Nat) : Int) = _
          rw [hl1, g1]; omega, by
          show ((1 : Nat) : Int) = _
          rw [colZ_nl l _ hk1 hk2]; rfl, by omega⟩ h
        refine ⟨blankN s.left + (n + 1), by rw [show i + (blankN s.left + (n + 1)) = i + blankN s.left + 1 + n by omega]; exact hE, fun g => ?_⟩
        cases g with
        | zero => rfl
        | succ g =>
          rw [lexF_nl (s := ⟨s.left.take (blankN s.left + (n + 1)), s.line, s.col, s.fin⟩) (r := r.take n) (htd (n + 1))]
          exact hN g
      · by_cases hk : (kindL (c :: r)).2.2 = 0
        · rw [lexF_tok hr hc hk] at h
          have hbd := kindL_bd c r
          have hpos := hbd.2 hk
          have htn := tok_nonl c r
          rw [← hr2] at hbd htn
          obtain ⟨t1, t2⟩ := pos_go (by omega) hbd.1 htn
          rw [hr2] at t1 t2 hbd
          have hdl : (l.drop (i + blankN s.left)).length = l.length - (i + blankN s.left) := List.length_drop
          rw [hr2] at hdl
          obtain ⟨n, hE, hN⟩ := ih ⟨(c :: r).drop (kindL (c :: r)).2.1, s.line, s.col + blankN s.left + (kindL (c :: r)).2.1, some (s.line, s.col + blankN s.left + (kindL (c :: r)).2.1)⟩ (i + blankN s.left + (kindL (c :: r)).2.1) b ⟨by
            show (c :: r).drop _ = _
            rw [← List.drop_drop, hr2], by
            show (s.line : Int) = _
            rw [t1, g1]; exact hln, by
            show ((s.col + blankN s.left + (kindL (c :: r)).2.1 : Nat) : Int) = _
            rw [t2, g2]; omega, by omega⟩ h
          refine ⟨blankN s.left + ((kindL (c :: r)).2.1 + n), by rw [show i + (blankN s.left + ((kindL (c :: r)).2.1 + n)) = i + blankN s.left + (kindL (c :: r)).2.1 + n by omega]; exact hE, fun g => ?_⟩
          cases g with
          | zero => rfl
          | succ g =>
            have hkt := kind_take c r ((kindL (c :: r)).2.1 + n) hk (by omega)
            have hdd : ((c :: r).take ((kindL (c :: r)).2.1 + n)).drop (kindL (c :: r)).2.1 = ((c :: r).drop (kindL (c :: r)).2.1).take n := by
              rw [List.drop_take, Nat.add_sub_cancel_left]
            have hd2 := htd ((kindL (c :: r)).2.1 + n)
            obtain ⟨q, hq⟩ : ∃ q, (kindL (c :: r)).2.1 + n = q + 1 := ⟨(kindL (c :: r)).2.1 + n - 1, by omega⟩
            rw [hq, List.take_succ_cons] at hkt hdd
            rw [hq, List.take_succ_cons] at hd2
            rw [hq]
            rw [lexF_tok (s := ⟨s.left.take (blankN s.left + (q + 1)), s.line, s.col, s.fin⟩) hd2 hc (by rw [hkt]; exact hk)]
            simp only [hkt, hdd, htb]
            exact hN g
        · rw [lexF_bad hr hc hk] at h
          cases h
          refine ⟨blankN s.left, ⟨hk1, ?_, ?_, err_rest hr2 hc (blankN_head hr hc) hk⟩, fun g => ?_⟩
          · show (s.line : Int) = _
            rw [g1]; exact hln
          · show ((s.col + blankN s.left : Nat) : Int) = _
            rw [g2]; omega
          · cases g with
            | zero => rfl
            | succ g =>
              have := htd 0
              rw [Nat.add_zero, List.take_zero] at this
              rw [lexF_nil (s := ⟨s.left.take (blankN s.left), s.line, s.col, s.fin⟩) this]

/-- Up to the place of an error there is none; from there on the source begins with it. -/
theorem lex_err_split (l : List UInt8) (hl : l.length ≤ 65536) (h : (lexE l).err ≠ 0) : ∃ k, ErrAt l (lexE l) k ∧ lexE (l.take k) = ⟨0, 0, 0⟩ ∧ lexE (l.drop k) = ⟨(lexE l).err, 1, 1⟩ ∧
    ((lexE l).err = 110 ∨ (lexE l).err = 111 ∨ (lexE l).err = 112 ∨ (lexE l).err = 113) := by
  cases hb : (lexS l).2 with
  | none => rw [lexE_none hl hb] at h; exact absurd rfl h
  | some b =>
    have hE : lexE l = b := by unfold lexE; rw [if_pos hl, hb]
    rw [hE] at h ⊢
    obtain ⟨k, hA, hN⟩ := err_split l _ (start l) 0 b ⟨rfl, by rw [lineN_zero]; rfl, by rw [colZ_zero]; rfl, Nat.zero_le _⟩ hb
    rw [Nat.zero_add] at hA
    refine ⟨k, hA, lexE_none (by rw [List.length_take]; omega) (hN _), ?_, ?_⟩
    · unfold lexE
      rw [if_pos (by rw [List.length_drop]; omega), hA.rest]
    · obtain ⟨k2, c, r, -, -, -, he, -, -, -⟩ := err_at l _ (start l) 0 b ⟨rfl, by rw [lineN_zero]; rfl, by rw [colZ_zero]; rfl, Nat.zero_le _⟩ hb
      rw [← he] at h ⊢
      rcases kind_err (c :: r) with h0 | h1
      · exact absurd h0 h
      · exact h1

end Go.Proofs.Ytgkknjlegfdcnaa.Lx
