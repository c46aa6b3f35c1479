/- Plain law: lex's tokens are good; joined and lexed again they are alike. No program in sight. -/
import Derived.Test.YtgkknjlegfdcnaaDoorLexR
namespace Go.Proofs.YtgkknjlegfdcnaaDoor.Lx
open Go.Proofs.YtgkknjlegfdcnaaDoor.Cal

theorem drop_getD (l : List UInt8) (n : Nat) (c : UInt8) (r : List UInt8) (h : l.drop n = c :: r) : n < l.length ∧ l.getD n 0 = c := by
  have h1 : n < l.length := by
    have := congrArg List.length h
    rw [List.length_drop, List.length_cons] at this; omega
  rw [drop_cons l n h1] at h
  exact ⟨h1, by cases h; rfl⟩

theorem blankN_head {l : List UInt8} {c : UInt8} {r : List UInt8} (h : l.drop (blankN l) = c :: r) (hc : c ≠ 10) : c ≠ 35 ∧ blankB c = false := by
  by_cases hh : ∃ q, l.drop (spanN blankB l) = 35 :: q
  · obtain ⟨q, hq⟩ := hh
    rw [blankN_hash hq, ← List.drop_drop, hq] at h
    obtain ⟨h1, h2⟩ := drop_getD _ _ _ _ h
    have h3 := spanN_at lineB (35 :: q) h1
    rw [h2] at h3
    unfold lineB at h3
    exact absurd (by simpa using h3) hc
  · have hp : blankN l = spanN blankB l := blankN_plain fun q hq => hh ⟨q, hq⟩
    rw [hp] at h
    obtain ⟨h1, h2⟩ := drop_getD _ _ _ _ h
    have h3 := spanN_at blankB l h1
    rw [h2] at h3
    refine ⟨fun e => hh ⟨r, by rw [h, e]⟩, h3⟩

theorem lexF_good (f : Nat) : ∀ s : St, s.left.length < f → (lexF f s).2 = none → Good s.fin.isNone (lexF f s).1 := by
  induction f with
  | zero => intro s h; omega
  | succ f ih =>
    intro s hf hn
    have hb := blankN_le s.left
    have hl : (s.left.drop (blankN s.left)).length = s.left.length - blankN s.left := List.length_drop
    cases hr : s.left.drop (blankN s.left) with
    | nil =>
      rw [lexF_nil hr]
      cases s.fin with
      | none => trivial
      | some p => exact Or.inl ⟨rfl, rfl, trivial⟩
    | cons c r =>
      rw [hr] at hl
      simp only [List.length_cons] at hl
      by_cases hc : c = 10
      · subst hc
        rw [lexF_nl hr] at hn ⊢
        have h := ih ⟨r, s.line + 1, 1, none⟩ (by show r.length < f; omega) hn
        cases s.fin with
        | none => exact h
        | some p => exact Or.inl ⟨rfl, rfl, h⟩
      · by_cases hk : (kindL (c :: r)).2.2 = 0
        · rw [lexF_tok hr hc hk] at hn ⊢
          have hbd := kindL_bd c r
          have hpos := hbd.2 hk
          have h := ih _ (by simp only [List.length_drop, List.length_cons]; omega) hn
          obtain ⟨c1, c2⟩ := blankN_head hr hc
          obtain ⟨k5, kst⟩ := kind_stable c r hk
          obtain ⟨a, ha⟩ := take_cons_pos (c := c) (r := r) hpos
          have hlen : ((c :: r).take (kindL (c :: r)).2.1).length = (kindL (c :: r)).2.1 := by rw [List.length_take]; omega
          have hok : Okay ⟨(kindL (c :: r)).1, (c :: r).take (kindL (c :: r)).2.1, s.line, s.col + blankN s.left⟩ :=
            ⟨k5, ⟨c, a, ha, hc, c1, c2⟩, fun b hb => by
              show kindL ((c :: r).take (kindL (c :: r)).2.1 ++ b) = ((kindL (c :: r)).1, ((c :: r).take (kindL (c :: r)).2.1).length, 0)
              rw [hlen]; exact kst b hb⟩
          cases s.fin with
          | none => exact ⟨hok, h⟩
          | some p => exact Or.inr ⟨hok, h⟩
        · rw [lexF_bad hr hc hk] at hn; cases hn

theorem lexF_err (f : Nat) : ∀ (s : St) (b : Bad), (lexF f s).2 = some b → b.err ≠ 0 := by
  induction f with
  | zero => intro s b h; simp [lexF] at h
  | succ f ih =>
    intro s b h
    cases hr : s.left.drop (blankN s.left) with
    | nil => rw [lexF_nil hr] at h; cases h
    | cons c r =>
      by_cases hc : c = 10
      · subst hc; rw [lexF_nl hr] at h; exact ih _ b h
      · by_cases hk : (kindL (c :: r)).2.2 = 0
        · rw [lexF_tok hr hc hk] at h; exact ih _ b h
        · rw [lexF_bad hr hc hk] at h; cases h; exact hk

theorem lexS_none {l : List UInt8} (hl : l.length ≤ 65536) (h : (lexE l).err = 0) : (lexS l).2 = none := by
  cases hb : (lexS l).2 with
  | none => rfl
  | some b =>
    have hE : lexE l = b := by unfold lexE; rw [if_pos hl, hb]
    rw [hE] at h
    exact absurd h (lexF_err _ _ b hb)

theorem lexE_none {l : List UInt8} (hl : l.length ≤ 65536) (h : (lexS l).2 = none) : lexE l = ⟨0, 0, 0⟩ := by
  unfold lexE; rw [if_pos hl, h]
theorem lexT_none {l : List UInt8} (hl : l.length ≤ 65536) (h : (lexS l).2 = none) : lexT l = (lexS l).1 := by
  unfold lexT; rw [if_pos hl, h]

/-- The tokens of a source, joined, are lexed into tokens of the same kinds and texts. -/
theorem rejoin (l : List UInt8) (hl : l.length ≤ 65536) (h : (lexE l).err = 0) (hj : (joinT (lexT l)).length ≤ 65536) :
    lexE (joinT (lexT l)) = ⟨0, 0, 0⟩ ∧ (lexT (joinT (lexT l))).map kt = (lexT l).map kt := by
  have hS := lexS_none hl h
  have hT := lexT_none hl hS
  have hg : Good true (lexT l) := by
    rw [hT]; exact lexF_good _ (start l) (by show l.length < l.length + 1; omega) hS
  have hx := (relex (lexT l)).1 1 hg ((joinT (lexT l)).length + 1) 1 (by unfold joinT; omega)
  have hS2 : (lexS (joinT (lexT l))).2 = none := hx.1
  exact ⟨lexE_none hj hS2, by rw [lexT_none hj hS2]; exact hx.2⟩

theorem piece_len (k : Nat) (t : Tok) : (piece k t).flatten.length ≤ 1 + t.text.length := by
  unfold piece
  split
  · simp
  · split <;> simp <;> omega

theorem lexF_size (f : Nat) : ∀ (s : St) (k : Nat), ((pieces k (lexF f s).1).flatten).length ≤ 3 * s.left.length + endN s.fin := by
  induction f with
  | zero => intro s k; simp [lexF, pieces]
  | succ f ih =>
    intro s k
    have hb := blankN_le s.left
    have hl : (s.left.drop (blankN s.left)).length = s.left.length - blankN s.left := List.length_drop
    cases hr : s.left.drop (blankN s.left) with
    | nil =>
      rw [lexF_nil hr]
      cases s.fin with
      | none => simp [endT, pieces]
      | some p => simp [endT, pieces, piece, endN]
    | cons c r =>
      rw [hr] at hl
      simp only [List.length_cons] at hl
      by_cases hc : c = 10
      · subst hc
        rw [lexF_nl hr]
        have h0 : endN (none : Option (Nat × Nat)) = 0 := rfl
        cases s.fin with
        | none =>
          have h := ih ⟨r, s.line + 1, 1, none⟩ k
          simp only [endT, List.nil_append, h0] at h ⊢
          omega
        | some p =>
          have h := ih ⟨r, s.line + 1, 1, none⟩ 5
          have hp : ∀ X : List Tok, (pieces k (⟨5, [], p.1, p.2⟩ :: X)).flatten.length = 1 + (pieces 5 X).flatten.length := by
            intro X; simp [pieces, piece]; omega
          have h2 : endN (some p) = 1 := rfl
          show ((pieces k (⟨5, [], p.1, p.2⟩ :: (lexF f ⟨r, s.line + 1, 1, none⟩).1)).flatten).length ≤ _
          rw [hp, h2]
          simp only [h0] at h
          omega
      · by_cases hk : (kindL (c :: r)).2.2 = 0
        · rw [lexF_tok hr hc hk]
          have hbd := kindL_bd c r
          have hpos := hbd.2 hk
          have h := ih ⟨(c :: r).drop (kindL (c :: r)).2.1, s.line, s.col + blankN s.left + (kindL (c :: r)).2.1, some (s.line, s.col + blankN s.left + (kindL (c :: r)).2.1)⟩ (kindL (c :: r)).1
          have hp := piece_len k ⟨(kindL (c :: r)).1, (c :: r).take (kindL (c :: r)).2.1, s.line, s.col + blankN s.left⟩
          have h1 : ∀ p : Nat × Nat, endN (some p) = 1 := fun _ => rfl
          simp only [pieces, List.flatten_append, List.length_append, List.length_drop, List.length_take, List.length_cons, h1] at h hp hbd ⊢
          omega
        · rw [lexF_bad hr hc hk]; simp [pieces]

theorem joinT_len (l : List UInt8) : (joinT (lexT l)).length ≤ 3 * l.length := by
  unfold joinT lexT
  split
  · split
    · exact lexF_size (l.length + 1) (start l) 5
    · simp [pieces]
  · simp [pieces]

end Go.Proofs.YtgkknjlegfdcnaaDoor.Lx
