/- Plain law: the place of an error. -/
import Derived.Test.YtgkknjlegfdcnaaLexX
namespace Go.Proofs.Ytgkknjlegfdcnaa.Lx
open Go.Proofs.Ytgkknjlegfdcnaa.Cal

def PosAt (l : List UInt8) (s : St) (i : Nat) : Prop := s.left = l.drop i ∧ (s.line : Int) = lineN l i ∧ (s.col : Int) = colZ l i ∧ i ≤ l.length

theorem pos_go {l : List UInt8} {i n : Nat} (h : i ≤ l.length) (hn : n ≤ (l.drop i).length) (hc : ∀ c ∈ (l.drop i).take n, c ≠ 10) : lineN l (i + n) = lineN l i ∧ colZ l (i + n) = colZ l i + n :=
  stretch l i n hc (by rw [List.length_drop] at hn; omega)

theorem err_at (l : List UInt8) (f : Nat) : ∀ (s : St) (i : Nat) (b : Bad), PosAt l s i → (lexF f s).2 = some b →
    ∃ k c r, k < l.length ∧ l.drop k = c :: r ∧ c ≠ 10 ∧ (kindL (c :: r)).2.2 = b.err ∧ b.err ≠ 0 ∧ (b.line : Int) = lineN l k ∧ (b.col : Int) = colZ l k := by
  induction f with
  | zero => intro s i b _ h; simp [lexF] at h
  | succ f ih =>
    rintro s i b ⟨hp, hln, hco, hi⟩ h
    have hb := blankN_le s.left
    have hbn := blank_nonl s.left
    rw [hp] at hb hbn
    obtain ⟨g1, g2⟩ := pos_go hi hb hbn
    cases hr : s.left.drop (blankN s.left) with
    | nil => rw [lexF_nil hr] at h; cases h
    | cons c r =>
      have hr2 : l.drop (i + blankN s.left) = c :: r := by rw [← List.drop_drop, ← hp]; exact hr
      rw [← hp] at g1 g2
      obtain ⟨hk1, hk2⟩ := drop_getD _ _ _ _ hr2
      by_cases hc : c = 10
      · rw [hc] at hr hk2 hr2
        rw [lexF_nl hr] at h
        have hl1 := lineN_succ l _ hk1
        rw [if_pos hk2] at hl1
        refine ih ⟨r, s.line + 1, 1, none⟩ (i + blankN s.left + 1) b ⟨?_, ?_, ?_, by omega⟩ h
        · rw [← List.drop_drop, hr2]; rfl
        · show ((s.line + 1 : Nat) : Int) = _
          rw [hl1, g1]; omega
        · show ((1 : Nat) : Int) = _
          rw [colZ_nl l _ hk1 hk2]; rfl
      · by_cases hk : (kindL (c :: r)).2.2 = 0
        · rw [lexF_tok hr hc hk] at h
          have hbd := kindL_bd c r
          have htn := tok_nonl c r
          rw [← hr2] at hbd htn
          obtain ⟨t1, t2⟩ := pos_go (by omega) hbd.1 htn
          rw [hr2] at t1 t2 hbd
          have hdl : (l.drop (i + blankN s.left)).length = l.length - (i + blankN s.left) := List.length_drop
          rw [hr2] at hdl
          refine ih _ (i + blankN s.left + (kindL (c :: r)).2.1) b ⟨?_, ?_, ?_, by omega⟩ h
          · show (c :: r).drop _ = _
            rw [← List.drop_drop, hr2]
          · show (s.line : Int) = _
            rw [t1, g1]; exact hln
          · show ((s.col + blankN s.left + (kindL (c :: r)).2.1 : Nat) : Int) = _
            rw [t2, g2]; omega
        · rw [lexF_bad hr hc hk] at h
          cases h
          refine ⟨i + blankN s.left, c, r, hk1, hr2, hc, rfl, hk, ?_, ?_⟩
          · show (s.line : Int) = _
            rw [g1]; exact hln
          · show ((s.col + blankN s.left : Nat) : Int) = _
            rw [g2]; omega

/-- Places grow: no two bytes have the same. -/
theorem place_lt (l : List UInt8) (i : Nat) : ∀ n, i + n + 1 ≤ l.length → lineN l i < lineN l (i + n + 1) ∨ (lineN l i = lineN l (i + n + 1) ∧ colZ l i < colZ l (i + n + 1)) := by
  have step : ∀ k, k < l.length → lineN l k < lineN l (k + 1) ∨ (lineN l k = lineN l (k + 1) ∧ colZ l k < colZ l (k + 1)) := by
    intro k hk
    have h1 := lineN_succ l k hk
    by_cases hc : l.getD k 0 = 10
    · rw [if_pos hc] at h1; left; omega
    · rw [if_neg hc] at h1
      have h2 := colZ_step l k hk hc
      right; omega
  intro n
  induction n with
  | zero => intro h; exact step i (by omega)
  | succ n ih =>
    intro h
    have h1 := ih (by omega)
    have h2 := step (i + n + 1) (by omega)
    rw [show i + (n + 1) + 1 = i + n + 1 + 1 by omega]
    omega

theorem place_ne (l : List UInt8) (i k : Nat) (h : i < k) (hk : k ≤ l.length) : ¬ (lineN l i = lineN l k ∧ colZ l i = colZ l k) := by
  obtain ⟨n, rfl⟩ : ∃ n, k = i + n + 1 := ⟨k - i - 1, by omega⟩
  have := place_lt l i n hk
  omega

end Go.Proofs.Ytgkknjlegfdcnaa.Lx
