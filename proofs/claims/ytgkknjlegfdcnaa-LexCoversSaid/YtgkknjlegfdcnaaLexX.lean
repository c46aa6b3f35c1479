/- Plain law: where the tokens and the error stand. -/
import Derived.Test.YtgkknjlegfdcnaaLexO
import Derived.Test.YtgkknjlegfdcnaaLexS
namespace Go.Proofs.Ytgkknjlegfdcnaa.Lx
open Go.Proofs.Ytgkknjlegfdcnaa.Cal

/-- A stretch without a newline: the line stays, the column goes on. -/
theorem stretch (l : List UInt8) (i n : Nat) (h : ∀ c ∈ (l.drop i).take n, c ≠ 10) (hn : i + n ≤ l.length) : lineN l (i + n) = lineN l i ∧ colZ l (i + n) = colZ l i + n := by
  induction n with
  | zero => simp
  | succ n ih =>
    have hs : ((l.drop i).take n) ⊆ ((l.drop i).take (n + 1)) := by
      intro c hc
      rw [show n = min n (n + 1) by omega, ← List.take_take] at hc
      exact List.mem_of_mem_take hc
    obtain ⟨h1, h2⟩ := ih (fun c hc => h c (hs hc)) (by omega)
    have hlt : i + n < l.length := by omega
    have hc : ¬ l.getD (i + n) 0 = 10 := by
      refine h _ ?_
      have : (l.drop i)[n]? = some (l.getD (i + n) 0) := by
        rw [List.getElem?_drop, List.getElem?_eq_getElem hlt]; simp [List.getD, hlt]
      have h3 : ((l.drop i).take (n + 1))[n]? = some (l.getD (i + n) 0) := by
        rw [List.getElem?_take, if_pos (by omega)]; exact this
      exact List.mem_of_getElem? h3
    rw [← Nat.add_assoc, lineN_succ l _ hlt, colZ_step l _ hlt hc, if_neg hc, h1, h2]
    constructor <;> omega

theorem blank_nonl (l : List UInt8) : ∀ c ∈ l.take (blankN l), c ≠ 10 := by
  have hb : ∀ c ∈ l.take (spanN blankB l), c ≠ 10 := fun c hc e => by
    have := spanN_take blankB l c hc
    rw [e] at this; exact absurd this (by decide)
  by_cases hh : ∃ q, l.drop (spanN blankB l) = 35 :: q
  · obtain ⟨q, hq⟩ := hh
    rw [blankN_hash hq, List.take_add, hq]
    intro c hc
    rcases List.mem_append.1 hc with h | h
    · exact hb c h
    · intro e
      have := spanN_take lineB (35 :: q) c h
      rw [e] at this; exact absurd this (by decide)
  · rw [blankN_plain fun q hq => hh ⟨q, hq⟩]
    exact hb

theorem digit_nonl {c : UInt8} (h : digB c = true) : c ≠ 10 := fun e => by rw [e] at h; exact absurd h (by decide)

theorem num_nonl (c : UInt8) (r : List UInt8) : ∀ x ∈ (c :: r).take (numN (c :: r)).1, x ≠ 10 := by
  have hd := spanN_take digB (c :: r)
  by_cases hA : ∃ d r', (c :: r).drop (spanN digB (c :: r)) = 47 :: d :: r' ∧ digB d = true
  · obtain ⟨d, r', hr, hdd⟩ := hA
    rw [numN_A _ _ d r' rfl hr hdd]
    unfold numR
    split
    · simp only []
      rw [List.take_add, hr]
      intro x hx
      rcases List.mem_append.1 hx with h | h
      · exact digit_nonl (hd x h)
      · rw [show 1 + spanN digB (d :: r') = spanN digB (d :: r') + 1 by omega, List.take_succ_cons] at h
        rcases List.mem_cons.1 h with rfl | h
        · decide
        · exact digit_nonl (spanN_take digB (d :: r') x h)
    · intro x hx; simp at hx
  · rw [numN_B _ _ rfl (fun d r' hr => by
      cases hdd : digB d
      · rfl
      · exact absurd ⟨d, r', hr, hdd⟩ hA)]
    unfold numR
    split
    · exact fun x hx => digit_nonl (hd x hx)
    · intro x hx; simp at hx

theorem part_nonl {c : UInt8} (h : partB c = true) : c ≠ 10 := fun e => by rw [e] at h; exact absurd h (by decide)

theorem tok_nonl (c : UInt8) (r : List UInt8) : ∀ x ∈ (c :: r).take (kindL (c :: r)).2.1, x ≠ 10 := by
  cases hlet : letB c
  · cases hdat : datedB (c :: r)
    · cases hdig : digB c
      · rw [kindL_else hlet hdat hdig]
        split
        · rename_i hs
          intro x hx
          have : x = c := by simpa using hx
          rw [this]
          intro e; rw [e] at hs; exact absurd hs (by decide)
        · intro x hx; simp at hx
      · rw [kindL_num hlet hdat hdig]
        exact num_nonl c r
    · rw [kindL_date hlet hdat]
      split
      · simp only []
        intro x hx
        obtain ⟨j, hj, hxj⟩ := List.mem_iff_getElem.1 hx
        have hj10 : j < 10 := by rw [List.length_take] at hj; omega
        have h1 := (dated_iff _).1 hdat j hj10
        unfold datP at h1
        rw [Bool.and_eq_true, decide_eq_true_eq] at h1
        have hg : (c :: r).getD j 0 = x := by
          rw [← hxj, List.getElem_take, List.getD, List.getElem?_eq_getElem h1.1]; rfl
        rw [hg] at h1
        intro e
        rw [e] at h1
        have h2 := h1.2
        split at h2
        · exact absurd h2 (by decide)
        · exact absurd h2 (by decide)
      · intro x hx; simp at hx
  · rw [kindL_word hlet]
    split
    · exact fun x hx => part_nonl (spanN_take partB (c :: r) x hx)
    · intro x hx; simp at hx

end Go.Proofs.Ytgkknjlegfdcnaa.Lx
