/- lex.Name and the reference's Name; the walk of LexNames. -/
import Derived.Test.YtgkknjlegfdcnaaDoorDrB
namespace Go.Proofs.YtgkknjlegfdcnaaDoor.Lx
open Go.RowKit Go.Shelf Go.Proofs.YtgkknjlegfdcnaaDoor.Cal

/-- One word, not too long. -/
def wordB (l : List UInt8) : Bool := !l.isEmpty && (decide (l.length ≤ 24) && (letB (l.getD 0 0) && (spanN partB l == l.length)))
def nameB (l : List UInt8) : Bool := wordB l && !resB l

theorem wordB_parts (l : List UInt8) : (l = [] ∧ wordB l = false) ∨ (0 < l.length ∧ 24 < l.length ∧ wordB l = false) ∨ (0 < l.length ∧ l.length ≤ 24 ∧ letB (l.getD 0 0) = false ∧ wordB l = false) ∨
    (0 < l.length ∧ l.length ≤ 24 ∧ letB (l.getD 0 0) = true ∧ spanN partB l ≠ l.length ∧ wordB l = false) ∨ (0 < l.length ∧ l.length ≤ 24 ∧ letB (l.getD 0 0) = true ∧ spanN partB l = l.length ∧ wordB l = true) := by
  cases l with
  | nil => exact Or.inl ⟨rfl, rfl⟩
  | cons c r =>
    have h0 : 0 < (c :: r).length := by simp
    by_cases h1 : (c :: r).length ≤ 24
    · cases h2 : letB ((c :: r).getD 0 0)
      · exact Or.inr (Or.inr (Or.inl ⟨h0, h1, rfl, by simp only [wordB, h2, Bool.false_and, Bool.and_false]⟩))
      · by_cases h3 : spanN partB (c :: r) = (c :: r).length
        · refine Or.inr (Or.inr (Or.inr (Or.inr ⟨h0, h1, rfl, h3, ?_⟩)))
          simp only [wordB, h2, decide_eq_true h1, h3, List.isEmpty_cons, Bool.not_false, Bool.true_and, beq_self_eq_true]
        · refine Or.inr (Or.inr (Or.inr (Or.inl ⟨h0, h1, rfl, h3, ?_⟩)))
          have : (spanN partB (c :: r) == (c :: r).length) = false := by simpa using h3
          simp only [wordB, this, Bool.and_false]
    · refine Or.inr (Or.inl ⟨h0, by omega, ?_⟩)
      simp only [wordB, decide_eq_false h1, Bool.false_and, Bool.and_false]

/-- lex.Name at a long string. -/
theorem name_long (S : ByteArray) (w : World) (h : 24 < S.size) : Calls Tryd.prog 6 #[.string S] w fun e w' => e = .returned (.bool false) ∧ Up w w' := by
  have hE : S.toList.isEmpty = false := by
    cases hx : S.toList.isEmpty
    · rfl
    · have h2 : S.toList = [] := by simpa using hx
      have h3 : (bs S.data.toList).toList = S.data.toList := bs_toList _
      have h5 : S.data.toList = [] := by rw [← h3]; exact (congrArg ByteArray.toList (bs_of S)).symm.trans h2
      have h4 : S.size = S.data.toList.length := by rw [Array.length_toList]; rfl
      rw [h5, List.length_nil] at h4; omega
  have hi : (24 : Int) < (S.size : Int) := by omega
  go_enter Tryd.func6, Tryd.ntmps6
  go_wp2_with fail
  go_ret
  exact ⟨rfl, Up.refl w⟩

set_option maxHeartbeats 2000000 in
theorem name_any (l : List UInt8) (w : World) (hl : l.length ≤ 3000) (htab : TabP w) : Calls Tryd.prog 6 #[.string (bs l)] w fun e w' => e = .returned (.bool (nameB l)) ∧ Up w w' := by
  have hsz := bs_size l
  have htl : (bs l).toList = l := bs_toList l
  unfold nameB
  rcases wordB_parts l with ⟨h, hw⟩ | ⟨h0, h1, hw⟩ | ⟨h0, h1, h2, hw⟩ | ⟨h0, h1, h2, h3, hw⟩ | ⟨h0, h1, h2, h3, hw⟩
  · rw [hw]
    have hE : (bs l).toList.isEmpty = true := by rw [htl, h]; rfl
    clear htl hsz h
    generalize bs l = B at *
    go_enter Tryd.func6, Tryd.ntmps6
    go_wp2_with fail
    go_ret
    exact ⟨rfl, Up.refl w⟩
  · rw [hw]
    exact name_long _ w (by omega)
  all_goals
    rw [hw]
    have hE : (bs l).toList.isEmpty = false := by
      rw [htl]
      cases l with
      | nil => simp at h0
      | cons a b => rfl
    have hp : 0 < (bs l).size := by omega
    have hi : ((bs l).size : Int) ≤ 24 := by omega
    have hg := bs_get l 0 hp
    have HL := Lib.hid (letter_is ((bs l)[0]) _ ((congrArg letB hg).trans h2))
    have HS := Lib.hid (fun w => span_part l w (by omega))
    have hd : (bs l).data.toList = l := by simp [bs]
    have HR := Lib.hid (fun (w : World) (ht : TabP w) => reserved_any (bs l) w (by rw [hsz]; unfold maxLen; omega) ht)
    rw [hd] at HR
    have HT := Lib.hid htab
    clear htl hg hd htab h2 hw
  · generalize bs l = B at *
    go_enter Tryd.func6, Tryd.ntmps6
    go_wp2_with fail
    refine (HL.out _).mono ?_
    rintro e w1 ⟨rfl, rfl⟩
    go_wp2_with fail
    go_ret
    exact ⟨rfl, Up.refl _⟩
  · have f1 : (((spanN partB l : Nat) : Int) == ((bs l).size : Int)) = false := by
      cases hz : (((spanN partB l : Nat) : Int) == ((bs l).size : Int))
      · rfl
      · have := eq_of_beq hz; omega
    have f2 : (spanN partB l == (bs l).size) = false := by
      cases hz : (spanN partB l == (bs l).size)
      · rfl
      · have := eq_of_beq hz; omega
    clear h3 hsz
    generalize spanN partB l = n at *
    generalize bs l = B at *
    go_enter Tryd.func6, Tryd.ntmps6
    go_wp2_with fail
    refine (HL.out _).mono ?_
    rintro e w1 ⟨rfl, rfl⟩
    go_wp2_with fail
    refine (HS.out _).mono ?_
    rintro e w1 ⟨rfl, rfl⟩
    go_wp2_with fail
    go_ret
    exact ⟨rfl, Up.refl _⟩
  · rw [h3, ← hsz] at HS
    clear h3 hsz
    generalize bs l = B at *
    generalize resB l = rb at *
    go_enter Tryd.func6, Tryd.ntmps6
    go_wp2_with fail
    refine (HL.out _).mono ?_
    rintro e w1 ⟨rfl, rfl⟩
    go_wp2_with fail
    refine (HS.out _).mono ?_
    rintro e w1 ⟨rfl, rfl⟩
    go_wp2_with fail
    refine (HR.out _ HT.out).mono ?_
    rintro e w1 ⟨rfl, u1⟩
    go_wp2_with fail
    go_ret
    exact ⟨by simp, u1⟩

end Go.Proofs.YtgkknjlegfdcnaaDoor.Lx
