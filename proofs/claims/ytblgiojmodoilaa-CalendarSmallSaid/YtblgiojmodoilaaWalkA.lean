/- Contracts of the small functions of the calendar: leap years and lengths of months. -/
import Derived.Test.YtblgiojmodoilaaChecked
import Derived.Test.YtblgiojmodoilaaMath
import Derived.WalkKit
import Derived.WalkLawsBesides
import Derived.WalkSpells
import Derived.Lib.Hide
namespace Go.Proofs.Ytblgiojmodoilaa.Cal
open Go.RowKit

/-- The world has at most new blocks; nothing that was there has turned. -/
def Up (w w' : World) : Prop := Below w.heap.size w w'
theorem Up.refl (w : World) : Up w w := Below.refl _ _
theorem Up.trans {a b c : World} (h : Up a b) (k : Up b c) : Up a c := Below.trans h (k.mono h.size)
theorem Up.alloc {a w : World} (h : Up a w) (o : Obj) : Up a (w.alloc o) := Below.alloc h h.size o
theorem Up.drew {a w : World} (h : Up a w) : Up a w.drew := Below.drew h
theorem Up.drewN {a w : World} (h : Up a w) (n : Nat) : Up a (w.drewN n) := ⟨h.os, h.tape, h.output, h.size, h.block⟩

set_option maxHeartbeats 400000 in
theorem leap17 (y : Int) (w : World) : Calls Try.prog 17 #[.int .i64 y] w fun e w' => e = .returned (.bool (leapB y)) ∧ w = w' := by
  by_cases h4 : y.tmod 4 = 0
  · by_cases h1 : y.tmod 100 = 0
    · have hl : leapB y = (y.tmod 400 == 0) := by simp [leapB, h4, h1]
      rw [hl]; clear hl
      go_enter Try.func17, Try.ntmps17
      go_wp2
      go_ret
      exact ⟨rfl, rfl⟩
    · have hl : leapB y = true := by simp [leapB, h4, h1]
      rw [hl]; clear hl
      go_enter Try.func17, Try.ntmps17
      go_wp2
      go_ret
      exact ⟨rfl, rfl⟩
  · have hl : leapB y = false := by simp [leapB, h4]
    rw [hl]; clear hl
    go_enter Try.func17, Try.ntmps17
    go_wp2
    go_ret
    exact ⟨rfl, rfl⟩

set_option maxHeartbeats 400000 in
theorem leap18 (y : Int) (w : World) : Calls Try.prog 18 #[.int .i64 y] w fun e w' => e = .returned (.bool (leapB y)) ∧ w = w' := by
  by_cases h400 : y.tmod 400 = 0
  · have hl : leapB y = true := by
      have h2 := (tmod_zero y 400 (by decide)).1 h400
      rw [leapB_iff]; omega
    rw [hl]; clear hl
    go_enter Try.func18, Try.ntmps18
    go_wp2
    go_ret
    exact ⟨rfl, rfl⟩
  · by_cases h4 : y.tmod 4 = 0
    · have hl : leapB y = (y.tmod 100 != 0) := by simp [leapB, h4, h400]
      rw [hl]; clear hl
      go_enter Try.func18, Try.ntmps18
      go_wp2
      go_ret
      exact ⟨rfl, rfl⟩
    · have hl : leapB y = false := by simp [leapB, h4]
      rw [hl]; clear hl
      go_enter Try.func18, Try.ntmps18
      go_wp2
      go_ret
      exact ⟨rfl, rfl⟩

theorem month_cases (m : Int) : m < 1 ∨ 12 < m ∨ m = 1 ∨ m = 2 ∨ m = 3 ∨ m = 4 ∨ m = 5 ∨ m = 6 ∨ m = 7 ∨ m = 8 ∨ m = 9 ∨ m = 10 ∨ m = 11 ∨ m = 12 := by omega

set_option maxHeartbeats 4000000 in
/-- 'calendar.Len'. -/
theorem len19 (y m : Int) (w : World) : Calls Try.prog 19 #[.int .i64 y, .int .i64 m] w fun e w' => e = .returned (.int .i64 (lenZ y m)) ∧ Up w w' := by
  rcases month_cases m with h | h | rfl | rfl | rfl | rfl | rfl | rfl | rfl | rfl | rfl | rfl | rfl | rfl
  · rw [lenZ_out y m (Or.inl h)]
    go_enter Try.func19, Try.ntmps19
    go_wp2
    go_ret
    exact ⟨rfl, (Up.refl _).alloc _⟩
  · rw [lenZ_out y m (Or.inr h)]
    go_enter Try.func19, Try.ntmps19
    go_wp2
    go_ret
    exact ⟨rfl, (Up.refl _).alloc _⟩
  · rw [show lenZ y 1 = 31 by simp [lenZ]]
    go_enter Try.func19, Try.ntmps19
    go_wp2
    go_ret
    exact ⟨rfl, (Up.refl _).alloc _⟩
  · cases hl : leapB y
    · rw [show lenZ y 2 = 28 by simp [lenZ, hl]]
      have hc := leap17 y
      rw [hl] at hc
      clear hl
      go_enter Try.func19, Try.ntmps19
      go_wp2_with (go_at_call 17; refine (hc _).mono ?_; rintro e w' ⟨rfl, rfl⟩)
      go_ret
      exact ⟨rfl, (Up.refl _).alloc _⟩
    · rw [show lenZ y 2 = 29 by simp [lenZ, hl]]
      have hc := leap17 y
      rw [hl] at hc
      clear hl
      go_enter Try.func19, Try.ntmps19
      go_wp2_with (go_at_call 17; refine (hc _).mono ?_; rintro e w' ⟨rfl, rfl⟩)
      go_ret
      exact ⟨rfl, (Up.refl _).alloc _⟩
  all_goals
    first
    | rw [show lenZ y 3 = 31 by simp [lenZ]]
    | rw [show lenZ y 4 = 30 by simp [lenZ]]
    | rw [show lenZ y 5 = 31 by simp [lenZ]]
    | rw [show lenZ y 6 = 30 by simp [lenZ]]
    | rw [show lenZ y 7 = 31 by simp [lenZ]]
    | rw [show lenZ y 8 = 31 by simp [lenZ]]
    | rw [show lenZ y 9 = 30 by simp [lenZ]]
    | rw [show lenZ y 10 = 31 by simp [lenZ]]
    | rw [show lenZ y 11 = 30 by simp [lenZ]]
    | rw [show lenZ y 12 = 31 by simp [lenZ]]
    go_enter Try.func19, Try.ntmps19
    go_wp2
    go_ret
    exact ⟨rfl, (Up.refl _).alloc _⟩

set_option maxHeartbeats 4000000 in
/-- 'annuitantref03.Len'. -/
theorem len20 (y m : Int) (w : World) : Calls Try.prog 20 #[.int .i64 y, .int .i64 m] w fun e w' => e = .returned (.int .i64 (lenZ y m)) ∧ w = w' := by
  rcases month_cases m with h | h | rfl | rfl | rfl | rfl | rfl | rfl | rfl | rfl | rfl | rfl | rfl | rfl
  · rw [lenZ_out y m (Or.inl h)]
    go_enter Try.func20, Try.ntmps20
    go_wp2
    go_ret
    exact ⟨rfl, rfl⟩
  · rw [lenZ_out y m (Or.inr h)]
    go_enter Try.func20, Try.ntmps20
    go_wp2
    go_ret
    exact ⟨rfl, rfl⟩
  · rw [show lenZ y 1 = 31 by simp [lenZ]]
    go_enter Try.func20, Try.ntmps20
    go_wp2
    go_ret
    exact ⟨rfl, rfl⟩
  · cases hl : leapB y
    · rw [show lenZ y 2 = 28 by simp [lenZ, hl]]
      have hc := leap18 y
      rw [hl] at hc
      clear hl
      go_enter Try.func20, Try.ntmps20
      go_wp2_with (go_at_call 18; refine (hc _).mono ?_; rintro e w' ⟨rfl, rfl⟩)
      go_ret
      exact ⟨rfl, rfl⟩
    · rw [show lenZ y 2 = 29 by simp [lenZ, hl]]
      have hc := leap18 y
      rw [hl] at hc
      clear hl
      go_enter Try.func20, Try.ntmps20
      go_wp2_with (go_at_call 18; refine (hc _).mono ?_; rintro e w' ⟨rfl, rfl⟩)
      go_ret
      exact ⟨rfl, rfl⟩
  all_goals
    first
    | rw [show lenZ y 3 = 31 by simp [lenZ]]
    | rw [show lenZ y 4 = 30 by simp [lenZ]]
    | rw [show lenZ y 5 = 31 by simp [lenZ]]
    | rw [show lenZ y 6 = 30 by simp [lenZ]]
    | rw [show lenZ y 7 = 31 by simp [lenZ]]
    | rw [show lenZ y 8 = 31 by simp [lenZ]]
    | rw [show lenZ y 9 = 30 by simp [lenZ]]
    | rw [show lenZ y 10 = 31 by simp [lenZ]]
    | rw [show lenZ y 11 = 30 by simp [lenZ]]
    | rw [show lenZ y 12 = 31 by simp [lenZ]]
    go_enter Try.func20, Try.ntmps20
    go_wp2
    go_ret
    exact ⟨rfl, rfl⟩

end Go.Proofs.Ytblgiojmodoilaa.Cal
