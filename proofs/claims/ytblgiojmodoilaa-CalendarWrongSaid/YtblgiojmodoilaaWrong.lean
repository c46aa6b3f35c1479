/- CalendarWrong: numbers that are no dates and months that there are not are refused everywhere. -/
import Derived.Test.YtblgiojmodoilaaLawB
namespace Go.Proofs.Ytblgiojmodoilaa.Cal
open Go.RowKit Go.Shelf

theorem wrong_add {d n : Int} (h : d < 0 ∨ 65536 ≤ d) : addV d n = 0 ∧ addE d n = 2 := by simp [addV, addE, dateB_false h]
theorem wrong_bw {d e : Int} (h : d < 0 ∨ 65536 ≤ d) : (bwV d e = 0 ∧ bwE d e = 2) ∧ (bwV e d = 0 ∧ bwE e d = 2) := by simp [bwV, bwE, bwB, dateB_false h]
theorem wrong_age {d e : Int} (h : d < 0 ∨ 65536 ≤ d) : (ageV d e = 0 ∧ ageE d e = 2) ∧ (ageV e d = 0 ∧ ageE e d = 2) := by
  obtain ⟨⟨a, b⟩, c, f⟩ := wrong_bw (e := e) h
  refine ⟨⟨?_, ?_⟩, ?_, ?_⟩
  · unfold ageV; rw [a]; split <;> rfl
  · unfold ageE; rw [b]; split <;> rfl
  · unfold ageV; rw [c]; split <;> rfl
  · unfold ageE; rw [f]; split <;> rfl
theorem wrong_first {m : Int} (h : m < 0 ∨ 2154 ≤ m) : fstR m = 0 ∧ fstE m = 2 := by simp [fstR, fstE, monthB_false h]
theorem wrong_day1 {m : Int} (h : m < 0 ∨ 2154 ≤ m) : dayV 2000 m 1 = 0 ∧ dayE 2000 m 1 = 2 := by
  have hl := lenZ_out 2000 m (by omega)
  have hB : dayB 2000 m 1 = false := dayB_false (by omega)
  simp [dayV, dayE, hB]
theorem wrong_day2 {d : Int} (h : d < 0 ∨ 65536 ≤ d) : dayV d 1 1 = 0 ∧ dayE d 1 1 = 2 := by
  have hB : dayB d 1 1 = false := dayB_false (by omega)
  simp [dayV, dayE, hB]

set_option maxRecDepth 100000 in
set_option maxHeartbeats 8000000 in
theorem wrong11_core (x y z q D M : Int) (w : World)
    (hD : (x < 0 ∧ D = x) ∨ ((0 ≤ x ∧ x < 65536) ∧ D = x - 65536) ∨ ((0 ≤ x ∧ 65536 ≤ x) ∧ D = x))
    (hM : (y < 0 ∧ M = y) ∨ ((0 ≤ y ∧ y < 2154) ∧ M = y + 2154) ∨ ((0 ≤ y ∧ 2154 ≤ y) ∧ M = y))
    (P1 : Hid (∀ w, Calls Try.prog 28 #[.int .i64 z, .int .i64 65536] w fun e w' => e = .returned (.int .i64 q) ∧ w = w'))
    (H1 : Hid (∀ w, Calls Try.prog 29 #[.int .i64 D, .int .i64 1] w fun e w' => e = .returned (.tuple #[.int .i64 0, .int .i64 2]) ∧ Up w w'))
    (H2 : Hid (∀ w, Calls Try.prog 30 #[.int .i64 D, .int .i64 q] w fun e w' => e = .returned (.tuple #[.int .i64 0, .int .i64 2]) ∧ Up w w'))
    (H3 : Hid (∀ w, Calls Try.prog 30 #[.int .i64 q, .int .i64 D] w fun e w' => e = .returned (.tuple #[.int .i64 0, .int .i64 2]) ∧ Up w w'))
    (H4 : Hid (∀ w, Calls Try.prog 31 #[.int .i64 D, .int .i64 q] w fun e w' => e = .returned (.tuple #[.int .i64 0, .int .i64 2]) ∧ Up w w'))
    (H5 : Hid (∀ w, Calls Try.prog 31 #[.int .i64 q, .int .i64 D] w fun e w' => e = .returned (.tuple #[.int .i64 0, .int .i64 2]) ∧ Up w w'))
    (H6 : Hid (∀ w, Calls Try.prog 26 #[.int .i64 D] w fun e w' => e = .returned (.tuple #[.int .i64 0, .int .i64 2]) ∧ Up w w'))
    (H7 : Hid (∀ w, Calls Try.prog 27 #[.int .i64 M] w fun e w' => e = .returned (.tuple #[.int .i64 0, .int .i64 2]) ∧ Up w w'))
    (H8 : Hid (∀ w, Calls Try.prog 15 #[.int .i64 2000, .int .i64 M, .int .i64 1] w fun e w' => e = .returned (.tuple #[.int .i64 0, .int .i64 2]) ∧ Up w w'))
    (H9 : Hid (∀ w, Calls Try.prog 15 #[.int .i64 D, .int .i64 1, .int .i64 1] w fun e w' => e = .returned (.tuple #[.int .i64 0, .int .i64 2]) ∧ Up w w'))
    (H10 : Hid (∀ w, Calls Try.prog 19 #[.int .i64 2000, .int .i64 M] w fun e w' => e = .returned (.int .i64 0) ∧ Up w w'))
    (H11 : Hid (∀ w, Calls Try.prog 32 #[.int .i64 D] w fun e w' => e = .returned (.string ⟨#[]⟩) ∧ Up w w')) :
    Calls Try.prog 11 #[.int .i64 x, .int .i64 y, .int .i64 z] w fun e w' => e = .returned (.bool true) ∧ Up w w' := by
  rcases hD with ⟨hD, rfl⟩ | ⟨hD, rfl⟩ | ⟨hD, rfl⟩
  all_goals
    rcases hM with ⟨hM, rfl⟩ | ⟨hM, rfl⟩ | ⟨hM, rfl⟩
    all_goals
      go_enter Try.func11, Try.ntmps11
      go_wp2_with fail
      refine (awake21 _).mono ?_
      rintro e w1 ⟨rfl, u1⟩
      go_wp2_with fail
      refine (P1.out _).mono ?_
      rintro e w2 ⟨rfl, rfl⟩
      go_wp2_with fail
      refine (H1.out _).mono ?_
      rintro e w2 ⟨rfl, u2⟩
      go_wp2_with fail
      refine (H2.out _).mono ?_
      rintro e w3 ⟨rfl, u3⟩
      go_wp2_with fail
      refine (H3.out _).mono ?_
      rintro e w4 ⟨rfl, u4⟩
      go_wp2_with fail
      refine (H4.out _).mono ?_
      rintro e w5 ⟨rfl, u5⟩
      go_wp2_with fail
      refine (H5.out _).mono ?_
      rintro e w6 ⟨rfl, u6⟩
      go_wp2_with fail
      refine (H6.out _).mono ?_
      rintro e w7 ⟨rfl, u7⟩
      go_wp2_with fail
      refine (H7.out _).mono ?_
      rintro e w8 ⟨rfl, u8⟩
      go_wp2_with fail
      refine (H8.out _).mono ?_
      rintro e w9 ⟨rfl, u9⟩
      go_wp2_with fail
      refine (H9.out _).mono ?_
      rintro e w10 ⟨rfl, u10⟩
      go_wp2_with fail
      refine (H10.out _).mono ?_
      rintro e w11 ⟨rfl, u11⟩
      go_wp2_with fail
      refine (H11.out _).mono ?_
      rintro e w12 ⟨rfl, u12⟩
      go_wp2_with fail
      go_ret
      exact ⟨rfl, u1.trans <| u2.trans <| u3.trans <| u4.trans <| u5.trans <| u6.trans <| u7.trans <| u8.trans <| u9.trans <| u10.trans <| u11.trans u12⟩

theorem wrong11 (x y z : Int) (w : World) : Calls Try.prog 11 #[.int .i64 x, .int .i64 y, .int .i64 z] w fun e w' => e = .returned (.bool true) ∧ Up w w' := by
  obtain ⟨D, hD, hD2⟩ : ∃ D, ((x < 0 ∧ D = x) ∨ ((0 ≤ x ∧ x < 65536) ∧ D = x - 65536) ∨ ((0 ≤ x ∧ 65536 ≤ x) ∧ D = x)) ∧ (D < 0 ∨ 65536 ≤ D) := by
    by_cases h : 0 ≤ x ∧ x < 65536
    · exact ⟨x - 65536, by omega, by omega⟩
    · exact ⟨x, by omega, by omega⟩
  obtain ⟨M, hM, hM2⟩ : ∃ M, ((y < 0 ∧ M = y) ∨ ((0 ≤ y ∧ y < 2154) ∧ M = y + 2154) ∨ ((0 ≤ y ∧ 2154 ≤ y) ∧ M = y)) ∧ (M < 0 ∨ 2154 ≤ M) := by
    by_cases h : 0 ≤ y ∧ y < 2154
    · exact ⟨y + 2154, by omega, by omega⟩
    · exact ⟨y, by omega, by omega⟩
  obtain ⟨_, _, _, p4, p5, _⟩ := parts_no hD2
  have hl : lenZ 2000 M = 0 := lenZ_out 2000 M (by omega)
  have ht : textL D = [] := by rw [textL, if_neg (by simp [dateB_false hD2])]
  exact wrong11_core x y z _ D M w hD hM (Lib.hid (fun w => pick28 z 65536 w (by omega) (by omega))) (Lib.hid (fun w => d29_is (wrong_add hD2) w)) (Lib.hid (fun w => d30_is (wrong_bw hD2).1 w)) (Lib.hid (fun w => d30_is (wrong_bw hD2).2 w))
    (Lib.hid (fun w => d31_is (wrong_age hD2).1 w)) (Lib.hid (fun w => d31_is (wrong_age hD2).2 w)) (Lib.hid (fun w => d26_is ⟨p5, p4⟩ w)) (Lib.hid (fun w => d27_is (wrong_first hM2) w))
    (Lib.hid (fun w => d15_is (wrong_day1 hM2) w)) (Lib.hid (fun w => d15_is (wrong_day2 hD2) w)) (Lib.hid (fun w => hl ▸ len19 2000 M w)) (Lib.hid (fun w => d32_is ht w))

theorem wrong_any (x y z : Int) (w : World) (_ : (Lit.int .i64 x).wf = true) (_ : (Lit.int .i64 y).wf = true) (_ : (Lit.int .i64 z).wf = true) :
    Calls Try.prog 11 #[.int .i64 x, .int .i64 y, .int .i64 z] w fun e w' => e = .returned (.bool true) ∧ Below w.heap.size w w' := wrong11 x y z w

end Go.Proofs.Ytblgiojmodoilaa.Cal
