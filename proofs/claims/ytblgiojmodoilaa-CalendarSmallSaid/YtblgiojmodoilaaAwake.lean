/- 'awake': the chapter's examples hold of the program. -/
import Derived.Test.YtblgiojmodoilaaAwakeA
namespace Go.Proofs.Ytblgiojmodoilaa.Cal
open Go.RowKit Go.Shelf

theorem d15_is {y m d v x : Int} (h : dayV y m d = v ∧ dayE y m d = x) (w : World) : Calls Try.prog 15 #[.int .i64 y, .int .i64 m, .int .i64 d] w fun e w' => e = .returned (.tuple #[.int .i64 v, .int .i64 x]) ∧ Up w w' := by
  rw [← h.1, ← h.2]; exact day15 y m d w
theorem d29_is {y m v x : Int} (h : addV y m = v ∧ addE y m = x) (w : World) : Calls Try.prog 29 #[.int .i64 y, .int .i64 m] w fun e w' => e = .returned (.tuple #[.int .i64 v, .int .i64 x]) ∧ Up w w' := by
  rw [← h.1, ← h.2]; exact add29 y m w
theorem d30_is {y m v x : Int} (h : bwV y m = v ∧ bwE y m = x) (w : World) : Calls Try.prog 30 #[.int .i64 y, .int .i64 m] w fun e w' => e = .returned (.tuple #[.int .i64 v, .int .i64 x]) ∧ Up w w' := by
  rw [← h.1, ← h.2]; exact between30 y m w
theorem d31_is {y m v x : Int} (h : ageV y m = v ∧ ageE y m = x) (w : World) : Calls Try.prog 31 #[.int .i64 y, .int .i64 m] w fun e w' => e = .returned (.tuple #[.int .i64 v, .int .i64 x]) ∧ Up w w' := by
  rw [← h.1, ← h.2]; exact age31 y m w
theorem d26_is {y v x : Int} (h : monR y = v ∧ eR y = x) (w : World) : Calls Try.prog 26 #[.int .i64 y] w fun e w' => e = .returned (.tuple #[.int .i64 v, .int .i64 x]) ∧ Up w w' := by
  rw [← h.1, ← h.2]; exact month26 y w
theorem d27_is {y v x : Int} (h : fstR y = v ∧ fstE y = x) (w : World) : Calls Try.prog 27 #[.int .i64 y] w fun e w' => e = .returned (.tuple #[.int .i64 v, .int .i64 x]) ∧ Up w w' := by
  rw [← h.1, ← h.2]; exact first27 y w
theorem d25_is {y v x : Int} (h : wkR y = v ∧ eR y = x) (w : World) : Calls Try.prog 25 #[.int .i64 y] w fun e w' => e = .returned (.tuple #[.int .i64 v, .int .i64 x]) ∧ w = w' := by
  rw [← h.1, ← h.2]; exact weekday25 y w
theorem d32_is {y : Int} {l : List UInt8} (h : textL y = l) (w : World) : Calls Try.prog 32 #[.int .i64 y] w fun e w' => e = .returned (.string ⟨l.toArray⟩) ∧ Up w w' := by
  rw [← h]; exact text32 y w

set_option maxRecDepth 100000 in
set_option maxHeartbeats 4000000 in
theorem awake21 (w : World) : Calls Try.prog 21 #[] w fun e w' => e = .returned (.bool true) ∧ Up w w' := by
  go_enter Try.func21, Try.ntmps21
  go_wp2_with fail
  refine (d15_is aw_day _).mono ?_
  rintro e w1 ⟨rfl, u1⟩
  go_wp2_with fail
  refine (d15_is aw_day2 _).mono ?_
  rintro e w2 ⟨rfl, u2⟩
  go_wp2_with fail
  refine (d29_is aw_add _).mono ?_
  rintro e w3 ⟨rfl, u3⟩
  go_wp2_with fail
  refine (d29_is aw_add2 _).mono ?_
  rintro e w4 ⟨rfl, u4⟩
  go_wp2_with fail
  refine (d29_is aw_add3 _).mono ?_
  rintro e w5 ⟨rfl, u5⟩
  go_wp2_with fail
  refine (d30_is aw_bw _).mono ?_
  rintro e w6 ⟨rfl, u6⟩
  go_wp2_with fail
  refine (d30_is aw_bw2 _).mono ?_
  rintro e w7 ⟨rfl, u7⟩
  go_wp2_with fail
  refine (d31_is aw_age _).mono ?_
  rintro e w8 ⟨rfl, u8⟩
  go_wp2_with fail
  refine (d31_is aw_age2 _).mono ?_
  rintro e w9 ⟨rfl, u9⟩
  go_wp2_with fail
  refine (d26_is aw_mon _).mono ?_
  rintro e w10 ⟨rfl, u10⟩
  go_wp2_with fail
  refine (d27_is aw_fst _).mono ?_
  rintro e w11 ⟨rfl, u11⟩
  go_wp2_with fail
  refine (d25_is aw_wk _).mono ?_
  rintro e w12 ⟨rfl, rfl⟩
  go_wp2_with fail
  refine (d32_is aw_text _).mono ?_
  rintro e w13 ⟨rfl, u13⟩
  go_wp2_with fail
  refine (d32_is aw_text2 _).mono ?_
  rintro e w14 ⟨rfl, u14⟩
  go_wp2_with fail
  go_ret
  exact ⟨rfl, u1.trans <| u2.trans <| u3.trans <| u4.trans <| u5.trans <| u6.trans <| u7.trans <| u8.trans <| u9.trans <| u10.trans <| u11.trans <| u13.trans u14⟩

end Go.Proofs.Ytblgiojmodoilaa.Cal
