/- Contracts of the calendar's inner functions: isDate, size, start, First, Weekday, Pick. -/
import Derived.Test.YtblgiojmodoilaaWalkA
import Derived.Deep.LoopGhost
namespace Go.Proofs.Ytblgiojmodoilaa.Cal
open Go.RowKit

theorem results_tmp4 {fn : Func} {t u v x : Tmp} (h : fn.results = #[.tmp t, .tmp u, .tmp v, .tmp x]) (tmps : Array Value) (P : Program) (w : World) :
    (results fn tmps).run P w = .ok (.tuple #[tmps.getD t undef, tmps.getD u undef, tmps.getD v undef, tmps.getD x undef]) w := by
  simp [results, h]

theorem wrap_in (x : Int) (h0 : -1000000000000 ≤ x) (h1 : x ≤ 1000000000000) : IntKind.i64.wrap x = x := IntWalk.i64_in x (by omega)

def dateB (d : Int) : Bool := decide (0 ≤ d ∧ d < 65536)
theorem dateB_true {d : Int} (h0 : 0 ≤ d) (h1 : d < 65536) : dateB d = true := by simp [dateB, h0, h1]
theorem dateB_false {d : Int} (h : d < 0 ∨ 65536 ≤ d) : dateB d = false := by
  unfold dateB; simp; omega

theorem date37 (d : Int) (w : World) : Calls Try.prog 37 #[.int .i64 d] w fun e w' => e = .returned (.bool (dateB d)) ∧ w = w' := by
  by_cases h0 : 0 ≤ d
  · by_cases h1 : d < 65536
    · rw [dateB_true h0 h1]
      go_enter Try.func37, Try.ntmps37
      go_wp2
      go_ret
      exact ⟨rfl, rfl⟩
    · rw [dateB_false (by omega)]
      go_enter Try.func37, Try.ntmps37
      go_wp2
      go_ret
      exact ⟨rfl, rfl⟩
  · rw [dateB_false (by omega)]
    go_enter Try.func37, Try.ntmps37
    go_wp2
    go_ret
    exact ⟨rfl, rfl⟩

theorem is52 (d : Int) (w : World) : Calls Try.prog 52 #[.int .i64 d] w fun e w' => e = .returned (.bool (dateB d)) ∧ w = w' := by
  by_cases h0 : 0 ≤ d
  · by_cases h1 : d < 65536
    · rw [dateB_true h0 h1]
      go_enter Try.func52, Try.ntmps52
      go_wp2
      go_ret
      exact ⟨rfl, rfl⟩
    · rw [dateB_false (by omega)]
      go_enter Try.func52, Try.ntmps52
      go_wp2
      go_ret
      exact ⟨rfl, rfl⟩
  · rw [dateB_false (by omega)]
    go_enter Try.func52, Try.ntmps52
    go_wp2
    go_ret
    exact ⟨rfl, rfl⟩

/-- The two answers of isDate, apart. -/
theorem date37_yes (d : Int) (w : World) (h0 : 0 ≤ d) (h1 : d < 65536) : Calls Try.prog 37 #[.int .i64 d] w fun e w' => e = .returned (.bool true) ∧ w = w' := by
  have h := date37 d w; rw [dateB_true h0 h1] at h; exact h
theorem date37_no (d : Int) (w : World) (h : d < 0 ∨ 65536 ≤ d) : Calls Try.prog 37 #[.int .i64 d] w fun e w' => e = .returned (.bool false) ∧ w = w' := by
  have h' := date37 d w; rw [dateB_false h] at h'; exact h'
theorem is52_yes (d : Int) (w : World) (h0 : 0 ≤ d) (h1 : d < 65536) : Calls Try.prog 52 #[.int .i64 d] w fun e w' => e = .returned (.bool true) ∧ w = w' := by
  have h := is52 d w; rw [dateB_true h0 h1] at h; exact h
theorem is52_no (d : Int) (w : World) (h : d < 0 ∨ 65536 ≤ d) : Calls Try.prog 52 #[.int .i64 d] w fun e w' => e = .returned (.bool false) ∧ w = w' := by
  have h' := is52 d w; rw [dateB_false h] at h'; exact h'

theorem lenZ_sz (k : Int) (h : 0 ≤ k) : lenZ (1900 + k / 12) (k % 12 + 1) = (sz k.toNat : Int) := by
  obtain ⟨n, rfl⟩ := Int.eq_ofNat_of_zero_le h
  rw [Int.toNat_natCast, sz_cast]; rfl

set_option maxHeartbeats 400000 in
theorem size46 (k : Int) (w : World) (h0 : 0 ≤ k) (h1 : k ≤ 100000) : Calls Try.prog 46 #[.int .i64 k] w fun e w' => e = .returned (.int .i64 (sz k.toNat : Int)) ∧ Up w w' := by
  rw [← lenZ_sz k h0]
  go_enter Try.func46, Try.ntmps46
  go_wp2_with (go_at_call 19; refine (len19 _ _ _).mono ?_; rintro e w' ⟨rfl, hup⟩)
  go_ret
  exact ⟨rfl, hup⟩

theorem st_year_z (n : Nat) (hn : n < 2160) (hy : ¬ n < 12) : (365 * ((n : Int) / 12) + ((n : Int) / 12 - 1) / 4 : Int) = (st (12 * (n / 12)) : Int) := by
  have h := st_year (n / 12) (by omega)
  rw [h]; omega

theorem st_bd (k : Nat) (h : k ≤ 2160) : (0 : Int) ≤ (st k : Int) ∧ (st k : Int) ≤ 66960 := by
  have := st_le_31 k; omega

/-- The loop of 'start': from the year's first month on, month by month. -/
def StartRel (w : World) (n : Nat) (o m : Value) (wr : World) : Prop :=
  ∃ j : Nat, 12 * (n / 12) ≤ j ∧ j ≤ n ∧ m = .int .i64 (j : Int) ∧ o = .int .i64 (st j : Int) ∧ Up w wr

set_option maxHeartbeats 1000000 in
theorem start36 (k : Int) (w : World) (h0 : 0 ≤ k) (h1 : k < 2160) : Calls Try.prog 36 #[.int .i64 k] w fun e w' => e = .returned (.int .i64 (st k.toNat : Int)) ∧ Up w w' := by
  obtain ⟨n, rfl⟩ := Int.eq_ofNat_of_zero_le h0
  rw [Int.toNat_natCast]
  by_cases hy : n < 12
  · have hq : (n : Int) / 12 = 0 := by omega
    go_enter Try.func36, Try.ntmps36
    go_wp2_with fail
    go_loopw [4, 5] (StartRel w n) (fun _ m _ => n - (intOf m).toNat)
    case atStart => exact ⟨0, by omega, by omega, rfl, rfl, Up.refl _⟩
    case round =>
      obtain ⟨j, hj1, hj2, rfl, rfl, hup⟩ := hrel
      by_cases hlt : j < n
      · have hb := st_bd j (by omega)
        have hs := sz_bd j
        go_wp2_with (go_at_call 46; refine (size46 _ _ (by omega) (by omega)).mono ?_; rintro e w' ⟨rfl, hup2⟩)
        go_roundw
        case rel => exact ⟨j + 1, by omega, by omega, by go_num, by rw [st_succ]; go_num, hup.trans hup2⟩
        case measure => simp [intOf]; omega
      · obtain rfl : n = j := by omega
        go_wp2_with fail
        go_ret
        exact ⟨rfl, hup⟩
  · have hq := Lib.hid (st_year_z n (by omega) hy)
    go_enter Try.func36, Try.ntmps36
    go_wp2_with fail
    go_loopw [4, 5] (StartRel w n) (fun _ m _ => n - (intOf m).toNat)
    case atStart => exact ⟨12 * (n / 12), by omega, by omega, by go_num, by rw [hq.out], Up.refl _⟩
    case round =>
      obtain ⟨j, hj1, hj2, rfl, rfl, hup⟩ := hrel
      by_cases hlt : j < n
      · have hb := st_bd j (by omega)
        have hs := sz_bd j
        go_wp2_with (go_at_call 46; refine (size46 _ _ (by omega) (by omega)).mono ?_; rintro e w' ⟨rfl, hup2⟩)
        go_roundw
        case rel => exact ⟨j + 1, by omega, by omega, by go_num, by rw [st_succ]; go_num, hup.trans hup2⟩
        case measure => simp [intOf]; omega
      · obtain rfl : n = j := by omega
        go_wp2_with fail
        go_ret
        exact ⟨rfl, hup⟩

end Go.Proofs.Ytblgiojmodoilaa.Cal
