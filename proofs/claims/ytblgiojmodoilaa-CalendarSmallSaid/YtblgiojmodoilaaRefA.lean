/- Contracts of the reference: Day, YMD, Month, First. -/
import Derived.Test.YtblgiojmodoilaaWalkG
namespace Go.Proofs.Ytblgiojmodoilaa.Cal
open Go.RowKit Go.Shelf

theorem leap18_is (y : Int) (b : Bool) (w : World) (h : leapB y = b) : Calls Try.prog 18 #[.int .i64 y] w fun e w' => e = .returned (.bool b) ∧ w = w' := by
  rw [← h]; exact leap18 y w
theorem len20_is (y m l : Int) (w : World) (h : lenZ y m = l) : Calls Try.prog 20 #[.int .i64 y, .int .i64 m] w fun e w' => e = .returned (.int .i64 l) ∧ w = w' := by
  rw [← h]; exact len20 y m w

/-- The loop over the years: j years are over. -/
def YearRel (Y : Nat) (d : Int) (n k : Value) : Prop := ∃ j : Nat, j ≤ Y ∧ k = .int .i64 (1900 + (j : Int)) ∧ n = .int .i64 (d - 1 + (st (12 * j) : Int))
/-- The loop over the months: j months are over. -/
def MonthRel (Y M : Nat) (d : Int) (n k : Value) : Prop := ∃ j : Nat, j ≤ M ∧ k = .int .i64 ((j : Int) + 1) ∧ n = .int .i64 (d - 1 + (st (12 * Y + j) : Int))

def dOut (n : Int) : Int := if n < 65536 then n else 0
def dErr (n : Int) : Int := if n < 65536 then 0 else 2
theorem dRet_yes {a n : Int} (h : a = n) (hn : n < 65536) : Ending.returned (.tuple #[.int .i64 a, .int .i64 0]) = Ending.returned (.tuple #[.int .i64 (dOut n), .int .i64 (dErr n)]) := by
  rw [dOut, dErr, if_pos hn, if_pos hn, h]
theorem dRet_no {n : Int} (hn : ¬ n < 65536) : Ending.returned (.tuple #[.int .i64 0, .int .i64 2]) = Ending.returned (.tuple #[.int .i64 (dOut n), .int .i64 (dErr n)]) := by
  rw [dOut, dErr, if_neg hn, if_neg hn]

set_option maxHeartbeats 2000000 in
theorem day16_in (Y M : Nat) (d : Int) (w : World) (hY : Y < 180) (hM : M < 12) (h1 : 1 ≤ d) (h2 : d ≤ lenZ (1900 + Y) (M + 1)) :
    Calls Try.prog 16 #[.int .i64 (1900 + (Y : Int)), .int .i64 ((M : Int) + 1), .int .i64 d] w fun e w' =>
      e = .returned (.tuple #[.int .i64 (dOut ((st (12 * Y + M) : Int) + d - 1)), .int .i64 (dErr ((st (12 * Y + M) : Int) + d - 1))]) ∧ w = w' := by
  have hl := lenZ_bd (1900 + Y) (M + 1)
  go_enter Try.func16, Try.ntmps16
  go_wp2_with (go_at_call 20; refine (len20 _ _ _).mono ?_; rintro e w' ⟨rfl, rfl⟩)
  go_loop [8, 9] (YearRel Y d) (fun _ k => (1900 + (Y : Int) - intOf k).toNat)
  case atStart => exact ⟨0, by omega, by simp, by simp [st]⟩
  case round =>
    obtain ⟨j, hj, rfl, rfl⟩ := hrel
    have hs1 := st_bd (12 * j) (by omega)
    by_cases hlt : j < Y
    · have hs2 := st_yearstep j
      cases hL : leapB (1900 + (j : Int))
      · have HL := Lib.hid hL
        rw [hL] at hs2
        have HS : Hid ((st (12 * (j + 1)) : Int) = st (12 * j) + 365) := by rw [hs2]; show _ = _; simp
        clear hL hs2
        go_wp2_with (go_at_call 18; refine (leap18_is _ false _ HL.out).mono ?_; rintro e w' ⟨rfl, rfl⟩)
        go_round
        case rel => exact ⟨j + 1, by omega, by go_num, by rw [HS.out]; go_num⟩
        case measure => simp [intOf]; omega
      · have HL := Lib.hid hL
        rw [hL] at hs2
        have HS : Hid ((st (12 * (j + 1)) : Int) = st (12 * j) + 366) := by rw [hs2]; show _ = _; simp; omega
        clear hL hs2
        go_wp2_with (go_at_call 18; refine (leap18_is _ true _ HL.out).mono ?_; rintro e w' ⟨rfl, rfl⟩)
        go_round
        case rel => exact ⟨j + 1, by omega, by go_num, by rw [HS.out]; go_num⟩
        case measure => simp [intOf]; omega
    · obtain rfl : Y = j := by omega
      go_wp2_with fail
      go_loop [8, 10] (MonthRel Y M d) (fun _ k => ((M : Int) + 1 - intOf k).toNat)
      case atStart => exact ⟨0, by omega, by simp, rfl⟩
      case round =>
        obtain ⟨j, hj2, rfl, rfl⟩ := hrel
        have hs2 := st_bd (12 * Y + j) (by omega)
        by_cases hlt2 : j < M
        · have hz := sz_at Y j (by omega)
          have hzb := sz_bd (12 * Y + j)
          have HZ : Hid (lenZ (1900 + (Y : Int)) ((j : Int) + 1) = (sz (12 * Y + j) : Int)) := hz.symm
          clear hz
          go_wp2_with (go_at_call 20; refine (len20_is _ _ _ _ HZ.out).mono ?_; rintro e w' ⟨rfl, rfl⟩)
          go_round
          case rel => exact ⟨j + 1, by omega, by go_num, by rw [← Nat.add_assoc, st_succ]; go_num⟩
          case measure => simp [intOf]; omega
        · obtain rfl : M = j := by omega
          by_cases ho : (st (12 * Y + M) : Int) + d - 1 < 65536
          · go_wp2_with fail
            go_ret2
            exact ⟨dRet_yes (by omega) (by omega), rfl⟩
          · go_wp2_with fail
            go_ret2
            exact ⟨dRet_no (by omega), rfl⟩

set_option maxHeartbeats 1000000 in
theorem day16_no (y m d : Int) (w : World) (h : y < 1900 ∨ (1900 ≤ y ∧ 2080 ≤ y) ∨ (1900 ≤ y ∧ y < 2080 ∧ m < 1) ∨ (1900 ≤ y ∧ y < 2080 ∧ 1 ≤ m ∧ 12 < m) ∨ (1900 ≤ y ∧ y < 2080 ∧ 1 ≤ m ∧ m ≤ 12 ∧ d < 1) ∨ (1900 ≤ y ∧ y < 2080 ∧ 1 ≤ m ∧ m ≤ 12 ∧ 1 ≤ d ∧ lenZ y m < d)) :
    Calls Try.prog 16 #[.int .i64 y, .int .i64 m, .int .i64 d] w fun e w' => e = .returned (.tuple #[.int .i64 0, .int .i64 2]) ∧ w = w' := by
  rcases h with h | ⟨g1, h⟩ | ⟨g1, g2, h⟩ | ⟨g1, g2, g3, h⟩ | ⟨g1, g2, g3, g4, h⟩ | ⟨g1, g2, g3, g4, g5, h⟩
  all_goals
    go_enter Try.func16, Try.ntmps16
    go_wp2_with (go_at_call 20; refine (len20 _ _ _).mono ?_; rintro e w' ⟨rfl, rfl⟩)
    go_ret2
    exact ⟨rfl, rfl⟩

theorem day16 (y m d : Int) (w : World) :
    Calls Try.prog 16 #[.int .i64 y, .int .i64 m, .int .i64 d] w fun e w' => e = .returned (.tuple #[.int .i64 (dayV y m d), .int .i64 (dayE y m d)]) ∧ w = w' := by
  by_cases hok : 1900 ≤ y ∧ y < 2080 ∧ 1 ≤ d ∧ d ≤ lenZ y m
  · obtain ⟨h1, h2, h3, h4⟩ := hok
    have hm := month_of_len h3 h4
    obtain ⟨Y, rfl⟩ : ∃ Y : Nat, y = 1900 + (Y : Int) := ⟨(y - 1900).toNat, by omega⟩
    obtain ⟨M, rfl⟩ : ∃ M : Nat, m = (M : Int) + 1 := ⟨(m - 1).toNat, by omega⟩
    have h := day16_in Y M d w (by omega) (by omega) h3 h4
    have e : dayN (1900 + (Y : Int)) ((M : Int) + 1) d = (st (12 * Y + M) : Int) + d - 1 := by
      unfold dayN
      rw [show (12 * (1900 + (Y : Int) - 1900) + ((M : Int) + 1) - 1).toNat = 12 * Y + M by omega]
    by_cases h5 : dayN (1900 + (Y : Int)) ((M : Int) + 1) d < 65536
    · rw [dayV, dayE, dayB_true h1 h2 h3 h4 h5, if_pos rfl, if_pos rfl]
      rw [e] at h5 ⊢
      rw [dOut, dErr, if_pos h5, if_pos h5] at h
      exact h
    · rw [dayV, dayE, dayB_false (Or.inr (Or.inr (Or.inr (Or.inr (by omega))))), if_neg (by simp), if_neg (by simp)]
      rw [e] at h5
      rw [dOut, dErr, if_neg h5, if_neg h5] at h
      exact h
  · have hf : dayB y m d = false := dayB_false (by omega)
    rw [dayV, dayE, hf, if_neg (by simp), if_neg (by simp)]
    refine day16_no y m d w ?_
    have := lenZ_out y m
    omega

end Go.Proofs.Ytblgiojmodoilaa.Cal
