/- CalendarYears: leap years come round after 400 years. -/
import Derived.Test.YtblgiojmodoilaaLawA
namespace Go.Proofs.Ytblgiojmodoilaa.Cal
open Go.RowKit Go.Shelf

def lp (y : Int) : Nat := if leapB y = true then 1 else 0
/-- Leap years among the n years from f on. -/
def cntL (f : Int) : Nat → Nat
  | 0 => 0
  | n + 1 => cntL f n + lp (f + (n : Int))

theorem leap_400 (y : Int) : leapB (y + 400) = leapB y := by
  rw [Bool.eq_iff_iff, leapB_iff, leapB_iff]; omega
theorem lp_400 (y : Int) : lp (y + 400) = lp y := by unfold lp; rw [leap_400]

theorem cntL_shift (f : Int) (n : Nat) : cntL f (n + 1) = lp f + cntL (f + 1) n := by
  induction n with
  | zero => simp [cntL]
  | succ n ih =>
    rw [show cntL f (n + 1 + 1) = cntL f (n + 1) + lp (f + ((n + 1 : Nat) : Int)) from rfl, ih, show cntL (f + 1) (n + 1) = cntL (f + 1) n + lp (f + 1 + (n : Int)) from rfl,
      show f + ((n + 1 : Nat) : Int) = f + 1 + (n : Int) by omega]
    omega

theorem cntL_next (f : Int) : cntL (f + 1) 400 = cntL f 400 := by
  have h1 := cntL_shift f 400
  have h2 : cntL f (400 + 1) = cntL f 400 + lp (f + ((400 : Nat) : Int)) := rfl
  have h3 := lp_400 f
  rw [show f + ((400 : Nat) : Int) = f + 400 from rfl] at h2
  omega

theorem cntL_up (f : Int) (n : Nat) : cntL (f + (n : Int)) 400 = cntL f 400 := by
  induction n with
  | zero => simp
  | succ n ih => rw [show f + ((n + 1 : Nat) : Int) = f + (n : Int) + 1 by omega, cntL_next, ih]

theorem cntL_zero : cntL 0 400 = 97 := by decide +kernel

theorem cntL_97 (f : Int) : cntL f 400 = 97 := by
  by_cases h : 0 ≤ f
  · have := cntL_up 0 f.toNat
    rw [show 0 + (f.toNat : Int) = f by omega] at this
    rw [this, cntL_zero]
  · have := cntL_up f (-f).toNat
    rw [show f + ((-f).toNat : Int) = 0 by omega] at this
    rw [← this, cntL_zero]

theorem cntL_bd (f : Int) (n : Nat) : cntL f n ≤ n := by
  induction n with
  | zero => simp [cntL]
  | succ n ih =>
    have : lp (f + (n : Int)) ≤ 1 := by unfold lp; split <;> omega
    show cntL f n + lp (f + (n : Int)) ≤ n + 1
    omega

/-- The days of the months below i, month 0 among them. -/
def cumM (y : Int) : Nat → Int
  | 0 => 0
  | i + 1 => cumM y i + lenZ y (i : Int)

theorem cumM_bd (y : Int) (i : Nat) : 0 ≤ cumM y i ∧ cumM y i ≤ 31 * i := by
  induction i with
  | zero => simp [cumM]
  | succ i ih => have := lenZ_bd y (i : Int); simp only [cumM]; omega

theorem cumM_14 (y : Int) : cumM y 14 = 365 + (lp y : Int) := by
  simp only [cumM, lenZ, lp]
  cases leapB y <;> simp

def YearsRel (f : Int) (w : World) (c y : Value) (wr : World) : Prop := ∃ j : Nat, j ≤ 400 ∧ y = .int .i64 (f + (j : Int)) ∧ c = .int .i64 (cntL f j : Int) ∧ Up w wr
def MonthsRel (y : Int) (w : World) (d m : Value) (wr : World) : Prop := ∃ i : Nat, i ≤ 14 ∧ m = .int .i64 (i : Int) ∧ d = .int .i64 (cumM y i) ∧ Up w wr

theorem leap17_is (y : Int) (b : Bool) (h : leapB y = b) (w : World) : Calls Try.prog 17 #[.int .i64 y] w fun e w' => e = .returned (.bool b) ∧ w = w' := by
  rw [← h]; exact leap17 y w
theorem leap17_400 (y z : Int) (b : Bool) (h : leapB y = b) (hz : z = y + 400) (w : World) : Calls Try.prog 17 #[.int .i64 z] w fun e w' => e = .returned (.bool b) ∧ w = w' := by
  rw [← h, ← leap_400, ← hz]; exact leap17 z w

set_option maxRecDepth 100000 in
set_option maxHeartbeats 4000000 in
theorem years7 (x : Int) (w : World) : Calls Try.prog 7 #[.int .i64 x] w fun e w' => e = .returned (.bool true) ∧ Up w w' := by
  have hx0 := Int.emod_nonneg x (show (200001 : Int) ≠ 0 by decide)
  have hx1 := Int.emod_lt_of_pos x (show (0 : Int) < 200001 by decide)
  have HP := Lib.hid (fun w => pick28 x 200001 w (by decide) (by decide))
  generalize x % 200001 = p at *
  obtain ⟨f, hf⟩ : ∃ f, f = p - 100000 := ⟨_, rfl⟩
  obtain rfl : p = f + 100000 := by omega
  clear hf
  go_enter Try.func7, Try.ntmps7
  go_wp2_with fail
  refine (awake21 _).mono ?_
  rintro e w1 ⟨rfl, u1⟩
  go_wp2_with fail
  refine (HP.out _).mono ?_
  rintro e w2 ⟨rfl, rfl⟩
  go_wp2_with fail
  go_loopw [3, 4] (YearsRel f w) (fun _ y _ => (f + 400 - intOf y).toNat)
  case atStart => exact ⟨0, by omega, by simp, rfl, u1⟩
  case round =>
    obtain ⟨j, hj, rfl, rfl, hup⟩ := hrel
    have hcb := cntL_bd f j
    by_cases hlt : j < 400
    · obtain ⟨wo, rfl⟩ : ∃ wo : World, wo = wr := ⟨_, rfl⟩
      have hdj : decide ((j : Int) < 400) = true := decide_eq_true (by omega)
      go_wp2_with fail
      go_loopw [5, 6] (MonthsRel (f + (j : Int)) wo) (fun _ m _ => (14 - intOf m).toNat)
      case atStart => exact ⟨0, by omega, rfl, rfl, Up.refl _⟩
      case round =>
        obtain ⟨i, hi, rfl, rfl, hup2⟩ := hrel
        have hb := cumM_bd (f + (j : Int)) i
        by_cases hlt2 : i < 14
        · have hlb := lenZ_bd (f + (j : Int)) (i : Int)
          go_wp2_with (go_at_call 19; refine (len19 _ _ _).mono ?_; rintro e w' ⟨rfl, hup3⟩)
          go_roundw
          case rel => exact ⟨i + 1, by omega, by go_num, rfl, hup2.trans hup3⟩
          case measure => simp [intOf]; omega
        · obtain rfl : i = 14 := by omega
          have h14 := cumM_14 (f + (j : Int))
          have hnx : cntL f (j + 1) = cntL f j + lp (f + (j : Int)) := rfl
          cases hL : leapB (f + (j : Int))
          · have e1 : lp (f + (j : Int)) = 0 := by unfold lp; rw [hL]; rfl
            rw [e1] at h14 hnx
            have H1 := Lib.hid (leap17_is (f + (j : Int)) false hL)
            have H2 := Lib.hid (leap17_400 (f + (j : Int)) (f + (j : Int) + 400) false hL rfl)
            have HN := Lib.hid hnx
            rw [h14] at hb ⊢
            clear h14 hnx hL e1
            go_wp2_with fail
            refine (H1.out _).mono ?_
            rintro e w3 ⟨rfl, rfl⟩
            go_wp2_with fail
            refine (H1.out _).mono ?_
            rintro e w3 ⟨rfl, rfl⟩
            go_wp2_with fail
            refine (H2.out _).mono ?_
            rintro e w3 ⟨rfl, rfl⟩
            go_wp2_with fail
            refine (H1.out _).mono ?_
            rintro e w3 ⟨rfl, rfl⟩
            go_wp2_with fail
            go_roundw
            case rel => exact ⟨j + 1, by omega, int_eq (by omega), int_eq (by rw [HN.out]; omega), hup.trans hup2⟩
            case measure => simp [intOf]; omega
          · have e1 : lp (f + (j : Int)) = 1 := by unfold lp; rw [hL]; rfl
            rw [e1] at h14 hnx
            have H1 := Lib.hid (leap17_is (f + (j : Int)) true hL)
            have H2 := Lib.hid (leap17_400 (f + (j : Int)) (f + (j : Int) + 400) true hL rfl)
            have HN := Lib.hid hnx
            have ht : (f + (j : Int)).tmod 4 = 0 := by
              have h1 := (leapB_iff (f + (j : Int))).1 hL
              exact (tmod_zero _ 4 (by decide)).2 h1.1
            rw [h14] at hb ⊢
            clear h14 hnx hL e1
            go_wp2_with fail
            refine (H1.out _).mono ?_
            rintro e w3 ⟨rfl, rfl⟩
            go_wp2_with fail
            refine (H1.out _).mono ?_
            rintro e w3 ⟨rfl, rfl⟩
            go_wp2_with fail
            refine (H2.out _).mono ?_
            rintro e w3 ⟨rfl, rfl⟩
            go_wp2_with fail
            refine (H1.out _).mono ?_
            rintro e w3 ⟨rfl, rfl⟩
            go_wp2_with fail
            go_roundw
            case rel => exact ⟨j + 1, by omega, int_eq (by omega), int_eq (by rw [HN.out]; omega), hup.trans hup2⟩
            case measure => simp [intOf]; omega
    · obtain rfl : j = 400 := by omega
      have h97 := cntL_97 f
      rw [h97]
      clear hcb h97
      go_wp2_with fail
      go_ret
      exact ⟨rfl, hup⟩

theorem years_any (x : Int) (w : World) (_ : (Lit.int .i64 x).wf = true) :
    Calls Try.prog 7 #[.int .i64 x] w fun e w' => e = .returned (.bool true) ∧ Below w.heap.size w w' := years7 x w

end Go.Proofs.Ytblgiojmodoilaa.Cal
