/- CalendarBirthdays: ages rise on birthdays. -/
import Derived.Test.YtblgiojmodoilaaWhole
import Derived.OpenShut
namespace Go.Proofs.Ytblgiojmodoilaa.Cal
open Go.RowKit Go.Shelf

set_option maxRecDepth 100000 in
set_option maxHeartbeats 4000000 in
theorem birth10_late (x b y m : Int) (w : World) (hy : 0 ≤ y ∧ y ≤ 255) (hm : y % 179 = m) (_hm2 : 0 ≤ m ∧ m < 179)
    (P1 : Hid (∀ w, Calls Try.prog 28 #[.int .i64 x, .int .i64 65536] w fun e w' => e = .returned (.int .i64 b) ∧ w = w'))
    (H1 : Hid (∀ w, Calls Try.prog 29 #[.int .i64 b, .int .i64 (12 * (1 + m))] w fun e w' => e = .returned (.tuple #[.int .i64 0, .int .i64 30]) ∧ Up w w')) :
    Calls Try.prog 10 #[.int .i64 x, .int .u8 y] w fun e w' => e = .returned (.bool true) ∧ Up w w' := by
  go_enter Try.func10, Try.ntmps10
  go_wp2_with fail
  refine (awake21 _).mono ?_
  rintro e w1 ⟨rfl, u1⟩
  go_wp2_with fail
  refine (P1.out _).mono ?_
  rintro e w2 ⟨rfl, rfl⟩
  go_wp2_with fail
  refine (H1.out _).mono ?_
  rintro e w2 ⟨rfl, u2⟩
  go_wp2_with fail
  go_ret
  exact ⟨rfl, u1.trans u2⟩

set_option maxRecDepth 100000 in
set_option maxHeartbeats 4000000 in
theorem birth10_ok (x b y m D : Int) (w : World) (hy : 0 ≤ y ∧ y ≤ 255) (hm : y % 179 = m) (_hm2 : 0 ≤ m ∧ m < 179) (hq : ((m : Int) == 1 + m - 1) = true) (hb : 0 ≤ b ∧ b < D) (hD : D < 65536)
    (P1 : Hid (∀ w, Calls Try.prog 28 #[.int .i64 x, .int .i64 65536] w fun e w' => e = .returned (.int .i64 b) ∧ w = w'))
    (H1 : Hid (∀ w, Calls Try.prog 29 #[.int .i64 b, .int .i64 (12 * (1 + m))] w fun e w' => e = .returned (.tuple #[.int .i64 D, .int .i64 0]) ∧ Up w w'))
    (H2 : Hid (∀ w, Calls Try.prog 31 #[.int .i64 b, .int .i64 D] w fun e w' => e = .returned (.tuple #[.int .i64 (1 + m), .int .i64 0]) ∧ Up w w'))
    (H3 : Hid (∀ w, Calls Try.prog 31 #[.int .i64 b, .int .i64 (D - 1)] w fun e w' => e = .returned (.tuple #[.int .i64 m, .int .i64 0]) ∧ Up w w'))
    (H4 : Hid (∀ w, Calls Try.prog 31 #[.int .i64 b, .int .i64 b] w fun e w' => e = .returned (.tuple #[.int .i64 0, .int .i64 0]) ∧ Up w w'))
    (H5 : Hid (∀ w, Calls Try.prog 31 #[.int .i64 D, .int .i64 b] w fun e w' => e = .returned (.tuple #[.int .i64 0, .int .i64 2]) ∧ Up w w')) :
    Calls Try.prog 10 #[.int .i64 x, .int .u8 y] w fun e w' => e = .returned (.bool true) ∧ Up w w' := by
  have HQ := Lib.hid hq
  clear hq
  go_enter Try.func10, Try.ntmps10
  go_wp2_with fail
  refine (awake21 _).mono ?_
  rintro e w1 ⟨rfl, u1⟩
  go_wp2_with fail
  refine (P1.out _).mono ?_
  rintro e w2 ⟨rfl, rfl⟩
  go_wp2_with fail
  refine (H1.out _).mono ?_
  rintro e w2 ⟨rfl, u2⟩
  go_wp2_with fail
  refine (H2.out _).mono ?_
  rintro e w3 ⟨rfl, u3⟩
  go_wp2_with fail
  refine (H3.out _).mono ?_
  rintro e w4 ⟨rfl, u4⟩
  go_wp2_with fail
  refine (H4.out _).mono ?_
  rintro e w5 ⟨rfl, u5⟩
  go_wp2_with fail
  refine (H5.out _).mono ?_
  rintro e w6 ⟨rfl, u6⟩
  have hq := HQ.out
  go_wp2_with fail
  go_ret
  exact ⟨rfl, u1.trans <| u2.trans <| u3.trans <| u4.trans <| u5.trans u6⟩

theorem birth10 (x y : Int) (w : World) (hy : 0 ≤ y ∧ y ≤ 255) : Calls Try.prog 10 #[.int .i64 x, .int .u8 y] w fun e w' => e = .returned (.bool true) ∧ Up w w' := by
  have hx0 := Int.emod_nonneg x (show (65536 : Int) ≠ 0 by decide)
  have hx1 := Int.emod_lt_of_pos x (show (0 : Int) < 65536 by decide)
  have P1 := Lib.hid (fun w => pick28 x 65536 w (by omega) (by omega))
  generalize x % 65536 = b at *
  obtain ⟨m, hm⟩ : ∃ m : Nat, y % 179 = (m : Int) := ⟨(y % 179).toNat, by omega⟩
  have hk : 12 * (1 + y % 179) = ((12 * (m + 1) : Nat) : Int) := by omega
  have hk2 : 12 * (1 + y % 179) = ((12 * m + 11 + 1 : Nat) : Int) := by omega
  cases hB : addB b (12 * (1 + y % 179))
  · have hv : addV b (12 * (1 + y % 179)) = 0 ∧ addE b (12 * (1 + y % 179)) = 30 := by simp [addV, addE, dateB_true hx0 hx1, hB]
    exact birth10_late x b y _ w hy rfl (by omega) P1 (Lib.hid (fun w => d29_is hv w))
  · have hv : addV b (12 * (1 + y % 179)) = addN b (12 * (1 + y % 179)) ∧ addE b (12 * (1 + y % 179)) = 0 := by simp [addV, addE, dateB_true hx0 hx1, hB]
    obtain ⟨z0, z1, z2, z3⟩ := add_parts b _ hx0 hx1 hB
    have e1 : addN b (12 * (1 + y % 179)) = addN b ((12 * m + 11 + 1 : Nat) : Int) := by rw [← hk2]
    have l1 := addN_lt b (12 * m + 11) hx0 hx1
    have l2 := addN_lt b (12 * m + 11 + 1) hx0 hx1
    have l0 := addN_ge b (12 * m + 11) hx0 hx1
    have b1 : bw b (addN b (12 * (1 + y % 179))) = 12 * m + 11 + 1 := bw_uniq _ _ _ hx0 (by omega) z1 (by omega) (by omega)
    have b2 : bw b (addN b (12 * (1 + y % 179)) - 1) = 12 * m + 11 := bw_uniq _ _ _ hx0 (by omega) (by omega) (by omega) (by omega)
    have b3 := bw_self b hx0 hx1
    obtain ⟨_, _, _, _, a1, a2⟩ := bw_pair b (addN b (12 * (1 + y % 179))) hx0 (by omega) z1
    obtain ⟨_, _, _, _, a3, a4⟩ := bw_pair b (addN b (12 * (1 + y % 179)) - 1) hx0 (by omega) (by omega)
    obtain ⟨_, _, _, _, a5, a6⟩ := bw_pair b b hx0 (by omega) hx1
    rw [b1] at a1; rw [b2] at a3; rw [b3] at a5
    have a7 : ageV (addN b (12 * (1 + y % 179))) b = 0 ∧ ageE (addN b (12 * (1 + y % 179))) b = 2 := by
      rw [ageV, ageE, if_pos (by omega), if_pos (by omega)]; exact ⟨rfl, rfl⟩
    refine birth10_ok x b y _ (addN b (12 * (1 + y % 179))) w hy rfl (by omega) (beq_iff_eq.2 (by omega)) ⟨hx0, by omega⟩ z1 P1 (Lib.hid (fun w => d29_is hv w)) (Lib.hid (fun w => d31_is ⟨?_, a2⟩ w)) (Lib.hid (fun w => d31_is ⟨?_, a4⟩ w)) (Lib.hid (fun w => d31_is ⟨?_, a6⟩ w)) (Lib.hid (fun w => d31_is a7 w))
    · rw [a1]; omega
    · rw [a3]; omega
    · rw [a5]; rfl

theorem birth_any (x y : Int) (w : World) (_ : (Lit.int .i64 x).wf = true) (wy : (Lit.int .u8 y).wf = true) :
    Calls Try.prog 10 #[.int .i64 x, .int .u8 y] w fun e w' => e = .returned (.bool true) ∧ Below w.heap.size w w' := by
  exact birth10 x y w (bounds_u8 wy)

end Go.Proofs.Ytblgiojmodoilaa.Cal
