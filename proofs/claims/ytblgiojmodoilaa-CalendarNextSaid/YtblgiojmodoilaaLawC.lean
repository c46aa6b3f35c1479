/- CalendarNext: the walk of a day that is not the first one, in three cases. -/
import Derived.Test.YtblgiojmodoilaaLawB
namespace Go.Proofs.Ytblgiojmodoilaa.Cal
open Go.RowKit Go.Shelf

set_option maxRecDepth 100000 in
set_option maxHeartbeats 4000000 in
theorem next6_a (d Y M D N L : Int) (w : World) (h0 : 1 ≤ d) (h1 : d < 65536) (_hY : 1900 ≤ Y ∧ Y ≤ 2079) (hM : 1 ≤ M ∧ M ≤ 12) (hD : 1 ≤ D ∧ D ≤ 31) (_hN : 0 ≤ N ∧ N < 2154) (hL : D ≤ L ∧ L ≤ 31) (hc : 1 < D)
    (H1 : Hid (∀ w, Calls Try.prog 24 #[.int .i64 d] w fun e w' => e = .returned (.tuple #[.int .i64 Y, .int .i64 M, .int .i64 D, .int .i64 0]) ∧ Up w w'))
    (H2 : Hid (∀ w, Calls Try.prog 25 #[.int .i64 d] w fun e w' => e = .returned (.tuple #[.int .i64 (d % 7 + 1), .int .i64 0]) ∧ w = w'))
    (H3 : Hid (∀ w, Calls Try.prog 26 #[.int .i64 d] w fun e w' => e = .returned (.tuple #[.int .i64 N, .int .i64 0]) ∧ Up w w'))
    (H4 : Hid (∀ w, Calls Try.prog 15 #[.int .i64 Y, .int .i64 M, .int .i64 D] w fun e w' => e = .returned (.tuple #[.int .i64 d, .int .i64 0]) ∧ Up w w'))
    (H5 : Hid (∀ w, Calls Try.prog 27 #[.int .i64 N] w fun e w' => e = .returned (.tuple #[.int .i64 (d - D + 1), .int .i64 0]) ∧ Up w w'))
    (H6 : Hid (∀ w, Calls Try.prog 19 #[.int .i64 Y, .int .i64 M] w fun e w' => e = .returned (.int .i64 L) ∧ Up w w'))
    (K2 : Hid (∀ w, Calls Try.prog 25 #[.int .i64 (d - 1)] w fun e w' => e = .returned (.tuple #[.int .i64 ((d - 1) % 7 + 1), .int .i64 0]) ∧ w = w'))
    (K1 : Hid (∀ w, Calls Try.prog 24 #[.int .i64 (d - 1)] w fun e w' => e = .returned (.tuple #[.int .i64 (Y), .int .i64 (M), .int .i64 (D - 1), .int .i64 0]) ∧ Up w w'))
    (K3 : Hid (∀ w, Calls Try.prog 26 #[.int .i64 (d - 1)] w fun e w' => e = .returned (.tuple #[.int .i64 (N), .int .i64 0]) ∧ Up w w')) :
    Calls Try.prog 6 #[.int .i64 d] w fun e w' => e = .returned (.bool true) ∧ Up w w' := by
  go_enter Try.func6, Try.ntmps6
  go_wp2_with fail
  refine (awake21 _).mono ?_
  rintro e w1 ⟨rfl, u1⟩
  go_wp2_with fail
  refine (H1.out _).mono ?_
  rintro e w2 ⟨rfl, u2⟩
  go_wp2_with fail
  refine (H2.out _).mono ?_
  rintro e w3 ⟨rfl, rfl⟩
  go_wp2_with fail
  refine (H3.out _).mono ?_
  rintro e w3 ⟨rfl, u3⟩
  go_wp2_with fail
  refine (H4.out _).mono ?_
  rintro e w4 ⟨rfl, u4⟩
  go_wp2_with fail
  refine (H5.out _).mono ?_
  rintro e w5 ⟨rfl, u5⟩
  go_wp2_with fail
  refine (H6.out _).mono ?_
  rintro e w6 ⟨rfl, u6⟩
  go_wp2_with fail
  refine (K1.out _).mono ?_
  rintro e w7 ⟨rfl, u7⟩
  go_wp2_with fail
  refine (K2.out _).mono ?_
  rintro e w8 ⟨rfl, rfl⟩
  go_wp2_with fail
  refine (K3.out _).mono ?_
  rintro e w8 ⟨rfl, u8⟩
  go_wp2_with fail
  go_ret
  exact ⟨rfl, u1.trans <| u2.trans <| u3.trans <| u4.trans <| u5.trans <| u6.trans <| u7.trans u8⟩

set_option maxRecDepth 100000 in
set_option maxHeartbeats 4000000 in
theorem next6_b (d Y M D N L : Int) (w : World) (h0 : 1 ≤ d) (h1 : d < 65536) (_hY : 1900 ≤ Y ∧ Y ≤ 2079) (hM : 1 ≤ M ∧ M ≤ 12) (hD : 1 ≤ D ∧ D ≤ 31) (_hN : 0 ≤ N ∧ N < 2154) (hL : D ≤ L ∧ L ≤ 31) (hc : D < 2) (hc2 : 1 < M) (L2 : Int)
    (H1 : Hid (∀ w, Calls Try.prog 24 #[.int .i64 d] w fun e w' => e = .returned (.tuple #[.int .i64 Y, .int .i64 M, .int .i64 D, .int .i64 0]) ∧ Up w w'))
    (H2 : Hid (∀ w, Calls Try.prog 25 #[.int .i64 d] w fun e w' => e = .returned (.tuple #[.int .i64 (d % 7 + 1), .int .i64 0]) ∧ w = w'))
    (H3 : Hid (∀ w, Calls Try.prog 26 #[.int .i64 d] w fun e w' => e = .returned (.tuple #[.int .i64 N, .int .i64 0]) ∧ Up w w'))
    (H4 : Hid (∀ w, Calls Try.prog 15 #[.int .i64 Y, .int .i64 M, .int .i64 D] w fun e w' => e = .returned (.tuple #[.int .i64 d, .int .i64 0]) ∧ Up w w'))
    (H5 : Hid (∀ w, Calls Try.prog 27 #[.int .i64 N] w fun e w' => e = .returned (.tuple #[.int .i64 (d - D + 1), .int .i64 0]) ∧ Up w w'))
    (H6 : Hid (∀ w, Calls Try.prog 19 #[.int .i64 Y, .int .i64 M] w fun e w' => e = .returned (.int .i64 L) ∧ Up w w'))
    (K2 : Hid (∀ w, Calls Try.prog 25 #[.int .i64 (d - 1)] w fun e w' => e = .returned (.tuple #[.int .i64 ((d - 1) % 7 + 1), .int .i64 0]) ∧ w = w'))
    (K4 : Hid (∀ w, Calls Try.prog 19 #[.int .i64 Y, .int .i64 (M - 1)] w fun e w' => e = .returned (.int .i64 L2) ∧ Up w w'))
    (K1 : Hid (∀ w, Calls Try.prog 24 #[.int .i64 (d - 1)] w fun e w' => e = .returned (.tuple #[.int .i64 (Y), .int .i64 (M - 1), .int .i64 (L2), .int .i64 0]) ∧ Up w w'))
    (K3 : Hid (∀ w, Calls Try.prog 26 #[.int .i64 (d - 1)] w fun e w' => e = .returned (.tuple #[.int .i64 (N - 1), .int .i64 0]) ∧ Up w w')) :
    Calls Try.prog 6 #[.int .i64 d] w fun e w' => e = .returned (.bool true) ∧ Up w w' := by
  go_enter Try.func6, Try.ntmps6
  go_wp2_with fail
  refine (awake21 _).mono ?_
  rintro e w1 ⟨rfl, u1⟩
  go_wp2_with fail
  refine (H1.out _).mono ?_
  rintro e w2 ⟨rfl, u2⟩
  go_wp2_with fail
  refine (H2.out _).mono ?_
  rintro e w3 ⟨rfl, rfl⟩
  go_wp2_with fail
  refine (H3.out _).mono ?_
  rintro e w3 ⟨rfl, u3⟩
  go_wp2_with fail
  refine (H4.out _).mono ?_
  rintro e w4 ⟨rfl, u4⟩
  go_wp2_with fail
  refine (H5.out _).mono ?_
  rintro e w5 ⟨rfl, u5⟩
  go_wp2_with fail
  refine (H6.out _).mono ?_
  rintro e w6 ⟨rfl, u6⟩
  go_wp2_with fail
  refine (K1.out _).mono ?_
  rintro e w7 ⟨rfl, u7⟩
  go_wp2_with fail
  refine (K2.out _).mono ?_
  rintro e w8 ⟨rfl, rfl⟩
  go_wp2_with fail
  refine (K3.out _).mono ?_
  rintro e w8 ⟨rfl, u8⟩
  go_wp2_with fail
  refine (K4.out _).mono ?_
  rintro e w9 ⟨rfl, u9⟩
  go_wp2_with fail
  go_ret
  exact ⟨rfl, u1.trans <| u2.trans <| u3.trans <| u4.trans <| u5.trans <| u6.trans <| u7.trans <| u8.trans u9⟩

set_option maxRecDepth 100000 in
set_option maxHeartbeats 4000000 in
theorem next6_c (d Y M D N L : Int) (w : World) (h0 : 1 ≤ d) (h1 : d < 65536) (_hY : 1900 ≤ Y ∧ Y ≤ 2079) (hM : 1 ≤ M ∧ M ≤ 12) (hD : 1 ≤ D ∧ D ≤ 31) (_hN : 0 ≤ N ∧ N < 2154) (hL : D ≤ L ∧ L ≤ 31) (hc : D < 2) (hc2 : M < 2)
    (H1 : Hid (∀ w, Calls Try.prog 24 #[.int .i64 d] w fun e w' => e = .returned (.tuple #[.int .i64 Y, .int .i64 M, .int .i64 D, .int .i64 0]) ∧ Up w w'))
    (H2 : Hid (∀ w, Calls Try.prog 25 #[.int .i64 d] w fun e w' => e = .returned (.tuple #[.int .i64 (d % 7 + 1), .int .i64 0]) ∧ w = w'))
    (H3 : Hid (∀ w, Calls Try.prog 26 #[.int .i64 d] w fun e w' => e = .returned (.tuple #[.int .i64 N, .int .i64 0]) ∧ Up w w'))
    (H4 : Hid (∀ w, Calls Try.prog 15 #[.int .i64 Y, .int .i64 M, .int .i64 D] w fun e w' => e = .returned (.tuple #[.int .i64 d, .int .i64 0]) ∧ Up w w'))
    (H5 : Hid (∀ w, Calls Try.prog 27 #[.int .i64 N] w fun e w' => e = .returned (.tuple #[.int .i64 (d - D + 1), .int .i64 0]) ∧ Up w w'))
    (H6 : Hid (∀ w, Calls Try.prog 19 #[.int .i64 Y, .int .i64 M] w fun e w' => e = .returned (.int .i64 L) ∧ Up w w'))
    (K2 : Hid (∀ w, Calls Try.prog 25 #[.int .i64 (d - 1)] w fun e w' => e = .returned (.tuple #[.int .i64 ((d - 1) % 7 + 1), .int .i64 0]) ∧ w = w'))
    (K1 : Hid (∀ w, Calls Try.prog 24 #[.int .i64 (d - 1)] w fun e w' => e = .returned (.tuple #[.int .i64 (Y - 1), .int .i64 (12), .int .i64 (31), .int .i64 0]) ∧ Up w w'))
    (K3 : Hid (∀ w, Calls Try.prog 26 #[.int .i64 (d - 1)] w fun e w' => e = .returned (.tuple #[.int .i64 (N - 1), .int .i64 0]) ∧ Up w w')) :
    Calls Try.prog 6 #[.int .i64 d] w fun e w' => e = .returned (.bool true) ∧ Up w w' := by
  go_enter Try.func6, Try.ntmps6
  go_wp2_with fail
  refine (awake21 _).mono ?_
  rintro e w1 ⟨rfl, u1⟩
  go_wp2_with fail
  refine (H1.out _).mono ?_
  rintro e w2 ⟨rfl, u2⟩
  go_wp2_with fail
  refine (H2.out _).mono ?_
  rintro e w3 ⟨rfl, rfl⟩
  go_wp2_with fail
  refine (H3.out _).mono ?_
  rintro e w3 ⟨rfl, u3⟩
  go_wp2_with fail
  refine (H4.out _).mono ?_
  rintro e w4 ⟨rfl, u4⟩
  go_wp2_with fail
  refine (H5.out _).mono ?_
  rintro e w5 ⟨rfl, u5⟩
  go_wp2_with fail
  refine (H6.out _).mono ?_
  rintro e w6 ⟨rfl, u6⟩
  go_wp2_with fail
  refine (K1.out _).mono ?_
  rintro e w7 ⟨rfl, u7⟩
  go_wp2_with fail
  refine (K2.out _).mono ?_
  rintro e w8 ⟨rfl, rfl⟩
  go_wp2_with fail
  refine (K3.out _).mono ?_
  rintro e w8 ⟨rfl, u8⟩
  go_wp2_with fail
  go_ret
  exact ⟨rfl, u1.trans <| u2.trans <| u3.trans <| u4.trans <| u5.trans <| u6.trans <| u7.trans u8⟩

theorem next6 (d : Int) (w : World) : Calls Try.prog 6 #[.int .i64 d] w fun e w' => e = .returned (.bool true) ∧ Up w w' := by
  by_cases hin : 0 ≤ d ∧ d < 65536
  · obtain ⟨h0, h1⟩ := hin
    by_cases hz : d = 0
    · subst hz; exact next6_zero w
    · obtain ⟨p1, p2, p3, p4, p5, p6⟩ := parts_yes h0 h1
      obtain ⟨q1, q2, q3⟩ := day_ymd h0 h1
      obtain ⟨r1, r2⟩ := first_mo h0 h1
      obtain ⟨s1, s2, s3, s4, s5, s6⟩ := parts_yes (d := d - 1) (by omega) (by omega)
      have hy := yZ_bd d h1
      have hm := mZ_bd d
      have hd := dZ_bd d h0 h1
      have hn := moZ_bd d h1
      have hl := lenZ_bd (yZ d) (mZ d)
      have H1 := Lib.hid (fun w => y24_is ⟨p1, p2, p3, p4⟩ w)
      have H2 := Lib.hid (fun w => d25_is ⟨p6, p4⟩ w)
      have H3 := Lib.hid (fun w => d26_is ⟨p5, p4⟩ w)
      have H4 := Lib.hid (fun w => d15_is ⟨q1, q2⟩ w)
      have H5 := Lib.hid (fun w => d27_is ⟨r1, r2⟩ w)
      have H6 := Lib.hid (fun w => len19 (yZ d) (mZ d) w)
      have K2 := Lib.hid (fun w => d25_is ⟨s6, s4⟩ w)
      have ey : yZ d = 1900 + moZ d / 12 := rfl
      have em : mZ d = moZ d % 12 + 1 := rfl
      have ey2 : yZ (d - 1) = 1900 + moZ (d - 1) / 12 := rfl
      have em2 : mZ (d - 1) = moZ (d - 1) % 12 + 1 := rfl
      by_cases hc : 1 < dZ d
      · obtain ⟨t1, t2⟩ := prev_same (by omega) h1 hc
        exact next6_a d (yZ d) (mZ d) (dZ d) (moZ d) _ w (by omega) h1 hy hm hd hn ⟨q3, hl.2⟩ hc H1 H2 H3 H4 H5 H6 K2
          (Lib.hid (fun w => y24_is ⟨by rw [s1]; omega, by rw [s2]; omega, by rw [s3, t2], s4⟩ w)) (Lib.hid (fun w => d26_is ⟨by rw [s5, t1], s4⟩ w))
      · obtain ⟨t0, t1, t2⟩ := prev_first (by omega) h1 (by omega)
        by_cases hc2 : 1 < mZ d
        · rw [show 1900 + (moZ d - 1) / 12 = yZ d by omega, show (moZ d - 1) % 12 + 1 = mZ d - 1 by omega] at t2
          exact next6_b d (yZ d) (mZ d) (dZ d) (moZ d) _ w (by omega) h1 hy hm hd hn ⟨q3, hl.2⟩ (by omega) hc2 _ H1 H2 H3 H4 H5 H6 K2
            (Lib.hid (fun w => len19 (yZ d) (mZ d - 1) w))
            (Lib.hid (fun w => y24_is ⟨by rw [s1]; omega, by rw [s2]; omega, by rw [s3, t2], s4⟩ w)) (Lib.hid (fun w => d26_is ⟨by rw [s5, t1], s4⟩ w))
        · rw [show (moZ d - 1) % 12 + 1 = 12 by omega, len_dec] at t2
          exact next6_c d (yZ d) (mZ d) (dZ d) (moZ d) _ w (by omega) h1 hy hm hd hn ⟨q3, hl.2⟩ (by omega) (by omega) H1 H2 H3 H4 H5 H6 K2
            (Lib.hid (fun w => y24_is ⟨by rw [s1]; omega, by rw [s2]; omega, by rw [s3, t2], s4⟩ w)) (Lib.hid (fun w => d26_is ⟨by rw [s5, t1], s4⟩ w))
  · exact next6_no d w (by omega)

theorem next_any (d : Int) (w : World) (_ : (Lit.int .i64 d).wf = true) :
    Calls Try.prog 6 #[.int .i64 d] w fun e w' => e = .returned (.bool true) ∧ Below w.heap.size w w' := next6 d w

end Go.Proofs.Ytblgiojmodoilaa.Cal
