/- CalendarLater: the date that is some months later. -/
import Derived.Test.YtblgiojmodoilaaLawB
namespace Go.Proofs.Ytblgiojmodoilaa.Cal
open Go.RowKit Go.Shelf

theorem addN_z (d n : Int) (h0 : 0 ≤ d) (h1 : d < 65536) (_hk : 0 ≤ moZ d + n) : (st (moZ d + n).toNat : Int) ≤ addN d n ∧ addN d n < (st ((moZ d + n).toNat + 1) : Int) := by
  have hb := ddZ_bd d h0 h1
  have hz := sz_bd (moZ d + n).toNat
  rw [st_succ]
  unfold addN
  omega

theorem add_parts (d n : Int) (h0 : 0 ≤ d) (h1 : d < 65536) (hB : addB d n = true) :
    0 ≤ addN d n ∧ addN d n < 65536 ∧ moZ (addN d n) = moZ d + n ∧ dZ (addN d n) = min (dZ d) (lenZ (yZ (addN d n)) (mZ (addN d n))) := by
  unfold addB at hB
  obtain ⟨k0, k1, k2⟩ := of_decide_eq_true hB
  obtain ⟨s1, s2⟩ := addN_z d n h0 h1 k0
  have hmo : mo (addN d n).toNat = (moZ d + n).toNat := mo_eq (by omega) (by omega) (by omega)
  have hM : moZ (addN d n) = moZ d + n := by
    show ((mo (addN d n).toNat : Nat) : Int) = _
    rw [hmo]; omega
  refine ⟨by omega, k2, hM, ?_⟩
  have hz := lenZ_sz (moZ d + n) k0
  have e1 : dZ (addN d n) = addN d n - (st (mo (addN d n).toNat) : Int) + 1 := rfl
  have e2 : yZ (addN d n) = 1900 + moZ (addN d n) / 12 := rfl
  have e3 : mZ (addN d n) = moZ (addN d n) % 12 + 1 := rfl
  rw [e2, e3, hM, hz, e1, hmo]
  unfold addN dZ
  omega

theorem mo_mono {a b : Int} (h : a ≤ b) (_h0 : 0 ≤ a) (h1 : b < 65536) : moZ a ≤ moZ b := by
  have ha := mo_spec a.toNat (by omega)
  have hb := mo_spec b.toNat (by omega)
  unfold moZ
  by_cases e : mo a.toNat ≤ mo b.toNat
  · omega
  · have := st_mono (show mo b.toNat + 1 ≤ mo a.toNat by omega); omega

theorem addN_mono {a b n : Int} (h : a ≤ b) (h0 : 0 ≤ a) (h1 : b < 65536) (hk : 0 ≤ moZ a + n) : addN a n ≤ addN b n := by
  have hm := mo_mono h h0 h1
  by_cases e : moZ a = moZ b
  · have e1 : ddZ a = a - (st (mo a.toNat) : Int) := rfl
    have e2 : ddZ b = b - (st (mo b.toNat) : Int) := rfl
    have e3 : mo a.toNat = mo b.toNat := by unfold moZ at e; omega
    rw [e3] at e1
    unfold addN
    rw [e]
    omega
  · obtain ⟨_, s2⟩ := addN_z a n h0 (by omega) hk
    obtain ⟨s1, _⟩ := addN_z b n (by omega) h1 (by omega)
    have := st_mono (show (moZ a + n).toNat + 1 ≤ (moZ b + n).toNat by omega)
    omega

theorem add_late (d n : Int) (h0 : 0 ≤ d) (h1 : d < 65536) (hB : addB d n = false) : n < - moZ d ∨ 2153 - moZ d < n ∨ (n = 2153 - moZ d ∧ 6 < dZ d) := by
  by_cases e1 : n < - moZ d
  · exact Or.inl e1
  · by_cases e2 : 2153 - moZ d < n
    · exact Or.inr (Or.inl e2)
    · right; right
      have hN : ¬ addN d n < 65536 := by
        intro h
        rw [addB_true (by omega) (by omega) h] at hB; cases hB
      obtain ⟨s1, s2⟩ := addN_z d n h0 h1 (by omega)
      have e : moZ d + n = 2153 := by
        by_cases e : moZ d + n = 2153
        · exact e
        · have := st_mono (show (moZ d + n).toNat + 1 ≤ 2153 by omega)
          rw [st_2153] at this; omega
      refine ⟨by omega, ?_⟩
      unfold addN at hN
      rw [e, show (2153 : Int).toNat = 2153 from rfl, st_2153] at hN
      unfold dZ
      omega

theorem addV_E (d n : Int) : (addE d n = 0 ∧ (0 ≤ d ∧ d < 65536) ∧ addB d n = true ∧ addV d n = addN d n) ∨ addE d n ≠ 0 := by
  unfold addE addV
  rcases date_cases d with ⟨h0, h1⟩ | h
  · rw [if_pos (dateB_true h0 h1), if_pos (dateB_true h0 h1)]
    cases hB : addB d n
    · right; simp
    · left; simp [h0, h1]
  · right
    rw [if_neg (by simp [dateB_false h])]; omega

theorem y24_65535 : yR 65535 = 2079 ∧ mR 65535 = 6 ∧ dR 65535 = 6 ∧ eR 65535 = 0 := by
  obtain ⟨p1, p2, p3, p4, _, _⟩ := parts_yes (d := 65535) (by omega) (by omega)
  rw [p1, p2, p3, p4]
  unfold yZ mZ dZ
  rw [moZ_65535, ddZ_65535]; decide
theorem m26_65535 : monR 65535 = 2153 ∧ eR 65535 = 0 := by
  obtain ⟨_, _, _, p4, p5, _⟩ := parts_yes (d := 65535) (by omega) (by omega)
  rw [p4, p5, moZ_65535]; exact ⟨rfl, rfl⟩

set_option maxRecDepth 100000 in
set_option maxHeartbeats 4000000 in
/-- a is no date. -/
theorem later8_no (a b n : Int) (w : World) (h : a < 0 ∨ 65536 ≤ a) : Calls Try.prog 8 #[.int .i64 a, .int .i64 b, .int .i64 n] w fun e w' => e = .returned (.bool true) ∧ Up w w' := by
  obtain ⟨p1, p2, p3, p4, p5, p6⟩ := parts_no h
  have hv : addV a n = 0 ∧ addE a n = 2 := by simp [addV, addE, dateB_false h]
  have H1 := Lib.hid (fun w => d29_is hv w)
  have H3 := Lib.hid (fun w => y24_is ⟨p1, p2, p3, p4⟩ w)
  clear p1 p2 p3 p4 p5 p6 hv
  go_enter Try.func8, Try.ntmps8
  go_wp2_with fail
  refine (awake21 _).mono ?_
  rintro e w1 ⟨rfl, u1⟩
  go_wp2_with fail
  refine (H1.out _).mono ?_
  rintro e w2 ⟨rfl, u2⟩
  go_wp2_with fail
  refine (add29 b n _).mono ?_
  rintro e w3 ⟨rfl, u3⟩
  go_wp2_with fail
  refine (H3.out _).mono ?_
  rintro e w4 ⟨rfl, u4⟩
  go_wp2_with fail
  go_ret
  exact ⟨rfl, u1.trans <| u2.trans <| u3.trans u4⟩

set_option maxRecDepth 100000 in
set_option maxHeartbeats 4000000 in
/-- There is no such date. -/
theorem later8_late (a b n N D : Int) (w : World) (hN : 0 ≤ N ∧ N < 2154)
    (H1 : Hid (∀ w, Calls Try.prog 29 #[.int .i64 a, .int .i64 n] w fun e w' => e = .returned (.tuple #[.int .i64 0, .int .i64 30]) ∧ Up w w'))
    (H3 : Hid (∀ w, Calls Try.prog 24 #[.int .i64 a] w fun e w' => e = .returned (.tuple #[.int .i64 (yZ a), .int .i64 (mZ a), .int .i64 D, .int .i64 0]) ∧ Up w w'))
    (H4 : Hid (∀ w, Calls Try.prog 26 #[.int .i64 a] w fun e w' => e = .returned (.tuple #[.int .i64 N, .int .i64 0]) ∧ Up w w'))
    (h : n < - N ∨ (¬ n < - N ∧ 2153 - N < n) ∨ (n = 2153 - N ∧ 6 < D)) :
    Calls Try.prog 8 #[.int .i64 a, .int .i64 b, .int .i64 n] w fun e w' => e = .returned (.bool true) ∧ Up w w' := by
  have K1 := Lib.hid (fun w => d26_is m26_65535 w)
  have K2 := Lib.hid (fun w => y24_is y24_65535 w)
  rcases h with h | ⟨h, h'⟩ | ⟨rfl, h⟩
  all_goals
    go_enter Try.func8, Try.ntmps8
    go_wp2_with fail
    refine (awake21 _).mono ?_
    rintro e w1 ⟨rfl, u1⟩
    go_wp2_with fail
    refine (H1.out _).mono ?_
    rintro e w2 ⟨rfl, u2⟩
    go_wp2_with fail
    refine (add29 b _ _).mono ?_
    rintro e w3 ⟨rfl, u3⟩
    go_wp2_with fail
    refine (H3.out _).mono ?_
    rintro e w4 ⟨rfl, u4⟩
    go_wp2_with fail
    refine (H4.out _).mono ?_
    rintro e w5 ⟨rfl, u5⟩
    go_wp2_with fail
    refine (K1.out _).mono ?_
    rintro e w6 ⟨rfl, u6⟩
    go_wp2_with fail
    refine (K2.out _).mono ?_
    rintro e w7 ⟨rfl, u7⟩
    go_wp2_with fail
    go_ret
    exact ⟨rfl, u1.trans <| u2.trans <| u3.trans <| u4.trans <| u5.trans <| u6.trans u7⟩

set_option maxRecDepth 100000 in
set_option maxHeartbeats 4000000 in
/-- There is such a date. -/
theorem later8_ok (a b n N D X Y F P Q R L : Int) (w : World) (hN : 0 ≤ N ∧ N < 2154) (hn : -2154 < n ∧ n < 2154) (hR : R = min D L)
    (H1 : Hid (∀ w, Calls Try.prog 29 #[.int .i64 a, .int .i64 n] w fun e w' => e = .returned (.tuple #[.int .i64 X, .int .i64 0]) ∧ Up w w'))
    (H2 : Hid (∀ w, Calls Try.prog 29 #[.int .i64 b, .int .i64 n] w fun e w' => e = .returned (.tuple #[.int .i64 Y, .int .i64 F]) ∧ Up w w'))
    (H3 : Hid (∀ w, Calls Try.prog 24 #[.int .i64 a] w fun e w' => e = .returned (.tuple #[.int .i64 (yZ a), .int .i64 (mZ a), .int .i64 D, .int .i64 0]) ∧ Up w w'))
    (H4 : Hid (∀ w, Calls Try.prog 26 #[.int .i64 a] w fun e w' => e = .returned (.tuple #[.int .i64 N, .int .i64 0]) ∧ Up w w'))
    (H5 : Hid (∀ w, Calls Try.prog 26 #[.int .i64 X] w fun e w' => e = .returned (.tuple #[.int .i64 (N + n), .int .i64 0]) ∧ Up w w'))
    (H6 : Hid (∀ w, Calls Try.prog 24 #[.int .i64 X] w fun e w' => e = .returned (.tuple #[.int .i64 P, .int .i64 Q, .int .i64 R, .int .i64 0]) ∧ Up w w'))
    (H7 : Hid (∀ w, Calls Try.prog 19 #[.int .i64 P, .int .i64 Q] w fun e w' => e = .returned (.int .i64 L) ∧ Up w w'))
    (h : (F < 0 ∨ 0 < F) ∨ (F = 0 ∧ (b < a ∧ Y ≤ X)) ∨ (F = 0 ∧ (a < b ∧ X ≤ Y)) ∨ (F = 0 ∧ (a = b ∧ X = Y))) :
    Calls Try.prog 8 #[.int .i64 a, .int .i64 b, .int .i64 n] w fun e w' => e = .returned (.bool true) ∧ Up w w' := by
  have hR2 := Lib.hid hR
  clear hR
  have hDL : (D ≤ L ∧ R = D) ∨ (L < D ∧ R = L) := by have := hR2.out; omega
  clear hR2
  rcases h with (h | h) | ⟨rfl, h1, h2⟩ | ⟨rfl, h1, h2⟩ | ⟨rfl, rfl, rfl⟩
  all_goals
    rcases hDL with ⟨g1, rfl⟩ | ⟨g1, rfl⟩
    all_goals
      go_enter Try.func8, Try.ntmps8
      go_wp2_with fail
      refine (awake21 _).mono ?_
      rintro e w1 ⟨rfl, u1⟩
      go_wp2_with fail
      refine (H1.out _).mono ?_
      rintro e w2 ⟨rfl, u2⟩
      go_wp2_with fail
      refine (H2.out _).mono ?_
      rintro e w3 ⟨rfl, u3⟩
      go_wp2_with fail
      refine (H3.out _).mono ?_
      rintro e w4 ⟨rfl, u4⟩
      go_wp2_with fail
      refine (H4.out _).mono ?_
      rintro e w5 ⟨rfl, u5⟩
      go_wp2_with fail
      refine (H5.out _).mono ?_
      rintro e w6 ⟨rfl, u6⟩
      go_wp2_with fail
      refine (H6.out _).mono ?_
      rintro e w7 ⟨rfl, u7⟩
      go_wp2_with fail
      refine (H7.out _).mono ?_
      rintro e w8 ⟨rfl, u8⟩
      go_wp2_with fail
      go_ret
      exact ⟨rfl, u1.trans <| u2.trans <| u3.trans <| u4.trans <| u5.trans <| u6.trans <| u7.trans u8⟩

theorem later8 (a b n : Int) (w : World) : Calls Try.prog 8 #[.int .i64 a, .int .i64 b, .int .i64 n] w fun e w' => e = .returned (.bool true) ∧ Up w w' := by
  rcases date_cases a with ⟨h0, h1⟩ | h
  · obtain ⟨p1, p2, p3, p4, p5, p6⟩ := parts_yes h0 h1
    have hN := moZ_bd a h1
    have H3 := Lib.hid (fun w => y24_is ⟨p1, p2, p3, p4⟩ w)
    have H4 := Lib.hid (fun w => d26_is ⟨p5, p4⟩ w)
    cases hB : addB a n
    · have hv : addV a n = 0 ∧ addE a n = 30 := by simp [addV, addE, dateB_true h0 h1, hB]
      refine later8_late a b n (moZ a) (dZ a) w hN (Lib.hid (fun w => d29_is hv w)) H3 H4 ?_
      have := add_late a n h0 h1 hB
      omega
    · have hv : addV a n = addN a n ∧ addE a n = 0 := by simp [addV, addE, dateB_true h0 h1, hB]
      obtain ⟨x0, x1, x2, x3⟩ := add_parts a n h0 h1 hB
      obtain ⟨q1, q2, q3, q4, q5, q6⟩ := parts_yes x0 x1
      have hX := moZ_bd (addN a n) x1
      refine later8_ok a b n (moZ a) (dZ a) (addN a n) (addV b n) (addE b n) (yZ (addN a n)) (mZ (addN a n)) (dZ (addN a n)) _ w hN (by omega) x3
        (Lib.hid (fun w => d29_is hv w)) (Lib.hid (fun w => add29 b n w)) H3 H4 (Lib.hid (fun w => d26_is ⟨by rw [q5, x2], q4⟩ w)) (Lib.hid (fun w => y24_is ⟨q1, q2, q3, q4⟩ w)) (Lib.hid (fun w => len19 _ _ w)) ?_
      rcases addV_E b n with ⟨e1, ⟨b0, b1⟩, e2, e3⟩ | e1
      · right
        rw [e1, e3]
        have hb : 0 ≤ moZ b + n := by unfold addB at e2; exact (of_decide_eq_true e2).1
        by_cases c1 : b < a
        · exact Or.inl ⟨rfl, c1, addN_mono (by omega) b0 h1 hb⟩
        · by_cases c2 : a < b
          · exact Or.inr (Or.inl ⟨rfl, c2, addN_mono (by omega) h0 b1 (by omega)⟩)
          · obtain rfl : a = b := by omega
            exact Or.inr (Or.inr ⟨rfl, rfl, rfl⟩)
      · left; omega
  · exact later8_no a b n w h

theorem later_any (a b n : Int) (w : World) (_ : (Lit.int .i64 a).wf = true) (_ : (Lit.int .i64 b).wf = true) (_ : (Lit.int .i64 n).wf = true) :
    Calls Try.prog 8 #[.int .i64 a, .int .i64 b, .int .i64 n] w fun e w' => e = .returned (.bool true) ∧ Below w.heap.size w w' := later8 a b n w

end Go.Proofs.Ytblgiojmodoilaa.Cal
