/- The laws' walks: the next day; wrong numbers. -/
import Derived.Test.YtblgiojmodoilaaLawA
namespace Go.Proofs.Ytblgiojmodoilaa.Cal
open Go.RowKit Go.Shelf

theorem y24_is {d Y M D E : Int} (h : yR d = Y ∧ mR d = M ∧ dR d = D ∧ eR d = E) (w : World) :
    Calls Try.prog 24 #[.int .i64 d] w fun e w' => e = .returned (.tuple #[.int .i64 Y, .int .i64 M, .int .i64 D, .int .i64 E]) ∧ Up w w' := by
  rw [← h.1, ← h.2.1, ← h.2.2.1, ← h.2.2.2]; exact ymd24 d w

theorem parts_yes {d : Int} (h0 : 0 ≤ d) (h1 : d < 65536) : yR d = yZ d ∧ mR d = mZ d ∧ dR d = dZ d ∧ eR d = 0 ∧ monR d = moZ d ∧ wkR d = d % 7 + 1 := by
  simp [yR, mR, dR, eR, monR, wkR, dateB_true h0 h1]
theorem parts_no {d : Int} (h : d < 0 ∨ 65536 ≤ d) : yR d = 0 ∧ mR d = 0 ∧ dR d = 0 ∧ eR d = 2 ∧ monR d = 0 ∧ wkR d = 0 := by
  simp [yR, mR, dR, eR, monR, wkR, dateB_false h]

/-- Day is the inverse of YMD. -/
theorem day_ymd {d : Int} (h0 : 0 ≤ d) (h1 : d < 65536) : dayV (yZ d) (mZ d) (dZ d) = d ∧ dayE (yZ d) (mZ d) (dZ d) = 0 ∧ dZ d ≤ lenZ (yZ d) (mZ d) := by
  have hm := moZ_bd d h1
  have hd := ddZ_bd d h0 h1
  have e1 : dZ d = ddZ d + 1 := rfl
  have e2 : ddZ d = d - (st (mo d.toNat) : Int) := rfl
  have e3 : (moZ d).toNat = mo d.toNat := by unfold moZ; omega
  have hz := lenZ_sz (moZ d) hm.1
  rw [e3] at hz
  have hy := yZ_bd d h1
  have hN : dayN (yZ d) (mZ d) (dZ d) = d := by
    have := dayN_at (moZ d) (dZ d)
    show dayN (1900 + moZ d / 12) (moZ d % 12 + 1) (dZ d) = d
    rw [this, e3]; omega
  have hl : dZ d ≤ lenZ (yZ d) (mZ d) := by
    show dZ d ≤ lenZ (1900 + moZ d / 12) (moZ d % 12 + 1)
    rw [hz]; omega
  have hB : dayB (yZ d) (mZ d) (dZ d) = true := dayB_true (by omega) (by omega) (by omega) hl (by rw [hN]; exact h1)
  rw [dayV, dayE, if_pos hB, if_pos hB, hN]
  exact ⟨rfl, rfl, hl⟩

theorem first_mo {d : Int} (_h0 : 0 ≤ d) (h1 : d < 65536) : fstR (moZ d) = d - dZ d + 1 ∧ fstE (moZ d) = 0 := by
  have hm := moZ_bd d h1
  have e1 : dZ d = ddZ d + 1 := rfl
  have e2 : ddZ d = d - (st (mo d.toNat) : Int) := rfl
  have e3 : (moZ d).toNat = mo d.toNat := by unfold moZ; omega
  rw [fstR, fstE, if_pos (monthB_true hm.1 hm.2), if_pos (monthB_true hm.1 hm.2), e3]
  exact ⟨by omega, rfl⟩

theorem prev_same {d : Int} (h0 : 1 ≤ d) (h1 : d < 65536) (h : 1 < dZ d) : moZ (d - 1) = moZ d ∧ dZ (d - 1) = dZ d - 1 := by
  have hs := mo_spec d.toNat (by omega)
  have e1 : dZ d = d - (st (mo d.toNat) : Int) + 1 := rfl
  have hmo : mo (d - 1).toNat = mo d.toNat := mo_eq (by omega) (by omega) (by omega)
  have e2 : dZ (d - 1) = d - 1 - (st (mo (d - 1).toNat) : Int) + 1 := rfl
  constructor
  · unfold moZ; rw [hmo]
  · rw [e2, e1, hmo]; omega

theorem prev_first {d : Int} (h0 : 1 ≤ d) (h1 : d < 65536) (h : dZ d = 1) : 1 ≤ moZ d ∧ moZ (d - 1) = moZ d - 1 ∧ dZ (d - 1) = lenZ (1900 + (moZ d - 1) / 12) ((moZ d - 1) % 12 + 1) := by
  have hs := mo_spec d.toNat (by omega)
  have e1 : dZ d = d - (st (mo d.toNat) : Int) + 1 := rfl
  have hpos : 1 ≤ mo d.toNat := by
    by_cases e : mo d.toNat = 0
    · rw [e] at e1; simp [st] at e1; omega
    · omega
  obtain ⟨k, hk⟩ : ∃ k, mo d.toNat = k + 1 := ⟨mo d.toNat - 1, by omega⟩
  have hsz := sz_bd k
  have hst := st_succ k
  rw [hk] at hs e1
  have hmo : mo (d - 1).toNat = k := mo_eq (by omega) (by omega) (by omega)
  have e2 : dZ (d - 1) = d - 1 - (st (mo (d - 1).toNat) : Int) + 1 := rfl
  have e3 : moZ d = (k : Int) + 1 := by unfold moZ; rw [hk]; omega
  have e4 : moZ (d - 1) = (k : Int) := by unfold moZ; rw [hmo]
  refine ⟨by omega, by omega, ?_⟩
  rw [e2, hmo, e3, show (k : Int) + 1 - 1 = k by omega, lenZ_sz (k : Int) (by omega), Int.toNat_natCast]
  omega

theorem len_dec (y : Int) : lenZ y 12 = 31 := by simp [lenZ]

set_option maxRecDepth 100000 in
set_option maxHeartbeats 4000000 in
theorem next6_no (d : Int) (w : World) (h : d < 0 ∨ (¬ d < 0 ∧ 65536 ≤ d)) : Calls Try.prog 6 #[.int .i64 d] w fun e w' => e = .returned (.bool true) ∧ Up w w' := by
  obtain ⟨p1, p2, p3, p4, p5, p6⟩ := parts_no (d := d) (by omega)
  have H1 := Lib.hid (fun w => y24_is ⟨p1, p2, p3, p4⟩ w)
  have H2 := Lib.hid (fun w => d25_is ⟨p6, p4⟩ w)
  have H3 := Lib.hid (fun w => d26_is ⟨p5, p4⟩ w)
  clear p1 p2 p3 p4 p5 p6
  rcases h with h | ⟨h, h'⟩
  all_goals
    go_enter Try.func6, Try.ntmps6
    go_wp2_with fail
    refine (awake21 _).mono ?_
    rintro e w1 ⟨rfl, u1⟩
    go_wp2_with fail
    refine (H1.out _).mono ?_
    rintro e w2 ⟨rfl, u2⟩
    go_wp2_with fail
    refine (H2.out _).mono ?_
    rintro e w3 ⟨rfl, rfl⟩
    go_wp2_with fail
    refine (H3.out _).mono ?_
    rintro e w3 ⟨rfl, u3⟩
    go_wp2_with fail
    go_ret
    exact ⟨rfl, u1.trans <| u2.trans u3⟩

set_option maxRecDepth 100000 in
set_option maxHeartbeats 4000000 in
theorem next6_zero (w : World) : Calls Try.prog 6 #[.int .i64 0] w fun e w' => e = .returned (.bool true) ∧ Up w w' := by
  obtain ⟨p1, p2, p3, p4, p5, p6⟩ := parts_yes (d := 0) (by omega) (by omega)
  obtain ⟨q1, q2, q3⟩ := day_ymd (d := 0) (by omega) (by omega)
  obtain ⟨r1, r2⟩ := first_mo (d := 0) (by omega) (by omega)
  have m0 : mo 0 = 0 := mo_eq (by omega) (by simp [st]) (by rw [st_1]; omega)
  have z1 : moZ 0 = 0 := by show ((mo 0 : Nat) : Int) = 0; rw [m0]; rfl
  have z2 : dZ 0 = 1 := by show (0 : Int) - (st (mo 0) : Int) + 1 = 1; rw [m0]; rfl
  have z3 : yZ 0 = 1900 := by unfold yZ; rw [z1]; rfl
  have z4 : mZ 0 = 1 := by unfold mZ; rw [z1]; rfl
  rw [z3] at p1 q1 q2; rw [z4] at p2 q1 q2; rw [z2] at p3 q1 q2 r1; rw [z1] at p5 r1 r2
  have H1 := Lib.hid (fun w => y24_is ⟨p1, p2, p3, p4⟩ w)
  have H2 := Lib.hid (fun w => d25_is ⟨p6, p4⟩ w)
  have H3 := Lib.hid (fun w => d26_is ⟨p5, p4⟩ w)
  have H4 := Lib.hid (fun w => d15_is ⟨q1, q2⟩ w)
  have H5 := Lib.hid (fun w => d27_is ⟨r1, r2⟩ w)
  have hl : lenZ 1900 1 = 31 := by decide +kernel
  have H6 := Lib.hid (fun w => len19 1900 1 w)
  rw [hl] at H6
  clear p1 p2 p3 p4 p5 p6 q1 q2 q3 r1 r2 m0 z1 z2 z3 z4 hl
  go_enter Try.func6, Try.ntmps6
  go_wp2_with fail
  refine (awake21 _).mono ?_
  rintro e w1 ⟨rfl, u1⟩
  go_wp2_with fail
  refine (H1.out _).mono ?_
  rintro e w2 ⟨rfl, u2⟩
  go_wp2_with fail
  refine (H2.out _).mono ?_
  rintro e w3 ⟨rfl, rfl⟩
  go_wp2_with fail
  refine (H3.out _).mono ?_
  rintro e w3 ⟨rfl, u3⟩
  go_wp2_with fail
  refine (H4.out _).mono ?_
  rintro e w4 ⟨rfl, u4⟩
  go_wp2_with fail
  refine (H5.out _).mono ?_
  rintro e w5 ⟨rfl, u5⟩
  go_wp2_with fail
  refine (H6.out _).mono ?_
  rintro e w6 ⟨rfl, u6⟩
  go_wp2_with fail
  go_ret
  exact ⟨rfl, u1.trans <| u2.trans <| u3.trans <| u4.trans <| u5.trans u6⟩

end Go.Proofs.Ytblgiojmodoilaa.Cal
