/- Contracts of the reference: YMD, Month, First, Add. -/
import Derived.Test.YtblgiojmodoilaaRefA
namespace Go.Proofs.Ytblgiojmodoilaa.Cal
open Go.RowKit Go.Shelf

def YmdRel (d : Int) (m : Nat) (y mm l : Value) : Prop :=
  ∃ k : Nat, k ≤ m ∧ y = .int .i64 (1900 + ((k / 12 : Nat) : Int)) ∧ mm = .int .i64 (((k % 12 : Nat) : Int) + 1) ∧ l = .int .i64 (d - (st k : Int))

theorem int_eq {a b : Int} (h : a = b) : Value.int .i64 a = Value.int .i64 b := by rw [h]

set_option maxHeartbeats 2000000 in
theorem ymd38_yes (d : Int) (w : World) (h0 : 0 ≤ d) (h1 : d < 65536) :
    Calls Try.prog 38 #[.int .i64 d] w fun e w' => e = .returned (.tuple #[.int .i64 (yZ d), .int .i64 (mZ d), .int .i64 (dZ d), .int .i64 0]) ∧ w = w' := by
  have hm := mo_lt d.toNat (by omega)
  obtain ⟨hs1, hs2⟩ := mo_spec d.toNat (by omega)
  have ey : yZ d = 1900 + ((mo d.toNat / 12 : Nat) : Int) := by unfold yZ moZ; omega
  have em : mZ d = ((mo d.toNat % 12 : Nat) : Int) + 1 := by unfold mZ moZ; omega
  have ed : dZ d = d - (st (mo d.toNat) : Int) + 1 := by unfold dZ ddZ; omega
  rw [ey, em, ed]
  clear ey em ed
  generalize mo d.toNat = m at *
  have h3 := Lib.hid hs1
  have h4 := Lib.hid hs2
  clear hs1 hs2
  go_enter Try.func38, Try.ntmps38
  go_wp2_with (go_at_call 52; refine (is52_yes _ _ h0 h1).mono ?_; rintro e w' ⟨rfl, rfl⟩)
  go_loop [6, 7, 8] (YmdRel d m) (fun y mm _ => (30000 - 12 * intOf y - intOf mm).toNat)
  case atStart => exact ⟨0, by omega, by simp, by simp, by simp [st]⟩
  case round =>
    obtain ⟨k, hk, rfl, rfl, rfl⟩ := hrel
    have hz := (sz_cast k).symm
    have hzb := sz_bd k
    have hsb := st_bd k (by omega)
    have hsk : Hid (st (k + 1) = st k + sz k) := rfl
    rw [show ((k / 12 : Nat) : Int) = ((k / 12 : Nat) : Int) from rfl] at hz
    have HZ := Lib.hid hz
    clear hz
    by_cases hlt : k < m
    · have hle : (sz k : Int) ≤ d - (st k : Int) := by
        have g1 := st_mono (show k + 1 ≤ m from hlt)
        have g2 := h3.out
        have g3 := hsk.out
        omega
      by_cases hc : k % 12 < 11
      · go_wp2_with (go_at_call 20; refine (len20_is _ _ _ _ HZ.out).mono ?_; rintro e w' ⟨rfl, rfl⟩)
        go_round
        case rel => exact ⟨k + 1, by omega, int_eq (by omega), int_eq (by omega), int_eq (by rw [hsk.out]; omega)⟩
        case measure => simp [intOf]; omega
      · go_wp2_with (go_at_call 20; refine (len20_is _ _ _ _ HZ.out).mono ?_; rintro e w' ⟨rfl, rfl⟩)
        go_round
        case rel => exact ⟨k + 1, by omega, int_eq (by omega), int_eq (by omega), int_eq (by rw [hsk.out]; omega)⟩
        case measure => simp [intOf]; omega
    · obtain rfl : m = k := by omega
      have hle : d - (st m : Int) < (sz m : Int) := by
        have g2 := h4.out
        have g3 := hsk.out
        omega
      have hge : 0 ≤ d - (st m : Int) := by
        have g2 := h3.out
        omega
      go_wp2_with (go_at_call 20; refine (len20_is _ _ _ _ HZ.out).mono ?_; rintro e w' ⟨rfl, rfl⟩)
      refine bodyPost_ret (results_tmp4 rfl _ _ _) rfl ?_
      exact ⟨rfl, rfl⟩

theorem ymd38_no (d : Int) (w : World) (h : d < 0 ∨ 65536 ≤ d) :
    Calls Try.prog 38 #[.int .i64 d] w fun e w' => e = .returned (.tuple #[.int .i64 0, .int .i64 0, .int .i64 0, .int .i64 2]) ∧ w = w' := by
  go_enter Try.func38, Try.ntmps38
  go_wp2_with (go_at_call 52; refine (is52_no _ _ h).mono ?_; rintro e w' ⟨rfl, rfl⟩)
  refine bodyPost_ret (results_tmp4 rfl _ _ _) rfl ?_
  exact ⟨rfl, rfl⟩

theorem ymd38 (d : Int) (w : World) :
    Calls Try.prog 38 #[.int .i64 d] w fun e w' => e = .returned (.tuple #[.int .i64 (yR d), .int .i64 (mR d), .int .i64 (dR d), .int .i64 (eR d)]) ∧ w = w' := by
  rcases date_cases d with ⟨h0, h1⟩ | h
  · simp only [yR, mR, dR, eR, dateB_true h0 h1]
    exact ymd38_yes d w h0 h1
  · simp only [yR, mR, dR, eR, dateB_false h]
    exact ymd38_no d w h

theorem yZ_bd (d : Int) (h1 : d < 65536) : 1900 ≤ yZ d ∧ yZ d ≤ 2079 := by
  have := moZ_bd d h1; unfold yZ; omega
theorem mZ_bd (d : Int) : 1 ≤ mZ d ∧ mZ d ≤ 12 := by unfold mZ; omega
theorem ymZ (d : Int) : 12 * (yZ d - 1900) + mZ d - 1 = moZ d := by unfold yZ mZ; omega

theorem month39 (d : Int) (w : World) :
    Calls Try.prog 39 #[.int .i64 d] w fun e w' => e = .returned (.tuple #[.int .i64 (monR d), .int .i64 (eR d)]) ∧ w = w' := by
  rcases date_cases d with ⟨h0, h1⟩ | h
  · simp only [monR, eR, dateB_true h0 h1]
    have hb := yZ_bd d h1
    have hb2 := mZ_bd d
    have he := Lib.hid (ymZ d)
    go_enter Try.func39, Try.ntmps39
    go_wp2_with (go_at_call 38; refine (ymd38_yes _ _ h0 h1).mono ?_; rintro e w' ⟨rfl, rfl⟩)
    go_ret2
    exact ⟨ret2_int he.out, rfl⟩
  · simp only [monR, eR, dateB_false h]
    go_enter Try.func39, Try.ntmps39
    go_wp2_with (go_at_call 38; refine (ymd38_no _ _ h).mono ?_; rintro e w' ⟨rfl, rfl⟩)
    go_ret2
    exact ⟨rfl, rfl⟩

theorem dayV_first (k : Int) (h0 : 0 ≤ k) (h1 : k < 2154) : dayV (1900 + k / 12) (k % 12 + 1) 1 = (st k.toNat : Int) ∧ dayE (1900 + k / 12) (k % 12 + 1) 1 = 0 := by
  have hl := lenZ_lo (1900 + k / 12) (k % 12 + 1) (by omega) (by omega)
  have e : dayN (1900 + k / 12) (k % 12 + 1) 1 = (st k.toNat : Int) := by
    unfold dayN
    rw [show (12 * (1900 + k / 12 - 1900) + (k % 12 + 1) - 1) = k by omega]; omega
  have hs := st_mono (show k.toNat ≤ 2153 by omega)
  rw [st_2153] at hs
  have hB : dayB (1900 + k / 12) (k % 12 + 1) 1 = true := dayB_true (by omega) (by omega) (by omega) (by omega) (by rw [e]; omega)
  rw [dayV, dayE, if_pos hB, if_pos hB, e]
  exact ⟨rfl, rfl⟩

theorem first35 (k : Int) (w : World) :
    Calls Try.prog 35 #[.int .i64 k] w fun e w' => e = .returned (.tuple #[.int .i64 (fstR k), .int .i64 (fstE k)]) ∧ w = w' := by
  rcases month_cases2 k with ⟨h0, h1⟩ | h | ⟨h, h'⟩
  · simp only [fstR, fstE, monthB_true h0 h1]
    have hd := day16 (1900 + k / 12) (k % 12 + 1) 1
    rw [(dayV_first k h0 h1).1, (dayV_first k h0 h1).2] at hd
    have HD := Lib.hid hd
    clear hd
    go_enter Try.func35, Try.ntmps35
    go_wp2_with (go_at_call 16; refine (HD.out _).mono ?_; rintro e w' ⟨rfl, rfl⟩)
    go_ret2
    exact ⟨rfl, rfl⟩
  · simp only [fstR, fstE, monthB_false (Or.inl h)]
    go_enter Try.func35, Try.ntmps35
    go_wp2_with fail
    go_ret2
    exact ⟨rfl, rfl⟩
  · simp only [fstR, fstE, monthB_false (Or.inr h')]
    go_enter Try.func35, Try.ntmps35
    go_wp2_with fail
    go_ret2
    exact ⟨rfl, rfl⟩

end Go.Proofs.Ytblgiojmodoilaa.Cal
