/- Contracts of the reference: Add, Between, Age. -/
import Derived.Test.YtblgiojmodoilaaRefB
namespace Go.Proofs.Ytblgiojmodoilaa.Cal
open Go.RowKit Go.Shelf

theorem day16_is (y m d v e : Int) (w : World) (hv : dayV y m d = v) (he : dayE y m d = e) : Calls Try.prog 16 #[.int .i64 y, .int .i64 m, .int .i64 d] w fun r w' => r = .returned (.tuple #[.int .i64 v, .int .i64 e]) ∧ w = w' := by
  rw [← hv, ← he]; exact day16 y m d w

theorem len_at {x k Z : Int} (hz : lenZ (1900 + k / 12) (k % 12 + 1) = Z) (hx : x = k) : lenZ (1900 + x / 12) (x % 12 + 1) = Z := by subst hx; exact hz
theorem dayV_at {x k dd q V : Int} (hV : dayV (1900 + k / 12) (k % 12 + 1) q = V) (hx : x = k) (hd : dd = q) : dayV (1900 + x / 12) (x % 12 + 1) dd = V := by subst hx hd; exact hV
theorem dayE_at {x k dd q V : Int} (hV : dayE (1900 + k / 12) (k % 12 + 1) q = V) (hx : x = k) (hd : dd = q) : dayE (1900 + x / 12) (x % 12 + 1) dd = V := by subst hx hd; exact hV

theorem dayN_at (k q : Int) : dayN (1900 + k / 12) (k % 12 + 1) q = (st k.toNat : Int) + q - 1 := by
  unfold dayN
  rw [show (12 * (1900 + k / 12 - 1900) + (k % 12 + 1) - 1) = k by omega]

theorem add_day (d n : Int) (h0 : 0 ≤ d) (h1 : d < 65536) (hk : 0 ≤ moZ d + n) :
    dayV (1900 + (moZ d + n) / 12) ((moZ d + n) % 12 + 1) (min (dZ d) (sz (moZ d + n).toNat)) = (if addB d n = true then addN d n else 0) ∧
    dayE (1900 + (moZ d + n) / 12) ((moZ d + n) % 12 + 1) (min (dZ d) (sz (moZ d + n).toNat)) = (if addB d n = true then 0 else 2) := by
  have hz := lenZ_sz (moZ d + n) hk
  have hzb := sz_bd (moZ d + n).toNat
  have hdd := ddZ_bd d h0 h1
  have e1 : dZ d = ddZ d + 1 := rfl
  have hN := dayN_at (moZ d + n) (min (dZ d) (sz (moZ d + n).toNat))
  have hN2 : dayN (1900 + (moZ d + n) / 12) ((moZ d + n) % 12 + 1) (min (dZ d) (sz (moZ d + n).toNat)) = addN d n := by
    rw [hN]; unfold addN; omega
  have hiff : dayB (1900 + (moZ d + n) / 12) ((moZ d + n) % 12 + 1) (min (dZ d) (sz (moZ d + n).toNat)) = addB d n := by
    unfold dayB addB
    rw [hN2, hz, decide_eq_decide]
    constructor
    · intro h
      refine ⟨hk, ?_, h.2.2.2.2⟩
      by_cases e : moZ d + n < 2154
      · exact e
      · have := addN_far d n h0 h1 (by omega); omega
    · intro h
      refine ⟨by omega, by omega, by omega, by omega, h.2.2⟩
  unfold dayV dayE
  rw [hiff, hN2]
  exact ⟨rfl, rfl⟩

set_option maxHeartbeats 4000000 in
theorem add42 (d n : Int) (w : World) :
    Calls Try.prog 42 #[.int .i64 d, .int .i64 n] w fun e w' => e = .returned (.tuple #[.int .i64 (addV d n), .int .i64 (addE d n)]) ∧ w = w' := by
  rcases date_cases d with ⟨h0, h1⟩ | h
  · have hm := moZ_bd d h1
    have hy := yZ_bd d h1
    have hmz := mZ_bd d
    have hk := ymZ d
    have hdd := ddZ_bd d h0 h1
    have hdz : 1 ≤ dZ d ∧ dZ d ≤ 31 := by
      have := sz_bd (mo d.toNat)
      unfold dZ; omega
    by_cases hn1 : n < -2153
    · have hf : addB d n = false := addB_false (by omega)
      rw [addV, addE, dateB_true h0 h1, if_pos rfl, if_pos rfl, hf, if_neg (by simp), if_neg (by simp)]
      clear hf hk hdd
      go_enter Try.func42, Try.ntmps42
      go_wp2_with (go_at_call 38; refine (ymd38_yes _ _ h0 h1).mono ?_; rintro e w' ⟨rfl, rfl⟩)
      go_ret2
      exact ⟨rfl, rfl⟩
    · by_cases hn2 : 2153 < n
      · have hf : addB d n = false := addB_false (by omega)
        rw [addV, addE, dateB_true h0 h1, if_pos rfl, if_pos rfl, hf, if_neg (by simp), if_neg (by simp)]
        clear hf hk hdd
        go_enter Try.func42, Try.ntmps42
        go_wp2_with (go_at_call 38; refine (ymd38_yes _ _ h0 h1).mono ?_; rintro e w' ⟨rfl, rfl⟩)
        go_ret2
        exact ⟨rfl, rfl⟩
      · by_cases hn3 : moZ d + n < 0
        · have hf : addB d n = false := addB_false (by omega)
          rw [addV, addE, dateB_true h0 h1, if_pos rfl, if_pos rfl, hf, if_neg (by simp), if_neg (by simp)]
          have hlt : 12 * (yZ d - 1900) + mZ d - 1 + n < 0 := by omega
          clear hf hk hdd
          go_enter Try.func42, Try.ntmps42
          go_wp2_with (go_at_call 38; refine (ymd38_yes _ _ h0 h1).mono ?_; rintro e w' ⟨rfl, rfl⟩)
          go_ret2
          exact ⟨rfl, rfl⟩
        · have hge : 0 ≤ 12 * (yZ d - 1900) + mZ d - 1 + n := by omega
          obtain ⟨hv, he⟩ := add_day d n h0 h1 (by omega)
          have hz := lenZ_sz (moZ d + n) (by omega)
          have hzb := sz_bd (moZ d + n).toNat
          cases hB : addB d n
          · rw [addV, addE, dateB_true h0 h1, if_pos rfl, if_pos rfl, hB, if_neg (by simp), if_neg (by simp)]
            rw [hB, if_neg (by simp)] at hv he
            generalize sz (moZ d + n).toNat = Z at *
            have HV := Lib.hid hv
            have HE := Lib.hid he
            have HZ := Lib.hid hz
            have HK := Lib.hid hk
            clear hv he hz hk hdd hB
            go_enter Try.func42, Try.ntmps42
            go_wp2_with (first | (go_at_call 38; refine (ymd38_yes _ _ h0 h1).mono ?_; rintro e w' ⟨rfl, rfl⟩) | (go_at_call 20; refine (len20_is _ _ Z _ (len_at HZ.out (by have := HK.out; omega))).mono ?_; rintro e w' ⟨rfl, rfl⟩) | (go_at_call 16; refine (day16_is _ _ _ 0 2 _ (dayV_at HV.out (by have := HK.out; omega) (by omega)) (dayE_at HE.out (by have := HK.out; omega) (by omega))).mono ?_; rintro e w' ⟨rfl, rfl⟩))
            all_goals go_ret2
            all_goals exact ⟨rfl, rfl⟩
          · rw [addV, addE, dateB_true h0 h1, if_pos rfl, if_pos rfl, hB, if_pos rfl, if_pos rfl]
            rw [hB, if_pos rfl] at hv he
            generalize sz (moZ d + n).toNat = Z at *
            generalize addN d n = N at *
            have HV := Lib.hid hv
            have HE := Lib.hid he
            have HZ := Lib.hid hz
            have HK := Lib.hid hk
            clear hv he hz hk hdd hB
            go_enter Try.func42, Try.ntmps42
            go_wp2_with (first | (go_at_call 38; refine (ymd38_yes _ _ h0 h1).mono ?_; rintro e w' ⟨rfl, rfl⟩) | (go_at_call 20; refine (len20_is _ _ Z _ (len_at HZ.out (by have := HK.out; omega))).mono ?_; rintro e w' ⟨rfl, rfl⟩) | (go_at_call 16; refine (day16_is _ _ _ N 0 _ (dayV_at HV.out (by have := HK.out; omega) (by omega)) (dayE_at HE.out (by have := HK.out; omega) (by omega))).mono ?_; rintro e w' ⟨rfl, rfl⟩))
            all_goals go_ret2
            all_goals exact ⟨rfl, rfl⟩
  · rw [addV, addE, dateB_false h, if_neg (by simp), if_neg (by simp)]
    go_enter Try.func42, Try.ntmps42
    go_wp2_with (go_at_call 38; refine (ymd38_no _ _ h).mono ?_; rintro e w' ⟨rfl, rfl⟩)
    go_ret2
    exact ⟨rfl, rfl⟩

end Go.Proofs.Ytblgiojmodoilaa.Cal
