/- Contracts of the reference: Between, Age. -/
import Derived.Test.YtblgiojmodoilaaRefC
namespace Go.Proofs.Ytblgiojmodoilaa.Cal
open Go.RowKit Go.Shelf

theorem addN_at (a : Int) (n : Nat) : addN a n = (st (mo a.toNat + n) : Int) + min (dZ a) (sz (mo a.toNat + n)) - 1 := by
  unfold addN
  rw [show (moZ a + (n : Int)).toNat = mo a.toNat + n by unfold moZ; omega]
  have : dZ a = ddZ a + 1 := rfl
  omega

theorem bw_mo (a b : Int) (h0 : 0 ≤ a) (hab : a ≤ b) (h1 : b < 65536) : mo a.toNat + bw a b < 2154 := by
  have h := bw_spec a b h0 hab h1
  have h2 := addN_lo a (bw a b) h0 (by omega)
  by_cases e : mo a.toNat + bw a b < 2154
  · exact e
  · have := st_mono (show 2154 ≤ mo a.toNat + bw a b by omega)
    rw [st_2154] at this
    omega

def BwRel (M W : Nat) (y mm f n : Value) : Prop :=
  ∃ j : Nat, j ≤ W ∧ y = .int .i64 (1900 + (((M + j) / 12 : Nat) : Int)) ∧ mm = .int .i64 ((((M + j) % 12 : Nat) : Int) + 1) ∧ f = .int .i64 (st (M + j) : Int) ∧ n = .int .i64 (j : Int)

theorem len_nat {y m : Int} (k : Nat) (hy : y = 1900 + ((k / 12 : Nat) : Int)) (hm : m = ((k % 12 : Nat) : Int) + 1) : lenZ y m = (sz k : Int) := by
  rw [sz_cast, hy, hm]

set_option maxHeartbeats 4000000 in
theorem between43_le (a b : Int) (w : World) (h0 : 0 ≤ a) (hab : a ≤ b) (h1 : b < 65536) :
    Calls Try.prog 43 #[.int .i64 a, .int .i64 b] w fun e w' => e = .returned (.tuple #[.int .i64 (bw a b : Int), .int .i64 0]) ∧ w = w' := by
  have hW := bw_mo a b h0 hab h1
  have hI := fun n : Nat => bw_iff a b h0 hab h1 (n + 1)
  have hA := fun n : Nat => addN_at a (n + 1)
  have hdz : 1 ≤ dZ a ∧ dZ a ≤ 31 := by
    have := sz_bd (mo a.toNat)
    have := ddZ_bd a h0 (by omega)
    unfold dZ; omega
  have hf : a - dZ a + 1 = (st (mo a.toNat) : Int) := by unfold dZ ddZ; omega
  have hyz : yZ a = 1900 + ((mo a.toNat / 12 : Nat) : Int) := by unfold yZ moZ; omega
  have hmz : mZ a = ((mo a.toNat % 12 : Nat) : Int) + 1 := by unfold mZ moZ; omega
  have hy := ymd38_yes a
  rw [hyz, hmz] at hy
  clear hyz hmz
  generalize mo a.toNat = M at *
  generalize bw a b = W at *
  generalize dZ a = D at *
  have HI := Lib.hid hI
  have HA := Lib.hid hA
  have HF := Lib.hid hf
  have HY := Lib.hid hy
  clear hI hA hf hy
  go_enter Try.func43, Try.ntmps43
  go_wp2_with (first | (go_at_call 52; refine (is52_yes _ _ (by omega) (by omega)).mono ?_; rintro e w' ⟨rfl, rfl⟩) | (go_at_call 38; refine (HY.out _ (by omega) (by omega)).mono ?_; rintro e w' ⟨rfl, rfl⟩))
  go_loop [8, 9, 12, 13] (BwRel M W) (fun _ _ _ n => (W + 1 - (intOf n).toNat))
  case atStart => exact ⟨0, by omega, by simp, by simp, int_eq (by have := HF.out; simpa using this), rfl⟩
  case round =>
    obtain ⟨j, hj, rfl, rfl, rfl, rfl⟩ := hrel
    have hs1 := st_bd (M + j) (by omega)
    have hs2 := st_bd (M + j + 1) (by omega)
    have hz1 := sz_bd (M + j)
    have hz2 := sz_bd (M + j + 1)
    have hstep : Hid (st (M + j + 1) = st (M + j) + sz (M + j)) := rfl
    have hN : addN a ((j + 1 : Nat) : Int) = (st (M + j) : Int) + (sz (M + j) : Int) + min D (sz (M + j + 1)) - 1 := by
      rw [HA.out j, ← Nat.add_assoc, hstep.out]; omega
    have hII := HI.out j
    by_cases hlt : j < W
    · have hle : (st (M + j) : Int) + (sz (M + j) : Int) + min D (sz (M + j + 1)) - 1 ≤ b := by omega
      clear hN hII
      by_cases hc : (M + j) % 12 < 11
      · go_wp2_with (first | (go_at_call 20; refine (len20_is _ _ _ _ (len_nat (M + j) (by omega) (by omega))).mono ?_; rintro e w' ⟨rfl, rfl⟩) | (go_at_call 20; refine (len20_is _ _ _ _ (len_nat (M + j + 1) (by omega) (by omega))).mono ?_; rintro e w' ⟨rfl, rfl⟩))
        all_goals go_round
        all_goals first | exact ⟨j + 1, by omega, int_eq (by omega), int_eq (by omega), int_eq (by rw [← Nat.add_assoc, hstep.out]; omega), by go_num⟩ | (simp [intOf]; omega)
      · go_wp2_with (first | (go_at_call 20; refine (len20_is _ _ _ _ (len_nat (M + j) (by omega) (by omega))).mono ?_; rintro e w' ⟨rfl, rfl⟩) | (go_at_call 20; refine (len20_is _ _ _ _ (len_nat (M + j + 1) (by omega) (by omega))).mono ?_; rintro e w' ⟨rfl, rfl⟩))
        all_goals go_round
        all_goals first | exact ⟨j + 1, by omega, int_eq (by omega), int_eq (by omega), int_eq (by rw [← Nat.add_assoc, hstep.out]; omega), by go_num⟩ | (simp [intOf]; omega)
    · obtain rfl : W = j := by omega
      have hgt : b < (st (M + W) : Int) + (sz (M + W) : Int) + min D (sz (M + W + 1)) - 1 := by omega
      clear hN hII
      by_cases hc : (M + W) % 12 < 11
      · go_wp2_with (first | (go_at_call 20; refine (len20_is _ _ _ _ (len_nat (M + W) (by omega) (by omega))).mono ?_; rintro e w' ⟨rfl, rfl⟩) | (go_at_call 20; refine (len20_is _ _ _ _ (len_nat (M + W + 1) (by omega) (by omega))).mono ?_; rintro e w' ⟨rfl, rfl⟩))
        all_goals go_ret2
        all_goals exact ⟨rfl, rfl⟩
      · go_wp2_with (first | (go_at_call 20; refine (len20_is _ _ _ _ (len_nat (M + W) (by omega) (by omega))).mono ?_; rintro e w' ⟨rfl, rfl⟩) | (go_at_call 20; refine (len20_is _ _ _ _ (len_nat (M + W + 1) (by omega) (by omega))).mono ?_; rintro e w' ⟨rfl, rfl⟩))
        all_goals go_ret2
        all_goals exact ⟨rfl, rfl⟩

theorem between43_gt (a b : Int) (w : World) (h0 : 0 ≤ b) (hab : b < a) (h1 : a < 65536) :
    Calls Try.prog 43 #[.int .i64 a, .int .i64 b] w fun e w' => e = .returned (.tuple #[.int .i64 (-(bw b a : Int)), .int .i64 0]) ∧ w = w' := by
  have hlt := bw_lt b a h0 (by omega) h1
  go_enter Try.func43, Try.ntmps43
  go_wp2_with (first | (go_at_call 52; refine (is52_yes _ _ (by omega) (by omega)).mono ?_; rintro e w' ⟨rfl, rfl⟩) | (go_at_call 43; refine (between43_le _ _ _ h0 (by omega) h1).mono ?_; rintro e w1 ⟨rfl, rfl⟩))
  go_ret2
  exact ⟨rfl, rfl⟩

theorem between43_no (a b : Int) (w : World) (h : (a < 0 ∨ 65536 ≤ a) ∨ ((0 ≤ a ∧ a < 65536) ∧ (b < 0 ∨ 65536 ≤ b))) :
    Calls Try.prog 43 #[.int .i64 a, .int .i64 b] w fun e w' => e = .returned (.tuple #[.int .i64 0, .int .i64 2]) ∧ w = w' := by
  rcases h with h | ⟨⟨h1, h2⟩, h⟩
  · go_enter Try.func43, Try.ntmps43
    go_wp2_with (first | (go_at_call 52; refine (is52_no _ _ h).mono ?_; rintro e w' ⟨rfl, rfl⟩))
    go_ret2
    exact ⟨rfl, rfl⟩
  · go_enter Try.func43, Try.ntmps43
    go_wp2_with fail
    refine (is52_yes _ _ h1 h2).mono ?_
    rintro e w' ⟨rfl, rfl⟩
    go_wp2_with fail
    refine (is52_no _ _ h).mono ?_
    rintro e w' ⟨rfl, rfl⟩
    go_wp2_with fail
    go_ret2
    exact ⟨rfl, rfl⟩

theorem between43 (a b : Int) (w : World) :
    Calls Try.prog 43 #[.int .i64 a, .int .i64 b] w fun e w' => e = .returned (.tuple #[.int .i64 (bwV a b), .int .i64 (bwE a b)]) ∧ w = w' := by
  rcases date_cases a with ⟨h0, h1⟩ | h
  · rcases date_cases b with ⟨h2, h3⟩ | h'
    · have hB : bwB a b = true := by simp [bwB, dateB_true h0 h1, dateB_true h2 h3]
      by_cases hab : b < a
      · rw [bwV, bwE, if_pos hB, if_pos hB, if_pos hab]
        exact between43_gt a b w h2 hab h1
      · rw [bwV, bwE, if_pos hB, if_pos hB, if_neg hab]
        exact between43_le a b w h0 (by omega) h3
    · have hB : ¬ bwB a b = true := by simp [bwB, dateB_false h']
      rw [bwV, bwE, if_neg hB, if_neg hB]
      exact between43_no a b w (Or.inr ⟨⟨h0, h1⟩, h'⟩)
  · have hB : ¬ bwB a b = true := by simp [bwB, dateB_false h]
    rw [bwV, bwE, if_neg hB, if_neg hB]
    exact between43_no a b w (Or.inl h)

theorem age44_no (a b : Int) (w : World) (h : (a < 0 ∨ 65536 ≤ a) ∨ ((0 ≤ a ∧ a < 65536) ∧ (b < 0 ∨ 65536 ≤ b))) :
    Calls Try.prog 44 #[.int .i64 a, .int .i64 b] w fun e w' => e = .returned (.tuple #[.int .i64 0, .int .i64 2]) ∧ w = w' := by
  rcases h with h | ⟨⟨h1, h2⟩, h⟩
  · go_enter Try.func44, Try.ntmps44
    go_wp2_with (first | (go_at_call 52; refine (is52_no _ _ h).mono ?_; rintro e w' ⟨rfl, rfl⟩))
    go_ret2
    exact ⟨rfl, rfl⟩
  · go_enter Try.func44, Try.ntmps44
    go_wp2_with fail
    refine (is52_yes _ _ h1 h2).mono ?_
    rintro e w' ⟨rfl, rfl⟩
    go_wp2_with fail
    refine (is52_no _ _ h).mono ?_
    rintro e w' ⟨rfl, rfl⟩
    go_wp2_with fail
    go_ret2
    exact ⟨rfl, rfl⟩

set_option maxHeartbeats 1000000 in
theorem age44 (a b : Int) (w : World) :
    Calls Try.prog 44 #[.int .i64 a, .int .i64 b] w fun e w' => e = .returned (.tuple #[.int .i64 (ageV a b), .int .i64 (ageE a b)]) ∧ w = w' := by
  by_cases hd : (0 ≤ a ∧ a < 65536) ∧ (0 ≤ b ∧ b < 65536)
  · obtain ⟨⟨h0, h1⟩, h2, h3⟩ := hd
    by_cases h : b < a
    · rw [ageV, ageE, if_pos h, if_pos h]
      go_enter Try.func44, Try.ntmps44
      go_wp2_with (go_at_call 52; refine (is52_yes _ _ (by omega) (by omega)).mono ?_; rintro e w' ⟨rfl, rfl⟩)
      go_ret2
      exact ⟨rfl, rfl⟩
    · have hB : bwB a b = true := by simp [bwB, dateB_true h0 h1, dateB_true h2 h3]
      have hb := bwV_bd a b h
      rw [ageV, ageE, if_neg h, if_neg h, bwE, if_pos hB]
      clear hB
      go_enter Try.func44, Try.ntmps44
      go_wp2_with (first | (go_at_call 52; refine (is52_yes _ _ (by omega) (by omega)).mono ?_; rintro e w' ⟨rfl, rfl⟩) | (go_at_call 43; refine (between43 _ _ _).mono ?_; rintro e w1 ⟨rfl, rfl⟩))
      go_ret2
      exact ⟨rfl, rfl⟩
  · have hE : ageV a b = 0 ∧ ageE a b = 2 := by
      have hB : ¬ bwB a b = true := by
        simp only [bwB, Bool.and_eq_true, dateB, decide_eq_true_eq]; omega
      unfold ageV ageE bwV bwE
      rw [if_neg hB, if_neg hB]
      split <;> simp
    rw [hE.1, hE.2]
    exact age44_no a b w (by omega)

set_option maxHeartbeats 1000000 in
/-- 'annuitantkit.Pick'. -/
theorem pick28 (x n : Int) (w : World) (h1 : 1 ≤ n) (h2 : n ≤ 1000000) :
    Calls Try.prog 28 #[.int .i64 x, .int .i64 n] w fun e w' => e = .returned (.int .i64 (x % n)) ∧ w = w' := by
  by_cases h0 : 0 ≤ x
  · have := Int.emod_nonneg x (show n ≠ 0 by omega)
    go_enter Try.func28, Try.ntmps28
    go_wp2_with fail
    go_ret
    exact ⟨rfl, rfl⟩
  · have hl := Int.emod_lt_of_pos x (show 0 < n by omega)
    have hg := Int.emod_nonneg x (show n ≠ 0 by omega)
    have ht : x.tmod n = if x % n = 0 then 0 else x % n - n := by
      rw [Int.tmod_eq_emod]
      by_cases e : x % n = 0
      · rw [if_pos e, if_pos (Or.inr (Int.dvd_of_emod_eq_zero e)), e]; rfl
      · rw [if_neg e, if_neg (fun hc => Or.elim hc (fun hc => h0 hc) (fun hc => e (Int.emod_eq_zero_of_dvd hc)))]
        rw [show (n.natAbs : Int) = n by omega]
    generalize ht2 : x.tmod n = t at *
    have HT := Lib.hid ht
    clear ht
    by_cases e : x % n = 0
    · have et : t = 0 := by rw [HT.out, if_pos e]
      subst et
      rw [e]
      go_enter Try.func28, Try.ntmps28
      go_wp2_with fail
      go_ret
      exact ⟨rfl, rfl⟩
    · have et : t = x % n - n := by rw [HT.out, if_neg e]
      have hn : t < 0 := by omega
      have hn2 : -1000000 ≤ t := by omega
      have HE := Lib.hid et
      clear et
      go_enter Try.func28, Try.ntmps28
      go_wp2_with fail
      go_ret
      exact ⟨by have := HE.out; rw [show x % n = t + n by omega]; rfl, rfl⟩

end Go.Proofs.Ytblgiojmodoilaa.Cal
