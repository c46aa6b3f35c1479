/- The chapter's examples, reckoned. -/
import Derived.Test.YtblgiojmodoilaaTextL
namespace Go.Proofs.Ytblgiojmodoilaa.Cal
open Go.RowKit Go.Shelf

theorem st_1 : st 1 = 31 := by decide +kernel
theorem st_2 : st 2 = 59 := by decide +kernel
theorem st_1200 : st 1200 = 36524 := st_year 100 (by omega)
theorem st_1212 : st 1212 = 36890 := st_year 101 (by omega)
theorem sz_1200 : sz 1200 = 31 := by decide +kernel
theorem sz_1201 : sz 1201 = 29 := by decide +kernel
theorem sz_1212 : sz 1212 = 31 := by decide +kernel
theorem sz_1213 : sz 1213 = 28 := by decide +kernel
theorem sz_1214 : sz 1214 = 31 := by decide +kernel
theorem sz_0 : sz 0 = 31 := by decide +kernel
theorem sz_1 : sz 1 = 28 := by decide +kernel
theorem sz_2 : sz 2 = 31 := by decide +kernel
theorem st_1201 : st 1201 = 36555 := by rw [show 1201 = 1200 + 1 from rfl, st_succ, st_1200, sz_1200]
theorem st_1202 : st 1202 = 36584 := by rw [show 1202 = 1201 + 1 from rfl, st_succ, st_1201, sz_1201]
theorem st_1213 : st 1213 = 36921 := by rw [show 1213 = 1212 + 1 from rfl, st_succ, st_1212, sz_1212]
theorem st_1214 : st 1214 = 36949 := by rw [show 1214 = 1213 + 1 from rfl, st_succ, st_1213, sz_1213]
theorem mo_36583 : mo 36583 = 1201 := mo_eq (by omega) (by rw [st_1201]; omega) (by rw [st_1202]; omega)
theorem mo_65535 : mo 65535 = 2153 := mo_eq (by omega) (by rw [st_2153]; omega) (by rw [st_2154]; omega)
theorem mo_30 : mo 30 = 0 := mo_eq (by omega) (by simp [st]) (by rw [st_1]; omega)

theorem aw_day : dayV 2000 2 29 = 36583 ∧ dayE 2000 2 29 = 0 := by
  have hN : dayN 2000 2 29 = 36583 := by
    unfold dayN
    rw [show (12 * (2000 - 1900) + 2 - 1 : Int).toNat = 1201 from rfl, st_1201]; rfl
  have hL : lenZ 2000 2 = 29 := by decide +kernel
  have hB : dayB 2000 2 29 = true := dayB_true (by omega) (by omega) (by omega) (by omega) (by omega)
  rw [dayV, dayE, if_pos hB, if_pos hB, hN]; exact ⟨rfl, rfl⟩
theorem aw_day2 : dayV 1900 2 29 = 0 ∧ dayE 1900 2 29 = 2 := by
  have hL : lenZ 1900 2 = 28 := by decide +kernel
  have hB : dayB 1900 2 29 = false := dayB_false (by omega)
  rw [dayV, dayE, if_neg (by simp [hB]), if_neg (by simp [hB])]; exact ⟨rfl, rfl⟩
theorem moZ_36583 : moZ 36583 = 1201 := by show ((mo 36583 : Nat) : Int) = 1201; rw [mo_36583]; rfl
theorem ddZ_36583 : ddZ 36583 = 28 := by show (36583 : Int) - (st (mo 36583) : Int) = 28; rw [mo_36583, st_1201]; rfl
theorem addN_36583_12 : addN 36583 12 = 36948 := by
  unfold addN
  rw [moZ_36583, ddZ_36583, show (1201 + 12 : Int).toNat = 1213 from rfl, st_1213, sz_1213]; rfl
theorem addN_36583_m1 : addN 36583 (-1) = 36552 := by
  unfold addN
  rw [moZ_36583, ddZ_36583, show (1201 + (-1) : Int).toNat = 1200 from rfl, st_1200, sz_1200]; rfl
theorem addN_36583_11 : addN 36583 11 = 36918 := by
  unfold addN
  rw [moZ_36583, ddZ_36583, show (1201 + 11 : Int).toNat = 1212 from rfl, st_1212, sz_1212]; rfl
theorem addN_36583_13 : addN 36583 13 = 36977 := by
  unfold addN
  rw [moZ_36583, ddZ_36583, show (1201 + 13 : Int).toNat = 1214 from rfl, st_1214, sz_1214]; rfl
theorem aw_add : addV 36583 12 = 36948 ∧ addE 36583 12 = 0 := by
  have hB : addB 36583 12 = true := addB_true (by rw [moZ_36583]; omega) (by rw [moZ_36583]; omega) (by rw [addN_36583_12]; omega)
  rw [addV, addE, if_pos (dateB_true (by omega) (by omega)), if_pos (dateB_true (by omega) (by omega)), if_pos hB, if_pos hB, addN_36583_12]; exact ⟨rfl, rfl⟩
theorem aw_add2 : addV 36583 (-1) = 36552 ∧ addE 36583 (-1) = 0 := by
  have hB : addB 36583 (-1) = true := addB_true (by rw [moZ_36583]; omega) (by rw [moZ_36583]; omega) (by rw [addN_36583_m1]; omega)
  rw [addV, addE, if_pos (dateB_true (by omega) (by omega)), if_pos (dateB_true (by omega) (by omega)), if_pos hB, if_pos hB, addN_36583_m1]; exact ⟨rfl, rfl⟩
theorem moZ_65535 : moZ 65535 = 2153 := by show ((mo 65535 : Nat) : Int) = 2153; rw [mo_65535]; rfl
theorem aw_add3 : addV 65535 1 = 0 ∧ addE 65535 1 = 30 := by
  have hB : addB 65535 1 = false := addB_false (by rw [moZ_65535]; omega)
  rw [addV, addE, if_pos (dateB_true (by omega) (by omega)), if_pos (dateB_true (by omega) (by omega)), if_neg (by simp [hB]), if_neg (by simp [hB])]; exact ⟨rfl, rfl⟩
theorem moZ_30 : moZ 30 = 0 := by show ((mo 30 : Nat) : Int) = 0; rw [mo_30]; rfl
theorem ddZ_30 : ddZ 30 = 30 := by show (30 : Int) - (st (mo 30) : Int) = 30; rw [mo_30]; rfl
theorem bw_30_58 : bw 30 58 = 1 := by
  refine bw_uniq 30 58 1 (by omega) (by omega) (by omega) ?_ ?_
  · unfold addN
    rw [moZ_30, ddZ_30, show (0 + ((1 : Nat) : Int)).toNat = 1 from rfl, st_1, sz_1]; decide
  · unfold addN
    rw [moZ_30, ddZ_30, show (0 + ((1 + 1 : Nat) : Int)).toNat = 2 from rfl, st_2, sz_2]; decide
theorem date_30 : dateB 30 = true := dateB_true (by omega) (by omega)
theorem date_58 : dateB 58 = true := dateB_true (by omega) (by omega)
theorem aw_bw : bwV 30 58 = 1 ∧ bwE 30 58 = 0 := by
  have hB : bwB 30 58 = true := by simp [bwB, date_30, date_58]
  rw [bwV, bwE, if_pos hB, if_pos hB, if_neg (by omega), bw_30_58]; exact ⟨rfl, rfl⟩
theorem aw_bw2 : bwV 58 30 = -1 ∧ bwE 58 30 = 0 := by
  have hB : bwB 58 30 = true := by simp [bwB, date_30, date_58]
  rw [bwV, bwE, if_pos hB, if_pos hB, if_pos (by omega), bw_30_58]; exact ⟨rfl, rfl⟩
theorem aw_age : ageV 36583 36947 = 0 ∧ ageE 36583 36947 = 0 := by
  have hB : bwB 36583 36947 = true := by simp [bwB, dateB_true]
  have hb : bw 36583 36947 = 11 := by
    refine bw_uniq 36583 36947 11 (by omega) (by omega) (by omega) ?_ ?_
    · show addN 36583 11 ≤ 36947; rw [addN_36583_11]; omega
    · show 36947 < addN 36583 12; rw [addN_36583_12]; omega
  rw [ageV, ageE, if_neg (by omega), if_neg (by omega), bwV, bwE, if_pos hB, if_pos hB, if_neg (by omega), hb]; exact ⟨rfl, rfl⟩
theorem aw_age2 : ageV 36583 36948 = 1 ∧ ageE 36583 36948 = 0 := by
  have hB : bwB 36583 36948 = true := by simp [bwB, dateB_true]
  have hb : bw 36583 36948 = 12 := by
    refine bw_uniq 36583 36948 12 (by omega) (by omega) (by omega) ?_ ?_
    · show addN 36583 12 ≤ 36948; rw [addN_36583_12]; omega
    · show 36948 < addN 36583 13; rw [addN_36583_13]; omega
  rw [ageV, ageE, if_neg (by omega), if_neg (by omega), bwV, bwE, if_pos hB, if_pos hB, if_neg (by omega), hb]; exact ⟨rfl, rfl⟩
theorem aw_mon : monR 36583 = 1201 ∧ eR 36583 = 0 := by
  rw [monR, eR, if_pos (dateB_true (by omega) (by omega)), if_pos (dateB_true (by omega) (by omega)), moZ_36583]; exact ⟨rfl, rfl⟩
theorem aw_fst : fstR 1201 = 36555 ∧ fstE 1201 = 0 := by
  rw [fstR, fstE, if_pos (monthB_true (by omega) (by omega)), if_pos (monthB_true (by omega) (by omega)), show (1201 : Int).toNat = 1201 from rfl, st_1201]; exact ⟨rfl, rfl⟩
theorem aw_wk : wkR 36583 = 2 ∧ eR 36583 = 0 := by
  rw [wkR, eR, if_pos (dateB_true (by omega) (by omega)), if_pos (dateB_true (by omega) (by omega))]; exact ⟨rfl, rfl⟩
theorem ddZ_65535 : ddZ 65535 = 5 := by show (65535 : Int) - (st (mo 65535) : Int) = 5; rw [mo_65535, st_2153]; rfl
theorem aw_text : textL 36583 = [50, 48, 48, 48, 45, 48, 50, 45, 50, 57] := by
  rw [textL, if_pos (dateB_true (by omega) (by omega))]
  unfold yZ mZ dZ
  rw [moZ_36583, ddZ_36583]; decide
theorem aw_text2 : textL 65535 = [50, 48, 55, 57, 45, 48, 54, 45, 48, 54] := by
  rw [textL, if_pos (dateB_true (by omega) (by omega))]
  unfold yZ mZ dZ
  rw [moZ_65535, ddZ_65535]; decide

end Go.Proofs.Ytblgiojmodoilaa.Cal
