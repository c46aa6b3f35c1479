/- annuitantlaw11.offset, where the place is found. -/
import Derived.Test.YtgkknjlegfdcnaaLexO
namespace Go.Proofs.Ytgkknjlegfdcnaa.Lx
open Go.RowKit Go.Shelf Go.Proofs.Ytgkknjlegfdcnaa.Cal

def OffRel (l : List UInt8) (k : Nat) (line col i : Value) : Prop :=
  ∃ j : Nat, j ≤ k ∧ i = .int .i64 (j : Int) ∧ line = .int .i64 (lineN l j) ∧ col = .int .i64 (colZ l j)

set_option maxHeartbeats 2000000 in
theorem offset_found (l : List UInt8) (a b : Int) (k : Nat) (w : World) (hl : l.length ≤ 3000) (hk : k ≤ l.length) (h1 : lineN l k = a) (h2 : colZ l k = b) (hmin : ∀ i, i < k → ¬ (lineN l i = a ∧ colZ l i = b)) :
    Calls Try.prog 14 #[.string (bs l), .agg #[.int .i64 a, .int .i64 b]] w fun e w' => e = .returned (.int .i64 (k : Int)) ∧ Up w w' := by
  have hsz := bs_size l
  have hs2 : (bs l).size ≤ 3000 := by omega
  have HSZ := Lib.hid hsz
  have HM := Lib.hid hmin
  clear hsz hmin
  have hb := box_new w a b
  go_enter Try.func14, Try.ntmps14
  go_wp2_with fail
  go_loop [5, 6, 7] (OffRel l k) (fun _ _ i => k + 1 - (intOf i).toNat)
  case atStart => exact ⟨0, Nat.zero_le _, rfl, by rw [lineN_zero], by rw [colZ_zero]⟩
  case round =>
    obtain ⟨j, hj, rfl, rfl, rfl⟩ := hrel
    have b1 := lineN_bd l j
    have b2 := colZ_bd l j
    have hjs : (j : Int) ≤ ((bs l).size : Int) := by rw [HSZ.out]; omega
    by_cases hlt : j < k
    · have hkl : j < l.length := by omega
      have hks : j < (bs l).size := by rw [HSZ.out]; exact hkl
      have hgb := bs_get l j hks
      have hln := lineN_succ l j hkl
      have hno := HM.out j hlt
      have hc2 : (lineN l j == a && colZ l j == b) = false := by
        cases hq : (lineN l j == a && colZ l j == b)
        · rfl
        · exact absurd (by simpa using hq) hno
      by_cases hc : l.getD j 0 = 10
      · have hcz := colZ_nl l j hkl hc
        rw [if_pos hc] at hln
        have h10 : (((bs l)[j].toNat : Int) == 10) = true := by rw [hgb, hc]; rfl
        clear hgb hc
        generalize lineN l j = L at *
        generalize colZ l j = C at *
        cases hLa : (L == a)
        · go_wp2_with fail
          go_round
          case rel => exact ⟨j + 1, by omega, by go_num, by rw [hln], by rw [hcz]⟩
          case measure => simp [intOf]; omega
        · have hCb : (C == b) = false := by rw [hLa] at hc2; simpa using hc2
          go_wp2_with fail
          go_round
          case rel => exact ⟨j + 1, by omega, by go_num, by rw [hln], by rw [hcz]⟩
          case measure => simp [intOf]; omega
      · have hcz := colZ_step l j hkl hc
        rw [if_neg hc] at hln
        have h10 : (((bs l)[j].toNat : Int) == 10) = false := by
          rw [hgb]
          cases hq : (((l.getD j 0).toNat : Int) == 10)
          · rfl
          · exact absurd (by apply UInt8.toNat_inj.1; show _ = 10; have := eq_of_beq hq; omega) hc
        clear hgb hc
        generalize lineN l j = L at *
        generalize colZ l j = C at *
        cases hLa : (L == a)
        · go_wp2_with fail
          go_round
          case rel => exact ⟨j + 1, by omega, by go_num, by rw [hln]; simp, by rw [hcz]⟩
          case measure => simp [intOf]; omega
        · have hCb : (C == b) = false := by rw [hLa] at hc2; simpa using hc2
          go_wp2_with fail
          go_round
          case rel => exact ⟨j + 1, by omega, by go_num, by rw [hln]; simp, by rw [hcz]⟩
          case measure => simp [intOf]; omega
    · obtain rfl : j = k := by omega
      have e1 : (lineN l j == a) = true := by rw [h1]; simp
      have e2 : (colZ l j == b) = true := by rw [h2]; simp
      clear h1 h2
      generalize lineN l j = L at *
      generalize colZ l j = C at *
      go_wp2_with fail
      go_ret
      exact ⟨rfl, (Up.refl w).alloc _⟩

end Go.Proofs.Ytgkknjlegfdcnaa.Lx
