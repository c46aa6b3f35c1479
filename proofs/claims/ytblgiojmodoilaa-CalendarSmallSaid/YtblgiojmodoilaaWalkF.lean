/- Contracts: Add, Between, Age. -/
import Derived.Test.YtblgiojmodoilaaWalkE
namespace Go.Proofs.Ytblgiojmodoilaa.Cal
open Go.RowKit Go.Shelf

def addN (d n : Int) : Int := (st (moZ d + n).toNat : Int) + min (ddZ d) ((sz (moZ d + n).toNat : Int) - 1)
def addB (d n : Int) : Bool := decide (0 ≤ moZ d + n ∧ moZ d + n < 2154 ∧ addN d n < 65536)
theorem addB_true {d n : Int} (h1 : 0 ≤ moZ d + n) (h2 : moZ d + n < 2154) (h3 : addN d n < 65536) : addB d n = true := by simp [addB, h1, h2, h3]
theorem addB_false {d n : Int} (h : moZ d + n < 0 ∨ 2154 ≤ moZ d + n ∨ 65536 ≤ addN d n) : addB d n = false := by
  unfold addB; simp; omega
def addV (d n : Int) : Int := if dateB d = true then (if addB d n = true then addN d n else 0) else 0
def addE (d n : Int) : Int := if dateB d = true then (if addB d n = true then 0 else 30) else 2

theorem size46_is (k S : Int) (w : World) (h0 : 0 ≤ k) (h1 : k ≤ 100000) (hS : (sz k.toNat : Int) = S) : Calls Try.prog 46 #[.int .i64 k] w fun e w' => e = .returned (.int .i64 S) ∧ Up w w' := by
  rw [← hS]; exact size46 k w h0 h1

theorem ret2_int {a b x : Int} (h : a = b) : Ending.returned (.tuple #[.int .i64 a, .int .i64 x]) = Ending.returned (.tuple #[.int .i64 b, .int .i64 x]) := by rw [h]

set_option maxHeartbeats 2000000 in
theorem add29 (d n : Int) (w : World) :
    Calls Try.prog 29 #[.int .i64 d, .int .i64 n] w fun e w' => e = .returned (.tuple #[.int .i64 (addV d n), .int .i64 (addE d n)]) ∧ Up w w' := by
  rcases date_cases d with ⟨h0, h1⟩ | h
  · have hb1 := moZ_bd d h1
    have hb2 := ddZ_bd d h0 h1
    have hb3 := sz_bd (mo d.toNat)
    by_cases hn1 : n < - moZ d
    · simp only [addV, addE, dateB_true h0 h1, addB_false (d := d) (n := n) (Or.inl (by omega))]
      go_enter Try.func29, Try.ntmps29
      go_wp2_with (first | (go_at_call 37; refine (date37_yes _ _ h0 h1).mono ?_; rintro e w' ⟨rfl, rfl⟩) | (go_at_call 45; refine (split45 _ _ h0 h1).mono ?_; rintro e w' ⟨rfl, hup⟩))
      go_ret2
      exact ⟨rfl, hup⟩
    · by_cases hn2 : 2154 - moZ d ≤ n
      · simp only [addV, addE, dateB_true h0 h1, addB_false (d := d) (n := n) (Or.inr (Or.inl (by omega)))]
        go_enter Try.func29, Try.ntmps29
        go_wp2_with (first | (go_at_call 37; refine (date37_yes _ _ h0 h1).mono ?_; rintro e w' ⟨rfl, rfl⟩) | (go_at_call 45; refine (split45 _ _ h0 h1).mono ?_; rintro e w' ⟨rfl, hup⟩))
        go_ret2
        exact ⟨rfl, hup⟩
      · have hst := st_bd (moZ d + n).toNat (by omega)
        have hsz := sz_bd (moZ d + n).toNat
        by_cases ho : addN d n < 65536
        · simp only [addV, addE, dateB_true h0 h1, addB_true (d := d) (n := n) (by omega) (by omega) ho, if_true]
          unfold addN at ho ⊢
          generalize hS : (st (moZ d + n).toNat : Int) = S at *
          have HS := Lib.hid hS
          clear hS
          generalize hZ : sz (moZ d + n).toNat = Z at *
          have HZ := Lib.hid hZ
          clear hZ
          go_enter Try.func29, Try.ntmps29
          go_wp2_with (first | (go_at_call 37; refine (date37_yes _ _ (by omega) (by omega)).mono ?_; rintro e w' ⟨rfl, rfl⟩) | (go_at_call 45; refine (split45 _ _ h0 h1).mono ?_; rintro e w' ⟨rfl, hup⟩) | (go_at_call 36; refine (start36_is _ S _ (by omega) (by omega) HS.out).mono ?_; rintro e w2 ⟨rfl, hup2⟩) | (go_at_call 46; refine (size46_is _ Z _ (by omega) (by omega) (by rw [HZ.out])).mono ?_; rintro e w3 ⟨rfl, hup3⟩))
          all_goals go_ret2
          all_goals exact ⟨ret2_int (by omega), (hup.trans hup2).trans hup3⟩
        · simp only [addV, addE, dateB_true h0 h1, addB_false (d := d) (n := n) (Or.inr (Or.inr (by omega)))]
          unfold addN at ho
          generalize hS : (st (moZ d + n).toNat : Int) = S at *
          have HS := Lib.hid hS
          clear hS
          generalize hZ : sz (moZ d + n).toNat = Z at *
          have HZ := Lib.hid hZ
          clear hZ
          go_enter Try.func29, Try.ntmps29
          go_wp2_with (first | (go_at_call 37; refine (date37_yes _ _ h0 h1).mono ?_; rintro e w' ⟨rfl, rfl⟩) | (go_at_call 37; refine (date37_no _ _ (by omega)).mono ?_; rintro e w' ⟨rfl, rfl⟩) | (go_at_call 45; refine (split45 _ _ h0 h1).mono ?_; rintro e w' ⟨rfl, hup⟩) | (go_at_call 36; refine (start36_is _ S _ (by omega) (by omega) HS.out).mono ?_; rintro e w2 ⟨rfl, hup2⟩) | (go_at_call 46; refine (size46_is _ Z _ (by omega) (by omega) (by rw [HZ.out])).mono ?_; rintro e w3 ⟨rfl, hup3⟩))
          all_goals go_ret2
          all_goals exact ⟨rfl, (hup.trans hup2).trans hup3⟩
  · simp only [addV, addE, dateB_false h]
    go_enter Try.func29, Try.ntmps29
    go_wp2_with (first | (go_at_call 37; refine (date37_no _ _ h).mono ?_; rintro e w' ⟨rfl, rfl⟩))
    go_ret2
    exact ⟨rfl, Up.refl _⟩

end Go.Proofs.Ytblgiojmodoilaa.Cal
