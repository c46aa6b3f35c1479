/- CalendarWhole: whole months between two dates. -/
import Derived.Test.YtblgiojmodoilaaLater
namespace Go.Proofs.Ytblgiojmodoilaa.Cal
open Go.RowKit Go.Shelf

theorem bw_self (a : Int) (h0 : 0 ≤ a) (h1 : a < 65536) : bw a a = 0 := by
  refine bw_uniq a a 0 h0 (by omega) h1 ?_ ?_
  · have := addN_zero a h0 h1
    show addN a 0 ≤ a; omega
  · have h := addN_lt a 0 h0 h1
    have := addN_zero a h0 h1
    have e : addN a ((0 : Nat) : Int) = addN a 0 := rfl
    omega

theorem addB_bw (a b : Int) (h0 : 0 ≤ a) (hab : a ≤ b) (h1 : b < 65536) : addB a (bw a b) = true := by
  have hs := bw_spec a b h0 hab h1
  have hm := bw_mo a b h0 hab h1
  exact addB_true (by unfold moZ; omega) (by unfold moZ; omega) (by omega)

theorem addN_ge (a : Int) (n : Nat) (h0 : 0 ≤ a) (h1 : a < 65536) : a ≤ addN a n := by
  have hz := addN_zero a h0 h1
  by_cases e : n = 0
  · subst e; show a ≤ addN a 0; omega
  · have := addN_smono a h0 h1 (show 0 < n by omega)
    have e : addN a ((0 : Nat) : Int) = addN a 0 := rfl
    omega

theorem bw_pair (a b : Int) (h0 : 0 ≤ a) (hab : a ≤ b) (h1 : b < 65536) : bwV a b = (bw a b : Int) ∧ bwE a b = 0 ∧ bwV b a = -(bw a b : Int) ∧ bwE b a = 0 ∧ ageV a b = (bw a b : Int) / 12 ∧ ageE a b = 0 := by
  have d1 : dateB a = true := dateB_true h0 (by omega)
  have d2 : dateB b = true := dateB_true (by omega) h1
  have hB : bwB a b = true := by simp [bwB, d1, d2]
  have hB2 : bwB b a = true := by simp [bwB, d1, d2]
  have e1 : bwV a b = (bw a b : Int) := by rw [bwV, if_pos hB, if_neg (by omega)]
  have e2 : bwE a b = 0 := by rw [bwE, if_pos hB]
  refine ⟨e1, e2, ?_, by rw [bwE, if_pos hB2], by rw [ageV, if_neg (by omega), e1], by rw [ageE, if_neg (by omega), e2]⟩
  by_cases c : a < b
  · rw [bwV, if_pos hB2, if_pos c]
  · obtain rfl : a = b := by omega
    rw [e1, bw_self a h0 h1]; rfl

set_option maxRecDepth 100000 in
set_option maxHeartbeats 4000000 in
theorem whole9_core (x y a b p q : Int) (w : World) (N : Nat) (X Y H : Int) (ha : 0 ≤ a ∧ a ≤ b) (hb : b < 65536) (hN : N < 2154) (hX : a ≤ X ∧ X ≤ b)
    (hpq : (p = a ∧ q = b) ∨ (p = b ∧ q = a ∧ a < b))
    (P1 : Hid (∀ w, Calls Try.prog 28 #[.int .i64 x, .int .i64 65536] w fun e w' => e = .returned (.int .i64 p) ∧ w = w'))
    (P2 : Hid (∀ w, Calls Try.prog 28 #[.int .i64 y, .int .i64 65536] w fun e w' => e = .returned (.int .i64 q) ∧ w = w'))
    (H1 : Hid (∀ w, Calls Try.prog 30 #[.int .i64 a, .int .i64 b] w fun e w' => e = .returned (.tuple #[.int .i64 (N : Int), .int .i64 0]) ∧ Up w w'))
    (H2 : Hid (∀ w, Calls Try.prog 30 #[.int .i64 b, .int .i64 a] w fun e w' => e = .returned (.tuple #[.int .i64 (-(N : Int)), .int .i64 0]) ∧ Up w w'))
    (H3 : Hid (∀ w, Calls Try.prog 29 #[.int .i64 a, .int .i64 (N : Int)] w fun e w' => e = .returned (.tuple #[.int .i64 X, .int .i64 0]) ∧ Up w w'))
    (H4 : Hid (∀ w, Calls Try.prog 29 #[.int .i64 a, .int .i64 ((N : Int) + 1)] w fun e w' => e = .returned (.tuple #[.int .i64 Y, .int .i64 H]) ∧ Up w w'))
    (H5 : Hid (∀ w, Calls Try.prog 31 #[.int .i64 a, .int .i64 b] w fun e w' => e = .returned (.tuple #[.int .i64 ((N : Int) / 12), .int .i64 0]) ∧ Up w w'))
    (h : H = 30 ∨ (H = 0 ∧ b < Y)) :
    Calls Try.prog 9 #[.int .i64 x, .int .i64 y] w fun e w' => e = .returned (.bool true) ∧ Up w w' := by
  have hpq2 : (p = a ∧ q = b ∧ a < b) ∨ (p = a ∧ q = a ∧ a = b) ∨ (p = b ∧ q = a ∧ a < b) := by omega
  clear hpq
  rcases hpq2 with ⟨rfl, rfl, hlt⟩ | ⟨rfl, rfl, rfl⟩ | ⟨rfl, rfl, hlt⟩
  all_goals
    rcases h with rfl | ⟨rfl, h⟩
    all_goals
      go_enter Try.func9, Try.ntmps9
      go_wp2_with fail
      refine (awake21 _).mono ?_
      rintro e w1 ⟨rfl, u1⟩
      go_wp2_with fail
      refine (P1.out _).mono ?_
      rintro e w2 ⟨rfl, rfl⟩
      go_wp2_with fail
      refine (P2.out _).mono ?_
      rintro e w2 ⟨rfl, rfl⟩
      go_wp2_with fail
      refine (H1.out _).mono ?_
      rintro e w2 ⟨rfl, u2⟩
      go_wp2_with fail
      refine (H2.out _).mono ?_
      rintro e w3 ⟨rfl, u3⟩
      go_wp2_with fail
      refine (H3.out _).mono ?_
      rintro e w4 ⟨rfl, u4⟩
      go_wp2_with fail
      refine (H4.out _).mono ?_
      rintro e w5 ⟨rfl, u5⟩
      go_wp2_with fail
      refine (H5.out _).mono ?_
      rintro e w6 ⟨rfl, u6⟩
      go_wp2_with fail
      go_ret
      exact ⟨rfl, u1.trans <| u2.trans <| u3.trans <| u4.trans <| u5.trans u6⟩

theorem whole9_at (x y a b p q : Int) (w : World) (h0 : 0 ≤ a) (hab : a ≤ b) (h1 : b < 65536) (hp : x % 65536 = p) (hq : y % 65536 = q) (hpq : (p = a ∧ q = b) ∨ (p = b ∧ q = a ∧ a < b)) :
    Calls Try.prog 9 #[.int .i64 x, .int .i64 y] w fun e w' => e = .returned (.bool true) ∧ Up w w' := by
  obtain ⟨e1, e2, e3, e4, e5, e6⟩ := bw_pair a b h0 hab h1
  have hs := bw_spec a b h0 hab h1
  have hlt := bw_lt a b h0 hab h1
  have hge := addN_ge a (bw a b) h0 (by omega)
  have hv : addV a (bw a b) = addN a (bw a b) ∧ addE a (bw a b) = 0 := by simp [addV, addE, dateB_true h0 (show a < 65536 by omega), addB_bw a b h0 hab h1]
  refine whole9_core x y a b p q w (bw a b) (addN a (bw a b)) (addV a (bw a b + 1 : Int)) (addE a (bw a b + 1 : Int)) ⟨h0, hab⟩ h1 (by omega) ⟨hge, hs.1⟩ hpq
    (Lib.hid (fun w => by rw [← hp]; exact pick28 x 65536 w (by omega) (by omega))) (Lib.hid (fun w => by rw [← hq]; exact pick28 y 65536 w (by omega) (by omega)))
    (Lib.hid (fun w => d30_is ⟨e1, e2⟩ w)) (Lib.hid (fun w => d30_is ⟨e3, e4⟩ w)) (Lib.hid (fun w => d29_is hv w)) (Lib.hid (fun w => add29 _ _ w)) (Lib.hid (fun w => d31_is ⟨e5, e6⟩ w)) ?_
  cases hB : addB a (bw a b + 1 : Int)
  · left; simp [addE, dateB_true h0 (show a < 65536 by omega), hB]
  · right
    have h2 := hs.2
    rw [show ((bw a b + 1 : Nat) : Int) = (bw a b : Int) + 1 by omega] at h2
    simp [addE, addV, dateB_true h0 (show a < 65536 by omega), hB, h2]

theorem whole9 (x y : Int) (w : World) : Calls Try.prog 9 #[.int .i64 x, .int .i64 y] w fun e w' => e = .returned (.bool true) ∧ Up w w' := by
  have hx0 := Int.emod_nonneg x (show (65536 : Int) ≠ 0 by decide)
  have hx1 := Int.emod_lt_of_pos x (show (0 : Int) < 65536 by decide)
  have hy0 := Int.emod_nonneg y (show (65536 : Int) ≠ 0 by decide)
  have hy1 := Int.emod_lt_of_pos y (show (0 : Int) < 65536 by decide)
  by_cases h : x % 65536 ≤ y % 65536
  · exact whole9_at x y (x % 65536) (y % 65536) _ _ w hx0 h hy1 rfl rfl (Or.inl ⟨rfl, rfl⟩)
  · exact whole9_at x y (y % 65536) (x % 65536) _ _ w hy0 (by omega) hx1 rfl rfl (Or.inr ⟨rfl, rfl, by omega⟩)

theorem whole_any (x y : Int) (w : World) (_ : (Lit.int .i64 x).wf = true) (_ : (Lit.int .i64 y).wf = true) :
    Calls Try.prog 9 #[.int .i64 x, .int .i64 y] w fun e w' => e = .returned (.bool true) ∧ Below w.heap.size w w' := whole9 x y w

end Go.Proofs.Ytblgiojmodoilaa.Cal
