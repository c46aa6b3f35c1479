/- Contracts: number, with a stroke. -/
import Derived.Test.YtgkknjlegfdcnaaDoorLexC
namespace Go.Proofs.YtgkknjlegfdcnaaDoor.Lx
open Go.RowKit Go.Shelf Go.Proofs.YtgkknjlegfdcnaaDoor.Cal

set_option maxHeartbeats 8000000 in
theorem number_A (B : ByteArray) (n m p : Nat) (a1 a2 a3 eb : Bool) (w : World) (hs3 : B.size ≤ 100000) (hs0 : 0 < B.size) (hn2 : n ≤ B.size) (hm2 : m ≤ B.size) (hp : (n : Int) + (1 + (m : Int)) = (p : Int))
    (h1 : ((B[0].toNat : Int) != 48) = a1) (h2 : ((n : Int) == 1) = a2)
    (H1 : Hid (∀ w, Calls Tryd.prog 12 #[.string B, .func (.func 19) #[] #[]] w fun e w' => e = .returned (.int .i64 (n : Int)) ∧ w = w'))
    (H4 : Hid (∀ w, Calls Tryd.prog 12 #[.string ((B.extract n B.size).extract 1 (B.size - n)), .func (.func 19) #[] #[]] w fun e w' => e = .returned (.int .i64 (m : Int)) ∧ w = w'))
    (H3 : Hid (∀ w, Calls Tryd.prog 35 #[.string B, .int .i64 (p : Int)] w fun e w' => e = .returned (.bool eb) ∧ w = w'))
    (hx : 1 < (B.extract n B.size).size) (hr : ((((B.extract n B.size)[0]'(by omega)).toNat : Int) == 47) = true) (hd : digB ((B.extract n B.size)[1]) = true)
    (h3 : ((((B.extract n B.size)[1]).toNat : Int) != 48) = a3) :
    Calls Tryd.prog 36 #[.string B] w fun e w' => e = .returned (.tuple #[.int .i64 ((numR ((a1 || a2) && a3) p eb).1 : Int), .int .i64 ((numR ((a1 || a2) && a3) p eb).2 : Int)]) ∧ w = w' := by
  have hx2 : 1 < ((B.size - n : Nat) : Int) := by simp at hx; omega
  have H2 := Lib.hid (digit_is _ true hd)
  clear hd
  (
      by_cases h200 : p ≤ 200
      · cases eb
        · cases a1 <;> cases a2 <;> cases a3 <;> (rw [numR_eb]; (
            (
                go_enter Tryd.func36, Tryd.ntmps36
                go_wp2_with fail
                refine (H1.out _).mono ?_
                rintro e w1 ⟨rfl, rfl⟩
                go_wp2_with (first | (go_at_call 19; refine (H2.out _).mono ?_; rintro e w2 ⟨rfl, rfl⟩) | (go_at_call 35; refine (H3.out _).mono ?_; rintro e w3 ⟨rfl, rfl⟩) | (go_at_call 12; refine (H4.out _).mono ?_; rintro e w4 ⟨rfl, rfl⟩))
                go_ret2
                exact ⟨rfl, rfl⟩)))
        · cases a3
          · cases a1 <;> cases a2 <;> (simp only [Bool.and_false]; rw [numR_ok]; (
              (
                  go_enter Tryd.func36, Tryd.ntmps36
                  go_wp2_with fail
                  refine (H1.out _).mono ?_
                  rintro e w1 ⟨rfl, rfl⟩
                  go_wp2_with (first | (go_at_call 19; refine (H2.out _).mono ?_; rintro e w2 ⟨rfl, rfl⟩) | (go_at_call 35; refine (H3.out _).mono ?_; rintro e w3 ⟨rfl, rfl⟩) | (go_at_call 12; refine (H4.out _).mono ?_; rintro e w4 ⟨rfl, rfl⟩))
                  go_ret2
                  exact ⟨rfl, rfl⟩)))
          · cases a1
            · cases a2
              · simp only [Bool.or_false, Bool.false_and]; rw [numR_ok]; (
                  (
                      go_enter Tryd.func36, Tryd.ntmps36
                      go_wp2_with fail
                      refine (H1.out _).mono ?_
                      rintro e w1 ⟨rfl, rfl⟩
                      go_wp2_with (first | (go_at_call 19; refine (H2.out _).mono ?_; rintro e w2 ⟨rfl, rfl⟩) | (go_at_call 35; refine (H3.out _).mono ?_; rintro e w3 ⟨rfl, rfl⟩) | (go_at_call 12; refine (H4.out _).mono ?_; rintro e w4 ⟨rfl, rfl⟩))
                      go_ret2
                      exact ⟨rfl, rfl⟩))
              · simp only [Bool.or_true, Bool.true_and]; rw [numR_yes rfl h200 rfl]; (
                  (
                      go_enter Tryd.func36, Tryd.ntmps36
                      go_wp2_with fail
                      refine (H1.out _).mono ?_
                      rintro e w1 ⟨rfl, rfl⟩
                      go_wp2_with (first | (go_at_call 19; refine (H2.out _).mono ?_; rintro e w2 ⟨rfl, rfl⟩) | (go_at_call 35; refine (H3.out _).mono ?_; rintro e w3 ⟨rfl, rfl⟩) | (go_at_call 12; refine (H4.out _).mono ?_; rintro e w4 ⟨rfl, rfl⟩))
                      go_ret2
                      exact ⟨rfl, rfl⟩))
            · cases a2 <;> (simp only [Bool.or_true, Bool.or_false, Bool.true_and]; rw [numR_yes rfl h200 rfl]; (
                (
                    go_enter Tryd.func36, Tryd.ntmps36
                    go_wp2_with fail
                    refine (H1.out _).mono ?_
                    rintro e w1 ⟨rfl, rfl⟩
                    go_wp2_with (first | (go_at_call 19; refine (H2.out _).mono ?_; rintro e w2 ⟨rfl, rfl⟩) | (go_at_call 35; refine (H3.out _).mono ?_; rintro e w3 ⟨rfl, rfl⟩) | (go_at_call 12; refine (H4.out _).mono ?_; rintro e w4 ⟨rfl, rfl⟩))
                    go_ret2
                    exact ⟨rfl, rfl⟩)))
      · rw [numR_len h200]
        cases a1 <;> cases a2 <;> cases a3 <;> (
            (
                go_enter Tryd.func36, Tryd.ntmps36
                go_wp2_with fail
                refine (H1.out _).mono ?_
                rintro e w1 ⟨rfl, rfl⟩
                go_wp2_with (first | (go_at_call 19; refine (H2.out _).mono ?_; rintro e w2 ⟨rfl, rfl⟩) | (go_at_call 35; refine (H3.out _).mono ?_; rintro e w3 ⟨rfl, rfl⟩) | (go_at_call 12; refine (H4.out _).mono ?_; rintro e w4 ⟨rfl, rfl⟩))
                go_ret2
                exact ⟨rfl, rfl⟩)))

end Go.Proofs.YtgkknjlegfdcnaaDoor.Lx
