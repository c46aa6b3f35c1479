/- Contracts: number. -/
import Derived.Test.YtgkknjlegfdcnaaDoorLexB
namespace Go.Proofs.YtgkknjlegfdcnaaDoor.Lx
open Go.RowKit Go.Shelf Go.Proofs.YtgkknjlegfdcnaaDoor.Cal

theorem bs_drop (l : List UInt8) (n : Nat) : (bs l).extract n (bs l).size = bs (l.drop n) := by
  apply ByteArray.ext
  rw [ByteArray.data_extract, bs_size]
  simp [bs]
  rw [List.take_of_length_le (by rw [List.length_drop]; omega)]

def numR (ok : Bool) (n : Nat) (eb : Bool) : Nat × Nat := if (ok = true ∧ n ≤ 200) ∧ eb = true then (n, 0) else (0, 112)

theorem numR_yes {ok eb : Bool} {n : Nat} (h : ok = true) (h2 : n ≤ 200) (h3 : eb = true) : numR ok n eb = (n, 0) := if_pos ⟨⟨h, h2⟩, h3⟩
theorem numR_ok {eb : Bool} {n : Nat} : numR false n eb = (0, 112) := by simp [numR]
theorem numR_eb {ok : Bool} {n : Nat} : numR ok n false = (0, 112) := by simp [numR]
theorem numR_len {ok eb : Bool} {n : Nat} (h : ¬ n ≤ 200) : numR ok n eb = (0, 112) := by simp [numR, h]

set_option maxHeartbeats 8000000 in
theorem number_B (B : ByteArray) (n : Nat) (a1 a2 eb : Bool) (w : World) (_hs3 : B.size ≤ 100000) (hs0 : 0 < B.size) (hn2 : n ≤ B.size)
    (h1 : ((B[0].toNat : Int) != 48) = a1) (h2 : ((n : Int) == 1) = a2)
    (H1 : Hid (∀ w, Calls Tryd.prog 12 #[.string B, .func (.func 19) #[] #[]] w fun e w' => e = .returned (.int .i64 (n : Int)) ∧ w = w'))
    (H3 : Hid (∀ w, Calls Tryd.prog 35 #[.string B, .int .i64 (n : Int)] w fun e w' => e = .returned (.bool eb) ∧ w = w'))
    (hr : ((B.size - n : Nat) : Int) ≤ 1 ∨ ∃ (hx : 1 < (B.extract n B.size).size), ((((B.extract n B.size)[0]'(by omega)).toNat : Int) == 47) = false ∨ ((((B.extract n B.size)[0]'(by omega)).toNat : Int) == 47) = true ∧ digB ((B.extract n B.size)[1]) = false) :
    Calls Tryd.prog 36 #[.string B] w fun e w' => e = .returned (.tuple #[.int .i64 ((numR (a1 || a2) n eb).1 : Int), .int .i64 ((numR (a1 || a2) n eb).2 : Int)]) ∧ w = w' := by
  rcases hr with hr | ⟨hx, hr | ⟨hr, hd⟩⟩
  · (
      by_cases h200 : n ≤ 200
      · cases eb
        · cases a1 <;> cases a2 <;> (rw [numR_eb]; (
            go_enter Tryd.func36, Tryd.ntmps36
            go_wp2_with fail
            refine (H1.out _).mono ?_
            rintro e w1 ⟨rfl, rfl⟩
            go_wp2_with (first | (go_at_call 35; refine (H3.out _).mono ?_; rintro e w3 ⟨rfl, rfl⟩))
            go_ret2
            exact ⟨rfl, rfl⟩))
        · cases a1
          · cases a2
            · simp only [Bool.or_false]; rw [numR_ok]; (
                go_enter Tryd.func36, Tryd.ntmps36
                go_wp2_with fail
                refine (H1.out _).mono ?_
                rintro e w1 ⟨rfl, rfl⟩
                go_wp2_with (first | (go_at_call 35; refine (H3.out _).mono ?_; rintro e w3 ⟨rfl, rfl⟩))
                go_ret2
                exact ⟨rfl, rfl⟩)
            · simp only [Bool.or_true]; rw [numR_yes rfl h200 rfl]; (
                go_enter Tryd.func36, Tryd.ntmps36
                go_wp2_with fail
                refine (H1.out _).mono ?_
                rintro e w1 ⟨rfl, rfl⟩
                go_wp2_with (first | (go_at_call 35; refine (H3.out _).mono ?_; rintro e w3 ⟨rfl, rfl⟩))
                go_ret2
                exact ⟨rfl, rfl⟩)
          · cases a2 <;> (simp only [Bool.or_true, Bool.or_false]; rw [numR_yes rfl h200 rfl]; (
              go_enter Tryd.func36, Tryd.ntmps36
              go_wp2_with fail
              refine (H1.out _).mono ?_
              rintro e w1 ⟨rfl, rfl⟩
              go_wp2_with (first | (go_at_call 35; refine (H3.out _).mono ?_; rintro e w3 ⟨rfl, rfl⟩))
              go_ret2
              exact ⟨rfl, rfl⟩))
      · rw [numR_len h200]
        cases a1 <;> cases a2 <;> ((
            go_enter Tryd.func36, Tryd.ntmps36
            go_wp2_with fail
            refine (H1.out _).mono ?_
            rintro e w1 ⟨rfl, rfl⟩
            go_wp2_with (first | (go_at_call 35; refine (H3.out _).mono ?_; rintro e w3 ⟨rfl, rfl⟩))
            go_ret2
            exact ⟨rfl, rfl⟩)))
  · have hx2 : 1 < ((B.size - n : Nat) : Int) := by simp at hx; omega
    (
        by_cases h200 : n ≤ 200
        · cases eb
          · cases a1 <;> cases a2 <;> (rw [numR_eb]; (
              go_enter Tryd.func36, Tryd.ntmps36
              go_wp2_with fail
              refine (H1.out _).mono ?_
              rintro e w1 ⟨rfl, rfl⟩
              go_wp2_with (first | (go_at_call 35; refine (H3.out _).mono ?_; rintro e w3 ⟨rfl, rfl⟩))
              go_ret2
              exact ⟨rfl, rfl⟩))
          · cases a1
            · cases a2
              · simp only [Bool.or_false]; rw [numR_ok]; (
                  go_enter Tryd.func36, Tryd.ntmps36
                  go_wp2_with fail
                  refine (H1.out _).mono ?_
                  rintro e w1 ⟨rfl, rfl⟩
                  go_wp2_with (first | (go_at_call 35; refine (H3.out _).mono ?_; rintro e w3 ⟨rfl, rfl⟩))
                  go_ret2
                  exact ⟨rfl, rfl⟩)
              · simp only [Bool.or_true]; rw [numR_yes rfl h200 rfl]; (
                  go_enter Tryd.func36, Tryd.ntmps36
                  go_wp2_with fail
                  refine (H1.out _).mono ?_
                  rintro e w1 ⟨rfl, rfl⟩
                  go_wp2_with (first | (go_at_call 35; refine (H3.out _).mono ?_; rintro e w3 ⟨rfl, rfl⟩))
                  go_ret2
                  exact ⟨rfl, rfl⟩)
            · cases a2 <;> (simp only [Bool.or_true, Bool.or_false]; rw [numR_yes rfl h200 rfl]; (
                go_enter Tryd.func36, Tryd.ntmps36
                go_wp2_with fail
                refine (H1.out _).mono ?_
                rintro e w1 ⟨rfl, rfl⟩
                go_wp2_with (first | (go_at_call 35; refine (H3.out _).mono ?_; rintro e w3 ⟨rfl, rfl⟩))
                go_ret2
                exact ⟨rfl, rfl⟩))
        · rw [numR_len h200]
          cases a1 <;> cases a2 <;> ((
              go_enter Tryd.func36, Tryd.ntmps36
              go_wp2_with fail
              refine (H1.out _).mono ?_
              rintro e w1 ⟨rfl, rfl⟩
              go_wp2_with (first | (go_at_call 35; refine (H3.out _).mono ?_; rintro e w3 ⟨rfl, rfl⟩))
              go_ret2
              exact ⟨rfl, rfl⟩)))
  · have hx2 : 1 < ((B.size - n : Nat) : Int) := by simp at hx; omega
    have H2 := Lib.hid (digit_is _ false hd)
    clear hd
    (
        by_cases h200 : n ≤ 200
        · cases eb
          · cases a1 <;> cases a2 <;> (rw [numR_eb]; (
              go_enter Tryd.func36, Tryd.ntmps36
              go_wp2_with fail
              refine (H1.out _).mono ?_
              rintro e w1 ⟨rfl, rfl⟩
              go_wp2_with (first | (go_at_call 19; refine (H2.out _).mono ?_; rintro e w2 ⟨rfl, rfl⟩) | (go_at_call 35; refine (H3.out _).mono ?_; rintro e w3 ⟨rfl, rfl⟩))
              go_ret2
              exact ⟨rfl, rfl⟩))
          · cases a1
            · cases a2
              · simp only [Bool.or_false]; rw [numR_ok]; (
                  go_enter Tryd.func36, Tryd.ntmps36
                  go_wp2_with fail
                  refine (H1.out _).mono ?_
                  rintro e w1 ⟨rfl, rfl⟩
                  go_wp2_with (first | (go_at_call 19; refine (H2.out _).mono ?_; rintro e w2 ⟨rfl, rfl⟩) | (go_at_call 35; refine (H3.out _).mono ?_; rintro e w3 ⟨rfl, rfl⟩))
                  go_ret2
                  exact ⟨rfl, rfl⟩)
              · simp only [Bool.or_true]; rw [numR_yes rfl h200 rfl]; (
                  go_enter Tryd.func36, Tryd.ntmps36
                  go_wp2_with fail
                  refine (H1.out _).mono ?_
                  rintro e w1 ⟨rfl, rfl⟩
                  go_wp2_with (first | (go_at_call 19; refine (H2.out _).mono ?_; rintro e w2 ⟨rfl, rfl⟩) | (go_at_call 35; refine (H3.out _).mono ?_; rintro e w3 ⟨rfl, rfl⟩))
                  go_ret2
                  exact ⟨rfl, rfl⟩)
            · cases a2 <;> (simp only [Bool.or_true, Bool.or_false]; rw [numR_yes rfl h200 rfl]; (
                go_enter Tryd.func36, Tryd.ntmps36
                go_wp2_with fail
                refine (H1.out _).mono ?_
                rintro e w1 ⟨rfl, rfl⟩
                go_wp2_with (first | (go_at_call 19; refine (H2.out _).mono ?_; rintro e w2 ⟨rfl, rfl⟩) | (go_at_call 35; refine (H3.out _).mono ?_; rintro e w3 ⟨rfl, rfl⟩))
                go_ret2
                exact ⟨rfl, rfl⟩))
        · rw [numR_len h200]
          cases a1 <;> cases a2 <;> ((
              go_enter Tryd.func36, Tryd.ntmps36
              go_wp2_with fail
              refine (H1.out _).mono ?_
              rintro e w1 ⟨rfl, rfl⟩
              go_wp2_with (first | (go_at_call 19; refine (H2.out _).mono ?_; rintro e w2 ⟨rfl, rfl⟩) | (go_at_call 35; refine (H3.out _).mono ?_; rintro e w3 ⟨rfl, rfl⟩))
              go_ret2
              exact ⟨rfl, rfl⟩)))

end Go.Proofs.YtgkknjlegfdcnaaDoor.Lx
