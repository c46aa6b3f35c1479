/- Contracts: YMD, Month, First, Weekday, Day, each with ONE answer for every input. -/
import Derived.Test.YtblgiojmodoilaaWalkD
namespace Go.Proofs.Ytblgiojmodoilaa.Cal
open Go.RowKit Go.Shelf

def eR (d : Int) : Int := if dateB d = true then 0 else 2
def yR (d : Int) : Int := if dateB d = true then yZ d else 0
def mR (d : Int) : Int := if dateB d = true then mZ d else 0
def dR (d : Int) : Int := if dateB d = true then dZ d else 0
def monR (d : Int) : Int := if dateB d = true then moZ d else 0
def wkR (d : Int) : Int := if dateB d = true then d % 7 + 1 else 0

theorem date_cases (d : Int) : (0 ≤ d ∧ d < 65536) ∨ (d < 0 ∨ 65536 ≤ d) := by omega

theorem ymd24 (d : Int) (w : World) :
    Calls Try.prog 24 #[.int .i64 d] w fun e w' => e = .returned (.tuple #[.int .i64 (yR d), .int .i64 (mR d), .int .i64 (dR d), .int .i64 (eR d)]) ∧ Up w w' := by
  rcases date_cases d with ⟨h0, h1⟩ | h
  · simp only [yR, mR, dR, eR, dateB_true h0 h1]
    exact ymd24_yes d w h0 h1
  · simp only [yR, mR, dR, eR, dateB_false h]
    exact (ymd24_no d w h).mono fun _ _ ⟨he, hw⟩ => ⟨he, hw ▸ Up.refl _⟩

set_option maxHeartbeats 1000000 in
theorem month26 (d : Int) (w : World) :
    Calls Try.prog 26 #[.int .i64 d] w fun e w' => e = .returned (.tuple #[.int .i64 (monR d), .int .i64 (eR d)]) ∧ Up w w' := by
  rcases date_cases d with ⟨h0, h1⟩ | h
  · simp only [monR, eR, dateB_true h0 h1]
    go_enter Try.func26, Try.ntmps26
    go_wp2_with (first | (go_at_call 37; refine (date37_yes _ _ h0 h1).mono ?_; rintro e w' ⟨rfl, rfl⟩) | (go_at_call 45; refine (split45 _ _ h0 h1).mono ?_; rintro e w' ⟨rfl, hup⟩))
    go_ret2
    exact ⟨rfl, hup⟩
  · simp only [monR, eR, dateB_false h]
    go_enter Try.func26, Try.ntmps26
    go_wp2_with (first | (go_at_call 37; refine (date37_no _ _ h).mono ?_; rintro e w' ⟨rfl, rfl⟩))
    go_ret2
    exact ⟨rfl, Up.refl _⟩

theorem weekday25 (d : Int) (w : World) :
    Calls Try.prog 25 #[.int .i64 d] w fun e w' => e = .returned (.tuple #[.int .i64 (wkR d), .int .i64 (eR d)]) ∧ w = w' := by
  rcases date_cases d with ⟨h0, h1⟩ | h
  · simp only [wkR, eR, dateB_true h0 h1]
    go_enter Try.func25, Try.ntmps25
    go_wp2_with (first | (go_at_call 37; refine (date37_yes _ _ h0 h1).mono ?_; rintro e w' ⟨rfl, rfl⟩))
    go_ret2
    exact ⟨rfl, rfl⟩
  · simp only [wkR, eR, dateB_false h]
    go_enter Try.func25, Try.ntmps25
    go_wp2_with (first | (go_at_call 37; refine (date37_no _ _ h).mono ?_; rintro e w' ⟨rfl, rfl⟩))
    go_ret2
    exact ⟨rfl, rfl⟩

theorem weekday40 (d : Int) (w : World) :
    Calls Try.prog 40 #[.int .i64 d] w fun e w' => e = .returned (.tuple #[.int .i64 (wkR d), .int .i64 (eR d)]) ∧ w = w' := by
  rcases date_cases d with ⟨h0, h1⟩ | h
  · simp only [wkR, eR, dateB_true h0 h1]
    go_enter Try.func40, Try.ntmps40
    go_wp2_with (first | (go_at_call 52; refine (is52_yes _ _ h0 h1).mono ?_; rintro e w' ⟨rfl, rfl⟩))
    go_ret2
    exact ⟨rfl, rfl⟩
  · simp only [wkR, eR, dateB_false h]
    go_enter Try.func40, Try.ntmps40
    go_wp2_with (first | (go_at_call 52; refine (is52_no _ _ h).mono ?_; rintro e w' ⟨rfl, rfl⟩))
    go_ret2
    exact ⟨rfl, rfl⟩

/-- Is there a month with this number? -/
def monthB (k : Int) : Bool := decide (0 ≤ k ∧ k < 2154)
theorem monthB_true {k : Int} (h0 : 0 ≤ k) (h1 : k < 2154) : monthB k = true := by simp [monthB, h0, h1]
theorem monthB_false {k : Int} (h : k < 0 ∨ 2154 ≤ k) : monthB k = false := by
  unfold monthB; simp; omega
def fstR (k : Int) : Int := if monthB k = true then (st k.toNat : Int) else 0
def fstE (k : Int) : Int := if monthB k = true then 0 else 2
theorem month_cases2 (d : Int) : (0 ≤ d ∧ d < 2154) ∨ d < 0 ∨ (¬ d < 0 ∧ 2154 ≤ d) := by omega

theorem first27 (k : Int) (w : World) :
    Calls Try.prog 27 #[.int .i64 k] w fun e w' => e = .returned (.tuple #[.int .i64 (fstR k), .int .i64 (fstE k)]) ∧ Up w w' := by
  rcases month_cases2 k with ⟨h0, h1⟩ | h | ⟨h, h'⟩
  · simp only [fstR, fstE, monthB_true h0 h1]
    go_enter Try.func27, Try.ntmps27
    go_wp2_with (first | (go_at_call 36; refine (start36 _ _ h0 (by omega)).mono ?_; rintro e w' ⟨rfl, hup⟩))
    go_ret2
    exact ⟨rfl, hup⟩
  · simp only [fstR, fstE, monthB_false (Or.inl h)]
    go_enter Try.func27, Try.ntmps27
    go_wp2_with fail
    go_ret2
    exact ⟨rfl, Up.refl _⟩
  · simp only [fstR, fstE, monthB_false (Or.inr h')]
    go_enter Try.func27, Try.ntmps27
    go_wp2_with fail
    go_ret2
    exact ⟨rfl, Up.refl _⟩

def dayN (y m d : Int) : Int := (st (12 * (y - 1900) + m - 1).toNat : Int) + d - 1
def dayB (y m d : Int) : Bool := decide (1900 ≤ y ∧ y < 2080 ∧ 1 ≤ d ∧ d ≤ lenZ y m ∧ dayN y m d < 65536)
def dayV (y m d : Int) : Int := if dayB y m d = true then dayN y m d else 0
def dayE (y m d : Int) : Int := if dayB y m d = true then 0 else 2

theorem dayB_true {y m d : Int} (h1 : 1900 ≤ y) (h2 : y < 2080) (h3 : 1 ≤ d) (h4 : d ≤ lenZ y m) (h5 : dayN y m d < 65536) : dayB y m d = true := by
  simp [dayB, h1, h2, h3, h4, h5]
theorem dayB_false {y m d : Int} (h : y < 1900 ∨ 2080 ≤ y ∨ d < 1 ∨ lenZ y m < d ∨ 65536 ≤ dayN y m d) : dayB y m d = false := by
  unfold dayB; simp; omega

theorem month_of_len {y m d : Int} (h3 : 1 ≤ d) (h4 : d ≤ lenZ y m) : 1 ≤ m ∧ m ≤ 12 := by
  by_cases h : m < 1 ∨ 12 < m
  · have := lenZ_out y m h; omega
  · omega

theorem start36_is (k S : Int) (w : World) (h0 : 0 ≤ k) (h1 : k < 2160) (hS : (st k.toNat : Int) = S) : Calls Try.prog 36 #[.int .i64 k] w fun e w' => e = .returned (.int .i64 S) ∧ Up w w' := by
  rw [← hS]; exact start36 k w h0 h1

set_option maxHeartbeats 2000000 in
theorem day15 (y m d : Int) (w : World) :
    Calls Try.prog 15 #[.int .i64 y, .int .i64 m, .int .i64 d] w fun e w' => e = .returned (.tuple #[.int .i64 (dayV y m d), .int .i64 (dayE y m d)]) ∧ Up w w' := by
  by_cases h1 : y < 1900
  · simp only [dayV, dayE, dayB_false (m := m) (d := d) (Or.inl h1)]
    go_enter Try.func15, Try.ntmps15
    go_wp2_with fail
    go_ret2
    exact ⟨rfl, Up.refl _⟩
  · by_cases h2 : 2080 ≤ y
    · simp only [dayV, dayE, dayB_false (m := m) (d := d) (Or.inr (Or.inl h2))]
      go_enter Try.func15, Try.ntmps15
      go_wp2_with fail
      go_ret2
      exact ⟨rfl, Up.refl _⟩
    · by_cases h3 : d < 1
      · simp only [dayV, dayE, dayB_false (y := y) (m := m) (Or.inr (Or.inr (Or.inl h3)))]
        go_enter Try.func15, Try.ntmps15
        go_wp2_with fail
        go_ret2
        exact ⟨rfl, Up.refl _⟩
      · by_cases h4 : lenZ y m < d
        · simp only [dayV, dayE, dayB_false (y := y) (m := m) (Or.inr (Or.inr (Or.inr (Or.inl h4))))]
          go_enter Try.func15, Try.ntmps15
          go_wp2_with (go_at_call 19; refine (len19 _ _ _).mono ?_; rintro e w' ⟨rfl, hup⟩)
          go_ret2
          exact ⟨rfl, hup⟩
        · have hm := month_of_len (y := y) (m := m) (d := d) (by omega) (by omega)
          have hl := lenZ_bd y m
          have hst := st_bd (12 * (y - 1900) + m - 1).toNat (by omega)
          by_cases h5 : dayN y m d < 65536
          · simp only [dayV, dayE, dayB_true (by omega) (by omega) (by omega) (by omega) h5, if_true]
            unfold dayN at h5 ⊢
            generalize hS : (st (12 * (y - 1900) + m - 1).toNat : Int) = S at *
            have HS := Lib.hid hS
            clear hS
            go_enter Try.func15, Try.ntmps15
            go_wp2_with (first | (go_at_call 19; refine (len19 _ _ _).mono ?_; rintro e w' ⟨rfl, hup⟩) | (go_at_call 36; refine (start36_is _ S _ (by omega) (by omega) HS.out).mono ?_; rintro e w2 ⟨rfl, hup2⟩) | (go_at_call 37; refine (date37_yes _ _ (by omega) (by omega)).mono ?_; rintro e w3 ⟨rfl, rfl⟩))
            go_ret2
            exact ⟨rfl, hup.trans hup2⟩
          · simp only [dayV, dayE, dayB_false (y := y) (m := m) (d := d) (Or.inr (Or.inr (Or.inr (Or.inr (by omega)))))]
            unfold dayN at h5
            generalize hS : (st (12 * (y - 1900) + m - 1).toNat : Int) = S at *
            have HS := Lib.hid hS
            clear hS
            go_enter Try.func15, Try.ntmps15
            go_wp2_with (first | (go_at_call 19; refine (len19 _ _ _).mono ?_; rintro e w' ⟨rfl, hup⟩) | (go_at_call 36; refine (start36_is _ S _ (by omega) (by omega) HS.out).mono ?_; rintro e w2 ⟨rfl, hup2⟩) | (go_at_call 37; refine (date37_no _ _ (by omega)).mono ?_; rintro e w3 ⟨rfl, rfl⟩))
            go_ret2
            exact ⟨rfl, hup.trans hup2⟩

end Go.Proofs.Ytblgiojmodoilaa.Cal
