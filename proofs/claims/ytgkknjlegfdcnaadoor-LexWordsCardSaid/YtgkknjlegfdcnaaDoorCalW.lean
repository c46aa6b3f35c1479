/- Contracts of the calendar's functions that lex reaches. -/
import Derived.Test.YtgkknjlegfdcnaaDoorChecked
import Derived.Test.YtgkknjlegfdcnaaDoorCalM
import Derived.WalkKit
import Derived.WalkLawsBesides
import Derived.WalkSpells
import Derived.Lib.Hide
import Derived.Deep.LoopGhost
import Derived.Shelf.Abstract
import Derived.Deep.RegionWith
import Derived.Lib.Bytes
import Derived.BigQuiet
import Derived.Deep.QuietTactic
import Derived.Laws.BytesArg
namespace Go.Proofs.YtgkknjlegfdcnaaDoor.Cal
open Go.RowKit Go.Shelf

/-- The world has at most new blocks; nothing that was there has turned. -/
def Up (w w' : World) : Prop := Below w.heap.size w w'

theorem Up.refl (w : World) : Up w w := Below.refl _ _

theorem Up.trans {a b c : World} (h : Up a b) (k : Up b c) : Up a c := Below.trans h (k.mono h.size)

theorem Up.alloc {a w : World} (h : Up a w) (o : Obj) : Up a (w.alloc o) := Below.alloc h h.size o

theorem Up.drew {a w : World} (h : Up a w) : Up a w.drew := Below.drew h

theorem Up.drewN {a w : World} (h : Up a w) (n : Nat) : Up a (w.drewN n) := ⟨h.os, h.tape, h.output, h.size, h.block⟩

set_option maxHeartbeats 400000 in
theorem leap17 (y : Int) (w : World) : Calls Tryd.prog 59 #[.int .i64 y] w fun e w' => e = .returned (.bool (leapB y)) ∧ w = w' := by
  by_cases h4 : y.tmod 4 = 0
  · by_cases h1 : y.tmod 100 = 0
    · have hl : leapB y = (y.tmod 400 == 0) := by simp [leapB, h4, h1]
      rw [hl]; clear hl
      go_enter Tryd.func59, Tryd.ntmps59
      go_wp2
      go_ret
      exact ⟨rfl, rfl⟩
    · have hl : leapB y = true := by simp [leapB, h4, h1]
      rw [hl]; clear hl
      go_enter Tryd.func59, Tryd.ntmps59
      go_wp2
      go_ret
      exact ⟨rfl, rfl⟩
  · have hl : leapB y = false := by simp [leapB, h4]
    rw [hl]; clear hl
    go_enter Tryd.func59, Tryd.ntmps59
    go_wp2
    go_ret
    exact ⟨rfl, rfl⟩

theorem month_cases (m : Int) : m < 1 ∨ 12 < m ∨ m = 1 ∨ m = 2 ∨ m = 3 ∨ m = 4 ∨ m = 5 ∨ m = 6 ∨ m = 7 ∨ m = 8 ∨ m = 9 ∨ m = 10 ∨ m = 11 ∨ m = 12 := by omega

set_option maxHeartbeats 4000000 in
/-- 'calendar.Len'. -/
theorem len19 (y m : Int) (w : World) : Calls Tryd.prog 53 #[.int .i64 y, .int .i64 m] w fun e w' => e = .returned (.int .i64 (lenZ y m)) ∧ Up w w' := by
  rcases month_cases m with h | h | rfl | rfl | rfl | rfl | rfl | rfl | rfl | rfl | rfl | rfl | rfl | rfl
  · rw [lenZ_out y m (Or.inl h)]
    go_enter Tryd.func53, Tryd.ntmps53
    go_wp2
    go_ret
    exact ⟨rfl, (Up.refl _).alloc _⟩
  · rw [lenZ_out y m (Or.inr h)]
    go_enter Tryd.func53, Tryd.ntmps53
    go_wp2
    go_ret
    exact ⟨rfl, (Up.refl _).alloc _⟩
  · rw [show lenZ y 1 = 31 by simp [lenZ]]
    go_enter Tryd.func53, Tryd.ntmps53
    go_wp2
    go_ret
    exact ⟨rfl, (Up.refl _).alloc _⟩
  · cases hl : leapB y
    · rw [show lenZ y 2 = 28 by simp [lenZ, hl]]
      have hc := leap17 y
      rw [hl] at hc
      clear hl
      go_enter Tryd.func53, Tryd.ntmps53
      go_wp2_with (go_at_call 59; refine (hc _).mono ?_; rintro e w' ⟨rfl, rfl⟩)
      go_ret
      exact ⟨rfl, (Up.refl _).alloc _⟩
    · rw [show lenZ y 2 = 29 by simp [lenZ, hl]]
      have hc := leap17 y
      rw [hl] at hc
      clear hl
      go_enter Tryd.func53, Tryd.ntmps53
      go_wp2_with (go_at_call 59; refine (hc _).mono ?_; rintro e w' ⟨rfl, rfl⟩)
      go_ret
      exact ⟨rfl, (Up.refl _).alloc _⟩
  all_goals
    first
    | rw [show lenZ y 3 = 31 by simp [lenZ]]
    | rw [show lenZ y 4 = 30 by simp [lenZ]]
    | rw [show lenZ y 5 = 31 by simp [lenZ]]
    | rw [show lenZ y 6 = 30 by simp [lenZ]]
    | rw [show lenZ y 7 = 31 by simp [lenZ]]
    | rw [show lenZ y 8 = 31 by simp [lenZ]]
    | rw [show lenZ y 9 = 30 by simp [lenZ]]
    | rw [show lenZ y 10 = 31 by simp [lenZ]]
    | rw [show lenZ y 11 = 30 by simp [lenZ]]
    | rw [show lenZ y 12 = 31 by simp [lenZ]]
    go_enter Tryd.func53, Tryd.ntmps53
    go_wp2
    go_ret
    exact ⟨rfl, (Up.refl _).alloc _⟩

theorem Up.cell {w w' : World} (h : Up w w') {a : Addr} {v : Value} (hv : w.cell? a = some v) : w'.cell? a = some v := by
  have hb := World.block_lt_of_cell? _ _ hv
  rw [← hv]; exact Below.cell h hb

theorem wrap_in (x : Int) (h0 : -1000000000000 ≤ x) (h1 : x ≤ 1000000000000) : IntKind.i64.wrap x = x := IntWalk.i64_in x (by omega)

def dateB (d : Int) : Bool := decide (0 ≤ d ∧ d < 65536)

theorem dateB_true {d : Int} (h0 : 0 ≤ d) (h1 : d < 65536) : dateB d = true := by simp [dateB, h0, h1]

theorem dateB_false {d : Int} (h : d < 0 ∨ 65536 ≤ d) : dateB d = false := by
  unfold dateB; simp; omega

theorem date37 (d : Int) (w : World) : Calls Tryd.prog 55 #[.int .i64 d] w fun e w' => e = .returned (.bool (dateB d)) ∧ w = w' := by
  by_cases h0 : 0 ≤ d
  · by_cases h1 : d < 65536
    · rw [dateB_true h0 h1]
      go_enter Tryd.func55, Tryd.ntmps55
      go_wp2
      go_ret
      exact ⟨rfl, rfl⟩
    · rw [dateB_false (by omega)]
      go_enter Tryd.func55, Tryd.ntmps55
      go_wp2
      go_ret
      exact ⟨rfl, rfl⟩
  · rw [dateB_false (by omega)]
    go_enter Tryd.func55, Tryd.ntmps55
    go_wp2
    go_ret
    exact ⟨rfl, rfl⟩

/-- The two answers of isDate, apart. -/
theorem date37_yes (d : Int) (w : World) (h0 : 0 ≤ d) (h1 : d < 65536) : Calls Tryd.prog 55 #[.int .i64 d] w fun e w' => e = .returned (.bool true) ∧ w = w' := by
  have h := date37 d w; rw [dateB_true h0 h1] at h; exact h

theorem date37_no (d : Int) (w : World) (h : d < 0 ∨ 65536 ≤ d) : Calls Tryd.prog 55 #[.int .i64 d] w fun e w' => e = .returned (.bool false) ∧ w = w' := by
  have h' := date37 d w; rw [dateB_false h] at h'; exact h'

theorem lenZ_sz (k : Int) (h : 0 ≤ k) : lenZ (1900 + k / 12) (k % 12 + 1) = (sz k.toNat : Int) := by
  obtain ⟨n, rfl⟩ := Int.eq_ofNat_of_zero_le h
  rw [Int.toNat_natCast, sz_cast]; rfl

set_option maxHeartbeats 400000 in
theorem size46 (k : Int) (w : World) (h0 : 0 ≤ k) (h1 : k ≤ 100000) : Calls Tryd.prog 60 #[.int .i64 k] w fun e w' => e = .returned (.int .i64 (sz k.toNat : Int)) ∧ Up w w' := by
  rw [← lenZ_sz k h0]
  go_enter Tryd.func60, Tryd.ntmps60
  go_wp2_with (go_at_call 53; refine (len19 _ _ _).mono ?_; rintro e w' ⟨rfl, hup⟩)
  go_ret
  exact ⟨rfl, hup⟩

theorem st_year_z (n : Nat) (hn : n < 2160) (hy : ¬ n < 12) : (365 * ((n : Int) / 12) + ((n : Int) / 12 - 1) / 4 : Int) = (st (12 * (n / 12)) : Int) := by
  have h := st_year (n / 12) (by omega)
  rw [h]; omega

theorem st_bd (k : Nat) (h : k ≤ 2160) : (0 : Int) ≤ (st k : Int) ∧ (st k : Int) ≤ 66960 := by
  have := st_le_31 k; omega

/-- The loop of 'start': from the year's first month on, month by month. -/
def StartRel (w : World) (n : Nat) (o m : Value) (wr : World) : Prop :=
  ∃ j : Nat, 12 * (n / 12) ≤ j ∧ j ≤ n ∧ m = .int .i64 (j : Int) ∧ o = .int .i64 (st j : Int) ∧ Up w wr

set_option maxHeartbeats 1000000 in
theorem start36 (k : Int) (w : World) (h0 : 0 ≤ k) (h1 : k < 2160) : Calls Tryd.prog 54 #[.int .i64 k] w fun e w' => e = .returned (.int .i64 (st k.toNat : Int)) ∧ Up w w' := by
  obtain ⟨n, rfl⟩ := Int.eq_ofNat_of_zero_le h0
  rw [Int.toNat_natCast]
  by_cases hy : n < 12
  · have hq : (n : Int) / 12 = 0 := by omega
    go_enter Tryd.func54, Tryd.ntmps54
    go_wp2_with fail
    go_loopw [4, 5] (StartRel w n) (fun _ m _ => n - (intOf m).toNat)
    case atStart => exact ⟨0, by omega, by omega, rfl, rfl, Up.refl _⟩
    case round =>
      obtain ⟨j, hj1, hj2, rfl, rfl, hup⟩ := hrel
      by_cases hlt : j < n
      · have hb := st_bd j (by omega)
        have hs := sz_bd j
        go_wp2_with (go_at_call 60; refine (size46 _ _ (by omega) (by omega)).mono ?_; rintro e w' ⟨rfl, hup2⟩)
        go_roundw
        case rel => exact ⟨j + 1, by omega, by omega, by go_num, by rw [st_succ]; go_num, hup.trans hup2⟩
        case measure => simp [intOf]; omega
      · obtain rfl : n = j := by omega
        go_wp2_with fail
        go_ret
        exact ⟨rfl, hup⟩
  · have hq := Lib.hid (st_year_z n (by omega) hy)
    go_enter Tryd.func54, Tryd.ntmps54
    go_wp2_with fail
    go_loopw [4, 5] (StartRel w n) (fun _ m _ => n - (intOf m).toNat)
    case atStart => exact ⟨12 * (n / 12), by omega, by omega, by go_num, by rw [hq.out], Up.refl _⟩
    case round =>
      obtain ⟨j, hj1, hj2, rfl, rfl, hup⟩ := hrel
      by_cases hlt : j < n
      · have hb := st_bd j (by omega)
        have hs := sz_bd j
        go_wp2_with (go_at_call 60; refine (size46 _ _ (by omega) (by omega)).mono ?_; rintro e w' ⟨rfl, hup2⟩)
        go_roundw
        case rel => exact ⟨j + 1, by omega, by omega, by go_num, by rw [st_succ]; go_num, hup.trans hup2⟩
        case measure => simp [intOf]; omega
      · obtain rfl : n = j := by omega
        go_wp2_with fail
        go_ret
        exact ⟨rfl, hup⟩

def dayN (y m d : Int) : Int := (st (12 * (y - 1900) + m - 1).toNat : Int) + d - 1

def dayB (y m d : Int) : Bool := decide (1900 ≤ y ∧ y < 2080 ∧ 1 ≤ d ∧ d ≤ lenZ y m ∧ dayN y m d < 65536)

def dayV (y m d : Int) : Int := if dayB y m d = true then dayN y m d else 0

def dayE (y m d : Int) : Int := if dayB y m d = true then 0 else 2

theorem dayB_true {y m d : Int} (h1 : 1900 ≤ y) (h2 : y < 2080) (h3 : 1 ≤ d) (h4 : d ≤ lenZ y m) (h5 : dayN y m d < 65536) : dayB y m d = true := by
  simp [dayB, h1, h2, h3, h4, h5]

theorem dayB_false {y m d : Int} (h : y < 1900 ∨ 2080 ≤ y ∨ d < 1 ∨ lenZ y m < d ∨ 65536 ≤ dayN y m d) : dayB y m d = false := by
  unfold dayB; simp; omega

theorem month_of_len {y m d : Int} (h3 : 1 ≤ d) (h4 : d ≤ lenZ y m) : 1 ≤ m ∧ m ≤ 12 := by
  by_cases h : m < 1 ∨ 12 < m
  · have := lenZ_out y m h; omega
  · omega

theorem start36_is (k S : Int) (w : World) (h0 : 0 ≤ k) (h1 : k < 2160) (hS : (st k.toNat : Int) = S) : Calls Tryd.prog 54 #[.int .i64 k] w fun e w' => e = .returned (.int .i64 S) ∧ Up w w' := by
  rw [← hS]; exact start36 k w h0 h1

set_option maxHeartbeats 2000000 in
theorem day15 (y m d : Int) (w : World) :
    Calls Tryd.prog 45 #[.int .i64 y, .int .i64 m, .int .i64 d] w fun e w' => e = .returned (.tuple #[.int .i64 (dayV y m d), .int .i64 (dayE y m d)]) ∧ Up w w' := by
  by_cases h1 : y < 1900
  · simp only [dayV, dayE, dayB_false (m := m) (d := d) (Or.inl h1)]
    go_enter Tryd.func45, Tryd.ntmps45
    go_wp2_with fail
    go_ret2
    exact ⟨rfl, Up.refl _⟩
  · by_cases h2 : 2080 ≤ y
    · simp only [dayV, dayE, dayB_false (m := m) (d := d) (Or.inr (Or.inl h2))]
      go_enter Tryd.func45, Tryd.ntmps45
      go_wp2_with fail
      go_ret2
      exact ⟨rfl, Up.refl _⟩
    · by_cases h3 : d < 1
      · simp only [dayV, dayE, dayB_false (y := y) (m := m) (Or.inr (Or.inr (Or.inl h3)))]
        go_enter Tryd.func45, Tryd.ntmps45
        go_wp2_with fail
        go_ret2
        exact ⟨rfl, Up.refl _⟩
      · by_cases h4 : lenZ y m < d
        · simp only [dayV, dayE, dayB_false (y := y) (m := m) (Or.inr (Or.inr (Or.inr (Or.inl h4))))]
          go_enter Tryd.func45, Tryd.ntmps45
          go_wp2_with (go_at_call 53; refine (len19 _ _ _).mono ?_; rintro e w' ⟨rfl, hup⟩)
          go_ret2
          exact ⟨rfl, hup⟩
        · have hm := month_of_len (y := y) (m := m) (d := d) (by omega) (by omega)
          have hl := lenZ_bd y m
          have hst := st_bd (12 * (y - 1900) + m - 1).toNat (by omega)
          by_cases h5 : dayN y m d < 65536
          · simp only [dayV, dayE, dayB_true (by omega) (by omega) (by omega) (by omega) h5, if_true]
            unfold dayN at h5 ⊢
            generalize hS : (st (12 * (y - 1900) + m - 1).toNat : Int) = S at *
            have HS := Lib.hid hS
            clear hS
            go_enter Tryd.func45, Tryd.ntmps45
            go_wp2_with (first | (go_at_call 53; refine (len19 _ _ _).mono ?_; rintro e w' ⟨rfl, hup⟩) | (go_at_call 54; refine (start36_is _ S _ (by omega) (by omega) HS.out).mono ?_; rintro e w2 ⟨rfl, hup2⟩) | (go_at_call 55; refine (date37_yes _ _ (by omega) (by omega)).mono ?_; rintro e w3 ⟨rfl, rfl⟩))
            go_ret2
            exact ⟨rfl, hup.trans hup2⟩
          · simp only [dayV, dayE, dayB_false (y := y) (m := m) (d := d) (Or.inr (Or.inr (Or.inr (Or.inr (by omega)))))]
            unfold dayN at h5
            generalize hS : (st (12 * (y - 1900) + m - 1).toNat : Int) = S at *
            have HS := Lib.hid hS
            clear hS
            go_enter Tryd.func45, Tryd.ntmps45
            go_wp2_with (first | (go_at_call 53; refine (len19 _ _ _).mono ?_; rintro e w' ⟨rfl, hup⟩) | (go_at_call 54; refine (start36_is _ S _ (by omega) (by omega) HS.out).mono ?_; rintro e w2 ⟨rfl, hup2⟩) | (go_at_call 55; refine (date37_no _ _ (by omega)).mono ?_; rintro e w3 ⟨rfl, rfl⟩))
            go_ret2
            exact ⟨rfl, hup.trans hup2⟩

/-- A string of known bytes, whose text the walk does not look into. -/
def bs (l : List UInt8) : ByteArray := ⟨l.toArray⟩

theorem bs_size (l : List UInt8) : (bs l).size = l.length := by simp [bs, ByteArray.size]

theorem bs_cat (a b : List UInt8) : bs a ++ bs b = bs (a ++ b) := by
  unfold bs
  apply ByteArray.ext
  simp

theorem int_eq {a b : Int} (h : a = b) : Value.int .i64 a = Value.int .i64 b := by rw [h]

/-- The number with some digits, n being what stands ahead; -1 if one is none. -/
def valF : Int → List UInt8 → Int
  | n, [] => n
  | n, c :: l => if c.toNat < 48 ∨ 57 < c.toNat then -1 else valF (10 * n + ((c.toNat : Int) - 48)) l

def valL (l : List UInt8) : Int := valF 0 l

/-- A row of bytes in memory. -/
def Row (w : World) (b : Nat) (l : List UInt8) : Prop := ∀ i, i < l.length → w.cell? ⟨b, i, none⟩ = some (.int .u8 ((l.getD i 0).toNat : Int))

def p10 : Nat → Int
  | 0 => 1
  | k + 1 => 10 * p10 k

theorem p10_bd (k : Nat) (h : k ≤ 4) : 1 ≤ p10 k ∧ p10 k ≤ 10000 := by
  match k, h with
  | 0, _ => decide
  | 1, _ => decide
  | 2, _ => decide
  | 3, _ => decide
  | 4, _ => decide

theorem drop_cons (l : List UInt8) (k : Nat) (h : k < l.length) : l.drop k = l.getD k 0 :: l.drop (k + 1) := by
  rw [List.drop_eq_getElem_cons h]
  simp [List.getD, h]

theorem ret_int {a b : Int} (h : a = b) : Ending.returned (.int .i64 a) = Ending.returned (.int .i64 b) := by rw [h]

def NumRel (l : List UInt8) (n k : Value) : Prop :=
  ∃ (j : Nat) (m : Int), j ≤ l.length ∧ k = .int .i64 (j : Int) ∧ n = .int .i64 m ∧ 0 ≤ m ∧ m < p10 j ∧ valF m (l.drop j) = valL l

set_option maxHeartbeats 4000000 in
theorem number50 (b cap : Nat) (l : List UInt8) (w : World) (hr : Row w b l) (hl : l.length ≤ 4) :
    Calls Tryd.prog 46 #[.slice (some ⟨b, 0, none⟩) l.length cap] w fun e w' => e = .returned (.int .i64 (valL l)) ∧ w = w' := by
  have HR := Lib.hid hr
  clear hr
  go_enter Tryd.func46, Tryd.ntmps46
  go_wp2_with fail
  go_loop [3, 8] (NumRel l) (fun _ k => (l.length : Int).toNat - (intOf k).toNat)
  case atStart => exact ⟨0, 0, Nat.zero_le _, rfl, rfl, by decide, by decide, rfl⟩
  case round =>
    obtain ⟨j, m, hj, rfl, rfl, hm0, hm1, hv⟩ := hrel
    have hp := p10_bd j (by omega)
    by_cases hlt : j < l.length
    · have hc := HR.out j hlt
      have hp2 : p10 (j + 1) = 10 * p10 j := rfl
      have hd := drop_cons l j hlt
      have hb := (l.getD j 0).toNat_lt
      generalize l.getD j 0 = c at *
      rw [hd, valF] at hv
      have HV := Lib.hid hv
      have HP := Lib.hid hp2
      clear hv hd hp2
      by_cases h1 : c.toNat < 48
      · have hfin : Hid (valL l = -1) := by rw [← HV.out, if_pos (Or.inl h1)]; rfl
        go_wp2_with fail
        go_ret
        exact ⟨ret_int hfin.out.symm, rfl⟩
      · by_cases h2 : 57 < c.toNat
        · have hfin : Hid (valL l = -1) := by rw [← HV.out, if_pos (Or.inr h2)]; rfl
          go_wp2_with fail
          go_ret
          exact ⟨ret_int hfin.out.symm, rfl⟩
        · have hnext : Hid (valF (10 * m + ((c.toNat : Int) - 48)) (l.drop (j + 1)) = valL l) := by rw [← HV.out, if_neg (by omega)]; rfl
          clear HV
          go_wp2_with fail
          go_round
          case rel => exact ⟨j + 1, 10 * m + ((c.toNat : Int) - 48), by omega, by go_num, int_eq (by omega), by omega, by rw [HP.out]; omega, hnext.out⟩
          case measure => simp [intOf]; omega
    · obtain rfl : j = l.length := by omega
      have hfin : Hid (valL l = m) := by rw [← hv, List.drop_length]; rfl
      clear hv
      go_wp2_with fail
      go_ret
      exact ⟨ret_int hfin.out.symm, rfl⟩

theorem bs_get (l : List UInt8) (j : Nat) (h : j < (bs l).size) : (bs l)[j] = l.getD j 0 := by
  have h' : j < l.length := by rw [bs_size] at h; exact h
  simp [bs, List.getD, h']
  rfl

def parB (l : List UInt8) : Bool := l.length == 10 && l.getD 4 0 == 45 && l.getD 7 0 == 45

def parV (l : List UInt8) : Int := if parB l = true then dayV (valL (l.take 4)) (valL ((l.drop 5).take 2)) (valL (l.drop 8)) else 0

def parE (l : List UInt8) : Int := if parB l = true then dayE (valL (l.take 4)) (valL ((l.drop 5).take 2)) (valL (l.drop 8)) else 2

theorem list_ten (l : List UInt8) (h : l.length = 10) : ∃ a b c d e f g i j k, l = [a, b, c, d, e, f, g, i, j, k] := by
  match l, h with
  | [a, b, c, d, e, f, g, i, j, k], _ => exact ⟨a, b, c, d, e, f, g, i, j, k, rfl⟩

theorem bs_of (s : ByteArray) : s = bs s.data.toList := by
  unfold bs; apply ByteArray.ext; simp

theorem ten_cuts (a b c d e f g i j k : UInt8) : (bs [a, b, c, d, e, f, g, i, j, k]).extract 0 4 = bs [a, b, c, d] ∧ (bs [a, b, c, d, e, f, g, i, j, k]).extract 5 7 = bs [f, g] ∧ (bs [a, b, c, d, e, f, g, i, j, k]).extract 8 10 = bs [j, k] := by
  refine ⟨?_, ?_, ?_⟩ <;> (apply ByteArray.ext; simp [bs, ByteArray.data_extract])

theorem bs_toList (l : List UInt8) : (bs l).toList = l := by rw [Lib.toList_data]; simp [bs]

theorem parB_ten (a b c d e f g i j k : UInt8) : parB [a, b, c, d, e, f, g, i, j, k] = decide (e = 45 ∧ i = 45) := by
  rw [Bool.eq_iff_iff]; simp [parB, List.getD]

end Go.Proofs.YtgkknjlegfdcnaaDoor.Cal
