/- Plain mathematics of the calendar: no program in sight. Leap years, lengths of months, first days of months, the month of a day. -/
namespace Go.Proofs.YtgkknjlegfdcnaaDoor.Cal

/-- A leap year, as Go reckons it ('%' cuts towards nought). -/
def leapB (y : Int) : Bool := (y.tmod 4 == 0) && ((y.tmod 100 != 0) || (y.tmod 400 == 0))

theorem tmod_zero (y : Int) (k : Int) (_hk : 0 < k) : y.tmod k = 0 ↔ y % k = 0 := by
  constructor
  · intro h; exact Int.emod_eq_zero_of_dvd (Int.dvd_of_tmod_eq_zero h)
  · intro h; exact Int.tmod_eq_zero_of_dvd (Int.dvd_of_emod_eq_zero h)

/-- The length of a month. -/
def lenZ (y m : Int) : Int :=
  if m = 2 then (if leapB y then 29 else 28)
  else if m = 4 ∨ m = 6 ∨ m = 9 ∨ m = 11 then 30
  else if 1 ≤ m ∧ m ≤ 12 then 31 else 0

theorem leapB_iff (y : Int) : leapB y = true ↔ (y % 4 = 0 ∧ (y % 100 ≠ 0 ∨ y % 400 = 0)) := by
  unfold leapB
  have h4 := tmod_zero y 4 (by decide)
  have h1 := tmod_zero y 100 (by decide)
  have h2 := tmod_zero y 400 (by decide)
  simp [h4, h1, h2]

theorem leapB_eq (y : Int) : leapB y = decide (y % 4 = 0 ∧ (y % 100 ≠ 0 ∨ y % 400 = 0)) := by
  rw [Bool.eq_iff_iff, leapB_iff]; simp

theorem lenZ_bd (y m : Int) : 0 ≤ lenZ y m ∧ lenZ y m ≤ 31 := by
  unfold lenZ
  split
  · split <;> omega
  · split
    · omega
    · split <;> omega

theorem lenZ_lo (y m : Int) (h1 : 1 ≤ m) (h2 : m ≤ 12) : 28 ≤ lenZ y m := by
  unfold lenZ
  split
  · split <;> omega
  · split
    · omega
    · rw [if_pos ⟨h1, h2⟩]; omega

theorem lenZ_out (y m : Int) (h : m < 1 ∨ 12 < m) : lenZ y m = 0 := by
  unfold lenZ
  rw [if_neg (by omega), if_neg (by omega), if_neg (by omega)]

/-- The length of the month with a number. -/
def sz (k : Nat) : Nat := (lenZ (1900 + (k / 12 : Nat)) ((k % 12 : Nat) + 1)).toNat

/-- The first day of the month with a number. -/
def st : Nat → Nat
  | 0 => 0
  | k + 1 => st k + sz k

theorem sz_bd (k : Nat) : 28 ≤ sz k ∧ sz k ≤ 31 := by
  unfold sz
  have h1 := lenZ_lo (1900 + (k / 12 : Nat)) ((k % 12 : Nat) + 1) (by omega) (by omega)
  have h2 := lenZ_bd (1900 + (k / 12 : Nat)) ((k % 12 : Nat) + 1)
  omega

theorem sz_cast (k : Nat) : (sz k : Int) = lenZ (1900 + (k / 12 : Nat)) ((k % 12 : Nat) + 1) := by
  unfold sz
  have h2 := lenZ_bd (1900 + (k / 12 : Nat)) ((k % 12 : Nat) + 1)
  omega

theorem st_succ (k : Nat) : st (k + 1) = st k + sz k := rfl

theorem st_lt (k : Nat) : st k < st (k + 1) := by
  have := sz_bd k; rw [st_succ]; omega

theorem st_mono {a b : Nat} (h : a ≤ b) : st a ≤ st b := by
  induction b with
  | zero =>
    obtain rfl : a = 0 := by omega
    exact Nat.le_refl _
  | succ b ih =>
    by_cases e : a = b + 1
    · subst e; exact Nat.le_refl _
    · have := ih (by omega); have := st_lt b; omega

theorem st_smono {a b : Nat} (h : a < b) : st a < st b := by
  have h1 := st_mono (show a + 1 ≤ b from h)
  have h2 := st_lt a
  omega

theorem st_le_31 (k : Nat) : st k ≤ 31 * k := by
  induction k with
  | zero => simp [st]
  | succ k ih => have := sz_bd k; rw [st_succ]; omega

theorem sz_at (y m : Nat) (hm : m < 12) : (sz (12 * y + m) : Int) = lenZ (1900 + y) (m + 1) := by
  rw [sz_cast, show (12 * y + m) / 12 = y by omega, show (12 * y + m) % 12 = m by omega]

/-- The days of a year up to its month m (m from 0 to 12). -/
def cum (y : Int) (m : Nat) : Int := ((List.range m).map (fun i => lenZ y ((i : Nat) + 1))).sum

theorem cum_succ (y : Int) (m : Nat) : cum y (m + 1) = cum y m + lenZ y (m + 1) := by
  unfold cum; rw [List.range_succ, List.map_append, List.sum_append]; simp

theorem st_cum (y m : Nat) (hm : m ≤ 12) : (st (12 * y + m) : Int) = st (12 * y) + cum (1900 + y) m := by
  induction m with
  | zero => simp [cum]
  | succ m ih =>
    have h := sz_at y m (by omega)
    rw [← Nat.add_assoc, st_succ, cum_succ]
    have := ih (by omega)
    omega

theorem cum12 (y : Int) : cum y 12 = 365 + (if leapB y then 1 else 0) := by
  simp only [cum, List.range, List.range.loop, List.map, List.sum_cons, List.sum_nil, lenZ]
  cases leapB y <;> simp

theorem st_yearstep (y : Nat) : (st (12 * (y + 1)) : Int) = st (12 * y) + 365 + (if leapB (1900 + y) then 1 else 0) := by
  rw [show 12 * (y + 1) = 12 * y + 12 by omega, st_cum y 12 (by omega), cum12]; omega

theorem leap_small : ∀ y : Nat, y < 180 → (if leapB (1900 + (y : Nat)) then 1 else 0 : Nat) = y / 4 - (y - 1) / 4 := by decide +kernel

theorem st_year (y : Nat) (hy : y ≤ 180) : st (12 * y) = 365 * y + (y - 1) / 4 := by
  induction y with
  | zero => rfl
  | succ y ih =>
    have h1 := ih (by omega)
    have h2 := st_yearstep y
    have h3 := leap_small y (by omega)
    split at h2
    · rename_i hl; rw [if_pos hl] at h3; omega
    · rename_i hl; rw [if_neg hl] at h3; omega

theorem st_2153 : st 2153 = 65530 := by
  have h1 := st_year 179 (by omega)
  have h2 := st_cum 179 5 (by omega)
  have h3 : cum (1900 + (179 : Nat)) 5 = 151 := by decide +kernel
  rw [h3] at h2
  rw [show 12 * 179 + 5 = 2153 from rfl] at h2
  omega

theorem sz_2153 : sz 2153 = 30 := by decide +kernel

theorem st_2154 : st 2154 = 65560 := by
  rw [show 2154 = 2153 + 1 from rfl, st_succ, st_2153, sz_2153]

/-- The number of the month of a day: the months gone through, one by one. -/
def moF : Nat → Nat → Nat → Nat
  | 0, k, _ => k
  | f + 1, k, d => if st (k + 1) ≤ d then moF f (k + 1) d else k

def mo (d : Nat) : Nat := moF 65536 0 d

theorem moF_spec (f k d : Nat) (h : st k ≤ d) (hf : d < st (k + f)) : st (moF f k d) ≤ d ∧ d < st (moF f k d + 1) := by
  induction f generalizing k with
  | zero => simp at hf; omega
  | succ f ih =>
    unfold moF
    split
    · exact ih (k + 1) (by assumption) (by rw [show k + 1 + f = k + (f + 1) by omega]; exact hf)
    · exact ⟨h, by omega⟩

theorem mo_uniq {a b d : Nat} (h1 : st a ≤ d) (h2 : d < st (a + 1)) (h3 : st b ≤ d) (h4 : d < st (b + 1)) : a = b := by
  rcases Nat.lt_trichotomy a b with h | h | h
  · have := st_mono (show a + 1 ≤ b from h); omega
  · exact h
  · have := st_mono (show b + 1 ≤ a from h); omega

theorem mo_spec (d : Nat) (hd : d < 65536) : st (mo d) ≤ d ∧ d < st (mo d + 1) := by
  refine moF_spec 65536 0 d (Nat.zero_le _) ?_
  have h1 := st_2154
  have h2 := st_mono (show 2154 ≤ 0 + 65536 by omega)
  omega

theorem mo_eq {k d : Nat} (hd : d < 65536) (h1 : st k ≤ d) (h2 : d < st (k + 1)) : mo d = k := by
  have h := mo_spec d hd
  exact mo_uniq h.1 h.2 h1 h2

theorem mo_lt (d : Nat) (hd : d < 65536) : mo d < 2154 := by
  have h := mo_spec d hd
  by_cases e : mo d < 2154
  · exact e
  · have := st_mono (show 2154 ≤ mo d by omega); have := st_2154; omega

end Go.Proofs.YtgkknjlegfdcnaaDoor.Cal
