/- Plain laws: a text that is read is the text of what it is read as. -/
import Derived.Test.YtblgiojmodoilaaTextC
namespace Go.Proofs.Ytblgiojmodoilaa.Cal
open Go.RowKit Go.Shelf

theorem dig_of (c : UInt8) (n : Nat) (h1 : 48 ≤ c.toNat) (h2 : n = c.toNat - 48) : 48 + UInt8.ofNat n = c := by
  apply UInt8.toNat_inj.1
  have hc := c.toNat_lt
  rw [UInt8.toNat_add, UInt8.toNat_ofNat']
  simp only [UInt8.reduceToNat]
  omega

theorem valL2 (a b : UInt8) (h : 0 ≤ valL [a, b]) : 48 ≤ a.toNat ∧ a.toNat ≤ 57 ∧ 48 ≤ b.toNat ∧ b.toNat ≤ 57 ∧ valL [a, b] = 10 * ((a.toNat : Int) - 48) + ((b.toNat : Int) - 48) := by
  by_cases ha : a.toNat < 48 ∨ 57 < a.toNat
  · exfalso
    rw [valL, valF, if_pos ha] at h; omega
  · by_cases hb : b.toNat < 48 ∨ 57 < b.toNat
    · exfalso
      rw [valL, valF, if_neg ha, valF, if_pos hb] at h; omega
    · refine ⟨by omega, by omega, by omega, by omega, ?_⟩
      rw [valL, valF, if_neg ha, valF, if_neg hb, valF]; omega

theorem valL4 (a b c d : UInt8) (h : 0 ≤ valL [a, b, c, d]) : 48 ≤ a.toNat ∧ a.toNat ≤ 57 ∧ 48 ≤ b.toNat ∧ b.toNat ≤ 57 ∧ 48 ≤ c.toNat ∧ c.toNat ≤ 57 ∧ 48 ≤ d.toNat ∧ d.toNat ≤ 57 ∧
    valL [a, b, c, d] = 1000 * ((a.toNat : Int) - 48) + 100 * ((b.toNat : Int) - 48) + 10 * ((c.toNat : Int) - 48) + ((d.toNat : Int) - 48) := by
  by_cases ha : a.toNat < 48 ∨ 57 < a.toNat
  · exfalso
    rw [valL, valF, if_pos ha] at h; omega
  · by_cases hb : b.toNat < 48 ∨ 57 < b.toNat
    · exfalso
      rw [valL, valF, if_neg ha, valF, if_pos hb] at h; omega
    · by_cases hc : c.toNat < 48 ∨ 57 < c.toNat
      · exfalso
        rw [valL, valF, if_neg ha, valF, if_neg hb, valF, if_pos hc] at h; omega
      · by_cases hd : d.toNat < 48 ∨ 57 < d.toNat
        · exfalso
          rw [valL, valF, if_neg ha, valF, if_neg hb, valF, if_neg hc, valF, if_pos hd] at h; omega
        · refine ⟨by omega, by omega, by omega, by omega, by omega, by omega, by omega, by omega, ?_⟩
          rw [valL, valF, if_neg ha, valF, if_neg hb, valF, if_neg hc, valF, if_neg hd, valF]; omega

theorem digL2 (a b : UInt8) (h : 0 ≤ valL [a, b]) : digL (valL [a, b]).toNat 2 = [a, b] := by
  obtain ⟨h1, h2, h3, h4, e⟩ := valL2 a b h
  simp only [digL]
  rw [dig_of a ((valL [a, b]).toNat / 10 ^ 1 % 10) h1 (by omega), dig_of b ((valL [a, b]).toNat / 10 ^ 0 % 10) h3 (by omega)]

theorem digL4 (a b c d : UInt8) (h : 0 ≤ valL [a, b, c, d]) : digL (valL [a, b, c, d]).toNat 4 = [a, b, c, d] := by
  obtain ⟨h1, h2, h3, h4, h5, h6, h7, h8, e⟩ := valL4 a b c d h
  simp only [digL]
  rw [dig_of a ((valL [a, b, c, d]).toNat / 10 ^ 3 % 10) h1 (by omega), dig_of b ((valL [a, b, c, d]).toNat / 10 ^ 2 % 10) h3 (by omega),
    dig_of c ((valL [a, b, c, d]).toNat / 10 ^ 1 % 10) h5 (by omega), dig_of d ((valL [a, b, c, d]).toNat / 10 ^ 0 % 10) h7 (by omega)]

theorem dayB_iff (y m d : Int) : dayB y m d = true ↔ (1900 ≤ y ∧ y < 2080 ∧ 1 ≤ d ∧ d ≤ lenZ y m ∧ dayN y m d < 65536) := by
  simp [dayB]

/-- YMD is the inverse of Day. -/
theorem ymd_day (y m d : Int) (h : dayB y m d = true) : 0 ≤ dayN y m d ∧ dayN y m d < 65536 ∧ yZ (dayN y m d) = y ∧ mZ (dayN y m d) = m ∧ dZ (dayN y m d) = d := by
  rw [dayB_iff] at h
  obtain ⟨h1, h2, h3, h4, h5⟩ := h
  have hm := month_of_len h3 h4
  have e : dayN y m d = (st (12 * (y - 1900) + m - 1).toNat : Int) + d - 1 := rfl
  have hz := lenZ_sz (12 * (y - 1900) + m - 1) (by omega)
  rw [show 1900 + (12 * (y - 1900) + m - 1) / 12 = y by omega, show (12 * (y - 1900) + m - 1) % 12 + 1 = m by omega] at hz
  generalize hk : (12 * (y - 1900) + m - 1).toNat = k at *
  have hmo : mo (dayN y m d).toNat = k := mo_eq (by omega) (by omega) (by rw [st_succ]; omega)
  refine ⟨by omega, h5, ?_, ?_, ?_⟩
  · unfold yZ moZ; rw [hmo]; omega
  · unfold mZ moZ; rw [hmo]; omega
  · unfold dZ ddZ; rw [hmo]; omega

/-- The text of a day that was made of digits. -/
theorem text_day (a b c d f g j k : UInt8) (h : dayB (valL [a, b, c, d]) (valL [f, g]) (valL [j, k]) = true) :
    textL (dayN (valL [a, b, c, d]) (valL [f, g]) (valL [j, k])) = [a, b, c, d, 45, f, g, 45, j, k] := by
  obtain ⟨h1, h2, h3, h4, h5⟩ := ymd_day _ _ _ h
  have hm := mZ_bd (dayN (valL [a, b, c, d]) (valL [f, g]) (valL [j, k]))
  rw [dayB_iff] at h
  rw [textL, if_pos (dateB_true h1 h2), h3, h4, h5, digL4 _ _ _ _ (by omega), digL2 _ _ (by omega), digL2 _ _ (by omega)]
  rfl

end Go.Proofs.Ytblgiojmodoilaa.Cal
