/- Plain laws on texts: they are ordered as dates; they lead back. -/
import Derived.Test.YtblgiojmodoilaaReads
namespace Go.Proofs.Ytblgiojmodoilaa.Cal
open Go.RowKit Go.Shelf

theorem dig_toNat (x : Nat) (h : x < 10) : (48 + UInt8.ofNat x).toNat = 48 + x := by
  rw [UInt8.toNat_add, UInt8.toNat_ofNat']
  simp only [UInt8.reduceToNat]
  omega

theorem dig_lt (x y : Nat) (hx : x < 10) (hy : y < 10) : (48 + UInt8.ofNat x < 48 + UInt8.ofNat y) ↔ x < y := by
  rw [UInt8.lt_iff_toNat_lt, dig_toNat x hx, dig_toNat y hy]; omega
theorem dig_eq (x y : Nat) (hx : x < 10) (hy : y < 10) : (48 + UInt8.ofNat x = 48 + UInt8.ofNat y) ↔ x = y := by
  rw [← UInt8.toNat_inj, dig_toNat x hx, dig_toNat y hy]; omega

theorem ord_step (p A B U V : Nat) (r : Bool) (hU : U < p) (hV : V < p) :
    (decide (A < B) || (decide (A = B) && (decide (U < V) || (decide (U = V) && r)))) = (decide (U + p * A < V + p * B) || (decide (U + p * A = V + p * B) && r)) := by
  rcases Nat.lt_trichotomy A B with h | h | h
  · have h1 : p * A + p ≤ p * B := by
      have := Nat.mul_le_mul_left p (show A + 1 ≤ B from h); rw [Nat.mul_add] at this; omega
    rw [decide_eq_true h, decide_eq_true (show U + p * A < V + p * B by omega)]; simp
  · subst h
    have e1 : decide (U + p * A < V + p * A) = decide (U < V) := by rw [decide_eq_decide]; omega
    have e2 : decide (U + p * A = V + p * A) = decide (U = V) := by rw [decide_eq_decide]; omega
    rw [e1, e2]; simp
  · have h1 : p * B + p ≤ p * A := by
      have := Nat.mul_le_mul_left p (show B + 1 ≤ A from h); rw [Nat.mul_add] at this; omega
    rw [decide_eq_false (show ¬ A < B by omega), decide_eq_false (show ¬ A = B by omega), decide_eq_false (show ¬ U + p * A < V + p * B by omega), decide_eq_false (show ¬ U + p * A = V + p * B by omega)]; simp

theorem dig_order (k N M : Nat) (t t' : List UInt8) : Op.bytesLess (digL N k ++ t) (digL M k ++ t') = (decide (N % 10 ^ k < M % 10 ^ k) || (decide (N % 10 ^ k = M % 10 ^ k) && Op.bytesLess t t')) := by
  induction k with
  | zero => simp [digL, Nat.mod_one]
  | succ k ih =>
    have hA := Nat.mod_lt (N / 10 ^ k) (show 10 > 0 by omega)
    have hB := Nat.mod_lt (M / 10 ^ k) (show 10 > 0 by omega)
    have hp : 10 ^ k > 0 := Nat.pow_pos (by omega)
    have hU := Nat.mod_lt N hp
    have hV := Nat.mod_lt M hp
    rw [Nat.mod_pow_succ, Nat.mod_pow_succ, ← ord_step _ _ _ _ _ _ hU hV, ← ih]
    show Op.bytesLess ((48 + UInt8.ofNat (N / 10 ^ k % 10)) :: (digL N k ++ t)) ((48 + UInt8.ofNat (M / 10 ^ k % 10)) :: (digL M k ++ t')) = _
    rw [Op.bytesLess]
    have e1 := dig_lt _ _ hA hB
    have e2 := dig_eq _ _ hA hB
    rw [show (decide (48 + UInt8.ofNat (N / 10 ^ k % 10) < 48 + UInt8.ofNat (M / 10 ^ k % 10))) = decide (N / 10 ^ k % 10 < M / 10 ^ k % 10) by rw [decide_eq_decide]; exact e1]
    rw [show (48 + UInt8.ofNat (N / 10 ^ k % 10) == 48 + UInt8.ofNat (M / 10 ^ k % 10)) = decide (N / 10 ^ k % 10 = M / 10 ^ k % 10) by rw [Bool.eq_iff_iff, beq_iff_eq, decide_eq_true_iff]; exact e2]

theorem dash_order (x y : List UInt8) : Op.bytesLess (45 :: x) (45 :: y) = Op.bytesLess x y := by rw [Op.bytesLess]; simp

theorem date_order {a b : Int} (h0 : 0 ≤ a) (h1 : a < 65536) (h2 : 0 ≤ b) (h3 : b < 65536) : a < b ↔ (moZ a < moZ b ∨ (moZ a = moZ b ∧ ddZ a < ddZ b)) := by
  have ea : ddZ a = a - (st (mo a.toNat) : Int) := rfl
  have eb : ddZ b = b - (st (mo b.toNat) : Int) := rfl
  have sa := mo_spec a.toNat (by omega)
  have sb := mo_spec b.toNat (by omega)
  have ma : moZ a = (mo a.toNat : Int) := rfl
  have mb : moZ b = (mo b.toNat : Int) := rfl
  rcases Nat.lt_trichotomy (mo a.toNat) (mo b.toNat) with h | h | h
  · have := st_mono (show mo a.toNat + 1 ≤ mo b.toNat from h); omega
  · rw [h] at ea sa; omega
  · have := st_mono (show mo b.toNat + 1 ≤ mo a.toNat from h); omega

theorem text_order {a b : Int} (h0 : 0 ≤ a) (h1 : a < 65536) (h2 : 0 ≤ b) (h3 : b < 65536) : Op.bytesLess (textL a) (textL b) = decide (a < b) := by
  have ya := yZ_bd a h1
  have yb := yZ_bd b h3
  have mza := mZ_bd a
  have mzb := mZ_bd b
  have da := dZ_bd a h0 h1
  have db := dZ_bd b h2 h3
  rw [textL, textL, if_pos (dateB_true h0 h1), if_pos (dateB_true h2 h3), dig_order, dash_order, dig_order, dash_order]
  have e := dig_order 2 (dZ a).toNat (dZ b).toNat [] []
  rw [List.append_nil, List.append_nil] at e
  rw [e, show Op.bytesLess [] [] = false from rfl, Bool.and_false, Bool.or_false]
  rw [Nat.mod_eq_of_lt (show (yZ a).toNat < 10 ^ 4 by omega), Nat.mod_eq_of_lt (show (yZ b).toNat < 10 ^ 4 by omega), Nat.mod_eq_of_lt (show (mZ a).toNat < 10 ^ 2 by omega), Nat.mod_eq_of_lt (show (mZ b).toNat < 10 ^ 2 by omega),
    Nat.mod_eq_of_lt (show (dZ a).toNat < 10 ^ 2 by omega), Nat.mod_eq_of_lt (show (dZ b).toNat < 10 ^ 2 by omega)]
  rw [Bool.eq_iff_iff]
  simp only [Bool.or_eq_true, Bool.and_eq_true, decide_eq_true_iff]
  rw [date_order h0 h1 h2 h3]
  have e1 : yZ a = 1900 + moZ a / 12 := rfl
  have e2 : yZ b = 1900 + moZ b / 12 := rfl
  have e3 : mZ a = moZ a % 12 + 1 := rfl
  have e4 : mZ b = moZ b % 12 + 1 := rfl
  have e5 : dZ a = ddZ a + 1 := rfl
  have e6 : dZ b = ddZ b + 1 := rfl
  omega

theorem valF_digL (k N : Nat) (m : Int) : valF m (digL N k) = m * (10 ^ k : Nat) + (N % 10 ^ k : Nat) := by
  induction k generalizing m with
  | zero => simp [digL, valF, Nat.mod_one]
  | succ k ih =>
    have hA := Nat.mod_lt (N / 10 ^ k) (show 10 > 0 by omega)
    show valF m ((48 + UInt8.ofNat (N / 10 ^ k % 10)) :: digL N k) = _
    rw [valF, dig_toNat _ hA, if_neg (by omega), ih, Nat.mod_pow_succ, Nat.pow_succ]
    rw [show ((48 + N / 10 ^ k % 10 : Nat) : Int) - 48 = ((N / 10 ^ k % 10 : Nat) : Int) by omega]
    generalize N / 10 ^ k % 10 = A
    generalize N % 10 ^ k = U
    generalize 10 ^ k = p
    have g1 : (10 * m + (A : Int)) * (p : Int) = 10 * (m * (p : Int)) + (A : Int) * (p : Int) := by rw [Int.add_mul, Int.mul_assoc]
    have g2 : m * ((p * 10 : Nat) : Int) = 10 * (m * (p : Int)) := by rw [Int.natCast_mul, ← Int.mul_assoc, Int.mul_comm]; rfl
    have g3 : ((U + p * A : Nat) : Int) = (U : Int) + (A : Int) * (p : Int) := by rw [Int.natCast_add, Int.natCast_mul, Int.mul_comm (p : Int)]
    rw [g1, g2, g3]
    omega

theorem valL_digL (k N : Nat) (h : N < 10 ^ k) : valL (digL N k) = (N : Int) := by
  rw [valL, valF_digL, Nat.mod_eq_of_lt h]; simp

theorem digL2_cons (N : Nat) : ∃ a b, digL N 2 = [a, b] := ⟨_, _, rfl⟩
theorem digL4_cons (N : Nat) : ∃ a b c d, digL N 4 = [a, b, c, d] := ⟨_, _, _, _, rfl⟩

/-- Day is the inverse of YMD. -/
theorem day_ymd2 {d : Int} (h0 : 0 ≤ d) (h1 : d < 65536) : dayV (yZ d) (mZ d) (dZ d) = d ∧ dayE (yZ d) (mZ d) (dZ d) = 0 ∧ dZ d ≤ lenZ (yZ d) (mZ d) := by
  have hm := moZ_bd d h1
  have hd := ddZ_bd d h0 h1
  have e1 : dZ d = ddZ d + 1 := rfl
  have e2 : ddZ d = d - (st (mo d.toNat) : Int) := rfl
  have e3 : (moZ d).toNat = mo d.toNat := by unfold moZ; omega
  have hz := lenZ_sz (moZ d) hm.1
  rw [e3] at hz
  have hy := yZ_bd d h1
  have hN : dayN (yZ d) (mZ d) (dZ d) = d := by
    have := dayN_at (moZ d) (dZ d)
    show dayN (1900 + moZ d / 12) (moZ d % 12 + 1) (dZ d) = d
    rw [this, e3]; omega
  have hl : dZ d ≤ lenZ (yZ d) (mZ d) := by
    show dZ d ≤ lenZ (1900 + moZ d / 12) (moZ d % 12 + 1)
    rw [hz]; omega
  have hB : dayB (yZ d) (mZ d) (dZ d) = true := dayB_true (by omega) (by omega) (by omega) hl (by rw [hN]; exact h1)
  rw [dayV, dayE, if_pos hB, if_pos hB, hN]
  exact ⟨rfl, rfl, hl⟩

theorem par_text {a : Int} (h0 : 0 ≤ a) (h1 : a < 65536) : parV (textL a) = a ∧ parE (textL a) = 0 ∧ (textL a).length = 10 := by
  have ya := yZ_bd a h1
  have ma := mZ_bd a
  have da := dZ_bd a h0 h1
  have v1 := valL_digL 4 (yZ a).toNat (by omega)
  have v2 := valL_digL 2 (mZ a).toNat (by omega)
  have v3 := valL_digL 2 (dZ a).toNat (by omega)
  obtain ⟨q1, q2, _⟩ := day_ymd2 h0 h1
  rw [textL, if_pos (dateB_true h0 h1)]
  obtain ⟨a1, a2, a3, a4, e1⟩ := digL4_cons (yZ a).toNat
  obtain ⟨b1, b2, e2⟩ := digL2_cons (mZ a).toNat
  obtain ⟨c1, c2, e3⟩ := digL2_cons (dZ a).toNat
  rw [e1] at v1 ⊢; rw [e2] at v2 ⊢; rw [e3] at v3 ⊢
  have hB : parB ([a1, a2, a3, a4] ++ 45 :: ([b1, b2] ++ 45 :: [c1, c2])) = true := by
    show parB [a1, a2, a3, a4, 45, b1, b2, 45, c1, c2] = true
    rw [parB_ten]; simp
  have w1 : valL (List.take 4 ([a1, a2, a3, a4] ++ 45 :: ([b1, b2] ++ 45 :: [c1, c2]))) = yZ a := by show valL [a1, a2, a3, a4] = _; omega
  have w2 : valL (List.take 2 (List.drop 5 ([a1, a2, a3, a4] ++ 45 :: ([b1, b2] ++ 45 :: [c1, c2])))) = mZ a := by show valL [b1, b2] = _; omega
  have w3 : valL (List.drop 8 ([a1, a2, a3, a4] ++ 45 :: ([b1, b2] ++ 45 :: [c1, c2]))) = dZ a := by show valL [c1, c2] = _; omega
  rw [parV, parE, if_pos hB, if_pos hB, w1, w2, w3]
  exact ⟨q1, q2, rfl⟩

theorem par_back {l : List UInt8} (h : parE l = 0) : textL (parV l) = l ∧ 0 ≤ parV l ∧ parV l < 65536 := by
  unfold parE at h
  cases hB : parB l
  · rw [if_neg (by simp [hB])] at h; omega
  · rw [if_pos hB] at h
    have hl : l.length = 10 := by
      simp only [parB, Bool.and_eq_true, beq_iff_eq] at hB; exact hB.1.1
    obtain ⟨a, b, c, d, e, f, g, i, j, k, rfl⟩ := list_ten l hl
    rw [parV, if_pos hB]
    rw [parB_ten] at hB
    obtain ⟨rfl, rfl⟩ := of_decide_eq_true hB
    simp only [List.take, List.drop] at h ⊢
    have hd : dayB (valL [a, b, c, d]) (valL [f, g]) (valL [j, k]) = true := by
      unfold dayE at h
      cases hd : dayB (valL [a, b, c, d]) (valL [f, g]) (valL [j, k])
      · rw [if_neg (by simp [hd])] at h; omega
      · rfl
    obtain ⟨r1, r2, _⟩ := ymd_day _ _ _ hd
    rw [dayV, if_pos hd]
    exact ⟨text_day a b c d f g j k hd, r1, r2⟩

theorem par_cases (l : List UInt8) : parE l = 0 ∨ (parE l = 2 ∧ parV l = 0) := by
  unfold parE parV
  split
  · unfold dayE dayV
    split
    · exact Or.inl rfl
    · exact Or.inr ⟨rfl, rfl⟩
  · exact Or.inr ⟨rfl, rfl⟩

end Go.Proofs.Ytblgiojmodoilaa.Cal
