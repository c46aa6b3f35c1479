/- Contracts: numbers read from digits. -/
import Derived.Test.YtblgiojmodoilaaTextB
namespace Go.Proofs.Ytblgiojmodoilaa.Cal
open Go.RowKit Go.Shelf

/-- The number with some digits, n being what stands ahead; -1 if one is none. -/
def valF : Int → List UInt8 → Int
  | n, [] => n
  | n, c :: l => if c.toNat < 48 ∨ 57 < c.toNat then -1 else valF (10 * n + ((c.toNat : Int) - 48)) l
def valL (l : List UInt8) : Int := valF 0 l

/-- A row of bytes in memory. -/
def Row (w : World) (b : Nat) (l : List UInt8) : Prop := ∀ i, i < l.length → w.cell? ⟨b, i, none⟩ = some (.int .u8 ((l.getD i 0).toNat : Int))

def p10 : Nat → Int
  | 0 => 1
  | k + 1 => 10 * p10 k

theorem p10_bd (k : Nat) (h : k ≤ 4) : 1 ≤ p10 k ∧ p10 k ≤ 10000 := by
  match k, h with
  | 0, _ => decide
  | 1, _ => decide
  | 2, _ => decide
  | 3, _ => decide
  | 4, _ => decide

theorem drop_cons (l : List UInt8) (k : Nat) (h : k < l.length) : l.drop k = l.getD k 0 :: l.drop (k + 1) := by
  rw [List.drop_eq_getElem_cons h]
  simp [List.getD, h]

theorem ret_int {a b : Int} (h : a = b) : Ending.returned (.int .i64 a) = Ending.returned (.int .i64 b) := by rw [h]

def NumRel (l : List UInt8) (n k : Value) : Prop :=
  ∃ (j : Nat) (m : Int), j ≤ l.length ∧ k = .int .i64 (j : Int) ∧ n = .int .i64 m ∧ 0 ≤ m ∧ m < p10 j ∧ valF m (l.drop j) = valL l

set_option maxHeartbeats 4000000 in
theorem number50 (b cap : Nat) (l : List UInt8) (w : World) (hr : Row w b l) (hl : l.length ≤ 4) :
    Calls Try.prog 50 #[.slice (some ⟨b, 0, none⟩) l.length cap] w fun e w' => e = .returned (.int .i64 (valL l)) ∧ w = w' := by
  have HR := Lib.hid hr
  clear hr
  go_enter Try.func50, Try.ntmps50
  go_wp2_with fail
  go_loop [3, 8] (NumRel l) (fun _ k => (l.length : Int).toNat - (intOf k).toNat)
  case atStart => exact ⟨0, 0, Nat.zero_le _, rfl, rfl, by decide, by decide, rfl⟩
  case round =>
    obtain ⟨j, m, hj, rfl, rfl, hm0, hm1, hv⟩ := hrel
    have hp := p10_bd j (by omega)
    by_cases hlt : j < l.length
    · have hc := HR.out j hlt
      have hp2 : p10 (j + 1) = 10 * p10 j := rfl
      have hd := drop_cons l j hlt
      have hb := (l.getD j 0).toNat_lt
      generalize l.getD j 0 = c at *
      rw [hd, valF] at hv
      have HV := Lib.hid hv
      have HP := Lib.hid hp2
      clear hv hd hp2
      by_cases h1 : c.toNat < 48
      · have hfin : Hid (valL l = -1) := by rw [← HV.out, if_pos (Or.inl h1)]; rfl
        go_wp2_with fail
        go_ret
        exact ⟨ret_int hfin.out.symm, rfl⟩
      · by_cases h2 : 57 < c.toNat
        · have hfin : Hid (valL l = -1) := by rw [← HV.out, if_pos (Or.inr h2)]; rfl
          go_wp2_with fail
          go_ret
          exact ⟨ret_int hfin.out.symm, rfl⟩
        · have hnext : Hid (valF (10 * m + ((c.toNat : Int) - 48)) (l.drop (j + 1)) = valL l) := by rw [← HV.out, if_neg (by omega)]; rfl
          clear HV
          go_wp2_with fail
          go_round
          case rel => exact ⟨j + 1, 10 * m + ((c.toNat : Int) - 48), by omega, by go_num, int_eq (by omega), by omega, by rw [HP.out]; omega, hnext.out⟩
          case measure => simp [intOf]; omega
    · obtain rfl : j = l.length := by omega
      have hfin : Hid (valL l = m) := by rw [← hv, List.drop_length]; rfl
      clear hv
      go_wp2_with fail
      go_ret
      exact ⟨ret_int hfin.out.symm, rfl⟩

theorem bs_get (l : List UInt8) (j : Nat) (h : j < (bs l).size) : (bs l)[j] = l.getD j 0 := by
  have h' : j < l.length := by rw [bs_size] at h; exact h
  simp [bs, List.getD, h']
  rfl

set_option maxHeartbeats 1000000 in
/-- The same of a string. -/
theorem value51_bs (l : List UInt8) (w : World) (hl : l.length ≤ 4) :
    Calls Try.prog 51 #[.string (bs l)] w fun e w' => e = .returned (.int .i64 (valL l)) ∧ w = w' := by
  have hsz := bs_size l
  have hsz2 : (bs l).size ≤ 4 := by omega
  have HSZ := Lib.hid hsz
  clear hsz
  go_enter Try.func51, Try.ntmps51
  go_wp2_with fail
  go_loop [3, 4] (NumRel l) (fun _ k => (l.length : Int).toNat - (intOf k).toNat)
  case atStart => exact ⟨0, 0, Nat.zero_le _, rfl, rfl, by decide, by decide, rfl⟩
  case round =>
    obtain ⟨j, m, hj, rfl, rfl, hm0, hm1, hv⟩ := hrel
    have hp := p10_bd j (by omega)
    by_cases hlt : j < l.length
    · have hlt2 : j < (bs l).size := by have := HSZ.out; omega
      have hp2 : p10 (j + 1) = 10 * p10 j := rfl
      have hd := drop_cons l j hlt
      have hg := bs_get l j hlt2
      have hb := ((bs l)[j]).toNat_lt
      rw [← hg] at hd
      rw [hd, valF] at hv
      have HV := Lib.hid hv
      have HP := Lib.hid hp2
      clear hv hd hp2 hg
      by_cases h1 : (((bs l)[j]).toNat : Int) < 48
      · have hfin : Hid (valL l = -1) := by rw [← HV.out, if_pos (Or.inl (by omega))]; rfl
        go_wp2_with fail
        go_ret
        exact ⟨ret_int hfin.out.symm, rfl⟩
      · by_cases h2 : 57 < (((bs l)[j]).toNat : Int)
        · have hfin : Hid (valL l = -1) := by rw [← HV.out, if_pos (Or.inr (by omega))]; rfl
          go_wp2_with fail
          go_ret
          exact ⟨ret_int hfin.out.symm, rfl⟩
        · have hnext : Hid (valF (10 * m + (((bs l)[j].toNat : Int) - 48)) (l.drop (j + 1)) = valL l) := by rw [← HV.out, if_neg (by omega)]; rfl
          clear HV
          go_wp2_with fail
          go_round
          case rel => exact ⟨j + 1, 10 * m + (((bs l)[j].toNat : Int) - 48), by omega, by go_num, int_eq (by omega), by omega, by rw [HP.out]; omega, hnext.out⟩
          case measure => simp [intOf]; omega
    · obtain rfl : j = l.length := by omega
      have hfin : Hid (valL l = m) := by rw [← hv, List.drop_length]; rfl
      have hge : (bs l).size ≤ l.length := by have := HSZ.out; omega
      clear hv
      go_wp2_with fail
      go_ret
      exact ⟨ret_int hfin.out.symm, rfl⟩

end Go.Proofs.Ytblgiojmodoilaa.Cal
