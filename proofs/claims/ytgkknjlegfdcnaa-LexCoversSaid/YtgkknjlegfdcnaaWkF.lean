/- annuitantlaw11.empty, where a part of a source is empty. -/
import Derived.Test.YtgkknjlegfdcnaaWkC
import Derived.Test.YtgkknjlegfdcnaaPlF
namespace Go.Proofs.Ytgkknjlegfdcnaa.Lx
open Go.RowKit Go.Shelf Go.Proofs.Ytgkknjlegfdcnaa.Cal

def EmptyR (l : List UInt8) (i : Value) : Prop := ∃ j : Nat, i = .int .i64 (j : Int) ∧ ((j ≤ l.length ∧ emptyS false (l.drop j) = true) ∨ j = l.length + 1)
def RemarkR (l : List UInt8) (j : Nat) (i : Value) : Prop := ∃ k : Nat, i = .int .i64 (k : Int) ∧ j ≤ k ∧ k ≤ l.length ∧ emptyS true (l.drop k) = true

theorem byte_is {c : UInt8} {n : Nat} (hc : c = UInt8.ofNat n) (hn : n < 256) : (c.toNat : Int) = (n : Int) := by
  rw [hc, UInt8.toNat_ofNat']; omega

theorem empty_any (l : List UInt8) (w : World) (hl : l.length ≤ 3000) (h : emptyS false l = true) :
    Calls Try.prog 15 #[.string (bs l)] w fun e w' => e = .returned (.bool true) ∧ w = w' := by
  have hsz := bs_size l
  have hs2 : (bs l).size ≤ 3000 := by omega
  have HSZ := Lib.hid hsz
  have HG := Lib.hid (fun (j : Nat) (hj : j < (bs l).size) => bs_get l j hj)
  have H0 := Lib.hid h
  clear hsz h
  generalize bs l = B at *
  go_enter Try.func15, Try.ntmps15
  go_wp2_with fail
  go_loop [3] (EmptyR l) (fun i => l.length + 2 - (intOf i).toNat)
  case atStart => exact ⟨0, rfl, Or.inl ⟨Nat.zero_le _, H0.out⟩⟩
  case round =>
    obtain ⟨j, rfl, hj⟩ := hrel
    by_cases hlt : j < l.length
    · have hjB : j < B.size := by rw [HSZ.out]; exact hlt
      have hji : (j : Int) < (B.size : Int) := by omega
      have hgb := HG.out j hjB
      have he : emptyS false (l.drop j) = true := by
        rcases hj with h | h
        · exact h.2
        · omega
      rw [drop_cons l j hlt] at he
      clear hj
      generalize hc : l.getD j 0 = c at *
      unfold emptyS at he
      by_cases h35 : c = 35
      · rw [if_pos h35] at he
        have hv : ((B[j]'hjB).toNat : Int) = 35 := by rw [hgb]; exact byte_is h35 (by decide)
        have hs0 : emptyS true (l.drop j) = true := by
          rw [drop_cons l j hlt, hc, h35]; exact he
        have HS0 := Lib.hid hs0
        clear he hgb h35 hs0 hc
        go_wp2_with fail
        go_loop [3] (RemarkR l j) (fun i => l.length - (intOf i).toNat)
        case atStart => exact ⟨j, rfl, Nat.le_refl _, by omega, HS0.out⟩
        case round =>
          obtain ⟨k, rfl, hjk, hk, hek⟩ := hrel
          clear hv
          by_cases hlk : k < l.length
          · have hkB : k < B.size := by rw [HSZ.out]; exact hlk
            have hki : (k : Int) < (B.size : Int) := by omega
            have hgk := HG.out k hkB
            rw [drop_cons l k hlk] at hek
            generalize hc2 : l.getD k 0 = c2 at *
            unfold emptyS at hek
            by_cases h10 : c2 = 10
            · rw [if_pos h10] at hek
              have hv2 : ((B[k]'hkB).toNat : Int) = 10 := by rw [hgk]; exact byte_is h10 (by decide)
              clear hgk h10 hc2
              go_wp2_with fail
              go_round
              case rel => exact ⟨k + 1, by go_num, Or.inl ⟨by omega, hek⟩⟩
              case measure => simp [intOf]; omega
            · rw [if_neg h10] at hek
              have hv2 : (((B[k]'hkB).toNat : Int) != 10) = true := by
                rw [hgk]
                cases hq : ((c2.toNat : Int) != 10)
                · exact absurd (by apply UInt8.toNat_inj.1; show _ = 10; have : (c2.toNat : Int) = 10 := by simpa using hq
                                   omega) h10
                · rfl
              clear hgk h10 hc2
              go_wp2_with fail
              go_round
              case rel => exact ⟨k + 1, by go_num, by omega, by omega, hek⟩
              case measure => simp [intOf]; omega
          · obtain rfl : k = l.length := by omega
            have hki : (B.size : Int) ≤ (l.length : Int) := by rw [HSZ.out]; omega
            go_wp2_with fail
            go_round
            case rel => exact ⟨l.length + 1, by go_num, Or.inr rfl⟩
            case measure => simp [intOf]; omega
      · rw [if_neg h35, Bool.and_eq_true] at he
        obtain ⟨he1, he2⟩ := he
        have hcc : c = 32 ∨ c = 9 ∨ c = 10 := by
          simp only [blankB, Bool.or_eq_true, beq_iff_eq] at he1
          rcases he1 with (h | h) | h
          · exact Or.inl h
          · exact Or.inr (Or.inl h)
          · exact Or.inr (Or.inr h)
        rcases hcc with h | h | h
        · have hv : ((B[j]'hjB).toNat : Int) = 32 := by rw [hgb]; exact byte_is h (by decide)
          clear hgb h35 hc h he1
          go_wp2_with fail
          go_round
          case rel => exact ⟨j + 1, by go_num, Or.inl ⟨by omega, he2⟩⟩
          case measure => simp [intOf]; omega
        · have hv : ((B[j]'hjB).toNat : Int) = 9 := by rw [hgb]; exact byte_is h (by decide)
          clear hgb h35 hc h he1
          go_wp2_with fail
          go_round
          case rel => exact ⟨j + 1, by go_num, Or.inl ⟨by omega, he2⟩⟩
          case measure => simp [intOf]; omega
        · have hv : ((B[j]'hjB).toNat : Int) = 10 := by rw [hgb]; exact byte_is h (by decide)
          clear hgb h35 hc h he1
          go_wp2_with fail
          go_round
          case rel => exact ⟨j + 1, by go_num, Or.inl ⟨by omega, he2⟩⟩
          case measure => simp [intOf]; omega
    · have hji : (B.size : Int) ≤ (j : Int) := by rw [HSZ.out]; omega
      go_wp2_with fail
      go_ret
      exact ⟨rfl, rfl⟩

end Go.Proofs.Ytgkknjlegfdcnaa.Lx
