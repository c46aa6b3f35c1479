/- Contracts: texts of dates. -/
import Derived.Test.YtblgiojmodoilaaRefD
namespace Go.Proofs.Ytblgiojmodoilaa.Cal
open Go.RowKit Go.Shelf

/-- The last j digits of a number. -/
def digL (N : Nat) : Nat → List UInt8
  | 0 => []
  | j + 1 => (48 + UInt8.ofNat (N / 10 ^ j % 10)) :: digL N j

def strV (l : List UInt8) : Value := .string ⟨l.toArray⟩

theorem digL_length (N j : Nat) : (digL N j).length = j := by
  induction j with
  | zero => rfl
  | succ j ih => simp [digL, ih]

/-- 'string([]byte{c})'. -/
theorem run_byte1 (w : World) (n : Int) : (convert 39 9 (.slice (some ⟨w.heap.size, 0, none⟩) 1 1)).run Try.prog (w.alloc (.cells #[.int .u8 n] 5)) = .ok (.string ⟨#[UInt8.ofNat n.toNat]⟩) (w.alloc (.cells #[.int .u8 n] 5)) := by
  have h := run_convert_bytes_arg (P := Try.prog) (w.alloc (.cells #[.int .u8 n] 5)) 39 5 Try.underlying39 Try.underlying5 w.heap.size 0 1 1 [n] rfl (fun i hi => by
    obtain rfl : i = 0 := by omega
    exact cell_box w (.int .u8 n) 5) 9 Try.underlying9
  exact h

theorem strV_append (c : UInt8) (l : List UInt8) : Value.string (⟨#[c]⟩ ++ ⟨l.toArray⟩) = strV (c :: l) := by
  unfold strV
  congr 1

def DigRel (N many : Nat) (w : World) (n s k : Value) (wr : World) : Prop :=
  ∃ j : Nat, j ≤ many ∧ n = .int .i64 ((N / 10 ^ j : Nat) : Int) ∧ s = strV (digL N j) ∧ k = .int .i64 (j : Int) ∧ Up w wr

set_option maxHeartbeats 2000000 in
theorem digits53 (N many : Nat) (w : World) (hN : N < 1000000) (hm : many ≤ 4) :
    Calls Try.prog 53 #[.int .i64 (N : Int), .int .i64 (many : Int)] w fun e w' => e = .returned (strV (digL N many)) ∧ Up w w' := by
  have hb1 := run_byte1
  go_enter Try.func53, Try.ntmps53
  go_wp2_with fail
  go_loopw [0, 5, 6] (DigRel N many w) (fun _ _ k _ => many - (intOf k).toNat)
  case atStart => exact ⟨0, by omega, by simp, rfl, rfl, Up.refl _⟩
  case round =>
    obtain ⟨j, hj, rfl, rfl, rfl, hup⟩ := hrel
    have hb : N / 10 ^ j ≤ N := Nat.div_le_self _ _
    have hl := digL_length N j
    have hq1 : N / 10 ^ (j + 1) = N / 10 ^ j / 10 := by rw [Nat.pow_succ, Nat.div_div_eq_div_mul]
    have hd1 : digL N (j + 1) = (48 + UInt8.ofNat (N / 10 ^ j % 10)) :: digL N j := rfl
    have hl2 : (digL N j).length ≤ 4 := by omega
    generalize N / 10 ^ j = q at *
    have H1 := Lib.hid hq1
    have H2 := Lib.hid hd1
    clear hq1 hd1 hl
    by_cases hlt : j < many
    · generalize hD : digL N j = D at *
      have HD := Lib.hid hD
      clear hD
      unfold strV
      go_wp2_with fail
      go_roundw
      case rel => exact ⟨j + 1, by omega, int_eq (by rw [H1.out]; omega), by rw [H2.out]; exact strV_append _ _, int_eq (by omega), hup.alloc _⟩
      case measure => simp [intOf]; omega
    · obtain rfl : many = j := by omega
      go_wp2_with fail
      go_ret
      exact ⟨rfl, hup⟩

end Go.Proofs.Ytblgiojmodoilaa.Cal
