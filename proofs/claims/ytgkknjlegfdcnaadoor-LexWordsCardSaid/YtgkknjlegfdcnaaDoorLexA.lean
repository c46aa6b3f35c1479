/- Contracts: classes of bytes, span, ends. -/
import Derived.Test.YtgkknjlegfdcnaaDoorLexM
namespace Go.Proofs.YtgkknjlegfdcnaaDoor.Lx
open Go.RowKit Go.Shelf Go.Proofs.YtgkknjlegfdcnaaDoor.Cal

theorem ret_bool {a b : Bool} (h : a = b) : Ending.returned (.bool a) = Ending.returned (.bool b) := by rw [h]

theorem digit_any (c : UInt8) (w : World) : Calls Tryd.prog 19 #[.int .u8 (c.toNat : Int)] w fun e w' => e = .returned (.bool (digB c)) ∧ w = w' := by
  have hb := c.toNat_lt
  by_cases h1 : 48 ≤ c.toNat
  · have e : digB c = decide ((c.toNat : Int) ≤ 57) := by
      unfold digB; rw [decide_eq_true h1, Bool.true_and, decide_eq_decide]; omega
    rw [e]
    go_enter Tryd.func19, Tryd.ntmps19
    go_wp2
    go_ret
    exact ⟨rfl, rfl⟩
  · rw [show digB c = false by simp [digB, h1]]
    go_enter Tryd.func19, Tryd.ntmps19
    go_wp2
    go_ret
    exact ⟨rfl, rfl⟩

theorem or32_all : ∀ n : Nat, n < 256 → bits BinOp.or IntKind.u8 (n : Int) 32 = ((UInt8.ofNat n ||| 32).toNat : Int) := by decide +kernel
theorem or32 (c : UInt8) : bits BinOp.or IntKind.u8 (c.toNat : Int) 32 = ((c ||| 32).toNat : Int) := by
  have h := or32_all c.toNat c.toNat_lt
  rw [UInt8.ofNat_toNat] at h; exact h

theorem letter_any (c : UInt8) (w : World) : Calls Tryd.prog 11 #[.int .u8 (c.toNat : Int)] w fun e w' => e = .returned (.bool (letB c)) ∧ w = w' := by
  have ho := or32 c
  by_cases h1 : 97 ≤ (c ||| 32).toNat
  · have e : letB c = decide (((c ||| 32).toNat : Int) ≤ 122) := by
      unfold letB; rw [decide_eq_true h1, Bool.true_and, decide_eq_decide]; omega
    rw [e]
    generalize (c ||| 32).toNat = m at *
    go_enter Tryd.func11, Tryd.ntmps11
    go_wp2
    go_ret
    exact ⟨rfl, rfl⟩
  · rw [show letB c = false by unfold letB; rw [decide_eq_false h1]; rfl]
    generalize (c ||| 32).toNat = m at *
    go_enter Tryd.func11, Tryd.ntmps11
    go_wp2
    go_ret
    exact ⟨rfl, rfl⟩

theorem letter_is (c : UInt8) (b : Bool) (h : letB c = b) (w : World) : Calls Tryd.prog 11 #[.int .u8 (c.toNat : Int)] w fun e w' => e = .returned (.bool b) ∧ w = w' := by
  rw [← h]; exact letter_any c w
theorem digit_is (c : UInt8) (b : Bool) (h : digB c = b) (w : World) : Calls Tryd.prog 19 #[.int .u8 (c.toNat : Int)] w fun e w' => e = .returned (.bool b) ∧ w = w' := by
  rw [← h]; exact digit_any c w

theorem byte_eq (c : UInt8) (n : Nat) (hn : n < 256) : ((c.toNat : Int) == (n : Int)) = (c == UInt8.ofNat n) := by
  rw [Bool.eq_iff_iff, beq_iff_eq, beq_iff_eq]
  constructor
  · intro h; apply UInt8.toNat_inj.1; rw [UInt8.toNat_ofNat']; omega
  · intro h; rw [h, UInt8.toNat_ofNat']; omega

set_option maxHeartbeats 1000000 in
theorem part_any (c : UInt8) (w : World) : Calls Tryd.prog 13 #[.int .u8 (c.toNat : Int)] w fun e w' => e = .returned (.bool (partB c)) ∧ w = w' := by
  cases h1 : letB c
  · cases h2 : digB c
    · have e : partB c = ((c.toNat : Int) == 95) := by
        have := byte_eq c 95 (by omega)
        unfold partB; rw [h1, h2]; rw [show ((95 : Nat) : Int) = 95 from rfl] at this; rw [this]; rfl
      rw [e]
      have H1 := Lib.hid (letter_is c false h1)
      have H2 := Lib.hid (digit_is c false h2)
      clear h1 h2 e
      go_enter Tryd.func13, Tryd.ntmps13
      go_wp2_with fail
      refine (H1.out _).mono ?_
      rintro e w1 ⟨rfl, rfl⟩
      go_wp2_with fail
      refine (H2.out _).mono ?_
      rintro e w1 ⟨rfl, rfl⟩
      go_wp2_with fail
      go_ret
      exact ⟨rfl, rfl⟩
    · rw [show partB c = true by simp [partB, h2]]
      have H1 := Lib.hid (letter_is c false h1)
      have H2 := Lib.hid (digit_is c true h2)
      clear h1 h2
      go_enter Tryd.func13, Tryd.ntmps13
      go_wp2_with fail
      refine (H1.out _).mono ?_
      rintro e w1 ⟨rfl, rfl⟩
      go_wp2_with fail
      refine (H2.out _).mono ?_
      rintro e w1 ⟨rfl, rfl⟩
      go_wp2_with fail
      go_ret
      exact ⟨rfl, rfl⟩
  · rw [show partB c = true by simp [partB, h1]]
    have H1 := Lib.hid (letter_is c true h1)
    clear h1
    go_enter Tryd.func13, Tryd.ntmps13
    go_wp2_with fail
    refine (H1.out _).mono ?_
    rintro e w1 ⟨rfl, rfl⟩
    go_wp2_with fail
    go_ret
    exact ⟨rfl, rfl⟩

theorem part_is (c : UInt8) (b : Bool) (h : partB c = b) (w : World) : Calls Tryd.prog 13 #[.int .u8 (c.toNat : Int)] w fun e w' => e = .returned (.bool b) ∧ w = w' := by
  rw [← h]; exact part_any c w

theorem blank_any (c : UInt8) (w : World) : Calls Tryd.prog 30 #[.int .u8 (c.toNat : Int)] w fun e w' => e = .returned (.bool (blankB c)) ∧ w = w' := by
  have e1 : (c == 32) = ((c.toNat : Int) == 32) := (byte_eq c 32 (by omega)).symm
  have e2 : (c == 9) = ((c.toNat : Int) == 9) := (byte_eq c 9 (by omega)).symm
  unfold blankB
  rw [e1, e2]
  clear e1 e2
  cases h1 : ((c.toNat : Int) == 32)
  · go_enter Tryd.func30, Tryd.ntmps30
    go_wp2
    go_ret
    exact ⟨rfl, rfl⟩
  · go_enter Tryd.func30, Tryd.ntmps30
    go_wp2
    go_ret
    exact ⟨rfl, rfl⟩

theorem line_any (c : UInt8) (w : World) : Calls Tryd.prog 32 #[.int .u8 (c.toNat : Int)] w fun e w' => e = .returned (.bool (lineB c)) ∧ w = w' := by
  have e1 : (c != 10) = ((c.toNat : Int) != 10) := by
    have := byte_eq c 10 (by omega)
    show (!(c == 10)) = !((c.toNat : Int) == ((10 : Nat) : Int))
    rw [this]; rfl
  unfold lineB
  rw [e1]
  clear e1
  go_enter Tryd.func32, Tryd.ntmps32
  go_wp2
  go_ret
  exact ⟨rfl, rfl⟩

theorem spanN_lt (p : UInt8 → Bool) (l : List UInt8) (j : Nat) (h : j < spanN p l) : p (l.getD j 0) = true := by
  induction l generalizing j with
  | nil => simp [spanN] at h
  | cons c l ih =>
    unfold spanN at h
    split at h
    · rename_i hc
      cases j with
      | zero => simpa using hc
      | succ j => simpa using ih j (by omega)
    · omega

theorem spanN_at (p : UInt8 → Bool) (l : List UInt8) (h : spanN p l < l.length) : p (l.getD (spanN p l) 0) = false := by
  induction l with
  | nil => simp [spanN] at h
  | cons c l ih =>
    unfold spanN at h ⊢
    split
    · rename_i hc
      rw [if_pos hc] at h
      have := ih (by simpa using h)
      simpa using this
    · rename_i hc
      simpa using hc

def SpanRel (n : Nat) (v : Value) : Prop := ∃ j : Nat, j ≤ n ∧ v = .int .i64 (j : Int)

set_option maxHeartbeats 1000000 in
/-- 'span' with a class of bytes. -/
theorem span_any (g : Nat) (p : UInt8 → Bool) (l : List UInt8) (w : World) (hl : l.length ≤ 100000) (eg : ∀ args w, (callFunc g args).run Tryd.prog w = .ok (.enter g args) w)
    (hg : ∀ (c : UInt8) (w : World), Calls Tryd.prog g #[.int .u8 (c.toNat : Int)] w fun e w' => e = .returned (.bool (p c)) ∧ w = w') :
    Calls Tryd.prog 12 #[.string (bs l), .func (.func g) #[] #[]] w fun e w' => e = .returned (.int .i64 (spanN p l : Int)) ∧ w = w' := by
  have HG := Lib.hid hg
  clear hg
  have hsz := bs_size l
  have hs2 : (bs l).size ≤ 100000 := by omega
  have hsp := spanN_le p l
  have HSZ := Lib.hid hsz
  clear hsz
  go_enter Tryd.func12, Tryd.ntmps12
  go_wp2_with fail
  go_loop [5] (SpanRel (spanN p l)) (fun v => (spanN p l : Nat) - (intOf v).toNat)
  case atStart => exact ⟨0, Nat.zero_le _, rfl⟩
  case round =>
    obtain ⟨j, hj, rfl⟩ := hrel
    by_cases hlt : j < spanN p l
    · have hlt2 : j < (bs l).size := by have := HSZ.out; omega
      have hpc := spanN_lt p l j hlt
      have hbg := bs_get l j hlt2
      rw [← hbg] at hpc
      have hc := HG.out ((bs l)[j])
      rw [hpc] at hc
      have HC := Lib.hid hc
      clear hc hpc hbg
      go_wp2_with (go_at_fn g; refine (HC.out _).mono ?_; rintro e w' ⟨rfl, rfl⟩)
      go_round
      case rel => exact ⟨j + 1, by omega, by go_num⟩
      case measure => simp [intOf]; omega
    · obtain rfl : j = spanN p l := by omega
      by_cases hend : spanN p l < l.length
      · have hlt2 : spanN p l < (bs l).size := by have := HSZ.out; omega
        have hpc := spanN_at p l hend
        have hbg := bs_get l (spanN p l) hlt2
        rw [← hbg] at hpc
        have hc := HG.out ((bs l)[spanN p l])
        rw [hpc] at hc
        have HC := Lib.hid hc
        clear hc hpc hbg
        go_wp2_with (go_at_fn g; refine (HC.out _).mono ?_; rintro e w' ⟨rfl, rfl⟩)
        go_ret
        exact ⟨rfl, rfl⟩
      · have hge : (bs l).size ≤ spanN p l := by have := HSZ.out; omega
        go_wp2_with fail
        go_ret
        exact ⟨rfl, rfl⟩

theorem span_part (l : List UInt8) (w : World) (hl : l.length ≤ 100000) : Calls Tryd.prog 12 #[.string (bs l), .func (.func 13) #[] #[]] w fun e w' => e = .returned (.int .i64 (spanN partB l : Int)) ∧ w = w' :=
  span_any 13 partB l w hl (enters_of Tryd.func13 (by kernel_rfl) rfl) part_any
theorem span_digit (l : List UInt8) (w : World) (hl : l.length ≤ 100000) : Calls Tryd.prog 12 #[.string (bs l), .func (.func 19) #[] #[]] w fun e w' => e = .returned (.int .i64 (spanN digB l : Int)) ∧ w = w' :=
  span_any 19 digB l w hl (enters_of Tryd.func19 (by kernel_rfl) rfl) digit_any
theorem span_blank (l : List UInt8) (w : World) (hl : l.length ≤ 100000) : Calls Tryd.prog 12 #[.string (bs l), .func (.func 30) #[] #[]] w fun e w' => e = .returned (.int .i64 (spanN blankB l : Int)) ∧ w = w' :=
  span_any 30 blankB l w hl (enters_of Tryd.func30 (by kernel_rfl) rfl) blank_any
theorem span_line (l : List UInt8) (w : World) (hl : l.length ≤ 100000) : Calls Tryd.prog 12 #[.string (bs l), .func (.func 32) #[] #[]] w fun e w' => e = .returned (.int .i64 (spanN lineB l : Int)) ∧ w = w' :=
  span_any 32 lineB l w hl (enters_of Tryd.func32 (by kernel_rfl) rfl) line_any

end Go.Proofs.YtgkknjlegfdcnaaDoor.Lx
