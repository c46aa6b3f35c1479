/- Contracts: ends, dated, number, kind. -/
import Derived.Test.YtgkknjlegfdcnaaDoorLexA
import Derived.Test.YtgkknjlegfdcnaaDoorCalP
import Derived.Lib.OthersKept
import Derived.WalkSmall
namespace Go.Proofs.YtgkknjlegfdcnaaDoor.Lx
open Go.RowKit Go.Shelf Go.Proofs.YtgkknjlegfdcnaaDoor.Cal

theorem endsB_end (l : List UInt8) (n : Nat) (h : n = l.length) : endsB l n = true := by
  unfold endsB; rw [List.drop_eq_nil_of_le (by omega)]
theorem endsB_at (l : List UInt8) (n : Nat) (h : n < l.length) : endsB l n = !partB (l.getD n 0) := by
  unfold endsB; rw [drop_cons l n h]

theorem ends_any (l : List UInt8) (n : Nat) (w : World) (hn : n ≤ l.length) (hl : l.length ≤ 100000) : Calls Tryd.prog 35 #[.string (bs l), .int .i64 (n : Int)] w fun e w' => e = .returned (.bool (endsB l n)) ∧ w = w' := by
  have hsz := bs_size l
  by_cases h : n = l.length
  · rw [endsB_end l n h]
    have hs2 : n = (bs l).size := by omega
    have hs3 : (bs l).size ≤ 100000 := by omega
    clear hsz h hn
    generalize bs l = B at *
    subst hs2
    go_enter Tryd.func35, Tryd.ntmps35
    go_wp2_with fail
    go_ret
    exact ⟨rfl, rfl⟩
  · have hlt : n < (bs l).size := by omega
    rw [endsB_at l n (by omega), ← bs_get l n hlt]
    have hc := fun w => part_any ((bs l)[n]) w
    generalize partB ((bs l)[n]) = b at *
    have hs3 : (bs l).size ≤ 100000 := by omega
    have hne : ((n : Int) == ((bs l).size : Int)) = false := by simp; omega
    clear hsz h hn
    generalize bs l = B at *
    have HC := Lib.hid hc
    clear hc
    go_enter Tryd.func35, Tryd.ntmps35
    go_wp2_with fail
    refine (HC.out _).mono ?_
    rintro e w1 ⟨rfl, rfl⟩
    go_wp2_with fail
    go_ret
    exact ⟨rfl, rfl⟩

def formL : List UInt8 := [48, 48, 48, 48, 45, 48, 48, 45, 48, 48]
def datP (l : List UInt8) (j : Nat) : Bool := decide (j < l.length) && (if formL.getD j 0 = 45 then l.getD j 0 == 45 else digB (l.getD j 0))

theorem dated_iff (l : List UInt8) : datedB l = true ↔ ∀ j, j < 10 → datP l j = true := by
  constructor
  · intro h
    match l, h with
    | a :: b :: c :: d :: e :: f :: g :: i :: j :: k :: r, h =>
      simp only [datedB, Bool.and_eq_true] at h
      obtain ⟨⟨⟨⟨⟨⟨⟨⟨⟨h0, h1⟩, h2⟩, h3⟩, h4⟩, h5⟩, h6⟩, h7⟩, h8⟩, h9⟩ := h
      intro n hn
      have hc : n = 0 ∨ n = 1 ∨ n = 2 ∨ n = 3 ∨ n = 4 ∨ n = 5 ∨ n = 6 ∨ n = 7 ∨ n = 8 ∨ n = 9 := by omega
      rcases hc with rfl | rfl | rfl | rfl | rfl | rfl | rfl | rfl | rfl | rfl <;> simp [datP, formL, *]
  · intro h
    have hlen : 10 ≤ l.length := by
      have := h 9 (by omega)
      simp only [datP, Bool.and_eq_true, decide_eq_true_eq] at this
      omega
    match l, hlen with
    | a :: b :: c :: d :: e :: f :: g :: i :: j :: k :: r, _ =>
      have h0 := h 0 (by omega)
      have h1 := h 1 (by omega)
      have h2 := h 2 (by omega)
      have h3 := h 3 (by omega)
      have h4 := h 4 (by omega)
      have h5 := h 5 (by omega)
      have h6 := h 6 (by omega)
      have h7 := h 7 (by omega)
      have h8 := h 8 (by omega)
      have h9 := h 9 (by omega)
      simp [datP, formL] at h0 h1 h2 h3 h4 h5 h6 h7 h8 h9
      simp [datedB, *]

theorem dated_not (l : List UInt8) (j : Nat) (hj : j < 10) (h : datP l j = false) : datedB l = false := by
  cases hd : datedB l
  · rfl
  · have := (dated_iff l).1 hd j hj; rw [h] at this; cases this

theorem dig48 (x : Int) (hx : x = 48) (w : World) : Calls Tryd.prog 19 #[.int .u8 x] w fun e w' => e = .returned (.bool true) ∧ w = w' := by rw [hx]; exact digit_is 48 true (by decide) w
theorem dig45 (x : Int) (hx : x = 45) (w : World) : Calls Tryd.prog 19 #[.int .u8 x] w fun e w' => e = .returned (.bool false) ∧ w = w' := by rw [hx]; exact digit_is 45 false (by decide) w

theorem quiet_same {P : Program} {f : FuncId} {args : Array Value} {w : World} {n : Nat} {v : Value} (h : Calls P f args (w.drewN n) fun e w' => e = .returned v ∧ w.drewN n = w') : Calls P f args (w.drewN n) fun e w'' => e = .returned v ∧ ∃ m, w'' = w.drewN m :=
  Calls.quiet_of_same (h.mono fun _ _ ⟨a, b⟩ => ⟨a, b.symm⟩)

theorem lt_cast {a b : Nat} (h : a < b) : (a : Int) < (b : Int) := by omega

def formA : ByteArray := ⟨#[48, 48, 48, 48, 45, 48, 48, 45, 48, 48]⟩

theorem dat_next (w wr : World) (j : Nat) (c : UInt8) (hj : j < 10) (hc : formL.getD j 0 = c) (hit : wr.heap[w.heap.size]? = some (.stringIter formA j)) (hup : Up w wr) :
    ∃ w2, (∀ ty, (Instr.next (.pointer (some ⟨w.heap.size, 0, none⟩)) true ty).run Tryd.prog wr = .ok (.tuple #[.bool true, .int .i64 (j : Int), .int .i32 (c.toNat : Int)]) w2) ∧ w2.heap[w.heap.size]? = some (.stringIter formA (j + 1)) ∧ Up w w2 := by
  have hs : formA.size = 10 := rfl
  have hg : ∀ j (h : j < formA.size), formA[j] = formL.getD j 0 := by decide
  have hd : ∀ j (_ : j < 10), (formL.getD j 0).toNat < 128 := by decide
  have h1 := hg j (by omega)
  refine ⟨wr.iterAt w.heap.size formA (j + 1), fun ty => ?_, Lib.iterAt_heap _ _ _ _ _ hit, Lib.below_iterAt hup (Nat.le_refl _) _ _⟩
  rw [Lib.run_next_ascii_at wr w.heap.size formA j ty hit (by omega) (by rw [h1]; exact hd j hj), h1, hc]

theorem datP_zero (l : List UInt8) (j : Nat) (h : j < l.length) (hf : formL.getD j 0 = 48) : datP l j = digB (l.getD j 0) := by
  unfold datP; rw [decide_eq_true h, hf]; rfl
theorem datP_dash (l : List UInt8) (j : Nat) (h : j < l.length) (hf : formL.getD j 0 = 45) : datP l j = (l.getD j 0 == 45) := by
  unfold datP; rw [decide_eq_true h, hf]; rfl
theorem datP_out (l : List UInt8) (j : Nat) (h : ¬ j < l.length) : datP l j = false := by
  unfold datP; rw [decide_eq_false h]; rfl
theorem all_succ {l : List UInt8} {j : Nat} (h : ∀ i, i < j → datP l i = true) (hj : datP l j = true) : ∀ i, i < j + 1 → datP l i = true := by
  intro i hi
  by_cases e : i = j
  · subst e; exact hj
  · exact h i (by omega)

def DatRel (w : World) (l : List UInt8) (wr : World) : Prop :=
  ∃ j, j ≤ 10 ∧ wr.heap[w.heap.size]? = some (.stringIter formA j) ∧ Up w wr ∧ ∀ i, i < j → datP l i = true

theorem empty_dec (B : ByteArray) (h : 0 < B.size) : decide (B = ByteArray.empty) = false := by
  rw [decide_eq_false_iff_not]; intro e; subst e; simp at h

set_option maxHeartbeats 8000000 in
theorem dated_any (l : List UInt8) (w : World) (hl : l.length ≤ 100000) (h0 : 0 < l.length) : Calls Tryd.prog 33 #[.string (bs l)] w fun e w' => e = .returned (.bool (datedB l)) ∧ Up w w' := by
  have hsz := bs_size l
  have hs3 : (bs l).size ≤ 100000 := by omega
  have hs0 : 0 < (bs l).size := by omega
  have hemp := empty_dec (bs l) hs0
  have HSZ := Lib.hid hsz
  clear hsz
  go_enter Tryd.func33, Tryd.ntmps33
  go_wp2_with fail
  go_loopw [] (DatRel w l) (fun wr => 10 - wr.iterPos w.heap.size)
  case atStart => exact ⟨0, by omega, World.iter_heap _ _ _, (Up.refl w).alloc _, fun i h => absurd h (Nat.not_lt_zero i)⟩
  case round =>
    obtain ⟨j, hj, hit, hup, hall⟩ := hrel
    have hc : j = 0 ∨ j = 1 ∨ j = 2 ∨ j = 3 ∨ j = 4 ∨ j = 5 ∨ j = 6 ∨ j = 7 ∨ j = 8 ∨ j = 9 ∨ j = 10 := by omega
    rcases hc with rfl | rfl | rfl | rfl | rfl | rfl | rfl | rfl | rfl | rfl | rfl
    · (
        obtain ⟨w2, hnx, hit2, hup2⟩ := dat_next w wr 0 48 (by omega) rfl hit hup
        have hnx' : ∀ ty, (Instr.next (.pointer (some ⟨w.heap.size, 0, none⟩)) true ty).run Tryd.prog wr = .ok (.tuple #[.bool true, .int .i64 0, .int .i32 48]) w2 := hnx
        clear hnx
        have hlit : ((((⟨#[48, 48, 48, 48, 45, 48, 48, 45, 48, 48]⟩ : ByteArray)[0]'(by decide)).toNat : Int) == 45) = false := by decide
        by_cases hlt : 0 < (bs l).size
        · have hP := datP_zero l 0 (by rw [← HSZ.out]; exact hlt) rfl
          rw [← bs_get l 0 hlt] at hP
          have hge : decide (((bs l).size : Int) ≤ 0) = false := by rw [decide_eq_false_iff_not]; omega
          have hlz : (0 : Int) < ((bs l).size : Int) := by omega
          cases hd : digB ((bs l)[0])
          · rw [hd] at hP
            have HC := Lib.hid (digit_is ((bs l)[0]) false hd)
            clear hd
            go_wp2_with fail
            go_quiet (first | (with_reducible exact quiet_same (HC.out _)) | exact quiet_same (dig48 _ (by kernel_rfl) _))
            go_wp2_with fail
            go_ret
            exact ⟨ret_bool (dated_not l 0 (by omega) hP).symm, hup2.drewN _⟩
          · rw [hd] at hP
            have HC := Lib.hid (digit_is ((bs l)[0]) true hd)
            clear hd
            go_wp2_with fail
            go_quiet (first | (with_reducible exact quiet_same (HC.out _)) | exact quiet_same (dig48 _ (by kernel_rfl) _))
            go_wp2_with fail
            go_roundw
            case rel => exact ⟨0 + 1, by omega, hit2, hup2.drewN _, all_succ hall hP⟩
            case measure => rw [iterPos_of hit, iterPos_of (w := w2.drewN _) hit2]; omega
        · first | (exfalso; omega) | (
            have hP := datP_out l 0 (by rw [← HSZ.out]; exact hlt)
            have hge : decide (((bs l).size : Int) ≤ 0) = true := by rw [decide_eq_true_eq]; omega
            go_wp2_with fail
            go_quiet (fail)
            go_wp2_with fail
            go_ret
            exact ⟨ret_bool (dated_not l 0 (by omega) hP).symm, hup2.drewN _⟩))
    · (
        obtain ⟨w2, hnx, hit2, hup2⟩ := dat_next w wr 1 48 (by omega) rfl hit hup
        have hnx' : ∀ ty, (Instr.next (.pointer (some ⟨w.heap.size, 0, none⟩)) true ty).run Tryd.prog wr = .ok (.tuple #[.bool true, .int .i64 1, .int .i32 48]) w2 := hnx
        clear hnx
        have hlit : ((((⟨#[48, 48, 48, 48, 45, 48, 48, 45, 48, 48]⟩ : ByteArray)[1]'(by decide)).toNat : Int) == 45) = false := by decide
        by_cases hlt : 1 < (bs l).size
        · have hP := datP_zero l 1 (by rw [← HSZ.out]; exact hlt) rfl
          rw [← bs_get l 1 hlt] at hP
          have hge : decide (((bs l).size : Int) ≤ 1) = false := by rw [decide_eq_false_iff_not]; omega
          have hlz : (1 : Int) < ((bs l).size : Int) := by omega
          cases hd : digB ((bs l)[1])
          · rw [hd] at hP
            have HC := Lib.hid (digit_is ((bs l)[1]) false hd)
            clear hd
            go_wp2_with fail
            go_quiet (first | (with_reducible exact quiet_same (HC.out _)) | exact quiet_same (dig48 _ (by kernel_rfl) _))
            go_wp2_with fail
            go_ret
            exact ⟨ret_bool (dated_not l 1 (by omega) hP).symm, hup2.drewN _⟩
          · rw [hd] at hP
            have HC := Lib.hid (digit_is ((bs l)[1]) true hd)
            clear hd
            go_wp2_with fail
            go_quiet (first | (with_reducible exact quiet_same (HC.out _)) | exact quiet_same (dig48 _ (by kernel_rfl) _))
            go_wp2_with fail
            go_roundw
            case rel => exact ⟨1 + 1, by omega, hit2, hup2.drewN _, all_succ hall hP⟩
            case measure => rw [iterPos_of hit, iterPos_of (w := w2.drewN _) hit2]; omega
        · first | (exfalso; omega) | (
            have hP := datP_out l 1 (by rw [← HSZ.out]; exact hlt)
            have hge : decide (((bs l).size : Int) ≤ 1) = true := by rw [decide_eq_true_eq]; omega
            go_wp2_with fail
            go_quiet (fail)
            go_wp2_with fail
            go_ret
            exact ⟨ret_bool (dated_not l 1 (by omega) hP).symm, hup2.drewN _⟩))
    · (
        obtain ⟨w2, hnx, hit2, hup2⟩ := dat_next w wr 2 48 (by omega) rfl hit hup
        have hnx' : ∀ ty, (Instr.next (.pointer (some ⟨w.heap.size, 0, none⟩)) true ty).run Tryd.prog wr = .ok (.tuple #[.bool true, .int .i64 2, .int .i32 48]) w2 := hnx
        clear hnx
        have hlit : ((((⟨#[48, 48, 48, 48, 45, 48, 48, 45, 48, 48]⟩ : ByteArray)[2]'(by decide)).toNat : Int) == 45) = false := by decide
        by_cases hlt : 2 < (bs l).size
        · have hP := datP_zero l 2 (by rw [← HSZ.out]; exact hlt) rfl
          rw [← bs_get l 2 hlt] at hP
          have hge : decide (((bs l).size : Int) ≤ 2) = false := by rw [decide_eq_false_iff_not]; omega
          have hlz : (2 : Int) < ((bs l).size : Int) := by omega
          cases hd : digB ((bs l)[2])
          · rw [hd] at hP
            have HC := Lib.hid (digit_is ((bs l)[2]) false hd)
            clear hd
            go_wp2_with fail
            go_quiet (first | (with_reducible exact quiet_same (HC.out _)) | exact quiet_same (dig48 _ (by kernel_rfl) _))
            go_wp2_with fail
            go_ret
            exact ⟨ret_bool (dated_not l 2 (by omega) hP).symm, hup2.drewN _⟩
          · rw [hd] at hP
            have HC := Lib.hid (digit_is ((bs l)[2]) true hd)
            clear hd
            go_wp2_with fail
            go_quiet (first | (with_reducible exact quiet_same (HC.out _)) | exact quiet_same (dig48 _ (by kernel_rfl) _))
            go_wp2_with fail
            go_roundw
            case rel => exact ⟨2 + 1, by omega, hit2, hup2.drewN _, all_succ hall hP⟩
            case measure => rw [iterPos_of hit, iterPos_of (w := w2.drewN _) hit2]; omega
        · first | (exfalso; omega) | (
            have hP := datP_out l 2 (by rw [← HSZ.out]; exact hlt)
            have hge : decide (((bs l).size : Int) ≤ 2) = true := by rw [decide_eq_true_eq]; omega
            go_wp2_with fail
            go_quiet (fail)
            go_wp2_with fail
            go_ret
            exact ⟨ret_bool (dated_not l 2 (by omega) hP).symm, hup2.drewN _⟩))
    · (
        obtain ⟨w2, hnx, hit2, hup2⟩ := dat_next w wr 3 48 (by omega) rfl hit hup
        have hnx' : ∀ ty, (Instr.next (.pointer (some ⟨w.heap.size, 0, none⟩)) true ty).run Tryd.prog wr = .ok (.tuple #[.bool true, .int .i64 3, .int .i32 48]) w2 := hnx
        clear hnx
        have hlit : ((((⟨#[48, 48, 48, 48, 45, 48, 48, 45, 48, 48]⟩ : ByteArray)[3]'(by decide)).toNat : Int) == 45) = false := by decide
        by_cases hlt : 3 < (bs l).size
        · have hP := datP_zero l 3 (by rw [← HSZ.out]; exact hlt) rfl
          rw [← bs_get l 3 hlt] at hP
          have hge : decide (((bs l).size : Int) ≤ 3) = false := by rw [decide_eq_false_iff_not]; omega
          have hlz : (3 : Int) < ((bs l).size : Int) := by omega
          cases hd : digB ((bs l)[3])
          · rw [hd] at hP
            have HC := Lib.hid (digit_is ((bs l)[3]) false hd)
            clear hd
            go_wp2_with fail
            go_quiet (first | (with_reducible exact quiet_same (HC.out _)) | exact quiet_same (dig48 _ (by kernel_rfl) _))
            go_wp2_with fail
            go_ret
            exact ⟨ret_bool (dated_not l 3 (by omega) hP).symm, hup2.drewN _⟩
          · rw [hd] at hP
            have HC := Lib.hid (digit_is ((bs l)[3]) true hd)
            clear hd
            go_wp2_with fail
            go_quiet (first | (with_reducible exact quiet_same (HC.out _)) | exact quiet_same (dig48 _ (by kernel_rfl) _))
            go_wp2_with fail
            go_roundw
            case rel => exact ⟨3 + 1, by omega, hit2, hup2.drewN _, all_succ hall hP⟩
            case measure => rw [iterPos_of hit, iterPos_of (w := w2.drewN _) hit2]; omega
        · first | (exfalso; omega) | (
            have hP := datP_out l 3 (by rw [← HSZ.out]; exact hlt)
            have hge : decide (((bs l).size : Int) ≤ 3) = true := by rw [decide_eq_true_eq]; omega
            go_wp2_with fail
            go_quiet (fail)
            go_wp2_with fail
            go_ret
            exact ⟨ret_bool (dated_not l 3 (by omega) hP).symm, hup2.drewN _⟩))
    · (
        obtain ⟨w2, hnx, hit2, hup2⟩ := dat_next w wr 4 45 (by omega) rfl hit hup
        have hnx' : ∀ ty, (Instr.next (.pointer (some ⟨w.heap.size, 0, none⟩)) true ty).run Tryd.prog wr = .ok (.tuple #[.bool true, .int .i64 4, .int .i32 45]) w2 := hnx
        clear hnx
        have hlit : ((((⟨#[48, 48, 48, 48, 45, 48, 48, 45, 48, 48]⟩ : ByteArray)[4]'(by decide)).toNat : Int) == 45) = true := by decide
        by_cases hlt : 4 < (bs l).size
        · have hP := datP_dash l 4 (by rw [← HSZ.out]; exact hlt) rfl
          rw [← bs_get l 4 hlt] at hP
          have hge : decide (((bs l).size : Int) ≤ 4) = false := by rw [decide_eq_false_iff_not]; omega
          have hlz : (4 : Int) < ((bs l).size : Int) := by omega
          cases hd : digB ((bs l)[4])
          · have HC := Lib.hid (digit_is ((bs l)[4]) false hd)
            have he := byte_eq ((bs l)[4]) 45 (by omega)
            cases h45 : ((bs l)[4] == 45)
            · rw [h45] at hP
              have hn : ((((bs l)[4]).toNat : Int) != 45) = true := by
                show (!((((bs l)[4]).toNat : Int) == ((45 : Nat) : Int))) = true
                rw [he]; exact congrArg not h45
              clear hd h45 he
              go_wp2_with fail
              go_quiet (first | (with_reducible exact quiet_same (HC.out _)) | exact quiet_same (dig45 _ (by kernel_rfl) _))
              go_wp2_with fail
              go_ret
              exact ⟨ret_bool (dated_not l 4 (by omega) hP).symm, hup2.drewN _⟩
            · rw [h45] at hP
              have hn : ((((bs l)[4]).toNat : Int) != 45) = false := by
                show (!((((bs l)[4]).toNat : Int) == ((45 : Nat) : Int))) = false
                rw [he]; exact congrArg not h45
              clear hd h45 he
              go_wp2_with fail
              go_quiet (first | (with_reducible exact quiet_same (HC.out _)) | exact quiet_same (dig45 _ (by kernel_rfl) _))
              go_wp2_with fail
              go_roundw
              case rel => exact ⟨4 + 1, by omega, hit2, hup2.drewN _, all_succ hall hP⟩
              case measure => rw [iterPos_of hit, iterPos_of (w := w2.drewN _) hit2]; omega
          · have HC := Lib.hid (digit_is ((bs l)[4]) true hd)
            have hP2 : datP l 4 = false := by
              rw [hP]
              cases h45 : ((bs l)[4] == 45)
              · rfl
              · rw [eq_of_beq h45] at hd; cases hd
            clear hd
            go_wp2_with fail
            go_quiet (first | (with_reducible exact quiet_same (HC.out _)) | exact quiet_same (dig45 _ (by kernel_rfl) _))
            go_wp2_with fail
            go_ret
            exact ⟨ret_bool (dated_not l 4 (by omega) hP2).symm, hup2.drewN _⟩
        · (
            have hP := datP_out l 4 (by rw [← HSZ.out]; exact hlt)
            have hge : decide (((bs l).size : Int) ≤ 4) = true := by rw [decide_eq_true_eq]; omega
            go_wp2_with fail
            go_quiet (fail)
            go_wp2_with fail
            go_ret
            exact ⟨ret_bool (dated_not l 4 (by omega) hP).symm, hup2.drewN _⟩))
    · (
        obtain ⟨w2, hnx, hit2, hup2⟩ := dat_next w wr 5 48 (by omega) rfl hit hup
        have hnx' : ∀ ty, (Instr.next (.pointer (some ⟨w.heap.size, 0, none⟩)) true ty).run Tryd.prog wr = .ok (.tuple #[.bool true, .int .i64 5, .int .i32 48]) w2 := hnx
        clear hnx
        have hlit : ((((⟨#[48, 48, 48, 48, 45, 48, 48, 45, 48, 48]⟩ : ByteArray)[5]'(by decide)).toNat : Int) == 45) = false := by decide
        by_cases hlt : 5 < (bs l).size
        · have hP := datP_zero l 5 (by rw [← HSZ.out]; exact hlt) rfl
          rw [← bs_get l 5 hlt] at hP
          have hge : decide (((bs l).size : Int) ≤ 5) = false := by rw [decide_eq_false_iff_not]; omega
          have hlz : (5 : Int) < ((bs l).size : Int) := by omega
          cases hd : digB ((bs l)[5])
          · rw [hd] at hP
            have HC := Lib.hid (digit_is ((bs l)[5]) false hd)
            clear hd
            go_wp2_with fail
            go_quiet (first | (with_reducible exact quiet_same (HC.out _)) | exact quiet_same (dig48 _ (by kernel_rfl) _))
            go_wp2_with fail
            go_ret
            exact ⟨ret_bool (dated_not l 5 (by omega) hP).symm, hup2.drewN _⟩
          · rw [hd] at hP
            have HC := Lib.hid (digit_is ((bs l)[5]) true hd)
            clear hd
            go_wp2_with fail
            go_quiet (first | (with_reducible exact quiet_same (HC.out _)) | exact quiet_same (dig48 _ (by kernel_rfl) _))
            go_wp2_with fail
            go_roundw
            case rel => exact ⟨5 + 1, by omega, hit2, hup2.drewN _, all_succ hall hP⟩
            case measure => rw [iterPos_of hit, iterPos_of (w := w2.drewN _) hit2]; omega
        · first | (exfalso; omega) | (
            have hP := datP_out l 5 (by rw [← HSZ.out]; exact hlt)
            have hge : decide (((bs l).size : Int) ≤ 5) = true := by rw [decide_eq_true_eq]; omega
            go_wp2_with fail
            go_quiet (fail)
            go_wp2_with fail
            go_ret
            exact ⟨ret_bool (dated_not l 5 (by omega) hP).symm, hup2.drewN _⟩))
    · (
        obtain ⟨w2, hnx, hit2, hup2⟩ := dat_next w wr 6 48 (by omega) rfl hit hup
        have hnx' : ∀ ty, (Instr.next (.pointer (some ⟨w.heap.size, 0, none⟩)) true ty).run Tryd.prog wr = .ok (.tuple #[.bool true, .int .i64 6, .int .i32 48]) w2 := hnx
        clear hnx
        have hlit : ((((⟨#[48, 48, 48, 48, 45, 48, 48, 45, 48, 48]⟩ : ByteArray)[6]'(by decide)).toNat : Int) == 45) = false := by decide
        by_cases hlt : 6 < (bs l).size
        · have hP := datP_zero l 6 (by rw [← HSZ.out]; exact hlt) rfl
          rw [← bs_get l 6 hlt] at hP
          have hge : decide (((bs l).size : Int) ≤ 6) = false := by rw [decide_eq_false_iff_not]; omega
          have hlz : (6 : Int) < ((bs l).size : Int) := by omega
          cases hd : digB ((bs l)[6])
          · rw [hd] at hP
            have HC := Lib.hid (digit_is ((bs l)[6]) false hd)
            clear hd
            go_wp2_with fail
            go_quiet (first | (with_reducible exact quiet_same (HC.out _)) | exact quiet_same (dig48 _ (by kernel_rfl) _))
            go_wp2_with fail
            go_ret
            exact ⟨ret_bool (dated_not l 6 (by omega) hP).symm, hup2.drewN _⟩
          · rw [hd] at hP
            have HC := Lib.hid (digit_is ((bs l)[6]) true hd)
            clear hd
            go_wp2_with fail
            go_quiet (first | (with_reducible exact quiet_same (HC.out _)) | exact quiet_same (dig48 _ (by kernel_rfl) _))
            go_wp2_with fail
            go_roundw
            case rel => exact ⟨6 + 1, by omega, hit2, hup2.drewN _, all_succ hall hP⟩
            case measure => rw [iterPos_of hit, iterPos_of (w := w2.drewN _) hit2]; omega
        · first | (exfalso; omega) | (
            have hP := datP_out l 6 (by rw [← HSZ.out]; exact hlt)
            have hge : decide (((bs l).size : Int) ≤ 6) = true := by rw [decide_eq_true_eq]; omega
            go_wp2_with fail
            go_quiet (fail)
            go_wp2_with fail
            go_ret
            exact ⟨ret_bool (dated_not l 6 (by omega) hP).symm, hup2.drewN _⟩))
    · (
        obtain ⟨w2, hnx, hit2, hup2⟩ := dat_next w wr 7 45 (by omega) rfl hit hup
        have hnx' : ∀ ty, (Instr.next (.pointer (some ⟨w.heap.size, 0, none⟩)) true ty).run Tryd.prog wr = .ok (.tuple #[.bool true, .int .i64 7, .int .i32 45]) w2 := hnx
        clear hnx
        have hlit : ((((⟨#[48, 48, 48, 48, 45, 48, 48, 45, 48, 48]⟩ : ByteArray)[7]'(by decide)).toNat : Int) == 45) = true := by decide
        by_cases hlt : 7 < (bs l).size
        · have hP := datP_dash l 7 (by rw [← HSZ.out]; exact hlt) rfl
          rw [← bs_get l 7 hlt] at hP
          have hge : decide (((bs l).size : Int) ≤ 7) = false := by rw [decide_eq_false_iff_not]; omega
          have hlz : (7 : Int) < ((bs l).size : Int) := by omega
          cases hd : digB ((bs l)[7])
          · have HC := Lib.hid (digit_is ((bs l)[7]) false hd)
            have he := byte_eq ((bs l)[7]) 45 (by omega)
            cases h45 : ((bs l)[7] == 45)
            · rw [h45] at hP
              have hn : ((((bs l)[7]).toNat : Int) != 45) = true := by
                show (!((((bs l)[7]).toNat : Int) == ((45 : Nat) : Int))) = true
                rw [he]; exact congrArg not h45
              clear hd h45 he
              go_wp2_with fail
              go_quiet (first | (with_reducible exact quiet_same (HC.out _)) | exact quiet_same (dig45 _ (by kernel_rfl) _))
              go_wp2_with fail
              go_ret
              exact ⟨ret_bool (dated_not l 7 (by omega) hP).symm, hup2.drewN _⟩
            · rw [h45] at hP
              have hn : ((((bs l)[7]).toNat : Int) != 45) = false := by
                show (!((((bs l)[7]).toNat : Int) == ((45 : Nat) : Int))) = false
                rw [he]; exact congrArg not h45
              clear hd h45 he
              go_wp2_with fail
              go_quiet (first | (with_reducible exact quiet_same (HC.out _)) | exact quiet_same (dig45 _ (by kernel_rfl) _))
              go_wp2_with fail
              go_roundw
              case rel => exact ⟨7 + 1, by omega, hit2, hup2.drewN _, all_succ hall hP⟩
              case measure => rw [iterPos_of hit, iterPos_of (w := w2.drewN _) hit2]; omega
          · have HC := Lib.hid (digit_is ((bs l)[7]) true hd)
            have hP2 : datP l 7 = false := by
              rw [hP]
              cases h45 : ((bs l)[7] == 45)
              · rfl
              · rw [eq_of_beq h45] at hd; cases hd
            clear hd
            go_wp2_with fail
            go_quiet (first | (with_reducible exact quiet_same (HC.out _)) | exact quiet_same (dig45 _ (by kernel_rfl) _))
            go_wp2_with fail
            go_ret
            exact ⟨ret_bool (dated_not l 7 (by omega) hP2).symm, hup2.drewN _⟩
        · (
            have hP := datP_out l 7 (by rw [← HSZ.out]; exact hlt)
            have hge : decide (((bs l).size : Int) ≤ 7) = true := by rw [decide_eq_true_eq]; omega
            go_wp2_with fail
            go_quiet (fail)
            go_wp2_with fail
            go_ret
            exact ⟨ret_bool (dated_not l 7 (by omega) hP).symm, hup2.drewN _⟩))
    · (
        obtain ⟨w2, hnx, hit2, hup2⟩ := dat_next w wr 8 48 (by omega) rfl hit hup
        have hnx' : ∀ ty, (Instr.next (.pointer (some ⟨w.heap.size, 0, none⟩)) true ty).run Tryd.prog wr = .ok (.tuple #[.bool true, .int .i64 8, .int .i32 48]) w2 := hnx
        clear hnx
        have hlit : ((((⟨#[48, 48, 48, 48, 45, 48, 48, 45, 48, 48]⟩ : ByteArray)[8]'(by decide)).toNat : Int) == 45) = false := by decide
        by_cases hlt : 8 < (bs l).size
        · have hP := datP_zero l 8 (by rw [← HSZ.out]; exact hlt) rfl
          rw [← bs_get l 8 hlt] at hP
          have hge : decide (((bs l).size : Int) ≤ 8) = false := by rw [decide_eq_false_iff_not]; omega
          have hlz : (8 : Int) < ((bs l).size : Int) := by omega
          cases hd : digB ((bs l)[8])
          · rw [hd] at hP
            have HC := Lib.hid (digit_is ((bs l)[8]) false hd)
            clear hd
            go_wp2_with fail
            go_quiet (first | (with_reducible exact quiet_same (HC.out _)) | exact quiet_same (dig48 _ (by kernel_rfl) _))
            go_wp2_with fail
            go_ret
            exact ⟨ret_bool (dated_not l 8 (by omega) hP).symm, hup2.drewN _⟩
          · rw [hd] at hP
            have HC := Lib.hid (digit_is ((bs l)[8]) true hd)
            clear hd
            go_wp2_with fail
            go_quiet (first | (with_reducible exact quiet_same (HC.out _)) | exact quiet_same (dig48 _ (by kernel_rfl) _))
            go_wp2_with fail
            go_roundw
            case rel => exact ⟨8 + 1, by omega, hit2, hup2.drewN _, all_succ hall hP⟩
            case measure => rw [iterPos_of hit, iterPos_of (w := w2.drewN _) hit2]; omega
        · first | (exfalso; omega) | (
            have hP := datP_out l 8 (by rw [← HSZ.out]; exact hlt)
            have hge : decide (((bs l).size : Int) ≤ 8) = true := by rw [decide_eq_true_eq]; omega
            go_wp2_with fail
            go_quiet (fail)
            go_wp2_with fail
            go_ret
            exact ⟨ret_bool (dated_not l 8 (by omega) hP).symm, hup2.drewN _⟩))
    · (
        obtain ⟨w2, hnx, hit2, hup2⟩ := dat_next w wr 9 48 (by omega) rfl hit hup
        have hnx' : ∀ ty, (Instr.next (.pointer (some ⟨w.heap.size, 0, none⟩)) true ty).run Tryd.prog wr = .ok (.tuple #[.bool true, .int .i64 9, .int .i32 48]) w2 := hnx
        clear hnx
        have hlit : ((((⟨#[48, 48, 48, 48, 45, 48, 48, 45, 48, 48]⟩ : ByteArray)[9]'(by decide)).toNat : Int) == 45) = false := by decide
        by_cases hlt : 9 < (bs l).size
        · have hP := datP_zero l 9 (by rw [← HSZ.out]; exact hlt) rfl
          rw [← bs_get l 9 hlt] at hP
          have hge : decide (((bs l).size : Int) ≤ 9) = false := by rw [decide_eq_false_iff_not]; omega
          have hlz : (9 : Int) < ((bs l).size : Int) := by omega
          cases hd : digB ((bs l)[9])
          · rw [hd] at hP
            have HC := Lib.hid (digit_is ((bs l)[9]) false hd)
            clear hd
            go_wp2_with fail
            go_quiet (first | (with_reducible exact quiet_same (HC.out _)) | exact quiet_same (dig48 _ (by kernel_rfl) _))
            go_wp2_with fail
            go_ret
            exact ⟨ret_bool (dated_not l 9 (by omega) hP).symm, hup2.drewN _⟩
          · rw [hd] at hP
            have HC := Lib.hid (digit_is ((bs l)[9]) true hd)
            clear hd
            go_wp2_with fail
            go_quiet (first | (with_reducible exact quiet_same (HC.out _)) | exact quiet_same (dig48 _ (by kernel_rfl) _))
            go_wp2_with fail
            go_roundw
            case rel => exact ⟨9 + 1, by omega, hit2, hup2.drewN _, all_succ hall hP⟩
            case measure => rw [iterPos_of hit, iterPos_of (w := w2.drewN _) hit2]; omega
        · first | (exfalso; omega) | (
            have hP := datP_out l 9 (by rw [← HSZ.out]; exact hlt)
            have hge : decide (((bs l).size : Int) ≤ 9) = true := by rw [decide_eq_true_eq]; omega
            go_wp2_with fail
            go_quiet (fail)
            go_wp2_with fail
            go_ret
            exact ⟨ret_bool (dated_not l 9 (by omega) hP).symm, hup2.drewN _⟩))
    · have hT := (dated_iff l).2 hall
      have hnx : ∀ ty, (Instr.next (.pointer (some ⟨w.heap.size, 0, none⟩)) true ty).run Tryd.prog wr = .ok (.tuple #[.bool false]) wr := fun ty => Lib.run_next_end_at wr w.heap.size formA 10 ty hit (by decide)
      go_wp2_with fail
      go_ret
      exact ⟨ret_bool hT.symm, hup⟩

end Go.Proofs.YtgkknjlegfdcnaaDoor.Lx
