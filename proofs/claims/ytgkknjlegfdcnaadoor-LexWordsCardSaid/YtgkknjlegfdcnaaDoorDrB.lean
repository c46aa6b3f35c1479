/- The reference's functions: Letter, Digit, Part, at, word, words, Reserved. -/
import Derived.Test.YtgkknjlegfdcnaaDoorDrA
namespace Go.Proofs.YtgkknjlegfdcnaaDoor.Lx
open Go.RowKit Go.Shelf Go.Proofs.YtgkknjlegfdcnaaDoor.Cal

theorem letB_all : ∀ n : Nat, n < 256 → letB (UInt8.ofNat n) = (decide (97 ≤ n) && decide (n ≤ 122) || decide (65 ≤ n) && decide (n ≤ 90)) := by decide +kernel
theorem letB_is (c : UInt8) : letB c = (decide (97 ≤ c.toNat) && decide (c.toNat ≤ 122) || decide (65 ≤ c.toNat) && decide (c.toNat ≤ 90)) := by
  have h := letB_all c.toNat c.toNat_lt
  rw [UInt8.ofNat_toNat] at h; exact h

theorem refLetter_any (c : UInt8) (w : World) : Calls Tryd.prog 27 #[.int .u8 (c.toNat : Int)] w fun e w' => e = .returned (.bool (letB c)) ∧ w = w' := by
  rw [letB_is c]
  have hb := c.toNat_lt
  generalize c.toNat = n at *
  by_cases h1 : 97 ≤ n <;> by_cases h2 : n ≤ 122 <;> by_cases h3 : 65 ≤ n <;> by_cases h4 : n ≤ 90
  all_goals first
    | (exfalso; omega)
    | (go_enter Tryd.func27, Tryd.ntmps27
       go_wp2
       go_ret
       exact ⟨by simp [*] <;> omega, rfl⟩)

theorem refDigit_any (c : UInt8) (w : World) : Calls Tryd.prog 50 #[.int .u8 (c.toNat : Int)] w fun e w' => e = .returned (.bool (digB c)) ∧ w = w' := by
  have hb := c.toNat_lt
  by_cases h1 : 48 ≤ c.toNat
  · have e : digB c = decide ((c.toNat : Int) ≤ 57) := by
      unfold digB; rw [decide_eq_true h1, Bool.true_and, decide_eq_decide]; omega
    rw [e]
    go_enter Tryd.func50, Tryd.ntmps50
    go_wp2
    go_ret
    exact ⟨rfl, rfl⟩
  · rw [show digB c = false by simp [digB, h1]]
    go_enter Tryd.func50, Tryd.ntmps50
    go_wp2
    go_ret
    exact ⟨rfl, rfl⟩

theorem refLetter_is (c : UInt8) (b : Bool) (h : letB c = b) (w : World) : Calls Tryd.prog 27 #[.int .u8 (c.toNat : Int)] w fun e w' => e = .returned (.bool b) ∧ w = w' := by
  rw [← h]; exact refLetter_any c w
theorem refDigit_is (c : UInt8) (b : Bool) (h : digB c = b) (w : World) : Calls Tryd.prog 50 #[.int .u8 (c.toNat : Int)] w fun e w' => e = .returned (.bool b) ∧ w = w' := by
  rw [← h]; exact refDigit_any c w

set_option maxHeartbeats 1000000 in
theorem refPart_any (c : UInt8) (w : World) : Calls Tryd.prog 39 #[.int .u8 (c.toNat : Int)] w fun e w' => e = .returned (.bool (partB c)) ∧ w = w' := by
  cases h1 : letB c
  · cases h2 : digB c
    · have e : partB c = ((c.toNat : Int) == 95) := by
        have := byte_eq c 95 (by omega)
        unfold partB; rw [h1, h2]; rw [show ((95 : Nat) : Int) = 95 from rfl] at this; rw [this]; rfl
      rw [e]
      have H1 := Lib.hid (refLetter_is c false h1)
      have H2 := Lib.hid (refDigit_is c false h2)
      clear h1 h2 e
      go_enter Tryd.func39, Tryd.ntmps39
      go_wp2_with fail
      refine (H1.out _).mono ?_
      rintro e w1 ⟨rfl, rfl⟩
      go_wp2_with fail
      refine (H2.out _).mono ?_
      rintro e w1 ⟨rfl, rfl⟩
      go_wp2_with fail
      go_ret
      exact ⟨rfl, rfl⟩
    · rw [show partB c = true by simp [partB, h2]]
      have H1 := Lib.hid (refLetter_is c false h1)
      have H2 := Lib.hid (refDigit_is c true h2)
      clear h1 h2
      go_enter Tryd.func39, Tryd.ntmps39
      go_wp2_with fail
      refine (H1.out _).mono ?_
      rintro e w1 ⟨rfl, rfl⟩
      go_wp2_with fail
      refine (H2.out _).mono ?_
      rintro e w1 ⟨rfl, rfl⟩
      go_wp2_with fail
      go_ret
      exact ⟨rfl, rfl⟩
  · rw [show partB c = true by simp [partB, h1]]
    have H1 := Lib.hid (refLetter_is c true h1)
    clear h1
    go_enter Tryd.func39, Tryd.ntmps39
    go_wp2_with fail
    refine (H1.out _).mono ?_
    rintro e w1 ⟨rfl, rfl⟩
    go_wp2_with fail
    go_ret
    exact ⟨rfl, rfl⟩

theorem refAt_any (l : List UInt8) (j : Nat) (w : World) (_hl : l.length ≤ 3000) (hj : j ≤ l.length) : Calls Tryd.prog 40 #[.string (bs l), .int .i64 (j : Int)] w fun e w' => e = .returned (.int .u8 ((l.getD j 0).toNat : Int)) ∧ w = w' := by
  have hsz := bs_size l
  by_cases hlt : j < l.length
  · have hjB : j < (bs l).size := by omega
    have hji : (j : Int) < ((bs l).size : Int) := by omega
    have hgb := bs_get l j hjB
    rw [← hgb]
    clear hgb
    go_enter Tryd.func40, Tryd.ntmps40
    go_wp2_with fail
    go_ret
    exact ⟨rfl, rfl⟩
  · have hji : ((bs l).size : Int) ≤ (j : Int) := by omega
    have hg : l.getD j 0 = 0 := by rw [List.getD, List.getElem?_eq_none (by omega)]; rfl
    rw [hg]
    go_enter Tryd.func40, Tryd.ntmps40
    go_wp2_with fail
    go_ret
    exact ⟨rfl, rfl⟩

def WordR (m : Nat) (i : Value) : Prop := ∃ j : Nat, j ≤ m ∧ i = .int .i64 (j : Int)

theorem refWord_any (l : List UInt8) (w : World) (hl : l.length ≤ 3000) : Calls Tryd.prog 28 #[.string (bs l), .int .i64 0] w fun e w' => e = .returned (.int .i64 ((spanN partB l : Nat) : Int)) ∧ w = w' := by
  have hle := spanN_le partB l
  have HA := Lib.hid (fun (j : Nat) (w : World) (hj : j ≤ l.length) => refAt_any l j w hl hj)
  have HP := Lib.hid (fun (j : Nat) (hj : j < spanN partB l) (w : World) => refPart_any (l.getD j 0) w)
  have HQ : Hid (∀ w, Calls Tryd.prog 39 #[.int .u8 ((l.getD (spanN partB l) 0).toNat : Int)] w fun e w' => e = .returned (.bool false) ∧ w = w') := Lib.hid fun w => by
    have hf : partB (l.getD (spanN partB l) 0) = false := by
      by_cases h : spanN partB l < l.length
      · exact spanN_at partB l h
      · rw [List.getD, List.getElem?_eq_none (by omega)]; rfl
    have := refPart_any (l.getD (spanN partB l) 0) w
    rw [hf] at this; exact this
  have HT := Lib.hid (fun (j : Nat) (hj : j < spanN partB l) => spanN_lt partB l j hj)
  generalize hB : bs l = B at *
  clear hB
  go_enter Tryd.func28, Tryd.ntmps28
  go_wp2_with fail
  go_loop [1] (WordR (spanN partB l)) (fun i => spanN partB l - (intOf i).toNat)
  case atStart => exact ⟨0, Nat.zero_le _, rfl⟩
  case round =>
    obtain ⟨j, hj, rfl⟩ := hrel
    have h1 := Lib.hid (fun w => HA.out j w (by omega))
    by_cases hlt : j < spanN partB l
    · have h2 := HP.out j hlt
      rw [HT.out j hlt] at h2
      have H2 := Lib.hid h2
      clear h2
      generalize ((l.getD j 0).toNat : Int) = c at h1 H2
      go_wp2_with fail
      refine (h1.out _).mono ?_
      rintro e w1 ⟨rfl, rfl⟩
      go_wp2_with fail
      refine (H2.out _).mono ?_
      rintro e w1 ⟨rfl, rfl⟩
      go_wp2_with fail
      go_round
      case rel => exact ⟨j + 1, by omega, by go_num⟩
      case measure => simp [intOf]; omega
    · obtain rfl : j = spanN partB l := by omega
      generalize ((l.getD (spanN partB l) 0).toNat : Int) = c at h1 HQ
      go_wp2_with fail
      refine (h1.out _).mono ?_
      rintro e w1 ⟨rfl, rfl⟩
      go_wp2_with fail
      refine (HQ.out _).mono ?_
      rintro e w1 ⟨rfl, rfl⟩
      go_wp2_with fail
      go_ret
      exact ⟨rfl, rfl⟩

theorem wordAt_new (w : World) : WordAt (w.alloc (.cells (resW.map fun l => Value.string (bs l)).toArray 9)) w.heap.size := fun i t ht => by
  have hn := World.alloc_heap_new w (.cells (resW.map fun l => Value.string (bs l)).toArray 9)
  unfold World.cell?
  rw [hn]
  simp [ht]

set_option maxRecDepth 100000 in
theorem words_any (w : World) : Calls Tryd.prog 26 #[] w fun e w' => e = .returned (.slice (some ⟨w.heap.size, 0, none⟩) 47 47) ∧ WordAt w' w.heap.size ∧ Up w w' := by
  go_enter Tryd.func26, Tryd.ntmps26
  go_wp2_with fail
  go_ret
  exact ⟨rfl, wordAt_new w, (Up.refl w).alloc _⟩

def SeenR (l : List UInt8) (i : Value) : Prop := ∃ j : Nat, j ≤ 47 ∧ i = .int .i64 (j : Int) ∧ ∀ k t, k < j → resW[k]? = some t → t ≠ l

set_option maxHeartbeats 1000000 in
theorem refReserved_any (l : List UInt8) (w : World) (_hl : l.length ≤ 3000) : Calls Tryd.prog 16 #[.string (bs l)] w fun e w' => e = .returned (.bool (resB l)) ∧ Up w w' := by
  have HW := Lib.hid words_any
  have HQ := Lib.hid (fun t : List UInt8 => (show ((bs t).toList == (bs l).toList) = (t == l) by rw [bs_toList, bs_toList]))
  generalize hB : bs l = B at *
  clear hB
  go_enter Tryd.func16, Tryd.ntmps16
  go_wp2_with fail
  refine (HW.out _).mono ?_
  rintro e w1 ⟨rfl, hw, u1⟩
  have HA := Lib.hid hw
  clear hw
  go_wp2_with fail
  go_loop [4] (SeenR l) (fun i => 47 - (intOf i).toNat)
  case atStart => exact ⟨0, Nat.zero_le _, rfl, fun k t hk => by omega⟩
  case round =>
    obtain ⟨j, hj, rfl, hs⟩ := hrel
    have HS := Lib.hid hs
    clear hs
    by_cases hlt : j < 47
    · obtain ⟨t, ht⟩ : ∃ t, resW[j]? = some t := ⟨resW[j]'(by rw [resW_len]; exact hlt), List.getElem?_eq_getElem _⟩
      have c0 := HA.out j t ht
      have hji : (j : Int) < 47 := by omega
      have hq := HQ.out t
      have HTE := Lib.hid ht
      clear ht
      by_cases he : t = l
      · have hq2 : ((bs t).toList == B.toList) = true := by rw [hq]; simpa using he
        have hr : resB l = true := by
          unfold resB
          rw [List.contains_iff_mem, ← he]
          exact List.mem_of_getElem? HTE.out
        have HR := Lib.hid hr
        clear hq he hr
        generalize bs t = T at *
        go_wp2_with fail
        go_ret
        rw [HR.out]
        exact ⟨rfl, u1⟩
      · have hq2 : ((bs t).toList == B.toList) = false := by rw [hq]; simpa using he
        have HNE := Lib.hid he
        clear hq he
        generalize bs t = T at *
        go_wp2_with fail
        go_round
        case rel =>
          refine ⟨j + 1, by omega, by go_num, fun k u hk hu => ?_⟩
          by_cases hkj : k < j
          · exact HS.out k u hkj hu
          · obtain rfl : k = j := by omega
            have := HTE.out.symm.trans hu
            cases this
            exact HNE.out
        case measure => simp [intOf]; omega
    · obtain rfl : j = 47 := by omega
      have hr : resB l = false := by
        cases hx : resB l
        · rfl
        · unfold resB at hx
          rw [List.contains_iff_mem] at hx
          obtain ⟨k, hk, hke⟩ := List.mem_iff_getElem.1 hx
          exact absurd hke (HS.out k _ (by rw [resW_len] at hk; exact hk) (List.getElem?_eq_getElem hk))
      have HR := Lib.hid hr
      clear hr
      go_wp2_with fail
      go_ret
      rw [HR.out]
      exact ⟨rfl, u1⟩

end Go.Proofs.YtgkknjlegfdcnaaDoor.Lx
