/- lex.At and the reference's At. -/
import Derived.Test.YtgkknjlegfdcnaaLexN
import Derived.Lib.LastIndexByte
namespace Go.Proofs.Ytgkknjlegfdcnaa.Lx
open Go.RowKit Go.Shelf Go.Proofs.Ytgkknjlegfdcnaa.Cal

def lineN (l : List UInt8) (k : Nat) : Int := 1 + ((Lib.countByte (l.take k) 10 : Nat) : Int)
def colZ (l : List UInt8) (k : Nat) : Int := (k : Int) - Lib.lastIdx (bs l) 10 k

theorem lineN_zero (l : List UInt8) : lineN l 0 = 1 := by simp [lineN, Lib.countByte]
theorem colZ_zero (l : List UInt8) : colZ l 0 = 1 := by simp [colZ, Lib.lastIdx]
theorem take_one {l : List UInt8} {k : Nat} (h : k < l.length) : l.take (k + 1) = l.take k ++ [l.getD k 0] := by
  rw [List.take_add_one, List.getElem?_eq_getElem h]; simp [List.getD, h]
theorem lineN_succ (l : List UInt8) (k : Nat) (h : k < l.length) : lineN l (k + 1) = lineN l k + (if l.getD k 0 = 10 then 1 else 0) := by
  unfold lineN Lib.countByte
  rw [take_one h, List.count_append]
  by_cases hc : l.getD k 0 = 10
  · rw [if_pos hc, hc]; simp; omega
  · rw [if_neg hc, List.count_singleton, if_neg (by simpa using hc)]; omega
theorem data_at (l : List UInt8) (k : Nat) (h : k < l.length) : (bs l).data[k]! = l.getD k 0 := by
  simp [bs, List.getD, h]
theorem colZ_nl (l : List UInt8) (k : Nat) (h : k < l.length) (hc : l.getD k 0 = 10) : colZ l (k + 1) = 1 := by
  unfold colZ
  rw [Lib.lastIdx_hit _ _ _ (by rw [data_at l k h, hc]; rfl)]; omega
theorem colZ_step (l : List UInt8) (k : Nat) (h : k < l.length) (hc : ¬ l.getD k 0 = 10) : colZ l (k + 1) = colZ l k + 1 := by
  unfold colZ
  rw [Lib.lastIdx_miss _ _ _ (by
    rw [data_at l k h]
    intro e
    exact hc (by apply UInt8.toNat_inj.1; show _ = 10; omega))]
  omega
theorem lineN_bd (l : List UInt8) (k : Nat) : 1 ≤ lineN l k ∧ lineN l k ≤ 1 + k := by
  unfold lineN Lib.countByte
  have h1 := List.count_le_length (a := (10 : UInt8)) (l := l.take k)
  rw [List.length_take] at h1
  omega
theorem colZ_bd (l : List UInt8) (k : Nat) : 1 ≤ colZ l k ∧ colZ l k ≤ 1 + k := by
  unfold colZ
  rcases Lib.lastIdx_spec (bs l) 10 k with ⟨e, _⟩ | ⟨i, hi, e, _⟩ <;> rw [e] <;> omega

theorem lastIdx_take (l : List UInt8) (m k : Nat) (hk : k ≤ m) (hm : m ≤ l.length) : Lib.lastIdx (bs (l.take m)) 10 k = Lib.lastIdx (bs l) 10 k := by
  induction k with
  | zero => rfl
  | succ k ih =>
    have h1 : (bs (l.take m)).data[k]! = (bs l).data[k]! := by
      rw [data_at l k (by omega), data_at (l.take m) k (by rw [List.length_take]; omega)]
      simp [List.getD, show k < m by omega]
    simp only [Lib.lastIdx, h1, ih (by omega)]

def PosRel (l : List UInt8) (m : Nat) (line col i : Value) : Prop :=
  ∃ k : Nat, k ≤ m ∧ i = .int .i64 (k : Int) ∧ line = .int .i64 (lineN l k) ∧ col = .int .i64 (colZ l k)

set_option maxHeartbeats 2000000 in
theorem refAt_pos (l : List UInt8) (off : Int) (m : Nat) (w : World) (hl : l.length ≤ 3000) (h0 : 0 ≤ off) (hm : (m : Int) ≤ off) (hml : m ≤ l.length) (hend : (m : Int) = off ∨ m = l.length) :
    Calls Try.prog 17 #[.string (bs l), .int .i64 off] w fun e w' => e = .returned (.tuple #[.int .i64 (lineN l m), .int .i64 (colZ l m)]) ∧ w = w' := by
  have hsz := bs_size l
  have hs2 : (bs l).size ≤ 3000 := by omega
  have HSZ := Lib.hid hsz
  clear hsz
  go_enter Try.func17, Try.ntmps17
  go_wp2_with fail
  go_loop [6, 7, 8] (PosRel l m) (fun _ _ i => m - (intOf i).toNat)
  case atStart => exact ⟨0, Nat.zero_le _, rfl, by rw [lineN_zero], by rw [colZ_zero]⟩
  case round =>
    obtain ⟨k, hk, rfl, rfl, rfl⟩ := hrel
    have b1 := lineN_bd l k
    have b2 := colZ_bd l k
    by_cases hlt : k < m
    · have hkl : k < l.length := by omega
      have hks : k < (bs l).size := by rw [HSZ.out]; exact hkl
      have hko : (k : Int) < off := by omega
      have hgb := bs_get l k hks
      have hln := lineN_succ l k hkl
      by_cases hc : l.getD k 0 = 10
      · have hcz := colZ_nl l k hkl hc
        rw [if_pos hc] at hln
        have h10 : (((bs l)[k].toNat : Int) == 10) = true := by rw [hgb, hc]; rfl
        clear hgb hc
        generalize lineN l k = L at *
        generalize colZ l k = C at *
        go_wp2_with fail
        go_round
        case rel => exact ⟨k + 1, by omega, by go_num, by rw [hln], by rw [hcz]⟩
        case measure => simp [intOf]; omega
      · have hcz := colZ_step l k hkl hc
        rw [if_neg hc] at hln
        have h10 : (((bs l)[k].toNat : Int) == 10) = false := by
          rw [hgb]
          cases hq : (((l.getD k 0).toNat : Int) == 10)
          · rfl
          · exact absurd (by apply UInt8.toNat_inj.1; show _ = 10; have := eq_of_beq hq; omega) hc
        clear hgb hc
        generalize lineN l k = L at *
        generalize colZ l k = C at *
        go_wp2_with fail
        go_round
        case rel => exact ⟨k + 1, by omega, by go_num, by rw [hln]; simp, by rw [hcz]⟩
        case measure => simp [intOf]; omega
    · obtain rfl : k = m := by omega
      rcases hend with he | he
      · have hko : ¬ (k : Int) < off := by omega
        go_wp2_with fail
        go_ret2
        exact ⟨rfl, rfl⟩
      · have hks : (bs l).size ≤ k := by rw [HSZ.out]; omega
        go_wp2_with fail
        all_goals go_ret2
        all_goals exact ⟨rfl, rfl⟩

theorem refAt_neg (s : ByteArray) (off : Int) (w : World) (h0 : off < 0) :
    Calls Try.prog 17 #[.string s, .int .i64 off] w fun e w' => e = .returned (.tuple #[.int .i64 0, .int .i64 0]) ∧ w = w' := by
  go_enter Try.func17, Try.ntmps17
  go_wp2_with fail
  go_ret2
  exact ⟨rfl, rfl⟩

theorem at_neg (s : ByteArray) (off : Int) (w : World) (h0 : off < 0) :
    Calls Try.prog 18 #[.string s, .int .i64 off] w fun e w' => e = .returned (.agg #[.int .i64 0, .int .i64 0]) ∧ Up w w' := by
  go_enter Try.func18, Try.ntmps18
  go_wp2_with fail
  have hb := box_new w 0 0
  refine bodyPost_ret (v := .agg #[.int .i64 0, .int .i64 0]) (by simp [results, Try.f18, go_sem, hb.1, hb.2]) rfl ?_
  exact ⟨rfl, (Up.refl w).alloc _⟩

theorem ahead_any (l : List UInt8) (m : Nat) (hm : m ≤ l.length) (hl : l.length ≤ 3000) (w : World) :
    Calls Try.prog 21 #[.string (bs (l.take m)), .string ⟨#[10]⟩] w (fun e w' => e = .returned (.int .i64 (lineN l m - 1)) ∧ w = w') ∧
    Calls Try.prog 22 #[.string (bs (l.take m)), .int .u8 10] w (fun e w' => e = .returned (.int .i64 ((m : Int) - colZ l m)) ∧ w = w') := by
  constructor
  · refine (Try.strings_Count_one (bs (l.take m)) 10 w).mono ?_
    rintro e w' ⟨rfl, rfl⟩
    refine ⟨?_, rfl⟩
    rw [show (bs (l.take m)).data.toList = l.take m by simp [bs]]
    exact ret_int (by unfold lineN; omega)
  · have hsz : (bs (l.take m)).size = m := by rw [bs_size, List.length_take]; omega
    refine (Try.strings_LastIndexByte (bs (l.take m)) 10 (by omega) w).mono ?_
    rintro e w' ⟨rfl, rfl⟩
    refine ⟨ret_int ?_, rfl⟩
    unfold colZ Lib.lastIndexByte
    rw [hsz, lastIdx_take l m m (Nat.le_refl _) hm]; omega

set_option maxHeartbeats 800000 in
theorem at_pos (l : List UInt8) (off : Int) (m : Nat) (w : World) (hl : l.length ≤ 3000) (h0 : 0 ≤ off) (hm : (m : Int) ≤ off) (hml : m ≤ l.length) (hend : (m : Int) = off ∨ m = l.length) :
    Calls Try.prog 18 #[.string (bs l), .int .i64 off] w fun e w' => e = .returned (.agg #[.int .i64 (lineN l m), .int .i64 (colZ l m)]) ∧ Up w w' := by
  have hsz := bs_size l
  have hx := bs_take l m
  have H1 := Lib.hid (fun w => (ahead_any l m hml hl w).1)
  have H2 := Lib.hid (fun w => (ahead_any l m hml hl w).2)
  rw [← hx] at H1 H2
  have hxs : ((bs l).extract 0 m).size = m := by rw [hx, bs_size, List.length_take]; omega
  have b1 := lineN_bd l m
  have b2 := colZ_bd l m
  have hs3 : (bs l).size ≤ 3000 := by omega
  rw [← hsz] at hml
  have hmn : min off ((bs l).size : Int) = (m : Int) := by omega
  have hmm : min m (bs l).size = m := by omega
  clear hend hsz hx hl
  generalize lineN l m = L at *
  generalize colZ l m = C at *
  generalize bs l = B at *
  go_enter Try.func18, Try.ntmps18
  go_wp2_with fail
  refine (H1.out _).mono ?_
  rintro e w1 ⟨rfl, rfl⟩
  have hb := box_new w 0 0
  go_wp2_with fail
  refine (H2.out _).mono ?_
  rintro e w1 ⟨rfl, rfl⟩
  go_wp2_with fail
  have e1 : 1 + (L - 1) = L := by omega
  have e2 : (m : Int) - ((m : Int) - C) = C := by omega
  rw [e1, e2]
  have hb2 := box_new w L C
  refine bodyPost_ret (v := .agg #[.int .i64 L, .int .i64 C]) (by simp [results, Try.f18, go_sem, hb2.1, hb2.2]) rfl ?_
  exact ⟨rfl, (Up.refl w).alloc _⟩

theorem places_walk_short (l : List UInt8) (off : Int) (w : World) (hl : l.length ≤ 3000) :
    Calls Try.prog 8 #[.string (bs l), .int .i64 off] w fun e w' => e = .returned (.bool true) ∧ Up w w' := by
  have hsz := bs_size l
  have hs3 : ((bs l).size : Int) ≤ 3000 := by omega
  have HA := Lib.hid awake_any
  obtain ⟨x, y, HR, HL⟩ : ∃ x y : Int, Hid (∀ w, Calls Try.prog 17 #[.string (bs l), .int .i64 off] w fun e w' => e = .returned (.tuple #[.int .i64 x, .int .i64 y]) ∧ w = w') ∧
      Hid (∀ w, Calls Try.prog 18 #[.string (bs l), .int .i64 off] w fun e w' => e = .returned (.agg #[.int .i64 x, .int .i64 y]) ∧ Up w w') := by
    by_cases h0 : off < 0
    · exact ⟨0, 0, Lib.hid fun w => refAt_neg _ off w h0, Lib.hid fun w => at_neg _ off w h0⟩
    · refine ⟨_, _, Lib.hid fun w => refAt_pos l off (min off (l.length : Int)).toNat w hl (by omega) (by omega) (by omega) (by omega), Lib.hid fun w => at_pos l off (min off (l.length : Int)).toNat w hl (by omega) (by omega) (by omega) (by omega)⟩
  clear hsz
  generalize bs l = B at *
  go_enter Try.func8, Try.ntmps8
  go_wp2_with fail
  refine (HR.out _).mono ?_
  rintro e w1 ⟨rfl, rfl⟩
  go_wp2_with fail
  refine (HL.out _).mono ?_
  rintro e w1 ⟨rfl, u1⟩
  go_wp2_with fail
  refine (HA.out _).mono ?_
  rintro e w2 ⟨rfl, u2⟩
  go_wp2_with fail
  go_ret
  exact ⟨rfl, u1.trans u2⟩

theorem places_walk (s : ByteArray) (off : Int) (w : World) (_h : s.size ≤ 9223372036854775807) (_wf : (Lit.int .i64 off).wf = true) :
    Calls Try.prog 8 #[.string s, .int .i64 off] w fun e w' => e = .returned (.bool true) ∧ Below w.heap.size w w' := by
  by_cases hs : s.size ≤ 3000
  · rw [bs_of s]
    exact places_walk_short _ off w (by rw [Array.length_toList]; exact hs)
  · have HA := Lib.hid awake_any
    have hs3 : 3000 < (s.size : Int) := by omega
    go_enter Try.func8, Try.ntmps8
    go_wp2_with fail
    refine (HA.out _).mono ?_
    rintro e w2 ⟨rfl, u2⟩
    go_wp2_with fail
    go_ret
    exact ⟨rfl, u2⟩

end Go.Proofs.Ytgkknjlegfdcnaa.Lx
