/- Contracts: texts of dates, the program's own. -/
import Derived.Test.YtblgiojmodoilaaTextA
import Derived.Handy
import Derived.Laws.Cover3
import Derived.Lib.SlBytesConst
namespace Go.Proofs.Ytblgiojmodoilaa.Cal
open Go.RowKit Go.Shelf

set_option maxHeartbeats 4000000 in
theorem put49_y (n : Int) (w : World) (h0 : 0 ≤ n) (h1 : n < 10000) :
    Calls Try.prog 49 #[.agg #[.int .u8 48, .int .u8 48, .int .u8 48, .int .u8 48, .int .u8 45, .int .u8 48, .int .u8 48, .int .u8 45, .int .u8 48, .int .u8 48], .int .i64 n, .int .i64 3] w fun e w' =>
      e = .returned (.agg #[.int .u8 (48 + n / 10 / 10 / 10 % 10), .int .u8 (48 + n / 10 / 10 % 10), .int .u8 (48 + n / 10 % 10), .int .u8 (48 + n % 10), .int .u8 45, .int .u8 48, .int .u8 48, .int .u8 45, .int .u8 48, .int .u8 48]) ∧ Up w w' := by
  go_enter Try.func49, Try.ntmps49
  go_wp2_with fail
  go_rounds 5
  refine bodyPost_ret (v := .agg #[.int .u8 (48 + n / 10 / 10 / 10 % 10), .int .u8 (48 + n / 10 / 10 % 10), .int .u8 (48 + n / 10 % 10), .int .u8 (48 + n % 10), .int .u8 45, .int .u8 48, .int .u8 48, .int .u8 45, .int .u8 48, .int .u8 48]) (by simp [results, Try.results49, go_sem]) rfl ⟨rfl, ?_⟩
  exact ((Up.refl w).alloc _).alloc _

set_option maxHeartbeats 4000000 in
theorem put49_m (a b c d n : Int) (w : World) (h0 : 0 ≤ n) (h1 : n < 100) :
    Calls Try.prog 49 #[.agg #[.int .u8 a, .int .u8 b, .int .u8 c, .int .u8 d, .int .u8 45, .int .u8 48, .int .u8 48, .int .u8 45, .int .u8 48, .int .u8 48], .int .i64 n, .int .i64 6] w fun e w' =>
      e = .returned (.agg #[.int .u8 a, .int .u8 b, .int .u8 c, .int .u8 d, .int .u8 45, .int .u8 (48 + n / 10 % 10), .int .u8 (48 + n % 10), .int .u8 45, .int .u8 48, .int .u8 48]) ∧ Up w w' := by
  go_enter Try.func49, Try.ntmps49
  go_wp2_with fail
  go_rounds 4
  refine bodyPost_ret (v := .agg #[.int .u8 a, .int .u8 b, .int .u8 c, .int .u8 d, .int .u8 45, .int .u8 (48 + n / 10 % 10), .int .u8 (48 + n % 10), .int .u8 45, .int .u8 48, .int .u8 48]) (by simp [results, Try.results49, go_sem]) rfl ⟨rfl, ?_⟩
  exact ((Up.refl w).alloc _).alloc _

set_option maxHeartbeats 4000000 in
theorem put49_d (a b c d e f n : Int) (w : World) (h0 : 0 ≤ n) (h1 : n < 100) :
    Calls Try.prog 49 #[.agg #[.int .u8 a, .int .u8 b, .int .u8 c, .int .u8 d, .int .u8 45, .int .u8 e, .int .u8 f, .int .u8 45, .int .u8 48, .int .u8 48], .int .i64 n, .int .i64 9] w fun r w' =>
      r = .returned (.agg #[.int .u8 a, .int .u8 b, .int .u8 c, .int .u8 d, .int .u8 45, .int .u8 e, .int .u8 f, .int .u8 45, .int .u8 (48 + n / 10 % 10), .int .u8 (48 + n % 10)]) ∧ Up w w' := by
  go_enter Try.func49, Try.ntmps49
  go_wp2_with fail
  go_rounds 4
  refine bodyPost_ret (v := .agg #[.int .u8 a, .int .u8 b, .int .u8 c, .int .u8 d, .int .u8 45, .int .u8 e, .int .u8 f, .int .u8 45, .int .u8 (48 + n / 10 % 10), .int .u8 (48 + n % 10)]) (by simp [results, Try.results49, go_sem]) rfl ⟨rfl, ?_⟩
  exact ((Up.refl w).alloc _).alloc _

/-- The text of a date. -/
def textL (d : Int) : List UInt8 := if dateB d = true then digL (yZ d).toNat 4 ++ 45 :: (digL (mZ d).toNat 2 ++ 45 :: digL (dZ d).toNat 2) else []

theorem dZ_bd (d : Int) (h0 : 0 ≤ d) (h1 : d < 65536) : 1 ≤ dZ d ∧ dZ d ≤ 31 := by
  have := sz_bd (mo d.toNat)
  have := ddZ_bd d h0 h1
  unfold dZ; omega

theorem cells_list (w : World) (l : List Int) (t : TypeId) (i : Nat) (hi : i < l.length) : (w.alloc (.cells (l.map (Value.int .u8)).toArray t)).cell? ⟨w.heap.size, 0 + i, none⟩ = some (.int .u8 (l.getD i 0)) := by
  rw [World.cell?_alloc_at _ _ _ _ (by simp)]
  simp [List.getD, hi]

/-- 'string(t[:])' of ten bytes in an array. -/
theorem run_byte10 (w : World) (a b c d e f g h i j : Int) :
    (convert 39 9 (.slice (some ⟨w.heap.size, 0, none⟩) 10 10)).run Try.prog (w.alloc (.cells #[.int .u8 a, .int .u8 b, .int .u8 c, .int .u8 d, .int .u8 e, .int .u8 f, .int .u8 g, .int .u8 h, .int .u8 i, .int .u8 j] 47)) =
      .ok (.string (strOfNums [a, b, c, d, e, f, g, h, i, j])) (w.alloc (.cells #[.int .u8 a, .int .u8 b, .int .u8 c, .int .u8 d, .int .u8 e, .int .u8 f, .int .u8 g, .int .u8 h, .int .u8 i, .int .u8 j] 47)) :=
  run_convert_bytes_arg (P := Try.prog) (w.alloc (.cells #[.int .u8 a, .int .u8 b, .int .u8 c, .int .u8 d, .int .u8 e, .int .u8 f, .int .u8 g, .int .u8 h, .int .u8 i, .int .u8 j] 47)) 39 5 Try.underlying39 Try.underlying5 w.heap.size 0 10 10 [a, b, c, d, e, f, g, h, i, j] rfl (fun k hk => cells_list w [a, b, c, d, e, f, g, h, i, j] 47 k hk) 9 Try.underlying9

theorem dig_byte (n : Nat) (x : Int) (h : x = (n : Int)) : UInt8.ofNat (48 + x).toNat = 48 + UInt8.ofNat n := by
  rw [show (48 + x).toNat = 48 + n by omega, UInt8.ofNat_add]; rfl

theorem textL_ten (d : Int) (h0 : 0 ≤ d) (h1 : d < 65536) : Value.string (strOfNums [48 + yZ d / 10 / 10 / 10 % 10, 48 + yZ d / 10 / 10 % 10, 48 + yZ d / 10 % 10, 48 + yZ d % 10, 45, 48 + mZ d / 10 % 10, 48 + mZ d % 10, 45, 48 + dZ d / 10 % 10, 48 + dZ d % 10]) = strV (textL d) := by
  have hy := yZ_bd d h1
  have hm := mZ_bd d
  have hd := dZ_bd d h0 h1
  rw [textL, if_pos (dateB_true h0 h1)]
  obtain ⟨y, hy2⟩ := Int.eq_ofNat_of_zero_le (show 0 ≤ yZ d by omega)
  obtain ⟨m, hm2⟩ := Int.eq_ofNat_of_zero_le (show 0 ≤ mZ d by omega)
  obtain ⟨q, hd2⟩ := Int.eq_ofNat_of_zero_le (show 0 ≤ dZ d by omega)
  rw [hy2, hm2, hd2]
  simp only [strOfNums, strV, List.map, digL, Int.toNat_natCast, List.cons_append, List.nil_append]
  rw [dig_byte (y / 10 ^ 3 % 10) ((y : Int) / 10 / 10 / 10 % 10) (by omega), dig_byte (y / 10 ^ 2 % 10) ((y : Int) / 10 / 10 % 10) (by omega), dig_byte (y / 10 ^ 1 % 10) ((y : Int) / 10 % 10) (by omega), dig_byte (y / 10 ^ 0 % 10) ((y : Int) % 10) (by omega),
    dig_byte (m / 10 ^ 1 % 10) ((m : Int) / 10 % 10) (by omega), dig_byte (m / 10 ^ 0 % 10) ((m : Int) % 10) (by omega), dig_byte (q / 10 ^ 1 % 10) ((q : Int) / 10 % 10) (by omega), dig_byte (q / 10 ^ 0 % 10) ((q : Int) % 10) (by omega)]
  rfl

set_option maxHeartbeats 4000000 in
theorem text32_yes (d : Int) (w : World) (h0 : 0 ≤ d) (h1 : d < 65536) :
    Calls Try.prog 32 #[.int .i64 d] w fun e w' => e = .returned (strV (textL d)) ∧ Up w w' := by
  have hy := yZ_bd d h1
  have hm := mZ_bd d
  have hd := dZ_bd d h0 h1
  have kc := fun (w : World) (C : Array Value) (n c : Nat) => Lib.run_convert_bytes_const (P := Try.prog) w 39 5 C n c Try.underlying39 Try.underlying5
  have hat := fun (w : World) (a : Option Addr) => run_arrayAt (P := Try.prog) w 47 5 10 a 10 10 Try.underlying47 (Nat.le_refl 10)
  have hb10 := run_byte10
  have hcm := fun (w : World) (C : Array Value) (j : Nat) => World.cell?_alloc_mark w C 5 (10, 11) j
  go_enter Try.func32, Try.ntmps32
  go_wp2_with (first | (go_at_call 24; refine (ymd24_yes _ _ h0 h1).mono ?_; rintro e w1 ⟨rfl, hup⟩))
  refine (put49_y _ _ (by omega) (by omega)).mono ?_
  rintro e w2 ⟨rfl, hup2⟩
  go_wp2_with fail
  refine (put49_m _ _ _ _ _ _ (by omega) (by omega)).mono ?_
  rintro e w3 ⟨rfl, hup3⟩
  go_wp2_with fail
  refine (put49_d _ _ _ _ _ _ _ _ (by omega) (by omega)).mono ?_
  rintro e w4 ⟨rfl, hup4⟩
  go_wp2_with fail
  go_ret
  exact ⟨(by rw [← textL_ten d h0 h1]; rfl), ((hup.trans (((Up.refl _).alloc _).trans hup2)).trans (hup3.trans hup4)).alloc _⟩

theorem text32 (d : Int) (w : World) : Calls Try.prog 32 #[.int .i64 d] w fun e w' => e = .returned (strV (textL d)) ∧ Up w w' := by
  rcases date_cases d with ⟨h0, h1⟩ | h
  · exact text32_yes d w h0 h1
  · rw [textL, if_neg (by simp [dateB_false h])]
    go_enter Try.func32, Try.ntmps32
    go_wp2_with (first | (go_at_call 24; refine (ymd24_no _ _ h).mono ?_; rintro e w1 ⟨rfl, rfl⟩))
    go_ret
    exact ⟨rfl, Up.refl _⟩

/-- A string of known bytes, whose text the walk does not look into. -/
def bs (l : List UInt8) : ByteArray := ⟨l.toArray⟩
theorem bs_size (l : List UInt8) : (bs l).size = l.length := by simp [bs, ByteArray.size]
theorem bs_cat (a b : List UInt8) : bs a ++ bs b = bs (a ++ b) := by
  unfold bs
  apply ByteArray.ext
  simp

theorem digits53_bs (n : Int) (many : Nat) (w : World) (h0 : 0 ≤ n) (hN : n < 1000000) (hm : many ≤ 4) :
    Calls Try.prog 53 #[.int .i64 n, .int .i64 (many : Int)] w fun e w' => e = .returned (.string (bs (digL n.toNat many))) ∧ Up w w' := by
  obtain ⟨N, rfl⟩ := Int.eq_ofNat_of_zero_le h0
  rw [Int.toNat_natCast]
  exact digits53 N many w (by omega) hm

set_option maxHeartbeats 4000000 in
theorem text41 (d : Int) (w : World) : Calls Try.prog 41 #[.int .i64 d] w fun e w' => e = .returned (strV (textL d)) ∧ Up w w' := by
  rcases date_cases d with ⟨h0, h1⟩ | h
  · have hy := yZ_bd d h1
    have hm := mZ_bd d
    have hd := dZ_bd d h0 h1
    rw [textL, if_pos (dateB_true h0 h1)]
    have l1 : (bs (digL (yZ d).toNat 4)).size ≤ 4 := by rw [bs_size, digL_length]; omega
    have l2 : (bs (digL (mZ d).toNat 2)).size ≤ 2 := by rw [bs_size, digL_length]; omega
    have l3 : (bs (digL (dZ d).toNat 2)).size ≤ 2 := by rw [bs_size, digL_length]; omega
    have hfin : strV (digL (yZ d).toNat 4 ++ 45 :: (digL (mZ d).toNat 2 ++ 45 :: digL (dZ d).toNat 2)) = .string (bs (digL (yZ d).toNat 4) ++ bs [45] ++ bs (digL (mZ d).toNat 2) ++ bs [45] ++ bs (digL (dZ d).toNat 2)) := by
      simp only [bs_cat, strV]
      show Value.string (bs _) = _
      simp
    rw [hfin]
    have hc1 := fun w => digits53_bs (yZ d) 4 w (by omega) (by omega) (by omega)
    have hc2 := fun w => digits53_bs (mZ d) 2 w (by omega) (by omega) (by omega)
    have hc3 := fun w => digits53_bs (dZ d) 2 w (by omega) (by omega) (by omega)
    generalize bs (digL (yZ d).toNat 4) = A at *
    generalize bs (digL (mZ d).toNat 2) = B at *
    generalize bs (digL (dZ d).toNat 2) = C at *
    have H1 := Lib.hid hc1
    have H2 := Lib.hid hc2
    have H3 := Lib.hid hc3
    clear hc1 hc2 hc3 hfin
    go_enter Try.func41, Try.ntmps41
    go_wp2_with (first | (go_at_call 38; refine (ymd38_yes _ _ h0 h1).mono ?_; rintro e w1 ⟨rfl, rfl⟩))
    refine (H1.out _).mono ?_
    rintro e w2 ⟨rfl, hup2⟩
    go_wp2_with fail
    refine (H2.out _).mono ?_
    rintro e w3 ⟨rfl, hup3⟩
    go_wp2_with fail
    refine (H3.out _).mono ?_
    rintro e w4 ⟨rfl, hup4⟩
    go_wp2_with fail
    go_ret
    exact ⟨rfl, (hup2.trans hup3).trans hup4⟩
  · rw [textL, if_neg (by simp [dateB_false h])]
    go_enter Try.func41, Try.ntmps41
    go_wp2_with (first | (go_at_call 38; refine (ymd38_no _ _ h).mono ?_; rintro e w1 ⟨rfl, rfl⟩))
    go_ret
    exact ⟨rfl, Up.refl _⟩

theorem text32_bs (d : Int) (w : World) : Calls Try.prog 32 #[.int .i64 d] w fun e w' => e = .returned (.string (bs (textL d))) ∧ Up w w' := text32 d w
theorem text41_bs (d : Int) (w : World) : Calls Try.prog 41 #[.int .i64 d] w fun e w' => e = .returned (.string (bs (textL d))) ∧ Up w w' := text41 d w

end Go.Proofs.Ytblgiojmodoilaa.Cal
