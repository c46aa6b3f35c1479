/- The walk of LexNumbers. -/
import Derived.Test.YtgkknjlegfdcnaaWkB
import Derived.Test.YtgkknjlegfdcnaaPlE
import Derived.BigQuiet
namespace Go.Proofs.Ytgkknjlegfdcnaa.Lx
open Go.RowKit Go.Shelf Go.Proofs.Ytgkknjlegfdcnaa.Cal

theorem box_one (w : World) (n : Int) : (w.alloc (.cells #[.int .u8 n] 5)).cell? ⟨w.heap.size, 0, none⟩ = some (.int .u8 n) := by
  have h := World.alloc_heap_new w (.cells #[.int .u8 n] 5)
  unfold World.cell?; rw [h]; rfl

/-- 'string([]byte{c})'. -/
theorem run_byte1 (w : World) (n : Int) : (convert 50 9 (.slice (some ⟨w.heap.size, 0, none⟩) 1 1)).run Try.prog (w.alloc (.cells #[.int .u8 n] 5)) = .ok (.string ⟨#[UInt8.ofNat n.toNat]⟩) (w.alloc (.cells #[.int .u8 n] 5)) := by
  have h := run_convert_bytes_arg (P := Try.prog) (w.alloc (.cells #[.int .u8 n] 5)) 50 5 Try.underlying50 Try.underlying5 w.heap.size 0 1 1 [n] rfl (fun i hi => by
    obtain rfl : i = 0 := by omega
    exact box_one w n) 9 Try.underlying9
  exact h

def DigR (n0 : Nat) (w : World) (n s : Value) (wr : World) : Prop :=
  ∃ (q : Nat) (l : List UInt8), q ≤ n0 ∧ n = .int .u64 (q : Int) ∧ s = .string (bs l) ∧ upD q ++ l = decD n0 ∧ Up w wr

theorem digit_byte (m : Nat) : 48 + UInt8.ofNat m = UInt8.ofNat (48 + m) := by
  rw [UInt8.ofNat_add]; rfl
theorem bs_byte (m : Nat) (l : List UInt8) : (⟨#[48 + UInt8.ofNat m]⟩ : ByteArray) ++ bs l = bs (UInt8.ofNat (48 + m) :: l) := by
  rw [digit_byte, show (⟨#[UInt8.ofNat (48 + m)]⟩ : ByteArray) = bs [UInt8.ofNat (48 + m)] from rfl, bs_cat]; rfl

set_option maxHeartbeats 2000000 in
theorem digits_any (n0 : Nat) (w : World) (hn : n0 < 18446744073709551616) :
    Calls Try.prog 16 #[.int .u64 (n0 : Int)] w fun e w' => e = .returned (.string (bs (decD n0))) ∧ Up w w' := by
  have hb1 := run_byte1
  have HL := Lib.hid (decD_len n0 hn)
  go_enter Try.func16, Try.ntmps16
  go_wp2_with fail
  go_loopw [0, 3] (DigR n0 w) (fun n _ _ => (intOf n).toNat)
  case atStart =>
    refine ⟨n0 / 10, [UInt8.ofNat (48 + n0 % 10)], Nat.div_le_self _ _, rfl, ?_, rfl, (Up.refl w).alloc _⟩
    rw [← digit_byte]; rfl
  case round =>
    obtain ⟨q, l, hq, rfl, rfl, hd, hup⟩ := hrel
    have hl : l.length ≤ 20 := by
      have := HL.out
      rw [← hd, List.length_append] at this; omega
    have hsz := bs_size l
    have hs2 : ((bs l).size : Int) ≤ 20 := by omega
    have HD := Lib.hid hd
    clear hd hl hsz
    have HB := Lib.hid (rfl : bs l = bs l)
    by_cases h0 : 0 < q
    · have HC := Lib.hid (bs_byte (q % 10) l)
      generalize bs l = B at HB HC hs2 ⊢
      go_wp2_with fail
      go_roundw
      case rel =>
        refine ⟨q / 10, UInt8.ofNat (48 + q % 10) :: l, by omega, rfl, congrArg Value.string HC.out, ?_, hup.alloc _⟩
        rw [← HD.out, upD_step h0, List.append_assoc]; rfl
      case measure => simp [intOf]; omega
    · obtain rfl : q = 0 := by omega
      have hd := HD.out
      rw [upD_zero, List.nil_append] at hd
      subst hd
      go_wp2_with fail
      go_ret
      exact ⟨rfl, hup⟩

/-- The digits that the law makes. -/
def numD (z n m : Nat) : List UInt8 := List.replicate z 48 ++ decD n ++ List.replicate m 53

def ZeroR (n z : Nat) (d i : Value) : Prop := ∃ j : Nat, j ≤ z ∧ i = .int .u8 (j : Int) ∧ d = .string (bs (numD j n 0))
def FiveR (z n m : Nat) (d i : Value) : Prop := ∃ j : Nat, j ≤ m ∧ i = .int .u8 (j : Int) ∧ d = .string (bs (numD z n j))

/-- Lex at one source: so many tokens, and the error; at a place of its own. -/
def LexQ (s : ByteArray) (n : Nat) (e : Int) : Prop := ∃ l c : Int, ∀ w : World, Calls Try.prog 11 #[.string s] w fun r w' => ∃ b cp, r = .returned (.tuple #[.slice b n cp, .agg #[.int .i64 l, .int .i64 c], .int .i64 e]) ∧ Up w w'
/-- Lex makes one number of a source. -/
def LexV (s : ByteArray) : Prop := ∃ l c : Int, ∀ w : World, Calls Try.prog 11 #[.string s] w fun r w' => ∃ g cp, r = .returned (.tuple #[.slice (some ⟨g, 0, none⟩) 2 cp, .agg #[.int .i64 l, .int .i64 c], .int .i64 0]) ∧
  w'.cell? ⟨g, 0, none⟩ = some (.int .u8 2) ∧ w'.cell? ⟨g, 1, none⟩ = some (.string s) ∧ Up w w'

def Fine (S : ByteArray) (h : 0 < S.size) : Prop := (S.toList == [48]) = true ∨ (S.toList == [48]) = false ∧ ((S[0].toNat : Int) != 48) = true

/-- What Lex makes of the three sources. -/
def NumCase (S B : ByteArray) (b : Nat) (h : 0 < S.size) : Prop :=
  ((S.toList == [48]) = false ∧ ((S[0].toNat : Int) != 48) = false ∧ LexQ S 0 112 ∧ LexQ (S ++ ⟨#[47]⟩ ++ B) 0 112 ∧ LexQ (S ++ ⟨#[32, 47, 32]⟩ ++ B) 0 112) ∨
  (Fine S h ∧ (200 : Int) < (S.size : Int) ∧ LexQ S 0 112 ∧ LexQ (S ++ ⟨#[47]⟩ ++ B) 0 112 ∧ LexQ (S ++ ⟨#[32, 47, 32]⟩ ++ B) 0 112) ∨
  (Fine S h ∧ (S.size : Int) ≤ 200 ∧ (200 : Int) < (S.size : Int) + 1 + (B.size : Int) ∧ LexV S ∧ LexQ (S ++ ⟨#[47]⟩ ++ B) 0 112 ∧ LexQ (S ++ ⟨#[32, 47, 32]⟩ ++ B) 4 0) ∨
  (Fine S h ∧ (S.size : Int) ≤ 200 ∧ (S.size : Int) + 1 + (B.size : Int) ≤ 200 ∧ ((b : Int) != 0) = false ∧ LexV S ∧ LexQ (S ++ ⟨#[47]⟩ ++ B) 0 112 ∧ LexQ (S ++ ⟨#[32, 47, 32]⟩ ++ B) 4 0) ∨
  (Fine S h ∧ (S.size : Int) ≤ 200 ∧ (S.size : Int) + 1 + (B.size : Int) ≤ 200 ∧ ((b : Int) != 0) = true ∧ LexV S ∧ LexV (S ++ ⟨#[47]⟩ ++ B) ∧ LexQ (S ++ ⟨#[32, 47, 32]⟩ ++ B) 4 0)

theorem numD_zero (z n : Nat) : (⟨#[48]⟩ : ByteArray) ++ bs (numD z n 0) = bs (numD (z + 1) n 0) := by
  rw [show (⟨#[48]⟩ : ByteArray) = bs [48] from rfl, bs_cat]
  rfl
theorem numD_five (z n j : Nat) : bs (numD z n j) ++ (⟨#[53]⟩ : ByteArray) = bs (numD z n (j + 1)) := by
  rw [show (⟨#[53]⟩ : ByteArray) = bs [53] from rfl, bs_cat]
  unfold numD
  rw [List.replicate_succ', List.append_assoc]
theorem numD_len (z n m : Nat) (hn : n < 18446744073709551616) : (numD z n m).length ≤ z + 20 + m := by
  have := decD_len n hn
  unfold numD
  simp only [List.length_append, List.length_replicate]
  omega

set_option maxRecDepth 100000 in
set_option maxHeartbeats 8000000 in
theorem numbers_any (a b x0 x1 z : Nat) (w : World) (ha : a < 18446744073709551616) (hb : b < 18446744073709551616) (h0 : x0 < 256) (h1 : x1 < 256) (hz : (x0 : Int) % 3 = (z : Int)) (hz3 : z < 3) (HA : Hid AwakeG)
    (HP : 0 < (bs (numD z a x1)).size) (HC : Hid (NumCase (bs (numD z a x1)) (bs (decD b)) b HP)) :
    Calls Try.prog 7 #[.int .u64 (a : Int), .int .u64 (b : Int), .agg #[.int .u8 (x0 : Int), .int .u8 (x1 : Int)]] w fun e w' => e = .returned (.bool true) ∧ Up w w' := by
  have HDa := Lib.hid (fun w => digits_any a w ha)
  have HDb := Lib.hid (fun w => digits_any b w hb)
  have HL : Hid (∀ j i, j ≤ 3 → i ≤ 256 → ((bs (numD j a i)).size : Int) ≤ 300) := Lib.hid fun j i hj hi => by
    have := numD_len j a i ha
    rw [bs_size]; omega
  have hBs : ((bs (decD b)).size : Int) ≤ 20 := by
    have := decD_len b hb
    rw [bs_size]; omega
  have HP := Lib.hid HP
  generalize bs (decD b) = B at *
  go_enter Try.func7, Try.ntmps7
  go_wp2_with fail
  refine (HA.out _).mono ?_
  rintro e w1 ⟨rfl, u1⟩
  have hnew := World.alloc_heap_new w (.cells #[.int .u8 (x0 : Int), .int .u8 (x1 : Int)] 37)
  have c0 : w1.cell? ⟨w.heap.size, 0, none⟩ = some (.int .u8 (x0 : Int)) := u1.cell (by unfold World.cell?; rw [hnew]; rfl)
  have c1 : w1.cell? ⟨w.heap.size, 1, none⟩ = some (.int .u8 (x1 : Int)) := u1.cell (by unfold World.cell?; rw [hnew]; rfl)
  have v0 := (Up.refl w).alloc (.cells #[.int .u8 (x0 : Int), .int .u8 (x1 : Int)] 37)
  clear hnew
  go_wp2_with fail
  go_quiet (fail)
  go_wp2_with fail
  refine (HDa.out _).mono ?_
  rintro e w2 ⟨rfl, u2⟩
  have v1 : Up w1 w2 := ((Up.refl w1).drewN nq).trans u2
  clear c0 c1 u2
  have hn0 : bs (decD a) = bs (numD 0 a 0) := by unfold numD; simp
  rw [hn0]
  clear hn0
  go_wp2_with fail
  go_loop [9, 10] (ZeroR a z) (fun _ i => z - (intOf i).toNat)
  case atStart => exact ⟨0, Nat.zero_le _, rfl, rfl⟩
  case round =>
    obtain ⟨j, hj, rfl, rfl⟩ := hrel
    have hs := HL.out j 0 (by omega) (by omega)
    have hnx := Lib.hid (numD_zero j a)
    by_cases hlt : j < z
    · have hli : (j : Int) < (z : Int) := by omega
      generalize bs (numD j a 0) = T at hs hnx ⊢
      go_wp2_with fail
      go_round
      case rel => exact ⟨j + 1, by omega, by go_num, congrArg Value.string hnx.out⟩
      case measure => simp [intOf]; omega
    · obtain rfl : j = z := by omega
      clear hlt hs hnx
      go_wp2_with fail
      go_loop [9, 11] (FiveR j a x1) (fun _ i => x1 - (intOf i).toNat)
      case atStart => exact ⟨0, Nat.zero_le _, rfl, rfl⟩
      case round =>
        obtain ⟨i, hi, rfl, rfl⟩ := hrel
        have hs := HL.out j i (by omega) (by omega)
        have hnx := Lib.hid (numD_five j a i)
        by_cases hlt : i < x1
        · have hli : (i : Int) < (x1 : Int) := by omega
          generalize bs (numD j a i) = T at hs hnx ⊢
          go_wp2_with fail
          go_round
          case rel => exact ⟨i + 1, by omega, by go_num, congrArg Value.string hnx.out⟩
          case measure => simp [intOf]; omega
        · obtain rfl : i = x1 := by omega
          clear hlt hnx
          have hpos := HP.out
          generalize bs (numD j a i) = S at *
          have hc := HC.out
          clear HC HDa HL HA hz h0 ha
          rcases hc with ⟨q1, q2, ⟨l1, k1, H1⟩, ⟨l2, k2, H2⟩, ⟨l3, k3, H3⟩⟩ | ⟨hf, hn, ⟨l1, k1, H1⟩, ⟨l2, k2, H2⟩, ⟨l3, k3, H3⟩⟩ | ⟨hf, hn, hn2, ⟨l1, k1, H1⟩, ⟨l2, k2, H2⟩, ⟨l3, k3, H3⟩⟩ | ⟨hf, hn, hn2, hb0, ⟨l1, k1, H1⟩, ⟨l2, k2, H2⟩, ⟨l3, k3, H3⟩⟩ | ⟨hf, hn, hn2, hb0, ⟨l1, k1, H1⟩, ⟨l2, k2, H2⟩, ⟨l3, k3, H3⟩⟩
          all_goals (replace H1 := Lib.hid H1; replace H2 := Lib.hid H2; replace H3 := Lib.hid H3)
          case inl =>
            go_wp2_with fail
            refine (HDb.out _).mono ?_
            rintro e w3 ⟨rfl, u3⟩
            go_wp2_with fail
            refine (H1.out _).mono ?_
            rintro e w4 ⟨b4, c4, rfl, u4⟩
            go_wp2_with fail
            refine (H2.out _).mono ?_
            rintro e w5 ⟨b5, c5, rfl, u5⟩
            go_wp2_with fail
            refine (HDb.out _).mono ?_
            rintro e w6 ⟨rfl, u6⟩
            go_wp2_with fail
            refine (H3.out _).mono ?_
            rintro e w7 ⟨b7, c7, rfl, u7⟩
            have v5 : Up w5 w7 := ((Up.refl w5).alloc _).trans (u6.trans u7)
            have v4 : Up w4 w5 := ((Up.refl w4).alloc _).trans u5
            go_wp2_with fail
            go_ret
            exact ⟨rfl, ((v0.trans (u1.trans v1)).trans (u3.trans u4)).trans ((v4.trans v5).alloc _)⟩
          case inr.inl =>
            rcases hf with q1 | ⟨q1, q2⟩
            all_goals
              go_wp2_with fail
              refine (HDb.out _).mono ?_
              rintro e w3 ⟨rfl, u3⟩
              go_wp2_with fail
              refine (H1.out _).mono ?_
              rintro e w4 ⟨b4, c4, rfl, u4⟩
              go_wp2_with fail
              refine (H2.out _).mono ?_
              rintro e w5 ⟨b5, c5, rfl, u5⟩
              go_wp2_with fail
              refine (HDb.out _).mono ?_
              rintro e w6 ⟨rfl, u6⟩
              go_wp2_with fail
              refine (H3.out _).mono ?_
              rintro e w7 ⟨b7, c7, rfl, u7⟩
              have v5 : Up w5 w7 := ((Up.refl w5).alloc _).trans (u6.trans u7)
              have v4 : Up w4 w5 := ((Up.refl w4).alloc _).trans u5
              go_wp2_with fail
              go_ret
              exact ⟨rfl, ((v0.trans (u1.trans v1)).trans (u3.trans u4)).trans ((v4.trans v5).alloc _)⟩
          case inr.inr.inl =>
            rcases hf with q1 | ⟨q1, q2⟩
            all_goals
              go_wp2_with fail
              refine (HDb.out _).mono ?_
              rintro e w3 ⟨rfl, u3⟩
              go_wp2_with fail
              refine (H1.out _).mono ?_
              rintro e w4 ⟨g4, c4, rfl, t0, t1, u4⟩
              go_wp2_with fail
              refine (H2.out _).mono ?_
              rintro e w5 ⟨b5, c5, rfl, u5⟩
              go_wp2_with fail
              refine (HDb.out _).mono ?_
              rintro e w6 ⟨rfl, u6⟩
              go_wp2_with fail
              refine (H3.out _).mono ?_
              rintro e w7 ⟨b7, c7, rfl, u7⟩
              have v5 : Up w5 w7 := ((Up.refl w5).alloc _).trans (u6.trans u7)
              have v4 : Up w4 w5 := ((Up.refl w4).alloc _).trans u5
              have d0 : ∀ o, (w7.alloc o).cell? ⟨g4, 0, none⟩ = some (.int .u8 2) := fun o => ((v4.trans v5).alloc o).cell t0
              have d1 : ∀ o, (w7.alloc o).cell? ⟨g4, 1, none⟩ = some (.string S) := fun o => ((v4.trans v5).alloc o).cell t1
              go_wp2_with fail
              go_ret
              exact ⟨rfl, ((v0.trans (u1.trans v1)).trans (u3.trans u4)).trans ((v4.trans v5).alloc _)⟩
          case inr.inr.inr.inl =>
            rcases hf with q1 | ⟨q1, q2⟩
            all_goals
              go_wp2_with fail
              refine (HDb.out _).mono ?_
              rintro e w3 ⟨rfl, u3⟩
              go_wp2_with fail
              refine (H1.out _).mono ?_
              rintro e w4 ⟨g4, c4, rfl, t0, t1, u4⟩
              go_wp2_with fail
              refine (H2.out _).mono ?_
              rintro e w5 ⟨b5, c5, rfl, u5⟩
              go_wp2_with fail
              refine (HDb.out _).mono ?_
              rintro e w6 ⟨rfl, u6⟩
              go_wp2_with fail
              refine (H3.out _).mono ?_
              rintro e w7 ⟨b7, c7, rfl, u7⟩
              have v5 : Up w5 w7 := ((Up.refl w5).alloc _).trans (u6.trans u7)
              have v4 : Up w4 w5 := ((Up.refl w4).alloc _).trans u5
              have d0 : ∀ o, (w7.alloc o).cell? ⟨g4, 0, none⟩ = some (.int .u8 2) := fun o => ((v4.trans v5).alloc o).cell t0
              have d1 : ∀ o, (w7.alloc o).cell? ⟨g4, 1, none⟩ = some (.string S) := fun o => ((v4.trans v5).alloc o).cell t1
              go_wp2_with fail
              go_ret
              exact ⟨rfl, ((v0.trans (u1.trans v1)).trans (u3.trans u4)).trans ((v4.trans v5).alloc _)⟩
          case inr.inr.inr.inr =>
            rcases hf with q1 | ⟨q1, q2⟩
            all_goals
              go_wp2_with fail
              refine (HDb.out _).mono ?_
              rintro e w3 ⟨rfl, u3⟩
              go_wp2_with fail
              refine (H1.out _).mono ?_
              rintro e w4 ⟨g4, c4, rfl, t0, t1, u4⟩
              go_wp2_with fail
              refine (H2.out _).mono ?_
              rintro e w5 ⟨g5, c5, rfl, s0, s1, u5⟩
              go_wp2_with fail
              refine (HDb.out _).mono ?_
              rintro e w6 ⟨rfl, u6⟩
              go_wp2_with fail
              refine (H3.out _).mono ?_
              rintro e w7 ⟨b7, c7, rfl, u7⟩
              have v5 : Up w5 w7 := ((Up.refl w5).alloc _).trans (u6.trans u7)
              have v4 : Up w4 w5 := ((Up.refl w4).alloc _).trans u5
              have d0 : ∀ o, (w7.alloc o).cell? ⟨g4, 0, none⟩ = some (.int .u8 2) := fun o => ((v4.trans v5).alloc o).cell t0
              have d1 : ∀ o, (w7.alloc o).cell? ⟨g4, 1, none⟩ = some (.string S) := fun o => ((v4.trans v5).alloc o).cell t1
              have d2 : ∀ o, (w7.alloc o).cell? ⟨g5, 0, none⟩ = some (.int .u8 2) := fun o => (v5.alloc o).cell s0
              have d3 : ∀ o, (w7.alloc o).cell? ⟨g5, 1, none⟩ = some (.string (S ++ ⟨#[47]⟩ ++ B)) := fun o => (v5.alloc o).cell s1
              go_wp2_with fail
              go_ret
              exact ⟨rfl, ((v0.trans (u1.trans v1)).trans (u3.trans u4)).trans ((v4.trans v5).alloc _)⟩

end Go.Proofs.Ytgkknjlegfdcnaa.Lx
