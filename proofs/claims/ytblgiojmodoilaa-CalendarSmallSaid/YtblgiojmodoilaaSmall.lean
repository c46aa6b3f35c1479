/- CalendarSmall: ends of months, limits, texts with each byte changed. -/
import Derived.Test.YtblgiojmodoilaaReads
import Derived.Test.YtblgiojmodoilaaLawA
import Derived.Deep.RegionHeld3
import Derived.Deep.DeepCutAuto
namespace Go.Proofs.Ytblgiojmodoilaa.Cal
open Go.RowKit Go.Shelf

set_option maxRecDepth 100000 in
set_option maxHeartbeats 1000000 in
/-- The law of one string, whatever its length. -/
theorem reads12a (s : ByteArray) (w : World) : Calls Try.prog 12 #[.string s] w fun e w' => e = .returned (.bool true) ∧ Up w w' := by
  by_cases hs : s.size ≤ 100
  · have hz : (s.size : Int) ≤ 100 := by omega
    have H1 := Lib.hid (fun w => parse33 s w hs)
    have H2 := Lib.hid (fun w => parse34 s w hs)
    go_enter Try.func12, Try.ntmps12
    go_wp2_with fail
    refine (H1.out _).mono ?_
    rintro e w1 ⟨rfl, u1⟩
    go_wp2_with fail
    refine (H2.out _).mono ?_
    rintro e w2 ⟨rfl, u2⟩
    go_wp2_with fail
    refine (awake21 _).mono ?_
    rintro e w3 ⟨rfl, u3⟩
    go_wp2_with fail
    go_ret
    exact ⟨rfl, u1.trans <| u2.trans u3⟩
  · have hz : 100 < (s.size : Int) := by omega
    go_enter Try.func12, Try.ntmps12
    go_wp2_with fail
    refine (awake21 _).mono ?_
    rintro e w3 ⟨rfl, u3⟩
    go_wp2_with fail
    go_ret
    exact ⟨rfl, u3⟩

def endsL : List Int := [-9223372036854775808, -9223372036854775807, -2154, -2153, -1, 0, 1, 2153, 2154, 65534, 65535, 65536, 9223372036854775807]
def endsObj : Obj := .cells #[.int .i64 (-9223372036854775808), .int .i64 (-9223372036854775807), .int .i64 (-2154), .int .i64 (-2153), .int .i64 (-1), .int .i64 0, .int .i64 1, .int .i64 2153, .int .i64 2154, .int .i64 65534, .int .i64 65535, .int .i64 65536, .int .i64 9223372036854775807] 3
theorem ends_cells (w : World) (i : Nat) (hi : i < 13) : (w.alloc endsObj).cell? ⟨w.heap.size, i, none⟩ = some (.int .i64 (endsL.getD i 0)) := by
  unfold endsObj
  rw [World.cell?_alloc_at _ _ _ _ (by first | (simp; done) | (simp; omega))]
  match i, hi with
  | 0, _ => rfl
  | 1, _ => rfl
  | 2, _ => rfl
  | 3, _ => rfl
  | 4, _ => rfl
  | 5, _ => rfl
  | 6, _ => rfl
  | 7, _ => rfl
  | 8, _ => rfl
  | 9, _ => rfl
  | 10, _ => rfl
  | 11, _ => rfl
  | 12, _ => rfl

def dateL : List UInt8 := [50, 48, 48, 48, 45, 48, 50, 45, 50, 57]

def Loop2Rel (w : World) (i : Value) (wr : World) : Prop := ∃ j : Nat, j ≤ 13 ∧ i = .int .i64 (j : Int) ∧ Up w wr

theorem run_byte1d (w : World) (n : Int) : (convert 39 9 (.slice (some ⟨w.heap.size, 0, none⟩) 1 1)).run Try.prog (w.alloc (.cells #[.int .u8 n] 5)).drew = .ok (.string ⟨#[UInt8.ofNat n.toNat]⟩) (w.alloc (.cells #[.int .u8 n] 5)).drew := by
  have h := run_convert_bytes_arg (P := Try.prog) (w.alloc (.cells #[.int .u8 n] 5)).drew 39 5 Try.underlying39 Try.underlying5 w.heap.size 0 1 1 [n] rfl (fun i hi => by
    obtain rfl : i = 0 := by omega
    exact cell_box w (.int .u8 n) 5) 9 Try.underlying9
  exact h

def Loop4Rel (w : World) (i : Value) (wr : World) : Prop := ∃ j : Nat, j ≤ 10 ∧ i = .int .i64 (j : Int) ∧ Up w wr
def Loop5Rel (w : World) (i : Value) (wr : World) : Prop := ∃ j : Nat, j ≤ 256 ∧ i = .int .i64 (j : Int) ∧ Up w wr

def Loop1Rel (w : World) (m : Value) (wr : World) : Prop := ∃ j : Nat, j ≤ 2159 ∧ m = .int .i64 ((j : Int) - 2) ∧ Up w wr

set_option maxRecDepth 100000 in
set_option maxHeartbeats 4000000 in
theorem small13 (w : World) : Calls Try.prog 13 #[] w fun e w' => e = .returned (.bool true) ∧ Up w w' := by
  go_enter Try.func13, Try.ntmps13
  go_wp2_with fail
  go_loopw [1] (Loop1Rel w) (fun m _ => (2157 - intOf m).toNat)
  case atStart => exact ⟨0, by omega, rfl, Up.refl _⟩
  case round =>
    obtain ⟨j, hj, rfl, hup⟩ := hrel
    by_cases hlt : j < 2159
    · have HP := Lib.hid (fun w => pick28 ((j : Int) - 2) 2154 w (by decide) (by decide))
      by_cases h7 : ((j : Int) - 2).tmod 7 = 0
      · go_wp2_with fail
        refine (HP.out _).mono ?_
        rintro e w1 ⟨rfl, rfl⟩
        go_wp2_with fail
        refine (first35 _ _).mono ?_
        rintro e w1 ⟨rfl, rfl⟩
        go_wp2_with fail
        refine (tells22 _ _).mono ?_
        rintro e w1 ⟨rfl, u1⟩
        go_wp2_with fail
        refine (tells22 _ _).mono ?_
        rintro e w2 ⟨rfl, u2⟩
        go_wp2_with fail
        refine (tells22 _ _).mono ?_
        rintro e w3 ⟨rfl, u3⟩
        go_wp2_with fail
        refine (moves23 _ _ _ _).mono ?_
        rintro e w4 ⟨rfl, u4⟩
        go_wp2_with fail
        refine (moves23 _ _ _ _).mono ?_
        rintro e w5 ⟨rfl, u5⟩
        go_wp2_with fail
        go_roundw
        case rel => exact ⟨j + 1, by omega, int_eq (by omega), hup.trans <| u1.trans <| u2.trans <| u3.trans <| u4.trans u5⟩
        case measure => simp [intOf]; omega
      · go_wp2_with fail
        refine (HP.out _).mono ?_
        rintro e w1 ⟨rfl, rfl⟩
        go_wp2_with fail
        refine (first35 _ _).mono ?_
        rintro e w1 ⟨rfl, rfl⟩
        go_wp2_with fail
        refine (tells22 _ _).mono ?_
        rintro e w1 ⟨rfl, u1⟩
        go_wp2_with fail
        refine (tells22 _ _).mono ?_
        rintro e w2 ⟨rfl, u2⟩
        go_wp2_with fail
        refine (tells22 _ _).mono ?_
        rintro e w3 ⟨rfl, u3⟩
        go_wp2_with fail
        go_roundw
        case rel => exact ⟨j + 1, by omega, int_eq (by omega), hup.trans <| u1.trans <| u2.trans u3⟩
        case measure => simp [intOf]; omega
    · obtain rfl : j = 2159 := by omega
      clear hlt hj
      rw [show ((2159 : Nat) : Int) - 2 = 2157 from rfl]
      go_wp2_with fail
      have hE := ends_cells wr
      have hupE : Up w (wr.alloc endsObj) := hup.alloc _
      have hbE : wr.heap.size < (wr.alloc endsObj).heap.size := by simp
      obtain ⟨W1, hW1⟩ : ∃ W1, W1 = wr.alloc endsObj := ⟨_, rfl⟩
      rw [← hW1] at hE hupE hbE
      rw [show wr.alloc (Obj.cells #[Value.int IntKind.i64 (-9223372036854775808), Value.int IntKind.i64 (-9223372036854775807),
      Value.int IntKind.i64 (-2154), Value.int IntKind.i64 (-2153), Value.int IntKind.i64 (-1), Value.int IntKind.i64 0,
      Value.int IntKind.i64 1, Value.int IntKind.i64 2153, Value.int IntKind.i64 2154, Value.int IntKind.i64 65534,
      Value.int IntKind.i64 65535, Value.int IntKind.i64 65536, Value.int IntKind.i64 9223372036854775807] 3) = W1 from hW1.symm]
      clear hW1
      generalize wr.heap.size = B at *
      have HE := Lib.hid hE
      clear hE hup
      go_loopw [6] (Loop2Rel W1) (fun i _ => (13 - intOf i).toNat)
      case atStart => exact ⟨0, by omega, rfl, Up.refl _⟩
      case round =>
        obtain ⟨i, hi, rfl, hup2⟩ := hrel
        by_cases hlt : i < 13
        · obtain ⟨wo, rfl⟩ : ∃ wo : World, wo = wr := ⟨_, rfl⟩
          have hdi : decide ((i : Int) < 13) = true := decide_eq_true (by omega)
          go_wp2_with fail
          go_loopw [7] (Loop2Rel wo) (fun k _ => (13 - intOf k).toNat)
          case atStart => exact ⟨0, by omega, rfl, Up.refl _⟩
          case round =>
            obtain ⟨k, hk, rfl, hup3⟩ := hrel
            by_cases hlt2 : k < 13
            · have hdk : decide ((k : Int) < 13) = true := decide_eq_true (by omega)
              have c1 := (hup2.trans hup3).cell (HE.out i hlt)
              have c2 := (hup2.trans hup3).cell (HE.out k hlt2)
              have c3 := (hup2.trans hup3).cell (HE.out ((i + k) % 13) (by omega))
              have hi13 : (i : Int) < 13 := by omega
              have hk13 : (k : Int) < 13 := by omega
              have hs13 : (((i + k) % 13 : Nat) : Int) < 13 := by omega
              have hw1 : IntKind.i64.wrap ((i : Int) + (k : Int)) = (i : Int) + (k : Int) := wrap_in _ (by omega) (by omega)
              have hw2 : ((i : Int) + (k : Int)).tmod 13 = (((i + k) % 13 : Nat) : Int) := by rw [Int.tmod_eq_emod_of_nonneg (by omega)]; omega
              generalize endsL.getD i 0 = x1 at *
              generalize endsL.getD k 0 = x2 at *
              generalize endsL.getD ((i + k) % 13) 0 = x3 at *
              generalize (i + k) % 13 = m at *
              go_wp2_with fail
              go_region_held3 (fun w' => Up wr w' ∧ w'.cell? ⟨B, i, none⟩ = some (.int .i64 x1) ∧ w'.cell? ⟨B, k, none⟩ = some (.int .i64 x2) ∧ w'.cell? ⟨B, m, none⟩ = some (.int .i64 x3)) (first | exact ⟨(Up.refl _).drew, c1, c2, c3⟩ | exact ⟨Up.trans hS.1 uu, uu.cell hS.2.1, uu.cell hS.2.2.1, uu.cell hS.2.2.2⟩) (first | (go_at_call 23; have hS := ‹Up wr _ ∧ _›; refine (moves23 _ _ _ _).mono ?_; rintro e w1 ⟨rfl, uu⟩) | (go_at_call 3; have hS := ‹Up wr _ ∧ _›; refine (days3 _ _ _ _).mono ?_; rintro e w2 ⟨rfl, uu⟩))
              have hF := ‹Up wr _ ∧ _›
              have hFu := hF.1
              clear c1 c2 c3
              go_wp2_with fail
              go_roundw
              case rel => exact ⟨k + 1, by omega, int_eq (by omega), hup3.trans hFu⟩
              case measure => simp [intOf]; omega
            · obtain rfl : k = 13 := by omega
              clear hlt2 hk
              go_wp2_with fail
              go_roundw
              case rel => exact ⟨i + 1, by omega, int_eq (by omega), hup2.trans hup3⟩
              case measure => simp [intOf]; omega
        · obtain rfl : i = 13 := by omega
          clear hlt hi
          have hupA := hupE.trans hup2
          clear hupE hup2 HE hbE
          rw [show ((13 : Nat) : Int) = 13 from rfl]
          have hsz : (bs dateL).size = 10 := bs_size _
          have hb1 := run_byte1d
          go_wp2_with fail
          have hsv : Value.string { data := #[50, 48, 48, 48, 45, 48, 50, 45, 50, 57] } = .string (bs dateL) := rfl
          rw [hsv]
          clear hsv
          generalize bs dateL = S at *
          have hS8 : (S.size : Int) ≤ 10 := by omega
          go_loopw [9] (Loop4Rel wr) (fun i _ => (10 - intOf i).toNat)
          case atStart => exact ⟨0, by omega, rfl, Up.refl _⟩
          case round =>
            obtain ⟨i, hi, rfl, hup2⟩ := hrel
            by_cases hlt : i < 10
            · obtain ⟨wo, rfl⟩ : ∃ wo : World, wo = wr := ⟨_, rfl⟩
              have hdi : decide ((i : Int) < 10) = true := decide_eq_true (by omega)
              have hi10 : (i : Int) ≤ 10 := by omega
              have hi11 : (i : Int) + 1 ≤ 10 := by omega
              go_wp2_with fail
              go_loopw [10] (Loop5Rel wo) (fun k _ => (256 - intOf k).toNat)
              case atStart => exact ⟨0, by omega, rfl, Up.refl _⟩
              case round =>
                obtain ⟨k, hk, rfl, hup3⟩ := hrel
                by_cases hlt2 : k < 256
                · have hdk : decide ((k : Int) < 256) = true := decide_eq_true (by omega)
                  have hw1 : IntKind.i64.wrap ((i : Int) + 1) = (i : Int) + 1 := wrap_in _ (by omega) (by omega)
                  have hw2 : IntKind.u8.wrap (k : Int) = (k : Int) := IntWalk.u8_in _ (by omega)
                  go_wp2_with fail
                  go_region_with (go_at_call 12; refine (reads12a _ _).mono ?_; rintro e w1 ⟨rfl, uu⟩)
                  all_goals go_wp2_with fail
                  all_goals go_roundw
                  all_goals first | exact ⟨k + 1, by omega, int_eq (by omega), hup3.trans ((((Up.refl _).alloc _).drew).trans uu)⟩ | (simp [intOf]; omega)
                · obtain rfl : k = 256 := by omega
                  clear hlt2 hk
                  rw [show ((256 : Nat) : Int) = 256 from rfl]
                  have hw1 : IntKind.i64.wrap ((i : Int) + 1) = (i : Int) + 1 := wrap_in _ (by omega) (by omega)
                  have e1 : (S.extract 0 i).size ≤ 10 := by rw [ByteArray.size_extract]; omega
                  have e2 : (S.extract i 10).size ≤ 10 := by rw [ByteArray.size_extract]; omega
                  have e3 : (⟨#[48]⟩ : ByteArray).size = 1 := rfl
                  have ha1 : ∀ w, (Op.stringOp .add (S.extract 0 i) ⟨#[48]⟩).run Try.prog w = .ok (.string (S.extract 0 i ++ ⟨#[48]⟩)) w := fun w => run_string_add_sum w _ _ (by omega)
                  have ha2 : ∀ w, (Op.stringOp .add (S.extract 0 i ++ ⟨#[48]⟩) (S.extract i 10)).run Try.prog w = .ok (.string (S.extract 0 i ++ ⟨#[48]⟩ ++ S.extract i 10)) w := fun w => run_string_add_sum w _ _ (by rw [ByteArray.size_append]; omega)
                  clear e1 e2 e3
                  go_wp2_with fail
                  go_region_held3 (fun w' => Up wr w') (first | exact (Up.refl _).drew | exact Up.trans hS uu) (first | (go_at_call 12; have hS := ‹Up wr _›; refine (reads12a _ _).mono ?_; rintro e w1 ⟨rfl, uu⟩) | fail)
                  have hF := ‹Up wr _›
                  go_wp2_with fail
                  go_roundw
                  case rel => exact ⟨i + 1, by omega, int_eq (by omega), hup2.trans (hup3.trans hF)⟩
                  case measure => simp [intOf]; omega
            · obtain rfl : i = 10 := by omega
              clear hlt hi
              go_wp2_with fail
              refine (reads12a _ _).mono ?_
              rintro e w1 ⟨rfl, u1⟩
              go_wp2_with fail
              refine (reads12a _ _).mono ?_
              rintro e w2 ⟨rfl, u2⟩
              go_wp2_with fail
              refine (reads12a _ _).mono ?_
              rintro e w3 ⟨rfl, u3⟩
              go_wp2_with fail
              refine (reads12a _ _).mono ?_
              rintro e w4 ⟨rfl, u4⟩
              go_wp2_with fail
              refine (reads12a _ _).mono ?_
              rintro e w5 ⟨rfl, u5⟩
              go_wp2_with fail
              refine (awake21 _).mono ?_
              rintro e w6 ⟨rfl, u6⟩
              go_wp2_with fail
              go_ret
              exact ⟨rfl, hupA.trans <| hup2.trans <| u1.trans <| u2.trans <| u3.trans <| u4.trans <| u5.trans u6⟩

theorem small_any (w : World) : Calls Try.prog 13 #[] w fun e w' => e = .returned (.bool true) ∧ Below w.heap.size w w' := small13 w

end Go.Proofs.Ytblgiojmodoilaa.Cal
