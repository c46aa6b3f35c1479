/- The walk of LexCovers: where Lex makes no token; the whole. -/
import Derived.Test.YtgkknjlegfdcnaaWkG
namespace Go.Proofs.Ytgkknjlegfdcnaa.Lx
open Go.RowKit Go.Shelf Go.Proofs.Ytgkknjlegfdcnaa.Cal

set_option maxRecDepth 100000 in
theorem covers_nil (B : ByteArray) (w : World) (hs2 : (B.size : Int) ≤ 1000) (HA : Hid AwakeG) (HE : Hid (EmpP B))
    (H1 : Hid (∀ w : World, Calls Try.prog 11 #[.string B] w fun r w' => ∃ b cp, r = .returned (.tuple #[.slice b 0 cp, .agg #[.int .i64 0, .int .i64 0], .int .i64 0]) ∧ Up w w')) :
    Calls Try.prog 4 #[.string B] w fun e w' => e = .returned (.bool true) ∧ Up w w' := by
  go_enter Try.func4, Try.ntmps4
  go_wp2_with fail
  refine (HA.out _).mono ?_
  rintro e w1 ⟨rfl, u1⟩
  go_wp2_with fail
  refine (H1.out _).mono ?_
  rintro e w2 ⟨b, cp, rfl, uL⟩
  go_wp2_with fail
  go_loop [6, 7] (fun en i => en = .int .i64 0 ∧ i = .int .i64 0) (fun _ _ => 0)
  case atStart => exact ⟨rfl, rfl⟩
  case round =>
    obtain ⟨rfl, rfl⟩ := hrel
    go_wp2_with fail
    refine (HE.out _).mono ?_
    rintro r w3 ⟨rfl, rfl⟩
    go_wp2_with fail
    go_ret
    exact ⟨rfl, (u1.trans uL).alloc _⟩

set_option maxRecDepth 100000 in
theorem covers_err (B : ByteArray) (a b er : Int) (w : World) (hs2 : (B.size : Int) ≤ 1000) (hne : (er != 0) = true) (HA : Hid AwakeG)
    (H1 : Hid (∀ w : World, Calls Try.prog 11 #[.string B] w fun r w' => ∃ p cp, r = .returned (.tuple #[.slice p 0 cp, .agg #[.int .i64 a, .int .i64 b], .int .i64 er]) ∧ Up w w')) :
    Calls Try.prog 4 #[.string B] w fun e w' => e = .returned (.bool true) ∧ Up w w' := by
  go_enter Try.func4, Try.ntmps4
  go_wp2_with fail
  refine (HA.out _).mono ?_
  rintro e w1 ⟨rfl, u1⟩
  go_wp2_with fail
  refine (H1.out _).mono ?_
  rintro e w2 ⟨p, cp, rfl, uL⟩
  go_wp2_with fail
  go_ret
  exact ⟨rfl, (u1.trans uL).alloc _⟩

theorem covers_short (l : List UInt8) (w : World) (hl : l.length ≤ 1000) :
    Calls Try.prog 4 #[.string (bs l)] w fun e w' => e = .returned (.bool true) ∧ Up w w' := by
  have hsz := bs_size l
  have HA : Hid AwakeG := Lib.hid awake_any
  by_cases he : (lexE l).err = 0
  · have hE := lexE_none (l := l) (by omega) (lexS_none (by omega) he)
    have hcov := covers l (by omega) he
    have hlen := lexT_len (l := l) (by omega)
    have hL : ∀ w : World, Calls Try.prog 11 #[.string (bs l)] w _ := fun w => lex_is l (lexT l) _ rfl hE (by omega) w
    by_cases h0 : lexT l = []
    · refine covers_nil (bs l) w (by omega) HA (Lib.hid ?_) (Lib.hid fun w => ?_)
      · rw [h0] at hcov
        exact empP_of (by omega) hcov.2
      · refine (hL w).mono ?_
        rintro r w' ⟨b, c, rfl, -, u⟩
        rw [h0]
        exact ⟨b, c, rfl, u⟩
    · refine covers_some l w hl (lexT l) _ rfl hlen hcov HA (Lib.hid fun w => ?_)
      refine (hL w).mono ?_
      rintro r w' ⟨b, c, rfl, h, u⟩
      obtain ⟨g, rfl, hr⟩ := h.resolve_left h0
      exact ⟨g, c, rfl, hr, u⟩
  · refine covers_err (bs l) ((lexE l).line : Int) ((lexE l).col : Int) ((lexE l).err : Int) w (by omega) (by simpa using he) HA (Lib.hid fun w => ?_)
    refine (lex_any l w (by omega)).mono ?_
    rintro r w' ⟨b, c, rfl, -, u⟩
    rw [lexT_bad he]
    exact ⟨b, c, rfl, u⟩

set_option maxRecDepth 100000 in
theorem covers_walk (s : ByteArray) (w : World) (_h : s.size ≤ 9223372036854775807) :
    Calls Try.prog 4 #[.string s] w fun e w' => e = .returned (.bool true) ∧ Below w.heap.size w w' := by
  by_cases hs : s.size ≤ 1000
  · rw [bs_of s]
    exact covers_short _ w (by rw [Array.length_toList]; exact hs)
  · have HA : Hid AwakeG := Lib.hid awake_any
    have hs3 : 1000 < (s.size : Int) := by omega
    go_enter Try.func4, Try.ntmps4
    go_wp2_with fail
    refine (HA.out _).mono ?_
    rintro e w2 ⟨rfl, u2⟩
    go_wp2_with fail
    go_ret
    exact ⟨rfl, u2⟩

end Go.Proofs.Ytgkknjlegfdcnaa.Lx
