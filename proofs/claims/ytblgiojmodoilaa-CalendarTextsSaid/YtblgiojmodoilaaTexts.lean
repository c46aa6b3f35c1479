/- CalendarTexts: the text of a date leads back to it; texts are ordered as dates; what is read is the text of what it is read as. -/
import Derived.Test.YtblgiojmodoilaaTextM
namespace Go.Proofs.Ytblgiojmodoilaa.Cal
open Go.RowKit Go.Shelf

theorem d33_bs {l : List UInt8} {v x : Int} (hl : l.length ≤ 100) (h : parV l = v ∧ parE l = x) (w : World) : Calls Try.prog 33 #[.string (bs l)] w fun e w' => e = .returned (.tuple #[.int .i64 v, .int .i64 x]) ∧ Up w w' := by
  have hp := parse33 (bs l) w (by rw [bs_size]; exact hl)
  rw [show (bs l).data.toList = l by simp [bs], h.1, h.2] at hp
  exact hp

theorem bs_toList_eq (l : List UInt8) : (bs l).toList = l := bs_toList l

set_option maxRecDepth 100000 in
set_option maxHeartbeats 4000000 in
theorem texts14_core (x y a b : Int) (s : ByteArray) (w : World) (X Y : ByteArray) (V E : Int) (T : ByteArray) (q : Bool)
    (hX : X.size = 10) (hlt : decide (a < b) = q) (hord : Op.bytesLess X.toList Y.toList = q)
    (P1 : Hid (∀ w, Calls Try.prog 28 #[.int .i64 x, .int .i64 65536] w fun e w' => e = .returned (.int .i64 a) ∧ w = w'))
    (P2 : Hid (∀ w, Calls Try.prog 28 #[.int .i64 y, .int .i64 65536] w fun e w' => e = .returned (.int .i64 b) ∧ w = w'))
    (H1 : Hid (∀ w, Calls Try.prog 32 #[.int .i64 a] w fun e w' => e = .returned (.string X) ∧ Up w w'))
    (H2 : Hid (∀ w, Calls Try.prog 32 #[.int .i64 b] w fun e w' => e = .returned (.string Y) ∧ Up w w'))
    (H3 : Hid (∀ w, Calls Try.prog 33 #[.string X] w fun e w' => e = .returned (.tuple #[.int .i64 a, .int .i64 0]) ∧ Up w w'))
    (h : (100 < (s.size : Int)) ∨ ((s.size : Int) ≤ 100 ∧
      Hid (∀ w, Calls Try.prog 33 #[.string s] w fun e w' => e = .returned (.tuple #[.int .i64 V, .int .i64 E]) ∧ Up w w') ∧
      Hid (∀ w, Calls Try.prog 32 #[.int .i64 V] w fun e w' => e = .returned (.string T) ∧ Up w w') ∧ ((E = 0 ∧ (T.toList == s.toList) = true) ∨ (E = 2 ∧ V = 0)))) :
    Calls Try.prog 14 #[.int .i64 x, .int .i64 y, .string s] w fun e w' => e = .returned (.bool true) ∧ Up w w' := by
  cases q
  all_goals
    rcases h with h | ⟨h, H4, H5, ⟨rfl, he⟩ | ⟨rfl, rfl⟩⟩
    · go_enter Try.func14, Try.ntmps14
      go_wp2_with fail
      refine (awake21 _).mono ?_
      rintro e w1 ⟨rfl, u1⟩
      go_wp2_with fail
      refine (P1.out _).mono ?_
      rintro e w2 ⟨rfl, rfl⟩
      go_wp2_with fail
      refine (P2.out _).mono ?_
      rintro e w2 ⟨rfl, rfl⟩
      go_wp2_with fail
      refine (H1.out _).mono ?_
      rintro e w2 ⟨rfl, u2⟩
      go_wp2_with fail
      refine (H2.out _).mono ?_
      rintro e w3 ⟨rfl, u3⟩
      go_wp2_with fail
      refine (H3.out _).mono ?_
      rintro e w4 ⟨rfl, u4⟩
      go_wp2_with fail
      go_ret
      exact ⟨rfl, u1.trans <| u2.trans <| u3.trans u4⟩
    · go_enter Try.func14, Try.ntmps14
      go_wp2_with fail
      refine (awake21 _).mono ?_
      rintro e w1 ⟨rfl, u1⟩
      go_wp2_with fail
      refine (P1.out _).mono ?_
      rintro e w2 ⟨rfl, rfl⟩
      go_wp2_with fail
      refine (P2.out _).mono ?_
      rintro e w2 ⟨rfl, rfl⟩
      go_wp2_with fail
      refine (H1.out _).mono ?_
      rintro e w2 ⟨rfl, u2⟩
      go_wp2_with fail
      refine (H2.out _).mono ?_
      rintro e w3 ⟨rfl, u3⟩
      go_wp2_with fail
      refine (H3.out _).mono ?_
      rintro e w4 ⟨rfl, u4⟩
      go_wp2_with fail
      refine (H4.out _).mono ?_
      rintro e w5 ⟨rfl, u5⟩
      go_wp2_with fail
      refine (H5.out _).mono ?_
      rintro e w6 ⟨rfl, u6⟩
      go_wp2_with fail
      go_ret
      exact ⟨rfl, u1.trans <| u2.trans <| u3.trans <| u4.trans <| u5.trans u6⟩
    · go_enter Try.func14, Try.ntmps14
      go_wp2_with fail
      refine (awake21 _).mono ?_
      rintro e w1 ⟨rfl, u1⟩
      go_wp2_with fail
      refine (P1.out _).mono ?_
      rintro e w2 ⟨rfl, rfl⟩
      go_wp2_with fail
      refine (P2.out _).mono ?_
      rintro e w2 ⟨rfl, rfl⟩
      go_wp2_with fail
      refine (H1.out _).mono ?_
      rintro e w2 ⟨rfl, u2⟩
      go_wp2_with fail
      refine (H2.out _).mono ?_
      rintro e w3 ⟨rfl, u3⟩
      go_wp2_with fail
      refine (H3.out _).mono ?_
      rintro e w4 ⟨rfl, u4⟩
      go_wp2_with fail
      refine (H4.out _).mono ?_
      rintro e w5 ⟨rfl, u5⟩
      go_wp2_with fail
      go_ret
      exact ⟨rfl, u1.trans <| u2.trans <| u3.trans <| u4.trans u5⟩

theorem texts14 (x y : Int) (s : ByteArray) (w : World) : Calls Try.prog 14 #[.int .i64 x, .int .i64 y, .string s] w fun e w' => e = .returned (.bool true) ∧ Up w w' := by
  have hx0 := Int.emod_nonneg x (show (65536 : Int) ≠ 0 by decide)
  have hx1 := Int.emod_lt_of_pos x (show (0 : Int) < 65536 by decide)
  have hy0 := Int.emod_nonneg y (show (65536 : Int) ≠ 0 by decide)
  have hy1 := Int.emod_lt_of_pos y (show (0 : Int) < 65536 by decide)
  obtain ⟨p1, p2, p3⟩ := par_text hx0 hx1
  have hb := bs_of s
  refine texts14_core x y (x % 65536) (y % 65536) s w (bs (textL (x % 65536))) (bs (textL (y % 65536))) (parV s.data.toList) (parE s.data.toList) (bs (textL (parV s.data.toList))) _ (by rw [bs_size, p3]) rfl (by rw [bs_toList, bs_toList, text_order hx0 hx1 hy0 hy1])
    (Lib.hid (fun w => pick28 x 65536 w (by omega) (by omega))) (Lib.hid (fun w => pick28 y 65536 w (by omega) (by omega))) (Lib.hid (fun w => text32_bs _ w)) (Lib.hid (fun w => text32_bs _ w)) (Lib.hid (fun w => d33_bs (by omega) ⟨p1, p2⟩ w)) ?_
  by_cases hs : s.size ≤ 100
  · right
    refine ⟨by omega, Lib.hid (fun w => parse33 s w hs), Lib.hid (fun w => text32_bs _ w), ?_⟩
    rcases par_cases s.data.toList with h | h
    · left
      refine ⟨h, ?_⟩
      rw [(par_back h).1, bs_toList, Lib.toList_data]; simp
    · exact Or.inr h
  · left; omega

theorem texts_any (x y : Int) (s : ByteArray) (w : World) (_ : (Lit.int .i64 x).wf = true) (_ : (Lit.int .i64 y).wf = true) (_ : s.size ≤ 9223372036854775807) :
    Calls Try.prog 14 #[.int .i64 x, .int .i64 y, .string s] w fun e w' => e = .returned (.bool true) ∧ Below w.heap.size w w' := texts14 x y s w

end Go.Proofs.Ytblgiojmodoilaa.Cal
