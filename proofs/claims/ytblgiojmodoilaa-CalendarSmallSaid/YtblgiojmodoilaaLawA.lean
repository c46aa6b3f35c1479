/- The laws' walks: days, tells, moves. -/
import Derived.Test.YtblgiojmodoilaaAwake
namespace Go.Proofs.Ytblgiojmodoilaa.Cal
open Go.RowKit Go.Shelf

set_option maxRecDepth 100000 in
set_option maxHeartbeats 4000000 in
theorem days3 (y m d : Int) (w : World) : Calls Try.prog 3 #[.int .i64 y, .int .i64 m, .int .i64 d] w fun e w' => e = .returned (.bool true) ∧ Up w w' := by
  go_enter Try.func3, Try.ntmps3
  go_wp2_with fail
  refine (day15 _ _ _ _).mono ?_
  rintro e w1 ⟨rfl, u1⟩
  go_wp2_with fail
  refine (day16 _ _ _ _).mono ?_
  rintro e w2 ⟨rfl, rfl⟩
  go_wp2_with fail
  refine (leap17 _ _).mono ?_
  rintro e w2 ⟨rfl, rfl⟩
  go_wp2_with fail
  refine (leap18 _ _).mono ?_
  rintro e w2 ⟨rfl, rfl⟩
  go_wp2_with fail
  refine (len19 _ _ _).mono ?_
  rintro e w3 ⟨rfl, u3⟩
  go_wp2_with fail
  refine (len20 _ _ _).mono ?_
  rintro e w4 ⟨rfl, rfl⟩
  go_wp2_with fail
  refine (awake21 _).mono ?_
  rintro e w5 ⟨rfl, u5⟩
  go_wp2_with fail
  go_ret
  exact ⟨rfl, u1.trans <| u3.trans u5⟩

set_option maxRecDepth 100000 in
set_option maxHeartbeats 4000000 in
theorem tells22 (d : Int) (w : World) : Calls Try.prog 22 #[.int .i64 d] w fun e w' => e = .returned (.bool true) ∧ Up w w' := by
  go_enter Try.func22, Try.ntmps22
  go_wp2_with fail
  refine (ymd24 _ _).mono ?_
  rintro e w1 ⟨rfl, u1⟩
  go_wp2_with fail
  refine (ymd38 _ _).mono ?_
  rintro e w2 ⟨rfl, rfl⟩
  go_wp2_with fail
  refine (month26 _ _).mono ?_
  rintro e w2 ⟨rfl, u2⟩
  go_wp2_with fail
  refine (month39 _ _).mono ?_
  rintro e w3 ⟨rfl, rfl⟩
  go_wp2_with fail
  refine (first27 _ _).mono ?_
  rintro e w3 ⟨rfl, u3⟩
  go_wp2_with fail
  refine (first35 _ _).mono ?_
  rintro e w4 ⟨rfl, rfl⟩
  go_wp2_with fail
  refine (weekday25 _ _).mono ?_
  rintro e w4 ⟨rfl, rfl⟩
  go_wp2_with fail
  refine (weekday40 _ _).mono ?_
  rintro e w4 ⟨rfl, rfl⟩
  go_wp2_with fail
  refine (text32_bs _ _).mono ?_
  rintro e w4 ⟨rfl, u4⟩
  go_wp2_with fail
  refine (text41_bs _ _).mono ?_
  rintro e w5 ⟨rfl, u5⟩
  go_wp2_with fail
  go_ret
  exact ⟨rfl, u1.trans <| u2.trans <| u3.trans <| u4.trans u5⟩

set_option maxRecDepth 100000 in
set_option maxHeartbeats 4000000 in
theorem tells4 (d : Int) (w : World) : Calls Try.prog 4 #[.int .i64 d] w fun e w' => e = .returned (.bool true) ∧ Up w w' := by
  go_enter Try.func4, Try.ntmps4
  go_wp2_with fail
  refine (tells22 _ _).mono ?_
  rintro e w1 ⟨rfl, u1⟩
  go_wp2_with fail
  refine (awake21 _).mono ?_
  rintro e w2 ⟨rfl, u2⟩
  go_wp2_with fail
  go_ret
  exact ⟨rfl, u1.trans u2⟩

set_option maxRecDepth 100000 in
set_option maxHeartbeats 4000000 in
theorem moves23 (a b n : Int) (w : World) : Calls Try.prog 23 #[.int .i64 a, .int .i64 b, .int .i64 n] w fun e w' => e = .returned (.bool true) ∧ Up w w' := by
  go_enter Try.func23, Try.ntmps23
  go_wp2_with fail
  refine (add29 _ _ _).mono ?_
  rintro e w1 ⟨rfl, u1⟩
  go_wp2_with fail
  refine (add42 _ _ _).mono ?_
  rintro e w2 ⟨rfl, rfl⟩
  go_wp2_with fail
  refine (between30 _ _ _).mono ?_
  rintro e w2 ⟨rfl, u2⟩
  go_wp2_with fail
  refine (between43 _ _ _).mono ?_
  rintro e w3 ⟨rfl, rfl⟩
  go_wp2_with fail
  refine (age31 _ _ _).mono ?_
  rintro e w3 ⟨rfl, u3⟩
  go_wp2_with fail
  refine (age44 _ _ _).mono ?_
  rintro e w4 ⟨rfl, rfl⟩
  go_wp2_with fail
  go_ret
  exact ⟨rfl, u1.trans <| u2.trans u3⟩

set_option maxRecDepth 100000 in
set_option maxHeartbeats 4000000 in
theorem moves5 (a b n : Int) (w : World) : Calls Try.prog 5 #[.int .i64 a, .int .i64 b, .int .i64 n] w fun e w' => e = .returned (.bool true) ∧ Up w w' := by
  go_enter Try.func5, Try.ntmps5
  go_wp2_with fail
  refine (moves23 _ _ _ _).mono ?_
  rintro e w1 ⟨rfl, u1⟩
  go_wp2_with fail
  refine (moves23 _ _ _ _).mono ?_
  rintro e w2 ⟨rfl, u2⟩
  go_wp2_with fail
  refine (awake21 _).mono ?_
  rintro e w3 ⟨rfl, u3⟩
  go_wp2_with fail
  go_ret
  exact ⟨rfl, u1.trans <| u2.trans u3⟩

theorem days_any (y m d : Int) (w : World) (_ : (Lit.int .i64 y).wf = true) (_ : (Lit.int .i64 m).wf = true) (_ : (Lit.int .i64 d).wf = true) :
    Calls Try.prog 3 #[.int .i64 y, .int .i64 m, .int .i64 d] w fun e w' => e = .returned (.bool true) ∧ Below w.heap.size w w' := days3 y m d w
theorem tells_any (d : Int) (w : World) (_ : (Lit.int .i64 d).wf = true) :
    Calls Try.prog 4 #[.int .i64 d] w fun e w' => e = .returned (.bool true) ∧ Below w.heap.size w w' := tells4 d w
theorem moves_any (a b n : Int) (w : World) (_ : (Lit.int .i64 a).wf = true) (_ : (Lit.int .i64 b).wf = true) (_ : (Lit.int .i64 n).wf = true) :
    Calls Try.prog 5 #[.int .i64 a, .int .i64 b, .int .i64 n] w fun e w' => e = .returned (.bool true) ∧ Below w.heap.size w w' := moves5 a b n w

end Go.Proofs.Ytblgiojmodoilaa.Cal
