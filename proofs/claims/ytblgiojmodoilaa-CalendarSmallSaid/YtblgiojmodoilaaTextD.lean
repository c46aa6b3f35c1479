/- Contracts: Parse, the program's and the reference's. -/
import Derived.Test.YtblgiojmodoilaaTextL
import Derived.BigQuiet
import Derived.Lib.Bytes
import Derived.Deep.QuietTactic
namespace Go.Proofs.Ytblgiojmodoilaa.Cal
open Go.RowKit Go.Shelf

def parB (l : List UInt8) : Bool := l.length == 10 && l.getD 4 0 == 45 && l.getD 7 0 == 45
def parV (l : List UInt8) : Int := if parB l = true then dayV (valL (l.take 4)) (valL ((l.drop 5).take 2)) (valL (l.drop 8)) else 0
def parE (l : List UInt8) : Int := if parB l = true then dayE (valL (l.take 4)) (valL ((l.drop 5).take 2)) (valL (l.drop 8)) else 2

theorem list_ten (l : List UInt8) (h : l.length = 10) : ∃ a b c d e f g i j k, l = [a, b, c, d, e, f, g, i, j, k] := by
  match l, h with
  | [a, b, c, d, e, f, g, i, j, k], _ => exact ⟨a, b, c, d, e, f, g, i, j, k, rfl⟩

theorem bs_of (s : ByteArray) : s = bs s.data.toList := by
  unfold bs; apply ByteArray.ext; simp

set_option maxHeartbeats 4000000 in
theorem parse34_len (s : ByteArray) (w : World) (hs : s.size ≤ 100) (hn : s.size < 10 ∨ 10 < s.size) : Calls Try.prog 34 #[.string s] w fun e w' => e = .returned (.tuple #[.int .i64 0, .int .i64 2]) ∧ w = w' := by
  have hz : (s.size : Int) ≤ 100 := by omega
  rcases hn with hn | hn
  all_goals
    go_enter Try.func34, Try.ntmps34
    go_wp2_with fail
    go_ret2
    exact ⟨rfl, rfl⟩

theorem quiet_eq {P : Program} {f : FuncId} {args : Array Value} {w : World} {n : Nat} {v : Value}
    (h : Calls P f args (w.drewN n) fun e w' => e = .returned v ∧ w.drewN n = w') : Calls P f args (w.drewN n) fun e w'' => e = .returned v ∧ ∃ m, w'' = w.drewN m :=
  h.mono fun _ _ ⟨he, hm⟩ => ⟨he, n, hm.symm⟩

theorem value51_is (x : ByteArray) (l : List UInt8) (v : Int) (w : World) (hx : x = bs l) (hl : l.length ≤ 4) (hv : valL l = v) :
    Calls Try.prog 51 #[.string x] w fun e w' => e = .returned (.int .i64 v) ∧ w = w' := by
  subst hx; subst hv; exact value51_bs l w hl

theorem ten_cuts (a b c d e f g i j k : UInt8) : (bs [a, b, c, d, e, f, g, i, j, k]).extract 0 4 = bs [a, b, c, d] ∧ (bs [a, b, c, d, e, f, g, i, j, k]).extract 5 7 = bs [f, g] ∧ (bs [a, b, c, d, e, f, g, i, j, k]).extract 8 10 = bs [j, k] := by
  refine ⟨?_, ?_, ?_⟩ <;> (apply ByteArray.ext; simp [bs, ByteArray.data_extract])

theorem bs_toList (l : List UInt8) : (bs l).toList = l := by rw [Lib.toList_data]; simp [bs]

set_option maxHeartbeats 4000000 in
theorem parse34_no (a b c d e f g i j k : UInt8) (w : World) (hB : dayB (valL [a, b, c, d]) (valL [f, g]) (valL [j, k]) = false) :
    Calls Try.prog 34 #[.string (bs [a, b, c, d, e, f, g, i, j, k])] w fun r w' => r = .returned (.tuple #[.int .i64 0, .int .i64 2]) ∧ Up w w' := by
  have hsz : (bs [a, b, c, d, e, f, g, i, j, k]).size = 10 := bs_size _
  obtain ⟨c1, c2, c3⟩ := ten_cuts a b c d e f g i j k
  have hd := day16 (valL [a, b, c, d]) (valL [f, g]) (valL [j, k])
  have hv : dayV (valL [a, b, c, d]) (valL [f, g]) (valL [j, k]) = 0 := by rw [dayV, if_neg (by simp [hB])]
  have he : dayE (valL [a, b, c, d]) (valL [f, g]) (valL [j, k]) = 2 := by rw [dayE, if_neg (by simp [hB])]
  rw [hv, he] at hd
  clear hv he
  have hv1 := fun w => value51_is _ _ _ w c1 (by simp) rfl
  have hv2 := fun w => value51_is _ _ _ w c2 (by simp) rfl
  have hv3 := fun w => value51_is _ _ _ w c3 (by simp) rfl
  clear c1 c2 c3
  generalize bs [a, b, c, d, e, f, g, i, j, k] = B at *
  generalize valL [a, b, c, d] = v1 at *
  generalize valL [f, g] = v2 at *
  generalize valL [j, k] = v3 at *
  have H1 := Lib.hid hv1
  have H2 := Lib.hid hv2
  have H3 := Lib.hid hv3
  have HD := Lib.hid hd
  clear hv1 hv2 hv3 hd
  go_enter Try.func34, Try.ntmps34
  go_wp2_with fail
  go_quiet (first | (go_at_call_of 51 (B.extract 0 4); exact quiet_eq (H1.out _)) | (go_at_call_of 51 (B.extract 5 7); exact quiet_eq (H2.out _)) | (go_at_call_of 51 (B.extract 8 10); exact quiet_eq (H3.out _)) | (go_at_call 16; exact quiet_eq (HD.out _)))
  go_wp2_with fail
  go_ret2
  exact ⟨rfl, (Up.refl _).drewN _⟩

set_option maxHeartbeats 4000000 in
theorem parse34_yes (a b c d e f g i j k : UInt8) (w : World) (hB : dayB (valL [a, b, c, d]) (valL [f, g]) (valL [j, k]) = true) (hq : e = 45 ∧ i = 45) :
    Calls Try.prog 34 #[.string (bs [a, b, c, d, e, f, g, i, j, k])] w fun r w' => r = .returned (.tuple #[.int .i64 (dayN (valL [a, b, c, d]) (valL [f, g]) (valL [j, k])), .int .i64 0]) ∧ Up w w' := by
  have hsz : (bs [a, b, c, d, e, f, g, i, j, k]).size = 10 := bs_size _
  obtain ⟨c1, c2, c3⟩ := ten_cuts a b c d e f g i j k
  have hd := day16 (valL [a, b, c, d]) (valL [f, g]) (valL [j, k])
  have hv : dayV (valL [a, b, c, d]) (valL [f, g]) (valL [j, k]) = dayN (valL [a, b, c, d]) (valL [f, g]) (valL [j, k]) := by rw [dayV, if_pos hB]
  have he : dayE (valL [a, b, c, d]) (valL [f, g]) (valL [j, k]) = 0 := by rw [dayE, if_pos hB]
  have ht := text41_bs (dayN (valL [a, b, c, d]) (valL [f, g]) (valL [j, k]))
  rw [text_day a b c d f g j k hB] at ht
  rw [hv, he] at hd
  clear hv he hB
  have hv1 := fun w => value51_is _ _ _ w c1 (by simp) rfl
  have hv2 := fun w => value51_is _ _ _ w c2 (by simp) rfl
  have hv3 := fun w => value51_is _ _ _ w c3 (by simp) rfl
  clear c1 c2 c3
  have heq : ((bs [a, b, c, d, 45, f, g, 45, j, k]).toList == (bs [a, b, c, d, e, f, g, i, j, k]).toList) = true := by
    rw [bs_toList, bs_toList]
    obtain ⟨rfl, rfl⟩ := hq; simp
  clear hq
  generalize bs [a, b, c, d, e, f, g, i, j, k] = B at *
  generalize bs [a, b, c, d, 45, f, g, 45, j, k] = T at *
  generalize dayN (valL [a, b, c, d]) (valL [f, g]) (valL [j, k]) = N at *
  generalize valL [a, b, c, d] = v1 at *
  generalize valL [f, g] = v2 at *
  generalize valL [j, k] = v3 at *
  have H1 := Lib.hid hv1
  have H2 := Lib.hid hv2
  have H3 := Lib.hid hv3
  have HD := Lib.hid hd
  have HT := Lib.hid ht
  clear hv1 hv2 hv3 hd ht
  go_enter Try.func34, Try.ntmps34
  go_wp2_with fail
  go_quiet (first | (go_at_call_of 51 (B.extract 0 4); exact quiet_eq (H1.out _)) | (go_at_call_of 51 (B.extract 5 7); exact quiet_eq (H2.out _)) | (go_at_call_of 51 (B.extract 8 10); exact quiet_eq (H3.out _)) | (go_at_call 16; exact quiet_eq (HD.out _)))
  go_wp2_with (go_at_call 41; refine (HT.out _).mono ?_; rintro r w' ⟨rfl, hup⟩)
  go_ret2
  exact ⟨rfl, ((Up.refl _).drewN _).trans hup⟩

set_option maxHeartbeats 4000000 in
theorem parse34_sep (a b c d e f g i j k : UInt8) (w : World) (hB : dayB (valL [a, b, c, d]) (valL [f, g]) (valL [j, k]) = true) (hq : ¬ (e = 45 ∧ i = 45)) :
    Calls Try.prog 34 #[.string (bs [a, b, c, d, e, f, g, i, j, k])] w fun r w' => r = .returned (.tuple #[.int .i64 (0), .int .i64 2]) ∧ Up w w' := by
  have hsz : (bs [a, b, c, d, e, f, g, i, j, k]).size = 10 := bs_size _
  obtain ⟨c1, c2, c3⟩ := ten_cuts a b c d e f g i j k
  have hd := day16 (valL [a, b, c, d]) (valL [f, g]) (valL [j, k])
  have hv : dayV (valL [a, b, c, d]) (valL [f, g]) (valL [j, k]) = dayN (valL [a, b, c, d]) (valL [f, g]) (valL [j, k]) := by rw [dayV, if_pos hB]
  have he : dayE (valL [a, b, c, d]) (valL [f, g]) (valL [j, k]) = 0 := by rw [dayE, if_pos hB]
  have ht := text41_bs (dayN (valL [a, b, c, d]) (valL [f, g]) (valL [j, k]))
  rw [text_day a b c d f g j k hB] at ht
  rw [hv, he] at hd
  clear hv he hB
  have hv1 := fun w => value51_is _ _ _ w c1 (by simp) rfl
  have hv2 := fun w => value51_is _ _ _ w c2 (by simp) rfl
  have hv3 := fun w => value51_is _ _ _ w c3 (by simp) rfl
  clear c1 c2 c3
  have heq : ((bs [a, b, c, d, 45, f, g, 45, j, k]).toList == (bs [a, b, c, d, e, f, g, i, j, k]).toList) = false := by
    rw [bs_toList, bs_toList]
    rw [beq_eq_false_iff_ne]; intro h; apply hq; simp at h; exact ⟨h.1.symm, h.2.symm⟩
  clear hq
  generalize bs [a, b, c, d, e, f, g, i, j, k] = B at *
  generalize bs [a, b, c, d, 45, f, g, 45, j, k] = T at *
  generalize dayN (valL [a, b, c, d]) (valL [f, g]) (valL [j, k]) = N at *
  generalize valL [a, b, c, d] = v1 at *
  generalize valL [f, g] = v2 at *
  generalize valL [j, k] = v3 at *
  have H1 := Lib.hid hv1
  have H2 := Lib.hid hv2
  have H3 := Lib.hid hv3
  have HD := Lib.hid hd
  have HT := Lib.hid ht
  clear hv1 hv2 hv3 hd ht
  go_enter Try.func34, Try.ntmps34
  go_wp2_with fail
  go_quiet (first | (go_at_call_of 51 (B.extract 0 4); exact quiet_eq (H1.out _)) | (go_at_call_of 51 (B.extract 5 7); exact quiet_eq (H2.out _)) | (go_at_call_of 51 (B.extract 8 10); exact quiet_eq (H3.out _)) | (go_at_call 16; exact quiet_eq (HD.out _)))
  go_wp2_with (go_at_call 41; refine (HT.out _).mono ?_; rintro r w' ⟨rfl, hup⟩)
  go_ret2
  exact ⟨rfl, ((Up.refl _).drewN _).trans hup⟩

theorem parB_ten (a b c d e f g i j k : UInt8) : parB [a, b, c, d, e, f, g, i, j, k] = decide (e = 45 ∧ i = 45) := by
  rw [Bool.eq_iff_iff]; simp [parB, List.getD]

theorem parse34 (s : ByteArray) (w : World) (hs : s.size ≤ 100) :
    Calls Try.prog 34 #[.string s] w fun r w' => r = .returned (.tuple #[.int .i64 (parV s.data.toList), .int .i64 (parE s.data.toList)]) ∧ Up w w' := by
  have hb := bs_of s
  have hsz : s.data.toList.length = s.size := by rw [Array.length_toList]; rfl
  by_cases hl : s.size = 10
  · generalize s.data.toList = l at *
    obtain ⟨a, b, c, d, e, f, g, i, j, k, rfl⟩ := list_ten l (by omega)
    subst hb
    rw [parV, parE, parB_ten]
    simp only [List.take, List.drop]
    cases hB : dayB (valL [a, b, c, d]) (valL [f, g]) (valL [j, k])
    · have hv : dayV (valL [a, b, c, d]) (valL [f, g]) (valL [j, k]) = 0 := by rw [dayV, if_neg (by simp [hB])]
      have he : dayE (valL [a, b, c, d]) (valL [f, g]) (valL [j, k]) = 2 := by rw [dayE, if_neg (by simp [hB])]
      rw [hv, he, ite_self, ite_self]
      exact parse34_no a b c d e f g i j k w hB
    · have hv : dayV (valL [a, b, c, d]) (valL [f, g]) (valL [j, k]) = dayN (valL [a, b, c, d]) (valL [f, g]) (valL [j, k]) := by rw [dayV, if_pos hB]
      have he : dayE (valL [a, b, c, d]) (valL [f, g]) (valL [j, k]) = 0 := by rw [dayE, if_pos hB]
      rw [hv, he]
      by_cases hq : e = 45 ∧ i = 45
      · rw [if_pos (decide_eq_true hq), if_pos (decide_eq_true hq)]
        exact parse34_yes a b c d e f g i j k w hB hq
      · rw [if_neg (by simpa using hq), if_neg (by simpa using hq)]
        exact parse34_sep a b c d e f g i j k w hB hq
  · have hf : parB s.data.toList = false := by simp [parB, hsz, hl]
    rw [parV, parE, if_neg (by simp [hf]), if_neg (by simp [hf])]
    exact (parse34_len s w hs (by omega)).mono fun _ _ ⟨he, hw⟩ => ⟨he, hw ▸ Up.refl _⟩

end Go.Proofs.Ytblgiojmodoilaa.Cal
