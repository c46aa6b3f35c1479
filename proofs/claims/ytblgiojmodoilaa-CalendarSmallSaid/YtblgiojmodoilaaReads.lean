/- Contract of Parse for every string; CalendarReads. -/
import Derived.Test.YtblgiojmodoilaaTextE
import Derived.Test.YtblgiojmodoilaaAwake
namespace Go.Proofs.Ytblgiojmodoilaa.Cal
open Go.RowKit Go.Shelf

set_option maxHeartbeats 1000000 in
theorem parse33_len (s : ByteArray) (w : World) (hs : s.size ≤ 100) (hn : s.size < 10 ∨ 10 < s.size) : Calls Try.prog 33 #[.string s] w fun e w' => e = .returned (.tuple #[.int .i64 0, .int .i64 2]) ∧ w = w' := by
  have hz : (s.size : Int) ≤ 100 := by omega
  rcases hn with hn | hn
  all_goals
    go_enter Try.func33, Try.ntmps33
    go_wp2_with fail
    go_ret2
    exact ⟨rfl, rfl⟩

theorem byte_ne (c : UInt8) (h : ¬ c = 45) : ((c.toNat : Int) != 45) = true := by
  rw [bne_iff_ne]
  intro h2
  apply h
  apply UInt8.toNat_inj.1
  show c.toNat = 45
  omega

set_option maxHeartbeats 1000000 in
theorem parse33_sep (a b c d e f g i j k : UInt8) (w : World) (h : ¬ e = 45 ∨ (e = 45 ∧ ¬ i = 45)) :
    Calls Try.prog 33 #[.string (bs [a, b, c, d, e, f, g, i, j, k])] w fun r w' => r = .returned (.tuple #[.int .i64 0, .int .i64 2]) ∧ w = w' := by
  rcases h with h | ⟨rfl, h⟩
  · have hsz : (bs [a, b, c, d, e, f, g, i, j, k]).size = 10 := bs_size _
    have hsz4 : 4 < (bs [a, b, c, d, e, f, g, i, j, k]).size := by omega
    have g4 : (bs [a, b, c, d, e, f, g, i, j, k])[4] = e := by rw [bs_get]; rfl
    have hb := byte_ne e h
    generalize bs [a, b, c, d, e, f, g, i, j, k] = B at *
    go_enter Try.func33, Try.ntmps33
    go_wp2_with fail
    go_ret2
    exact ⟨rfl, rfl⟩
  · have hsz : (bs [a, b, c, d, 45, f, g, i, j, k]).size = 10 := bs_size _
    have hsz4 : 4 < (bs [a, b, c, d, 45, f, g, i, j, k]).size := by omega
    have hsz7 : 7 < (bs [a, b, c, d, 45, f, g, i, j, k]).size := by omega
    have g4 : (bs [a, b, c, d, 45, f, g, i, j, k])[4] = 45 := by rw [bs_get]; rfl
    have g7 : (bs [a, b, c, d, 45, f, g, i, j, k])[7] = i := by rw [bs_get]; rfl
    have hb := byte_ne i h
    generalize bs [a, b, c, d, 45, f, g, i, j, k] = B at *
    go_enter Try.func33, Try.ntmps33
    go_wp2_with fail
    go_ret2
    exact ⟨rfl, rfl⟩

theorem parse33 (s : ByteArray) (w : World) (hs : s.size ≤ 100) :
    Calls Try.prog 33 #[.string s] w fun r w' => r = .returned (.tuple #[.int .i64 (parV s.data.toList), .int .i64 (parE s.data.toList)]) ∧ Up w w' := by
  have hb := bs_of s
  have hsz : s.data.toList.length = s.size := by rw [Array.length_toList]; rfl
  by_cases hl : s.size = 10
  · generalize s.data.toList = l at *
    obtain ⟨a, b, c, d, e, f, g, i, j, k, rfl⟩ := list_ten l (by omega)
    subst hb
    rw [parV, parE, parB_ten]
    simp only [List.take, List.drop]
    by_cases hq : e = 45 ∧ i = 45
    · obtain ⟨rfl, rfl⟩ := hq
      exact parse33_ten a b c d f g j k w
    · rw [if_neg (by simpa using hq), if_neg (by simpa using hq)]
      refine (parse33_sep a b c d e f g i j k w ?_).mono fun _ _ ⟨he, hw⟩ => ⟨he, hw ▸ Up.refl _⟩
      by_cases he : e = 45
      · exact Or.inr ⟨he, fun hi => hq ⟨he, hi⟩⟩
      · exact Or.inl he
  · have hf : parB s.data.toList = false := by simp [parB, hsz, hl]
    rw [parV, parE, if_neg (by simp [hf]), if_neg (by simp [hf])]
    exact (parse33_len s w hs (by omega)).mono fun _ _ ⟨he, hw⟩ => ⟨he, hw ▸ Up.refl _⟩

set_option maxRecDepth 100000 in
set_option maxHeartbeats 1000000 in
theorem reads12 (s : ByteArray) (w : World) (hm : s.size ≤ 9223372036854775807) : Calls Try.prog 12 #[.string s] w fun e w' => e = .returned (.bool true) ∧ Up w w' := by
  by_cases hs : s.size ≤ 100
  · have hz : (s.size : Int) ≤ 100 := by omega
    have H1 := Lib.hid (fun w => parse33 s w hs)
    have H2 := Lib.hid (fun w => parse34 s w hs)
    go_enter Try.func12, Try.ntmps12
    go_wp2_with fail
    refine (H1.out _).mono ?_
    rintro e w1 ⟨rfl, u1⟩
    go_wp2_with fail
    refine (H2.out _).mono ?_
    rintro e w2 ⟨rfl, u2⟩
    go_wp2_with fail
    refine (awake21 _).mono ?_
    rintro e w3 ⟨rfl, u3⟩
    go_wp2_with fail
    go_ret
    exact ⟨rfl, u1.trans <| u2.trans u3⟩
  · have hz : 100 < (s.size : Int) := by omega
    go_enter Try.func12, Try.ntmps12
    go_wp2_with fail
    refine (awake21 _).mono ?_
    rintro e w3 ⟨rfl, u3⟩
    go_wp2_with fail
    go_ret
    exact ⟨rfl, u3⟩

theorem reads_any (s : ByteArray) (w : World) (hm : s.size ≤ 9223372036854775807) :
    Calls Try.prog 12 #[.string s] w fun e w' => e = .returned (.bool true) ∧ Below w.heap.size w w' := reads12 s w hm

end Go.Proofs.Ytblgiojmodoilaa.Cal
