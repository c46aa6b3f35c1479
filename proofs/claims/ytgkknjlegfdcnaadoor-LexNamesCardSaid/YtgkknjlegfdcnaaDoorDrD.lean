/- The reference's Name; the walk of LexNames. -/
import Derived.Test.YtgkknjlegfdcnaaDoorDrC
namespace Go.Proofs.YtgkknjlegfdcnaaDoor.Lx
open Go.RowKit Go.Shelf Go.Proofs.YtgkknjlegfdcnaaDoor.Cal

set_option maxHeartbeats 2000000 in
theorem refName_any (l : List UInt8) (w : World) (hl : l.length ≤ 3000) : Calls Tryd.prog 17 #[.string (bs l)] w fun e w' => e = .returned (.bool (nameB l)) ∧ Up w w' := by
  have hsz := bs_size l
  have htl : (bs l).toList = l := bs_toList l
  unfold nameB
  rcases wordB_parts l with ⟨h, hw⟩ | ⟨h0, h1, hw⟩ | ⟨h0, h1, h2, hw⟩ | ⟨h0, h1, h2, h3, hw⟩ | ⟨h0, h1, h2, h3, hw⟩
  · rw [hw]
    have hi : ((bs l).size : Int) < 1 := by rw [hsz, h]; decide
    clear htl hsz h
    generalize bs l = B at *
    go_enter Tryd.func17, Tryd.ntmps17
    go_wp2_with fail
    go_ret
    exact ⟨rfl, Up.refl w⟩
  · rw [hw]
    have hi : (24 : Int) < ((bs l).size : Int) := by omega
    have hi2 : (1 : Int) ≤ ((bs l).size : Int) := by omega
    clear htl hsz
    generalize bs l = B at *
    go_enter Tryd.func17, Tryd.ntmps17
    go_wp2_with fail
    go_ret
    exact ⟨rfl, Up.refl w⟩
  all_goals
    rw [hw]
    have hi2 : (1 : Int) ≤ ((bs l).size : Int) := by omega
    have hp : 0 < (bs l).size := by omega
    have hi : ((bs l).size : Int) ≤ 24 := by omega
    have hg := bs_get l 0 hp
    have HL := Lib.hid (refLetter_is ((bs l)[0]) _ ((congrArg letB hg).trans h2))
    have HS := Lib.hid (fun w => refWord_any l w hl)
    have HR := Lib.hid (fun (w : World) => refReserved_any l w hl)
    clear htl hg h2 hw
  · generalize bs l = B at *
    go_enter Tryd.func17, Tryd.ntmps17
    go_wp2_with fail
    refine (HL.out _).mono ?_
    rintro e w1 ⟨rfl, rfl⟩
    go_wp2_with fail
    go_ret
    exact ⟨rfl, Up.refl _⟩
  · have f1 : (((spanN partB l : Nat) : Int) == ((bs l).size : Int)) = false := by
      cases hz : (((spanN partB l : Nat) : Int) == ((bs l).size : Int))
      · rfl
      · have := eq_of_beq hz; omega
    have f2 : (spanN partB l == (bs l).size) = false := by
      cases hz : (spanN partB l == (bs l).size)
      · rfl
      · have := eq_of_beq hz; omega
    clear h3 hsz
    generalize spanN partB l = n at *
    generalize bs l = B at *
    go_enter Tryd.func17, Tryd.ntmps17
    go_wp2_with fail
    refine (HL.out _).mono ?_
    rintro e w1 ⟨rfl, rfl⟩
    go_wp2_with fail
    refine (HS.out _).mono ?_
    rintro e w1 ⟨rfl, rfl⟩
    go_wp2_with fail
    go_ret
    exact ⟨rfl, Up.refl _⟩
  · rw [h3, ← hsz] at HS
    clear h3 hsz
    generalize bs l = B at *
    generalize resB l = rb at *
    go_enter Tryd.func17, Tryd.ntmps17
    go_wp2_with fail
    refine (HL.out _).mono ?_
    rintro e w1 ⟨rfl, rfl⟩
    go_wp2_with fail
    refine (HS.out _).mono ?_
    rintro e w1 ⟨rfl, rfl⟩
    go_wp2_with fail
    refine (HR.out _).mono ?_
    rintro e w1 ⟨rfl, u1⟩
    go_wp2_with fail
    go_ret
    exact ⟨by simp, u1⟩

theorem names_any (l : List UInt8) (w : World) (hl : l.length ≤ 3000) (htab : TabP w) : Calls Tryd.prog 9 #[.string (bs l)] w fun e w' => e = .returned (.bool true) ∧ Up w w' := by
  have hsz := bs_size l
  have hd : (bs l).data.toList = l := by simp [bs]
  have H1 := reserved_any (bs l) w (by rw [hsz]; unfold maxLen; omega) htab
  rw [hd] at H1
  have H1 := Lib.hid H1
  have H2 := Lib.hid (fun w => refReserved_any l w hl)
  have H3 := Lib.hid (fun w ht => name_any l w hl ht)
  have H4 := Lib.hid (fun w => refName_any l w hl)
  have HT := Lib.hid htab
  clear hsz hd htab
  generalize resB l = rb at *
  generalize nameB l = nb at *
  generalize bs l = B at *
  go_enter Tryd.func9, Tryd.ntmps9
  go_wp2_with fail
  refine H1.out.mono ?_
  rintro e w1 ⟨rfl, u1⟩
  go_wp2_with fail
  refine (H2.out _).mono ?_
  rintro e w2 ⟨rfl, u2⟩
  go_wp2_with fail
  refine (H3.out _ (HT.out.up (u1.trans u2))).mono ?_
  rintro e w3 ⟨rfl, u3⟩
  go_wp2_with fail
  refine (H4.out _).mono ?_
  rintro e w4 ⟨rfl, u4⟩
  go_wp2_with fail
  go_ret
  exact ⟨rfl, (u1.trans u2).trans (u3.trans u4)⟩

theorem lexnames_walk (s : ByteArray) (w : World) (_h : s.size ≤ 9223372036854775807) (htab : TabP w) :
    Calls Tryd.prog 4 #[.string s] w fun e w' => e = .returned (.bool true) ∧ Below w.heap.size w w' := by
  have HA := Lib.hid awake_any
  by_cases hs : s.size ≤ 3000
  · have hN := names_any s.data.toList w (by rw [Array.length_toList]; exact hs) htab
    rw [← bs_of s] at hN
    have HN := Lib.hid hN
    have hi : (s.size : Int) ≤ 3000 := by omega
    clear hN
    go_enter Tryd.func4, Tryd.ntmps4
    go_wp2_with fail
    refine HN.out.mono ?_
    rintro e w1 ⟨rfl, u1⟩
    go_wp2_with fail
    refine (HA.out _).mono ?_
    rintro e w2 ⟨rfl, u2⟩
    go_wp2_with fail
    go_ret
    exact ⟨rfl, u1.trans u2⟩
  · have hi : 3000 < (s.size : Int) := by omega
    go_enter Tryd.func4, Tryd.ntmps4
    go_wp2_with fail
    refine (HA.out _).mono ?_
    rintro e w2 ⟨rfl, u2⟩
    go_wp2_with fail
    go_ret
    exact ⟨rfl, u2⟩

end Go.Proofs.YtgkknjlegfdcnaaDoor.Lx
