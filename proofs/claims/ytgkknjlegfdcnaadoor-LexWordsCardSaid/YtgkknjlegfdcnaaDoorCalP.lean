/- Contract of calendar.Parse. -/
import Derived.Test.YtgkknjlegfdcnaaDoorCalW
namespace Go.Proofs.YtgkknjlegfdcnaaDoor.Cal
open Go.RowKit Go.Shelf

/-- What '[]byte(s)' lays behind the world w. -/
def wb (w : World) (s : ByteArray) : World := w.drew.alloc (.cells (bytesRow s (grownCap w s.size 0 5)) 5 ((bytesRow s (grownCap w s.size 0 5)).size, (bytesRow s (grownCap w s.size 0 5)).size + 1))

theorem run_toBytes (w : World) (s : ByteArray) : (convert 9 66 (.string s)).run Tryd.prog w = .ok (.slice (some ⟨w.heap.size, 0, none⟩) s.size (grownCap w s.size 0 5)) (wb w s) :=
  run_bytes_of_string (P := Tryd.prog) w 9 66 5 s Tryd.underlying9 Tryd.underlying66 Tryd.underlying5

theorem wb_size (w : World) (s : ByteArray) : (wb w s).heap.size = w.heap.size + 1 := by simp [wb]

theorem wb_up (w : World) (s : ByteArray) : Up w (wb w s) := ((Up.refl w).drew).alloc _

theorem Row.up {w w' : World} {b : Nat} {l : List UInt8} (h : Row w b l) (hu : Up w w') : Row w' b l := fun i hi => hu.cell (h i hi)

theorem wb_row (w : World) (l : List UInt8) : Row (wb w (bs l)) w.heap.size l := by
  intro i hi
  have h := World.cell?_alloc_mark w.drew (bytesRow (bs l) (grownCap w (bs l).size 0 5)) 5 ((bytesRow (bs l) (grownCap w (bs l).size 0 5)).size, (bytesRow (bs l) (grownCap w (bs l).size 0 5)).size + 1) i
  have e : w.drew.heap.size = w.heap.size := rfl
  rw [e] at h
  show (wb w (bs l)).cell? _ = _
  rw [wb, h, bytesRow, Array.getElem?_append_left (by simpa [bs] using hi)]
  simp [bs, List.getD, hi]

theorem drew_size (w : World) : w.drew.heap.size = w.heap.size := rfl

theorem wb_row_at (w : World) (l : List UInt8) (b : Nat) (hb : w.heap.size = b) : Row (wb w (bs l)) b l := hb ▸ wb_row w l

theorem Row.wb {w : World} {b : Nat} {l : List UInt8} (h : Row w b l) (s : ByteArray) : Row (wb w s) b l := h.up (wb_up w s)

theorem Row.drew {w : World} {b : Nat} {l : List UInt8} (h : Row w b l) : Row w.drew b l := h.up (Up.refl w).drew

theorem number50_row (b cap n : Nat) (l : List UInt8) (w : World) (hr : Row w b l) (hn : l.length = n) (hl : n ≤ 4) :
    Calls Tryd.prog 46 #[.slice (some ⟨b, 0, none⟩) n cap] w fun e w' => e = .returned (.int .i64 (valL l)) ∧ w = w' := by
  subst hn; exact number50 b cap l w hr hl

theorem number50_4 (b cap : Nat) (x1 x2 x3 x4 : UInt8) (w : World) (hr : Row w b [x1, x2, x3, x4]) :
    Calls Tryd.prog 46 #[.slice (some ⟨b, 0, none⟩) 4 cap] w fun e w' => e = .returned (.int .i64 (valL [x1, x2, x3, x4])) ∧ w = w' := number50_row b cap 4 _ w hr rfl (by omega)

theorem number50_2 (b cap : Nat) (x1 x2 : UInt8) (w : World) (hr : Row w b [x1, x2]) :
    Calls Tryd.prog 46 #[.slice (some ⟨b, 0, none⟩) 2 cap] w fun e w' => e = .returned (.int .i64 (valL [x1, x2])) ∧ w = w' := number50_row b cap 2 _ w hr rfl (by omega)

theorem run_toBytes_bs (w : World) (l : List UInt8) : (convert 9 66 (.string (bs l))).run Tryd.prog w = .ok (.slice (some ⟨w.heap.size, 0, none⟩) l.length (grownCap w l.length 0 5)) (wb w (bs l)) := by
  rw [run_toBytes, bs_size]

set_option linter.unusedSimpArgs false in
set_option maxHeartbeats 40000000 in
theorem parse33_ten (a b c d f g j k : UInt8) (w : World) :
    Calls Tryd.prog 34 #[.string (bs [a, b, c, d, 45, f, g, 45, j, k])] w fun r w' => r = .returned (.tuple #[.int .i64 (dayV (valL [a, b, c, d]) (valL [f, g]) (valL [j, k])), .int .i64 (dayE (valL [a, b, c, d]) (valL [f, g]) (valL [j, k]))]) ∧ Up w w' := by
  have hsz : (bs [a, b, c, d, 45, f, g, 45, j, k]).size = 10 := bs_size _
  have hsz4 : 4 < (bs [a, b, c, d, 45, f, g, 45, j, k]).size := by omega
  have hsz7 : 7 < (bs [a, b, c, d, 45, f, g, 45, j, k]).size := by omega
  obtain ⟨c1, c2, c3⟩ := ten_cuts a b c d 45 f g 45 j k
  have hcb := run_toBytes_bs
  have g4 : (bs [a, b, c, d, 45, f, g, 45, j, k])[4] = 45 := by rw [bs_get]; rfl
  have g7 : (bs [a, b, c, d, 45, f, g, 45, j, k])[7] = 45 := by rw [bs_get]; rfl
  generalize bs [a, b, c, d, 45, f, g, 45, j, k] = B at *
  have hd := day15 (valL [a, b, c, d]) (valL [f, g]) (valL [j, k])
  have HD := Lib.hid hd
  clear hd
  go_enter Tryd.func34, Tryd.ntmps34
  go_wp2_with fail
  go_region_with (first | (go_at_call 46; (with_reducible refine (number50_4 _ _ a b c d _ ?_).mono ?_); (focus (first | (with_reducible refine wb_row_at _ _ _ ?_; simp only [wb_size, drew_size]; done) | (with_reducible refine (wb_row_at _ _ _ ?_).wb _; simp only [wb_size, drew_size]; done) | (with_reducible refine ((wb_row_at _ _ _ ?_).wb _).wb _; simp only [wb_size, drew_size]; done))); rintro r w' ⟨rfl, rfl⟩) | (go_at_call 46; (with_reducible refine (number50_2 _ _ f g _ ?_).mono ?_); (focus (first | (with_reducible refine wb_row_at _ _ _ ?_; simp only [wb_size, drew_size]; done) | (with_reducible refine (wb_row_at _ _ _ ?_).wb _; simp only [wb_size, drew_size]; done) | (with_reducible refine ((wb_row_at _ _ _ ?_).wb _).wb _; simp only [wb_size, drew_size]; done))); rintro r w' ⟨rfl, rfl⟩) | (go_at_call 46; (with_reducible refine (number50_2 _ _ j k _ ?_).mono ?_); (focus (first | (with_reducible refine wb_row_at _ _ _ ?_; simp only [wb_size, drew_size]; done) | (with_reducible refine (wb_row_at _ _ _ ?_).wb _; simp only [wb_size, drew_size]; done) | (with_reducible refine ((wb_row_at _ _ _ ?_).wb _).wb _; simp only [wb_size, drew_size]; done))); rintro r w' ⟨rfl, rfl⟩) | (go_at_call 45; refine (HD.out _).mono ?_; rintro r w' ⟨rfl, hup⟩))
  all_goals go_wp2
  all_goals go_ret2
  all_goals exact ⟨rfl, by refine Up.trans ?_ hup; repeat (first | exact Up.refl _ | refine Up.trans ?_ (wb_up _ _) | refine Up.drew ?_)⟩

set_option maxHeartbeats 1000000 in
theorem parse33_len (s : ByteArray) (w : World) (hs : s.size ≤ 100) (hn : s.size < 10 ∨ 10 < s.size) : Calls Tryd.prog 34 #[.string s] w fun e w' => e = .returned (.tuple #[.int .i64 0, .int .i64 2]) ∧ w = w' := by
  have hz : (s.size : Int) ≤ 100 := by omega
  rcases hn with hn | hn
  all_goals
    go_enter Tryd.func34, Tryd.ntmps34
    go_wp2_with fail
    go_ret2
    exact ⟨rfl, rfl⟩

theorem byte_ne (c : UInt8) (h : ¬ c = 45) : ((c.toNat : Int) != 45) = true := by
  rw [bne_iff_ne]
  intro h2
  apply h
  apply UInt8.toNat_inj.1
  show c.toNat = 45
  omega

set_option maxHeartbeats 1000000 in
theorem parse33_sep (a b c d e f g i j k : UInt8) (w : World) (h : ¬ e = 45 ∨ (e = 45 ∧ ¬ i = 45)) :
    Calls Tryd.prog 34 #[.string (bs [a, b, c, d, e, f, g, i, j, k])] w fun r w' => r = .returned (.tuple #[.int .i64 0, .int .i64 2]) ∧ w = w' := by
  rcases h with h | ⟨rfl, h⟩
  · have hsz : (bs [a, b, c, d, e, f, g, i, j, k]).size = 10 := bs_size _
    have hsz4 : 4 < (bs [a, b, c, d, e, f, g, i, j, k]).size := by omega
    have g4 : (bs [a, b, c, d, e, f, g, i, j, k])[4] = e := by rw [bs_get]; rfl
    have hb := byte_ne e h
    generalize bs [a, b, c, d, e, f, g, i, j, k] = B at *
    go_enter Tryd.func34, Tryd.ntmps34
    go_wp2_with fail
    go_ret2
    exact ⟨rfl, rfl⟩
  · have hsz : (bs [a, b, c, d, 45, f, g, i, j, k]).size = 10 := bs_size _
    have hsz4 : 4 < (bs [a, b, c, d, 45, f, g, i, j, k]).size := by omega
    have hsz7 : 7 < (bs [a, b, c, d, 45, f, g, i, j, k]).size := by omega
    have g4 : (bs [a, b, c, d, 45, f, g, i, j, k])[4] = 45 := by rw [bs_get]; rfl
    have g7 : (bs [a, b, c, d, 45, f, g, i, j, k])[7] = i := by rw [bs_get]; rfl
    have hb := byte_ne i h
    generalize bs [a, b, c, d, 45, f, g, i, j, k] = B at *
    go_enter Tryd.func34, Tryd.ntmps34
    go_wp2_with fail
    go_ret2
    exact ⟨rfl, rfl⟩

theorem parse33 (s : ByteArray) (w : World) (hs : s.size ≤ 100) :
    Calls Tryd.prog 34 #[.string s] w fun r w' => r = .returned (.tuple #[.int .i64 (parV s.data.toList), .int .i64 (parE s.data.toList)]) ∧ Up w w' := by
  have hb := bs_of s
  have hsz : s.data.toList.length = s.size := by rw [Array.length_toList]; rfl
  by_cases hl : s.size = 10
  · generalize s.data.toList = l at *
    obtain ⟨a, b, c, d, e, f, g, i, j, k, rfl⟩ := list_ten l (by omega)
    subst hb
    rw [parV, parE, parB_ten]
    simp only [List.take, List.drop]
    by_cases hq : e = 45 ∧ i = 45
    · obtain ⟨rfl, rfl⟩ := hq
      exact parse33_ten a b c d f g j k w
    · rw [if_neg (by simpa using hq), if_neg (by simpa using hq)]
      refine (parse33_sep a b c d e f g i j k w ?_).mono fun _ _ ⟨he, hw⟩ => ⟨he, hw ▸ Up.refl _⟩
      by_cases he : e = 45
      · exact Or.inr ⟨he, fun hi => hq ⟨he, hi⟩⟩
      · exact Or.inl he
  · have hf : parB s.data.toList = false := by simp [parB, hsz, hl]
    rw [parV, parE, if_neg (by simp [hf]), if_neg (by simp [hf])]
    exact (parse33_len s w hs (by omega)).mono fun _ _ ⟨he, hw⟩ => ⟨he, hw ▸ Up.refl _⟩

end Go.Proofs.YtgkknjlegfdcnaaDoor.Cal
