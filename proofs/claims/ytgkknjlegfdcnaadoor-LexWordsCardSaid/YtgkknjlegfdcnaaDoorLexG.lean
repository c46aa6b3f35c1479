/- Contracts: the scanner's steps. -/
import Derived.Test.YtgkknjlegfdcnaaDoorLexF
import Derived.Laws.Rows
namespace Go.Proofs.YtgkknjlegfdcnaaDoor.Lx
open Go.RowKit Go.Shelf Go.Proofs.YtgkknjlegfdcnaaDoor.Cal

/-- The world has new blocks, and block c may have turned. -/
structure Off (c : Nat) (w w' : World) : Prop where
  os : w'.os = w.os
  tape : w'.tape = w.tape
  output : w'.output = w.output
  size : w.heap.size ≤ w'.heap.size
  block : ∀ k, k < w.heap.size → k ≠ c → w'.heap[k]? = w.heap[k]?

theorem Off.refl (c : Nat) (w : World) : Off c w w := ⟨rfl, rfl, rfl, Nat.le_refl _, fun _ _ _ => rfl⟩
theorem Off.trans {c : Nat} {a b d : World} (h : Off c a b) (k : Off c b d) : Off c a d :=
  ⟨k.os.trans h.os, k.tape.trans h.tape, k.output.trans h.output, Nat.le_trans h.size k.size, fun i hi hc => (k.block i (Nat.lt_of_lt_of_le hi h.size) hc).trans (h.block i hi hc)⟩
theorem Off.of_up {c : Nat} {a b : World} (h : Up a b) : Off c a b := ⟨h.os, h.tape, h.output, h.size, fun i hi _ => h.block i hi⟩
theorem Off.setCell {c : Nat} {a b : World} (h : Off c a b) (o : Nat) (v : Value) : Off c a (b.setCell ⟨c, o, none⟩ v) :=
  ⟨h.os, h.tape, h.output, by rw [World.size_setCell]; exact h.size, fun i hi hc => by rw [heap_setCell_other _ _ _ _ hc]; exact h.block i hi hc⟩

/-- The scanner's box. -/
def ScanAt (w : World) (c : Nat) (line col : Int) (l : List UInt8) : Prop :=
  w.heap[c]? = some (.cells #[.int .i64 line, .int .i64 col, .string (bs l)] 37 (0, 0))

theorem ScanAt.up {w w' : World} {c : Nat} {line col : Int} {l : List UInt8} (h : ScanAt w c line col l) (u : Up w w') : ScanAt w' c line col l := by
  have hlt : c < w.heap.size := (Array.getElem?_eq_some_iff.1 h).1
  exact (u.block c hlt).trans h

theorem ScanAt.cells {w : World} {c : Nat} {line col : Int} {l : List UInt8} (h : ScanAt w c line col l) :
    w.cell? ⟨c, 0, none⟩ = some (.int .i64 line) ∧ w.cell? ⟨c, 1, none⟩ = some (.int .i64 col) ∧ w.cell? ⟨c, 2, none⟩ = some (.string (bs l)) ∧ (∀ o, w.frozen? ⟨c, o, none⟩ = false) := by
  unfold ScanAt at h
  refine ⟨?_, ?_, ?_, fun o => frozen_of_row _ _ _ _ _ h⟩ <;> simp [World.cell?, h]

theorem ScanAt.set (w : World) (c : Nat) (line col : Int) (l : List UInt8) (h : ScanAt w c line col l) (l' : List UInt8) : ScanAt (w.setCell ⟨c, 2, none⟩ (.string (bs l'))) c line col l' := by
  unfold ScanAt at h ⊢
  rw [heap_setCell_same w c 2 _ _ _ h]; rfl
theorem ScanAt.setCol (w : World) (c : Nat) (line col : Int) (l : List UInt8) (h : ScanAt w c line col l) (x : Int) : ScanAt (w.setCell ⟨c, 1, none⟩ (.int .i64 x)) c line x l := by
  unfold ScanAt at h ⊢
  rw [heap_setCell_same w c 1 _ _ _ h]; rfl
theorem ScanAt.setLine (w : World) (c : Nat) (line col : Int) (l : List UInt8) (h : ScanAt w c line col l) (x : Int) : ScanAt (w.setCell ⟨c, 0, none⟩ (.int .i64 x)) c x col l := by
  unfold ScanAt at h ⊢
  rw [heap_setCell_same w c 0 _ _ _ h]; rfl

set_option maxHeartbeats 1000000 in
theorem skip_any (c n : Nat) (line col : Int) (l : List UInt8) (w : World) (hs : ScanAt w c line col l) (hn : n ≤ l.length) (hl : l.length ≤ 100000) (hc0 : 0 ≤ col) (hc1 : col ≤ 100000) :
    Calls Tryd.prog 23 #[.pointer (some ⟨c, 0, none⟩), .int .i64 (n : Int)] w fun e w' => e = .returned (.tuple #[]) ∧ ScanAt w' c line (col + n) (l.drop n) ∧ Off c w w' := by
  obtain ⟨h0, h1, h2, hf⟩ := hs.cells
  have hsz := bs_size l
  have hn2 : n ≤ (bs l).size := by omega
  have hd := Lib.hid (bs_drop l n)
  clear hsz
  generalize hB : bs l = B at *
  go_enter Tryd.func23, Tryd.ntmps23
  go_wp2_with fail
  refine bodyPost_end (results_none rfl _ _ _) rfl ?_
  refine ⟨rfl, ?_, ((Off.refl c w).setCell 2 _).setCell 1 _⟩
  rw [hd.out]
  exact ScanAt.setCol _ c line col _ (ScanAt.set w c line col l hs _) _

set_option maxHeartbeats 1000000 in
theorem line_step (c : Nat) (line col : Int) (x : UInt8) (l : List UInt8) (w : World) (hs : ScanAt w c line col (x :: l)) (hl : l.length ≤ 100000) (hc0 : 0 ≤ line) (hc1 : line ≤ 100000) :
    Calls Tryd.prog 21 #[.pointer (some ⟨c, 0, none⟩)] w fun e w' => e = .returned (.tuple #[]) ∧ ScanAt w' c (line + 1) 1 l ∧ Off c w w' := by
  obtain ⟨h0, h1, h2, hf⟩ := hs.cells
  have hsz := bs_size (x :: l)
  simp only [List.length_cons] at hsz
  have hn2 : 1 ≤ (bs (x :: l)).size := by omega
  have hd := Lib.hid (bs_drop (x :: l) 1)
  clear hsz
  generalize hB : bs (x :: l) = B at *
  go_enter Tryd.func21, Tryd.ntmps21
  go_wp2_with fail
  refine bodyPost_end (results_none rfl _ _ _) rfl ?_
  refine ⟨rfl, ?_, (((Off.refl c w).setCell 2 _).setCell 0 _).setCell 1 _⟩
  rw [hd.out]
  exact ScanAt.setCol _ c _ _ _ (ScanAt.setLine _ c _ _ _ (ScanAt.set w c line col _ hs _) _) _

theorem hash_any (l : List UInt8) (w : World) : Calls Tryd.prog 31 #[.string (bs l), .string ⟨#[35]⟩] w fun e w' => e = .returned (.bool (Lib.hasPrefix l [35])) ∧ w = w' := by
  refine (Tryd.strings_HasPrefix (bs l) ⟨#[35]⟩ w).mono ?_
  rintro e w' ⟨rfl, rfl⟩
  refine ⟨?_, rfl⟩
  rw [show (bs l).data.toList = l by simp [bs]]

theorem blankN_hash {l r : List UInt8} (h : l.drop (spanN blankB l) = 35 :: r) : blankN l = spanN blankB l + spanN lineB (35 :: r) := by
  unfold blankN; simp only [h]
theorem blankN_plain {l : List UInt8} (h : ∀ r, l.drop (spanN blankB l) ≠ 35 :: r) : blankN l = spanN blankB l := by
  unfold blankN; simp only []

set_option maxHeartbeats 2000000 in
theorem blanks_any (c : Nat) (line col : Int) (l : List UInt8) (w : World) (hs : ScanAt w c line col l) (hl : l.length ≤ 100000) (hc0 : 0 ≤ col) (hc1 : col + l.length ≤ 100000) :
    Calls Tryd.prog 20 #[.pointer (some ⟨c, 0, none⟩)] w fun e w' => e = .returned (.tuple #[]) ∧ ScanAt w' c line (col + blankN l) (l.drop (blankN l)) ∧ Off c w w' := by
  have hn := spanN_le blankB l
  obtain ⟨h0, h1, h2, hf⟩ := hs.cells
  have H1 := Lib.hid (fun w => span_blank l w hl)
  have H2 := Lib.hid (fun w hs => skip_any c (spanN blankB l) line col l w hs hn hl hc0 (by omega))
  have hlen : (l.drop (spanN blankB l)).length = l.length - spanN blankB l := List.length_drop
  have H3 := Lib.hid (fun w => hash_any (l.drop (spanN blankB l)) w)
  by_cases hh : ∃ r, l.drop (spanN blankB l) = 35 :: r
  · obtain ⟨r, hr⟩ := hh
    rw [blankN_hash hr]
    rw [hr] at H3 H2 hlen
    have hp : Lib.hasPrefix (35 :: r) [35] = true := by simp [Lib.hasPrefix, List.isPrefixOf]
    rw [hp] at H3
    have hm := spanN_le lineB (35 :: r)
    have H4 := Lib.hid (fun w => span_line (35 :: r) w (by omega))
    have H5 := Lib.hid (fun w hs => skip_any c (spanN lineB (35 :: r)) line (col + (spanN blankB l : Nat)) (35 :: r) w hs hm (by omega) (by omega) (by omega))
    have hdd : (35 :: r).drop (spanN lineB (35 :: r)) = l.drop (spanN blankB l + spanN lineB (35 :: r)) := by rw [← hr, List.drop_drop]
    have HDD := Lib.hid hdd
    clear hdd hp hm hlen hn hr
    generalize spanN blankB l = n at *
    generalize spanN lineB (35 :: r) = m at *
    generalize (35 :: r) = L at *
    go_enter Tryd.func20, Tryd.ntmps20
    go_wp2_with fail
    refine (H1.out _).mono ?_
    rintro e w1 ⟨rfl, rfl⟩
    go_wp2_with fail
    refine (H2.out _ hs).mono ?_
    rintro e w1 ⟨rfl, s1, o1⟩
    clear h0 h1 h2 hf
    obtain ⟨h0, h1, h2, hf⟩ := s1.cells
    go_wp2_with fail
    refine (H3.out _).mono ?_
    rintro e w2 ⟨rfl, rfl⟩
    go_wp2_with fail
    refine (H4.out _).mono ?_
    rintro e w2 ⟨rfl, rfl⟩
    go_wp2_with fail
    refine (H5.out _ s1).mono ?_
    rintro e w2 ⟨rfl, s2, o2⟩
    go_wp2_with fail
    refine bodyPost_end (results_none rfl _ _ _) rfl ?_
    refine ⟨rfl, ?_, o1.trans o2⟩
    rw [HDD.out] at s2
    rw [show col + ((n + m : Nat) : Int) = col + (n : Int) + (m : Int) by omega]
    exact s2
  · have hp : Lib.hasPrefix (l.drop (spanN blankB l)) [35] = false := by
      cases hx : l.drop (spanN blankB l) with
      | nil => rfl
      | cons y r =>
        have : ¬ y = 35 := fun e => hh ⟨r, by rw [hx, e]⟩
        simp [Lib.hasPrefix, List.isPrefixOf, Ne.symm this]
    rw [hp] at H3
    rw [blankN_plain fun r hr => hh ⟨r, hr⟩]
    clear hp hlen hn
    generalize spanN blankB l = n at *
    generalize l.drop n = L at *
    go_enter Tryd.func20, Tryd.ntmps20
    go_wp2_with fail
    refine (H1.out _).mono ?_
    rintro e w1 ⟨rfl, rfl⟩
    go_wp2_with fail
    refine (H2.out _ hs).mono ?_
    rintro e w1 ⟨rfl, s1, o1⟩
    clear h0 h1 h2 hf
    obtain ⟨h0, h1, h2, hf⟩ := s1.cells
    go_wp2_with fail
    refine (H3.out _).mono ?_
    rintro e w2 ⟨rfl, rfl⟩
    go_wp2_with fail
    refine bodyPost_end (results_none rfl _ _ _) rfl ?_
    exact ⟨rfl, s1, o1⟩

end Go.Proofs.YtgkknjlegfdcnaaDoor.Lx
