/- annuitantlaw11.awake. -/
import Derived.Test.YtgkknjlegfdcnaaDoorLexL
namespace Go.Proofs.YtgkknjlegfdcnaaDoor.Lx
open Go.RowKit Go.Shelf Go.Proofs.YtgkknjlegfdcnaaDoor.Cal

theorem box_new (w : World) (x y : Int) : (w.alloc (.cells #[.int .i64 x, .int .i64 y] 26)).cell? ⟨w.heap.size, 0, none⟩ = some (.int .i64 x) ∧ (w.alloc (.cells #[.int .i64 x, .int .i64 y] 26)).cell? ⟨w.heap.size, 1, none⟩ = some (.int .i64 y) := by
  have h := World.alloc_heap_new w (.cells #[.int .i64 x, .int .i64 y] 26)
  constructor <;> (unfold World.cell?; rw [h]; rfl)

def LexH (src : ByteArray) (n : Nat) (l c e : Int) (toks : List Tok) : Prop := ∀ w : World,
  Calls Tryd.prog 7 #[.string src] w fun r w' => ∃ b cp, r = .returned (.tuple #[.slice b n cp, .agg #[.int .i64 l, .int .i64 c], .int .i64 e]) ∧ (toks = [] ∨ ∃ g, b = some ⟨g, 0, none⟩ ∧ TokRow w' g toks) ∧ Up w w'

set_option maxRecDepth 100000 in
set_option maxHeartbeats 4000000 in
theorem awake_any (w : World) : Calls Tryd.prog 5 #[] w fun e w' => e = .returned (.bool true) ∧ Up w w' := by
  have H1 : Hid (LexH ⟨#[99, 108, 97, 117, 115, 101, 32, 97, 32, 98, 32, 102, 114, 111, 109, 32, 50, 48, 48, 48, 45, 48, 50, 45, 50, 57, 32, 35, 32, 115, 111, 10, 10, 32, 32, 119, 104, 101, 110, 32, 120, 60, 55, 47, 49, 50]⟩ 11 0 0 0 tk1) := Lib.hid (fun w => lex_is ex1 tk1 _ ex1_T ex1_E (by decide) w)
  have H2 : Hid (LexH ⟨#[49, 57, 57, 57, 45, 48, 50, 45, 50, 57]⟩ 0 1 1 113 []) := Lib.hid (fun w => lex_is ex2 [] _ ex2_T ex2_E (by decide) w)
  have H3 : Hid (LexH ⟨#[49, 50, 97]⟩ 0 1 1 112 []) := Lib.hid (fun w => lex_is ex3 [] _ ex3_T ex3_E (by decide) w)
  have H4 : Hid (LexH ⟨#[48, 48, 55]⟩ 0 1 1 112 []) := Lib.hid (fun w => lex_is ex4 [] _ ex4_T ex4_E (by decide) w)
  have H5 : Hid (LexH ⟨#[97, 32, 63, 32, 98]⟩ 0 1 3 110 []) := Lib.hid (fun w => lex_is ex5 [] _ ex5_T ex5_E (by decide) w)
  have H6 : Hid (LexH ⟨#[55, 32, 47, 32, 49, 50]⟩ 4 0 0 0 tk6) := Lib.hid (fun w => lex_is ex6 tk6 _ ex6_T ex6_E (by decide) w)
  have H7 : Hid (LexH ⟨#[49, 57, 57, 57, 45, 50]⟩ 4 0 0 0 tk7) := Lib.hid (fun w => lex_is ex7 tk7 _ ex7_T ex7_E (by decide) w)
  have HJ : Hid (∀ g c w, TokRow w g tk1 → Calls Tryd.prog 10 #[.slice (some ⟨g, 0, none⟩) 11 c] w fun e w' => e = .returned (.string ⟨#[99, 108, 97, 117, 115, 101, 32, 97, 32, 98, 32, 102, 114, 111, 109, 32, 50, 48, 48, 48, 45, 48, 50, 45, 50, 57, 10, 119, 104, 101, 110, 32, 120, 32, 60, 32, 55, 47, 49, 50, 10]⟩) ∧ Up w w') :=
    Lib.hid fun g c w hr => by
      have h := join_some g c tk1 w hr (by decide) (by rw [tk1_J]; decide)
      rw [tk1_J] at h
      exact h
  go_enter Tryd.func5, Tryd.ntmps5
  go_wp2_with fail
  refine (H1.out _).mono ?_
  rintro e w1 ⟨b1, c1, rfl, h1, u1⟩
  obtain ⟨g1, rfl, r1⟩ := h1.resolve_left (by decide)
  go_wp2_with fail
  refine (H2.out _).mono ?_
  rintro e w2 ⟨b2, c2, rfl, -, u2⟩
  go_wp2_with fail
  refine (H3.out _).mono ?_
  rintro e w3 ⟨b3, c3, rfl, -, u3⟩
  go_wp2_with fail
  refine (H4.out _).mono ?_
  rintro e w4 ⟨b4, c4, rfl, -, u4⟩
  go_wp2_with fail
  refine (H5.out _).mono ?_
  rintro e w5 ⟨b5, c5, rfl, -, u5⟩
  go_wp2_with fail
  refine (H6.out _).mono ?_
  rintro e w6 ⟨b6, c6, rfl, h6, u6⟩
  obtain ⟨g6, rfl, r6⟩ := h6.resolve_left (by decide)
  go_wp2_with fail
  refine (H7.out _).mono ?_
  rintro e w7 ⟨b7, c7, rfl, h7, u7⟩
  obtain ⟨g7, rfl, r7⟩ := h7.resolve_left (by decide)
  have p1 := box_new w1 0 0
  have p5 := box_new w5 1 3
  generalize hx1 : w1.alloc (.cells #[.int .i64 0, .int .i64 0] 26) = x1 at *
  have v1 : Up w1 x1 := by rw [← hx1]; exact (Up.refl _).alloc _
  have v2 : Up w2 w3 := ((Up.refl w2).alloc _).trans u3
  have v3 : Up w3 w4 := ((Up.refl w3).alloc _).trans u4
  have v4 : Up w4 w5 := ((Up.refl w4).alloc _).trans u5
  generalize hx5 : w5.alloc (.cells #[.int .i64 1, .int .i64 3] 26) = x5 at *
  have v5 : Up w5 x5 := by rw [← hx5]; exact (Up.refl _).alloc _
  have v6 : Up w6 w7 := ((Up.refl w6).alloc _).trans u7
  have x17 : Up x1 w7 := ((((u2.trans v2).trans v3).trans v4).trans v5).trans (u6.trans v6)
  have x57 : Up x5 w7 := u6.trans v6
  have k0 : ∀ o, (w7.alloc o).cell? ⟨g1, 40, none⟩ = some (.int .u8 5) := fun o => ((v1.trans x17).alloc o).cell (r1 10 _ rfl).1
  have k1 : ∀ o, (w7.alloc o).cell? ⟨g1, 41, none⟩ = some (.string ⟨#[]⟩) := fun o => ((v1.trans x17).alloc o).cell (r1 10 _ rfl).2.1
  have k2 : ∀ o, (w7.alloc o).cell? ⟨g1, 42, none⟩ = some (.int .i64 3) := fun o => ((v1.trans x17).alloc o).cell (r1 10 _ rfl).2.2.1
  have k3 : ∀ o, (w7.alloc o).cell? ⟨g1, 43, none⟩ = some (.int .i64 14) := fun o => ((v1.trans x17).alloc o).cell (r1 10 _ rfl).2.2.2
  have k4 : ∀ o, (w7.alloc o).cell? ⟨g1, 16, none⟩ = some (.int .u8 3) := fun o => ((v1.trans x17).alloc o).cell (r1 4 _ rfl).1
  have k5 : ∀ o, (w7.alloc o).cell? ⟨g1, 37, none⟩ = some (.string ⟨#[55, 47, 49, 50]⟩) := fun o => ((v1.trans x17).alloc o).cell (r1 9 _ rfl).2.1
  have k6 : ∀ o, (w7.alloc o).cell? ⟨g7, 9, none⟩ = some (.string ⟨#[50]⟩) := fun o => ((Up.refl w7).alloc o).cell (r7 2 _ rfl).2.1
  have k7 : ∀ o, (w7.alloc o).cell? ⟨w1.heap.size, 0, none⟩ = some (.int .i64 0) := fun o => (x17.alloc o).cell p1.1
  have k8 : ∀ o, (w7.alloc o).cell? ⟨w1.heap.size, 1, none⟩ = some (.int .i64 0) := fun o => (x17.alloc o).cell p1.2
  have k9 : ∀ o, (w7.alloc o).cell? ⟨w5.heap.size, 0, none⟩ = some (.int .i64 1) := fun o => (x57.alloc o).cell p5.1
  have k10 : ∀ o, (w7.alloc o).cell? ⟨w5.heap.size, 1, none⟩ = some (.int .i64 3) := fun o => (x57.alloc o).cell p5.2
  have kr : ∀ o, TokRow (w7.alloc o) g1 tk1 := fun o => r1.up ((v1.trans x17).alloc o)
  go_wp2_with fail
  refine (HJ.out _ _ _ (kr _)).mono ?_
  rintro e w8 ⟨rfl, u8⟩
  go_wp2_with fail
  go_ret
  exact ⟨rfl, u1.trans (((v1.trans x17).alloc _).trans u8)⟩

end Go.Proofs.YtgkknjlegfdcnaaDoor.Lx
