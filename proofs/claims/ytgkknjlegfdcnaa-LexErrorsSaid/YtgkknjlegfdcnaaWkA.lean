/- The walk of LexErrors. -/
import Derived.Test.YtgkknjlegfdcnaaLexV
import Derived.Test.YtgkknjlegfdcnaaLexW
import Derived.Test.YtgkknjlegfdcnaaPlB
import Derived.Deep.RegionHeld3
import Derived.BigQuiet
namespace Go.Proofs.Ytgkknjlegfdcnaa.Lx
open Go.RowKit Go.Shelf Go.Proofs.Ytgkknjlegfdcnaa.Cal

/-- Lex at one source, but for the tokens. -/
def LexP (s : ByteArray) (l c e : Int) : Prop := ∀ w : World,
  Calls Try.prog 11 #[.string s] w fun r w' => ∃ b n cp, r = .returned (.tuple #[.slice b n cp, .agg #[.int .i64 l, .int .i64 c], .int .i64 e]) ∧ Up w w'
def AwakeP : Prop := ∀ w : World, Calls Try.prog 10 #[] w fun e w' => e = .returned (.bool true) ∧ Up w w'

theorem lexP_of {s : ByteArray} {l : List UInt8} {bad : Bad} (hs : s = bs l) (hE : lexE l = bad) (hl : l.length ≤ 65536) : LexP s (bad.line : Int) (bad.col : Int) (bad.err : Int) := by
  subst hs hE
  intro w
  refine (lex_any l w hl).mono ?_
  rintro e w' ⟨b, c, rfl, -, u⟩
  exact ⟨b, _, c, rfl, u⟩

theorem errors_none (B : ByteArray) (w : World) (hs3 : (B.size : Int) ≤ 3000) (HA : Hid AwakeP) (HL : Hid (LexP B 0 0 0)) :
    Calls Try.prog 9 #[.string B] w fun e w' => e = .returned (.bool true) ∧ Up w w' := by
  go_enter Try.func9, Try.ntmps9
  go_wp2_with fail
  refine (HA.out _).mono ?_
  rintro e w1 ⟨rfl, u1⟩
  go_wp2_with fail
  refine (HL.out _).mono ?_
  rintro e w2 ⟨b, n, c, rfl, u2⟩
  have hb := box_new w2 0 0
  go_wp2_with fail
  go_ret
  exact ⟨rfl, (u1.trans u2).alloc _⟩

set_option maxHeartbeats 4000000 in
theorem errors_bad (B : ByteArray) (k : Nat) (a b er : Int) (w : World) (hs3 : (B.size : Int) ≤ 3000) (hk : k < B.size) (he0 : (er == 0) = false)
    (her : (er != 110) = false ∨ (er != 110) = true ∧ (er != 111) = false ∨ (er != 110) = true ∧ (er != 111) = true ∧ (er != 112) = false ∨ (er != 110) = true ∧ (er != 111) = true ∧ (er != 112) = true ∧ (er != 113) = false)
    (HA : Hid AwakeP) (HL : Hid (LexP B a b er))
    (HO : Hid (∀ w, Calls Try.prog 14 #[.string B, .agg #[.int .i64 a, .int .i64 b]] w fun e w' => e = .returned (.int .i64 (k : Int)) ∧ Up w w'))
    (HT : Hid (∀ w, Calls Try.prog 18 #[.string B, .int .i64 (k : Int)] w fun e w' => e = .returned (.agg #[.int .i64 a, .int .i64 b]) ∧ Up w w'))
    (H1 : Hid (LexP (B.extract 0 k) 0 0 0)) (H2 : Hid (LexP (B.extract k B.size) 1 1 er)) :
    Calls Try.prog 9 #[.string B] w fun e w' => e = .returned (.bool true) ∧ Up w w' := by
  have hki : (k : Int) < (B.size : Int) := by omega
  have hd0 : decide ((k : Int) < 0) = false := decide_eq_false (by omega)
  have hd1 : decide (B.size ≤ k) = false := decide_eq_false (by omega)
  rcases her with e0 | ⟨e0, e1⟩ | ⟨e0, e1, e2⟩ | ⟨e0, e1, e2, e3⟩
  all_goals
    go_enter Try.func9, Try.ntmps9
    go_wp2_with fail
    refine (HA.out _).mono ?_
    rintro e w1 ⟨rfl, u1⟩
    go_wp2_with fail
    refine (HL.out _).mono ?_
    rintro e w2 ⟨b2, n2, c2, rfl, u2⟩
    go_wp2_with fail
    refine (HO.out _).mono ?_
    rintro e w3 ⟨rfl, u3⟩
    have c0 : w3.cell? ⟨w2.heap.size, 0, none⟩ = some (.int .i64 a) := u3.cell (box_new w2 a b).1
    have c1 : w3.cell? ⟨w2.heap.size, 1, none⟩ = some (.int .i64 b) := u3.cell (box_new w2 a b).2
    have v2 := (Up.refl w2).alloc (.cells #[.int .i64 a, .int .i64 b] 25)
    go_wp2_with fail
    refine wp_region_held_drew (S := fun w' => Up w3 w' ∧ w'.cell? ⟨w2.heap.size, 0, none⟩ = some (.int .i64 a) ∧ w'.cell? ⟨w2.heap.size, 1, none⟩ = some (.int .i64 b)) (by kernel_rfl) ⟨(Up.refl _).drew, c0, c1⟩ (fun hHeld => ?_)
    (
        refine wpAnyH_take (i := 0) (oi := _) (v := ?_) rfl (by kernel_rfl) (by kernel_rfl) (by kernel_rfl) (fun _ _ _ h => h) ?_ (by assumption) ?_
        rotate_left
        focus
          simp only [List.getElem_toArray, List.getElem_cons_zero]
          first
          | (refine Or.inr ⟨by rfl, ?_⟩; with_reducible rfl)
          | (refine Or.inl ⟨by rfl, ?_⟩; intro w hSw; (try dsimp only at hSw); go_simp; done)
          | (refine Or.inl ⟨by rfl, ?_⟩; intro w hSw; (try dsimp only at hSw); go_simp; with_reducible rfl)
          | fail
        simp only [Act.put, List.setIfInBounds_toArray, List.set_cons_zero, List.set_cons_succ, List.getElem_toArray, List.getElem_cons_zero])
    (
        refine wpAnyH_take (i := 1) (oi := _) (v := ?_) rfl (by kernel_rfl) (by kernel_rfl) (by kernel_rfl) (fun _ _ _ h => h) ?_ (by assumption) ?_
        rotate_left
        focus
          simp only [List.getElem_toArray, List.getElem_cons_succ, List.getElem_cons_zero]
          first
          | (refine Or.inr ⟨by rfl, ?_⟩; with_reducible rfl)
          | (refine Or.inl ⟨by rfl, ?_⟩; intro w hSw; (try dsimp only at hSw); go_simp; done)
          | (refine Or.inl ⟨by rfl, ?_⟩; intro w hSw; (try dsimp only at hSw); go_simp; with_reducible rfl)
          | fail
        simp only [Act.put, List.setIfInBounds_toArray, List.set_cons_zero, List.set_cons_succ, List.getElem_toArray, List.getElem_cons_succ, List.getElem_cons_zero])
    (
        refine wpAnyH_take (i := 2) (oi := _) (v := ?_) rfl (by kernel_rfl) (by kernel_rfl) (by kernel_rfl) (fun _ _ _ h => h) ?_ (by assumption) ?_
        rotate_left
        focus
          simp only [List.getElem_toArray, List.getElem_cons_succ, List.getElem_cons_zero]
          first
          | (refine Or.inr ⟨by rfl, ?_⟩; with_reducible rfl)
          | (refine Or.inl ⟨by rfl, ?_⟩; intro w hSw; (try dsimp only at hSw); go_simp; done)
          | (refine Or.inl ⟨by rfl, ?_⟩; intro w hSw; (try dsimp only at hSw); go_simp; with_reducible rfl)
          | fail
        simp only [Act.put, List.setIfInBounds_toArray, List.set_cons_zero, List.set_cons_succ, List.getElem_toArray, List.getElem_cons_succ, List.getElem_cons_zero])
    (
        refine wpAnyH_take (i := 3) (oi := _) (v := ?_) rfl (by kernel_rfl) (by kernel_rfl) (by kernel_rfl) (fun _ _ _ h => h) ?_ (by assumption) ?_
        rotate_left
        focus
          simp only [List.getElem_toArray, List.getElem_cons_succ, List.getElem_cons_zero]
          first
          | (refine Or.inr ⟨by rfl, ?_⟩; with_reducible rfl)
          | (refine Or.inl ⟨by rfl, ?_⟩; intro w hSw; (try dsimp only at hSw); go_simp; done)
          | (refine Or.inl ⟨by rfl, ?_⟩; intro w hSw; (try dsimp only at hSw); go_simp; with_reducible rfl)
          | fail
        simp only [Act.put, List.setIfInBounds_toArray, List.set_cons_zero, List.set_cons_succ, List.getElem_toArray, List.getElem_cons_succ, List.getElem_cons_zero])
    (
        refine wpAnyH_take (i := 4) (oi := _) (v := ?_) rfl (by kernel_rfl) (by kernel_rfl) (by kernel_rfl) (fun _ _ _ h => h) ?_ (by assumption) ?_
        rotate_left
        focus
          simp only [List.getElem_toArray, List.getElem_cons_succ, List.getElem_cons_zero]
          first
          | (refine Or.inr ⟨by rfl, ?_⟩; with_reducible rfl)
          | (refine Or.inl ⟨by rfl, ?_⟩; intro w hSw; (try dsimp only at hSw); go_simp; done)
          | (refine Or.inl ⟨by rfl, ?_⟩; intro w hSw; (try dsimp only at hSw); go_simp; with_reducible rfl)
          | fail
        simp only [Act.put, List.setIfInBounds_toArray, List.set_cons_zero, List.set_cons_succ, List.getElem_toArray, List.getElem_cons_succ, List.getElem_cons_zero])
    (
        refine wpAnyH_take (i := 5) (oi := _) (v := ?_) rfl (by kernel_rfl) (by kernel_rfl) (by kernel_rfl) (fun _ _ _ h => h) ?_ (by assumption) ?_
        rotate_left
        focus
          simp only [List.getElem_toArray, List.getElem_cons_succ, List.getElem_cons_zero]
          first
          | (refine Or.inr ⟨by rfl, ?_⟩; with_reducible rfl)
          | (refine Or.inl ⟨by rfl, ?_⟩; intro w hSw; (try dsimp only at hSw); go_simp; done)
          | (refine Or.inl ⟨by rfl, ?_⟩; intro w hSw; (try dsimp only at hSw); go_simp; with_reducible rfl)
          | fail
        simp only [Act.put, List.setIfInBounds_toArray, List.set_cons_zero, List.set_cons_succ, List.getElem_toArray, List.getElem_cons_succ, List.getElem_cons_zero])
    (
        refine wpAnyH_take (i := 6) (oi := _) (v := ?_) rfl (by kernel_rfl) (by kernel_rfl) (by kernel_rfl) (fun _ _ _ h => h) ?_ (by assumption) ?_
        rotate_left
        focus
          simp only [List.getElem_toArray, List.getElem_cons_succ, List.getElem_cons_zero]
          first
          | (refine Or.inr ⟨by rfl, ?_⟩; with_reducible rfl)
          | (refine Or.inl ⟨by rfl, ?_⟩; intro w hSw; (try dsimp only at hSw); go_simp; done)
          | (refine Or.inl ⟨by rfl, ?_⟩; intro w hSw; (try dsimp only at hSw); go_simp; with_reducible rfl)
          | fail
        simp only [Act.put, List.setIfInBounds_toArray, List.set_cons_zero, List.set_cons_succ, List.getElem_toArray, List.getElem_cons_succ, List.getElem_cons_zero])
    (
        refine wpAnyH_take (i := 7) (oi := _) (v := ?_) rfl (by kernel_rfl) (by kernel_rfl) (by kernel_rfl) (fun _ _ _ h => h) ?_ (by assumption) ?_
        rotate_left
        focus
          simp only [List.getElem_toArray, List.getElem_cons_succ, List.getElem_cons_zero]
          first
          | (refine Or.inr ⟨by rfl, ?_⟩; with_reducible rfl)
          | (refine Or.inl ⟨by rfl, ?_⟩; intro w hSw; (try dsimp only at hSw); go_simp; done)
          | (refine Or.inl ⟨by rfl, ?_⟩; intro w hSw; (try dsimp only at hSw); go_simp; with_reducible rfl)
          | fail
        simp only [Act.put, List.setIfInBounds_toArray, List.set_cons_zero, List.set_cons_succ, List.getElem_toArray, List.getElem_cons_succ, List.getElem_cons_zero])
    (
        refine wpAnyH_take (i := 8) (oi := _) (v := ?_) rfl (by kernel_rfl) (by kernel_rfl) (by kernel_rfl) (fun _ _ _ h => h) ?_ (by assumption) ?_
        rotate_left
        focus
          simp only [List.getElem_toArray, List.getElem_cons_succ, List.getElem_cons_zero]
          first
          | (refine Or.inr ⟨by rfl, ?_⟩; with_reducible rfl)
          | (refine Or.inl ⟨by rfl, ?_⟩; intro w hSw; (try dsimp only at hSw); go_simp; done)
          | (refine Or.inl ⟨by rfl, ?_⟩; intro w hSw; (try dsimp only at hSw); go_simp; with_reducible rfl)
          | fail
        simp only [Act.put, List.setIfInBounds_toArray, List.set_cons_zero, List.set_cons_succ, List.getElem_toArray, List.getElem_cons_succ, List.getElem_cons_zero])
    (
        refine wpAnyH_take (i := 9) (oi := _) (v := ?_) rfl (by kernel_rfl) (by kernel_rfl) (by kernel_rfl) (fun _ _ _ h => h) ?_ (by assumption) ?_
        rotate_left
        focus
          simp only [List.getElem_toArray, List.getElem_cons_succ, List.getElem_cons_zero]
          first
          | (refine Or.inr ⟨by rfl, ?_⟩; with_reducible rfl)
          | (refine Or.inl ⟨by rfl, ?_⟩; intro w hSw; (try dsimp only at hSw); go_simp; done)
          | (refine Or.inl ⟨by rfl, ?_⟩; intro w hSw; (try dsimp only at hSw); go_simp; with_reducible rfl)
          | fail
        simp only [Act.put, List.setIfInBounds_toArray, List.set_cons_zero, List.set_cons_succ, List.getElem_toArray, List.getElem_cons_succ, List.getElem_cons_zero])
    (
        refine wpAnyH_take (i := 10) (oi := _) (v := ?_) rfl (by kernel_rfl) (by kernel_rfl) (by kernel_rfl) (fun _ _ _ h => h) ?_ (by assumption) ?_
        rotate_left
        focus
          simp only [List.getElem_toArray, List.getElem_cons_succ, List.getElem_cons_zero]
          first
          | (refine Or.inr ⟨by rfl, ?_⟩; with_reducible rfl)
          | (refine Or.inl ⟨by rfl, ?_⟩; intro w hSw; (try dsimp only at hSw); go_simp; done)
          | (refine Or.inl ⟨by rfl, ?_⟩; intro w hSw; (try dsimp only at hSw); go_simp; with_reducible rfl)
          | fail
        simp only [Act.put, List.setIfInBounds_toArray, List.set_cons_zero, List.set_cons_succ, List.getElem_toArray, List.getElem_cons_succ, List.getElem_cons_zero])
    (
        refine wpAnyH_take (i := 11) (oi := _) (v := ?_) rfl (by kernel_rfl) (by kernel_rfl) (by kernel_rfl) (fun _ _ _ h => h) ?_ (by assumption) ?_
        rotate_left
        focus
          simp only [List.getElem_toArray, List.getElem_cons_succ, List.getElem_cons_zero]
          first
          | (refine Or.inr ⟨by rfl, ?_⟩; with_reducible rfl)
          | (refine Or.inl ⟨by rfl, ?_⟩; intro w hSw; (try dsimp only at hSw); go_simp; done)
          | (refine Or.inl ⟨by rfl, ?_⟩; intro w hSw; (try dsimp only at hSw); go_simp; with_reducible rfl)
          | fail
        simp only [Act.put, List.setIfInBounds_toArray, List.set_cons_zero, List.set_cons_succ, List.getElem_toArray, List.getElem_cons_succ, List.getElem_cons_zero])
    (
        refine wpAnyH_take (i := 12) (oi := _) (v := ?_) rfl (by kernel_rfl) (by kernel_rfl) (by kernel_rfl) (fun _ _ _ h => h) ?_ (by assumption) ?_
        rotate_left
        focus
          simp only [List.getElem_toArray, List.getElem_cons_succ, List.getElem_cons_zero]
          first
          | (refine Or.inr ⟨by rfl, ?_⟩; with_reducible rfl)
          | (refine Or.inl ⟨by rfl, ?_⟩; intro w hSw; (try dsimp only at hSw); go_simp; done)
          | (refine Or.inl ⟨by rfl, ?_⟩; intro w hSw; (try dsimp only at hSw); go_simp; with_reducible rfl)
          | fail
        simp only [Act.put, List.setIfInBounds_toArray, List.set_cons_zero, List.set_cons_succ, List.getElem_toArray, List.getElem_cons_succ, List.getElem_cons_zero])
    (
        refine wpAnyH_take (i := 13) (oi := _) (v := ?_) rfl (by kernel_rfl) (by kernel_rfl) (by kernel_rfl) (fun _ _ _ h => h) ?_ (by assumption) ?_
        rotate_left
        focus
          simp only [List.getElem_toArray, List.getElem_cons_succ, List.getElem_cons_zero]
          first
          | (refine Or.inr ⟨by rfl, ?_⟩; with_reducible rfl)
          | (refine Or.inl ⟨by rfl, ?_⟩; intro w hSw; (try dsimp only at hSw); go_simp; done)
          | (refine Or.inl ⟨by rfl, ?_⟩; intro w hSw; (try dsimp only at hSw); go_simp; with_reducible rfl)
          | fail
        simp only [Act.put, List.setIfInBounds_toArray, List.set_cons_zero, List.set_cons_succ, List.getElem_toArray, List.getElem_cons_succ, List.getElem_cons_zero])
    (
        refine wpAnyH_take (i := 14) (oi := _) (v := ?_) rfl (by kernel_rfl) (by kernel_rfl) (by kernel_rfl) (fun _ _ _ h => h) ?_ (by assumption) ?_
        rotate_left
        focus
          simp only [List.getElem_toArray, List.getElem_cons_succ, List.getElem_cons_zero]
          first
          | (refine Or.inr ⟨by rfl, ?_⟩; with_reducible rfl)
          | (refine Or.inl ⟨by rfl, ?_⟩; intro w hSw; (try dsimp only at hSw); go_simp; done)
          | (refine Or.inl ⟨by rfl, ?_⟩; intro w hSw; (try dsimp only at hSw); go_simp; with_reducible rfl)
          | fail
        simp only [Act.put, List.setIfInBounds_toArray, List.set_cons_zero, List.set_cons_succ, List.getElem_toArray, List.getElem_cons_succ, List.getElem_cons_zero])
    (
        refine wpAnyH_take (i := 15) (oi := _) (v := ?_) rfl (by kernel_rfl) (by kernel_rfl) (by kernel_rfl) (fun _ _ _ h => h) ?_ (by assumption) ?_
        rotate_left
        focus
          simp only [List.getElem_toArray, List.getElem_cons_succ, List.getElem_cons_zero]
          first
          | (refine Or.inr ⟨by rfl, ?_⟩; with_reducible rfl)
          | (refine Or.inl ⟨by rfl, ?_⟩; intro w hSw; (try dsimp only at hSw); go_simp; done)
          | (refine Or.inl ⟨by rfl, ?_⟩; intro w hSw; (try dsimp only at hSw); go_simp; with_reducible rfl)
          | fail
        simp only [Act.put, List.setIfInBounds_toArray, List.set_cons_zero, List.set_cons_succ, List.getElem_toArray, List.getElem_cons_succ, List.getElem_cons_zero])
    (
        refine wpAnyH_take (i := 16) (oi := _) (v := ?_) rfl (by kernel_rfl) (by kernel_rfl) (by kernel_rfl) (fun _ _ _ h => h) ?_ (by assumption) ?_
        rotate_left
        focus
          simp only [List.getElem_toArray, List.getElem_cons_succ, List.getElem_cons_zero]
          first
          | (refine Or.inr ⟨by rfl, ?_⟩; with_reducible rfl)
          | (refine Or.inl ⟨by rfl, ?_⟩; intro w hSw; (try dsimp only at hSw); go_simp; done)
          | (refine Or.inl ⟨by rfl, ?_⟩; intro w hSw; (try dsimp only at hSw); go_simp; with_reducible rfl)
          | fail
        simp only [Act.put, List.setIfInBounds_toArray, List.set_cons_zero, List.set_cons_succ, List.getElem_toArray, List.getElem_cons_succ, List.getElem_cons_zero])
    (
        refine wpAnyH_take (i := 17) (oi := _) (v := ?_) rfl (by kernel_rfl) (by kernel_rfl) (by kernel_rfl) (fun _ _ _ h => h) ?_ (by assumption) ?_
        rotate_left
        focus
          simp only [List.getElem_toArray, List.getElem_cons_succ, List.getElem_cons_zero]
          first
          | (refine Or.inr ⟨by rfl, ?_⟩; with_reducible rfl)
          | (refine Or.inl ⟨by rfl, ?_⟩; intro w hSw; (try dsimp only at hSw); go_simp; done)
          | (refine Or.inl ⟨by rfl, ?_⟩; intro w hSw; (try dsimp only at hSw); go_simp; with_reducible rfl)
          | fail
        simp only [Act.put, List.setIfInBounds_toArray, List.set_cons_zero, List.set_cons_succ, List.getElem_toArray, List.getElem_cons_succ, List.getElem_cons_zero])
    (
        refine wpAnyH_take (i := 18) (oi := _) (v := ?_) rfl (by kernel_rfl) (by kernel_rfl) (by kernel_rfl) (fun _ _ _ h => h) ?_ (by assumption) ?_
        rotate_left
        focus
          simp only [List.getElem_toArray, List.getElem_cons_succ, List.getElem_cons_zero]
          first
          | (refine Or.inr ⟨by rfl, ?_⟩; with_reducible rfl)
          | (refine Or.inl ⟨by rfl, ?_⟩; intro w hSw; (try dsimp only at hSw); go_simp; done)
          | (refine Or.inl ⟨by rfl, ?_⟩; intro w hSw; (try dsimp only at hSw); go_simp; with_reducible rfl)
          | fail
        simp only [Act.put, List.setIfInBounds_toArray, List.set_cons_zero, List.set_cons_succ, List.getElem_toArray, List.getElem_cons_succ, List.getElem_cons_zero])
    (
        refine wpAnyH_take (i := 19) (oi := _) (v := ?_) rfl (by kernel_rfl) (by kernel_rfl) (by kernel_rfl) (fun _ _ _ h => h) ?_ (by assumption) ?_
        rotate_left
        focus
          simp only [List.getElem_toArray, List.getElem_cons_succ, List.getElem_cons_zero]
          first
          | (refine Or.inr ⟨by rfl, ?_⟩; with_reducible rfl)
          | (refine Or.inl ⟨by rfl, ?_⟩; intro w hSw; (try dsimp only at hSw); go_simp; done)
          | (refine Or.inl ⟨by rfl, ?_⟩; intro w hSw; (try dsimp only at hSw); go_simp; with_reducible rfl)
          | fail
        simp only [Act.put, List.setIfInBounds_toArray, List.set_cons_zero, List.set_cons_succ, List.getElem_toArray, List.getElem_cons_succ, List.getElem_cons_zero])
    (
        refine wpAnyH_take (i := 20) (oi := _) (v := ?_) rfl (by kernel_rfl) (by kernel_rfl) (by kernel_rfl) (fun _ _ _ h => h) ?_ (by assumption) ?_
        rotate_left
        focus
          simp only [List.getElem_toArray, List.getElem_cons_succ, List.getElem_cons_zero]
          first
          | (refine Or.inr ⟨by rfl, ?_⟩; with_reducible rfl)
          | (refine Or.inl ⟨by rfl, ?_⟩; intro w hSw; (try dsimp only at hSw); go_simp; done)
          | (refine Or.inl ⟨by rfl, ?_⟩; intro w hSw; (try dsimp only at hSw); go_simp; with_reducible rfl)
          | fail
        simp only [Act.put, List.setIfInBounds_toArray, List.set_cons_zero, List.set_cons_succ, List.getElem_toArray, List.getElem_cons_succ, List.getElem_cons_zero])
    (
        refine wpAnyH_take (i := 21) (oi := _) (v := ?_) rfl (by kernel_rfl) (by kernel_rfl) (by kernel_rfl) (fun _ _ _ h => h) ?_ (by assumption) ?_
        rotate_left
        focus
          simp only [List.getElem_toArray, List.getElem_cons_succ, List.getElem_cons_zero]
          first
          | (refine Or.inr ⟨by rfl, ?_⟩; with_reducible rfl)
          | (refine Or.inl ⟨by rfl, ?_⟩; intro w hSw; (try dsimp only at hSw); go_simp; done)
          | (refine Or.inl ⟨by rfl, ?_⟩; intro w hSw; (try dsimp only at hSw); go_simp; with_reducible rfl)
          | fail
        simp only [Act.put, List.setIfInBounds_toArray, List.set_cons_zero, List.set_cons_succ, List.getElem_toArray, List.getElem_cons_succ, List.getElem_cons_zero])
    (
        refine wpAnyH_take (i := 22) (oi := _) (v := ?_) rfl (by kernel_rfl) (by kernel_rfl) (by kernel_rfl) (fun _ _ _ h => h) ?_ (by assumption) ?_
        rotate_left
        focus
          simp only [List.getElem_toArray, List.getElem_cons_succ, List.getElem_cons_zero]
          first
          | (refine Or.inr ⟨by rfl, ?_⟩; with_reducible rfl)
          | (refine Or.inl ⟨by rfl, ?_⟩; intro w hSw; (try dsimp only at hSw); go_simp; done)
          | (refine Or.inl ⟨by rfl, ?_⟩; intro w hSw; (try dsimp only at hSw); go_simp; with_reducible rfl)
          | fail
        simp only [Act.put, List.setIfInBounds_toArray, List.set_cons_zero, List.set_cons_succ, List.getElem_toArray, List.getElem_cons_succ, List.getElem_cons_zero])
    (
        refine wpAnyH_take (i := 23) (oi := _) (v := ?_) rfl (by kernel_rfl) (by kernel_rfl) (by kernel_rfl) (fun _ _ _ h => h) ?_ (by assumption) ?_
        rotate_left
        focus
          simp only [List.getElem_toArray, List.getElem_cons_succ, List.getElem_cons_zero]
          first
          | (refine Or.inr ⟨by rfl, ?_⟩; with_reducible rfl)
          | (refine Or.inl ⟨by rfl, ?_⟩; intro w hSw; (try dsimp only at hSw); go_simp; done)
          | (refine Or.inl ⟨by rfl, ?_⟩; intro w hSw; (try dsimp only at hSw); go_simp; with_reducible rfl)
          | fail
        simp only [Act.put, List.setIfInBounds_toArray, List.set_cons_zero, List.set_cons_succ, List.getElem_toArray, List.getElem_cons_succ, List.getElem_cons_zero])
    (
        refine wpAnyH_take (i := 24) (oi := _) (v := ?_) rfl (by kernel_rfl) (by kernel_rfl) (by kernel_rfl) (fun _ _ _ h => h) ?_ (by assumption) ?_
        rotate_left
        focus
          simp only [List.getElem_toArray, List.getElem_cons_succ, List.getElem_cons_zero]
          first
          | (refine Or.inr ⟨by rfl, ?_⟩; with_reducible rfl)
          | (refine Or.inl ⟨by rfl, ?_⟩; intro w hSw; (try dsimp only at hSw); go_simp; done)
          | (refine Or.inl ⟨by rfl, ?_⟩; intro w hSw; (try dsimp only at hSw); go_simp; with_reducible rfl)
          | fail
        simp only [Act.put, List.setIfInBounds_toArray, List.set_cons_zero, List.set_cons_succ, List.getElem_toArray, List.getElem_cons_succ, List.getElem_cons_zero])
    (
        refine wpAnyH_take (i := 25) (oi := _) (v := ?_) rfl (by kernel_rfl) (by kernel_rfl) (by kernel_rfl) (fun _ _ _ h => h) ?_ (by assumption) ?_
        rotate_left
        focus
          simp only [List.getElem_toArray, List.getElem_cons_succ, List.getElem_cons_zero]
          first
          | (refine Or.inr ⟨by rfl, ?_⟩; with_reducible rfl)
          | (refine Or.inl ⟨by rfl, ?_⟩; intro w hSw; (try dsimp only at hSw); go_simp; done)
          | (refine Or.inl ⟨by rfl, ?_⟩; intro w hSw; (try dsimp only at hSw); go_simp; with_reducible rfl)
          | fail
        simp only [Act.put, List.setIfInBounds_toArray, List.set_cons_zero, List.set_cons_succ, List.getElem_toArray, List.getElem_cons_succ, List.getElem_cons_zero])
    (
        refine wpAnyH_take (i := 26) (oi := _) (v := ?_) rfl (by kernel_rfl) (by kernel_rfl) (by kernel_rfl) (fun _ _ _ h => h) ?_ (by assumption) ?_
        rotate_left
        focus
          simp only [List.getElem_toArray, List.getElem_cons_succ, List.getElem_cons_zero]
          first
          | (refine Or.inr ⟨by rfl, ?_⟩; with_reducible rfl)
          | (refine Or.inl ⟨by rfl, ?_⟩; intro w hSw; (try dsimp only at hSw); go_simp; done)
          | (refine Or.inl ⟨by rfl, ?_⟩; intro w hSw; (try dsimp only at hSw); go_simp; with_reducible rfl)
          | fail
        simp only [Act.put, List.setIfInBounds_toArray, List.set_cons_zero, List.set_cons_succ, List.getElem_toArray, List.getElem_cons_succ, List.getElem_cons_zero])
    (
        refine wpAnyH_take (i := 28) (oi := _) (v := ?_) rfl (by kernel_rfl) (by kernel_rfl) (by kernel_rfl) (fun _ _ _ h => h) ?_ (by assumption) ?_
        rotate_left
        focus
          simp only [List.getElem_toArray, List.getElem_cons_succ, List.getElem_cons_zero]
          first
          | (refine Or.inr ⟨by rfl, ?_⟩; with_reducible rfl)
          | (refine Or.inl ⟨by rfl, ?_⟩; intro w hSw; (try dsimp only at hSw); go_simp; done)
          | (refine Or.inl ⟨by rfl, ?_⟩; intro w hSw; (try dsimp only at hSw); go_simp; with_reducible rfl)
          | fail
        simp only [Act.put, List.setIfInBounds_toArray, List.set_cons_zero, List.set_cons_succ, List.getElem_toArray, List.getElem_cons_succ, List.getElem_cons_zero])
    refine wpAnyH_ready (rs := [27]) (by kernel_rfl) (by simp) ?_
    refine AllReadyH.cons (o := _) rfl (fun K hK => ?_) AllReadyH.nil
    simp only [List.getElem_toArray, List.getElem_cons_succ, List.getElem_cons_zero]
    go_simp
    go_at_call 18
    refine (HT.out _).mono ?_
    rintro e w4 ⟨rfl, uu⟩
    refine hK.out _ _ ⟨Up.trans hHeld.1 uu, uu.cell hHeld.2.1, uu.cell hHeld.2.2⟩ (fun hF => ?_)
    clear hK K hHeld
    (
        refine wpAnyH_take (i := 29) (oi := _) (v := ?_) rfl (by kernel_rfl) (by kernel_rfl) (by kernel_rfl) (fun _ _ _ h => h) ?_ (by assumption) ?_
        rotate_left
        focus
          simp only [List.getElem_toArray, List.getElem_cons_succ, List.getElem_cons_zero]
          first
          | (refine Or.inr ⟨by rfl, ?_⟩; with_reducible rfl)
          | (refine Or.inl ⟨by rfl, ?_⟩; intro w hSw; (try dsimp only at hSw); go_simp; done)
          | (refine Or.inl ⟨by rfl, ?_⟩; intro w hSw; (try dsimp only at hSw); go_simp; with_reducible rfl)
          | fail
        simp only [Act.put, List.setIfInBounds_toArray, List.set_cons_zero, List.set_cons_succ, List.getElem_toArray, List.getElem_cons_succ, List.getElem_cons_zero])
    (
        refine wpAnyH_take (i := 30) (oi := _) (v := ?_) rfl (by kernel_rfl) (by kernel_rfl) (by kernel_rfl) (fun _ _ _ h => h) ?_ (by assumption) ?_
        rotate_left
        focus
          simp only [List.getElem_toArray, List.getElem_cons_succ, List.getElem_cons_zero]
          first
          | (refine Or.inr ⟨by rfl, ?_⟩; with_reducible rfl)
          | (refine Or.inl ⟨by rfl, ?_⟩; intro w hSw; (try dsimp only at hSw); go_simp; done)
          | (refine Or.inl ⟨by rfl, ?_⟩; intro w hSw; (try dsimp only at hSw); go_simp; with_reducible rfl)
          | fail
        simp only [Act.put, List.setIfInBounds_toArray, List.set_cons_zero, List.set_cons_succ, List.getElem_toArray, List.getElem_cons_succ, List.getElem_cons_zero])
    refine wpAnyH_done (by kernel_rfl) ?_ _
    go_wp2_with fail
    refine (H1.out _).mono ?_
    rintro e w5 ⟨b5, n5, c5, rfl, u5⟩
    go_wp2_with fail
    refine (H2.out _).mono ?_
    rintro e w6 ⟨b6, n6, c6, rfl, u6⟩
    have hb := box_new w6 1 1
    go_wp2_with fail
    go_ret
    exact ⟨rfl, (((u1.trans u2).trans v2).trans ((u3.trans hF.1).trans u5)).trans ((((Up.refl _).alloc _).trans u6).alloc _)⟩

theorem errors_short (l : List UInt8) (w : World) (hl : l.length ≤ 3000) :
    Calls Try.prog 9 #[.string (bs l)] w fun e w' => e = .returned (.bool true) ∧ Up w w' := by
  have hsz := bs_size l
  have HA : Hid AwakeP := Lib.hid awake_any
  by_cases he : (lexE l).err = 0
  · have hE := lexE_none (l := l) (by omega) (lexS_none (by omega) he)
    exact errors_none _ w (by omega) HA (Lib.hid (lexP_of rfl hE (by omega)))
  · obtain ⟨k, hA, h1, h2, h3⟩ := lex_err_split l (by omega) he
    have hlt := hA.lt
    refine errors_bad (bs l) k (lineN l k) (colZ l k) ((lexE l).err : Int) w (by omega) (by omega) (by rcases h3 with h | h | h | h <;> rw [h] <;> decide) (by rcases h3 with h | h | h | h <;> rw [h] <;> decide) HA ?_ ?_ ?_ ?_ ?_
    · have := lexP_of (s := bs l) rfl (rfl : lexE l = lexE l) (by omega)
      rw [hA.line, hA.col] at this
      exact Lib.hid this
    · exact Lib.hid fun w => offset_found l _ _ k w hl (by omega) rfl rfl (fun i hi => place_ne l i k hi (by omega))
    · exact Lib.hid fun w => at_pos l k k w hl (by omega) (by omega) (by omega) (Or.inl rfl)
    · exact Lib.hid (lexP_of (bs_take l k) h1 (by rw [List.length_take]; omega))
    · exact Lib.hid (lexP_of (bs_drop l k) h2 (by rw [List.length_drop]; omega))

theorem errors_walk (s : ByteArray) (w : World) (_h : s.size ≤ 9223372036854775807) :
    Calls Try.prog 9 #[.string s] w fun e w' => e = .returned (.bool true) ∧ Below w.heap.size w w' := by
  by_cases hs : s.size ≤ 3000
  · rw [bs_of s]
    exact errors_short _ w (by rw [Array.length_toList]; exact hs)
  · have HA : Hid AwakeP := Lib.hid awake_any
    have hs3 : 3000 < (s.size : Int) := by omega
    go_enter Try.func9, Try.ntmps9
    go_wp2_with fail
    refine (HA.out _).mono ?_
    rintro e w2 ⟨rfl, u2⟩
    go_wp2_with fail
    go_ret
    exact ⟨rfl, u2⟩

end Go.Proofs.Ytgkknjlegfdcnaa.Lx
