/- lex.Lex and lex.Join as their callers take them; the chapter's examples, evaluated. -/
import Derived.Test.YtgkknjlegfdcnaaDoorLexJ
import Derived.Test.YtgkknjlegfdcnaaDoorLexK
namespace Go.Proofs.YtgkknjlegfdcnaaDoor.Lx
open Go.RowKit Go.Shelf Go.Proofs.YtgkknjlegfdcnaaDoor.Cal

/-- A slice of tokens: nil or empty, or a row in memory. -/
def TokSl (w : World) (v : Value) (toks : List Tok) : Prop :=
  ∃ b c, v = .slice b toks.length c ∧ (toks = [] ∨ ∃ g, b = some ⟨g, 0, none⟩ ∧ TokRow w g toks)

theorem rowC_at (l : List Tok) (j i : Nat) (t : Tok) (h : l[j]? = some t) (hi : i < 4) : (rowC l)[j * 4 + i]? = (tokC t)[i]? := by
  induction l generalizing j with
  | nil => simp at h
  | cons x l ih =>
    have hx : (tokC x).length = 4 := rfl
    cases j with
    | zero =>
      simp only [List.getElem?_cons_zero, Option.some.injEq] at h
      subst h
      rw [rowC, List.flatMap_cons, List.getElem?_append_left (by omega)]
      simp
    | succ j =>
      rw [List.getElem?_cons_succ] at h
      rw [rowC, List.flatMap_cons, List.getElem?_append_right (by omega), hx, show (j + 1) * 4 + i - 4 = j * 4 + i by omega]
      exact ih j h

theorem tokSl_of {w : World} {base : Nat} {v : Value} {toks : List Tok} (h : w.ownsRow base 31 4 v toks.length (rowC toks)) : TokSl w v toks := by
  rcases h.2 with ⟨rfl, h0⟩ | ⟨g, cap, cur, rfl, hb, hg, hcap, _, hcs, htk⟩
  · obtain rfl := List.eq_nil_of_length_eq_zero h0
    exact ⟨none, 0, rfl, Or.inl rfl⟩
  · refine ⟨_, cap, rfl, Or.inr ⟨g, rfl, fun j t ht => ?_⟩⟩
    have hj := (List.getElem?_eq_some_iff.1 ht).1
    have key : ∀ i, i < 4 → w.cell? ⟨g, j * 4 + i, none⟩ = (tokC t)[i]? := by
      intro i hi
      rw [← rowC_at toks j i t ht hi, ← htk, List.getElem?_take, if_pos (by omega)]
      simp [World.cell?, hg]
    exact ⟨key 0 (by omega), key 1 (by omega), key 2 (by omega), key 3 (by omega)⟩

theorem TokRow.up {w w' : World} {g : Nat} {l : List Tok} (h : TokRow w g l) (u : Up w w') : TokRow w' g l := fun j t ht =>
  ⟨u.cell (h j t ht).1, u.cell (h j t ht).2.1, u.cell (h j t ht).2.2.1, u.cell (h j t ht).2.2.2⟩
theorem TokSl.up {w w' : World} {v : Value} {l : List Tok} (h : TokSl w v l) (u : Up w w') : TokSl w' v l := by
  obtain ⟨b, c, hv, h2⟩ := h
  refine ⟨b, c, hv, h2.imp id ?_⟩
  rintro ⟨g, hb, hr⟩
  exact ⟨g, hb, hr.up u⟩

/-- 'lex.Lex' at a source of at most 65536 bytes. -/
theorem lex_any (src : List UInt8) (w : World) (hsrc : src.length ≤ 65536) :
    Calls Tryd.prog 7 #[.string (bs src)] w fun e w' => ∃ b c, e = .returned (.tuple #[.slice b (lexT src).length c, .agg #[.int .i64 ((lexE src).line : Int), .int .i64 ((lexE src).col : Int)], .int .i64 ((lexE src).err : Int)]) ∧ (lexT src = [] ∨ ∃ g, b = some ⟨g, 0, none⟩ ∧ TokRow w' g (lexT src)) ∧ Up w w' := by
  refine (lex_short src w hsrc).mono ?_
  rintro e w' ⟨v, rfl, hrow, hu⟩
  obtain ⟨b, c, rfl, h⟩ := tokSl_of hrow
  exact ⟨b, c, rfl, h, hu⟩

theorem lex_is (src : List UInt8) (toks : List Tok) (bad : Bad) (hT : lexT src = toks) (hE : lexE src = bad) (hsrc : src.length ≤ 65536) (w : World) :
    Calls Tryd.prog 7 #[.string (bs src)] w fun e w' => ∃ b c, e = .returned (.tuple #[.slice b toks.length c, .agg #[.int .i64 (bad.line : Int), .int .i64 (bad.col : Int)], .int .i64 (bad.err : Int)]) ∧ (toks = [] ∨ ∃ g, b = some ⟨g, 0, none⟩ ∧ TokRow w' g toks) ∧ Up w w' := by
  subst hT hE; exact lex_any src w hsrc

def ex1 : List UInt8 := [99, 108, 97, 117, 115, 101, 32, 97, 32, 98, 32, 102, 114, 111, 109, 32, 50, 48, 48, 48, 45, 48, 50, 45, 50, 57, 32, 35, 32, 115, 111, 10, 10, 32, 32, 119, 104, 101, 110, 32, 120, 60, 55, 47, 49, 50]
def tk1 : List Tok := [⟨1, [99, 108, 97, 117, 115, 101], 1, 1⟩, ⟨1, [97], 1, 8⟩, ⟨1, [98], 1, 10⟩, ⟨1, [102, 114, 111, 109], 1, 12⟩, ⟨3, [50, 48, 48, 48, 45, 48, 50, 45, 50, 57], 1, 17⟩, ⟨5, [], 1, 27⟩, ⟨1, [119, 104, 101, 110], 3, 3⟩, ⟨1, [120], 3, 8⟩, ⟨4, [60], 3, 9⟩, ⟨2, [55, 47, 49, 50], 3, 10⟩, ⟨5, [], 3, 14⟩]
theorem ex1_T : lexT ex1 = tk1 := by kernel_rfl
theorem ex1_E : lexE ex1 = ⟨0, 0, 0⟩ := by kernel_rfl
def ex2 : List UInt8 := [49, 57, 57, 57, 45, 48, 50, 45, 50, 57]
theorem ex2_T : lexT ex2 = [] := by kernel_rfl
theorem ex2_E : lexE ex2 = ⟨113, 1, 1⟩ := by kernel_rfl
def ex3 : List UInt8 := [49, 50, 97]
theorem ex3_T : lexT ex3 = [] := by kernel_rfl
theorem ex3_E : lexE ex3 = ⟨112, 1, 1⟩ := by kernel_rfl
def ex4 : List UInt8 := [48, 48, 55]
theorem ex4_T : lexT ex4 = [] := by kernel_rfl
theorem ex4_E : lexE ex4 = ⟨112, 1, 1⟩ := by kernel_rfl
def ex5 : List UInt8 := [97, 32, 63, 32, 98]
theorem ex5_T : lexT ex5 = [] := by kernel_rfl
theorem ex5_E : lexE ex5 = ⟨110, 1, 3⟩ := by kernel_rfl
def ex6 : List UInt8 := [55, 32, 47, 32, 49, 50]
def tk6 : List Tok := [⟨2, [55], 1, 1⟩, ⟨4, [47], 1, 3⟩, ⟨2, [49, 50], 1, 5⟩, ⟨5, [], 1, 7⟩]
theorem ex6_T : lexT ex6 = tk6 := by kernel_rfl
theorem ex6_E : lexE ex6 = ⟨0, 0, 0⟩ := by kernel_rfl
def ex7 : List UInt8 := [49, 57, 57, 57, 45, 50]
def tk7 : List Tok := [⟨2, [49, 57, 57, 57], 1, 1⟩, ⟨4, [45], 1, 5⟩, ⟨2, [50], 1, 6⟩, ⟨5, [], 1, 7⟩]
theorem ex7_T : lexT ex7 = tk7 := by kernel_rfl
theorem ex7_E : lexE ex7 = ⟨0, 0, 0⟩ := by kernel_rfl
def ex1J : List UInt8 := [99, 108, 97, 117, 115, 101, 32, 97, 32, 98, 32, 102, 114, 111, 109, 32, 50, 48, 48, 48, 45, 48, 50, 45, 50, 57, 10, 119, 104, 101, 110, 32, 120, 32, 60, 32, 55, 47, 49, 50, 10]
theorem tk1_J : joinT tk1 = ex1J := by kernel_rfl

end Go.Proofs.YtgkknjlegfdcnaaDoor.Lx
