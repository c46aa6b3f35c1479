/- Contracts: number, kind; HasPrefix. -/
import Derived.Test.YtgkknjlegfdcnaaDoorLexC
import Derived.Test.YtgkknjlegfdcnaaDoorLexD
namespace Go.Proofs.YtgkknjlegfdcnaaDoor.Lx
open Go.RowKit Go.Shelf Go.Proofs.YtgkknjlegfdcnaaDoor.Cal

theorem bs_get_is (X : ByteArray) (l : List UInt8) (j : Nat) (h : X = bs l) (hj : j < X.size) : X[j] = l.getD j 0 := by
  subst h; exact bs_get l j hj

theorem ne_byte (c : UInt8) (n : Nat) (hn : n < 256) : ((c.toNat : Int) != (n : Int)) = (c != UInt8.ofNat n) := by
  show (!((c.toNat : Int) == (n : Int))) = !(c == UInt8.ofNat n)
  rw [byte_eq c n hn]

theorem numN_A (l : List UInt8) (n : Nat) (d : UInt8) (r : List UInt8) (hn : spanN digB l = n) (hr : l.drop n = 47 :: d :: r) (hd : digB d = true) :
    numN l = numR (((l.head? != some 48) || (n == 1)) && (d != 48)) (n + (1 + spanN digB (d :: r))) (endsB l (n + (1 + spanN digB (d :: r)))) := by
  unfold numN; subst hn; simp only [hr, hd, if_true]; rfl

theorem numN_B (l : List UInt8) (n : Nat) (hn : spanN digB l = n) (h : ∀ d r, l.drop n = 47 :: d :: r → digB d = false) :
    numN l = numR ((l.head? != some 48) || (n == 1)) n (endsB l n) := by
  unfold numN; subst hn
  simp only []
  split
  · rename_i d r hr
    rw [h d r hr]; rfl
  · rfl

theorem number_any (l : List UInt8) (w : World) (hl : l.length ≤ 100000) (h0 : 0 < l.length) : Calls Tryd.prog 36 #[.string (bs l)] w fun e w' => e = .returned (.tuple #[.int .i64 ((numN l).1 : Int), .int .i64 ((numN l).2 : Int)]) ∧ w = w' := by
  have hsz := bs_size l
  have hs0 : 0 < (bs l).size := by omega
  have hn := spanN_le digB l
  have hx := bs_drop l (spanN digB l)
  have hdl : (l.drop (spanN digB l)).length = l.length - spanN digB l := List.length_drop
  have hes : ((bs l).extract (spanN digB l) (bs l).size).size = (l.drop (spanN digB l)).length := by rw [hx, bs_size]
  have hg : ∀ j (hj : j < ((bs l).extract (spanN digB l) (bs l).size).size), ((bs l).extract (spanN digB l) (bs l).size)[j] = (l.drop (spanN digB l)).getD j 0 := fun j hj => bs_get_is _ _ j hx hj
  have ha1 : ((((bs l)[0]).toNat : Int) != 48) = (l.head? != some 48) := by
    rw [bs_get l 0 hs0]
    match l, h0 with
    | c :: l', _ =>
      show (((c).toNat : Int) != ((48 : Nat) : Int)) = (some c != some 48)
      rw [ne_byte c 48 (by omega)]
      rfl
  have ha2 : (((spanN digB l : Nat) : Int) == 1) = (spanN digB l == 1) := by
    rw [Bool.eq_iff_iff, beq_iff_eq, beq_iff_eq]; omega
  have H1 := Lib.hid (fun w => span_digit l w hl)
  by_cases hA : ∃ d r, l.drop (spanN digB l) = 47 :: d :: r ∧ digB d = true
  · obtain ⟨d, r, hr, hd⟩ := hA
    rw [numN_A l _ d r rfl hr hd, ← ha1, ← ha2]
    have hsp := spanN_le digB (d :: r)
    rw [hr] at hdl hes hg
    simp only [List.length_cons] at hdl hes hsp
    have h1x : 1 < ((bs l).extract (spanN digB l) (bs l).size).size := by omega
    have hg0 := hg 0 (by omega)
    have hg1 := hg 1 h1x
    have h3 : (((((bs l).extract (spanN digB l) (bs l).size)[1]).toNat : Int) != 48) = (d != 48) := by
      rw [hg1]; exact ne_byte d 48 (by omega)
    rw [← h3]
    refine number_A (bs l) (spanN digB l) (spanN digB (d :: r)) _ _ _ _ _ w (by omega) hs0 (by omega) (by omega) (by omega) rfl rfl H1 (Lib.hid fun w => ?_) (Lib.hid fun w => ends_any l _ w (by omega) hl) h1x ?_ (by rw [hg1]; exact hd) rfl
    · have hy : ((bs l).extract (spanN digB l) (bs l).size).extract 1 ((bs l).size - spanN digB l) = bs (d :: r) := by
        have hz := bs_drop (47 :: d :: r) 1
        rw [hx, hr]
        rw [bs_size] at hz
        rw [show (bs l).size - spanN digB l = (47 :: d :: r).length by simp only [List.length_cons]; omega]
        exact hz
      rw [hy]
      exact span_digit (d :: r) w (by simp only [List.length_cons]; omega)
    · rw [hg0]; rfl
  · have hN : ∀ d r, l.drop (spanN digB l) = 47 :: d :: r → digB d = false := by
      intro d r hr
      cases hd : digB d
      · rfl
      · exact absurd ⟨d, r, hr, hd⟩ hA
    rw [numN_B l _ rfl hN, ← ha1, ← ha2]
    refine number_B (bs l) (spanN digB l) _ _ _ w (by omega) hs0 (by omega) rfl rfl H1 (Lib.hid fun w => ends_any l _ w (by omega) hl) ?_
    by_cases h2 : (bs l).size - spanN digB l ≤ 1
    · exact Or.inl (by omega)
    · have h1x : 1 < ((bs l).extract (spanN digB l) (bs l).size).size := by omega
      refine Or.inr ⟨h1x, ?_⟩
      have hg0 := hg 0 (by omega)
      have hg1 := hg 1 h1x
      rw [hg0, hg1]
      rw [hes] at h1x
      match hr : l.drop (spanN digB l), h1x with
      | c :: d :: r, _ =>
        show ((c.toNat : Int) == ((47 : Nat) : Int)) = false ∨ ((c.toNat : Int) == ((47 : Nat) : Int)) = true ∧ digB d = false
        rw [byte_eq c 47 (by omega)]
        cases hc : (c == UInt8.ofNat 47)
        · exact Or.inl rfl
        · refine Or.inr ⟨rfl, hN d r ?_⟩
          rw [hr, eq_of_beq hc]; rfl

end Go.Proofs.YtgkknjlegfdcnaaDoor.Lx
