/- LexNumbers: the three sources of the law. -/
import Derived.Test.YtgkknjlegfdcnaaWkD
namespace Go.Proofs.Ytgkknjlegfdcnaa.Lx
open Go.RowKit Go.Shelf Go.Proofs.Ytgkknjlegfdcnaa.Cal

theorem lexQ_of {s : ByteArray} {l : List UInt8} {n e : Nat} (hs : s = bs l) (hE : (lexE l).err = e) (hT : (lexT l).length = n) (hl : l.length ≤ 65536) : LexQ s n (e : Int) := by
  subst hs hE hT
  refine ⟨((lexE l).line : Int), ((lexE l).col : Int), fun w => (lex_any l w hl).mono ?_⟩
  rintro r w' ⟨b, c, rfl, -, u⟩
  exact ⟨b, c, rfl, u⟩

theorem lexV_of {s : ByteArray} {l : List UInt8} {t2 : Tok} {x y : Nat} (hs : s = bs l) (hE : (lexE l).err = 0) (hT : lexT l = [⟨2, l, x, y⟩, t2]) (hl : l.length ≤ 65536) : LexV s := by
  subst hs
  refine ⟨((lexE l).line : Int), ((lexE l).col : Int), fun w => ?_⟩
  have h := lex_any l w hl
  rw [hT, hE] at h
  refine h.mono ?_
  rintro r w' ⟨b, c, rfl, h2, u⟩
  obtain ⟨g, rfl, hr⟩ := h2.resolve_left (by simp)
  exact ⟨g, c, rfl, (hr 0 _ rfl).1, (hr 0 _ rfl).2.1, u⟩

theorem bs_slash (a b : List UInt8) : bs a ++ ⟨#[47]⟩ ++ bs b = bs (a ++ 47 :: b) := by
  rw [show (⟨#[47]⟩ : ByteArray) = bs [47] from rfl, bs_cat, bs_cat, List.append_assoc]; rfl
theorem bs_slashes (a b : List UInt8) : bs a ++ ⟨#[32, 47, 32]⟩ ++ bs b = bs (a ++ 32 :: 47 :: 32 :: b) := by
  rw [show (⟨#[32, 47, 32]⟩ : ByteArray) = bs [32, 47, 32] from rfl, bs_cat, bs_cat, List.append_assoc]; rfl

theorem num_case (c : UInt8) (r : List UInt8) (b : Nat) (h : ∀ x ∈ c :: r, digB x = true) (hl : (c :: r).length ≤ 300) (hb : b < 18446744073709551616) (hp : 0 < (bs (c :: r)).size) : NumCase (bs (c :: r)) (bs (decD b)) b hp := by
  obtain ⟨d, q, hd, hd0, hq0⟩ := decD_head b
  have hdl := decD_len b hb
  have hdd := decD_digits b
  rw [hd] at hdl hdd ⊢
  have hls : (c :: r).length = r.length + 1 := rfl
  have hlq : (d :: q).length = q.length + 1 := rfl
  have hlf : (c :: r ++ 47 :: d :: q).length = (c :: r).length + ((d :: q).length + 1) := by simp only [List.length_append, List.length_cons]
  have hlg : (c :: r ++ 32 :: 47 :: 32 :: d :: q).length = (c :: r).length + ((d :: q).length + 3) := by simp only [List.length_append, List.length_cons]
  have hsS := bs_size (c :: r)
  have hsB := bs_size (d :: q)
  have hfq : fineB (d :: q) = true := by
    by_cases hb0 : b = 0
    · rw [hq0 hb0]; simp [fineB]
    · have : d ≠ 48 := fun e => hb0 (hd0.1 e)
      simp [fineB, this]
  obtain ⟨a1, a2⟩ := digits_lex c r h (by omega)
  obtain ⟨f1, f2⟩ := frac_lex c r d q h hdd (by omega)
  obtain ⟨g1, g2⟩ := three_lex c r d q h hdd (by omega) hfq (by omega)
  have hto : (bs (c :: r)).toList = c :: r := bs_toList _
  have h0 : (bs (c :: r))[0] = c := bs_get _ 0 hp
  have e1 := bs_slash (c :: r) (d :: q)
  have e2 := bs_slashes (c :: r) (d :: q)
  have hne : ((c.toNat : Int) != 48) = (c != 48) := by
    by_cases hc : c = 48
    · rw [hc]; rfl
    · have h1 : (c != 48) = true := by simpa using hc
      rw [h1]
      cases hx : ((c.toNat : Int) != 48)
      · exact absurd (by apply UInt8.toNat_inj.1; show _ = 48; have : (c.toNat : Int) = 48 := by simpa using hx
                         omega) hc
      · rfl
  by_cases hfine : fineB (c :: r) = true
  · have hF : Fine (bs (c :: r)) hp := by
      unfold Fine
      rw [hto]
      by_cases h48 : (c :: r == [48]) = true
      · exact Or.inl h48
      · refine Or.inr ⟨by simpa using h48, ?_⟩
        rw [h0, hne]
        by_cases hc : c = 48
        · refine absurd ?_ h48
          rw [hc] at hfine ⊢
          have hr : r = [] := by simpa [fineB] using hfine
          rw [hr]; rfl
        · simpa using hc
    by_cases h200 : (c :: r).length ≤ 200
    · obtain ⟨ae, at'⟩ := a1 ⟨hfine, h200⟩
      obtain ⟨ge, gt⟩ := g1 ⟨hfine, h200⟩
      have V1 : LexV (bs (c :: r)) := lexV_of rfl ae at' (by omega)
      have Q3 : LexQ (bs (c :: r) ++ ⟨#[32, 47, 32]⟩ ++ bs (d :: q)) 4 0 := lexQ_of e2 ge gt (by omega)
      by_cases hf2 : (c :: r ++ 47 :: d :: q).length ≤ 200
      · by_cases hb0 : b = 0
        · have hd48 : d = 48 := hd0.2 hb0
          obtain ⟨fe, ft⟩ := f2 (by rintro ⟨hx, -⟩; rw [hd48] at hx; simp at hx)
          refine Or.inr (Or.inr (Or.inr (Or.inl ⟨hF, by omega, by omega, by rw [hb0]; rfl, V1, lexQ_of e1 fe (by rw [ft]; rfl) (by omega), Q3⟩)))
        · have hd48 : d ≠ 48 := fun e => hb0 (hd0.1 e)
          obtain ⟨fe, ft⟩ := f1 ⟨by rw [hfine]; simpa using hd48, hf2⟩
          refine Or.inr (Or.inr (Or.inr (Or.inr ⟨hF, by omega, by omega, by simpa using hb0, V1, lexV_of e1 fe ft (by omega), Q3⟩)))
      · obtain ⟨fe, ft⟩ := f2 (by rintro ⟨-, hx⟩; exact hf2 hx)
        exact Or.inr (Or.inr (Or.inl ⟨hF, by omega, by omega, V1, lexQ_of e1 fe (by rw [ft]; rfl) (by omega), Q3⟩))
    · obtain ⟨ae, at'⟩ := a2 (by rintro ⟨-, hx⟩; exact h200 hx)
      obtain ⟨ge, gt⟩ := g2 (by rintro ⟨-, hx⟩; exact h200 hx)
      obtain ⟨fe, ft⟩ := f2 (by rintro ⟨-, hx⟩; exact h200 (by omega))
      exact Or.inr (Or.inl ⟨hF, by omega, lexQ_of rfl ae (by rw [at']; rfl) (by omega), lexQ_of e1 fe (by rw [ft]; rfl) (by omega), lexQ_of e2 ge (by rw [gt]; rfl) (by omega)⟩)
  · obtain ⟨ae, at'⟩ := a2 (by rintro ⟨hx, -⟩; exact hfine hx)
    obtain ⟨ge, gt⟩ := g2 (by rintro ⟨hx, -⟩; exact hfine hx)
    obtain ⟨fe, ft⟩ := f2 (by rintro ⟨hx, -⟩; rw [Bool.and_eq_true] at hx; exact hfine hx.1)
    refine Or.inl ⟨?_, ?_, lexQ_of rfl ae (by rw [at']; rfl) (by omega), lexQ_of e1 fe (by rw [ft]; rfl) (by omega), lexQ_of e2 ge (by rw [gt]; rfl) (by omega)⟩
    · rw [hto]
      cases hx : (c :: r == [48])
      · rfl
      · refine absurd ?_ hfine
        have : c :: r = [48] := by simpa using hx
        rw [this]; rfl
    · rw [h0, hne]
      cases hx : (c != 48)
      · rfl
      · exact absurd (by simp only [fineB, List.head?_cons]; rw [Bool.or_eq_true]; left; simpa using hx) hfine

theorem numD_digits (z n m : Nat) : ∀ x ∈ numD z n m, digB x = true := by
  intro x hx
  unfold numD at hx
  rcases List.mem_append.1 hx with hx | hx
  · rcases List.mem_append.1 hx with hx | hx
    · rw [List.eq_of_mem_replicate hx]; decide
    · exact decD_digits n x hx
  · rw [List.eq_of_mem_replicate hx]; decide
theorem numD_cons (z n m : Nat) : ∃ c r, numD z n m = c :: r := by
  obtain ⟨c, r, hc, -⟩ := decD_head n
  unfold numD
  rw [hc]
  cases z with
  | zero => exact ⟨c, _, rfl⟩
  | succ z => exact ⟨48, _, rfl⟩

theorem numbers_walk (a b x0 x1 : Int) (w : World) (wa : (Lit.int .u64 a).wf = true) (wb : (Lit.int .u64 b).wf = true) (w0 : (Lit.int .u8 x0).wf = true) (w1 : (Lit.int .u8 x1).wf = true) :
    Calls Try.prog 7 #[.int .u64 a, .int .u64 b, .agg #[.int .u8 x0, .int .u8 x1]] w fun e w' => e = .returned (.bool true) ∧ Below w.heap.size w w' := by
  have m1 : IntKind.u64.min = 0 := by decide
  have m2 : IntKind.u64.max = 18446744073709551615 := by decide
  have m3 : IntKind.u8.min = 0 := by decide
  have m4 : IntKind.u8.max = 255 := by decide
  have ha : 0 ≤ a ∧ a < 18446744073709551616 := by simp [Lit.wf, m1, m2] at wa; omega
  have hb : 0 ≤ b ∧ b < 18446744073709551616 := by simp [Lit.wf, m1, m2] at wb; omega
  have h0 : 0 ≤ x0 ∧ x0 < 256 := by simp [Lit.wf, m3, m4] at w0; omega
  have h1 : 0 ≤ x1 ∧ x1 < 256 := by simp [Lit.wf, m3, m4] at w1; omega
  clear wa wb w0 w1
  obtain ⟨a, rfl⟩ := Int.eq_ofNat_of_zero_le ha.1
  obtain ⟨b, rfl⟩ := Int.eq_ofNat_of_zero_le hb.1
  obtain ⟨x0, rfl⟩ := Int.eq_ofNat_of_zero_le h0.1
  obtain ⟨x1, rfl⟩ := Int.eq_ofNat_of_zero_le h1.1
  have hz3 : x0 % 3 < 3 := Nat.mod_lt _ (by decide)
  obtain ⟨c, r, hD⟩ := numD_cons (x0 % 3) a x1
  have hlen := numD_len (x0 % 3) a x1 (by omega)
  have hdg := numD_digits (x0 % 3) a x1
  have hp : 0 < (bs (numD (x0 % 3) a x1)).size := by rw [bs_size, hD]; simp
  refine numbers_any a b x0 x1 (x0 % 3) w (by omega) (by omega) (by omega) (by omega) (by omega) hz3 (Lib.hid awake_any) hp (Lib.hid ?_)
  rw [hD] at hlen hdg
  have := num_case c r b hdg (by omega) (by omega) (by rw [← hD]; exact hp)
  simp only [hD]
  exact this

end Go.Proofs.Ytgkknjlegfdcnaa.Lx
