/- Plain law: two sources joined by a newline. No program in sight. -/
import Derived.Test.YtgkknjlegfdcnaaPlA
namespace Go.Proofs.Ytgkknjlegfdcnaa.Lx
open Go.Proofs.Ytgkknjlegfdcnaa.Cal

def nls (l : List UInt8) : Nat := l.count 10

theorem spanN_nl (p : UInt8 → Bool) (h : p 10 = false) (l b : List UInt8) : spanN p (l ++ 10 :: b) = spanN p l := by
  induction l with
  | nil => show spanN p (10 :: b) = 0; rw [spanN, if_neg (by rw [h]; decide)]
  | cons x l ih => rw [List.cons_append, spanN, spanN, ih]

/-- Blanks and a remark end at a newline. -/
theorem blankN_nl (l b : List UInt8) : blankN (l ++ 10 :: b) = blankN l := by
  have hs : spanN blankB (l ++ 10 :: b) = spanN blankB l := spanN_nl blankB (by decide) l b
  have hle := spanN_le blankB l
  have hd : (l ++ 10 :: b).drop (spanN blankB l) = l.drop (spanN blankB l) ++ 10 :: b := List.drop_append_of_le_length hle
  by_cases hh : ∃ q, l.drop (spanN blankB l) = 35 :: q
  · obtain ⟨q, hq⟩ := hh
    rw [hq] at hd
    have h2 : spanN lineB (35 :: (q ++ 10 :: b)) = spanN lineB (35 :: q) := spanN_nl lineB (by decide) (35 :: q) b
    rw [blankN_hash hq, blankN_hash (l := l ++ 10 :: b) (r := q ++ 10 :: b) (by rw [hs]; exact hd), hs, h2]
  · rw [blankN_plain fun q hq => hh ⟨q, hq⟩, blankN_plain, hs]
    intro q hq
    rw [hs, hd] at hq
    cases hx : l.drop (spanN blankB l) with
    | nil => rw [hx] at hq; cases hq
    | cons x t => rw [hx] at hq; cases hq; exact hh ⟨t, hx⟩

theorem nls_none {l : List UInt8} (h : ∀ c ∈ l, c ≠ 10) : nls l = 0 := List.count_eq_zero.2 fun hm => h 10 hm rfl
theorem nls_split (l : List UInt8) (n : Nat) : nls l = nls (l.take n) + nls (l.drop n) := by
  unfold nls; rw [← List.count_append, List.take_append_drop]

theorem glue_lex (b : List UInt8) : ∀ (n : Nat) (s : St), s.left.length = n →
    ((lexA s).2 = none → lexA ⟨s.left ++ 10 :: b, s.line, s.col, s.fin⟩ = ((lexA s).1 ++ (lexA ⟨b, s.line + nls s.left + 1, 1, none⟩).1, (lexA ⟨b, s.line + nls s.left + 1, 1, none⟩).2)) ∧
    (∀ x, (lexA s).2 = some x → (lexA ⟨s.left ++ 10 :: b, s.line, s.col, s.fin⟩).2 = some x) := by
  intro n
  induction n using Nat.strongRecOn with
  | ind n ih =>
    rintro s rfl
    have hb := blankN_le s.left
    have hbl := blankN_nl s.left b
    have hl : (s.left.drop (blankN s.left)).length = s.left.length - blankN s.left := List.length_drop
    have hd : (s.left ++ 10 :: b).drop (blankN (s.left ++ 10 :: b)) = s.left.drop (blankN s.left) ++ 10 :: b := by
      rw [hbl]; exact List.drop_append_of_le_length hb
    have hn1 := nls_split s.left (blankN s.left)
    rw [nls_none (blank_nonl s.left), Nat.zero_add] at hn1
    cases hr : s.left.drop (blankN s.left) with
    | nil =>
      rw [hr] at hd hn1
      rw [lexA_nil hr, lexA_nl (s := ⟨s.left ++ 10 :: b, s.line, s.col, s.fin⟩) hd, hn1]
      exact ⟨fun _ => rfl, fun x h => by cases h⟩
    | cons c r =>
      rw [hr] at hd hl hn1
      simp only [List.length_cons] at hl
      by_cases hc : c = 10
      · subst hc
        have hn2 : nls s.left = nls r + 1 := by rw [hn1]; simp [nls]
        obtain ⟨i1, i2⟩ := ih r.length (by omega) ⟨r, s.line + 1, 1, none⟩ rfl
        rw [lexA_nl hr, lexA_nl (s := ⟨s.left ++ 10 :: b, s.line, s.col, s.fin⟩) (r := r ++ 10 :: b) hd]
        constructor
        · intro h
          have := i1 h
          simp only [] at this ⊢
          rw [this, hn2, show s.line + (nls r + 1) + 1 = s.line + 1 + nls r + 1 by omega, List.append_assoc]
        · exact i2
      · have hcut : kindL (c :: (r ++ 10 :: b)) = kindL (c :: r) := kind_cut c r (Or.inr ⟨10, b, rfl, by simp⟩)
        by_cases hk : (kindL (c :: r)).2.2 = 0
        · have hbd := kindL_bd c r
          have hpos := hbd.2 hk
          have hn2 := nls_split (c :: r) (kindL (c :: r)).2.1
          rw [nls_none (tok_nonl c r), Nat.zero_add, ← hn1] at hn2
          have ht : (c :: (r ++ 10 :: b)).take (kindL (c :: r)).2.1 = (c :: r).take (kindL (c :: r)).2.1 := List.take_append_of_le_length (l₁ := c :: r) hbd.1
          have hdr : (c :: (r ++ 10 :: b)).drop (kindL (c :: r)).2.1 = (c :: r).drop (kindL (c :: r)).2.1 ++ 10 :: b := List.drop_append_of_le_length (l₁ := c :: r) hbd.1
          obtain ⟨i1, i2⟩ := ih ((c :: r).drop (kindL (c :: r)).2.1).length (by rw [List.length_drop, List.length_cons]; omega) ⟨(c :: r).drop (kindL (c :: r)).2.1, s.line, s.col + blankN s.left + (kindL (c :: r)).2.1, some (s.line, s.col + blankN s.left + (kindL (c :: r)).2.1)⟩ rfl
          rw [lexA_tok hr hc hk, lexA_tok (s := ⟨s.left ++ 10 :: b, s.line, s.col, s.fin⟩) (c := c) (r := r ++ 10 :: b) hd hc (by rw [hcut]; exact hk), hcut, ht, hdr, hbl]
          constructor
          · intro h
            have := i1 h
            simp only [] at this ⊢
            rw [this, hn2]; rfl
          · exact i2
        · rw [lexA_bad hr hc hk, lexA_bad (s := ⟨s.left ++ 10 :: b, s.line, s.col, s.fin⟩) (c := c) (r := r ++ 10 :: b) hd hc (by rw [hcut]; exact hk), hcut, hbl]
          exact ⟨(fun h => by cases h), fun x h => h⟩

/-- The law of two sources. -/
theorem glued (a b : List UInt8) (ha : a.length ≤ 1500) (hb : b.length ≤ 1500) :
    ((lexE a).err ≠ 0 → lexE (a ++ 10 :: b) = lexE a) ∧
    ((lexE a).err = 0 → (lexE b).err ≠ 0 → lexE (a ++ 10 :: b) = ⟨(lexE b).err, (lexE b).line + (nls a + 1), (lexE b).col⟩) ∧
    ((lexE a).err = 0 → (lexE b).err = 0 → (lexE (a ++ 10 :: b)).err = 0 ∧ (lexT (a ++ 10 :: b)).map kt = (lexT a ++ lexT b).map kt) := by
  have hab : (a ++ 10 :: b).length ≤ 65536 := by rw [List.length_append, List.length_cons]; omega
  have hg := glue_lex b _ (start a) rfl
  have hS : lexA ⟨(start a).left ++ 10 :: b, (start a).line, (start a).col, (start a).fin⟩ = lexS (a ++ 10 :: b) := rfl
  rw [hS, ← lexS_A a] at hg
  obtain ⟨g1, g2⟩ := hg
  refine ⟨fun h => ?_, fun h h2 => ?_, fun h h2 => ?_⟩
  · cases hx : (lexS a).2 with
    | none => rw [lexE_none (by omega) hx] at h; exact absurd rfl h
    | some x =>
      unfold lexE
      rw [if_pos hab, if_pos (by omega), g2 x hx, hx]
  · have g := g1 (lexS_none (by omega) h)
    cases hx : (lexS b).2 with
    | none => rw [lexE_none (by omega) hx] at h2; exact absurd rfl h2
    | some x =>
      have hE : lexE b = x := by unfold lexE; rw [if_pos (by omega), hx]
      have hd : (lexA ⟨b, 1 + (nls a + 1), 1, none⟩).2 = (lexA ⟨b, 1, 1, none⟩).2.map (fun x => ⟨x.err, x.line + (nls a + 1), x.col⟩) := lexF_down _ b 1 1 (nls a + 1) none none
      have hx2 : (lexA ⟨b, 1, 1, none⟩).2 = some x := hx
      rw [hx2] at hd
      rw [hE]
      unfold lexE
      rw [if_pos hab, g]
      simp only []
      rw [show (start a).line + nls (start a).left + 1 = 1 + (nls a + 1) by show 1 + nls a + 1 = _; omega, hd]
      rfl
  · have ha0 := lexS_none (l := a) (by omega) h
    have hb0 := lexS_none (l := b) (by omega) h2
    have g := g1 ha0
    have hv := lexA_view (s := ⟨b, (start a).line + nls (start a).left + 1, 1, none⟩) (t := start b) rfl rfl
    rw [← lexS_A b] at hv
    simp only [view, Prod.mk.injEq, hb0] at hv
    obtain ⟨v1, v2⟩ := hv
    have hn : (lexS (a ++ 10 :: b)).2 = none := by
      rw [g]
      simp only []
      cases hq : (lexA ⟨b, (start a).line + nls (start a).left + 1, 1, none⟩).2 with
      | none => rfl
      | some x => rw [hq] at v2; cases v2
    refine ⟨by rw [lexE_none hab hn], ?_⟩
    rw [lexT_none hab hn, lexT_none (by omega) ha0, lexT_none (by omega) hb0, g]
    simp only [List.map_append]
    rw [v1]

end Go.Proofs.Ytgkknjlegfdcnaa.Lx
