/- Plain law: each token stands at its place, and nothing else is in the source. No program in sight. -/
import Derived.Test.YtgkknjlegfdcnaaPlA
import Derived.Test.YtgkknjlegfdcnaaLexY
namespace Go.Proofs.Ytgkknjlegfdcnaa.Lx
open Go.Proofs.Ytgkknjlegfdcnaa.Cal

/-- Blanks, remarks and newlines; within a remark or not. -/
def emptyS : Bool → List UInt8 → Bool
  | _, [] => true
  | true, c :: r => if c = 10 then emptyS false r else emptyS true r
  | false, c :: r => if c = 35 then emptyS true r else (blankB c || c == 10) && emptyS false r

theorem empty_blanks (a x : List UInt8) (h : ∀ c ∈ a, blankB c = true) : emptyS false (a ++ x) = emptyS false x := by
  induction a with
  | nil => rfl
  | cons c a ih =>
    have hc := h c (List.mem_cons_self ..)
    have h35 : ¬ c = 35 := fun e => by rw [e] at hc; exact absurd hc (by decide)
    rw [List.cons_append, emptyS, if_neg h35, hc, ih fun z hz => h z (List.mem_cons_of_mem _ hz)]; rfl
theorem empty_remark (a : List UInt8) (h : ∀ c ∈ a, lineB c = true) : emptyS true a = true ∧ ∀ x, emptyS true (a ++ 10 :: x) = emptyS false x := by
  induction a with
  | nil => exact ⟨rfl, fun x => by rw [List.nil_append, emptyS, if_pos rfl]⟩
  | cons c a ih =>
    have hc := h c (List.mem_cons_self ..)
    have h10 : ¬ c = 10 := fun e => by rw [e] at hc; exact absurd hc (by decide)
    obtain ⟨i1, i2⟩ := ih fun z hz => h z (List.mem_cons_of_mem _ hz)
    refine ⟨by rw [emptyS, if_neg h10, i1], fun x => by rw [List.cons_append, emptyS, if_neg h10, i2]⟩

/-- The blanks and the remark ahead of a token or a newline. -/
theorem empty_ahead (l : List UInt8) : emptyS false (l.take (blankN l)) = true ∧ ∀ x, emptyS false (l.take (blankN l) ++ 10 :: x) = emptyS false x := by
  have hb : ∀ c ∈ l.take (spanN blankB l), blankB c = true := spanN_take blankB l
  have hnl : ∀ x, emptyS false (10 :: x) = emptyS false x := fun x => by rw [emptyS, if_neg (by decide)]; rfl
  by_cases hh : ∃ q, l.drop (spanN blankB l) = 35 :: q
  · obtain ⟨q, hq⟩ := hh
    rw [blankN_hash hq, List.take_add, hq]
    have hln := spanN_take lineB (35 :: q)
    obtain ⟨k, hk⟩ : ∃ k, spanN lineB (35 :: q) = k + 1 := ⟨spanN lineB (35 :: q) - 1, by have := spanN_pos lineB 35 q (by decide); omega⟩
    rw [hk, List.take_succ_cons] at hln ⊢
    obtain ⟨r1, r2⟩ := empty_remark (q.take k) fun c hc => hln c (List.mem_cons_of_mem _ hc)
    constructor
    · rw [empty_blanks _ _ hb, emptyS, if_pos rfl, r1]
    · intro x
      rw [List.append_assoc, empty_blanks _ _ hb, List.cons_append, emptyS, if_pos rfl, r2]
  · rw [blankN_plain fun q hq => hh ⟨q, hq⟩]
    constructor
    · have := empty_blanks _ [] hb
      rw [List.append_nil] at this
      rw [this]; rfl
    · intro x
      rw [empty_blanks _ _ hb, hnl]

/-- What LexCovers asks of the tokens behind the offset e; whether a token stands ahead of them in its line. -/
def Cov (l : List UInt8) : Nat → Bool → List Tok → Prop
  | e, inl, [] => inl = false ∧ emptyS false (l.drop e) = true
  | e, inl, t :: ts =>
    (t.kind = 5 ∧ inl = true ∧ e ≤ l.length ∧ t.text = [] ∧ (t.line : Int) = lineN l e ∧ (t.col : Int) = colZ l e ∧ (∀ u, ts[0]? = some u → t.line < u.line) ∧ Cov l e false ts) ∨
    (t.kind ≠ 5 ∧ ∃ o, e ≤ o ∧ (t.line : Int) = lineN l o ∧ (t.col : Int) = colZ l o ∧ 0 < t.text.length ∧ o + t.text.length ≤ l.length ∧ (l.drop o).take t.text.length = t.text ∧ emptyS false ((l.drop e).take (o - e)) = true ∧
      (∃ u, ts[0]? = some u ∧ u.line = t.line) ∧ Cov l (o + t.text.length) true ts)

theorem head_line (f : Nat) : ∀ (s : St) (u : Tok), (∀ p, s.fin = some p → s.line ≤ p.1) → (lexF f s).1[0]? = some u → s.line ≤ u.line := by
  induction f with
  | zero => intro s u _ h; simp [lexF] at h
  | succ f ih =>
    intro s u hp h
    cases hr : s.left.drop (blankN s.left) with
    | nil =>
      rw [lexF_nil hr] at h
      cases hq : s.fin with
      | none => rw [hq] at h; simp [endT] at h
      | some p => rw [hq] at h; simp [endT] at h; rw [← h]; exact hp p hq
    | cons c r =>
      by_cases hc : c = 10
      · subst hc
        rw [lexF_nl hr] at h
        cases hq : s.fin with
        | none =>
          rw [hq] at h
          have := ih ⟨r, s.line + 1, 1, none⟩ u (fun p h => by cases h) (by simpa [endT] using h)
          simp only [] at this
          omega
        | some p => rw [hq] at h; simp [endT] at h; rw [← h]; exact hp p hq
      · by_cases hk : (kindL (c :: r)).2.2 = 0
        · rw [lexF_tok hr hc hk] at h
          simp at h
          rw [← h]
          exact Nat.le_refl _
        · rw [lexF_bad hr hc hk] at h; simp at h

/-- Behind a token of a line there is a further one in the same line. -/
theorem next_line (f : Nat) (s : St) (p : Nat × Nat) (hp : s.fin = some p) (hl : p.1 = s.line) (hf : s.left.length < f) (hn : (lexF f s).2 = none) : ∃ u, (lexF f s).1[0]? = some u ∧ u.line = s.line := by
  obtain ⟨f, rfl⟩ : ∃ g, f = g + 1 := ⟨f - 1, by omega⟩
  cases hr : s.left.drop (blankN s.left) with
  | nil => rw [lexF_nil hr, hp]; exact ⟨_, rfl, hl⟩
  | cons c r =>
    by_cases hc : c = 10
    · subst hc
      rw [lexF_nl hr, hp]; exact ⟨_, rfl, hl⟩
    · by_cases hk : (kindL (c :: r)).2.2 = 0
      · rw [lexF_tok hr hc hk]; exact ⟨_, rfl, rfl⟩
      · rw [lexF_bad hr hc hk] at hn; cases hn

theorem gap_grow (l : List UInt8) (e i n : Nat) (he : e ≤ i) : (l.drop e).take (i + n - e) = (l.drop e).take (i - e) ++ (l.drop i).take n := by
  rw [show i + n - e = (i - e) + n by omega, List.take_add, List.drop_drop, show e + (i - e) = i by omega]

theorem cover (l : List UInt8) (f : Nat) : ∀ (s : St) (i e : Nat), PosAt l s i → e ≤ i → s.left.length < f → (lexF f s).2 = none →
    (∀ p, s.fin = some p → (p.1 : Int) = lineN l e ∧ (p.2 : Int) = colZ l e ∧ p.1 = s.line) → (∀ x, emptyS false ((l.drop e).take (i - e) ++ x) = emptyS false x) → Cov l e s.fin.isSome (lexF f s).1 := by
  induction f with
  | zero => intro s i e _ _ h; omega
  | succ f ih =>
    rintro s i e ⟨hp, hln, hco, hi⟩ hei hf hn hfin hgap
    have hb := blankN_le s.left
    have hbn := blank_nonl s.left
    obtain ⟨a1, a2⟩ := empty_ahead s.left
    have hll : s.left.length = l.length - i := by rw [hp, List.length_drop]
    have hgo : lineN l (i + blankN s.left) = lineN l i ∧ colZ l (i + blankN s.left) = colZ l i + blankN s.left := by
      rw [hp] at hb hbn ⊢
      exact pos_go hi hb hbn
    obtain ⟨g1, g2⟩ := hgo
    have hl : (s.left.drop (blankN s.left)).length = s.left.length - blankN s.left := List.length_drop
    cases hr : s.left.drop (blankN s.left) with
    | nil =>
      rw [lexF_nil hr]
      have hall : s.left.take (blankN s.left) = s.left := by
        have := List.take_append_drop (blankN s.left) s.left
        rw [hr, List.append_nil] at this; exact this
      have hrest : emptyS false (l.drop e) = true := by
        have h1 : l.drop e = (l.drop e).take (i - e) ++ s.left := by
          have := List.take_append_drop (i - e) (l.drop e)
          rw [List.drop_drop, show e + (i - e) = i by omega, ← hp] at this
          exact this.symm
        rw [h1, hgap, ← hall]; exact a1
      cases hq : s.fin with
      | none => exact ⟨rfl, hrest⟩
      | some p =>
        obtain ⟨q1, q2, q3⟩ := hfin p hq
        exact Or.inl ⟨rfl, rfl, by omega, rfl, q1, q2, fun u h => by simp at h, rfl, hrest⟩
    | cons c r =>
      rw [hr, List.length_cons] at hl
      have hr2 : l.drop (i + blankN s.left) = c :: r := by rw [← List.drop_drop, ← hp]; exact hr
      obtain ⟨hk1, hk2⟩ := drop_getD _ _ _ _ hr2
      have hgr : (l.drop e).take (i + blankN s.left - e) = (l.drop e).take (i - e) ++ s.left.take (blankN s.left) := by
        rw [gap_grow l e i _ hei, ← hp]
      by_cases hc : c = 10
      · subst hc
        rw [lexF_nl hr] at hn ⊢
        have hl1 := lineN_succ l _ hk1
        rw [if_pos hk2] at hl1
        have hpos : PosAt l ⟨r, s.line + 1, 1, none⟩ (i + blankN s.left + 1) := ⟨by rw [← List.drop_drop, hr2]; rfl, by
          show ((s.line + 1 : Nat) : Int) = _
          rw [hl1, g1]; omega, by
          show ((1 : Nat) : Int) = _
          rw [colZ_nl l _ hk1 hk2]; rfl, by omega⟩
        have hgap2 : ∀ x, emptyS false ((l.drop e).take (i + blankN s.left + 1 - e) ++ x) = emptyS false x := by
          intro x
          rw [gap_grow l e (i + blankN s.left) 1 (by omega), hgr, hr2]
          simp only [List.take_succ_cons, List.take_zero, List.append_assoc, List.singleton_append]
          rw [hgap, a2]
        have hC := ih ⟨r, s.line + 1, 1, none⟩ (i + blankN s.left + 1) e hpos (by omega) (by show r.length < f; omega) hn (fun p h => by cases h) hgap2
        cases hq : s.fin with
        | none => exact hC
        | some p =>
          obtain ⟨q1, q2, q3⟩ := hfin p hq
          refine Or.inl ⟨rfl, rfl, by omega, rfl, q1, q2, fun u h => ?_, hC⟩
          have := head_line f ⟨r, s.line + 1, 1, none⟩ u (fun p h => by cases h) h
          simp only [] at this ⊢
          omega
      · by_cases hk : (kindL (c :: r)).2.2 = 0
        · rw [lexF_tok hr hc hk] at hn ⊢
          have hbd := kindL_bd c r
          have hpos := hbd.2 hk
          have htn := tok_nonl c r
          have hbd2 := hbd.1
          rw [← hr2] at hbd2 htn
          obtain ⟨t1, t2⟩ := pos_go (by omega) hbd2 htn
          rw [hr2] at t1 t2
          have htl : ((c :: r).take (kindL (c :: r)).2.1).length = (kindL (c :: r)).2.1 := by rw [List.length_take]; omega
          have hcl : (c :: r).length = r.length + 1 := rfl
          have hdl : ((c :: r).drop (kindL (c :: r)).2.1).length = (c :: r).length - (kindL (c :: r)).2.1 := List.length_drop
          refine Or.inr ⟨(kind_stable c r hk).1, i + blankN s.left, by omega, ?_, ?_, ?_, ?_, ?_, ?_, ?_, ?_⟩
          · show (s.line : Int) = _
            rw [g1]; exact hln
          · show ((s.col + blankN s.left : Nat) : Int) = _
            rw [g2]; omega
          · show 0 < ((c :: r).take (kindL (c :: r)).2.1).length
            rw [htl]; omega
          · show i + blankN s.left + ((c :: r).take (kindL (c :: r)).2.1).length ≤ _
            rw [htl]; omega
          · show (l.drop (i + blankN s.left)).take ((c :: r).take (kindL (c :: r)).2.1).length = (c :: r).take (kindL (c :: r)).2.1
            rw [htl, hr2]
          · rw [hgr, hgap]; exact a1
          · obtain ⟨u, hu1, hu2⟩ := next_line f ⟨(c :: r).drop (kindL (c :: r)).2.1, s.line, s.col + blankN s.left + (kindL (c :: r)).2.1, some (s.line, s.col + blankN s.left + (kindL (c :: r)).2.1)⟩ _ rfl rfl (by show ((c :: r).drop (kindL (c :: r)).2.1).length < f; omega) hn
            exact ⟨u, hu1, hu2⟩
          · show Cov l (i + blankN s.left + ((c :: r).take (kindL (c :: r)).2.1).length) true _
            rw [htl]
            refine ih ⟨(c :: r).drop (kindL (c :: r)).2.1, s.line, s.col + blankN s.left + (kindL (c :: r)).2.1, some (s.line, s.col + blankN s.left + (kindL (c :: r)).2.1)⟩ (i + blankN s.left + (kindL (c :: r)).2.1) _ ⟨?_, ?_, ?_, by omega⟩ (Nat.le_refl _) (by show ((c :: r).drop (kindL (c :: r)).2.1).length < f; omega) hn ?_ ?_
            · show (c :: r).drop _ = _
              rw [← List.drop_drop, hr2]
            · show (s.line : Int) = _
              rw [t1, g1]; exact hln
            · show ((s.col + blankN s.left + (kindL (c :: r)).2.1 : Nat) : Int) = _
              rw [t2, g2]; omega
            · intro p h
              cases h
              refine ⟨?_, ?_, rfl⟩
              · show (s.line : Int) = _
                rw [t1, g1]; exact hln
              · show ((s.col + blankN s.left + (kindL (c :: r)).2.1 : Nat) : Int) = _
                rw [t2, g2]; omega
            · intro x
              rw [Nat.sub_self, List.take_zero, List.nil_append]
        · rw [lexF_bad hr hc hk] at hn; cases hn

/-- The law of what a source is made of. -/
theorem covers (l : List UInt8) (hl : l.length ≤ 65536) (h : (lexE l).err = 0) : Cov l 0 false (lexT l) := by
  have hS := lexS_none hl h
  rw [lexT_none hl hS]
  refine cover l _ (start l) 0 0 ⟨rfl, by rw [lineN_zero]; rfl, by rw [colZ_zero]; rfl, Nat.zero_le _⟩ (Nat.le_refl _) (by show l.length < l.length + 1; omega) hS (fun p h => by cases h) (fun x => rfl)

end Go.Proofs.Ytgkknjlegfdcnaa.Lx
