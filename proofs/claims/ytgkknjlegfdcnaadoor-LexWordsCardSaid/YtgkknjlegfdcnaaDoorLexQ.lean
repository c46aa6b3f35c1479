/- Plain law: the tokens of a source, joined and lexed again. No program in sight. -/
import Derived.Test.YtgkknjlegfdcnaaDoorLexK
namespace Go.Proofs.YtgkknjlegfdcnaaDoor.Lx
open Go.Proofs.YtgkknjlegfdcnaaDoor.Cal

/-- What may stand behind a token: nothing, a blank or a newline. -/
def Stop (l : List UInt8) : Prop := l = [] ∨ ∃ r, l = 32 :: r ∨ l = 10 :: r

theorem spanN_app (p : UInt8 → Bool) (a b : List UInt8) (ha : ∀ c ∈ a, p c = true) : spanN p (a ++ b) = a.length + spanN p b := by
  induction a with
  | nil => simp
  | cons c a ih =>
    have hc := ha c (List.mem_cons_self ..)
    rw [List.cons_append, spanN, if_pos hc, ih (fun x hx => ha x (List.mem_cons_of_mem _ hx)), List.length_cons]; omega

theorem spanN_stop (p : UInt8 → Bool) (h1 : p 32 = false) (h2 : p 10 = false) {l : List UInt8} (h : Stop l) : spanN p l = 0 := by
  rcases h with rfl | ⟨r, rfl | rfl⟩
  · rfl
  · rw [spanN, if_neg (by rw [h1]; decide)]
  · rw [spanN, if_neg (by rw [h2]; decide)]

theorem spanN_take (p : UInt8 → Bool) (l : List UInt8) : ∀ c ∈ l.take (spanN p l), p c = true := by
  induction l with
  | nil => simp
  | cons x l ih =>
    unfold spanN
    split
    · rename_i hx
      intro c hc
      rw [List.take_succ_cons] at hc
      rcases List.mem_cons.1 hc with rfl | hc
      · exact hx
      · exact ih c hc
    · simp

theorem endsB_stop (a b : List UInt8) (h : Stop b) : endsB (a ++ b) a.length = true := by
  unfold endsB
  rw [List.drop_left]
  rcases h with rfl | ⟨r, rfl | rfl⟩ <;> rfl

theorem dated_app (a b : List UInt8) (h : datedB (a ++ b) = true) (hb : Stop b) (hd : a.length < 10) : False := by
  have h1 := (dated_iff _).1 h a.length hd
  unfold datP at h1
  rw [Bool.and_eq_true, decide_eq_true_eq] at h1
  obtain ⟨h1, h2⟩ := h1
  rcases hb with rfl | ⟨r, rfl | rfl⟩
  · simp at h1
  all_goals
    simp only [List.getD, List.getElem?_append_right (Nat.le_refl _), Nat.sub_self, List.getElem?_cons_zero, Option.getD_some] at h2
    split at h2
    · exact absurd h2 (by decide)
    · exact absurd h2 (by decide)

def Okay (t : Tok) : Prop := t.kind ≠ 5 ∧ (∃ c r, t.text = c :: r ∧ c ≠ 10 ∧ c ≠ 35 ∧ blankB c = false) ∧ ∀ b, Stop b → kindL (t.text ++ b) = (t.kind, t.text.length, 0)

/-- A list of tokens as lex makes it; at the beginning of a line or within one. -/
def Good : Bool → List Tok → Prop
  | true, [] => True
  | false, [] => False
  | true, t :: l => Okay t ∧ Good false l
  | false, t :: l => (t.kind = 5 ∧ t.text = [] ∧ Good true l) ∨ (Okay t ∧ Good false l)

def kt (t : Tok) : Nat × List UInt8 := (t.kind, t.text)

theorem blankN_tok {c : UInt8} {r : List UInt8} (h1 : c ≠ 35) (h2 : blankB c = false) : blankN (c :: r) = 0 := by
  have hs : spanN blankB (c :: r) = 0 := by rw [spanN, if_neg (by rw [h2]; decide)]
  rw [blankN_plain (fun r' => by rw [hs, List.drop_zero]; intro e; cases e; exact h1 rfl), hs]
theorem blankN_sp {c : UInt8} {r : List UInt8} (h1 : c ≠ 35) (h2 : blankB c = false) : blankN (32 :: c :: r) = 1 := by
  have hs : spanN blankB (32 :: c :: r) = 1 := by
    rw [spanN, if_pos (by decide), spanN, if_neg (by rw [h2]; decide)]
  rw [blankN_plain (fun r' => by rw [hs]; intro e; cases e; exact h1 rfl), hs]

theorem pieces_stop {l : List Tok} (h : Good false l) (p : Nat) (hp : p ≠ 5) : Stop (pieces p l).flatten := by
  cases l with
  | nil => exact h.elim
  | cons t l =>
    rcases h with ⟨h5, _, _⟩ | ⟨hk, _⟩
    · refine Or.inr ⟨(pieces t.kind l).flatten, Or.inr ?_⟩
      simp [pieces, piece, h5]
    · refine Or.inr ⟨t.text ++ (pieces t.kind l).flatten, Or.inl ?_⟩
      simp [pieces, piece, hk.1, hp]

theorem relex (toks : List Tok) : (∀ p, Good true toks → ∀ f line, ((pieces 5 toks).flatten).length < f → (lexF f ⟨(pieces 5 toks).flatten, line, p, none⟩).2 = none ∧ (lexF f ⟨(pieces 5 toks).flatten, line, p, none⟩).1.map kt = toks.map kt) ∧
    (∀ p, Good false toks → ∀ f line q k, k ≠ 5 → ((pieces k toks).flatten).length < f → (lexF f ⟨(pieces k toks).flatten, line, p, some q⟩).2 = none ∧ (lexF f ⟨(pieces k toks).flatten, line, p, some q⟩).1.map kt = toks.map kt) := by
  induction toks with
  | nil =>
    refine ⟨fun p _ f line hf => ?_, fun p h => h.elim⟩
    obtain ⟨f, rfl⟩ : ∃ g, f = g + 1 := ⟨f - 1, by omega⟩
    rw [lexF_nil (s := ⟨(pieces 5 []).flatten, line, p, none⟩) rfl]
    exact ⟨rfl, rfl⟩
  | cons t l ih =>
    constructor
    · rintro p ⟨hk, hl⟩ f line hf
      obtain ⟨f, rfl⟩ : ∃ g, f = g + 1 := ⟨f - 1, by omega⟩
      obtain ⟨h5, ⟨c, r, hc, c1, c2, c3⟩, hall⟩ := hk
      have hp : (pieces 5 (t :: l)).flatten = t.text ++ (pieces t.kind l).flatten := by simp [pieces, piece, h5]
      have hst := pieces_stop hl t.kind h5
      have hkl := hall _ hst
      rw [hp] at hf ⊢
      have hb : blankN (t.text ++ (pieces t.kind l).flatten) = 0 := by rw [hc]; exact blankN_tok c2 c3
      have hd : (St.mk (t.text ++ (pieces t.kind l).flatten) line p none).left.drop (blankN (St.mk (t.text ++ (pieces t.kind l).flatten) line p none).left) = c :: (r ++ (pieces t.kind l).flatten) := by
        show (t.text ++ (pieces t.kind l).flatten).drop (blankN (t.text ++ (pieces t.kind l).flatten)) = _
        rw [hb, hc]; rfl
      have hkk : kindL (c :: (r ++ (pieces t.kind l).flatten)) = (t.kind, t.text.length, 0) := by rw [hc] at hkl; rw [hc]; exact hkl
      rw [lexF_tok hd c1 (by rw [hkk])]
      rw [hkk]
      simp only []
      have htk : (c :: (r ++ (pieces t.kind l).flatten)).take t.text.length = t.text := by rw [← List.cons_append, ← hc, List.take_left]
      have hdk : (c :: (r ++ (pieces t.kind l).flatten)).drop t.text.length = (pieces t.kind l).flatten := by rw [← List.cons_append, ← hc, List.drop_left]
      rw [htk, hdk, hb]
      have := ih.2 (p + 0 + t.text.length) hl f line (line, p + 0 + t.text.length) t.kind h5 (by rw [List.length_append, hc] at hf; simp only [List.length_cons] at hf; omega)
      exact ⟨this.1, by rw [List.map_cons, this.2]; rfl⟩
    · rintro p h f line q k hkne hf
      obtain ⟨f, rfl⟩ : ∃ g, f = g + 1 := ⟨f - 1, by omega⟩
      rcases h with ⟨h5, htx, hl⟩ | ⟨⟨h5, ⟨c, r, hc, c1, c2, c3⟩, hall⟩, hl⟩
      · have hp : (pieces k (t :: l)).flatten = 10 :: (pieces 5 l).flatten := by simp [pieces, piece, h5]
        rw [hp] at hf ⊢
        rw [lexF_nl (s := ⟨10 :: (pieces 5 l).flatten, line, p, some q⟩) (r := (pieces 5 l).flatten) (by
          show (10 :: (pieces 5 l).flatten).drop (blankN (10 :: (pieces 5 l).flatten)) = _
          rw [blankN_tok (by decide) (by decide)]; rfl)]
        have := ih.1 1 hl f (line + 1) (by simp only [List.length_cons] at hf; omega)
        refine ⟨this.1, ?_⟩
        simp only [List.map_append, this.2, endT, List.map_cons, List.map_nil, kt, h5, htx]
        rfl
      · have hp : (pieces k (t :: l)).flatten = 32 :: (t.text ++ (pieces t.kind l).flatten) := by simp [pieces, piece, h5, hkne]
        have hst := pieces_stop hl t.kind h5
        have hkl := hall _ hst
        rw [hp] at hf ⊢
        have hb : blankN (32 :: (t.text ++ (pieces t.kind l).flatten)) = 1 := by rw [hc]; exact blankN_sp c2 c3
        have hd : (St.mk (32 :: (t.text ++ (pieces t.kind l).flatten)) line p (some q)).left.drop (blankN (St.mk (32 :: (t.text ++ (pieces t.kind l).flatten)) line p (some q)).left) = c :: (r ++ (pieces t.kind l).flatten) := by
          show (32 :: (t.text ++ (pieces t.kind l).flatten)).drop (blankN (32 :: (t.text ++ (pieces t.kind l).flatten))) = _
          rw [hb, hc]; rfl
        have hkk : kindL (c :: (r ++ (pieces t.kind l).flatten)) = (t.kind, t.text.length, 0) := by rw [hc] at hkl; rw [hc]; exact hkl
        rw [lexF_tok hd c1 (by rw [hkk])]
        rw [hkk]
        simp only []
        have htk : (c :: (r ++ (pieces t.kind l).flatten)).take t.text.length = t.text := by rw [← List.cons_append, ← hc, List.take_left]
        have hdk : (c :: (r ++ (pieces t.kind l).flatten)).drop t.text.length = (pieces t.kind l).flatten := by rw [← List.cons_append, ← hc, List.drop_left]
        rw [htk, hdk, hb]
        have := ih.2 (p + 1 + t.text.length) hl f line (line, p + 1 + t.text.length) t.kind h5 (by simp only [List.length_cons, List.length_append] at hf; omega)
        exact ⟨this.1, by rw [List.map_cons, this.2]; rfl⟩

end Go.Proofs.YtgkknjlegfdcnaaDoor.Lx
