/- Plain law: the kind of a token does not hang on what stands behind it, past a stop; the lexer without fuel. No program in sight. -/
import Derived.Test.YtgkknjlegfdcnaaLexX
namespace Go.Proofs.Ytgkknjlegfdcnaa.Lx
open Go.Proofs.Ytgkknjlegfdcnaa.Cal

/-- What may stand behind a piece of a source: nothing, a blank, a newline or a remark. -/
def Cut (l : List UInt8) : Prop := l = [] ∨ ∃ c r, l = c :: r ∧ (c = 9 ∨ c = 10 ∨ c = 32 ∨ c = 35)

theorem spanN_cut (p : UInt8 → Bool) (h9 : p 9 = false) (h10 : p 10 = false) (h32 : p 32 = false) (h35 : p 35 = false) {b : List UInt8} (h : Cut b) (l : List UInt8) : spanN p (l ++ b) = spanN p l := by
  induction l with
  | nil =>
    rcases h with rfl | ⟨c, r, rfl, hc⟩
    · rfl
    · have : p c = false := by rcases hc with rfl | rfl | rfl | rfl <;> assumption
      show spanN p (c :: r) = 0
      rw [spanN, if_neg (by rw [this]; decide)]
  | cons x l ih => rw [List.cons_append, spanN, spanN, ih]

theorem endsB_cut {l b : List UInt8} (hb : Cut b) (n : Nat) (hn : n ≤ l.length) : endsB (l ++ b) n = endsB l n := by
  unfold endsB
  rw [List.drop_append_of_le_length hn]
  cases h : l.drop n with
  | nil =>
    rcases hb with rfl | ⟨c, r, rfl, hc⟩
    · rfl
    · rcases hc with rfl | rfl | rfl | rfl <;> rfl
  | cons x r => rfl

theorem dated_len {l : List UInt8} (h : datedB l = true) : 10 ≤ l.length := by
  have := (dated_iff _).1 h 9 (by omega)
  simp only [datP, Bool.and_eq_true, decide_eq_true_eq] at this
  omega

theorem dated_cut (l : List UInt8) {b : List UInt8} (hb : Cut b) : datedB (l ++ b) = datedB l := by
  by_cases hd : l.length < 10
  · have h1 : datedB l = false := by
      cases h : datedB l
      · rfl
      · have := dated_len h; omega
    rw [h1]
    refine dated_not _ l.length hd ?_
    rcases hb with rfl | ⟨c, r, rfl, hc⟩
    · simp [datP]
    · have hg : (l ++ c :: r).getD l.length 0 = c := by simp [List.getD]
      unfold datP
      rw [hg]
      rcases hc with rfl | rfl | rfl | rfl <;> split <;> simp <;> decide
  · have key : ∀ j, j < 10 → datP (l ++ b) j = datP l j := by
      intro j hj
      unfold datP
      rw [getD_app _ _ _ (by omega), decide_eq_true (show j < l.length by omega), decide_eq_true (show j < (l ++ b).length by rw [List.length_append]; omega)]
    rw [Bool.eq_iff_iff, dated_iff, dated_iff]
    exact ⟨fun h j hj => by rw [← key j hj]; exact h j hj, fun h j hj => by rw [key j hj]; exact h j hj⟩

theorem num_cut (c : UInt8) (r : List UInt8) {b : List UInt8} (hb : Cut b) : numN (c :: r ++ b) = numN (c :: r) := by
  have hs := spanN_le digB (c :: r)
  have hsp : spanN digB (c :: r ++ b) = spanN digB (c :: r) := spanN_cut digB (by decide) (by decide) (by decide) (by decide) hb _
  have hdr : (c :: r ++ b).drop (spanN digB (c :: r)) = (c :: r).drop (spanN digB (c :: r)) ++ b := List.drop_append_of_le_length hs
  have hl : ((c :: r).drop (spanN digB (c :: r))).length = (c :: r).length - spanN digB (c :: r) := List.length_drop
  by_cases hA : ∃ d r', (c :: r).drop (spanN digB (c :: r)) = 47 :: d :: r' ∧ digB d = true
  · obtain ⟨d, r', hr, hd⟩ := hA
    rw [hr] at hdr hl
    have h2 := spanN_le digB (d :: r')
    simp only [List.length_cons] at hl h2
    rw [numN_A (c :: r) _ d r' rfl hr hd, numN_A (c :: r ++ b) _ d (r' ++ b) hsp hdr hd]
    have hs2 : spanN digB (d :: (r' ++ b)) = spanN digB (d :: r') := spanN_cut digB (by decide) (by decide) (by decide) (by decide) hb (d :: r')
    rw [hs2, endsB_cut hb _ (by simp only [List.length_cons]; omega)]
    rfl
  · have hno : ∀ d r', (c :: r).drop (spanN digB (c :: r)) = 47 :: d :: r' → digB d = false := fun d r' hr => by
      cases hdd : digB d
      · rfl
      · exact absurd ⟨d, r', hr, hdd⟩ hA
    rw [numN_B (c :: r) _ rfl hno, numN_B (c :: r ++ b) _ hsp ?_, endsB_cut hb _ hs]
    · rfl
    · intro d r' h
      rw [hdr] at h
      cases hq : (c :: r).drop (spanN digB (c :: r)) with
      | nil =>
        rw [hq] at h
        rcases hb with rfl | ⟨x, y, rfl, hc⟩
        · cases h
        · rcases hc with rfl | rfl | rfl | rfl <;> cases h
      | cons x t =>
        rw [hq] at h hno
        cases t with
        | nil =>
          rcases hb with rfl | ⟨y, z, rfl, hc⟩
          · cases h
          · rw [List.singleton_append] at h
            cases h
            rcases hc with rfl | rfl | rfl | rfl <;> rfl
        | cons y t =>
          cases h
          exact hno d t rfl

/-- Nothing behind a stop changes a token. -/
theorem kind_cut (c : UInt8) (r : List UInt8) {b : List UInt8} (hb : Cut b) : kindL (c :: r ++ b) = kindL (c :: r) := by
  have hd : datedB (c :: (r ++ b)) = datedB (c :: r) := dated_cut (c :: r) hb
  show kindL (c :: (r ++ b)) = _
  cases hlet : letB c
  · cases hdat : datedB (c :: r)
    · rw [hdat] at hd
      cases hdig : digB c
      · rw [kindL_else hlet hdat hdig, kindL_else hlet hd hdig]
      · have hn : numN (c :: (r ++ b)) = numN (c :: r) := num_cut c r hb
        rw [kindL_num hlet hdat hdig, kindL_num hlet hd hdig, hn]
    · rw [hdat] at hd
      have h10 := dated_len hdat
      have he : endsB (c :: (r ++ b)) 10 = endsB (c :: r) 10 := endsB_cut (l := c :: r) hb 10 h10
      have ht : dateOK (c :: (r ++ b)) = dateOK (c :: r) := by
        unfold dateOK
        have : (c :: (r ++ b)).take 10 = (c :: r).take 10 := List.take_append_of_le_length (l₁ := c :: r) h10
        rw [this]
      rw [kindL_date hlet hdat, kindL_date hlet hd, he, ht]
  · have hs : spanN partB (c :: (r ++ b)) = spanN partB (c :: r) := spanN_cut partB (by decide) (by decide) (by decide) (by decide) hb (c :: r)
    rw [kindL_word hlet, kindL_word hlet, hs]

theorem spanN_tk (p : UInt8 → Bool) (l : List UInt8) : ∀ n, spanN p l ≤ n → spanN p (l.take n) = spanN p l := by
  induction l with
  | nil => intro n _; rw [List.take_nil]
  | cons x l ih =>
    intro n hn
    unfold spanN at hn ⊢
    cases n with
    | zero =>
      rw [List.take_zero]
      split at hn
      · omega
      · rename_i hx; rw [if_neg hx]
    | succ n =>
      rw [List.take_succ_cons]
      by_cases hx : p x = true
      · rw [if_pos hx] at hn ⊢
        simp only [if_pos hx]
        rw [ih n (by omega)]
      · simp only [if_neg hx]

theorem endsB_take (l : List UInt8) (n m : Nat) (_hm : m ≤ n) (h : endsB l m = true) : endsB (l.take n) m = true := by
  unfold endsB at h ⊢
  rw [List.drop_take]
  cases hd : l.drop m with
  | nil => rw [List.take_nil]
  | cons x t =>
    rw [hd] at h
    cases hk : n - m with
    | zero => rfl
    | succ k => exact h

theorem numR_inv3 {ok eb : Bool} {n m : Nat} (h : numR ok n eb = (m, 0)) : eb = true := by
  unfold numR at h
  split at h
  · rename_i hc; exact hc.2
  · cases h

theorem num_take (c : UInt8) (r : List UInt8) (m n : Nat) (hd : digB c = true) (h : numN (c :: r) = (m, 0)) (hmn : m ≤ n) : numN ((c :: r).take n) = (m, 0) := by
  have hbd := numN_bd (c :: r)
  rw [h] at hbd
  have hsp := hbd.2 rfl
  have hpos := spanN_pos digB c r hd
  simp only [] at hsp
  have hs1 := spanN_tk digB (c :: r) n (by omega)
  have hhead : ((c :: r).take n).head? = (c :: r).head? := by
    obtain ⟨q, rfl⟩ : ∃ q, n = q + 1 := ⟨n - 1, by omega⟩
    rfl
  have hdr : ((c :: r).take n).drop (spanN digB (c :: r)) = ((c :: r).drop (spanN digB (c :: r))).take (n - spanN digB (c :: r)) := by rw [List.drop_take]
  by_cases hA : ∃ d r', (c :: r).drop (spanN digB (c :: r)) = 47 :: d :: r' ∧ digB d = true
  · obtain ⟨d, r', hr, hdd⟩ := hA
    rw [numN_A _ _ d r' rfl hr hdd] at h
    obtain ⟨k1, k2, k3⟩ := numR_inv h
    have k4 := numR_inv3 h
    have hk := spanN_pos digB d r' hdd
    obtain ⟨q, hq⟩ : ∃ q, n - spanN digB (c :: r) = q + 1 + 1 := ⟨n - spanN digB (c :: r) - 2, by omega⟩
    rw [hr, hq, List.take_succ_cons, List.take_succ_cons] at hdr
    have hs2 : spanN digB (d :: r'.take q) = spanN digB (d :: r') := by
      rw [← List.take_succ_cons]; exact spanN_tk digB (d :: r') (q + 1) (by omega)
    rw [numN_A _ _ d (r'.take q) hs1 hdr hdd, hs2, hhead, k1]
    rw [← k3] at k4 ⊢
    exact numR_yes rfl (by omega) (endsB_take _ _ _ hmn k4)
  · have hno : ∀ d r', (c :: r).drop (spanN digB (c :: r)) = 47 :: d :: r' → digB d = false := fun d r' hr => by
      cases hdd : digB d
      · rfl
      · exact absurd ⟨d, r', hr, hdd⟩ hA
    rw [numN_B _ _ rfl hno] at h
    obtain ⟨k1, k2, k3⟩ := numR_inv h
    have k4 := numR_inv3 h
    subst k3
    rw [numN_B _ _ hs1 (fun d r' hr => by
      rw [hdr] at hr
      cases hq : (c :: r).drop (spanN digB (c :: r)) with
      | nil => rw [hq] at hr; simp at hr
      | cons x t =>
        rw [hq] at hr
        obtain ⟨q, hq2⟩ : ∃ q, n - spanN digB (c :: r) = q + 1 := by
          cases hk : n - spanN digB (c :: r) with
          | zero => rw [hk] at hr; simp at hr
          | succ q => exact ⟨q, rfl⟩
        rw [hq2, List.take_succ_cons] at hr
        cases t with
        | nil => simp at hr
        | cons y t =>
          cases q with
          | zero => simp at hr
          | succ q =>
            rw [List.take_succ_cons] at hr
            cases hr
            exact hno d t hq), hhead, k1]
    exact numR_yes rfl (by omega) (endsB_take _ _ _ hmn k4)

/-- A token without an error is the same where the source ends behind it. -/
theorem kind_take (c : UInt8) (r : List UInt8) (n : Nat) (h : (kindL (c :: r)).2.2 = 0) (hn : (kindL (c :: r)).2.1 ≤ n) : kindL ((c :: r).take n) = kindL (c :: r) := by
  have hbd := kindL_bd c r
  have hpos := hbd.2 h
  obtain ⟨q, rfl⟩ : ∃ q, n = q + 1 := ⟨n - 1, by omega⟩
  rw [List.take_succ_cons]
  cases hlet : letB c
  · cases hdat : datedB (c :: r)
    · have hnd : datedB (c :: r.take q) = false := by
        cases hx : datedB (c :: r.take q)
        · rfl
        · have h10 := dated_len hx
          simp only [List.length_cons, List.length_take] at h10
          have := dated_take (c :: r) [] (min (q + 1) (c :: r).length) (Nat.min_le_right _ _) (Or.inl rfl) (by
            rw [List.append_nil, ← List.take_take, List.take_length, List.take_succ_cons]; exact hx)
          rw [hdat] at this; cases this
      cases hdig : digB c
      · rw [kindL_else hlet hdat hdig, kindL_else hlet hnd hdig]
      · have hk := kindL_num hlet hdat hdig
        have hN : numN (c :: r) = ((kindL (c :: r)).2.1, 0) := by
          rw [hk] at h ⊢
          exact Prod.ext rfl h
        have hst := num_take c r _ (q + 1) hdig hN hn
        rw [List.take_succ_cons] at hst
        rw [kindL_num hlet hnd hdig, hst, hk, hN]
    · have hk := kindL_date hlet hdat
      split at hk
      · rename_i hc
        rw [hk] at hn
        simp only [] at hn
        have h10 := dated_len hdat
        have hd : datedB ((c :: r).take (q + 1)) = true := by
          rw [dated_iff]
          intro j hj
          have h1 := (dated_iff _).1 hdat j hj
          unfold datP at h1 ⊢
          rw [getD_take _ _ _ (by omega)]
          rw [Bool.and_eq_true] at h1 ⊢
          exact ⟨by rw [decide_eq_true_eq, List.length_take]; omega, h1.2⟩
        have hok : dateOK ((c :: r).take (q + 1)) = true := by
          unfold dateOK
          rw [List.take_take, Nat.min_eq_left hn]
          exact hc.1
        have he := endsB_take (c :: r) (q + 1) 10 hn hc.2
        rw [List.take_succ_cons] at hd hok he
        rw [kindL_date hlet hd, if_pos ⟨hok, he⟩, hk]
      · rw [hk] at h; simp at h
  · have hk := kindL_word (l := r) hlet
    split at hk
    · rename_i h24
      rw [hk] at hn
      simp only [] at hn
      have hs := spanN_tk partB (c :: r) (q + 1) hn
      rw [List.take_succ_cons] at hs
      rw [kindL_word hlet, hs, if_pos h24, hk]
    · rw [hk] at h; simp at h

theorem ite_err {p : Prop} [Decidable p] {x : Nat} : (if p then (x, 0) else ((0, 112) : Nat × Nat)).2 = 0 ∨ (if p then (x, 0) else ((0, 112) : Nat × Nat)).2 = 112 := by split <;> simp

theorem kind_err (l : List UInt8) : (kindL l).2.2 = 0 ∨ (kindL l).2.2 = 110 ∨ (kindL l).2.2 = 111 ∨ (kindL l).2.2 = 112 ∨ (kindL l).2.2 = 113 := by
  cases l with
  | nil => right; left; rfl
  | cons c r =>
    cases hlet : letB c
    · cases hdat : datedB (c :: r)
      · cases hdig : digB c
        · rw [kindL_else hlet hdat hdig]; split <;> simp
        · rw [kindL_num hlet hdat hdig]
          have : (numN (c :: r)).2 = 0 ∨ (numN (c :: r)).2 = 112 := by
            unfold numN; exact ite_err
          rcases this with h | h
          · left; exact h
          · right; right; right; left; exact h
      · rw [kindL_date hlet hdat]; split <;> simp
    · rw [kindL_word hlet]; split <;> simp

theorem blankN_take (l : List UInt8) (n : Nat) (hn : blankN l ≤ n) : blankN (l.take n) = blankN l := by
  by_cases hh : ∃ q, l.drop (spanN blankB l) = 35 :: q
  · obtain ⟨q, hq⟩ := hh
    rw [blankN_hash hq] at hn ⊢
    have h1 : 1 ≤ spanN lineB (35 :: q) := spanN_pos lineB 35 q (by decide)
    have hs := spanN_tk blankB l n (by omega)
    obtain ⟨k, hk⟩ : ∃ k, n - spanN blankB l = k + 1 := ⟨n - spanN blankB l - 1, by omega⟩
    have hd : (l.take n).drop (spanN blankB (l.take n)) = 35 :: q.take k := by
      rw [hs, List.drop_take, hq, hk, List.take_succ_cons]
    rw [blankN_hash hd, hs, ← List.take_succ_cons, spanN_tk lineB (35 :: q) (k + 1) (by omega)]
  · rw [blankN_plain fun q hq => hh ⟨q, hq⟩] at hn ⊢
    have hs := spanN_tk blankB l n hn
    rw [blankN_plain, hs]
    intro q hq
    rw [hs, List.drop_take] at hq
    cases hd : l.drop (spanN blankB l) with
    | nil => rw [hd, List.take_nil] at hq; cases hq
    | cons x t =>
      rw [hd] at hq
      cases hk : n - spanN blankB l with
      | zero => rw [hk] at hq; cases hq
      | succ k =>
        rw [hk, List.take_succ_cons] at hq
        cases hq
        exact hh ⟨t, hd⟩

/-- The lexer without fuel. -/
def lexA (s : St) : List Tok × Option Bad := lexF (s.left.length + 1) s

theorem lexF_fuel (f : Nat) : ∀ (g : Nat) (s : St), s.left.length < f → s.left.length < g → lexF f s = lexF g s := by
  induction f with
  | zero => intro g s h; omega
  | succ f ih =>
    intro g s hf hg
    obtain ⟨g, rfl⟩ : ∃ k, g = k + 1 := ⟨g - 1, by omega⟩
    have hb := blankN_le s.left
    have hl : (s.left.drop (blankN s.left)).length = s.left.length - blankN s.left := List.length_drop
    cases hr : s.left.drop (blankN s.left) with
    | nil => rw [lexF_nil hr, lexF_nil hr]
    | cons c r =>
      rw [hr] at hl
      simp only [List.length_cons] at hl
      by_cases hc : c = 10
      · subst hc
        rw [lexF_nl hr, lexF_nl hr, ih g _ (by show r.length < f; omega) (by show r.length < g; omega)]
      · by_cases hk : (kindL (c :: r)).2.2 = 0
        · have hbd := kindL_bd c r
          have hpos := hbd.2 hk
          rw [lexF_tok hr hc hk, lexF_tok hr hc hk, ih g _ (by simp only [List.length_drop, List.length_cons]; omega) (by simp only [List.length_drop, List.length_cons]; omega)]
        · rw [lexF_bad hr hc hk, lexF_bad hr hc hk]

theorem lexA_fuel {f : Nat} {s : St} (h : s.left.length < f) : lexF f s = lexA s := lexF_fuel f _ s h (by omega)

theorem lexS_A (l : List UInt8) : lexS l = lexA (start l) := rfl

theorem lexA_nil {s : St} (h : s.left.drop (blankN s.left) = []) : lexA s = (endT s.fin, none) := lexF_nil h

theorem lexA_nl {s : St} {r : List UInt8} (h : s.left.drop (blankN s.left) = 10 :: r) : lexA s = (endT s.fin ++ (lexA ⟨r, s.line + 1, 1, none⟩).1, (lexA ⟨r, s.line + 1, 1, none⟩).2) := by
  have hl : (s.left.drop (blankN s.left)).length = s.left.length - blankN s.left := List.length_drop
  rw [h, List.length_cons] at hl
  rw [lexA, lexF_nl h, lexA_fuel (show r.length < s.left.length by omega)]

theorem lexA_tok {s : St} {c : UInt8} {r : List UInt8} (h : s.left.drop (blankN s.left) = c :: r) (hc : ¬ c = 10) (hk : (kindL (c :: r)).2.2 = 0) :
    lexA s = (⟨(kindL (c :: r)).1, (c :: r).take (kindL (c :: r)).2.1, s.line, s.col + blankN s.left⟩ :: (lexA ⟨(c :: r).drop (kindL (c :: r)).2.1, s.line, s.col + blankN s.left + (kindL (c :: r)).2.1, some (s.line, s.col + blankN s.left + (kindL (c :: r)).2.1)⟩).1,
      (lexA ⟨(c :: r).drop (kindL (c :: r)).2.1, s.line, s.col + blankN s.left + (kindL (c :: r)).2.1, some (s.line, s.col + blankN s.left + (kindL (c :: r)).2.1)⟩).2) := by
  have hl : (s.left.drop (blankN s.left)).length = s.left.length - blankN s.left := List.length_drop
  have hbd := kindL_bd c r
  have hpos := hbd.2 hk
  rw [h, List.length_cons] at hl
  rw [lexA, lexF_tok h hc hk, lexA_fuel (by simp only [List.length_drop, List.length_cons]; omega)]

theorem lexA_bad {s : St} {c : UInt8} {r : List UInt8} (h : s.left.drop (blankN s.left) = c :: r) (hc : ¬ c = 10) (hk : ¬ (kindL (c :: r)).2.2 = 0) :
    lexA s = ([], some ⟨(kindL (c :: r)).2.2, s.line, s.col + blankN s.left⟩) := lexF_bad h hc hk

/-- The tokens and the error, but for their places. -/
def view (q : List Tok × Option Bad) : List (Nat × List UInt8) × Option Nat := (q.1.map kt, q.2.map Bad.err)

theorem endT_kt {a b : Option (Nat × Nat)} (h : a.isSome = b.isSome) : (endT a).map kt = (endT b).map kt := by
  cases a <;> cases b <;> first | rfl | cases h

theorem lexF_view (f : Nat) : ∀ s t : St, s.left = t.left → s.fin.isSome = t.fin.isSome → view (lexF f s) = view (lexF f t) := by
  induction f with
  | zero => intro s t _ _; rfl
  | succ f ih =>
    rintro ⟨l, a, b, o⟩ ⟨l', a', b', o'⟩ h1 h2
    obtain rfl : l = l' := h1
    have he := endT_kt (a := o) (b := o') h2
    cases hr : l.drop (blankN l) with
    | nil => rw [lexF_nil (s := ⟨l, a, b, o⟩) hr, lexF_nil (s := ⟨l, a', b', o'⟩) hr, view, view, he]
    | cons c r =>
      by_cases hc : c = 10
      · subst hc
        rw [lexF_nl (s := ⟨l, a, b, o⟩) hr, lexF_nl (s := ⟨l, a', b', o'⟩) hr]
        have := ih ⟨r, a + 1, 1, none⟩ ⟨r, a' + 1, 1, none⟩ rfl rfl
        simp only [view, Prod.mk.injEq, List.map_append] at this ⊢
        rw [he, this.1, this.2]
        exact ⟨rfl, rfl⟩
      · by_cases hk : (kindL (c :: r)).2.2 = 0
        · rw [lexF_tok (s := ⟨l, a, b, o⟩) hr hc hk, lexF_tok (s := ⟨l, a', b', o'⟩) hr hc hk]
          have := ih ⟨(c :: r).drop (kindL (c :: r)).2.1, a, b + blankN l + (kindL (c :: r)).2.1, some (a, b + blankN l + (kindL (c :: r)).2.1)⟩ ⟨(c :: r).drop (kindL (c :: r)).2.1, a', b' + blankN l + (kindL (c :: r)).2.1, some (a', b' + blankN l + (kindL (c :: r)).2.1)⟩ rfl rfl
          simp only [view, Prod.mk.injEq, List.map_cons] at this ⊢
          rw [this.1, this.2]
          exact ⟨rfl, rfl⟩
        · rw [lexF_bad (s := ⟨l, a, b, o⟩) hr hc hk, lexF_bad (s := ⟨l, a', b', o'⟩) hr hc hk]
          rfl

theorem lexA_view {s t : St} (h : s.left = t.left) (h2 : s.fin.isSome = t.fin.isSome) : view (lexA s) = view (lexA t) := by
  unfold lexA
  rw [h]
  exact lexF_view _ s t h h2

/-- The line of an error goes with the line of the start. -/
theorem lexF_down (f : Nat) : ∀ (l : List UInt8) (a b d : Nat) (o o' : Option (Nat × Nat)), (lexF f ⟨l, a + d, b, o⟩).2 = (lexF f ⟨l, a, b, o'⟩).2.map (fun x => ⟨x.err, x.line + d, x.col⟩) := by
  induction f with
  | zero => intros; rfl
  | succ f ih =>
    intro l a b d o o'
    cases hr : l.drop (blankN l) with
    | nil => rw [lexF_nil (s := ⟨l, a + d, b, o⟩) hr, lexF_nil (s := ⟨l, a, b, o'⟩) hr]; rfl
    | cons c r =>
      by_cases hc : c = 10
      · subst hc
        rw [lexF_nl (s := ⟨l, a + d, b, o⟩) hr, lexF_nl (s := ⟨l, a, b, o'⟩) hr]
        have := ih r (a + 1) 1 d none none
        rw [show a + 1 + d = a + d + 1 by omega] at this
        exact this
      · by_cases hk : (kindL (c :: r)).2.2 = 0
        · rw [lexF_tok (s := ⟨l, a + d, b, o⟩) hr hc hk, lexF_tok (s := ⟨l, a, b, o'⟩) hr hc hk]
          exact ih _ a (b + blankN l + (kindL (c :: r)).2.1) d _ _
        · rw [lexF_bad (s := ⟨l, a + d, b, o⟩) hr hc hk, lexF_bad (s := ⟨l, a, b, o'⟩) hr hc hk]
          rfl

end Go.Proofs.Ytgkknjlegfdcnaa.Lx
