/- Plain law: blanks, remarks and empty lines at the ends of lines. No program in sight. -/
import Derived.Test.YtgkknjlegfdcnaaPlC
namespace Go.Proofs.Ytgkknjlegfdcnaa.Lx
open Go.Proofs.Ytgkknjlegfdcnaa.Cal

/-- What stands ahead of each newline. -/
def zee (k : List UInt8) : List UInt8 := ([32, 9, 35] ++ k) ++ [10, 32, 10]
def mark (k : List UInt8) : List UInt8 → List UInt8
  | [] => []
  | c :: r => (if c = 10 then zee k ++ [c] else [c]) ++ mark k r
def marked (k l : List UInt8) : List UInt8 := [32, 9, 10] ++ mark k l ++ ([9, 35] ++ k)

theorem mark_app (k a b : List UInt8) : mark k (a ++ b) = mark k a ++ mark k b := by
  induction a with
  | nil => rfl
  | cons c a ih => rw [List.cons_append, mark, mark, ih, List.append_assoc]
theorem mark_plain (k : List UInt8) {a : List UInt8} (h : ∀ c ∈ a, c ≠ 10) : mark k a = a := by
  induction a with
  | nil => rfl
  | cons c a ih => rw [mark, if_neg (h c (List.mem_cons_self ..)), ih fun x hx => h x (List.mem_cons_of_mem _ hx)]; rfl
theorem mark_nl (k r : List UInt8) : mark k (10 :: r) = ([32, 9, 35] ++ k) ++ 10 :: 32 :: 10 :: 10 :: mark k r := by
  rw [mark, if_pos rfl]; simp [zee]
theorem mark_len (k l : List UInt8) : (mark k l).length ≤ (8 + k.length) * l.length := by
  induction l with
  | nil => simp [mark]
  | cons c l ih =>
    rw [mark, List.length_append, List.length_cons, Nat.mul_add]
    split
    · simp [zee]; omega
    · simp; omega
theorem marked_len {k l : List UInt8} (hk : k.length ≤ 30) (hl : l.length ≤ 1000) : (marked k l).length ≤ 65536 := by
  have h := mark_len k l
  have h2 : (8 + k.length) * l.length ≤ 38 * 1000 := Nat.mul_le_mul (by omega) hl
  simp only [marked, List.length_append, List.length_cons, List.length_nil]
  omega

theorem spanN_less (p : UInt8 → Bool) (a b : List UInt8) (h : spanN p a < a.length) : spanN p (a ++ b) = spanN p a := by
  induction a with
  | nil => simp [spanN] at h
  | cons c a ih =>
    rw [List.cons_append]
    unfold spanN at h ⊢
    by_cases hc : p c = true
    · rw [if_pos hc] at h ⊢
      rw [if_pos hc, ih (by rw [List.length_cons] at h; omega)]
    · rw [if_neg hc, if_neg hc]
theorem spanN_all (p : UInt8 → Bool) (a : List UInt8) (h : ∀ c ∈ a, p c = true) : spanN p a = a.length := by
  have := spanN_app p a [] h
  rw [List.append_nil] at this
  rw [this]; rfl
theorem spanN_full (p : UInt8 → Bool) (a b : List UInt8) (h : spanN p a = a.length) : spanN p (a ++ b) = a.length + spanN p b := by
  refine spanN_app p a b fun c hc => ?_
  have := spanN_take p a
  rw [h, List.take_length] at this
  exact this c hc

theorem lineB_yes {l : List UInt8} (h : ∀ c ∈ l, c ≠ 10) : ∀ c ∈ l, lineB c = true := fun c hc => by
  unfold lineB; simpa using h c hc

/-- A blank line stays blank with a remark behind it. -/
theorem blank_more (x u k : List UInt8) (hx : ∀ c ∈ x, c ≠ 10) (hk : ∀ c ∈ k, c ≠ 10) (hu : ∀ c ∈ u, blankB c = true) (h : x.drop (blankN x) = []) : blankN (x ++ (u ++ 35 :: k)) = (x ++ (u ++ 35 :: k)).length := by
  have hu10 : ∀ c ∈ u, c ≠ 10 := fun c hc e => by have := hu c hc; rw [e] at this; exact absurd this (by decide)
  have hle := spanN_le blankB x
  by_cases hh : ∃ q, x.drop (spanN blankB x) = 35 :: q
  · obtain ⟨q, hq⟩ := hh
    have hlen : (x.drop (spanN blankB x)).length = x.length - spanN blankB x := List.length_drop
    rw [hq, List.length_cons] at hlen
    have hs := spanN_less blankB x (u ++ 35 :: k) (by omega)
    have hd : (x ++ (u ++ 35 :: k)).drop (spanN blankB (x ++ (u ++ 35 :: k))) = 35 :: (q ++ (u ++ 35 :: k)) := by
      rw [hs, List.drop_append_of_le_length hle, hq]; rfl
    have hmem : ∀ c ∈ (35 :: q : List UInt8), c ≠ 10 := fun c hc => hx c (by rw [← hq] at hc; exact List.mem_of_mem_drop hc)
    have hall : spanN lineB (35 :: (q ++ (u ++ 35 :: k))) = (35 :: (q ++ (u ++ 35 :: k))).length := by
      refine spanN_all _ _ (lineB_yes fun c hc => ?_)
      rcases List.mem_cons.1 hc with rfl | hc
      · decide
      · rcases List.mem_append.1 hc with h1 | h1
        · exact hmem c (List.mem_cons_of_mem _ h1)
        · rcases List.mem_append.1 h1 with h2 | h2
          · exact hu10 c h2
          · rcases List.mem_cons.1 h2 with rfl | h3
            · decide
            · exact hk c h3
    rw [blankN_hash hd, hall, hs]
    simp only [List.length_cons, List.length_append]
    omega
  · have hp : blankN x = spanN blankB x := blankN_plain fun q hq => hh ⟨q, hq⟩
    rw [hp] at h
    have hl : (x.drop (spanN blankB x)).length = x.length - spanN blankB x := List.length_drop
    rw [h, List.length_nil] at hl
    have hf : spanN blankB x = x.length := by omega
    have hs : spanN blankB (x ++ (u ++ 35 :: k)) = x.length + u.length := by
      rw [spanN_full blankB x _ hf, spanN_app blankB u _ hu, spanN, if_neg (by decide)]; omega
    have hd : (x ++ (u ++ 35 :: k)).drop (spanN blankB (x ++ (u ++ 35 :: k))) = 35 :: k := by
      rw [hs, ← List.append_assoc, ← List.length_append, List.drop_left]
    have hall : spanN lineB (35 :: k) = (35 :: k).length := by
      refine spanN_all _ _ (lineB_yes fun c hc => ?_)
      rcases List.mem_cons.1 hc with rfl | hc
      · decide
      · exact hk c hc
    rw [blankN_hash hd, hall, hs]
    simp only [List.length_cons, List.length_append]
    omega

/-- What stands behind a token does not touch the blanks ahead of it. -/
theorem blankN_app (x w : List UInt8) (hx : ∀ c ∈ x, c ≠ 10) (h : x.drop (blankN x) ≠ []) : blankN (x ++ w) = blankN x := by
  have hle := spanN_le blankB x
  by_cases hh : ∃ q, x.drop (spanN blankB x) = 35 :: q
  · obtain ⟨q, hq⟩ := hh
    refine absurd ?_ h
    have hmem : ∀ c ∈ (35 :: q : List UInt8), c ≠ 10 := fun c hc => hx c (by rw [← hq] at hc; exact List.mem_of_mem_drop hc)
    rw [blankN_hash hq, ← List.drop_drop, hq, spanN_all _ _ (lineB_yes hmem), List.drop_length]
  · have hp : blankN x = spanN blankB x := blankN_plain fun q hq => hh ⟨q, hq⟩
    rw [hp] at h ⊢
    have hlt : spanN blankB x < x.length := by
      rcases Nat.lt_or_ge (spanN blankB x) x.length with h1 | h1
      · exact h1
      · exact absurd (List.drop_eq_nil_iff.2 h1) h
    have hs := spanN_less blankB x w hlt
    rw [blankN_plain, hs]
    intro q hq
    rw [hs, List.drop_append_of_le_length hle, drop_cons x _ hlt, List.cons_append] at hq
    refine hh ⟨x.drop (spanN blankB x + 1), ?_⟩
    rw [drop_cons x _ hlt, (List.cons.inj hq).1]

theorem line_split (l : List UInt8) : ∃ x y, l = x ++ y ∧ (∀ c ∈ x, c ≠ 10) ∧ (y = [] ∨ ∃ r, y = 10 :: r) := by
  induction l with
  | nil => exact ⟨[], [], rfl, (fun c h => by cases h), Or.inl rfl⟩
  | cons c l ih =>
    by_cases hc : c = 10
    · exact ⟨[], c :: l, rfl, (fun c h => by cases h), Or.inr ⟨l, by rw [hc]⟩⟩
    · obtain ⟨x, y, rfl, hx, hy⟩ := ih
      refine ⟨c :: x, y, rfl, fun z hz => ?_, hy⟩
      rcases List.mem_cons.1 hz with rfl | hz
      · exact hc
      · exact hx z hz

theorem blankN_tail (x y : List UInt8) (hy : y = [] ∨ ∃ r, y = 10 :: r) : blankN (x ++ y) = blankN x := by
  rcases hy with rfl | ⟨r, rfl⟩
  · rw [List.append_nil]
  · exact blankN_nl x r

theorem view_fst {p q : List Tok × Option Bad} (h : view p = view q) : p.1.map kt = q.1.map kt := congrArg Prod.fst h
theorem view_snd {p q : List Tok × Option Bad} (h : view p = view q) : p.2.map Bad.err = q.2.map Bad.err := congrArg Prod.snd h
theorem view_mk {a c : List Tok} {b d : Option Bad} (h : a.map kt = c.map kt) (h2 : b.map Bad.err = d.map Bad.err) : view (a, b) = view (c, d) := by
  unfold view; rw [h, h2]

theorem remark_lex (k : List UInt8) (hk : ∀ c ∈ k, c ≠ 10) : ∀ (n : Nat) (s t : St), s.left.length = n → t.left = mark k s.left ++ ([9] ++ 35 :: k) → s.fin.isSome = t.fin.isSome → view (lexA s) = view (lexA t) := by
  intro n
  induction n using Nat.strongRecOn with
  | ind n ih =>
    rintro ⟨l, a, b, o⟩ ⟨l', a', b', o'⟩ hn ht ho
    obtain ⟨x, y, rfl, hx, hy⟩ := line_split l
    simp only [] at hn ht ho
    rw [mark_app, mark_plain k hx, List.append_assoc] at ht
    have hbx := blankN_tail x y hy
    have hble := blankN_le x
    have hdx : (x ++ y).drop (blankN (x ++ y)) = x.drop (blankN x) ++ y := by
      rw [hbx]; exact List.drop_append_of_le_length hble
    cases hr : x.drop (blankN x) with
    | nil =>
      rw [hr, List.nil_append] at hdx
      rcases hy with rfl | ⟨r, rfl⟩
      · have hb2 := blank_more x [9] k hx hk (by decide) hr
        have hd2 : l'.drop (blankN l') = [] := by
          rw [ht]
          show (x ++ ([9] ++ 35 :: k)).drop (blankN (x ++ ([9] ++ 35 :: k))) = []
          rw [hb2, List.drop_length]
        rw [lexA_nil (s := ⟨x ++ [], a, b, o⟩) hdx, lexA_nil (s := ⟨l', a', b', o'⟩) hd2]
        exact view_mk (endT_kt ho) rfl
      · have hb2 := blank_more x [32, 9] k hx hk (by decide) hr
        have ht2 : l' = (x ++ ([32, 9] ++ 35 :: k)) ++ 10 :: (32 :: 10 :: 10 :: (mark k r ++ ([9] ++ 35 :: k))) := by
          rw [ht, mark_nl]; simp
        have hd2 : l'.drop (blankN l') = 10 :: (32 :: 10 :: 10 :: (mark k r ++ ([9] ++ 35 :: k))) := by
          rw [ht2, blankN_nl, hb2, List.drop_left]
        rw [lexA_nl (s := ⟨x ++ 10 :: r, a, b, o⟩) hdx, lexA_nl (s := ⟨l', a', b', o'⟩) hd2]
        rw [lexA_nl (s := ⟨32 :: 10 :: 10 :: (mark k r ++ ([9] ++ 35 :: k)), a' + 1, 1, none⟩) (r := 10 :: (mark k r ++ ([9] ++ 35 :: k))) (by
          show (32 :: 10 :: 10 :: (mark k r ++ ([9] ++ 35 :: k))).drop (blankN ([32] ++ 10 :: 10 :: (mark k r ++ ([9] ++ 35 :: k)))) = _
          rw [blankN_nl]; rfl)]
        rw [lexA_nl (s := ⟨10 :: (mark k r ++ ([9] ++ 35 :: k)), a' + 1 + 1, 1, none⟩) (r := mark k r ++ ([9] ++ 35 :: k)) (by
          show (10 :: (mark k r ++ ([9] ++ 35 :: k))).drop (blankN ([] ++ 10 :: (mark k r ++ ([9] ++ 35 :: k)))) = _
          rw [blankN_nl]; rfl)]
        have hi := ih r.length (by rw [← hn]; simp; omega) ⟨r, a + 1, 1, none⟩ ⟨mark k r ++ ([9] ++ 35 :: k), a' + 1 + 1 + 1, 1, none⟩ rfl rfl rfl
        refine view_mk ?_ (view_snd hi)
        have h0 : endT (none : Option (Nat × Nat)) = [] := rfl
        simp only [List.map_append, endT_kt ho, view_fst hi, h0, List.nil_append]
    | cons c r =>
      rw [hr, List.cons_append] at hdx
      have hne : x.drop (blankN x) ≠ [] := by rw [hr]; exact List.cons_ne_nil _ _
      have hcx : ∀ z ∈ (c :: r), z ≠ 10 := fun z hz => hx z (by rw [← hr] at hz; exact List.mem_of_mem_drop hz)
      have hc : ¬ c = 10 := hcx c (List.mem_cons_self ..)
      have hcy : Cut y := by
        rcases hy with rfl | ⟨q, rfl⟩
        · exact Or.inl rfl
        · exact Or.inr ⟨10, q, rfl, by simp⟩
      obtain ⟨w, hw⟩ : ∃ w, mark k y ++ ([9] ++ 35 :: k) = w := ⟨_, rfl⟩
      have hcw : Cut w := by
        rw [← hw]
        rcases hy with rfl | ⟨q, rfl⟩
        · exact Or.inr ⟨9, 35 :: k, rfl, by simp⟩
        · exact Or.inr ⟨32, _, by rw [mark_nl]; rfl, by simp⟩
      rw [hw] at ht
      have hbw := blankN_app x w hx hne
      have hdw : l'.drop (blankN l') = c :: (r ++ w) := by
        rw [ht, hbw, List.drop_append_of_le_length hble, hr]; rfl
      have k1 : kindL (c :: (r ++ y)) = kindL (c :: r) := kind_cut c r hcy
      have k2 : kindL (c :: (r ++ w)) = kindL (c :: r) := kind_cut c r hcw
      by_cases hkd : (kindL (c :: r)).2.2 = 0
      · have hbd := kindL_bd c r
        have hpos := hbd.2 hkd
        have t1 : (c :: (r ++ y)).take (kindL (c :: r)).2.1 = (c :: r).take (kindL (c :: r)).2.1 := List.take_append_of_le_length (l₁ := c :: r) hbd.1
        have t2 : (c :: (r ++ w)).take (kindL (c :: r)).2.1 = (c :: r).take (kindL (c :: r)).2.1 := List.take_append_of_le_length (l₁ := c :: r) hbd.1
        have d1 : (c :: (r ++ y)).drop (kindL (c :: r)).2.1 = (c :: r).drop (kindL (c :: r)).2.1 ++ y := List.drop_append_of_le_length (l₁ := c :: r) hbd.1
        have d2 : (c :: (r ++ w)).drop (kindL (c :: r)).2.1 = (c :: r).drop (kindL (c :: r)).2.1 ++ w := List.drop_append_of_le_length (l₁ := c :: r) hbd.1
        have hl : (x.drop (blankN x)).length = x.length - blankN x := List.length_drop
        rw [hr] at hl
        rw [lexA_tok (s := ⟨x ++ y, a, b, o⟩) hdx hc (by rw [k1]; exact hkd), lexA_tok (s := ⟨l', a', b', o'⟩) hdw hc (by rw [k2]; exact hkd), k1, k2, t1, t2, d1, d2]
        have hmem : ∀ z ∈ (c :: r).drop (kindL (c :: r)).2.1, z ≠ 10 := fun z hz => hcx z (List.mem_of_mem_drop hz)
        have hi := ih _ (by rw [← hn]; simp only [List.length_append, List.length_drop]; omega) ⟨(c :: r).drop (kindL (c :: r)).2.1 ++ y, a, b + blankN (x ++ y) + (kindL (c :: r)).2.1, some (a, b + blankN (x ++ y) + (kindL (c :: r)).2.1)⟩ ⟨(c :: r).drop (kindL (c :: r)).2.1 ++ w, a', b' + blankN l' + (kindL (c :: r)).2.1, some (a', b' + blankN l' + (kindL (c :: r)).2.1)⟩ rfl (by
          simp only []
          rw [mark_app, mark_plain k hmem, List.append_assoc, hw]) rfl
        refine view_mk ?_ (view_snd hi)
        rw [List.map_cons, List.map_cons, view_fst hi]
        rfl
      · rw [lexA_bad (s := ⟨x ++ y, a, b, o⟩) hdx hc (by rw [k1]; exact hkd), lexA_bad (s := ⟨l', a', b', o'⟩) hdw hc (by rw [k2]; exact hkd), k1, k2]
        rfl

theorem err_view {l m : List UInt8} (hl : l.length ≤ 65536) (hm : m.length ≤ 65536) (h : view (lexS l) = view (lexS m)) : (lexE l).err = (lexE m).err ∧ (lexT l).map kt = (lexT m).map kt := by
  have h1 := view_fst h
  have h2 := view_snd h
  unfold lexE lexT
  rw [if_pos hl, if_pos hm, if_pos hl, if_pos hm]
  cases hx : (lexS l).2 with
  | none =>
    cases hy : (lexS m).2 with
    | none => exact ⟨rfl, h1⟩
    | some y => rw [hx, hy] at h2; cases h2
  | some x =>
    cases hy : (lexS m).2 with
    | none => rw [hx, hy] at h2; cases h2
    | some y =>
      rw [hx, hy] at h2
      exact ⟨Option.some.inj h2, rfl⟩

/-- The law of remarks. -/
theorem remarks (k l : List UInt8) (hk : ∀ c ∈ k, c ≠ 10) (hk2 : k.length ≤ 30) (hl : l.length ≤ 1000) : (lexE l).err = (lexE (marked k l)).err ∧ (lexT l).map kt = (lexT (marked k l)).map kt := by
  refine err_view (by omega) (marked_len hk2 hl) ?_
  have hS : lexS (marked k l) = ((lexA ⟨mark k l ++ ([9] ++ 35 :: k), 2, 1, none⟩).1, (lexA ⟨mark k l ++ ([9] ++ 35 :: k), 2, 1, none⟩).2) := by
    rw [lexS_A]
    have h := lexA_nl (s := start (marked k l)) (r := mark k l ++ ([9] ++ 35 :: k)) (by
      show (marked k l).drop (blankN (marked k l)) = _
      have : marked k l = [32, 9] ++ 10 :: (mark k l ++ ([9] ++ 35 :: k)) := by simp [marked]
      rw [this, blankN_nl]; rfl)
    rw [h]; rfl
  rw [hS]
  exact remark_lex k hk _ (start l) ⟨mark k l ++ ([9] ++ 35 :: k), 2, 1, none⟩ rfl rfl rfl

end Go.Proofs.Ytgkknjlegfdcnaa.Lx
