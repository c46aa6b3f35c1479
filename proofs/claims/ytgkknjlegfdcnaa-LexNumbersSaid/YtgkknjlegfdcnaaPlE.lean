/- Plain law: numbers. No program in sight. -/
import Derived.Test.YtgkknjlegfdcnaaPlA
namespace Go.Proofs.Ytgkknjlegfdcnaa.Lx
open Go.Proofs.Ytgkknjlegfdcnaa.Cal

/-- Decimal digits of a number; of 0 there are none in 'upD'. -/
def upF : Nat → Nat → List UInt8
  | 0, _ => []
  | f + 1, n => if n = 0 then [] else upF f (n / 10) ++ [UInt8.ofNat (48 + n % 10)]
def upD (n : Nat) : List UInt8 := upF (n + 1) n
def decD (n : Nat) : List UInt8 := upD (n / 10) ++ [UInt8.ofNat (48 + n % 10)]

theorem upF_fuel (f : Nat) : ∀ g n, n < f → n < g → upF f n = upF g n := by
  induction f with
  | zero => intro g n h; omega
  | succ f ih =>
    intro g n hf hg
    obtain ⟨g, rfl⟩ : ∃ k, g = k + 1 := ⟨g - 1, by omega⟩
    unfold upF
    by_cases h0 : n = 0
    · rw [if_pos h0, if_pos h0]
    · rw [if_neg h0, if_neg h0, ih g (n / 10) (by omega) (by omega)]
theorem upD_zero : upD 0 = [] := rfl
theorem upD_step {n : Nat} (h : 0 < n) : upD n = upD (n / 10) ++ [UInt8.ofNat (48 + n % 10)] := by
  show upF (n + 1) n = _
  unfold upF
  rw [if_neg (by omega)]
  rw [upF_fuel n (n / 10 + 1) (n / 10) (by omega) (by omega)]; rfl
theorem digit_ok (n : Nat) : digB (UInt8.ofNat (48 + n % 10)) = true ∧ (UInt8.ofNat (48 + n % 10) = 48 ↔ n % 10 = 0) := by
  have h : n % 10 < 10 := Nat.mod_lt _ (by decide)
  generalize n % 10 = m at h
  have : m = 0 ∨ m = 1 ∨ m = 2 ∨ m = 3 ∨ m = 4 ∨ m = 5 ∨ m = 6 ∨ m = 7 ∨ m = 8 ∨ m = 9 := by omega
  rcases this with rfl | rfl | rfl | rfl | rfl | rfl | rfl | rfl | rfl | rfl <;> exact ⟨by decide, by decide⟩

theorem upD_facts : ∀ n, (∀ c ∈ upD n, digB c = true) ∧ (0 < n → ∃ c r, upD n = c :: r ∧ c ≠ 48) := by
  intro n
  induction n using Nat.strongRecOn with
  | ind n ih =>
    by_cases h0 : n = 0
    · subst h0; exact ⟨fun c h => (by cases h), fun h => absurd h (by omega)⟩
    · rw [upD_step (by omega)]
      obtain ⟨i1, i2⟩ := ih (n / 10) (by omega)
      refine ⟨fun c hc => ?_, fun _ => ?_⟩
      · rcases List.mem_append.1 hc with h | h
        · exact i1 c h
        · rw [List.mem_singleton.1 h]; exact (digit_ok n).1
      · by_cases h1 : n / 10 = 0
        · rw [h1, upD_zero]
          exact ⟨_, [], rfl, fun e => by have := (digit_ok n).2.1 e; omega⟩
        · obtain ⟨c, r, hc, hne⟩ := i2 (by omega)
          rw [hc]
          exact ⟨c, _, rfl, hne⟩

theorem upD_len : ∀ k n, n < 10 ^ k → (upD n).length ≤ k := by
  intro k
  induction k with
  | zero =>
    intro n h
    have h0 : n = 0 := by rw [Nat.pow_zero] at h; omega
    rw [h0]; exact Nat.le_refl _
  | succ k ih =>
    intro n h
    by_cases h0 : n = 0
    · subst h0; exact Nat.zero_le _
    · rw [upD_step (by omega), List.length_append, List.length_singleton]
      have := ih (n / 10) (by rw [Nat.pow_succ] at h; omega)
      omega

theorem decD_digits (n : Nat) : ∀ c ∈ decD n, digB c = true := fun c hc => by
  rcases List.mem_append.1 hc with h | h
  · exact (upD_facts _).1 c h
  · rw [List.mem_singleton.1 h]; exact (digit_ok n).1
theorem decD_head (n : Nat) : ∃ c r, decD n = c :: r ∧ (c = 48 ↔ n = 0) ∧ (n = 0 → r = []) := by
  unfold decD
  by_cases h1 : n / 10 = 0
  · rw [h1, upD_zero]
    refine ⟨_, [], rfl, ?_, fun _ => rfl⟩
    rw [(digit_ok n).2]; omega
  · obtain ⟨c, r, hc, hne⟩ := (upD_facts (n / 10)).2 (by omega)
    rw [hc]
    exact ⟨c, _, rfl, ⟨fun e => absurd e hne, fun e => by subst e; exact absurd rfl h1⟩, fun e => by subst e; exact absurd rfl h1⟩
theorem decD_len (n : Nat) (h : n < 18446744073709551616) : (decD n).length ≤ 20 := by
  have := upD_len 19 (n / 10) (by
    have : (10 : Nat) ^ 19 = 10000000000000000000 := by decide
    rw [this]; omega)
  unfold decD
  rw [List.length_append, List.length_singleton]
  omega

theorem dig_nolet {c : UInt8} (h : digB c = true) : letB c = false ∧ c ≠ 10 ∧ c ≠ 35 ∧ blankB c = false ∧ c ≠ 47 := by
  have key : ∀ n : Fin 256, digB (UInt8.ofNat n.val) = true → letB (UInt8.ofNat n.val) = false ∧ UInt8.ofNat n.val ≠ 10 ∧ UInt8.ofNat n.val ≠ 35 ∧ blankB (UInt8.ofNat n.val) = false ∧ UInt8.ofNat n.val ≠ 47 := by decide +kernel
  have h2 := key ⟨c.toNat, c.toNat_lt⟩
  simp only [UInt8.ofNat_toNat] at h2
  exact h2 h

theorem dash_none {l : List UInt8} (h : ∀ c ∈ l, c ≠ 45) : datedB l = false := by
  cases hx : datedB l
  · rfl
  · have h1 := (dated_iff l).1 hx 4 (by omega)
    have h2 := dated_len hx
    unfold datP at h1
    rw [Bool.and_eq_true] at h1
    have h3 : l.getD 4 0 = 45 := by simpa [formL] using h1.2
    refine absurd h3 (h _ ?_)
    rw [List.getD, List.getElem?_eq_getElem (by omega)]
    exact List.getElem_mem _

/-- Whether digits are a number: no leading 0, not too long. -/
def fineB (d : List UInt8) : Bool := (d.head? != some 48) || (d.length == 1)

theorem num_digits (c : UInt8) (r : List UInt8) (h : ∀ x ∈ c :: r, digB x = true) : kindL (c :: r) = (2, (numR (fineB (c :: r)) (c :: r).length true).1, (numR (fineB (c :: r)) (c :: r).length true).2) := by
  have hc := dig_nolet (h c (List.mem_cons_self ..))
  have hd : datedB (c :: r) = false := dash_none fun x hx e => by have := h x hx; rw [e] at this; exact absurd this (by decide)
  have hs : spanN digB (c :: r) = (c :: r).length := by
    have := spanN_app digB (c :: r) [] h
    rw [List.append_nil] at this
    rw [this]; rfl
  have he : endsB (c :: r) (c :: r).length = true := by unfold endsB; rw [List.drop_length]
  rw [kindL_num hc.1 hd (h c (List.mem_cons_self ..)), numN_B _ _ hs (fun d r' hr => by rw [List.drop_length] at hr; cases hr), he]
  rfl

theorem num_frac (c : UInt8) (r : List UInt8) (d : UInt8) (q : List UInt8) (h : ∀ x ∈ c :: r, digB x = true) (h2 : ∀ x ∈ d :: q, digB x = true) :
    kindL (c :: r ++ 47 :: d :: q) = (2, (numR (fineB (c :: r) && (d != 48)) (c :: r ++ 47 :: d :: q).length true).1, (numR (fineB (c :: r) && (d != 48)) (c :: r ++ 47 :: d :: q).length true).2) := by
  have hc := dig_nolet (h c (List.mem_cons_self ..))
  have hd : datedB (c :: (r ++ 47 :: d :: q)) = false := dash_none fun x hx e => by
    rcases List.mem_cons.1 hx with hx | hx
    · have := h x (by rw [hx]; exact List.mem_cons_self ..)
      rw [e] at this; exact absurd this (by decide)
    · rcases List.mem_append.1 hx with hx | hx
      · have := h x (List.mem_cons_of_mem _ hx)
        rw [e] at this; exact absurd this (by decide)
      · rcases List.mem_cons.1 hx with hx | hx
        · rw [hx] at e; exact absurd e (by decide)
        · have := h2 x hx
          rw [e] at this; exact absurd this (by decide)
  have hs : spanN digB (c :: r ++ 47 :: d :: q) = (c :: r).length := by
    rw [spanN_app digB (c :: r) _ h, spanN, if_neg (by decide)]; rfl
  have hr : (c :: r ++ 47 :: d :: q).drop (c :: r).length = 47 :: d :: q := List.drop_left
  have hs2 : spanN digB (d :: q) = (d :: q).length := by
    have := spanN_app digB (d :: q) [] h2
    rw [List.append_nil] at this
    rw [this]; rfl
  have hl : (c :: r).length + (1 + (d :: q).length) = (c :: r ++ 47 :: d :: q).length := by
    simp only [List.length_append, List.length_cons]; omega
  have he : endsB (c :: r ++ 47 :: d :: q) (c :: r ++ 47 :: d :: q).length = true := by unfold endsB; rw [List.drop_length]
  show kindL (c :: (r ++ 47 :: d :: q)) = _
  rw [kindL_num hc.1 hd (h c (List.mem_cons_self ..))]
  have hN := numN_A (c :: r ++ 47 :: d :: q) _ d q hs hr (h2 d (List.mem_cons_self ..))
  rw [hs2, hl, he] at hN
  rw [show c :: (r ++ 47 :: d :: q) = c :: r ++ 47 :: d :: q from rfl, hN]
  rfl

theorem one_tok {c : UInt8} {r : List UInt8} {k : Nat} (hc : digB c = true) (hk : kindL (c :: r) = (k, (c :: r).length, 0)) : lexS (c :: r) = ([⟨k, c :: r, 1, 1⟩, ⟨5, [], 1, 1 + (c :: r).length⟩], none) := by
  obtain ⟨-, h10, h35, hb, -⟩ := dig_nolet hc
  have hz : blankN (c :: r) = 0 := blankN_tok h35 hb
  rw [lexS_A, lexA_tok (s := start (c :: r)) (c := c) (r := r) (by show (c :: r).drop (blankN (c :: r)) = _; rw [hz]; rfl) h10 (by rw [hk]), hk]
  simp only [List.take_length, List.drop_length]
  rw [lexA_nil (by rfl)]
  show ((⟨k, c :: r, 1, 1 + blankN (c :: r)⟩ : Tok) :: [(⟨5, [], 1, 1 + blankN (c :: r) + (c :: r).length⟩ : Tok)], _) = _
  rw [hz]

theorem one_bad {c : UInt8} {r : List UInt8} {e : Nat} (hc : digB c = true) (hk : (kindL (c :: r)).2.2 = e) (he : e ≠ 0) : lexS (c :: r) = ([], some ⟨e, 1, 1⟩) := by
  obtain ⟨-, h10, h35, hb, -⟩ := dig_nolet hc
  have hz : blankN (c :: r) = 0 := blankN_tok h35 hb
  subst hk
  rw [lexS_A, lexA_bad (s := start (c :: r)) (c := c) (r := r) (by show (c :: r).drop (blankN (c :: r)) = _; rw [hz]; rfl) h10 he]
  show ([], some (⟨_, 1, 1 + blankN (c :: r)⟩ : Bad)) = _
  rw [hz]

/-- Digits alone. -/
theorem digits_lex (c : UInt8) (r : List UInt8) (h : ∀ x ∈ c :: r, digB x = true) (hl : (c :: r).length ≤ 65536) :
    (fineB (c :: r) = true ∧ (c :: r).length ≤ 200 → (lexE (c :: r)).err = 0 ∧ lexT (c :: r) = [⟨2, c :: r, 1, 1⟩, ⟨5, [], 1, 1 + (c :: r).length⟩]) ∧
    (¬ (fineB (c :: r) = true ∧ (c :: r).length ≤ 200) → (lexE (c :: r)).err = 112 ∧ lexT (c :: r) = []) := by
  have hk := num_digits c r h
  have hc := h c (List.mem_cons_self ..)
  constructor
  · rintro ⟨h1, h2⟩
    rw [numR_yes h1 h2 rfl] at hk
    have hS := one_tok hc hk
    rw [lexE_none hl (by rw [hS]), lexT_none hl (by rw [hS]), hS]
    exact ⟨rfl, rfl⟩
  · intro hn
    have hR : numR (fineB (c :: r)) (c :: r).length true = (0, 112) := by
      unfold numR; rw [if_neg]; rintro ⟨⟨h1, h2⟩, -⟩; exact hn ⟨h1, h2⟩
    rw [hR] at hk
    have hS := one_bad (e := 112) hc (by rw [hk]) (by decide)
    unfold lexE lexT
    rw [if_pos hl, if_pos hl, hS]
    exact ⟨rfl, rfl⟩

/-- Digits, / and digits. -/
theorem frac_lex (c : UInt8) (r : List UInt8) (d : UInt8) (q : List UInt8) (h : ∀ x ∈ c :: r, digB x = true) (h2 : ∀ x ∈ d :: q, digB x = true) (hl : (c :: r ++ 47 :: d :: q).length ≤ 65536) :
    ((fineB (c :: r) && (d != 48)) = true ∧ (c :: r ++ 47 :: d :: q).length ≤ 200 → (lexE (c :: r ++ 47 :: d :: q)).err = 0 ∧ lexT (c :: r ++ 47 :: d :: q) = [⟨2, c :: r ++ 47 :: d :: q, 1, 1⟩, ⟨5, [], 1, 1 + (c :: r ++ 47 :: d :: q).length⟩]) ∧
    (¬ ((fineB (c :: r) && (d != 48)) = true ∧ (c :: r ++ 47 :: d :: q).length ≤ 200) → (lexE (c :: r ++ 47 :: d :: q)).err = 112 ∧ lexT (c :: r ++ 47 :: d :: q) = []) := by
  have hk := num_frac c r d q h h2
  have hc := h c (List.mem_cons_self ..)
  constructor
  · rintro ⟨h1, h3⟩
    rw [numR_yes h1 h3 rfl] at hk
    have hS := one_tok (r := r ++ 47 :: d :: q) hc hk
    have hS : lexS (c :: r ++ 47 :: d :: q) = _ := hS
    rw [lexE_none hl (by rw [hS]), lexT_none hl (by rw [hS]), hS]
    exact ⟨rfl, rfl⟩
  · intro hn
    have hR : numR (fineB (c :: r) && (d != 48)) (c :: r ++ 47 :: d :: q).length true = (0, 112) := by
      unfold numR; rw [if_neg]; rintro ⟨⟨h1, h3⟩, -⟩; exact hn ⟨h1, h3⟩
    rw [hR] at hk
    have hS := one_bad (r := r ++ 47 :: d :: q) (e := 112) hc (by show (kindL (c :: r ++ 47 :: d :: q)).2.2 = _; rw [hk]) (by decide)
    have hS : lexS (c :: r ++ 47 :: d :: q) = _ := hS
    unfold lexE lexT
    rw [if_pos hl, if_pos hl, hS]
    exact ⟨rfl, rfl⟩

theorem blank_dig {d : UInt8} {q : List UInt8} (h : digB d = true) : blankN (d :: q) = 0 ∧ blankN (32 :: d :: q) = 1 := by
  obtain ⟨-, h10, h35, hb, -⟩ := dig_nolet h
  exact ⟨blankN_tok h35 hb, blankN_sp h35 hb⟩

/-- Digits, blanks around /, digits that are a number. -/
theorem three_lex (c : UInt8) (r : List UInt8) (d : UInt8) (q : List UInt8) (h : ∀ x ∈ c :: r, digB x = true) (h2 : ∀ x ∈ d :: q, digB x = true) (hl : (c :: r ++ 32 :: 47 :: 32 :: d :: q).length ≤ 65536) (hf : fineB (d :: q) = true) (hq : (d :: q).length ≤ 200) :
    (fineB (c :: r) = true ∧ (c :: r).length ≤ 200 → (lexE (c :: r ++ 32 :: 47 :: 32 :: d :: q)).err = 0 ∧ (lexT (c :: r ++ 32 :: 47 :: 32 :: d :: q)).length = 4) ∧
    (¬ (fineB (c :: r) = true ∧ (c :: r).length ≤ 200) → (lexE (c :: r ++ 32 :: 47 :: 32 :: d :: q)).err = 112 ∧ lexT (c :: r ++ 32 :: 47 :: 32 :: d :: q) = []) := by
  have hk : kindL (c :: (r ++ 32 :: 47 :: 32 :: d :: q)) = _ := (kind_cut c r (b := 32 :: 47 :: 32 :: d :: q) (Or.inr ⟨32, _, rfl, by simp⟩)).trans (num_digits c r h)
  have hc := h c (List.mem_cons_self ..)
  have hd := h2 d (List.mem_cons_self ..)
  obtain ⟨-, h10, h35, hb, -⟩ := dig_nolet hc
  constructor
  · rintro ⟨h1, h3⟩
    rw [numR_yes h1 h3 rfl] at hk
    simp only [] at hk
    have hkd := num_digits d q h2
    rw [numR_yes hf hq rfl] at hkd
    simp only [] at hkd
    have hz : blankN (c :: (r ++ 32 :: 47 :: 32 :: d :: q)) = 0 := blankN_tok h35 hb
    have hdr : (c :: (r ++ 32 :: 47 :: 32 :: d :: q)).drop (c :: r).length = 32 :: 47 :: 32 :: d :: q := List.drop_left (l₁ := c :: r)
    have ks : kindL (47 :: 32 :: d :: q) = (4, 1, 0) := by
      have hd0 : datedB (47 :: 32 :: d :: q) = false := dated_not _ 0 (by omega) (by simp [datP, formL]; decide)
      rw [kindL_else (by decide) hd0 (by decide), if_pos (by decide)]
    have z2 : blankN (32 :: 47 :: 32 :: d :: q) = 1 := blankN_sp (by decide) (by decide)
    have z3 := (blank_dig (q := q) hd).2
    have hS : ∃ t1 t2 t3 t4, lexS (c :: (r ++ 32 :: 47 :: 32 :: d :: q)) = ([t1, t2, t3, t4], none) := by
      rw [lexS_A, lexA_tok (s := start (c :: (r ++ 32 :: 47 :: 32 :: d :: q))) (c := c) (r := r ++ 32 :: 47 :: 32 :: d :: q) (by
        show (c :: (r ++ 32 :: 47 :: 32 :: d :: q)).drop (blankN (c :: (r ++ 32 :: 47 :: 32 :: d :: q))) = _
        rw [hz]; rfl) h10 (by rw [hk]), hk]
      simp only [hdr]
      rw [lexA_tok (c := 47) (r := 32 :: d :: q) (by
        show (32 :: 47 :: 32 :: d :: q).drop (blankN (32 :: 47 :: 32 :: d :: q)) = _
        rw [z2]; rfl) (by decide) (by rw [ks]), ks]
      simp only [List.drop_succ_cons, List.drop_zero]
      obtain ⟨-, d10, -, -, -⟩ := dig_nolet hd
      rw [lexA_tok (c := d) (r := q) (by
        show (32 :: d :: q).drop (blankN (32 :: d :: q)) = _
        rw [z3]; rfl) d10 (by rw [hkd]), hkd]
      simp only [List.drop_length]
      rw [lexA_nil (by rfl)]
      exact ⟨_, _, _, _, rfl⟩
    obtain ⟨t1, t2, t3, t4, hS⟩ := hS
    have hS : lexS (c :: r ++ 32 :: 47 :: 32 :: d :: q) = _ := hS
    rw [lexE_none hl (by rw [hS]), lexT_none hl (by rw [hS]), hS]
    exact ⟨rfl, rfl⟩
  · intro hn
    have hR : numR (fineB (c :: r)) (c :: r).length true = (0, 112) := by
      unfold numR; rw [if_neg]; rintro ⟨⟨h1, h3⟩, -⟩; exact hn ⟨h1, h3⟩
    rw [hR] at hk
    have hS := one_bad (r := r ++ 32 :: 47 :: 32 :: d :: q) (e := 112) hc (by rw [hk]) (by decide)
    have hS : lexS (c :: r ++ 32 :: 47 :: 32 :: d :: q) = _ := hS
    unfold lexE lexT
    rw [if_pos hl, if_pos hl, hS]
    exact ⟨rfl, rfl⟩

end Go.Proofs.Ytgkknjlegfdcnaa.Lx
