/- Contracts: Between and Age. -/
import Derived.Test.YtblgiojmodoilaaWalkF
namespace Go.Proofs.Ytblgiojmodoilaa.Cal
open Go.RowKit Go.Shelf

theorem addN_lo (d : Int) (n : Nat) (h0 : 0 ≤ d) (h1 : d < 65536) : (st (mo d.toNat + n) : Int) ≤ addN d n := by
  have hb := ddZ_bd d h0 h1
  unfold addN
  rw [show (moZ d + (n : Int)).toNat = mo d.toNat + n by unfold moZ; omega]
  have := sz_bd (mo d.toNat + n)
  omega

theorem addN_hi (d : Int) (n : Nat) (_h0 : 0 ≤ d) (_h1 : d < 65536) : addN d n < (st (mo d.toNat + n + 1) : Int) := by
  unfold addN
  rw [show (moZ d + (n : Int)).toNat = mo d.toNat + n by unfold moZ; omega, st_succ]
  have := sz_bd (mo d.toNat + n)
  omega

theorem addN_lt (d : Int) (n : Nat) (h0 : 0 ≤ d) (h1 : d < 65536) : addN d n < addN d (n + 1 : Nat) := by
  have h2 := addN_hi d n h0 h1
  have h3 := addN_lo d (n + 1) h0 h1
  rw [← Nat.add_assoc] at h3
  omega

theorem addN_smono (d : Int) (h0 : 0 ≤ d) (h1 : d < 65536) {a b : Nat} (h : a < b) : addN d a < addN d b := by
  induction b with
  | zero => omega
  | succ b ih =>
    have hs := addN_lt d b h0 h1
    by_cases e : a = b
    · subst e; exact hs
    · have := ih (by omega); omega

theorem addN_zero (d : Int) (h0 : 0 ≤ d) (h1 : d < 65536) : addN d 0 = d := by
  have hb := ddZ_bd d h0 h1
  unfold addN
  rw [show (moZ d + 0).toNat = mo d.toNat by unfold moZ; omega]
  have e : ddZ d = d - (st (mo d.toNat) : Int) := rfl
  omega

theorem addN_far (d : Int) (n : Int) (h0 : 0 ≤ d) (h1 : d < 65536) (h2 : 2154 ≤ moZ d + n) : 65536 ≤ addN d n := by
  have hb := ddZ_bd d h0 h1
  unfold addN
  have := sz_bd (moZ d + n).toNat
  have h3 := st_mono (show 2154 ≤ (moZ d + n).toNat by omega)
  rw [st_2154] at h3
  omega

def bwF : Nat → Nat → Int → Int → Nat
  | 0, k, _, _ => k
  | f + 1, k, a, b => if addN a ((k + 1 : Nat) : Int) ≤ b then bwF f (k + 1) a b else k
/-- Whole months from a to b. -/
def bw (a b : Int) : Nat := bwF 3000 0 a b

theorem bwF_spec (f k : Nat) (a b : Int) (h : addN a k ≤ b) (hf : b < addN a (k + f : Nat)) : addN a (bwF f k a b) ≤ b ∧ b < addN a (bwF f k a b + 1 : Nat) := by
  induction f generalizing k with
  | zero => simp at hf; omega
  | succ f ih =>
    unfold bwF
    split
    · exact ih (k + 1) (by assumption) (by rw [show k + 1 + f = k + (f + 1) by omega]; exact hf)
    · exact ⟨h, by omega⟩

theorem bw_spec (a b : Int) (h0 : 0 ≤ a) (hab : a ≤ b) (h1 : b < 65536) : addN a (bw a b) ≤ b ∧ b < addN a (bw a b + 1 : Nat) := by
  have ha : a < 65536 := by omega
  refine bwF_spec 3000 0 a b ?_ ?_
  · have := addN_zero a h0 ha
    show addN a ((0 : Nat) : Int) ≤ b
    rw [show ((0 : Nat) : Int) = 0 from rfl]; omega
  · have hm := moZ_bd a ha
    have := addN_far a (0 + 3000 : Nat) h0 ha (by omega)
    omega

theorem bw_iff (a b : Int) (h0 : 0 ≤ a) (hab : a ≤ b) (h1 : b < 65536) (i : Nat) : b < addN a i ↔ bw a b + 1 ≤ i := by
  have ha : a < 65536 := by omega
  have h := bw_spec a b h0 hab h1
  constructor
  · intro hi
    by_cases e : bw a b + 1 ≤ i
    · exact e
    · by_cases e2 : i = bw a b
      · subst e2; omega
      · have := addN_smono a h0 ha (show i < bw a b by omega); omega
  · intro hi
    by_cases e2 : i = bw a b + 1
    · subst e2; exact h.2
    · have := addN_smono a h0 ha (show bw a b + 1 < i by omega); omega

theorem bw_uniq (a b : Int) (n : Nat) (h0 : 0 ≤ a) (hab : a ≤ b) (h1 : b < 65536) (h2 : addN a n ≤ b) (h3 : b < addN a (n + 1 : Nat)) : bw a b = n := by
  have e1 := bw_iff a b h0 hab h1 n
  have e2 := bw_iff a b h0 hab h1 (n + 1)
  omega

theorem bw_lt (a b : Int) (h0 : 0 ≤ a) (hab : a ≤ b) (h1 : b < 65536) : bw a b + 1 ≤ 2154 := by
  have hm := moZ_bd a (by omega)
  rw [← bw_iff a b h0 hab h1]
  have := addN_far a (2154 : Nat) h0 (by omega) (by omega)
  omega

theorem late_dec (a b n : Int) (h0 : 0 ≤ a) (h1 : a < 65536) (hb : b < 65536) (_hn : 0 ≤ n) : (addB a n = true → (addE a n = 0 ∧ addV a n = addN a n)) ∧ (addB a n = false → (addE a n = 30 ∧ b < addN a n)) := by
  have hm := moZ_bd a h1
  constructor
  · intro h
    simp [addE, addV, dateB_true h0 h1, h]
  · intro h
    refine ⟨by simp [addE, dateB_true h0 h1, h], ?_⟩
    have hh : ¬ (0 ≤ moZ a + n ∧ moZ a + n < 2154 ∧ addN a n < 65536) := by
      intro hc; rw [addB_true hc.1 hc.2.1 hc.2.2] at h; cases h
    by_cases e : moZ a + n < 2154
    · omega
    · have := addN_far a n h0 h1 (by omega); omega

theorem addN_bd (a n : Int) (h0 : 0 ≤ a) (h1 : a < 65536) (hb : addB a n = true) : 0 ≤ addN a n ∧ addN a n < 65536 := by
  have h2 := ddZ_bd a h0 h1
  have h3 := sz_bd (moZ a + n).toNat
  unfold addB at hb
  have := of_decide_eq_true hb
  refine ⟨?_, this.2.2⟩
  unfold addN
  omega

set_option maxHeartbeats 1000000 in
/-- The closure of Between: 'late'. -/
theorem late47 (ba bb : Nat) (a b n : Int) (w : World) (ha : w.cell? ⟨ba, 0, none⟩ = some (.int .i64 a)) (hb : w.cell? ⟨bb, 0, none⟩ = some (.int .i64 b))
    (h0 : 0 ≤ a) (h1 : a < 65536) (h2 : b < 65536) (hn : 0 ≤ n) :
    Calls Try.prog 47 (#[.int .i64 n] ++ #[.pointer (some ⟨ba, 0, none⟩), .pointer (some ⟨bb, 0, none⟩)]) w fun e w' => e = .returned (.bool (decide (b < addN a n))) ∧ Up w w' := by
  have hd := late_dec a b n h0 h1 h2 hn
  cases hB : addB a n
  · obtain ⟨e1, e2⟩ := hd.2 hB
    rw [decide_eq_true e2]
    have hc := add29 a n w
    rw [e1] at hc
    have HC := Lib.hid hc
    clear hc e1 e2 hd hB
    go_enter Try.func47, Try.ntmps47
    go_wp2_with (go_at_call 29; refine HC.out.mono ?_; rintro e w' ⟨rfl, hup⟩; have hb' := hup.cell hb)
    go_ret
    exact ⟨rfl, hup⟩
  · obtain ⟨e1, e2⟩ := hd.1 hB
    have hc := add29 a n w
    rw [e1, e2] at hc
    generalize addN a n = N at hc ⊢
    have HC := Lib.hid hc
    clear hc e1 e2 hd hB
    go_enter Try.func47, Try.ntmps47
    go_wp2_with (go_at_call 29; refine HC.out.mono ?_; rintro e w' ⟨rfl, hup⟩; have hb' := hup.cell hb)
    go_ret
    exact ⟨rfl, hup⟩

theorem cell_box2 (w : World) (u v : Value) (t s : TypeId) : ((w.alloc (.cells #[u] t)).alloc (.cells #[v] s)).cell? ⟨w.heap.size, 0, none⟩ = some u ∧ ((w.alloc (.cells #[u] t)).alloc (.cells #[v] s)).cell? ⟨w.heap.size + 1, 0, none⟩ = some v := by
  have h1 := cell_box w u t
  have h2 := cell_box (w.alloc (.cells #[u] t)) v s
  rw [World.size_alloc] at h2
  exact ⟨((Up.refl (w.alloc (.cells #[u] t))).alloc _).cell h1, h2⟩

set_option maxHeartbeats 2000000 in
theorem between30_le (a b : Int) (w : World) (h0 : 0 ≤ a) (hab : a ≤ b) (h1 : b < 65536) :
    Calls Try.prog 30 #[.int .i64 a, .int .i64 b] w fun e w' => e = .returned (.tuple #[.int .i64 (bw a b : Int), .int .i64 0]) ∧ Up w w' := by
  have hlt := bw_lt a b h0 hab h1
  have eg : ∀ args w, (callFunc 47 args).run Try.prog w = .ok (.enter 47 args) w := enters_of Try.func47 (by kernel_rfl) rfl
  have hmf := run_makeFunc54
  obtain ⟨hc1, hc2⟩ := cell_box2 w (.int .i64 a) (.int .i64 b) 3 3
  have hS := search48 47 #[.pointer (some ⟨w.heap.size, 0, none⟩), .pointer (some ⟨w.heap.size + 1, 0, none⟩)] 2154 (bw a b + 1) ((w.alloc (.cells #[.int .i64 a] 3)).alloc (.cells #[.int .i64 b] 3)) eg (by omega) hlt
    (fun i wx hi0 hi1 hup => by
      have h := late47 w.heap.size (w.heap.size + 1) a b i wx (hup.cell hc1) (hup.cell hc2) h0 (by omega) h1 hi0
      rw [show decide (bw a b + 1 ≤ i.toNat) = decide (b < addN a i) by
        have := bw_iff a b h0 hab h1 i.toNat
        rw [show ((i.toNat : Nat) : Int) = i by omega] at this
        rw [decide_eq_decide]; omega]
      exact h)
  have HS := Lib.hid hS
  clear hS eg
  go_enter Try.func30, Try.ntmps30
  go_wp2_with (first | (go_at_call 37; refine (date37_yes _ _ (by omega) (by omega)).mono ?_; rintro e w' ⟨rfl, rfl⟩) | (go_at_call 48; refine HS.out.mono ?_; rintro e w1 ⟨rfl, hup⟩))
  go_ret2
  exact ⟨rfl, (((Up.refl w).alloc _).alloc _).trans hup⟩

set_option maxHeartbeats 2000000 in
theorem between30_gt (a b : Int) (w : World) (h0 : 0 ≤ b) (hab : b < a) (h1 : a < 65536) :
    Calls Try.prog 30 #[.int .i64 a, .int .i64 b] w fun e w' => e = .returned (.tuple #[.int .i64 (-(bw b a : Int)), .int .i64 0]) ∧ Up w w' := by
  have hlt := bw_lt b a h0 (by omega) h1
  obtain ⟨hc1, hc2⟩ := cell_box2 w (.int .i64 a) (.int .i64 b) 3 3
  go_enter Try.func30, Try.ntmps30
  go_wp2_with (first | (go_at_call 37; refine (date37_yes _ _ (by omega) (by omega)).mono ?_; rintro e w' ⟨rfl, rfl⟩) | (go_at_call 30; refine (between30_le _ _ _ h0 (by omega) h1).mono ?_; rintro e w1 ⟨rfl, hup⟩))
  go_ret2
  exact ⟨rfl, (((Up.refl w).alloc _).alloc _).trans hup⟩

theorem between30_no (a b : Int) (w : World) (h : (a < 0 ∨ 65536 ≤ a) ∨ ((0 ≤ a ∧ a < 65536) ∧ (b < 0 ∨ 65536 ≤ b))) :
    Calls Try.prog 30 #[.int .i64 a, .int .i64 b] w fun e w' => e = .returned (.tuple #[.int .i64 0, .int .i64 2]) ∧ Up w w' := by
  obtain ⟨hc1, hc2⟩ := cell_box2 w (.int .i64 a) (.int .i64 b) 3 3
  rcases h with h | ⟨⟨h1, h2⟩, h⟩
  · go_enter Try.func30, Try.ntmps30
    go_wp2_with (first | (go_at_call 37; refine (date37_no _ _ h).mono ?_; rintro e w' ⟨rfl, rfl⟩))
    go_ret2
    exact ⟨rfl, ((Up.refl w).alloc _).alloc _⟩
  · go_enter Try.func30, Try.ntmps30
    go_wp2_with fail
    refine (date37_yes _ _ h1 h2).mono ?_
    rintro e w' ⟨rfl, rfl⟩
    go_wp2_with fail
    refine (date37_no _ _ h).mono ?_
    rintro e w' ⟨rfl, rfl⟩
    go_wp2_with fail
    go_ret2
    exact ⟨rfl, ((Up.refl w).alloc _).alloc _⟩

def bwB (a b : Int) : Bool := dateB a && dateB b
def bwV (a b : Int) : Int := if bwB a b = true then (if b < a then -(bw b a : Int) else (bw a b : Int)) else 0
def bwE (a b : Int) : Int := if bwB a b = true then 0 else 2

theorem between30 (a b : Int) (w : World) :
    Calls Try.prog 30 #[.int .i64 a, .int .i64 b] w fun e w' => e = .returned (.tuple #[.int .i64 (bwV a b), .int .i64 (bwE a b)]) ∧ Up w w' := by
  rcases date_cases a with ⟨h0, h1⟩ | h
  · rcases date_cases b with ⟨h2, h3⟩ | h'
    · have hB : bwB a b = true := by simp [bwB, dateB_true h0 h1, dateB_true h2 h3]
      by_cases hab : b < a
      · rw [bwV, bwE, if_pos hB, if_pos hB, if_pos hab]
        exact between30_gt a b w h2 hab h1
      · rw [bwV, bwE, if_pos hB, if_pos hB, if_neg hab]
        exact between30_le a b w h0 (by omega) h3
    · have hB : ¬ bwB a b = true := by simp [bwB, dateB_false h']
      rw [bwV, bwE, if_neg hB, if_neg hB]
      exact between30_no a b w (Or.inr ⟨⟨h0, h1⟩, h'⟩)
  · have hB : ¬ bwB a b = true := by simp [bwB, dateB_false h]
    rw [bwV, bwE, if_neg hB, if_neg hB]
    exact between30_no a b w (Or.inl h)

def ageV (a b : Int) : Int := if b < a then 0 else bwV a b / 12
def ageE (a b : Int) : Int := if b < a then 2 else bwE a b

theorem bwV_bd (a b : Int) (h : ¬ b < a) : 0 ≤ bwV a b ∧ bwV a b < 2154 := by
  unfold bwV
  split
  · rename_i hB
    simp only [bwB, Bool.and_eq_true, dateB, decide_eq_true_eq] at hB
    have := bw_lt a b (by omega) (by omega) (by omega)
    omega
  · omega

set_option maxHeartbeats 1000000 in
theorem age31 (a b : Int) (w : World) :
    Calls Try.prog 31 #[.int .i64 a, .int .i64 b] w fun e w' => e = .returned (.tuple #[.int .i64 (ageV a b), .int .i64 (ageE a b)]) ∧ Up w w' := by
  by_cases h : b < a
  · rw [ageV, ageE, if_pos h, if_pos h]
    go_enter Try.func31, Try.ntmps31
    go_wp2_with fail
    go_ret2
    exact ⟨rfl, Up.refl _⟩
  · rw [ageV, ageE, if_neg h, if_neg h]
    have hb := bwV_bd a b h
    go_enter Try.func31, Try.ntmps31
    go_wp2_with (go_at_call 30; refine (between30 _ _ _).mono ?_; rintro e w1 ⟨rfl, hup⟩)
    go_ret2
    exact ⟨rfl, hup⟩

end Go.Proofs.Ytblgiojmodoilaa.Cal
