/- Plain law: the tokens that lex makes are a good list. No program in sight. -/
import Derived.Test.YtgkknjlegfdcnaaDoorLexQ
namespace Go.Proofs.YtgkknjlegfdcnaaDoor.Lx
open Go.Proofs.YtgkknjlegfdcnaaDoor.Cal

theorem getD_app (a b : List UInt8) (j : Nat) (h : j < a.length) : (a ++ b).getD j 0 = a.getD j 0 := by
  simp [List.getD, List.getElem?_append_left h]
theorem getD_take (l : List UInt8) (m j : Nat) (h : j < m) : (l.take m).getD j 0 = l.getD j 0 := by
  simp [List.getD, h]

theorem dated_take (l b : List UInt8) (m : Nat) (hm : m ≤ l.length) (hb : Stop b) (h : datedB (l.take m ++ b) = true) : datedB l = true := by
  have hl : (l.take m).length = m := by rw [List.length_take]; omega
  by_cases hd : m < 10
  · exact (dated_app _ _ h hb (by omega)).elim
  · rw [dated_iff]
    intro j hj
    have h1 := (dated_iff _).1 h j hj
    unfold datP at h1 ⊢
    rw [getD_app _ _ _ (by omega), getD_take _ _ _ (by omega)] at h1
    rw [Bool.and_eq_true] at h1 ⊢
    exact ⟨by rw [decide_eq_true_eq]; omega, h1.2⟩

theorem numR_inv {ok eb : Bool} {n m : Nat} (h : numR ok n eb = (m, 0)) : ok = true ∧ n ≤ 200 ∧ m = n := by
  unfold numR at h
  split at h
  · rename_i hc; cases h; exact ⟨hc.1.1, hc.1.2, rfl⟩
  · cases h

theorem num_stable (c : UInt8) (r b : List UInt8) (m : Nat) (hb : Stop b) (hd : digB c = true) (h : numN (c :: r) = (m, 0)) : numN ((c :: r).take m ++ b) = (m, 0) := by
  have hbd := numN_bd (c :: r)
  rw [h] at hbd
  have hm : m ≤ (c :: r).length := hbd.1
  have hsp := hbd.2 rfl
  have hpos := spanN_pos digB c r hd
  simp only [] at hsp
  have hl : ((c :: r).take m).length = m := by rw [List.length_take]; omega
  have hhead : ((c :: r).take m ++ b).head? = (c :: r).head? := by
    cases m with
    | zero => omega
    | succ m => rfl
  have hdrop : ((c :: r).take m).drop (spanN digB (c :: r)) = ((c :: r).drop (spanN digB (c :: r))).take (m - spanN digB (c :: r)) := by rw [List.drop_take]
  have hsplit : (c :: r).take m = (c :: r).take (spanN digB (c :: r)) ++ ((c :: r).drop (spanN digB (c :: r))).take (m - spanN digB (c :: r)) := by
    rw [← hdrop]
    have := List.take_append_drop (spanN digB (c :: r)) ((c :: r).take m)
    rw [List.take_take, Nat.min_eq_left hsp] at this
    exact this.symm
  have hn : ((c :: r).take (spanN digB (c :: r))).length = spanN digB (c :: r) := by rw [List.length_take]; omega
  have hdg := spanN_take digB (c :: r)
  have heb : endsB ((c :: r).take m ++ b) m = true := by have := endsB_stop ((c :: r).take m) b hb; rw [hl] at this; exact this
  by_cases hA : ∃ d r', (c :: r).drop (spanN digB (c :: r)) = 47 :: d :: r' ∧ digB d = true
  · obtain ⟨d, r', hr, hdd⟩ := hA
    rw [numN_A _ _ d r' rfl hr hdd] at h
    obtain ⟨k1, k2, k3⟩ := numR_inv h
    have hk := spanN_pos digB d r' hdd
    have hE := spanN_take digB (d :: r')
    have hEl : ((d :: r').take (spanN digB (d :: r'))).length = spanN digB (d :: r') := by
      have := spanN_le digB (d :: r')
      rw [List.length_take]; omega
    have hsuf : ((c :: r).drop (spanN digB (c :: r))).take (m - spanN digB (c :: r)) = 47 :: (d :: r').take (spanN digB (d :: r')) := by
      rw [hr, show m - spanN digB (c :: r) = spanN digB (d :: r') + 1 by omega]; rfl
    obtain ⟨e', he'⟩ : ∃ e', (d :: r').take (spanN digB (d :: r')) = d :: e' := by
      obtain ⟨q, hq⟩ : ∃ q, spanN digB (d :: r') = q + 1 := ⟨spanN digB (d :: r') - 1, by omega⟩
      rw [hq]; exact ⟨r'.take q, rfl⟩
    have hall : (c :: r).take m ++ b = (c :: r).take (spanN digB (c :: r)) ++ (47 :: (d :: e' ++ b)) := by
      rw [hsplit, hsuf, he', List.append_assoc]; rfl
    have hs1 : spanN digB ((c :: r).take m ++ b) = spanN digB (c :: r) := by
      have hz : spanN digB (47 :: (d :: e' ++ b)) = 0 := by rw [spanN, if_neg (by decide)]
      rw [hall, spanN_app digB _ _ hdg, hn, hz]; rfl
    have hs2 : spanN digB (d :: (e' ++ b)) = spanN digB (d :: r') := by
      rw [← List.cons_append, ← he', spanN_app digB _ _ hE, hEl, spanN_stop digB (by decide) (by decide) hb]; rfl
    have hdr : ((c :: r).take m ++ b).drop (spanN digB (c :: r)) = 47 :: d :: (e' ++ b) := by
      rw [hall]
      have := List.drop_left (l₁ := (c :: r).take (spanN digB (c :: r))) (l₂ := 47 :: (d :: e' ++ b))
      rw [hn] at this; exact this
    rw [numN_A _ _ d (e' ++ b) hs1 hdr hdd, hs2, hhead, k1, ← k3, heb]
    exact numR_yes rfl (by omega) rfl
  · rw [numN_B _ _ rfl (fun d r' hr => by
      cases hdd : digB d
      · rfl
      · exact absurd ⟨d, r', hr, hdd⟩ hA)] at h
    obtain ⟨k1, k2, k3⟩ := numR_inv h
    subst k3
    have hs1 : spanN digB ((c :: r).take (spanN digB (c :: r)) ++ b) = spanN digB (c :: r) := by
      rw [spanN_app digB _ _ hdg, hn, spanN_stop digB (by decide) (by decide) hb]; rfl
    have hdr : ((c :: r).take (spanN digB (c :: r)) ++ b).drop (spanN digB (c :: r)) = b := by
      have := List.drop_left (l₁ := (c :: r).take (spanN digB (c :: r))) (l₂ := b)
      rw [hn] at this; exact this
    rw [numN_B _ _ hs1 (fun d r' hr => by
      rw [hdr] at hr
      rcases hb with rfl | ⟨q, rfl | rfl⟩ <;> cases hr), hhead, k1, heb]
    exact numR_yes rfl (by omega) rfl

theorem take_cons_pos {c : UInt8} {r : List UInt8} {m : Nat} (h : 1 ≤ m) : ∃ a, (c :: r).take m = c :: a := by
  obtain ⟨q, rfl⟩ : ∃ q, m = q + 1 := ⟨m - 1, by omega⟩
  exact ⟨r.take q, rfl⟩

theorem kind_stable (c : UInt8) (r : List UInt8) (h : (kindL (c :: r)).2.2 = 0) : (kindL (c :: r)).1 ≠ 5 ∧ ∀ b, Stop b → kindL ((c :: r).take (kindL (c :: r)).2.1 ++ b) = ((kindL (c :: r)).1, (kindL (c :: r)).2.1, 0) := by
  have hbd := kindL_bd c r
  have hpos := hbd.2 h
  obtain ⟨a, ha⟩ := take_cons_pos (c := c) (r := r) hpos
  cases hlet : letB c
  · cases hdat : datedB (c :: r)
    · have hnd : ∀ b, Stop b → datedB ((c :: r).take (kindL (c :: r)).2.1 ++ b) = false := by
        intro b hb
        cases hx : datedB ((c :: r).take (kindL (c :: r)).2.1 ++ b)
        · rfl
        · have := dated_take _ _ _ hbd.1 hb hx; rw [hdat] at this; cases this
      cases hdig : digB c
      · have hk := kindL_else hlet hdat hdig
        cases hs : signB c
        · rw [hk, hs] at h; simp at h
        · rw [hs, if_pos rfl] at hk
          refine ⟨by rw [hk]; decide, fun b hb => ?_⟩
          have hd := hnd b hb
          rw [hk] at hd ⊢
          have hd' : datedB (c :: b) = false := hd
          show kindL (c :: b) = _
          rw [kindL_else hlet hd' hdig, hs, if_pos rfl]
      · have hk := kindL_num hlet hdat hdig
        refine ⟨by rw [hk]; exact (by decide : (2 : Nat) ≠ 5), fun b hb => ?_⟩
        have hd := hnd b hb
        have hN : numN (c :: r) = ((kindL (c :: r)).2.1, 0) := by
          rw [hk] at h ⊢
          exact Prod.ext rfl h
        have hst := num_stable c r b _ hb hdig hN
        rw [ha] at hd hst ⊢
        rw [List.cons_append] at hd hst ⊢
        rw [kindL_num hlet hd hdig, hst, hk]
    · have hk := kindL_date hlet hdat
      split at hk
      · rename_i hc
        refine ⟨by rw [hk]; decide, fun b hb => ?_⟩
        rw [hk] at ha ⊢
        simp only [] at ha ⊢
        have h10 : 10 ≤ (c :: r).length := by
          have := (dated_iff _).1 hdat 9 (by omega)
          simp only [datP, Bool.and_eq_true, decide_eq_true_eq] at this
          omega
        have hl : ((c :: r).take 10).length = 10 := by rw [List.length_take]; omega
        have hd : datedB ((c :: r).take 10 ++ b) = true := by
          rw [dated_iff]
          intro j hj
          have h1 := (dated_iff _).1 hdat j hj
          unfold datP at h1 ⊢
          rw [getD_app _ _ _ (by omega), getD_take _ _ _ (by omega)]
          rw [Bool.and_eq_true] at h1 ⊢
          exact ⟨by rw [decide_eq_true_eq, List.length_append]; omega, h1.2⟩
        have hok : dateOK ((c :: r).take 10 ++ b) = true := by
          have : ((c :: r).take 10 ++ b).take 10 = (c :: r).take 10 := by
            have := List.take_left (l₁ := (c :: r).take 10) (l₂ := b)
            rw [hl] at this; exact this
          unfold dateOK; rw [this]; exact hc.1
        have heb : endsB ((c :: r).take 10 ++ b) 10 = true := by have := endsB_stop ((c :: r).take 10) b hb; rw [hl] at this; exact this
        rw [ha] at hd hok heb ⊢
        rw [List.cons_append] at hd hok heb ⊢
        rw [kindL_date hlet hd, if_pos ⟨hok, heb⟩]
      · rw [hk] at h; simp at h
  · have hk := kindL_word (l := r) hlet
    split at hk
    · rename_i h24
      refine ⟨by rw [hk]; exact (by decide : (1 : Nat) ≠ 5), fun b hb => ?_⟩
      rw [hk] at ha ⊢
      simp only [] at ha ⊢
      have hl : ((c :: r).take (spanN partB (c :: r))).length = spanN partB (c :: r) := by
        have := spanN_le partB (c :: r)
        rw [List.length_take]; omega
      have hs : spanN partB ((c :: r).take (spanN partB (c :: r)) ++ b) = spanN partB (c :: r) := by
        rw [spanN_app partB _ _ (spanN_take partB _), hl, spanN_stop partB (by decide) (by decide) hb]; rfl
      rw [ha] at hs ⊢
      rw [List.cons_append] at hs ⊢
      rw [kindL_word hlet, hs, if_pos h24]
    · rw [hk] at h; simp at h

end Go.Proofs.YtgkknjlegfdcnaaDoor.Lx
