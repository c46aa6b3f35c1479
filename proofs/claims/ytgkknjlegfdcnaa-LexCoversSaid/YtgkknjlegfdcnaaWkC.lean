/- The walk of LexRemarks. -/
import Derived.Test.YtgkknjlegfdcnaaWkB
import Derived.Test.YtgkknjlegfdcnaaPlD
namespace Go.Proofs.Ytgkknjlegfdcnaa.Lx
open Go.RowKit Go.Shelf Go.Proofs.Ytgkknjlegfdcnaa.Cal

def AtRel (n : Nat) (i : Value) : Prop := ∃ j : Nat, j ≤ n ∧ i = .int .i64 (j : Int)

def MarkRel (k l : List UInt8) (t i : Value) : Prop := ∃ j : Nat, j ≤ l.length ∧ i = .int .i64 (j : Int) ∧ t = .string (bs ([32, 9, 10] ++ mark k (l.take j)))

theorem bs_one (l : List UInt8) (j : Nat) (h : j < l.length) : (bs l).extract j (j + 1) = bs [l.getD j 0] := by
  have h1 : l.take (j + 1) = l.take j ++ [l.getD j 0] := take_one h
  have hlen : (l.take j).length = j := by rw [List.length_take]; omega
  have h2 : (l.take (j + 1)).drop j = [l.getD j 0] := by
    rw [h1, List.drop_append_of_le_length (by omega), List.drop_of_length_le (by omega)]; rfl
  apply ByteArray.ext
  rw [ByteArray.data_extract, ← h2]
  simp [bs, List.extract_eq_take_drop, List.drop_take]

theorem is10 {l : List UInt8} {j : Nat} (hj : j < (bs l).size) : (((bs l)[j].toNat : Int) == 10) = decide (l.getD j 0 = 10) := by
  rw [bs_get l j hj]
  by_cases hc : l.getD j 0 = 10
  · rw [hc]; rfl
  · rw [decide_eq_false hc]
    cases hq : (((l.getD j 0).toNat : Int) == 10)
    · rfl
    · exact absurd (by apply UInt8.toNat_inj.1; show _ = 10; have := eq_of_beq hq; omega) hc

/-- A newline in the remark: nothing is asked. -/
theorem remarks_nl (S : ByteArray) (k : List UInt8) (p : Nat) (w : World) (hS : (S.size : Int) ≤ 1000) (hk : k.length ≤ 30) (hp : p < k.length) (h1 : k.getD p 0 = 10) (h2 : ∀ j, j < p → k.getD j 0 ≠ 10) (HA : Hid AwakeG) :
    Calls Try.prog 6 #[.string S, .string (bs k)] w fun e w' => e = .returned (.bool true) ∧ Up w w' := by
  have hsz := bs_size k
  have hk2 : ((bs k).size : Int) ≤ 30 := by omega
  have hk3 : ((bs k).size : Int) = (k.length : Int) := by omega
  have HB := Lib.hid (fun (j : Nat) (hj : j < (bs k).size) => is10 (l := k) hj)
  have HS2 := Lib.hid hsz
  have H2 := Lib.hid h2
  have hx : ((bs k).size : Int) = ((bs k).size : Int) := rfl
  clear hsz h2 hk3 hx
  generalize bs k = K at *
  go_enter Try.func6, Try.ntmps6
  go_wp2_with fail
  refine (HA.out _).mono ?_
  rintro e w1 ⟨rfl, u1⟩
  go_wp2_with fail
  go_loop [5] (AtRel p) (fun i => p - (intOf i).toNat)
  case atStart => exact ⟨0, Nat.zero_le _, rfl⟩
  case round =>
    obtain ⟨j, hj, rfl⟩ := hrel
    have hjk : j < K.size := by rw [HS2.out]; omega
    have hji : (j : Int) < (K.size : Int) := by omega
    have h10 := HB.out j hjk
    by_cases hlt : j < p
    · rw [decide_eq_false (H2.out j hlt)] at h10
      go_wp2_with fail
      go_round
      case rel => exact ⟨j + 1, by omega, by go_num⟩
      case measure => simp [intOf]; omega
    · obtain rfl : j = p := by omega
      rw [decide_eq_true h1] at h10
      go_wp2_with fail
      go_ret
      exact ⟨rfl, u1⟩

set_option maxHeartbeats 4000000 in
theorem remarks_plain (l k : List UInt8) (w : World) (hl : l.length ≤ 1000) (hk : k.length ≤ 30) (hno : ∀ j, j < k.length → k.getD j 0 ≠ 10) (er : Int) (n : Nat) (x y : List Tok)
    (HA : Hid AwakeG) (a b a' b' : Int) (H1 : Hid (OwnP (bs l) a b er n x)) (H2 : Hid (OwnP (bs ([32, 9, 10] ++ mark k l) ++ ⟨#[9, 35]⟩ ++ bs k) a' b' er n y))
    (HK : Hid (∀ (p q : Option Addr) (c d base base2 : Nat) (w' : World), w'.ownsRow base 34 4 (.slice p n c) n (rowC x) → w'.ownsRow base2 34 4 (.slice q n d) n (rowC y) →
      Calls Try.prog 13 #[.slice p n c, .slice q n d] w' fun e w'' => e = .returned (.bool true) ∧ Up w' w'')) :
    Calls Try.prog 6 #[.string (bs l), .string (bs k)] w fun e w' => e = .returned (.bool true) ∧ Up w w' := by
  have hsk := bs_size k
  have hsl := bs_size l
  have hk2 : ((bs k).size : Int) ≤ 30 := by omega
  have hl2 : ((bs l).size : Int) ≤ 1000 := by omega
  have HBK := Lib.hid (fun (j : Nat) (hj : j < (bs k).size) => is10 (l := k) hj)
  have HBL := Lib.hid (fun (j : Nat) (hj : j < (bs l).size) => is10 (l := l) hj)
  have HSK := Lib.hid hsk
  have HSL := Lib.hid hsl
  have HNO := Lib.hid hno
  have HT : Hid (∀ j, j ≤ l.length → (((bs ([32, 9, 10] ++ mark k (l.take j))).size : Nat) : Int) ≤ 40000) := Lib.hid fun j hj => by
    have h1 := mark_len k (l.take j)
    have h2 : (8 + k.length) * (l.take j).length ≤ 38 * 1000 := Nat.mul_le_mul (by omega) (by rw [List.length_take]; omega)
    rw [bs_size, List.length_append]
    simp only [List.length_cons, List.length_nil]
    omega
  have HN1 : Hid (∀ j, j < l.length → l.getD j 0 = 10 → bs ([32, 9, 10] ++ mark k (l.take j)) ++ ⟨#[32, 9, 35]⟩ ++ bs k ++ ⟨#[10, 32, 10]⟩ ++ (bs l).extract j (j + 1) = bs ([32, 9, 10] ++ mark k (l.take (j + 1)))) := Lib.hid fun j hj hc => by
    rw [bs_one l j hj, take_one hj, mark_app, hc, show (⟨#[32, 9, 35]⟩ : ByteArray) = bs [32, 9, 35] from rfl, show (⟨#[10, 32, 10]⟩ : ByteArray) = bs [10, 32, 10] from rfl]
    simp only [bs_cat]
    congr 1
    simp [mark, zee]
  have HN2 : Hid (∀ j, j < l.length → ¬ l.getD j 0 = 10 → bs ([32, 9, 10] ++ mark k (l.take j)) ++ (bs l).extract j (j + 1) = bs ([32, 9, 10] ++ mark k (l.take (j + 1)))) := Lib.hid fun j hj hc => by
    rw [bs_one l j hj, take_one hj, mark_app, bs_cat]
    congr 1
    simp only [mark, if_neg hc, List.append_assoc, List.append_nil]
  have HN3 : Hid (bs ([32, 9, 10] ++ mark k (l.take l.length)) = bs ([32, 9, 10] ++ mark k l)) := Lib.hid (by rw [List.take_length])
  clear hsk hsl hno
  generalize hS : bs l = S at *
  generalize hK : bs k = K at *
  clear hS hK
  go_enter Try.func6, Try.ntmps6
  go_wp2_with fail
  refine (HA.out _).mono ?_
  rintro e w1 ⟨rfl, u1⟩
  go_wp2_with fail
  go_loop [5] (AtRel k.length) (fun i => k.length - (intOf i).toNat)
  case atStart => exact ⟨0, Nat.zero_le _, rfl⟩
  case round =>
    obtain ⟨j, hj, rfl⟩ := hrel
    by_cases hlt : j < k.length
    · have hjk : j < K.size := by rw [HSK.out]; omega
      have hji : (j : Int) < (K.size : Int) := by omega
      have h10 := HBK.out j hjk
      rw [decide_eq_false (HNO.out j hlt)] at h10
      go_wp2_with fail
      go_round
      case rel => exact ⟨j + 1, by omega, by go_num⟩
      case measure => simp [intOf]; omega
    · obtain rfl : j = k.length := by omega
      have hji : (K.size : Int) ≤ (k.length : Int) := by rw [HSK.out]; omega
      go_wp2_with fail
      go_loop [6, 7] (MarkRel k l) (fun _ i => l.length - (intOf i).toNat)
      case atStart => exact ⟨0, Nat.zero_le _, rfl, rfl⟩
      case round =>
        obtain ⟨i, hi, rfl, rfl⟩ := hrel
        have hts := HT.out i hi
        by_cases hlt2 : i < l.length
        · have hiS : i < S.size := by rw [HSL.out]; omega
          have hii : (i : Int) < (S.size : Int) := by omega
          have h10 := HBL.out i hiS
          by_cases hc : l.getD i 0 = 10
          · have hnew := Lib.hid (HN1.out i hlt2 hc)
            rw [decide_eq_true hc] at h10
            clear hc
            generalize bs ([32, 9, 10] ++ mark k (l.take i)) = T at *
            go_wp2_with fail
            go_round
            case rel => exact ⟨i + 1, by omega, by go_num, congrArg Value.string hnew.out⟩
            case measure => simp [intOf]; omega
          · have hnew := Lib.hid (HN2.out i hlt2 hc)
            rw [decide_eq_false hc] at h10
            clear hc
            generalize bs ([32, 9, 10] ++ mark k (l.take i)) = T at *
            go_wp2_with fail
            go_round
            case rel => exact ⟨i + 1, by omega, by go_num, congrArg Value.string hnew.out⟩
            case measure => simp [intOf]; omega
        · obtain rfl : i = l.length := by omega
          have hii : (S.size : Int) ≤ (l.length : Int) := by rw [HSL.out]; omega
          rw [HN3.out] at hts ⊢
          generalize bs ([32, 9, 10] ++ mark k l) = T at *
          go_wp2_with fail
          refine (H1.out _).mono ?_
          rintro e w2 ⟨b2, c2, rfl, r2, u2⟩
          have v2 := (Up.refl w2).alloc (.cells #[.int .i64 a, .int .i64 b] 25)
          go_wp2_with fail
          refine (H2.out _).mono ?_
          rintro e w3 ⟨b3, c3, rfl, r3, u3⟩
          go_wp2_with fail
          refine (HK.out _ _ _ _ _ _ _ ((row_up r2 (v2.trans u3)).alloc _) (r3.alloc _)).mono ?_
          rintro e w4 ⟨rfl, u4⟩
          go_wp2_with fail
          go_ret
          exact ⟨rfl, (u1.trans (u2.trans (v2.trans u3))).trans (((Up.refl _).alloc _).trans u4)⟩

theorem first_nl (k : List UInt8) : (∃ p, p < k.length ∧ k.getD p 0 = 10 ∧ ∀ j, j < p → k.getD j 0 ≠ 10) ∨ ∀ j, j < k.length → k.getD j 0 ≠ 10 := by
  obtain ⟨x, y, rfl, hx, hy⟩ := line_split k
  have hb : ∀ j, j < x.length → (x ++ y).getD j 0 ≠ 10 := fun j hj => by
    rw [getD_app x y j hj, List.getD, List.getElem?_eq_getElem hj]
    exact hx _ (List.getElem_mem _)
  rcases hy with rfl | ⟨r, rfl⟩
  · right; intro j hj; exact hb j (by simpa using hj)
  · left
    exact ⟨x.length, by simp, by simp [List.getD], hb⟩

theorem remarks_short (l k : List UInt8) (w : World) (hl : l.length ≤ 1000) (hk : k.length ≤ 30) :
    Calls Try.prog 6 #[.string (bs l), .string (bs k)] w fun e w' => e = .returned (.bool true) ∧ Up w w' := by
  have hsl := bs_size l
  have HA : Hid AwakeG := Lib.hid awake_any
  rcases first_nl k with ⟨p, hp, h1, h2⟩ | hno
  · exact remarks_nl (bs l) k p w (by omega) hk hp h1 h2 HA
  · have hmem : ∀ c ∈ k, c ≠ 10 := fun c hc => by
      obtain ⟨j, hj, rfl⟩ := List.mem_iff_getElem.1 hc
      have := hno j hj
      rw [List.getD, List.getElem?_eq_getElem hj] at this
      exact this
    obtain ⟨he, hT⟩ := remarks k l hmem hk hl
    have hm := marked_len hk hl
    have hlen : (lexT l).length = (lexT (marked k l)).length := by
      have := congrArg List.length hT
      rwa [List.length_map, List.length_map] at this
    have la := lexT_len (l := l) (by omega)
    have hs : bs ([32, 9, 10] ++ mark k l) ++ ⟨#[9, 35]⟩ ++ bs k = bs (marked k l) := by
      rw [show (⟨#[9, 35]⟩ : ByteArray) = bs [9, 35] from rfl, bs_cat, bs_cat]
      unfold marked
      rw [List.append_assoc]
    have h1 := ownP_of (s := bs l) rfl rfl rfl (by omega : l.length ≤ 65536)
    have h2 := ownP_of hs rfl rfl hm
    rw [← he, ← hlen] at h2
    refine remarks_plain l k w hl hk hno _ _ _ _ HA _ _ _ _ (Lib.hid h1) (Lib.hid h2) (Lib.hid ?_)
    intro p q c d base base2 w' g1 g2
    exact alike_sl p q c d _ _ _ w' (slx g1 rfl) (slx g2 hlen.symm) rfl hlen.symm (by omega) hT.symm

theorem remarks_walk (s t : ByteArray) (w : World) (_h : s.size ≤ 9223372036854775807) (_h2 : t.size ≤ 9223372036854775807) :
    Calls Try.prog 6 #[.string s, .string t] w fun e w' => e = .returned (.bool true) ∧ Below w.heap.size w w' := by
  by_cases hs : s.size ≤ 1000 ∧ t.size ≤ 30
  · rw [bs_of s, bs_of t]
    exact remarks_short _ _ w (by rw [Array.length_toList]; exact hs.1) (by rw [Array.length_toList]; exact hs.2)
  · have HA : Hid AwakeG := Lib.hid awake_any
    by_cases h1 : s.size ≤ 1000
    · have hs3 : (s.size : Int) ≤ 1000 := by omega
      have ht3 : 30 < (t.size : Int) := by omega
      go_enter Try.func6, Try.ntmps6
      go_wp2_with fail
      refine (HA.out _).mono ?_
      rintro e w2 ⟨rfl, u2⟩
      go_wp2_with fail
      go_ret
      exact ⟨rfl, u2⟩
    · have hs3 : 1000 < (s.size : Int) := by omega
      go_enter Try.func6, Try.ntmps6
      go_wp2_with fail
      refine (HA.out _).mono ?_
      rintro e w2 ⟨rfl, u2⟩
      go_wp2_with fail
      go_ret
      exact ⟨rfl, u2⟩

end Go.Proofs.Ytgkknjlegfdcnaa.Lx
