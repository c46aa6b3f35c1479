/- Contract: kind. -/
import Derived.Test.YtgkknjlegfdcnaaDoorLexE
import Derived.Test.YtgkknjlegfdcnaaDoorShelf
namespace Go.Proofs.YtgkknjlegfdcnaaDoor.Lx
open Go.RowKit Go.Shelf Go.Proofs.YtgkknjlegfdcnaaDoor.Cal

def signL : List UInt8 := [40, 41, 44, 43, 45, 42, 47, 60, 61]

theorem index_sign (c : UInt8) : decide (0 ≤ Lib.indexByte signL c) = signB c := by
  have h : ∀ l : List UInt8, decide (0 ≤ Lib.indexByte l c) = l.contains c := by
    intro l
    induction l with
    | nil => rfl
    | cons b l ih =>
      unfold Lib.indexByte
      rw [List.contains_cons]
      have hg := Lib.indexByte_ge l c
      by_cases hb : (b == c) = true
      · rw [if_pos hb, eq_of_beq hb]; simp
      · have hb2 : (c == b) = false := by
          cases h2 : (c == b)
          · rfl
          · rw [eq_of_beq h2] at hb; simp at hb
        rw [if_neg hb, hb2, Bool.false_or, ← ih]
        by_cases h1 : (Lib.indexByte l c == -1) = true
        · rw [if_pos h1, eq_of_beq h1]
        · rw [if_neg h1, decide_eq_decide]
          have : Lib.indexByte l c ≠ -1 := by simpa using h1
          omega
  exact h signL

theorem sign_any (c : UInt8) (w : World) : Calls Tryd.prog 37 #[.string ⟨#[40, 41, 44, 43, 45, 42, 47, 60, 61]⟩, .int .u8 (c.toNat : Int)] w fun e w' => e = .returned (.int .i64 (Lib.indexByte signL c)) ∧ w = w' := by
  refine (Tryd.strings_IndexByte _ _ w).mono ?_
  rintro e w' ⟨rfl, rfl⟩
  refine ⟨?_, rfl⟩
  have : (c.toNat : Int).toNat.toUInt8 = c := by rw [Int.toNat_natCast]; exact UInt8.ofNat_toNat
  rw [this]; rfl

theorem ret_three {a : Nat} {b c : Int} {a' b' c' : Nat} (h1 : a = a') (h2 : b = b') (h3 : c = c') : Ending.returned (.tuple #[.int .u8 (a : Int), .int .i64 b, .int .i64 c]) = Ending.returned (.tuple #[.int .u8 (a' : Int), .int .i64 (b' : Int), .int .i64 (c' : Int)]) := by rw [h1, h2, h3]

theorem parE_two (l : List UInt8) : parE l = 0 ∨ parE l = 2 := by
  unfold parE dayE; split
  · split
    · exact Or.inl rfl
    · exact Or.inr rfl
  · exact Or.inr rfl

theorem kindL_word {c : UInt8} {l : List UInt8} (h : letB c = true) : kindL (c :: l) = if spanN partB (c :: l) ≤ 24 then (1, spanN partB (c :: l), 0) else (0, 0, 111) := by
  unfold kindL; simp only [h, if_true]
theorem kindL_date {c : UInt8} {l : List UInt8} (h : letB c = false) (hd : datedB (c :: l) = true) : kindL (c :: l) = if dateOK (c :: l) = true ∧ endsB (c :: l) 10 = true then (3, 10, 0) else (0, 0, 113) := by
  unfold kindL; simp only [h, hd, if_true]; rfl
theorem kindL_num {c : UInt8} {l : List UInt8} (h : letB c = false) (hd : datedB (c :: l) = false) (hg : digB c = true) : kindL (c :: l) = (2, (numN (c :: l)).1, (numN (c :: l)).2) := by
  unfold kindL; simp only [h, hd, hg, if_true]; rfl
theorem kindL_else {c : UInt8} {l : List UInt8} (h : letB c = false) (hd : datedB (c :: l) = false) (hg : digB c = false) : kindL (c :: l) = if signB c = true then (4, 1, 0) else (0, 0, 110) := by
  unfold kindL; simp only [h, hd, hg]; rfl

def LetH (B : ByteArray) (hs0 : 0 < B.size) (b : Bool) : Prop := ∀ w, Calls Tryd.prog 11 #[.int .u8 (B[0].toNat : Int)] w fun e w' => e = .returned (.bool b) ∧ w = w'
def DigH (B : ByteArray) (hs0 : 0 < B.size) (b : Bool) : Prop := ∀ w, Calls Tryd.prog 19 #[.int .u8 (B[0].toNat : Int)] w fun e w' => e = .returned (.bool b) ∧ w = w'
def DatH (B : ByteArray) (b : Bool) : Prop := ∀ w, Calls Tryd.prog 33 #[.string B] w fun e w' => e = .returned (.bool b) ∧ Up w w'

theorem kind_word (B : ByteArray) (n : Nat) (w : World) (hs0 : 0 < B.size) (h : (n : Int) ≤ 24) (HL : Hid (LetH B hs0 true))
    (HP : Hid (∀ w, Calls Tryd.prog 12 #[.string B, .func (.func 13) #[] #[]] w fun e w' => e = .returned (.int .i64 (n : Int)) ∧ w = w')) :
    Calls Tryd.prog 22 #[.string B] w fun e w' => e = .returned (.tuple #[.int .u8 1, .int .i64 n, .int .i64 0]) ∧ Up w w' := by
  go_enter Tryd.func22, Tryd.ntmps22
  go_wp2_with fail
  refine (HL.out _).mono ?_
  rintro e w1 ⟨rfl, rfl⟩
  go_wp2_with fail
  refine (HP.out _).mono ?_
  rintro e w1 ⟨rfl, rfl⟩
  go_wp2_with fail
  go_ret3
  exact ⟨rfl, Up.refl _⟩

theorem kind_long (B : ByteArray) (n : Nat) (w : World) (hs0 : 0 < B.size) (h : 24 < (n : Int)) (HL : Hid (LetH B hs0 true))
    (HP : Hid (∀ w, Calls Tryd.prog 12 #[.string B, .func (.func 13) #[] #[]] w fun e w' => e = .returned (.int .i64 (n : Int)) ∧ w = w')) :
    Calls Tryd.prog 22 #[.string B] w fun e w' => e = .returned (.tuple #[.int .u8 0, .int .i64 0, .int .i64 111]) ∧ Up w w' := by
  go_enter Tryd.func22, Tryd.ntmps22
  go_wp2_with fail
  refine (HL.out _).mono ?_
  rintro e w1 ⟨rfl, rfl⟩
  go_wp2_with fail
  refine (HP.out _).mono ?_
  rintro e w1 ⟨rfl, rfl⟩
  go_wp2_with fail
  go_ret3
  exact ⟨rfl, Up.refl _⟩

theorem kind_date (B : ByteArray) (v : Int) (w : World) (hs0 : 0 < B.size) (_h10 : 10 ≤ (B.size : Int)) (HL : Hid (LetH B hs0 false)) (HD : Hid (DatH B true))
    (HP : Hid (∀ w, Calls Tryd.prog 34 #[.string (B.extract 0 10)] w fun e w' => e = .returned (.tuple #[.int .i64 v, .int .i64 0]) ∧ Up w w'))
    (HE : Hid (∀ w, Calls Tryd.prog 35 #[.string B, .int .i64 10] w fun e w' => e = .returned (.bool true) ∧ w = w')) :
    Calls Tryd.prog 22 #[.string B] w fun e w' => e = .returned (.tuple #[.int .u8 3, .int .i64 10, .int .i64 0]) ∧ Up w w' := by
  (
      go_enter Tryd.func22, Tryd.ntmps22
      go_wp2_with fail
      refine (HL.out _).mono ?_
      rintro e w1 ⟨rfl, rfl⟩
      go_wp2_with fail
      refine (HD.out _).mono ?_
      rintro e w1 ⟨rfl, u1⟩
      go_wp2_with fail
      refine (HP.out _).mono ?_
      rintro e w2 ⟨rfl, u2⟩
      go_wp2_with fail
      refine (HE.out _).mono ?_
      rintro e w3 ⟨rfl, rfl⟩
      go_wp2_with fail
      go_ret3
      exact ⟨rfl, u1.trans u2⟩)

theorem kind_date_end (B : ByteArray) (v : Int) (w : World) (hs0 : 0 < B.size) (_h10 : 10 ≤ (B.size : Int)) (HL : Hid (LetH B hs0 false)) (HD : Hid (DatH B true))
    (HP : Hid (∀ w, Calls Tryd.prog 34 #[.string (B.extract 0 10)] w fun e w' => e = .returned (.tuple #[.int .i64 v, .int .i64 0]) ∧ Up w w'))
    (HE : Hid (∀ w, Calls Tryd.prog 35 #[.string B, .int .i64 10] w fun e w' => e = .returned (.bool false) ∧ w = w')) :
    Calls Tryd.prog 22 #[.string B] w fun e w' => e = .returned (.tuple #[.int .u8 0, .int .i64 0, .int .i64 113]) ∧ Up w w' := by
  (
      go_enter Tryd.func22, Tryd.ntmps22
      go_wp2_with fail
      refine (HL.out _).mono ?_
      rintro e w1 ⟨rfl, rfl⟩
      go_wp2_with fail
      refine (HD.out _).mono ?_
      rintro e w1 ⟨rfl, u1⟩
      go_wp2_with fail
      refine (HP.out _).mono ?_
      rintro e w2 ⟨rfl, u2⟩
      go_wp2_with fail
      refine (HE.out _).mono ?_
      rintro e w3 ⟨rfl, rfl⟩
      go_wp2_with fail
      go_ret3
      exact ⟨rfl, u1.trans u2⟩)

theorem kind_date_no (B : ByteArray) (v : Int) (w : World) (hs0 : 0 < B.size) (_h10 : 10 ≤ (B.size : Int)) (HL : Hid (LetH B hs0 false)) (HD : Hid (DatH B true))
    (HP : Hid (∀ w, Calls Tryd.prog 34 #[.string (B.extract 0 10)] w fun e w' => e = .returned (.tuple #[.int .i64 v, .int .i64 2]) ∧ Up w w')) :
    Calls Tryd.prog 22 #[.string B] w fun e w' => e = .returned (.tuple #[.int .u8 0, .int .i64 0, .int .i64 113]) ∧ Up w w' := by
  go_enter Tryd.func22, Tryd.ntmps22
  go_wp2_with fail
  refine (HL.out _).mono ?_
  rintro e w1 ⟨rfl, rfl⟩
  go_wp2_with fail
  refine (HD.out _).mono ?_
  rintro e w1 ⟨rfl, u1⟩
  go_wp2_with fail
  refine (HP.out _).mono ?_
  rintro e w2 ⟨rfl, u2⟩
  go_wp2_with fail
  go_ret3
  exact ⟨rfl, u1.trans u2⟩

theorem kind_num (B : ByteArray) (x y : Int) (w : World) (hs0 : 0 < B.size) (HL : Hid (LetH B hs0 false)) (HD : Hid (DatH B false)) (HG : Hid (DigH B hs0 true))
    (HN : Hid (∀ w, Calls Tryd.prog 36 #[.string B] w fun e w' => e = .returned (.tuple #[.int .i64 x, .int .i64 y]) ∧ w = w')) :
    Calls Tryd.prog 22 #[.string B] w fun e w' => e = .returned (.tuple #[.int .u8 2, .int .i64 x, .int .i64 y]) ∧ Up w w' := by
  go_enter Tryd.func22, Tryd.ntmps22
  go_wp2_with fail
  refine (HL.out _).mono ?_
  rintro e w1 ⟨rfl, rfl⟩
  go_wp2_with fail
  refine (HD.out _).mono ?_
  rintro e w1 ⟨rfl, u1⟩
  go_wp2_with fail
  refine (HG.out _).mono ?_
  rintro e w2 ⟨rfl, rfl⟩
  go_wp2_with fail
  refine (HN.out _).mono ?_
  rintro e w2 ⟨rfl, rfl⟩
  go_wp2_with fail
  go_ret3
  exact ⟨rfl, u1⟩

theorem kind_sign (B : ByteArray) (z : Int) (w : World) (hs0 : 0 < B.size) (hz : 0 ≤ z) (HL : Hid (LetH B hs0 false)) (HD : Hid (DatH B false)) (HG : Hid (DigH B hs0 false))
    (HS : Hid (∀ w, Calls Tryd.prog 37 #[.string ⟨#[40, 41, 44, 43, 45, 42, 47, 60, 61]⟩, .int .u8 (B[0].toNat : Int)] w fun e w' => e = .returned (.int .i64 z) ∧ w = w')) :
    Calls Tryd.prog 22 #[.string B] w fun e w' => e = .returned (.tuple #[.int .u8 4, .int .i64 1, .int .i64 0]) ∧ Up w w' := by
  go_enter Tryd.func22, Tryd.ntmps22
  go_wp2_with fail
  refine (HL.out _).mono ?_
  rintro e w1 ⟨rfl, rfl⟩
  go_wp2_with fail
  refine (HD.out _).mono ?_
  rintro e w1 ⟨rfl, u1⟩
  go_wp2_with fail
  refine (HG.out _).mono ?_
  rintro e w2 ⟨rfl, rfl⟩
  go_wp2_with fail
  refine (HS.out _).mono ?_
  rintro e w2 ⟨rfl, rfl⟩
  go_wp2_with fail
  go_ret3
  exact ⟨rfl, u1⟩

theorem kind_bad (B : ByteArray) (z : Int) (w : World) (hs0 : 0 < B.size) (hz : z < 0) (HL : Hid (LetH B hs0 false)) (HD : Hid (DatH B false)) (HG : Hid (DigH B hs0 false))
    (HS : Hid (∀ w, Calls Tryd.prog 37 #[.string ⟨#[40, 41, 44, 43, 45, 42, 47, 60, 61]⟩, .int .u8 (B[0].toNat : Int)] w fun e w' => e = .returned (.int .i64 z) ∧ w = w')) :
    Calls Tryd.prog 22 #[.string B] w fun e w' => e = .returned (.tuple #[.int .u8 0, .int .i64 0, .int .i64 110]) ∧ Up w w' := by
  go_enter Tryd.func22, Tryd.ntmps22
  go_wp2_with fail
  refine (HL.out _).mono ?_
  rintro e w1 ⟨rfl, rfl⟩
  go_wp2_with fail
  refine (HD.out _).mono ?_
  rintro e w1 ⟨rfl, u1⟩
  go_wp2_with fail
  refine (HG.out _).mono ?_
  rintro e w2 ⟨rfl, rfl⟩
  go_wp2_with fail
  refine (HS.out _).mono ?_
  rintro e w2 ⟨rfl, rfl⟩
  go_wp2_with fail
  go_ret3
  exact ⟨rfl, u1⟩

theorem kind_any (c : UInt8) (l : List UInt8) (w : World) (hl : (c :: l).length ≤ 100000) : Calls Tryd.prog 22 #[.string (bs (c :: l))] w fun e w' => e = .returned (.tuple #[.int .u8 ((kindL (c :: l)).1 : Int), .int .i64 ((kindL (c :: l)).2.1 : Int), .int .i64 ((kindL (c :: l)).2.2 : Int)]) ∧ Up w w' := by
  have hsz := bs_size (c :: l)
  have hs0 : 0 < (bs (c :: l)).size := by rw [hsz]; simp
  have hg0 : (bs (c :: l))[0] = c := bs_get _ 0 hs0
  cases hlet : letB c
  · have HL : Hid (LetH (bs (c :: l)) hs0 false) := Lib.hid (fun w => letter_is _ false (by rw [hg0]; exact hlet) w)
    cases hdat : datedB (c :: l)
    · have HD : Hid (DatH (bs (c :: l)) false) := Lib.hid (fun w => by have h := dated_any (c :: l) w hl (by simp); rw [hdat] at h; exact h)
      cases hdig : digB c
      · have HG : Hid (DigH (bs (c :: l)) hs0 false) := Lib.hid (fun w => digit_is _ false (by rw [hg0]; exact hdig) w)
        have HS := Lib.hid (fun w => sign_any ((bs (c :: l))[0]) w)
        have hs := index_sign ((bs (c :: l))[0])
        have hsc : signB ((bs (c :: l))[0]) = signB c := congrArg signB hg0
        rw [hsc] at hs
        rw [kindL_else hlet hdat hdig]
        cases hsg : signB c
        · rw [hsg] at hs
          exact kind_bad (bs (c :: l)) _ w hs0 (by have := of_decide_eq_false hs; omega) HL HD HG HS
        · rw [hsg] at hs
          exact kind_sign (bs (c :: l)) _ w hs0 (of_decide_eq_true hs) HL HD HG HS
      · have HG : Hid (DigH (bs (c :: l)) hs0 true) := Lib.hid (fun w => digit_is _ true (by rw [hg0]; exact hdig) w)
        rw [kindL_num hlet hdat hdig]
        exact kind_num (bs (c :: l)) _ _ w hs0 HL HD HG (Lib.hid fun w => number_any (c :: l) w hl (by simp))
    · have HD : Hid (DatH (bs (c :: l)) true) := Lib.hid (fun w => by have h := dated_any (c :: l) w hl (by simp); rw [hdat] at h; exact h)
      have h10 : 10 ≤ (c :: l).length := by
        have := (dated_iff _).1 hdat 9 (by omega)
        simp only [datP, Bool.and_eq_true, decide_eq_true_eq] at this
        omega
      have hx : (bs (c :: l)).extract 0 10 = bs ((c :: l).take 10) := by
        apply ByteArray.ext
        rw [ByteArray.data_extract]
        simp [bs]
      have HP0 : ∀ w, Calls Tryd.prog 34 #[.string ((bs (c :: l)).extract 0 10)] w fun e w' => e = .returned (.tuple #[.int .i64 (parV ((c :: l).take 10)), .int .i64 (parE ((c :: l).take 10))]) ∧ Up w w' := by
        intro w
        have hb : (bs ((c :: l).take 10)).data.toList = (c :: l).take 10 := by simp [bs]
        have h := parse33 (bs ((c :: l).take 10)) w (by rw [bs_size, List.length_take]; omega)
        rw [hb] at h
        rw [hx]; exact h
      have HE0 := fun w => ends_any (c :: l) 10 w h10 hl
      rw [kindL_date hlet hdat]
      unfold dateOK
      rcases parE_two ((c :: l).take 10) with hp | hp
      · rw [hp] at HP0 ⊢
        cases he : endsB (c :: l) 10
        · rw [he] at HE0
          exact kind_date_end (bs (c :: l)) _ w hs0 (by omega) HL HD (Lib.hid HP0) (Lib.hid HE0)
        · rw [he] at HE0
          exact kind_date (bs (c :: l)) _ w hs0 (by omega) HL HD (Lib.hid HP0) (Lib.hid HE0)
      · rw [hp] at HP0 ⊢
        exact kind_date_no (bs (c :: l)) _ w hs0 (by omega) HL HD (Lib.hid HP0)
  · have HL : Hid (LetH (bs (c :: l)) hs0 true) := Lib.hid (fun w => letter_is _ true (by rw [hg0]; exact hlet) w)
    have HP := Lib.hid (fun w => span_part (c :: l) w hl)
    rw [kindL_word hlet]
    by_cases h24 : spanN partB (c :: l) ≤ 24
    · rw [if_pos h24]
      exact kind_word (bs (c :: l)) _ w hs0 (by show ((spanN partB (c :: l) : Nat) : Int) ≤ 24; omega) HL HP
    · rw [if_neg h24]
      exact kind_long (bs (c :: l)) _ w hs0 (by omega) HL HP

end Go.Proofs.YtgkknjlegfdcnaaDoor.Lx
