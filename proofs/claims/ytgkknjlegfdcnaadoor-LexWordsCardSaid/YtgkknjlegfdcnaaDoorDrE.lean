/- The walk of LexWords. -/
import Derived.Test.YtgkknjlegfdcnaaDoorDrC
import Derived.Test.YtgkknjlegfdcnaaDoorLexS
namespace Go.Proofs.YtgkknjlegfdcnaaDoor.Lx
open Go.RowKit Go.Shelf Go.Proofs.YtgkknjlegfdcnaaDoor.Cal

theorem letter_no {c : UInt8} (h : letB c = true) : c ≠ 10 ∧ c ≠ 35 ∧ blankB c = false := by
  have key : ∀ n : Fin 256, letB (UInt8.ofNat n.val) = true → UInt8.ofNat n.val ≠ 10 ∧ UInt8.ofNat n.val ≠ 35 ∧ blankB (UInt8.ofNat n.val) = false := by decide +kernel
  have h2 := key ⟨c.toNat, c.toNat_lt⟩
  simp only [UInt8.ofNat_toNat] at h2
  exact h2 h

/-- A word is lexed into one. -/
theorem word_lex (l : List UInt8) (h : wordB l = true) : (lexE l).err = 0 ∧ lexT l = [⟨1, l, 1, 1⟩, ⟨5, [], 1, 1 + l.length⟩] := by
  rcases wordB_parts l with ⟨-, hw⟩ | ⟨-, -, hw⟩ | ⟨-, -, -, hw⟩ | ⟨-, -, -, -, hw⟩ | ⟨h0, h1, h2, h3, -⟩
  · rw [hw] at h; cases h
  · rw [hw] at h; cases h
  · rw [hw] at h; cases h
  · rw [hw] at h; cases h
  · cases l with
    | nil => simp at h0
    | cons c r =>
      have h2 : letB c = true := h2
      obtain ⟨c10, c35, cb⟩ := letter_no h2
      have hk : kindL (c :: r) = (1, (c :: r).length, 0) := by rw [kindL_word h2, h3, if_pos h1]
      have hz : blankN (c :: r) = 0 := blankN_tok c35 cb
      have hS : lexS (c :: r) = ([⟨1, c :: r, 1, 1⟩, ⟨5, [], 1, 1 + (c :: r).length⟩], none) := by
        unfold lexS
        rw [lexF_tok (s := start (c :: r)) (c := c) (r := r) (by show (c :: r).drop (blankN (c :: r)) = _; rw [hz]; rfl) c10 (by rw [hk]), hk]
        simp only [List.take_length, List.drop_length]
        simp only [List.length_cons]
        rw [lexF_nil (by rfl)]
        show ((⟨1, c :: r, 1, 1 + blankN (c :: r)⟩ : Tok) :: [(⟨5, [], 1, 1 + blankN (c :: r) + (r.length + 1)⟩ : Tok)], _) = _
        rw [hz]
      have hl : (c :: r).length ≤ 65536 := by omega
      rw [lexE_none hl (by rw [hS]), lexT_none hl (by rw [hS]), hS]
      exact ⟨rfl, rfl⟩

/-- What is lexed into one word is one. -/
theorem lex_word (l : List UInt8) (hl : l.length ≤ 65536) (hE : (lexE l).err = 0) (t u : Tok) (hT : lexT l = [t, u]) (hk : t.kind = 1) (ht : t.text = l) : wordB l = true := by
  have hS := lexS_none hl hE
  have hg := lexF_good _ (start l) (by show l.length < l.length + 1; omega) hS
  have hT2 : (lexF (l.length + 1) (start l)).1 = [t, u] := by rw [← hT, lexT_none hl hS]; rfl
  have hg2 : Good true [t, u] := by rw [← hT2]; exact hg
  obtain ⟨⟨-, ⟨c, r, hc, -, -, -⟩, hall⟩, -⟩ := hg2
  have hkl := hall [] (Or.inl rfl)
  rw [List.append_nil, ht, hk] at hkl
  rw [ht] at hc
  subst hc
  have hlet : letB c = true := by
    cases hlet : letB c
    · cases hdat : datedB (c :: r)
      · cases hdig : digB c
        · rw [kindL_else hlet hdat hdig] at hkl
          split at hkl <;> simp at hkl
        · rw [kindL_num hlet hdat hdig] at hkl; simp at hkl
      · rw [kindL_date hlet hdat] at hkl
        split at hkl <;> simp at hkl
    · rfl
  rw [kindL_word hlet] at hkl
  split at hkl
  · rename_i h24
    simp at hkl
    have h3 : spanN partB (c :: r) = (c :: r).length := by simpa using hkl
    rcases wordB_parts (c :: r) with ⟨h, -⟩ | ⟨-, h, -⟩ | ⟨-, -, h, -⟩ | ⟨-, -, -, h, -⟩ | ⟨-, -, -, -, h⟩
    · cases h
    · omega
    · have h : letB c = false := h
      rw [hlet] at h; cases h
    · exact absurd h3 h
    · exact h
  · simp at hkl

theorem resW_word : ∀ t ∈ resW, wordB t = true := by decide +kernel
theorem res_word (l : List UInt8) (h : resB l = true) : wordB l = true := by
  unfold resB at h
  rw [List.contains_iff_mem] at h
  exact resW_word l h

def AwP : Prop := ∀ w : World, Calls Tryd.prog 5 #[] w fun e w' => e = .returned (.bool true) ∧ Up w w'
def NameP (B : ByteArray) (b : Bool) : Prop := ∀ w : World, TabP w → Calls Tryd.prog 6 #[.string B] w fun e w' => e = .returned (.bool b) ∧ Up w w'
def ResP (B : ByteArray) (b : Bool) : Prop := ∀ w : World, TabP w → Calls Tryd.prog 8 #[.string B] w fun e w' => e = .returned (.bool b) ∧ Up w w'

/-- A word. -/
theorem words_yes (B : ByteArray) (rb : Bool) (a b : Int) (w : World) (hs : (B.size : Int) ≤ 24) (htab : TabP w) (HA : Hid AwP) (HN : Hid (NameP B (!rb))) (HR : Hid (ResP B rb))
    (HL : Hid (∀ w : World, Calls Tryd.prog 7 #[.string B] w fun r w' => ∃ g cp, r = .returned (.tuple #[.slice (some ⟨g, 0, none⟩) 2 cp, .agg #[.int .i64 a, .int .i64 b], .int .i64 0]) ∧
      w'.cell? ⟨g, 0, none⟩ = some (.int .u8 1) ∧ w'.cell? ⟨g, 1, none⟩ = some (.string B) ∧ Up w w')) :
    Calls Tryd.prog 3 #[.string B] w fun e w' => e = .returned (.bool true) ∧ Up w w' := by
  have HT := Lib.hid htab
  clear htab
  go_enter Tryd.func3, Tryd.ntmps3
  go_wp2_with fail
  refine (HA.out _).mono ?_
  rintro e w1 ⟨rfl, u1⟩
  go_wp2_with fail
  refine (HL.out _).mono ?_
  rintro e w2 ⟨g, cp, rfl, c0, c1, u2⟩
  have d0 : ∀ o, (w2.alloc o).cell? ⟨g, 0, none⟩ = some (.int .u8 1) := fun o => ((Up.refl w2).alloc o).cell c0
  have d1 : ∀ o, (w2.alloc o).cell? ⟨g, 1, none⟩ = some (.string B) := fun o => ((Up.refl w2).alloc o).cell c1
  have v2 := (Up.refl w2).alloc (.cells #[.int .i64 a, .int .i64 b] 26)
  have u12 := (u1.trans u2).trans v2
  cases rb
  · go_wp2_with fail
    refine (HR.out _ (HT.out.up u12)).mono ?_
    rintro e w3 ⟨rfl, u3⟩
    go_wp2_with fail
    refine (HN.out _ (HT.out.up (u12.trans u3))).mono ?_
    rintro e w4 ⟨rfl, u4⟩
    go_wp2_with fail
    refine (HR.out _ (HT.out.up (u12.trans (u3.trans u4)))).mono ?_
    rintro e w5 ⟨rfl, u5⟩
    go_wp2_with fail
    go_ret
    exact ⟨rfl, u12.trans (u3.trans (u4.trans u5))⟩
  · go_wp2_with fail
    refine (HR.out _ (HT.out.up u12)).mono ?_
    rintro e w3 ⟨rfl, u3⟩
    go_wp2_with fail
    refine (HN.out _ (HT.out.up (u12.trans u3))).mono ?_
    rintro e w4 ⟨rfl, u4⟩
    go_wp2_with fail
    refine (HR.out _ (HT.out.up (u12.trans (u3.trans u4)))).mono ?_
    rintro e w5 ⟨rfl, u5⟩
    go_wp2_with fail
    refine (HN.out _ (HT.out.up (u12.trans (u3.trans (u4.trans u5))))).mono ?_
    rintro e w6 ⟨rfl, u6⟩
    have e1 : w6.cell? ⟨g, 1, none⟩ = some (.string B) := (u3.trans (u4.trans (u5.trans u6))).cell (d1 _)
    go_wp2_with fail
    go_ret
    exact ⟨rfl, u12.trans (u3.trans (u4.trans (u5.trans u6)))⟩

/-- No word: Lex fails, or makes another number of tokens. -/
theorem words_no (B : ByteArray) (n : Nat) (a b er : Int) (w : World) (hs : (B.size : Int) ≤ 24) (htab : TabP w) (HA : Hid AwP) (HN : Hid (NameP B false)) (HR : Hid (ResP B false))
    (hno : (er == 0) = false ∨ (er == 0) = true ∧ ((n : Int) == 2) = false ∧ (n == 2) = false)
    (HL : Hid (∀ w : World, Calls Tryd.prog 7 #[.string B] w fun r w' => ∃ p cp, r = .returned (.tuple #[.slice p n cp, .agg #[.int .i64 a, .int .i64 b], .int .i64 er]) ∧ Up w w')) :
    Calls Tryd.prog 3 #[.string B] w fun e w' => e = .returned (.bool true) ∧ Up w w' := by
  have HT := Lib.hid htab
  clear htab
  rcases hno with q0 | ⟨q0, q1, q2⟩
  all_goals
    go_enter Tryd.func3, Tryd.ntmps3
    go_wp2_with fail
    refine (HA.out _).mono ?_
    rintro e w1 ⟨rfl, u1⟩
    go_wp2_with fail
    refine (HL.out _).mono ?_
    rintro e w2 ⟨g, cp, rfl, u2⟩
    have v2 := (Up.refl w2).alloc (.cells #[.int .i64 a, .int .i64 b] 26)
    have u12 := (u1.trans u2).trans v2
    go_wp2_with fail
    refine (HN.out _ (HT.out.up u12)).mono ?_
    rintro e w4 ⟨rfl, u4⟩
    go_wp2_with fail
    refine (HR.out _ (HT.out.up (u12.trans u4))).mono ?_
    rintro e w5 ⟨rfl, u5⟩
    go_wp2_with fail
    go_ret
    exact ⟨rfl, u12.trans (u4.trans u5)⟩

/-- No word: two tokens, but another kind or another text. -/
theorem words_else (B T : ByteArray) (tk : Int) (a b : Int) (w : World) (hs : (B.size : Int) ≤ 24) (htab : TabP w) (HA : Hid AwP) (HN : Hid (NameP B false)) (HR : Hid (ResP B false))
    (hno : (tk == 1) = false ∨ (tk == 1) = true ∧ (T.toList == B.toList) = false)
    (HL : Hid (∀ w : World, Calls Tryd.prog 7 #[.string B] w fun r w' => ∃ g cp, r = .returned (.tuple #[.slice (some ⟨g, 0, none⟩) 2 cp, .agg #[.int .i64 a, .int .i64 b], .int .i64 0]) ∧
      w'.cell? ⟨g, 0, none⟩ = some (.int .u8 tk) ∧ w'.cell? ⟨g, 1, none⟩ = some (.string T) ∧ Up w w')) :
    Calls Tryd.prog 3 #[.string B] w fun e w' => e = .returned (.bool true) ∧ Up w w' := by
  have HT := Lib.hid htab
  clear htab
  rcases hno with q0 | ⟨q0, q1⟩
  all_goals
    go_enter Tryd.func3, Tryd.ntmps3
    go_wp2_with fail
    refine (HA.out _).mono ?_
    rintro e w1 ⟨rfl, u1⟩
    go_wp2_with fail
    refine (HL.out _).mono ?_
    rintro e w2 ⟨g, cp, rfl, c0, c1, u2⟩
    have d0 : ∀ o, (w2.alloc o).cell? ⟨g, 0, none⟩ = some (.int .u8 tk) := fun o => ((Up.refl w2).alloc o).cell c0
    have d1 : ∀ o, (w2.alloc o).cell? ⟨g, 1, none⟩ = some (.string T) := fun o => ((Up.refl w2).alloc o).cell c1
    have v2 := (Up.refl w2).alloc (.cells #[.int .i64 a, .int .i64 b] 26)
    have u12 := (u1.trans u2).trans v2
    go_wp2_with fail
    refine (HN.out _ (HT.out.up u12)).mono ?_
    rintro e w4 ⟨rfl, u4⟩
    go_wp2_with fail
    refine (HR.out _ (HT.out.up (u12.trans u4))).mono ?_
    rintro e w5 ⟨rfl, u5⟩
    go_wp2_with fail
    go_ret
    exact ⟨rfl, u12.trans (u4.trans u5)⟩

theorem words_short (l : List UInt8) (w : World) (hl : l.length ≤ 24) (htab : TabP w) :
    Calls Tryd.prog 3 #[.string (bs l)] w fun e w' => e = .returned (.bool true) ∧ Up w w' := by
  have hsz := bs_size l
  have hd : (bs l).data.toList = l := by simp [bs]
  have HA : Hid AwP := Lib.hid awake_any
  have HN : Hid (NameP (bs l) (nameB l)) := Lib.hid fun w ht => name_any l w (by omega) ht
  have hR := fun (w : World) (ht : TabP w) => reserved_any (bs l) w (by rw [hsz]; unfold maxLen; omega) ht
  rw [hd] at hR
  have HR : Hid (ResP (bs l) (resB l)) := Lib.hid hR
  have hL := fun w => lex_any l w (by omega)
  cases hw : wordB l
  · have hnb : nameB l = false := by unfold nameB; rw [hw]; rfl
    have hrb : resB l = false := by
      cases hx : resB l
      · rfl
      · have := res_word l hx; rw [hw] at this; cases this
    rw [hnb] at HN
    rw [hrb] at HR
    by_cases he : (lexE l).err = 0
    · by_cases hn : (lexT l).length = 2
      · obtain ⟨t, u, htu⟩ : ∃ t u, lexT l = [t, u] := by
          match hx : lexT l, hn with
          | [t, u], _ => exact ⟨t, u, rfl⟩
        refine words_else (bs l) (bs t.text) (t.kind : Int) ((lexE l).line : Int) ((lexE l).col : Int) w (by omega) htab HA HN HR ?_ (Lib.hid fun w => ?_)
        · by_cases hk : t.kind = 1
          · right
            refine ⟨by rw [hk]; rfl, ?_⟩
            rw [bs_toList, bs_toList]
            cases hx : (t.text == l)
            · rfl
            · have := lex_word l (by omega) he t u htu hk (by simpa using hx)
              rw [hw] at this; cases this
          · left
            cases hx : ((t.kind : Int) == 1)
            · rfl
            · exact absurd (by have := eq_of_beq hx; omega) hk
        · have h := hL w
          rw [htu, he] at h
          refine h.mono ?_
          rintro r w' ⟨p, c, rfl, h2, u⟩
          obtain ⟨g, rfl, hr⟩ := h2.resolve_left (by simp)
          exact ⟨g, c, rfl, (hr 0 _ rfl).1, (hr 0 _ rfl).2.1, u⟩
      · refine words_no (bs l) (lexT l).length ((lexE l).line : Int) ((lexE l).col : Int) 0 w (by omega) htab HA HN HR (Or.inr ⟨rfl, ?_, ?_⟩) (Lib.hid fun w => ?_)
        · cases hx : (((lexT l).length : Int) == 2)
          · rfl
          · exact absurd (by have := eq_of_beq hx; omega) hn
        · cases hx : ((lexT l).length == 2)
          · rfl
          · exact absurd (eq_of_beq hx) hn
        · have h := hL w
          rw [he] at h
          refine h.mono ?_
          rintro r w' ⟨p, c, rfl, h2, u⟩
          exact ⟨p, c, rfl, u⟩
    · refine words_no (bs l) (lexT l).length ((lexE l).line : Int) ((lexE l).col : Int) ((lexE l).err : Int) w (by omega) htab HA HN HR (Or.inl ?_) (Lib.hid fun w => ?_)
      · cases hx : (((lexE l).err : Int) == 0)
        · rfl
        · exact absurd (by have := eq_of_beq hx; omega) he
      · refine (hL w).mono ?_
        rintro r w' ⟨p, c, rfl, h2, u⟩
        exact ⟨p, c, rfl, u⟩
  · have hnb : nameB l = !resB l := by unfold nameB; rw [hw]; rfl
    rw [hnb] at HN
    obtain ⟨he, hT⟩ := word_lex l hw
    refine words_yes (bs l) (resB l) ((lexE l).line : Int) ((lexE l).col : Int) w (by omega) htab HA HN HR (Lib.hid fun w => ?_)
    have h := hL w
    rw [hT, he] at h
    refine h.mono ?_
    rintro r w' ⟨p, c, rfl, h2, u⟩
    obtain ⟨g, rfl, hr⟩ := h2.resolve_left (by simp)
    exact ⟨g, c, rfl, (hr 0 _ rfl).1, (hr 0 _ rfl).2.1, u⟩

theorem lexwords_walk (s : ByteArray) (w : World) (_h : s.size ≤ 9223372036854775807) (htab : TabP w) :
    Calls Tryd.prog 3 #[.string s] w fun e w' => e = .returned (.bool true) ∧ Below w.heap.size w w' := by
  by_cases hs : s.size ≤ 24
  · rw [bs_of s]
    exact words_short _ w (by rw [Array.length_toList]; exact hs) htab
  · have HA := Lib.hid awake_any
    have HN := Lib.hid (fun w => name_long s w (by omega))
    have hi : 24 < (s.size : Int) := by omega
    go_enter Tryd.func3, Tryd.ntmps3
    go_wp2_with fail
    refine (HA.out _).mono ?_
    rintro e w1 ⟨rfl, u1⟩
    go_wp2_with fail
    refine (HN.out _).mono ?_
    rintro e w2 ⟨rfl, u2⟩
    go_wp2_with fail
    go_ret
    exact ⟨rfl, u1.trans u2⟩

end Go.Proofs.YtgkknjlegfdcnaaDoor.Lx
