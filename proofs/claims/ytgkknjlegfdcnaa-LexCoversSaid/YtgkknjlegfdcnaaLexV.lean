/- The walk of LexJoined. -/
import Derived.Test.YtgkknjlegfdcnaaLexN
import Derived.Test.YtgkknjlegfdcnaaLexS
import Derived.Test.YtgkknjlegfdcnaaLexU
namespace Go.Proofs.Ytgkknjlegfdcnaa.Lx
open Go.RowKit Go.Shelf Go.Proofs.Ytgkknjlegfdcnaa.Cal

theorem join_nil (b : Option Addr) (c : Nat) (w : World) : Calls Try.prog 12 #[.slice b 0 c] w fun e w' => e = .returned (.string (bs [])) ∧ Up w w' := by
  have HG := Lib.hid (fun w' => glue_any (.slice none 0 0) [] 0 w' (World.ownsRow_nil _ _ _ _) (by simp) (by simp))
  go_enter Try.func12, Try.ntmps12
  go_wp2_with fail
  go_loopw [3, 8] (fun out i wr => out = .slice none 0 0 ∧ i = .int .i64 0 ∧ wr = w) (fun _ _ _ => 0)
  case atStart => exact ⟨rfl, rfl, rfl⟩
  case round =>
    obtain ⟨rfl, rfl, rfl⟩ := hrel
    go_wp2_with fail
    refine (HG.out _).mono ?_
    rintro e w1 ⟨rfl, u1⟩
    go_wp2_with fail
    go_ret
    exact ⟨rfl, u1⟩

theorem alike_nil (a b : Option Addr) (c d : Nat) (w : World) : Calls Try.prog 13 #[.slice a 0 c, .slice b 0 d] w fun e w' => e = .returned (.bool true) ∧ Up w w' := by
  go_enter Try.func13, Try.ntmps13
  go_wp2_with fail
  go_loopw [5] (fun i wr => i = .int .i64 0 ∧ wr = w) (fun _ _ => 0)
  case atStart => exact ⟨rfl, rfl⟩
  case round =>
    obtain ⟨rfl, rfl⟩ := hrel
    go_wp2_with fail
    go_ret
    exact ⟨rfl, Up.refl _⟩

theorem lexT_bad {l : List UInt8} (h : (lexE l).err ≠ 0) : lexT l = [] := by
  unfold lexT
  split
  · rename_i hl
    cases hb : (lexS l).2 with
    | none => exact absurd (by rw [lexE_none hl hb]) h
    | some b => rfl
  · rfl

/-- Join and alike at a slice of tokens, nil or not. -/
theorem join_sl (b : Option Addr) (c : Nat) (toks : List Tok) (w : World) (h : toks = [] ∨ ∃ g, b = some ⟨g, 0, none⟩ ∧ TokRow w g toks) (hn : toks.length ≤ 200000) (hlen : (joinT toks).length ≤ 1000000) :
    Calls Try.prog 12 #[.slice b toks.length c] w fun e w' => e = .returned (.string (bs (joinT toks))) ∧ Up w w' := by
  rcases h with rfl | ⟨g, rfl, hr⟩
  · exact join_nil b c w
  · exact join_some g c toks w hr hn hlen

theorem alike_sl (a b : Option Addr) (c d n : Nat) (x y : List Tok) (w : World) (hx : x = [] ∨ ∃ g, a = some ⟨g, 0, none⟩ ∧ TokRow w g x) (hy : y = [] ∨ ∃ g, b = some ⟨g, 0, none⟩ ∧ TokRow w g y) (hnx : x.length = n) (hny : y.length = n) (hn : n ≤ 200000) (hxy : y.map kt = x.map kt) :
    Calls Try.prog 13 #[.slice a n c, .slice b n d] w fun e w' => e = .returned (.bool true) ∧ Up w w' := by
  by_cases h0 : n = 0
  · subst h0; exact alike_nil a b c d w
  · rcases hx with rfl | ⟨g, rfl, hr⟩
    · simp at hnx; omega
    · rcases hy with rfl | ⟨g2, rfl, hr2⟩
      · simp at hny; omega
      · exact alike_some g g2 n c d x y w hr hr2 hnx hny hn hxy

set_option maxHeartbeats 2000000 in
theorem joined_short (l : List UInt8) (w : World) (hl : l.length ≤ 3000) :
    Calls Try.prog 3 #[.string (bs l)] w fun e w' => e = .returned (.bool true) ∧ Up w w' := by
  have hsz := bs_size l
  have hs3 : ((bs l).size : Int) ≤ 3000 := by omega
  have HA := Lib.hid awake_any
  have HL := Lib.hid (fun w => lex_any l w (by omega))
  by_cases he : (lexE l).err = 0
  · have hj := joinT_len l
    obtain ⟨hE, hM⟩ := rejoin l (by omega) he (by omega)
    have hlen : (lexT (joinT (lexT l))).length = (lexT l).length := by
      have := congrArg List.length hM
      rwa [List.length_map, List.length_map] at this
    have htl : (lexT l).length ≤ 200000 := by
      have h1 := lexF_len (l.length + 1) (start l)
      have h2 : endN (start l).fin = 0 := rfl
      have h3 : (start l).left.length = l.length := rfl
      rw [lexT_none (by omega) (lexS_none (by omega) he)]
      unfold lexS; omega
    have HJ := Lib.hid (fun b c w h => join_sl b c (lexT l) w h htl (by omega))
    have HM := Lib.hid (fun w => lex_any (joinT (lexT l)) w (by omega))
    rw [hE, hlen] at HM
    have HK := Lib.hid (fun a b c d w hx hy => alike_sl a b c d (lexT l).length (lexT l) (lexT (joinT (lexT l))) w hx hy rfl hlen htl hM)
    rw [he] at HL
    clear hsz he hj hE hM hlen htl
    generalize lexT (joinT (lexT l)) = y at *
    generalize joinT (lexT l) = J at *
    generalize lexT l = x at *
    generalize x.length = n at *
    generalize bs l = B at *
    generalize bs J = C at *
    go_enter Try.func3, Try.ntmps3
    go_wp2_with fail
    refine (HA.out _).mono ?_
    rintro e w1 ⟨rfl, u1⟩
    go_wp2_with fail
    refine (HL.out _).mono ?_
    rintro e w2 ⟨b, c, rfl, h2, u2⟩
    go_wp2_with fail
    have v2 : ∀ o, Up w2 (w2.alloc o) := fun o => (Up.refl w2).alloc o
    have sl : ∀ {wa wb : World} {b : Option Addr} {x : List Tok}, Up wa wb → (x = [] ∨ ∃ g, b = some ⟨g, 0, none⟩ ∧ TokRow wa g x) → (x = [] ∨ ∃ g, b = some ⟨g, 0, none⟩ ∧ TokRow wb g x) :=
      fun u h => h.imp id (fun ⟨g, e, hr⟩ => ⟨g, e, hr.up u⟩)
    refine (HJ.out _ _ _ (sl (v2 _) h2)).mono ?_
    rintro e w3 ⟨rfl, u3⟩
    go_wp2_with fail
    refine (HM.out _).mono ?_
    rintro e w4 ⟨b4, c4, rfl, h4, u4⟩
    have hb := box_new w4 0 0
    go_wp2_with fail
    have u24 : Up w2 w4 := ((v2 _).trans u3).trans u4
    refine (HK.out _ _ _ _ _ (sl (u24.alloc _) h2) (sl ((Up.refl w4).alloc _) h4)).mono ?_
    rintro e w5 ⟨rfl, u5⟩
    go_wp2_with fail
    go_ret
    exact ⟨rfl, ((u1.trans u2).trans u24).trans (((Up.refl w4).alloc _).trans u5)⟩
  · have hne : (((lexE l).err : Int) != 0) = true := by simpa using he
    rw [lexT_bad he] at HL
    generalize (lexE l).err = er at *
    generalize bs l = B at *
    go_enter Try.func3, Try.ntmps3
    go_wp2_with fail
    refine (HA.out _).mono ?_
    rintro e w1 ⟨rfl, u1⟩
    go_wp2_with fail
    refine (HL.out _).mono ?_
    rintro e w2 ⟨b, c, rfl, h2, u2⟩
    go_wp2_with fail
    go_ret
    exact ⟨rfl, (u1.trans u2).alloc _⟩

theorem joined_walk (s : ByteArray) (w : World) (_h : s.size ≤ 9223372036854775807) :
    Calls Try.prog 3 #[.string s] w fun e w' => e = .returned (.bool true) ∧ Below w.heap.size w w' := by
  by_cases hs : s.size ≤ 3000
  · rw [bs_of s]
    exact joined_short _ w (by rw [Array.length_toList]; exact hs)
  · have HA := Lib.hid awake_any
    have hs3 : 3000 < (s.size : Int) := by omega
    go_enter Try.func3, Try.ntmps3
    go_wp2_with fail
    refine (HA.out _).mono ?_
    rintro e w2 ⟨rfl, u2⟩
    go_wp2_with fail
    go_ret
    exact ⟨rfl, u2⟩

end Go.Proofs.Ytgkknjlegfdcnaa.Lx
