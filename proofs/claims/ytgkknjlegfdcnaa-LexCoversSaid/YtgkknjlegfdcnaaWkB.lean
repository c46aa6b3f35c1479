/- The walk of LexGlued. -/
import Derived.Test.YtgkknjlegfdcnaaLexV
import Derived.Test.YtgkknjlegfdcnaaLexO
import Derived.Test.YtgkknjlegfdcnaaPlC
import Derived.Test.YtgkknjlegfdcnaaLexY
import Derived.Laws.AppendOwnNone
import Derived.BigQuiet
namespace Go.Proofs.Ytgkknjlegfdcnaa.Lx
open Go.RowKit Go.Shelf Go.Proofs.Ytgkknjlegfdcnaa.Cal

/-- append of a row that may be nil, guarded or not. -/
theorem wpList_append_row {P : Program} {w : World} {ops : Array Oper} {rest : List Oper} {o : Oper} {a : Act} {Q : Exit → Act → World → Prop} (hw : Region.wanted o (yielded ops a.tmps) = true) (s x : Operand) (t : TypeId)
    (ho : o.op = .call { callee := .builtin .append, args := #[s, x], argTypes := #[t, t] })
    (base : Nat) (e : TypeId) (i : TypeInfo) (z : Value) (size bytes : Nat) (ht : P.underlying t = some (.slice e)) (hi : P.info? e = some i) (hz : i.zero = some z)
    (hsize : i.size = size) (hby : i.bytes = bytes) (hzs : z.cells.size = size) (hsz : 0 < size)
    (v : Value) (n : Nat) (xs : List Value) (hs : a.eval s = v) (hown : w.ownsRow base e size v n xs)
    (base2 : Nat) (v2 : Value) (m : Nat) (ys : List Value) (hx : a.eval x = v2) (hown2 : w.ownsRow base2 e size v2 m ys) (h1 : ∀ u ∈ ys, u.oneCell' = true)
    (h63 : n + m ≤ maxLen) (hbytes : (n + m) * bytes ≤ 140737488355328) (hbase : base ≤ w.heap.size)
    (h : ∀ v' w', w'.ownsRow base e size v' (n + m) (xs ++ ys) → w.grownBy w' v.ownBlock → wpList P ops Q rest (a.put o.dst v') w') : wpList P ops Q (o :: rest) a w := by
  refine wpList_step fun K hK => ?_
  rw [if_pos hw]
  rcases hown2.2 with ⟨rfl, rfl⟩ | ⟨g, cap, cur, rfl, hb, hg, hcap, _, hcs, htk⟩
  · obtain rfl : ys = [] := List.eq_nil_of_length_eq_zero (by simpa using hown2.1)
    have hrun := run_append_owned_none (P := P) (w := w) base t o.type e i size ht hi v n xs hown
    unfold Oper.wp
    simp [execOp, ho, resolve, invoke, builtin, hs, hx, hrun, Result.andThen]
    refine hK _ _ (h v w ?_ (World.grownBy.refl w _))
    simpa using hown
  · exact wp_append_own w s x t ho base e i z size bytes ht hi hz hsize hby hzs hsz v n xs hs hown ⟨g, 0, none⟩ m cap ys hx hown2.1 (hown2.cells rfl) h1 h63 hbytes hbase fun v' w' h2 h3 _ => hK _ _ (h v' w' h2 h3)

def AwakeG : Prop := ∀ w : World, Calls Try.prog 10 #[] w fun e w' => e = .returned (.bool true) ∧ Up w w'
/-- Lex at one source; its tokens are a row of its own. -/
def OwnP (s : ByteArray) (l c e : Int) (n : Nat) (toks : List Tok) : Prop := ∀ w : World,
  Calls Try.prog 11 #[.string s] w fun r w' => ∃ b cp, r = .returned (.tuple #[.slice b n cp, .agg #[.int .i64 l, .int .i64 c], .int .i64 e]) ∧ w'.ownsRow w.heap.size 34 4 (.slice b n cp) n (rowC toks) ∧ Up w w'

theorem ownP_of {s : ByteArray} {l : List UInt8} {bad : Bad} {toks : List Tok} (hs : s = bs l) (hE : lexE l = bad) (hT : lexT l = toks) (hl : l.length ≤ 65536) : OwnP s (bad.line : Int) (bad.col : Int) (bad.err : Int) toks.length toks := by
  subst hs hE hT
  intro w
  refine (lex_short l w hl).mono ?_
  rintro e w' ⟨v, rfl, hrow, hu⟩
  obtain ⟨b, c, rfl, -⟩ := tokSl_of hrow
  exact ⟨b, c, rfl, hrow, hu⟩

theorem own_slice {w : World} {base : Nat} {e : TypeId} {size : Nat} {v : Value} {n : Nat} {xs : List Value} (h : w.ownsRow base e size v n xs) : ∃ b c, v = .slice b n c := by
  rcases h.2 with ⟨rfl, rfl⟩ | ⟨g, cap, cur, rfl, _⟩
  · exact ⟨_, _, rfl⟩
  · exact ⟨_, _, rfl⟩
theorem row_apart {w w2 : World} {b1 b2 : Nat} {e e2 : TypeId} {s1 s2 : Nat} {v v2 : Value} {n n2 : Nat} {xs xs2 : List Value} (h : w.ownsRow b1 e s1 v n xs) (h2 : w2.ownsRow b2 e2 s2 v2 n2 xs2) (hb : w.heap.size ≤ b2) (he : v.ownBlock = v2.ownBlock) (hs : v.ownBlock ≠ none) : False := by
  cases hk : v.ownBlock with
  | none => exact hs hk
  | some k =>
    have a1 := h.lt k hk
    have a2 := h2.lt k (by rw [← he]; exact hk)
    omega
theorem row_past {w w2 w3 : World} {b1 b2 : Nat} {e e2 : TypeId} {s1 s2 : Nat} {v v2 : Value} {n n2 : Nat} {xs xs2 : List Value} (h0 : w.ownsRow b1 e s1 v n xs) (h : w2.ownsRow b1 e s1 v n xs) (h2 : w2.ownsRow b2 e2 s2 v2 n2 xs2) (hb : w.heap.size ≤ b2) (hg : w2.grownBy w3 v2.ownBlock) : w3.ownsRow b1 e s1 v n xs :=
  h.kept hg (by
    by_cases hs : v.ownBlock = none
    · exact .inl hs
    · exact .inr fun e => row_apart h0 h2 hb e hs)
theorem below_up {B : Nat} {a b : World} (h : Up a b) (hB : B ≤ a.heap.size) : Below B a b := ⟨h.os, h.tape, h.output, h.size, fun k hk => h.block k (Nat.lt_of_lt_of_le hk hB)⟩
theorem row_up {w w' : World} {base : Nat} {e : TypeId} {size : Nat} {v : Value} {n : Nat} {xs : List Value} (h : w.ownsRow base e size v n xs) (u : Up w w') : w'.ownsRow base e size v n xs :=
  h.kept (up_grown u) (Classical.em _)

theorem rowC_one (l : List Tok) : ∀ u ∈ rowC l, u.oneCell' = true := by
  intro u hu
  obtain ⟨t, -, ht⟩ := List.mem_flatMap.1 hu
  simp [tokC] at ht
  rcases ht with rfl | rfl | rfl | rfl <;> rfl

theorem slx {w : World} {base : Nat} {b : Option Addr} {n c : Nat} {x : List Tok} (h : w.ownsRow base 34 4 (.slice b n c) n (rowC x)) (hn : x.length = n) : x = [] ∨ ∃ g, b = some ⟨g, 0, none⟩ ∧ TokRow w g x := by
  subst hn
  obtain ⟨b', c', he, h2⟩ := tokSl_of h
  cases he
  exact h2

def LinesRel (l : List UInt8) (lines i : Value) : Prop :=
  ∃ k : Nat, k ≤ l.length ∧ i = .int .i64 (k : Int) ∧ lines = .int .i64 (lineN l k)

set_option maxHeartbeats 4000000 in
theorem glued_first (B C : ByteArray) (a b er a' b' er' : Int) (w : World) (hB : (B.size : Int) ≤ 1500) (hC : (C.size : Int) ≤ 1500) (hne : (er != 0) = true)
    (HA : Hid AwakeG) (nc : Nat) (tc : List Tok) (H1 : Hid (OwnP B a b er 0 [])) (H2 : Hid (OwnP C a' b' er' nc tc)) (H3 : Hid (OwnP (B ++ ⟨#[10]⟩ ++ C) a b er 0 [])) :
    Calls Try.prog 5 #[.string B, .string C] w fun e w' => e = .returned (.bool true) ∧ Up w w' := by
  go_enter Try.func5, Try.ntmps5
  go_wp2_with fail
  refine (HA.out _).mono ?_
  rintro e w1 ⟨rfl, u1⟩
  go_wp2_with fail
  refine (H1.out _).mono ?_
  rintro e w2 ⟨b2, c2, rfl, r2, u2⟩
  have hb2 := box_new w2 a b
  generalize hx2 : w2.alloc (.cells #[.int .i64 a, .int .i64 b] 25) = x2 at *
  have v2 : Up w2 x2 := by rw [← hx2]; exact (Up.refl _).alloc _
  go_wp2_with fail
  refine (H2.out _).mono ?_
  rintro e w3 ⟨b3, c3, rfl, r3, u3⟩
  have v3 := (Up.refl w3).alloc (.cells #[.int .i64 a', .int .i64 b'] 25)
  go_wp2_with fail
  refine (H3.out _).mono ?_
  rintro e w4 ⟨b4, c4, rfl, r4, u4⟩
  have u24 : Up x2 w4 := (u3.trans v3).trans u4
  have d0 : ∀ o, (w4.alloc o).cell? ⟨w2.heap.size, 0, none⟩ = some (.int .i64 a) := fun o => (u24.alloc o).cell hb2.1
  have d1 : ∀ o, (w4.alloc o).cell? ⟨w2.heap.size, 1, none⟩ = some (.int .i64 b) := fun o => (u24.alloc o).cell hb2.2
  go_wp2_with fail
  go_ret
  exact ⟨rfl, ((u1.trans u2).trans (v2.trans u24)).alloc _⟩

set_option maxHeartbeats 4000000 in
theorem glued_second (l : List UInt8) (B C : ByteArray) (hBl : B = bs l) (a b er L : Int) (w : World) (hB : (B.size : Int) ≤ 1500) (hC : (C.size : Int) ≤ 1500) (hne : (er != 0) = true)
    (hL : L = a + lineN l l.length) (ha : 0 ≤ a ∧ a ≤ 100000)
    (HA : Hid AwakeG) (n1 : Nat) (t1 : List Tok) (H1 : Hid (OwnP B 0 0 0 n1 t1)) (H2 : Hid (OwnP C a b er 0 [])) (H3 : Hid (OwnP (B ++ ⟨#[10]⟩ ++ C) L b er 0 [])) :
    Calls Try.prog 5 #[.string B, .string C] w fun e w' => e = .returned (.bool true) ∧ Up w w' := by
  have hsz := bs_size l
  have hg : ∀ (k : Nat) (hk : k < B.size), (B[k]'hk) = l.getD k 0 := by subst hBl; exact fun k hk => bs_get l k hk
  have hBs : B.size = l.length := by rw [hBl]; exact hsz
  have HSZ := Lib.hid hBs
  have HG := Lib.hid hg
  have HL := Lib.hid hL
  clear hBl hsz hBs hg hL
  go_enter Try.func5, Try.ntmps5
  go_wp2_with fail
  refine (HA.out _).mono ?_
  rintro e w1 ⟨rfl, u1⟩
  go_wp2_with fail
  refine (H1.out _).mono ?_
  rintro e w2 ⟨b2, c2, rfl, r2, u2⟩
  have v2 := (Up.refl w2).alloc (.cells #[.int .i64 0, .int .i64 0] 25)
  go_wp2_with fail
  refine (H2.out _).mono ?_
  rintro e w3 ⟨b3, c3, rfl, r3, u3⟩
  have hb3 := box_new w3 a b
  generalize hx3 : w3.alloc (.cells #[.int .i64 a, .int .i64 b] 25) = x3 at *
  have v3 : Up w3 x3 := by rw [← hx3]; exact (Up.refl _).alloc _
  go_wp2_with fail
  refine (H3.out _).mono ?_
  rintro e w4 ⟨b4, c4, rfl, r4, u4⟩
  have d0 : ∀ o, (w4.alloc o).cell? ⟨w3.heap.size, 0, none⟩ = some (.int .i64 a) := fun o => (u4.alloc o).cell hb3.1
  have d1 : ∀ o, (w4.alloc o).cell? ⟨w3.heap.size, 1, none⟩ = some (.int .i64 b) := fun o => (u4.alloc o).cell hb3.2
  have hb4 := box_new w4 L b
  generalize hx4 : w4.alloc (.cells #[.int .i64 L, .int .i64 b] 25) = x4 at *
  have v4 : Up w4 x4 := by rw [← hx4]; exact (Up.refl _).alloc _
  have e0 : x4.cell? ⟨w3.heap.size, 0, none⟩ = some (.int .i64 a) := by rw [← hx4]; exact d0 _
  have e1 : x4.cell? ⟨w3.heap.size, 1, none⟩ = some (.int .i64 b) := by rw [← hx4]; exact d1 _
  clear d0 d1
  go_wp2_with fail
  go_loop [14, 15] (LinesRel l) (fun _ i => l.length - (intOf i).toNat)
  case atStart => exact ⟨0, Nat.zero_le _, rfl, by rw [lineN_zero]⟩
  case round =>
    obtain ⟨k, hk, rfl, rfl⟩ := hrel
    have b1 := lineN_bd l k
    have hks : (k : Int) ≤ (B.size : Int) := by rw [HSZ.out]; omega
    by_cases hlt : k < l.length
    · have hkl : k < B.size := by rw [HSZ.out]; exact hlt
      have hgb := HG.out k hkl
      have hln := lineN_succ l k hlt
      by_cases hc : l.getD k 0 = 10
      · rw [if_pos hc] at hln
        have h10 : (((B[k]'hkl).toNat : Int) == 10) = true := by rw [hgb, hc]; rfl
        clear hgb hc
        generalize lineN l k = M at *
        go_wp2_with fail
        go_round
        case rel => exact ⟨k + 1, by omega, by go_num, by rw [hln]⟩
        case measure => simp [intOf]; omega
      · rw [if_neg hc] at hln
        have h10 : (((B[k]'hkl).toNat : Int) == 10) = false := by
          rw [hgb]
          cases hq : (((l.getD k 0).toNat : Int) == 10)
          · rfl
          · exact absurd (by apply UInt8.toNat_inj.1; show _ = 10; have := eq_of_beq hq; omega) hc
        clear hgb hc
        generalize lineN l k = M at *
        go_wp2_with fail
        go_round
        case rel => exact ⟨k + 1, by omega, by go_num, by rw [hln]; simp⟩
        case measure => simp [intOf]; omega
    · obtain rfl : k = l.length := by omega
      have hks2 : B.size = l.length := HSZ.out
      generalize lineN l l.length = M at *
      have hL := HL.out
      subst hL
      go_wp2_with fail
      go_ret
      exact ⟨rfl, ((u1.trans u2).trans (v2.trans (u3.trans v3))).trans (u4.trans v4)⟩

set_option maxHeartbeats 4000000 in
theorem glued_third (l : List UInt8) (B C : ByteArray) (hBl : B = bs l) (w : World) (hB : (B.size : Int) ≤ 1500) (hC : (C.size : Int) ≤ 1500)
    (x y z : List Tok) (nx ny nz : Nat) (hnx : nx ≤ 100000) (hny : ny ≤ 100000)
    (HA : Hid AwakeG) (H1 : Hid (OwnP B 0 0 0 nx x)) (H2 : Hid (OwnP C 0 0 0 ny y)) (H3 : Hid (OwnP (B ++ ⟨#[10]⟩ ++ C) 0 0 0 nz z))
    (HK : Hid (∀ (b : Option Addr) (c base base2 : Nat) (v : Value) (w' : World), w'.ownsRow base 34 4 (.slice b nz c) nz (rowC z) → w'.ownsRow base2 34 4 v (nx + ny) (rowC x ++ rowC y) →
      Calls Try.prog 13 #[.slice b nz c, v] w' fun e w'' => e = .returned (.bool true) ∧ Up w' w'')) :
    Calls Try.prog 5 #[.string B, .string C] w fun e w' => e = .returned (.bool true) ∧ Up w w' := by
  have hsz := bs_size l
  have hg : ∀ (k : Nat) (hk : k < B.size), (B[k]'hk) = l.getD k 0 := by subst hBl; exact fun k hk => bs_get l k hk
  have hBs : B.size = l.length := by rw [hBl]; exact hsz
  have HSZ := Lib.hid hBs
  have HG := Lib.hid hg
  clear hBl hsz hBs hg
  obtain ⟨i0, hi, hz0, hz1, hz2⟩ := info_parts info_tok
  go_enter Try.func5, Try.ntmps5
  go_wp2_with fail
  refine (HA.out _).mono ?_
  rintro e w1 ⟨rfl, u1⟩
  go_wp2_with fail
  refine (H1.out _).mono ?_
  rintro e w2 ⟨b2, c2, rfl, r2, u2⟩
  have v2 := (Up.refl w2).alloc (.cells #[.int .i64 0, .int .i64 0] 25)
  go_wp2_with fail
  refine (H2.out _).mono ?_
  rintro e w3 ⟨b3, c3, rfl, r3, u3⟩
  have v3 := (Up.refl w3).alloc (.cells #[.int .i64 0, .int .i64 0] 25)
  go_wp2_with fail
  refine (H3.out _).mono ?_
  rintro e w4 ⟨b4, c4, rfl, r4, u4⟩
  go_wp2_with fail
  go_loop [14, 15] (LinesRel l) (fun _ i => l.length - (intOf i).toNat)
  case atStart => exact ⟨0, Nat.zero_le _, rfl, by rw [lineN_zero]⟩
  case round =>
    obtain ⟨k, hk, rfl, rfl⟩ := hrel
    have b1 := lineN_bd l k
    have hks : (k : Int) ≤ (B.size : Int) := by rw [HSZ.out]; omega
    by_cases hlt : k < l.length
    · have hkl : k < B.size := by rw [HSZ.out]; exact hlt
      have hgb := HG.out k hkl
      have hln := lineN_succ l k hlt
      by_cases hc : l.getD k 0 = 10
      · rw [if_pos hc] at hln
        have h10 : (((B[k]'hkl).toNat : Int) == 10) = true := by rw [hgb, hc]; rfl
        clear hgb hc
        generalize lineN l k = M at *
        go_wp2_with fail
        go_round
        case rel => exact ⟨k + 1, by omega, by go_num, by rw [hln]⟩
        case measure => simp [intOf]; omega
      · rw [if_neg hc] at hln
        have h10 : (((B[k]'hkl).toNat : Int) == 10) = false := by
          rw [hgb]
          cases hq : (((l.getD k 0).toNat : Int) == 10)
          · rfl
          · exact absurd (by apply UInt8.toNat_inj.1; show _ = 10; have := eq_of_beq hq; omega) hc
        clear hgb hc
        generalize lineN l k = M at *
        go_wp2_with fail
        go_round
        case rel => exact ⟨k + 1, by omega, by go_num, by rw [hln]; simp⟩
        case measure => simp [intOf]; omega
    · obtain rfl : k = l.length := by omega
      have hks2 : B.size = l.length := HSZ.out
      generalize lineN l l.length = M at *
      have ra : ∀ o : Obj, ((w4.alloc (.cells #[.int .i64 0, .int .i64 0] 25)).alloc o).ownsRow w1.heap.size 34 4 (.slice b2 nx c2) nx (rowC x) := fun o =>
        ((row_up r2 (v2.trans (u3.trans (v3.trans u4)))).alloc _).alloc o
      have rb : ∀ o : Obj, ((w4.alloc (.cells #[.int .i64 0, .int .i64 0] 25)).alloc o).ownsRow _ 34 4 (.slice b3 ny c3) ny (rowC y) := fun o =>
        ((row_up r3 (v3.trans u4)).alloc _).alloc o
      have rc : ∀ o : Obj, ((w4.alloc (.cells #[.int .i64 0, .int .i64 0] 25)).alloc o).ownsRow _ 34 4 (.slice b4 nz c4) nz (rowC z) := fun o => (r4.alloc _).alloc o
      have own0 : ((w4.alloc (.cells #[.int .i64 0, .int .i64 0] 25)).alloc (.cells #[] 34)).ownsRow (w4.heap.size + 1) 34 4 (.slice (some ⟨w4.heap.size + 1, 0, none⟩) 0 0) 0 [] := by
        have := World.ownsRow_made (base := w4.heap.size + 1) (e := 34) (size := 4) (w4.alloc (.cells #[.int .i64 0, .int .i64 0] 25)) #[] 0 (by simp) (by decide) (by simp)
        simpa using this
      have s34 : w3.heap.size ≤ w4.heap.size := (v3.trans u4).size
      have s04 : w.heap.size ≤ w4.heap.size := (((u1.trans u2).trans v2).trans (u3.trans (v3.trans u4))).size
      have hrow0 : (Value.slice (some ⟨w4.heap.size + 1, 0, none⟩) 0 0).ownBlock = some (w4.heap.size + 1) := rfl
      have rb2 : ∀ w5 : World, ((w4.alloc (.cells #[.int .i64 0, .int .i64 0] 25)).alloc (.cells #[] 34)).grownBy w5 (Value.slice (some ⟨w4.heap.size + 1, 0, none⟩) 0 0).ownBlock → w5.ownsRow _ 34 4 (.slice b3 ny c3) ny (rowC y) := fun w5 hg =>
        (rb _).kept hg (.inr (fun e => by have := (r3.lt _ (e.trans hrow0)).2; omega))
      have rc2 : ∀ w5 : World, ((w4.alloc (.cells #[.int .i64 0, .int .i64 0] 25)).alloc (.cells #[] 34)).grownBy w5 (Value.slice (some ⟨w4.heap.size + 1, 0, none⟩) 0 0).ownBlock → w5.ownsRow _ 34 4 (.slice b4 nz c4) nz (rowC z) := fun w5 hg =>
        (rc _).kept hg (.inr (fun e => by have := (r4.lt _ (e.trans hrow0)).2; omega))
      have hb5 : ∀ w5 : World, ((w4.alloc (.cells #[.int .i64 0, .int .i64 0] 25)).alloc (.cells #[] 34)).grownBy w5 (Value.slice (some ⟨w4.heap.size + 1, 0, none⟩) 0 0).ownBlock → w4.heap.size + 1 ≤ w5.heap.size := fun w5 hg => by
        have := hg.size
        simp at this
        omega
      have RA := Lib.hid ra
      have RB := Lib.hid rb2
      have RC := Lib.hid rc2
      have HB5 := Lib.hid hb5
      have OWN0 := Lib.hid own0
      clear ra rb rc rb2 rc2 hb5 own0
      go_wp2_with (first
        | (at_builtin; refine wpList_append_row (by rfl) _ _ 23 rfl (w4.heap.size + 1) 34 i0 _ 4 40 Try.underlying23 hi hz0 hz1 hz2 rfl (by decide) _ 0 [] rfl OWN0.out _ _ nx (rowC x) rfl (RA.out _) (rowC_one x) (by unfold maxLen; omega) (by omega) (by simp) ?_; intro v1 w5 own1 grow1; rw [Nat.zero_add, List.nil_append] at own1; obtain ⟨p1, q1, rfl⟩ := own_slice own1)
        | (at_builtin; refine wpList_append_row (by rfl) _ _ 23 rfl (w4.heap.size + 1) 34 i0 _ 4 40 Try.underlying23 hi hz0 hz1 hz2 rfl (by decide) _ _ _ rfl own1 _ _ ny (rowC y) rfl (RB.out _ grow1) (rowC_one y) (by unfold maxLen; omega) (by omega) (HB5.out _ grow1) ?_; intro v2' w6 own2 grow2; obtain ⟨p2, q2, rfl⟩ := own_slice own2))
      refine (HK.out _ _ _ _ _ _ (row_past r4 (RC.out _ grow1) own1 (Nat.le_succ _) grow2) own2).mono ?_
      rintro e w7 ⟨rfl, u7⟩
      go_wp2_with fail
      go_ret
      refine ⟨rfl, ?_⟩
      have hW : Up w ((w4.alloc (.cells #[.int .i64 0, .int .i64 0] 25)).alloc (.cells #[] 34)) := (((((u1.trans u2).trans v2).trans (u3.trans (v3.trans u4))).alloc _).alloc _)
      have h5 : Below w.heap.size w w5 := Below.grown hW grow1 hW.size (fun k e => by have e2 : some (w4.heap.size + 1) = some k := hrow0.symm.trans e; cases e2; omega)
      have h6 : Below w.heap.size w w6 := Below.grown h5 grow2 h5.size (fun k e => by have := (own1.lt k e).1; omega)
      exact Below.trans h6 (below_up u7 h6.size)

theorem bs_glue (a b : List UInt8) : bs a ++ ⟨#[10]⟩ ++ bs b = bs (a ++ 10 :: b) := by
  rw [show (⟨#[10]⟩ : ByteArray) = bs [10] from rfl, bs_cat, bs_cat, List.append_assoc]; rfl

theorem nls_line (a : List UInt8) : lineN a a.length = ((nls a + 1 : Nat) : Int) := by
  unfold lineN nls Lib.countByte
  rw [List.take_length]; omega

theorem lexT_len {l : List UInt8} (hl : l.length ≤ 3100) : (lexT l).length ≤ 100000 := by
  unfold lexT
  rw [if_pos (by omega)]
  split
  · have h1 := lexF_len (l.length + 1) (start l)
    have h2 : endN (start l).fin = 0 := rfl
    have h3 : (start l).left.length = l.length := rfl
    unfold lexS; omega
  · exact Nat.zero_le _

theorem glued_short (a b : List UInt8) (w : World) (ha : a.length ≤ 1500) (hb : b.length ≤ 1500) :
    Calls Try.prog 5 #[.string (bs a), .string (bs b)] w fun e w' => e = .returned (.bool true) ∧ Up w w' := by
  have hsa := bs_size a
  have hsb := bs_size b
  have HA : Hid AwakeG := Lib.hid awake_any
  have hgl := bs_glue a b
  have hlen : (a ++ 10 :: b).length ≤ 65536 := by rw [List.length_append, List.length_cons]; omega
  obtain ⟨g1, g2, g3⟩ := glued a b ha hb
  by_cases he : (lexE a).err = 0
  · have hEa := lexE_none (l := a) (by omega) (lexS_none (by omega) he)
    by_cases hf : (lexE b).err = 0
    · have hEb := lexE_none (l := b) (by omega) (lexS_none (by omega) hf)
      obtain ⟨hz, hk⟩ := g3 he hf
      have hEz := lexE_none hlen (lexS_none hlen hz)
      have hl : (lexT (a ++ 10 :: b)).length = (lexT a).length + (lexT b).length := by
        have := congrArg List.length hk
        rwa [List.length_map, List.length_map, List.length_append] at this
      have la := lexT_len (l := a) (by omega)
      have lb := lexT_len (l := b) (by omega)
      refine glued_third a (bs a) (bs b) rfl w (by omega) (by omega) (lexT a) (lexT b) (lexT (a ++ 10 :: b)) _ _ _ la lb HA (Lib.hid (ownP_of rfl hEa rfl (by omega))) (Lib.hid (ownP_of rfl hEb rfl (by omega))) (Lib.hid (ownP_of hgl hEz rfl hlen)) (Lib.hid ?_)
      intro p c base base2 v w' h1 h2
      obtain ⟨p2, q2, rfl⟩ := own_slice h2
      have hrow : rowC (lexT a) ++ rowC (lexT b) = rowC (lexT a ++ lexT b) := by unfold rowC; rw [List.flatMap_append]
      rw [hrow, ← hl] at h2
      rw [← hl]
      exact alike_sl p p2 c q2 _ _ _ w' (slx h1 rfl) (slx h2 (by rw [List.length_append, hl])) rfl (by rw [List.length_append, hl]) (by omega) hk.symm
    · have h := g2 he hf
      have hb0 : (lexE b).line ≤ 65537 := by
        cases hx : (lexS b).2 with
        | none => rw [lexE_none (by omega) hx] at hf; exact absurd rfl hf
        | some x =>
          obtain ⟨k, c, r, hk, -, -, -, -, hln, -⟩ := err_at b _ (start b) 0 x ⟨rfl, by rw [lineN_zero]; rfl, by rw [colZ_zero]; rfl, Nat.zero_le _⟩ hx
          have hE : lexE b = x := by unfold lexE; rw [if_pos (by omega), hx]
          have := lineN_bd b k
          rw [hE]; omega
      have h3 := ownP_of hgl h (lexT_bad (by rw [h]; exact hf)) hlen
      refine glued_second a (bs a) (bs b) rfl ((lexE b).line : Int) ((lexE b).col : Int) ((lexE b).err : Int) _ w (by omega) (by omega) (by simpa using hf) (by rw [nls_line]; show (((lexE b).line + (nls a + 1) : Nat) : Int) = _; omega) ⟨by omega, by omega⟩ HA _ (lexT a) (Lib.hid (ownP_of rfl hEa rfl (by omega))) (Lib.hid (ownP_of rfl rfl (lexT_bad hf) (by omega))) (Lib.hid h3)
  · have h := g1 he
    exact glued_first (bs a) (bs b) _ _ _ _ _ _ w (by omega) (by omega) (by simpa using he) HA _ (lexT b) (Lib.hid (ownP_of rfl rfl (lexT_bad he) (by omega))) (Lib.hid (ownP_of rfl rfl rfl (by omega))) (Lib.hid (ownP_of hgl h (lexT_bad (by rw [h]; exact he)) hlen))

theorem glued_walk (s t : ByteArray) (w : World) (_h : s.size ≤ 9223372036854775807) (_h2 : t.size ≤ 9223372036854775807) :
    Calls Try.prog 5 #[.string s, .string t] w fun e w' => e = .returned (.bool true) ∧ Below w.heap.size w w' := by
  by_cases hs : s.size ≤ 1500 ∧ t.size ≤ 1500
  · rw [bs_of s, bs_of t]
    exact glued_short _ _ w (by rw [Array.length_toList]; exact hs.1) (by rw [Array.length_toList]; exact hs.2)
  · have HA : Hid AwakeG := Lib.hid awake_any
    by_cases h1 : s.size ≤ 1500
    · have hs3 : (s.size : Int) ≤ 1500 := by omega
      have ht3 : 1500 < (t.size : Int) := by omega
      go_enter Try.func5, Try.ntmps5
      go_wp2_with fail
      refine (HA.out _).mono ?_
      rintro e w2 ⟨rfl, u2⟩
      go_wp2_with fail
      go_ret
      exact ⟨rfl, u2⟩
    · have hs3 : 1500 < (s.size : Int) := by omega
      go_enter Try.func5, Try.ntmps5
      go_wp2_with fail
      refine (HA.out _).mono ?_
      rintro e w2 ⟨rfl, u2⟩
      go_wp2_with fail
      go_ret
      exact ⟨rfl, u2⟩

end Go.Proofs.Ytgkknjlegfdcnaa.Lx
