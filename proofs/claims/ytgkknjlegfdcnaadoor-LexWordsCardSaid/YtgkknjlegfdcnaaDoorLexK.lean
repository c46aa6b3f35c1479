/- lex.Join. -/
import Derived.Test.YtgkknjlegfdcnaaDoorLexH
import Derived.OwnWalk
import Derived.WalkSmall
namespace Go.Proofs.YtgkknjlegfdcnaaDoor.Lx
open Go.RowKit Go.Shelf Go.Proofs.YtgkknjlegfdcnaaDoor.Cal

/-- What Join writes for a token, p being the kind of the one ahead of it (5 at the start). -/
def piece (p : Nat) (t : Tok) : List (List UInt8) := if t.kind = 5 then [[10]] else if p = 5 then [t.text] else [[32], t.text]
def pieces : Nat → List Tok → List (List UInt8)
  | _, [] => []
  | p, t :: l => piece p t ++ pieces t.kind l
def joinT (l : List Tok) : List UInt8 := (pieces 5 l).flatten

/-- The tokens lie in memory. -/
def TokRow (w : World) (g : Nat) (l : List Tok) : Prop := ∀ j t, l[j]? = some t →
  w.cell? ⟨g, j * 4, none⟩ = some (.int .u8 (t.kind : Int)) ∧ w.cell? ⟨g, j * 4 + 1, none⟩ = some (.string (bs t.text)) ∧ w.cell? ⟨g, j * 4 + 2, none⟩ = some (.int .i64 (t.line : Int)) ∧ w.cell? ⟨g, j * 4 + 3, none⟩ = some (.int .i64 (t.col : Int))

theorem info_str : (Tryd.prog.info? 9).map (fun i => (i.zero, i.size, i.bytes)) = some (some (.string ⟨#[]⟩), 1, 16) := by kernel_rfl

def strC (l : List UInt8) : Value := .string (bs l)

theorem join_nosep (xs : List (List UInt8)) : Lib.join xs [] = xs.flatten := by
  cases xs with
  | nil => rfl
  | cons x r => rw [Lib.join_cons, Lib.joinTail]; simp

theorem glue_any (v : Value) (xs : List (List UInt8)) (base : Nat) (w : World) (hrow : w.ownsRow base 9 1 v xs.length (xs.map strC)) (hlen : xs.flatten.length ≤ 1000000) (hN : xs.length ≤ 1000000) :
    Calls Tryd.prog 18 #[v] w fun e w' => e = .returned (.string (bs xs.flatten)) ∧ Up w w' := by
  rcases hrow.2 with ⟨rfl, h0⟩ | ⟨g, cap, cur, rfl, hb, hg, hcap, _, hcs, htk⟩
  · obtain rfl : xs = [] := List.eq_nil_of_length_eq_zero h0
    have H := Lib.hid (fun w => Tryd.strings_Join_none none 0 ⟨#[]⟩ w)
    go_enter Tryd.func18, Tryd.ntmps18
    go_wp2_with fail
    refine (H.out _).mono ?_
    rintro e w1 ⟨rfl, rfl⟩
    go_wp2_with fail
    go_ret
    exact ⟨rfl, Up.refl _⟩
  · have hj : Lib.join ((xs.map bs).map (·.data.toList)) (⟨#[]⟩ : ByteArray).data.toList = xs.flatten := by
      rw [List.map_map, show ((fun x : ByteArray => x.data.toList) ∘ bs) = id from funext fun x => by simp [bs], List.map_id]
      exact join_nosep xs
    have H : Hid (∀ w', Up w w' → Calls Tryd.prog 29 #[.slice (some ⟨g, 0, none⟩) xs.length cap, .string ⟨#[]⟩] w' fun e w'' => e = .returned (.string (bs xs.flatten)) ∧ Up w' w'') := by
      refine Lib.hid fun w' hu => ?_
      have hg' : w'.heap[g]? = some (.cells cur 9 (0, 0)) := (hu.block _ (Array.getElem?_eq_some_iff.1 hg).1).trans hg
      have h := Tryd.strings_Join g 0 cap (xs.map bs) ⟨#[]⟩ w' ?_ (Array.getElem?_eq_some_iff.1 hg').1 (by rw [List.length_map]; omega) (by rw [List.length_map]; exact hcap) (by rw [hj]; omega)
      · rw [List.length_map] at h
        rw [hj] at h
        exact h
      · intro j x hx
        have hjl : j < xs.length := by
          have := (List.getElem?_eq_some_iff.1 hx).1
          rwa [List.length_map] at this
        have h1 : (cur.toList.take (xs.length * 1))[j]? = (xs.map strC)[j]? := by rw [htk]
        rw [List.getElem?_take, if_pos (by omega), List.getElem?_map] at h1
        rw [List.getElem?_map] at hx
        simp only [World.cell?, hg', Nat.zero_add]
        rw [Array.getElem?_toList] at h1
        cases hxj : xs[j]? with
        | none => rw [hxj] at hx; cases hx
        | some y =>
          rw [hxj] at hx h1
          cases hx
          exact h1
    go_enter Tryd.func18, Tryd.ntmps18
    go_wp2_with fail
    refine (H.out _ (Up.refl _)).mono ?_
    rintro e w1 ⟨rfl, u1⟩
    go_wp2_with fail
    go_ret
    exact ⟨rfl, u1⟩

def JoinRel (w : World) (toks : List Tok) (out i : Value) (wr : World) : Prop :=
  ∃ j : Nat, j ≤ toks.length ∧ i = .int .i64 (j : Int) ∧ wr.ownsRow w.heap.size 9 1 out (pieces 5 (toks.take j)).length ((pieces 5 (toks.take j)).map strC) ∧ Up w wr

theorem cells1 (w : World) (o : Obj) (x : Value) (t : TypeId) : ∀ j u, [x][j]? = some u → ((w.alloc o).alloc (.cells #[x] t)).cell? ((⟨w.heap.size + 1, 0, none⟩ : Addr).add j) = some u := by
  have h := cell_one_new (w.alloc o) x t
  rw [World.size_alloc] at h; exact h
theorem cells2 (w : World) (o : Obj) (x y : Value) (t : TypeId) : ∀ j u, [x, y][j]? = some u → ((w.alloc o).alloc (.cells #[x, y] t)).cell? ((⟨w.heap.size + 1, 0, none⟩ : Addr).add j) = some u := by
  have h := cell_two_new (w.alloc o) x y t
  rw [World.size_alloc] at h; exact h

def lastK : Nat → List Tok → Nat
  | p, [] => p
  | _, t :: l => lastK t.kind l
theorem pieces_snoc (p : Nat) (l : List Tok) (t : Tok) : pieces p (l ++ [t]) = pieces p l ++ piece (lastK p l) t := by
  induction l generalizing p with
  | nil => simp [pieces, lastK]
  | cons x l ih => simp [pieces, lastK, ih]
theorem lastK_snoc (p : Nat) (l : List Tok) (t : Tok) : lastK p (l ++ [t]) = t.kind := by
  induction l generalizing p with
  | nil => rfl
  | cons x l ih => simp [lastK, ih]
theorem take_snoc {α : Type} (l : List α) (j : Nat) (t : α) (h : l[j]? = some t) : l.take (j + 1) = l.take j ++ [t] := by
  rw [List.take_add_one, h]; rfl
theorem lastK_take (toks : List Tok) (j : Nat) (t : Tok) (h : toks[j]? = some t) : lastK 5 (toks.take (j + 1)) = t.kind := by
  rw [take_snoc _ _ _ h, lastK_snoc]

theorem pieces_len (p : Nat) (l : List Tok) : (pieces p l).length ≤ 2 * l.length := by
  induction l generalizing p with
  | nil => simp [pieces]
  | cons x l ih =>
    have := ih x.kind
    have h2 : (piece p x).length ≤ 2 := by
      unfold piece; split
      · simp
      · split <;> simp
    simp only [pieces, List.length_append, List.length_cons]
    omega

theorem up_of_grown {w wr w3 : World} {o1 o2 : Obj} {v : Value} {k : Nat} {xs : List Value} (hup : Up w wr) (hrow : wr.ownsRow w.heap.size 9 1 v k xs) (hg : ((wr.alloc o1).alloc o2).grownBy w3 v.ownBlock) : Up w w3 := by
  have hs := hup.size
  refine ((hup.alloc o1).alloc o2).grown hg (by simp; omega) fun j ej => ?_
  rcases hrow.2 with ⟨rfl, _⟩ | ⟨g, cap, cur, rfl, hb, _, _⟩
  · simp [Value.ownBlock] at ej
  · obtain rfl : g = j := by simpa [Value.ownBlock] using ej
    exact hb

set_option maxRecDepth 100000 in
set_option maxHeartbeats 4000000 in
theorem join_some (g cap : Nat) (toks : List Tok) (w : World) (hr : TokRow w g toks) (hn : toks.length ≤ 200000) (hlen : (joinT toks).length ≤ 1000000) :
    Calls Tryd.prog 10 #[.slice (some ⟨g, 0, none⟩) toks.length cap] w fun e w' => e = .returned (.string (bs (joinT toks))) ∧ Up w w' := by
  have HR := Lib.hid hr
  clear hr
  obtain ⟨i0, hi, hz0, hz1, hz2⟩ := info_parts info_str
  go_enter Tryd.func10, Tryd.ntmps10
  go_wp2_with fail
  go_loopw [3, 8] (JoinRel w toks) (fun _ i _ => toks.length - (intOf i).toNat)
  case atStart => exact ⟨0, Nat.zero_le _, rfl, World.ownsRow_nil _ _ _ _, Up.refl w⟩
  case round =>
    obtain ⟨j, hj, rfl, hrow, hup⟩ := hrel
    by_cases hlt : j < toks.length
    · obtain ⟨t, ht⟩ : ∃ t, toks[j]? = some t := ⟨toks[j], List.getElem?_eq_getElem hlt⟩
      obtain ⟨a0, a1, a2, a3⟩ := HR.out j t ht
      have b0 := hup.cell a0
      have b1 := hup.cell a1
      have b2 := hup.cell a2
      have b3 := hup.cell a3
      clear a0 a1 a2 a3
      have hpl := pieces_len 5 (toks.take j)
      have htl : (toks.take j).length ≤ toks.length := by rw [List.length_take]; omega
      have hus := hup.size
      by_cases hk : t.kind = 5
      · have hk5 : ((t.kind : Int) == 5) = true := by rw [hk]; rfl
        have hpc : piece (lastK 5 (toks.take j)) t = [[10]] := by unfold piece; rw [if_pos hk]
        go_wp2_with (at_builtin; refine wpList_append_own _ rfl _ _ 40 rfl w.heap.size 9 i0 (.string ⟨#[]⟩) 1 16 Tryd.underlying40 hi hz0 hz1 hz2 rfl (by decide) _ _ _ rfl ((hrow.alloc _).alloc _) ⟨wr.heap.size + 1, 0, none⟩ 1 1 [.string ⟨#[10]⟩] rfl rfl (cells1 _ _ _ _) (fun x hx => by simp at hx; subst hx; rfl) (by unfold maxLen; omega) (by omega) (by simp; omega) ?_; intro v' w3 hown' hgrow3 hnil3)
        go_roundw
        (
            case rel =>
              obtain ⟨g3, cap3, rfl⟩ := ownsRow_succ hown'
              refine ⟨j + 1, by omega, by go_num, ?_, up_of_grown hup hrow hgrow3⟩
              rw [take_snoc _ _ _ ht, pieces_snoc, hpc, List.length_append, List.map_append]
              exact hown'
            case measure => simp [intOf]; omega)
      · have hk5 : ((t.kind : Int) == 5) = false := by
          cases hq : ((t.kind : Int) == 5)
          · rfl
          · exact absurd (by have := eq_of_beq hq; omega) hk
        cases j with
        | zero =>
          have hpc : piece (lastK 5 (toks.take 0)) t = [t.text] := by unfold piece; rw [if_neg hk]; rfl
          have b0' : wr.cell? ⟨g, 0, none⟩ = some (.int .u8 (t.kind : Int)) := b0
          have b1' : wr.cell? ⟨g, 1, none⟩ = some (.string (bs t.text)) := b1
          have b2' : wr.cell? ⟨g, 2, none⟩ = some (.int .i64 (t.line : Int)) := b2
          have b3' : wr.cell? ⟨g, 3, none⟩ = some (.int .i64 (t.col : Int)) := b3
          have hz : (0 : Int) < (toks.length : Int) := by omega
          go_wp2_with (at_builtin; refine wpList_append_own _ rfl _ _ 40 rfl w.heap.size 9 i0 (.string ⟨#[]⟩) 1 16 Tryd.underlying40 hi hz0 hz1 hz2 rfl (by decide) _ _ _ rfl ((hrow.alloc _).alloc _) ⟨wr.heap.size + 1, 0, none⟩ 1 1 [.string (bs t.text)] rfl rfl (cells1 _ _ _ _) (fun x hx => by simp at hx; subst hx; rfl) (by unfold maxLen; omega) (by omega) (by simp; omega) ?_; intro v' w3 hown' hgrow3 hnil3)
          go_roundw
          case rel =>
            obtain ⟨g3, cap3, rfl⟩ := ownsRow_succ hown'
            refine ⟨0 + 1, by omega, rfl, ?_, up_of_grown hup hrow hgrow3⟩
            rw [take_snoc _ _ _ ht, pieces_snoc, hpc, List.length_append, List.map_append]
            exact hown'
          case measure => simp [intOf]; omega
        | succ j =>
          obtain ⟨tp, htp⟩ : ∃ t, toks[j]? = some t := ⟨toks[j], List.getElem?_eq_getElem (by omega)⟩
          have p0 := hup.cell (HR.out j tp htp).1
          have p0a : ∀ o, (wr.alloc o).cell? ⟨g, j * 4, none⟩ = some (.int .u8 (tp.kind : Int)) := fun o => (hup.alloc o).cell (HR.out j tp htp).1
          have hlk := lastK_take toks j tp htp
          by_cases hkp : tp.kind = 5
          · have hkp5 : ((tp.kind : Int) != 5) = false := by rw [hkp]; rfl
            have hpc : piece (lastK 5 (toks.take (j + 1))) t = [t.text] := by unfold piece; rw [if_neg hk, hlk, if_pos hkp]
            go_wp2_with (at_builtin; refine wpList_append_own _ rfl _ _ 40 rfl w.heap.size 9 i0 (.string ⟨#[]⟩) 1 16 Tryd.underlying40 hi hz0 hz1 hz2 rfl (by decide) _ _ _ rfl ((hrow.alloc _).alloc _) ⟨wr.heap.size + 1, 0, none⟩ 1 1 [.string (bs t.text)] rfl rfl (cells1 _ _ _ _) (fun x hx => by simp at hx; subst hx; rfl) (by unfold maxLen; omega) (by omega) (by simp; omega) ?_; intro v' w3 hown' hgrow3 hnil3)
            go_roundw
            case rel =>
              obtain ⟨g3, cap3, rfl⟩ := ownsRow_succ hown'
              refine ⟨j + 1 + 1, by omega, by go_num, ?_, up_of_grown hup hrow hgrow3⟩
              rw [take_snoc _ _ _ ht, pieces_snoc, hpc, List.length_append, List.map_append]
              exact hown'
            case measure => simp [intOf]; omega
          · have hkp5 : ((tp.kind : Int) != 5) = true := by
              cases hq : ((tp.kind : Int) != 5)
              · exact absurd (by have : (tp.kind : Int) = 5 := by simpa using hq
                                 omega) hkp
              · rfl
            have hpc : piece (lastK 5 (toks.take (j + 1))) t = [[32], t.text] := by unfold piece; rw [if_neg hk, hlk, if_neg hkp]
            go_wp2_with (at_builtin; refine wpList_append_own _ rfl _ _ 40 rfl w.heap.size 9 i0 (.string ⟨#[]⟩) 1 16 Tryd.underlying40 hi hz0 hz1 hz2 rfl (by decide) _ _ _ rfl ((hrow.alloc _).alloc _) ⟨wr.heap.size + 1, 0, none⟩ 2 2 [.string ⟨#[32]⟩, .string (bs t.text)] rfl rfl (cells2 _ _ _ _ _) (fun x hx => by simp at hx; rcases hx with rfl | rfl <;> rfl) (by unfold maxLen; omega) (by omega) (by simp; omega) ?_; intro v' w3 hown' hgrow3 hnil3)
            go_roundw
            case rel =>
              obtain ⟨g3, cap3, rfl⟩ := ownsRow_succ hown'
              refine ⟨j + 1 + 1, by omega, by go_num, ?_, up_of_grown hup hrow hgrow3⟩
              rw [take_snoc _ _ _ ht, pieces_snoc, hpc, List.length_append, List.map_append]
              exact hown'
            case measure => simp [intOf]; omega
    · obtain rfl : j = toks.length := by omega
      rw [List.take_length] at hrow
      obtain ⟨vb, vn, vc, rfl⟩ : ∃ b n c, u3 = Value.slice b n c := by
        rcases hrow.2 with ⟨rfl, _⟩ | ⟨g, cap, cur, rfl, _⟩
        · exact ⟨_, _, _, rfl⟩
        · exact ⟨_, _, _, rfl⟩
      have HG := Lib.hid (fun w' (h : w'.ownsRow w.heap.size 9 1 (.slice vb vn vc) (pieces 5 toks).length ((pieces 5 toks).map strC)) => glue_any _ _ _ w' h hlen (by have := pieces_len 5 toks; omega))
      go_wp2_with fail
      refine (HG.out _ hrow).mono ?_
      rintro e w1 ⟨rfl, u1⟩
      go_wp2_with fail
      go_ret
      exact ⟨rfl, hup.trans u1⟩

end Go.Proofs.YtgkknjlegfdcnaaDoor.Lx
