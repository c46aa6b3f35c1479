/- lex.Lex. -/
import Derived.Test.YtgkknjlegfdcnaaDoorLexI
namespace Go.Proofs.YtgkknjlegfdcnaaDoor.Lx
open Go.RowKit Go.Shelf Go.Proofs.YtgkknjlegfdcnaaDoor.Cal

attribute [local go_sem] Oper.semAt_some

theorem appended2 {W w1 : World} {n₀ nb B : Nat} {v v' : Value} {k m : Nat} {xs ys : List Value} {tmp : Obj}
    (hv : Boxed W B 24 v) (hrow : W.ownsRow nb 31 4 v k xs) (hn₀ : n₀ ≤ W.heap.size) (hB : n₀ ≤ B) (hnb : n₀ ≤ nb)
    (hown' : w1.ownsRow nb 31 4 v' m ys) (hgrow : (W.alloc tmp).grownBy w1 v.ownBlock) :
    Boxed w1 B 24 v ∧ Boxed (w1.setCell ⟨B, 0, none⟩ v') B 24 v' ∧ (w1.setCell ⟨B, 0, none⟩ v').ownsRow nb 31 4 v' m ys ∧ Kept W (w1.setCell ⟨B, 0, none⟩ v') ∧ Below n₀ W (w1.setCell ⟨B, 0, none⟩ v') ∧
      (∀ k, k < W.heap.size → k ≠ B → some k ≠ v.ownBlock → (w1.setCell ⟨B, 0, none⟩ v').heap[k]? = W.heap[k]?) := by
  have hte : (24 : TypeId) ≠ 31 := by decide
  have hv1 : Boxed w1 B 24 v := (hv.alloc tmp).kept hgrow (hv.not_row hte hrow)
  have hall : ∀ k, k < W.heap.size → k ≠ B → some k ≠ v.ownBlock → (w1.setCell ⟨B, 0, none⟩ v').heap[k]? = W.heap[k]? := by
    intro k hk hkB hkv
    rw [heap_setCell_other _ _ _ _ hkB]
    exact (hgrow.block k (by simp; omega) hkv).trans ((World.grownBy_alloc W tmp none).block k hk (by simp))
  refine ⟨hv1, hv1.set v', hown'.kept (grownBy_setCell' w1 B v') (.inr (hv1.not_row hte hown').symm), ?_, ?_, hall⟩
  · intro k o hk ho
    have hlt := (Array.getElem?_eq_some_iff.1 hk).1
    refine (hall k hlt ?_ ?_).trans hk
    · rintro rfl
      have hv' : W.heap[k]? = some (.cells #[v] 24 (0, 0)) := hv
      rw [hv'] at hk; cases hk; exact (ho _ _ rfl).1 rfl
    · intro e
      rcases hrow.2 with ⟨rfl, _⟩ | ⟨g, cap, cur, rfl, _, hgb, _⟩
      · simp [Value.ownBlock] at e
      · obtain rfl : k = g := by simpa [Value.ownBlock] using e
        rw [hgb] at hk; cases hk; exact (ho _ _ rfl).2 rfl
  · refine (((Below.refl n₀ W).alloc hn₀ tmp).grown hgrow (by simp; omega) fun j ej => ?_).setCell (p := ⟨B, 0, none⟩) hB v'
    rcases hrow.2 with ⟨rfl, _⟩ | ⟨g, cap, cur, rfl, hb, _, _⟩
    · simp [Value.ownBlock] at ej
    · obtain rfl : g = j := by simpa [Value.ownBlock] using ej
      omega

theorem alloc_old {w : World} {k : Nat} {x : Obj} (h : w.heap[k]? = some x) (o : Obj) : (w.alloc o).heap[k]? = some x :=
  (((Up.refl w).alloc o).block k (Array.getElem?_eq_some_iff.1 h).1).trans h
theorem alloc_new (w : World) (o : Obj) (k : Nat) (h : w.heap.size = k) : (w.alloc o).heap[k]? = some o := by subst h; exact World.alloc_heap_new w o

theorem tokC_one (t : Tok) : ∀ u ∈ tokC t, u.oneCell' = true := by
  intro u hu
  simp only [tokC, List.mem_cons, List.not_mem_nil, or_false] at hu
  rcases hu with rfl | rfl | rfl | rfl <;> rfl

theorem cells_new (W : World) (t : Tok) : ∀ (j : Nat) (u : Value), (tokC t)[j]? = some u → (W.alloc (.cells #[.int .u8 (t.kind : Int), .string (bs t.text), .int .i64 (t.line : Int), .int .i64 (t.col : Int)] 31)).cell? (Addr.add ⟨W.heap.size, 0, none⟩ j) = some u := by
  intro j u h
  have hj : j < 4 := by
    have := (List.getElem?_eq_some_iff.1 h).1
    simpa [tokC] using this
  have hc : j = 0 ∨ j = 1 ∨ j = 2 ∨ j = 3 := by omega
  have h0 := World.alloc_heap_new W (.cells #[.int .u8 (t.kind : Int), .string (bs t.text), .int .i64 (t.line : Int), .int .i64 (t.col : Int)] 31)
  have hx : ∀ i, (W.alloc (.cells #[.int .u8 (t.kind : Int), .string (bs t.text), .int .i64 (t.line : Int), .int .i64 (t.col : Int)] 31)).cell? ⟨W.heap.size, i, none⟩ = (tokC t)[i]? := by
    intro i; unfold World.cell?; rw [h0]; simp [tokC]
  rw [← h, ← hx j]
  rcases hc with rfl | rfl | rfl | rfl <;> rfl

theorem rowC_snoc (l : List Tok) (t : Tok) : rowC (l ++ [t]) = rowC l ++ tokC t := by simp [rowC]

theorem ownsRow_base {w : World} {a b : Nat} {e : TypeId} {size : Nat} {v : Value} {n : Nat} {xs : List Value} (h : w.ownsRow a e size v n xs) (hb : b ≤ a) : w.ownsRow b e size v n xs := by
  refine ⟨h.1, ?_⟩
  rcases h.2 with h2 | ⟨g, cap, cur, h3, h4, h5⟩
  · exact Or.inl h2
  · exact Or.inr ⟨g, cap, cur, h3, Nat.le_trans hb h4, h5⟩

/-- What Lex's own loop keeps between two tokens. -/
def LexI (w : World) (pre : List Tok) (W : World) : Prop :=
  Boxed W w.heap.size 24 (.slice none 0 0) ∧ W.heap[w.heap.size + 1]? = some (.cells #[.int .i64 0, .int .i64 0] 26 (0, 0)) ∧ Boxed W (w.heap.size + 1 + 1) 27 (.int .i64 0) ∧
  (∃ v, Boxed W (w.heap.size + 1 + 1 + 1) 24 v ∧ W.ownsRow (w.heap.size + 5) 31 4 v pre.length (rowC pre)) ∧ Below w.heap.size w W

def LexX (w : World) (b : Bad) (W : World) : Prop :=
  Boxed W w.heap.size 24 (.slice none 0 0) ∧ W.heap[w.heap.size + 1]? = some (.cells #[.int .i64 (b.line : Int), .int .i64 (b.col : Int)] 26 (0, 0)) ∧ Boxed W (w.heap.size + 1 + 1) 27 (.int .i64 (b.err : Int)) ∧ Below w.heap.size w W

theorem LexI.kept {w W W' : World} {pre : List Tok} {row : Option Nat} (h : LexI w pre W) (hg : W.grownBy W' row) (hr : ∀ r, row = some r → r = w.heap.size + 4 ∨ w.heap.size + 5 ≤ r ∧ ∃ o, W.heap[r]? = some o ∧ (∀ cs t, o = .cells cs t (0, 0) → t = 26)) : LexI w pre W' := by
  obtain ⟨h1, h2, h3, ⟨v, h4, h5⟩, h6⟩ := h
  have hne : ∀ k, k < w.heap.size + 4 → some k ≠ row := by
    intro k hk e
    rcases hr k e.symm with h | ⟨h, _⟩ <;> omega
  refine ⟨h1.kept hg (hne _ (by omega)), (hg.block _ (Array.getElem?_eq_some_iff.1 h2).1 (hne _ (by omega))).trans h2, h3.kept hg (hne _ (by omega)), ⟨v, h4.kept hg (hne _ (by omega)), h5.kept hg ?_⟩, h6.grown hg h6.size fun k e => ?_⟩
  · rcases h5.2 with ⟨rfl, _⟩ | ⟨g, cap, cur, rfl, hb, hgb, _⟩
    · exact .inl rfl
    · refine .inr fun e' => ?_
      have e2 : row = some g := by rw [← e']; rfl
      rcases hr g e2 with h | ⟨_, o, ho, hp⟩
      · omega
      · rw [hgb] at ho; cases ho; exact absurd (hp _ _ rfl) (by decide)
  · rcases hr k e with h | ⟨h, _⟩ <;> omega

theorem LexX.kept {w W W' : World} {b : Bad} {row : Option Nat} (h : LexX w b W) (hg : W.grownBy W' row) (hr : ∀ r, row = some r → w.heap.size + 5 ≤ r) : LexX w b W' := by
  obtain ⟨h1, h2, h3, h6⟩ := h
  have hne : ∀ k, k < w.heap.size + 4 → some k ≠ row := by
    intro k hk e
    have := hr k e.symm
    omega
  exact ⟨h1.kept hg (hne _ (by omega)), (hg.block _ (Array.getElem?_eq_some_iff.1 h2).1 (hne _ (by omega))).trans h2, h3.kept hg (hne _ (by omega)), h6.grown hg h6.size fun k e => by have := hr k e; omega⟩

theorem stops_fin {w W : World} {b : Bad} (h1 : Boxed W w.heap.size 24 (.slice none 0 0)) (h2 : W.heap[w.heap.size + 1]? = some (.cells #[.int .i64 0, .int .i64 0] 26 (0, 0))) (h3 : Boxed W (w.heap.size + 1 + 1) 27 (.int .i64 0)) (h6 : Below w.heap.size w W) :
    KeptN W ((((W.setCell ⟨w.heap.size, 0, none⟩ (.slice none 0 0)).setCell ⟨w.heap.size + 1, 0, none⟩ (.int .i64 (b.line : Int))).setCell ⟨w.heap.size + 1, 1, none⟩ (.int .i64 (b.col : Int))).setCell ⟨w.heap.size + 1 + 1, 0, none⟩ (.int .i64 (b.err : Int))).drew ∧
    LexX w b ((((W.setCell ⟨w.heap.size, 0, none⟩ (.slice none 0 0)).setCell ⟨w.heap.size + 1, 0, none⟩ (.int .i64 (b.line : Int))).setCell ⟨w.heap.size + 1, 1, none⟩ (.int .i64 (b.col : Int))).setCell ⟨w.heap.size + 1 + 1, 0, none⟩ (.int .i64 (b.err : Int))).drew := by
  refine ⟨?_, ?_, ?_, ?_, ?_⟩
  · intro k o hk ho
    exact (((KeepsOthers.setCell _ _ _).trans (KeepsOthers.setCell _ _ _)).trans ((KeepsOthers.setCell _ _ _).trans (KeepsOthers.setCell _ _ _))).same k o hk ho
  · exact (heap_setCell_other _ _ _ _ (by dsimp only; omega)).trans ((heap_setCell_other _ _ _ _ (by dsimp only; omega)).trans ((heap_setCell_other _ _ _ _ (by dsimp only; omega)).trans (h1.set _)))
  · exact (heap_setCell_other _ _ _ _ (by dsimp only; omega)).trans (heap_setCell_same _ _ 1 _ _ _ (heap_setCell_same _ _ 0 _ _ _ ((heap_setCell_other _ _ _ _ (by dsimp only; omega)).trans h2)))
  · exact Boxed.set _ ((heap_setCell_other _ _ _ _ (by dsimp only; omega)).trans ((heap_setCell_other _ _ _ _ (by dsimp only; omega)).trans ((heap_setCell_other _ _ _ _ (by dsimp only; omega)).trans h3)))
  · exact ((((h6.setCell (by dsimp only; omega) _).setCell (by dsimp only; omega) _).setCell (by dsimp only; omega) _).setCell (by dsimp only; omega) _).drew

theorem done_fin {w W : World} {v : Value} {pre : List Tok} (h1 : Boxed W w.heap.size 24 (.slice none 0 0)) (h2 : W.heap[w.heap.size + 1]? = some (.cells #[.int .i64 0, .int .i64 0] 26 (0, 0))) (h3 : Boxed W (w.heap.size + 1 + 1) 27 (.int .i64 0))
    (h5 : W.ownsRow (w.heap.size + 5) 31 4 v pre.length (rowC pre)) (h6 : Below w.heap.size w W) (D : Nat) (hD : w.heap.size + 5 ≤ D) (hK : W.heap[D]? = some (.deferred (some []))) (W4 : World)
    (hW4 : (((W.setCell ⟨w.heap.size, 0, none⟩ v).setCell ⟨w.heap.size + 1, 0, none⟩ (.int .i64 0)).setCell ⟨w.heap.size + 1, 1, none⟩ (.int .i64 0)).setCell ⟨w.heap.size + 1 + 1, 0, none⟩ (.int .i64 0) = W4) :
    W4.heap[D]? = some (.deferred (some [])) ∧ Boxed (W4.putObj D (.deferred none)) w.heap.size 24 v ∧ (W4.putObj D (.deferred none)).heap[w.heap.size + 1]? = some (.cells #[.int .i64 0, .int .i64 0] 26 (0, 0)) ∧ Boxed (W4.putObj D (.deferred none)) (w.heap.size + 1 + 1) 27 (.int .i64 0) ∧
      (W4.putObj D (.deferred none)).ownsRow w.heap.size 31 4 v pre.length (rowC pre) ∧ Up w (W4.putObj D (.deferred none)) := by
  have q0 : Boxed W4 w.heap.size 24 v := by
    rw [← hW4]; exact (heap_setCell_other _ _ _ _ (by dsimp only; omega)).trans ((heap_setCell_other _ _ _ _ (by dsimp only; omega)).trans ((heap_setCell_other _ _ _ _ (by dsimp only; omega)).trans (h1.set _)))
  have q1 : W4.heap[w.heap.size + 1]? = some (.cells #[.int .i64 0, .int .i64 0] 26 (0, 0)) := by
    rw [← hW4]; exact (heap_setCell_other _ _ _ _ (by dsimp only; omega)).trans (heap_setCell_same _ _ 1 _ _ _ (heap_setCell_same _ _ 0 _ _ _ ((heap_setCell_other _ _ _ _ (by dsimp only; omega)).trans h2)))
  have q2 : Boxed W4 (w.heap.size + 1 + 1) 27 (.int .i64 0) := by
    rw [← hW4]; exact Boxed.set _ ((heap_setCell_other _ _ _ _ (by dsimp only; omega)).trans ((heap_setCell_other _ _ _ _ (by dsimp only; omega)).trans ((heap_setCell_other _ _ _ _ (by dsimp only; omega)).trans h3)))
  have qK : W4.heap[D]? = some (.deferred (some [])) := by
    rw [← hW4]; exact (heap_setCell_other _ _ _ _ (by dsimp only; omega)).trans ((heap_setCell_other _ _ _ _ (by dsimp only; omega)).trans ((heap_setCell_other _ _ _ _ (by dsimp only; omega)).trans ((heap_setCell_other _ _ _ _ (by dsimp only; omega)).trans hK)))
  have qB : Below w.heap.size w W4 := by
    rw [← hW4]; exact (((h6.setCell (by dsimp only; omega) _).setCell (by dsimp only; omega) _).setCell (by dsimp only; omega) _).setCell (by dsimp only; omega) _
  have hown : ∀ k, k < w.heap.size + 5 → v.ownBlock ≠ some k := by
    intro k hk e
    rcases h5.2 with ⟨rfl, _⟩ | ⟨g, cap, cur, rfl, hb, _, _⟩
    · simp [Value.ownBlock] at e
    · have : g = k := by simpa [Value.ownBlock] using e
      omega
  have qR : W4.ownsRow (w.heap.size + 5) 31 4 v pre.length (rowC pre) := by
    rw [← hW4]
    exact (((h5.kept (grownBy_setCell' _ _ _) (.inr (hown _ (by omega)))).kept (grown_set _ _ _ _) (.inr (hown _ (by omega)))).kept (grown_set _ _ _ _) (.inr (hown _ (by omega)))).kept (grownBy_setCell' _ _ _) (.inr (hown _ (by omega)))
  have hg := grownBy_putObj' W4 D (.deferred none)
  refine ⟨qK, q0.kept hg (by simp; omega), (hg.block _ (Array.getElem?_eq_some_iff.1 q1).1 (by simp; omega)).trans q1, q2.kept hg (by simp; omega), ownsRow_base (ownsRow_putObj qR _ qK rfl) (by omega), qB.grown hg qB.size (fun k e => by cases e; omega)⟩

set_option maxRecDepth 100000 in
set_option maxHeartbeats 8000000 in
theorem lex_short (src : List UInt8) (w : World) (hsrc : src.length ≤ 65536) :
    Calls Tryd.prog 7 #[.string (bs src)] w fun e w' => ∃ v, e = .returned (.tuple #[v, .agg #[.int .i64 ((lexE src).line : Int), .int .i64 ((lexE src).col : Int)], .int .i64 ((lexE src).err : Int)]) ∧ w'.ownsRow w.heap.size 31 4 v (lexT src).length (rowC (lexT src)) ∧ Up w w' := by
  refine (callsIn_wide (n := 5)).1 ?_
  have hsz := bs_size src
  have hs2 : ((bs src).size : Int) ≤ 65536 := by omega
  obtain ⟨i0, hi, hz0, hz1, hz2⟩ := info_parts info_tok
  refine callsIn_of_wp_marks Tryd.func7 rfl trivial ?_ rfl
  simp only [Tryd.ntmps7, List.size_toArray, List.length_cons, List.length_nil, Nat.reduceAdd, Nat.reduceSub, Array.replicate_succ, Array.replicate_zero, List.push_toArray, List.append_toArray, List.nil_append, List.cons_append]
  gi_wp2_with fail
  generalize hW0 : (((((w.alloc (.cells #[.slice none 0 0] 24)).alloc (.cells #[.int .i64 0, .int .i64 0] 26)).alloc (.cells #[.int .i64 0] 27)).alloc (.cells #[.slice none 0 0] 24)).alloc
      (.cells #[.int .i64 1, .int .i64 1, .string (bs src)] 37)) = W0
  have hz : W0.heap.size = w.heap.size + 5 := by rw [← hW0]; simp
  have hU : Up w W0 := by rw [← hW0]; exact (((((Up.refl w).alloc _).alloc _).alloc _).alloc _).alloc _
  have hr0 : Boxed W0 w.heap.size 24 (.slice none 0 0) := by
    rw [← hW0]; exact alloc_old (alloc_old (alloc_old (alloc_old (alloc_new w _ _ rfl) _) _) _) _
  have hr1 : W0.heap[w.heap.size + 1]? = some (.cells #[.int .i64 0, .int .i64 0] 26 (0, 0)) := by
    rw [← hW0]; exact alloc_old (alloc_old (alloc_old (alloc_new _ _ _ (by simp)) _) _) _
  have hr2 : Boxed W0 (w.heap.size + 1 + 1) 27 (.int .i64 0) := by
    rw [← hW0]; exact alloc_old (alloc_old (alloc_new _ _ _ (by simp)) _) _
  have hr3 : Boxed W0 (w.heap.size + 1 + 1 + 1) 24 (.slice none 0 0) := by
    rw [← hW0]; exact alloc_old (alloc_new _ _ _ (by simp)) _
  have hr4 : ScanAt W0 (w.heap.size + 1 + 1 + 1 + 1) 1 1 src := by
    rw [← hW0]; exact alloc_new _ _ _ (by simp)
  clear hW0
  refine rangeFunc_lex (c := w.heap.size + 1 + 1 + 1 + 1) src hsrc (by omega) rfl rfl hr4 (LexI w) (LexX w)
    (fun pre W W' row h hg hr => h.kept hg (fun r e => by rcases hr r e with h | ⟨h, h2⟩; exact Or.inl h; exact Or.inr ⟨by omega, h2⟩))
    (fun b W W' row h hg hr => h.kept hg (fun r e => by have := (hr r e).1; omega))
    (fun tb t er => { tmps := #[.string (bs src), undef, .pointer (some ⟨w.heap.size, 0, none⟩), .pointer (some ⟨w.heap.size + 1, 0, none⟩), .pointer (some ⟨w.heap.size + 1 + 1, 0, none⟩), .pointer (some ⟨w.heap.size + 1 + 1 + 1, 0, none⟩), .pointer (some ⟨w.heap.size + 1 + 1 + 1 + 1, 0, none⟩),
        .pointer (some ⟨tb, 0, none⟩), .int .i64 er, .string (bs src), .int .i64 (src.length : Int), .bool (decide ((65536 : Int) < (src.length : Int))), undef, .agg #[.int .i64 1, .int .i64 1], .string (bs src), .agg #[.int .i64 1, .int .i64 1, .string (bs src)],
        .pointer (some ⟨w.heap.size + 1 + 1 + 1 + 1, 0, none⟩), .pointer (some ⟨w.heap.size + 1 + 1 + 1 + 1, 0, none⟩), .func (.func 14) #[.pointer (some ⟨w.heap.size + 1 + 1 + 1 + 1, 0, none⟩)] #[], tokV t, .int .i64 er,
        undef, undef, undef, undef, undef, undef, undef, undef, undef, undef, undef], defers := [] })
    ⟨hr0, hr1, hr2, ⟨_, hr3, World.ownsRow_nil _ _ _ _⟩, hU⟩ ?assign ?goes ?stops ?done ?stop
  case assign =>
    intro l t er W K hK
    unfold tokV
    gi_wp2
    exact hK
  case goes =>
    rintro l pre t W tb ⟨h1, h2, h3, ⟨v, h4, h5⟩, h6⟩ hpl htb
    have hc := h4.cell
    have b0 : W.cell? ⟨tb, 0, none⟩ = some (.int .u8 (t.kind : Int)) := by simp [World.cell?, htb, tokC]
    have b1 : W.cell? ⟨tb, 1, none⟩ = some (.string (bs t.text)) := by simp [World.cell?, htb, tokC]
    have b2 : W.cell? ⟨tb, 2, none⟩ = some (.int .i64 (t.line : Int)) := by simp [World.cell?, htb, tokC]
    have b3 : W.cell? ⟨tb, 3, none⟩ = some (.int .i64 (t.col : Int)) := by simp [World.cell?, htb, tokC]
    have hWs := h4.lt
    gi_wp2_with (gi_at_builtin; refine wpListIn_append_own _ rfl _ _ 24 rfl (w.heap.size + 5) 31 i0 _ 4 40 Tryd.underlying24 hi hz0 hz1 hz2 rfl (by decide) _ _ _ rfl (h5.alloc _) ⟨W.heap.size, 0, none⟩ 1 1 (tokC t) rfl rfl (cells_new W t) (tokC_one t) (by simp [maxLen]; omega) (by omega) (by simp; omega) ?_; intro v' w1 hown' hgrow _; obtain ⟨g', cap', rfl⟩ := ownsRow_succ hown'; obtain ⟨hv1, hv2, hr2, hk2, hb2, hall⟩ := appended2 (n₀ := w.heap.size) h4 h5 h6.size (by omega) (by omega) hown' hgrow; have hc1 := hv1.cell; have hf1 := hv1.frozen)
    have hoth : ∀ k, k < w.heap.size + 3 → some k ≠ v.ownBlock := by
      intro k hk e
      rcases h5.2 with ⟨rfl, _⟩ | ⟨g, cap, cur, rfl, hb, _, _⟩
      · simp [Value.ownBlock] at e
      · have : k = g := by simpa [Value.ownBlock] using e
        omega
    refine ⟨(hall _ (by omega) (by omega) (hoth _ (by omega))).trans h1, (hall _ (by omega) (by omega) (hoth _ (by omega))).trans h2, (hall _ (by omega) (by omega) (hoth _ (by omega))).trans h3, ⟨_, hv2, ?_⟩, h6.trans hb2⟩
    rw [rowC_snoc, List.length_append]
    exact hr2
  case stops =>
    rintro l pre b t W tb ⟨h1, h2, h3, ⟨v, h4, h5⟩, h6⟩ hber hbl hbc htb
    have b0 : W.cell? ⟨tb, 0, none⟩ = some (.int .u8 (t.kind : Int)) := by simp [World.cell?, htb, tokC]
    have b1 : W.cell? ⟨tb, 1, none⟩ = some (.string (bs t.text)) := by simp [World.cell?, htb, tokC]
    have b2 : W.cell? ⟨tb, 2, none⟩ = some (.int .i64 (t.line : Int)) := by simp [World.cell?, htb, tokC]
    have b3 : W.cell? ⟨tb, 3, none⟩ = some (.int .i64 (t.col : Int)) := by simp [World.cell?, htb, tokC]
    have hWs := h4.lt
    have c0 := h1.cell
    have f0 := h1.frozen
    have c1 : W.cell? ⟨w.heap.size + 1, 0, none⟩ = some (.int .i64 0) := by simp [World.cell?, h2]
    have c1' : W.cell? ⟨w.heap.size + 1, 1, none⟩ = some (.int .i64 0) := by simp [World.cell?, h2]
    have f1 : ∀ i, W.frozen? ⟨w.heap.size + 1, i, none⟩ = false := fun i => frozen_of_row _ _ _ _ _ h2
    have c2 := h3.cell
    have f2 := h3.frozen
    have her : ((b.err : Int) != 0) = true := by simpa using hber
    gi_wp2_with fail
    gi_region
    all_goals gi_wp2_with fail
    all_goals exact stops_fin h1 h2 h3 h6
  case done =>
    rintro D W hD hS ⟨h1, h2, h3, ⟨v, h4, h5⟩, h6⟩ hK
    have hWs := h4.lt
    have c0 := h1.cell
    have f0 := h1.frozen
    have c1 : W.cell? ⟨w.heap.size + 1, 0, none⟩ = some (.int .i64 0) := by simp [World.cell?, h2]
    have c1' : W.cell? ⟨w.heap.size + 1, 1, none⟩ = some (.int .i64 0) := by simp [World.cell?, h2]
    have f1 : ∀ i, W.frozen? ⟨w.heap.size + 1, i, none⟩ = false := fun i => frozen_of_row _ _ _ _ _ h2
    have c2 := h3.cell
    have f2 := h3.frozen
    have c3 := h4.cell
    obtain ⟨vb, vn, vc, rfl⟩ : ∃ b n c, v = .slice b n c := by
      rcases h5.2 with ⟨rfl, _⟩ | ⟨g, cap, cur, rfl, _⟩
      · exact ⟨_, _, _, rfl⟩
      · exact ⟨_, _, _, rfl⟩
    gi_wp2_with fail
    obtain ⟨W4, hW4⟩ : ∃ W4, (((W.setCell ⟨w.heap.size, 0, none⟩ (.slice vb vn vc)).setCell ⟨w.heap.size + 1, 0, none⟩ (.int .i64 0)).setCell ⟨w.heap.size + 1, 1, none⟩ (.int .i64 0)).setCell ⟨w.heap.size + 1 + 1, 0, none⟩ (.int .i64 0) = W4 := ⟨_, rfl⟩
    obtain ⟨qK, q0, q1, q2, qR, qU⟩ := done_fin h1 h2 h3 h5 h6 D (by omega) hK W4 hW4
    rw [hW4]
    have d0 := q0.cell
    have d1 : (W4.putObj D (.deferred none)).cell? ⟨w.heap.size + 1, 0, none⟩ = some (.int .i64 0) := by simp [World.cell?, q1]
    have d1' : (W4.putObj D (.deferred none)).cell? ⟨w.heap.size + 1, 1, none⟩ = some (.int .i64 0) := by simp [World.cell?, q1]
    have d2 := q2.cell
    have hE : lexE src = ⟨0, 0, 0⟩ := by unfold lexE; rw [if_pos hsrc, hS]
    have hT : lexT src = (lexS src).1 := by unfold lexT; rw [if_pos hsrc, hS]
    refine ⟨by simp, .inl ⟨_, _, rfl, run_takeDeferred qK, ?_⟩⟩
    refine ⟨.tuple #[.slice vb vn vc, .agg #[.int .i64 0, .int .i64 0], .int .i64 0], by simp [results, Tryd.f7, go_sem, d0, d1, d1', d2], .slice vb vn vc, by rw [hE]; rfl, by rw [hT]; exact qR, qU⟩
  case stop =>
    rintro D b W hD hS hX hK
    have hX2 := hX.kept (grownBy_putObj' W D (.deferred none)) (fun r e => by cases e; omega)
    obtain ⟨q0, q1, q2, qU⟩ := hX2
    have d0 := q0.cell
    have d1 : (W.putObj D (.deferred none)).cell? ⟨w.heap.size + 1, 0, none⟩ = some (.int .i64 (b.line : Int)) := by simp [World.cell?, q1]
    have d1' : (W.putObj D (.deferred none)).cell? ⟨w.heap.size + 1, 1, none⟩ = some (.int .i64 (b.col : Int)) := by simp [World.cell?, q1]
    have d2 := q2.cell
    have hE : lexE src = b := by unfold lexE; rw [if_pos hsrc, hS]
    have hT : lexT src = [] := by unfold lexT; rw [if_pos hsrc, hS]
    gi_wp2_with fail
    refine ⟨by simp, .inl ⟨_, _, rfl, run_takeDeferred hK, ?_⟩⟩
    refine ⟨.tuple #[.slice none 0 0, .agg #[.int .i64 (b.line : Int), .int .i64 (b.col : Int)], .int .i64 (b.err : Int)], by simp [results, Tryd.f7, go_sem, d0, d1, d1', d2], .slice none 0 0, by rw [hE], by rw [hT]; exact World.ownsRow_nil _ _ _ _, qU⟩

end Go.Proofs.YtgkknjlegfdcnaaDoor.Lx
