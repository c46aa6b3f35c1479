/- lex.Lex. -/
import Derived.Test.YtgkknjlegfdcnaaDoorLexH
namespace Go.Proofs.YtgkknjlegfdcnaaDoor.Lx
open Go.RowKit Go.Shelf Go.Proofs.YtgkknjlegfdcnaaDoor.Cal

attribute [local go_sem] Oper.semAt_some

theorem info_tok : (Tryd.prog.info? 31).map (fun i => (i.zero, i.size, i.bytes)) = some (some (.agg #[.int .u8 0, .string ⟨#[]⟩, .int .i64 0, .int .i64 0]), 4, 40) := by kernel_rfl

def tokC (t : Tok) : List Value := [.int .u8 (t.kind : Int), .string (bs t.text), .int .i64 (t.line : Int), .int .i64 (t.col : Int)]
def rowC (l : List Tok) : List Value := l.flatMap tokC

/-- Every block lies as it lay but those that hold slices or tokens. -/
def Kept (W W' : World) : Prop := ∀ (k : Nat) (o : Obj), W.heap[k]? = some o → (∀ cs t, o = .cells cs t (0, 0) → t ≠ 24 ∧ t ≠ 31) → W'.heap[k]? = some o
def KeptN (W W' : World) : Prop := ∀ (k : Nat) (o : Obj), W.heap[k]? = some o → o.isCells = false → W'.heap[k]? = some o

theorem rangeFunc_lex {Q : Exit → Act → World → Prop} {a : Act} {W0 : World} {g : Operand} {ps : Array Tmp} {assign body : Code} {n c : Nat} (src : List UInt8) (hsrc : src.length ≤ 65536) (hn : 3 ≤ n)
    (hg : a.eval g = .func (.func 14) #[.pointer (some ⟨c, 0, none⟩)] #[]) (hps : ps.size = 2) (hsc : ScanAt W0 c 1 1 src)
    (I : List Tok → World → Prop) (Ix : Bad → World → Prop)
    (hI : ∀ pre W W' row, I pre W → W.grownBy W' row → (∀ r, row = some r → r = c ∨ W0.heap.size ≤ r ∧ ∃ o, W.heap[r]? = some o ∧ (∀ cs t, o = .cells cs t (0, 0) → t = 26)) → I pre W')
    (hIx : ∀ b W W' row, Ix b W → W.grownBy W' row → (∀ r, row = some r → W0.heap.size ≤ r ∧ ∃ o, W.heap[r]? = some o ∧ o.isCells = false) → Ix b W')
    (a₁ : Nat → Tok → Int → Act) (h0 : I [] W0)
    (hassign : ∀ (l : Nat) (t : Tok) (er : Int) (W : World) (K : Act → World → Prop), K (a₁ W.heap.size t er) (W.alloc (.cells (tokC t).toArray 31)) →
      assign.wpIn (Fence.wide.inRound l) (n - 1 - 1) Tryd.prog (Exit.then K (fun _ _ _ => False)) { tmps := (ps.zip #[tokV t, .int .i64 er]).foldl (fun t (p, v) => t.setIfInBounds p v) a.tmps, defers := [] } W)
    (hgoes : ∀ (l : Nat) (pre : List Tok) (t : Tok) (W : World) (tb : Nat), I pre W → pre.length < 200000 → W.heap[tb]? = some (.cells (tokC t).toArray 31 (0, 0)) →
      body.wpIn (Fence.wide.inRound l) (n - 1 - 1) Tryd.prog (fun e _ W' => e = .normal ∧ Kept W W' ∧ I (pre ++ [t]) W') (a₁ tb t 0) W)
    (hstops : ∀ (l : Nat) (pre : List Tok) (b : Bad) (t : Tok) (W : World) (tb : Nat), I pre W → b.err ≠ 0 → t.line = b.line → t.col = b.col → W.heap[tb]? = some (.cells (tokC t).toArray 31 (0, 0)) →
      body.wpIn (Fence.wide.inRound l) (n - 1 - 1) Tryd.prog (fun e _ W' => e = .ret ∧ KeptN W W' ∧ Ix b W') (a₁ tb t (b.err : Int)) W)
    (hdone : ∀ (D : Nat) (W : World), W0.heap.size ≤ D → (lexS src).2 = none → I (lexS src).1 W → W.heap[D]? = some (.deferred (some [])) → Q .normal { a with defers := { target := .collected D, args := #[] } :: a.defers } W)
    (hstop : ∀ (D : Nat) (b : Bad) (W : World), W0.heap.size ≤ D → (lexS src).2 = some b → Ix b W → W.heap[D]? = some (.deferred (some [])) → Code.ret.wpIn Fence.wide n Tryd.prog Q { a with defers := { target := .collected D, args := #[] } :: a.defers } W) :
    (Code.rangeFunc g ps assign body).wpIn Fence.wide n Tryd.prog Q a W0 := by
  have hcl : c < W0.heap.size := (Array.getElem?_eq_some_iff.1 hsc).1
  refine wpIn_rangeFunc ?_
  intro fn hfn
  rw [show Fence.wide.round = none from rfl]
  obtain ⟨rec, hrec⟩ : ∃ rec : LoopState → Option Code → Loop, rec = fun st pe => { state := st, pending := pe, fn, tmps := a.tmps, params := ps, assign, body, defers := W0.heap.size } := ⟨_, rfl⟩
  obtain ⟨W1, hW1⟩ : ∃ W1, (W0.alloc (.deferred (some []))).alloc (.loop (rec .ready none)) = W1 := ⟨_, rfl⟩
  have hL1 : W1.heap[W0.heap.size + 1]? = some (.loop (rec .ready none)) := by
    rw [← hW1]; have := World.alloc_heap_new (W0.alloc (.deferred (some []))) (.loop (rec .ready none)); rwa [World.size_alloc] at this
  have hK1 : W1.heap[W0.heap.size]? = some (.deferred (some [])) := by
    rw [← hW1]; exact (Below.heap_alloc _ _ _ (by simp)).trans (World.alloc_heap_new W0 _)
  have hU1 : Up W0 W1 := by rw [← hW1]; exact ((Up.refl W0).alloc _).alloc _
  have hI1 : I [] W1 := hI _ _ _ none h0 (up_grown hU1) (fun r hr => by cases hr)
  have hs1 : ScanAt W1 c 1 1 src := hsc.up hU1
  have hsz1 : W1.heap.size = W0.heap.size + 2 := by rw [← hW1]; simp
  refine ⟨W0.heap.size + 1, [{ target := .collected W0.heap.size, args := #[] }], W1, { target := .fn (.func 14) #[], args := #[.pointer (some ⟨c, 0, none⟩), .func (.yield (W0.heap.size + 1)) #[] #[]] }, W1, 14,
    #[.pointer (some ⟨c, 0, none⟩), .func (.yield (W0.heap.size + 1)) #[] #[]], W1, ?_, ?_, ?_, ?_, fun _ => by omega, ?_⟩
  · rw [← hW1, hrec]; exact run_enterLoop_outer _ _ _ _ _
  · simp only [resolve, hg]
    simp [go_sem]
  · intro f' _; trivial
  · simp [invoke, go_sem]
  · refine (tokens_in c (W0.heap.size + 1) (W0.heap.size + 2) (n - 1) (by omega)
      (fun pre W => I pre W ∧ W.heap[W0.heap.size + 1]? = some (.loop (rec .ready none)) ∧ W.heap[W0.heap.size]? = some (.deferred (some [])))
      (fun b W => Ix b W ∧ W.heap[W0.heap.size + 1]? = some (.loop (rec .done (some .ret))) ∧ W.heap[W0.heap.size]? = some (.deferred (some [])))
      (Lib.hid ⟨?_, ?_, ?_⟩) src hsrc W1 hs1 (by omega) ⟨hI1, hL1, hK1⟩).mono ?_
    · rintro pre W W' row ⟨hi, hl, hk⟩ hgr hr
      refine ⟨hI _ _ _ row hi hgr (fun r e => ?_), ?_, ?_⟩
      · rcases hr r e with rfl | ⟨hb, cs, hcs⟩
        · exact Or.inl rfl
        · exact Or.inr ⟨by omega, _, hcs, fun cs' t' e' => by cases e'; rfl⟩
      · refine (hgr.block _ (Array.getElem?_eq_some_iff.1 hl).1 (fun e => ?_)).trans hl
        rcases hr _ e.symm with h | ⟨hb, cs, hcs⟩ <;> omega
      · refine (hgr.block _ (Array.getElem?_eq_some_iff.1 hk).1 (fun e => ?_)).trans hk
        rcases hr _ e.symm with h | ⟨hb, cs, hcs⟩ <;> omega
    · rintro pre t W eb cs1 cs2 ⟨hi, hl, hk⟩ hpl hc1 hb heb
      have hlt : W0.heap.size + 1 < W.heap.size := (Array.getElem?_eq_some_iff.1 hl).1
      have hy := run_yield (P := Tryd.prog) (args := #[tokV t, .int .i64 0]) hl (by rw [hrec]; exact hps.symm)
      rw [hrec] at hy
      refine ⟨fn, _, assign, body, hy, roundIn_of_wpIn hfn (hassign _ t 0 W _ ?_)⟩
      obtain ⟨Wa, hWa⟩ : ∃ Wa, W.alloc (.cells (tokC t).toArray 31) = Wa := ⟨_, rfl⟩
      have hUa : Up W Wa := by rw [← hWa]; exact (Up.refl W).alloc _
      have hta : Wa.heap[W.heap.size]? = some (.cells (tokC t).toArray 31 (0, 0)) := by rw [← hWa]; exact World.alloc_heap_new W _
      rw [hWa]
      have hia := hI _ _ _ none hi (up_grown hUa) (fun r hr => by cases hr)
      have hla := (hUa.block _ hlt).trans hl
      have hka := (hUa.block _ (by omega)).trans hk
      refine ⟨_, run_beginRound hla (by rw [hrec]), ?_⟩
      obtain ⟨Wb, hWb⟩ : ∃ Wb, Wa.putObj (W0.heap.size + 1) (.loop { rec .ready none with state := .busy }) = Wb := ⟨_, rfl⟩
      have hgb : Wa.grownBy Wb (some (W0.heap.size + 1)) := by rw [← hWb]; exact grownBy_putObj' _ _ _
      have hlb : Wb.heap[W0.heap.size + 1]? = some (.loop { rec .ready none with state := .busy }) := by rw [← hWb]; exact World.putObj_heap_same (Array.getElem?_eq_some_iff.1 hla).1
      have hkb : Wb.heap[W0.heap.size]? = some (.deferred (some [])) := (hgb.block _ (Array.getElem?_eq_some_iff.1 hka).1 (by simp)).trans hka
      have htb : Wb.heap[W.heap.size]? = some (.cells (tokC t).toArray 31 (0, 0)) := (hgb.block _ (Array.getElem?_eq_some_iff.1 hta).1 (by simp; omega)).trans hta
      have hib := hI _ _ _ _ hia hgb (fun r hr => by cases hr; exact Or.inr ⟨by omega, _, hla, fun cs t e => by cases e⟩)
      rw [hWb]
      refine wpIn_mono (hgoes _ pre t Wb _ hib hpl htb) ?_
      rintro e a3 W3 ⟨rfl, hkp, hi3⟩
      have hl3 := hkp _ _ hlb (fun cs t e => by cases e)
      have hk3 := hkp _ _ hkb (fun cs t e => by cases e)
      have hc3 : W3.heap[c]? = _ := hkp _ _ ((hgb.block _ (by have := hUa.size; omega) (by simp; omega)).trans ((hUa.block _ (by omega)).trans hc1)) (fun cs t e => by cases e; decide)
      have he3 : W3.heap[eb]? = _ := hkp _ _ ((hgb.block _ (by have := hUa.size; have := (Array.getElem?_eq_some_iff.1 heb).1; omega) (by simp; omega)).trans ((hUa.block _ (Array.getElem?_eq_some_iff.1 heb).1).trans heb)) (fun cs t e => by cases e; decide)
      have hr := run_endRound (P := Tryd.prog) none hl3
      have hg4 := grownBy_putObj' W3 (W0.heap.size + 1) (.loop { rec .ready none with state := .ready, pending := none })
      refine ⟨_, _, hr, rfl, ⟨hI _ _ _ _ hi3 hg4 (fun r hr => by cases hr; exact Or.inr ⟨by omega, _, hl3, fun cs t e => by cases e⟩), ?_, ?_⟩, ?_, ?_⟩
      · rw [hrec]; exact World.putObj_heap_same (Array.getElem?_eq_some_iff.1 hl3).1
      · exact (World.putObj_heap_other (by omega)).trans hk3
      · exact ((World.putObj_heap_other (by omega)).trans hc3).trans hc1.symm
      · exact ((World.putObj_heap_other (by omega)).trans he3).trans heb.symm
    · rintro pre b t W ⟨hi, hl, hk⟩ hber h1 h2
      have hlt : W0.heap.size + 1 < W.heap.size := (Array.getElem?_eq_some_iff.1 hl).1
      have hy := run_yield (P := Tryd.prog) (args := #[tokV t, .int .i64 (b.err : Int)]) hl (by rw [hrec]; exact hps.symm)
      rw [hrec] at hy
      refine ⟨fn, _, assign, body, hy, roundIn_of_wpIn hfn (hassign _ t (b.err : Int) W _ ?_)⟩
      obtain ⟨Wa, hWa⟩ : ∃ Wa, W.alloc (.cells (tokC t).toArray 31) = Wa := ⟨_, rfl⟩
      have hUa : Up W Wa := by rw [← hWa]; exact (Up.refl W).alloc _
      have hta : Wa.heap[W.heap.size]? = some (.cells (tokC t).toArray 31 (0, 0)) := by rw [← hWa]; exact World.alloc_heap_new W _
      rw [hWa]
      have hia := hI _ _ _ none hi (up_grown hUa) (fun r hr => by cases hr)
      have hla := (hUa.block _ hlt).trans hl
      have hka := (hUa.block _ (by omega)).trans hk
      refine ⟨_, run_beginRound hla (by rw [hrec]), ?_⟩
      obtain ⟨Wb, hWb⟩ : ∃ Wb, Wa.putObj (W0.heap.size + 1) (.loop { rec .ready none with state := .busy }) = Wb := ⟨_, rfl⟩
      have hgb : Wa.grownBy Wb (some (W0.heap.size + 1)) := by rw [← hWb]; exact grownBy_putObj' _ _ _
      have hlb : Wb.heap[W0.heap.size + 1]? = some (.loop { rec .ready none with state := .busy }) := by rw [← hWb]; exact World.putObj_heap_same (Array.getElem?_eq_some_iff.1 hla).1
      have hkb : Wb.heap[W0.heap.size]? = some (.deferred (some [])) := (hgb.block _ (Array.getElem?_eq_some_iff.1 hka).1 (by simp)).trans hka
      have htb : Wb.heap[W.heap.size]? = some (.cells (tokC t).toArray 31 (0, 0)) := (hgb.block _ (Array.getElem?_eq_some_iff.1 hta).1 (by simp; omega)).trans hta
      have hib := hI _ _ _ _ hia hgb (fun r hr => by cases hr; exact Or.inr ⟨by omega, _, hla, fun cs t e => by cases e⟩)
      rw [hWb]
      refine wpIn_mono (hstops _ pre b t Wb _ hib hber h1 h2 htb) ?_
      rintro e a3 W3 ⟨rfl, hkp, hi3⟩
      have hl3 := hkp _ _ hlb rfl
      have hk3 := hkp _ _ hkb rfl
      have hr := run_endRound (P := Tryd.prog) (some .ret) hl3
      have hg4 := grownBy_putObj' W3 (W0.heap.size + 1) (.loop { rec .ready none with state := .done, pending := some .ret })
      refine ⟨_, _, hr, rfl, hIx _ _ _ _ hi3 hg4 (fun r hr => by cases hr; exact ⟨by omega, _, hl3, rfl⟩), ?_, ?_⟩
      · rw [hrec]; exact World.putObj_heap_same (Array.getElem?_eq_some_iff.1 hl3).1
      · exact (World.putObj_heap_other (by omega)).trans hk3
    · rintro e W2 ⟨⟨v, rfl⟩, (⟨hS, hi, hl, hk⟩ | ⟨b, hS, hi, hl, hk⟩)⟩
      · refine ⟨none, _, by have := run_endLoop (P := Tryd.prog) hl (by rw [hrec]; simp); rw [hrec] at this; exact this, hdone _ _ (Nat.le_refl _) hS ?_ ((World.putObj_heap_other (by omega)).trans hk)⟩
        exact hI _ _ _ _ hi (grownBy_putObj' _ _ _) (fun r hr => by cases hr; exact Or.inr ⟨by omega, _, hl, fun cs t e => by cases e⟩)
      · refine ⟨some .ret, _, by have := run_endLoop (P := Tryd.prog) hl (by rw [hrec]; simp); rw [hrec] at this; exact this, hstop _ b _ (Nat.le_refl _) hS ?_ ((World.putObj_heap_other (by omega)).trans hk)⟩
        exact hIx _ _ _ _ hi (grownBy_putObj' _ _ _) (fun r hr => by cases hr; exact ⟨by omega, _, hl, rfl⟩)

end Go.Proofs.YtgkknjlegfdcnaaDoor.Lx
