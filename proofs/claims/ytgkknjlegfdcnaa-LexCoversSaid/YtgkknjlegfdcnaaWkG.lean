/- The walk of LexCovers. -/
import Derived.Test.YtgkknjlegfdcnaaWkF
import Derived.Test.YtgkknjlegfdcnaaLexW
import Derived.Deep.RegionHeld3
import Derived.BigQuiet
namespace Go.Proofs.Ytgkknjlegfdcnaa.Lx
open Go.RowKit Go.Shelf Go.Proofs.Ytgkknjlegfdcnaa.Cal

def CovR (l : List UInt8) (x : List Tok) (w : World) (en i : Value) (wr : World) : Prop :=
  ∃ (pre rest : List Tok) (e : Nat) (inl : Bool), x = pre ++ rest ∧ i = .int .i64 (pre.length : Int) ∧ en = .int .i64 (e : Int) ∧ e ≤ l.length ∧ Cov l e inl rest ∧ (inl = true → ∃ p t, pre = p ++ [t] ∧ t.kind ≠ 5) ∧ Up w wr

def OffP (B : ByteArray) (a b : Int) (k : Nat) : Prop := ∀ w : World, Calls Try.prog 14 #[.string B, .agg #[.int .i64 a, .int .i64 b]] w fun e w' => e = .returned (.int .i64 (k : Int)) ∧ Up w w'
def EmpP (B : ByteArray) : Prop := ∀ w : World, Calls Try.prog 15 #[.string B] w fun e w' => e = .returned (.bool true) ∧ w' = w

theorem empP_of {l : List UInt8} (hl : l.length ≤ 3000) (h : emptyS false l = true) : EmpP (bs l) := fun w => (empty_any l w hl h).mono fun _ _ ⟨h1, h2⟩ => ⟨h1, h2.symm⟩

set_option maxRecDepth 100000 in
set_option maxHeartbeats 8000000 in
theorem covers_some (l : List UInt8) (w : World) (hl : l.length ≤ 1000) (x : List Tok) (n : Nat) (hx : x.length = n) (hn : n ≤ 100000) (hcov : Cov l 0 false x)
    (HA : Hid AwakeG) (H1 : Hid (∀ w : World, Calls Try.prog 11 #[.string (bs l)] w fun r w' => ∃ g cp, r = .returned (.tuple #[.slice (some ⟨g, 0, none⟩) n cp, .agg #[.int .i64 0, .int .i64 0], .int .i64 0]) ∧ TokRow w' g x ∧ Up w w')) :
    Calls Try.prog 4 #[.string (bs l)] w fun e w' => e = .returned (.bool true) ∧ Up w w' := by
  have hsz := bs_size l
  have hs2 : ((bs l).size : Int) ≤ 1000 := by omega
  have HSZ := Lib.hid hsz
  have HO : Hid (∀ (a b : Int) (k : Nat), k ≤ l.length → a = lineN l k → b = colZ l k → OffP (bs l) a b k) := Lib.hid fun a b k hk h1 h2 w => by
    subst h1 h2
    exact offset_found l _ _ k w (by omega) hk rfl rfl (fun i hi => place_ne l i k hi hk)
  have HE1 : Hid (∀ e : Nat, emptyS false (l.drop e) = true → EmpP ((bs l).extract e (bs l).size)) := Lib.hid fun e he => by
    rw [bs_drop l e]
    exact empP_of (by rw [List.length_drop]; omega) he
  have HE2 : Hid (∀ e o : Nat, e ≤ o → emptyS false ((l.drop e).take (o - e)) = true → EmpP ((bs l).extract e o)) := Lib.hid fun e o heo he => by
    have : (bs l).extract e o = bs ((l.drop e).take (o - e)) := by
      apply ByteArray.ext
      rw [ByteArray.data_extract]
      simp [bs, List.extract_eq_take_drop]
    rw [this]
    exact empP_of (by rw [List.length_take, List.length_drop]; omega) he
  have HT : Hid (∀ (o : Nat) (t : List UInt8), (l.drop o).take t.length = t → (bs l).extract o (o + t.length) = bs t) := Lib.hid fun o t h => by
    rw [← h]
    apply ByteArray.ext
    rw [ByteArray.data_extract]
    simp [bs, List.extract_eq_take_drop, h]
  have HC := Lib.hid hcov
  have HX := Lib.hid hx
  clear hsz hcov hx
  generalize bs l = B at *
  go_enter Try.func4, Try.ntmps4
  go_wp2_with fail
  refine (HA.out _).mono ?_
  rintro e w1 ⟨rfl, u1⟩
  go_wp2_with fail
  refine (H1.out _).mono ?_
  rintro e w2 ⟨g, cp, rfl, row, uL⟩
  have ROW := Lib.hid row
  clear row
  go_wp2_with fail
  go_loopw [6, 7] (CovR l x w2) (fun _ i _ => n - (intOf i).toNat)
  case atStart => exact ⟨[], x, 0, false, rfl, rfl, rfl, Nat.zero_le _, HC.out, (fun h => by cases h), (Up.refl w2).alloc _⟩
  case round =>
    obtain ⟨pre, rest, e, inl, hxe, rfl, rfl, hel, hcv, hin, hup⟩ := hrel
    have hlen : pre.length + rest.length = n := by rw [← HX.out, hxe, List.length_append]
    cases rest with
    | nil => as_aux_lemma =>
      have hj : pre.length = n := by simpa using hlen
      obtain ⟨-, hemp⟩ := hcv
      have HEe := Lib.hid (HE1.out e hemp)
      have hei : (e : Int) ≤ (B.size : Int) := by rw [HSZ.out]; omega
      clear hemp hin hxe hlen
      rw [hj]
      go_wp2_with fail
      refine (HEe.out _).mono ?_
      rintro r w3 ⟨rfl, rfl⟩
      go_wp2_with fail
      go_ret
      exact ⟨rfl, (u1.trans uL).trans hup⟩
    | cons t ts =>
      have ht : x[pre.length]? = some t := by rw [hxe]; simp
      have r0 := ROW.out _ t ht
      rcases hcv with ⟨h5, hinl, -, htx, hli, hco, hnx, hcv2⟩ | ⟨h5, o, heo, hli, hco, htl, hol, htk, hemp, ⟨u, hu1, hu2⟩, hcv2⟩
      · obtain ⟨p, q, hpq, hq5⟩ := hin hinl
        have hq : x[p.length]? = some q := by rw [hxe, hpq]; simp
        have rq := (ROW.out _ q hq).1
        have hkl : p.length + 1 = pre.length := by rw [hpq]; simp
        rw [h5] at r0
        rw [htx] at r0
        obtain ⟨r1, r2, r3, r4⟩ := r0
        have r1' : w2.cell? ⟨g, pre.length * 4, none⟩ = some (.int .u8 5) := r1
        have r2' : w2.cell? ⟨g, pre.length * 4 + 1, none⟩ = some (.string ⟨#[]⟩) := r2
        have hOe := Lib.hid (HO.out (t.line : Int) (t.col : Int) e hel hli hco)
        have hqk : (((q.kind : Nat) : Int) == 5) = false := by
          cases hz : (((q.kind : Nat) : Int) == 5)
          · rfl
          · exact absurd (by have := eq_of_beq hz; omega) hq5
        have hnn : ∀ (v : Tok), ts[0]? = some v → w2.cell? ⟨g, (pre.length + 1) * 4 + 2, none⟩ = some (.int .i64 (v.line : Int)) := fun v hv => by
          refine (ROW.out _ v ?_).2.2.1
          rw [hxe, List.getElem?_append_right (by omega), Nat.add_sub_cancel_left, List.getElem?_cons_succ]; exact hv
        have hjn : pre.length < n := by rw [← hlen, List.length_cons]; omega
        have htsn : pre.length + 1 + ts.length = n := by rw [← hlen, List.length_cons]; omega
        have hcvF : ∀ W, Up w2 W → CovR l x w2 (.int .i64 (e : Int)) (.int .i64 ((pre.length + 1 : Nat) : Int)) W := fun W hW => ⟨pre ++ [t], ts, e, false, by rw [hxe]; simp, by simp, rfl, hel, hcv2, (fun h => by cases h), hW⟩
        have HF := Lib.hid hcvF
        have HNN := Lib.hid hnn
        have HNX := Lib.hid hnx
        clear hnx
        clear hin hxe hlen ht hcv2 hinl h5 htx hpq hq r1 r2 hcvF hnn hq5 hli hco
        generalize p.length = k at *
        generalize pre.length = j at *
        generalize hj2 : j + 1 = j2 at HF HNN htsn
        have f1 : (j : Int) - 1 = (k : Int) := by omega
        have f2 : (j : Int) + 1 = (j2 : Int) := by omega
        have f3 : (j : Int) < (n : Int) := by omega
        have f4 : (k : Int) < (n : Int) := by omega
        have f5 : ((j : Int) == 0) = false := by
          cases hz : ((j : Int) == 0)
          · rfl
          · have := eq_of_beq hz; omega
        have HJ2 := Lib.hid hj2
        clear hkl hj2
        generalize (q.kind : Int) = qk at *
        have p2 := hup.cell r3
        have p3 : wr.cell? ⟨g, j * 4 + 2 + 1, none⟩ = some (.int .i64 (t.col : Int)) := hup.cell r4
        go_wp2_with fail
        refine (hOe.out _).mono ?_
        rintro r w3 ⟨rfl, u3⟩
        clear p2 p3
        have a0 := u3.cell (hup.cell r1')
        have a1 := u3.cell (hup.cell r2')
        have a2 := u3.cell (hup.cell r3)
        have b0 := u3.cell (hup.cell rq)
        cases hts : ts with
        | nil => as_aux_lemma =>
          rw [hts] at htsn
          have f6 : ¬ ((j2 : Int) < (n : Int)) := by simp at htsn; omega
          have f7 : decide (j2 < n) = false := decide_eq_false (by omega)
          clear HNX HNN
          go_wp2_with fail
          go_quiet (fail)
          go_wp2_with fail
          have hj2 := HJ2.out
          exact ⟨HF.out _ (hup.trans (u3.drewN _)), by simp [intOf]; omega⟩
        | cons v tt => as_aux_lemma =>
          rw [hts] at htsn
          have f6 : (j2 : Int) < (n : Int) := by simp at htsn; omega
          have f7 : decide (j2 < n) = true := decide_eq_true (by omega)
          have n0 := u3.cell (hup.cell (HNN.out v (by rw [hts]; rfl)))
          have n1 := HNX.out v (by rw [hts]; rfl)
          have n2 : decide ((v.line : Int) ≤ (t.line : Int)) = false := decide_eq_false (by omega)
          clear HNX HNN
          generalize (v.line : Int) = L2 at *
          generalize (t.line : Int) = L1 at *
          go_wp2_with fail
          go_quiet (fail)
          go_wp2_with fail
          have hj2 := HJ2.out
          exact ⟨HF.out _ (hup.trans (u3.drewN _)), by simp [intOf]; omega⟩
      · have hnn : w2.cell? ⟨g, (pre.length + 1) * 4 + 2, none⟩ = some (.int .i64 (t.line : Int)) := by
          rw [← hu2]
          refine (ROW.out _ u ?_).2.2.1
          rw [hxe, List.getElem?_append_right (by omega), Nat.add_sub_cancel_left, List.getElem?_cons_succ]; exact hu1
        obtain ⟨r1, r2, r3, r4⟩ := r0
        have hOe := Lib.hid (HO.out (t.line : Int) (t.col : Int) o (by omega) hli hco)
        have hTe := HT.out o t.text htk
        have hEe := Lib.hid (HE2.out e o heo hemp)
        have hTs : (bs t.text).size = t.text.length := bs_size _
        have hqk : (((t.kind : Nat) : Int) == 5) = false := by
          cases hz : (((t.kind : Nat) : Int) == 5)
          · rfl
          · exact absurd (by have := eq_of_beq hz; omega) h5
        have hts1 : 0 < ts.length := by
          rcases ts with _ | ⟨a, b⟩
          · simp at hu1
          · simp
        have htsn : pre.length + 1 + ts.length = n := by rw [← hlen, List.length_cons]; omega
        have hT0 : (bs t.text).toList.isEmpty = false := by
          rw [bs_toList]
          cases hq : t.text with
          | nil => rw [hq] at htl; simp at htl
          | cons a b => rfl
        have hcvF : ∀ W, Up w2 W → CovR l x w2 (.int .i64 ((o + (bs t.text).size : Nat) : Int)) (.int .i64 ((pre.length + 1 : Nat) : Int)) W := fun W hW =>
          ⟨pre ++ [t], ts, o + t.text.length, true, by rw [hxe]; simp, by simp, by rw [hTs], hol, hcv2, (fun _ => ⟨pre, t, rfl, h5⟩), hW⟩
        rw [← hTs] at hol htl hTe
        have HF := Lib.hid hcvF
        have hBs := HSZ.out
        have f8 : (o : Int) + ((bs t.text).size : Int) ≤ (B.size : Int) := by omega
        have f9 : (e : Int) ≤ (o : Int) := by omega
        have f10 : (o : Int) ≤ (B.size : Int) := by omega
        have f11 : decide (o < e) = false := decide_eq_false (by omega)
        have f12 : decide (B.size < o + (bs t.text).size) = false := decide_eq_false (by omega)
        have f13 : decide ((o : Int) < (e : Int)) = false := decide_eq_false (by omega)
        have f14 : decide ((B.size : Int) < (o : Int) + ((bs t.text).size : Int)) = false := decide_eq_false (by omega)
        clear hin hxe hlen ht hcv2 h5 htk hli hco hu1 hu2 hemp hcvF hTs hBs
        generalize (t.kind : Int) = tk at *
        generalize (t.line : Int) = L1 at *
        generalize (t.col : Int) = C1 at *
        generalize bs t.text = T at *
        generalize pre.length = j at *
        generalize hj2 : j + 1 = j2 at HF hnn htsn
        generalize hzz : o + T.size = z at HF hTe f12 hol
        have f15 : (o : Int) + (T.size : Int) = (z : Int) := by omega
        have f16 : IntKind.i64.wrap (z : Int) = (z : Int) := wrap_in _ (by omega) (by omega)
        have f17 : (z : Int) ≤ (B.size : Int) := by omega
        have f18 : (o : Int) ≤ (z : Int) := by omega
        have f19 : decide ((B.size : Int) < (z : Int)) = false := decide_eq_false (by omega)
        clear f14 f8
        have f2 : (j : Int) + 1 = (j2 : Int) := by omega
        have f3 : (j : Int) < (n : Int) := by omega
        have f5 : ((j2 : Int) == (n : Int)) = false := by
          cases hz : ((j2 : Int) == (n : Int))
          · rfl
          · have := eq_of_beq hz; omega
        have f6 : (j2 : Int) < (n : Int) := by omega
        have f7 : (j2 == n) = false := by
          cases hz : (j2 == n)
          · rfl
          · have := eq_of_beq hz; omega
        have f20 : IntKind.i64.wrap (j2 : Int) = (j2 : Int) := wrap_in _ (by omega) (by omega)
        have HJ2 := Lib.hid hj2
        clear hj2 hzz hol htl
        have p2 := hup.cell r3
        have p3 : wr.cell? ⟨g, j * 4 + 2 + 1, none⟩ = some (.int .i64 C1) := hup.cell r4
        go_wp2_with fail
        refine (hOe.out _).mono ?_
        rintro r w3 ⟨rfl, u3⟩
        clear p2 p3
        have a0 := u3.cell (hup.cell r1)
        have a1 := u3.cell (hup.cell r2)
        have a2 := u3.cell (hup.cell r3)
        have b0 := u3.cell (hup.cell hnn)
        clear r1 r2 r3 r4 hnn
        as_aux_lemma =>
          go_wp2_with fail
          go_quiet ((go_at_call 15; exact Calls.quiet_of_same (hEe.out _)))
          go_wp2_with fail
          have hj2 := HJ2.out
          exact ⟨HF.out _ (hup.trans (u3.drewN _)), by simp [intOf]; omega⟩

end Go.Proofs.Ytgkknjlegfdcnaa.Lx
