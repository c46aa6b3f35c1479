/- lex.Reserved. -/
import Derived.Test.YtgkknjlegfdcnaaDoorLexN
import Derived.Maps.OwnOps
import Derived.Maps.Views
import Derived.StringKeys
import Derived.Carry
import Derived.Lib.SmallJoins
namespace Go.Proofs.YtgkknjlegfdcnaaDoor.Lx
open Go.RowKit Go.Shelf Go.Proofs.YtgkknjlegfdcnaaDoor.Cal
open Go.Maps (IsMap isMap_empty atKey_put_same atKey_put_other string_keyed Keyed)

/-- The reserved words, as the program holds them in one string. -/
def resBytes : List UInt8 := [112, 108, 97, 110, 32, 102, 97, 99, 116, 32, 100, 101, 102, 32, 116, 97, 98, 108, 101, 32, 114, 111, 119, 32, 99, 108, 97, 117, 115, 101, 32, 111, 110, 101, 32, 116, 119, 111, 32, 102, 114, 111, 109, 32, 116, 111, 32, 101, 110, 100, 32, 107, 110, 111, 119, 110, 32, 111, 102, 102, 32, 119, 104, 101, 110, 32, 116, 104, 101, 110, 32, 105, 115, 32, 116, 114, 117, 116, 104, 32, 110, 117, 109, 98, 101, 114, 32, 109, 111, 110, 101, 121, 32, 100, 97, 116, 101, 32, 100, 97, 121, 115, 32, 109, 111, 110, 116, 104, 115, 32, 116, 114, 117, 101, 32, 102, 97, 108, 115, 101, 32, 109, 105, 110, 117, 115, 32, 116, 111, 100, 97, 121, 32, 97, 116, 32, 104, 97, 115, 32, 108, 111, 111, 107, 32, 109, 105, 110, 32, 109, 97, 120, 32, 105, 102, 32, 114, 111, 117, 110, 100, 32, 98, 101, 116, 119, 101, 101, 110, 32, 115, 101, 114, 118, 105, 99, 101, 32, 98, 101, 115, 116, 32, 103, 114, 111, 119, 32, 115, 116, 97, 114, 116, 32, 97, 110, 100, 32, 111, 114, 32, 110, 111, 116, 32, 100, 111, 119, 110, 32, 117, 112, 32, 102, 108, 111, 111, 114, 32, 99, 101, 105, 108, 32, 104, 97, 108, 102, 32, 101, 118, 101, 110]
def resW : List (List UInt8) := [[112, 108, 97, 110],
  [102, 97, 99, 116],
  [100, 101, 102],
  [116, 97, 98, 108, 101],
  [114, 111, 119],
  [99, 108, 97, 117, 115, 101],
  [111, 110, 101],
  [116, 119, 111],
  [102, 114, 111, 109],
  [116, 111],
  [101, 110, 100],
  [107, 110, 111, 119, 110],
  [111, 102, 102],
  [119, 104, 101, 110],
  [116, 104, 101, 110],
  [105, 115],
  [116, 114, 117, 116, 104],
  [110, 117, 109, 98, 101, 114],
  [109, 111, 110, 101, 121],
  [100, 97, 116, 101],
  [100, 97, 121, 115],
  [109, 111, 110, 116, 104, 115],
  [116, 114, 117, 101],
  [102, 97, 108, 115, 101],
  [109, 105, 110, 117, 115],
  [116, 111, 100, 97, 121],
  [97, 116],
  [104, 97, 115],
  [108, 111, 111, 107],
  [109, 105, 110],
  [109, 97, 120],
  [105, 102],
  [114, 111, 117, 110, 100],
  [98, 101, 116, 119, 101, 101, 110],
  [115, 101, 114, 118, 105, 99, 101],
  [98, 101, 115, 116],
  [103, 114, 111, 119],
  [115, 116, 97, 114, 116],
  [97, 110, 100],
  [111, 114],
  [110, 111, 116],
  [100, 111, 119, 110],
  [117, 112],
  [102, 108, 111, 111, 114],
  [99, 101, 105, 108],
  [104, 97, 108, 102],
  [101, 118, 101, 110]]
def resB (l : List UInt8) : Bool := resW.contains l

theorem resW_fields : Lib.fields resBytes = resW := by kernel_rfl
theorem resBytes_len : resBytes.length = 233 := by kernel_rfl
theorem resW_len : resW.length = 47 := by kernel_rfl

theorem resW_short : ∀ t ∈ resW, t.length ≤ 20 := by decide +kernel

def TabP (w : World) : Prop := Lib.TabIs Tryd.prog w "strings.asciiSpace" .u8 Lib.asciiSpaceTab
theorem gTab : Tryd.prog.globalNamed "strings.asciiSpace" = some 0 := by kernel_rfl
theorem TabP.up {w w' : World} (h : TabP w) (u : Up w w') : TabP w' := Joins.tab_stays gTab h u (Nat.le_refl _)

theorem fields_any (w : World) (htab : TabP w) : Calls Tryd.prog 15 #[.string (bs resBytes)] w fun e w' =>
    e = .returned (.slice (some ⟨w.heap.size, 0, none⟩) 47 47) ∧ w' = w.alloc (.cells (resW.map fun l => Value.string (bs l)).toArray 9) := by
  have hd : (bs resBytes).data.toList = resBytes := by simp [bs]
  have h := Tryd.strings_Fields_laid (bs resBytes) w (by rw [bs_size, resBytes_len]; decide) (by
    rw [hd]
    have key : ∀ b ∈ resBytes, b.toNat < 128 := by decide +kernel
    intro j b hb
    exact key b (List.mem_of_getElem? hb)) htab
  rw [hd, resW_fields, resW_len] at h
  exact h

abbrev ownM (w : World) (b n : Nat) (D : DataW Unit) : Prop := w.ownsMap Tryd.prog 9 (plainElem Tryd.prog 3) b n D

/-- What the map holds behind j words. -/
def ResD (j : Nat) (D : DataW Unit) : Prop := IsMap D ∧ ∀ kb : List UInt8, ∃ c : Int, D.atKey (.string kb) (.lit (.int .i64 0)) = .lit (.int .i64 c) ∧ (0 < c ↔ kb ∈ resW.take j)

theorem resD_zero : ResD 0 (.map []) := ⟨isMap_empty, fun kb => ⟨0, rfl, by simp⟩⟩
theorem resD_step {j : Nat} {D : DataW Unit} {t : List UInt8} (h : ResD j D) (ht : resW[j]? = some t) : ResD (j + 1) (D.put (.string t) (.lit (.int .i64 ((j : Int) + 1)))) := by
  refine ⟨h.1.put _ _, fun kb => ?_⟩
  obtain ⟨hj, hjt⟩ := List.getElem?_eq_some_iff.1 ht
  have htk : resW.take (j + 1) = resW.take j ++ [t] := by rw [List.take_add_one, ht]; rfl
  by_cases he : kb = t
  · subst he
    exact ⟨(j : Int) + 1, atKey_put_same h.1 (show WideAt.IsKeyLit (.string kb) from trivial) _ _, by rw [htk]; simp⟩
  · obtain ⟨c, hc, hcc⟩ := h.2 kb
    refine ⟨c, ?_, by rw [hcc, htk]; simp [he]⟩
    rw [atKey_put_other (fun e => he (by cases e; rfl)), hc]

def WordAt (w : World) (g : Nat) : Prop := ∀ i t, resW[i]? = some t → w.cell? ⟨g, i, none⟩ = some (.string (bs t))
def ResR (w : World) (bm g : Nat) (i : Value) (wr : World) : Prop := ∃ (j : Nat) (D : DataW Unit), j ≤ 47 ∧ i = .int .i64 (j : Int) ∧ ownM wr bm j D ∧ ResD j D ∧ WordAt wr g ∧ Up w wr

theorem key_of (s : ByteArray) (hs : s.size ≤ maxLen) : keyOf Tryd.prog 9 (.string s) = some (.string s.data.toList) := WideMaps.keyOf_string_mk Tryd.underlying9 hs
theorem keyd : Keyed Tryd.prog 9 := string_keyed Tryd.underlying9
theorem zero_run (w : World) : (zeroValue 3).run Tryd.prog w = .ok (.int .i64 0) w := by kernel_rfl
theorem elem_int (x : Int) (h : (Lit.int .i64 x).wf = true) : plainElem (H := Unit) Tryd.prog 3 (.int .i64 x) = some (.lit (.int .i64 x), []) := plainElem_int Tryd.underlying3 h

set_option maxRecDepth 100000 in
set_option maxHeartbeats 4000000 in
theorem reserved_any (s : ByteArray) (w : World) (hs : s.size ≤ maxLen) (htab : TabP w) :
    Calls Tryd.prog 8 #[.string s] w fun e w' => e = .returned (.bool (resB s.data.toList)) ∧ Up w w' := by
  have HF := Lib.hid fields_any
  have HT := Lib.hid (htab.up ((Up.refl w).alloc (.map #[] 0)))
  have hmk := run_makeMap (P := Tryd.prog) 39 w
  clear htab
  go_enter Tryd.func8, Tryd.ntmps8
  go_wp2_with fail
  refine (HF.out _ HT.out).mono ?_
  rintro e w1 ⟨rfl, hw1⟩
  clear hmk
  have hz : (w.alloc (.map #[] 0)).heap.size = w.heap.size + 1 := by simp
  have hown : ownM w1 w.heap.size 0 (.map []) := by rw [hw1]; exact (World.ownsMap_made w _ _ _).alloc _
  have hwat : WordAt w1 (w.heap.size + 1) := fun i t ht => by
    have hn := World.alloc_heap_new (w.alloc (.map #[] 0)) (.cells (resW.map fun l => Value.string (bs l)).toArray 9)
    rw [hz] at hn
    rw [hw1]
    unfold World.cell?
    rw [hn]
    simp [ht]
  have hup1 : Up w w1 := by rw [hw1]; exact ((Up.refl w).alloc _).alloc _
  have hlt1 : w.heap.size + 1 < w1.heap.size := by rw [hw1]; simp
  rw [hz]
  clear hw1 hz HT HF
  go_wp2_with fail
  go_loopw [9] (ResR w w.heap.size (w.heap.size + 1)) (fun i _ => 47 - (intOf i).toNat)
  case atStart => exact ⟨0, _, Nat.zero_le _, rfl, hown, resD_zero, hwat, hup1⟩
  case round =>
    obtain ⟨j, D, hj, rfl, hm, hD, hw, hup⟩ := hrel
    by_cases hlt : j < 47
    · obtain ⟨t, ht⟩ : ∃ t, resW[j]? = some t := ⟨resW[j]'(by rw [resW_len]; exact hlt), List.getElem?_eq_getElem _⟩
      have c0 := hw j t ht
      have hji : (j : Int) < 47 := by omega
      have htl : t.length ≤ 20 := resW_short t (List.mem_of_getElem? ht)
      have HKEY := Lib.hid (key_of (bs t) (by rw [bs_size]; unfold maxLen; omega))
      have hbt : (bs t).data.toList = t := by simp [bs]
      rw [hbt] at HKEY
      have HVAL := Lib.hid (elem_int ((j : Int) + 1) (by simp [Lit.wf, show IntKind.i64.min = -9223372036854775808 by decide, show IntKind.i64.max = 9223372036854775807 by decide]; omega))
      have HSTEP := Lib.hid (resD_step hD ht)
      have HW := Lib.hid hw
      clear hw ht hbt htl hD
      generalize bs t = T at *
      go_wp2_with (at_mapUpdate; refine wpList_mapUpdate_own _ rfl _ _ _ 39 rfl 9 3 keyd Tryd.underlying39 _ w.heap.size j D rfl hm (by unfold maxLen; omega) _ _ (.string t) rfl rfl HKEY.out (.lit (.int .i64 ((j : Int) + 1))) [] HVAL.out ?_; intro w2 hm2 hg2)
      go_roundw
      case rel =>
        refine ⟨j + 1, _, by omega, by go_num, hm2, HSTEP.out, fun i u hu => hg2.cell (HW.out i u hu) (by simp), ?_⟩
        exact Below.grown hup hg2 hup.size (fun k e => by cases e; omega)
      case measure => simp [intOf]; omega
    · obtain rfl : j = 47 := by omega
      have HKEY := Lib.hid (key_of s hs)
      have HZ := Lib.hid (zero_run wr)
      clear hlt hj hw
      obtain ⟨-, hat⟩ := hD
      have HAT := Lib.hid hat
      clear hat
      go_wp2_with (at_lookup; refine wpList_lookup_own_int _ rfl _ _ 39 rfl 9 3 .i64 keyd Tryd.underlying39 Tryd.underlying3 HZ.out w.heap.size 47 D rfl hm _ (.string s.data.toList) rfl HKEY.out ?_; intro c hc hwc)
      obtain ⟨c', hc', hcc⟩ := HAT.out s.data.toList
      have hce : c = c' := by
        have := hc.symm.trans hc'
        simpa using this
      go_ret
      refine ⟨?_, hup⟩
      rw [hce]
      have hr : decide (0 < c') = resB s.data.toList := by
        have h47 : resW.take 47 = resW := by rw [← resW_len, List.take_length]
        rw [h47] at hcc
        unfold resB
        rw [Bool.eq_iff_iff, decide_eq_true_eq, hcc, List.contains_iff_mem]
      rw [hr]; rfl

end Go.Proofs.YtgkknjlegfdcnaaDoor.Lx
