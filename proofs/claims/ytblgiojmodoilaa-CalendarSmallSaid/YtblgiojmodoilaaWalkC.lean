/- Contracts: sort.Search over a monotone closure, and split: the month of a day. -/
import Derived.Test.YtblgiojmodoilaaWalkB
import Derived.Shelf.Abstract
import Derived.Deep.RegionWith
namespace Go.Proofs.Ytblgiojmodoilaa.Cal
open Go.RowKit Go.Shelf

theorem Up.cell {w w' : World} (h : Up w w') {a : Addr} {v : Value} (hv : w.cell? a = some v) : w'.cell? a = some v := by
  have hb := World.block_lt_of_cell? _ _ hv
  rw [← hv]; exact Below.cell h hb

def SearchRel (w : World) (n r : Nat) (g : Nat) (i j : Value) (wr : World) : Prop :=
  ∃ lo hi : Nat, i = .int .i64 (lo : Int) ∧ j = .int .i64 (hi : Int) ∧ lo ≤ r ∧ r ≤ hi ∧ hi ≤ n ∧ hi - lo ≤ g ∧ Up w wr

set_option maxHeartbeats 1000000 in
/-- 'sort.Search' with a closure that says 'no' below r and 'yes' from r on. -/
theorem search48 (g : Nat) (cb : Array Value) (n r : Nat) (w : World) (eg : ∀ args w, (callFunc g args).run Try.prog w = .ok (.enter g args) w) (hn : n < 1000000) (hr : r ≤ n)
    (hf : ∀ (i : Int) (wx : World), 0 ≤ i → i < n → Up w wx → Calls Try.prog g (#[.int .i64 i] ++ cb) wx fun e w' => e = .returned (.bool (decide (r ≤ i.toNat))) ∧ Up wx w') :
    Calls Try.prog 48 #[.int .i64 n, .func (.func g) #[] cb] w fun e w' => e = .returned (.int .i64 r) ∧ Up w w' := by
  have HF := Lib.hid hf
  clear hf
  go_enter Try.func48, Try.ntmps48
  go_wp2
  go_loopg [5, 6] n (SearchRel w n r)
  case atStart => exact ⟨0, n, rfl, rfl, Nat.zero_le _, hr, Nat.le_refl _, by omega, Up.refl _⟩
  case round =>
    obtain ⟨lo, hi, rfl, rfl, h1, h2, h3, h4, hup⟩ := hrel
    by_cases hlt : lo < hi
    · have hc := HF.out (((lo : Int) + (hi : Int)) / 2) wr (by omega) (by omega) hup
      by_cases hp : r ≤ (lo + hi) / 2
      · rw [show decide (r ≤ (((lo : Int) + (hi : Int)) / 2).toNat) = true by simp; omega] at hc
        go_wp2_with (go_at_fn g; refine hc.mono ?_; rintro e w' ⟨rfl, hup2⟩)
        go_roundg ((lo + hi) / 2 - lo)
        case measure => omega
        case rel => exact ⟨lo, (lo + hi) / 2, rfl, by rw [show ((lo : Int) + (hi : Int)) / 2 = (((lo + hi) / 2 : Nat) : Int) by omega], by omega, by omega, by omega, Nat.le_refl _, hup.trans hup2⟩
      · rw [show decide (r ≤ (((lo : Int) + (hi : Int)) / 2).toNat) = false by simp; omega] at hc
        go_wp2_with (go_at_fn g; refine hc.mono ?_; rintro e w' ⟨rfl, hup2⟩)
        go_roundg (hi - ((lo + hi) / 2 + 1))
        case measure => omega
        case rel => exact ⟨(lo + hi) / 2 + 1, hi, by rw [show ((lo : Int) + (hi : Int)) / 2 + 1 = (((lo + hi) / 2 + 1 : Nat) : Int) by omega], rfl, by omega, by omega, by omega, Nat.le_refl _, hup.trans hup2⟩
    · obtain rfl : hi = lo := by omega
      obtain rfl : r = hi := by omega
      go_wp2
      go_ret
      exact ⟨rfl, hup⟩

set_option maxHeartbeats 1000000 in
/-- The closure of split: 'start(m) > day'. -/
theorem split54 (bd : Nat) (d k : Int) (w : World) (hd : w.cell? ⟨bd, 0, none⟩ = some (.int .i64 d)) (h0 : 0 ≤ k) (h1 : k < 2154) :
    Calls Try.prog 54 (#[.int .i64 k] ++ #[.pointer (some ⟨bd, 0, none⟩)]) w fun e w' => e = .returned (.bool (decide (d < (st k.toNat : Int)))) ∧ Up w w' := by
  go_enter Try.func54, Try.ntmps54
  go_wp2_with fail
  go_region_with (go_at_call 36; refine (start36 _ _ h0 (by omega)).mono ?_; rintro e w' ⟨rfl, hup⟩; have hd' := hup.cell hd)
  all_goals go_wp2
  all_goals go_ret
  all_goals exact ⟨rfl, by first | exact hup | exact hup.drew | exact Up.trans (Up.drew (Up.refl _)) hup⟩

end Go.Proofs.Ytblgiojmodoilaa.Cal
