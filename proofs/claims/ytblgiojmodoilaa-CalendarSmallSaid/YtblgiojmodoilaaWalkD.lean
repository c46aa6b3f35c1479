/- Contracts: split (the month of a day), YMD, Month, First, Weekday, Day, Add, Between, Age. -/
import Derived.Test.YtblgiojmodoilaaWalkC
namespace Go.Proofs.Ytblgiojmodoilaa.Cal
open Go.RowKit Go.Shelf

theorem st_gt_iff (d : Nat) (hd : d < 65536) (i : Nat) : d < st i ↔ mo d + 1 ≤ i := by
  have h := mo_spec d hd
  constructor
  · intro h1
    by_cases e : mo d + 1 ≤ i
    · exact e
    · have := st_mono (show i ≤ mo d by omega); omega
  · intro h1
    have := st_mono h1; omega

/-- The month of a day and its day in it, from 0 on. -/
def moZ (d : Int) : Int := (mo d.toNat : Int)
def ddZ (d : Int) : Int := d - (st (mo d.toNat) : Int)

theorem moZ_bd (d : Int) (h1 : d < 65536) : 0 ≤ moZ d ∧ moZ d < 2154 := by
  unfold moZ
  have := mo_lt d.toNat (by omega)
  omega

theorem ddZ_bd (d : Int) (h0 : 0 ≤ d) (h1 : d < 65536) : 0 ≤ ddZ d ∧ ddZ d < (sz (mo d.toNat) : Int) := by
  unfold ddZ
  have h := mo_spec d.toNat (by omega)
  rw [st_succ] at h
  omega

theorem run_makeFunc54 (fn : Fn) (first cap : Array Value) (w : World) : (Instr.makeFunc fn first cap).run Try.prog w = .ok (.func fn first cap) w := rfl

theorem cell_box (w : World) (v : Value) (t : TypeId) : (w.alloc (.cells #[v] t)).cell? ⟨w.heap.size, 0, none⟩ = some v := by
  rw [World.cell?_alloc_at _ _ _ _ (by simp)]; rfl

set_option maxHeartbeats 1000000 in
theorem split45 (d : Int) (w : World) (h0 : 0 ≤ d) (h1 : d < 65536) :
    Calls Try.prog 45 #[.int .i64 d] w fun e w' => e = .returned (.tuple #[.int .i64 (moZ d), .int .i64 (ddZ d)]) ∧ Up w w' := by
  have hm := mo_lt d.toNat (by omega)
  have hsp := mo_spec d.toNat (by omega)
  have eg : ∀ args w, (callFunc 54 args).run Try.prog w = .ok (.enter 54 args) w := enters_of Try.func54 (by kernel_rfl) rfl
  have hmf := run_makeFunc54
  have hbx := cell_box w (.int .i64 d) 3
  have hS := search48 54 #[.pointer (some ⟨w.heap.size, 0, none⟩)] 2154 (mo d.toNat + 1) (w.alloc (.cells #[.int .i64 d] 3)) eg (by omega) (by omega)
    (fun i wx hi0 hi1 hup => by
      have h := split54 w.heap.size d i wx (hup.cell hbx) hi0 (by omega)
      rw [show decide (mo d.toNat + 1 ≤ i.toNat) = decide (d < (st i.toNat : Int)) by
        have := st_gt_iff d.toNat (by omega) i.toNat
        rw [decide_eq_decide]; omega]
      exact h)
  have HS := Lib.hid hS
  clear hS eg
  have hmb := moZ_bd d h1
  go_enter Try.func45, Try.ntmps45
  go_wp2_with fail
  refine HS.out.mono ?_
  rintro e w1 ⟨rfl, hup⟩
  have hd1 := hup.cell hbx
  go_wp2_with fail
  have hst := st_bd (mo d.toNat) (by omega)
  have hwr := wrap_in (d - (st (mo d.toNat) : Int)) (by omega) (by omega)
  go_region_with (go_at_call 36; refine (start36 _ _ (by omega) (by omega)).mono ?_; rintro e w' ⟨rfl, hup2⟩; have hd2 := hup2.cell hd1)
  all_goals go_wp2
  all_goals go_ret2
  all_goals exact ⟨rfl, by first | exact (((Up.refl w).alloc _).trans hup).trans hup2 | exact ((((Up.refl w).alloc _).trans hup).drew.trans hup2) | exact ((((Up.refl w).alloc _).trans hup).trans hup2).drew⟩

/-- What YMD gives for a date. -/
def yZ (d : Int) : Int := 1900 + moZ d / 12
def mZ (d : Int) : Int := moZ d % 12 + 1
def dZ (d : Int) : Int := ddZ d + 1

set_option maxHeartbeats 1000000 in
theorem ymd24_yes (d : Int) (w : World) (h0 : 0 ≤ d) (h1 : d < 65536) :
    Calls Try.prog 24 #[.int .i64 d] w fun e w' => e = .returned (.tuple #[.int .i64 (yZ d), .int .i64 (mZ d), .int .i64 (dZ d), .int .i64 0]) ∧ Up w w' := by
  have hb1 := moZ_bd d h1
  have hb2 := ddZ_bd d h0 h1
  have hb3 := sz_bd (mo d.toNat)
  go_enter Try.func24, Try.ntmps24
  go_wp2_with (first | (go_at_call 37; refine (date37_yes _ _ h0 h1).mono ?_; rintro e w' ⟨rfl, rfl⟩) | (go_at_call 45; refine (split45 _ _ h0 h1).mono ?_; rintro e w' ⟨rfl, hup⟩))
  refine bodyPost_ret (results_tmp4 rfl _ _ _) rfl ?_
  exact ⟨rfl, hup⟩

theorem ymd24_no (d : Int) (w : World) (h : d < 0 ∨ 65536 ≤ d) :
    Calls Try.prog 24 #[.int .i64 d] w fun e w' => e = .returned (.tuple #[.int .i64 0, .int .i64 0, .int .i64 0, .int .i64 2]) ∧ w = w' := by
  go_enter Try.func24, Try.ntmps24
  go_wp2_with (first | (go_at_call 37; refine (date37_no _ _ h).mono ?_; rintro e w' ⟨rfl, rfl⟩))
  refine bodyPost_ret (results_tmp4 rfl _ _ _) rfl ?_
  exact ⟨rfl, rfl⟩

end Go.Proofs.Ytblgiojmodoilaa.Cal
