/- annuitantlaw11.alike, where the lists are alike. -/
import Derived.Test.YtgkknjlegfdcnaaLexL
import Derived.Test.YtgkknjlegfdcnaaLexQ
namespace Go.Proofs.Ytgkknjlegfdcnaa.Lx
open Go.RowKit Go.Shelf Go.Proofs.Ytgkknjlegfdcnaa.Cal

def AlikeRel (n : Nat) (w : World) (i : Value) (wr : World) : Prop := ∃ j : Nat, j ≤ n ∧ i = .int .i64 (j : Int) ∧ Up w wr

set_option maxHeartbeats 2000000 in
theorem alike_some (g h n ca cb : Nat) (x y : List Tok) (w : World) (hx : TokRow w g x) (hy : TokRow w h y) (hnx : x.length = n) (hny : y.length = n) (hn : n ≤ 200000) (hxy : y.map kt = x.map kt) :
    Calls Try.prog 13 #[.slice (some ⟨g, 0, none⟩) n ca, .slice (some ⟨h, 0, none⟩) n cb] w fun e w' => e = .returned (.bool true) ∧ Up w w' := by
  have HX := Lib.hid hx
  have HY := Lib.hid hy
  clear hx hy
  go_enter Try.func13, Try.ntmps13
  go_wp2_with fail
  go_loopw [5] (AlikeRel n w) (fun i _ => n - (intOf i).toNat)
  case atStart => exact ⟨0, Nat.zero_le _, rfl, Up.refl w⟩
  case round =>
    obtain ⟨j, hj, rfl, hup⟩ := hrel
    by_cases hlt : j < n
    · obtain ⟨t, ht⟩ : ∃ t, x[j]? = some t := ⟨x[j], List.getElem?_eq_getElem (by omega)⟩
      obtain ⟨u, hu⟩ : ∃ u, y[j]? = some u := ⟨y[j], List.getElem?_eq_getElem (by omega)⟩
      have hk : kt u = kt t := by
        have := congrArg (fun l : List (Nat × List UInt8) => l[j]?) hxy
        simp only [List.getElem?_map, ht, hu] at this
        exact Option.some.inj this
      have hk1 : u.kind = t.kind := congrArg Prod.fst hk
      have hk2 : u.text = t.text := congrArg Prod.snd hk
      have a0 := hup.cell (HX.out j t ht).1
      have a1 := hup.cell (HX.out j t ht).2.1
      have b0 := hup.cell (HY.out j u hu).1
      have b1 := hup.cell (HY.out j u hu).2.1
      rw [hk1] at b0
      rw [hk2] at b1
      clear ht hu hk hk1 hk2
      have hjl : (j : Int) < (n : Int) := by omega
      go_wp2_with fail
      go_quiet (fail)
      go_wp2_with fail
      go_roundw
      case rel => exact ⟨j + 1, by omega, by go_num, hup.drewN _⟩
      case measure => simp [intOf]; omega
    · obtain rfl : j = n := by omega
      go_wp2_with fail
      go_ret
      exact ⟨rfl, hup⟩

end Go.Proofs.Ytgkknjlegfdcnaa.Lx
