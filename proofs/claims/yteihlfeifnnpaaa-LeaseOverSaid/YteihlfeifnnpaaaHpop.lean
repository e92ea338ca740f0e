/- The walks of heap.Pop on one item, and of Due where the item is due. -/
import Derived.Test.YteihlfeifnnpaaaPop
namespace Go.Proofs.Yteihlfeifnnpaaa
open Go.RowKit Go.Maps Go.WideMaps Go.WideElems
set_option maxRecDepth 100000

theorem mSwap {w : World} {a : Addr} {o : Option Addr} {n c : Nat} (h : w.cell? a = some (.slice o n c)) :
    (method 218 52 (.pointer (some a)) "Swap").run Try.prog w = .ok (78, .slice o n c) w := by
  rw [mSwap']
  simp [load39 h, Result.andThen]

set_option maxHeartbeats 1000000 in
theorem hpop {w : World} {c m g cap : Nat} {b i d : Int} (hb : w.heap[c]? = some (.cells #[.map (some m), .slice (some ⟨g, 0, none⟩) 1 cap] 41 (0, 0))) (hr : Row1 w g cap b i d) :
    Calls Try.prog 28 #[.iface 52 (.pointer (some ⟨c, 1, none⟩))] w fun e w' => e = .returned (.iface 54 (itemV b i d)) ∧ Kept [c] w w' ∧ w'.heap[c]? = some (.cells #[.map (some m), .slice (some ⟨g, 0, none⟩) 0 cap] 41 (0, 0)) := by
  have c1 : w.cell? ⟨c, 1, none⟩ = some (.slice (some ⟨g, 0, none⟩) 1 cap) := cell_heap hb 1
  have m1 := mLen c1
  have m2 := mSwap c1
  have m3 := mPop
  have HB := Lib.hid hb
  have HR := Lib.hid hr
  clear hb hr
  go_enter Try.func28, Try.ntmps28
  go_wp2_with fail
  refine (len_1 _ _ _).mono ?_
  rintro e w' ⟨rfl, rfl⟩
  go_wp2_with fail
  refine (swap_00 HR.out).mono ?_
  rintro e w' ⟨rfl, rfl⟩
  clear m1 m2
  go_wp2_with fail
  refine (down_0 _ _).mono ?_
  rintro e w' ⟨rfl, rfl⟩
  go_wp2_with fail
  refine (pop_one (w := World.drew _) HB.out HR.out).mono ?_
  rintro e w' ⟨rfl, hk, hb1⟩
  go_wp2
  go_ret
  exact ⟨rfl, (Kept.refl _ _).drew.trans hk, hb1⟩
end Go.Proofs.Yteihlfeifnnpaaa
