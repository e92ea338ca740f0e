/- The walks of Due: nothing waits; what waits is not due; what waits is due. -/
import Derived.Test.YteihlfeifnnpaaaEqual
namespace Go.Proofs.Yteihlfeifnnpaaa
open Go.RowKit Go.Maps Go.WideMaps Go.WideElems
set_option maxRecDepth 100000

theorem len_1 (a : Option Addr) (c : Nat) (w : World) : Calls Try.prog 27 #[.slice a 1 c] w fun e w' => e = .returned (.int .i64 1) ∧ w' = w := len_any a 1 c w
theorem len_0 (a : Option Addr) (c : Nat) (w : World) : Calls Try.prog 27 #[.slice a 0 c] w fun e w' => e = .returned (.int .i64 0) ∧ w' = w := len_any a 0 c w

theorem row1_cells {w : World} {g cap : Nat} {b i d : Int} (h : Row1 w g cap b i d) : w.cell? ⟨g, 0, none⟩ = some (.int .i64 b) ∧ w.cell? ⟨g, 1, none⟩ = some (.int .i64 i) ∧ w.cell? ⟨g, 2, none⟩ = some (.int .i64 d) := by
  obtain ⟨cur, hb, h1, h2, h3, h4⟩ := h
  have key : ∀ j, j < 3 → cur[j]? = ([Value.int .i64 b, .int .i64 i, .int .i64 d] : List Value)[j]? := by
    intro j hj
    rw [← h4, List.getElem?_take_of_lt hj]
    simp
  refine ⟨?_, ?_, ?_⟩
  · rw [cell_heap hb]; rw [key 0 (by decide)]; rfl
  · rw [cell_heap hb]; rw [key 1 (by decide)]; rfl
  · rw [cell_heap hb]; rw [key 2 (by decide)]; rfl

set_option maxHeartbeats 1000000 in
theorem due_empty {w : World} {c m k : Nat} {a : Option Addr} {cap : Nat} {D : DataW Unit} (t : Int) (h : Lst w c m k (.slice a 0 cap) D) :
    Calls Try.prog 16 #[.pointer (some ⟨c, 0, none⟩), .int .i64 t] w fun e w' => e = .returned (.slice none 0 0) ∧ Kept [] w w' := by
  have hno := none_no h.box
  have c1 : w.cell? ⟨c, 1, none⟩ = some (.slice a 0 cap) := cell_heap h.box 1
  clear h
  go_enter Try.func16, Try.ntmps16
  go_wp2_with fail
  refine hno.mono ?_
  rintro e w' ⟨rfl, rfl⟩
  clear hno
  go_wp2
  refine wp_loop_rounds 1 ?_
  rw [rounds_succ]
  go_wp2
  go_quiet (first | (go_at_call 27; exact Calls.quiet_of_same (len_0 _ _ _)) | (go_at_call 22; exact Calls.quiet_of_same (time_any _ _)))
  go_wp2_with fail
  refine (order_s none 0 0 (by decide) _).mono ?_
  rintro e w' ⟨rfl, rfl⟩
  go_wp2
  go_ret
  exact ⟨rfl, (Kept.refl _ _).drewN _⟩

set_option maxHeartbeats 1000000 in
theorem due_not {w : World} {c m k : Nat} {g cap : Nat} {b i d : Int} {D : DataW Unit} (t : Int) (h : Lst w c m k (.slice (some ⟨g, 0, none⟩) 1 cap) D) (hr : Row1 w g cap b i d) (ht : ¬ d ≤ timeI t) :
    Calls Try.prog 16 #[.pointer (some ⟨c, 0, none⟩), .int .i64 t] w fun e w' => e = .returned (.slice none 0 0) ∧ Kept [] w w' := by
  have hno := none_no h.box
  have c1 : w.cell? ⟨c, 1, none⟩ = some (.slice (some ⟨g, 0, none⟩) 1 cap) := cell_heap h.box 1
  obtain ⟨_, _, r2⟩ := row1_cells hr
  have hd : decide (d ≤ timeI t) = false := decide_eq_false ht
  clear h hr
  go_enter Try.func16, Try.ntmps16
  go_wp2_with fail
  refine hno.mono ?_
  rintro e w' ⟨rfl, rfl⟩
  clear hno
  go_wp2
  refine wp_loop_rounds 1 ?_
  rw [rounds_succ]
  go_wp2
  go_quiet (first | (go_at_call 27; exact Calls.quiet_of_same (len_1 _ _ _)) | (go_at_call 22; exact Calls.quiet_of_same (time_any _ _)))
  go_wp2_with fail
  refine (order_s none 0 0 (by decide) _).mono ?_
  rintro e w' ⟨rfl, rfl⟩
  go_wp2
  go_ret
  exact ⟨rfl, (Kept.refl _ _).drewN _⟩
end Go.Proofs.Yteihlfeifnnpaaa
