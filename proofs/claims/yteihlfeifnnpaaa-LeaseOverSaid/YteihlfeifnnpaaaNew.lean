/- The walks of the program's New, of Tick's refusals, and of clocks that no call made. -/
import Derived.Test.YteihlfeifnnpaaaTick
import Derived.Deep.OwnRows
namespace Go.Proofs.Yteihlfeifnnpaaa
open Go.RowKit Go.Maps Go.WideMaps Go.WideElems
open Go.ChangeMaps (setBlock heap_setBlock_same heap_setBlock_other)
set_option maxRecDepth 100000

set_option maxHeartbeats 400000 in
theorem tick_arg {w : World} {c s m n kk : Nat} {st : Drf.St} (h : Clk w c s m n kk st) (x : Int) (h0 : x < 0 ∨ (n : Int) ≤ x) :
    Calls Try.prog 21 #[.pointer (some ⟨c, 0, none⟩), .int .i64 x] w fun e w' => e = .returned (.int .i64 1) ∧ w = w' := by
  have c1 := h.cell1
  have hc := has_no h x h0
  have hmn := fun w => run_eql_map_nil (P := Try.prog) w 62 67 3 (some m) Try.underlying62
  clear h h0
  go_enter Try.func21, Try.ntmps21
  go_wp2_with fail
  refine hc.mono ?_
  rintro e w' ⟨rfl, rfl⟩
  go_wp2
  go_ret
  exact ⟨rfl, rfl⟩

set_option maxHeartbeats 400000 in
theorem tick_drift {w : World} {c s m n kk : Nat} {st : Drf.St} (h : Clk w c s m n kk st) (b : Nat) (hb : b < n) (hn : n ≤ 16) (hmay : Hid (st.may n b = false)) :
    Calls Try.prog 21 #[.pointer (some ⟨c, 0, none⟩), .int .i64 b] w fun e w' => e = .returned (.int .i64 100) ∧ Kept [] w w' := by
  have c1 := h.cell1
  have hc := has_yes h b (by omega) (by omega)
  have hm := may_yes h b hb hn
  rw [hmay.out] at hm
  have hmn := fun w => run_eql_map_nil (P := Try.prog) w 62 67 3 (some m) Try.underlying62
  clear h
  go_enter Try.func21, Try.ntmps21
  go_wp2_with fail
  refine hc.mono ?_
  rintro e w' ⟨rfl, rfl⟩
  clear hc
  go_wp2_with fail
  refine hm.mono ?_
  rintro e w1 ⟨rfl, hk1⟩
  go_wp2
  go_ret
  exact ⟨rfl, hk1⟩

set_option maxHeartbeats 400000 in
theorem new_arg (x : Int) (h0 : x < 1 ∨ 16 < x) (w : World) :
    Calls Try.prog 19 #[.int .i64 x] w fun e w' => e = .returned (.tuple #[.pointer none, .int .i64 1]) ∧ w = w' := by
  rcases h0 with h0 | h0
  · go_enter Try.func19, Try.ntmps19
    go_wp2
    go_ret2
    exact ⟨rfl, rfl⟩
  · have h1 : ¬ x < 1 := by omega
    go_enter Try.func19, Try.ntmps19
    go_wp2
    go_ret2
    exact ⟨rfl, rfl⟩

theorem info3 : (Try.prog.info? 3).map (fun i => (i.zero, i.size, i.bytes)) = some (some (.int .i64 0), 1, 8) := by kernel_rfl

theorem madeCells_zero (n : Nat) : madeCells #[.int .i64 0] n = cellsTo n (fun _ => 0) := by
  apply Array.ext_getElem?
  intro i
  by_cases hi : i < n
  · rw [cellsTo_get n _ i hi]; simp [madeCells, hi, Nat.mod_one]
  · rw [Array.getElem?_eq_none (by simp [madeCells]; omega), Array.getElem?_eq_none (by simp [cellsTo]; omega)]

theorem made_clocks (n : Nat) (w : World) :
    Clk (((w.alloc (.cells (madeCells #[.int .i64 0] n) 3)).alloc (.map #[] 0)).alloc (.cells #[.slice (some ⟨w.heap.size, 0, none⟩) n n, .map (some (w.heap.size + 1))] 64)) (w.heap.size + 2) w.heap.size (w.heap.size + 1) n 0 Drf.St.init := by
  have hm := World.ownsMap_made (H := Unit) (w.alloc (.cells (madeCells #[.int .i64 0] n) 3)) Try.prog 67 (plainElem Try.prog 3)
  have e1 : (w.alloc (.cells (madeCells #[.int .i64 0] n) 3)).heap.size = w.heap.size + 1 := by simp
  rw [e1] at hm
  refine ⟨?_, ?_, .map [], hm.alloc _, fun x y _ _ _ => by rw [Maps.atKey_of_not_has rfl]; rfl, fun kl h => by cases h⟩
  · have := (MapKept.heap_alloc ((w.alloc (.cells (madeCells #[.int .i64 0] n) 3)).alloc (.map #[] 0)) (.cells #[.slice (some ⟨w.heap.size, 0, none⟩) n n, .map (some (w.heap.size + 1))] 64)).1
    simpa using this
  · have := (MapKept.heap_alloc w (.cells (madeCells #[.int .i64 0] n) 3)).1
    rw [Below.heap_alloc _ _ _ (by simp; omega), Below.heap_alloc _ _ _ (by simp), this, madeCells_zero]
    rfl

set_option maxHeartbeats 400000 in
theorem new_ok (n : Nat) (h0 : 1 ≤ n) (h1 : n ≤ 16) (w : World) :
    Calls Try.prog 19 #[.int .i64 n] w fun e w' => e = .returned (.tuple #[.pointer (some ⟨w.heap.size + 2, 0, none⟩), .int .i64 0]) ∧ Kept [] w w' ∧ Clk w' (w.heap.size + 2) w.heap.size (w.heap.size + 1) n 0 Drf.St.init := by
  have hmm := @run_makeMap Try.prog
  have hmk := run_make_row' (P := Try.prog) 44 3 (.int .i64 0) 8 Try.underlying44 info3 rfl .i64 .i64 n (by omega) (by omega)
  have hx : ¬ (n : Int) < 1 := by omega
  have hy : ¬ (16 : Int) < n := by omega
  have HM := Lib.hid (made_clocks n w)
  go_enter Try.func19, Try.ntmps19
  go_wp2
  go_ret2
  exact ⟨rfl, (((Kept.refl _ _).alloc _).alloc _).alloc _, HM.out⟩

/-- what Tick answers of a clock that there is -/
def tickR (st : Drf.St) (n b : Nat) : Int := if st.may n b = true then 0 else 100

/-- Tick, asked of a clock that there is -/
theorem tick_ask {w : World} {c s m n kk : Nat} {st : Drf.St} (h : Clk w c s m n kk st) (b : Nat) (hb : b < n) (hn : n ≤ 16) (ht : st.t b < 4611686018427387904) (hL : Drf.Low n st) (hkk : kk + 40 < maxLen) :
    Calls Try.prog 21 #[.pointer (some ⟨c, 0, none⟩), .int .i64 b] w fun e w' => e = .returned (.int .i64 (tickR st n b)) ∧ Kept [s, m] w w' ∧ Clk w' c s m n (kk + 40) (st.ask n b) := by
  unfold Drf.St.ask tickR
  cases hm : st.may n b with
  | true =>
    simp only [if_true]
    exact tick_ok h b hb hn hm ht hL hkk
  | false =>
    have e : ¬ (false = true) := by simp
    rw [if_neg e, if_neg e]
    refine (tick_drift h b hb hn hm).mono ?_
    rintro e w' ⟨rfl, hk⟩
    exact ⟨rfl, hk.mono (by simp), (h.kept hk).mono (by omega)⟩
end Go.Proofs.Yteihlfeifnnpaaa
