/- The walk of LeaseEnds (printed by gen_ends.py). -/
import Derived.Test.YteihlfeifnnpaaaKeep
namespace Go.Proofs.Yteihlfeifnnpaaa
open Go.RowKit Go.Maps Go.WideMaps Go.WideElems
set_option maxRecDepth 100000

set_option maxHeartbeats 4000000 in
theorem ends_true (w : World) (b i now : Int) (hb : (Lit.int .i64 b).wf = true) (hi : (Lit.int .i64 i).wf = true) :
    Calls Try.prog 5 #[.int .i64 b, .int .i64 i, .int .i64 now, .bool true] w fun e w' => e = .returned (.bool true) ∧ Kept [] w w' := by
  obtain ⟨N, hN0, hN1, hN⟩ := modTo now 549755813888 (by decide) (by decide)
  have w2' : wrap64 (N + 83) = N + 83 := IntWalk.wrap64_in _ (by omega)
  have w3' : wrap64 (N + 83 - 1) = N + 82 := by rw [show N + 83 - 1 = N + 82 by omega]; exact IntWalk.wrap64_in _ (by omega)
  have w4' : wrap64 (N + 83 + 5) = N + 88 := by rw [show N + 83 + 5 = N + 88 by omega]; exact IntWalk.wrap64_in _ (by omega)
  have HB : Hid (N < 549755813888 ∧ 0 ≤ N) := ⟨hN1, hN0⟩
  clear hN0 hN1
  go_enter Try.func5, Try.ntmps5
  go_wp2_with fail
  refine (lnew _).mono ?_
  rintro e w1 ⟨rfl, hk1, hb1, hm1⟩
  have h1 : Lst w1 (w.heap.size + 1) w.heap.size 0 (.slice none 0 0) (.map []) := ⟨hb1, hm1⟩
  have hlt := (Array.getElem?_eq_some_iff.1 hb1).1
  clear hb1 hm1
  go_wp2_with fail
  refine (retire_new b i N hb hi (by decide) h1).mono ?_
  rintro e w2 ⟨g, cap, rfl, hk2, h2, hg, hr2⟩
  rw [timeI_in (by have := HB.out; omega) (by have := HB.out; omega)] at hr2
  have HK : Hid (Kept [] w w2) := hk1.over hk2 (by simp)
  have HG : Hid (g ≠ w.heap.size + 1 ∧ g ≠ w.heap.size ∧ w.heap.size ≤ g) := by refine ⟨?_, ?_, ?_⟩ <;> omega
  clear hk1 hk2 h1 hg hlt
  go_wp2_with fail
  refine (wait40 _).mono ?_
  rintro e w' ⟨rfl, rfl⟩
  go_wp2_with fail
  refine (due_not (N + 82) h2 hr2 (by rw [timeI_in (by have := HB.out; omega) (by have := HB.out; omega)]; omega)).mono ?_
  rintro e w3 ⟨rfl, hk3⟩
  have h3 := h2.kept hk3
  have hr3 := hr2.kept hk3 (by simp)
  have HK3 : Hid (Kept [] w w3) := HK.out.trans hk3
  clear HK hk3 h2 hr2
  go_wp2_with fail
  refine (all_one hb hi h3).mono ?_
  rintro e w4 ⟨g1, cap1, rfl, hk4, ho4⟩
  have h4 := Lib.hid (h3.kept hk4)
  have hr4 := Lib.hid (hr3.kept hk4 (by simp))
  have HK4 : Hid (Kept [] w w4) := HK3.out.trans hk4
  clear HK3 hk4 h3 hr3
  obtain ⟨hg1, cur, hc4, x0, x1⟩ := row33_cells ho4
  clear ho4
  obtain ⟨A, hA⟩ : ∃ A, A = w4.alloc (.cells #[.int .i64 b, .int .i64 i] 33) := ⟨_, rfl⟩
  have hA1 : A.heap[g1]? = some (.cells cur 33 (0, 0)) := by rw [hA, Below.heap_alloc _ _ _ (Array.getElem?_eq_some_iff.1 hc4).1]; exact hc4
  have q0 : A.cell? ⟨g1, 0, none⟩ = some (.int .i64 b) := by rw [cell_heap hA1]; exact x0
  have q1 : A.cell? ⟨g1, 1, none⟩ = some (.int .i64 i) := by rw [cell_heap hA1]; exact x1
  obtain ⟨p0, p1⟩ := cell_new2 w4 (.int .i64 b) (.int .i64 i) 33
  have HKA : Hid (Kept [] w4 A) := by rw [hA]; exact (Kept.refl _ _).alloc _
  rw [← hA] at p0 p1
  have HA := Lib.hid hA
  clear hA hA1 hc4 x0 x1
  go_wp2_with fail
  rw [← HA.out]
  refine (equal_one q0 q1 p0 p1).mono ?_
  rintro e w5 ⟨rfl, hk5⟩
  have HK5 : Hid (Kept [] w w5) := HK4.out.trans (HKA.out.trans hk5)
  have h5 := h4.out.kept (HKA.out.trans hk5)
  have hr5 := hr4.out.kept (HKA.out.trans hk5) (by simp)
  clear h4 hr4 HK4 HKA hk5 p0 p1 q0 q1 HA hg1
  go_wp2_with fail
  refine (keep_one hb hi h5 hr5 HG.out.1 HG.out.2.1).mono ?_
  rintro e w6 ⟨rfl, hk6, D, h6, hD⟩
  have HK6 : Hid (Kept [] w w6) := HK5.out.over hk6 (by have := HG.out; intro x hx; simp at hx; omega)
  clear HK5 hk6 h5 hr5 HG
  go_wp2_with fail
  refine (due_empty (N + 83) h6).mono ?_
  rintro e w7 ⟨rfl, hk7⟩
  have h7 := h6.kept hk7
  have HK7 : Hid (Kept [] w w7) := HK6.out.trans hk7
  clear HK6 hk7 h6
  go_wp2_with fail
  refine (all_empty h7 hD).mono ?_
  rintro e w8 ⟨rfl, hk8⟩
  go_wp2
  go_ret
  exact ⟨rfl, HK7.out.trans hk8⟩

set_option maxHeartbeats 4000000 in
theorem ends_false (w : World) (b i now : Int) (hb : (Lit.int .i64 b).wf = true) (hi : (Lit.int .i64 i).wf = true) :
    Calls Try.prog 5 #[.int .i64 b, .int .i64 i, .int .i64 now, .bool false] w fun e w' => e = .returned (.bool true) ∧ Kept [] w w' := by
  obtain ⟨N, hN0, hN1, hN⟩ := modTo now 549755813888 (by decide) (by decide)
  have w2' : wrap64 (N + 83) = N + 83 := IntWalk.wrap64_in _ (by omega)
  have w3' : wrap64 (N + 83 - 1) = N + 82 := by rw [show N + 83 - 1 = N + 82 by omega]; exact IntWalk.wrap64_in _ (by omega)
  have w4' : wrap64 (N + 83 + 5) = N + 88 := by rw [show N + 83 + 5 = N + 88 by omega]; exact IntWalk.wrap64_in _ (by omega)
  have HB : Hid (N < 549755813888 ∧ 0 ≤ N) := ⟨hN1, hN0⟩
  clear hN0 hN1
  go_enter Try.func5, Try.ntmps5
  go_wp2_with fail
  refine (lnew _).mono ?_
  rintro e w1 ⟨rfl, hk1, hb1, hm1⟩
  have h1 : Lst w1 (w.heap.size + 1) w.heap.size 0 (.slice none 0 0) (.map []) := ⟨hb1, hm1⟩
  have hlt := (Array.getElem?_eq_some_iff.1 hb1).1
  clear hb1 hm1
  go_wp2_with fail
  refine (retire_new b i N hb hi (by decide) h1).mono ?_
  rintro e w2 ⟨g, cap, rfl, hk2, h2, hg, hr2⟩
  rw [timeI_in (by have := HB.out; omega) (by have := HB.out; omega)] at hr2
  have HK : Hid (Kept [] w w2) := hk1.over hk2 (by simp)
  have HG : Hid (g ≠ w.heap.size + 1 ∧ g ≠ w.heap.size ∧ w.heap.size ≤ g) := by refine ⟨?_, ?_, ?_⟩ <;> omega
  clear hk1 hk2 h1 hg hlt
  go_wp2_with fail
  refine (wait40 _).mono ?_
  rintro e w' ⟨rfl, rfl⟩
  go_wp2_with fail
  refine (due_not (N + 82) h2 hr2 (by rw [timeI_in (by have := HB.out; omega) (by have := HB.out; omega)]; omega)).mono ?_
  rintro e w3 ⟨rfl, hk3⟩
  have h3 := h2.kept hk3
  have hr3 := hr2.kept hk3 (by simp)
  have HK3 : Hid (Kept [] w w3) := HK.out.trans hk3
  clear HK hk3 h2 hr2
  go_wp2_with fail
  refine (all_one hb hi h3).mono ?_
  rintro e w4 ⟨g1, cap1, rfl, hk4, ho4⟩
  have h4 := Lib.hid (h3.kept hk4)
  have hr4 := Lib.hid (hr3.kept hk4 (by simp))
  have HK4 : Hid (Kept [] w w4) := HK3.out.trans hk4
  clear HK3 hk4 h3 hr3
  obtain ⟨hg1, cur, hc4, x0, x1⟩ := row33_cells ho4
  clear ho4
  obtain ⟨A, hA⟩ : ∃ A, A = w4.alloc (.cells #[.int .i64 b, .int .i64 i] 33) := ⟨_, rfl⟩
  have hA1 : A.heap[g1]? = some (.cells cur 33 (0, 0)) := by rw [hA, Below.heap_alloc _ _ _ (Array.getElem?_eq_some_iff.1 hc4).1]; exact hc4
  have q0 : A.cell? ⟨g1, 0, none⟩ = some (.int .i64 b) := by rw [cell_heap hA1]; exact x0
  have q1 : A.cell? ⟨g1, 1, none⟩ = some (.int .i64 i) := by rw [cell_heap hA1]; exact x1
  obtain ⟨p0, p1⟩ := cell_new2 w4 (.int .i64 b) (.int .i64 i) 33
  have HKA : Hid (Kept [] w4 A) := by rw [hA]; exact (Kept.refl _ _).alloc _
  rw [← hA] at p0 p1
  have HA := Lib.hid hA
  clear hA hA1 hc4 x0 x1
  go_wp2_with fail
  rw [← HA.out]
  refine (equal_one q0 q1 p0 p1).mono ?_
  rintro e w5 ⟨rfl, hk5⟩
  have HK5 : Hid (Kept [] w w5) := HK4.out.trans (HKA.out.trans hk5)
  have h5 := h4.out.kept (HKA.out.trans hk5)
  have hr5 := hr4.out.kept (HKA.out.trans hk5) (by simp)
  clear h4 hr4 HK4 HKA hk5 p0 p1 q0 q1 HA hg1
  clear HG
  go_wp2_with fail
  refine (due_yes (N + 83) hb hi h5 hr5 (by rw [timeI_in (by have := HB.out; omega) (by have := HB.out; omega)]; omega)).mono ?_
  rintro e w6 ⟨g6, cap6, rfl, hk6, ho6, D, h6, hD⟩
  have HK6 : Hid (Kept [] w w6) := HK5.out.over hk6 (by simp)
  clear HK5 hk6 h5 hr5
  obtain ⟨hg6, cur6, hc6, x0, x1⟩ := row33_cells ho6
  clear ho6
  have HL6 := Lib.hid h6
  clear h6
  obtain ⟨A, hA⟩ : ∃ A, A = w6.alloc (.cells #[.int .i64 b, .int .i64 i] 33) := ⟨_, rfl⟩
  have hA1 : A.heap[g6]? = some (.cells cur6 33 (0, 0)) := by rw [hA, Below.heap_alloc _ _ _ (Array.getElem?_eq_some_iff.1 hc6).1]; exact hc6
  have q0 : A.cell? ⟨g6, 0, none⟩ = some (.int .i64 b) := by rw [cell_heap hA1]; exact x0
  have q1 : A.cell? ⟨g6, 1, none⟩ = some (.int .i64 i) := by rw [cell_heap hA1]; exact x1
  obtain ⟨p0, p1⟩ := cell_new2 w6 (.int .i64 b) (.int .i64 i) 33
  have HKA : Hid (Kept [] w6 A) := by rw [hA]; exact (Kept.refl _ _).alloc _
  rw [← hA] at p0 p1
  have HA := Lib.hid hA
  clear hA hA1 hc6 x0 x1
  go_wp2_with fail
  rw [← HA.out]
  refine (equal_one q0 q1 p0 p1).mono ?_
  rintro e w7 ⟨rfl, hk7⟩
  have HK7 : Hid (Kept [] w w7) := HK6.out.trans (HKA.out.trans hk7)
  have h7 := HL6.out.kept (HKA.out.trans hk7)
  clear HL6 HKA HK6 hk7 p0 p1 q0 q1 HA
  go_wp2_with fail
  refine (due_empty (N + 88) h7).mono ?_
  rintro e w8 ⟨rfl, hk8⟩
  have h8 := h7.kept hk8
  have HK8 : Hid (Kept [] w w8) := HK7.out.trans hk8
  clear HK7 hk8 h7
  go_wp2_with fail
  refine (all_empty h8 hD).mono ?_
  rintro e w9 ⟨rfl, hk9⟩
  go_wp2
  go_ret
  exact ⟨rfl, HK8.out.trans hk9⟩

theorem ends_law (b i now : Int) (kept : Bool) (w : World) (hb : (Lit.int .i64 b).wf = true) (hi : (Lit.int .i64 i).wf = true) (_ : (Lit.int .i64 now).wf = true) :
    Calls Try.prog 5 #[.int .i64 b, .int .i64 i, .int .i64 now, .bool kept] w fun e w' => e = .returned (.bool true) ∧ Below w.heap.size w w' := by
  cases kept with
  | true => exact (ends_true w b i now hb hi).mono fun _ _ ⟨h, hk⟩ => ⟨h, hk.below (Nat.le_refl _) (by simp)⟩
  | false => exact (ends_false w b i now hb hi).mono fun _ _ ⟨h, hk⟩ => ⟨h, hk.below (Nat.le_refl _) (by simp)⟩
end Go.Proofs.Yteihlfeifnnpaaa
