/- The walk of LeaseFirst. -/
import Derived.Test.YteihlfeifnnpaaaDueYes
namespace Go.Proofs.Yteihlfeifnnpaaa
open Go.RowKit Go.Maps Go.WideMaps Go.WideElems
set_option maxRecDepth 100000

theorem Kept.over {w w1 w2 : World} {bs : List Nat} (h : Kept [] w w1) (k : Kept bs w1 w2) (hb : ∀ b ∈ bs, w.heap.size ≤ b) : Kept [] w w2 :=
  ⟨k.os.trans h.os, k.tape.trans h.tape, k.output.trans h.output, Nat.le_trans h.size k.size, fun j hj _ => (k.block j (Nat.lt_of_lt_of_le hj h.size) (fun e => by have := hb j e; omega)).trans (h.block j hj (by simp))⟩

theorem u64_wrap (x : Int) : IntKind.u64.wrap x = x % 18446744073709551616 := by simp [IntKind.wrap, IntKind.bits, IntKind.signed]

theorem modTo (x : Int) (n : Int) (h0 : 0 < n) (h1 : n ≤ 1099511627776) : ∃ N : Int, 0 ≤ N ∧ N < n ∧ wrap64 ((IntKind.u64.wrap x).tmod n) = N := by
  have h2 : 0 ≤ IntKind.u64.wrap x := by rw [u64_wrap]; exact Int.emod_nonneg _ (by decide)
  refine ⟨(IntKind.u64.wrap x).tmod n, ?_, ?_, ?_⟩
  · rw [Int.tmod_eq_emod_of_nonneg h2]; exact Int.emod_nonneg _ (by omega)
  · rw [Int.tmod_eq_emod_of_nonneg h2]; exact Int.emod_lt_of_pos _ h0
  · have a1 : 0 ≤ (IntKind.u64.wrap x).tmod n := by rw [Int.tmod_eq_emod_of_nonneg h2]; exact Int.emod_nonneg _ (by omega)
    have a2 : (IntKind.u64.wrap x).tmod n < n := by rw [Int.tmod_eq_emod_of_nonneg h2]; exact Int.emod_lt_of_pos _ h0
    generalize (IntKind.u64.wrap x).tmod n = q at a1 a2
    exact IntWalk.wrap64_in _ (by omega)

theorem timeI_in {t : Int} (h0 : 0 ≤ t) (h1 : t ≤ 1099511627776) : timeI t = t := by unfold timeI; rw [if_neg (by omega), if_neg (by omega)]

theorem row33_cells {w : World} {base g cap : Nat} {b i : Int} (h : w.ownsRow base 33 2 (.slice (some ⟨g, 0, none⟩) 1 cap) 1 [.int .i64 b, .int .i64 i]) :
    base ≤ g ∧ ∃ cur : Array Value, w.heap[g]? = some (.cells cur 33 (0, 0)) ∧ cur[0]? = some (.int .i64 b) ∧ cur[1]? = some (.int .i64 i) := by
  obtain ⟨_, h⟩ := h
  rcases h with ⟨e, _⟩ | ⟨g', cap', cur, e, hgg, hc, h1, h2, h3, h4⟩
  · simp at e
  · simp at e
    obtain ⟨rfl, rfl⟩ := e
    have key : ∀ j, j < 2 → cur[j]? = ([Value.int .i64 b, .int .i64 i] : List Value)[j]? := by
      intro j hj
      rw [← h4, List.getElem?_take_of_lt (by omega)]
      simp
    exact ⟨hgg, cur, hc, key 0 (by decide), key 1 (by decide)⟩

set_option maxHeartbeats 4000000 in
theorem first_walk (w : World) (b i now later : Int) (hb : (Lit.int .i64 b).wf = true) (hi : (Lit.int .i64 i).wf = true) :
    Calls Try.prog 4 #[.int .i64 b, .int .i64 i, .int .i64 now, .int .i64 later] w fun e w' => e = .returned (.bool true) ∧ Kept [] w w' := by
  obtain ⟨N, hN0, hN1, hN⟩ := modTo now 1000 (by decide) (by decide)
  obtain ⟨L, hL0, hL1, hL⟩ := modTo later 1000 (by decide) (by decide)
  have w1' : wrap64 (N + L) = N + L := IntWalk.wrap64_in _ (by omega)
  have w2' : wrap64 (N + 83) = N + 83 := IntWalk.wrap64_in _ (by omega)
  have w3' : wrap64 (N + 83 - 1) = N + 82 := by rw [show N + 83 - 1 = N + 82 by omega]; exact IntWalk.wrap64_in _ (by omega)
  have w4' : wrap64 (N + 83 + L) = N + 83 + L := IntWalk.wrap64_in _ (by omega)
  have HB : Hid (N < 1000 ∧ 0 ≤ N ∧ L < 1000 ∧ 0 ≤ L) := ⟨hN1, hN0, hL1, hL0⟩
  clear hN0 hN1 hL0 hL1
  go_enter Try.func4, Try.ntmps4
  go_wp2_with fail
  refine (lnew _).mono ?_
  rintro e w1 ⟨rfl, hk1, hb1, hm1⟩
  have h1 : Lst w1 (w.heap.size + 1) w.heap.size 0 (.slice none 0 0) (.map []) := ⟨hb1, hm1⟩
  clear hb1 hm1
  go_wp2_with fail
  refine (retire_new b i N hb hi (by decide) h1).mono ?_
  rintro e w2 ⟨g, cap, rfl, hk2, h2, hg, hr2⟩
  rw [timeI_in (by have := HB.out; omega) (by have := HB.out; omega)] at hr2
  have HK : Hid (Kept [] w w2) := hk1.over hk2 (by simp)
  clear hk1 hk2 h1
  go_wp2_with fail
  refine (retire_again b i (N + L) hb hi h2).mono ?_
  rintro e w3 ⟨rfl, hk3⟩
  have h3 := h2.kept hk3
  have hr3 := hr2.kept hk3 (by simp)
  have HK3 : Hid (Kept [] w w3) := HK.out.trans hk3
  clear HK hk3 h2 hr2
  go_wp2_with fail
  refine (all_one hb hi h3).mono ?_
  rintro e w4 ⟨g1, cap1, rfl, hk4, _⟩
  have h4 := h3.kept hk4
  have hr4 := hr3.kept hk4 (by simp)
  have HK4 : Hid (Kept [] w w4) := HK3.out.trans hk4
  clear HK3 hk4 h3 hr3
  go_wp2_with fail
  refine (wait40 _).mono ?_
  rintro e w' ⟨rfl, rfl⟩
  go_wp2_with fail
  refine (due_not (N + 82) h4 hr4 (by rw [timeI_in (by have := HB.out; omega) (by have := HB.out; omega)]; omega)).mono ?_
  rintro e w5 ⟨rfl, hk5⟩
  have h5 := h4.kept hk5
  have hr5 := hr4.kept hk5 (by simp)
  have HK5 : Hid (Kept [] w w5) := HK4.out.trans hk5
  clear HK4 hk5 h4 hr4
  go_wp2_with fail
  refine (due_yes (N + 83) hb hi h5 hr5 (by rw [timeI_in (by have := HB.out; omega) (by have := HB.out; omega)]; omega)).mono ?_
  rintro e w6 ⟨g6, cap6, rfl, hk6, ho6, D, h6, hD⟩
  have HK6 : Hid (Kept [] w w6) := HK5.out.over hk6 (by simp)
  clear HK5 hk6 h5 hr5
  obtain ⟨hg6, cur, hc6, x0, x1⟩ := row33_cells ho6
  clear ho6
  have HL6 := Lib.hid h6
  clear h6
  obtain ⟨A, hA⟩ : ∃ A, A = w6.alloc (.cells #[.int .i64 b, .int .i64 i] 33) := ⟨_, rfl⟩
  have hA1 : A.heap[g6]? = some (.cells cur 33 (0, 0)) := by rw [hA, Below.heap_alloc _ _ _ (Array.getElem?_eq_some_iff.1 hc6).1]; exact hc6
  have q0 : A.cell? ⟨g6, 0, none⟩ = some (.int .i64 b) := by rw [cell_heap hA1]; exact x0
  have q1 : A.cell? ⟨g6, 1, none⟩ = some (.int .i64 i) := by rw [cell_heap hA1]; exact x1
  obtain ⟨p0, p1⟩ := cell_new2 w6 (.int .i64 b) (.int .i64 i) 33
  have HKA : Hid (Kept [] w6 A) := by rw [hA]; exact (Kept.refl _ _).alloc _
  rw [← hA] at p0 p1
  have HA := Lib.hid hA
  clear hA hA1 hc6 x0 x1
  go_wp2_with fail
  rw [← HA.out]
  refine (equal_one q0 q1 p0 p1).mono ?_
  rintro e w7 ⟨rfl, hk7⟩
  have HK7 : Hid (Kept [] w w7) := HK6.out.trans (HKA.out.trans hk7)
  have h7 := HL6.out.kept (HKA.out.trans hk7)
  clear HL6 HKA HK6 hk7 p0 p1 q0 q1 HA
  go_wp2_with fail
  refine (due_empty (N + 83 + L) h7).mono ?_
  rintro e w8 ⟨rfl, hk8⟩
  go_wp2
  go_ret
  exact ⟨rfl, HK7.out.trans hk8⟩

theorem first_law (b i now later : Int) (w : World) (hb : (Lit.int .i64 b).wf = true) (hi : (Lit.int .i64 i).wf = true) (_ : (Lit.int .i64 now).wf = true) (_ : (Lit.int .i64 later).wf = true) :
    Calls Try.prog 4 #[.int .i64 b, .int .i64 i, .int .i64 now, .int .i64 later] w fun e w' => e = .returned (.bool true) ∧ Below w.heap.size w w' :=
  (first_walk w b i now later hb hi).mono fun _ _ ⟨h, hk⟩ => ⟨h, hk.below (Nat.le_refl _) (by simp)⟩
end Go.Proofs.Yteihlfeifnnpaaa
