/- The walk of LeaseNobody. -/
import Derived.Test.YteihlfeifnnpaaaEnds
namespace Go.Proofs.Yteihlfeifnnpaaa
open Go.RowKit Go.Maps Go.WideMaps Go.WideElems
set_option maxRecDepth 100000

/-- a list that no call made -/
def NoLst (w : World) (v : Value) : Prop := v = .pointer none ∨ ∃ c, v = .pointer (some ⟨c, 0, none⟩) ∧ w.heap[c]? = some (.cells #[.map none, .slice none 0 0] 41 (0, 0))

set_option maxHeartbeats 1000000 in
theorem none_yes (w : World) (v : Value) (h : NoLst w v) : Calls Try.prog 24 #[v] w fun e w' => e = .returned (.bool true) ∧ w = w' := by
  rcases h with rfl | ⟨c, rfl, hb⟩
  · go_enter Try.func24, Try.ntmps24
    go_wp2
    go_ret
    exact ⟨rfl, rfl⟩
  · have c0 : w.cell? ⟨c, 0, none⟩ = some (.map none) := cell_heap hb 0
    have hmn := fun w => run_eql_map_nil (P := Try.prog) w 37 33 4 none Try.underlying37
    clear hb
    go_enter Try.func24, Try.ntmps24
    go_wp2
    go_ret
    exact ⟨rfl, rfl⟩

set_option maxHeartbeats 1000000 in
theorem no_retire (w : World) (v : Value) (h : NoLst w v) (b i t : Int) : Calls Try.prog 13 #[v, .int .i64 b, .int .i64 i, .int .i64 t] w fun e w' => e = .returned (.int .i64 2) ∧ w = w' := by
  have hn := none_yes w v h
  clear h
  go_enter Try.func13, Try.ntmps13
  go_wp2_with fail
  refine hn.mono ?_
  rintro e w' ⟨rfl, rfl⟩
  go_wp2
  go_ret
  exact ⟨rfl, rfl⟩

set_option maxHeartbeats 1000000 in
theorem no_keep (w : World) (v : Value) (h : NoLst w v) (b i : Int) : Calls Try.prog 18 #[v, .int .i64 b, .int .i64 i] w fun e w' => e = .returned (.int .i64 2) ∧ w = w' := by
  have hn := none_yes w v h
  clear h
  go_enter Try.func18, Try.ntmps18
  go_wp2_with fail
  refine hn.mono ?_
  rintro e w' ⟨rfl, rfl⟩
  go_wp2
  go_ret
  exact ⟨rfl, rfl⟩

set_option maxHeartbeats 1000000 in
theorem no_due (w : World) (v : Value) (h : NoLst w v) (t : Int) : Calls Try.prog 16 #[v, .int .i64 t] w fun e w' => e = .returned (.slice none 0 0) ∧ w = w' := by
  have hn := none_yes w v h
  clear h
  go_enter Try.func16, Try.ntmps16
  go_wp2_with fail
  refine hn.mono ?_
  rintro e w' ⟨rfl, rfl⟩
  go_wp2
  go_ret
  exact ⟨rfl, rfl⟩

set_option maxHeartbeats 1000000 in
theorem no_all (w : World) (v : Value) (h : NoLst w v) : Calls Try.prog 14 #[v] w fun e w' => e = .returned (.slice none 0 0) ∧ w = w' := by
  have hn := none_yes w v h
  clear h
  go_enter Try.func14, Try.ntmps14
  go_wp2_with fail
  refine hn.mono ?_
  rintro e w' ⟨rfl, rfl⟩
  go_wp2
  go_ret
  exact ⟨rfl, rfl⟩

set_option maxHeartbeats 1000000 in
theorem nobody_law (b i x : Int) (w : World) (_ : (Lit.int .i64 b).wf = true) (_ : (Lit.int .i64 i).wf = true) (_ : (Lit.int .i64 x).wf = true) :
    Calls Try.prog 6 #[.int .i64 b, .int .i64 i, .int .i64 x] w fun e w' => e = .returned (.bool true) ∧ Below w.heap.size w w' := by
  go_enter Try.func6, Try.ntmps6
  go_wp2_with fail
  have hb1 := (MapKept.heap_alloc (w.alloc (.cells #[.map none, .slice none 0 0] 41)) (.cells #[.pointer none, .pointer (some ⟨w.heap.size, 0, none⟩)] 25)).1
  have hb0 : ((w.alloc (.cells #[.map none, .slice none 0 0] 41)).alloc (.cells #[.pointer none, .pointer (some ⟨w.heap.size, 0, none⟩)] 25)).heap[w.heap.size]? = some (.cells #[.map none, .slice none 0 0] 41 (0, 0)) := by
    rw [Below.heap_alloc _ _ _ (by rw [World.size_alloc]; omega)]
    exact (MapKept.heap_alloc w _).1
  rw [World.size_alloc] at hb1
  have hbel : Below w.heap.size w ((w.alloc (.cells #[.map none, .slice none 0 0] 41)).alloc (.cells #[.pointer none, .pointer (some ⟨w.heap.size, 0, none⟩)] 25)) := ((Below.refl _ _).alloc (Nat.le_refl _) _).alloc (by rw [World.size_alloc]; omega) _
  generalize (w.alloc (.cells #[.map none, .slice none 0 0] 41)).alloc (.cells #[.pointer none, .pointer (some ⟨w.heap.size, 0, none⟩)] 25) = W at hb1 hb0 hbel ⊢
  have c0 : W.cell? ⟨w.heap.size + 1, 0, none⟩ = some (.pointer none) := by simp [World.cell?, hb1]
  have c1 : W.cell? ⟨w.heap.size + 1, 1, none⟩ = some (.pointer (some ⟨w.heap.size, 0, none⟩)) := by simp [World.cell?, hb1]
  clear hb1
  go_loopw [8, 13] (fun _ i wr => ∃ k : Nat, k ≤ 2 ∧ i = .int .i64 k ∧ W = wr) (fun _ i _ => 2 - (intOf i).toNat)
  case atStart => exact ⟨0, by omega, rfl, rfl⟩
  case round =>
    obtain ⟨k, hk, rfl, rfl⟩ := hrel
    by_cases hlt : k < 2
    · obtain ⟨v, hv, hc⟩ : ∃ v, NoLst W v ∧ W.cell? ⟨w.heap.size + 1, k, none⟩ = some v := by
        rcases (show k = 0 ∨ k = 1 by omega) with rfl | rfl
        · exact ⟨_, Or.inl rfl, c0⟩
        · exact ⟨_, Or.inr ⟨_, rfl, hb0⟩, c1⟩
      clear c0 c1 hb0
      go_wp2_with fail
      refine (no_retire W v hv b i x).mono ?_
      rintro e w2 ⟨rfl, rfl⟩
      go_wp2_with fail
      refine (no_keep W v hv b i).mono ?_
      rintro e w2 ⟨rfl, rfl⟩
      go_wp2_with fail
      refine (no_due W v hv x).mono ?_
      rintro e w2 ⟨rfl, rfl⟩
      go_wp2_with fail
      refine (no_all W v hv).mono ?_
      rintro e w2 ⟨rfl, rfl⟩
      go_wp2
      go_roundw
      case rel => exact ⟨k + 1, by omega, by go_num, trivial⟩
      case measure => simp [intOf]; omega
    · clear c0 c1 hb0
      go_wp2_with fail
      refine (ends_law 1 2 3 true W (by decide) (by decide) (by decide)).mono ?_
      rintro e w2 ⟨rfl, hb2⟩
      go_wp2
      go_ret
      exact ⟨rfl, hbel.trans (hb2.mono hbel.size)⟩
end Go.Proofs.Yteihlfeifnnpaaa
