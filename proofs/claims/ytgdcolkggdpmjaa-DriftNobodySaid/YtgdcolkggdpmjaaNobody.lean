/- The walk of DriftNobody: clocks that no call made. -/
import Derived.Test.YtgdcolkggdpmjaaLives
namespace Go.Proofs.Ytgdcolkggdpmjaa
open Go.RowKit Go.Maps Go.WideMaps Go.WideElems
set_option maxRecDepth 100000

/-- a pointer to clocks that no call made: nil, or to the zero value -/
def NoClk (w : World) (v : Value) : Prop :=
  v = .pointer none ∨ ∃ b, v = .pointer (some ⟨b, 0, none⟩) ∧ w.heap[b]? = some (.cells #[.slice none 0 0, .map none] 41 (0, 0))

set_option maxHeartbeats 400000 in
theorem nohas (w : World) (v : Value) (h : NoClk w v) (x : Int) : Calls Try.prog 21 #[v, .int .i64 x] w fun e w' => e = .returned (.bool false) ∧ w = w' := by
  have hmn := fun w => run_neq_map_nil (P := Try.prog) w 39 44 3 none Try.underlying39
  rcases h with rfl | ⟨b, rfl, hb⟩
  · go_enter Try.func21, Try.ntmps21
    go_wp2
    go_ret
    exact ⟨rfl, rfl⟩
  · have c1 : w.cell? ⟨b, 1, none⟩ = some (.map none) := by simp [World.cell?, hb]
    go_enter Try.func21, Try.ntmps21
    go_wp2
    go_ret
    exact ⟨rfl, rfl⟩

set_option maxHeartbeats 400000 in
theorem notick (w : World) (v : Value) (h : NoClk w v) (x : Int) : Calls Try.prog 13 #[v, .int .i64 x] w fun e w' => e = .returned (.int .i64 2) ∧ w = w' := by
  have hmn := fun w => run_eql_map_nil (P := Try.prog) w 39 44 3 none Try.underlying39
  rcases h with rfl | ⟨b, rfl, hb⟩
  · go_enter Try.func13, Try.ntmps13
    go_wp2
    go_ret
    exact ⟨rfl, rfl⟩
  · have c1 : w.cell? ⟨b, 1, none⟩ = some (.map none) := by simp [World.cell?, hb]
    go_enter Try.func13, Try.ntmps13
    go_wp2
    go_ret
    exact ⟨rfl, rfl⟩

set_option maxHeartbeats 400000 in
theorem nonow (w : World) (v : Value) (h : NoClk w v) (x : Int) : Calls Try.prog 15 #[v, .int .i64 x] w fun e w' => e = .returned (.int .i64 0) ∧ w = w' := by
  have hc := nohas w v h x
  clear h
  go_enter Try.func15, Try.ntmps15
  go_wp2_with fail
  refine hc.mono ?_
  rintro e w' ⟨rfl, rfl⟩
  go_wp2
  go_ret
  exact ⟨rfl, rfl⟩

set_option maxHeartbeats 400000 in
theorem nomay (w : World) (v : Value) (h : NoClk w v) (x : Int) : Calls Try.prog 14 #[v, .int .i64 x] w fun e w' => e = .returned (.bool false) ∧ w = w' := by
  have hc := nohas w v h x
  clear h
  go_enter Try.func14, Try.ntmps14
  go_wp2_with fail
  refine hc.mono ?_
  rintro e w' ⟨rfl, rfl⟩
  go_wp2
  go_ret
  exact ⟨rfl, rfl⟩

set_option maxHeartbeats 1000000 in
theorem nobody_law (x : Int) (w : World) (_ : (Lit.int .i64 x).wf = true) : Calls Try.prog 9 #[.int .i64 x] w fun e w' => e = .returned (.bool true) ∧ Below w.heap.size w w' := by
  go_enter Try.func9, Try.ntmps9
  go_wp2_with fail
  have hb1 := (MapKept.heap_alloc (w.alloc (.cells #[.slice none 0 0, .map none] 41)) (.cells #[.pointer none, .pointer (some ⟨w.heap.size, 0, none⟩)] 26)).1
  have hb0 : ((w.alloc (.cells #[.slice none 0 0, .map none] 41)).alloc (.cells #[.pointer none, .pointer (some ⟨w.heap.size, 0, none⟩)] 26)).heap[w.heap.size]? = some (.cells #[.slice none 0 0, .map none] 41 (0, 0)) := by
    rw [Below.heap_alloc _ _ _ (by rw [World.size_alloc]; omega)]
    exact (MapKept.heap_alloc w _).1
  rw [World.size_alloc] at hb1
  have hbel : Below w.heap.size w ((w.alloc (.cells #[.slice none 0 0, .map none] 41)).alloc (.cells #[.pointer none, .pointer (some ⟨w.heap.size, 0, none⟩)] 26)) := ((Below.refl _ _).alloc (Nat.le_refl _) _).alloc (by rw [World.size_alloc]; omega) _
  generalize (w.alloc (.cells #[.slice none 0 0, .map none] 41)).alloc (.cells #[.pointer none, .pointer (some ⟨w.heap.size, 0, none⟩)] 26) = W at hb1 hb0 hbel ⊢
  have c0 : W.cell? ⟨w.heap.size + 1, 0, none⟩ = some (.pointer none) := by simp [World.cell?, hb1]
  have c1 : W.cell? ⟨w.heap.size + 1, 1, none⟩ = some (.pointer (some ⟨w.heap.size, 0, none⟩)) := by simp [World.cell?, hb1]
  clear hb1
  go_loopw [4, 9] (fun _ i wr => ∃ k : Nat, k ≤ 2 ∧ i = .int .i64 k ∧ W = wr) (fun _ i _ => 2 - (intOf i).toNat)
  case atStart => exact ⟨0, by omega, rfl, rfl⟩
  case round =>
    obtain ⟨k, hk, rfl, rfl⟩ := hrel
    by_cases hlt : k < 2
    · obtain ⟨v, hv, hc⟩ : ∃ v, NoClk W v ∧ W.cell? ⟨w.heap.size + 1, k, none⟩ = some v := by
        rcases (show k = 0 ∨ k = 1 by omega) with rfl | rfl
        · exact ⟨_, Or.inl rfl, c0⟩
        · exact ⟨_, Or.inr ⟨_, rfl, hb0⟩, c1⟩
      clear c0 c1 hb0
      go_wp2_with fail
      refine (notick W v hv x).mono ?_
      rintro e w2 ⟨rfl, rfl⟩
      go_wp2_with fail
      refine (nonow W v hv x).mono ?_
      rintro e w2 ⟨rfl, rfl⟩
      go_wp2_with fail
      refine (nomay W v hv x).mono ?_
      rintro e w2 ⟨rfl, rfl⟩
      go_wp2
      go_roundw
      case rel => exact ⟨k + 1, by omega, by go_num, trivial⟩
      case measure => simp [intOf]; omega
    · clear c0 c1 hb0
      have hn := (MapKept.heap_alloc W (.cells #[.int .i64 0] 3)).1
      have hints : Ints (W.alloc (.cells #[.int .i64 0] 3)) (some ⟨W.heap.size, 0, none⟩) 1 (fun _ => 0) :=
        ⟨by omega, fun i hi => ⟨W.heap.size, 0, rfl, by simp, by obtain rfl : i = 0 := by omega
                                                                 simp only [World.cell?, hn]; rfl, by decide⟩⟩
      have hlv := lives_any 1 _ 1 1 _ _ hints
      clear hn
      go_wp2_with fail
      refine hlv.mono ?_
      rintro e w2 ⟨rfl, hb2⟩
      go_wp2
      go_ret
      have h3 := (hbel.alloc hbel.size (.cells #[.int .i64 0] 3))
      exact ⟨rfl, h3.trans (hb2.mono h3.size)⟩
end Go.Proofs.Ytgdcolkggdpmjaa
