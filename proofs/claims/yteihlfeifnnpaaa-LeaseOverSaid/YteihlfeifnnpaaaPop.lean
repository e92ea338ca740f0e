/- The walks of heap.Pop on one item, and of Due where the item is due. -/
import Derived.Test.YteihlfeifnnpaaaDue
namespace Go.Proofs.Yteihlfeifnnpaaa
open Go.RowKit Go.Maps Go.WideMaps Go.WideElems
set_option maxRecDepth 100000

theorem setCell_self {w : World} {a : Addr} {v : Value} (h : w.cell? a = some v) : w.setCell a v = w := by
  unfold World.cell? at h
  unfold World.setCell
  generalize hf : (fun o : Obj => match o with
      | .cells c elem frozen => Obj.cells (if a.spot.isSome then c else c.setIfInBounds a.off v) elem frozen
      | o => o) = f
  have : w.heap.modify a.block f = w.heap := by
    apply Array.ext_getElem?
    intro j
    rw [Array.getElem?_modify]
    split
    · rename_i e
      subst e
      cases hh : w.heap[a.block]? with
      | none => rfl
      | some o =>
        rw [hh] at h
        cases o with
        | cells c t fz =>
          subst hf
          simp only [Option.map_some]
          congr 2
          by_cases hs : a.spot.isSome = true
          · simp [hs]
          · simp only [hs] at h ⊢
            have h' : c[a.off]? = some v := by simpa using h
            apply Array.ext_getElem?
            intro j
            by_cases e : a.off = j
            · subst e
              obtain ⟨l1, l2⟩ := Array.getElem?_eq_some_iff.1 h'
              simp [l1]
              exact l2.symm
            · simp [Array.getElem?_setIfInBounds_ne e]
        | _ => simp at h
    · rfl
  rw [this]

set_option maxHeartbeats 2000000 in
theorem swap_00 {w : World} {g cap : Nat} {b i d : Int} (hr : Row1 w g cap b i d) :
    Calls Try.prog 78 #[.slice (some ⟨g, 0, none⟩) 1 cap, .int .i64 0, .int .i64 0] w fun e w' => e = .returned (.tuple #[]) ∧ w' = w.drew := by
  obtain ⟨r0, r1, r2⟩ := row1_cells hr
  have s0 := setCell_self r0
  have s1 := setCell_self r1
  have s2 := setCell_self r2
  obtain ⟨cur, hb, _⟩ := hr
  have f0 : ∀ o, w.frozen? ⟨g, o, none⟩ = false := fun o => by simp [World.frozen?, hb]
  clear hb
  go_enter Try.func78, Try.ntmps78
  go_wp2
  go_region
  go_wp2
  go_end0
  exact ⟨rfl, rfl⟩

set_option maxHeartbeats 1000000 in
theorem down_0 (h : Value) (w : World) : Calls Try.prog 38 #[h, .int .i64 0, .int .i64 0] w fun e w' => e = .returned (.bool false) ∧ w' = w := by
  go_enter Try.func38, Try.ntmps38
  go_wp2
  refine wp_loop_rounds 1 ?_
  rw [rounds_succ]
  go_wp2
  go_ret
  exact ⟨rfl, rfl⟩

set_option maxHeartbeats 2000000 in
theorem pop_one {w : World} {c m g cap : Nat} {b i d : Int} (hb : w.heap[c]? = some (.cells #[.map (some m), .slice (some ⟨g, 0, none⟩) 1 cap] 41 (0, 0))) (hr : Row1 w g cap b i d) :
    Calls Try.prog 79 #[.pointer (some ⟨c, 1, none⟩)] w fun e w' => e = .returned (.iface 54 (itemV b i d)) ∧ Kept [c] w w' ∧ w'.heap[c]? = some (.cells #[.map (some m), .slice (some ⟨g, 0, none⟩) 0 cap] 41 (0, 0)) := by
  obtain ⟨r0, r1, r2⟩ := row1_cells hr
  have c1 : w.cell? ⟨c, 1, none⟩ = some (.slice (some ⟨g, 0, none⟩) 1 cap) := cell_heap hb 1
  have f1 : w.frozen? ⟨c, 1, none⟩ = false := by simp [World.frozen?, hb]
  have hcl := (Array.getElem?_eq_some_iff.1 hb).1
  have hbA := (Below.heap_alloc w (.cells #[.int .i64 b, .int .i64 i, .int .i64 d] 54) c hcl).trans hb
  have cA : (w.alloc (.cells #[.int .i64 b, .int .i64 i, .int .i64 d] 54)).cell? ⟨c, 1, none⟩ = some (.slice (some ⟨g, 0, none⟩) 1 cap) := cell_heap hbA 1
  have fA : (w.alloc (.cells #[.int .i64 b, .int .i64 i, .int .i64 d] 54)).frozen? ⟨c, 1, none⟩ = false := by simp only [World.frozen?, hbA]; simp
  have hnA := (MapKept.heap_alloc w (.cells #[.int .i64 b, .int .i64 i, .int .i64 d] 54)).1
  have hnB : ((w.alloc (.cells #[.int .i64 b, .int .i64 i, .int .i64 d] 54)).setCell ⟨c, 1, none⟩ (.slice (some ⟨g, 0, none⟩) 0 cap)).heap[w.heap.size]? = some (.cells #[.int .i64 b, .int .i64 i, .int .i64 d] 54 (0, 0)) := by
    rw [Below.heap_setCell _ ⟨c, 1, none⟩ _ _ (show w.heap.size ≠ c by omega)]; exact hnA
  have b0 := cell_heap hnB 0
  have b1 := cell_heap hnB 1
  have b2 := cell_heap hnB 2
  simp only [List.getElem?_toArray, List.getElem?_cons_zero, List.getElem?_cons_succ] at b0 b1 b2
  have hK : Hid (Kept [c] w ((w.alloc (.cells #[.int .i64 b, .int .i64 i, .int .i64 d] 54)).setCell ⟨c, 1, none⟩ (.slice (some ⟨g, 0, none⟩) 0 cap))) :=
    ((Kept.refl _ _).alloc _).setCell (Or.inl (by simp)) _
  have hE : Hid (((w.alloc (.cells #[.int .i64 b, .int .i64 i, .int .i64 d] 54)).setCell ⟨c, 1, none⟩ (.slice (some ⟨g, 0, none⟩) 0 cap)).heap[c]? = some (.cells #[.map (some m), .slice (some ⟨g, 0, none⟩) 0 cap] 41 (0, 0))) := by
    show _ = _
    simp only [World.setCell, Array.getElem?_modify, hbA]
    simp
  clear hb hbA hnA hnB hr hcl
  go_enter Try.func79, Try.ntmps79
  go_wp2
  go_ret
  exact ⟨rfl, hK.out, hE.out⟩
end Go.Proofs.Yteihlfeifnnpaaa
