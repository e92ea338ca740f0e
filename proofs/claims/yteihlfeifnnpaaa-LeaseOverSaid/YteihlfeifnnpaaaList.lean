/- The lease's list as an object in memory: its map's keys, and the walks of 'New', 'none', 'time', 'Wait'. -/
import Derived.Test.YteihlfeifnnpaaaNew
import Derived.WalkLawsBesides
namespace Go.Proofs.Yteihlfeifnnpaaa
open Go.RowKit Go.Maps Go.WideMaps Go.WideElems
set_option maxRecDepth 100000

theorem row33 : (33 : TypeId) < Try.prog.types.size := of_decide_eq_true (by kernel_rfl)
theorem wide33 : (match Try.prog.underlying 33 with | some (.array _ _) | some (.struct _) => true | _ => false) = true := by kernel_rfl
theorem keyLaw33 : KeyLaw Try.prog 33 := deep_law_laid laidOut (m := 3) (by omega) row33 (by kernel_rfl) wide33
theorem keyed33 : Keyed Try.prog 33 := Keyed.of_law keyLaw33
theorem keyType33 : Try.prog.keyType 33 = true := by kernel_rfl
theorem cells33 : Try.prog.cellsOf 33 = 2 := by kernel_rfl
theorem zero4 (w : World) : (zeroValue 4).run Try.prog w = .ok (.bool false) w := by kernel_rfl

theorem lits33 (d : Nat) (a b : Int) (ha : (Lit.int .i64 a).wf = true) (hb : (Lit.int .i64 b).wf = true) : Program.keyLits Try.prog (d + 2) 33 [.int .i64 a, .int .i64 b] = some [.int .i64 a, .int .i64 b] := by
  unfold Program.keyLits
  simp only [Try.underlying33, cells33]
  simp [cells3, List.range_succ, lits3 d a ha, lits3 d b hb]

theorem keyOf33 (a b : Int) (ha : (Lit.int .i64 a).wf = true) (hb : (Lit.int .i64 b).wf = true) : ∃ kl, keyOf Try.prog 33 (pairV a b) = some kl := by
  have hf : (pairV a b).formed Try.prog 33 = true := by simp [Value.formed, Try.underlying33, cells33]
  have hl := lits33 117 a b ha hb
  rw [← size2] at hl
  unfold keyOf
  simp only [Try.underlying33, keyType33, hf]
  have hc : (pairV a b).cells.toList = [.int .i64 a, .int .i64 b] := rfl
  rw [hc, hl]
  exact ⟨_, rfl⟩

/-- what a shard reads as, as a key -/
noncomputable def sk (a b : Int) : Lit := (keyOf Try.prog 33 (pairV a b)).getD .nil

theorem keyOf_sk (a b : Int) (ha : (Lit.int .i64 a).wf = true) (hb : (Lit.int .i64 b).wf = true) : keyOf Try.prog 33 (pairV a b) = some (sk a b) := by
  obtain ⟨kl, h⟩ := keyOf33 a b ha hb
  unfold sk; rw [h]; rfl

set_option maxHeartbeats 400000 in
theorem lnew (w : World) : Calls Try.prog 12 #[] w fun e w' => e = .returned (.pointer (some ⟨w.heap.size + 1, 0, none⟩)) ∧ Kept [] w w' ∧
    w'.heap[w.heap.size + 1]? = some (.cells #[.map (some w.heap.size), .slice none 0 0] 41 (0, 0)) ∧ w'.ownsMap (H := Unit) Try.prog 33 (plainElem Try.prog 4) w.heap.size 0 (.map []) := by
  have hmm := @run_makeMap Try.prog
  go_enter Try.func12, Try.ntmps12
  go_wp2
  go_ret
  refine ⟨rfl, ((Kept.refl _ _).alloc _).alloc _, ?_, (World.ownsMap_made w Try.prog 33 _).alloc _⟩
  have := (MapKept.heap_alloc (w.alloc (.map #[] 0)) (.cells #[.map (some w.heap.size), .slice none 0 0] 41)).1
  rw [World.size_alloc] at this
  exact this

def timeI (t : Int) : Int := if t < 0 then 0 else if 1099511627776 < t then 1099511627776 else t

set_option maxHeartbeats 400000 in
theorem time_any (t : Int) (w : World) : Calls Try.prog 22 #[.int .i64 t] w fun e w' => e = .returned (.int .i64 (timeI t)) ∧ w' = w := by
  by_cases h0 : t < 0
  · have hd : Hid (timeI t = 0) := if_pos h0
    go_enter Try.func22, Try.ntmps22
    go_wp2
    go_ret
    exact ⟨ret_int hd.out.symm, rfl⟩
  · by_cases h1 : 1099511627776 < t
    · have hd : Hid (timeI t = 1099511627776) := by show timeI t = _; unfold timeI; rw [if_neg h0, if_pos h1]
      go_enter Try.func22, Try.ntmps22
      go_wp2
      go_ret
      exact ⟨ret_int hd.out.symm, rfl⟩
    · have hd : Hid (timeI t = t) := by show timeI t = _; unfold timeI; rw [if_neg h0, if_neg h1]
      go_enter Try.func22, Try.ntmps22
      go_wp2
      go_ret
      exact ⟨ret_int hd.out.symm, rfl⟩

set_option maxHeartbeats 400000 in
theorem wait40 (w : World) : Calls Try.prog 15 #[.int .i64 40] w fun e w' => e = .returned (.int .i64 83) ∧ w' = w := by
  go_enter Try.func15, Try.ntmps15
  go_wp2
  go_ret
  exact ⟨rfl, rfl⟩

set_option maxHeartbeats 400000 in
theorem none_no {w : World} {c m : Nat} {v : Value} (hb : w.heap[c]? = some (.cells #[.map (some m), v] 41 (0, 0))) : Calls Try.prog 24 #[.pointer (some ⟨c, 0, none⟩)] w fun e w' => e = .returned (.bool false) ∧ w = w' := by
  have c0 : w.cell? ⟨c, 0, none⟩ = some (.map (some m)) := by simp [World.cell?, hb]
  have hmn := fun w => run_eql_map_nil (P := Try.prog) w 37 33 4 (some m) Try.underlying37
  clear hb
  go_enter Try.func24, Try.ntmps24
  go_wp2
  go_ret
  exact ⟨rfl, rfl⟩
end Go.Proofs.Yteihlfeifnnpaaa
