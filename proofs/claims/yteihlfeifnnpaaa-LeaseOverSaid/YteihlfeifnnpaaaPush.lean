/- The walks of the items' Push, of the heap's up and Push, and of Retire. -/
import Derived.Test.YteihlfeifnnpaaaList
import Derived.Deep.AppendLies
import Derived.Deep.RegionLaw
namespace Go.Proofs.Yteihlfeifnnpaaa
open Go.RowKit Go.Maps Go.WideMaps Go.WideElems
set_option maxRecDepth 100000

abbrev itemV (b i d : Int) : Value := .agg #[.int .i64 b, .int .i64 i, .int .i64 d]

theorem info54 : (Try.prog.info? 54).map (fun i => (i.zero, i.size, i.bytes)) = some (some (itemV 0 0 0), 3, 24) := by kernel_rfl

theorem cell_heap {w : World} {b : Nat} {cs : Array Value} {t : TypeId} {f : Nat × Nat} (h : w.heap[b]? = some (.cells cs t f)) (o : Nat) : w.cell? ⟨b, o, none⟩ = cs[o]? := by
  simp only [World.cell?, h]
  rfl

theorem cell_three_new (w : World) (x y z : Value) (t : TypeId) : ∀ j u, [x, y, z][j]? = some u → (w.alloc (.cells #[x, y, z] t)).cell? ((⟨w.heap.size, 0, none⟩ : Addr).add j) = some u := by
  intro j u hj
  have hb := (MapKept.heap_alloc w (.cells #[x, y, z] t)).1
  match j, hj with
  | 0, hj => simp at hj; subst hj; exact cell_heap hb 0
  | 1, hj => simp at hj; subst hj; exact cell_heap hb 1
  | 2, hj => simp at hj; subst hj; exact cell_heap hb 2
  | j + 3, hj => simp at hj

theorem assert54 (v : Value) (w : World) : (Instr.typeAssert (.iface 54 v) 20 54 true).run Try.prog w = .ok (.tuple #[v, .bool true]) w := by kernel_rfl

abbrev pushW (w : World) (b i d : Int) : World := ((w.alloc (.cells #[.int .i64 b, .int .i64 i, .int .i64 d] 54)).alloc (.cells #[.int .i64 b, .int .i64 i, .int .i64 d] 54)).drew

theorem push_box {w w1 : World} {c m : Nat} {b i d : Int} (hb : w.heap[c]? = some (.cells #[.map (some m), .slice none 0 0] 41 (0, 0))) (hg : (pushW w b i d).grownBy w1 (Value.slice none 0 0).ownBlock) :
    w1.cell? ⟨c, 1, none⟩ = some (.slice none 0 0) ∧ w1.frozen? ⟨c, 1, none⟩ = false ∧ w1.heap[c]? = some (.cells #[.map (some m), .slice none 0 0] 41 (0, 0)) := by
  have hcl := (Array.getElem?_eq_some_iff.1 hb).1
  have h1 : w1.heap[c]? = some (.cells #[.map (some m), .slice none 0 0] 41 (0, 0)) := by
    rw [hg.block c (by
      show c < ((w.alloc (.cells #[.int .i64 b, .int .i64 i, .int .i64 d] 54)).alloc (.cells #[.int .i64 b, .int .i64 i, .int .i64 d] 54)).heap.size
      rw [World.size_alloc, World.size_alloc]; omega) (by simp [Value.ownBlock])]
    show ((w.alloc (.cells #[.int .i64 b, .int .i64 i, .int .i64 d] 54)).alloc (.cells #[.int .i64 b, .int .i64 i, .int .i64 d] 54)).heap[c]? = _
    rw [Below.heap_alloc _ _ _ (by rw [World.size_alloc]; omega), Below.heap_alloc _ _ _ hcl]
    exact hb
  exact ⟨cell_heap h1 1, by simp [World.frozen?, h1], h1⟩

theorem push_end {w w1 : World} {c m g cap : Nat} {b i d : Int} (hb : w.heap[c]? = some (.cells #[.map (some m), .slice none 0 0] 41 (0, 0))) (hg : (pushW w b i d).grownBy w1 (Value.slice none 0 0).ownBlock)
    (ho : w1.ownsRow w.heap.size 54 3 (.slice (some ⟨g, 0, none⟩) 1 cap) 1 [.int .i64 b, .int .i64 i, .int .i64 d]) :
    Kept [c] w (w1.setCell ⟨c, 1, none⟩ (.slice (some ⟨g, 0, none⟩) 1 cap)) ∧
      (w1.setCell ⟨c, 1, none⟩ (.slice (some ⟨g, 0, none⟩) 1 cap)).heap[c]? = some (.cells #[.map (some m), .slice (some ⟨g, 0, none⟩) 1 cap] 41 (0, 0)) ∧
      (w1.setCell ⟨c, 1, none⟩ (.slice (some ⟨g, 0, none⟩) 1 cap)).ownsRow w.heap.size 54 3 (.slice (some ⟨g, 0, none⟩) 1 cap) 1 [.int .i64 b, .int .i64 i, .int .i64 d] := by
  have hcl := (Array.getElem?_eq_some_iff.1 hb).1
  obtain ⟨_, _, h1⟩ := push_box hb hg
  refine ⟨(((((Kept.refl _ _).alloc _).alloc _).drew).grown hg (fun j hj => by simp [Value.ownBlock] at hj)).setCell (Or.inl (by simp)) _, ?_, ?_⟩
  · simp [World.setCell, Array.getElem?_modify, h1]
  · obtain ⟨o1, o2⟩ := ho
    refine ⟨o1, ?_⟩
    rcases o2 with ⟨e, _⟩ | ⟨g', cap', cur, e, hgg, hc, rest⟩
    · simp at e
    · exact Or.inr ⟨g', cap', cur, e, hgg, by rw [Below.heap_setCell _ ⟨c, 1, none⟩ _ _ (show g' ≠ c by omega)]; exact hc, rest⟩

set_option maxHeartbeats 2000000 in
theorem push_any {w : World} {c m : Nat} (b i d : Int) (hb : w.heap[c]? = some (.cells #[.map (some m), .slice none 0 0] 41 (0, 0))) :
    Calls Try.prog 80 #[.pointer (some ⟨c, 1, none⟩), .iface 54 (itemV b i d)] w fun e w' => ∃ g cap, e = .returned (.tuple #[]) ∧ Kept [c] w w' ∧
      w'.heap[c]? = some (.cells #[.map (some m), .slice (some ⟨g, 0, none⟩) 1 cap] 41 (0, 0)) ∧ w'.ownsRow w.heap.size 54 3 (.slice (some ⟨g, 0, none⟩) 1 cap) 1 [.int .i64 b, .int .i64 i, .int .i64 d] := by
  obtain ⟨i0, hi, hz0, hz1, hz2⟩ := info_parts info54
  have has := assert54
  have hcl := (Array.getElem?_eq_some_iff.1 hb).1
  have c1 : w.cell? ⟨c, 1, none⟩ = some (.slice none 0 0) := by simp [World.cell?, hb]
  go_enter Try.func80, Try.ntmps80
  go_wp2
  have c2 : (w.alloc (.cells #[.int .i64 b, .int .i64 i, .int .i64 d] 54)).cell? ⟨c, 1, none⟩ = some (.slice none 0 0) := by
    rw [World.cell?_of_block (Below.heap_alloc _ _ _ hcl)]; exact c1
  have c3 : ((w.alloc (.cells #[.int .i64 b, .int .i64 i, .int .i64 d] 54)).alloc (.cells #[.int .i64 b, .int .i64 i, .int .i64 d] 54)).cell? ⟨c, 1, none⟩ = some (.slice none 0 0) := by
    rw [World.cell?_of_block (Below.heap_alloc _ _ _ (by rw [World.size_alloc]; exact Nat.lt_succ_of_lt hcl))]; exact c2
  have hnw : Hid (∀ j u, ([.int .i64 b, .int .i64 i, .int .i64 d] : List Value)[j]? = some u → ((w.alloc (.cells #[.int .i64 b, .int .i64 i, .int .i64 d] 54)).alloc (.cells #[.int .i64 b, .int .i64 i, .int .i64 d] 54)).cell? ((⟨w.heap.size + 1, 0, none⟩ : Addr).add j) = some u) := by
    have := cell_three_new (w.alloc (.cells #[.int .i64 b, .int .i64 i, .int .i64 d] 54)) (.int .i64 b) (.int .i64 i) (.int .i64 d) 54
    rw [World.size_alloc] at this
    exact this
  have hone : Hid (∀ u ∈ ([.int .i64 b, .int .i64 i, .int .i64 d] : List Value), u.oneCell' = true) := by
    intro u hu; simp at hu; rcases hu with rfl | rfl | rfl <;> rfl
  have hown : Hid (((w.alloc (.cells #[.int .i64 b, .int .i64 i, .int .i64 d] 54)).alloc (.cells #[.int .i64 b, .int .i64 i, .int .i64 d] 54)).ownsRow w.heap.size 54 3 (.slice none 0 0) 0 []) := ⟨rfl, Or.inl ⟨rfl, rfl⟩⟩
  have hbs : Hid (w.heap.size ≤ ((w.alloc (.cells #[.int .i64 b, .int .i64 i, .int .i64 d] 54)).alloc (.cells #[.int .i64 b, .int .i64 i, .int .i64 d] 54)).heap.size) := by
    show w.heap.size ≤ ((w.alloc (.cells #[.int .i64 b, .int .i64 i, .int .i64 d] 54)).alloc (.cells #[.int .i64 b, .int .i64 i, .int .i64 d] 54)).heap.size
    rw [World.size_alloc, World.size_alloc]; omega
  have HB := Lib.hid hb
  clear hb
  go_region_law ((refine step_append_lies _ rfl _ _ 39 rfl w.heap.size 54 i0 (itemV 0 0 0) 3 24 Try.underlying39 hi hz0 hz1 hz2 rfl (by decide) (.slice none 0 0) 0 _ rfl hown.out ⟨w.heap.size + 1, 0, none⟩ 1 1 [.int .i64 b, .int .i64 i, .int .i64 d] rfl rfl hnw.out hone.out (by decide) (by decide) (by decide) hbs.out _ rfl ?_; intro g cap w1 hown1 hgrow hat hglt; have hst := push_box HB.out hgrow; obtain ⟨hst1, hst2, hst0⟩ := hst))
  all_goals
    have HF := Lib.hid (push_end HB.out hgrow hown1)
    clear hown1 hgrow hat
    go_wp2
    go_end0
    exact ⟨g, cap, rfl, HF.out⟩
end Go.Proofs.Yteihlfeifnnpaaa
