/- The walk of Retire: on a list that is empty, and on one that holds the shard. -/
import Derived.Test.YteihlfeifnnpaaaRetire
import Derived.StillTailTactics
namespace Go.Proofs.Yteihlfeifnnpaaa
open Go.RowKit Go.Maps Go.WideMaps Go.WideElems
set_option maxRecDepth 100000

/-- the list at block c: its map at block m reads as D, its row of items is v -/
structure Lst (w : World) (c m k : Nat) (v : Value) (D : DataW Unit) : Prop where
  box : w.heap[c]? = some (.cells #[.map (some m), v] 41 (0, 0))
  map : w.ownsMap Try.prog 33 (plainElem Try.prog 4) m k D

/-- the map of one shard -/
noncomputable def oneD (b i : Int) : DataW Unit := (DataW.map []).put (sk b i) (.lit (.bool true))

/-- the row of one item at block g -/
def Row1 (w : World) (g cap : Nat) (b i d : Int) : Prop := ∃ cur : Array Value, w.heap[g]? = some (.cells cur 54 (0, 0)) ∧ 1 ≤ cap ∧ cap ≤ maxLen ∧ cur.size = cap * 3 ∧ cur.toList.take 3 = [.int .i64 b, .int .i64 i, .int .i64 d]

theorem Lst.ne {w : World} {c m k : Nat} {v : Value} {D : DataW Unit} (h : Lst w c m k v D) : c ≠ m := by
  obtain ⟨h1, ⟨es, clock, hb, _⟩⟩ := h
  intro e; subst e; rw [hb] at h1; simp at h1

theorem Lst.kept {w u : World} {c m k : Nat} {v : Value} {D : DataW Unit} (h : Lst w c m k v D) (hk : Kept [] w u) : Lst u c m k v D := by
  obtain ⟨h1, es, clock, hb, r⟩ := h
  exact ⟨hk.here h1, es, clock, hk.here hb, r⟩

theorem Row1.kept {w u : World} {bs : List Nat} {g cap : Nat} {b i d : Int} (h : Row1 w g cap b i d) (hk : Kept bs w u) (hg : g ∉ bs) : Row1 u g cap b i d := by
  obtain ⟨cur, hb, r⟩ := h
  exact ⟨cur, hk.there hb hg, r⟩

theorem row1_of {w : World} {base g cap : Nat} {b i d : Int} (h : w.ownsRow base 54 3 (.slice (some ⟨g, 0, none⟩) 1 cap) 1 [.int .i64 b, .int .i64 i, .int .i64 d]) : base ≤ g ∧ Row1 w g cap b i d := by
  obtain ⟨_, h⟩ := h
  rcases h with ⟨e, _⟩ | ⟨g', cap', cur, e, hgg, hc, h1, h2, h3, h4⟩
  · simp at e
  · simp at e
    obtain ⟨rfl, rfl⟩ := e
    exact ⟨hgg, cur, hc, h1, h2, h3, by simpa using h4⟩

/-- what the look-up of a shard answers -/
theorem lookB {w : World} {m k : Nat} {D : DataW Unit} (h : w.ownsMap Try.prog 33 (plainElem Try.prog 4) m k D) {x y : Int} (hx : (Lit.int .i64 x).wf = true) (hy : (Lit.int .i64 y).wf = true) {r : Bool}
    (hat : D.atKey (sk x y) (.lit (.bool false)) = .lit (.bool r)) : (Instr.lookup 37 (.map (some m)) (pairV x y) false).run Try.prog w = .ok (.bool r) w := by
  obtain ⟨v, ps, hr, hv⟩ := h.lookup keyed33 Try.underlying37 (zero4 w) (plainElem_bool (H := Unit) Try.underlying4 false) (keyOf_sk x y hx hy)
  rw [hat] at hv
  rw [hr]
  cases v <;> simp [plainElem, Try.underlying4] at hv
  rw [hv.1]

theorem empty_at (x y : Int) : (DataW.map [] : DataW Unit).atKey (sk x y) (.lit (.bool false)) = .lit (.bool false) := Maps.atKey_of_not_has (by simp [Maps.has]) _

theorem key_sk {b i : Int} (hb : (Lit.int .i64 b).wf = true) (hi : (Lit.int .i64 i).wf = true) : WideAt.IsKeyLit (sk b i) := keyed33.key (keyOf_sk b i hb hi)
theorem oneD_at {b i : Int} (hb : (Lit.int .i64 b).wf = true) (hi : (Lit.int .i64 i).wf = true) : (oneD b i).atKey (sk b i) (.lit (.bool false)) = .lit (.bool true) :=
  Maps.atKey_put_same ⟨[], rfl⟩ (key_sk hb hi) _ _

theorem wrapAdd {t : Int} (h0 : 0 ≤ t) (h1 : t ≤ 1099511627776) : IntKind.i64.wrap (t + 83) = t + 83 := by
  apply IntWalk.i64_in <;> omega

theorem timeI_le (t : Int) : 0 ≤ timeI t ∧ timeI t ≤ 1099511627776 := by unfold timeI; split <;> (try split) <;> omega

abbrev shardW (w : World) (b i : Int) : World := w.alloc (.cells #[.int .i64 b, .int .i64 i] 33)

theorem cell_new2 (w : World) (x y : Value) (t : TypeId) : (w.alloc (.cells #[x, y] t)).cell? ⟨w.heap.size, 0, none⟩ = some x ∧ (w.alloc (.cells #[x, y] t)).cell? ⟨w.heap.size, 1, none⟩ = some y := by
  have hb := (MapKept.heap_alloc w (.cells #[x, y] t)).1
  exact ⟨cell_heap hb 0, cell_heap hb 1⟩

set_option maxHeartbeats 2000000 in
theorem retire_again {w : World} {c m k : Nat} {v : Value} (b i now : Int) (hb : (Lit.int .i64 b).wf = true) (hi : (Lit.int .i64 i).wf = true) (h : Lst w c m k v (oneD b i)) :
    Calls Try.prog 13 #[.pointer (some ⟨c, 0, none⟩), .int .i64 b, .int .i64 i, .int .i64 now] w fun e w' => e = .returned (.int .i64 0) ∧ Kept [] w w' := by
  have hno := none_no h.box
  have hs : Lst (shardW w b i) c m k v (oneD b i) := h.kept ((Kept.refl _ _).alloc _)
  have c0 : (shardW w b i).cell? ⟨c, 0, none⟩ = some (.map (some m)) := cell_heap hs.box 0
  have hl : ∀ n, (Instr.lookup 37 (.map (some m)) (pairV b i) false).run Try.prog ((shardW w b i).drewN n) = .ok (.bool true) ((shardW w b i).drewN n) := fun n => lookB (w := (shardW w b i).drewN n) hs.map hb hi (oneD_at hb hi)
  obtain ⟨s0, s1⟩ := cell_new2 w (.int .i64 b) (.int .i64 i) 33
  clear h hs
  go_enter Try.func13, Try.ntmps13
  go_wp2_with fail
  refine hno.mono ?_
  rintro e w' ⟨rfl, rfl⟩
  go_wp2
  go_quiet (fail)
  go_wp2
  go_ret
  exact ⟨rfl, (((Kept.refl _ _).alloc _).drewN _)⟩
set_option maxHeartbeats 2000000 in
theorem retire_new {w : World} {c m k : Nat} (b i now : Int) (hb : (Lit.int .i64 b).wf = true) (hi : (Lit.int .i64 i).wf = true) (hk : k < maxLen) (h : Lst w c m k (.slice none 0 0) (.map [])) :
    Calls Try.prog 13 #[.pointer (some ⟨c, 0, none⟩), .int .i64 b, .int .i64 i, .int .i64 now] w fun e w' => ∃ g cap, e = .returned (.int .i64 0) ∧ Kept [c, m] w w' ∧
      Lst w' c m (k + 1) (.slice (some ⟨g, 0, none⟩) 1 cap) (oneD b i) ∧ w.heap.size ≤ g ∧ Row1 w' g cap b i (timeI now + 83) := by
  have hno := none_no h.box
  have hne := h.ne
  have hs : Lst (shardW w b i) c m k (.slice none 0 0) (.map []) := h.kept ((Kept.refl _ _).alloc _)
  have c0 : (shardW w b i).cell? ⟨c, 0, none⟩ = some (.map (some m)) := cell_heap hs.box 0
  have hl : ∀ n, (Instr.lookup 37 (.map (some m)) (pairV b i) false).run Try.prog ((shardW w b i).drewN n) = .ok (.bool false) ((shardW w b i).drewN n) := fun n => lookB (w := (shardW w b i).drewN n) hs.map hb hi (empty_at b i)
  obtain ⟨s0, s1⟩ := cell_new2 w (.int .i64 b) (.int .i64 i) 33
  have hk0 : Kept [c, m] w (shardW w b i) := (Kept.refl _ _).alloc _
  have hbk := (MapKept.heap_alloc w (.cells #[.int .i64 b, .int .i64 i] 33)).1
  clear h
  go_enter Try.func13, Try.ntmps13
  go_wp2_with fail
  refine hno.mono ?_
  rintro e w' ⟨rfl, rfl⟩
  clear hno
  go_wp2
  go_quiet (fail)
  go_wp2
  generalize hW : (shardW w b i).drewN _ = W
  obtain ⟨d0, t0, t1, hsW, hkW, hbW⟩ : W.cell? ⟨c, 0, none⟩ = some (.map (some m)) ∧ W.cell? ⟨w.heap.size, 0, none⟩ = some (.int .i64 b) ∧ W.cell? ⟨w.heap.size, 1, none⟩ = some (.int .i64 i) ∧
      Lst W c m k (.slice none 0 0) (.map []) ∧ Hid (Kept [c, m] w W) ∧ W.heap[w.heap.size]? = some (.cells #[.int .i64 b, .int .i64 i] 33) := by
    subst hW; exact ⟨c0, s0, s1, ⟨hs.box, hs.map⟩, hk0.drewN _, hbk⟩
  clear hW hs hk0 c0 s0 s1 hl hbk
  obtain ⟨U, hup, hoU, htU⟩ := World.ownsMap.store (w := W.drew) hsW.map keyed33 Try.underlying37 hk (keyOf_sk b i hb hi) (plainElem_bool (H := Unit) Try.underlying4 true)
  have hsm : w.heap.size ≠ m := by
    intro e
    obtain ⟨es, clock, hm, _⟩ := hsW.map
    rw [← e, hbW] at hm
    simp at hm
  obtain ⟨e0, e1, u0, u1, hbU, hkU⟩ : U.cell? ⟨c, 0, none⟩ = some (.map (some m)) ∧ U.cell? ⟨c, 1, none⟩ = some (.slice none 0 0) ∧ U.cell? ⟨w.heap.size, 0, none⟩ = some (.int .i64 b) ∧ U.cell? ⟨w.heap.size, 1, none⟩ = some (.int .i64 i) ∧
      U.heap[c]? = some (.cells #[.map (some m), .slice none 0 0] 41 (0, 0)) ∧ Hid (Kept [c, m] w U) := by
    have hkk : Kept [m] W.drew U := (Kept.refl _ _).turned htU (by simp)
    have b1 := hkk.there (show W.drew.heap[c]? = _ from hsW.box) (by simpa using hne)
    have b2 := hkk.there (show W.drew.heap[w.heap.size]? = _ from hbW) (by simpa using hsm)
    exact ⟨cell_heap b1 0, cell_heap b1 1, cell_heap b2 0, cell_heap b2 1, b1, (hkW.out.drew).trans (hkk.mono (by simp))⟩
  clear hsW
  have HO : Hid (U.ownsMap Try.prog 33 (plainElem Try.prog 4) m (k + 1) (oneD b i)) := hoU
  clear hoU htU hkW
  go_still_tail 5, (by kernel_rfl)
  change wpList _ _ _ _ _ W.drew
  go_wp2
  have hwr : IntKind.i64.wrap (timeI now + 83) = timeI now + 83 := wrapAdd (timeI_le now).1 (timeI_le now).2
  go_still_tail 11, (by kernel_rfl)
  still_call (time_any _ _)
  still_call (wait40 _)
  repeat still_step
  refine wpStill_nil ?_
  change wpList _ _ _ _ _ U.drew
  go_wp2_with fail
  refine (hpush (w := U.drew) b i (timeI now + 83) hbU).mono ?_
  rintro e w' ⟨g, cap, rfl, hk1, hb1, ho⟩
  obtain ⟨hg, hr⟩ := row1_of ho
  have hK : Hid (Kept [c, m] w w') := (hkU.out.drew).trans (hk1.mono (by simp))
  have hgg : w.heap.size ≤ g := Nat.le_trans hkU.out.size hg
  have hL : Hid (Lst w' c m (k + 1) (.slice (some ⟨g, 0, none⟩) 1 cap) (oneD b i)) := by
    obtain ⟨es, clock, hm, r⟩ := HO.out
    exact ⟨hb1, es, clock, hk1.there hm (by simpa using fun e => hne e.symm), r⟩
  clear hk1 hb1 ho hg
  go_wp2
  go_ret
  exact ⟨g, cap, rfl, hK.out, hL.out, hgg, hr⟩
end Go.Proofs.Yteihlfeifnnpaaa
