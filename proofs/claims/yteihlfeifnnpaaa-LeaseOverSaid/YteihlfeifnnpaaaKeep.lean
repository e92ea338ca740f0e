/- The walk of Keep on a list of one shard. -/
import Derived.Test.YteihlfeifnnpaaaFirst
namespace Go.Proofs.Yteihlfeifnnpaaa
open Go.RowKit Go.Maps Go.WideMaps Go.WideElems
set_option maxRecDepth 100000

set_option maxHeartbeats 1000000 in
theorem is_shard {w : World} {p : Nat} {b i d : Int} (p0 : w.cell? ⟨p, 0, none⟩ = some (.int .i64 b)) (p1 : w.cell? ⟨p, 1, none⟩ = some (.int .i64 i)) (hp : p < w.heap.size) :
    Calls Try.prog 30 #[itemV b i d, .pointer (some ⟨p, 0, none⟩)] w fun e w' => e = .returned (.bool true) ∧ Kept [] w w' := by
  have heq := eq33_same b i
  have q0 : (w.alloc (.cells #[.int .i64 b, .int .i64 i, .int .i64 d] 54)).cell? ⟨p, 0, none⟩ = some (.int .i64 b) := by
    rw [World.cell?_of_block (Below.heap_alloc _ _ _ hp)]; exact p0
  have q1 : (w.alloc (.cells #[.int .i64 b, .int .i64 i, .int .i64 d] 54)).cell? ⟨p, 1, none⟩ = some (.int .i64 i) := by
    rw [World.cell?_of_block (Below.heap_alloc _ _ _ hp)]; exact p1
  go_enter Try.func30, Try.ntmps30
  go_wp2
  go_ret
  exact ⟨rfl, (Kept.refl _ _).alloc _⟩

set_option maxHeartbeats 1000000 in
theorem index_one {w : World} {g cap p : Nat} {b i d : Int} (hr : Row1 w g cap b i d) (p0 : w.cell? ⟨p, 0, none⟩ = some (.int .i64 b)) (p1 : w.cell? ⟨p, 1, none⟩ = some (.int .i64 i)) (hp : p < w.heap.size) :
    Calls Try.prog 39 #[.slice (some ⟨g, 0, none⟩) 1 cap, .func (.func 30) #[] #[.pointer (some ⟨p, 0, none⟩)]] w fun e w' => e = .returned (.int .i64 0) ∧ Kept [] w w' := by
  obtain ⟨r0, r1, r2⟩ := row1_cells hr
  have HS := Lib.hid (is_shard (d := d) p0 p1 hp)
  go_enter Try.func39, Try.ntmps39
  go_wp2
  refine wp_loop_rounds 1 ?_
  rw [rounds_succ]
  go_wp2_with fail
  refine HS.out.mono ?_
  rintro e w1 ⟨rfl, hk⟩
  go_wp2
  go_ret
  exact ⟨rfl, hk⟩

theorem zero54 (w : World) : (zeroValue 54).run Try.prog w = .ok (itemV 0 0 0) w := by kernel_rfl

theorem clear_one {w : World} {g cap : Nat} {b i d : Int} (hr : Row1 w g cap b i d) :
    (Builtin.clear_ #[39] 0 #[.slice (some ⟨g, 0, none⟩) 1 cap]).run Try.prog w = .ok (.tuple #[]) (w.setCells g 0 [.int .i64 0, .int .i64 0, .int .i64 0]) := by
  obtain ⟨r0, r1, r2⟩ := row1_cells hr
  have hf : ∀ o, w.frozen? ⟨g, o, none⟩ = false := by
    obtain ⟨cur, hb, _⟩ := hr
    exact fun o => by simp [World.frozen?, hb]
  have hzc : (Builtin.zeroCells (itemV 0 0 0).cells 1).toList = [.int .i64 0, .int .i64 0, .int .i64 0] := by kernel_rfl
  have hst := run_storeCells_cells (P := Try.prog) g 0 [.int .i64 0, .int .i64 0, .int .i64 0] 0 w (by
    intro j hj
    match j, hj with
    | 0, _ => simp [r0]
    | 1, _ => simp [r1]
    | 2, _ => simp [r2]) (by intro j _; exact hf _) (by intro v hv; simp at hv; subst hv; rfl)
  simp only [Nat.add_zero] at hst
  simp [Builtin.clear_, run_underlying Try.underlying39, hzc, hst]

set_option maxHeartbeats 1000000 in
theorem delete_one {w : World} {g cap p : Nat} {b i d : Int} (hr : Row1 w g cap b i d) (p0 : w.cell? ⟨p, 0, none⟩ = some (.int .i64 b)) (p1 : w.cell? ⟨p, 1, none⟩ = some (.int .i64 i)) (hp : p < w.heap.size) :
    Calls Try.prog 29 #[.slice (some ⟨g, 0, none⟩) 1 cap, .func (.func 30) #[] #[.pointer (some ⟨p, 0, none⟩)]] w fun e w' => e = .returned (.slice (some ⟨g, 0, none⟩) 0 cap) ∧ Kept [g] w w' := by
  have HI := Lib.hid (index_one hr p0 p1 hp)
  have hcap : (1 : Int) ≤ cap := by obtain ⟨_, _, h, _⟩ := hr; omega
  have HR := Lib.hid hr
  clear hr p0 p1
  go_enter Try.func29, Try.ntmps29
  go_wp2_with fail
  refine HI.out.mono ?_
  rintro e w1 ⟨rfl, hk⟩
  obtain ⟨r0, r1, r2⟩ := row1_cells (HR.out.kept hk (by simp))
  have hf : ∀ o, w1.frozen? ⟨g, o, none⟩ = false := by
    obtain ⟨cur, hb, _⟩ := HR.out.kept hk (by simp)
    exact fun o => by simp [World.frozen?, hb]
  go_wp2
  refine wp_loop_rounds 1 ?_
  rw [rounds_succ]
  have hclr := clear_one (HR.out.kept hk (by simp))
  obtain ⟨W, hW⟩ : ∃ W, W = w1.setCells g 0 [.int .i64 0, .int .i64 0, .int .i64 0] := ⟨_, rfl⟩
  rw [← hW] at hclr
  have HW := Lib.hid hW
  clear hW
  go_wp2
  go_ret
  refine ⟨rfl, ?_⟩
  rw [HW.out]
  have h0 : Kept [g] w w1 := hk.mono (by simp)
  exact ((h0.setCell (p := ⟨g, 0, none⟩) (Or.inl (by simp)) _).setCell (p := ⟨g, 1, none⟩) (Or.inl (by simp)) _).setCell (p := ⟨g, 2, none⟩) (Or.inl (by simp)) _

set_option maxHeartbeats 1000000 in
theorem init_none {w : World} {a : Addr} {o : Option Addr} {cap : Nat} (h : w.cell? a = some (.slice o 0 cap)) :
    Calls Try.prog 31 #[.iface 52 (.pointer (some a))] w fun e w' => e = .returned (.tuple #[]) ∧ w' = w := by
  have m1 := mLen h
  go_enter Try.func31, Try.ntmps31
  go_wp2_with fail
  refine (len_0 _ _ _).mono ?_
  rintro e w' ⟨rfl, rfl⟩
  go_wp2
  refine wp_loop_rounds 1 ?_
  rw [rounds_succ]
  go_wp2
  go_end0
  exact ⟨rfl, rfl⟩

set_option maxHeartbeats 4000000 in
theorem keep_one {w : World} {c m k g cap : Nat} {b i d : Int} (hwb : (Lit.int .i64 b).wf = true) (hwi : (Lit.int .i64 i).wf = true) (h : Lst w c m k (.slice (some ⟨g, 0, none⟩) 1 cap) (oneD b i)) (hr : Row1 w g cap b i d) (hgc : g ≠ c) (hgm : g ≠ m) :
    Calls Try.prog 18 #[.pointer (some ⟨c, 0, none⟩), .int .i64 b, .int .i64 i] w fun e w' => e = .returned (.int .i64 0) ∧ Kept [c, m, g] w w' ∧ ∃ D, Lst w' c m k (.slice (some ⟨g, 0, none⟩) 0 cap) D ∧ DEmpty D := by
  have hno := none_no h.box
  have hne := h.ne
  have hs : Lst (shardW w b i) c m k (.slice (some ⟨g, 0, none⟩) 1 cap) (oneD b i) := h.kept ((Kept.refl _ _).alloc _)
  have hrs : Row1 (shardW w b i) g cap b i d := hr.kept (bs := []) ((Kept.refl _ _).alloc _) (by simp)
  have c0 : (shardW w b i).cell? ⟨c, 0, none⟩ = some (.map (some m)) := cell_heap hs.box 0
  have hl : ∀ n, (Instr.lookup 37 (.map (some m)) (pairV b i) false).run Try.prog ((shardW w b i).drewN n) = .ok (.bool true) ((shardW w b i).drewN n) := fun n => lookB (w := (shardW w b i).drewN n) hs.map hwb hwi (oneD_at hwb hwi)
  obtain ⟨s0, s1⟩ := cell_new2 w (.int .i64 b) (.int .i64 i) 33
  have hk0 : Kept [c, m, g] w (shardW w b i) := (Kept.refl _ _).alloc _
  have hbk := (MapKept.heap_alloc w (.cells #[.int .i64 b, .int .i64 i] 33)).1
  clear h hr
  go_enter Try.func18, Try.ntmps18
  go_wp2_with fail
  refine hno.mono ?_
  rintro e w' ⟨rfl, rfl⟩
  clear hno
  go_wp2
  go_quiet (fail)
  go_wp2
  generalize hW : (shardW w b i).drewN _ = W
  obtain ⟨d0, t0, t1, hsW, HRW, hkW, hbW⟩ : W.cell? ⟨c, 0, none⟩ = some (.map (some m)) ∧ W.cell? ⟨w.heap.size, 0, none⟩ = some (.int .i64 b) ∧ W.cell? ⟨w.heap.size, 1, none⟩ = some (.int .i64 i) ∧
      Lst W c m k (.slice (some ⟨g, 0, none⟩) 1 cap) (oneD b i) ∧ Hid (Row1 W g cap b i d) ∧ Hid (Kept [c, m, g] w W) ∧ W.heap[w.heap.size]? = some (.cells #[.int .i64 b, .int .i64 i] 33) := by
    subst hW; exact ⟨c0, s0, s1, ⟨hs.box, hs.map⟩, hrs, hk0.drewN _, hbk⟩
  clear hW hs hrs hk0 c0 s0 s1 hl hbk
  obtain ⟨U, hup, hoU, htU⟩ := World.ownsMap.drop (w := W.drew) hsW.map keyed33 Try.underlying37 (keyOf_sk b i hwb hwi) 0
  have hsm : w.heap.size ≠ m := by
    intro e
    obtain ⟨es, clock, hm, _⟩ := hsW.map
    rw [← e, hbW] at hm
    simp at hm
  have hkk : Kept [m] W.drew U := (Kept.refl _ _).turned htU (by simp)
  have b1 := hkk.there (show W.drew.heap[c]? = _ from hsW.box) (by simpa using hne)
  have b2 := hkk.there (show W.drew.heap[w.heap.size]? = _ from hbW) (by simpa using hsm)
  have HRU : Hid (Row1 U g cap b i d) := by
    obtain ⟨cur, hb, r⟩ := HRW.out
    exact ⟨cur, hkk.there hb (by simpa using hgm), r⟩
  have e1 : U.cell? ⟨c, 1, none⟩ = some (.slice (some ⟨g, 0, none⟩) 1 cap) := cell_heap b1 1
  have HP : Hid (U.cell? ⟨w.heap.size, 0, none⟩ = some (.int .i64 b) ∧ U.cell? ⟨w.heap.size, 1, none⟩ = some (.int .i64 i) ∧ w.heap.size < U.heap.size) := ⟨cell_heap b2 0, cell_heap b2 1, (Array.getElem?_eq_some_iff.1 b2).1⟩
  have HKU : Hid (Kept [c, m, g] w U) := (hkW.out.drew).trans (hkk.mono (by simp))
  have HBU := Lib.hid b1
  have HMU : Hid (U.ownsMap Try.prog 33 (plainElem Try.prog 4) m k ((oneD b i).del (sk b i))) := hoU
  clear hoU htU hkW hkk b1 b2 HRW hbW hsW
  go_still_tail 5, (by kernel_rfl)
  change wpList _ _ _ _ _ W.drew
  go_wp2_with fail
  refine (delete_one HRU.out HP.out.1 HP.out.2.1 HP.out.2.2).mono ?_
  rintro e w3 ⟨rfl, hk3⟩
  have hb3 := hk3.there HBU.out (by simpa using fun e => hgc e.symm)
  have f3 : w3.frozen? ⟨c, 1, none⟩ = false := by simp [World.frozen?, hb3]
  have c3 : w3.cell? ⟨c, 1, none⟩ = some (.slice (some ⟨g, 0, none⟩) 1 cap) := cell_heap hb3 1
  obtain ⟨V, hV⟩ : ∃ V, V = w3.setCell ⟨c, 1, none⟩ (.slice (some ⟨g, 0, none⟩) 0 cap) := ⟨_, rfl⟩
  have hbV : V.heap[c]? = some (.cells #[.map (some m), .slice (some ⟨g, 0, none⟩) 0 cap] 41 (0, 0)) := by
    rw [hV]; simp [World.setCell, Array.getElem?_modify, hb3]
  have cV : V.cell? ⟨c, 1, none⟩ = some (.slice (some ⟨g, 0, none⟩) 0 cap) := cell_heap hbV 1
  have HKV : Hid (Kept [c, m, g] w V) := by
    rw [hV]; exact (HKU.out.trans (hk3.mono (by simp))).setCell (Or.inl (by simp)) _
  have HMV : Hid (V.ownsMap Try.prog 33 (plainElem Try.prog 4) m k ((oneD b i).del (sk b i))) := by
    obtain ⟨es, clock, hm, r⟩ := HMU.out
    refine ⟨es, clock, ?_, r⟩
    rw [hV, Below.heap_setCell _ ⟨c, 1, none⟩ _ _ (show m ≠ c by exact fun e => hne e.symm)]
    exact hk3.there hm (by simpa using fun e => hgm e.symm)
  have HV := Lib.hid hV
  clear hV
  go_wp2_with fail
  rw [← HV.out]
  refine (init_none cV).mono ?_
  rintro e w' ⟨rfl, rfl⟩
  go_wp2
  go_ret
  exact ⟨rfl, HKV.out, _, ⟨hbV, HMV.out⟩, del_empty⟩
end Go.Proofs.Yteihlfeifnnpaaa
