/- The walk of the reference's New. -/
import Derived.Test.YtgdcolkggdpmjaaRefTick
import Derived.Deep.AppendLies
import Derived.Deep.RegionLaw
namespace Go.Proofs.Ytgdcolkggdpmjaa
open Go.RowKit Go.Maps Go.WideMaps Go.WideElems
set_option maxRecDepth 100000

set_option maxHeartbeats 400000 in
theorem rnew_arg (x : Int) (h0 : x < 1 ∨ 16 < x) (w : World) :
    Calls Try.prog 16 #[.int .i64 x] w fun e w' => e = .returned (.tuple #[.pointer none, .int .i64 1]) ∧ w = w' := by
  rcases h0 with h0 | h0
  · go_enter Try.func16, Try.ntmps16
    go_wp2
    go_ret2
    exact ⟨rfl, rfl⟩
  · have h1 : ¬ x < 1 := by omega
    go_enter Try.func16, Try.ntmps16
    go_wp2
    go_ret2
    exact ⟨rfl, rfl⟩

theorem info24 : (Try.prog.info? 24).map (fun i => (i.zero, i.size, i.bytes)) = some (some (.slice none 0 0), 1, 24) := by kernel_rfl

/-- the table under way: k rows are made -/
structure Tbl (w : World) (B x ts n k : Nat) (v : Value) (rs : List Nat) : Prop where
  box : w.heap[x]? = some (.cells #[.slice (some ⟨ts, 0, none⟩) n n, v] 47 (0, 0))
  told : w.heap[ts]? = some (.cells (cellsTo n (fun _ => 0)) 3 (0, 0))
  own : w.ownsRow B 24 1 v k (rs.map fun r => Value.slice (some ⟨r, 0, none⟩) n n)
  rows : ∀ r, r ∈ rs → w.heap[r]? = some (.cells (cellsTo n (fun _ => 0)) 3 (0, 0)) ∧ B ≤ r
  nodup : rs.Nodup
  lo : x < B ∧ ts < B

abbrev madeW (wr : World) (n : Nat) : World := ((wr.alloc (.cells (madeCells #[.int .i64 0] n) 3)).alloc (.cells #[.slice (some ⟨wr.heap.size, 0, none⟩) n n] 24)).drew

theorem tbl_own {wr : World} {ts n k : Nat} {v : Value} {rs : List Nat} (h : Tbl wr (ts + 2) (ts + 1) ts n k v rs) : ∀ j, v.ownBlock = some j → ts + 2 ≤ j := by
  intro j hj
  rcases h.own.2 with ⟨rfl, _⟩ | ⟨g, cap, cur, rfl, hg, _⟩
  · cases hj
  · simp [Value.ownBlock] at hj; omega

theorem madeW_old (wr : World) (n i : Nat) (h : i < wr.heap.size) : (madeW wr n).heap[i]? = wr.heap[i]? := by
  show ((wr.alloc (.cells (madeCells #[.int .i64 0] n) 3)).alloc (.cells #[.slice (some ⟨wr.heap.size, 0, none⟩) n n] 24)).heap[i]? = _
  rw [Below.heap_alloc _ _ _ (by rw [World.size_alloc]; omega), Below.heap_alloc _ _ _ h]

theorem madeW_size (wr : World) (n : Nat) : (madeW wr n).heap.size = wr.heap.size + 2 := by
  show ((wr.alloc (.cells (madeCells #[.int .i64 0] n) 3)).alloc (.cells #[.slice (some ⟨wr.heap.size, 0, none⟩) n n] 24)).heap.size = _
  rw [World.size_alloc, World.size_alloc]

theorem tbl_old {wr w1 : World} {n : Nat} {v : Value} (hgrow : (madeW wr n).grownBy w1 v.ownBlock) (i : Nat) (hi : i < wr.heap.size) (hn : v.ownBlock ≠ some i) : w1.heap[i]? = wr.heap[i]? := by
  rw [hgrow.block i (by rw [madeW_size]; omega) (fun e => hn e.symm), madeW_old wr n i hi]

theorem tbl_store {wr w1 : World} {ts n k : Nat} {v : Value} {rs : List Nat} (h : Tbl wr (ts + 2) (ts + 1) ts n k v rs) (hB : ts + 2 ≤ wr.heap.size) (hgrow : (madeW wr n).grownBy w1 v.ownBlock) :
    w1.cell? ⟨ts + 1, 1, none⟩ = some v ∧ w1.frozen? ⟨ts + 1, 1, none⟩ = false := by
  have hb := tbl_old hgrow (ts + 1) (by omega) (fun e => by have := tbl_own h _ e; omega)
  rw [h.box] at hb
  exact ⟨by simp [World.cell?, hb], by simp [World.frozen?, hb]⟩

theorem tbl_step {wr w1 : World} {ts n k g cap : Nat} {v : Value} {rs : List Nat} (h : Tbl wr (ts + 2) (ts + 1) ts n k v rs) (hB : ts + 2 ≤ wr.heap.size) (hgrow : (madeW wr n).grownBy w1 v.ownBlock)
    (hown : w1.ownsRow (ts + 2) 24 1 (.slice (some ⟨g, 0, none⟩) (k + 1) cap) (k + 1) ((rs.map fun r => Value.slice (some ⟨r, 0, none⟩) n n) ++ [.slice (some ⟨wr.heap.size, 0, none⟩) n n])) :
    Tbl (w1.setCell ⟨ts + 1, 1, none⟩ (.slice (some ⟨g, 0, none⟩) (k + 1) cap)) (ts + 2) (ts + 1) ts n (k + 1) (.slice (some ⟨g, 0, none⟩) (k + 1) cap) (rs ++ [wr.heap.size]) := by
  have hb := tbl_old hgrow (ts + 1) (by omega) (fun e => by have := tbl_own h _ e; omega)
  rw [h.box] at hb
  have ht := tbl_old hgrow ts (by omega) (fun e => by have := tbl_own h _ e; omega)
  rw [h.told] at ht
  have hlt : ∀ r, r ∈ rs → r < wr.heap.size := fun r hr => (Array.getElem?_eq_some_iff.1 (h.rows r hr).1).1
  refine ⟨?_, ?_, ?_, fun r hr => ?_, ?_, by omega⟩
  · simp [World.setCell, Array.getElem?_modify, hb]
  · rw [heap_set_other _ _ _ _ _ (by omega)]; exact ht
  · obtain ⟨o1, o2⟩ := hown
    refine ⟨by simpa using o1, ?_⟩
    rcases o2 with ⟨e, _⟩ | ⟨g', cap', cur, e, hg, hc, rest⟩
    · simp at e
    · refine Or.inr ⟨g', cap', cur, e, hg, by rw [heap_set_other _ _ _ _ _ (by omega)]; exact hc, ?_⟩
      simpa using rest
  · rw [List.mem_append] at hr
    rcases hr with hr | hr
    · obtain ⟨q1, q2⟩ := h.rows r hr
      rw [heap_set_other _ _ _ _ _ (by omega), tbl_old hgrow r (hlt r hr) (fun e => by
        rcases h.own.2 with ⟨e2, _⟩ | ⟨g', cap', cur, e2, hg, hc, _⟩
        · rw [e2] at e; cases e
        · rw [e2] at e; simp [Value.ownBlock] at e
          rw [e, q1] at hc; simp at hc)]
      exact ⟨q1, q2⟩
    · simp at hr
      subst hr
      rw [heap_set_other _ _ _ _ _ (by omega)]
      refine ⟨?_, hB⟩
      rw [hgrow.block _ (by rw [madeW_size]; omega) (fun e => by
        rcases h.own.2 with ⟨e2, _⟩ | ⟨g', cap', cur, e2, hg, hc, _⟩
        · rw [e2] at e; cases e
        · rw [e2] at e; simp [Value.ownBlock] at e
          have := (Array.getElem?_eq_some_iff.1 hc).1
          omega)]
      show ((wr.alloc (.cells (madeCells #[.int .i64 0] n) 3)).alloc (.cells #[.slice (some ⟨wr.heap.size, 0, none⟩) n n] 24)).heap[wr.heap.size]? = _
      rw [Below.heap_alloc _ _ _ (by rw [World.size_alloc]; omega)]
      exact made_cells n wr
  · rw [List.nodup_append]
    exact ⟨h.nodup, by simp, fun a ha b hb => by simp at hb; subst hb; have := hlt a ha; omega⟩

theorem tbl_done {w wr : World} {ts n : Nat} {v : Value} {rs : List Nat} (h : Tbl wr (ts + 2) (ts + 1) ts n n v rs) (h0 : 1 ≤ n) (hl : rs.length = n) (hB : w.heap.size ≤ ts) : ∃ ld row, RClk wr w.heap.size (ts + 1) ts ld n row Drf.St.init := by
  have hlt : ∀ a, a < n → rs.getD a 0 ∈ rs := fun a ha => getD_mem rs a (by omega)
  rcases h.own.2 with ⟨_, e⟩ | ⟨g, cap, cur, rfl, hg, hc, hle, _, hsz, htk⟩
  · omega
  · refine ⟨g, fun a => rs.getD a 0, ⟨cap, h.box⟩, h.told, ⟨cur, hc, fun a ha => ?_⟩, fun a ha => (h.rows _ (hlt a ha)).1, fun a b ha hb e => ?_, fun a ha e => ?_, by omega, hB, by omega, fun a ha => ?_⟩
    · have h1 : (cur.toList.take (n * 1))[a]? = (rs.map fun r => Value.slice (some ⟨r, 0, none⟩) n n)[a]? := by rw [htk]
      rw [List.getElem?_take_of_lt (by omega), List.getElem?_map, List.getElem?_eq_getElem (l := rs) (by omega)] at h1
      have h2 : cur[a]? = cur.toList[a]? := by simp
      rw [h2, h1, List.getD_eq_getElem?_getD, List.getElem?_eq_getElem (l := rs) (by omega)]
      rfl
    · have e' : rs.getD a 0 = rs.getD b 0 := e
      rw [List.getD_eq_getElem?_getD, List.getD_eq_getElem?_getD, List.getElem?_eq_getElem (by omega), List.getElem?_eq_getElem (by omega)] at e'
      have hp := List.pairwise_iff_getElem.1 h.nodup
      have e2 : rs[a]'(by omega) = rs[b]'(by omega) := e'
      rcases Nat.lt_trichotomy a b with q | q | q
      · exact absurd e2 (hp a b (by omega) (by omega) q)
      · exact q
      · exact absurd e2.symm (hp b a (by omega) (by omega) q)
    · have := (h.rows _ (hlt a ha)).2
      have e' : rs.getD a 0 = ts := e
      omega
    · have := (h.rows _ (hlt a ha)).2
      show w.heap.size ≤ rs.getD a 0
      omega

set_option maxHeartbeats 2000000 in
theorem rnew_ok (n : Nat) (h0 : 1 ≤ n) (h1 : n ≤ 16) (w : World) :
    Calls Try.prog 16 #[.int .i64 n] w fun e w' => ∃ x ts ld row, e = .returned (.tuple #[.pointer (some ⟨x, 0, none⟩), .int .i64 0]) ∧ Kept [] w w' ∧ RClk w' w.heap.size x ts ld n row Drf.St.init := by
  have hmk := run_make_row' (P := Try.prog) 24 3 (.int .i64 0) 8 Try.underlying24 info3 rfl .i64 .i64 n (by omega) (by omega)
  have hx : ¬ (n : Int) < 1 := by omega
  have hy : ¬ (16 : Int) < n := by omega
  obtain ⟨i0, hi, hz0, hz1, hz2⟩ := info_parts info24
  have hm0 := made_cells n w
  go_enter Try.func16, Try.ntmps16
  go_wp2
  have hstart : Hid (Tbl ((w.alloc (.cells (madeCells #[.int .i64 0] n) 3)).alloc (.cells #[.slice (some ⟨w.heap.size, 0, none⟩) n n, .slice none 0 0] 47)) (w.heap.size + 2) (w.heap.size + 1) w.heap.size n 0 (.slice none 0 0) []) := by
    refine ⟨?_, ?_, ⟨rfl, Or.inl ⟨rfl, rfl⟩⟩, fun r hr => (by cases hr), List.nodup_nil, by omega⟩
    · have := (MapKept.heap_alloc (w.alloc (.cells (madeCells #[.int .i64 0] n) 3)) (.cells #[.slice (some ⟨w.heap.size, 0, none⟩) n n, .slice none 0 0] 47)).1
      simpa using this
    · rw [Below.heap_alloc _ _ _ (by simp)]; exact hm0
  have hk0 : Hid (Kept [] w ((w.alloc (.cells (madeCells #[.int .i64 0] n) 3)).alloc (.cells #[.slice (some ⟨w.heap.size, 0, none⟩) n n, .slice none 0 0] 47))) := ((Kept.refl _ _).alloc _).alloc _
  clear hm0
  generalize (w.alloc (.cells (madeCells #[.int .i64 0] n) 3)).alloc (.cells #[.slice (some ⟨w.heap.size, 0, none⟩) n n, .slice none 0 0] 47) = W0 at hstart hk0 ⊢
  obtain ⟨ts, hts⟩ : ∃ ts, ts = w.heap.size := ⟨_, rfl⟩
  rw [← hts] at hstart ⊢
  have HT := Lib.hid hts
  clear hts
  go_loopw [16] (fun i wr => ∃ (k : Nat) (v : Value) (rs : List Nat), k ≤ n ∧ i = .int .i64 k ∧ rs.length = k ∧ Tbl wr (ts + 2) (ts + 1) ts n k v rs ∧ Kept [] w wr) (fun i _ => n - (intOf i).toNat)
  case atStart => exact ⟨0, _, [], by omega, rfl, rfl, hstart.out, hk0.out⟩
  case round =>
    obtain ⟨k, v, rs, hk, rfl, hrl, htbl, hkept⟩ := hrel
    have HRL := Lib.hid hrl
    clear hrl
    by_cases hlt : k < n
    · have c1 : wr.cell? ⟨ts + 1, 1, none⟩ = some v := by simp [World.cell?, htbl.box]
      have hxl := (Array.getElem?_eq_some_iff.1 htbl.box).1
      have hown := Lib.hid htbl.own
      have hBs : Hid (ts + 2 ≤ wr.heap.size) := by have := hkept.size; have := HT.out; show ts + 2 ≤ wr.heap.size; omega
      have hnw : Hid (∀ j u, ([.slice (some ⟨wr.heap.size, 0, none⟩) n n] : List Value)[j]? = some u → ((wr.alloc (.cells (madeCells #[.int .i64 0] n) 3)).alloc (.cells #[.slice (some ⟨wr.heap.size, 0, none⟩) n n] 24)).cell? ((⟨wr.heap.size + 1, 0, none⟩ : Addr).add j) = some u) := by
        have := cell_one_new (wr.alloc (.cells (madeCells #[.int .i64 0] n) 3)) (.slice (some ⟨wr.heap.size, 0, none⟩) n n) 24
        rw [World.size_alloc] at this
        exact this
      have hone : Hid (∀ u ∈ ([.slice (some ⟨wr.heap.size, 0, none⟩) n n] : List Value), u.oneCell' = true) := by
        intro u hu; simp at hu; subst hu; rfl
      have hk63 : Hid (k + 1 ≤ maxLen) := by show k + 1 ≤ maxLen; unfold maxLen; omega
      have hkby : Hid ((k + 1) * 24 ≤ 140737488355328) := by show (k + 1) * 24 ≤ 140737488355328; omega
      have hbs2 : Hid (ts + 2 ≤ ((wr.alloc (.cells (madeCells #[.int .i64 0] n) 3)).alloc (.cells #[.slice (some ⟨wr.heap.size, 0, none⟩) n n] 24)).heap.size) := by
        have := hBs.out
        show ts + 2 ≤ ((wr.alloc (.cells (madeCells #[.int .i64 0] n) 3)).alloc (.cells #[.slice (some ⟨wr.heap.size, 0, none⟩) n n] 24)).heap.size
        rw [World.size_alloc, World.size_alloc]; omega
      have c2 : (wr.alloc (.cells (madeCells #[.int .i64 0] n) 3)).cell? ⟨ts + 1, 1, none⟩ = some v := by
        rw [World.cell?_of_block (Below.heap_alloc _ _ _ hxl)]; exact c1
      have c3 : ((wr.alloc (.cells (madeCells #[.int .i64 0] n) 3)).alloc (.cells #[.slice (some ⟨wr.heap.size, 0, none⟩) n n] 24)).cell? ⟨ts + 1, 1, none⟩ = some v := by
        rw [World.cell?_of_block (Below.heap_alloc _ _ _ (by rw [World.size_alloc]; exact Nat.lt_succ_of_lt hxl))]; exact c2
      go_wp2
      go_region_law ((refine step_append_lies _ rfl _ _ 45 rfl (ts + 2) 24 i0 (.slice none 0 0) 1 24 Try.underlying45 hi hz0 hz1 hz2 rfl (by decide) v k _ rfl (World.ownsRow.alloc (World.ownsRow.alloc (w := wr.drew) hown.out _) _) ⟨wr.heap.size + 1, 0, none⟩ 1 1 [.slice (some ⟨wr.heap.size, 0, none⟩) n n] rfl rfl hnw.out hone.out (by decide) hk63.out hkby.out hbs2.out _ rfl ?_; intro g cap w1 hown1 hgrow hat hglt; have hst := tbl_store htbl hBs.out hgrow; obtain ⟨hst1, hst2⟩ := hst))
      all_goals
        have HN := Lib.hid (tbl_step htbl hBs.out hgrow hown1)
        have hkk : Kept [] w w1 := (((hkept.alloc _).alloc _).drew).grown hgrow (fun j hj => Or.inr (by have := tbl_own htbl j hj; have := HT.out; omega))
        clear hown1 hgrow hat
        go_wp2
        go_roundw
        case rel => exact ⟨k + 1, _, rs ++ [wr.heap.size], by omega, by go_num, by rw [List.length_append, HRL.out]; rfl, HN.out, hkk.setCell (Or.inr (show w.heap.size ≤ ts + 1 by have := HT.out; omega)) _⟩
        case measure => simp [intOf]; omega
    · obtain rfl : k = n := by omega
      have hbox := htbl.box
      have hfin := Lib.hid (tbl_done (w := w) htbl h0 HRL.out (by have := HT.out; omega))
      go_wp2
      go_ret2
      obtain ⟨ld, row, hr⟩ := hfin.out
      exact ⟨ts + 1, ts, ld, row, rfl, hkept, hr⟩
end Go.Proofs.Ytgdcolkggdpmjaa
