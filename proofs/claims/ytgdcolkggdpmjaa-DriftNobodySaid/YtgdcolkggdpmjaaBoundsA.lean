/- The walk of DriftBounds. Printed by gen_bounds.py (wip). -/
import Derived.Test.YtgdcolkggdpmjaaTicks
import Derived.Test.YtgdcolkggdpmjaaPlain2
namespace Go.Proofs.Ytgdcolkggdpmjaa
open Go.RowKit Go.Maps Go.WideMaps Go.WideElems
set_option maxRecDepth 100000

theorem names_cell {w : World} {g : Nat} {l : List Nat} {cur : Array Value} (hcur : w.heap[g]? = some (.cells cur 3 (0, 0))) (htk : cur.toList.take (l.length * 1) = l.map fun b => Value.int .i64 (b : Nat)) (i : Nat) (hi : i < l.length) :
    w.cell? ⟨g, i, none⟩ = some (.int .i64 (l.getD i 0 : Nat)) := by
  simp only [World.cell?, hcur]
  have h1 : (cur.toList.take (l.length * 1))[i]? = (l.map fun b => Value.int .i64 (b : Nat))[i]? := by rw [htk]
  rw [List.getElem?_take_of_lt (by omega)] at h1
  have h2 : cur[i]? = cur.toList[i]? := by simp
  show (if (none : Option Nat).isSome = true then none else cur[i]?) = _
  rw [h2, h1, List.getElem?_map, List.getElem?_eq_getElem hi, List.getD_eq_getElem?_getD, List.getElem?_eq_getElem hi]
  rfl

theorem cells_at {w : World} {r n : Nat} {t : Nat → Nat} (h : w.heap[r]? = some (.cells (cellsTo n t) 3 (0, 0))) (i : Nat) (hi : i < n) : w.cell? ⟨r, i, none⟩ = some (.int .i64 (t i : Nat)) := by
  simp [World.cell?, h, cellsTo, hi]

theorem cells_up {w : World} {r n : Nat} {t u : Nat → Nat} (h : w.heap[r]? = some (.cells (cellsTo n t) 3 (0, 0))) (b v : Nat) {x : Int} (hx : x = v) (hu : ∀ i, i < n → u i = if i = b then v else t i) :
    (w.setCell ⟨r, b, none⟩ (.int .i64 x)).heap[r]? = some (.cells (cellsTo n u) 3 (0, 0)) := by
  have e := cellsTo_set n t b v
  rw [cellsTo_congr hu, ← e, hx]
  simp [World.setCell, Array.getElem?_modify, h]

theorem made_cells (n : Nat) (w : World) : (w.alloc (.cells (madeCells #[.int .i64 0] n) 3)).heap[w.heap.size]? = some (.cells (cellsTo n (fun _ => 0)) 3 (0, 0)) := by
  have := (MapKept.heap_alloc w (.cells (madeCells #[.int .i64 0] n) 3)).1
  rw [madeCells_zero] at this
  rw [madeCells_zero]
  exact this

theorem getD_mem (l : List Nat) (i : Nat) (h : i < l.length) : l.getD i 0 ∈ l := by
  rw [List.getD_eq_getElem?_getD, List.getElem?_eq_getElem h]; exact List.getElem_mem _

theorem slice_to (a : Option Addr) (len cap : Nat) (mm : Nat) (M : Int) (hM : M = mm) (h : mm ≤ cap) (w : World) :
    (Instr.slice 24 (.slice a len cap) none (some (.int .i64 M)) none).run Try.prog w = .ok (.slice a mm cap) w := by
  subst hM
  have hi : ∃ i, Try.prog.info? 3 = some i ∧ i.size = 1 := by
    obtain ⟨i, hi, _, hs, _⟩ := info_parts info3
    exact ⟨i, hi, hs⟩
  obtain ⟨i, hi, _⟩ := hi
  simp [Instr.slice, run_underlying Try.underlying24, Instr.sliceBounds, Instr.sliceBound, asIntOf, Result.andThen, h, run_sizeOf w hi]
  cases a with
  | none => simp
  | some a => simp [Addr.add]

set_option maxHeartbeats 4000000 in
theorem bounds_short (x : Int) (a : Option Addr) (len cap : Nat) (z : Nat → Int) (w : World) (hl : Ints w a len z) (n : Nat) (hn : 1 ≤ n) (hn16 : n ≤ 16) (h60 : len ≤ 60)
    (hsl : ∀ w, (Instr.slice 24 (.slice a len cap) none (some (.int .i64 len)) none).run Try.prog w = .ok (.slice a len cap) w)
    (hx : wrap64 (1 + wrap64 ((IntKind.u64.wrap x).tmod 5)) = (n : Int)) :
    Calls Try.prog 7 #[.int .i64 x, .slice a len cap] w fun e w' => e = .returned (.bool true) ∧ Below w.heap.size w w' := by
  have hu := u64_small n (by omega)
  have hmk := run_make_row' (P := Try.prog) 24 3 (.int .i64 0) 8 Try.underlying24 info3 rfl .i64 .i64 n (by omega) (by omega)
  go_enter Try.func7, Try.ntmps7
  go_wp2_with fail
  refine (ticks_any a len cap z w hl n hn hn16 (by omega)).mono ?_
  rintro e w1 ⟨v, rfl, hnames, hbel⟩
  have hdl := Drf.did_len n (fun i => clockOf n (z i)) len
  have hda := Lib.hid (Drf.did_allowed n (fun i => clockOf n (z i)) len)
  have hdm := Lib.hid (Drf.did_mem n (fun i => clockOf n (z i)) len (fun i => clockOf_lt n (z i) hn))
  generalize Drf.did n (fun i => clockOf n (z i)) len = l at hnames hdl hda hdm
  obtain ⟨hl1, hl2⟩ := hnames
  clear hl1 hsl hl
  rcases hl2 with ⟨rfl, h0⟩ | ⟨g, cap', cur, rfl, hg, hcur, hle, hcm, hsz, htk⟩
  · clear hdl hda hdm h0
    go_wp2_with fail
    refine wp_loop_rounds 1 ?_
    rw [rounds_succ]
    go_wp2
    go_ret
    exact ⟨rfl, hbel⟩
  · have hcellg := Lib.hid (fun i hi => names_cell hcur htk i hi)
    have hgl := (Array.getElem?_eq_some_iff.1 hcur).1
    generalize hL : l.length = L at hdl hle
    have HLen := Lib.hid hL
    clear hL hsz htk hcur
    go_wp2_with fail
    go_loopw [6, 7, 9, 10, 30, 39, 51] (fun _ _ _ _ i _ _ wr => ∃ k : Nat, k ≤ L ∧ i = .int .i64 k ∧ Kept [] w1 wr) (fun _ _ _ _ i _ _ _ => L - (intOf i).toNat)
    case atStart => exact ⟨0, by omega, rfl, Kept.refl _ _⟩
    case round =>
      obtain ⟨k, hk, rfl, hkept⟩ := hrel
      obtain ⟨wo, rfl⟩ : ∃ wo : World, wo = wr := ⟨_, rfl⟩
      by_cases hlt : k < L
      · have hmade := made_cells n wo
        obtain ⟨W0, hW0⟩ : ∃ W0, W0 = wo.alloc (.cells (madeCells #[.int .i64 0] n) 3) := ⟨_, rfl⟩
        obtain ⟨r, hr⟩ : ∃ r, r = wo.heap.size := ⟨_, rfl⟩
        have hkW : Kept [] w1 W0 := by rw [hW0]; exact hkept.alloc _
        have hrge : w1.heap.size ≤ r := by rw [hr]; exact hkept.size
        rw [← hr, ← hW0] at hmade
        have HW := Lib.hid (And.intro hW0 hr)
        clear hW0 hr
        go_wp2_with fail
        rw [← HW.out.1, ← HW.out.2]
        go_loopw [9, 10, 39, 51] (fun _ _ i _ wq => ∃ j : Nat, j ≤ L - k ∧ i = .int .i64 j ∧ wq.heap[r]? = some (.cells (cellsTo n (Drf.cnt l k j)) 3 (0, 0)) ∧ Kept [] w1 wq) (fun _ _ i _ _ => (L - k) - (intOf i).toNat)
        case atStart => exact ⟨0, by omega, rfl, by rw [hmade, cellsTo_congr (fun i _ => (Drf.cnt_zero l k i))], hkW⟩
        case round =>
          obtain ⟨j, hj, rfl, hrow, hkq⟩ := hrel
          obtain ⟨wq, rfl⟩ : ∃ wq : World, wq = wr := ⟨_, rfl⟩
          by_cases hjl : j < L - k
          · obtain ⟨q, hq⟩ : ∃ q, q = l.getD (k + j) 0 := ⟨_, rfl⟩
            have hcg : wq.cell? ⟨g, k + j, none⟩ = some (.int .i64 (q : Nat)) := by
              rw [World.cell?_of_block (hkq.block g hgl (by simp)), hcellg.out (k + j) (by rw [HLen.out]; omega), hq]
            have hqn : q < n := hdm.out q (by rw [hq]; exact getD_mem l (k + j) (by rw [HLen.out]; omega))
            have hcr := cells_at hrow q hqn
            have hfr : wq.frozen? ⟨r, q, none⟩ = false := by simp [World.frozen?, hrow]
            have hcle := Drf.cnt_le l k j q
            have hup := Lib.hid (cells_up (u := Drf.cnt l k (j + 1)) hrow q (Drf.cnt l k j q + 1) (x := (Drf.cnt l k j q : Int) + 1) (by omega) (fun i _ => by
              rw [Drf.cnt_succ l k j i (by rw [HLen.out]; omega), ← hq]
              by_cases e : i = q
              · rw [if_pos e, if_pos e, e]
              · rw [if_neg e, if_neg e]; rfl))
            have hks : Hid (Kept [] w1 (wq.setCell ⟨r, q, none⟩ (.int .i64 ((Drf.cnt l k j q : Int) + 1)))) := hkq.setCell (Or.inr hrge) _
            generalize Drf.cnt l k j q = cq at hcr hcle hup hks
            clear hq hrow
            go_wp2
            obtain ⟨W3, hW3⟩ : ∃ W3, W3 = wq.setCell ⟨r, q, none⟩ (.int .i64 ((cq : Int) + 1)) := ⟨_, rfl⟩
            rw [← hW3]
            have hrow3 := hup.out
            have hks3 := hks.out
            rw [← hW3] at hrow3 hks3
            clear hW3 hup hks hcr hfr hcg
            have hcq := cells_at hrow3 q hqn
            have huq := Drf.cnt_le l k (j + 1) q
            have hbd := Lib.hid (fun o ho => Drf.cnt_bound hda.out k (j + 1) o q ho)
            generalize Drf.cnt l k (j + 1) q = cu at hcq huq hbd
            go_loopw [10, 51] (fun _ i wz => ∃ o : Nat, o ≤ n ∧ i = .int .i64 o ∧ ∃ t, wz = W3.drewN t) (fun _ i _ => n - (intOf i).toNat)
            case atStart => exact ⟨0, by omega, rfl, 0, rfl⟩
            case round =>
              obtain ⟨o, ho, rfl, t, rfl⟩ := hrel
              by_cases hon : o < n
              · have hco := cells_at hrow3 o hon
                have hvo := Drf.cnt_le l k (j + 1) o
                have hb2 := hbd.out o hon
                generalize Drf.cnt l k (j + 1) o = cv at hco hvo hb2
                have hw1 : IntKind.i64.wrap (2 * (cv : Int)) = 2 * (cv : Int) := IntWalk.i64_in _ (by omega)
                have hw2 : IntKind.i64.wrap (2 * (cv : Int) + 2) = 2 * (cv : Int) + 2 := IntWalk.i64_in _ (by omega)
                have hng : ¬ (2 * (cv : Int) + 2 < (cu : Int)) := by omega
                go_wp2
                go_quiet (fail)
                go_wp2
                go_roundw
                case rel => exact ⟨o + 1, by omega, by go_num, _, rfl⟩
                case measure => simp [intOf]; omega
              · go_wp2
                go_roundw
                case rel => exact ⟨j + 1, by omega, by go_num, hrow3, hks3.drewN t⟩
                case measure => simp [intOf]; omega
          · go_wp2
            go_roundw
            case rel => exact ⟨k + 1, by omega, by go_num, hkq⟩
            case measure => simp [intOf]; omega
      · go_wp2
        go_ret
        exact ⟨rfl, hbel.trans (hkept.below hbel.size (by simp))⟩
end Go.Proofs.Ytgdcolkggdpmjaa
