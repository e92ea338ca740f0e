/- The walk of DriftEnough. Printed by gen_bounds.py (wip). -/
import Derived.Test.YtgdcolkggdpmjaaEnoughA
namespace Go.Proofs.Ytgdcolkggdpmjaa
open Go.RowKit Go.Maps Go.WideMaps Go.WideElems
set_option maxRecDepth 100000

set_option maxHeartbeats 4000000 in
theorem enough_long (x : Int) (y : Int) (want : Nat) (hwant : want < 6) (hy : wrap64 ((IntKind.u64.wrap y).tmod 6) = (want : Int)) (a : Option Addr) (len cap : Nat) (z : Nat → Int) (w : World) (hl : Ints w a 60 z) (n : Nat) (hn : 1 ≤ n) (hn16 : n ≤ 16) (h60 : 60 < len)
    (hsl : ∀ w, (Instr.slice 24 (.slice a len cap) none (some (.int .i64 60)) none).run Try.prog w = .ok (.slice a 60 cap) w)
    (hx : wrap64 (1 + wrap64 ((IntKind.u64.wrap x).tmod 4)) = (n : Int)) :
    Calls Try.prog 8 #[.int .i64 x, .slice a len cap, .int .i64 y] w fun e w' => e = .returned (.bool true) ∧ Below w.heap.size w w' := by
  have hu := u64_small n (by omega)
  have hmk := run_make_row' (P := Try.prog) 24 3 (.int .i64 0) 8 Try.underlying24 info3 rfl .i64 .i64 n (by omega) (by omega)
  go_enter Try.func8, Try.ntmps8
  go_wp2_with fail
  refine (ticks_any a 60 cap z w hl n hn hn16 (by omega)).mono ?_
  rintro e w1 ⟨v, rfl, hnames, hbel⟩
  have hdl := Drf.did_len n (fun i => clockOf n (z i)) 60
  have hda := Lib.hid (Drf.did_allowed n (fun i => clockOf n (z i)) 60)
  have hdm := Lib.hid (Drf.did_mem n (fun i => clockOf n (z i)) 60 (fun i => clockOf_lt n (z i) hn))
  generalize Drf.did n (fun i => clockOf n (z i)) 60 = l at hnames hdl hda hdm
  obtain ⟨hl1, hl2⟩ := hnames
  clear hl1 hsl hl
  rcases hl2 with ⟨rfl, h0⟩ | ⟨g, cap', cur, rfl, hg, hcur, hle, hcm, hsz, htk⟩
  · clear hdl hda hdm h0
    go_wp2_with fail
    refine (wait_any want hwant _).mono ?_
    rintro e w2 ⟨rfl, rfl⟩
    go_wp2_with fail
    refine wp_loop_rounds 1 ?_
    rw [rounds_succ]
    go_wp2
    go_ret
    exact ⟨rfl, hbel⟩
  · have hcellg := Lib.hid (fun i hi => names_cell hcur htk i hi)
    have hgl := (Array.getElem?_eq_some_iff.1 hcur).1
    generalize hL : l.length = L at hdl hle
    have HLen := Lib.hid hL
    clear hL hsz htk hcur
    go_wp2_with fail
    refine (wait_any want hwant _).mono ?_
    rintro e w2 ⟨rfl, rfl⟩
    go_wp2_with fail
    go_loopw [8, 9, 11, 12, 44, 53, 65] (fun _ _ _ _ i _ _ wr => ∃ k : Nat, k ≤ L ∧ i = .int .i64 k ∧ Kept [] w1 wr) (fun _ _ _ _ i _ _ _ => L - (intOf i).toNat)
    case atStart => exact ⟨0, by omega, rfl, Kept.refl _ _⟩
    case round =>
      obtain ⟨k, hk, rfl, hkept⟩ := hrel
      obtain ⟨wo, rfl⟩ : ∃ wo : World, wo = wr := ⟨_, rfl⟩
      by_cases hlt : k < L
      · have hmade := made_cells n wo
        obtain ⟨W0, hW0⟩ : ∃ W0, W0 = wo.alloc (.cells (madeCells #[.int .i64 0] n) 3) := ⟨_, rfl⟩
        obtain ⟨r, hr⟩ : ∃ r, r = wo.heap.size := ⟨_, rfl⟩
        have hkW : Kept [] w1 W0 := by rw [hW0]; exact hkept.alloc _
        have hrge : w1.heap.size ≤ r := by rw [hr]; exact hkept.size
        rw [← hr, ← hW0] at hmade
        have HW := Lib.hid (And.intro hW0 hr)
        clear hW0 hr
        go_wp2_with fail
        rw [← HW.out.1, ← HW.out.2]
        go_loopw [11, 12, 53, 65] (fun _ _ i _ wq => ∃ j : Nat, j ≤ L - k ∧ i = .int .i64 j ∧ wq.heap[r]? = some (.cells (cellsTo n (Drf.cnt l k j)) 3 (0, 0)) ∧ Kept [] w1 wq) (fun _ _ i _ _ => (L - k) - (intOf i).toNat)
        case atStart => exact ⟨0, by omega, rfl, by rw [hmade, cellsTo_congr (fun i _ => (Drf.cnt_zero l k i))], hkW⟩
        case round =>
          obtain ⟨j, hj, rfl, hrow, hkq⟩ := hrel
          obtain ⟨wq, rfl⟩ : ∃ wq : World, wq = wr := ⟨_, rfl⟩
          by_cases hjl : j < L - k
          · obtain ⟨q, hq⟩ : ∃ q, q = l.getD (k + j) 0 := ⟨_, rfl⟩
            have hcg : wq.cell? ⟨g, k + j, none⟩ = some (.int .i64 (q : Nat)) := by
              rw [World.cell?_of_block (hkq.block g hgl (by simp)), hcellg.out (k + j) (by rw [HLen.out]; omega), hq]
            have hqn : q < n := hdm.out q (by rw [hq]; exact getD_mem l (k + j) (by rw [HLen.out]; omega))
            have hcr := cells_at hrow q hqn
            have hfr : wq.frozen? ⟨r, q, none⟩ = false := by simp [World.frozen?, hrow]
            have hcle := Drf.cnt_le l k j q
            have hup := Lib.hid (cells_up (u := Drf.cnt l k (j + 1)) hrow q (Drf.cnt l k j q + 1) (x := (Drf.cnt l k j q : Int) + 1) (by omega) (fun i _ => by
              rw [Drf.cnt_succ l k j i (by rw [HLen.out]; omega), ← hq]
              by_cases e : i = q
              · rw [if_pos e, if_pos e, e]
              · rw [if_neg e, if_neg e]; rfl))
            have hks : Hid (Kept [] w1 (wq.setCell ⟨r, q, none⟩ (.int .i64 ((Drf.cnt l k j q : Int) + 1)))) := hkq.setCell (Or.inr hrge) _
            generalize Drf.cnt l k j q = cq at hcr hcle hup hks
            clear hq hrow
            go_wp2
            obtain ⟨W3, hW3⟩ : ∃ W3, W3 = wq.setCell ⟨r, q, none⟩ (.int .i64 ((cq : Int) + 1)) := ⟨_, rfl⟩
            rw [← hW3]
            have hrow3 := hup.out
            have hks3 := hks.out
            rw [← hW3] at hrow3 hks3
            clear hW3 hup hks hcr hfr hcg
            have hcq := cells_at hrow3 q hqn
            have huq := Drf.cnt_le l k (j + 1) q
            have hbd := Lib.hid (fun o ho => Drf.cnt_bound hda.out k (j + 1) o q ho)
            generalize Drf.cnt l k (j + 1) q = cu at hcq huq hbd
            go_loopw [12, 65] (fun _ i wz => ∃ o : Nat, o ≤ n ∧ i = .int .i64 o ∧ ∃ t, wz = W3.drewN t) (fun _ i _ => n - (intOf i).toNat)
            case atStart => exact ⟨0, by omega, rfl, 0, rfl⟩
            case round =>
              obtain ⟨o, ho, rfl, t, rfl⟩ := hrel
              by_cases hon : o < n
              · have hco := cells_at hrow3 o hon
                have hvo := Drf.cnt_le l k (j + 1) o
                have hb2 := hbd.out o hon
                generalize Drf.cnt l k (j + 1) o = cv at hco hvo hb2
                obtain ⟨Wz, hWz⟩ : ∃ Wz, Wz = W3.drewN t := ⟨_, rfl⟩
                have hcq2 : Wz.cell? ⟨r, q, none⟩ = some (.int .i64 (cu : Nat)) := by rw [hWz]; exact hcq
                have hco2 : Wz.cell? ⟨r, o, none⟩ = some (.int .i64 (cv : Nat)) := by rw [hWz]; exact hco
                rw [← hWz]
                have HZ := Lib.hid hWz
                clear hWz hcq hco
                by_cases hge : 2 * want + 3 ≤ cu
                · have t1 : (2 * (want : Int) + 3) ≤ (cu : Int) := by omega
                  have t2 : ¬ (cv : Int) ≤ (want : Int) := by omega
                  clear hb2
                  go_wp2
                  go_quiet ((go_at_call 10; exact Calls.quiet_of_same (wait_is want hwant _)))
                  go_wp2
                  go_roundw
                  case rel => exact ⟨o + 1, by omega, by go_num, _, by rw [HZ.out]; exact World.drewN_drewN _ _ _⟩
                  case measure => simp [intOf]; omega
                · have t1 : ¬ (2 * (want : Int) + 3) ≤ (cu : Int) := by omega
                  have t3 : decide ((2 * (want : Int) + 3) ≤ (cu : Int)) = false := by simpa using t1
                  clear hb2
                  go_wp2
                  go_quiet ((go_at_call 10; exact Calls.quiet_of_same (wait_is want hwant _)))
                  go_wp2
                  go_roundw
                  case rel => exact ⟨o + 1, by omega, by go_num, _, by rw [HZ.out]; exact World.drewN_drewN _ _ _⟩
                  case measure => simp [intOf]; omega
              · go_wp2
                go_roundw
                case rel => exact ⟨j + 1, by omega, by go_num, hrow3, hks3.drewN t⟩
                case measure => simp [intOf]; omega
          · go_wp2
            go_roundw
            case rel => exact ⟨k + 1, by omega, by go_num, hkq⟩
            case measure => simp [intOf]; omega
      · go_wp2
        go_ret
        exact ⟨rfl, hbel.trans (hkept.below hbel.size (by simp))⟩

theorem enough_law (x : Int) (a : Option Addr) (len cap : Nat) (zs : List Int) (y : Int) (w : World) (_ : (Lit.int .i64 x).wf = true) (h : IsRow w a len cap zs) (_ : (Lit.int .i64 y).wf = true) :
    Calls Try.prog 8 #[.int .i64 x, .slice a len cap, .int .i64 y] w fun e w' => e = .returned (.bool true) ∧ Below w.heap.size w w' := by
  obtain ⟨n, hn, hn16, hx⟩ := nodes_of 4 (by decide) (by decide) x
  have hy := clockOf_eq 6 y (by decide)
  have hy' : (IntKind.u64.wrap y).tmod 6 = (clockOf 6 y : Int) := hy
  have hyl := clockOf_lt 6 y (by decide)
  have hyw : wrap64 ((IntKind.u64.wrap y).tmod 6) = (clockOf 6 y : Int) := by rw [hy', wrap_small _ (by omega)]
  have hc := h.cap_le
  by_cases hl : len ≤ 60
  · exact enough_short x y _ hyl hyw a len cap _ w h.ints n hn hn16 hl (fun w => slice_to a len cap len len rfl hc w) hx
  · exact enough_long x y _ hyl hyw a len cap _ w (h.ints.cut (by omega)) n hn hn16 (by omega) (fun w => slice_to a len cap 60 60 rfl (by omega) w) hx
end Go.Proofs.Ytgdcolkggdpmjaa
