/- The walk of DriftLives. -/
import Derived.Test.YtgdcolkggdpmjaaRefNew
namespace Go.Proofs.Ytgdcolkggdpmjaa
open Go.RowKit Go.Maps Go.WideMaps Go.WideElems
set_option maxRecDepth 100000

theorem rtick_ask {w : World} {B x ts ld n : Nat} {row : Nat → Nat} {st : Drf.St} (h : RClk w B x ts ld n row st) (b : Nat) (hb : b < n) (hn : n ≤ 16) (ht : st.t b < 4611686018427387904) (hL : Drf.Low n st) :
    Calls Try.prog 18 #[.pointer (some ⟨x, 0, none⟩), .int .i64 b] w fun e w' => e = .returned (.int .i64 (tickR st n b)) ∧ Kept (RB n ts row) w w' ∧ RClk w' B x ts ld n row (st.ask n b) := by
  unfold Drf.St.ask tickR
  cases hm : st.may n b with
  | true =>
    simp only [if_true]
    exact rtick_ok h b hb hn hm ht hL
  | false =>
    have e : ¬ (false = true) := by simp
    rw [if_neg e, if_neg e]
    refine (rtick_drift h b hb hn hm).mono ?_
    rintro e w' ⟨rfl, rfl⟩
    exact ⟨rfl, Kept.refl _ _, h⟩

theorem Kept.wide {bs : List Nat} {w a b : World} (h : Kept [] w a) (k : Kept bs a b) (hb : ∀ i, i ∈ bs → w.heap.size ≤ i) : Kept [] w b :=
  ⟨k.os.trans h.os, k.tape.trans h.tape, k.output.trans h.output, Nat.le_trans h.size k.size, fun i hi hn => (k.block i (Nat.lt_of_lt_of_le hi h.size) (fun e => by have := hb i e; omega)).trans (h.block i hi hn)⟩

theorem RB_lo {w : World} {B x ts ld n : Nat} {row : Nat → Nat} {st : Drf.St} (h : RClk w B x ts ld n row st) : ∀ i, i ∈ RB n ts row → B ≤ i := by
  intro i hi
  obtain ⟨_, l2, _, l4⟩ := h.lo
  unfold RB at hi
  rcases List.mem_cons.1 hi with rfl | hi
  · exact l2
  · obtain ⟨a, ha, rfl⟩ := List.mem_map.1 hi
    exact l4 a (List.mem_range.1 ha)

set_option maxHeartbeats 400000 in
theorem lives_bad (x : Int) (h0 : x < 1 ∨ 16 < x) (a : Option Addr) (len cap : Nat) (w : World) :
    Calls Try.prog 6 #[.int .i64 x, .slice a len cap] w fun e w' => e = .returned (.bool true) ∧ Below w.heap.size w w' := by
  have H := Lib.hid h0
  clear h0
  go_enter Try.func6, Try.ntmps6
  go_wp2_with fail
  refine (new_arg x H.out _).mono ?_
  rintro e w0 ⟨rfl, rfl⟩
  go_wp2_with fail
  refine (rnew_arg x H.out _).mono ?_
  rintro e w1 ⟨rfl, rfl⟩
  go_wp2
  go_ret
  exact ⟨rfl, Below.refl _ _⟩

set_option maxHeartbeats 400000 in
theorem wait_five (w : World) : Calls Try.prog 10 #[.int .i64 5] w fun e w' => e = .returned (.int .i64 13) ∧ w = w' := wait_any 5 (by decide) w

set_option maxHeartbeats 2000000 in
theorem lives_core (n : Nat) (hn : 1 ≤ n) (hn16 : n ≤ 16) (a : Option Addr) (len cap : Nat) (z : Nat → Int) (w : World) (hl : Ints w a len z) :
    Calls Try.prog 6 #[.int .i64 n, .slice a len cap] w fun e w' => e = .returned (.bool true) ∧ Below w.heap.size w w' := by
  have hreach := hl.reach
  go_enter Try.func6, Try.ntmps6
  go_wp2_with fail
  refine (new_ex n hn hn16 _).mono ?_
  rintro e w0 ⟨c, s, m, rfl, hk0, hc0, HB⟩
  go_wp2_with fail
  refine (rnew_ok n hn hn16 _).mono ?_
  rintro e w1 ⟨xr, ts, ld, row, rfl, hk1, hr1⟩
  have HLT := Lib.hid hc0.lt
  have hc1 := hc0.kept hk1
  have hkw := hk0.trans hk1
  have HB0 := Lib.hid hk0.size
  clear hc0 hk0 hk1
  go_wp2_with fail
  go_loopw [10, 49] (fun _ i wr => ∃ (k : Nat) (st : Drf.St), k ≤ len ∧ i = .int .i64 k ∧ Clk wr c s m n (40 * k) st ∧ RClk wr w0.heap.size xr ts ld n row st ∧ Hid (Drf.Fine n k st) ∧ Kept [] w wr) (fun _ i _ => len - (intOf i).toNat)
  case atStart => exact ⟨0, _, by omega, rfl, hc1, hr1, Drf.fine_init n, hkw⟩
  case round =>
    obtain ⟨k, st, hk, rfl, hclk, href, hfine, hkept⟩ := hrel
    obtain ⟨wo, rfl⟩ : ∃ wo : World, wo = wr := ⟨_, rfl⟩
    by_cases hlt : k < len
    · obtain ⟨b, o, rfl, hcell⟩ := hl.at hkept (Kept.refl [] _) (by simp) k hlt
      by_cases hin : 0 ≤ z k ∧ z k < n
      · obtain ⟨q, hq⟩ : ∃ q : Nat, z k = (q : Int) := ⟨(z k).toNat, by omega⟩
        have hqn : q < n := by omega
        rw [hq] at hcell
        clear hq hin
        have hmc := may_yes hclk q hqn hn16
        have hRB := Lib.hid (RB_lo href)
        generalize hmb : st.may n q = mb at hmc
        have HMB := Lib.hid hmb
        clear hmb
        go_wp2_with fail
        refine hmc.mono ?_
        rintro e w2 ⟨rfl, hk2⟩
        have hc2 := hclk.kept hk2
        have hr2 := href.kept hk2 (by simp)
        have hmr := rmay_yes hr2 q hqn hn16
        rw [HMB.out] at hmr
        go_wp2_with fail
        refine hmr.mono ?_
        rintro e w3 ⟨rfl, rfl⟩
        have htq : st.t q < 4611686018427387904 := by have := hfine.out.told q; omega
        go_wp2_with fail
        refine (tick_ask hc2 q hqn hn16 htq hfine.out.low (by unfold maxLen; omega)).mono ?_
        rintro e w4 ⟨rfl, hk4, hc4⟩
        have hr4 := hr2.kept hk4 (by have := HLT.out; simp; omega)
        go_wp2_with fail
        refine (rtick_ask hr4 q hqn hn16 htq hfine.out.low).mono ?_
        rintro e w5 ⟨rfl, hk5, hr5⟩
        have hc5 := hc4.kept2 hk5 (by
          have h1 := HLT.out
          refine ⟨fun e => ?_, fun e => ?_, fun e => ?_⟩ <;> have := hRB.out _ e <;> omega)
        have hfine5 := Lib.hid (Drf.fine_ask hfine.out q)
        have hkept5 : Kept [] w w5 := (((hkept.trans hk2).wide hk4 HB.out).wide hk5 (fun i hi => Nat.le_trans HB0.out (hRB.out i hi)))
        generalize st.ask n q = st2 at hc5 hr5 hfine5
        clear htq hc4 hr4
        go_wp2_with fail
        refine (now_yes hc5 q hqn).mono ?_
        rintro e w6 ⟨rfl, rfl⟩
        go_wp2_with fail
        refine (rnow_yes hr5 q hqn).mono ?_
        rintro e w7 ⟨rfl, rfl⟩
        go_wp2
        go_roundw
        case rel => exact ⟨k + 1, st2, by omega, by go_num, hc5.mono (by omega), hr5, hfine5, hkept5⟩
        case measure => simp [intOf]; omega
      · have hout : Hid (z k < 0 ∨ (n : Int) ≤ z k) := by show z k < 0 ∨ (n : Int) ≤ z k; omega
        generalize z k = y at hcell hout
        clear hin
        go_wp2_with fail
        refine (may_no hclk y hout.out).mono ?_
        rintro e w2 ⟨rfl, rfl⟩
        go_wp2_with fail
        refine (rmay_no href y hout.out).mono ?_
        rintro e w2 ⟨rfl, rfl⟩
        go_wp2_with fail
        refine (tick_arg hclk y hout.out).mono ?_
        rintro e w2 ⟨rfl, rfl⟩
        go_wp2_with fail
        refine (rtick_arg href y hout.out).mono ?_
        rintro e w2 ⟨rfl, rfl⟩
        go_wp2_with fail
        refine (now_no hclk y hout.out).mono ?_
        rintro e w2 ⟨rfl, rfl⟩
        go_wp2_with fail
        refine (rnow_no href y hout.out).mono ?_
        rintro e w2 ⟨rfl, rfl⟩
        go_wp2
        go_roundw
        case rel => exact ⟨k + 1, st, by omega, by go_num, hclk.mono (by omega), href, hfine.out.mono (by omega), hkept⟩
        case measure => simp [intOf]; omega
    · go_wp2_with fail
      go_loopw [11, 80] (fun _ i wq => ∃ j : Nat, j ≤ n ∧ i = .int .i64 j ∧ wo = wq) (fun _ i _ => n - (intOf i).toNat)
      case atStart => exact ⟨0, by omega, rfl, rfl⟩
      case round =>
        obtain ⟨j, hj, rfl, rfl⟩ := hrel
        by_cases hjn : j < n
        · go_wp2_with fail
          refine (now_yes hclk j hjn).mono ?_
          rintro e w6 ⟨rfl, rfl⟩
          go_wp2_with fail
          refine (rnow_yes href j hjn).mono ?_
          rintro e w7 ⟨rfl, rfl⟩
          go_wp2
          go_roundw
          case rel => exact ⟨j + 1, by omega, by go_num, trivial⟩
          case measure => simp [intOf]; omega
        · go_wp2_with fail
          refine (now_no hclk (-1) (Or.inl (by decide))).mono ?_
          rintro e w6 ⟨rfl, rfl⟩
          go_wp2_with fail
          refine (wait_five _).mono ?_
          rintro e w7 ⟨rfl, rfl⟩
          go_wp2
          go_ret
          exact ⟨rfl, hkept.below (Nat.le_refl _) (by simp)⟩

theorem lives_any (x : Int) (a : Option Addr) (len cap : Nat) (z : Nat → Int) (w : World) (hl : Ints w a len z) :
    Calls Try.prog 6 #[.int .i64 x, .slice a len cap] w fun e w' => e = .returned (.bool true) ∧ Below w.heap.size w w' := by
  by_cases h : x < 1 ∨ 16 < x
  · exact lives_bad x h a len cap w
  · obtain ⟨n, hn⟩ : ∃ n : Nat, x = (n : Int) := ⟨x.toNat, by omega⟩
    subst hn
    exact lives_core n (by omega) (by omega) a len cap z w hl

theorem lives_law (x : Int) (a : Option Addr) (len cap : Nat) (zs : List Int) (w : World) (_ : (Lit.int .i64 x).wf = true) (h : IsRow w a len cap zs) :
    Calls Try.prog 6 #[.int .i64 x, .slice a len cap] w fun e w' => e = .returned (.bool true) ∧ Below w.heap.size w w' :=
  lives_any x a len cap _ w h.ints
end Go.Proofs.Ytgdcolkggdpmjaa
