/- The walk of DriftEven. -/
import Derived.Test.YtgdcolkggdpmjaaGoes
namespace Go.Proofs.Ytgdcolkggdpmjaa
open Go.RowKit Go.Maps Go.WideMaps Go.WideElems
set_option maxRecDepth 100000

theorem turn_low {n f k : Nat} {st : Drf.St} (h : Drf.Turn n f k st) : Drf.Low n st := fun a b ha hne => Nat.le_trans (h.one a b ha hne) (by decide)

theorem turn_told {n f k : Nat} {st : Drf.St} (hn : 0 < n) (h : Drf.Turn n f k st) (x : Nat) (hx : x < n) : st.t x ≤ k + n := by
  obtain ⟨i, hi, rfl⟩ := Drf.idx_surj n (f + k) x hn hx
  rw [h.told i hi]
  exact Nat.le_trans (Nat.div_le_self _ _) (by omega)

set_option maxHeartbeats 1000000 in
theorem even_core (x y z : Int) (w : World) (n r f p : Nat) (hn : 1 ≤ n) (hn16 : n ≤ 16) (_hr : r < 30) (hf : f < n) (hp : p ≤ 480) (HP : Hid (p = n * r))
    (hx : wrap64 (1 + wrap64 ((IntKind.u64.wrap x).tmod 16)) = (n : Int)) (hy : wrap64 ((IntKind.u64.wrap y).tmod 30) = (r : Int)) (hz : (IntKind.u64.wrap z).tmod n = (f : Int)) (hm : IntKind.i64.wrap ((n : Int) * (r : Int)) = (p : Int)) :
    Calls Try.prog 5 #[.int .i64 x, .int .i64 y, .int .i64 z] w fun e w' => e = .returned (.bool true) ∧ Below w.heap.size w w' := by
  have hu := u64_small n (by omega)
  have hfw := wrap_small f (by omega)
  go_enter Try.func5, Try.ntmps5
  go_wp2_with fail
  refine (new_ex n hn hn16 _).mono ?_
  rintro e w0 ⟨c, s, m, rfl, hk0, hc0, HB⟩
  go_wp2_with fail
  go_loopw [9, 30] (fun _ i wr => ∃ (k : Nat) (st : Drf.St), k ≤ p ∧ i = .int .i64 k ∧ Clk wr c s m n (40 * k) st ∧ Hid (Drf.Turn n f k st) ∧ Kept [s, m] w0 wr) (fun _ i _ => p - (intOf i).toNat)
  case atStart => exact ⟨0, _, by omega, rfl, hc0, Drf.turn_init n f, Kept.refl _ _⟩
  case round =>
    obtain ⟨k, st, hk, rfl, hclk, HT, hkept⟩ := hrel
    by_cases hlt : k < p
    · obtain ⟨q, hqe⟩ : ∃ q, q = (f + k) % n := ⟨_, rfl⟩
      have hq : q < n := by rw [hqe]; exact Nat.mod_lt _ hn
      have hmod : ((f : Int) + (k : Int)) % n = (q : Int) := by rw [hqe]; simp
      have hadd : ((f : Int) + (k : Int)).tmod n = (q : Int) := by rw [Int.tmod_eq_emod_of_nonneg (by omega)]; exact hmod
      have HQ := Lib.hid hqe
      clear hqe
      go_wp2_with fail
      refine (tick_ok hclk q hq hn16 (Drf.turn_may HT.out _) (by have := turn_told hn HT.out _ hq; omega) (turn_low HT.out) (by unfold maxLen; omega)).mono ?_
      rintro e w2 ⟨rfl, hk2, hc2⟩
      have HT2 := Lib.hid (Drf.turn_tick hn HT.out)
      rw [← HQ.out] at HT2
      generalize st.tick q = st2 at hc2 HT2
      clear hadd hmod
      go_wp2_with fail
      go_roundw
      case rel => exact ⟨k + 1, st2, by omega, by go_num, hc2.mono (by omega), HT2, hkept.trans hk2⟩
      case measure => simp [intOf]; omega
    · obtain rfl : k = p := by omega
      have hnow : ∀ x, x < n → st.t x = r := fun x hx => Drf.turn_end hn (by have := HT.out; rw [HP.out] at this; exact this) x hx
      have HN := Lib.hid hnow
      clear hnow
      have hmay : ∀ b, st.may n b = true := fun b => Drf.turn_may HT.out b
      have HM := Lib.hid hmay
      clear hmay
      have hbel : Below w.heap.size w wr := (hk0.below (Nat.le_refl _) (by simp)).trans (hkept.below hk0.size HB.out)
      go_wp2_with fail
      go_loopw [10, 48] (fun _ i wq => ∃ j : Nat, j ≤ n ∧ i = .int .i64 j ∧ wr = wq) (fun _ i _ => n - (intOf i).toNat)
      case atStart => exact ⟨0, by omega, rfl, rfl⟩
      case round =>
        obtain ⟨j, hj, rfl, rfl⟩ := hrel
        by_cases hjn : j < n
        · go_wp2_with fail
          refine (now_yes hclk j hjn).mono ?_
          rintro e w3 ⟨rfl, rfl⟩
          rw [HN.out j hjn]
          go_wp2
          go_roundw
          case rel => exact ⟨j + 1, by omega, by go_num, trivial⟩
          case measure => simp [intOf]; omega
        · obtain rfl : j = n := by omega
          have e1 : (j : Int) - 1 = ((j - 1 : Nat) : Int) := by omega
          have hlt1 : j - 1 < j := by omega
          have hm1 := may_yes hclk (j - 1) hlt1 hn16
          rw [HM.out] at hm1
          go_wp2_with fail
          refine hm1.mono ?_
          rintro e w3 ⟨rfl, hk3⟩
          go_wp2_with fail
          refine (may_no (hclk.kept hk3) j (Or.inr (Int.le_refl _))).mono ?_
          rintro e w4 ⟨rfl, rfl⟩
          go_wp2
          go_ret
          exact ⟨rfl, hbel.trans ((hk3.below (bs := []) (Nat.le_refl _) (by simp)).mono hbel.size)⟩

theorem even_law (x y z : Int) (w : World) (_ : (Lit.int .i64 x).wf = true) (_ : (Lit.int .i64 y).wf = true) (_ : (Lit.int .i64 z).wf = true) :
    Calls Try.prog 5 #[.int .i64 x, .int .i64 y, .int .i64 z] w fun e w' => e = .returned (.bool true) ∧ Below w.heap.size w w' := by
  obtain ⟨n, hn, hn16, hx⟩ := nodes16 x
  have h := clockOf_eq 30 y (by decide)
  have hl := clockOf_lt 30 y (by decide)
  have h' : (IntKind.u64.wrap y).tmod 30 = (clockOf 30 y : Int) := h
  have hp : n * clockOf 30 y ≤ 16 * 29 := Nat.mul_le_mul hn16 (by omega)
  refine even_core x y z w n (clockOf 30 y) (clockOf n z) (n * clockOf 30 y) hn hn16 hl (clockOf_lt n z hn) (by omega) rfl hx ?_ (clockOf_eq n z hn) ?_
  · rw [h', wrap_small _ (by omega)]
  · have e : ((n : Int) * (clockOf 30 y : Int)) = ((n * clockOf 30 y : Nat) : Int) := by simp
    rw [e]; exact IntWalk.i64_in _ (by omega)
end Go.Proofs.Ytgdcolkggdpmjaa
