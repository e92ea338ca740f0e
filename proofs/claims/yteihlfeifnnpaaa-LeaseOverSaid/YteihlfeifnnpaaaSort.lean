/- The walks of the sort of a row of no shard or of one: 'order', slices.SortFunc and what they reach. -/
import Derived.Test.YteihlfeifnnpaaaRet
namespace Go.Proofs.Yteihlfeifnnpaaa
open Go.RowKit Go.Maps Go.WideMaps Go.WideElems
set_option maxRecDepth 100000

set_option maxHeartbeats 1000000 in
theorem len64_0 (w : World) : Calls Try.prog 52 #[.int .u64 0] w fun e w' => e = .returned (.int .i64 0) ∧ w' = w := by
  go_enter Try.func52, Try.ntmps52
  go_wp2
  go_ret
  exact ⟨by kernel_rfl, rfl⟩

set_option maxHeartbeats 1000000 in
theorem len64_1 (w : World) : Calls Try.prog 52 #[.int .u64 1] w fun e w' => e = .returned (.int .i64 1) ∧ w' = w := by
  go_enter Try.func52, Try.ntmps52
  go_wp2
  go_ret
  exact ⟨by kernel_rfl, rfl⟩

theorem len64_s (n : Nat) (hn : n ≤ 1) (w : World) : Calls Try.prog 52 #[.int .u64 n] w fun e w' => e = .returned (.int .i64 n) ∧ w' = w := by
  rcases Nat.le_one_iff_eq_zero_or_eq_one.1 hn with rfl | rfl
  · exact len64_0 w
  · exact len64_1 w

set_option maxHeartbeats 1000000 in
theorem len_s (n : Nat) (hn : n ≤ 1) (w : World) : Calls Try.prog 41 #[.int .u64 n] w fun e w' => e = .returned (.int .i64 n) ∧ w' = w := by
  go_enter Try.func41, Try.ntmps41
  go_wp2_with (go_at_call 52; refine (len64_s n hn _).mono ?_; rintro e w' ⟨rfl, rfl⟩)
  go_ret
  exact ⟨rfl, rfl⟩

set_option maxHeartbeats 1000000 in
theorem insertion_s (a : Option Addr) (n c : Nat) (hn : n ≤ 1) (f : Value) (w : World) : Calls Try.prog 43 #[.slice a n c, .int .i64 0, .int .i64 n, f] w fun e w' => e = .returned (.tuple #[]) ∧ w' = w := by
  have h1 : ¬ ((1 : Int) < (n : Int)) := by omega
  go_enter Try.func43, Try.ntmps43
  go_wp2
  refine wp_loop_rounds 1 ?_
  rw [rounds_succ]
  go_wp2
  go_end0
  exact ⟨rfl, rfl⟩

set_option maxHeartbeats 1000000 in
theorem pdq_s (a : Option Addr) (n c : Nat) (hn : n ≤ 1) (l : Int) (f : Value) (w : World) : Calls Try.prog 40 #[.slice a n c, .int .i64 0, .int .i64 n, .int .i64 l, f] w fun e w' => e = .returned (.tuple #[]) ∧ w' = w := by
  have h1 : (n : Int) ≤ 12 := by omega
  have h2 : IntKind.i64.wrap (n : Int) = n := by apply IntWalk.i64_in <;> omega
  go_enter Try.func40, Try.ntmps40
  go_wp2
  refine wp_loop_rounds 1 ?_
  rw [rounds_succ]
  go_wp2_with fail
  refine (insertion_s a n c hn f _).mono ?_
  rintro e w' ⟨rfl, rfl⟩
  clear h1 h2
  go_wp2
  refine bodyPost_ret (results_none rfl _ _ _) rfl ?_
  exact ⟨rfl, rfl⟩

set_option maxHeartbeats 1000000 in
theorem sortFunc_s (a : Option Addr) (n c : Nat) (hn : n ≤ 1) (f : Value) (w : World) : Calls Try.prog 35 #[.slice a n c, f] w fun e w' => e = .returned (.tuple #[]) ∧ w' = w := by
  have h2 : IntKind.u64.wrap (n : Int) = n := by simp [IntKind.wrap, IntKind.bits]; omega
  go_enter Try.func35, Try.ntmps35
  go_wp2_with fail
  refine (len_s n hn _).mono ?_
  rintro e w' ⟨rfl, rfl⟩
  go_wp2_with fail
  refine (pdq_s a n c hn _ _ _).mono ?_
  rintro e w' ⟨rfl, rfl⟩
  go_wp2
  go_end0
  exact ⟨rfl, rfl⟩

set_option maxHeartbeats 1000000 in
theorem order_s (a : Option Addr) (n c : Nat) (hn : n ≤ 1) (w : World) : Calls Try.prog 26 #[.slice a n c] w fun e w' => e = .returned (.slice a n c) ∧ w' = w := by
  go_enter Try.func26, Try.ntmps26
  go_wp2_with fail
  refine (sortFunc_s a n c hn _ _).mono ?_
  rintro e w' ⟨rfl, rfl⟩
  go_wp2
  go_ret
  exact ⟨rfl, rfl⟩
end Go.Proofs.Yteihlfeifnnpaaa
