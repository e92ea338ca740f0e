/- The walk of slices.Equal over two rows of one shard each. -/
import Derived.Test.YteihlfeifnnpaaaAll
import Derived.Laws.StructEq
import Derived.ChangeKeysEq
namespace Go.Proofs.Yteihlfeifnnpaaa
open Go.RowKit Go.Maps Go.WideMaps Go.WideElems
set_option maxRecDepth 100000

theorem row3 : ∃ i, Try.prog.info? 3 = some i := by
  have : (Try.prog.info? 3).map (·.size) = some 1 := by kernel_rfl
  obtain ⟨i, h1, h2⟩ := Option.map_eq_some_iff.1 this
  exact ⟨i, h1⟩
theorem part0 (a b : Int) (w : World) : (part 3 #[.int .i64 a, .int .i64 b] 0).run Try.prog w = .ok (.int .i64 a) w := by kernel_rfl
theorem part1 (a b : Int) (w : World) : (part 3 #[.int .i64 a, .int .i64 b] 1).run Try.prog w = .ok (.int .i64 b) w := by kernel_rfl

/-- '==' between two shards -/
theorem eq33 (a b c d : Int) (w : World) : (Op.equalIn 10000 33 (pairV a b) (pairV c d)).run Try.prog w = .ok (a == c && b == d) w := by
  obtain ⟨i, h1⟩ := row3
  have h3 : (Op.equalIn 9999 3 (.int .i64 a) (.int .i64 c)).run Try.prog w = .ok (a == c) w := run_equalIn_int w 9998 3 .i64 .i64 a c Try.underlying3
  have h4 : (Op.equalIn 9999 3 (.int .i64 b) (.int .i64 d)).run Try.prog w = .ok (b == d) w := run_equalIn_int w 9998 3 .i64 .i64 b d Try.underlying3
  have e := run_equalIn_array (P := Try.prog) w 9999 #[.int .i64 a, .int .i64 b] #[.int .i64 c, .int .i64 d] Try.underlying33 h1
  rw [e]
  simp only [cells3, List.range_succ, List.range_zero, List.nil_append, List.cons_append, Op.eqItems, Nat.zero_mul, Nat.one_mul, Sem.run_bind, part0, h3, Result.andThen_ok]
  cases a == c
  · simp
  · cases hbd : b == d <;> rw [hbd] at h4 <;> simp [part1, h4, Result.andThen]

theorem eq33_same (a b : Int) (w : World) : (Op.equalIn 10000 33 (pairV a b) (pairV a b)).run Try.prog w = .ok true w := by
  rw [eq33]; simp

set_option maxHeartbeats 1000000 in
theorem equal_one {w : World} {g h cg ch : Nat} {b i : Int} (g0 : w.cell? ⟨g, 0, none⟩ = some (.int .i64 b)) (g1 : w.cell? ⟨g, 1, none⟩ = some (.int .i64 i)) (h0 : w.cell? ⟨h, 0, none⟩ = some (.int .i64 b)) (h1 : w.cell? ⟨h, 1, none⟩ = some (.int .i64 i)) :
    Calls Try.prog 17 #[.slice (some ⟨g, 0, none⟩) 1 cg, .slice (some ⟨h, 0, none⟩) 1 ch] w fun e w' => e = .returned (.bool true) ∧ Kept [] w w' := by
  have heq := eq33_same b i
  go_enter Try.func17, Try.ntmps17
  go_wp2
  refine wp_loop_rounds 2 ?_
  rw [rounds_succ]
  go_wp2
  go_quiet (fail)
  go_wp2
  rw [rounds_succ]
  go_wp2
  go_ret
  exact ⟨rfl, (Kept.refl _ _).drewN _⟩
end Go.Proofs.Yteihlfeifnnpaaa
