/- The walks of the heap's up and Push, and of Retire. -/
import Derived.Test.YteihlfeifnnpaaaPush
namespace Go.Proofs.Yteihlfeifnnpaaa
open Go.RowKit Go.Maps Go.WideMaps Go.WideElems
set_option maxRecDepth 100000

set_option maxHeartbeats 400000 in
theorem up_zero (h : Value) (w : World) : Calls Try.prog 34 #[h, .int .i64 0] w fun e w' => e = .returned (.tuple #[]) ∧ w = w' := by
  go_enter Try.func34, Try.ntmps34
  go_wp2
  refine wp_loop_rounds 1 ?_
  rw [rounds_succ]
  go_wp2
  go_end0
  exact ⟨rfl, rfl⟩

set_option maxHeartbeats 400000 in
theorem len_any (a : Option Addr) (n c : Nat) (w : World) : Calls Try.prog 27 #[.slice a n c] w fun e w' => e = .returned (.int .i64 n) ∧ w' = w := by
  go_enter Try.func27, Try.ntmps27
  go_wp2
  go_ret
  exact ⟨rfl, rfl⟩

theorem mPush (a : Addr) (w : World) : (method 218 52 (.pointer (some a)) "Push").run Try.prog w = .ok (80, .pointer (some a)) w := by kernel_rfl
theorem mPop (a : Addr) (w : World) : (method 218 52 (.pointer (some a)) "Pop").run Try.prog w = .ok (79, .pointer (some a)) w := by kernel_rfl
theorem load39 {w : World} {a : Addr} {o : Option Addr} {n c : Nat} (h : w.cell? a = some (.slice o n c)) : (loadVar 39 a).run Try.prog w = .ok (.slice o n c) w := by
  simp [loadVar, h]

theorem mLen' (a : Addr) (w : World) : (method 218 52 (.pointer (some a)) "Len").run Try.prog w = ((loadVar 39 a) >>= fun v => (pure (27, v) : Sem (FuncId × Value))).run Try.prog w := by kernel_rfl
theorem mSwap' (a : Addr) (w : World) : (method 218 52 (.pointer (some a)) "Swap").run Try.prog w = ((loadVar 39 a) >>= fun v => (pure (78, v) : Sem (FuncId × Value))).run Try.prog w := by kernel_rfl

theorem mLen {w : World} {a : Addr} {o : Option Addr} {n c : Nat} (h : w.cell? a = some (.slice o n c)) :
    (method 218 52 (.pointer (some a)) "Len").run Try.prog w = .ok (27, .slice o n c) w := by
  rw [mLen']
  simp [load39 h, Result.andThen]

set_option maxHeartbeats 1000000 in
theorem hpush {w : World} {c m : Nat} (b i d : Int) (hb : w.heap[c]? = some (.cells #[.map (some m), .slice none 0 0] 41 (0, 0))) :
    Calls Try.prog 25 #[.iface 52 (.pointer (some ⟨c, 1, none⟩)), .iface 54 (itemV b i d)] w fun e w' => ∃ g cap, e = .returned (.tuple #[]) ∧ Kept [c] w w' ∧
      w'.heap[c]? = some (.cells #[.map (some m), .slice (some ⟨g, 0, none⟩) 1 cap] 41 (0, 0)) ∧ w'.ownsRow w.heap.size 54 3 (.slice (some ⟨g, 0, none⟩) 1 cap) 1 [.int .i64 b, .int .i64 i, .int .i64 d] := by
  have m1 := mPush
  have HB := Lib.hid hb
  clear hb
  go_enter Try.func25, Try.ntmps25
  go_wp2_with fail
  refine (push_any b i d HB.out).mono ?_
  rintro e w1 ⟨g, cap, rfl, hk, hb1, ho⟩
  have m2 : (method 218 52 (.pointer (some ⟨c, 1, none⟩)) "Len").run Try.prog w1 = .ok (27, .slice (some ⟨g, 0, none⟩) 1 cap) w1 := mLen (cell_heap hb1 1)
  go_wp2_with fail
  refine (len_any _ _ _ _).mono ?_
  rintro e w2 ⟨rfl, rfl⟩
  go_wp2_with fail
  refine (up_zero _ _).mono ?_
  rintro e w2 ⟨rfl, rfl⟩
  go_wp2
  go_end0
  exact ⟨g, cap, rfl, hk, hb1, ho⟩
end Go.Proofs.Yteihlfeifnnpaaa
