/- What LeaseOver leans on: Until, Valid, and that the lease is over when the shard is told. -/
import Derived.Test.YteihlfeifnnpaaaNobody
namespace Go.Proofs.Yteihlfeifnnpaaa
open Go.RowKit Go.Maps Go.WideMaps Go.WideElems
set_option maxRecDepth 100000

set_option maxHeartbeats 400000 in
theorem until_any (t : Int) (w : World) : Calls Try.prog 8 #[.int .i64 t] w fun e w' => e = .returned (.int .i64 (timeI t + 40)) ∧ w' = w := by
  have hw : wrap64 (timeI t + 40) = timeI t + 40 := IntWalk.wrap64_in _ (by have := timeI_le t; omega)
  go_enter Try.func8, Try.ntmps8
  go_wp2_with fail
  refine (time_any _ _).mono ?_
  rintro e w' ⟨rfl, rfl⟩
  go_wp2
  go_ret
  exact ⟨ret_int hw, rfl⟩

set_option maxHeartbeats 400000 in
theorem valid_no (u t : Int) (h : ¬ timeI t < timeI u) (w : World) : Calls Try.prog 10 #[.int .i64 u, .int .i64 t] w fun e w' => e = .returned (.bool false) ∧ w' = w := by
  go_enter Try.func10, Try.ntmps10
  go_wp2_with fail
  refine (time_any _ _).mono ?_
  rintro e w' ⟨rfl, rfl⟩
  go_wp2_with fail
  refine (time_any _ _).mono ?_
  rintro e w' ⟨rfl, rfl⟩
  go_wp2
  go_ret
  exact ⟨ret_bool (decide_eq_false (by omega)), rfl⟩

/-- what is known of two clocks behind a lease's begin (clock 0 told T0, clock 1 told T1) -/
structure Inv (st : Drf.St) (T0 T1 : Nat) : Prop where
  near : st.t 1 + 2 * T0 ≤ st.lead 0 1 + 2 * st.t 0 + T1
  on0 : T0 ≤ st.t 0
  on1 : T1 ≤ st.t 1

theorem inv_begin (st : Drf.St) : Inv st (st.t 0) (st.t 1) := ⟨by omega, Nat.le_refl _, Nat.le_refl _⟩

theorem inv_ask {st : Drf.St} {T0 T1 : Nat} (h : Inv st T0 T1) (b : Nat) (hb : b < 2) : Inv (st.ask 2 b) T0 T1 := by
  obtain ⟨h1, h2, h3⟩ := h
  unfold Drf.St.ask
  split
  · rcases (show b = 0 ∨ b = 1 by omega) with rfl | rfl
    · constructor <;> simp [Drf.St.tick] <;> omega
    · constructor <;> simp [Drf.St.tick] <;> omega
  · exact ⟨h1, h2, h3⟩

theorem on_ask {st : Drf.St} {T : Nat} (h : T ≤ st.t 0) (b : Nat) : T ≤ (st.ask 2 b).t 0 := by
  unfold Drf.St.ask
  split
  · simp only [Drf.St.tick]; split <;> omega
  · exact h

theorem inv_told {st : Drf.St} {T0 T1 : Nat} (h : Inv st T0 T1) (hl : Drf.Low 2 st) (ht : timeI (T1 : Int) + 83 ≤ timeI (st.t 1 : Nat)) : T0 + 41 ≤ st.t 0 := by
  obtain ⟨h1, h2, h3⟩ := h
  have h4 := hl 0 1 (by omega) (by omega)
  have h5 : T1 + 83 ≤ st.t 1 := by
    unfold timeI at ht
    split at ht <;> split at ht <;> (try split at ht) <;> (try split at ht) <;> omega
  omega

theorem over {T0 : Nat} {t : Nat} (h : T0 + 41 ≤ t) : ¬ timeI (t : Int) < timeI (timeI (T0 : Int) + 40) := by
  unfold timeI
  repeat' split
  all_goals omega
end Go.Proofs.Yteihlfeifnnpaaa
