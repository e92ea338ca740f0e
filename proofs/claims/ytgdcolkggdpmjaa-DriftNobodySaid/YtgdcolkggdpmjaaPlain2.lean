/- Counting in stretches of ticks, in plain Lean. No program stands here. -/
import Derived.Test.YtgdcolkggdpmjaaPlain
namespace Drf

/-- how often x stands among the j from k on -/
def cnt (l : List Nat) (k j x : Nat) : Nat := ((l.drop k).take j).count x

theorem cnt_zero (l : List Nat) (k x : Nat) : cnt l k 0 x = 0 := by simp [cnt]

theorem cnt_succ (l : List Nat) (k j x : Nat) (h : k + j < l.length) : cnt l k (j + 1) x = cnt l k j x + if x = l.getD (k + j) 0 then 1 else 0 := by
  unfold cnt
  have h1 : j < (l.drop k).length := by rw [List.length_drop]; omega
  rw [List.take_succ_eq_append_getElem h1, List.count_append]
  have e : (l.drop k)[j] = l.getD (k + j) 0 := by
    rw [List.getElem_drop, List.getD_eq_getElem?_getD, List.getElem?_eq_getElem h]
    rfl
  rw [e, List.count_cons, List.count_nil]
  by_cases hx : x = l.getD (k + j) 0
  · rw [if_pos hx, hx]; simp
  · rw [if_neg hx]
    have : (l.getD (k + j) 0 == x) = false := by simp only [beq_eq_false_iff_ne]; exact fun e => hx e.symm
    rw [this]; simp

theorem cnt_le (l : List Nat) (k j x : Nat) : cnt l k j x ≤ j := by
  unfold cnt
  exact Nat.le_trans (List.count_le_length) (List.length_take_le _ _)

theorem cnt_bound {n : Nat} {l : List Nat} (h : Allowed n St.init l) (k j x y : Nat) (hx : x < n) : cnt l k j y ≤ 2 * cnt l k j x + 2 := by
  have e : l = (l.take k ++ (l.drop k).take j) ++ (l.drop k).drop j := by
    rw [List.append_assoc, List.take_append_drop, List.take_append_drop]
  rw [e] at h
  have h2 := (allowed_append n _ _ _ h).1
  exact bound h2 x y hx

end Drf
