/- Walks of the laws over the 256 numbers: each returns true. Printed by gen_gal.py (wip). -/
import Derived.Test.YtmjdfchplidbgaaDoorRefs
namespace Go.Proofs.YtmjdfchplidbgaaDoor
open Go.RowKit
set_option maxRecDepth 100000

theorem mul_to (a b r : Nat) (ha : a < 256) (hb : b < 256) (hr : Hid (Gal.mul a b = r)) (w : World) (ht : Tab w) :
    Calls Tryd.prog 10 #[.int .u8 a, .int .u8 b] w fun e w' => e = .returned (.int .u8 r) ∧ ∃ n, w' = w.drewN n := by
  rw [← hr.out]; exact mul_any a b ha hb w ht
theorem mul_one_to (a : Nat) (ha : a < 256) (w : World) (ht : Tab w) :
    Calls Tryd.prog 10 #[.int .u8 a, .int .u8 1] w fun e w' => e = .returned (.int .u8 a) ∧ ∃ n, w' = w.drewN n :=
  mul_to a 1 a ha (by decide) (Gal.mul_one a ha) w ht
theorem mul_lit (w : World) (ht : Tab w) :
    Calls Tryd.prog 10 #[.int .u8 128, .int .u8 2] w fun e w' => e = .returned (.int .u8 29) ∧ ∃ n, w' = w.drewN n :=
  mul_to 128 2 29 (by decide) (by decide) (show Gal.mul 128 2 = 29 by decide +kernel) w ht
theorem refMul_to (a b r : Nat) (ha : a < 256) (hb : b < 256) (hr : Hid (Gal.mul a b = r)) (w : World) :
    Calls Tryd.prog 16 #[.int .u8 a, .int .u8 b] w fun e w' => e = .returned (.int .u8 r) ∧ w = w' := by
  rw [← hr.out]; exact refMul_of a b rfl rfl ha hb w
theorem add_to (a b r : Nat) (ha : a < 256) (hb : b < 256) (hr : Hid (a ^^^ b = r)) (w : World) :
    Calls Tryd.prog 11 #[.int .u8 a, .int .u8 b] w fun e w' => e = .returned (.int .u8 r) ∧ w = w' := by
  rw [← hr.out]; exact add_any a b ha hb w
theorem inv_to (a r : Nat) (ha : a < 256) (h : Hid (a ≠ 0)) (hr : Hid (Gal.inv a = r)) (w : World) (ht : Tab w) :
    Calls Tryd.prog 12 #[.int .u8 a] w fun e w' => e = .returned (.tuple #[.int .u8 r, .int .i64 0]) ∧ ∃ m, w' = w.drewN m := by
  rw [← hr.out]; exact inv_some a ha h.out w ht
theorem refInv_to (a r : Nat) (ha : a < 256) (h : Hid (a ≠ 0)) (hr : Hid (Gal.inv a = r)) (w : World) :
    Calls Tryd.prog 15 #[.int .u8 a] w fun e w' => e = .returned (.tuple #[.int .u8 r, .int .i64 0]) ∧ w = w' := by
  rw [← hr.out]; exact refInv_some a ha h.out w
theorem div_to (a b r : Nat) (ha : a < 256) (hb : b < 256) (h : Hid (b ≠ 0)) (hr : Hid (Gal.mul a (Gal.inv b) = r)) (w : World) (ht : Tab w) :
    Calls Tryd.prog 13 #[.int .u8 a, .int .u8 b] w fun e w' => e = .returned (.tuple #[.int .u8 r, .int .i64 0]) ∧ ∃ m, w' = w.drewN m := by
  rw [← hr.out]; exact div_some a b ha hb h.out w ht
theorem refDiv_to (a b r : Nat) (ha : a < 256) (hb : b < 256) (h : Hid (b ≠ 0)) (hr : Hid (Gal.mul a (Gal.inv b) = r)) (w : World) :
    Calls Tryd.prog 14 #[.int .u8 a, .int .u8 b] w fun e w' => e = .returned (.tuple #[.int .u8 r, .int .i64 0]) ∧ w = w' :=
  refDiv_some a b r ha hb h.out (by rw [← hr.out]; exact Gal.mul_lt _ _) hr.out.symm w
theorem add_self (a : Nat) (ha : a < 256) (w : World) :
    Calls Tryd.prog 11 #[.int .u8 a, .int .u8 a] w fun e w' => e = .returned (.int .u8 0) ∧ w = w' :=
  add_to a a 0 ha ha (Nat.xor_self a) w
theorem exp_to (n : Int) (r : Nat) (hr : Hid (Gal.pw 2 (rst n) = r)) (w : World) (ht : Tab w) :
    Calls Tryd.prog 18 #[.int .i64 n] w fun e w' => e = .returned (.int .u8 r) ∧ ∃ m, w' = w.drewN m := by
  rw [← hr.out]; exact exp_any n w ht
theorem exp_zero (w : World) (ht : Tab w) :
    Calls Tryd.prog 18 #[.int .i64 0] w fun e w' => e = .returned (.int .u8 1) ∧ ∃ m, w' = w.drewN m :=
  exp_to 0 1 (show Gal.pw 2 (rst 0) = 1 by decide) w ht
theorem refExp_to (n : Int) (r : Nat) (hr : Hid (Gal.pw 2 (rst n) = r)) (w : World) :
    Calls Tryd.prog 21 #[.int .i64 n] w fun e w' => e = .returned (.int .u8 r) ∧ w = w' := by
  rw [← hr.out]; exact refExp_any n w

/-- a power, whatever the exponent -/
def powI (a : Nat) (n : Int) : Nat := if n ≤ 0 then 1 else Gal.pw a n.toNat

theorem powI_zero (n : Int) (h : ¬ n ≤ 0) : powI 0 n = 0 := by
  unfold powI
  rw [if_neg h]
  obtain ⟨m, hm⟩ : ∃ m, n.toNat = m + 1 := ⟨n.toNat - 1, by omega⟩
  rw [hm]; exact Gal.mul_zero _

theorem powI_some (a : Nat) (ha : a < 256) (h : a ≠ 0) (n : Int) (hn : ¬ n ≤ 0) : powI a n = Gal.pw a (rst n) := by
  unfold powI
  rw [if_neg hn, ← Gal.pw_mod a n.toNat ha h]
  congr 1
  unfold rst
  omega

theorem pow_to (a : Nat) (n : Int) (r : Nat) (ha : a < 256) (hr : Hid (powI a n = r)) (w : World) (ht : Tab w) :
    Calls Tryd.prog 17 #[.int .u8 a, .int .i64 n] w fun e w' => e = .returned (.int .u8 r) ∧ ∃ m, w' = w.drewN m := by
  rw [← hr.out]
  by_cases hn : n ≤ 0
  · have e1 : powI a n = 1 := by unfold powI; rw [if_pos hn]
    rw [e1]; refine (pow_low a n hn w).mono ?_
    rintro e w' ⟨rfl, rfl⟩; exact ⟨rfl, 0, rfl⟩
  · by_cases h0 : a = 0
    · subst h0
      rw [powI_zero n hn]; refine (pow_zero n (by omega) w).mono ?_
      rintro e w' ⟨rfl, rfl⟩; exact ⟨rfl, 0, rfl⟩
    · rw [powI_some a ha h0 n hn]; exact pow_some a ha h0 n (by omega) w ht
theorem refPow_to (a : Nat) (n : Int) (r : Nat) (ha : a < 256) (hr : Hid (powI a n = r)) (w : World) :
    Calls Tryd.prog 22 #[.int .u8 a, .int .i64 n] w fun e w' => e = .returned (.int .u8 r) ∧ w = w' := by
  rw [← hr.out]
  by_cases hn : n ≤ 0
  · have e1 : powI a n = 1 := by unfold powI; rw [if_pos hn]
    rw [e1]; exact refPow_low a n hn w
  · by_cases h0 : a = 0
    · subst h0
      rw [powI_zero n hn]; exact refPow_zero n (by omega) w
    · rw [powI_some a ha h0 n hn]; exact refPow_some a ha h0 n (by omega) w

theorem nat_ne0_true {a : Nat} (h : a ≠ 0) : ((a : Int) != 0) = true := by simp; omega
theorem grown_drewN {w w' : World} (h : Grown w w') (n : Nat) : Grown w (w'.drewN n) := h

set_option maxHeartbeats 1000000 in
theorem field_zero (b c q s : Nat) (hb : b < 256) (hc : c < 256) (hq : q < 256) (hs : s < 256) (H1 : Hid (Gal.mul 0 b = 0)) (H2 : Hid (Gal.mul b 0 = 0)) (H3 : Hid (Gal.mul 0 c = 0)) (H4 : Hid (Gal.mul b c = q)) (H5 : Hid (Gal.mul 0 q = 0)) (H6 : Hid (b ^^^ c = s)) (H7 : Hid (Gal.mul 0 s = 0)) (w : World) (ht : Tab w) :
    Calls Tryd.prog 3 #[.int .u8 0, .int .u8 b, .int .u8 c] w fun e w' => e = .returned (.bool true) ∧ Grown w w' := by
  have z : (0 : Nat) < 256 := by decide
  go_enter Tryd.func3, Tryd.ntmps3
  go_wp2_with fail
  refine (mul_to 0 b 0 z hb H1 _ ht).mono ?_
  rintro e w' ⟨rfl, n1, rfl⟩
  go_wp2_with fail
  refine (mul_to b 0 0 hb z H2 _ (ht.drewN _)).mono ?_
  rintro e w' ⟨rfl, n2, rfl⟩
  go_wp2_with fail
  refine (mul_to 0 b 0 z hb H1 _ (ht.drewN _)).mono ?_
  rintro e w' ⟨rfl, n3, rfl⟩
  go_wp2_with fail
  refine (mul_to 0 c 0 z hc H3 _ (ht.drewN _)).mono ?_
  rintro e w' ⟨rfl, n4, rfl⟩
  go_wp2_with fail
  refine (mul_to b c q hb hc H4 _ (ht.drewN _)).mono ?_
  rintro e w' ⟨rfl, n5, rfl⟩
  go_wp2_with fail
  refine (mul_to 0 q 0 z hq H5 _ (ht.drewN _)).mono ?_
  rintro e w' ⟨rfl, n6, rfl⟩
  go_wp2_with fail
  refine (add_to b c s hb hc H6 _).mono ?_
  rintro e w' ⟨rfl, rfl⟩
  go_wp2_with fail
  refine (mul_to 0 s 0 z hs H7 _ (ht.drewN _)).mono ?_
  rintro e w' ⟨rfl, n7, rfl⟩
  go_wp2_with fail
  refine (mul_to 0 b 0 z hb H1 _ (ht.drewN _)).mono ?_
  rintro e w' ⟨rfl, n8, rfl⟩
  go_wp2_with fail
  refine (mul_to 0 c 0 z hc H3 _ (ht.drewN _)).mono ?_
  rintro e w' ⟨rfl, n9, rfl⟩
  go_wp2_with fail
  refine (add_self 0 z _).mono ?_
  rintro e w' ⟨rfl, rfl⟩
  go_wp2_with fail
  refine (add_self 0 z _).mono ?_
  rintro e w' ⟨rfl, rfl⟩
  go_wp2_with fail
  refine (mul_one_to 0 z _ (ht.drewN _)).mono ?_
  rintro e w' ⟨rfl, n10, rfl⟩
  go_wp2_with fail
  refine (inv_zero _).mono ?_
  rintro e w' ⟨rfl, rfl⟩
  go_wp2
  go_ret
  exact ⟨rfl, Grown.refl w⟩

set_option maxHeartbeats 1000000 in
theorem field_some (a b c p q r s t u i : Nat) (ha : a < 256) (hb : b < 256) (hc : c < 256) (hp : p < 256) (hq : q < 256) (hs : s < 256) (hu : u < 256) (hi : i < 256) (h0 : Hid (a ≠ 0)) (_n0 : ((a : Int) == 0) = false) (_n1 : ((a : Int) != 0) = true) (H1 : Hid (Gal.mul a b = p)) (H2 : Hid (Gal.mul b a = p)) (H3 : Hid (Gal.mul p c = r)) (H4 : Hid (Gal.mul b c = q)) (H5 : Hid (Gal.mul a q = r)) (H6 : Hid (b ^^^ c = s)) (H7 : Hid (Gal.mul a s = t)) (H8 : Hid (Gal.mul a c = u)) (H9 : Hid (p ^^^ u = t)) (H10 : Hid (Gal.inv a = i)) (H11 : Hid (Gal.mul a i = 1)) (w : World) (ht : Tab w) :
    Calls Tryd.prog 3 #[.int .u8 a, .int .u8 b, .int .u8 c] w fun e w' => e = .returned (.bool true) ∧ Grown w w' := by
  go_enter Tryd.func3, Tryd.ntmps3
  go_wp2_with fail
  refine (mul_to a b p ha hb H1 _ ht).mono ?_
  rintro e w' ⟨rfl, n1, rfl⟩
  go_wp2_with fail
  refine (mul_to b a p hb ha H2 _ (ht.drewN _)).mono ?_
  rintro e w' ⟨rfl, n2, rfl⟩
  go_wp2_with fail
  refine (mul_to a b p ha hb H1 _ (ht.drewN _)).mono ?_
  rintro e w' ⟨rfl, n3, rfl⟩
  go_wp2_with fail
  refine (mul_to p c r hp hc H3 _ (ht.drewN _)).mono ?_
  rintro e w' ⟨rfl, n4, rfl⟩
  go_wp2_with fail
  refine (mul_to b c q hb hc H4 _ (ht.drewN _)).mono ?_
  rintro e w' ⟨rfl, n5, rfl⟩
  go_wp2_with fail
  refine (mul_to a q r ha hq H5 _ (ht.drewN _)).mono ?_
  rintro e w' ⟨rfl, n6, rfl⟩
  go_wp2_with fail
  refine (add_to b c s hb hc H6 _).mono ?_
  rintro e w' ⟨rfl, rfl⟩
  go_wp2_with fail
  refine (mul_to a s t ha hs H7 _ (ht.drewN _)).mono ?_
  rintro e w' ⟨rfl, n7, rfl⟩
  go_wp2_with fail
  refine (mul_to a b p ha hb H1 _ (ht.drewN _)).mono ?_
  rintro e w' ⟨rfl, n8, rfl⟩
  go_wp2_with fail
  refine (mul_to a c u ha hc H8 _ (ht.drewN _)).mono ?_
  rintro e w' ⟨rfl, n9, rfl⟩
  go_wp2_with fail
  refine (add_to p u t hp hu H9 _).mono ?_
  rintro e w' ⟨rfl, rfl⟩
  go_wp2_with fail
  refine (add_self a ha _).mono ?_
  rintro e w' ⟨rfl, rfl⟩
  go_wp2_with fail
  refine (mul_one_to a ha _ (ht.drewN _)).mono ?_
  rintro e w' ⟨rfl, n10, rfl⟩
  go_wp2_with fail
  refine (inv_to a i ha h0 H10 _ (ht.drewN _)).mono ?_
  rintro e w' ⟨rfl, n11, rfl⟩
  go_wp2_with fail
  refine (mul_to a i 1 ha hi H11 _ (ht.drewN _)).mono ?_
  rintro e w' ⟨rfl, n12, rfl⟩
  go_wp2
  go_ret
  exact ⟨rfl, Grown.refl w⟩

set_option maxHeartbeats 1000000 in
theorem quot_zero (a : Nat) (ha : a < 256) (H1 : Hid (Gal.mul a 0 = 0)) (w : World) (ht : Tab w) :
    Calls Tryd.prog 4 #[.int .u8 a, .int .u8 0] w fun e w' => e = .returned (.bool true) ∧ Grown w w' := by
  have z : (0 : Nat) < 256 := by decide
  go_enter Tryd.func4, Tryd.ntmps4
  go_wp2_with fail
  refine (mul_to a 0 0 ha z H1 _ ht).mono ?_
  rintro e w' ⟨rfl, n1, rfl⟩
  go_wp2_with fail
  refine (div_zero 0 _).mono ?_
  rintro e w' ⟨rfl, rfl⟩
  go_wp2
  go_ret
  exact ⟨rfl, Grown.refl w⟩

set_option maxHeartbeats 1000000 in
theorem quot_some (a b p : Nat) (ha : a < 256) (hb : b < 256) (hp : p < 256) (h0 : Hid (b ≠ 0)) (_n0 : ((b : Int) == 0) = false) (_n1 : ((b : Int) != 0) = true) (H1 : Hid (Gal.mul a b = p)) (H2 : Hid (Gal.mul p (Gal.inv b) = a)) (w : World) (ht : Tab w) :
    Calls Tryd.prog 4 #[.int .u8 a, .int .u8 b] w fun e w' => e = .returned (.bool true) ∧ Grown w w' := by
  go_enter Tryd.func4, Tryd.ntmps4
  go_wp2_with fail
  refine (mul_to a b p ha hb H1 _ ht).mono ?_
  rintro e w' ⟨rfl, n1, rfl⟩
  go_wp2_with fail
  refine (div_to p b a hp hb h0 H2 _ (ht.drewN _)).mono ?_
  rintro e w' ⟨rfl, n2, rfl⟩
  go_wp2
  go_ret
  exact ⟨rfl, Grown.refl w⟩

set_option maxHeartbeats 1000000 in
theorem tells_zz (s p : Nat) (HS : Hid (0 ^^^ 0 = s)) (_hx : bits BinOp.xor IntKind.u8 (0 : Int) (0 : Int) = (s : Int)) (HP : Hid (Gal.mul 0 0 = p)) (w : World) (ht : Tab w) :
    Calls Tryd.prog 5 #[.int .u8 0, .int .u8 0] w fun e w' => e = .returned (.bool true) ∧ Grown w w' := by
  have z : (0 : Nat) < 256 := by decide
  go_enter Tryd.func5, Tryd.ntmps5
  go_wp2_with fail
  refine (div_zero 0 _).mono ?_
  rintro e w' ⟨rfl, rfl⟩
  go_wp2_with fail
  refine (refDiv_zero 0 _).mono ?_
  rintro e w' ⟨rfl, rfl⟩
  go_wp2_with fail
  refine (inv_zero _).mono ?_
  rintro e w' ⟨rfl, rfl⟩
  go_wp2_with fail
  refine (refInv_zero _).mono ?_
  rintro e w' ⟨rfl, rfl⟩
  go_wp2_with fail
  refine (add_to 0 0 s z z HS _).mono ?_
  rintro e w' ⟨rfl, rfl⟩
  go_wp2_with fail
  refine (mul_to 0 0 p z z HP _ ht).mono ?_
  rintro e w' ⟨rfl, n1, rfl⟩
  go_wp2_with fail
  refine (refMul_to 0 0 p z z HP _).mono ?_
  rintro e w' ⟨rfl, rfl⟩
  go_wp2_with fail
  refine (mul_lit _ (ht.drewN _)).mono ?_
  rintro e w' ⟨rfl, n2, rfl⟩
  go_wp2
  go_ret
  exact ⟨rfl, Grown.refl w⟩

set_option maxHeartbeats 1000000 in
theorem tells_zs (b : Nat) (hb : b < 256) (hb0 : Hid (b ≠ 0)) (q : Nat) (HQ : Hid (Gal.mul 0 (Gal.inv b) = q)) (s p : Nat) (HS : Hid (0 ^^^ b = s)) (_hx : bits BinOp.xor IntKind.u8 (0 : Int) ((b : Nat) : Int) = (s : Int)) (HP : Hid (Gal.mul 0 b = p)) (w : World) (ht : Tab w) :
    Calls Tryd.prog 5 #[.int .u8 0, .int .u8 b] w fun e w' => e = .returned (.bool true) ∧ Grown w w' := by
  have z : (0 : Nat) < 256 := by decide
  go_enter Tryd.func5, Tryd.ntmps5
  go_wp2_with fail
  refine (div_to 0 b q z hb hb0 HQ _ ht).mono ?_
  rintro e w' ⟨rfl, n1, rfl⟩
  go_wp2_with fail
  refine (refDiv_to 0 b q z hb hb0 HQ _).mono ?_
  rintro e w' ⟨rfl, rfl⟩
  go_wp2_with fail
  refine (inv_zero _).mono ?_
  rintro e w' ⟨rfl, rfl⟩
  go_wp2_with fail
  refine (refInv_zero _).mono ?_
  rintro e w' ⟨rfl, rfl⟩
  go_wp2_with fail
  refine (add_to 0 b s z hb HS _).mono ?_
  rintro e w' ⟨rfl, rfl⟩
  go_wp2_with fail
  refine (mul_to 0 b p z hb HP _ (ht.drewN _)).mono ?_
  rintro e w' ⟨rfl, n2, rfl⟩
  go_wp2_with fail
  refine (refMul_to 0 b p z hb HP _).mono ?_
  rintro e w' ⟨rfl, rfl⟩
  go_wp2_with fail
  refine (mul_lit _ (ht.drewN _)).mono ?_
  rintro e w' ⟨rfl, n3, rfl⟩
  go_wp2
  go_ret
  exact ⟨rfl, Grown.refl w⟩

set_option maxHeartbeats 1000000 in
theorem tells_sz (a : Nat) (ha : a < 256) (ha0 : Hid (a ≠ 0)) (i : Nat) (HI : Hid (Gal.inv a = i)) (s p : Nat) (HS : Hid (a ^^^ 0 = s)) (_hx : bits BinOp.xor IntKind.u8 ((a : Nat) : Int) (0 : Int) = (s : Int)) (HP : Hid (Gal.mul a 0 = p)) (w : World) (ht : Tab w) :
    Calls Tryd.prog 5 #[.int .u8 a, .int .u8 0] w fun e w' => e = .returned (.bool true) ∧ Grown w w' := by
  have z : (0 : Nat) < 256 := by decide
  go_enter Tryd.func5, Tryd.ntmps5
  go_wp2_with fail
  refine (div_zero a _).mono ?_
  rintro e w' ⟨rfl, rfl⟩
  go_wp2_with fail
  refine (refDiv_zero a _).mono ?_
  rintro e w' ⟨rfl, rfl⟩
  go_wp2_with fail
  refine (inv_to a i ha ha0 HI _ ht).mono ?_
  rintro e w' ⟨rfl, n1, rfl⟩
  go_wp2_with fail
  refine (refInv_to a i ha ha0 HI _).mono ?_
  rintro e w' ⟨rfl, rfl⟩
  go_wp2_with fail
  refine (add_to a 0 s ha z HS _).mono ?_
  rintro e w' ⟨rfl, rfl⟩
  go_wp2_with fail
  refine (mul_to a 0 p ha z HP _ (ht.drewN _)).mono ?_
  rintro e w' ⟨rfl, n2, rfl⟩
  go_wp2_with fail
  refine (refMul_to a 0 p ha z HP _).mono ?_
  rintro e w' ⟨rfl, rfl⟩
  go_wp2_with fail
  refine (mul_lit _ (ht.drewN _)).mono ?_
  rintro e w' ⟨rfl, n3, rfl⟩
  go_wp2
  go_ret
  exact ⟨rfl, Grown.refl w⟩

set_option maxHeartbeats 1000000 in
theorem tells_ss (a : Nat) (ha : a < 256) (ha0 : Hid (a ≠ 0)) (i : Nat) (HI : Hid (Gal.inv a = i)) (b : Nat) (hb : b < 256) (hb0 : Hid (b ≠ 0)) (q : Nat) (HQ : Hid (Gal.mul a (Gal.inv b) = q)) (s p : Nat) (HS : Hid (a ^^^ b = s)) (_hx : bits BinOp.xor IntKind.u8 ((a : Nat) : Int) ((b : Nat) : Int) = (s : Int)) (HP : Hid (Gal.mul a b = p)) (w : World) (ht : Tab w) :
    Calls Tryd.prog 5 #[.int .u8 a, .int .u8 b] w fun e w' => e = .returned (.bool true) ∧ Grown w w' := by
  go_enter Tryd.func5, Tryd.ntmps5
  go_wp2_with fail
  refine (div_to a b q ha hb hb0 HQ _ ht).mono ?_
  rintro e w' ⟨rfl, n1, rfl⟩
  go_wp2_with fail
  refine (refDiv_to a b q ha hb hb0 HQ _).mono ?_
  rintro e w' ⟨rfl, rfl⟩
  go_wp2_with fail
  refine (inv_to a i ha ha0 HI _ (ht.drewN _)).mono ?_
  rintro e w' ⟨rfl, n2, rfl⟩
  go_wp2_with fail
  refine (refInv_to a i ha ha0 HI _).mono ?_
  rintro e w' ⟨rfl, rfl⟩
  go_wp2_with fail
  refine (add_to a b s ha hb HS _).mono ?_
  rintro e w' ⟨rfl, rfl⟩
  go_wp2_with fail
  refine (mul_to a b p ha hb HP _ (ht.drewN _)).mono ?_
  rintro e w' ⟨rfl, n3, rfl⟩
  go_wp2_with fail
  refine (refMul_to a b p ha hb HP _).mono ?_
  rintro e w' ⟨rfl, rfl⟩
  go_wp2_with fail
  refine (mul_lit _ (ht.drewN _)).mono ?_
  rintro e w' ⟨rfl, n4, rfl⟩
  go_wp2
  go_ret
  exact ⟨rfl, Grown.refl w⟩
end Go.Proofs.YtmjdfchplidbgaaDoor
