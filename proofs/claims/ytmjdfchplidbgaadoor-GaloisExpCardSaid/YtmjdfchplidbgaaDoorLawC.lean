/- Walks of the laws GaloisPows and GaloisExp: each returns true. Printed by gen_gal.py (wip). -/
import Derived.Test.YtmjdfchplidbgaaDoorLawA
namespace Go.Proofs.YtmjdfchplidbgaaDoor
open Go.RowKit
set_option maxRecDepth 100000

set_option maxHeartbeats 1000000 in
theorem pows (a m q r : Nat) (ha : a < 256) (hq : q < 256) (n : Int) (_hm : (IntKind.u64.wrap n).tmod 1000 = (m : Int)) (_hb : m < 1000) (HR : Hid (powI a ((m : Int) + 1) = r)) (HQ : Hid (powI a (m : Int) = q)) (HM : Hid (Gal.mul a q = r)) (HZ : Hid (powI a 0 = 1)) (HN : Hid (powI a (-((m : Int) + 1)) = 1)) (w : World) (ht : Tab w) :
    Calls Tryd.prog 6 #[.int .u8 a, .int .i64 n] w fun e w' => e = .returned (.bool true) ∧ Grown w w' := by
  go_enter Tryd.func6, Tryd.ntmps6
  go_wp2_with fail
  refine (pow_to a _ r ha HR _ ht).mono ?_
  rintro e w' ⟨rfl, n1, rfl⟩
  go_wp2_with fail
  refine (pow_to a _ q ha HQ _ (ht.drewN _)).mono ?_
  rintro e w' ⟨rfl, n2, rfl⟩
  go_wp2_with fail
  refine (mul_to a q r ha hq HM _ (ht.drewN _)).mono ?_
  rintro e w' ⟨rfl, n3, rfl⟩
  go_wp2_with fail
  refine (pow_to a 0 1 ha HZ _ (ht.drewN _)).mono ?_
  rintro e w' ⟨rfl, n4, rfl⟩
  go_wp2_with fail
  refine (pow_to a _ 1 ha HN _ (ht.drewN _)).mono ?_
  rintro e w' ⟨rfl, n5, rfl⟩
  go_wp2
  go_ret
  exact ⟨rfl, Grown.refl w⟩

set_option maxHeartbeats 1000000 in
theorem exps_zero (n m p q s : Int) (_hp : n / 4 = p) (_hq : m / 4 = q) (_hs : wrap64 (p + q) = s) (x y v : Nat) (hy : y < 256) (hv : v < 256) (HX : Hid (Gal.pw 2 (rst s) = x)) (HY : Hid (Gal.pw 2 (rst p) = y)) (HV : Hid (Gal.pw 2 (rst q) = v)) (HM : Hid (Gal.mul y v = x)) (w : World) (ht : Tab w) :
    Calls Tryd.prog 8 #[.int .u8 0, .int .i64 n, .int .i64 m] w fun e w' => e = .returned (.bool true) ∧ Grown w w' := by
  go_enter Tryd.func8, Tryd.ntmps8
  go_wp2_with fail
  refine (exp_to s x HX _ ht).mono ?_
  rintro e w' ⟨rfl, n1, rfl⟩
  go_wp2_with fail
  refine (exp_to p y HY _ (ht.drewN _)).mono ?_
  rintro e w' ⟨rfl, n2, rfl⟩
  go_wp2_with fail
  refine (exp_to q v HV _ (ht.drewN _)).mono ?_
  rintro e w' ⟨rfl, n3, rfl⟩
  go_wp2_with fail
  refine (mul_to y v x hy hv HM _ (ht.drewN _)).mono ?_
  rintro e w' ⟨rfl, n4, rfl⟩
  go_wp2_with fail
  refine (exp_zero _ (ht.drewN _)).mono ?_
  rintro e w' ⟨rfl, n5, rfl⟩
  go_wp2_with fail
  refine (log_zero _).mono ?_
  rintro e w' ⟨rfl, rfl⟩
  go_wp2
  go_ret
  exact ⟨rfl, Grown.refl w⟩

set_option maxHeartbeats 1000000 in
theorem exps_some (a : Nat) (ha : a < 256) (k : Nat) (hk : k < 255) (HK : Hid (a = Gal.pw 2 k)) (ha0 : Hid (a ≠ 0)) (_n0 : ((a : Int) == 0) = false) (_n1 : ((a : Int) != 0) = true) (HA : Hid (Gal.pw 2 (rst (k : Int)) = a)) (_hk2 : decide ((k : Int) < 255) = true) (n m p q s : Int) (_hp : n / 4 = p) (_hq : m / 4 = q) (_hs : wrap64 (p + q) = s) (x y v : Nat) (hy : y < 256) (hv : v < 256) (HX : Hid (Gal.pw 2 (rst s) = x)) (HY : Hid (Gal.pw 2 (rst p) = y)) (HV : Hid (Gal.pw 2 (rst q) = v)) (HM : Hid (Gal.mul y v = x)) (w : World) (ht : Tab w) :
    Calls Tryd.prog 8 #[.int .u8 a, .int .i64 n, .int .i64 m] w fun e w' => e = .returned (.bool true) ∧ Grown w w' := by
  go_enter Tryd.func8, Tryd.ntmps8
  go_wp2_with fail
  refine (exp_to s x HX _ ht).mono ?_
  rintro e w' ⟨rfl, n1, rfl⟩
  go_wp2_with fail
  refine (exp_to p y HY _ (ht.drewN _)).mono ?_
  rintro e w' ⟨rfl, n2, rfl⟩
  go_wp2_with fail
  refine (exp_to q v HV _ (ht.drewN _)).mono ?_
  rintro e w' ⟨rfl, n3, rfl⟩
  go_wp2_with fail
  refine (mul_to y v x hy hv HM _ (ht.drewN _)).mono ?_
  rintro e w' ⟨rfl, n4, rfl⟩
  go_wp2_with fail
  refine (exp_zero _ (ht.drewN _)).mono ?_
  rintro e w' ⟨rfl, n5, rfl⟩
  go_wp2_with fail
  refine (log_some a k ha ha0.out hk HK _ (ht.drewN _)).mono ?_
  rintro e w' ⟨rfl, rfl⟩
  go_wp2_with fail
  refine (exp_to k a HA _ (ht.drewN _)).mono ?_
  rintro e w' ⟨rfl, n6, rfl⟩
  go_wp2
  go_ret
  exact ⟨rfl, Grown.refl w⟩
end Go.Proofs.YtmjdfchplidbgaaDoor
