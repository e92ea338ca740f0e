/- Walks of the laws on powers: each returns true. Printed by gen_gal.py (wip). -/
import Derived.Test.YtmjdfchplidbgaaDoorLawA
namespace Go.Proofs.YtmjdfchplidbgaaDoor
open Go.RowKit
set_option maxRecDepth 100000

set_option maxHeartbeats 1000000 in
theorem squares (a b s t u v : Nat) (ha : a < 256) (hb : b < 256) (hs : s < 256) (hu : u < 256) (hv : v < 256) (HS : Hid (a ^^^ b = s)) (HT : Hid (powI s 2 = t)) (HU : Hid (powI a 2 = u)) (HV : Hid (powI b 2 = v)) (HA : Hid (u ^^^ v = t)) (HM : Hid (Gal.mul a a = u)) (HW : Hid (powI a 256 = a)) (w : World) (ht : Tab w) :
    Calls Tryd.prog 7 #[.int .u8 a, .int .u8 b] w fun e w' => e = .returned (.bool true) ∧ Grown w w' := by
  go_enter Tryd.func7, Tryd.ntmps7
  go_wp2_with fail
  refine (add_to a b s ha hb HS _).mono ?_
  rintro e w' ⟨rfl, rfl⟩
  go_wp2_with fail
  refine (pow_to s 2 t hs HT _ ht).mono ?_
  rintro e w' ⟨rfl, n1, rfl⟩
  go_wp2_with fail
  refine (pow_to a 2 u ha HU _ (ht.drewN _)).mono ?_
  rintro e w' ⟨rfl, n2, rfl⟩
  go_wp2_with fail
  refine (pow_to b 2 v hb HV _ (ht.drewN _)).mono ?_
  rintro e w' ⟨rfl, n3, rfl⟩
  go_wp2_with fail
  refine (add_to u v t hu hv HA _).mono ?_
  rintro e w' ⟨rfl, rfl⟩
  go_wp2_with fail
  refine (pow_to a 2 u ha HU _ (ht.drewN _)).mono ?_
  rintro e w' ⟨rfl, n4, rfl⟩
  go_wp2_with fail
  refine (mul_to a a u ha ha HM _ (ht.drewN _)).mono ?_
  rintro e w' ⟨rfl, n5, rfl⟩
  go_wp2_with fail
  refine (pow_to a 256 a ha HW _ (ht.drewN _)).mono ?_
  rintro e w' ⟨rfl, n6, rfl⟩
  go_wp2
  go_ret
  exact ⟨rfl, Grown.refl w⟩

set_option maxHeartbeats 1000000 in
theorem powers_zero (n : Int) (x y : Nat) (HX : Hid (Gal.pw 2 (rst n) = x)) (HY : Hid (powI 0 n = y)) (w : World) (ht : Tab w) :
    Calls Tryd.prog 9 #[.int .u8 0, .int .i64 n] w fun e w' => e = .returned (.bool true) ∧ Grown w w' := by
  have z : (0 : Nat) < 256 := by decide
  go_enter Tryd.func9, Tryd.ntmps9
  go_wp2_with fail
  refine (log_zero _).mono ?_
  rintro e w' ⟨rfl, rfl⟩
  go_wp2_with fail
  refine (refLog_zero _).mono ?_
  rintro e w' ⟨rfl, rfl⟩
  go_wp2_with fail
  refine (exp_to n x HX _ ht).mono ?_
  rintro e w' ⟨rfl, n1, rfl⟩
  go_wp2_with fail
  refine (refExp_to n x HX _).mono ?_
  rintro e w' ⟨rfl, rfl⟩
  go_wp2_with fail
  refine (pow_to 0 n y z HY _ (ht.drewN _)).mono ?_
  rintro e w' ⟨rfl, n2, rfl⟩
  go_wp2_with fail
  refine (refPow_to 0 n y z HY _).mono ?_
  rintro e w' ⟨rfl, rfl⟩
  go_wp2
  go_ret
  exact ⟨rfl, Grown.refl w⟩

set_option maxHeartbeats 1000000 in
theorem powers_some (a : Nat) (ha : a < 256) (k : Nat) (hk : k < 255) (HK : Hid (a = Gal.pw 2 k)) (ha0 : Hid (a ≠ 0)) (n : Int) (x y : Nat) (HX : Hid (Gal.pw 2 (rst n) = x)) (HY : Hid (powI a n = y)) (w : World) (ht : Tab w) :
    Calls Tryd.prog 9 #[.int .u8 a, .int .i64 n] w fun e w' => e = .returned (.bool true) ∧ Grown w w' := by
  go_enter Tryd.func9, Tryd.ntmps9
  go_wp2_with fail
  refine (log_some a k ha ha0.out hk HK _ ht).mono ?_
  rintro e w' ⟨rfl, rfl⟩
  go_wp2_with fail
  refine (refLog_some a k hk HK _).mono ?_
  rintro e w' ⟨rfl, rfl⟩
  go_wp2_with fail
  refine (exp_to n x HX _ ht).mono ?_
  rintro e w' ⟨rfl, n1, rfl⟩
  go_wp2_with fail
  refine (refExp_to n x HX _).mono ?_
  rintro e w' ⟨rfl, rfl⟩
  go_wp2_with fail
  refine (pow_to a n y ha HY _ (ht.drewN _)).mono ?_
  rintro e w' ⟨rfl, n2, rfl⟩
  go_wp2_with fail
  refine (refPow_to a n y ha HY _).mono ?_
  rintro e w' ⟨rfl, rfl⟩
  go_wp2
  go_ret
  exact ⟨rfl, Grown.refl w⟩
end Go.Proofs.YtmjdfchplidbgaaDoor
