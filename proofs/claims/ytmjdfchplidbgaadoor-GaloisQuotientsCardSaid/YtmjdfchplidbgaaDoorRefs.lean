/- Walks of the reference's functions over the 256 numbers: what each returns, in the words of the plain field. -/
import Derived.Test.YtmjdfchplidbgaaDoorWalks
namespace Go.Proofs.YtmjdfchplidbgaaDoor
open Go.RowKit
set_option maxRecDepth 100000

theorem i64_small (n : Int) (h₀ : 0 ≤ n) (h₁ : n < 2 ^ 15) : IntKind.i64.wrap n = n := by rw [IntKind.wrap_i64]; omega

theorem i64_xor_nat (a b : Nat) (ha : a < 2 ^ 15) (hb : b < 2 ^ 15) : bits .xor .i64 (a : Int) (b : Int) = ((a ^^^ b : Nat) : Int) :=
  by
  have hp : 2 ^ 15 ≤ 2 ^ IntKind.i64.bits := Nat.pow_le_pow_right (by decide) (by decide)
  have ha' : a % 2 ^ IntKind.i64.bits = a := Nat.mod_eq_of_lt (Nat.lt_of_lt_of_le ha hp)
  have hb' : b % 2 ^ IntKind.i64.bits = b := Nat.mod_eq_of_lt (Nat.lt_of_lt_of_le hb hp)
  have hx := Gal.xor_lt a b 15 ha hb
  simp only [bits, BitVec.ofInt_natCast, BitVec.toNat_xor, BitVec.toNat_ofNat, ha', hb']
  exact i64_small _ (Int.natCast_nonneg _) (by omega)

theorem wrap_nat (n : Nat) (h : n < 2 ^ 15) : wrap64 (n : Int) = n := IntWalk.wrap64_in _ (by omega)

theorem bit_u8 (b k : Nat) (hb : b < 256) : bits BinOp.and IntKind.u8 ((b : Int) / 2 ^ k) 1 = ((b >>> k % 2 : Nat) : Int) := by
  have e1 : ((b : Int) / 2 ^ k) = ((b >>> k : Nat) : Int) := by rw [Nat.shiftRight_eq_div_pow]; simp
  have h1 : b >>> k < 256 := by rw [Nat.shiftRight_eq_div_pow]; exact Nat.lt_of_le_of_lt (Nat.div_le_self _ _) hb
  rw [e1]; have := u8_and_nat (b >>> k) 1 h1 (by decide); rw [nat_mask1] at this; exact this

theorem bit_i64 (p j : Nat) : bits BinOp.and IntKind.i64 ((p : Int) / 2 ^ j) 1 = ((p >>> j % 2 : Nat) : Int) := by
  have e1 : ((p : Int) / 2 ^ j) = ((p >>> j : Nat) : Int) := by rw [Nat.shiftRight_eq_div_pow]; simp
  rw [e1, i64_and1]; simp

theorem test_true {x : Int} {n : Nat} (hx : x = n) (h : n = 1) : (x == 1) = true := by subst hx h; rfl
theorem test_false {x : Int} {n : Nat} (hx : x = n) (h : ¬ n = 1) : (x == 1) = false := by subst hx; simp; omega

theorem spread_yes (a b k : Nat) (ha : a < 256) (hk : k < 8) (h : b >>> k % 2 = 1) :
    bits BinOp.xor IntKind.i64 (↑(Gal.spreadTo a b k)) (wrap64 (↑a * 2 ^ k)) = ↑(Gal.spreadTo a b (k + 1)) := by
  have e3 : ((a : Int) * 2 ^ k) = ((a <<< k : Nat) : Int) := by rw [Nat.shiftLeft_eq]; simp
  have h3 : a <<< k < 2 ^ 15 := by
    rw [Nat.shiftLeft_eq]
    have : (2 : Nat) ^ k ≤ 2 ^ 7 := Nat.pow_le_pow_right (by decide) (by omega)
    have : a * 2 ^ k ≤ 255 * 2 ^ 7 := Nat.mul_le_mul (by omega) this
    omega
  rw [e3, wrap_nat _ h3, i64_xor_nat _ _ (Gal.spread_lt a b k ha (by omega)) h3]
  show _ = ((Gal.spreadTo a b k ^^^ (if b >>> k % 2 = 1 then a <<< k else 0) : Nat) : Int)
  rw [if_pos h]

theorem spread_no (a b k : Nat) (h : ¬ b >>> k % 2 = 1) : Gal.spreadTo a b (k + 1) = Gal.spreadTo a b k := by
  show Gal.spreadTo a b k ^^^ (if b >>> k % 2 = 1 then a <<< k else 0) = _
  rw [if_neg h, Nat.xor_zero]

theorem red_yes (p j : Nat) (hp : p < 2 ^ 15) (h1 : 8 ≤ j) (h2 : j ≤ 14) (h : Gal.redTo p (14 - j) >>> j % 2 = 1) :
    bits BinOp.xor IntKind.i64 (↑(Gal.redTo p (14 - j))) (wrap64 (285 * 2 ^ (j - 8))) = ↑(Gal.redTo p (14 - (j - 1))) := by
  have e3 : (285 : Int) * (2 : Int) ^ (j - 8) = ((0x11d <<< (j - 8) : Nat) : Int) := by rw [Nat.shiftLeft_eq]; simp
  rw [e3, wrap_nat _ (Gal.shift_lt j h2), i64_xor_nat _ _ (Gal.redTo_lt p _ hp) (Gal.shift_lt j h2), show 14 - (j - 1) = (14 - j) + 1 by omega]
  show _ = ((Gal.red (14 - (14 - j)) (Gal.redTo p (14 - j)) : Nat) : Int)
  rw [show 14 - (14 - j) = j by omega]
  unfold Gal.red
  rw [if_pos h]

theorem red_no (p j : Nat) (h1 : 8 ≤ j) (h2 : j ≤ 14) (h : ¬ Gal.redTo p (14 - j) >>> j % 2 = 1) : Gal.redTo p (14 - (j - 1)) = Gal.redTo p (14 - j) := by
  rw [show 14 - (j - 1) = (14 - j) + 1 by omega]
  show Gal.red (14 - (14 - j)) (Gal.redTo p (14 - j)) = _
  rw [show 14 - (14 - j) = j by omega]
  unfold Gal.red
  rw [if_neg h, Nat.xor_zero]

set_option maxHeartbeats 400000 in
theorem refMul_any (a b : Nat) (ha : a < 256) (hb : b < 256) (w : World) :
    Calls Tryd.prog 16 #[.int .u8 a, .int .u8 b] w fun e w' => e = .returned (.int .u8 (Gal.refMul a b : Nat)) ∧ w = w' := by
  go_enter Tryd.func16, Tryd.ntmps16
  go_wp2
  go_loop [5, 6, 8] (fun p _ i => ∃ k : Nat, k ≤ 8 ∧ i = .int .i64 k ∧ p = .int .i64 (Gal.spreadTo a b k : Nat)) (fun _ _ i => 8 - (intOf i).toNat)
  case atStart => exact ⟨0, by omega, rfl, rfl⟩
  case round =>
    obtain ⟨k, hk, rfl, rfl⟩ := hrel
    by_cases hlt : k < 8
    · by_cases hbit : b >>> k % 2 = 1
      · have ht := test_true (bit_u8 b k hb) hbit
        have HS := Lib.hid (spread_yes a b k ha hlt hbit)
        clear hbit
        go_wp2
        go_round
        case rel => exact ⟨k + 1, by omega, by go_num, by rw [HS.out]⟩
        case measure => simp [intOf]; omega
      · have ht := test_false (bit_u8 b k hb) hbit
        have HS := Lib.hid (spread_no a b k hbit)
        clear hbit
        go_wp2
        go_round
        case rel => exact ⟨k + 1, by omega, by go_num, by rw [HS.out]⟩
        case measure => simp [intOf]; omega
    · obtain rfl : k = 8 := by omega
      have hP := Gal.spread_lt a b 8 ha (by omega)
      generalize hp : Gal.spreadTo a b 8 = P at hP ⊢
      have HP := Lib.hid hp
      clear hp
      go_wp2
      go_loop [5, 7] (fun p i => ∃ j : Nat, 7 ≤ j ∧ j ≤ 14 ∧ i = .int .i64 j ∧ p = .int .i64 (Gal.redTo P (14 - j) : Nat)) (fun _ i => (intOf i).toNat)
      case atStart => exact ⟨14, by omega, by omega, rfl, rfl⟩
      case round =>
        obtain ⟨j, hj1, hj2, rfl, rfl⟩ := hrel
        by_cases hlt : 8 ≤ j
        · by_cases hbit : Gal.redTo P (14 - j) >>> j % 2 = 1
          · have ht := test_true (bit_i64 _ j) hbit
            have HS := Lib.hid (red_yes P j hP hlt hj2 hbit)
            clear hbit
            go_wp2
            go_round
            case rel => exact ⟨j - 1, by omega, by omega, by congr 1; omega, by rw [HS.out]⟩
            case measure => simp [intOf]; omega
          · have ht := test_false (bit_i64 _ j) hbit
            have HS := Lib.hid (red_no P j hlt hj2 hbit)
            clear hbit
            go_wp2
            go_round
            case rel => exact ⟨j - 1, by omega, by omega, by congr 1; omega, by rw [HS.out]⟩
            case measure => simp [intOf]; omega
        · obtain rfl : j = 7 := by omega
          go_wp2
          go_ret
          exact ⟨ret_int (by rw [← HP.out]; rfl), rfl⟩

/-- the reference's product is the product -/
theorem refMul_of {x y : Int} (a b : Nat) (hx : x = a) (hy : y = b) (ha : a < 256) (hb : b < 256) (w : World) :
    Calls Tryd.prog 16 #[.int .u8 x, .int .u8 y] w fun e w' => e = .returned (.int .u8 (Gal.mul a b : Nat)) ∧ w = w' := by
  subst hx hy; rw [← Gal.refMul_eq a b ha hb]; exact refMul_any a b ha hb w

theorem byte_nat (x : Nat) (h : x < 256) : (x : Int) % 256 = (x : Int) := by omega

set_option maxHeartbeats 400000 in
theorem refDiv_zero (a : Nat) (w : World) : Calls Tryd.prog 14 #[.int .u8 a, .int .u8 0] w fun e w' => e = .returned (.tuple #[.int .u8 0, .int .i64 1]) ∧ w = w' := by
  go_enter Tryd.func14, Tryd.ntmps14
  go_wp2
  go_ret2
  exact ⟨rfl, rfl⟩

set_option maxHeartbeats 400000 in
theorem refDiv_some (a b q : Nat) (ha : a < 256) (hb : b < 256) (h : b ≠ 0) (hq : q < 256) (HQ : Hid (q = Gal.mul a (Gal.inv b))) (w : World) :
    Calls Tryd.prog 14 #[.int .u8 a, .int .u8 b] w fun e w' => e = .returned (.tuple #[.int .u8 q, .int .i64 0]) ∧ w = w' := by
  have h0 := nat_eq0_false h
  have H := Lib.hid h
  clear h
  go_enter Tryd.func14, Tryd.ntmps14
  go_wp2
  go_loopw [6, 9] (fun _ i wr => ∃ k : Nat, k ≤ q ∧ i = .int .i64 k ∧ w = wr) (fun _ i _ => q - (intOf i).toNat)
  case atStart => exact ⟨0, by omega, rfl, rfl⟩
  case round =>
    obtain ⟨k, hk, rfl, rfl⟩ := hrel
    have hk2 : k < 256 := by omega
    by_cases e : k = q
    · subst e
      have HE := Lib.hid (show Gal.mul k b = a by rw [HQ.out]; exact Gal.div_mul a b ha hb H.out)
      go_wp2_with fail
      refine (refMul_of k b (by first | rfl | exact byte_nat k hk2) rfl hk2 hb _).mono ?_
      rintro e w' ⟨rfl, rfl⟩
      rw [HE.out]
      go_wp2
      go_ret2
      exact ⟨rfl, rfl⟩
    · have hne : Gal.mul k b ≠ a := by
        intro e2
        apply e
        rw [HQ.out, ← e2, Gal.mul_div k b hk2 hb H.out]
      have h1 := nat_eq_false hne
      have hlt : k < q := by omega
      clear hne e
      go_wp2_with fail
      refine (refMul_of k b (by first | rfl | exact byte_nat k hk2) rfl hk2 hb _).mono ?_
      rintro e w' ⟨rfl, rfl⟩
      go_wp2
      go_roundw
      case rel => exact ⟨k + 1, by omega, by go_num, trivial⟩
      case measure => simp [intOf]; omega

set_option maxHeartbeats 400000 in
theorem refInv_zero (w : World) : Calls Tryd.prog 15 #[.int .u8 0] w fun e w' => e = .returned (.tuple #[.int .u8 0, .int .i64 1]) ∧ w = w' := by
  go_enter Tryd.func15, Tryd.ntmps15
  go_wp2_with fail
  refine (refDiv_zero 1 _).mono ?_
  rintro e w' ⟨rfl, rfl⟩
  go_wp2
  go_ret2
  exact ⟨rfl, rfl⟩

set_option maxHeartbeats 400000 in
theorem refInv_some (b : Nat) (hb : b < 256) (h : b ≠ 0) (w : World) :
    Calls Tryd.prog 15 #[.int .u8 b] w fun e w' => e = .returned (.tuple #[.int .u8 (Gal.inv b : Nat), .int .i64 0]) ∧ w = w' := by
  have H := Lib.hid h
  clear h
  go_enter Tryd.func15, Tryd.ntmps15
  go_wp2_with fail
  refine (refDiv_some 1 b (Gal.inv b) (by decide) hb H.out (Gal.inv_lt b) (Lib.hid (Gal.one_mul _ (Gal.inv_lt b)).symm) _).mono ?_
  rintro e w' ⟨rfl, rfl⟩
  go_wp2
  go_ret2
  exact ⟨rfl, rfl⟩

set_option maxHeartbeats 400000 in
theorem refLog_zero (w : World) : Calls Tryd.prog 20 #[.int .u8 0] w fun e w' => e = .returned (.tuple #[.int .i64 0, .int .i64 1]) ∧ w = w' := by
  go_enter Tryd.func20, Tryd.ntmps20
  go_wp2
  go_loopw [4, 5, 6] (fun x _ i wr => ∃ k x' : Nat, k ≤ 255 ∧ x' < 256 ∧ x' ≠ 0 ∧ i = .int .i64 k ∧ x = .int .u8 x' ∧ w = wr) (fun _ _ i _ => 255 - (intOf i).toNat)
  case atStart => exact ⟨0, 1, by omega, by omega, by omega, rfl, rfl, rfl⟩
  case round =>
    obtain ⟨k, x', hk, hx, hx0, rfl, rfl, rfl⟩ := hrel
    by_cases hlt : k < 255
    · have h0 := nat_eq0_false hx0
      have H := Lib.hid hx0
      clear hx0
      go_wp2_with fail
      refine (refMul_of x' 2 rfl rfl hx (by decide) _).mono ?_
      rintro e w' ⟨rfl, rfl⟩
      have hm := Gal.mul_lt x' 2
      have hm0 : Hid (Gal.mul x' 2 ≠ 0) := fun e => by
        rcases Gal.mul_eq_zero _ _ hx (by decide) e with e | e
        · exact H.out e
        · cases e
      go_wp2
      go_roundw
      case rel => exact ⟨k + 1, _, by omega, hm, hm0.out, by go_num, rfl, trivial⟩
      case measure => simp [intOf]; omega
    · clear hx0
      go_wp2
      go_ret2
      exact ⟨rfl, rfl⟩

set_option maxHeartbeats 400000 in
theorem refLog_some (a k : Nat) (hk : k < 255) (hak : Hid (a = Gal.pw 2 k)) (w : World) :
    Calls Tryd.prog 20 #[.int .u8 a] w fun e w' => e = .returned (.tuple #[.int .i64 k, .int .i64 0]) ∧ w = w' := by
  go_enter Tryd.func20, Tryd.ntmps20
  go_wp2
  go_loopw [4, 5, 6] (fun x _ n wr => ∃ k' x' : Nat, k' ≤ k ∧ x' < 256 ∧ n = .int .i64 k' ∧ x = .int .u8 x' ∧ Hid (x' = Gal.pw 2 k') ∧ w = wr) (fun _ _ n _ => k - (intOf n).toNat)
  case atStart => exact ⟨0, 1, by omega, by omega, rfl, rfl, Lib.hid rfl, rfl⟩
  case round =>
    obtain ⟨k', x', hk', hx, rfl, rfl, HX, rfl⟩ := hrel
    by_cases e : k' = k
    · subst e
      obtain rfl : x' = a := HX.out.trans hak.out.symm
      go_wp2
      go_ret2
      exact ⟨rfl, rfl⟩
    · have hne : x' ≠ a := by
        rw [HX.out, hak.out]
        intro e2; exact e (Gal.pw2_inj _ _ (by omega) hk e2)
      have h1 := nat_eq_false hne
      have hlt : k' < k := by omega
      clear hne e
      go_wp2_with fail
      refine (refMul_of x' 2 rfl rfl hx (by decide) _).mono ?_
      rintro e w' ⟨rfl, rfl⟩
      have hm := Gal.mul_lt x' 2
      go_wp2
      go_roundw
      case rel => exact ⟨k' + 1, _, by omega, hm, by go_num, rfl, Lib.hid (by rw [HX.out]; rfl), trivial⟩
      case measure => simp [intOf]; omega

theorem twice_rest (n : Int) : (n.tmod 255 + 255).tmod 255 = n % 255 := by
  have h1 := Int.tmod_eq_emod (a := n) (b := 255)
  have h2 := Int.emod_lt_of_pos n (show (0 : Int) < 255 by decide)
  have h3 := Int.emod_nonneg n (show (255 : Int) ≠ 0 by decide)
  have h4 : 0 ≤ n.tmod 255 + 255 := by split at h1 <;> omega
  rw [Int.tmod_eq_emod_of_nonneg h4]
  split at h1 <;> omega

set_option maxHeartbeats 400000 in
theorem refExp_any (n : Int) (w : World) :
    Calls Tryd.prog 21 #[.int .i64 n] w fun e w' => e = .returned (.int .u8 (Gal.pw 2 (rst n) : Nat)) ∧ w = w' := by
  have ht := twice_rest n
  have hb : -255 < n.tmod 255 ∧ n.tmod 255 < 255 := by
    have h1 := Int.tmod_eq_emod (a := n) (b := 255)
    have h2 := Int.emod_lt_of_pos n (show (0 : Int) < 255 by decide)
    have h3 := Int.emod_nonneg n (show (255 : Int) ≠ 0 by decide)
    split at h1 <;> omega
  obtain ⟨r, hr, hr2⟩ : ∃ r : Nat, n % 255 = (r : Int) ∧ r < 255 := ⟨(n % 255).toNat, by omega, by omega⟩
  have HR : Hid (rst n = r) := by show rst n = r; unfold rst; omega
  rw [hr] at ht
  clear hr
  go_enter Tryd.func21, Tryd.ntmps21
  go_wp2
  go_loopw [3, 9] (fun x i wr => ∃ k x' : Nat, k ≤ r ∧ x' < 256 ∧ i = .int .i64 k ∧ x = .int .u8 x' ∧ Hid (x' = Gal.pw 2 k) ∧ w = wr) (fun _ i _ => r - (intOf i).toNat)
  case atStart => exact ⟨0, 1, by omega, by omega, rfl, rfl, Lib.hid rfl, rfl⟩
  case round =>
    obtain ⟨k, x', hk, hx, rfl, rfl, HX, rfl⟩ := hrel
    by_cases hlt : k < r
    · go_wp2_with fail
      refine (refMul_of x' 2 rfl rfl hx (by decide) _).mono ?_
      rintro e w' ⟨rfl, rfl⟩
      have hm := Gal.mul_lt x' 2
      go_wp2
      go_roundw
      case rel => exact ⟨k + 1, _, by omega, hm, by go_num, rfl, Lib.hid (by rw [HX.out]; rfl), trivial⟩
      case measure => simp [intOf]; omega
    · go_wp2
      go_ret
      have e : k = r := by omega
      exact ⟨ret_int (by rw [HX.out, HR.out, e]), rfl⟩

set_option maxHeartbeats 400000 in
theorem refPow_low (a : Nat) (n : Int) (h : n ≤ 0) (w : World) : Calls Tryd.prog 22 #[.int .u8 a, .int .i64 n] w fun e w' => e = .returned (.int .u8 1) ∧ w = w' := by
  go_enter Tryd.func22, Tryd.ntmps22
  go_wp2
  go_ret
  exact ⟨rfl, rfl⟩

set_option maxHeartbeats 400000 in
theorem refPow_zero (n : Int) (h : 0 < n) (w : World) : Calls Tryd.prog 22 #[.int .u8 0, .int .i64 n] w fun e w' => e = .returned (.int .u8 0) ∧ w = w' := by
  go_enter Tryd.func22, Tryd.ntmps22
  go_wp2
  go_ret
  exact ⟨rfl, rfl⟩

set_option maxHeartbeats 400000 in
theorem refPow_some (a : Nat) (ha : a < 256) (h : a ≠ 0) (n : Int) (hn : 0 < n) (w : World) :
    Calls Tryd.prog 22 #[.int .u8 a, .int .i64 n] w fun e w' => e = .returned (.int .u8 (Gal.pw a (rst n) : Nat)) ∧ w = w' := by
  have h0 := nat_eq0_false h
  clear h
  obtain ⟨r, hr, hr2⟩ : ∃ r : Nat, n % 255 = (r : Int) ∧ r < 255 := ⟨(n % 255).toNat, by omega, by omega⟩
  have HR : Hid (rst n = r) := by show rst n = r; unfold rst; omega
  have hr3 : n.tmod 255 = (r : Int) := by rw [Int.tmod_eq_emod_of_nonneg (by omega)]; exact hr
  go_enter Tryd.func22, Tryd.ntmps22
  go_wp2
  go_loopw [5, 12] (fun x i wr => ∃ k x' : Nat, k ≤ r ∧ x' < 256 ∧ i = .int .i64 k ∧ x = .int .u8 x' ∧ Hid (x' = Gal.pw a k) ∧ w = wr) (fun _ i _ => r - (intOf i).toNat)
  case atStart => exact ⟨0, 1, by omega, by omega, rfl, rfl, Lib.hid rfl, rfl⟩
  case round =>
    obtain ⟨k, x', hk, hx, rfl, rfl, HX, rfl⟩ := hrel
    by_cases hlt : k < r
    · go_wp2_with fail
      refine (refMul_of x' a rfl rfl hx ha _).mono ?_
      rintro e w' ⟨rfl, rfl⟩
      have hm := Gal.mul_lt x' a
      go_wp2
      go_roundw
      case rel => exact ⟨k + 1, _, by omega, hm, by go_num, rfl, Lib.hid (by rw [HX.out]; rfl), trivial⟩
      case measure => simp [intOf]; omega
    · go_wp2
      go_ret
      have e : k = r := by omega
      exact ⟨ret_int (by rw [HX.out, HR.out, e]), rfl⟩
end Go.Proofs.YtmjdfchplidbgaaDoor
