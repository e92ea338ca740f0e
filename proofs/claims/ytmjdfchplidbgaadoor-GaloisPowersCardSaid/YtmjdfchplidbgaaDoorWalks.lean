/- Walks of the galois functions: what each returns, in the words of the plain field. -/
import Derived.Test.YtmjdfchplidbgaaDoorRows
import Derived.Test.YtmjdfchplidbgaaDoorPlain
import Derived.WalkKit
import Derived.IntWalk
import Derived.Deep.QuietTactic
import Derived.BigQuiet
import Derived.Lib.Hide
namespace Go.Proofs.YtmjdfchplidbgaaDoor
open Go.RowKit

theorem ret_int {k : IntKind} {a b : Int} (h : a = b) : Ending.returned (.int k a) = .returned (.int k b) := by rw [h]

theorem u16_wrap_nat (n : Nat) (h : n < 65536) : IntKind.u16.wrap (n : Int) = n := IntWalk.u16_in _ (by omega)

theorem part_step (a f k : Nat) (ha : a < 256) (hf : f < 16) (hk : k < 4) :
    bits BinOp.xor IntKind.u16 (↑(Gal.partTo a f k)) (IntKind.u16.wrap (IntKind.u16.wrap (↑a * 2 ^ k) * IntKind.u16.wrap (bits BinOp.and IntKind.u8 (↑f / 2 ^ k) 1))) = ↑(Gal.partTo a f (k + 1)) := by
  have e1 : ((f : Int) / 2 ^ k) = ((f >>> k : Nat) : Int) := by rw [Nat.shiftRight_eq_div_pow]; simp
  have h1 : f >>> k < 256 := by rw [Nat.shiftRight_eq_div_pow]; exact Nat.lt_of_le_of_lt (Nat.div_le_self _ _) (by omega)
  have e2 : bits BinOp.and IntKind.u8 ((f : Int) / 2 ^ k) 1 = ((f >>> k % 2 : Nat) : Int) := by
    rw [e1]; have := u8_and_nat (f >>> k) 1 h1 (by decide); rw [nat_mask1] at this; exact this
  have e3 : ((a : Int) * 2 ^ k) = ((a <<< k : Nat) : Int) := by rw [Nat.shiftLeft_eq]; simp
  have h3 : a <<< k < 65536 := by
    rw [Nat.shiftLeft_eq]
    have : (2 : Nat) ^ k ≤ 2 ^ 3 := Nat.pow_le_pow_right (by decide) (by omega)
    have : a * 2 ^ k ≤ 255 * 2 ^ 3 := Nat.mul_le_mul (by omega) this
    omega
  have h4 := Gal.term_lt a f k ha hk
  have h5 := Gal.partTo_lt a f k ha (by omega)
  rw [e2, e3, u16_wrap_nat _ h3, u16_wrap_nat _ (by omega), show ((a <<< k : Nat) : Int) * ((f >>> k % 2 : Nat) : Int) = (((a <<< k) * (f >>> k % 2) : Nat) : Int) by simp, u16_wrap_nat _ (by omega),
    u16_xor_nat _ _ (by omega) (by omega)]
  rfl

set_option maxHeartbeats 400000 in
theorem part_any (a f : Nat) (ha : a < 256) (hf : f < 16) (w : World) :
    Calls Tryd.prog 24 #[.int .u8 a, .int .u8 f] w fun e w' => e = .returned (.int .u16 (Gal.part a f : Nat)) ∧ ∃ n, w' = w.drewN n := by
  go_enter Tryd.func24, Tryd.ntmps24
  go_wp2
  go_loopw [5, 6, 7] (fun p _ i wr => ∃ k : Nat, k ≤ 4 ∧ i = .int .i64 k ∧ p = .int .u16 (Gal.partTo a f k : Nat) ∧ ∃ n, wr = w.drewN n) (fun _ _ i _ => 4 - (intOf i).toNat)
  case atStart => exact ⟨0, by omega, rfl, rfl, 0, rfl⟩
  case round =>
    obtain ⟨k, hk, rfl, rfl, n, rfl⟩ := hrel
    by_cases hlt : k < 4
    · go_wp2
      go_quiet (fail)
      go_wp2
      go_roundw
      case rel => exact ⟨k + 1, by omega, by go_num, by rw [part_step a f k ha hf hlt], _, rfl⟩
      case measure => simp [intOf]; omega
    · go_wp2
      go_ret
      have e : k = 4 := by omega
      subst e
      exact ⟨rfl, _, rfl⟩

/-- what a world holds of the table -/
def Tab (w : World) : Prop := ∀ i, i < 16 → w.cell? ⟨0, i, none⟩ = some (.int .u8 (Gal.foldTab.getD i 0 : Nat))

theorem Tab.drewN {w : World} (h : Tab w) (n : Nat) : Tab (w.drewN n) := h

set_option maxHeartbeats 400000 in
theorem settle_core (p q v : Nat) (hq : q < 16) (he : bits BinOp.and IntKind.u16 (↑p / 256) 15 = ↑q) (w : World) (hc : w.cell? ⟨0, q, none⟩ = some (.int .u8 v)) :
    Calls Tryd.prog 23 #[.int .u16 p] w fun e w' => e = .returned (.int .u8 (bits BinOp.xor IntKind.u8 (↑p % 256) ↑v)) ∧ w = w' := by
  go_enter Tryd.func23, Tryd.ntmps23
  go_wp2
  go_ret
  exact ⟨by simp, rfl⟩

theorem settle_any (p : Nat) (hp : p < 4096) (w : World) (ht : Tab w) :
    Calls Tryd.prog 23 #[.int .u16 p] w fun e w' => e = .returned (.int .u8 (Gal.settle p : Nat)) ∧ w = w' := by
  have hq : p >>> 8 % 16 < 16 := Nat.mod_lt _ (by decide)
  have h1 : p >>> 8 < 65536 := by rw [Nat.shiftRight_eq_div_pow]; exact Nat.lt_of_le_of_lt (Nat.div_le_self _ _) (by omega)
  have he : bits BinOp.and IntKind.u16 (↑p / 256) 15 = ↑(p >>> 8 % 16) := by
    have := u16_and_nat (p >>> 8) 15 h1 (by decide)
    rw [nat_mask4] at this
    rw [← this, Nat.shiftRight_eq_div_pow]; simp
  refine (settle_core p _ _ hq he w (ht _ hq)).mono ?_
  rintro e w' ⟨rfl, rfl⟩
  refine ⟨?_, rfl⟩
  have h2 := u8_xor_nat (p % 256) (Gal.foldTab.getD (p >>> 8 % 16) 0) (Nat.mod_lt _ (by decide)) (Gal.fold_lt _ hq)
  have e2 : ((p : Int) % 256) = ((p % 256 : Nat) : Int) := by simp
  rw [e2, h2]; rfl

/-- a byte as the walk may spell it -/
theorem part_of {x y : Int} (a f : Nat) (hx : x = a) (hy : y = f) (ha : a < 256) (hf : f < 16) (w : World) :
    Calls Tryd.prog 24 #[.int .u8 x, .int .u8 y] w fun e w' => e = .returned (.int .u16 (Gal.part a f : Nat)) ∧ ∃ n, w' = w.drewN n := by
  subst hx hy; exact part_any a f ha hf w

theorem settle_of {x : Int} (p : Nat) (hx : x = p) (hp : p < 4096) (w : World) (ht : Tab w) :
    Calls Tryd.prog 23 #[.int .u16 x] w fun e w' => e = .returned (.int .u8 (Gal.settle p : Nat)) ∧ w = w' := by
  subst hx; exact settle_any p hp w ht

theorem high_nat (b : Nat) : (b : Int) / (16 : Int) = ((b >>> 4 : Nat) : Int) := by rw [Nat.shiftRight_eq_div_pow]; simp
theorem high_lt (b : Nat) (hb : b < 256) : b >>> 4 < 16 := by rw [Nat.shiftRight_eq_div_pow]; omega
theorem low_nat (b : Nat) : (b : Int) % (16 : Int) = ((b % 16 : Nat) : Int) := by simp
theorem up4_nat (h : Nat) : (h : Int) * (16 : Int) = ((h <<< 4 : Nat) : Int) := by rw [Nat.shiftLeft_eq]; simp
theorem up4_lt (h : Nat) (hh : h < 256) : h <<< 4 < 4096 := by rw [Nat.shiftLeft_eq]; omega
theorem join_lt (h p : Nat) (hh : h < 256) (hp : p < 4096) : (h <<< 4) ^^^ p < 4096 := Gal.xor_lt _ _ 12 (up4_lt h hh) hp

theorem xor_up (h p : Nat) (hh : h < 256) (hp : p < 4096) : bits BinOp.xor IntKind.u16 (↑h * 16) ↑p = ((((h <<< 4) ^^^ p : Nat)) : Int) := by
  have := up4_lt h hh
  rw [up4_nat, u16_xor_nat _ _ (by omega) (by omega)]

set_option maxHeartbeats 400000 in
theorem mul_any (a b : Nat) (ha : a < 256) (hb : b < 256) (w : World) (ht : Tab w) :
    Calls Tryd.prog 10 #[.int .u8 a, .int .u8 b] w fun e w' => e = .returned (.int .u8 (Gal.mul a b : Nat)) ∧ ∃ n, w' = w.drewN n := by
  go_enter Tryd.func10, Tryd.ntmps10
  go_wp2_with fail
  refine (part_of a _ rfl (high_nat b) ha (high_lt b hb) _).mono ?_
  rintro e w' ⟨rfl, n1, rfl⟩
  go_wp2_with fail
  refine (settle_of _ rfl (Gal.part_lt a _ ha) _ (ht.drewN _)).mono ?_
  rintro e w' ⟨rfl, rfl⟩
  have hs := Gal.settle_lt (Gal.part a (b >>> 4))
  generalize hh : Gal.settle (Gal.part a (b >>> 4)) = h at hs ⊢
  have HH := Lib.hid hh
  clear hh
  go_wp2_with fail
  refine (part_of a _ rfl (low_nat b) ha (Nat.mod_lt _ (by decide)) _).mono ?_
  rintro e w' ⟨rfl, n2, rfl⟩
  have hp := Gal.part_lt a (b % 16) ha
  go_wp2_with fail
  refine (settle_of _ (xor_up h _ hs hp) (join_lt h _ hs hp) _ (ht.drewN _)).mono ?_
  rintro e w' ⟨rfl, rfl⟩
  go_wp2_with fail
  go_ret
  exact ⟨by rw [← HH.out]; rfl, _, rfl⟩

theorem mul_of {x y : Int} (a b : Nat) (hx : x = a) (hy : y = b) (ha : a < 256) (hb : b < 256) (w : World) (ht : Tab w) :
    Calls Tryd.prog 10 #[.int .u8 x, .int .u8 y] w fun e w' => e = .returned (.int .u8 (Gal.mul a b : Nat)) ∧ ∃ n, w' = w.drewN n := by
  subst hx hy; exact mul_any a b ha hb w ht

set_option maxHeartbeats 400000 in
theorem add_any (a b : Nat) (ha : a < 256) (hb : b < 256) (w : World) :
    Calls Tryd.prog 11 #[.int .u8 a, .int .u8 b] w fun e w' => e = .returned (.int .u8 (a ^^^ b : Nat)) ∧ w = w' := by
  have := u8_xor_nat a b ha hb
  go_enter Tryd.func11, Tryd.ntmps11
  go_wp2
  go_ret
  exact ⟨rfl, rfl⟩

theorem rest_neg (n : Int) (h : n.tmod 255 < 0) : wrap64 (n.tmod 255 + 255) = n % 255 := by
  have h1 := Int.tmod_eq_emod (a := n) (b := 255)
  have h2 : ¬ (0 ≤ n) := fun h0 => by have := Int.tmod_nonneg 255 h0; omega
  unfold wrap64
  split at h1 <;> omega

theorem rest_pos (n : Int) (h : 0 ≤ n.tmod 255) : n.tmod 255 = n % 255 := by
  have h1 := Int.tmod_eq_emod (a := n) (b := 255)
  split at h1 <;> omega

set_option maxHeartbeats 400000 in
theorem rest_any (n : Int) (w : World) :
    Calls Tryd.prog 26 #[.int .i64 n] w fun e w' => e = .returned (.int .i64 (n % 255)) ∧ w = w' := by
  go_enter Tryd.func26, Tryd.ntmps26
  go_wp2
  all_goals go_ret
  · exact ⟨ret_int (rest_neg n ‹_›), rfl⟩
  · exact ⟨ret_int (rest_pos n ‹_›), rfl⟩

theorem i64_and1 (n : Int) : bits .and .i64 n 1 = n % 2 := by
  have h1 : (BitVec.ofInt 64 1).toNat = 2 ^ 1 - 1 := by decide
  have key : (BitVec.ofInt 64 n &&& BitVec.ofInt 64 1).toNat = (n % ((2 ^ 64 : Nat) : Int)).toNat % 2 ^ 1 := by
    rw [BitVec.toNat_and, BitVec.toNat_ofInt, h1, Nat.and_two_pow_sub_one_eq_mod]
  show IntKind.i64.wrap ((BitVec.ofInt 64 n &&& BitVec.ofInt 64 1).toNat : Nat) = n % 2
  rw [key, IntKind.wrap_i64]
  omega

theorem step_odd (x k o : Nat) (hx : x < 256) (ho : o < 256) (h : k % 2 = 1) : Gal.mul (Gal.mul o x) (Gal.pw (Gal.mul x x) (k / 2)) = Gal.mul o (Gal.pw x k) := by
  rw [Gal.pw_sq x _ hx, Gal.mul_assoc _ _ _ ho hx (Gal.pw_lt _ _)]
  congr 1
  have e : k = 1 + 2 * (k / 2) := by omega
  conv => rhs; rw [e, Gal.pw_add x _ _ hx, Gal.pw_one x hx]

theorem step_even (x k o : Nat) (hx : x < 256) (h : ¬ k % 2 = 1) : Gal.mul o (Gal.pw (Gal.mul x x) (k / 2)) = Gal.mul o (Gal.pw x k) := by
  rw [Gal.pw_sq x _ hx]
  congr 2
  omega

theorem half_lt (n : Nat) (h : 0 < n) : n / 2 < n := Nat.div_lt_self h (by decide)

set_option maxHeartbeats 400000 in
theorem raise_any (a n : Nat) (ha : a < 256) (hn : n < 256) (w : World) (ht : Tab w) :
    Calls Tryd.prog 25 #[.int .u8 a, .int .i64 n] w fun e w' => e = .returned (.int .u8 (Gal.pw a n : Nat)) ∧ ∃ m, w' = w.drewN m := by
  go_enter Tryd.func25, Tryd.ntmps25
  go_wp2
  go_loopw [0, 1, 5] (fun x k o wr => ∃ x' k' o' : Nat, x' < 256 ∧ o' < 256 ∧ k' < 256 ∧ x = .int .u8 x' ∧ k = .int .i64 k' ∧ o = .int .u8 o' ∧ Hid (Gal.mul o' (Gal.pw x' k') = Gal.pw a n) ∧ ∃ m, wr = w.drewN m) (fun _ k _ _ => (intOf k).toNat)
  case atStart => exact ⟨a, n, 1, ha, by omega, hn, rfl, rfl, rfl, Lib.hid (Gal.one_mul _ (Gal.pw_lt _ _)), 0, rfl⟩
  case round =>
    obtain ⟨x', k', o', hx, ho, hk, rfl, rfl, rfl, HI, m, rfl⟩ := hrel
    by_cases h0 : 0 < k'
    · have h2 : k' / 2 < k' := half_lt k' h0
      by_cases h1 : k' % 2 = 1
      · have hb : (bits BinOp.and IntKind.i64 (↑k') 1 == 1) = true := by rw [i64_and1]; simp; omega
        have HN := Lib.hid (step_odd x' k' o' hx ho h1)
        clear h1
        go_wp2_with fail
        refine (mul_of o' x' rfl rfl ho hx _ (ht.drewN _)).mono ?_
        rintro e w' ⟨rfl, n1, rfl⟩
        have hm := Gal.mul_lt o' x'
        go_wp2_with fail
        refine (mul_of x' x' rfl rfl hx hx _ (ht.drewN _)).mono ?_
        rintro e w' ⟨rfl, n2, rfl⟩
        go_wp2
        go_roundw
        case rel => exact ⟨Gal.mul x' x', k' / 2, Gal.mul o' x', Gal.mul_lt _ _, hm, by omega, rfl, by go_num, rfl, Lib.hid (by rw [HN.out]; exact HI.out), _, rfl⟩
        case measure => simp [intOf]; omega
      · have hb : (bits BinOp.and IntKind.i64 (↑k') 1 == 1) = false := by rw [i64_and1]; simp; omega
        have HN := Lib.hid (step_even x' k' o' hx h1)
        clear h1
        go_wp2_with fail
        refine (mul_of x' x' rfl rfl hx hx _ (ht.drewN _)).mono ?_
        rintro e w' ⟨rfl, n2, rfl⟩
        go_wp2
        go_roundw
        case rel => exact ⟨Gal.mul x' x', k' / 2, o', Gal.mul_lt _ _, ho, by omega, rfl, by go_num, rfl, Lib.hid (by rw [HN.out]; exact HI.out), _, rfl⟩
        case measure => simp [intOf]; omega
    · have e0 : k' = 0 := by omega
      subst e0
      go_wp2
      go_ret
      exact ⟨ret_int (by rw [← HI.out]; exact congrArg Int.ofNat (Gal.mul_one o' ho).symm), _, rfl⟩

theorem nat_eq_false {a b : Nat} (h : a ≠ b) : ((a : Int) == (b : Int)) = false := by simp; omega
theorem nat_ne_true {a b : Nat} (h : a ≠ b) : ((a : Int) != (b : Int)) = true := by simp; omega
theorem nat_eq0_false {a : Nat} (h : a ≠ 0) : ((a : Int) == 0) = false := by simp; omega

theorem raise_of {y : Int} (a n : Nat) (hy : y = n) (ha : a < 256) (hn : n < 256) (w : World) (ht : Tab w) :
    Calls Tryd.prog 25 #[.int .u8 a, .int .i64 y] w fun e w' => e = .returned (.int .u8 (Gal.pw a n : Nat)) ∧ ∃ m, w' = w.drewN m := by
  subst hy; exact raise_any a n ha hn w ht

theorem raise_lit (a : Nat) (ha : a < 256) (w : World) (ht : Tab w) :
    Calls Tryd.prog 25 #[.int .u8 a, .int .i64 254] w fun e w' => e = .returned (.int .u8 (Gal.inv a : Nat)) ∧ ∃ m, w' = w.drewN m :=
  raise_of (y := 254) a 254 rfl ha (by decide) w ht

set_option maxHeartbeats 400000 in
theorem inv_zero (w : World) : Calls Tryd.prog 12 #[.int .u8 0] w fun e w' => e = .returned (.tuple #[.int .u8 0, .int .i64 1]) ∧ w = w' := by
  go_enter Tryd.func12, Tryd.ntmps12
  go_wp2
  go_ret2
  exact ⟨rfl, rfl⟩

set_option maxHeartbeats 400000 in
theorem inv_some (a : Nat) (ha : a < 256) (h : a ≠ 0) (w : World) (ht : Tab w) :
    Calls Tryd.prog 12 #[.int .u8 a] w fun e w' => e = .returned (.tuple #[.int .u8 (Gal.inv a : Nat), .int .i64 0]) ∧ ∃ m, w' = w.drewN m := by
  have h0 := nat_eq0_false h
  clear h
  go_enter Tryd.func12, Tryd.ntmps12
  go_wp2_with fail
  refine (raise_lit a ha _ ht).mono ?_
  rintro e w' ⟨rfl, m, rfl⟩
  go_wp2
  go_ret2
  exact ⟨rfl, m, rfl⟩

set_option maxHeartbeats 400000 in
theorem div_zero (a : Nat) (w : World) : Calls Tryd.prog 13 #[.int .u8 a, .int .u8 0] w fun e w' => e = .returned (.tuple #[.int .u8 0, .int .i64 1]) ∧ w = w' := by
  go_enter Tryd.func13, Tryd.ntmps13
  go_wp2_with fail
  refine (inv_zero _).mono ?_
  rintro e w' ⟨rfl, rfl⟩
  go_wp2
  go_ret2
  exact ⟨rfl, rfl⟩

set_option maxHeartbeats 400000 in
theorem div_some (a b : Nat) (ha : a < 256) (hb : b < 256) (h : b ≠ 0) (w : World) (ht : Tab w) :
    Calls Tryd.prog 13 #[.int .u8 a, .int .u8 b] w fun e w' => e = .returned (.tuple #[.int .u8 (Gal.mul a (Gal.inv b) : Nat), .int .i64 0]) ∧ ∃ m, w' = w.drewN m := by
  have H := Lib.hid h
  clear h
  go_enter Tryd.func13, Tryd.ntmps13
  go_wp2_with fail
  refine (inv_some b hb H.out _ ht).mono ?_
  rintro e w' ⟨rfl, m, rfl⟩
  go_wp2_with fail
  refine (mul_of a _ rfl rfl ha (Gal.inv_lt b) _ (ht.drewN _)).mono ?_
  rintro e w' ⟨rfl, m, rfl⟩
  go_wp2
  go_ret2
  exact ⟨rfl, _, rfl⟩

/-- an exponent's rest, as a Nat -/
def rst (n : Int) : Nat := (n % 255).toNat
theorem rst_eq (n : Int) : n % 255 = (rst n : Int) := by unfold rst; omega
theorem rst_lt (n : Int) : rst n < 256 := by unfold rst; omega

theorem exp_raise (n : Int) (w : World) (ht : Tab w) :
    Calls Tryd.prog 25 #[.int .u8 2, .int .i64 (n % 255)] w fun e w' => e = .returned (.int .u8 (Gal.pw 2 (rst n) : Nat)) ∧ ∃ m, w' = w.drewN m :=
  raise_of (y := n % 255) 2 (rst n) (rst_eq n) (by decide) (rst_lt n) w ht

set_option maxHeartbeats 400000 in
theorem exp_any (n : Int) (w : World) (ht : Tab w) :
    Calls Tryd.prog 18 #[.int .i64 n] w fun e w' => e = .returned (.int .u8 (Gal.pw 2 (rst n) : Nat)) ∧ ∃ m, w' = w.drewN m := by
  go_enter Tryd.func18, Tryd.ntmps18
  go_wp2_with fail
  refine (rest_any n _).mono ?_
  rintro e w' ⟨rfl, rfl⟩
  go_wp2_with fail
  refine (exp_raise n _ ht).mono ?_
  rintro e w' ⟨rfl, m, rfl⟩
  go_wp2
  go_ret
  exact ⟨rfl, m, rfl⟩

set_option maxHeartbeats 400000 in
theorem pow_low (a : Nat) (n : Int) (h : n ≤ 0) (w : World) : Calls Tryd.prog 17 #[.int .u8 a, .int .i64 n] w fun e w' => e = .returned (.int .u8 1) ∧ w = w' := by
  go_enter Tryd.func17, Tryd.ntmps17
  go_wp2
  go_ret
  exact ⟨rfl, rfl⟩

set_option maxHeartbeats 400000 in
theorem pow_zero (n : Int) (h : 0 < n) (w : World) : Calls Tryd.prog 17 #[.int .u8 0, .int .i64 n] w fun e w' => e = .returned (.int .u8 0) ∧ w = w' := by
  go_enter Tryd.func17, Tryd.ntmps17
  go_wp2
  go_ret
  exact ⟨rfl, rfl⟩

set_option maxHeartbeats 400000 in
theorem pow_some (a : Nat) (ha : a < 256) (h : a ≠ 0) (n : Int) (hn : 0 < n) (w : World) (ht : Tab w) :
    Calls Tryd.prog 17 #[.int .u8 a, .int .i64 n] w fun e w' => e = .returned (.int .u8 (Gal.pw a (rst n) : Nat)) ∧ ∃ m, w' = w.drewN m := by
  have h0 := nat_eq0_false h
  clear h
  go_enter Tryd.func17, Tryd.ntmps17
  go_wp2_with fail
  refine (rest_any n _).mono ?_
  rintro e w' ⟨rfl, rfl⟩
  go_wp2_with fail
  refine (raise_of (y := n % 255) a (rst n) (rst_eq n) ha (rst_lt n) _ ht).mono ?_
  rintro e w' ⟨rfl, m, rfl⟩
  go_wp2
  go_ret
  exact ⟨rfl, m, rfl⟩

set_option maxHeartbeats 400000 in
theorem log_zero (w : World) : Calls Tryd.prog 19 #[.int .u8 0] w fun e w' => e = .returned (.tuple #[.int .i64 0, .int .i64 1]) ∧ w = w' := by
  go_enter Tryd.func19, Tryd.ntmps19
  go_wp2
  go_ret2
  exact ⟨rfl, rfl⟩

theorem up1_nat (h : Nat) : (h : Int) * (2 : Int) = ((h <<< 1 : Nat) : Int) := by rw [Nat.shiftLeft_eq]; simp
theorem up1_lt (h : Nat) (hh : h < 256) : h <<< 1 < 4096 := by rw [Nat.shiftLeft_eq]; omega

set_option maxHeartbeats 400000 in
theorem log_some (a k : Nat) (ha : a < 256) (h : a ≠ 0) (hk : k < 255) (hak : Hid (a = Gal.pw 2 k)) (w : World) (ht : Tab w) :
    Calls Tryd.prog 19 #[.int .u8 a] w fun e w' => e = .returned (.tuple #[.int .i64 k, .int .i64 0]) ∧ w = w' := by
  have h0 := nat_eq0_false h
  clear h
  go_enter Tryd.func19, Tryd.ntmps19
  go_wp2
  go_loopw [4, 5] (fun n x wr => ∃ k' x' : Nat, k' ≤ k ∧ x' < 256 ∧ n = .int .i64 k' ∧ x = .int .u8 x' ∧ Hid (x' = Gal.pw 2 k') ∧ w = wr) (fun n _ _ => k - (intOf n).toNat)
  case atStart => exact ⟨0, 1, by omega, by omega, rfl, rfl, Lib.hid rfl, rfl⟩
  case round =>
    obtain ⟨k', x', hk', hx, rfl, rfl, HX, rfl⟩ := hrel
    by_cases e : k' = k
    · subst e
      obtain rfl : x' = a := HX.out.trans hak.out.symm
      go_wp2
      go_ret2
      exact ⟨rfl, rfl⟩
    · have hne : x' ≠ a := by
        rw [HX.out, hak.out]
        intro e2; exact e (Gal.pw2_inj _ _ (by omega) hk e2)
      have h1 := nat_ne_true hne
      have hlt : k' < k := by omega
      clear hne e
      go_wp2_with fail
      refine (settle_of _ (up1_nat x') (up1_lt x' hx) _ ht).mono ?_
      rintro e w' ⟨rfl, rfl⟩
      have hs := Gal.settle_lt (x' <<< 1)
      go_wp2
      go_roundw
      case rel => exact ⟨k' + 1, _, by omega, hs, by go_num, rfl, Lib.hid (by rw [Gal.double x' hx, HX.out]; rfl), trivial⟩
      case measure => simp [intOf]; omega
end Go.Proofs.YtmjdfchplidbgaaDoor
