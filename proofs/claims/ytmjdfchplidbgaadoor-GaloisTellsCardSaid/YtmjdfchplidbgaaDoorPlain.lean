/- The field of 256 numbers in plain Lean: the code is additive in both places of a product, so its laws follow from those at the eight single bits. No program stands here. -/
namespace Gal

def foldTab : List Nat := [0x00, 0x1d, 0x3a, 0x27, 0x74, 0x69, 0x4e, 0x53, 0xe8, 0xf5, 0xd2, 0xcf, 0x9c, 0x81, 0xa6, 0xbb]

/-- what stands above eight bits, folded -/
def settle (p : Nat) : Nat := (p % 256) ^^^ foldTab.getD (p >>> 8 % 16) 0

/-- the loop of 'part' after k rounds -/
def partTo (a f : Nat) : Nat → Nat
  | 0 => 0
  | k + 1 => partTo a f k ^^^ (a <<< k) * (f >>> k % 2)

def part (a f : Nat) : Nat := partTo a f 4

def mul (a b : Nat) : Nat := settle ((settle (part a (b >>> 4)) <<< 4) ^^^ part a (b % 16))

/-- the reference's first loop after k rounds -/
def spreadTo (a b : Nat) : Nat → Nat
  | 0 => 0
  | k + 1 => spreadTo a b k ^^^ (if b >>> k % 2 = 1 then a <<< k else 0)

/-- one round of the reference's second loop, at bit i -/
def red (i p : Nat) : Nat := p ^^^ (if p >>> i % 2 = 1 then 0x11d <<< (i - 8) else 0)

/-- the reference's second loop after k rounds: the bits 14, 13, .. -/
def redTo (p : Nat) : Nat → Nat
  | 0 => p
  | k + 1 => red (14 - k) (redTo p k)

def refMul (a b : Nat) : Nat := redTo (spreadTo a b 8) 7 % 256

/-! ### what is additive -/

theorem xor_lt (a b n : Nat) (ha : a < 2 ^ n) (hb : b < 2 ^ n) : a ^^^ b < 2 ^ n := Nat.xor_lt_two_pow ha hb

theorem bit_xor (f g k : Nat) : (f ^^^ g) >>> k % 2 = (f >>> k % 2) ^^^ (g >>> k % 2) := by
  rw [Nat.shiftRight_xor_distrib]
  exact Nat.xor_mod_two_pow (n := 1)

theorem mod2_cases (n : Nat) : n % 2 = 0 ∨ n % 2 = 1 := by omega

theorem xor4 (a b c d : Nat) : (a ^^^ b) ^^^ (c ^^^ d) = (a ^^^ c) ^^^ (b ^^^ d) := by
  rw [Nat.xor_assoc, Nat.xor_assoc, ← Nat.xor_assoc b c d, ← Nat.xor_assoc c b d, Nat.xor_comm b c]

theorem times_bit_xor (x p q : Nat) (hp : p = 0 ∨ p = 1) (hq : q = 0 ∨ q = 1) : x * (p ^^^ q) = x * p ^^^ x * q := by
  rcases hp with rfl | rfl <;> rcases hq with rfl | rfl <;> simp

theorem xor_times_bit (x y p : Nat) (hp : p = 0 ∨ p = 1) : (x ^^^ y) * p = x * p ^^^ y * p := by
  rcases hp with rfl | rfl <;> simp

theorem partTo_right (a f g k : Nat) : partTo a (f ^^^ g) k = partTo a f k ^^^ partTo a g k := by
  induction k with
  | zero => exact (Nat.xor_self 0).symm
  | succ k ih =>
    simp only [partTo]
    rw [ih, bit_xor, times_bit_xor _ _ _ (mod2_cases _) (mod2_cases _), xor4]

theorem partTo_left (a b f k : Nat) : partTo (a ^^^ b) f k = partTo a f k ^^^ partTo b f k := by
  induction k with
  | zero => exact (Nat.xor_self 0).symm
  | succ k ih =>
    simp only [partTo]
    rw [ih, Nat.shiftLeft_xor_distrib, xor_times_bit _ _ _ (mod2_cases _), xor4]

theorem fold_xor : ∀ x, x < 16 → ∀ y, y < 16 → foldTab.getD (x ^^^ y) 0 = foldTab.getD x 0 ^^^ foldTab.getD y 0 := by decide +kernel

theorem settle_xor (p q : Nat) : settle (p ^^^ q) = settle p ^^^ settle q := by
  unfold settle
  have h1 : (p ^^^ q) % 256 = p % 256 ^^^ q % 256 := Nat.xor_mod_two_pow (n := 8)
  have h2 : (p ^^^ q) >>> 8 % 16 = (p >>> 8 % 16) ^^^ (q >>> 8 % 16) := by
    rw [Nat.shiftRight_xor_distrib]; exact Nat.xor_mod_two_pow (n := 4)
  rw [h1, h2, fold_xor _ (Nat.mod_lt _ (by decide)) _ (Nat.mod_lt _ (by decide)), xor4]

theorem mul_right (a b c : Nat) : mul a (b ^^^ c) = mul a b ^^^ mul a c := by
  unfold mul part
  have h : (b ^^^ c) % 16 = b % 16 ^^^ c % 16 := Nat.xor_mod_two_pow (n := 4)
  rw [← settle_xor, Nat.shiftRight_xor_distrib, h, partTo_right, partTo_right, settle_xor (partTo a (b >>> 4) 4), Nat.shiftLeft_xor_distrib, xor4]

theorem mul_left (a b c : Nat) : mul (a ^^^ b) c = mul a c ^^^ mul b c := by
  unfold mul part
  rw [← settle_xor, partTo_left, partTo_left, settle_xor (partTo a (c >>> 4) 4), Nat.shiftLeft_xor_distrib, xor4]

theorem ite_bit_xor (x p q : Nat) (hp : p = 0 ∨ p = 1) (hq : q = 0 ∨ q = 1) : (if p ^^^ q = 1 then x else 0) = (if p = 1 then x else 0) ^^^ (if q = 1 then x else 0) := by
  rcases hp with rfl | rfl <;> rcases hq with rfl | rfl <;> simp

theorem spread_right (a b c k : Nat) : spreadTo a (b ^^^ c) k = spreadTo a b k ^^^ spreadTo a c k := by
  induction k with
  | zero => exact (Nat.xor_self 0).symm
  | succ k ih =>
    simp only [spreadTo]
    rw [ih, bit_xor, ite_bit_xor _ _ _ (mod2_cases _) (mod2_cases _), xor4]

theorem spread_left (a b c k : Nat) : spreadTo (a ^^^ b) c k = spreadTo a c k ^^^ spreadTo b c k := by
  induction k with
  | zero => exact (Nat.xor_self 0).symm
  | succ k ih =>
    simp only [spreadTo]
    rw [ih, Nat.shiftLeft_xor_distrib]
    split
    · rw [xor4]
    · simp

theorem red_xor (i p q : Nat) : red i (p ^^^ q) = red i p ^^^ red i q := by
  unfold red
  rw [bit_xor, ite_bit_xor _ _ _ (mod2_cases _) (mod2_cases _), xor4]

theorem redTo_xor (p q k : Nat) : redTo (p ^^^ q) k = redTo p k ^^^ redTo q k := by
  induction k with
  | zero => rfl
  | succ k ih => simp only [redTo]; rw [ih, red_xor]

theorem refMul_right (a b c : Nat) : refMul a (b ^^^ c) = refMul a b ^^^ refMul a c := by
  unfold refMul
  rw [spread_right, redTo_xor]; exact Nat.xor_mod_two_pow (n := 8)

theorem refMul_left (a b c : Nat) : refMul (a ^^^ b) c = refMul a c ^^^ refMul b c := by
  unfold refMul
  rw [spread_left, redTo_xor]; exact Nat.xor_mod_two_pow (n := 8)

/-! ### from the single bits to all numbers below 256 -/

theorem split_top (n b : Nat) (hb : b < 2 ^ (n + 1)) (h : 2 ^ n ≤ b) : b = (b - 2 ^ n) ^^^ 2 ^ n := by
  have h2 : b - 2 ^ n < 2 ^ n := by rw [Nat.pow_succ] at hb; omega
  apply Nat.eq_of_testBit_eq
  intro i
  rw [Nat.testBit_xor, Nat.testBit_two_pow]
  obtain ⟨c, hc⟩ : ∃ c, b = 2 ^ n + c := ⟨b - 2 ^ n, by omega⟩
  subst hc
  rw [Nat.add_sub_cancel_left] at h2 ⊢
  by_cases e : n = i
  · subst e
    rw [Nat.testBit_two_pow_add_eq, Nat.testBit_lt_two_pow h2]; simp
  · by_cases l : i < n
    · rw [Nat.testBit_two_pow_add_gt l]; simp [e]
    · have l' : n < i := by omega
      have h3 : 2 ^ n + c < 2 ^ i := by
        have : 2 ^ (n + 1) ≤ 2 ^ i := Nat.pow_le_pow_right (by decide) l'
        omega
      have h4 : c < 2 ^ i := by omega
      rw [Nat.testBit_lt_two_pow h3, Nat.testBit_lt_two_pow h4]; simp [e]

theorem by_bits {P : Nat → Prop} (h0 : P 0) (hb : ∀ i, i < 8 → P (2 ^ i)) (hx : ∀ x y, x < 256 → y < 256 → P x → P y → P (x ^^^ y)) :
    ∀ n, n ≤ 8 → ∀ b, b < 2 ^ n → P b := by
  intro n
  induction n with
  | zero => intro _ b h; have : b = 0 := by simpa using h
            subst this; exact h0
  | succ n ih =>
    intro hn b h
    have hp : (2 : Nat) ^ n ≤ 2 ^ 7 := Nat.pow_le_pow_right (by decide) (by omega)
    have hp' : (2 : Nat) ^ 7 = 128 := rfl
    by_cases e : 2 ^ n ≤ b
    · have h2 : b - 2 ^ n < 2 ^ n := by rw [Nat.pow_succ] at h; omega
      rw [split_top n b h e]
      exact hx _ _ (by omega) (by omega) (ih (by omega) _ h2) (hb n (by omega))
    · exact ih (by omega) b (by omega)

theorem all_of {P : Nat → Prop} (h0 : P 0) (hb : ∀ i, i < 8 → P (2 ^ i)) (hx : ∀ x y, x < 256 → y < 256 → P x → P y → P (x ^^^ y)) (b : Nat) (h : b < 256) : P b :=
  by_bits h0 hb hx 8 (Nat.le_refl _) b h

theorem fold_lt : ∀ x, x < 16 → foldTab.getD x 0 < 256 := by decide +kernel
theorem settle_lt (p : Nat) : settle p < 256 := xor_lt _ _ 8 (Nat.mod_lt _ (by decide)) (fold_lt _ (Nat.mod_lt _ (by decide)))
theorem mul_lt (a b : Nat) : mul a b < 256 := settle_lt _
theorem refMul_lt (a b : Nat) : refMul a b < 256 := Nat.mod_lt _ (by decide)

theorem mul_zero (a : Nat) : mul a 0 = 0 := by
  have := mul_right a 0 0; rw [Nat.xor_self, Nat.xor_self] at this; exact this
theorem zero_mul (a : Nat) : mul 0 a = 0 := by
  have := mul_left 0 0 a; rw [Nat.xor_self, Nat.xor_self] at this; exact this
theorem refMul_zero (a : Nat) : refMul a 0 = 0 := by
  have := refMul_right a 0 0; rw [Nat.xor_self, Nat.xor_self] at this; exact this
theorem zero_refMul (a : Nat) : refMul 0 a = 0 := by
  have := refMul_left 0 0 a; rw [Nat.xor_self, Nat.xor_self] at this; exact this

theorem mul_comm (a b : Nat) (ha : a < 256) (hb : b < 256) : mul a b = mul b a := by
  refine all_of (P := fun a => mul a b = mul b a) ?_ ?_ ?_ a ha
  · rw [mul_zero, zero_mul]
  · intro i hi
    refine all_of (P := fun b => mul (2 ^ i) b = mul b (2 ^ i)) ?_ ?_ ?_ b hb
    · rw [mul_zero, zero_mul]
    · have h : ∀ i, i < 8 → ∀ j, j < 8 → mul (2 ^ i) (2 ^ j) = mul (2 ^ j) (2 ^ i) := by decide +kernel
      exact h i hi
    · intro x y _ _ h1 h2; rw [mul_right, mul_left, h1, h2]
  · intro x y _ _ h1 h2; rw [mul_left, mul_right, h1, h2]

theorem mul_assoc (a b c : Nat) (ha : a < 256) (hb : b < 256) (hc : c < 256) : mul (mul a b) c = mul a (mul b c) := by
  refine all_of (P := fun a => mul (mul a b) c = mul a (mul b c)) ?_ ?_ ?_ a ha
  · rw [zero_mul, zero_mul, zero_mul]
  · intro i hi
    refine all_of (P := fun b => mul (mul (2 ^ i) b) c = mul (2 ^ i) (mul b c)) ?_ ?_ ?_ b hb
    · rw [zero_mul, mul_zero, zero_mul]
    · intro j hj
      refine all_of (P := fun c => mul (mul (2 ^ i) (2 ^ j)) c = mul (2 ^ i) (mul (2 ^ j) c)) ?_ ?_ ?_ c hc
      · rw [mul_zero, mul_zero, mul_zero]
      · have h : ∀ i, i < 8 → ∀ j, j < 8 → ∀ k, k < 8 → mul (mul (2 ^ i) (2 ^ j)) (2 ^ k) = mul (2 ^ i) (mul (2 ^ j) (2 ^ k)) := by decide +kernel
        exact h i hi j hj
      · intro x y _ _ h1 h2; rw [mul_right, mul_right, mul_right, h1, h2]
    · intro x y _ _ h1 h2; rw [mul_right, mul_left, mul_left, mul_right, h1, h2]
  · intro x y _ _ h1 h2; rw [mul_left, mul_left, mul_left, h1, h2]

theorem mul_one (a : Nat) (ha : a < 256) : mul a 1 = a := by
  refine all_of (P := fun a => mul a 1 = a) (zero_mul 1) (by decide +kernel) ?_ a ha
  intro x y _ _ h1 h2; rw [mul_left, h1, h2]

theorem one_mul (a : Nat) (ha : a < 256) : mul 1 a = a := by rw [mul_comm 1 a (by decide) ha, mul_one a ha]

theorem refMul_eq (a b : Nat) (ha : a < 256) (hb : b < 256) : refMul a b = mul a b := by
  refine all_of (P := fun a => refMul a b = mul a b) ?_ ?_ ?_ a ha
  · rw [zero_refMul, zero_mul]
  · intro i hi
    refine all_of (P := fun b => refMul (2 ^ i) b = mul (2 ^ i) b) ?_ ?_ ?_ b hb
    · rw [refMul_zero, mul_zero]
    · have h : ∀ i, i < 8 → ∀ j, j < 8 → refMul (2 ^ i) (2 ^ j) = mul (2 ^ i) (2 ^ j) := by decide +kernel
      exact h i hi
    · intro x y _ _ h1 h2; rw [refMul_right, mul_right, h1, h2]
  · intro x y _ _ h1 h2; rw [refMul_left, mul_left, h1, h2]

/-! ### powers -/

def pw (a : Nat) : Nat → Nat
  | 0 => 1
  | n + 1 => mul (pw a n) a

theorem pw_lt (a n : Nat) : pw a n < 256 := by cases n with
  | zero => exact (by decide : (1 : Nat) < 256)
  | succ n => exact mul_lt _ _

theorem pw_add (a n m : Nat) (ha : a < 256) : pw a (n + m) = mul (pw a n) (pw a m) := by
  induction m with
  | zero => exact (mul_one _ (pw_lt _ _)).symm
  | succ m ih =>
    show mul (pw a (n + m)) a = mul (pw a n) (mul (pw a m) a)
    rw [ih, mul_assoc _ _ _ (pw_lt _ _) (pw_lt _ _) ha]

theorem pw_one (a : Nat) (ha : a < 256) : pw a 1 = a := one_mul a ha

theorem pw_mul (a n m : Nat) (ha : a < 256) : pw a (n * m) = pw (pw a n) m := by
  induction m with
  | zero => rfl
  | succ m ih => rw [Nat.mul_succ, pw_add a _ _ ha, ih]; rfl

theorem one_pw (n : Nat) : pw 1 n = 1 := by
  induction n with
  | zero => rfl
  | succ n ih => show mul (pw 1 n) 1 = 1; rw [ih]; exact mul_one 1 (by decide)

theorem pw_sq (a n : Nat) (ha : a < 256) : pw (mul a a) n = pw a (2 * n) := by
  rw [pw_mul a 2 n ha]
  congr 1
  show mul a a = mul (mul 1 a) a
  rw [one_mul a ha]

/-- the powers of 2, doubled each time -/
def exps : Nat → Nat → List Nat
  | 0, _ => []
  | n + 1, x => x :: exps n (mul x 2)

theorem exps_getElem (n : Nat) : ∀ (x : Nat), x < 256 → ∀ y, y ∈ exps n x → ∃ k, k < n ∧ y = mul x (pw 2 k) := by
  induction n with
  | zero => intro x _ y h; cases h
  | succ n ih =>
    intro x hx y h
    rcases List.mem_cons.1 h with rfl | h
    · exact ⟨0, by omega, (mul_one _ hx).symm⟩
    · obtain ⟨k, hk, rfl⟩ := ih (mul x 2) (mul_lt _ _) y h
      refine ⟨k + 1, by omega, ?_⟩
      show mul (mul x 2) (pw 2 k) = mul x (mul (pw 2 k) 2)
      rw [mul_assoc _ _ _ hx (by decide) (pw_lt _ _), mul_comm 2 _ (by decide) (pw_lt _ _)]

theorem all_exps : ∀ a, a < 256 → a = 0 ∨ a ∈ exps 255 1 := by decide +kernel

theorem log_of (a : Nat) (ha : a < 256) (h : a ≠ 0) : ∃ k, k < 255 ∧ a = pw 2 k := by
  obtain ⟨k, hk, e⟩ := exps_getElem 255 1 (by decide) a ((all_exps a ha).resolve_left h)
  exact ⟨k, hk, by rw [e, one_mul _ (pw_lt _ _)]⟩

theorem pw2_255 : pw 2 255 = 1 := by decide +kernel

theorem pw_255 (a : Nat) (ha : a < 256) (h : a ≠ 0) : pw a 255 = 1 := by
  obtain ⟨k, _, rfl⟩ := log_of a ha h
  rw [← pw_mul 2 k 255 (by decide), Nat.mul_comm, pw_mul 2 255 k (by decide), pw2_255, one_pw]

theorem pw_mod (a n : Nat) (ha : a < 256) (h : a ≠ 0) : pw a (n % 255) = pw a n := by
  have e : n = 255 * (n / 255) + n % 255 := (Nat.div_add_mod n 255).symm
  conv => rhs; rw [e]
  rw [pw_add a _ _ ha, pw_mul a 255 _ ha, pw_255 a ha h, one_pw, one_mul _ (pw_lt _ _)]

def inv (a : Nat) : Nat := pw a 254

theorem inv_lt (a : Nat) : inv a < 256 := pw_lt _ _

theorem mul_inv (a : Nat) (ha : a < 256) (h : a ≠ 0) : mul a (inv a) = 1 := by
  rw [mul_comm _ _ ha (inv_lt _)]; exact pw_255 a ha h

theorem mul_eq_zero (a b : Nat) (ha : a < 256) (hb : b < 256) (h : mul a b = 0) : a = 0 ∨ b = 0 := by
  by_cases e : a = 0
  · exact Or.inl e
  · right
    have h1 := mul_assoc (inv a) a b (inv_lt _) ha hb
    rw [h, mul_zero, mul_comm _ _ (inv_lt _) ha, mul_inv a ha e, one_mul b hb] at h1
    exact h1

theorem pw2_ne (k : Nat) : pw 2 k ≠ 0 := by
  induction k with
  | zero => decide
  | succ k ih => intro e; rcases mul_eq_zero _ _ (pw_lt _ _) (by decide) e with h | h
                 · exact ih h
                 · exact absurd h (by decide)

theorem mul_div (a b : Nat) (ha : a < 256) (hb : b < 256) (h : b ≠ 0) : mul (mul a b) (inv b) = a := by
  rw [mul_assoc _ _ _ ha hb (inv_lt _), mul_inv b hb h, mul_one a ha]

theorem div_mul (a b : Nat) (ha : a < 256) (hb : b < 256) (h : b ≠ 0) : mul (mul a (inv b)) b = a := by
  rw [mul_assoc _ _ _ ha (inv_lt _) hb, mul_comm _ _ (inv_lt _) hb, mul_inv b hb h, mul_one a ha]

theorem mul_cancel (x y b : Nat) (hx : x < 256) (hy : y < 256) (hb : b < 256) (h : b ≠ 0) (e : mul x b = mul y b) : x = y := by
  rw [← mul_div x b hx hb h, e, mul_div y b hy hb h]

/-- the exponents below 255 are told apart -/
theorem pw2_inj (i j : Nat) (hi : i < 255) (hj : j < 255) (h : pw 2 i = pw 2 j) : i = j := by
  have key : ∀ d, d < 255 → pw 2 d = 1 → d = 0 := by decide +kernel
  have one : ∀ i j, i ≤ j → j < 255 → pw 2 i = pw 2 j → i = j := by
    intro i j hij hj h
    have e : j = i + (j - i) := by omega
    rw [e, pw_add 2 _ _ (by decide)] at h
    have h2 : mul (pw 2 (j - i)) (pw 2 i) = mul 1 (pw 2 i) := by
      rw [mul_comm _ _ (pw_lt _ _) (pw_lt _ _), ← h, one_mul _ (pw_lt _ _)]
    have h3 := mul_cancel _ _ _ (pw_lt _ _) (by decide) (pw_lt _ _) (pw2_ne i) h2
    have := key (j - i) (by omega) h3
    omega
  rcases Nat.le_total i j with l | l
  · exact one i j l hj h
  · exact (one j i l hi h.symm).symm

theorem double (x : Nat) (hx : x < 256) : settle (x <<< 1) = mul x 2 := by
  refine all_of (P := fun x => settle (x <<< 1) = mul x 2) (by decide +kernel) (by decide +kernel) ?_ x hx
  intro x y _ _ h1 h2
  rw [Nat.shiftLeft_xor_distrib, settle_xor, mul_left, h1, h2]

/-! ### bounds, as the walks want them -/

theorem term_lt (a f k : Nat) (ha : a < 256) (hk : k < 4) : (a <<< k) * (f >>> k % 2) < 2 ^ 12 := by
  rw [Nat.shiftLeft_eq]
  have h1 : (2 : Nat) ^ k ≤ 2 ^ 3 := Nat.pow_le_pow_right (by decide) (by omega)
  have h2 : a * 2 ^ k ≤ 255 * 2 ^ 3 := Nat.mul_le_mul (by omega) h1
  rcases mod2_cases (f >>> k) with e | e <;> rw [e] <;> omega

theorem partTo_lt (a f k : Nat) (ha : a < 256) (hk : k ≤ 4) : partTo a f k < 2 ^ 12 := by
  induction k with
  | zero => exact (by decide : (0 : Nat) < 2 ^ 12)
  | succ k ih => exact xor_lt _ _ 12 (ih (by omega)) (term_lt a f k ha (by omega))

theorem part_lt (a f : Nat) (ha : a < 256) : part a f < 4096 := partTo_lt a f 4 ha (Nat.le_refl _)

theorem spread_lt (a b k : Nat) (ha : a < 256) (hk : k ≤ 8) : spreadTo a b k < 2 ^ 15 := by
  induction k with
  | zero => exact (by decide : (0 : Nat) < 2 ^ 15)
  | succ k ih =>
    refine xor_lt _ _ 15 (ih (by omega)) ?_
    split
    · rw [Nat.shiftLeft_eq]
      have h1 : (2 : Nat) ^ k ≤ 2 ^ 7 := Nat.pow_le_pow_right (by decide) (by omega)
      have h2 : a * 2 ^ k ≤ 255 * 2 ^ 7 := Nat.mul_le_mul (by omega) h1
      omega
    · decide

theorem shift_lt (i : Nat) (hi : i ≤ 14) : 0x11d <<< (i - 8) < 2 ^ 15 := by
  rw [Nat.shiftLeft_eq]
  have h1 : (2 : Nat) ^ (i - 8) ≤ 2 ^ 6 := Nat.pow_le_pow_right (by decide) (by omega)
  have h2 : 0x11d * 2 ^ (i - 8) ≤ 0x11d * 2 ^ 6 := Nat.mul_le_mul (Nat.le_refl _) h1
  omega

theorem redTo_lt (p k : Nat) (hp : p < 2 ^ 15) : redTo p k < 2 ^ 15 := by
  induction k with
  | zero => exact hp
  | succ k ih =>
    refine xor_lt _ _ 15 ih ?_
    split
    · exact shift_lt _ (by omega)
    · decide

end Gal
