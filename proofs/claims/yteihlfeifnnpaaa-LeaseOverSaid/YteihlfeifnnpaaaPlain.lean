/- Clocks and their leads in plain Lean: what a tick does, and what follows. No program stands here. -/
namespace Drf

/-- clocks: what each tells; 'lead a b' is b's over a -/
structure St where
  t : Nat → Nat
  lead : Nat → Nat → Nat

def St.init : St := ⟨fun _ => 0, fun _ _ => 0⟩

/-- clock b goes on by one -/
def St.tick (s : St) (b : Nat) : St :=
  ⟨fun x => if x = b then s.t x + 1 else s.t x,
   fun x y => if x = y then s.lead x y else if y = b then s.lead x y + 1 else if x = b then s.lead x y - 2 else s.lead x y⟩

/-- may b go on, among n clocks -/
def St.may (s : St) (n b : Nat) : Bool := (List.range n).all fun a => a == b || decide (s.lead a b < 2)

theorem may_iff (s : St) (n b : Nat) : s.may n b = true ↔ ∀ a, a < n → a ≠ b → s.lead a b < 2 := by
  unfold St.may
  rw [List.all_eq_true]
  constructor
  · intro h a ha hne
    have := h a (List.mem_range.2 ha)
    simp only [Bool.or_eq_true, beq_iff_eq, decide_eq_true_eq] at this
    rcases this with e | e
    · exact absurd e hne
    · exact e
  · intro h a ha
    simp only [Bool.or_eq_true, beq_iff_eq, decide_eq_true_eq]
    by_cases e : a = b
    · exact Or.inl e
    · exact Or.inr (h a (List.mem_range.1 ha) e)

/-- asked to go on: it does, if it may -/
def St.ask (s : St) (n b : Nat) : St := if s.may n b then s.tick b else s

/-- which of the asked did -/
def took (n : Nat) : St → List Nat → List Nat
  | _, [] => []
  | s, b :: l => if s.may n b then b :: took n (s.tick b) l else took n s l

def run (n : Nat) : St → List Nat → St
  | s, [] => s
  | s, b :: l => run n (s.ask n b) l

theorem took_append (n : Nat) (l m : List Nat) : ∀ s, took n s (l ++ m) = took n s l ++ took n (run n s l) m := by
  induction l with
  | nil => intro s; rfl
  | cons b l ih =>
    intro s
    simp only [List.cons_append, took, run, St.ask]
    split
    · rw [ih, List.cons_append]
    · rw [ih]

theorem run_append (n : Nat) (l m : List Nat) : ∀ s, run n s (l ++ m) = run n (run n s l) m := by
  induction l with
  | nil => intro s; rfl
  | cons b l ih => intro s; simp only [List.cons_append, run]; exact ih _

/-- all ticks, each allowed -/
def ticks : St → List Nat → St
  | s, [] => s
  | s, b :: l => ticks (s.tick b) l

def Allowed (n : Nat) : St → List Nat → Prop
  | _, [] => True
  | s, b :: l => s.may n b = true ∧ Allowed n (s.tick b) l

theorem took_allowed (n : Nat) (l : List Nat) : ∀ s, Allowed n s (took n s l) := by
  induction l with
  | nil => intro s; trivial
  | cons b l ih =>
    intro s
    simp only [took]
    split
    · rename_i h; exact ⟨h, ih _⟩
    · exact ih _

theorem run_took (n : Nat) (l : List Nat) : ∀ s, run n s l = ticks s (took n s l) := by
  induction l with
  | nil => intro s; rfl
  | cons b l ih =>
    intro s
    simp only [took, run, St.ask]
    split
    · exact ih _
    · exact ih _

theorem allowed_append (n : Nat) (l m : List Nat) : ∀ s, Allowed n s (l ++ m) → Allowed n s l ∧ Allowed n (ticks s l) m := by
  induction l with
  | nil => intro s h; exact ⟨trivial, h⟩
  | cons b l ih =>
    intro s h
    obtain ⟨h1, h2⟩ := h
    obtain ⟨h3, h4⟩ := ih _ h2
    exact ⟨⟨h1, h3⟩, h4⟩

/-- no lead is ever above 2 -/
def Low (n : Nat) (s : St) : Prop := ∀ a b, a < n → a ≠ b → s.lead a b ≤ 2

theorem low_init (n : Nat) : Low n St.init := fun _ _ _ _ => Nat.zero_le _

theorem low_tick {n : Nat} {s : St} {b : Nat} (h : Low n s) (hm : s.may n b = true) : Low n (s.tick b) := by
  intro x y hx hne
  have h1 := h x y hx hne
  have h2 := (may_iff s n b).1 hm x hx
  show (if x = y then s.lead x y else if y = b then s.lead x y + 1 else if x = b then s.lead x y - 2 else s.lead x y) ≤ 2
  rw [if_neg hne]
  split
  · rename_i e; subst e; have := h2 hne; omega
  · split <;> omega

theorem low_ticks {n : Nat} (l : List Nat) : ∀ s, Low n s → Allowed n s l → Low n (ticks s l) := by
  induction l with
  | nil => intro s h _; exact h
  | cons b l ih => intro s h ha; exact ih _ (low_tick h ha.1) ha.2

/-- P10.3: in a stretch the lead grows at least as the ticks say -/
theorem stretch (x y : Nat) (hne : x ≠ y) (l : List Nat) : ∀ s, l.count y ≤ (ticks s l).lead x y + 2 * l.count x ∧ True := by
  suffices h : ∀ s, l.count y + s.lead x y ≤ (ticks s l).lead x y + 2 * l.count x by
    intro s; have := h s; exact ⟨by omega, trivial⟩
  induction l with
  | nil => intro s; simp [ticks]
  | cons b l ih =>
    intro s
    have h := ih (s.tick b)
    have e : (s.tick b).lead x y = if x = y then s.lead x y else if y = b then s.lead x y + 1 else if x = b then s.lead x y - 2 else s.lead x y := rfl
    rw [if_neg hne] at e
    simp only [List.count_cons, ticks]
    by_cases h1 : y = b
    · subst h1
      rw [if_pos rfl] at e
      have : (y == x) = false := by simp; exact fun e => hne e.symm
      simp [this]
      omega
    · rw [if_neg h1] at e
      by_cases h2 : x = b
      · subst h2
        rw [if_pos rfl] at e
        have : (x == y) = false := by simp [hne]
        simp [this]
        omega
      · rw [if_neg h2] at e
        have h3 : (b == x) = false := by simp; exact fun e => h2 e.symm
        have h4 : (b == y) = false := by simp; exact fun e => h1 e.symm
        simp [h3, h4]
        omega

theorem bound {n : Nat} {l m : List Nat} (h : Allowed n St.init (l ++ m)) (x y : Nat) (hx : x < n) : m.count y ≤ 2 * m.count x + 2 := by
  by_cases hne : x = y
  · subst hne; omega
  · have h1 := allowed_append n l m St.init h
    have h2 := low_ticks m (ticks St.init l) (low_ticks l _ (low_init n) h1.1) h1.2 x y hx hne
    have h3 := (stretch x y hne m (ticks St.init l)).1
    omega

/-! ### there is always one that may -/

/-- 'last' tells who went on most lately: whoever went on before a has no lead over a -/
def Recent (n : Nat) (s : St) (last : Nat → Nat) (now : Nat) : Prop :=
  Low n s ∧ (∀ x, last x ≤ now) ∧ ∀ a b, a < n → a ≠ b → last b ≤ last a → s.lead a b = 0

theorem recent_init (n : Nat) : Recent n St.init (fun _ => 0) 0 := ⟨low_init n, fun _ => Nat.le_refl _, fun _ _ _ _ _ => rfl⟩

theorem recent_tick {n : Nat} {s : St} {last : Nat → Nat} {now b : Nat} (h : Recent n s last now) (hm : s.may n b = true) :
    Recent n (s.tick b) (fun x => if x = b then now + 1 else last x) (now + 1) := by
  obtain ⟨h1, h2, h3⟩ := h
  refine ⟨low_tick h1 hm, fun x => ?_, fun x y hx hne hl => ?_⟩
  · show (if x = b then now + 1 else last x) ≤ now + 1
    split
    · exact Nat.le_refl _
    · exact Nat.le_succ_of_le (h2 x)
  · show (if x = y then s.lead x y else if y = b then s.lead x y + 1 else if x = b then s.lead x y - 2 else s.lead x y) = 0
    have hl' : (if y = b then now + 1 else last y) ≤ (if x = b then now + 1 else last x) := hl
    rw [if_neg hne]
    by_cases e : y = b
    · subst e
      rw [if_pos rfl, if_neg hne] at hl'
      have := h2 x
      omega
    · rw [if_neg e]
      rw [if_neg e] at hl'
      by_cases e2 : x = b
      · rw [if_pos e2]; have := h1 x y hx hne; omega
      · rw [if_neg e2]
        rw [if_neg e2] at hl'
        exact h3 x y hx hne hl'

theorem recent_ask {n : Nat} {s : St} {b : Nat} (h : ∃ last now, Recent n s last now) : ∃ last now, Recent n (s.ask n b) last now := by
  obtain ⟨last, now, h⟩ := h
  unfold St.ask
  split
  · rename_i hm; exact ⟨_, _, recent_tick h hm⟩
  · exact ⟨_, _, h⟩

theorem least (f : Nat → Nat) (n : Nat) (hn : 0 < n) : ∃ m, m < n ∧ ∀ a, a < n → f m ≤ f a := by
  induction n with
  | zero => omega
  | succ n ih =>
    by_cases h0 : n = 0
    · subst h0; exact ⟨0, by omega, fun a ha => by have : a = 0 := by omega
                                                   subst this; exact Nat.le_refl _⟩
    · obtain ⟨m, hm, h⟩ := ih (by omega)
      by_cases e : f m ≤ f n
      · exact ⟨m, by omega, fun a ha => by
          by_cases e2 : a = n
          · subst e2; exact e
          · exact h a (by omega)⟩
      · exact ⟨n, by omega, fun a ha => by
          by_cases e2 : a = n
          · subst e2; exact Nat.le_refl _
          · exact Nat.le_trans (by omega) (h a (by omega))⟩

theorem goes {n : Nat} (hn : 0 < n) {s : St} (h : ∃ last now, Recent n s last now) : ∃ m, m < n ∧ s.may n m = true := by
  obtain ⟨last, now, _, _, h3⟩ := h
  obtain ⟨m, hm, hl⟩ := least last n hn
  refine ⟨m, hm, (may_iff s n m).2 fun a ha hne => ?_⟩
  rw [h3 a m ha hne (hl a ha)]
  omega

/-! ### in turn -/

/-- clocks that tick in turn, from 'from' on: what stands after k ticks -/
structure Turn (n f k : Nat) (s : St) : Prop where
  one : ∀ a b, a < n → a ≠ b → s.lead a b ≤ 1
  none : ∀ i j, i < j → j < n → s.lead ((f + k + j) % n) ((f + k + i) % n) = 0
  told : ∀ i, i < n → s.t ((f + k + i) % n) = (k + i) / n

theorem turn_init (n f : Nat) : Turn n f 0 St.init :=
  ⟨fun _ _ _ _ => Nat.zero_le _, fun _ _ _ _ => rfl, fun i hi => by show 0 = (0 + i) / n; rw [Nat.zero_add, Nat.div_eq_of_lt hi]⟩

theorem idx_surj (n c a : Nat) (hn : 0 < n) (ha : a < n) : ∃ i, i < n ∧ (c + i) % n = a := by
  refine ⟨(a + n - c % n) % n, Nat.mod_lt _ hn, ?_⟩
  rw [Nat.add_mod, Nat.mod_mod]
  have h1 : c % n < n := Nat.mod_lt _ hn
  rw [Nat.add_mod_mod, show c % n + (a + n - c % n) = a + n by omega, Nat.add_mod_right, Nat.mod_eq_of_lt ha]

theorem idx_inj (n c i j : Nat) (hi : i < n) (hj : j < n) (h : (c + i) % n = (c + j) % n) : i = j := by
  rcases Nat.le_total i j with l | l
  · have h2 : (c + j - (c + i)) % n = 0 := Nat.sub_mod_eq_zero_of_mod_eq h.symm
    have h3 : c + j - (c + i) = j - i := by omega
    rw [h3, Nat.mod_eq_of_lt (by omega)] at h2
    omega
  · have h2 : (c + i - (c + j)) % n = 0 := Nat.sub_mod_eq_zero_of_mod_eq h
    have h3 : c + i - (c + j) = i - j := by omega
    rw [h3, Nat.mod_eq_of_lt (by omega)] at h2
    omega

theorem turn_may {n f k : Nat} {s : St} (h : Turn n f k s) (b : Nat) : s.may n b = true :=
  (may_iff s n b).2 fun a ha hne => by have := h.one a b ha hne; omega

theorem turn_tick {n f k : Nat} {s : St} (hn : 0 < n) (h : Turn n f k s) : Turn n f (k + 1) (s.tick ((f + k) % n)) := by
  have hb : (f + k) % n < n := Nat.mod_lt _ hn
  have zero : ∀ a, a < n → a ≠ (f + k) % n → s.lead a ((f + k) % n) = 0 := by
    intro a ha hne
    obtain ⟨j, hj, rfl⟩ := idx_surj n (f + k) a hn ha
    by_cases e : j = 0
    · subst e; exact absurd rfl hne
    · have := h.none 0 j (by omega) hj; exact this
  refine ⟨fun x y hx hne => ?_, fun i j hij hj => ?_, fun i hi => ?_⟩
  · show (if x = y then s.lead x y else if y = (f + k) % n then s.lead x y + 1 else if x = (f + k) % n then s.lead x y - 2 else s.lead x y) ≤ 1
    rw [if_neg hne]
    have h1 := h.one x y hx hne
    split
    · rename_i e; subst e; rw [zero x hx hne]; omega
    · split <;> omega
  · have hne : (f + (k + 1) + j) % n ≠ (f + (k + 1) + i) % n := fun e => by have := idx_inj n _ _ _ hj (by omega) e; omega
    show (if (f + (k + 1) + j) % n = (f + (k + 1) + i) % n then _ else _) = 0
    rw [if_neg hne]
    have hi1 : (f + (k + 1) + i) % n ≠ (f + k) % n := by
      intro e
      have e' : (f + k + (i + 1)) % n = (f + k + 0) % n := by rw [show f + k + (i + 1) = f + (k + 1) + i by omega]; exact e
      have := idx_inj n (f + k) (i + 1) 0 (by omega) hn e'
      omega
    rw [if_neg hi1]
    split
    · have := h.one _ _ (Nat.mod_lt _ hn) hne; omega
    · rename_i e
      have hj1 : j + 1 < n := by
        by_cases e2 : j + 1 = n
        · exfalso; apply e
          rw [show f + (k + 1) + j = f + k + n by omega, Nat.add_mod_right]
        · omega
      rw [show f + (k + 1) + j = f + k + (j + 1) by omega, show f + (k + 1) + i = f + k + (i + 1) by omega]
      exact h.none (i + 1) (j + 1) (by omega) hj1
  · show (if (f + (k + 1) + i) % n = (f + k) % n then s.t _ + 1 else s.t _) = (k + 1 + i) / n
    by_cases e : i + 1 = n
    · have e1 : (f + (k + 1) + i) % n = (f + k) % n := by rw [show f + (k + 1) + i = f + k + n by omega, Nat.add_mod_right]
      rw [if_pos e1, e1]
      have := h.told 0 hn
      rw [Nat.add_zero, Nat.add_zero] at this
      rw [this, show k + 1 + i = k + n by omega, Nat.add_div_right _ hn]
    · have e1 : (f + (k + 1) + i) % n ≠ (f + k) % n := by
        intro e2
        have e' : (f + k + (i + 1)) % n = (f + k + 0) % n := by rw [show f + k + (i + 1) = f + (k + 1) + i by omega]; exact e2
        have := idx_inj n (f + k) (i + 1) 0 (by omega) hn e'
        omega
      rw [if_neg e1, show f + (k + 1) + i = f + k + (i + 1) by omega, h.told (i + 1) (by omega)]
      congr 1
      omega

theorem turn_end {n f r : Nat} {s : St} (hn : 0 < n) (h : Turn n f (n * r) s) (x : Nat) (hx : x < n) : s.t x = r := by
  obtain ⟨i, hi, rfl⟩ := idx_surj n (f + n * r) x hn hx
  rw [h.told i hi, Nat.mul_add_div hn, Nat.div_eq_of_lt hi, Nat.add_zero]

/-- what the first k clocks tell together -/
def sumTo (t : Nat → Nat) : Nat → Nat
  | 0 => 0
  | k + 1 => sumTo t k + t k

theorem sum_tick (t : Nat → Nat) (b : Nat) : ∀ k, sumTo (fun x => if x = b then t x + 1 else t x) k = sumTo t k + if b < k then 1 else 0
  | 0 => rfl
  | k + 1 => by
    simp only [sumTo]
    rw [sum_tick t b k]
    by_cases h1 : k = b
    · subst h1; simp; omega
    · rw [if_neg h1]
      by_cases h2 : b < k
      · rw [if_pos h2, if_pos (by omega)]; omega
      · rw [if_neg h2, if_neg (by omega)]; omega

theorem sum_zero (k : Nat) : sumTo (fun _ => 0) k = 0 := by
  induction k with
  | zero => rfl
  | succ k ih => simp [sumTo, ih]

theorem sum_took (n : Nat) (l : List Nat) (hl : ∀ b, b ∈ l → b < n) : ∀ s, sumTo (run n s l).t n = sumTo s.t n + (took n s l).length := by
  induction l with
  | nil => intro s; rfl
  | cons b l ih =>
    intro s
    have hb := hl b (List.mem_cons_self)
    have ih' := ih (fun x hx => hl x (List.mem_cons_of_mem _ hx))
    simp only [run, took, St.ask]
    split
    · rw [ih', List.length_cons, show sumTo (s.tick b).t n = sumTo s.t n + 1 from by
        have := sum_tick s.t b n; rw [if_pos hb] at this; exact this]
      omega
    · rw [ih']

theorem took_mem (n : Nat) (l : List Nat) (hl : ∀ b, b ∈ l → b < n) : ∀ s, ∀ b, b ∈ took n s l → b < n := by
  induction l with
  | nil => intro s b h; cases h
  | cons c l ih =>
    intro s b h
    have ih' := ih (fun x hx => hl x (List.mem_cons_of_mem _ hx))
    simp only [took] at h
    split at h
    · rcases List.mem_cons.1 h with rfl | h
      · exact hl _ (List.mem_cons_self)
      · exact ih' _ b h
    · exact ih' _ b h

theorem took_len (n : Nat) (l : List Nat) : ∀ s, (took n s l).length ≤ l.length := by
  induction l with
  | nil => intro s; exact Nat.le_refl _
  | cons c l ih =>
    intro s
    simp only [took]
    split
    · rw [List.length_cons, List.length_cons]; exact Nat.succ_le_succ (ih _)
    · rw [List.length_cons]; exact Nat.le_succ_of_le (ih _)

/-- a tick of b under way: b's own count is raised, and its leads with the clocks before k are reckoned -/
def St.tickTo (s : St) (b k : Nat) : St :=
  ⟨fun x => if x = b then s.t x + 1 else s.t x,
   fun x y => if x = y then s.lead x y else if y = b then (if x < k then s.lead x y + 1 else s.lead x y) else if x = b then (if y < k then s.lead x y - 2 else s.lead x y) else s.lead x y⟩

theorem tickTo_zero (s : St) (b x y : Nat) : (s.tickTo b 0).lead x y = s.lead x y := by
  simp [St.tickTo]

theorem tickTo_end (s : St) (b n x y : Nat) (hx : x < n) (hy : y < n) : (s.tickTo b n).lead x y = (s.tick b).lead x y := by
  simp [St.tickTo, St.tick, hx, hy]

theorem tickTo_skip (s : St) (b x y : Nat) : (s.tickTo b (b + 1)).lead x y = (s.tickTo b b).lead x y := by
  simp only [St.tickTo]
  by_cases h : x = y
  · rw [if_pos h, if_pos h]
  · rw [if_neg h, if_neg h]
    by_cases h2 : y = b
    · rw [if_pos h2, if_pos h2]
      by_cases h3 : x < b
      · rw [if_pos (by omega), if_pos h3]
      · rw [if_neg (by omega), if_neg h3]
    · rw [if_neg h2, if_neg h2]
      by_cases h3 : x = b
      · rw [if_pos h3, if_pos h3]
        by_cases h4 : y < b
        · rw [if_pos (by omega), if_pos h4]
        · rw [if_neg (by omega), if_neg h4]
      · rw [if_neg h3, if_neg h3]

theorem tickTo_up (s : St) (b k : Nat) (h : k ≠ b) : (s.tickTo b (k + 1)).lead k b = (s.tickTo b k).lead k b + 1 := by
  simp [St.tickTo, h]

theorem tickTo_down (s : St) (b k : Nat) (h : k ≠ b) : (s.tickTo b (k + 1)).lead b k = (s.tickTo b k).lead b k - 2 := by
  have h' : b ≠ k := fun e => h e.symm
  simp [St.tickTo, h, h']

theorem tickTo_other (s : St) (b k x y : Nat) (h1 : ¬ (x = k ∧ y = b)) (h2 : ¬ (x = b ∧ y = k)) : (s.tickTo b (k + 1)).lead x y = (s.tickTo b k).lead x y := by
  simp only [St.tickTo]
  by_cases h : x = y
  · rw [if_pos h, if_pos h]
  · rw [if_neg h, if_neg h]
    by_cases e2 : y = b
    · rw [if_pos e2, if_pos e2]
      by_cases h3 : x < k
      · rw [if_pos (by omega), if_pos h3]
      · rw [if_neg (by omega), if_neg h3]
    · rw [if_neg e2, if_neg e2]
      by_cases h3 : x = b
      · rw [if_pos h3, if_pos h3]
        by_cases h4 : y < k
        · rw [if_pos (by omega), if_pos h4]
        · rw [if_neg (by omega), if_neg h4]
      · rw [if_neg h3, if_neg h3]

/-- what is known of clocks behind k asked ticks -/
structure Fine (n k : Nat) (s : St) : Prop where
  low : Low n s
  told : ∀ x, s.t x ≤ k
  recent : ∃ last now, Recent n s last now

theorem fine_init (n : Nat) : Fine n 0 St.init := ⟨low_init n, fun _ => Nat.le_refl _, _, _, recent_init n⟩

theorem fine_ask {n k : Nat} {s : St} (h : Fine n k s) (b : Nat) : Fine n (k + 1) (s.ask n b) := by
  refine ⟨?_, ?_, recent_ask h.recent⟩
  · unfold St.ask
    split
    · rename_i hm; exact low_tick h.low hm
    · exact h.low
  · intro x
    unfold St.ask
    split
    · show (if x = b then s.t x + 1 else s.t x) ≤ k + 1
      have := h.told x
      split <;> omega
    · exact Nat.le_succ_of_le (h.told x)

theorem Fine.mono {n k k' : Nat} {s : St} (h : Fine n k s) (hk : k ≤ k') : Fine n k' s := ⟨h.low, fun x => Nat.le_trans (h.told x) hk, h.recent⟩

theorem may_init (n b : Nat) : St.init.may n b = true := (may_iff _ n b).2 fun _ _ _ => by show 0 < 2; omega

/-- may one of the first j clocks -/
def anyTo (s : St) (n j : Nat) : Bool := (List.range j).any fun b => s.may n b

theorem anyTo_succ (s : St) (n j : Nat) : anyTo s n (j + 1) = (anyTo s n j || s.may n j) := by
  simp [anyTo, List.range_succ]

theorem anyTo_all {s : St} {n k : Nat} (hn : 0 < n) (h : Fine n k s) : anyTo s n n = true := by
  obtain ⟨m, hm, he⟩ := goes hn h.recent
  unfold anyTo
  rw [List.any_eq_true]
  exact ⟨m, List.mem_range.2 hm, he⟩

/-- the first k names that a script asks for -/
def asked (f : Nat → Nat) (k : Nat) : List Nat := (List.range k).map f

theorem asked_succ (f : Nat → Nat) (k : Nat) : asked f (k + 1) = asked f k ++ [f k] := by
  simp [asked, List.range_succ]

theorem run_asked (n : Nat) (f : Nat → Nat) (k : Nat) (s : St) : run n s (asked f (k + 1)) = (run n s (asked f k)).ask n (f k) := by
  rw [asked_succ, run_append]; rfl

theorem fine_run (n : Nat) (f : Nat → Nat) (k : Nat) : Fine n k (run n St.init (asked f k)) := by
  induction k with
  | zero => exact fine_init n
  | succ k ih => rw [run_asked]; exact fine_ask ih _

/-- those of the first k asked that ticked -/
def did (n : Nat) (f : Nat → Nat) (k : Nat) : List Nat := took n St.init (asked f k)

theorem did_yes (n : Nat) (f : Nat → Nat) (k : Nat) (h : (run n St.init (asked f k)).may n (f k) = true) : did n f (k + 1) = did n f k ++ [f k] := by
  unfold did
  rw [asked_succ, took_append]
  simp [took, h]

theorem did_no (n : Nat) (f : Nat → Nat) (k : Nat) (h : (run n St.init (asked f k)).may n (f k) = false) : did n f (k + 1) = did n f k := by
  unfold did
  rw [asked_succ, took_append]
  simp [took, h]

theorem did_len (n : Nat) (f : Nat → Nat) (k : Nat) : (did n f k).length ≤ k := by
  have := took_len n (asked f k) St.init
  simpa [did, asked] using this

theorem did_sum (n : Nat) (f : Nat → Nat) (k : Nat) (hf : ∀ i, f i < n) : sumTo (run n St.init (asked f k)).t n = (did n f k).length := by
  have h := sum_took n (asked f k) (fun b hb => by
    obtain ⟨i, _, rfl⟩ := List.mem_map.1 hb
    exact hf i) St.init
  have h0 : sumTo St.init.t n = 0 := sum_zero n
  rw [h, h0, Nat.zero_add]
  rfl

theorem did_mem (n : Nat) (f : Nat → Nat) (k : Nat) (hf : ∀ i, f i < n) : ∀ b, b ∈ did n f k → b < n :=
  took_mem n (asked f k) (fun b hb => by
    obtain ⟨i, _, rfl⟩ := List.mem_map.1 hb
    exact hf i) St.init

theorem did_allowed (n : Nat) (f : Nat → Nat) (k : Nat) : Allowed n St.init (did n f k) := took_allowed n _ _

theorem sumTo_le (t : Nat → Nat) (B : Nat) (h : ∀ x, t x ≤ B) : ∀ k, sumTo t k ≤ k * B
  | 0 => Nat.zero_le _
  | k + 1 => by
    have := sumTo_le t B h k
    have h2 := h k
    simp only [sumTo]
    rw [Nat.succ_mul]
    omega

end Drf
