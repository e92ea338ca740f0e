/- The program's clocks as an object in memory, and the walks of 'has', 'Now', 'May', 'Wait'. -/
import Derived.Test.YteihlfeifnnpaaaMaps
import Derived.WalkSpells
namespace Go.Proofs.Yteihlfeifnnpaaa
open Go.RowKit Go.Maps Go.WideMaps Go.WideElems
open Go.ChangeMaps (setBlock heap_setBlock_same heap_setBlock_other)
set_option maxRecDepth 100000

theorem ret_int {k : IntKind} {a b : Int} (h : a = b) : Ending.returned (.int k a) = .returned (.int k b) := by rw [h]
theorem ret_bool {a b : Bool} (h : a = b) : Ending.returned (.bool a) = .returned (.bool b) := by rw [h]

/-- an int's cells, a function of the place -/
def cellsTo (n : Nat) (t : Nat → Nat) : Array Value := ((List.range n).map fun i => Value.int .i64 (t i : Nat)).toArray

theorem cellsTo_get (n : Nat) (t : Nat → Nat) (i : Nat) (h : i < n) : (cellsTo n t)[i]? = some (.int .i64 (t i : Nat)) := by
  simp [cellsTo, h]

/-- the map's reading tells the leads -/
structure Rep (n : Nat) (D : DataW Unit) (lead : Nat → Nat → Nat) : Prop where
  at_ : ∀ x y : Nat, x < n → y < n → x ≠ y → D.atKey (pk x y) (.lit (.int .i64 0)) = .lit (.int .i64 (lead x y : Nat))
  keys : ∀ kl, Maps.has D kl = true → ∃ x y : Nat, x < n ∧ y < n ∧ x ≠ y ∧ kl = pk x y

/-- clocks that a call made: the struct at block c, its row at s, its map at m -/
structure Clk (w : World) (c s m n k : Nat) (st : Drf.St) : Prop where
  box : w.heap[c]? = some (.cells #[.slice (some ⟨s, 0, none⟩) n n, .map (some m)] 64 (0, 0))
  row : w.heap[s]? = some (.cells (cellsTo n st.t) 3 (0, 0))
  map : ∃ D : DataW Unit, w.ownsMap Try.prog 67 (plainElem Try.prog 3) m k D ∧ Rep n D st.lead

theorem Clk.kept {w w' : World} {c s m n k : Nat} {st : Drf.St} (h : Clk w c s m n k st) (hk : Kept [] w w') : Clk w' c s m n k st := by
  obtain ⟨h1, h2, D, ho, hr⟩ := h
  refine ⟨hk.here h1, hk.here h2, D, ?_, hr⟩
  obtain ⟨es, clock, hb, F, hs, hD⟩ := ho
  exact ⟨es, clock, hk.here hb, F, hs, hD⟩

theorem Clk.cell0 {w : World} {c s m n k : Nat} {st : Drf.St} (h : Clk w c s m n k st) : w.cell? ⟨c, 0, none⟩ = some (.slice (some ⟨s, 0, none⟩) n n) := by
  simp [World.cell?, h.box]
theorem Clk.cell1 {w : World} {c s m n k : Nat} {st : Drf.St} (h : Clk w c s m n k st) : w.cell? ⟨c, 1, none⟩ = some (.map (some m)) := by
  simp [World.cell?, h.box]
theorem Clk.now {w : World} {c s m n k : Nat} {st : Drf.St} (h : Clk w c s m n k st) (i : Nat) (hi : i < n) : w.cell? ⟨s, i, none⟩ = some (.int .i64 (st.t i : Nat)) := by
  simp [World.cell?, h.row, cellsTo, hi]

/-- is there such a clock -/
def hasI (n : Nat) (x : Int) : Bool := decide (0 ≤ x) && decide (x < n)

set_option maxHeartbeats 400000 in
theorem has_any {w : World} {c s m n k : Nat} {st : Drf.St} (h : Clk w c s m n k st) (x : Int) :
    Calls Try.prog 32 #[.pointer (some ⟨c, 0, none⟩), .int .i64 x] w fun e w' => e = .returned (.bool (hasI n x)) ∧ w = w' := by
  have c0 := h.cell0
  have c1 := h.cell1
  have hmn := fun w => run_neq_map_nil (P := Try.prog) w 62 67 3 (some m) Try.underlying62
  clear h
  go_enter Try.func32, Try.ntmps32
  go_wp2
  · go_ret
    rename_i h0
    exact ⟨ret_bool (by simp [hasI, h0]), rfl⟩
  · go_ret
    rename_i h0
    exact ⟨ret_bool (by simp [hasI]; omega), rfl⟩

theorem has_yes {w : World} {c s m n k : Nat} {st : Drf.St} (h : Clk w c s m n k st) (x : Int) (h0 : 0 ≤ x) (h1 : x < n) :
    Calls Try.prog 32 #[.pointer (some ⟨c, 0, none⟩), .int .i64 x] w fun e w' => e = .returned (.bool true) ∧ w = w' := by
  have e : hasI n x = true := by simp [hasI, h0, h1]
  rw [← e]; exact has_any h x
theorem has_no {w : World} {c s m n k : Nat} {st : Drf.St} (h : Clk w c s m n k st) (x : Int) (h0 : x < 0 ∨ (n : Int) ≤ x) :
    Calls Try.prog 32 #[.pointer (some ⟨c, 0, none⟩), .int .i64 x] w fun e w' => e = .returned (.bool false) ∧ w = w' := by
  have e : hasI n x = false := by simp [hasI]; omega
  rw [← e]; exact has_any h x

set_option maxHeartbeats 400000 in
theorem now_yes {w : World} {c s m n k : Nat} {st : Drf.St} (h : Clk w c s m n k st) (x : Nat) (h1 : x < n) :
    Calls Try.prog 20 #[.pointer (some ⟨c, 0, none⟩), .int .i64 x] w fun e w' => e = .returned (.int .i64 (st.t x : Nat)) ∧ w = w' := by
  have c0 := h.cell0
  have ct := h.now x h1
  have hc := has_yes h x (by omega) (by omega)
  clear h
  go_enter Try.func20, Try.ntmps20
  go_wp2_with fail
  refine hc.mono ?_
  rintro e w' ⟨rfl, rfl⟩
  go_wp2
  go_ret
  exact ⟨rfl, rfl⟩

set_option maxHeartbeats 400000 in
theorem now_no {w : World} {c s m n k : Nat} {st : Drf.St} (h : Clk w c s m n k st) (x : Int) (h0 : x < 0 ∨ (n : Int) ≤ x) :
    Calls Try.prog 20 #[.pointer (some ⟨c, 0, none⟩), .int .i64 x] w fun e w' => e = .returned (.int .i64 0) ∧ w = w' := by
  have hc := has_no h x h0
  clear h h0
  go_enter Try.func20, Try.ntmps20
  go_wp2_with fail
  refine hc.mono ?_
  rintro e w' ⟨rfl, rfl⟩
  go_wp2
  go_ret
  exact ⟨rfl, rfl⟩

/-- what May answers -/
def mayI (n : Nat) (st : Drf.St) (x : Int) : Bool := hasI n x && st.may n x.toNat

set_option maxHeartbeats 400000 in
theorem may_no {w : World} {c s m n k : Nat} {st : Drf.St} (h : Clk w c s m n k st) (x : Int) (h0 : x < 0 ∨ (n : Int) ≤ x) :
    Calls Try.prog 33 #[.pointer (some ⟨c, 0, none⟩), .int .i64 x] w fun e w' => e = .returned (.bool false) ∧ w = w' := by
  have hc := has_no h x h0
  clear h h0
  go_enter Try.func33, Try.ntmps33
  go_wp2_with fail
  refine hc.mono ?_
  rintro e w' ⟨rfl, rfl⟩
  go_wp2
  go_ret
  exact ⟨rfl, rfl⟩

theorem elem_inv (v : Value) (y : DataW Unit × List MemPlace) (h : plainElem Try.prog 3 v = some y) : ∃ c, v = .int .i64 c := by
  obtain ⟨a, rfl, _⟩ := plainElem_int_inv Try.underlying3 h
  exact ⟨a, rfl⟩

/-- what the loop of May knows: a lead of 2 over some clock is still to come -/
def Seen (n x : Nat) (lead : Nat → Nat → Nat) (left : Lit → Bool) : Prop := ∀ a : Nat, a < n → a ≠ x → 2 ≤ lead a x → left (pk a x) = true

theorem wf_small (x n : Nat) (h : x < n) (hn : n ≤ 16) : (Lit.int .i64 (x : Int)).wf = true := WalkArith.wf_i64 (by omega)

theorem seen_start {n x : Nat} {D : DataW Unit} {lead : Nat → Nat → Nat} (h : Rep n D lead) (hx : x < n) : Hid (Seen n x lead (Maps.has D)) := by
  intro a ha hne hl
  cases e : Maps.has D (pk a x) with
  | true => rfl
  | false =>
    have h1 := h.at_ a x ha hx hne
    rw [Maps.atKey_of_not_has e] at h1
    simp at h1
    omega

theorem entry_is {n : Nat} {D : DataW Unit} {lead : Nat → Nat → Nat} (h : Rep n D lead) (hn : n ≤ 16) {y1 y2 cv : Int} {kl : Lit} {yd : DataW Unit} {ys : List MemPlace}
    (hkl : keyOf Try.prog 67 (pairV y1 y2) = some kl) (hy : plainElem Try.prog 3 (.int .i64 cv) = some (yd, ys)) (hat : ∀ zd, D.atKey kl zd = yd) :
    ∃ a b : Nat, a < n ∧ b < n ∧ a ≠ b ∧ y1 = a ∧ y2 = b ∧ Hid (kl = pk a b) ∧ cv = (lead a b : Nat) := by
  obtain ⟨a, b, ha, hb, hab, e⟩ := h.keys kl (Maps.has_true_of_atKey hat)
  have h1 := keyOf_pair a b (wf_small a n ha hn) (wf_small b n hb hn)
  rw [← e] at h1
  have h2 := keyed.inj hkl h1
  simp [pairV] at h2
  obtain ⟨q, hq1, hq2, _⟩ := plainElem_int_inv Try.underlying3 hy
  simp at hq1 hq2
  have h3 := h.at_ a b ha hb hab
  rw [← e, hat, hq2.1] at h3
  simp at h3
  exact ⟨a, b, ha, hb, hab, h2.1, h2.2, e, by omega⟩

theorem may_false {n a b : Nat} {st : Drf.St} (ha : a < n) (hab : a ≠ b) (h : 2 ≤ st.lead a b) : st.may n b = false := by
  cases e : st.may n b with
  | false => rfl
  | true => have := (Drf.may_iff st n b).1 e a ha hab; omega

theorem may_true {n x : Nat} {st : Drf.St} {left : Lit → Bool} (h : Seen n x st.lead left) (hl : ∀ kl, left kl = false) : st.may n x = true :=
  (Drf.may_iff st n x).2 fun a ha hne => by
    by_cases e : 2 ≤ st.lead a x
    · have := h a ha hne e; rw [hl] at this; cases this
    · omega

theorem key_pk {n a b : Nat} (hn : n ≤ 16) (ha : a < n) (hb : b < n) : WideAt.IsKeyLit (pk a b) :=
  keyed.key (keyOf_pair a b (wf_small a n ha hn) (wf_small b n hb hn))

theorem pk_ne {n a b c d : Nat} (hn : n ≤ 16) (ha : a < n) (hb : b < n) (hc : c < n) (hd : d < n) (h : ¬ (a = c ∧ b = d)) : pk a b ≠ pk c d := by
  intro e
  have := pk_inj (wf_small a n ha hn) (wf_small b n hb hn) (wf_small c n hc hn) (wf_small d n hd hn) e
  omega

theorem seen_low {n x a : Nat} {lead : Nat → Nat → Nat} {left : Lit → Bool} {kl : Lit} (hn : n ≤ 16) (h : Seen n x lead left) (hx : x < n) (ha : a < n) (e : kl = pk a x) (h2 : ¬ 2 ≤ lead a x) :
    Seen n x lead (fun z => left z && !z.sameKey kl) := by
  intro a' ha' hne hl
  subst e
  have h3 : a' ≠ a := fun e => by subst e; exact h2 hl
  simp [h a' ha' hne hl, Maps.sameKey_ne (pk_ne hn ha' hx ha hx (fun e => h3 e.1))]

theorem seen_other {n x a b : Nat} {lead : Nat → Nat → Nat} {left : Lit → Bool} {kl : Lit} (hn : n ≤ 16) (h : Seen n x lead left) (hx : x < n) (ha : a < n) (hb : b < n) (e : kl = pk a b) (hbx : ¬ b = x) :
    Seen n x lead (fun z => left z && !z.sameKey kl) := by
  intro a' ha' hne hl
  subst e
  simp [h a' ha' hne hl, Maps.sameKey_ne (pk_ne hn ha' hx ha hb (fun e => hbx e.2.symm))]

set_option maxHeartbeats 1000000 in
theorem may_yes {w : World} {c s m n k : Nat} {st : Drf.St} (h : Clk w c s m n k st) (x : Nat) (h1 : x < n) (hn : n ≤ 16) :
    Calls Try.prog 33 #[.pointer (some ⟨c, 0, none⟩), .int .i64 x] w fun e w' => e = .returned (.bool (st.may n x)) ∧ Kept [] w w' := by
  have c0 := h.cell0
  have c1 := h.cell1
  have hc := has_yes h x (by omega) (by omega)
  obtain ⟨_, _, D, hown, hrep⟩ := h
  go_enter Try.func33, Try.ntmps33
  go_wp2_with fail
  refine hc.mono ?_
  rintro e w' ⟨rfl, rfl⟩
  clear hc
  go_wp2_with (first
    | (at_range; refine wpList_range_own _ rfl _ 62 rfl 67 3 keyed Try.underlying62 _ m k _ rfl hown ?_; intro w0 hrg0 hg0 hs0)
    | go_in)
  go_frame
  go_loopw [5, 6] (fun _ _ wr => ∃ (left : Lit → Bool) (cnt : Nat), wr.ranges Try.prog 67 (plainElem Try.prog 3) m w.heap.size k D left cnt ∧ Hid (Seen n x st.lead left) ∧ Kept [] w wr)
    (fun _ _ wr => wr.rangeLeft m w.heap.size)
  case atStart => exact ⟨_, _, hrg0, seen_start hrep h1, (Kept.refl _ _).grown hg0 (fun _ e => by cases e)⟩
  case round =>
    obtain ⟨left, cnt, hrg, HS, hkept⟩ := hrel
    go_wp2_with (first
      | (at_next; refine wpList_next_ranges _ rfl _ rfl 67 keyed (plainElem Try.prog 3) (fun x : Int × Int => pairV x.1 x.2) (fun c : Int => .int .i64 c) (fun _ _ h => let ⟨x, h1, _⟩ := keyOf_inv _ _ h; ⟨x, h1⟩) elem_inv m w.heap.size k _ _ _ rfl hrg ?_ ?_)
      | go_in)
    · intro _ hl0
      have ht : Hid (st.may n x = true) := may_true HS.out hl0
      go_wp2
      go_ret
      exact ⟨ret_bool ht.out.symm, hkept⟩
    · intro y1 y2 cv kl yd ys w1 cnt1 hkl hlx hy hat hrg1 hlt hg1 hs1 hen
      obtain ⟨a, b, ha, hb, hab, rfl, rfl, HK, rfl⟩ := entry_is hrep hn hkl hy hat
      clear hy hat hkl
      have hk1 : Kept [] w w1 := hkept.grown hg1 (fun j e => by cases e; exact Or.inr (Nat.le_refl _))
      by_cases hbx : b = x
      · subst hbx
        by_cases h2 : 2 ≤ st.lead a b
        · have ht : Hid (st.may n b = false) := may_false ha hab h2
          go_wp2
          go_ret
          exact ⟨ret_bool ht.out.symm, (hk1.alloc _)⟩
        · have HS2 : Hid (Seen n b st.lead (fun z => left z && !z.sameKey kl)) := seen_low hn HS.out hb ha HK.out h2
          go_wp2
          go_roundw
          case rel => exact ⟨_, cnt1, hrg1.alloc _, HS2, hk1.alloc _⟩
          case measure => rw [(hrg1.alloc _).left_eq, hrg.left_eq]; exact hlt
      · have hne : ((b : Int) == (x : Int)) = false := by simp; omega
        have HS2 : Hid (Seen n x st.lead (fun z => left z && !z.sameKey kl)) := seen_other hn HS.out h1 ha hb HK.out hbx
        clear hbx
        go_wp2
        go_roundw
        case rel => exact ⟨_, cnt1, hrg1.alloc _, HS2, hk1.alloc _⟩
        case measure => rw [(hrg1.alloc _).left_eq, hrg.left_eq]; exact hlt
end Go.Proofs.Yteihlfeifnnpaaa
