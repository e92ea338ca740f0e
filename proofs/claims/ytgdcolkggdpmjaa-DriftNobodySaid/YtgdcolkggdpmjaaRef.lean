/- The reference's clocks as an object in memory, and the walks of its 'there', 'Now', 'May', 'Tick'. -/
import Derived.Test.YtgdcolkggdpmjaaEnough
namespace Go.Proofs.Ytgdcolkggdpmjaa
open Go.RowKit Go.Maps Go.WideMaps Go.WideElems
set_option maxRecDepth 100000

/-- the reference's clocks: the struct at x, the counts at ts, the table at ld, its rows; all from block B on -/
structure RClk (w : World) (B x ts ld n : Nat) (row : Nat → Nat) (st : Drf.St) : Prop where
  box : ∃ cap, w.heap[x]? = some (.cells #[.slice (some ⟨ts, 0, none⟩) n n, .slice (some ⟨ld, 0, none⟩) n cap] 47 (0, 0))
  told : w.heap[ts]? = some (.cells (cellsTo n st.t) 3 (0, 0))
  top : ∃ cur : Array Value, w.heap[ld]? = some (.cells cur 24 (0, 0)) ∧ ∀ a, a < n → cur[a]? = some (.slice (some ⟨row a, 0, none⟩) n n)
  rows : ∀ a, a < n → w.heap[row a]? = some (.cells (cellsTo n (st.lead a)) 3 (0, 0))
  inj : ∀ a b, a < n → b < n → row a = row b → a = b
  off : ∀ a, a < n → row a ≠ ts
  lo : B ≤ x ∧ B ≤ ts ∧ B ≤ ld ∧ ∀ a, a < n → B ≤ row a

/-- the blocks that a tick of the reference writes -/
def RB (n ts : Nat) (row : Nat → Nat) : List Nat := ts :: (List.range n).map row

theorem RB_row {n ts : Nat} {row : Nat → Nat} {a : Nat} (h : a < n) : row a ∈ RB n ts row := by
  unfold RB
  exact List.mem_cons_of_mem _ (List.mem_map.2 ⟨a, List.mem_range.2 h, rfl⟩)

theorem RClk.kept {w w' : World} {B x ts ld n : Nat} {row : Nat → Nat} {st : Drf.St} {bs : List Nat} (h : RClk w B x ts ld n row st) (hk : Kept bs w w') (hb : ∀ b, b ∈ bs → b < B) : RClk w' B x ts ld n row st := by
  obtain ⟨⟨cap, h1⟩, h2, ⟨cur, h3, h4⟩, h5, h6, h7, l1, l2, l3, l4⟩ := h
  have no : ∀ i, B ≤ i → i ∉ bs := fun i hi e => by have := hb i e; omega
  exact ⟨⟨cap, hk.there h1 (no _ l1)⟩, hk.there h2 (no _ l2), ⟨cur, hk.there h3 (no _ l3), h4⟩, fun a ha => hk.there (h5 a ha) (no _ (l4 a ha)), h6, h7, l1, l2, l3, l4⟩

theorem Clk.kept2 {w w' : World} {c s m n k : Nat} {st : Drf.St} {bs : List Nat} (h : Clk w c s m n k st) (hk : Kept bs w w') (hn : c ∉ bs ∧ s ∉ bs ∧ m ∉ bs) : Clk w' c s m n k st := by
  obtain ⟨h1, h2, D, ⟨es, clock, hb, F, hs, hD⟩, hr⟩ := h
  exact ⟨hk.there h1 hn.1, hk.there h2 hn.2.1, D, ⟨es, clock, hk.there hb hn.2.2, F, hs, hD⟩, hr⟩

theorem RClk.cell0 {w : World} {B x ts ld n : Nat} {row : Nat → Nat} {st : Drf.St} (h : RClk w B x ts ld n row st) : w.cell? ⟨x, 0, none⟩ = some (.slice (some ⟨ts, 0, none⟩) n n) := by
  obtain ⟨cap, h1⟩ := h.box
  simp [World.cell?, h1]
theorem RClk.cell1 {w : World} {B x ts ld n : Nat} {row : Nat → Nat} {st : Drf.St} (h : RClk w B x ts ld n row st) : ∃ cap, w.cell? ⟨x, 1, none⟩ = some (.slice (some ⟨ld, 0, none⟩) n cap) := by
  obtain ⟨cap, h1⟩ := h.box
  exact ⟨cap, by simp [World.cell?, h1]⟩
theorem RClk.now {w : World} {B x ts ld n : Nat} {row : Nat → Nat} {st : Drf.St} (h : RClk w B x ts ld n row st) (i : Nat) (hi : i < n) : w.cell? ⟨ts, i, none⟩ = some (.int .i64 (st.t i : Nat)) :=
  cells_at h.told i hi
theorem RClk.topc {w : World} {B x ts ld n : Nat} {row : Nat → Nat} {st : Drf.St} (h : RClk w B x ts ld n row st) (a : Nat) (ha : a < n) : w.cell? ⟨ld, a, none⟩ = some (.slice (some ⟨row a, 0, none⟩) n n) := by
  obtain ⟨cur, h1, h2⟩ := h.top
  simp [World.cell?, h1, h2 a ha]
theorem RClk.led {w : World} {B x ts ld n : Nat} {row : Nat → Nat} {st : Drf.St} (h : RClk w B x ts ld n row st) (a b : Nat) (ha : a < n) (hb : b < n) : w.cell? ⟨row a, b, none⟩ = some (.int .i64 (st.lead a b : Nat)) :=
  cells_at (h.rows a ha) b hb

set_option maxHeartbeats 400000 in
theorem there_any {w : World} {B x ts ld n : Nat} {row : Nat → Nat} {st : Drf.St} (h : RClk w B x ts ld n row st) (y : Int) :
    Calls Try.prog 22 #[.pointer (some ⟨x, 0, none⟩), .int .i64 y] w fun e w' => e = .returned (.bool (hasI n y)) ∧ w = w' := by
  have c0 := h.cell0
  clear h
  go_enter Try.func22, Try.ntmps22
  go_wp2
  · go_ret
    rename_i h0
    exact ⟨ret_bool (by simp [hasI, h0]), rfl⟩
  · go_ret
    rename_i h0
    exact ⟨ret_bool (by simp [hasI]; omega), rfl⟩

theorem there_yes {w : World} {B x ts ld n : Nat} {row : Nat → Nat} {st : Drf.St} (h : RClk w B x ts ld n row st) (y : Int) (h0 : 0 ≤ y) (h1 : y < n) :
    Calls Try.prog 22 #[.pointer (some ⟨x, 0, none⟩), .int .i64 y] w fun e w' => e = .returned (.bool true) ∧ w = w' := by
  have e : hasI n y = true := by simp [hasI, h0, h1]
  rw [← e]; exact there_any h y
theorem there_no {w : World} {B x ts ld n : Nat} {row : Nat → Nat} {st : Drf.St} (h : RClk w B x ts ld n row st) (y : Int) (h0 : y < 0 ∨ (n : Int) ≤ y) :
    Calls Try.prog 22 #[.pointer (some ⟨x, 0, none⟩), .int .i64 y] w fun e w' => e = .returned (.bool false) ∧ w = w' := by
  have e : hasI n y = false := by simp [hasI]; omega
  rw [← e]; exact there_any h y

set_option maxHeartbeats 400000 in
theorem rnow_yes {w : World} {B x ts ld n : Nat} {row : Nat → Nat} {st : Drf.St} (h : RClk w B x ts ld n row st) (y : Nat) (h1 : y < n) :
    Calls Try.prog 19 #[.pointer (some ⟨x, 0, none⟩), .int .i64 y] w fun e w' => e = .returned (.int .i64 (st.t y : Nat)) ∧ w = w' := by
  have c0 := h.cell0
  have ct := h.now y h1
  have hc := there_yes h y (by omega) (by omega)
  clear h
  go_enter Try.func19, Try.ntmps19
  go_wp2_with fail
  refine hc.mono ?_
  rintro e w' ⟨rfl, rfl⟩
  go_wp2
  go_ret
  exact ⟨rfl, rfl⟩

set_option maxHeartbeats 400000 in
theorem rnow_no {w : World} {B x ts ld n : Nat} {row : Nat → Nat} {st : Drf.St} (h : RClk w B x ts ld n row st) (y : Int) (h0 : y < 0 ∨ (n : Int) ≤ y) :
    Calls Try.prog 19 #[.pointer (some ⟨x, 0, none⟩), .int .i64 y] w fun e w' => e = .returned (.int .i64 0) ∧ w = w' := by
  have hc := there_no h y h0
  clear h h0
  go_enter Try.func19, Try.ntmps19
  go_wp2_with fail
  refine hc.mono ?_
  rintro e w' ⟨rfl, rfl⟩
  go_wp2
  go_ret
  exact ⟨rfl, rfl⟩

set_option maxHeartbeats 400000 in
theorem rmay_no {w : World} {B x ts ld n : Nat} {row : Nat → Nat} {st : Drf.St} (h : RClk w B x ts ld n row st) (y : Int) (h0 : y < 0 ∨ (n : Int) ≤ y) :
    Calls Try.prog 17 #[.pointer (some ⟨x, 0, none⟩), .int .i64 y] w fun e w' => e = .returned (.bool false) ∧ w = w' := by
  have hc := there_no h y h0
  clear h h0
  go_enter Try.func17, Try.ntmps17
  go_wp2_with fail
  refine hc.mono ?_
  rintro e w' ⟨rfl, rfl⟩
  go_wp2
  go_ret
  exact ⟨rfl, rfl⟩

set_option maxHeartbeats 1000000 in
theorem rmay_yes {w : World} {B x ts ld n : Nat} {row : Nat → Nat} {st : Drf.St} (h : RClk w B x ts ld n row st) (b : Nat) (hb : b < n) (hn : n ≤ 16) :
    Calls Try.prog 17 #[.pointer (some ⟨x, 0, none⟩), .int .i64 b] w fun e w' => e = .returned (.bool (st.may n b)) ∧ w = w' := by
  have c0 := h.cell0
  obtain ⟨cap, c1⟩ := h.cell1
  have hc := there_yes h b (by omega) (by omega)
  go_enter Try.func17, Try.ntmps17
  go_wp2_with fail
  refine hc.mono ?_
  rintro e w' ⟨rfl, rfl⟩
  clear hc
  go_wp2
  go_loop [5, 15] (fun _ i => ∃ k : Nat, k ≤ n ∧ i = .int .i64 k ∧ Hid (∀ a, a < k → a ≠ b → st.lead a b < 2)) (fun _ i => n - (intOf i).toNat)
  case atStart => exact ⟨0, by omega, rfl, fun a ha => by omega⟩
  case round =>
    obtain ⟨k, hk, rfl, HL⟩ := hrel
    by_cases hlt : k < n
    · by_cases hkb : k = b
      · subst hkb
        go_wp2
        go_round
        case rel => exact ⟨k + 1, by omega, by go_num, fun a ha hne => HL.out a (by omega) hne⟩
        case measure => simp [intOf]; omega
      · have hne : ((k : Int) != (b : Int)) = true := by simp; omega
        have t1 := h.topc k hlt
        have t2 := h.led k b hlt hb
        by_cases h2 : 2 ≤ st.lead k b
        · have hf : Hid (st.may n b = false) := may_false hlt hkb h2
          have h3 : (2 : Int) ≤ (st.lead k b : Int) := by omega
          clear hkb h2
          go_wp2
          go_ret
          exact ⟨ret_bool hf.out.symm, rfl⟩
        · have h3 : ¬ (2 : Int) ≤ (st.lead k b : Int) := by omega
          have HL2 : Hid (∀ a, a < k + 1 → a ≠ b → st.lead a b < 2) := fun a ha hne => by
            by_cases e : a = k
            · subst e; omega
            · exact HL.out a (by omega) hne
          clear hkb h2
          go_wp2
          go_round
          case rel => exact ⟨k + 1, by omega, by go_num, HL2⟩
          case measure => simp [intOf]; omega
    · obtain rfl : k = n := by omega
      have ht : Hid (st.may k b = true) := (Drf.may_iff st k b).2 fun a ha hne => HL.out a ha hne
      go_wp2
      go_ret
      exact ⟨ret_bool ht.out.symm, rfl⟩
end Go.Proofs.Ytgdcolkggdpmjaa
