/- The walk of DriftGoes. -/
import Derived.Test.YtgdcolkggdpmjaaNew
namespace Go.Proofs.Ytgdcolkggdpmjaa
open Go.RowKit Go.Maps Go.WideMaps Go.WideElems
set_option maxRecDepth 100000

/-- what the walk is told of a slice of ints that came in -/
def IsRow (w : World) (a : Option Addr) (len cap : Nat) (zs : List Int) : Prop :=
  (a = none ∧ len = 0) ∨
  ∃ x, a = some x ∧ len ≤ cap ∧ zs.length = cap ∧ cap * 8 ≤ 140737488351232 ∧ (∀ i, i < zs.length → w.cell? (x.add i) = some (.int .i64 (zs.getD i 0))) ∧ ∀ n ∈ zs, (Lit.int .i64 n).wf = true

/-- a slice of ints that is only read, as the loops meet it: an address (whatever it is where there is nothing), and the cells -/
structure Ints (w : World) (a : Option Addr) (len : Nat) (z : Nat → Int) : Prop where
  reach : len * 8 ≤ 140737488351232
  cell : ∀ i, i < len → ∃ b o, a = some ⟨b, o, none⟩ ∧ b < w.heap.size ∧ w.cell? ⟨b, o + i, none⟩ = some (.int .i64 (z i)) ∧ (Lit.int .i64 (z i)).wf = true

theorem IsRow.ints {w : World} {a : Option Addr} {len cap : Nat} {zs : List Int} (h : IsRow w a len cap zs) : Ints w a len (fun i => zs.getD i 0) := by
  rcases h with ⟨_, rfl⟩ | ⟨⟨b, o, s⟩, rfl, hl, hz, hr, hc, hw⟩
  · exact ⟨by omega, fun i hi => by omega⟩
  · refine ⟨by omega, fun i hi => ?_⟩
    have h1 := hc i (by omega)
    have h2 : s = none ∧ w.cell? ⟨b, o + i, none⟩ = some (.int .i64 (zs.getD i 0)) := by
      have h0 := hc 0 (by omega)
      have hs : s = none := by
        cases s with
        | none => rfl
        | some v =>
          have hn : w.cell? ⟨b, o, some v⟩ = none := by unfold World.cell?; split <;> simp
          have h3 : w.cell? ⟨b, o, some v⟩ = some (.int .i64 (zs.getD 0 0)) := h0
          rw [hn] at h3; cases h3
      subst hs
      refine ⟨rfl, ?_⟩
      by_cases e : i = 0
      · subst e; exact h1
      · simpa [Addr.add, e] using h1
    obtain ⟨rfl, h2⟩ := h2
    have hm : zs.getD i 0 ∈ zs := by
      rw [List.getD_eq_getElem?_getD, List.getElem?_eq_getElem (by omega)]; exact List.getElem_mem _
    refine ⟨b, o, rfl, ?_, h2, hw _ hm⟩
    apply Classical.byContradiction
    intro hb
    have : w.heap[b]? = none := Array.getElem?_eq_none (by omega)
    simp [World.cell?, this] at h2

theorem Ints.kept {w w' : World} {a : Option Addr} {len : Nat} {z : Nat → Int} {bs : List Nat} {B : Nat} (h : Ints w a len z) (hk : Kept bs w w') (hB : w.heap.size ≤ B) (hb : ∀ b, b ∈ bs → B ≤ b) : Ints w' a len z := by
  refine ⟨h.reach, fun i hi => ?_⟩
  obtain ⟨b, o, rfl, hlt, hc, hw⟩ := h.cell i hi
  refine ⟨b, o, rfl, Nat.lt_of_lt_of_le hlt hk.size, ?_, hw⟩
  rw [World.cell?_of_block (hk.block b hlt (fun e => by have := hb b e; omega))]
  exact hc

theorem Ints.at {w w0 wr : World} {a : Option Addr} {len : Nat} {z : Nat → Int} {bs : List Nat} (h : Ints w a len z) (h0 : Kept [] w w0) (h1 : Kept bs w0 wr) (hb : ∀ b, b ∈ bs → w.heap.size ≤ b) (k : Nat) (hk : k < len) :
    ∃ b o, a = some ⟨b, o, none⟩ ∧ wr.cell? ⟨b, o + k, none⟩ = some (.int .i64 (z k)) := by
  obtain ⟨b, o, rfl, hlt, hc, _⟩ := h.cell k hk
  refine ⟨b, o, rfl, ?_⟩
  rw [World.cell?_of_block (h1.block b (Nat.lt_of_lt_of_le hlt h0.size) (fun e => by have := hb b e; omega)), World.cell?_of_block (h0.block b hlt (by simp))]
  exact hc

/-- a raw number made to name a clock -/
def clockOf (n : Nat) (x : Int) : Nat := ((x % 18446744073709551616) % n).toNat

theorem new_ex (n : Nat) (h0 : 1 ≤ n) (h1 : n ≤ 16) (w : World) :
    Calls Try.prog 12 #[.int .i64 n] w fun e w' => ∃ c s m, e = .returned (.tuple #[.pointer (some ⟨c, 0, none⟩), .int .i64 0]) ∧ Kept [] w w' ∧ Clk w' c s m n 0 Drf.St.init ∧ Hid (∀ b, b ∈ [s, m] → w.heap.size ≤ b) :=
  (new_ok n h0 h1 w).mono fun e w' ⟨he, hk, hc⟩ => ⟨_, _, _, he, hk, hc, by intro b hb; simp at hb; omega⟩

theorem u64_wrap (x : Int) : IntKind.u64.wrap x = x % 18446744073709551616 := by simp [IntKind.wrap, IntKind.bits, IntKind.signed]

theorem clockOf_lt (n : Nat) (x : Int) (h : 0 < n) : clockOf n x < n := by
  unfold clockOf
  have h1 := Int.emod_nonneg (x % 18446744073709551616) (show (n : Int) ≠ 0 by omega)
  have h2 := Int.emod_lt_of_pos (x % 18446744073709551616) (show (0 : Int) < n by omega)
  omega

theorem clockOf_eq (n : Nat) (x : Int) (h : 0 < n) : (IntKind.u64.wrap x).tmod n = (clockOf n x : Int) := by
  have h0 : 0 ≤ IntKind.u64.wrap x := by rw [u64_wrap]; exact Int.emod_nonneg _ (by decide)
  rw [Int.tmod_eq_emod_of_nonneg h0, u64_wrap]
  unfold clockOf
  have h1 := Int.emod_nonneg (x % 18446744073709551616) (show (n : Int) ≠ 0 by omega)
  omega

theorem u64_small (n : Nat) (h : n ≤ 100) : IntKind.u64.wrap (n : Int) = n := by rw [u64_wrap]; omega
theorem wrap_small (n : Nat) (h : n ≤ 100) : wrap64 (n : Int) = n := IntWalk.wrap64_in _ (by omega)

set_option maxHeartbeats 1000000 in
theorem goes_core (x : Int) (a : Option Addr) (len cap : Nat) (z : Nat → Int) (w : World) (hl : Ints w a len z) (n : Nat) (hn : 1 ≤ n) (hn16 : n ≤ 16)
    (hx : wrap64 (1 + wrap64 ((IntKind.u64.wrap x).tmod 16)) = (n : Int)) :
    Calls Try.prog 4 #[.int .i64 x, .slice a len cap] w fun e w' => e = .returned (.bool true) ∧ Below w.heap.size w w' := by
  have hreach := hl.reach
  have hu := u64_small n (by omega)
  go_enter Try.func4, Try.ntmps4
  go_wp2_with fail
  refine (new_ex n hn hn16 _).mono ?_
  rintro e w0 ⟨c, s, m, rfl, hk0, hc0, HB⟩
  go_wp2_with fail
  go_loopw [8, 9, 10, 25, 38] (fun _ _ _ i _ wr => ∃ k : Nat, k ≤ len ∧ i = .int .i64 k ∧ Clk wr c s m n (40 * k) (Drf.run n Drf.St.init (Drf.asked (fun i => clockOf n (z i)) k)) ∧ Kept [s, m] w0 wr) (fun _ _ _ i _ _ => len - (intOf i).toNat)
  case atStart => exact ⟨0, by omega, rfl, hc0, Kept.refl _ _⟩
  case round =>
    obtain ⟨k, hk, rfl, hclk, hkept⟩ := hrel
    have hfine := Lib.hid (Drf.fine_run n (fun i => clockOf n (z i)) k)
    by_cases hlt : k < len
    · obtain ⟨b, o, rfl, hcell⟩ := hl.at hk0 hkept HB.out k hlt
      have hq := clockOf_lt n (z k) hn
      have hzq := clockOf_eq n (z k) hn
      have hzw := wrap_small (clockOf n (z k)) (by omega)
      go_wp2_with fail
      refine (tick_ask hclk (clockOf n (z k)) hq hn16 (by have := hfine.out.told (clockOf n (z k)); omega) hfine.out.low (by unfold maxLen; omega)).mono ?_
      rintro e w2 ⟨rfl, hk2, hc2⟩
      have hfine2 := Lib.hid (Drf.fine_run n (fun i => clockOf n (z i)) (k + 1))
      have HR := Lib.hid (Drf.run_asked n (fun i => clockOf n (z i)) k Drf.St.init)
      generalize (Drf.run n Drf.St.init (Drf.asked (fun i => clockOf n (z i)) k)).ask n (clockOf n (z k)) = st2 at hc2 HR
      go_wp2_with fail
      go_loopw [9, 10, 38] (fun y _ i wq => ∃ j : Nat, j ≤ n ∧ i = .int .i64 j ∧ y = .bool (Drf.anyTo st2 n j) ∧ Kept [] w2 wq) (fun _ _ i _ => n - (intOf i).toNat)
      case atStart => exact ⟨0, by omega, rfl, rfl, Kept.refl _ _⟩
      case round =>
        obtain ⟨j, hj, rfl, rfl, hkj⟩ := hrel
        have HA := Lib.hid (Drf.anyTo_succ st2 n j)
        by_cases hjn : j < n
        · cases hany : Drf.anyTo st2 n j with
          | true =>
            go_wp2
            go_roundw
            case rel => exact ⟨j + 1, by omega, by go_num, by rw [HA.out, hany]; rfl, hkj⟩
            case measure => simp [intOf]; omega
          | false =>
            have hm := may_yes (hc2.kept hkj) j hjn hn16
            go_wp2_with fail
            refine hm.mono ?_
            rintro e w3 ⟨rfl, hk3⟩
            go_wp2
            go_roundw
            case rel => exact ⟨j + 1, by omega, by go_num, by rw [HA.out, hany]; rfl, hkj.trans hk3⟩
            case measure => simp [intOf]; omega
        · obtain rfl : j = n := by omega
          have hany : Drf.anyTo st2 j j = true := Drf.anyTo_all hn (by have := hfine2.out; rw [HR.out] at this; exact this)
          go_wp2
          go_roundw
          case rel => exact ⟨k + 1, by omega, by go_num, by rw [HR.out]; exact (hc2.kept hkj).mono (by omega), hkept.trans (hk2.trans (hkj.mono (by simp)))⟩
          case measure => simp [intOf]; omega
    · obtain rfl : k = len := by omega
      have hm := may_yes hclk 0 (by omega) hn16
      go_wp2_with fail
      refine hm.mono ?_
      rintro e w3 ⟨rfl, hk3⟩
      have hbel : Below w.heap.size w w3 := (hk0.below (Nat.le_refl _) (by simp)).trans ((hkept.trans (hk3.mono (by simp))).below hk0.size HB.out)
      by_cases hz0 : k = 0
      · subst hz0
        have hmi : (Drf.run n Drf.St.init (Drf.asked (fun i => clockOf n (z i)) 0)).may n 0 = true := Drf.may_init n 0
        go_wp2
        go_ret
        exact ⟨rfl, hbel⟩
      · have hpos : 0 < k := by omega
        clear hz0
        cases hmi : (Drf.run n Drf.St.init (Drf.asked (fun i => clockOf n (z i)) k)).may n 0 with
        | true =>
          go_wp2
          go_ret
          exact ⟨rfl, hbel⟩
        | false =>
          go_wp2
          go_ret
          exact ⟨rfl, hbel⟩

theorem nodes16 (x : Int) : ∃ n : Nat, 1 ≤ n ∧ n ≤ 16 ∧ wrap64 (1 + wrap64 ((IntKind.u64.wrap x).tmod 16)) = (n : Int) := by
  have h := clockOf_eq 16 x (by decide)
  have hl := clockOf_lt 16 x (by decide)
  have h' : (IntKind.u64.wrap x).tmod 16 = (clockOf 16 x : Int) := h
  refine ⟨1 + clockOf 16 x, by omega, by omega, ?_⟩
  rw [h', wrap_small _ (by omega)]
  have e : (1 : Int) + (clockOf 16 x : Int) = ((1 + clockOf 16 x : Nat) : Int) := by omega
  rw [e, wrap_small _ (by omega)]

theorem goes_law (x : Int) (a : Option Addr) (len cap : Nat) (zs : List Int) (w : World) (_ : (Lit.int .i64 x).wf = true) (h : IsRow w a len cap zs) :
    Calls Try.prog 4 #[.int .i64 x, .slice a len cap] w fun e w' => e = .returned (.bool true) ∧ Below w.heap.size w w' := by
  obtain ⟨n, hn, hn16, hx⟩ := nodes16 x
  exact goes_core x a len cap _ w h.ints n hn hn16 hx
end Go.Proofs.Ytgdcolkggdpmjaa
