/- The walk of LeaseOver (printed by gen_over.py). -/
import Derived.Test.YteihlfeifnnpaaaOverA
namespace Go.Proofs.Yteihlfeifnnpaaa
open Go.RowKit Go.Maps Go.WideMaps Go.WideElems
set_option maxRecDepth 100000

/-- what the walk is told of a slice of ints that came in -/
def IsRow (w : World) (a : Option Addr) (len cap : Nat) (zs : List Int) : Prop :=
  (a = none ∧ len = 0) ∨
  ∃ x, a = some x ∧ len ≤ cap ∧ zs.length = cap ∧ cap * 8 ≤ 140737488351232 ∧ (∀ i, i < zs.length → w.cell? (x.add i) = some (.int .i64 (zs.getD i 0))) ∧ ∀ n ∈ zs, (Lit.int .i64 n).wf = true

/-- a slice of ints that is only read, as the loops meet it: an address (whatever it is where there is nothing), and the cells -/
structure Ints (w : World) (a : Option Addr) (len : Nat) (z : Nat → Int) : Prop where
  reach : len * 8 ≤ 140737488351232
  cell : ∀ i, i < len → ∃ b o, a = some ⟨b, o, none⟩ ∧ b < w.heap.size ∧ w.cell? ⟨b, o + i, none⟩ = some (.int .i64 (z i)) ∧ (Lit.int .i64 (z i)).wf = true

theorem IsRow.ints {w : World} {a : Option Addr} {len cap : Nat} {zs : List Int} (h : IsRow w a len cap zs) : Ints w a len (fun i => zs.getD i 0) := by
  rcases h with ⟨_, rfl⟩ | ⟨⟨b, o, s⟩, rfl, hl, hz, hr, hc, hw⟩
  · exact ⟨by omega, fun i hi => by omega⟩
  · refine ⟨by omega, fun i hi => ?_⟩
    have h1 := hc i (by omega)
    have h2 : s = none ∧ w.cell? ⟨b, o + i, none⟩ = some (.int .i64 (zs.getD i 0)) := by
      have h0 := hc 0 (by omega)
      have hs : s = none := by
        cases s with
        | none => rfl
        | some v =>
          have hn : w.cell? ⟨b, o, some v⟩ = none := by unfold World.cell?; split <;> simp
          have h3 : w.cell? ⟨b, o, some v⟩ = some (.int .i64 (zs.getD 0 0)) := h0
          rw [hn] at h3; cases h3
      subst hs
      refine ⟨rfl, ?_⟩
      by_cases e : i = 0
      · subst e; exact h1
      · simpa [Addr.add, e] using h1
    obtain ⟨rfl, h2⟩ := h2
    have hm : zs.getD i 0 ∈ zs := by
      rw [List.getD_eq_getElem?_getD, List.getElem?_eq_getElem (by omega)]; exact List.getElem_mem _
    refine ⟨b, o, rfl, ?_, h2, hw _ hm⟩
    apply Classical.byContradiction
    intro hb
    have : w.heap[b]? = none := Array.getElem?_eq_none (by omega)
    simp [World.cell?, this] at h2

theorem Ints.kept {w w' : World} {a : Option Addr} {len : Nat} {z : Nat → Int} {bs : List Nat} {B : Nat} (h : Ints w a len z) (hk : Kept bs w w') (hB : w.heap.size ≤ B) (hb : ∀ b, b ∈ bs → B ≤ b) : Ints w' a len z := by
  refine ⟨h.reach, fun i hi => ?_⟩
  obtain ⟨b, o, rfl, hlt, hc, hw⟩ := h.cell i hi
  refine ⟨b, o, rfl, Nat.lt_of_lt_of_le hlt hk.size, ?_, hw⟩
  rw [World.cell?_of_block (hk.block b hlt (fun e => by have := hb b e; omega))]
  exact hc

theorem Ints.at {w w0 wr : World} {a : Option Addr} {len : Nat} {z : Nat → Int} {bs : List Nat} (h : Ints w a len z) (h0 : Kept [] w w0) (h1 : Kept bs w0 wr) (hb : ∀ b, b ∈ bs → w.heap.size ≤ b) (k : Nat) (hk : k < len) :
    ∃ b o, a = some ⟨b, o, none⟩ ∧ wr.cell? ⟨b, o + k, none⟩ = some (.int .i64 (z k)) := by
  obtain ⟨b, o, rfl, hlt, hc, _⟩ := h.cell k hk
  refine ⟨b, o, rfl, ?_⟩
  rw [World.cell?_of_block (h1.block b (Nat.lt_of_lt_of_le hlt h0.size) (fun e => by have := hb b e; omega)), World.cell?_of_block (h0.block b hlt (by simp))]
  exact hc

theorem Clk.there {w u : World} {bs : List Nat} {c s m n k : Nat} {st : Drf.St} (h : Clk w c s m n k st) (hk : Kept bs w u) (h1 : c ∉ bs) (h2 : s ∉ bs) (h3 : m ∉ bs) : Clk u c s m n k st := by
  obtain ⟨a1, a2, D, ⟨es, clock, hb, r⟩, hr⟩ := h
  exact ⟨hk.there a1 h1, hk.there a2 h2, D, ⟨es, clock, hk.there hb h3, r⟩, hr⟩

theorem Lst.there {w u : World} {bs : List Nat} {c m k : Nat} {v : Value} {D : DataW Unit} (h : Lst w c m k v D) (hk : Kept bs w u) (h1 : c ∉ bs) (h2 : m ∉ bs) : Lst u c m k v D := by
  obtain ⟨a1, es, clock, hb, r⟩ := h
  exact ⟨hk.there a1 h1, es, clock, hk.there hb h2, r⟩

/-- where the law's loop stands: no lease yet; a lease and a shard that waits; the shard told -/
def Stand (cl ml s m : Nat) (u t b : Value) (w : World) (st : Drf.St) : Prop :=
  (u = .int .i64 0 ∧ t = .bool false ∧ b = .bool false ∧ Lst w cl ml 0 (.slice none 0 0) (.map [])) ∨
  (∃ T0 T1 g cap : Nat, u = .int .i64 (timeI T0 + 40) ∧ t = .bool false ∧ b = .bool true ∧ Lst w cl ml 1 (.slice (some ⟨g, 0, none⟩) 1 cap) (oneD 1 1) ∧ Row1 w g cap 1 1 (timeI T1 + 83) ∧ Inv st T0 T1 ∧ g ∉ [s, m]) ∨
  (∃ (T0 g cap : Nat) (D : DataW Unit), u = .int .i64 (timeI T0 + 40) ∧ t = .bool true ∧ b = .bool true ∧ Lst w cl ml 1 (.slice (some ⟨g, 0, none⟩) 0 cap) D ∧ DEmpty D ∧ T0 + 41 ≤ st.t 0)

theorem new_ex (n : Nat) (h0 : 1 ≤ n) (h1 : n ≤ 16) (w : World) :
    Calls Try.prog 19 #[.int .i64 n] w fun e w' => ∃ c s m, e = .returned (.tuple #[.pointer (some ⟨c, 0, none⟩), .int .i64 0]) ∧ Kept [] w w' ∧ Clk w' c s m n 0 Drf.St.init ∧ Hid (w.heap.size ≤ s ∧ w.heap.size ≤ m ∧ s < w'.heap.size ∧ m < w'.heap.size ∧ c < w'.heap.size) :=
  (new_ok n h0 h1 w).mono fun e w' ⟨he, hk, hc⟩ => ⟨_, _, _, he, hk, hc, by
    obtain ⟨a1, a2, D, ho, _⟩ := hc
    exact ⟨by omega, by omega, (Array.getElem?_eq_some_iff.1 a2).1, ho.lt, (Array.getElem?_eq_some_iff.1 a1).1⟩⟩

theorem lnew_ex (w : World) : Calls Try.prog 12 #[] w fun e w' => ∃ cl ml, e = .returned (.pointer (some ⟨cl, 0, none⟩)) ∧ Kept [] w w' ∧ Lst w' cl ml 0 (.slice none 0 0) (.map []) ∧ Hid (w.heap.size ≤ cl ∧ w.heap.size ≤ ml) :=
  (lnew w).mono fun e w' ⟨he, hk, hb, hm⟩ => ⟨_, _, he, hk, ⟨hb, hm⟩, by constructor <;> omega⟩

set_option maxHeartbeats 400000 in
theorem holds_00 (w : World) : Calls Try.prog 3 #[.int .i64 0, .int .i64 0] w fun e w' => e = .returned (.bool true) ∧ Kept [] w w' := by
  go_enter Try.func3, Try.ntmps3
  go_wp2
  go_ret
  exact ⟨rfl, by repeat (first | exact Kept.refl _ _ | apply Kept.drew | apply Kept.alloc)⟩

set_option maxHeartbeats 4000000 in
theorem over_core (a : Option Addr) (len cap : Nat) (z : Nat → Int) (w : World) (hl : Ints w a len z) :
    Calls Try.prog 7 #[.slice a len cap] w fun e w' => e = .returned (.bool true) ∧ Below w.heap.size w w' := by
  have hreach := hl.reach
  go_enter Try.func7, Try.ntmps7
  go_wp2_with fail
  refine (new_ex 2 (by decide) (by decide) _).mono ?_
  rintro e wn ⟨c, s, m, rfl, hkn, hcn, HN⟩
  go_wp2_with fail
  refine (lnew_ex _).mono ?_
  rintro e w0 ⟨cl, ml, rfl, hkl, hl0, HL⟩
  have hk0 : Kept [] w w0 := hkn.trans hkl
  have hc0 := hcn.kept hkl
  have HB : Hid (∀ b, b ∈ [s, m, cl, ml] → w.heap.size ≤ b) := by
    have h1 := HN.out; have h2 := HL.out; have h3 := hkn.size
    intro b hb; simp at hb; omega
  have HC : Hid (c ∉ [cl, ml] ∧ s ∉ [cl, ml] ∧ m ∉ [cl, ml] ∧ cl ∉ [s, m] ∧ ml ∉ [s, m] ∧ s < w0.heap.size ∧ m < w0.heap.size) := by
    have h1 := HN.out; have h2 := HL.out; have h3 := hkl.size
    refine ⟨?_, ?_, ?_, ?_, ?_, ?_, ?_⟩ <;> (try simp) <;> omega
  clear HN HL hkn hcn hkl
  go_wp2_with fail
  go_loopw [6, 7, 8, 10, 20] (fun u t b _ i wr => ∃ (k : Nat) (st : Drf.St), k ≤ len ∧ i = .int .i64 k ∧ Clk wr c s m 2 (40 * k) st ∧ Hid (Drf.Fine 2 k st) ∧ Kept [s, m, cl, ml] w0 wr ∧ Hid (Stand cl ml s m u t b wr st)) (fun _ _ _ _ i _ => len - (intOf i).toNat)
  case atStart => exact ⟨0, _, by omega, rfl, hc0, Drf.fine_init 2, Kept.refl _ _, Or.inl ⟨rfl, rfl, rfl, hl0⟩⟩
  case round =>
    obtain ⟨k, st, hk, rfl, hclk, HF, hkept, HS⟩ := hrel
    by_cases hlt : k < len
    · obtain ⟨b, o, rfl, hcell⟩ := hl.at hk0 hkept HB.out k hlt
      obtain ⟨N, hN0, hN1, hN⟩ := modTo (z k) 3 (by decide) (by decide)
      rcases HS.out with ⟨rfl, rfl, rfl, hA⟩ | ⟨T0, T1, g, cp, rfl, rfl, rfl, hA, hR, hI, hg⟩ | ⟨T0, g, cp, D, rfl, rfl, rfl, hA, hD, hT⟩
      · have HA := Lib.hid hA
        clear hA HS
        rcases (show N = 0 ∨ N = 1 ∨ N = 2 by omega) with rfl | rfl | rfl
        · go_wp2_with fail
          refine (tick_ask hclk 0 (by decide) (by decide) (by have := HF.out.told 0; omega) HF.out.low (by unfold maxLen; omega)).mono ?_
          rintro e w2 ⟨rfl, hk2, hc2⟩
          have HF2 : Hid (Drf.Fine 2 (k + 1) (st.ask 2 0)) := Drf.fine_ask HF.out 0
          go_wp2
          go_roundw
          case rel => exact ⟨k + 1, _, by omega, by go_num, hc2.mono (by omega), HF2, hkept.trans (hk2.mono (by simp)), Or.inl ⟨rfl, rfl, rfl, HA.out.there hk2 HC.out.2.2.2.1 HC.out.2.2.2.2.1⟩⟩
          case measure => simp [intOf]; omega
        · go_wp2_with fail
          refine (tick_ask hclk 1 (by decide) (by decide) (by have := HF.out.told 1; omega) HF.out.low (by unfold maxLen; omega)).mono ?_
          rintro e w2 ⟨rfl, hk2, hc2⟩
          have HF2 : Hid (Drf.Fine 2 (k + 1) (st.ask 2 1)) := Drf.fine_ask HF.out 1
          go_wp2
          go_roundw
          case rel => exact ⟨k + 1, _, by omega, by go_num, hc2.mono (by omega), HF2, hkept.trans (hk2.mono (by simp)), Or.inl ⟨rfl, rfl, rfl, HA.out.there hk2 HC.out.2.2.2.1 HC.out.2.2.2.2.1⟩⟩
          case measure => simp [intOf]; omega
        · go_wp2_with fail
          refine (now_yes hclk 0 (by decide)).mono ?_
          rintro e w2 ⟨rfl, rfl⟩
          go_wp2_with fail
          refine (until_any _ _).mono ?_
          rintro e w2 ⟨rfl, rfl⟩
          go_wp2_with fail
          refine (now_yes hclk 1 (by decide)).mono ?_
          rintro e w2 ⟨rfl, rfl⟩
          go_wp2_with fail
          refine (retire_new 1 1 _ (by decide) (by decide) (by decide) HA.out).mono ?_
          rintro e w2 ⟨g, cp, rfl, hk2, hA2, hg2, hR2⟩
          have HG : Hid (g ∉ [s, m]) := by
            have h1 := HC.out.2.2.2.2.2
            have h2 := hkept.size
            intro hmem
            rcases List.mem_cons.1 hmem with e | e
            · omega
            · have := List.mem_singleton.1 e; omega
          go_wp2
          go_roundw
          case rel => exact ⟨k + 1, st, by omega, by go_num, (hclk.there hk2 HC.out.1 HC.out.2.1 HC.out.2.2.1).mono (by omega), HF.out.mono (by omega), hkept.trans (hk2.mono (by simp)), Or.inr (Or.inl ⟨_, _, g, cp, rfl, rfl, rfl, hA2, hR2, inv_begin st, HG.out⟩)⟩
          case measure => simp [intOf]; omega
      · have HA := Lib.hid hA
        have HR := Lib.hid hR
        have HI := Lib.hid hI
        have HG := Lib.hid hg
        clear hA hR hI hg HS
        rcases (show N = 0 ∨ N = 1 ∨ N = 2 by omega) with rfl | rfl | rfl
        · go_wp2_with fail
          refine (tick_ask hclk 0 (by decide) (by decide) (by have := HF.out.told 0; omega) HF.out.low (by unfold maxLen; omega)).mono ?_
          rintro e w2 ⟨rfl, hk2, hc2⟩
          have HF2 : Hid (Drf.Fine 2 (k + 1) (st.ask 2 0)) := Drf.fine_ask HF.out 0
          have hA2 := HA.out.there hk2 HC.out.2.2.2.1 HC.out.2.2.2.2.1
          have hR2 := HR.out.kept hk2 HG.out
          have HI2 : Hid (Inv (st.ask 2 0) T0 T1) := inv_ask HI.out 0 (by decide)
          have HK2 : Hid (Kept [s, m, cl, ml] w0 w2) := hkept.trans (hk2.mono (by simp))
          clear hk2
          generalize st.ask 2 0 = su at hc2 HF2 HI2
          go_wp2_with fail
          refine (now_yes hc2 1 (by decide)).mono ?_
          rintro e w3 ⟨rfl, rfl⟩
          by_cases hdue : timeI (T1 : Int) + 83 ≤ timeI (su.t 1 : Nat)
          · have HT : Hid (T0 + 41 ≤ su.t 0) := inv_told HI2.out HF2.out.low hdue
            go_wp2_with fail
            refine (due_yes _ (by decide) (by decide) hA2 hR2 hdue).mono ?_
            rintro e w3 ⟨g6, cap6, rfl, hk3, _, D, h6, hD⟩
            have hc3 := hc2.there hk3 HC.out.1 HC.out.2.1 HC.out.2.2.1
            go_wp2_with fail
            refine (now_yes hc3 0 (by decide)).mono ?_
            rintro e w4 ⟨rfl, rfl⟩
            go_wp2_with fail
            refine (valid_no _ _ (Go.Proofs.Yteihlfeifnnpaaa.over HT.out) _).mono ?_
            rintro e w4 ⟨rfl, rfl⟩
            go_wp2
            go_roundw
            case rel => exact ⟨k + 1, _, by omega, by go_num, hc3.mono (by omega), HF2, HK2.out.trans (hk3.mono (by simp)), Or.inr (Or.inr ⟨T0, g, cp, D, rfl, rfl, rfl, h6, hD, HT.out⟩)⟩
            case measure => simp [intOf]; omega
          · go_wp2_with fail
            refine (due_not ((su.t 1 : Nat) : Int) hA2 hR2 (by omega)).mono ?_
            rintro e w3 ⟨rfl, hk3⟩
            go_wp2
            go_roundw
            case rel => exact ⟨k + 1, _, by omega, by go_num, (hc2.kept hk3).mono (by omega), HF2, HK2.out.trans (hk3.mono (by simp)), Or.inr (Or.inl ⟨T0, T1, g, cp, rfl, rfl, rfl, hA2.kept hk3, hR2.kept hk3 (by simp), HI2.out, HG.out⟩)⟩
            case measure => simp [intOf]; omega
        · go_wp2_with fail
          refine (tick_ask hclk 1 (by decide) (by decide) (by have := HF.out.told 1; omega) HF.out.low (by unfold maxLen; omega)).mono ?_
          rintro e w2 ⟨rfl, hk2, hc2⟩
          have HF2 : Hid (Drf.Fine 2 (k + 1) (st.ask 2 1)) := Drf.fine_ask HF.out 1
          have hA2 := HA.out.there hk2 HC.out.2.2.2.1 HC.out.2.2.2.2.1
          have hR2 := HR.out.kept hk2 HG.out
          have HI2 : Hid (Inv (st.ask 2 1) T0 T1) := inv_ask HI.out 1 (by decide)
          have HK2 : Hid (Kept [s, m, cl, ml] w0 w2) := hkept.trans (hk2.mono (by simp))
          clear hk2
          generalize st.ask 2 1 = su at hc2 HF2 HI2
          go_wp2_with fail
          refine (now_yes hc2 1 (by decide)).mono ?_
          rintro e w3 ⟨rfl, rfl⟩
          by_cases hdue : timeI (T1 : Int) + 83 ≤ timeI (su.t 1 : Nat)
          · have HT : Hid (T0 + 41 ≤ su.t 0) := inv_told HI2.out HF2.out.low hdue
            go_wp2_with fail
            refine (due_yes _ (by decide) (by decide) hA2 hR2 hdue).mono ?_
            rintro e w3 ⟨g6, cap6, rfl, hk3, _, D, h6, hD⟩
            have hc3 := hc2.there hk3 HC.out.1 HC.out.2.1 HC.out.2.2.1
            go_wp2_with fail
            refine (now_yes hc3 0 (by decide)).mono ?_
            rintro e w4 ⟨rfl, rfl⟩
            go_wp2_with fail
            refine (valid_no _ _ (Go.Proofs.Yteihlfeifnnpaaa.over HT.out) _).mono ?_
            rintro e w4 ⟨rfl, rfl⟩
            go_wp2
            go_roundw
            case rel => exact ⟨k + 1, _, by omega, by go_num, hc3.mono (by omega), HF2, HK2.out.trans (hk3.mono (by simp)), Or.inr (Or.inr ⟨T0, g, cp, D, rfl, rfl, rfl, h6, hD, HT.out⟩)⟩
            case measure => simp [intOf]; omega
          · go_wp2_with fail
            refine (due_not ((su.t 1 : Nat) : Int) hA2 hR2 (by omega)).mono ?_
            rintro e w3 ⟨rfl, hk3⟩
            go_wp2
            go_roundw
            case rel => exact ⟨k + 1, _, by omega, by go_num, (hc2.kept hk3).mono (by omega), HF2, HK2.out.trans (hk3.mono (by simp)), Or.inr (Or.inl ⟨T0, T1, g, cp, rfl, rfl, rfl, hA2.kept hk3, hR2.kept hk3 (by simp), HI2.out, HG.out⟩)⟩
            case measure => simp [intOf]; omega
        · go_wp2_with fail
          refine (tick_ask hclk 0 (by decide) (by decide) (by have := HF.out.told 0; omega) HF.out.low (by unfold maxLen; omega)).mono ?_
          rintro e w2 ⟨rfl, hk2, hc2⟩
          have HF2 : Hid (Drf.Fine 2 (k + 1) (st.ask 2 0)) := Drf.fine_ask HF.out 0
          have hA2 := HA.out.there hk2 HC.out.2.2.2.1 HC.out.2.2.2.2.1
          have hR2 := HR.out.kept hk2 HG.out
          have HI2 : Hid (Inv (st.ask 2 0) T0 T1) := inv_ask HI.out 0 (by decide)
          have HK2 : Hid (Kept [s, m, cl, ml] w0 w2) := hkept.trans (hk2.mono (by simp))
          clear hk2
          generalize st.ask 2 0 = su at hc2 HF2 HI2
          go_wp2_with fail
          refine (now_yes hc2 1 (by decide)).mono ?_
          rintro e w3 ⟨rfl, rfl⟩
          by_cases hdue : timeI (T1 : Int) + 83 ≤ timeI (su.t 1 : Nat)
          · have HT : Hid (T0 + 41 ≤ su.t 0) := inv_told HI2.out HF2.out.low hdue
            go_wp2_with fail
            refine (due_yes _ (by decide) (by decide) hA2 hR2 hdue).mono ?_
            rintro e w3 ⟨g6, cap6, rfl, hk3, _, D, h6, hD⟩
            have hc3 := hc2.there hk3 HC.out.1 HC.out.2.1 HC.out.2.2.1
            go_wp2_with fail
            refine (now_yes hc3 0 (by decide)).mono ?_
            rintro e w4 ⟨rfl, rfl⟩
            go_wp2_with fail
            refine (valid_no _ _ (Go.Proofs.Yteihlfeifnnpaaa.over HT.out) _).mono ?_
            rintro e w4 ⟨rfl, rfl⟩
            go_wp2
            go_roundw
            case rel => exact ⟨k + 1, _, by omega, by go_num, hc3.mono (by omega), HF2, HK2.out.trans (hk3.mono (by simp)), Or.inr (Or.inr ⟨T0, g, cp, D, rfl, rfl, rfl, h6, hD, HT.out⟩)⟩
            case measure => simp [intOf]; omega
          · go_wp2_with fail
            refine (due_not ((su.t 1 : Nat) : Int) hA2 hR2 (by omega)).mono ?_
            rintro e w3 ⟨rfl, hk3⟩
            go_wp2
            go_roundw
            case rel => exact ⟨k + 1, _, by omega, by go_num, (hc2.kept hk3).mono (by omega), HF2, HK2.out.trans (hk3.mono (by simp)), Or.inr (Or.inl ⟨T0, T1, g, cp, rfl, rfl, rfl, hA2.kept hk3, hR2.kept hk3 (by simp), HI2.out, HG.out⟩)⟩
            case measure => simp [intOf]; omega
      · have HA := Lib.hid hA
        have HD := Lib.hid hD
        have HT := Lib.hid hT
        clear hA hD hT HS
        rcases (show N = 0 ∨ N = 1 ∨ N = 2 by omega) with rfl | rfl | rfl
        · go_wp2_with fail
          refine (tick_ask hclk 0 (by decide) (by decide) (by have := HF.out.told 0; omega) HF.out.low (by unfold maxLen; omega)).mono ?_
          rintro e w2 ⟨rfl, hk2, hc2⟩
          have HF2 : Hid (Drf.Fine 2 (k + 1) (st.ask 2 0)) := Drf.fine_ask HF.out 0
          have hA2 := HA.out.there hk2 HC.out.2.2.2.1 HC.out.2.2.2.2.1
          have HT2 : Hid (T0 + 41 ≤ (st.ask 2 0).t 0) := on_ask HT.out 0
          have HK2 : Hid (Kept [s, m, cl, ml] w0 w2) := hkept.trans (hk2.mono (by simp))
          clear hk2
          generalize st.ask 2 0 = su at hc2 HF2 HT2
          go_wp2_with fail
          refine (now_yes hc2 1 (by decide)).mono ?_
          rintro e w3 ⟨rfl, rfl⟩
          go_wp2_with fail
          refine (due_empty _ hA2).mono ?_
          rintro e w3 ⟨rfl, hk3⟩
          have hc3 := hc2.kept hk3
          go_wp2_with fail
          refine (now_yes hc3 0 (by decide)).mono ?_
          rintro e w4 ⟨rfl, rfl⟩
          go_wp2_with fail
          refine (valid_no _ _ (Go.Proofs.Yteihlfeifnnpaaa.over HT2.out) _).mono ?_
          rintro e w4 ⟨rfl, rfl⟩
          go_wp2
          go_roundw
          case rel => exact ⟨k + 1, _, by omega, by go_num, hc3.mono (by omega), HF2, HK2.out.trans (hk3.mono (by simp)), Or.inr (Or.inr ⟨T0, g, cp, D, rfl, rfl, rfl, hA2.kept hk3, HD.out, HT2.out⟩)⟩
          case measure => simp [intOf]; omega
        · go_wp2_with fail
          refine (tick_ask hclk 1 (by decide) (by decide) (by have := HF.out.told 1; omega) HF.out.low (by unfold maxLen; omega)).mono ?_
          rintro e w2 ⟨rfl, hk2, hc2⟩
          have HF2 : Hid (Drf.Fine 2 (k + 1) (st.ask 2 1)) := Drf.fine_ask HF.out 1
          have hA2 := HA.out.there hk2 HC.out.2.2.2.1 HC.out.2.2.2.2.1
          have HT2 : Hid (T0 + 41 ≤ (st.ask 2 1).t 0) := on_ask HT.out 1
          have HK2 : Hid (Kept [s, m, cl, ml] w0 w2) := hkept.trans (hk2.mono (by simp))
          clear hk2
          generalize st.ask 2 1 = su at hc2 HF2 HT2
          go_wp2_with fail
          refine (now_yes hc2 1 (by decide)).mono ?_
          rintro e w3 ⟨rfl, rfl⟩
          go_wp2_with fail
          refine (due_empty _ hA2).mono ?_
          rintro e w3 ⟨rfl, hk3⟩
          have hc3 := hc2.kept hk3
          go_wp2_with fail
          refine (now_yes hc3 0 (by decide)).mono ?_
          rintro e w4 ⟨rfl, rfl⟩
          go_wp2_with fail
          refine (valid_no _ _ (Go.Proofs.Yteihlfeifnnpaaa.over HT2.out) _).mono ?_
          rintro e w4 ⟨rfl, rfl⟩
          go_wp2
          go_roundw
          case rel => exact ⟨k + 1, _, by omega, by go_num, hc3.mono (by omega), HF2, HK2.out.trans (hk3.mono (by simp)), Or.inr (Or.inr ⟨T0, g, cp, D, rfl, rfl, rfl, hA2.kept hk3, HD.out, HT2.out⟩)⟩
          case measure => simp [intOf]; omega
        · go_wp2_with fail
          refine (tick_ask hclk 0 (by decide) (by decide) (by have := HF.out.told 0; omega) HF.out.low (by unfold maxLen; omega)).mono ?_
          rintro e w2 ⟨rfl, hk2, hc2⟩
          have HF2 : Hid (Drf.Fine 2 (k + 1) (st.ask 2 0)) := Drf.fine_ask HF.out 0
          have hA2 := HA.out.there hk2 HC.out.2.2.2.1 HC.out.2.2.2.2.1
          have HT2 : Hid (T0 + 41 ≤ (st.ask 2 0).t 0) := on_ask HT.out 0
          have HK2 : Hid (Kept [s, m, cl, ml] w0 w2) := hkept.trans (hk2.mono (by simp))
          clear hk2
          generalize st.ask 2 0 = su at hc2 HF2 HT2
          go_wp2_with fail
          refine (now_yes hc2 1 (by decide)).mono ?_
          rintro e w3 ⟨rfl, rfl⟩
          go_wp2_with fail
          refine (due_empty _ hA2).mono ?_
          rintro e w3 ⟨rfl, hk3⟩
          have hc3 := hc2.kept hk3
          go_wp2_with fail
          refine (now_yes hc3 0 (by decide)).mono ?_
          rintro e w4 ⟨rfl, rfl⟩
          go_wp2_with fail
          refine (valid_no _ _ (Go.Proofs.Yteihlfeifnnpaaa.over HT2.out) _).mono ?_
          rintro e w4 ⟨rfl, rfl⟩
          go_wp2
          go_roundw
          case rel => exact ⟨k + 1, _, by omega, by go_num, hc3.mono (by omega), HF2, HK2.out.trans (hk3.mono (by simp)), Or.inr (Or.inr ⟨T0, g, cp, D, rfl, rfl, rfl, hA2.kept hk3, HD.out, HT2.out⟩)⟩
          case measure => simp [intOf]; omega
    · go_wp2_with fail
      refine (holds_00 _).mono ?_
      rintro e w2 ⟨rfl, hk2⟩
      have hbel : Below w.heap.size w w2 := (hk0.below (Nat.le_refl _) (by simp)).trans ((hkept.trans (hk2.mono (by simp))).below hk0.size HB.out)
      go_wp2_with fail
      refine (ends_law 1 1 0 false w2 (by decide) (by decide) (by decide)).mono ?_
      rintro e w3 ⟨rfl, hb3⟩
      go_wp2
      go_ret
      exact ⟨rfl, hbel.trans (hb3.mono hbel.size)⟩

theorem over_law (a : Option Addr) (len cap : Nat) (zs : List Int) (w : World) (h : IsRow w a len cap zs) :
    Calls Try.prog 7 #[.slice a len cap] w fun e w' => e = .returned (.bool true) ∧ Below w.heap.size w w' := over_core a len cap _ w h.ints
end Go.Proofs.Yteihlfeifnnpaaa
