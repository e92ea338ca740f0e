/- The walk of the law's own helper 'ticks': which clocks ticked, of those that were asked to. -/
import Derived.Test.YtgdcolkggdpmjaaEven
namespace Go.Proofs.Ytgdcolkggdpmjaa
open Go.RowKit Go.Maps Go.WideMaps Go.WideElems
set_option maxRecDepth 100000

theorem Clk.lt {w : World} {c s m n k : Nat} {st : Drf.St} (h : Clk w c s m n k st) : c < w.heap.size ∧ s < w.heap.size ∧ m < w.heap.size := by
  obtain ⟨h1, h2, D, ⟨es, clock, hb, _⟩, _⟩ := h
  exact ⟨(Array.getElem?_eq_some_iff.1 h1).1, (Array.getElem?_eq_some_iff.1 h2).1, (Array.getElem?_eq_some_iff.1 hb).1⟩

/-- a slice that owns just these names -/
def Names (w : World) (B : Nat) (v : Value) (l : List Nat) : Prop := w.ownsRow B 3 1 v l.length (l.map fun b => Value.int .i64 (b : Nat))

theorem Names.kept {w w' : World} {B : Nat} {v : Value} {l : List Nat} {bs : List Nat} (h : Names w B v l) (hk : Kept bs w w') (hb : ∀ b, b ∈ bs → b < B) : Names w' B v l := by
  obtain ⟨h1, h2⟩ := h
  refine ⟨h1, ?_⟩
  rcases h2 with h2 | ⟨g, cap, cur, hv, hg, hc, rest⟩
  · exact Or.inl h2
  · exact Or.inr ⟨g, cap, cur, hv, hg, hk.there hc (fun e => by have := hb g e; omega), rest⟩

theorem Clk.grown {w w' : World} {c s m n k : Nat} {st : Drf.St} {row : Option Nat} (h : Clk w c s m n k st) (hg : w.grownBy w' row) (hr : ∀ j, row = some j → j ≠ c ∧ j ≠ s ∧ j ≠ m) : Clk w' c s m n k st := by
  obtain ⟨h1, h2, D, ⟨es, clock, hb, F, hs, hD⟩, hrep⟩ := h
  have key : ∀ i o, w.heap[i]? = some o → (i = c ∨ i = s ∨ i = m) → w'.heap[i]? = some o := by
    intro i o hi hc
    rw [hg.block i (Array.getElem?_eq_some_iff.1 hi).1 (fun e => by
      obtain ⟨q1, q2, q3⟩ := hr i e.symm
      rcases hc with e | e | e
      · exact q1 e
      · exact q2 e
      · exact q3 e)]
    exact hi
  exact ⟨key _ _ h1 (Or.inl rfl), key _ _ h2 (Or.inr (Or.inl rfl)), D, ⟨es, clock, key _ _ hb (Or.inr (Or.inr rfl)), F, hs, hD⟩, hrep⟩

theorem Names.base {w : World} {B B' : Nat} {v : Value} {l : List Nat} (h : Names w B v l) (hB : B' ≤ B) : Names w B' v l := by
  obtain ⟨h1, h2⟩ := h
  refine ⟨h1, ?_⟩
  rcases h2 with h2 | ⟨g, cap, cur, hv, hg, rest⟩
  · exact Or.inl h2
  · exact Or.inr ⟨g, cap, cur, hv, Nat.le_trans hB hg, rest⟩

theorem names_own {w : World} {B : Nat} {v : Value} {l : List Nat} (h : Names w B v l) : ∀ j, v.ownBlock = some j → B ≤ j := by
  intro j hj
  obtain ⟨_, h2⟩ := h
  rcases h2 with ⟨rfl, _⟩ | ⟨g, cap, cur, rfl, hg, _⟩
  · cases hj
  · simp [Value.ownBlock] at hj; omega

theorem names_snoc {w : World} {B : Nat} {v : Value} {l : List Nat} {q : Nat} (h : w.ownsRow B 3 1 v (l.length + 1) ((l.map fun b => Value.int .i64 (b : Nat)) ++ [.int .i64 q])) : Names w B v (l ++ [q]) := by
  unfold Names
  simpa using h

set_option maxHeartbeats 2000000 in
theorem ticks_any (a : Option Addr) (len cap : Nat) (z : Nat → Int) (w : World) (hl : Ints w a len z) (n : Nat) (hn : 1 ≤ n) (hn16 : n ≤ 16) (hlen : len ≤ 60) :
    Calls Try.prog 20 #[.int .i64 n, .slice a len cap] w fun e w' => ∃ v, e = .returned (.tuple #[v, .bool true]) ∧ Names w' w.heap.size v (Drf.did n (fun i => clockOf n (z i)) len) ∧ Below w.heap.size w w' := by
  obtain ⟨i0, hi, hz0, hz1, hz2⟩ := info_parts info3
  have hu := u64_small n (by omega)
  go_enter Try.func20, Try.ntmps20
  go_wp2_with fail
  refine (new_ex n hn hn16 _).mono ?_
  rintro e w0 ⟨c, s, m, rfl, hk0, hc0, HB⟩
  have hlt := hc0.lt
  go_wp2_with fail
  go_loopw [8, 10, 11, 23] (fun v _ _ i wr => ∃ k : Nat, k ≤ len ∧ i = .int .i64 k ∧ Clk wr c s m n (40 * k) (Drf.run n Drf.St.init (Drf.asked (fun i => clockOf n (z i)) k)) ∧ Names wr w0.heap.size v (Drf.did n (fun i => clockOf n (z i)) k) ∧ Kept [s, m] w0 wr) (fun _ _ _ i _ => len - (intOf i).toNat)
  case atStart => exact ⟨0, by omega, rfl, hc0, ⟨rfl, Or.inl ⟨rfl, rfl⟩⟩, Kept.refl _ _⟩
  case round =>
    obtain ⟨k, hk, rfl, hclk, hnames, hkept⟩ := hrel
    have hfine := Lib.hid (Drf.fine_run n (fun i => clockOf n (z i)) k)
    by_cases hlt : k < len
    · obtain ⟨b, o, rfl, hcell⟩ := hl.at hk0 hkept HB.out k hlt
      obtain ⟨q, hqe⟩ : ∃ q, q = clockOf n (z k) := ⟨_, rfl⟩
      have hq : q < n := by rw [hqe]; exact clockOf_lt n (z k) hn
      have hzq : (IntKind.u64.wrap (z k)).tmod n = (q : Int) := by rw [hqe]; exact clockOf_eq n (z k) hn
      have hzw := wrap_small q (by omega)
      have HQ := Lib.hid hqe
      clear hqe
      go_wp2_with fail
      refine (tick_ask hclk q hq hn16 (by have := hfine.out.told q; omega) hfine.out.low (by unfold maxLen; omega)).mono ?_
      rintro e w2 ⟨rfl, hk2, hc2⟩
      have HR := Lib.hid (Drf.run_asked n (fun i => clockOf n (z i)) k Drf.St.init)
      have hn2 := hnames.kept hk2 (by simp; omega)
      cases hmay : (Drf.run n Drf.St.init (Drf.asked (fun i => clockOf n (z i)) k)).may n q with
      | true =>
        have hr : tickR (Drf.run n Drf.St.init (Drf.asked (fun i => clockOf n (z i)) k)) n q = 0 := by unfold tickR; rw [if_pos hmay]
        rw [hr]
        have HD := Lib.hid (Drf.did_yes n (fun i => clockOf n (z i)) k (by rw [← HQ.out]; exact hmay))
        have hlen2 := Drf.did_len n (fun i => clockOf n (z i)) k
        have HB2 := Lib.hid (names_own hn2)
        generalize Drf.did n (fun i => clockOf n (z i)) k = l at hn2 HD hlen2
        clear hr hnames
        have hB : w0.heap.size ≤ w2.heap.size := Nat.le_trans hkept.size hk2.size
        go_wp2_with (first
          | (at_builtin; refine wpList_append_own _ rfl _ _ 24 rfl w0.heap.size 3 i0 (.int .i64 0) 1 8 Try.underlying24 hi hz0 hz1 hz2 rfl (by decide) _ _ _ rfl (World.ownsRow.alloc hn2 _) ⟨w2.heap.size, 0, none⟩ 1 1 [.int .i64 q] rfl rfl ?c1 ?c2 ?c3 ?c4 ?c5 ?_)
          | go_in)
        case c1 => exact cell_one_new _ _ _
        case c2 => exact ints_oneCell .i64 [(q : Int)]
        case c3 => unfold maxLen; omega
        case c4 => omega
        case c5 => simp; omega
        intro v' w3 hown' hgrow _
        have hg2 := ((World.grownBy_alloc w2 (.cells #[.int .i64 q] 3) none).but _).andThen hgrow (fun j hj => Or.inr hj)
        have hc3 := hc2.grown hg2 (fun j hj => by have := HB2.out j hj; omega)
        have hk3 : Kept [s, m] w0 w3 := (hkept.trans hk2).grown hg2 (fun j hj => Or.inr (HB2.out j hj))
        have hn3 := names_snoc hown'
        go_wp2
        go_roundw
        case rel => exact ⟨k + 1, by omega, by go_num, by rw [HR.out, ← HQ.out]; exact hc3.mono (by omega), by rw [HD.out, ← HQ.out]; exact hn3, hk3⟩
        case measure => simp [intOf]; omega
      | false =>
        have hr : tickR (Drf.run n Drf.St.init (Drf.asked (fun i => clockOf n (z i)) k)) n q = 100 := by unfold tickR; rw [if_neg (by rw [hmay]; simp)]
        rw [hr]
        have HD := Lib.hid (Drf.did_no n (fun i => clockOf n (z i)) k (by rw [← HQ.out]; exact hmay))
        clear hr
        go_wp2
        go_roundw
        case rel => exact ⟨k + 1, by omega, by go_num, by rw [HR.out, ← HQ.out]; exact hc2.mono (by omega), by rw [HD.out]; exact hn2, hkept.trans hk2⟩
        case measure => simp [intOf]; omega
    · obtain rfl : k = len := by omega
      have HS := Lib.hid (Drf.did_sum n (fun i => clockOf n (z i)) k (fun i => clockOf_lt n (z i) hn))
      have hdl := Drf.did_len n (fun i => clockOf n (z i)) k
      obtain ⟨l, hle⟩ : ∃ l, l = Drf.did n (fun i => clockOf n (z i)) k := ⟨_, rfl⟩
      rw [← hle] at hnames HS hdl
      have HE := Lib.hid hle
      clear hle
      have hbel : Below w.heap.size w wr := (hk0.below (Nat.le_refl _) (by simp)).trans (hkept.below hk0.size HB.out)
      go_wp2_with fail
      have hfs := Drf.sumTo_le (Drf.run n Drf.St.init (Drf.asked (fun i => clockOf n (z i)) k)).t k hfine.out.told
      have HF := Lib.hid hfine.out.told
      generalize Drf.run n Drf.St.init (Drf.asked (fun i => clockOf n (z i)) k) = st at hclk HS hfs HF
      go_loopw [12, 13, 46] (fun y _ i wq => ∃ j : Nat, j ≤ n ∧ i = .int .i64 j ∧ y = .int .i64 (Drf.sumTo st.t j : Nat) ∧ wr = wq) (fun _ _ i _ => n - (intOf i).toNat)
      case atStart => exact ⟨0, by omega, rfl, rfl, rfl⟩
      case round =>
        obtain ⟨j, hj, rfl, rfl, rfl⟩ := hrel
        have hsj := hfs j
        have hj60 : j * k ≤ 16 * 60 := Nat.mul_le_mul (by omega) (by omega)
        by_cases hjn : j < n
        · have htj := HF.out j
          have HN := Lib.hid (show Drf.sumTo st.t (j + 1) = Drf.sumTo st.t j + st.t j from rfl)
          generalize Drf.sumTo st.t j = sj at hsj HN
          have hsum : IntKind.i64.wrap ((sj : Int) + (st.t j : Int)) = (sj : Int) + (st.t j : Int) := IntWalk.i64_in _ (by omega)
          clear hj60
          go_wp2_with fail
          refine (now_yes hclk j hjn).mono ?_
          rintro e w3 ⟨rfl, rfl⟩
          go_wp2
          go_roundw
          case rel => exact ⟨j + 1, by omega, by go_num, by rw [HN.out]; go_num, trivial⟩
          case measure => simp [intOf]; omega
        · obtain rfl : j = n := by omega
          obtain ⟨sj, hsn⟩ : ∃ sj, sj = Drf.sumTo st.t j := ⟨_, rfl⟩
          rw [← hsn]
          obtain rfl : sj = l.length := by rw [hsn]; exact HS.out
          have hnames2 := hnames
          obtain ⟨hl1, hl2⟩ := hnames
          rcases hl2 with ⟨rfl, h0⟩ | ⟨g, cap', cur, rfl, hg, hcur, hle, hcm, hsz, htk⟩
          · have e0 : ((l.length : Int) == 0) = true := by rw [h0]; rfl
            clear h0 hsn hl1
            go_wp2
            go_ret2
            exact ⟨_, rfl, by rw [← HE.out]; exact hnames2.base hk0.size, hbel⟩
          · clear hsn hl1 hsz htk
            go_wp2
            go_ret2
            exact ⟨_, rfl, by rw [← HE.out]; exact hnames2.base hk0.size, hbel⟩
end Go.Proofs.Ytgdcolkggdpmjaa
