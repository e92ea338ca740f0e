/- The walk of the reference's Tick. -/
import Derived.Test.YtgdcolkggdpmjaaRef
namespace Go.Proofs.Ytgdcolkggdpmjaa
open Go.RowKit Go.Maps Go.WideMaps Go.WideElems
set_option maxRecDepth 100000

theorem RClk.ne {w : World} {B x ts ld n : Nat} {row : Nat → Nat} {st : Drf.St} (h : RClk w B x ts ld n row st) : x ≠ ts ∧ ld ≠ ts ∧ x ≠ ld ∧ (∀ a, a < n → row a ≠ x) ∧ (∀ a, a < n → row a ≠ ld) := by
  obtain ⟨⟨cap, h1⟩, h2, ⟨cur, h3, h4⟩, h5, h6, h7, _⟩ := h
  refine ⟨fun e => ?_, fun e => ?_, fun e => ?_, fun a ha e => ?_, fun a ha e => ?_⟩
  · subst e; rw [h1] at h2; simp at h2
  · subst e; rw [h3] at h2; simp at h2
  · subst e; rw [h1] at h3; simp at h3
  · have := h5 a ha; rw [e, h1] at this; simp at this
  · have := h5 a ha; rw [e, h3] at this; simp at this

theorem heap_set_other (w : World) (b j : Nat) (v : Value) (i : Nat) (h : i ≠ b) : (w.setCell ⟨b, j, none⟩ v).heap[i]? = w.heap[i]? := Below.heap_setCell w ⟨b, j, none⟩ v i h

/-- the count of b is raised -/
theorem RClk.raise {w : World} {B x ts ld n : Nat} {row : Nat → Nat} {st : Drf.St} (h : RClk w B x ts ld n row st) (b : Nat) {u : Int} (hu : u = (st.t b + 1 : Nat)) :
    RClk (w.setCell ⟨ts, b, none⟩ (.int .i64 u)) B x ts ld n row ⟨fun y => if y = b then st.t y + 1 else st.t y, st.lead⟩ := by
  obtain ⟨n1, n2, _, n4, n5⟩ := h.ne
  obtain ⟨⟨cap, h1⟩, h2, ⟨cur, h3, h4⟩, h5, h6, h7, l⟩ := h
  refine ⟨⟨cap, by rw [heap_set_other _ _ _ _ _ n1]; exact h1⟩, ?_, ⟨cur, by rw [heap_set_other _ _ _ _ _ n2]; exact h3, h4⟩, fun a ha => by rw [heap_set_other _ _ _ _ _ (h7 a ha)]; exact h5 a ha, h6, h7, l⟩
  exact cells_up h2 b (st.t b + 1) hu (fun i _ => by by_cases e : i = b <;> simp [e])

/-- a lead is written -/
theorem RClk.write {w : World} {B x ts ld n : Nat} {row : Nat → Nat} {st su : Drf.St} (h : RClk w B x ts ld n row st) (a j : Nat) (ha : a < n) (v : Nat) {u : Int} (hu : u = (v : Nat)) (ht : ∀ y, y < n → st.t y = su.t y)
    (hl : ∀ c d, c < n → d < n → su.lead c d = if c = a ∧ d = j then v else st.lead c d) :
    RClk (w.setCell ⟨row a, j, none⟩ (.int .i64 u)) B x ts ld n row su := by
  obtain ⟨n1, n2, _, n4, n5⟩ := h.ne
  obtain ⟨⟨cap, h1⟩, h2, ⟨cur, h3, h4⟩, h5, h6, h7, l⟩ := h
  refine ⟨⟨cap, by rw [heap_set_other _ _ _ _ _ (fun e => n4 a ha e.symm)]; exact h1⟩, by rw [heap_set_other _ _ _ _ _ (fun e => h7 a ha e.symm), ← cellsTo_congr ht]; exact h2, ⟨cur, by rw [heap_set_other _ _ _ _ _ (fun e => n5 a ha e.symm)]; exact h3, h4⟩, fun c hc => ?_, h6, h7, l⟩
  by_cases e : c = a
  · subst e
    refine cells_up (h5 c hc) j v hu (fun i hi => ?_)
    rw [hl c i hc hi]
    by_cases e2 : i = j
    · simp [e2]
    · simp [e2]
  · rw [heap_set_other _ _ _ _ _ (fun e2 => e (h6 c a hc ha e2)), h5 c hc]
    congr 2
    exact cellsTo_congr (fun i hi => by rw [hl c i hc hi, if_neg (fun q => e q.1)])

theorem RClk.congr {w : World} {B x ts ld n : Nat} {row : Nat → Nat} {st su : Drf.St} (h : RClk w B x ts ld n row st) (ht : ∀ y, y < n → st.t y = su.t y) (hl : ∀ c d, c < n → d < n → st.lead c d = su.lead c d) : RClk w B x ts ld n row su := by
  obtain ⟨h1, h2, h3, h5, h6, h7, l⟩ := h
  exact ⟨h1, by rw [← cellsTo_congr ht]; exact h2, h3, fun a ha => by rw [← cellsTo_congr (fun i hi => hl a i ha hi)]; exact h5 a ha, h6, h7, l⟩

set_option maxHeartbeats 400000 in
theorem rtick_arg {w : World} {B x ts ld n : Nat} {row : Nat → Nat} {st : Drf.St} (h : RClk w B x ts ld n row st) (y : Int) (h0 : y < 0 ∨ (n : Int) ≤ y) :
    Calls Try.prog 18 #[.pointer (some ⟨x, 0, none⟩), .int .i64 y] w fun e w' => e = .returned (.int .i64 1) ∧ w = w' := by
  have hc := there_no h y h0
  clear h h0
  go_enter Try.func18, Try.ntmps18
  go_wp2_with fail
  refine hc.mono ?_
  rintro e w' ⟨rfl, rfl⟩
  go_wp2
  go_ret
  exact ⟨rfl, rfl⟩

set_option maxHeartbeats 400000 in
theorem rtick_drift {w : World} {B x ts ld n : Nat} {row : Nat → Nat} {st : Drf.St} (h : RClk w B x ts ld n row st) (b : Nat) (hb : b < n) (hn : n ≤ 16) (hmay : Hid (st.may n b = false)) :
    Calls Try.prog 18 #[.pointer (some ⟨x, 0, none⟩), .int .i64 b] w fun e w' => e = .returned (.int .i64 100) ∧ w = w' := by
  have hc := there_yes h b (by omega) (by omega)
  have hm := rmay_yes h b hb hn
  rw [hmay.out] at hm
  clear h
  go_enter Try.func18, Try.ntmps18
  go_wp2_with fail
  refine hc.mono ?_
  rintro e w' ⟨rfl, rfl⟩
  clear hc
  go_wp2_with fail
  refine hm.mono ?_
  rintro e w1 ⟨rfl, rfl⟩
  go_wp2
  go_ret
  exact ⟨rfl, rfl⟩

set_option maxHeartbeats 2000000 in
theorem rtick_ok {w : World} {B x ts ld n : Nat} {row : Nat → Nat} {st : Drf.St} (h : RClk w B x ts ld n row st) (b : Nat) (hb : b < n) (hn : n ≤ 16) (hmay : Hid (st.may n b = true)) (ht : st.t b < 4611686018427387904) (hL : Drf.Low n st) :
    Calls Try.prog 18 #[.pointer (some ⟨x, 0, none⟩), .int .i64 b] w fun e w' => e = .returned (.int .i64 0) ∧ Kept (RB n ts row) w w' ∧ RClk w' B x ts ld n row (st.tick b) := by
  have hc := there_yes h b (by omega) (by omega)
  have hm := rmay_yes h b hb hn
  rw [hmay.out] at hm
  have HL := Lib.hid hL
  clear hL
  have c0 := h.cell0
  have ct := h.now b hb
  have hf : w.frozen? ⟨ts, b, none⟩ = false := by simp [World.frozen?, h.told]
  have h2 := h.raise b (u := (st.t b : Int) + 1) (by omega)
  have c2 := h2.cell0
  have hk2 : Kept (RB n ts row) w (w.setCell ⟨ts, b, none⟩ (.int .i64 ((st.t b : Int) + 1))) := (Kept.refl _ _).setCell (Or.inl (by simp [RB])) _
  clear h
  go_enter Try.func18, Try.ntmps18
  go_wp2_with fail
  refine hc.mono ?_
  rintro e w' ⟨rfl, rfl⟩
  clear hc
  go_wp2_with fail
  refine hm.mono ?_
  rintro e w1 ⟨rfl, rfl⟩
  clear hm
  go_wp2
  clear c2 c0 ct hf
  generalize w.setCell ⟨ts, b, none⟩ (.int .i64 ((st.t b : Int) + 1)) = W2 at h2 hk2 ⊢
  go_loopw [5, 28] (fun _ i wr => ∃ k : Nat, k ≤ n ∧ i = .int .i64 k ∧ RClk wr B x ts ld n row (st.tickTo b k) ∧ Kept (RB n ts row) w wr) (fun _ i _ => n - (intOf i).toNat)
  case atStart => exact ⟨0, by omega, rfl, h2.congr (fun y _ => by simp only [Drf.St.tickTo]) (fun c d _ _ => (Drf.tickTo_zero st b c d).symm), hk2⟩
  case round =>
    obtain ⟨k, hk, rfl, hclk, hkept⟩ := hrel
    by_cases hlt : k < n
    · by_cases hkb : k = b
      · subst hkb
        go_wp2
        go_roundw
        case rel => exact ⟨k + 1, by omega, by go_num, hclk.congr (su := st.tickTo k (k + 1)) (fun y _ => rfl) (fun c d _ _ => (Drf.tickTo_skip st k c d).symm), hkept⟩
        case measure => simp [intOf]; omega
      · have hne : ((k : Int) != (b : Int)) = true := by simp; omega
        have HKB := Lib.hid hkb
        clear hkb
        obtain ⟨L1, hL1, e1⟩ : ∃ L1 : Nat, L1 ≤ 100 ∧ (st.tickTo b k).lead k b = L1 := ⟨_, by rw [lead_now1 st b k]; exact Nat.le_trans (HL.out k b hlt HKB.out) (by decide), rfl⟩
        obtain ⟨L2, hL2, e2⟩ : ∃ L2 : Nat, L2 ≤ 100 ∧ (st.tickTo b k).lead b k = L2 := ⟨_, by rw [lead_now2 st b k HKB.out]; exact Nat.le_trans (HL.out b k hb (fun e => HKB.out e.symm)) (by decide), rfl⟩
        have r0 := hclk.cell0
        obtain ⟨cap, r1⟩ := hclk.cell1
        have r2 := hclk.topc k hlt
        have r3 := hclk.led k b hlt hb
        rw [e1] at r3
        have r4 : wr.frozen? ⟨row k, b, none⟩ = false := by simp [World.frozen?, hclk.rows k hlt]
        have hw3 : IntKind.i64.wrap ((L1 : Int) + 1) = (L1 : Int) + 1 := IntWalk.i64_in _ (by omega)
        have hclk2 := hclk.write (su := ⟨(st.tickTo b k).t, fun c d => if c = k ∧ d = b then L1 + 1 else (st.tickTo b k).lead c d⟩) k b hlt (L1 + 1) (u := (L1 : Int) + 1) (by omega) (fun _ _ => rfl) (fun _ _ _ _ => rfl)
        have hk3 : Kept (RB n ts row) w (wr.setCell ⟨row k, b, none⟩ (.int .i64 ((L1 : Int) + 1))) := hkept.setCell (Or.inl (RB_row hlt)) _
        clear r0
        go_wp2
        clear r1 r2 r3 r4
        obtain ⟨cap2, q1⟩ := hclk2.cell1
        have q2 := hclk2.topc b hb
        have q3 := hclk2.led b k hb hlt
        have q4 := hclk2.rows b hb
        have e3 : (if b = k ∧ k = b then L1 + 1 else (st.tickTo b k).lead b k) = L2 := by rw [if_neg (fun e => HKB.out e.1.symm)]; exact e2
        simp only [e3] at q3
        obtain ⟨V, hV, hVe⟩ : ∃ V : Nat, V ≤ 100 ∧ V = L2 - 2 := ⟨_, by omega, rfl⟩
        have hclk3 := hclk2.write (su := st.tickTo b (k + 1)) b k hb V (u := if 2 < (L2 : Int) then (L2 : Int) - 2 else 0) (by split <;> omega) (fun _ _ => rfl) (fun c d hc hd => by
          by_cases q : c = b ∧ d = k
          · rw [if_pos q, q.1, q.2, Drf.tickTo_down st b k HKB.out, e2, hVe]
          · rw [if_neg q]
            show _ = if c = k ∧ d = b then L1 + 1 else (st.tickTo b k).lead c d
            by_cases q2 : c = k ∧ d = b
            · rw [if_pos q2, q2.1, q2.2, Drf.tickTo_up st b k HKB.out, e1]
            · rw [if_neg q2, Drf.tickTo_other st b k c d q2 q])
        generalize wr.setCell ⟨row k, b, none⟩ (.int .i64 ((L1 : Int) + 1)) = W3 at hclk2 hclk3 hk3 q1 q2 q3 q4 ⊢
        have q5 : W3.frozen? ⟨row b, k, none⟩ = false := by simp [World.frozen?, q4]
        have HC := Lib.hid hclk3
        clear e1 e2 e3 hclk2 hclk3 q4 hVe
        have hw5 : IntKind.i64.wrap ((L2 : Int) - 2) = (L2 : Int) - 2 := IntWalk.i64_in _ (by omega)
        go_region
        go_wp2
        go_roundw
        case rel => exact ⟨k + 1, by omega, by go_num, HC.out.kept (bs := []) ((Kept.refl _ _).drew) (by simp), (hk3.setCell (Or.inl (RB_row hb)) _).drew⟩
        case measure => simp [intOf]; omega
    · obtain rfl : k = n := by omega
      go_wp2
      go_ret
      exact ⟨rfl, hkept, hclk.congr (su := st.tick b) (fun _ _ => rfl) (fun c d hc hd => Drf.tickTo_end st b k c d hc hd)⟩
end Go.Proofs.Ytgdcolkggdpmjaa
