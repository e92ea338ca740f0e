/- The walk of the program's Tick. -/
import Derived.Test.YteihlfeifnnpaaaClocks
namespace Go.Proofs.Yteihlfeifnnpaaa
open Go.RowKit Go.Maps Go.WideMaps Go.WideElems
open Go.ChangeMaps (setBlock heap_setBlock_same heap_setBlock_other)
set_option maxRecDepth 100000

theorem i64_lit_wf {v : Int} (h : (Lit.int .i64 v).wf = true) : plainElem (H := Unit) Try.prog 3 (.int .i64 v) = some (.lit (.int .i64 v), []) := plainElem_int Try.underlying3 h

/-- the two halves of 'leads[pair] op= c' at a map that tells a number there -/
theorem bump {w : World} {m kk : Nat} {D : DataW Unit} (hown : w.ownsMap Try.prog 67 (plainElem Try.prog 3) m kk D) (hm : kk < maxLen) {x y : Int} (hx : (Lit.int .i64 x).wf = true) (hy : (Lit.int .i64 y).wf = true)
    {c : Int} (hat : D.atKey (pk x y) (.lit (.int .i64 0)) = .lit (.int .i64 c)) :
    (Instr.lookup 62 (.map (some m)) (pairV x y) false).run Try.prog w = .ok (.int .i64 c) w ∧
    ∃ (st : Nat) (w1 : World), (Instr.mapEntry 62 (.map (some m)) (pairV x y)).run Try.prog w = .ok (.tuple #[.int .i64 c, .int .i64 st]) w1 ∧
      (Instr.lookup 62 (.map (some m)) (pairV x y) false).run Try.prog w1 = .ok (.int .i64 c) w1 ∧
      ∀ v : Int, (Lit.int .i64 v).wf = true → ∃ w2, (Instr.entryStore 62 (.map (some m)) (.int .i64 st) (.int .i64 v)).run Try.prog w1 = .ok () w2 ∧
        w2.ownsMap Try.prog 67 (plainElem Try.prog 3) m (kk + 1) (D.put (pk x y) (.lit (.int .i64 v))) ∧ w.grownBy w2 (some m) := by
  have hkey := keyOf_pair x y hx hy
  obtain ⟨c', hr, hc, _⟩ := hown.lookup_int keyed Try.underlying62 Try.underlying3 (zero3 w) hkey
  rw [hat] at hc
  have e : c' = c := by simpa using hc.symm
  subst e
  have hown' := hown
  obtain ⟨es, clock, hb, F, hs, hD⟩ := hown
  obtain ⟨v0, st, es1, clock1, hE, hL, hL2, hS⟩ := entry_any keyLaw Try.underlying62 zero3 hb F hkey
  have e2 : v0 = .int .i64 c' := by rw [hL] at hr; injection hr
  subst e2
  have hb1 : (setBlock w m (.map es1 clock1)).heap[m]? = some (.map es1 clock1) := heap_setBlock_same hb _
  refine ⟨hr, st, setBlock w m (.map es1 clock1), hE, hL2 _ hb1, fun v hv => ?_⟩
  obtain ⟨es', clock', hst, hup⟩ := hS _ (.int .i64 v) hb1
  obtain ⟨w', hup2, ho2, hg2⟩ := hown'.update keyed Try.underlying62 hm hkey (i64_lit_wf hv)
  have e3 : setBlock (setBlock w m (.map es1 clock1)) m (.map es' clock') = setBlock w m (.map es' clock') := by
    simp [setBlock]
  rw [e3] at hst
  have e4 : w' = setBlock w m (.map es' clock') := by rw [hup] at hup2; injection hup2 with _ e; exact e.symm
  subst e4
  exact ⟨_, hst, ho2, hg2⟩

theorem cellsTo_congr {n : Nat} {t u : Nat → Nat} (h : ∀ x, x < n → t x = u x) : cellsTo n t = cellsTo n u := by
  unfold cellsTo
  congr 1
  refine List.map_congr_left fun i hi => ?_
  rw [h i (List.mem_range.1 hi)]

theorem Clk.congr {w : World} {c s m n k : Nat} {st su : Drf.St} (h : Clk w c s m n k st) (ht : ∀ x, x < n → st.t x = su.t x) (hl : ∀ x y, x < n → y < n → st.lead x y = su.lead x y) : Clk w c s m n k su := by
  obtain ⟨h1, h2, D, ho, hr⟩ := h
  exact ⟨h1, by rw [← cellsTo_congr ht]; exact h2, D, ho, fun x y hx hy hne => by rw [← hl x y hx hy]; exact hr.at_ x y hx hy hne, hr.keys⟩

theorem Clk.mono {w : World} {c s m n k k' : Nat} {st : Drf.St} (h : Clk w c s m n k st) (hk : k ≤ k') : Clk w c s m n k' st := by
  obtain ⟨h1, h2, D, ho, hr⟩ := h
  exact ⟨h1, h2, D, ho.mono hk, hr⟩

theorem Clk.ne {w : World} {c s m n k : Nat} {st : Drf.St} (h : Clk w c s m n k st) : s ≠ c ∧ s ≠ m ∧ c ≠ m := by
  obtain ⟨h1, h2, D, ⟨es, clock, hb, _⟩, _⟩ := h
  refine ⟨fun e => ?_, fun e => ?_, fun e => ?_⟩
  · subst e; rw [h1] at h2; simp at h2
  · subst e; rw [hb] at h2; simp at h2
  · subst e; rw [hb] at h1; simp at h1

theorem cellsTo_set (n : Nat) (t : Nat → Nat) (b : Nat) (v : Nat) : (cellsTo n t).setIfInBounds b (.int .i64 (v : Nat)) = cellsTo n (fun x => if x = b then v else t x) := by
  apply Array.ext_getElem?
  intro i
  by_cases hi : i < n
  · rw [cellsTo_get n _ i hi]
    by_cases e : b = i
    · subst e; simp [cellsTo, hi]
    · rw [Array.getElem?_setIfInBounds_ne e, cellsTo_get n _ i hi, if_neg (fun h => e h.symm)]
  · have h1 : (cellsTo n t).size ≤ i := by simp [cellsTo]; omega
    rw [Array.getElem?_eq_none (by simpa using h1), Array.getElem?_eq_none (by simp [cellsTo]; omega)]

/-- the count of b is raised -/
theorem Clk.raise {w : World} {c s m n k : Nat} {st : Drf.St} (h : Clk w c s m n k st) (b : Nat) : Clk (w.setCell ⟨s, b, none⟩ (.int .i64 (st.t b + 1 : Nat))) c s m n k ⟨fun x => if x = b then st.t b + 1 else st.t x, st.lead⟩ := by
  obtain ⟨hsc, hsm, _⟩ := h.ne
  obtain ⟨h1, h2, D, ⟨es, clock, hb, F, hs, hD⟩, hr⟩ := h
  refine ⟨?_, ?_, D, ⟨es, clock, ?_, F, hs, hD⟩, hr⟩
  · rw [Below.heap_setCell _ _ _ _ (fun e => hsc e.symm)]; exact h1
  · have e := cellsTo_set n st.t b (st.t b + 1)
    rw [← e]
    simp [World.setCell, Array.getElem?_modify, h2]
  · rw [Below.heap_setCell _ _ _ _ (fun e => hsm e.symm)]; exact hb

theorem lead_now1 (st : Drf.St) (b k : Nat) : (st.tickTo b k).lead k b = st.lead k b := by
  simp [Drf.St.tickTo]
theorem lead_now2 (st : Drf.St) (b k : Nat) (h : k ≠ b) : (st.tickTo b k).lead b k = st.lead b k := by
  have h' : b ≠ k := fun e => h e.symm
  simp [Drf.St.tickTo, h, h']
theorem put_other {kl kl' : Lit} (h : kl' ≠ kl) {D : DataW Unit} {c : Int} (hat : D.atKey kl' (.lit (.int .i64 0)) = .lit (.int .i64 c)) (v : Int) :
    (D.put kl (.lit (.int .i64 v))).atKey kl' (.lit (.int .i64 0)) = .lit (.int .i64 c) := by
  rw [Maps.atKey_put_other h]; exact hat
theorem put_here {kl : Lit} {D : DataW Unit} (hD : Maps.IsMap D) (hk : WideAt.IsKeyLit kl) {v v' : Int} (hat : (D.put kl (.lit (.int .i64 v))).atKey kl (.lit (.int .i64 0)) = .lit (.int .i64 v')) : v' = v := by
  rw [Maps.atKey_put_same hD hk] at hat
  simpa using hat.symm

theorem Clk.step {w u : World} {c s m n k k' : Nat} {st su : Drf.St} {D : DataW Unit} (h : Clk w c s m n k st) (hk : Kept [m] w u) (ho : u.ownsMap Try.prog 67 (plainElem Try.prog 3) m k' D) (hr : Rep n D su.lead)
    (ht : ∀ x, x < n → st.t x = su.t x := by intros; rfl) : Clk u c s m n k' su := by
  obtain ⟨_, h1, h2⟩ := h.ne
  exact ⟨hk.there h.box (by simpa using h2), by rw [← cellsTo_congr ht]; exact hk.there h.row (by simpa using h1), D, ho, hr⟩

theorem rep_put {n b k L1 L2 : Nat} {D : DataW Unit} {st : Drf.St} (hn : n ≤ 16) (hb : b < n) (hk : k < n) (hne : k ≠ b) (e1 : (st.tickTo b k).lead k b = L1) (e2 : (st.tickTo b k).lead b k = L2) (hD : Maps.IsMap D)
    (h : Rep n D (st.tickTo b k).lead) (h0 : ¬ L2 ≤ 2) : Rep n ((D.put (pk k b) (.lit (.int .i64 ((L1 : Int) + 1)))).put (pk b k) (.lit (.int .i64 ((L2 : Int) - 2)))) (st.tickTo b (k + 1)).lead := by
  have hD1 : Maps.IsMap (D.put (pk k b) (.lit (.int .i64 ((L1 : Int) + 1)))) := hD.put _ _
  constructor
  · intro x y hx hy hxy
    by_cases c1 : x = b ∧ y = k
    · obtain ⟨rfl, rfl⟩ := c1
      rw [Maps.atKey_put_same hD1 (key_pk hn hx hy), Drf.tickTo_down st x y hne, e2]
      congr 2
      omega
    · rw [Maps.atKey_put_other (pk_ne hn hx hy hb hk c1)]
      by_cases c2 : x = k ∧ y = b
      · obtain ⟨rfl, rfl⟩ := c2
        rw [Maps.atKey_put_same hD (key_pk hn hx hy), Drf.tickTo_up st y x hne, e1]
        congr 2
      · rw [Maps.atKey_put_other (pk_ne hn hx hy hk hb c2), Drf.tickTo_other st b k x y c2 c1]
        exact h.at_ x y hx hy hxy
  · intro kl hkl
    by_cases c1 : kl = pk b k
    · exact ⟨b, k, hb, hk, fun e => hne e.symm, c1⟩
    · rw [Maps.has_put_other c1] at hkl
      by_cases c2 : kl = pk k b
      · exact ⟨k, b, hk, hb, hne, c2⟩
      · rw [Maps.has_put_other c2] at hkl
        exact h.keys kl hkl

theorem rep_del {n b k L1 L2 : Nat} {D : DataW Unit} {st : Drf.St} (hn : n ≤ 16) (hb : b < n) (hk : k < n) (hne : k ≠ b) (e1 : (st.tickTo b k).lead k b = L1) (e2 : (st.tickTo b k).lead b k = L2) (hD : Maps.IsMap D)
    (h : Rep n D (st.tickTo b k).lead) (h0 : L2 ≤ 2) : Rep n (((D.put (pk k b) (.lit (.int .i64 ((L1 : Int) + 1)))).put (pk b k) (.lit (.int .i64 ((L2 : Int) - 2)))).del (pk b k)) (st.tickTo b (k + 1)).lead := by
  constructor
  · intro x y hx hy hxy
    by_cases c1 : x = b ∧ y = k
    · obtain ⟨rfl, rfl⟩ := c1
      rw [Maps.atKey_del_same, Drf.tickTo_down st x y hne, e2]
      congr 2
      omega
    · rw [Maps.atKey_del_other (pk_ne hn hx hy hb hk c1), Maps.atKey_put_other (pk_ne hn hx hy hb hk c1)]
      by_cases c2 : x = k ∧ y = b
      · obtain ⟨rfl, rfl⟩ := c2
        rw [Maps.atKey_put_same hD (key_pk hn hx hy), Drf.tickTo_up st y x hne, e1]
        congr 2
      · rw [Maps.atKey_put_other (pk_ne hn hx hy hk hb c2), Drf.tickTo_other st b k x y c2 c1]
        exact h.at_ x y hx hy hxy
  · intro kl hkl
    by_cases c1 : kl = pk b k
    · exact ⟨b, k, hb, hk, fun e => hne e.symm, c1⟩
    · rw [Maps.has_del_other c1, Maps.has_put_other c1] at hkl
      by_cases c2 : kl = pk k b
      · exact ⟨k, b, hk, hb, hne, c2⟩
      · rw [Maps.has_put_other c2] at hkl
        exact h.keys kl hkl

set_option maxHeartbeats 1000000 in
theorem tick_ok {w : World} {c s m n kk : Nat} {st : Drf.St} (h : Clk w c s m n kk st) (b : Nat) (hb : b < n) (hn : n ≤ 16) (hmay : Hid (st.may n b = true)) (ht : st.t b < 4611686018427387904) (hL : Drf.Low n st) (hkk : kk + 40 < maxLen) :
    Calls Try.prog 21 #[.pointer (some ⟨c, 0, none⟩), .int .i64 b] w fun e w' => e = .returned (.int .i64 0) ∧ Kept [s, m] w w' ∧ Clk w' c s m n (kk + 40) (st.tick b) := by
  have c1 := h.cell1
  have hc := has_yes h b (by omega) (by omega)
  have hm := may_yes h b hb hn
  rw [hmay.out] at hm
  have hmn := fun w => run_eql_map_nil (P := Try.prog) w 62 67 3 (some m) Try.underlying62
  have HL := Lib.hid hL
  have HK := Lib.hid hkk
  clear hL hkk
  go_enter Try.func21, Try.ntmps21
  go_wp2_with fail
  refine hc.mono ?_
  rintro e w' ⟨rfl, rfl⟩
  clear hc
  go_wp2_with fail
  refine hm.mono ?_
  rintro e w1 ⟨rfl, hk1⟩
  clear hm c1
  have h1 := h.kept hk1
  have c0 := h1.cell0
  have ct := h1.now b hb
  have hf : w1.frozen? ⟨s, b, none⟩ = false := by simp [World.frozen?, h1.row]
  have h2 := h1.raise b
  have c2 := h2.cell0
  have e2 : ((st.t b + 1 : Nat) : Int) = (st.t b : Int) + 1 := by omega
  rw [e2] at h2 c2
  have hk2 : Kept [s, m] w (w1.setCell ⟨s, b, none⟩ (.int .i64 ((st.t b : Int) + 1))) := (hk1.mono (by simp)).setCell (Or.inl (by simp)) _
  clear e2 h1 h
  go_wp2
  clear c2
  generalize w1.setCell ⟨s, b, none⟩ (.int .i64 ((st.t b : Int) + 1)) = W2 at h2 hk2 ⊢
  go_loopw [5, 40] (fun _ i wr => ∃ k : Nat, k ≤ n ∧ i = .int .i64 k ∧ Clk wr c s m n (kk + 2 * k) (st.tickTo b k) ∧ Kept [s, m] w wr) (fun _ i _ => n - (intOf i).toNat)
  case atStart => exact ⟨0, by omega, rfl, h2.congr (fun x _ => by simp only [Drf.St.tickTo]; split <;> simp_all) (fun x y _ _ => (Drf.tickTo_zero st b x y).symm), hk2⟩
  case round =>
    obtain ⟨k, hk, rfl, hclk, hkept⟩ := hrel
    by_cases hlt : k < n
    · by_cases hkb : k = b
      · subst hkb
        go_wp2
        go_roundw
        case rel => exact ⟨k + 1, by omega, by go_num, (hclk.congr (su := st.tickTo k (k + 1)) (fun x _ => rfl) (fun x y _ _ => (Drf.tickTo_skip st k x y).symm)).mono (show kk + 2 * k ≤ kk + 2 * (k + 1) by omega), hkept⟩
        case measure => simp [intOf]; omega
      · have hne : ((k : Int) == (b : Int)) = false := by simp; omega
        have HKB := Lib.hid hkb
        clear hkb
        have hcc := hclk
        have r1 := hclk.cell1
        obtain ⟨q1, q2, D, ho, hr⟩ := hclk
        have wk := wf_small k n hlt hn
        have wb := wf_small b n hb hn
        obtain ⟨L1, hL1, e1⟩ : ∃ L1 : Nat, L1 ≤ 100 ∧ (st.tickTo b k).lead k b = L1 := ⟨_, by rw [lead_now1 st b k]; exact Nat.le_trans (HL.out k b hlt HKB.out) (by decide), rfl⟩
        obtain ⟨L2, hL2, e2⟩ : ∃ L2 : Nat, L2 ≤ 100 ∧ (st.tickTo b k).lead b k = L2 := ⟨_, by rw [lead_now2 st b k HKB.out]; exact Nat.le_trans (HL.out b k hb (fun e => HKB.out e.symm)) (by decide), rfl⟩
        have x1 := hr.at_ k b hlt hb HKB.out
        have x2 := hr.at_ b k hb hlt (fun e => HKB.out e.symm)
        rw [e1] at x1
        rw [e2] at x2
        obtain ⟨hA, st1, u1, hE, hA2, hS⟩ := bump (w := wr.drew) ho (by have := HK.out; omega) wk wb x1
        obtain ⟨u2, hS1, ho2, hg2⟩ := hS ((L1 : Int) + 1) (WalkArith.wf_i64 (by omega))
        clear hS
        have p2 := put_other (pk_ne hn hb hlt hlt hb (fun e => HKB.out e.1.symm)) x2 ((L1 : Int) + 1)
        obtain ⟨hB, st2, u3, hF, hB2, hT⟩ := bump (w := u2.drew) ho2 (by have := HK.out; omega) wb wk p2
        obtain ⟨u4, hT1, ho4, hg4⟩ := hT ((L2 : Int) - 2) (WalkArith.wf_i64 (by omega))
        clear hT
        obtain ⟨v4, hC, hv4, _⟩ := ho4.lookup_int keyed Try.underlying62 Try.underlying3 (zero3 u4) (keyOf_pair b k wb wk)
        have e4 : v4 = (L2 : Int) - 2 := put_here (ho2.tidy keyed).isMap (key_pk hn hb hlt) hv4
        subst e4
        have HP := Lib.hid (And.intro e1 (And.intro e2 hr))
        have hw1 : IntKind.i64.wrap ((L1 : Int) + 1) = (L1 : Int) + 1 := IntWalk.i64_in _ (by omega)
        have hw2 : IntKind.i64.wrap ((L2 : Int) - 2) = (L2 : Int) - 2 := IntWalk.i64_in _ (by omega)
        have hw3 : wrap64 ((L1 : Int) + 1) = (L1 : Int) + 1 := IntWalk.wrap64_in _ (by omega)
        have hw4 : wrap64 ((L2 : Int) - 2) = (L2 : Int) - 2 := IntWalk.wrap64_in _ (by omega)
        have hc12 := Array.getElem?_eq_some_iff.1 q1
        have r2 : u2.cell? ⟨c, 1, none⟩ = some (.map (some m)) := by rw [World.cell?_of_block (hg2.block c hc12.1 (by have := hcc.ne.2.2; simp; omega))]; exact r1
        have r4 : u4.cell? ⟨c, 1, none⟩ = some (.map (some m)) := by rw [World.cell?_of_block (hg4.block c (Nat.lt_of_lt_of_le hc12.1 hg2.size) (by have := hcc.ne.2.2; simp; omega))]; exact r2
        have kept4 : Hid (Kept [m] wr u4) := ((((Kept.refl _ _).drew).grown hg2 (fun j e => by cases e; exact Or.inl (by simp))).drew).grown hg4 (fun j e => by cases e; exact Or.inl (by simp))
        clear e1 e2 x1 x2 p2 hv4 hr
        go_wp2
        go_region
        go_wp2
        go_region
        clear hA hE hA2 hS1 hB hF hB2 hT1 hw1 hw2 hw3 hw4
        by_cases h0 : L2 ≤ 2
        · go_wp2_with (first
            | (at_delete; refine wpList_delete_own _ rfl _ _ 62 67 rfl 3 keyed Try.underlying62 _ m _ _ rfl ho4 _ _ rfl (keyOf_pair b k wb wk) ?_; intro u5 ho5 hturn; go_frame)
            | go_in)
          have hk5 := ((kept4.out).turned hturn (by simp))
          go_roundw
          case rel => exact ⟨k + 1, by omega, by go_num, (hcc.step hk5 ((ho5.mono (by omega))) (rep_del hn hb hlt HKB.out HP.out.1 HP.out.2.1 (ho.tidy keyed).isMap HP.out.2.2 h0)), hkept.trans (hk5.mono (by simp))⟩
          case measure => simp [intOf]; omega
        · go_wp2
          go_roundw
          case rel => exact ⟨k + 1, by omega, by go_num, (hcc.step kept4.out ((ho4.mono (by omega))) (rep_put hn hb hlt HKB.out HP.out.1 HP.out.2.1 (ho.tidy keyed).isMap HP.out.2.2 h0)), hkept.trans (kept4.out.mono (by simp))⟩
          case measure => simp [intOf]; omega
    · obtain rfl : k = n := by omega
      go_wp2
      go_ret
      exact ⟨rfl, hkept, (hclk.congr (su := st.tick b) (fun x _ => rfl) (fun x y hx hy => Drf.tickTo_end st b k x y hx hy)).mono (show kk + 2 * k ≤ kk + 40 by omega)⟩
end Go.Proofs.Yteihlfeifnnpaaa
