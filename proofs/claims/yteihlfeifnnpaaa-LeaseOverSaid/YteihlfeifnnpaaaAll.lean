/- The walk of All: on a list without shards, and on one that holds one. -/
import Derived.Test.YteihlfeifnnpaaaSort
namespace Go.Proofs.Yteihlfeifnnpaaa
open Go.RowKit Go.Maps Go.WideMaps Go.WideElems
set_option maxRecDepth 100000

theorem lits33_inv (d : Nat) (v u : Value) (ls : List Lit) (h : Program.keyLits Try.prog (d + 2) 33 [v, u] = some ls) : ∃ a b, v = .int .i64 a ∧ u = .int .i64 b := by
  unfold Program.keyLits at h
  simp only [Try.underlying33, cells33] at h
  simp [cells3, List.range_succ] at h
  cases h1 : Program.keyLits Try.prog (d + 1) 3 [v] with
  | none => rw [h1] at h; simp at h
  | some l1 =>
    cases h2 : Program.keyLits Try.prog (d + 1) 3 [u] with
    | none => rw [h1, h2] at h; simp at h
    | some l2 =>
      obtain ⟨a, rfl, ha⟩ := lits3_inv d v l1 h1
      obtain ⟨b, rfl, hb⟩ := lits3_inv d u l2 h2
      exact ⟨a, b, rfl, rfl⟩

theorem keyOf_inv33 (v : Value) (kl : Lit) (h : keyOf Try.prog 33 v = some kl) : ∃ x : Int × Int, v = pairV x.1 x.2 := by
  unfold keyOf at h
  simp only [Try.underlying33, size2] at h
  by_cases hf : v.formed Try.prog 33 = true
  · have h2 : ∃ cs : Array Value, v = .agg cs ∧ cs.size = 2 := by
      cases v <;> simp [Value.formed, Try.underlying33, cells33] at hf
      exact ⟨_, rfl, hf⟩
    obtain ⟨⟨cs⟩, rfl, hs⟩ := h2
    match cs, hs with
    | [c0, c1], _ =>
      rw [if_pos (by simp [keyType33, hf])] at h
      cases hl : Program.keyLits Try.prog (117 + 2) 33 (Value.agg ⟨[c0, c1]⟩).cells.toList with
      | none => rw [hl] at h; simp at h
      | some ls =>
        obtain ⟨a, b, rfl, rfl⟩ := lits33_inv 117 c0 c1 ls hl
        exact ⟨(a, b), rfl⟩
  · rw [if_neg (by simp [hf])] at h
    cases h

/-- no shard is in it -/
def DEmpty (D : DataW Unit) : Prop := ∀ kl, Maps.has D kl = false

theorem empty_nil : DEmpty (.map []) := fun kl => by simp [Maps.has]

set_option maxHeartbeats 1000000 in
theorem all_empty {w : World} {c m k : Nat} {v : Value} {D : DataW Unit} (h : Lst w c m k v D) (hD : DEmpty D) :
    Calls Try.prog 14 #[.pointer (some ⟨c, 0, none⟩)] w fun e w' => e = .returned (.slice none 0 0) ∧ Kept [] w w' := by
  have hno := none_no h.box
  have c0 : w.cell? ⟨c, 0, none⟩ = some (.map (some m)) := cell_heap h.box 0
  have hown := h.map
  have HE : Hid (DEmpty D) := hD
  clear h hD
  go_enter Try.func14, Try.ntmps14
  go_wp2_with fail
  refine hno.mono ?_
  rintro e w' ⟨rfl, rfl⟩
  clear hno
  go_wp2_with (first
    | (at_range; refine wpList_range_own _ rfl _ 37 rfl 33 4 keyed33 Try.underlying37 _ m k _ rfl hown ?_; intro w0 hrg0 hg0 hs0)
    | go_in)
  go_frame
  go_loopw [3] (fun o wr => ∃ (cnt : Nat), wr.ranges Try.prog 33 (plainElem Try.prog 4) m w.heap.size k D (Maps.has D) cnt ∧ o = .slice none 0 0 ∧ Kept [] w wr)
    (fun _ wr => wr.rangeLeft m w.heap.size)
  case atStart => exact ⟨_, hrg0, rfl, (Kept.refl _ _).grown hg0 (fun _ e => by cases e)⟩
  case round =>
    obtain ⟨cnt, hrg, rfl, hkept⟩ := hrel
    go_wp2_with (first
      | (at_next; refine wpList_next_ranges _ rfl _ rfl 33 keyed33 (plainElem Try.prog 4) (fun x : Int × Int => pairV x.1 x.2) (fun c : Value => c) keyOf_inv33 (fun v _ _ => ⟨v, rfl⟩) m w.heap.size k _ _ _ rfl hrg ?_ ?_)
      | go_in)
    · intro _ hl0
      clear hrg hrg0 hown hl0
      go_wp2_with fail
      refine (order_s none 0 0 (by decide) _).mono ?_
      rintro e w' ⟨rfl, rfl⟩
      go_wp2
      go_ret
      exact ⟨rfl, hkept⟩
    · intro y1 y2 cv kl yd ys w1 cnt1 hkl hlx hy hat hrg1 hlt hg1 hs1 hen
      rw [HE.out] at hlx
      cases hlx
theorem info33 : (Try.prog.info? 33).map (fun i => (i.zero, i.size, i.bytes)) = some (some (pairV 0 0), 2, 16) := by kernel_rfl

theorem oneD_has {b i : Int} {kl : Lit} (h : Maps.has (oneD b i) kl = true) : kl = sk b i := by
  by_cases e : kl = sk b i
  · exact e
  · unfold oneD at h
    rw [Maps.has_put_other e] at h
    simp [Maps.has] at h
theorem oneD_key {b i : Int} (hb : (Lit.int .i64 b).wf = true) (hi : (Lit.int .i64 i).wf = true) : Maps.has (oneD b i) (sk b i) = true := by
  cases e : Maps.has (oneD b i) (sk b i) with
  | true => rfl
  | false =>
    have h1 := oneD_at hb hi
    rw [Maps.atKey_of_not_has e] at h1
    simp at h1

theorem news2 (w : World) (x y : Value) (t : TypeId) : ∀ j u, [x, y][j]? = some u → (w.alloc (.cells #[x, y] t)).cell? ((⟨w.heap.size, 0, none⟩ : Addr).add j) = some u := by
  intro j u hj
  have hb := (MapKept.heap_alloc w (.cells #[x, y] t)).1
  match j, hj with
  | 0, hj => simp at hj; subst hj; exact cell_heap hb 0
  | 1, hj => simp at hj; subst hj; exact cell_heap hb 1
  | j + 2, hj => simp at hj

set_option maxHeartbeats 1000000 in
theorem all_one {w : World} {c m k : Nat} {v : Value} {b i : Int} (hb : (Lit.int .i64 b).wf = true) (hi : (Lit.int .i64 i).wf = true) (h : Lst w c m k v (oneD b i)) :
    Calls Try.prog 14 #[.pointer (some ⟨c, 0, none⟩)] w fun e w' => ∃ g cap, e = .returned (.slice (some ⟨g, 0, none⟩) 1 cap) ∧ Kept [] w w' ∧ w'.ownsRow w.heap.size 33 2 (.slice (some ⟨g, 0, none⟩) 1 cap) 1 [.int .i64 b, .int .i64 i] := by
  obtain ⟨i0, hi0, hz0, hz1, hz2⟩ := info_parts info33
  have hno := none_no h.box
  have c0 : w.cell? ⟨c, 0, none⟩ = some (.map (some m)) := cell_heap h.box 0
  have hown := h.map
  have HK : Hid (Maps.has (oneD b i) (sk b i) = true) := oneD_key hb hi
  have HQ : Hid (keyOf Try.prog 33 (pairV b i) = some (sk b i)) := keyOf_sk b i hb hi
  clear h
  go_enter Try.func14, Try.ntmps14
  go_wp2_with fail
  refine hno.mono ?_
  rintro e w' ⟨rfl, rfl⟩
  clear hno
  go_wp2_with (first
    | (at_range; refine wpList_range_own _ rfl _ 37 rfl 33 4 keyed33 Try.underlying37 _ m k _ rfl hown ?_; intro w0 hrg0 hg0 hs0)
    | go_in)
  go_frame
  go_loopw [3] (fun o wr => ∃ (left : Lit → Bool) (cnt : Nat), wr.ranges Try.prog 33 (plainElem Try.prog 4) m w.heap.size k (oneD b i) left cnt ∧ Kept [] w wr ∧
      Hid ((o = .slice none 0 0 ∧ left = Maps.has (oneD b i)) ∨ (∃ g cap, o = .slice (some ⟨g, 0, none⟩) 1 cap ∧ (∀ kl, left kl = false) ∧ wr.ownsRow w.heap.size 33 2 (.slice (some ⟨g, 0, none⟩) 1 cap) 1 [.int .i64 b, .int .i64 i])))
    (fun _ wr => wr.rangeLeft m w.heap.size)
  case atStart => exact ⟨_, _, hrg0, (Kept.refl _ _).grown hg0 (fun _ e => by cases e), Or.inl ⟨rfl, rfl⟩⟩
  case round =>
    obtain ⟨left, cnt, hrg, hkept, hst⟩ := hrel
    rcases hst.out with ⟨rfl, rfl⟩ | ⟨g, cap, rfl, hl, hrow⟩
    · clear hst
      go_wp2_with (first
        | (at_next; refine wpList_next_ranges _ rfl _ rfl 33 keyed33 (plainElem Try.prog 4) (fun x : Int × Int => pairV x.1 x.2) (fun c : Value => c) keyOf_inv33 (fun v _ _ => ⟨v, rfl⟩) m w.heap.size k _ _ _ rfl hrg ?_ ?_)
        | go_in)
      · intro _ hl0
        exfalso
        have := HK.out
        rw [hl0] at this
        cases this
      · intro y1 y2 cv kl yd ys w1 cnt1 hkl hlx hy hat hrg1 hlt hg1 hs1 hen
        have e1 := oneD_has hlx
        subst e1
        have e2 := keyed33.inj hkl HQ.out
        simp [pairV] at e2
        obtain ⟨rfl, rfl⟩ := e2
        clear hy hat hkl hlx
        have hk1 : Kept [] w w1 := hkept.grown hg1 (fun j e => by cases e; exact Or.inr (Nat.le_refl _))
        have hnw : Hid (∀ j u, ([.int .i64 y1, .int .i64 y2] : List Value)[j]? = some u → ((w1.alloc (.cells #[.int .i64 y1, .int .i64 y2] 33)).alloc (.cells #[.int .i64 y1, .int .i64 y2] 33)).cell? ((⟨wr.heap.size + 1, 0, none⟩ : Addr).add j) = some u) := by
          have := news2 (w1.alloc (.cells #[.int .i64 y1, .int .i64 y2] 33)) (.int .i64 y1) (.int .i64 y2) 33
          rw [World.size_alloc, hs1] at this
          exact this
        have hone : Hid (∀ u ∈ ([.int .i64 y1, .int .i64 y2] : List Value), u.oneCell' = true) := by
          intro u hu; simp at hu; rcases hu with rfl | rfl <;> rfl
        have hbs : Hid (w.heap.size ≤ ((w1.alloc (.cells #[.int .i64 y1, .int .i64 y2] 33)).alloc (.cells #[.int .i64 y1, .int .i64 y2] 33)).heap.size) := by
          show w.heap.size ≤ ((w1.alloc (.cells #[.int .i64 y1, .int .i64 y2] 33)).alloc (.cells #[.int .i64 y1, .int .i64 y2] 33)).heap.size
          rw [World.size_alloc, World.size_alloc, hs1]; have := hkept.size; omega
        have hk2 : Hid (Kept [] w ((w1.alloc (.cells #[.int .i64 y1, .int .i64 y2] 33)).alloc (.cells #[.int .i64 y1, .int .i64 y2] 33))) := (hk1.alloc _).alloc _
        have hrg2 := (hrg1.alloc (.cells #[.int .i64 y1, .int .i64 y2] 33)).alloc (.cells #[.int .i64 y1, .int .i64 y2] 33)
        go_wp2_with (first
          | (at_builtin; refine wpList_append_lies _ rfl _ _ 29 rfl w.heap.size 33 i0 (pairV 0 0) 2 16 Try.underlying29 hi0 hz0 hz1 hz2 rfl (by decide) (.slice none 0 0) 0 [] rfl ⟨rfl, Or.inl ⟨rfl, rfl⟩⟩ ⟨wr.heap.size + 1, 0, none⟩ 1 1 [.int .i64 y1, .int .i64 y2] rfl rfl hnw.out hone.out (by decide) (by decide) (by decide) hbs.out _ rfl ?_; intro g cap w2 hown2 hgrow hat hglt)
          | go_in)
        have hrg3 := hrg2.kept hgrow (by simp [Value.ownBlock]) (by simp [Value.ownBlock])
        have hk3 : Kept [] w w2 := hk2.out.grown hgrow (fun j e => by simp [Value.ownBlock] at e)
        go_roundw
        case rel => exact ⟨_, cnt1, hrg3, hk3, Or.inr ⟨g, cap, rfl, fun kl => by
          cases e : Maps.has (oneD y1 y2) kl with
          | false => simp
          | true => rw [oneD_has e]; simp [WideAt.sameKey_self (key_sk hb hi)], hown2⟩⟩
        case measure => rw [hrg3.left_eq, hrg.left_eq]; exact hlt
    · have HL : Hid (∀ kl, left kl = false) := hl
      have HR := Lib.hid hrow
      clear hst hl hrow
      go_wp2_with (first
        | (at_next; refine wpList_next_ranges _ rfl _ rfl 33 keyed33 (plainElem Try.prog 4) (fun x : Int × Int => pairV x.1 x.2) (fun c : Value => c) keyOf_inv33 (fun v _ _ => ⟨v, rfl⟩) m w.heap.size k _ _ _ rfl hrg ?_ ?_)
        | go_in)
      · intro _ hl0
        clear hrg hrg0 hown hl0
        go_wp2_with fail
        refine (order_s _ 1 _ (by decide) _).mono ?_
        rintro e w' ⟨rfl, rfl⟩
        go_wp2
        go_ret
        exact ⟨g, cap, rfl, hkept, HR.out⟩
      · intro y1 y2 cv kl yd ys w1 cnt1 hkl hlx hy hat hrg1 hlt hg1 hs1 hen
        rw [HL.out] at hlx
        cases hlx
end Go.Proofs.Yteihlfeifnnpaaa
