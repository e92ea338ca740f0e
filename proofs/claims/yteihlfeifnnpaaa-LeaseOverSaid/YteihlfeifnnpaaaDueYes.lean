/- The walk of Due where the one item is due. -/
import Derived.Test.YteihlfeifnnpaaaHpop
namespace Go.Proofs.Yteihlfeifnnpaaa
open Go.RowKit Go.Maps Go.WideMaps Go.WideElems
set_option maxRecDepth 100000

theorem del_empty {b i : Int} : DEmpty ((oneD b i).del (sk b i)) := by
  intro kl
  by_cases e : kl = sk b i
  · subst e; exact Maps.has_del_same
  · rw [Maps.has_del_other e]
    cases h : Maps.has (oneD b i) kl with
    | false => rfl
    | true => exact absurd (oneD_has h) e

set_option maxHeartbeats 4000000 in
theorem due_yes {w : World} {c m k : Nat} {g cap : Nat} {b i d : Int} (t : Int) (hwb : (Lit.int .i64 b).wf = true) (hwi : (Lit.int .i64 i).wf = true) (h : Lst w c m k (.slice (some ⟨g, 0, none⟩) 1 cap) (oneD b i)) (hr : Row1 w g cap b i d) (ht : d ≤ timeI t) :
    Calls Try.prog 16 #[.pointer (some ⟨c, 0, none⟩), .int .i64 t] w fun e w' => ∃ g' cap', e = .returned (.slice (some ⟨g', 0, none⟩) 1 cap') ∧ Kept [c, m] w w' ∧
      w'.ownsRow w.heap.size 33 2 (.slice (some ⟨g', 0, none⟩) 1 cap') 1 [.int .i64 b, .int .i64 i] ∧ ∃ D, Lst w' c m k (.slice (some ⟨g, 0, none⟩) 0 cap) D ∧ DEmpty D := by
  obtain ⟨i0, hi0, hz0, hz1, hz2⟩ := info_parts info33
  have hno := none_no h.box
  have hne := h.ne
  have has := assert54
  have c1 : w.cell? ⟨c, 1, none⟩ = some (.slice (some ⟨g, 0, none⟩) 1 cap) := cell_heap h.box 1
  obtain ⟨_, _, r2⟩ := row1_cells hr
  have hd : decide (d ≤ timeI t) = true := decide_eq_true ht
  have HL := Lib.hid h
  have HR := Lib.hid hr
  clear h hr
  go_enter Try.func16, Try.ntmps16
  go_wp2_with fail
  refine hno.mono ?_
  rintro e w' ⟨rfl, rfl⟩
  clear hno
  go_wp2
  refine wp_loop_rounds 2 ?_
  rw [rounds_succ]
  go_wp2
  go_quiet (first | (go_at_call 27; exact Calls.quiet_of_same (len_1 _ _ _)) | (go_at_call 22; exact Calls.quiet_of_same (time_any _ _)))
  clear c1 r2
  go_wp2_with fail
  refine (hpop (w := World.drewN _ _) HL.out.box HR.out).mono ?_
  rintro e w1 ⟨rfl, hk1, hb1⟩
  have HK1 : Hid (Kept [c] _ w1) := ((Kept.refl _ _).drewN _).trans hk1
  clear hk1
  have HM1 : Hid (w1.ownsMap Try.prog 33 (plainElem Try.prog 4) m k (oneD b i)) := by
    obtain ⟨es, clock, hm, r⟩ := HL.out.map
    exact ⟨es, clock, HK1.out.there hm (by simpa using fun e => hne e.symm), r⟩
  clear HL HR
  have hlt1 := (Array.getElem?_eq_some_iff.1 hb1).1
  obtain ⟨A, hA⟩ : ∃ A, A = w1.alloc (.cells #[.int .i64 b, .int .i64 i, .int .i64 d] 54) := ⟨_, rfl⟩
  have hbA : A.heap[c]? = some (.cells #[.map (some m), .slice (some ⟨g, 0, none⟩) 0 cap] 41 (0, 0)) := by
    rw [hA, Below.heap_alloc _ _ _ hlt1]; exact hb1
  have hnA : A.heap[w1.heap.size]? = some (.cells #[.int .i64 b, .int .i64 i, .int .i64 d] 54 (0, 0)) := by
    rw [hA]; exact (MapKept.heap_alloc w1 _).1
  have HMA : A.ownsMap Try.prog 33 (plainElem Try.prog 4) m k (oneD b i) := by rw [hA]; exact HM1.out.alloc _
  have hKA : Hid (Kept [c] w A) := by rw [hA]; exact HK1.out.alloc _
  have a0 : A.cell? ⟨c, 0, none⟩ = some (.map (some m)) := cell_heap hbA 0
  have n0 : A.cell? ⟨w1.heap.size, 0, none⟩ = some (.int .i64 b) := cell_heap hnA 0
  have n1 : A.cell? ⟨w1.heap.size, 1, none⟩ = some (.int .i64 i) := cell_heap hnA 1
  have hmlt : m ≠ w1.heap.size := by have := HM1.out.lt; omega
  obtain ⟨U, hdel, hoU, htU⟩ := World.ownsMap.drop (w := A.drew) HMA keyed33 Try.underlying37 (keyOf_sk b i hwb hwi) 0
  have hKU : Hid (Kept [c, m] w U) := (hKA.out.drew.mono (by simp)).turned htU (by simp)
  have hkk : Kept [m] A.drew U := (Kept.refl _ _).turned htU (by simp)
  have hbU := hkk.there (show A.drew.heap[c]? = _ from hbA) (by simpa using hne)
  have hnU := hkk.there (show A.drew.heap[w1.heap.size]? = _ from hnA) (by simpa using fun e => hmlt e.symm)
  have u0 : U.cell? ⟨w1.heap.size, 0, none⟩ = some (.int .i64 b) := cell_heap hnU 0
  have u1 : U.cell? ⟨w1.heap.size, 1, none⟩ = some (.int .i64 i) := cell_heap hnU 1
  have hle : w.heap.size ≤ U.heap.size := hKU.out.size
  have HBU := Lib.hid hbU
  have HMU : Hid (U.ownsMap Try.prog 33 (plainElem Try.prog 4) m k ((oneD b i).del (sk b i))) := hoU
  clear hoU htU hkk hbU hnU hbA hnA HMA HM1 hb1 hlt1 HK1
  have HA := Lib.hid hA
  clear hA
  go_wp2
  rw [← HA.out]
  go_still_tail 6, (by kernel_rfl)
  change wpList _ _ _ _ _ A.drew
  clear HA a0 n0 n1 hKA hmlt
  have hnw : Hid (∀ j u, ([.int .i64 b, .int .i64 i] : List Value)[j]? = some u → (U.alloc (.cells #[.int .i64 b, .int .i64 i] 33)).cell? ((⟨U.heap.size, 0, none⟩ : Addr).add j) = some u) := news2 U (.int .i64 b) (.int .i64 i) 33
  have hone : Hid (∀ u ∈ ([.int .i64 b, .int .i64 i] : List Value), u.oneCell' = true) := by
    intro u hu; simp at hu; rcases hu with rfl | rfl <;> rfl
  have hbs : Hid (w.heap.size ≤ (U.alloc (.cells #[.int .i64 b, .int .i64 i] 33)).heap.size) := by
    show w.heap.size ≤ (U.alloc (.cells #[.int .i64 b, .int .i64 i] 33)).heap.size
    rw [World.size_alloc]; omega
  go_wp2_with (first
    | (at_builtin; refine wpList_append_lies _ rfl _ _ 29 rfl w.heap.size 33 i0 (pairV 0 0) 2 16 Try.underlying29 hi0 hz0 hz1 hz2 rfl (by decide) (.slice none 0 0) 0 [] rfl ⟨rfl, Or.inl ⟨rfl, rfl⟩⟩ ⟨U.heap.size, 0, none⟩ 1 1 [.int .i64 b, .int .i64 i] rfl rfl hnw.out hone.out (by decide) (by decide) (by decide) hbs.out _ rfl ?_; intro g' cap' w2 hown2 hgrow hat hglt)
    | go_in)
  have hK2 : Hid (Kept [c, m] w w2) := (hKU.out.alloc _).grown hgrow (fun j e => by simp [Value.ownBlock] at e)
  have hkk2 : Kept [] U w2 := ((Kept.refl _ _).alloc _).grown hgrow (fun j e => by simp [Value.ownBlock] at e)
  have hb2 := hkk2.here HBU.out
  have c2 : w2.cell? ⟨c, 1, none⟩ = some (.slice (some ⟨g, 0, none⟩) 0 cap) := cell_heap hb2 1
  have HE : Hid (∃ D, Lst w2 c m k (.slice (some ⟨g, 0, none⟩) 0 cap) D ∧ DEmpty D) := by
    obtain ⟨es, clock, hm, r⟩ := HMU.out
    exact ⟨_, ⟨hb2, es, clock, hkk2.here hm, r⟩, del_empty⟩
  have HO := Lib.hid hown2
  clear hown2 hgrow hat hglt hkk2 hb2 HMU HBU hKU u0 u1
  rw [rounds_succ]
  go_wp2
  go_quiet (first | (go_at_call 27; exact Calls.quiet_of_same (len_0 _ _ _)) | (go_at_call 22; exact Calls.quiet_of_same (time_any _ _)))
  go_wp2_with fail
  refine (order_s _ 1 _ (by decide) _).mono ?_
  rintro e w' ⟨rfl, rfl⟩
  go_wp2
  go_ret
  obtain ⟨D, hD, hE⟩ := HE.out
  exact ⟨g', cap', rfl, hK2.out.drewN _, HO.out, D, ⟨hD.box, hD.map⟩, hE⟩
end Go.Proofs.Yteihlfeifnnpaaa
