/- The clocks' map of leads: its keys (pairs of ints), its look-ups, and the two halves of 'm[k]++' in whatever order. -/
import Derived.Test.YteihlfeifnnpaaaRows
import Derived.Test.YteihlfeifnnpaaaPlain
import Derived.WalkKit
import Derived.ProofKit
import Derived.WideKeyEntry
import Derived.DeepKeys4
import Derived.Maps.RangeWalk
import Derived.Maps.OwnSet
import Derived.Deep.QuietTactic
import Derived.BigQuiet
import Derived.BigRegion
import Derived.Lib.Hide
namespace Go.Proofs.Yteihlfeifnnpaaa
open Go.RowKit Go.Maps Go.WideMaps Go.WideElems
open Go.ChangeMaps (setBlock heap_setBlock_same heap_setBlock_other modify_eq_set)

theorem laidOut : laidOutB Try.prog = true := by kernel_rfl
theorem typesSize : Try.prog.types.size = 118 := by kernel_rfl
theorem row67 : (67 : TypeId) < Try.prog.types.size := of_decide_eq_true (by kernel_rfl)
theorem wide67 : (match Try.prog.underlying 67 with | some (.array _ _) | some (.struct _) => true | _ => false) = true := by kernel_rfl
theorem keyLaw : KeyLaw Try.prog 67 := deep_law_laid laidOut (m := 3) (by omega) row67 (by kernel_rfl) wide67
theorem keyed : Keyed Try.prog 67 := Keyed.of_law keyLaw
theorem keyType67 : Try.prog.keyType 67 = true := by kernel_rfl
theorem cells67 : Try.prog.cellsOf 67 = 2 := by kernel_rfl
theorem cells3 : Try.prog.cellsOf 3 = 1 := by kernel_rfl
theorem zero3 (w : World) : (zeroValue 3).run Try.prog w = .ok (.int .i64 0) w := by kernel_rfl

abbrev pairV (a b : Int) : Value := .agg #[.int .i64 a, .int .i64 b]

theorem lits3 (d : Nat) (a : Int) (ha : (Lit.int .i64 a).wf = true) : Program.keyLits Try.prog (d + 1) 3 [.int .i64 a] = some [.int .i64 a] := by
  unfold Program.keyLits
  simp only [Try.underlying3]
  simp [ha]

theorem lits67 (d : Nat) (a b : Int) (ha : (Lit.int .i64 a).wf = true) (hb : (Lit.int .i64 b).wf = true) : Program.keyLits Try.prog (d + 2) 67 [.int .i64 a, .int .i64 b] = some [.int .i64 a, .int .i64 b] := by
  unfold Program.keyLits
  simp only [Try.underlying67, cells67]
  simp [cells3, lits3 d a ha, lits3 d b hb]

theorem lits3_inv (d : Nat) (v : Value) (ls : List Lit) (h : Program.keyLits Try.prog (d + 1) 3 [v] = some ls) : ∃ a, v = .int .i64 a ∧ (Lit.int .i64 a).wf = true := by
  unfold Program.keyLits at h
  simp only [Try.underlying3] at h
  cases v <;> simp at h
  obtain ⟨⟨rfl, hw⟩, _⟩ := h
  exact ⟨_, rfl, hw⟩

theorem lits67_inv (d : Nat) (v u : Value) (ls : List Lit) (h : Program.keyLits Try.prog (d + 2) 67 [v, u] = some ls) : ∃ a b, v = .int .i64 a ∧ u = .int .i64 b ∧ (Lit.int .i64 a).wf = true ∧ (Lit.int .i64 b).wf = true := by
  unfold Program.keyLits at h
  simp only [Try.underlying67, cells67] at h
  simp [cells3] at h
  cases h1 : Program.keyLits Try.prog (d + 1) 3 [v] with
  | none => rw [h1] at h; simp at h
  | some l1 =>
    cases h2 : Program.keyLits Try.prog (d + 1) 3 [u] with
    | none => rw [h1, h2] at h; simp at h
    | some l2 =>
      obtain ⟨a, rfl, ha⟩ := lits3_inv d v l1 h1
      obtain ⟨b, rfl, hb⟩ := lits3_inv d u l2 h2
      exact ⟨a, b, rfl, rfl, ha, hb⟩

theorem size2 : Try.prog.types.size + 1 = 117 + 2 := by rw [typesSize]

theorem keyOf_pair_some (a b : Int) (ha : (Lit.int .i64 a).wf = true) (hb : (Lit.int .i64 b).wf = true) : ∃ kl, keyOf Try.prog 67 (pairV a b) = some kl := by
  have hf : (pairV a b).formed Try.prog 67 = true := by simp [Value.formed, Try.underlying67, cells67]
  have hl := lits67 117 a b ha hb
  rw [← size2] at hl
  unfold keyOf
  simp only [Try.underlying67, keyType67, hf]
  have hc : (pairV a b).cells.toList = [.int .i64 a, .int .i64 b] := rfl
  rw [hc, hl]
  exact ⟨_, rfl⟩

theorem keyOf_inv (v : Value) (kl : Lit) (h : keyOf Try.prog 67 v = some kl) : ∃ x : Int × Int, v = pairV x.1 x.2 ∧ (Lit.int .i64 x.1).wf = true ∧ (Lit.int .i64 x.2).wf = true := by
  unfold keyOf at h
  simp only [Try.underlying67, size2] at h
  by_cases hf : v.formed Try.prog 67 = true
  · have h2 : ∃ cs : Array Value, v = .agg cs ∧ cs.size = 2 := by
      cases v <;> simp [Value.formed, Try.underlying67, cells67] at hf
      exact ⟨_, rfl, hf⟩
    obtain ⟨⟨cs⟩, rfl, hs⟩ := h2
    match cs, hs with
    | [c0, c1], _ =>
      rw [if_pos (by simp [keyType67, hf])] at h
      cases hl : Program.keyLits Try.prog (117 + 2) 67 (Value.agg ⟨[c0, c1]⟩).cells.toList with
      | none => rw [hl] at h; simp at h
      | some ls =>
        obtain ⟨a, b, rfl, rfl, ha, hb⟩ := lits67_inv 117 c0 c1 ls hl
        exact ⟨(a, b), rfl, ha, hb⟩
  · rw [if_neg (by simp [hf])] at h
    cases h

/-- what a pair of clocks reads as, as a key -/
noncomputable def pk (a b : Int) : Lit := (keyOf Try.prog 67 (pairV a b)).getD .nil

theorem keyOf_pair (a b : Int) (ha : (Lit.int .i64 a).wf = true) (hb : (Lit.int .i64 b).wf = true) : keyOf Try.prog 67 (pairV a b) = some (pk a b) := by
  obtain ⟨kl, h⟩ := keyOf_pair_some a b ha hb
  unfold pk; rw [h]; rfl

theorem pk_inj {a b c d : Int} (ha : (Lit.int .i64 a).wf = true) (hb : (Lit.int .i64 b).wf = true) (hc : (Lit.int .i64 c).wf = true) (hd : (Lit.int .i64 d).wf = true) (h : pk a b = pk c d) : a = c ∧ b = d := by
  have h1 := keyOf_pair a b ha hb
  have h2 := keyOf_pair c d hc hd
  rw [← h] at h2
  have e := keyed.inj h1 h2
  simp [pairV] at e
  exact e

/-! ### what stays -/

/-- nothing that was there has turned, but the blocks on the list -/
structure Kept (bs : List Nat) (w w' : World) : Prop where
  os : w'.os = w.os
  tape : w'.tape = w.tape
  output : w'.output = w.output
  size : w.heap.size ≤ w'.heap.size
  block : ∀ i, i < w.heap.size → i ∉ bs → w'.heap[i]? = w.heap[i]?

theorem Kept.refl (bs : List Nat) (w : World) : Kept bs w w := ⟨rfl, rfl, rfl, Nat.le_refl _, fun _ _ _ => rfl⟩
theorem Kept.trans {bs : List Nat} {a b c : World} (h : Kept bs a b) (k : Kept bs b c) : Kept bs a c :=
  ⟨k.os.trans h.os, k.tape.trans h.tape, k.output.trans h.output, Nat.le_trans h.size k.size, fun i hi hn => (k.block i (Nat.lt_of_lt_of_le hi h.size) hn).trans (h.block i hi hn)⟩
theorem Kept.mono {bs cs : List Nat} {w w' : World} (h : Kept bs w w') (hs : ∀ b, b ∈ bs → b ∈ cs) : Kept cs w w' :=
  ⟨h.os, h.tape, h.output, h.size, fun i hi hn => h.block i hi (fun e => hn (hs i e))⟩
theorem Kept.drew {bs : List Nat} {a w : World} (h : Kept bs a w) : Kept bs a w.drew := ⟨h.os, h.tape, h.output, h.size, h.block⟩
theorem Kept.drewN {bs : List Nat} {a w : World} (h : Kept bs a w) (n : Nat) : Kept bs a (w.drewN n) := ⟨h.os, h.tape, h.output, h.size, h.block⟩
theorem Kept.alloc {bs : List Nat} {a w : World} (h : Kept bs a w) (o : Obj) : Kept bs a (w.alloc o) :=
  h.trans ⟨rfl, rfl, rfl, by simp, fun i hi _ => Below.heap_alloc w o i hi⟩
theorem Kept.setCell {bs : List Nat} {a w : World} (h : Kept bs a w) {p : Addr} (hp : p.block ∈ bs ∨ a.heap.size ≤ p.block) (u : Value) : Kept bs a (w.setCell p u) := by
  refine ⟨h.os, h.tape, h.output, by simpa [World.setCell] using h.size, fun i hi hn => ?_⟩
  rw [Below.heap_setCell w p u i (fun e => by subst e; rcases hp with hp | hp; exact hn hp; omega)]
  exact h.block i hi hn
theorem Kept.grown {bs : List Nat} {a w w' : World} {row : Option Nat} (h : Kept bs a w) (hg : w.grownBy w' row) (hr : ∀ k, row = some k → k ∈ bs ∨ a.heap.size ≤ k) : Kept bs a w' :=
  ⟨hg.os.trans h.os, hg.tape.trans h.tape, hg.output.trans h.output, Nat.le_trans h.size hg.size, fun i hi hn => (hg.block i (Nat.lt_of_lt_of_le hi h.size) (fun e => by rcases hr i e.symm with h1 | h1; exact hn h1; omega)).trans (h.block i hi hn)⟩
theorem Kept.turned {bs : List Nat} {a w w' : World} {b : Nat} (h : Kept bs a w) (ht : w.mapTurned w' b) (hb : b ∈ bs) : Kept bs a w' :=
  h.grown (row := some b) ht.grown (fun k e => by cases e; exact Or.inl hb)
theorem Kept.below {bs : List Nat} {w w' : World} {B : Nat} (h : Kept bs w w') (hB : B ≤ w.heap.size) (hb : ∀ b, b ∈ bs → B ≤ b) : Below B w w' :=
  ⟨h.os, h.tape, h.output, h.size, fun k hk => h.block k (by omega) (fun e => by have := hb k e; omega)⟩
theorem Kept.here {w w' : World} (h : Kept [] w w') {i : Nat} {o : Obj} (hi : w.heap[i]? = some o) : w'.heap[i]? = some o := by
  rw [h.block i (Array.getElem?_eq_some_iff.1 hi).1 (by simp)]; exact hi
theorem Kept.there {bs : List Nat} {w w' : World} (h : Kept bs w w') {i : Nat} {o : Obj} (hi : w.heap[i]? = some o) (hn : i ∉ bs) : w'.heap[i]? = some o := by
  rw [h.block i (Array.getElem?_eq_some_iff.1 hi).1 hn]; exact hi

/-! ### the two halves of 'm[k] op= c', in whatever order with the look-up -/

theorem entry_any {H : Type} {P : Program} {w : World} {t k e : TypeId} {R : Value → Option (DataW H × List MemPlace)} {b : Nat} {es : Array MapEntry} {clock : Nat}
    (K : KeyLaw P k) (ht : P.underlying t = some (.map k e)) {z : Value} (hz : ∀ u : World, (zeroValue e).run P u = .ok z u) (hb : w.heap[b]? = some (.map es clock)) (F : Fit P k R es clock)
    {key : Value} {kl : Lit} (hkey : keyOf P k key = some kl) :
    ∃ (v0 : Value) (st : Nat) (es1 : Array MapEntry) (clock1 : Nat), (Instr.mapEntry t (.map (some b)) key).run P w = .ok (.tuple #[v0, goInt st]) (setBlock w b (.map es1 clock1)) ∧
      (Instr.lookup t (.map (some b)) key false).run P w = .ok v0 w ∧
      (∀ w2 : World, w2.heap[b]? = some (.map es1 clock1) → (Instr.lookup t (.map (some b)) key false).run P w2 = .ok v0 w2) ∧
      ∀ (w2 : World) (val : Value), w2.heap[b]? = some (.map es1 clock1) → ∃ es' clock', (Instr.entryStore t (.map (some b)) (goInt st) val).run P w2 = .ok () (setBlock w2 b (.map es' clock')) ∧
        (Instr.mapUpdate t (.map (some b)) key val).run P w = .ok () (setBlock w b (.map es' clock')) := by
  obtain ⟨s1, s2, _⟩ := F.stamped
  rcases K.find w hkey es.toList F.keys with ⟨h1, h2⟩ | ⟨j, e0, h1, h2, h3⟩
  · refine ⟨z, clock, es.push ⟨key, z, clock⟩, clock + 1, ?_, ?_, fun w2 hw2 => ?_, fun w2 val hw2 => ⟨es.push ⟨key, val, clock⟩, clock + 1, ?_, ?_⟩⟩
    · simp [Instr.mapEntry, run_underlying ht, MapKept.run_getObj_map hb, K.check w false hkey, h1, hz, MapKept.run_setObj_map _ hb, Result.andThen, setBlock]
    · simp [Instr.lookup, run_underlying ht, MapKept.run_getObj_map hb, K.check w _ hkey, h1, hz, Result.andThen]
    · have hkeys : ∀ x ∈ (es.push ⟨key, z, clock⟩).toList, ∃ l, keyOf P k x.key = some l := by
        intro x hx
        rw [Array.toList_push, List.mem_append] at hx
        rcases hx with hx | hx
        · exact F.keys x hx
        · simp at hx; subst hx; exact ⟨kl, hkey⟩
      rcases K.find w2 hkey _ hkeys with ⟨_, g2⟩ | ⟨j, e0, g1, g2, g3⟩
      · exact absurd rfl (g2 ⟨key, z, clock⟩ (by simp))
      · have hm := List.mem_of_getElem? g2
        rw [Array.toList_push, List.mem_append] at hm
        have hv : e0.val = z := by
          rcases hm with hm | hm
          · exact absurd g3 (h2 e0 hm)
          · simp at hm; rw [hm]
        rw [hv] at g1
        rw [Array.toList_push] at g1
        simp [Instr.lookup, run_underlying ht, MapKept.run_getObj_map hw2, K.check w2 _ hkey, g1, Result.andThen]
    · have hidx : (es.push ⟨key, z, clock⟩).findIdx? (fun e => ((e.born : Nat) : Int) == ((clock : Nat) : Int)) = some es.size := by
        rw [findIdx_arr]
        have := findIdx_born (l := (es.push ⟨key, z, clock⟩).toList) (j := es.size) (e0 := ⟨key, z, clock⟩) (by
          simp only [Array.toList_push, List.map_append, List.map_cons, List.map_nil]
          refine List.nodup_append.2 ⟨s2, by simp, fun a ha c hc e1 => ?_⟩
          simp only [List.mem_singleton] at hc
          obtain ⟨x, hx, rfl⟩ := List.mem_map.1 ha
          have := s1 x hx
          omega) (by simp)
        exact this
      have hmod : (es.push ⟨key, z, clock⟩).modify es.size (fun e => { e with val := val }) = es.push ⟨key, val, clock⟩ := by
        apply Array.ext'
        rw [Array.toList_modify, Array.toList_push, Array.toList_push, ← Array.length_toList, modify_last]
      simp [Instr.entryStore, MapKept.run_getObj_map hw2, asInt, asIntOf, goInt, hidx, hmod, MapKept.run_setObj_map _ hw2, Result.andThen, setBlock]
    · simp [Instr.mapUpdate, run_underlying ht, MapKept.run_getObj_map hb, K.check w false hkey, h1, MapKept.run_setObj_map _ hb, Result.andThen, setBlock]
  · have hj : es[j]? = some e0 := by simpa using h2
    have hsame : es.modify j (fun e => { e with key := key }) = es := by
      apply Array.ext'
      rw [Array.toList_modify, modify_eq_set _ _ _ _ h2]
      have : ({ e0 with key := key } : MapEntry) = e0 := by rw [← h3]
      rw [this]
      exact set_self _ _ _ h2
    refine ⟨e0.val, e0.born, es, clock, ?_, ?_, fun w2 hw2 => ?_, fun w2 val hw2 => ⟨es.modify j (fun e' => { e' with key := key, val := val }), clock, ?_, ?_⟩⟩
    · simp [Instr.mapEntry, run_underlying ht, MapKept.run_getObj_map hb, K.check w false hkey, h1, hj, h3, K.stays w hkey, hsame, MapKept.run_setObj_map _ hb, Result.andThen, setBlock]
    · simp [Instr.lookup, run_underlying ht, MapKept.run_getObj_map hb, K.check w _ hkey, h1, Result.andThen]
    · rcases K.find w2 hkey es.toList F.keys with ⟨_, g2⟩ | ⟨j', e1, g1, g2, g3⟩
      · exact absurd h3 (g2 e0 (List.mem_of_getElem? h2))
      · have he : e1 = e0 := by
          have hp := Maps.fit_apart (Keyed.of_law K) F
          have m1 := List.mem_of_getElem? g2
          have m0 := List.mem_of_getElem? h2
          by_cases e : j' = j
          · subst e; rw [h2] at g2; exact (Option.some.inj g2).symm
          · exfalso
            have hpw := List.pairwise_iff_getElem.1 hp
            obtain ⟨l1, q1⟩ := List.getElem?_eq_some_iff.1 g2
            obtain ⟨l0, q0⟩ := List.getElem?_eq_some_iff.1 h2
            have hkk : (rg P k R e1).1 = (rg P k R e0).1 := by
              obtain ⟨y1, hy1⟩ := F.reads e1 m1
              obtain ⟨y0, hy0⟩ := F.reads e0 m0
              rw [rg_of hy1, rg_of hy0]
              have a1 := rd_key hy1
              have a0 := rd_key hy0
              rw [g3] at a1
              rw [h3] at a0
              rw [a1] at a0
              exact Option.some.inj a0
            rcases Nat.lt_or_gt_of_ne e with l | l
            · have := hpw j' j (by simpa using l1) (by simpa using l0) l
              simp [q1, q0] at this
              exact this hkk
            · have := hpw j j' (by simpa using l0) (by simpa using l1) l
              simp [q1, q0] at this
              exact this hkk.symm
        rw [he] at g1
        simp [Instr.lookup, run_underlying ht, MapKept.run_getObj_map hw2, K.check w2 _ hkey, g1, Result.andThen]
    · have hidx : es.findIdx? (fun e => ((e.born : Nat) : Int) == ((e0.born : Nat) : Int)) = some j := by
        rw [findIdx_arr]
        exact findIdx_born s2 h2
      have hmod : es.modify j (fun e => { e with val := val }) = es.modify j (fun e' => { e' with key := key, val := val }) := by
        apply Array.ext'
        rw [Array.toList_modify, Array.toList_modify, modify_eq_set _ _ _ _ h2, modify_eq_set _ _ _ _ h2, ← h3]
      simp [Instr.entryStore, MapKept.run_getObj_map hw2, asInt, asIntOf, goInt, hidx, hmod, MapKept.run_setObj_map _ hw2, Result.andThen, setBlock]
    · simp [Instr.mapUpdate, run_underlying ht, MapKept.run_getObj_map hb, K.check w false hkey, h1, hj, h3, K.stays w hkey, MapKept.run_setObj_map _ hb, Result.andThen, setBlock]
end Go.Proofs.Yteihlfeifnnpaaa
