/-
  GaloisSquares: for every two bytes the square of a sum is the sum of the squares, and the power 256 is the byte itself; no condition of ours: the table of the program is the one that its text lays (the card's tie, given).
  The frame is the kit's worked toy for a tied law, turned to this law; walks and plain laws are this session's.
-/
import Derived.Test.YtmjdfchplidbgaaDoorCards
import Derived.Test.YtmjdfchplidbgaaDoorTie
import Derived.Test.YtmjdfchplidbgaaDoorLawB
import Derived.ProofKit
import Derived.OpenShut
import Derived.Deep.DeepHandedRow
import Derived.Lib.LaidTab
namespace Go.Proofs.YtmjdfchplidbgaaDoor.galoisSquares
open Go.ChangeShapes Go.WideShapes Go.ChangeAt Go.RowKit

theorem powI_two (a : Nat) (ha : a < 256) : powI a 2 = Gal.mul a a := by
  show Gal.mul (Gal.mul 1 a) a = _
  rw [Gal.one_mul a ha]

theorem powI_back (a : Nat) (ha : a < 256) : powI a 256 = a := by
  show Gal.mul (Gal.pw a 255) a = a
  by_cases h : a = 0
  · subst h; exact Gal.mul_zero _
  · rw [Gal.pw_255 a ha h]; exact Gal.one_mul a ha

theorem squaresAll (a b : Nat) (ha : a < 256) (hb : b < 256) (w : World) (ht : Tab w) :
    Calls Tryd.prog 7 #[.int .u8 a, .int .u8 b] w fun e w' => e = .returned (.bool true) ∧ Grown w w' := by
  have hs : a ^^^ b < 256 := Gal.xor_lt a b 8 ha hb
  refine squares a b _ _ _ _ ha hb hs (Gal.mul_lt a a) (Gal.mul_lt b b) rfl (powI_two _ hs) (powI_two a ha) (powI_two b hb) ?_ rfl (powI_back a ha) w ht
  show Gal.mul a a ^^^ Gal.mul b b = Gal.mul (a ^^^ b) (a ^^^ b)
  rw [Gal.mul_left, Gal.mul_right, Gal.mul_right, Gal.mul_comm b a hb ha, ← Nat.xor_assoc, Nat.xor_assoc (Gal.mul a a), Nat.xor_self, Nat.xor_zero]

theorem own : ownKnob Tryd.prog.godebug = none := by kernel_rfl
theorem gTab : Tryd.prog.globalNamed "amphora/galois.fold" = some 0 := by kernel_rfl
theorem gTabType : (Tryd.prog.globals[0]?).map (·.type) = some 40 := by kernel_rfl
theorem cells40 : Tryd.prog.cellsOf 40 = 16 := by kernel_rfl
theorem cells5 : Tryd.prog.cellsOf 5 = 1 := by kernel_rfl

theorem table {W : World} (h : laidMetH Tryd.prog Rows.galoisSquaresRow.laid W) : Lib.TabIs Tryd.prog W "amphora/galois.fold" .u8 [0, 29, 58, 39, 116, 105, 78, 83, 232, 245, 210, 207, 156, 129, 166, 187] :=
  Lib.tabIs_of_head (rest := []) gTab gTabType Tryd.underlying40 Tryd.underlying5 cells5 cells40 h

theorem tab {W : World} (h : laidMetH Tryd.prog Rows.galoisSquaresRow.laid W) : Tab W := by
  intro i hi
  have hc := (table h).cell gTab i (by simpa using hi)
  rw [hc]
  have e : ∀ i, i < 16 → ([0, 29, 58, 39, 116, 105, 78, 83, 232, 245, 210, 207, 156, 129, 166, 187] : List Int).getD i 0 = (Gal.foldTab.getD i 0 : Nat) := by decide
  rw [e i hi]

/-- what the walk gives, for every argument and every world that holds the table -/
theorem contract (H : Type) (enc : TypeId × Value → H) (W : World) (base : Nat) (args : Array Value) (ds gs : List (DataW H)) (before : List MemPlace)
    (hval : ∀ (j : Nat) t v, Tryd.f7.params[j]? = some t → args[j]? = some v → Value.okWide Tryd.prog W .any base t v)
    (hW : DataW.Whole enc Tryd.prog Tryd.f7.params.toList Rows.galoisSquaresSpec.vars false W args.toList ds gs before) (hL : laidMetH Tryd.prog Rows.galoisSquaresRow.laid W) :
    Calls Tryd.prog 7 args W fun e W' => ∃ v, e = .returned v ∧ Rows.galoisSquaresSpec.post enc Tryd.prog Tryd.f7 false true false false W args v W' := by
  have hW' := hW
  obtain ⟨p, q, hA0, hV, rfl, hfz, hnd⟩ := hW
  have hA : DataW.TrodAll enc Tryd.prog W 0 (fun _ => true) true Tryd.f7.params.toList args.toList ds p := hA0
  rw [Tryd.params7] at hA hval
  obtain ⟨v0, vs0, d0, ds0, p0, q0, hargs, rfl, rfl, h0, r0⟩ := trodAll_cons hA
  obtain ⟨v1, vs1, d1, ds1, p1, q1, rfl, rfl, rfl, h1, r1⟩ := trodAll_cons r0
  obtain ⟨rfl, rfl, rfl⟩ := trodAll_nil r1
  obtain rfl : args = #[v0, v1] := by cases args; simp_all
  obtain ⟨rfl, rfl⟩ := trodVars_none hV
  obtain ⟨x0, rfl, rfl, rfl, w0⟩ := open_int Tryd.underlying5 (hval 0 5 v0 rfl rfl) h0
  obtain ⟨x1, rfl, rfl, rfl, w1⟩ := open_int Tryd.underlying5 (hval 1 5 v1 rfl rfl) h1
  clear hA0
  simp only [List.append_nil] at hW'
  have walk : Calls Tryd.prog 7 #[.int .u8 x0, .int .u8 x1] W fun e w' => e = .returned (.bool true) ∧ Grown W w' := by
    have b0 := bounds_u8 w0
    obtain ⟨a0, e0⟩ : ∃ a0 : Nat, x0 = (a0 : Int) := ⟨x0.toNat, by omega⟩
    rw [e0]
    have b1 := bounds_u8 w1
    obtain ⟨a1, e1⟩ : ∃ a1 : Nat, x1 = (a1 : Int) := ⟨x1.toNat, by omega⟩
    rw [e1]
    exact squaresAll a0 a1 (by omega) (by omega) W (tab hL)
  refine walk.mono fun e W' ⟨he, hg⟩ => ?_
  subst he
  exact ⟨_, rfl, post_of_same (pa := []) (pv := []) hW' (fun _ _ _ => trodAll_cons_mk (shut_bool Tryd.underlying4 _) trodAll_mk0) (fun _ _ => (trodAll_cons_mk (shut_int Tryd.underlying5 w0) (trodAll_cons_mk (shut_int Tryd.underlying5 w1) trodAll_mk0))) (fun _ _ => rfl) rfl
    (hg.frame _) hg.2.1 (ok_one (by kernel_rfl) rfl (okWide_bool_mk Tryd.underlying4 _))⟩

/-- a world for the witness: the settled one, the table (block 0) holding what its initialiser lays -/
noncomputable def laidWorld (os : Os) : World :=
  { World.holding Tryd.prog os ⟨#[], #[], []⟩ with heap := (World.holding Tryd.prog os ⟨#[], #[], []⟩).heap.modify 0 fun
      | .cells _ t frozen => .cells #[.int .u8 0, .int .u8 29, .int .u8 58, .int .u8 39, .int .u8 116, .int .u8 105, .int .u8 78, .int .u8 83, .int .u8 232, .int .u8 245, .int .u8 210, .int .u8 207, .int .u8 156, .int .u8 129, .int .u8 166, .int .u8 187] t frozen
      | o => o }
theorem laid_met (os : Os) : laidMet Tryd.prog Rows.galoisSquaresRow.laid ((laidWorld os).forCall (fun _ _ => 0) ⟨#[], #[.int .u8 0, .int .u8 0], []⟩).memory :=
  laidMet_of_run' 8 (by kernel_rfl) (by kernel_rfl)
theorem reads (os : Os) {H : Type} (enc : TypeId × Value → H) : ∃ places, DataW.whole enc Tryd.prog ((laidWorld os).forCall (fun _ _ => 0) ⟨#[], #[.int .u8 0, .int .u8 0], []⟩).memory Tryd.f7.params.toList Rows.galoisSquaresSpec.vars false (#[.int .u8 0, .int .u8 0] : Array Value).toList 8 = some ([.lit (.int .u8 0), .lit (.int .u8 0)], [], places) :=
  ⟨[], by kernel_rfl⟩

set_option maxRecDepth 100000 in
theorem lifted (os : Os) (started : os.Started) (H : Type) (enc : TypeId × Value → H) (F : Stop.Interp) :
    ReturnsInHanded {} Tryd.checked os 7 .any ((OpenSpec.ofChange Rows.galoisSquaresSpec).preRow enc Tryd.prog Tryd.f7 Rows.galoisSquaresRow.domain false Rows.galoisSquaresRow.laid) (((OpenSpec.ofChange Rows.galoisSquaresSpec).at F).post enc Tryd.prog Tryd.f7 false true false false) := by
  obtain ⟨places, hx⟩ := reads os enc
  refine returnsInHanded_of_row (C := Tryd.checked) (s := OpenSpec.ofChange Rows.galoisSquaresSpec) own started (by kernel_rfl) Tryd.func7
    (witness_row_at (enc := enc) (C := Tryd.checked) false (laidWorld os) #[.int .u8 0, .int .u8 0] rfl (by kernel_rfl) (by kernel_rfl) (by kernel_rfl)
      (OpenSpec.preRow_of_cond 8 hx (by kernel_rfl) (fun k hk => by cases hk) (by kernel_rfl) (laid_met os))) ?_
  intro W base args ds gs before hval hW _ _ _ hL _ _
  exact contract H enc W base args ds gs before hval hW hL

theorem said : Rows.GaloisSquaresSaid :=
  OpenClaim.holds_of_cond 7 Tryd.f7 rfl rfl rfl rfl rfl rfl rfl ⟨rfl, rfl, rfl, rfl, rfl⟩ rfl rfl rfl rfl rfl (by kernel_rfl) Tryd.func7 (by kernel_rfl)
    (of_decide_eq_true (by kernel_rfl)) (by unfold Func.isWrapper; first | (rw [if_pos (by decide +kernel)]; kernel_rfl) | (rw [if_neg (by decide +kernel)]; exact ⟨rfl, rfl⟩))
    (fun os started H enc _ F => by rw [OpenClaim.pre_eq_preRow]; exact lifted os started H enc F)

theorem plain (f : FuncId) (fn : Func) (hf : Tryd.pinned.checked.prog.funcNamed "amphora/amphoralaw01.GaloisSquares" = some f) (hfn : Tryd.pinned.checked.prog.funcs[f]? = some fn) :
    false = Tryd.pinned.checked.prog.looks [] ∧ ∀ (j : Nat) t, fn.params[j]? = some t → Tryd.pinned.checked.prog.wantsStandIn t = false := by
  obtain rfl : f = 7 := Option.some.inj ((show Tryd.prog.funcNamed "amphora/amphoralaw01.GaloisSquares" = some 7 by kernel_rfl).symm.trans hf) |>.symm
  obtain rfl : fn = Tryd.f7 := (Option.some.inj (Tryd.func7.symm.trans hfn)).symm
  refine ⟨by kernel_rfl, fun j t ht => ?_⟩
  rw [Tryd.params7] at ht
  have hm : t = 5 ∨ t = 3 := by
    have := Array.mem_of_getElem? ht
    simp at this
    first | exact this | exact Or.inl this
  rcases hm with rfl | rfl
  · exact (show Tryd.prog.wantsStandIn 5 = false by kernel_rfl)
  · exact (show Tryd.prog.wantsStandIn 3 = false by kernel_rfl)

/-- the card -/
theorem card : Rows.GaloisSquaresCardSaid :=
  Claim7.holds_tied_plain_at .later [] _ _ _ _ said (fun _ h => by cases h) (by kernel_rfl) (fun _ h => by cases h) galoisSquares_row_tie rfl ⟨rfl, rfl⟩ (by kernel_rfl) rfl plain (by kernel_rfl)
#print axioms card
end Go.Proofs.YtmjdfchplidbgaaDoor.galoisSquares
