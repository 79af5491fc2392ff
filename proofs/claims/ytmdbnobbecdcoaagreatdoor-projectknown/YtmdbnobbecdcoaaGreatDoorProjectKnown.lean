/- The closed law ProjectKnown returns true, on every schedule, in whatever memory in which its listed variables are as the program's text lays them; the card ties them to the text. No further condition. -/
import Derived.Test.YtmdbnobbecdcoaaGreatDoorProjectKnownFacts
import Derived.Test.YtmdbnobbecdcoaaGreatDoorCards
import Derived.Test.YtmdbnobbecdcoaaGreatDoorTie
import Derived.ProofKit
import Derived.OpenShut
import Derived.Deep.DeepHandedRow
import Derived.Deep.DeepWitnessRowRef
namespace Go.Proofs.YtmdbnobbecdcoaaGreatDoor.projectKnown
open Go.ChangeShapes Go.WideShapes Go.ChangeAt Go.RowKit

theorem own : ownKnob Tryz.prog.godebug = none := by kernel_rfl
theorem many : Tryz.prog.globals.size = 8 := by kernel_rfl

/-- Package variables lie in whatever world. -/
theorem vars {W : World} (h : W.ShapedOpen Tryz.prog) : Tryz.prog.globals.size ≤ W.heap.size := by
  have h0 : (((begin Tryz.prog (fun _ _ => 0) default).world.heap[7]?).bind Obj.row?).isSome = true := by kernel_rfl
  obtain ⟨⟨zero, t⟩, h1⟩ := Option.isSome_iff_exists.1 h0
  obtain ⟨cs, h2, _⟩ := h.1 7 zero t (by rw [many]; omega) h1
  have := (Array.getElem?_eq_some_iff.1 h2).1
  rw [many]
  omega

/-- A world for the witness: the settled one, the listed variables as the text lays them. -/
noncomputable def laidWorld (os : Os) : World :=
  World.holding Tryz.prog os ⟨#[.cells #[.string ⟨#[118, 97, 108, 117, 101, 32, 111, 117, 116, 32, 111, 102, 32, 114, 97, 110, 103, 101]⟩] 302 (0, 0), .cells #[.string ⟨#[105, 110, 118, 97, 108, 105, 100, 32, 115, 121, 110, 116, 97, 120]⟩] 302 (0, 0)], #[], []⟩
  |> Arm.layC 6 (Arm.flat Rows.laid_math_bits_deBruijn32tab).toArray
  |> Arm.layC 7 (Arm.flat Rows.laid_math_bits_deBruijn64tab).toArray
  |> Arm.layC 5 (Arm.flat Rows.laid_internal_strconv_uint64pow10).toArray
  |> Arm.layC 2 (Arm.flat Rows.laid_unicode_utf8_acceptRanges).toArray
  |> Arm.layC 1 (Arm.flat Rows.laid_unicode_utf8_first).toArray
  |> Arm.layC 4 #[.iface 300 (.pointer (some ⟨(World.settled Tryz.prog os).heap.size + 0, 0, none⟩))]
  |> Arm.layC 3 #[.iface 300 (.pointer (some ⟨(World.settled Tryz.prog os).heap.size + 1, 0, none⟩))]

theorem laid_met (os : Os) : laidMet Tryz.prog Rows.projectKnownRow.laid ((laidWorld os).forCall (fun _ _ => 0) ⟨#[], #[], []⟩).memory :=
  laidMet_of_run' 8 (by kernel_rfl) (by kernel_rfl)
theorem reads (os : Os) {H : Type} (enc : TypeId × Value → H) : ∃ places, DataW.whole enc Tryz.prog ((laidWorld os).forCall (fun _ _ => 0) ⟨#[], #[], []⟩).memory Tryz.f3.params.toList Rows.projectKnownSpec.vars false (#[] : Array Value).toList 8 = some ([], [], places) :=
  ⟨[], by kernel_rfl⟩

set_option maxRecDepth 100000 in
theorem lifted (os : Os) (started : os.Started) (H : Type) (enc : TypeId × Value → H) (F : Stop.Interp) :
    ReturnsInHanded {} Tryz.checked os 3 .any ((OpenSpec.ofChange Rows.projectKnownSpec).preRow enc Tryz.prog Tryz.f3 Rows.projectKnownRow.domain false Rows.projectKnownRow.laid) (((OpenSpec.ofChange Rows.projectKnownSpec).at F).post enc Tryz.prog Tryz.f3 false true false false) := by
  obtain ⟨places, hx⟩ := reads os enc
  refine returnsInHanded_of_row (C := Tryz.checked) (s := OpenSpec.ofChange Rows.projectKnownSpec) own started (by kernel_rfl) Tryz.func3
    (witness_row_at (enc := enc) (C := Tryz.checked) false (laidWorld os) #[] rfl (by kernel_rfl) (by kernel_rfl) (by kernel_rfl)
      (OpenSpec.preRow_of_cond 8 hx (by kernel_rfl) (fun k hk => by cases hk) (by kernel_rfl) (laid_met os))) ?_
  intro W base args ds gs before _ hW _ _ _ _ hsh _
  have hW' := hW
  obtain ⟨p, q, hA0, hV, rfl, _, _⟩ := hW
  have hA : DataW.TrodAll enc Tryz.prog W 0 (fun _ => true) true Tryz.f3.params.toList args.toList ds p := hA0
  rw [Tryz.params3] at hA
  obtain ⟨h1, rfl, rfl⟩ := trodAll_nil hA
  obtain rfl : args = #[] := by simpa using h1
  obtain ⟨rfl, rfl⟩ := trodVars_none hV
  obtain ⟨h', c⟩ := runs
  refine (Arm.calls_true c W (vars hsh)).mono fun e W' ⟨he, hk⟩ => ?_
  subst he
  exact ⟨_, rfl, Arm.post_true (s := Rows.projectKnownSpec) hW' (fun _ _ _ => trodAll_mk1 (shut_bool Tryz.underlying4 _)) Tryz.params3 rfl rfl rfl rfl hk⟩

theorem said : Rows.ProjectKnownSaid :=
  OpenClaim.holds_of_cond 3 Tryz.f3 rfl rfl rfl rfl rfl rfl rfl ⟨rfl, rfl, rfl, rfl, rfl⟩ rfl rfl rfl rfl rfl (by kernel_rfl) Tryz.func3 (by kernel_rfl)
    (of_decide_eq_true (by kernel_rfl)) (by unfold Func.isWrapper; first | (rw [if_pos (by decide +kernel)]; kernel_rfl) | (rw [if_neg (by decide +kernel)]; exact ⟨rfl, rfl⟩))
    (fun os started H enc _ F => by rw [OpenClaim.pre_eq_preRow]; exact lifted os started H enc F)

theorem looks (f : FuncId) (fn : Func) (hf : Tryz.pinned.checked.prog.funcNamed "armistice/armisticelaw14.ProjectKnown" = some f) (hfn : Tryz.pinned.checked.prog.funcs[f]? = some fn) :
    true = Tryz.pinned.checked.prog.looks [] ∧ ∀ (j : Nat) t, fn.params[j]? = some t → Tryz.pinned.checked.prog.wantsStandIn t = false := by
  obtain rfl : f = 3 := Option.some.inj ((show Tryz.prog.funcNamed "armistice/armisticelaw14.ProjectKnown" = some 3 by kernel_rfl).symm.trans hf) |>.symm
  obtain rfl : fn = Tryz.f3 := (Option.some.inj (Tryz.func3.symm.trans hfn)).symm
  refine ⟨by kernel_rfl, fun j t ht => ?_⟩
  rw [Tryz.params3] at ht
  simp at ht

theorem card : Rows.ProjectKnownCardSaid :=
  Claim7.holds_tied_plain_at .later [] _ _ _ _ said (fun _ h => by cases h) (by kernel_rfl) (fun _ h => by cases h) projectKnown_row_tie rfl ⟨rfl, rfl⟩ (by kernel_rfl) rfl looks (by kernel_rfl)
end Go.Proofs.YtmdbnobbecdcoaaGreatDoor.projectKnown
