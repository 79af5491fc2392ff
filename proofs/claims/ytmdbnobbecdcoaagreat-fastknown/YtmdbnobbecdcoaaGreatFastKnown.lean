/- The closed law FastKnown returns true, on every schedule and in whatever memory. No condition. -/
import Derived.Test.YtmdbnobbecdcoaaGreatFastKnownFacts
import Derived.Test.YtmdbnobbecdcoaaGreatRows
import Derived.ProofKit
namespace Go.Proofs.YtmdbnobbecdcoaaGreat.fastKnown
open Go.ChangeShapes Go.WideShapes Go.ChangeAt Go.RowKit

theorem own : ownKnob Tryz.prog.godebug = none := by kernel_rfl

set_option maxRecDepth 100000 in
theorem lifted (os : Os) (started : os.Started) (H : Type) (enc : TypeId × Value → H) :
    ReturnsInHanded {} Tryz.checked os 4 .any (Rows.fastKnownSpec.pre6 enc Tryz.prog Tryz.f4 Rows.fastKnownRow.domain false) (Rows.fastKnownSpec.post enc Tryz.prog Tryz.f4 false true false false) := by
  refine returnsInHanded_of_change (C := Tryz.checked) own started (by kernel_rfl) Tryz.func4
    (ChangeSpec.witness6 (enc := enc) (C := Tryz.checked) false ⟨#[], #[], []⟩ 8 (by kernel_rfl) (by kernel_rfl) (by kernel_rfl) (by kernel_rfl)) ?_
  intro W base args ds gs before _ hW _ _
  have hW' := hW
  obtain ⟨p, q, hA0, hV, rfl, _, _⟩ := hW
  have hA : DataW.TrodAll enc Tryz.prog W 0 (fun _ => true) true Tryz.f4.params.toList args.toList ds p := hA0
  rw [Tryz.params4] at hA
  obtain ⟨h1, rfl, rfl⟩ := trodAll_nil hA
  obtain rfl : args = #[] := by simpa using h1
  obtain ⟨rfl, rfl⟩ := trodVars_none hV
  obtain ⟨h', c⟩ := runs
  refine (Arm.calls_true c W).mono fun e W' ⟨he, hk⟩ => ?_
  subst he
  exact ⟨_, rfl, Arm.post_true hW' (fun _ _ _ => trodAll_mk1 (shut_bool Tryz.underlying4 _)) Tryz.params4 rfl rfl rfl rfl hk⟩

theorem holds : Rows.FastKnownSaid :=
  OpenClaim.holds_of_wide 4 Tryz.f4 rfl rfl rfl rfl rfl rfl rfl ⟨rfl, rfl, rfl, rfl, rfl⟩ rfl rfl rfl rfl rfl (by kernel_rfl) Tryz.func4 (by kernel_rfl)
    (of_decide_eq_true (by kernel_rfl)) (by unfold Func.isWrapper; first | (rw [if_pos (by decide +kernel)]; kernel_rfl) | (rw [if_neg (by decide +kernel)]; exact ⟨rfl, rfl⟩))
    (fun os started H enc _ => lifted os started H enc)
end Go.Proofs.YtmdbnobbecdcoaaGreat.fastKnown
