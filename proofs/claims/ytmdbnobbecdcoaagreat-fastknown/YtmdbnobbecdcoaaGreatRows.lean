/-
  No cell of these rows narrows 'for every input' (looked for: loops, veiled, ifaces, maps, wideKeys, modest, calm, conditions, laid).
  DERIVED. THE GIVEN ROWS OF THIS SEAT. 2 by the template 'for every input the law returns true; each argument reads behind the call as it read before'; 0 by the template 'total and deterministic' (their statements: YtmdbnobbecdcoaaGreatTotals.lean).
  GIVEN WITH THE SEED: the statements are not yours to turn. If you find one false, say at which input.
  Laid BY PROGRAM, IN A SANDBOX (cutbox-rows.mjs): the forced cells as the released guide's own fill.sh prints them over the translation 8fca4fd80b93a610… (all of the seat's roots in one cut). By AI agents, Wed Nov 11 2026. No macro, syntax, notation, axiom, sorry.
-/
import Derived.Test.YtmdbnobbecdcoaaGreatChecked
import GoSem.Claim
import GoSem.ClaimJoined
import GoSem.ClaimMapViews
import Derived.JoinedTies
import Derived.KernelRfl
namespace Go.Proofs.YtmdbnobbecdcoaaGreat
/- THE CELL 'sum', in the pinned program and in every row, IS THE sha256 OF THE DUMP (.gsa) THAT YtmdbnobbecdcoaaGreatProg.lean LOADS. Nothing in Lean hashes anything: it is a label: what it is worth is what the hold of that sum in a sandbox is worth. -/
noncomputable def Tryz.pinned : Pinned := { name := "ytmdbnobbecdcoaagreat", sum := "8fca4fd80b93a61069f591856da94a011614e6fa60e542c8c0079acd10f62faf", checked := Tryz.checked }
namespace Rows
def none {H : Type} : Left H := { results := [], args := [] }

/-- 'armisticelaw29.CertKnown': WHATEVER THE INPUT: true; the input reads as it did. -/
def certKnownSpec : ChangeSpec := { name := "certKnown", fn := fun _ => fun
  | [] => { results := [.lit (.bool true)], args := [] }
  | _ => none }
def certKnownRow : OpenClaim := { program := "ytmdbnobbecdcoaagreat", sum := "8fca4fd80b93a61069f591856da94a011614e6fa60e542c8c0079acd10f62faf", func := "armistice/armisticelaw29.CertKnown", spec := "certKnown", inPlace := ["slices.overlaps[int]", "math/bits.Add64"], unfollowed := true, recurses := true, plainKeys := false, apart := false }
def CertKnownSaid : Prop := certKnownRow.holds Tryz.pinned (OpenSpec.ofChange certKnownSpec)

/-- ITS FALSE NEIGHBOUR: 'it returns false'. Refute it at one input. -/
def certKnownWrong : ChangeSpec := { name := "certKnown", fn := fun _ => fun
  | [] => { results := [.lit (.bool false)], args := [] }
  | _ => none }
def CertKnownWrongFalsely : Prop := certKnownRow.holds Tryz.pinned (OpenSpec.ofChange certKnownWrong)

/-- 'armisticelaw27.FastKnown': WHATEVER THE INPUT: true; the input reads as it did. -/
def fastKnownSpec : ChangeSpec := { name := "fastKnown", fn := fun _ => fun
  | [] => { results := [.lit (.bool true)], args := [] }
  | _ => none }
def fastKnownRow : OpenClaim := { program := "ytmdbnobbecdcoaagreat", sum := "8fca4fd80b93a61069f591856da94a011614e6fa60e542c8c0079acd10f62faf", func := "armistice/armisticelaw27.FastKnown", spec := "fastKnown", inPlace := ["slices.overlaps[int]"], unfollowed := true, recurses := true, plainKeys := false, apart := false }
def FastKnownSaid : Prop := fastKnownRow.holds Tryz.pinned (OpenSpec.ofChange fastKnownSpec)

/-- ITS FALSE NEIGHBOUR: 'it returns false'. Refute it at one input. -/
def fastKnownWrong : ChangeSpec := { name := "fastKnown", fn := fun _ => fun
  | [] => { results := [.lit (.bool false)], args := [] }
  | _ => none }
def FastKnownWrongFalsely : Prop := fastKnownRow.holds Tryz.pinned (OpenSpec.ofChange fastKnownWrong)

/- THE SECOND FORM. 'bulk': how many values and letters a reading holds, each counted each time it is reached (what is shared counts as often as it is met; a slice's spare places count too). A statement '..UptoSaid' is the law's where the arguments, and the package variables that the reading takes, are together of bulk at most 1048576: NARROWER than '..Said'. Prove '..Said' where nothing that the law and all that it calls make is longer than what came in: it says more and counts as full. Else prove '..UptoSaid'. A law counts once. -/
mutual
def uptoBulk {H : Type} : DataW H → Nat
  | .lit (.string bytes) => bytes.length + 1
  | .lit _ => 1
  | .nil => 1
  | .ptr d => uptoBulk d + 1
  | .slice elems spare => uptoBulkAll elems + uptoBulkAll spare + 1
  | .agg parts => uptoBulkAll parts + 1
  | .iface _ d => uptoBulk d + 1
  | .map entries => uptoBulkEntries entries + 1
  | .held _ => 1
def uptoBulkAll {H : Type} : List (DataW H) → Nat
  | [] => 0
  | d :: r => uptoBulk d + uptoBulkAll r
def uptoBulkEntries {H : Type} : List (Lit × DataW H) → Nat
  | [] => 0
  | x :: r => uptoBulkEntry x + uptoBulkEntries r
def uptoBulkEntry {H : Type} : Lit × DataW H → Nat
  | (.string bytes, d) => bytes.length + uptoBulk d + 1
  | (_, d) => uptoBulk d + 1
 end
def uptoSmall : (H : Type) → List (DataW H) → Bool := fun _ ds => decide (uptoBulkAll ds ≤ 1048576)
def OpenSpec.upto (s : _root_.Go.ChangeSpec) : _root_.Go.OpenSpec := { _root_.Go.OpenSpec.ofChange s with cond := some uptoSmall }

/-- 'armisticelaw29.CertKnown', WHERE WHAT IT READS IS OF BULK AT MOST 1048576: true; the input reads as it did. -/
def certKnownUptoRow : OpenClaim := { program := "ytmdbnobbecdcoaagreat", sum := "8fca4fd80b93a61069f591856da94a011614e6fa60e542c8c0079acd10f62faf", func := "armistice/armisticelaw29.CertKnown", spec := "certKnown", inPlace := ["slices.overlaps[int]", "math/bits.Add64"], unfollowed := true, recurses := true, plainKeys := false, apart := false, narrowed := true }
def CertKnownUptoSaid : Prop := certKnownUptoRow.holds Tryz.pinned (OpenSpec.upto certKnownSpec)

/-- 'armisticelaw27.FastKnown', WHERE WHAT IT READS IS OF BULK AT MOST 1048576: true; the input reads as it did. -/
def fastKnownUptoRow : OpenClaim := { program := "ytmdbnobbecdcoaagreat", sum := "8fca4fd80b93a61069f591856da94a011614e6fa60e542c8c0079acd10f62faf", func := "armistice/armisticelaw27.FastKnown", spec := "fastKnown", inPlace := ["slices.overlaps[int]"], unfollowed := true, recurses := true, plainKeys := false, apart := false, narrowed := true }
def FastKnownUptoSaid : Prop := fastKnownUptoRow.holds Tryz.pinned (OpenSpec.upto fastKnownSpec)

end Rows
end Go.Proofs.YtmdbnobbecdcoaaGreat
