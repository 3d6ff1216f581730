/-
  NARROWER THAN 'FOR EVERY INPUT', by the rows' own cells (each row's printed sentence says how): TermRefs: loops.
  DERIVED. THE GIVEN ROWS OF THIS SEAT. 3 by the template 'for every input the law returns true; each argument reads behind the call as it read before'; 0 by the template 'total and deterministic' (their statements: YtfdeibbpfgolcaaGreatTotals.lean).
  GIVEN WITH THE SEED: the statements are not yours to turn. If you find one false, say at which input.
  Laid BY PROGRAM, IN A SANDBOX (cutbox-rows.mjs): the forced cells as the released guide's own fill.sh prints them over the translation f4a08801d2c24fa5… (all of the seat's roots in one cut). By AI agents, Wed Nov 11 2026. No macro, syntax, notation, axiom, sorry.
-/
import Derived.Test.YtfdeibbpfgolcaaGreatChecked
import GoSem.Claim
import GoSem.ClaimJoined
import GoSem.ClaimMapViews
import Derived.JoinedTies
import Derived.KernelRfl
namespace Go.Proofs.YtfdeibbpfgolcaaGreat
/- THE CELL 'sum', in the pinned program and in every row, IS THE sha256 OF THE DUMP (.gsa) THAT YtfdeibbpfgolcaaGreatProg.lean LOADS. Nothing in Lean hashes anything: it is a label: what it is worth is what the hold of that sum in a sandbox is worth. -/
noncomputable def Tryz.pinned : Pinned := { name := "ytfdeibbpfgolcaagreat", sum := "f4a08801d2c24fa5078548e51e702a58aecd8d5e66e9f0b8b89038ef78983f85", checked := Tryz.checked }
namespace Rows
def none {H : Type} : Left H := { results := [], args := [] }

/-- 'hoarstonelaw04.TermRefs': WHATEVER THE INPUT: true; the input reads as it did. -/
def termRefsSpec : ChangeSpec := { name := "termRefs", fn := fun _ => fun
  | [d1, d2, d3] => { results := [.lit (.bool true)], args := [d1, d2, d3] }
  | _ => none }
def termRefsRow : OpenClaim := { program := "ytfdeibbpfgolcaagreat", sum := "f4a08801d2c24fa5078548e51e702a58aecd8d5e66e9f0b8b89038ef78983f85", func := "hoarstone/hoarstonelaw04.TermRefs", spec := "termRefs", inPlace := ["internal/bytealg.Compare"], unfollowed := true, recurses := true, loops := true, plainKeys := false, apart := false }
def TermRefsSaid : Prop := termRefsRow.holds Tryz.pinned (OpenSpec.ofChange termRefsSpec)

/-- ITS FALSE NEIGHBOUR: 'it returns false'. Refute it at one input. -/
def termRefsWrong : ChangeSpec := { name := "termRefs", fn := fun _ => fun
  | [d1, d2, d3] => { results := [.lit (.bool false)], args := [d1, d2, d3] }
  | _ => none }
def TermRefsWrongFalsely : Prop := termRefsRow.holds Tryz.pinned (OpenSpec.ofChange termRefsWrong)

/-- 'hoarstonelaw04.TermPlaced': WHATEVER THE INPUT: true; the input reads as it did. -/
def termPlacedSpec : ChangeSpec := { name := "termPlaced", fn := fun _ => fun
  | [d1, d2] => { results := [.lit (.bool true)], args := [d1, d2] }
  | _ => none }
def termPlacedRow : OpenClaim := { program := "ytfdeibbpfgolcaagreat", sum := "f4a08801d2c24fa5078548e51e702a58aecd8d5e66e9f0b8b89038ef78983f85", func := "hoarstone/hoarstonelaw04.TermPlaced", spec := "termPlaced", inPlace := ["internal/bytealg.Compare"], unfollowed := true, recurses := true, plainKeys := false, apart := false }
def TermPlacedSaid : Prop := termPlacedRow.holds Tryz.pinned (OpenSpec.ofChange termPlacedSpec)

/-- ITS FALSE NEIGHBOUR: 'it returns false'. Refute it at one input. -/
def termPlacedWrong : ChangeSpec := { name := "termPlaced", fn := fun _ => fun
  | [d1, d2] => { results := [.lit (.bool false)], args := [d1, d2] }
  | _ => none }
def TermPlacedWrongFalsely : Prop := termPlacedRow.holds Tryz.pinned (OpenSpec.ofChange termPlacedWrong)

/-- 'hoarstonelaw04.TermReplaced': WHATEVER THE INPUT: true; the input reads as it did. -/
def termReplacedSpec : ChangeSpec := { name := "termReplaced", fn := fun _ => fun
  | [d1, d2] => { results := [.lit (.bool true)], args := [d1, d2] }
  | _ => none }
def termReplacedRow : OpenClaim := { program := "ytfdeibbpfgolcaagreat", sum := "f4a08801d2c24fa5078548e51e702a58aecd8d5e66e9f0b8b89038ef78983f85", func := "hoarstone/hoarstonelaw04.TermReplaced", spec := "termReplaced", inPlace := ["internal/bytealg.Compare"], unfollowed := true, recurses := true, plainKeys := false, apart := false }
def TermReplacedSaid : Prop := termReplacedRow.holds Tryz.pinned (OpenSpec.ofChange termReplacedSpec)

/-- ITS FALSE NEIGHBOUR: 'it returns false'. Refute it at one input. -/
def termReplacedWrong : ChangeSpec := { name := "termReplaced", fn := fun _ => fun
  | [d1, d2] => { results := [.lit (.bool false)], args := [d1, d2] }
  | _ => none }
def TermReplacedWrongFalsely : Prop := termReplacedRow.holds Tryz.pinned (OpenSpec.ofChange termReplacedWrong)

/- THE SECOND FORM. 'bulk': how many values and letters a reading holds, each counted each time it is reached (what is shared counts as often as it is met; a slice's spare places count too). A statement '..UptoSaid' is the law's where the arguments, and the package variables that the reading takes, are together of bulk at most 1048576: NARROWER than '..Said'. Prove '..Said' where nothing that the law and all that it calls make is longer than what came in: it says more and counts as full. Else prove '..UptoSaid'. A law counts once. -/
mutual
def uptoBulk {H : Type} : DataW H → Nat
  | .lit (.string bytes) => bytes.length + 1
  | .lit _ => 1
  | .nil => 1
  | .ptr d => uptoBulk d + 1
  | .slice elems spare => uptoBulkAll elems + uptoBulkAll spare + 1
  | .agg parts => uptoBulkAll parts + 1
  | .iface _ d => uptoBulk d + 1
  | .map entries => uptoBulkEntries entries + 1
  | .held _ => 1
def uptoBulkAll {H : Type} : List (DataW H) → Nat
  | [] => 0
  | d :: r => uptoBulk d + uptoBulkAll r
def uptoBulkEntries {H : Type} : List (Lit × DataW H) → Nat
  | [] => 0
  | x :: r => uptoBulkEntry x + uptoBulkEntries r
def uptoBulkEntry {H : Type} : Lit × DataW H → Nat
  | (.string bytes, d) => bytes.length + uptoBulk d + 1
  | (_, d) => uptoBulk d + 1
 end
def uptoSmall : (H : Type) → List (DataW H) → Bool := fun _ ds => decide (uptoBulkAll ds ≤ 1048576)
def OpenSpec.upto (s : _root_.Go.ChangeSpec) : _root_.Go.OpenSpec := { _root_.Go.OpenSpec.ofChange s with cond := some uptoSmall }

/-- 'hoarstonelaw04.TermRefs', WHERE WHAT IT READS IS OF BULK AT MOST 1048576: true; the input reads as it did. -/
def termRefsUptoRow : OpenClaim := { program := "ytfdeibbpfgolcaagreat", sum := "f4a08801d2c24fa5078548e51e702a58aecd8d5e66e9f0b8b89038ef78983f85", func := "hoarstone/hoarstonelaw04.TermRefs", spec := "termRefs", inPlace := ["internal/bytealg.Compare"], unfollowed := true, recurses := true, loops := true, plainKeys := false, apart := false, narrowed := true }
def TermRefsUptoSaid : Prop := termRefsUptoRow.holds Tryz.pinned (OpenSpec.upto termRefsSpec)

/-- 'hoarstonelaw04.TermPlaced', WHERE WHAT IT READS IS OF BULK AT MOST 1048576: true; the input reads as it did. -/
def termPlacedUptoRow : OpenClaim := { program := "ytfdeibbpfgolcaagreat", sum := "f4a08801d2c24fa5078548e51e702a58aecd8d5e66e9f0b8b89038ef78983f85", func := "hoarstone/hoarstonelaw04.TermPlaced", spec := "termPlaced", inPlace := ["internal/bytealg.Compare"], unfollowed := true, recurses := true, plainKeys := false, apart := false, narrowed := true }
def TermPlacedUptoSaid : Prop := termPlacedUptoRow.holds Tryz.pinned (OpenSpec.upto termPlacedSpec)

/-- 'hoarstonelaw04.TermReplaced', WHERE WHAT IT READS IS OF BULK AT MOST 1048576: true; the input reads as it did. -/
def termReplacedUptoRow : OpenClaim := { program := "ytfdeibbpfgolcaagreat", sum := "f4a08801d2c24fa5078548e51e702a58aecd8d5e66e9f0b8b89038ef78983f85", func := "hoarstone/hoarstonelaw04.TermReplaced", spec := "termReplaced", inPlace := ["internal/bytealg.Compare"], unfollowed := true, recurses := true, plainKeys := false, apart := false, narrowed := true }
def TermReplacedUptoSaid : Prop := termReplacedUptoRow.holds Tryz.pinned (OpenSpec.upto termReplacedSpec)

end Rows
end Go.Proofs.YtfdeibbpfgolcaaGreat
