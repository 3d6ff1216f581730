/-
  NARROWER THAN 'FOR EVERY INPUT', by the rows' own cells (each row's printed sentence says how): TermNames: loops.
  DERIVED. THE GIVEN ROWS OF THIS SEAT. 2 by the template 'for every input the law returns true; each argument reads behind the call as it read before'; 0 by the template 'total and deterministic' (their statements: YtmophpgiaiemhaaGreatTotals.lean).
  GIVEN WITH THE SEED: the statements are not yours to turn. If you find one false, say at which input.
  Laid BY PROGRAM, IN A SANDBOX (cutbox-rows.mjs): the forced cells as the released guide's own fill.sh prints them over the translation 6bea504ead8a16e9… (all of the seat's roots in one cut). By AI agents, Wed Nov 11 2026. No macro, syntax, notation, axiom, sorry.
-/
import Derived.Test.YtmophpgiaiemhaaGreatChecked
import GoSem.Claim
import GoSem.ClaimJoined
import GoSem.ClaimMapViews
import Derived.JoinedTies
import Derived.KernelRfl
namespace Go.Proofs.YtmophpgiaiemhaaGreat
/- THE CELL 'sum', in the pinned program and in every row, IS THE sha256 OF THE DUMP (.gsa) THAT YtmophpgiaiemhaaGreatProg.lean LOADS. Nothing in Lean hashes anything: it is a label: what it is worth is what the hold of that sum in a sandbox is worth. -/
noncomputable def Tryz.pinned : Pinned := { name := "ytmophpgiaiemhaagreat", sum := "6bea504ead8a16e974e7ba21163cecceae6bb213125ee603f493fc1c0cd3ecd6", checked := Tryz.checked }
namespace Rows
def none {H : Type} : Left H := { results := [], args := [] }

/-- 'hoarstonelaw04.TermNames': WHATEVER THE INPUT: true; the input reads as it did. -/
def termNamesSpec : ChangeSpec := { name := "termNames", fn := fun _ => fun
  | [d1, d2, d3] => { results := [.lit (.bool true)], args := [d1, d2, d3] }
  | _ => none }
def termNamesRow : OpenClaim := { program := "ytmophpgiaiemhaagreat", sum := "6bea504ead8a16e974e7ba21163cecceae6bb213125ee603f493fc1c0cd3ecd6", func := "hoarstone/hoarstonelaw04.TermNames", spec := "termNames", unfollowed := true, recurses := true, loops := true, apart := false }
def TermNamesSaid : Prop := termNamesRow.holds Tryz.pinned (OpenSpec.ofChange termNamesSpec)

/-- ITS FALSE NEIGHBOUR: 'it returns false'. Refute it at one input. -/
def termNamesWrong : ChangeSpec := { name := "termNames", fn := fun _ => fun
  | [d1, d2, d3] => { results := [.lit (.bool false)], args := [d1, d2, d3] }
  | _ => none }
def TermNamesWrongFalsely : Prop := termNamesRow.holds Tryz.pinned (OpenSpec.ofChange termNamesWrong)

/-- 'hoarstonelaw04.TermNamed': WHATEVER THE INPUT: true; the input reads as it did. -/
def termNamedSpec : ChangeSpec := { name := "termNamed", fn := fun _ => fun
  | [d] => { results := [.lit (.bool true)], args := [d] }
  | _ => none }
def termNamedRow : OpenClaim := { program := "ytmophpgiaiemhaagreat", sum := "6bea504ead8a16e974e7ba21163cecceae6bb213125ee603f493fc1c0cd3ecd6", func := "hoarstone/hoarstonelaw04.TermNamed", spec := "termNamed", unfollowed := true, recurses := true, apart := false }
def TermNamedSaid : Prop := termNamedRow.holds Tryz.pinned (OpenSpec.ofChange termNamedSpec)

/-- ITS FALSE NEIGHBOUR: 'it returns false'. Refute it at one input. -/
def termNamedWrong : ChangeSpec := { name := "termNamed", fn := fun _ => fun
  | [d] => { results := [.lit (.bool false)], args := [d] }
  | _ => none }
def TermNamedWrongFalsely : Prop := termNamedRow.holds Tryz.pinned (OpenSpec.ofChange termNamedWrong)

/- THE SECOND FORM. 'bulk': how many values and letters a reading holds, each counted each time it is reached (what is shared counts as often as it is met; a slice's spare places count too). A statement '..UptoSaid' is the law's where the arguments, and the package variables that the reading takes, are together of bulk at most 1048576: NARROWER than '..Said'. Prove '..Said' where nothing that the law and all that it calls make is longer than what came in: it says more and counts as full. Else prove '..UptoSaid'. A law counts once. -/
mutual
def uptoBulk {H : Type} : DataW H → Nat
  | .lit (.string bytes) => bytes.length + 1
  | .lit _ => 1
  | .nil => 1
  | .ptr d => uptoBulk d + 1
  | .slice elems spare => uptoBulkAll elems + uptoBulkAll spare + 1
  | .agg parts => uptoBulkAll parts + 1
  | .iface _ d => uptoBulk d + 1
  | .map entries => uptoBulkEntries entries + 1
  | .held _ => 1
def uptoBulkAll {H : Type} : List (DataW H) → Nat
  | [] => 0
  | d :: r => uptoBulk d + uptoBulkAll r
def uptoBulkEntries {H : Type} : List (Lit × DataW H) → Nat
  | [] => 0
  | x :: r => uptoBulkEntry x + uptoBulkEntries r
def uptoBulkEntry {H : Type} : Lit × DataW H → Nat
  | (.string bytes, d) => bytes.length + uptoBulk d + 1
  | (_, d) => uptoBulk d + 1
 end
def uptoSmall : (H : Type) → List (DataW H) → Bool := fun _ ds => decide (uptoBulkAll ds ≤ 1048576)
def OpenSpec.upto (s : _root_.Go.ChangeSpec) : _root_.Go.OpenSpec := { _root_.Go.OpenSpec.ofChange s with cond := some uptoSmall }

/-- 'hoarstonelaw04.TermNames', WHERE WHAT IT READS IS OF BULK AT MOST 1048576: true; the input reads as it did. -/
def termNamesUptoRow : OpenClaim := { program := "ytmophpgiaiemhaagreat", sum := "6bea504ead8a16e974e7ba21163cecceae6bb213125ee603f493fc1c0cd3ecd6", func := "hoarstone/hoarstonelaw04.TermNames", spec := "termNames", unfollowed := true, recurses := true, loops := true, apart := false, narrowed := true }
def TermNamesUptoSaid : Prop := termNamesUptoRow.holds Tryz.pinned (OpenSpec.upto termNamesSpec)

/-- 'hoarstonelaw04.TermNamed', WHERE WHAT IT READS IS OF BULK AT MOST 1048576: true; the input reads as it did. -/
def termNamedUptoRow : OpenClaim := { program := "ytmophpgiaiemhaagreat", sum := "6bea504ead8a16e974e7ba21163cecceae6bb213125ee603f493fc1c0cd3ecd6", func := "hoarstone/hoarstonelaw04.TermNamed", spec := "termNamed", unfollowed := true, recurses := true, apart := false, narrowed := true }
def TermNamedUptoSaid : Prop := termNamedUptoRow.holds Tryz.pinned (OpenSpec.upto termNamedSpec)

end Rows
end Go.Proofs.YtmophpgiaiemhaaGreat
