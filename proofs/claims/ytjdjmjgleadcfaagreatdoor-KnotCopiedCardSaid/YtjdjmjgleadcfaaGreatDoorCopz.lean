/- KnotCopied, its tied card: for all arguments the call returns true, and each argument reads behind it as it read before; the two tables of package sum hold what the program's own text lays there. No other condition. -/
import Derived.Test.YtjdjmjgleadcfaaGreatDoorCopzf
import Derived.Test.YtjdjmjgleadcfaaGreatDoorCards
import Derived.Test.YtjdjmjgleadcfaaGreatDoorTie
import Derived.SevenTiedAt
namespace Go.Proofs.YtjdjmjgleadcfaaGreatDoor
open Go
set_option maxRecDepth 100000
theorem KnotCopiedCard_holds : Rows.KnotCopiedCardSaid :=
  Claim7.holds_tied_plain_at .later [] [.data, .data] true (true, "333fd82dcf65be17eb8293ea4d511ec1716d94eafab36992d0c54452200da0c5") false
    RG (fun _ h => by cases h) (by kernel_rfl) (fun _ h => by cases h) knotCopied_row_tie rfl ⟨rfl, rfl⟩ (by kernel_rfl) rfl
    (fun f fn hf hfn => by
      obtain rfl : f = 4 := Option.some.inj ((show Tryz.prog.funcNamed "hoarstone/hoarstonelaw06.KnotCopied" = some 4 by kernel_rfl).symm.trans hf) |>.symm
      obtain rfl : fn = Tryz.f4 := (Option.some.inj (Tryz.func4.symm.trans hfn)).symm
      exact ⟨by kernel_rfl, fun j t ht => by
        rw [Tryz.params4] at ht
        have hm : t ∈ [28, 28] := by simpa using Array.mem_of_getElem? ht
        have hall : ([28, 28].all fun u => !Tryz.prog.wantsStandIn u) = true := by kernel_rfl
        exact (show Tryz.prog.wantsStandIn t = false by simpa using List.all_eq_true.1 hall t hm)⟩)
    (by kernel_rfl)
end Go.Proofs.YtjdjmjgleadcfaaGreatDoor
