/- KnotCodes, its tied card: for all arguments the call returns true, and each argument reads behind it as it read before; the two tables of package sum TO what the program's own text lays there. No other condition. -/
import Derived.Test.YtjdjmjgleadcfaaGreatDoorCodezg
import Derived.Test.YtjdjmjgleadcfaaGreatDoorCards
import Derived.Test.YtjdjmjgleadcfaaGreatDoorTie
import Derived.SevenTiedAt
namespace Go.Proofs.YtjdjmjgleadcfaaGreatDoor
open Go
set_option maxRecDepth 100000
theorem KnotCodesCard_holds : Rows.KnotCodesCardSaid :=
  Claim7.holds_tied_plain_at .later [] [.data, .data] true (true, "333fd82dcf65be17eb8293ea4d511ec1716d94eafab36992d0c54452200da0c5") false
    Qv (fun _ h => by cases h) (by kernel_rfl) (fun _ h => by cases h) knotCodes_row_tie rfl ⟨rfl, rfl⟩ (by kernel_rfl) rfl
    (fun f fn hf hfn => by
      obtain rfl : f = 3 := Option.some.inj ((show Tryz.prog.funcNamed "hoarstone/hoarstonelaw06.KnotCodes" = some 3 by kernel_rfl).symm.trans hf) |>.symm
      obtain rfl : fn = Tryz.f3 := (Option.some.inj (Tryz.func3.symm.trans hfn)).symm
      exact ⟨by kernel_rfl, fun j t ht => by
        rw [Tryz.params3] at ht
        have hm : t ∈ [22, 3] := by simpa using Array.mem_of_getElem? ht
        have hall : ([22, 3].all fun u => !Tryz.prog.wantsStandIn u) = true := by kernel_rfl
        exact (show Tryz.prog.wantsStandIn t = false by simpa using List.all_eq_true.1 hall t hm)⟩)
    (by kernel_rfl)
end Go.Proofs.YtjdjmjgleadcfaaGreatDoor
