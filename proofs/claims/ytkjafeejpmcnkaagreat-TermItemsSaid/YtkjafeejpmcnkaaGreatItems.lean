/- TermItems: for all arguments the call returns true, and each argument reads behind it as it read before. No condition. -/
import Derived.Test.YtkjafeejpmcnkaaGreatItemsm
namespace Go.Proofs.YtkjafeejpmcnkaaGreat
open Go Go.ChangeShapes Go.WideShapes
set_option maxRecDepth 100000

theorem items_lifted (os : Os) (started : os.Started) (H : Type) (enc : TypeId × Value → H) :
    ReturnsInHanded {} Tryz.checked os 4 .any (Rows.termItemsSpec.pre6 enc Tryz.prog Tryz.f4 Rows.termItemsRow.domain false) (Rows.termItemsSpec.post enc Tryz.prog Tryz.f4 false true false false) := by
  refine returnsInHanded_of_change (C := Tryz.checked) cal_own started (by kernel_rfl) Tryz.func4
    (ChangeSpec.witness6 (enc := enc) (C := Tryz.checked) false ⟨#[], #[.agg ⟨Hs.pkT 0 0 Hs.zS (.slice none 0 0) (.slice none 0 0)⟩, .agg ⟨Hs.pkI 0 0 ⟨#[]⟩ (.slice none 0 0)⟩], []⟩ 8 (by kernel_rfl) (by kernel_rfl) (by kernel_rfl) (by kernel_rfl)) ?_
  intro W base args ds gs before hval0 hW _ _
  have hval : ∀ (j : Nat) t v, Tryz.f4.params[j]? = some t → args[j]? = some v → Value.okWide Tryz.prog W .any base t v := hval0
  have hW' := hW
  obtain ⟨p, q, hA0, _, _, _, _⟩ := hW
  have hA : DataW.TrodAll enc Tryz.prog W 0 (fun _ => true) true Tryz.f4.params.toList args.toList ds p := hA0
  rw [Tryz.params4] at hA hval
  obtain ⟨v0, l0, d0, e0, p0, q0, hl0, rfl, rfl, h0, hA⟩ := trodAll_cons hA
  obtain ⟨v1, l1, d1, e1, p1, q1, hl1, rfl, rfl, h1, hA⟩ := trodAll_cons hA
  obtain ⟨rfl, rfl, rfl⟩ := trodAll_nil hA
  subst hl1
  obtain ⟨ars⟩ := args
  simp only at hl0
  subst hl0
  obtain ⟨cs, t, rfl, ht⟩ := term_in (hval 0 _ v0 rfl rfl) h0
  obtain ⟨xs, x, rfl, hx⟩ := item_in (hval 1 _ v1 rfl rfl) h1
  refine (law_calls (Hs.items_law t x cs xs (lentOf W) ht hx)).mono fun e W' ⟨he, hb, ho, hout⟩ => ⟨_, he, ?_⟩
  refine law_post (apart := false) cal_kids cal_full hW' rfl (by rw [Tryz.params4]; decide +kernel) (tb := 4) rfl Tryz.underlying4 ?_ ?_ ?_ hb ho hout
  · intro l hl
    match l, hl with
    | [_, _], _ => rfl
  · intro l hl
    match l, hl with
    | [_, _], _ => rfl
  · intro l hl
    match l, hl with
    | [_, _], _ => rfl

theorem TermItems_holds : Rows.TermItemsSaid :=
  OpenClaim.holds_of_wide 4 Tryz.f4 rfl rfl rfl rfl rfl rfl rfl ⟨rfl, rfl, rfl, rfl, rfl⟩ rfl rfl rfl rfl rfl (by kernel_rfl) Tryz.func4 (by kernel_rfl)
    (of_decide_eq_true (by kernel_rfl)) (by unfold Func.isWrapper; first | (rw [if_pos (by decide +kernel)]; kernel_rfl) | (rw [if_neg (by decide +kernel)]; exact ⟨rfl, rfl⟩))
    (fun os started H enc _ => items_lifted os started H enc)
end Go.Proofs.YtkjafeejpmcnkaaGreat
