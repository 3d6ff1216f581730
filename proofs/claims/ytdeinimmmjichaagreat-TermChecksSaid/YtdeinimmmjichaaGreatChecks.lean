/- TermChecks: for all arguments the call returns true, and each argument reads behind it as it read before. No condition. -/
import Derived.Test.YtdeinimmmjichaaGreatChecksn
namespace Go.Proofs.YtdeinimmmjichaaGreat
open Go Go.ChangeShapes Go.WideShapes
set_option maxRecDepth 100000

/-- A pattern that comes in. -/
theorem pattern_in {Ht : Type} {enc : TypeId × Value → Ht} {W : World} {base b0 : Nat} {sp : Nat → Bool} {held : Bool} {v : Value} {d : DataW Ht} {ps : List MemPlace} (hv : Value.okWide Tryz.prog W .any b0 30 v) (h : DataW.Trod enc Tryz.prog W base sp held 30 v d ps) :
    ∃ cs t, v = .agg ⟨cs⟩ ∧ Hs.RP (lentOf W) cs t := by
  obtain ⟨⟨cs⟩, rfl, _⟩ := okWide_struct Tryz.underlying30 hv
  obtain ⟨fuel, hf⟩ := h
  obtain ⟨t, ht⟩ := Hs.trod_RP (H := lentOf W) (fun _ _ h => h) fuel cs _ hf
  exact ⟨cs, t, rfl, ht⟩

theorem checks_lifted (os : Os) (started : os.Started) (H : Type) (enc : TypeId × Value → H) :
    ReturnsInHanded {} Tryz.checked os 3 .any (Rows.termChecksSpec.pre6 enc Tryz.prog Tryz.f3 Rows.termChecksRow.domain false) (Rows.termChecksSpec.post enc Tryz.prog Tryz.f3 false true false false) := by
  refine returnsInHanded_of_change (C := Tryz.checked) cal_own started (by kernel_rfl) Tryz.func3
    (ChangeSpec.witness6 (enc := enc) (C := Tryz.checked) false ⟨#[], #[.agg ⟨Hs.pkT 0 0 Hs.zS (.slice none 0 0) (.slice none 0 0)⟩, .agg ⟨Hs.pkT 0 0 Hs.zS (.slice none 0 0) (.slice none 0 0)⟩, .agg ⟨Hs.pkP 0 0 Hs.zS (.slice none 0 0)⟩, .int .i64 0, .int .i64 0], []⟩ 8 (by kernel_rfl) (by kernel_rfl) (by kernel_rfl) (by kernel_rfl)) ?_
  intro W base args ds gs before hval0 hW _ _
  have hval : ∀ (j : Nat) t v, Tryz.f3.params[j]? = some t → args[j]? = some v → Value.okWide Tryz.prog W .any base t v := hval0
  have hW' := hW
  obtain ⟨p, q, hA0, _, _, _, _⟩ := hW
  have hA : DataW.TrodAll enc Tryz.prog W 0 (fun _ => true) true Tryz.f3.params.toList args.toList ds p := hA0
  rw [Tryz.params3] at hA hval
  obtain ⟨v0, l0, d0, e0, p0, q0, hl0, rfl, rfl, h0, hA⟩ := trodAll_cons hA
  obtain ⟨v1, l1, d1, e1, p1, q1, hl1, rfl, rfl, h1, hA⟩ := trodAll_cons hA
  obtain ⟨v2, l2, d2, e2, p2, q2, hl2, rfl, rfl, h2, hA⟩ := trodAll_cons hA
  obtain ⟨v3, l3, d3, e3, p3, q3, hl3, rfl, rfl, h3, hA⟩ := trodAll_cons hA
  obtain ⟨v4, l4, d4, e4, p4, q4, hl4, rfl, rfl, h4, hA⟩ := trodAll_cons hA
  obtain ⟨rfl, rfl, rfl⟩ := trodAll_nil hA
  subst hl4 hl3 hl2 hl1
  obtain ⟨ars⟩ := args
  simp only at hl0
  subst hl0
  obtain ⟨cs, t, rfl, ht⟩ := term_in (hval 0 _ v0 rfl rfl) h0
  obtain ⟨us, u, rfl, hu⟩ := term_in (hval 1 _ v1 rfl rfl) h1
  obtain ⟨ps, pt, rfl, hpt⟩ := pattern_in (hval 2 _ v2 rfl rfl) h2
  obtain ⟨dd, rfl, _, _, _⟩ := open_int Tryz.underlying3 (hval 3 _ v3 rfl rfl) h3
  obtain ⟨m, rfl, _, _, _⟩ := open_int Tryz.underlying3 (hval 4 _ v4 rfl rfl) h4
  refine (law_calls (Hs.checks_ct t u pt dd m cs us ps (lentOf W) ht hu hpt)).mono fun e W' ⟨he, hb, ho, hout⟩ => ⟨_, he, ?_⟩
  refine law_post (apart := false) cal_kids cal_full hW' rfl (by rw [Tryz.params3]; decide +kernel) (tb := 4) rfl Tryz.underlying4 ?_ ?_ ?_ hb ho hout
  · intro l hl
    match l, hl with
    | [_, _, _, _, _], _ => rfl
  · intro l hl
    match l, hl with
    | [_, _, _, _, _], _ => rfl
  · intro l hl
    match l, hl with
    | [_, _, _, _, _], _ => rfl

theorem TermChecks_holds : Rows.TermChecksSaid :=
  OpenClaim.holds_of_wide 3 Tryz.f3 rfl rfl rfl rfl rfl rfl rfl ⟨rfl, rfl, rfl, rfl, rfl⟩ rfl rfl rfl rfl rfl (by kernel_rfl) Tryz.func3 (by kernel_rfl)
    (of_decide_eq_true (by kernel_rfl)) (by unfold Func.isWrapper; first | (rw [if_pos (by decide +kernel)]; kernel_rfl) | (rw [if_neg (by decide +kernel)]; exact ⟨rfl, rfl⟩))
    (fun os started H enc _ => checks_lifted os started H enc)
end Go.Proofs.YtdeinimmmjichaaGreat
