/- TermNames: where what comes in is of bulk at most 1048576 the call returns true, and each argument reads behind it as it read before. -/
import Derived.Test.YtmophpgiaiemhaaGreatNamesl
import Derived.JoinedCond
namespace Go.Proofs.YtmophpgiaiemhaaGreat
open Go Go.ChangeShapes Go.WideShapes
set_option maxRecDepth 100000

/-- Names that come in. -/
theorem strs_in {Ht : Type} {enc : TypeId × Value → Ht} {W : World} {base b0 : Nat} {sp : Nat → Bool} {held : Bool} {v : Value} {d : DataW Ht} {ps : List MemPlace} (hv : Value.okWide Tryz.prog W .any b0 28 v) (h : DataW.Trod enc Tryz.prog W base sp held 28 v d ps) :
    ∃ l, Hs.strR (lentOf W) v l := by
  obtain ⟨a, len, cap, rfl⟩ := okWide_slice Tryz.underlying28 hv
  obtain ⟨fuel, hf⟩ := h
  obtain ⟨ks, l, hks, hl, _⟩ := Hs.strs_in (H := lentOf W) (fun _ _ h => h) fuel _ _ hf
  have e : Value.slice a len cap = ks := by
    have : [Value.slice a len cap] = [ks] := hks
    exact (List.cons.inj this).1
  exact ⟨l, e ▸ hl⟩
/-- A term with names that comes in. -/
theorem named_in {Ht : Type} {enc : TypeId × Value → Ht} {W : World} {base b0 : Nat} {sp : Nat → Bool} {held : Bool} {v : Value} {d : DataW Ht} {ps : List MemPlace} (hv : Value.okWide Tryz.prog W .any b0 32 v) (h : DataW.Trod enc Tryz.prog W base sp held 32 v d ps) :
    ∃ cs t, v = .agg ⟨cs⟩ ∧ Hs.RN (lentOf W) cs t ∧ Hs.wnN t ≤ Rows.uptoBulk d := by
  obtain ⟨⟨cs⟩, rfl, _⟩ := okWide_struct Tryz.underlying32 hv
  obtain ⟨fuel, hf⟩ := h
  obtain ⟨t, ht, hb⟩ := Hs.trod_RNB (H := lentOf W) (fun _ _ h => h) fuel cs _ hf
  exact ⟨cs, t, rfl, ht, hb⟩

theorem names_lifted (os : Os) (started : os.Started) (H : Type) (enc : TypeId × Value → H) (F0 : Stop.Interp) :
    ReturnsInHanded {} Tryz.checked os 3 .any ((Rows.OpenSpec.upto Rows.termNamesSpec).pre6 enc Tryz.prog Tryz.f3 Rows.termNamesUptoRow.domain false) (((Rows.OpenSpec.upto Rows.termNamesSpec).at F0).post enc Tryz.prog Tryz.f3 false true false false) := by
  refine returnsInHanded_of_cond (C := Tryz.checked) (s := Rows.OpenSpec.upto Rows.termNamesSpec) (k := Rows.uptoSmall) rfl cal_own started (by kernel_rfl) Tryz.func3
    (OpenSpec.witness (enc := enc) (C := Tryz.checked) (s := Rows.OpenSpec.upto Rows.termNamesSpec) (k := Rows.uptoSmall) rfl false ⟨#[], #[.agg ⟨Hs.pkT 0 0 Hs.zS (.slice none 0 0) (.slice none 0 0)⟩, .agg ⟨Hs.pkN 0 0 Hs.zS (.slice none 0 0) (.slice none 0 0) (.slice none 0 0)⟩, .slice none 0 0], []⟩ 8 (by kernel_rfl) (by kernel_rfl) (by kernel_rfl)
      (x := ([.agg [.lit (.int .i64 0), .lit (.int .i64 0), .agg (List.replicate 32 (.lit (.int .u8 0))), .nil, .nil], .agg [.lit (.int .i64 0), .lit (.int .i64 0), .agg (List.replicate 32 (.lit (.int .u8 0))), .nil, .nil, .nil], .nil], [], [])) (by kernel_rfl) (by kernel_rfl) (by kernel_rfl)) ?_
  intro W base args ds gs before hval0 hW _ hk _
  have hval : ∀ (j : Nat) t v, Tryz.f3.params[j]? = some t → args[j]? = some v → Value.okWide Tryz.prog W .any base t v := hval0
  have hW' := hW
  obtain ⟨p, q, hA0, _, _, _, _⟩ := hW
  have hA : DataW.TrodAll enc Tryz.prog W 0 (fun _ => true) true Tryz.f3.params.toList args.toList ds p := hA0
  rw [Tryz.params3] at hA hval
  obtain ⟨v0, l0, d0, e0, p0, q0, hl0, rfl, rfl, h0, hA⟩ := trodAll_cons hA
  obtain ⟨v1, l1, d1, e1, p1, q1, hl1, rfl, rfl, h1, hA⟩ := trodAll_cons hA
  obtain ⟨v2, l2, d2, e2, p2, q2, hl2, rfl, rfl, h2, hA⟩ := trodAll_cons hA
  obtain ⟨rfl, rfl, rfl⟩ := trodAll_nil hA
  subst hl2 hl1
  obtain ⟨ars⟩ := args
  simp only at hl0
  subst hl0
  obtain ⟨cs, t, rfl, ht⟩ := term_in (hval 0 _ v0 rfl rfl) h0
  obtain ⟨us, n, rfl, hn, hbk⟩ := named_in (hval 1 _ v1 rfl rfl) h1
  obtain ⟨l, hl⟩ := strs_in (hval 2 _ v2 rfl rfl) h2
  have hz : Hs.wnN n ≤ 2000000 := by
    have hk' := of_decide_eq_true hk
    simp only [List.cons_append, List.nil_append, Rows.uptoBulkAll] at hk'
    omega
  refine (law_calls (Hs.names_law t n l cs us v2 (lentOf W) ht hn hl hz)).mono fun e W' ⟨he, hb, ho, hout⟩ => ⟨_, he, ?_⟩
  refine law_post (s := (Rows.OpenSpec.upto Rows.termNamesSpec).at F0) (apart := false) cal_kids cal_full hW' rfl (by rw [Tryz.params3]; decide +kernel) (tb := 4) rfl Tryz.underlying4 ?_ ?_ ?_ hb ho hout
  · intro l hl
    match l, hl with
    | [_, _, _], _ => rfl
  · intro l hl
    match l, hl with
    | [_, _, _], _ => rfl
  · intro l hl
    match l, hl with
    | [_, _, _], _ => rfl

theorem TermNames_holds : Rows.TermNamesUptoSaid :=
  OpenClaim.holds_of_cond 3 Tryz.f3 rfl rfl rfl rfl rfl rfl rfl ⟨rfl, rfl, rfl, rfl, rfl⟩ rfl rfl rfl rfl rfl (by kernel_rfl) Tryz.func3 (by kernel_rfl)
    (of_decide_eq_true (by kernel_rfl)) (by unfold Func.isWrapper; first | (rw [if_pos (by decide +kernel)]; kernel_rfl) | (rw [if_neg (by decide +kernel)]; exact ⟨rfl, rfl⟩))
    (fun os started H enc _ F0 => names_lifted os started H enc F0)
end Go.Proofs.YtmophpgiaiemhaaGreat
