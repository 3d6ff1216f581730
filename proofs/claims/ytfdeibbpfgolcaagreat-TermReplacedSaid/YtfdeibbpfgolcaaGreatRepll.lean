import Derived.Test.YtfdeibbpfgolcaaGreatReplk
import Derived.Test.YtfdeibbpfgolcaaGreatRows
import Derived.ChangeSame
import Derived.JoinedOf
import Derived.ChangeCalls
/-! What a law's row asks, out of the contract of its function: the call makes new memory alone, and hands back true. -/
namespace Go.Proofs.YtfdeibbpfgolcaaGreat
open Go Go.ChangeShapes Go.WideShapes
set_option maxRecDepth 100000

theorem cal_own : ownKnob Tryz.prog.godebug = none := by kernel_rfl
theorem cal_kids : Kids Tryz.prog (· < Tryz.prog.types.size) := kids_rows (by kernel_rfl) (by kernel_rfl)
theorem cal_full : ∀ t e, t < Tryz.prog.types.size → Tryz.prog.underlying t = some (.slice e) → 0 < Tryz.prog.cellsOf e := slices_full_of Tryz.prog (by kernel_rfl)

section
variable {H : Type} {enc : TypeId × Value → H} {P : Program} {w w' : World} {base : Nat} {sp : Nat → Bool} {held : Bool}
theorem trodAll_carry' : ∀ {ts : List TypeId} {vs : List Value} {ds : List (DataW H)} {ps : List MemPlace}, DataW.TrodAll enc P w base sp held ts vs ds ps → (∀ p ∈ ps, w.sameAt w' p) → DataW.TrodAll enc P w' base sp held ts vs ds ps
  | [], [], [], _, h, _ => h
  | _ :: _, _ :: _, _ :: _, _, ⟨p, q, ⟨n, h1⟩, h2, e⟩, hs =>
    ⟨p, q, ⟨n, DataW.trod_carry n _ _ _ h1 (fun x hx => hs x (by rw [e]; exact List.mem_append_left _ hx))⟩, trodAll_carry' h2 (fun x hx => hs x (by rw [e]; exact List.mem_append_right _ hx)), e⟩

theorem law_post {f : Func} {s : ChangeSpec} {apart : Bool} {args : Array Value} {ds gs : List (DataW H)} {before : List MemPlace} (K : Kids P (· < P.types.size)) (hz : ∀ t e, t < P.types.size → P.underlying t = some (.slice e) → 0 < P.cellsOf e)
    (hW : DataW.Whole enc P f.params.toList s.vars apart w args.toList ds gs before) (hv : s.vars = []) (hp : ∀ t ∈ f.params.toList, t < P.types.size) {tb : TypeId} (ht : f.resultTypes = #[tb]) (hb : P.underlying tb = some .bool)
    (hres : ∀ l : List (DataW H), l.length = f.params.size → (s.fn H l).results = [.lit (.bool true)]) (hargs : ∀ l : List (DataW H), l.length = f.params.size → (s.fn H l).args = l) (hvars : ∀ l : List (DataW H), l.length = f.params.size → (s.fn H l).vars = [])
    (hh : ∀ b, b < w.heap.size → w'.heap[b]? = w.heap[b]?) (ho : w'.os = w.os) (hout : w'.output = w.output) : s.post enc P f apart true false false w args (.bool true) w' := by
  have hlt := hW.lt
  have hW2 := hW
  obtain ⟨p, q, hA, hV, rfl, hfz, hnd⟩ := hW
  rw [hv] at hV
  obtain ⟨rfl, rfl⟩ : gs = [] ∧ q = [] := by
    cases gs with
    | nil => exact ⟨rfl, hV⟩
    | cons g gs => exact hV.elim
  have hlen : ds.length = f.params.size := by have := (trodAll_length hA).2; simpa using this
  have hsame : ∀ x ∈ p, w.sameAt w' x := fun x hx => by
    have hb := hlt x (by simpa using hx)
    cases x with
    | cell b off =>
      show w'.cell? ⟨b, off, none⟩ = w.cell? ⟨b, off, none⟩
      have hb : b < w.heap.size := hb
      unfold World.cell?
      simp only [hh b hb]
    | map b => exact hh b hb
  refine ⟨ds, [], p ++ [], [], p, [], hW2, ?_, ?_, ?_, ?_, fun h => by cases h⟩
  · rw [List.append_nil, hres ds hlen, ht]
    exact trodAll_mk1 ⟨1, by simp [DataW.trod, hb, Value.cells]⟩
  · rw [List.append_nil, hargs ds hlen]
    refine trodAll_carry' (DataW.TrodAll.respare K hz hp hA fun x hx => ?_) hsame
    simpa using hlt x (by simpa using hx)
  · rw [List.append_nil, hvars ds hlen, hv]; rfl
  · refine ⟨ho, hout, fun i hi => ?_⟩
    rw [hh i hi]
    cases h : w.heap[i]? with
    | none => rfl
    | some o => cases o <;> simp
end

/-- The world at a call, as what is lent. -/
def lentOf (W : World) : Hs.Heap := ⟨fun b => W.heap[b]?, W.os, W.output, W.tape, W.drawn⟩
theorem lent_mem (W : World) : Hs.Mem W ([].flatten ++ []) (lentOf W) := ⟨by simp, fun b o h => by simp at h, fun b o h => by simp at h, fun _ _ h => h, rfl, rfl, rfl, Nat.le_refl _⟩
/-- The contract of a law, as the rows' builder asks it. -/
theorem law_calls {P : Program} {f : FuncId} {args : Array Value} {W : World} (h : Hs.CT P f args [] (lentOf W) (fun v N => v = .bool true ∧ N = [])) :
    Calls P f args W fun e W' => e = .returned (.bool true) ∧ (∀ b, b < W.heap.size → W'.heap[b]? = W.heap[b]?) ∧ W'.os = W.os ∧ W'.output = W.output := by
  refine callsIn_wide.1 ((h [] W (lent_mem W)).mono ?_)
  rintro e W' ⟨v, M', rfl, hm, rfl, rfl⟩
  refine ⟨rfl, fun b hb => ?_, hm.rest.1, hm.rest.2.1⟩
  rw [Array.getElem?_eq_getElem hb]
  exact hm.imm b _ (Array.getElem?_eq_getElem hb)

end Go.Proofs.YtfdeibbpfgolcaaGreat
