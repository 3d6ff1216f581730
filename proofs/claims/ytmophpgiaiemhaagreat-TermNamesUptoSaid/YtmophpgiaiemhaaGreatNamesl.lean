import Derived.Test.YtmophpgiaiemhaaGreatNamesk
import Derived.Test.YtmophpgiaiemhaaGreatRows
import Derived.ChangeSame
import Derived.JoinedOf
import Derived.ChangeCalls
/-! What a law's row asks, out of the contract of its function: the call makes new memory alone, and hands back true. -/
namespace Go.Proofs.YtmophpgiaiemhaaGreat
open Go Go.ChangeShapes Go.WideShapes
set_option maxRecDepth 100000

theorem cal_own : ownKnob Tryz.prog.godebug = none := by kernel_rfl
theorem cal_kids : Kids Tryz.prog (· < Tryz.prog.types.size) := kids_rows (by kernel_rfl) (by kernel_rfl)
theorem cal_full : ∀ t e, t < Tryz.prog.types.size → Tryz.prog.underlying t = some (.slice e) → 0 < Tryz.prog.cellsOf e := slices_full_of Tryz.prog (by kernel_rfl)

section
variable {H : Type} {enc : TypeId × Value → H} {P : Program} {w w' : World} {base : Nat} {sp : Nat → Bool} {held : Bool}
theorem trodAll_carry' : ∀ {ts : List TypeId} {vs : List Value} {ds : List (DataW H)} {ps : List MemPlace}, DataW.TrodAll enc P w base sp held ts vs ds ps → (∀ p ∈ ps, w.sameAt w' p) → DataW.TrodAll enc P w' base sp held ts vs ds ps
  | [], [], [], _, h, _ => h
  | _ :: _, _ :: _, _ :: _, _, ⟨p, q, ⟨n, h1⟩, h2, e⟩, hs =>
    ⟨p, q, ⟨n, DataW.trod_carry n _ _ _ h1 (fun x hx => hs x (by rw [e]; exact List.mem_append_left _ hx))⟩, trodAll_carry' h2 (fun x hx => hs x (by rw [e]; exact List.mem_append_right _ hx)), e⟩

theorem law_post {f : Func} {s : ChangeSpec} {apart : Bool} {args : Array Value} {ds gs : List (DataW H)} {before : List MemPlace} (K : Kids P (· < P.types.size)) (hz : ∀ t e, t < P.types.size → P.underlying t = some (.slice e) → 0 < P.cellsOf e)
    (hW : DataW.Whole enc P f.params.toList s.vars apart w args.toList ds gs before) (hv : s.vars = []) (hp : ∀ t ∈ f.params.toList, t < P.types.size) {tb : TypeId} (ht : f.resultTypes = #[tb]) (hb : P.underlying tb = some .bool)
    (hres : ∀ l : List (DataW H), l.length = f.params.size → (s.fn H l).results = [.lit (.bool true)]) (hargs : ∀ l : List (DataW H), l.length = f.params.size → (s.fn H l).args = l) (hvars : ∀ l : List (DataW H), l.length = f.params.size → (s.fn H l).vars = [])
    (hh : ∀ b, b < w.heap.size → w'.heap[b]? = w.heap[b]?) (ho : w'.os = w.os) (hout : w'.output = w.output) : s.post enc P f apart true false false w args (.bool true) w' := by
  have hlt := hW.lt
  have hW2 := hW
  obtain ⟨p, q, hA, hV, rfl, hfz, hnd⟩ := hW
  rw [hv] at hV
  obtain ⟨rfl, rfl⟩ : gs = [] ∧ q = [] := by
    cases gs with
    | nil => exact ⟨rfl, hV⟩
    | cons g gs => exact hV.elim
  have hlen : ds.length = f.params.size := by have := (trodAll_length hA).2; simpa using this
  have hsame : ∀ x ∈ p, w.sameAt w' x := fun x hx => by
    have hb := hlt x (by simpa using hx)
    cases x with
    | cell b off =>
      show w'.cell? ⟨b, off, none⟩ = w.cell? ⟨b, off, none⟩
      have hb : b < w.heap.size := hb
      unfold World.cell?
      simp only [hh b hb]
    | map b => exact hh b hb
  refine ⟨ds, [], p ++ [], [], p, [], hW2, ?_, ?_, ?_, ?_, fun h => by cases h⟩
  · rw [List.append_nil, hres ds hlen, ht]
    exact trodAll_mk1 ⟨1, by simp [DataW.trod, hb, Value.cells]⟩
  · rw [List.append_nil, hargs ds hlen]
    refine trodAll_carry' (DataW.TrodAll.respare K hz hp hA fun x hx => ?_) hsame
    simpa using hlt x (by simpa using hx)
  · rw [List.append_nil, hvars ds hlen, hv]; rfl
  · refine ⟨ho, hout, fun i hi => ?_⟩
    rw [hh i hi]
    cases h : w.heap[i]? with
    | none => rfl
    | some o => cases o <;> simp
end

/-- The world at a call, as what is lent. -/
def lentOf (W : World) : Hs.Heap := ⟨fun b => W.heap[b]?, W.os, W.output⟩
theorem lent_mem (W : World) : Hs.Mem W ([].flatten ++ []) (lentOf W) := ⟨by simp, fun b o h => by simp at h, fun b o h => by simp at h, fun _ _ h => h, rfl, rfl⟩
/-- The contract of a law, as the rows' builder asks it. -/
theorem law_calls {P : Program} {f : FuncId} {args : Array Value} {W : World} (h : Hs.CT P f args [] (lentOf W) (fun v N => v = .bool true ∧ N = [])) :
    Calls P f args W fun e W' => e = .returned (.bool true) ∧ (∀ b, b < W.heap.size → W'.heap[b]? = W.heap[b]?) ∧ W'.os = W.os ∧ W'.output = W.output := by
  refine callsIn_wide.1 ((h [] W (lent_mem W)).mono ?_)
  rintro e W' ⟨v, M', rfl, hm, rfl, rfl⟩
  refine ⟨rfl, fun b hb => ?_, hm.rest.1, hm.rest.2⟩
  rw [Array.getElem?_eq_getElem hb]
  exact hm.imm b _ (Array.getElem?_eq_getElem hb)

/-- A term that comes in. -/
theorem term_in {Ht : Type} {enc : TypeId × Value → Ht} {W : World} {base b0 : Nat} {sp : Nat → Bool} {held : Bool} {v : Value} {d : DataW Ht} {ps : List MemPlace} (hv : Value.okWide Tryz.prog W .any b0 27 v) (h : DataW.Trod enc Tryz.prog W base sp held 27 v d ps) :
    ∃ cs t, v = .agg ⟨cs⟩ ∧ Hs.RT (lentOf W) cs t := by
  obtain ⟨⟨cs⟩, rfl, _⟩ := okWide_struct Tryz.underlying27 hv
  obtain ⟨fuel, hf⟩ := h
  obtain ⟨t, ht⟩ := Hs.trod_RT (H := lentOf W) (fun _ _ h => h) fuel cs _ hf
  exact ⟨cs, t, rfl, ht⟩
end Go.Proofs.YtmophpgiaiemhaaGreat
/-! What comes in, as the claims read it, is a term with names, and not longer than its bulk. -/
namespace Go.Proofs.YtmophpgiaiemhaaGreat.Hs
open Go Go.Proofs

theorem bulkAll_sum {Ht : Type} (l : List (DataW Ht)) : Rows.uptoBulkAll l = (l.map Rows.uptoBulk).sum := by
  induction l with
  | nil => simp [Rows.uptoBulkAll]
  | cons d l ih => rw [Rows.uptoBulkAll, ih, List.map_cons, List.sum_cons]
theorem sum_le {α β : Type} {g : α → Nat} {f : β → Nat} : ∀ {l : List α} {d : List β}, l.length = d.length → (∀ i (h : i < l.length) (h' : i < d.length), g l[i] ≤ f d[i]) → (l.map g).sum ≤ (d.map f).sum
  | [], _, _, _ => by simp
  | _ :: _, [], h, _ => by simp at h
  | x :: l, y :: d, h, q => by
    rw [List.map_cons, List.map_cons, List.sum_cons, List.sum_cons]
    have h1 := q 0 (by simp) (by simp)
    have h2 := sum_le (l := l) (d := d) (by simpa using h) (fun i a b => by have := q (i + 1) (by simp; omega) (by simp; omega); simpa using this)
    simp only [List.getElem_cons_zero] at h1
    omega
theorem len_sum {α : Type} (l : List α) : (l.map (fun _ => 1)).sum = l.length := by
  induction l with
  | nil => rfl
  | cons x l ih => rw [List.map_cons, List.sum_cons, ih, List.length_cons]; omega
theorem len3 {α : Type} {l : List α} (h : l.length = 3) : ∃ a b c, l = [a, b, c] := match l, h with | [a, b, c], _ => ⟨a, b, c, rfl⟩
theorem len4 {α : Type} {l : List α} (h : l.length = 4) : ∃ a b c d, l = [a, b, c, d] := match l, h with | [a, b, c, d], _ => ⟨a, b, c, d, rfl⟩
theorem len6 {α : Type} {l : List α} (h : l.length = 6) : ∃ a b c d e f, l = [a, b, c, d, e, f] := match l, h with | [a, b, c, d, e, f], _ => ⟨a, b, c, d, e, f, rfl⟩
theorem sizePs_sum (l : List Pt) : Ye l = (l.map sizeP).sum := by
  induction l with
  | nil => simp [Ye]
  | cons p l ih => rw [Ye, ih, List.map_cons, List.sum_cons]
theorem wnNs_sum' (l : List Nm) : wnNs l = (l.map wnN).sum := by
  induction l with
  | nil => simp [wnNs]
  | cons x l ih => rw [wnNs, ih, List.map_cons, List.sum_cons]
def wnC (c : Pt × List ByteArray × Nm) : Nat := sizeP c.1 + c.2.1.length + wnN c.2.2
theorem wnNCs_sum' (l : List (Pt × List ByteArray × Nm)) : Xf l = (l.map wnC).sum := by
  induction l with
  | nil => simp [Xf]
  | cons c l ih => obtain ⟨p, m, x⟩ := c; rw [Xf, ih, List.map_cons, List.sum_cons]; rfl

section
variable {Ht : Type} {enc : TypeId × Value → Ht} {P : Program} {w : World} {base : Nat} {spare : Nat → Bool} {held : Bool} {H : Heap}
theorem slice_rdB {α : Type} {E : Heap → List Value → α → Prop} (g : α → Nat) {T e : TypeId} {sz fuel : Nat} {cs : List Value} {x : DataW Ht × List MemPlace} (hH : ∀ b o, w.heap[b]? = some o → H b = some o)
    (hT : P.underlying T = some (.slice e)) (hsz : P.cellsOf e = sz) (hpos : 0 < sz) (hE : ∀ m, m < fuel → ∀ cs x, DataW.trod enc P w base spare held m e cs = some x → ∃ p, E H cs p ∧ g p ≤ Rows.uptoBulk x.1)
    (h : DataW.trod enc P w base spare held fuel T cs = some x) : ∃ ks l, cs = [ks] ∧ rdS E sz H ks l ∧ (∃ a cap, ks = .slice a l.length cap ∧ l.length ≤ cap) ∧ (l.map g).sum + 1 ≤ Rows.uptoBulk x.1 := by
  rcases DataW.trod_slice hT h with ⟨rfl, rfl⟩ | ⟨a, len, cap, elems, rest, n, rfl, rfl, rfl, _, hlc, hcm, hel, hget, _⟩
  · exact ⟨_, [], rfl, rdS.nil, ⟨none, 0, rfl, Nat.le_refl _⟩, by simp [Rows.uptoBulk]⟩
  · rw [hsz] at hget
    have key : ∀ i, i < len → ∃ p, (∃ cs', w.cells? base (a.add (i * sz)) sz = some cs' ∧ E H cs' p) ∧ ∀ y, elems[i]? = some y → g p ≤ Rows.uptoBulk y.1 := fun i hi => by
      have h1 := hget i hi
      rw [List.getElem?_eq_getElem (by omega)] at h1
      obtain ⟨cs', h2, h3⟩ := Option.bind_eq_some_iff.1 h1
      obtain ⟨p, hp, hg⟩ := hE n (by omega) cs' _ h3
      exact ⟨p, ⟨cs', h2, hp⟩, fun y hy => by rw [List.getElem?_eq_getElem (by omega)] at hy; cases hy; exact hg⟩
    obtain ⟨l, hl, hr⟩ := list_of key
    refine ⟨_, l, rfl, ⟨some a, cap, by rw [hl], by rw [hl]; have : maxLen = 9223372036854775807 := rfl; omega, ?_⟩, ⟨some a, cap, by rw [hl], by omega⟩, ?_⟩
    · by_cases h0 : l.length = 0
      · exact .inl h0
      · right
        obtain ⟨⟨cs0, hc0, _⟩, _⟩ := hr 0 (by omega)
        rw [Nat.zero_mul, Addr.add, if_pos rfl] at hc0
        obtain ⟨hsp, row, T', fr, hb, _⟩ := cells_sub hc0 hpos
        obtain ⟨b, o, sp⟩ := a
        simp only at hsp hb
        subst hsp
        refine ⟨b, o, row, T', fr, rfl, hH _ _ hb, rows.mk fun i hi => ?_⟩
        obtain ⟨⟨cs', hc', he'⟩, _⟩ := hr i hi
        obtain ⟨_, row', T2, fr', hb', hs'⟩ := cells_sub hc' hpos
        have e1 : (Addr.add ⟨b, o, none⟩ (i * sz)).block = b := by unfold Addr.add; split <;> rfl
        have e2 : (Addr.add ⟨b, o, none⟩ (i * sz)).off = o + i * sz := by unfold Addr.add; split <;> simp_all
        rw [e1, hb] at hb'
        cases hb'
        rw [e2] at hs'
        exact ⟨cs', hs', he'⟩
    · have q := sum_le (g := g) (f := fun y : DataW Ht × List MemPlace => Rows.uptoBulk y.1) (l := l) (d := elems) (by omega) (fun i h h' => (hr i h).2 _ (List.getElem?_eq_getElem h'))
      show _ ≤ Rows.uptoBulk (.slice (elems.map (·.1)) (rest.map (·.1)))
      rw [Rows.uptoBulk, bulkAll_sum, List.map_map]
      have : (List.map (Rows.uptoBulk ∘ fun x => x.1) elems).sum = (elems.map (fun y : DataW Ht × List MemPlace => Rows.uptoBulk y.1)).sum := rfl
      omega
end
section
variable {Ht : Type} {enc : TypeId × Value → Ht} {w : World} {base : Nat} {spare : Nat → Bool} {held : Bool} {H : Heap}
theorem strs_in (hH : ∀ b o, w.heap[b]? = some o → H b = some o) (fuel : Nat) (cs : List Value) (x : DataW Ht × List MemPlace) (h : DataW.trod enc Tryz.prog w base spare held fuel 28 cs = some x) : ∃ ks l, cs = [ks] ∧ strR H ks l ∧ l.length + 1 ≤ Rows.uptoBulk x.1 := by
  obtain ⟨ks, l, h1, h2, ⟨a, cap, h3, h4⟩, h5⟩ := slice_rdB (E := RS) (sz := 1) (fun _ => 1) hH Tryz.underlying28 (by kernel_rfl) (by decide) (fun m hm cs x hx => by
    obtain ⟨s, hs, hx, _⟩ := DataW.trod_string Tryz.underlying9 hx
    subst hx
    exact ⟨s, hs, by show 1 ≤ Rows.uptoBulk (.lit (.string _)); rw [Rows.uptoBulk]; omega⟩) h
  refine ⟨ks, l, h1, ⟨a, cap, h3, h4, h2⟩, ?_⟩
  have := len_sum l
  omega
theorem trod_RPB (hH : ∀ b o, w.heap[b]? = some o → H b = some o) : ∀ (fuel : Nat) (cs : List Value) (x : DataW Ht × List MemPlace), DataW.trod enc Tryz.prog w base spare held fuel 75 cs = some x → ∃ p, RP H cs p ∧ sizeP p ≤ Rows.uptoBulk x.1 := by
  intro fuel
  induction fuel using Nat.strongRecOn with
  | ind fuel ih =>
    intro cs x h
    obtain ⟨xs, n, rfl, rfl, hl, hxl, hf⟩ := DataW.trod_struct Tryz.underlying75 h
    have hc : Tryz.prog.cellsOf 75 = 35 := by kernel_rfl
    rw [hc] at hl
    obtain ⟨y0, y1, y2, y3, rfl⟩ := len4 (show xs.length = 4 from hxl)
    have f0 : DataW.trod enc Tryz.prog w base spare held n 3 ((cs.drop 0).take (Tryz.prog.cellsOf 3)) = some y0 := hf 0 _ rfl
    have f1 : DataW.trod enc Tryz.prog w base spare held n 3 ((cs.drop 1).take (Tryz.prog.cellsOf 3)) = some y1 := hf 1 _ rfl
    have f2 : DataW.trod enc Tryz.prog w base spare held n 23 ((cs.drop 2).take (Tryz.prog.cellsOf 23)) = some y2 := hf 2 _ rfl
    have f3 : DataW.trod enc Tryz.prog w base spare held n 73 ((cs.drop 34).take (Tryz.prog.cellsOf 73)) = some y3 := hf 3 _ rfl
    rw [show Tryz.prog.cellsOf 3 = 1 from by kernel_rfl] at f0 f1
    rw [show Tryz.prog.cellsOf 23 = 32 from by kernel_rfl] at f2
    rw [show Tryz.prog.cellsOf 73 = 1 from by kernel_rfl] at f3
    obtain ⟨k, hk, _, wk⟩ := DataW.trod_int Tryz.underlying3 f0
    obtain ⟨m, hm, _, wm⟩ := DataW.trod_int Tryz.underlying3 f1
    obtain ⟨r, hr⟩ := sum_rd Tryz.underlying23 Tryz.underlying5 (by kernel_rfl) (by kernel_rfl) f2
    obtain ⟨ks, kids, hks, hkids, _, hb⟩ := slice_rdB (E := RP) (sz := 35) sizeP hH Tryz.underlying73 hc (by decide) (fun m hm cs x => ih m (by omega) cs x) f3
    refine ⟨.mk k m r kids, RP_mk.2 ⟨ks, ?_, wf_inI wk, wf_inI wm, hkids⟩, ?_⟩
    · have a0 := take1 hk
      have a1 := take1 hm
      have a3 := take1 hks
      rw [List.drop_zero] at a0
      have a4 : cs.drop 35 = [] := List.drop_eq_nil_of_le (by omega)
      rw [a0, a1, ← List.take_append_drop 32 (cs.drop (1 + 1)), List.drop_drop]
      rw [show (cs.drop (1 + 1)).take 32 = sC r from hr, show 1 + 1 + 32 = 34 from rfl, a3, show 34 + 1 = 35 from rfl, a4]
      rfl
    · rw [sizeP, sizePs_sum]
      show _ ≤ Rows.uptoBulk (.agg [y0.1, y1.1, y2.1, y3.1])
      simp only [Rows.uptoBulk, Rows.uptoBulkAll]
      omega
theorem trod_RNB (hH : ∀ b o, w.heap[b]? = some o → H b = some o) : ∀ (fuel : Nat) (cs : List Value) (x : DataW Ht × List MemPlace), DataW.trod enc Tryz.prog w base spare held fuel 32 cs = some x → ∃ t, RN H cs t ∧ wnN t ≤ Rows.uptoBulk x.1 := by
  intro fuel
  induction fuel using Nat.strongRecOn with
  | ind fuel ih =>
    intro cs x h
    obtain ⟨xs, n, rfl, rfl, hl, hxl, hf⟩ := DataW.trod_struct Tryz.underlying32 h
    have hc : Tryz.prog.cellsOf 32 = 37 := by kernel_rfl
    have hcc : Tryz.prog.cellsOf 85 = 73 := by kernel_rfl
    have hcs : Tryz.prog.cellsOf 28 = 1 := by kernel_rfl
    rw [hc] at hl
    obtain ⟨y0, y1, y2, y3, y4, y5, rfl⟩ := len6 (show xs.length = 6 from hxl)
    have f0 : DataW.trod enc Tryz.prog w base spare held n 3 ((cs.drop 0).take (Tryz.prog.cellsOf 3)) = some y0 := hf 0 _ rfl
    have f1 : DataW.trod enc Tryz.prog w base spare held n 3 ((cs.drop 1).take (Tryz.prog.cellsOf 3)) = some y1 := hf 1 _ rfl
    have f2 : DataW.trod enc Tryz.prog w base spare held n 23 ((cs.drop 2).take (Tryz.prog.cellsOf 23)) = some y2 := hf 2 _ rfl
    have f3 : DataW.trod enc Tryz.prog w base spare held n 28 ((cs.drop 34).take (Tryz.prog.cellsOf 28)) = some y3 := hf 3 _ rfl
    have f4 : DataW.trod enc Tryz.prog w base spare held n 29 ((cs.drop 35).take (Tryz.prog.cellsOf 29)) = some y4 := hf 4 _ rfl
    have f5 : DataW.trod enc Tryz.prog w base spare held n 30 ((cs.drop 36).take (Tryz.prog.cellsOf 30)) = some y5 := hf 5 _ rfl
    rw [show Tryz.prog.cellsOf 3 = 1 from by kernel_rfl] at f0 f1
    rw [show Tryz.prog.cellsOf 23 = 32 from by kernel_rfl] at f2
    rw [hcs] at f3
    rw [show Tryz.prog.cellsOf 29 = 1 from by kernel_rfl] at f4
    rw [show Tryz.prog.cellsOf 30 = 1 from by kernel_rfl] at f5
    obtain ⟨k, hk, _, wk⟩ := DataW.trod_int Tryz.underlying3 f0
    obtain ⟨m, hm, _, wm⟩ := DataW.trod_int Tryz.underlying3 f1
    obtain ⟨r, hr⟩ := sum_rd Tryz.underlying23 Tryz.underlying5 (by kernel_rfl) (by kernel_rfl) f2
    obtain ⟨nv, ns, hnv, hns, hb3⟩ := strs_in hH _ _ _ f3
    obtain ⟨ks, kids, hks, hkids, _, hb4⟩ := slice_rdB (E := RN) (sz := 37) wnN hH Tryz.underlying29 hc (by decide) (fun m hm cs x => ih m (by omega) cs x) f4
    obtain ⟨cv, cases, hcv, hcases, _, hb5⟩ := slice_rdB (E := RNC) (sz := 73) wnC hH Tryz.underlying30 hcc (by decide) (fun m hm cs x hx => by
      obtain ⟨zs, n2, rfl, rfl, hl2, hzl, hf2⟩ := DataW.trod_struct Tryz.underlying85 hx
      rw [hcc] at hl2
      obtain ⟨z0, z1, z2, rfl⟩ := len3 (show zs.length = 3 from hzl)
      have g0 : DataW.trod enc Tryz.prog w base spare held n2 75 ((cs.drop 0).take (Tryz.prog.cellsOf 75)) = some z0 := hf2 0 _ rfl
      have g1 : DataW.trod enc Tryz.prog w base spare held n2 28 ((cs.drop 35).take (Tryz.prog.cellsOf 28)) = some z1 := hf2 1 _ rfl
      have g2 : DataW.trod enc Tryz.prog w base spare held n2 32 ((cs.drop 36).take (Tryz.prog.cellsOf 32)) = some z2 := hf2 2 _ rfl
      rw [show Tryz.prog.cellsOf 75 = 35 from by kernel_rfl] at g0
      rw [hcs] at g1
      rw [hc] at g2
      obtain ⟨p, hp, hbp⟩ := trod_RPB hH _ _ _ g0
      obtain ⟨mv, ms, hmv, hms, hbm⟩ := strs_in hH _ _ _ g1
      obtain ⟨t, ht, hbt⟩ := ih n2 (by omega) _ _ g2
      refine ⟨(p, ms, t), ⟨_, mv, _, ?_, hp, hms.rd, ht⟩, ?_⟩
      · have b1 := take1 hmv
        rw [List.drop_zero, List.take_of_length_le (i := 37) (by rw [List.length_drop]; omega)]
        show cs = cs.take 35 ++ ([mv] ++ cs.drop 36)
        rw [show [mv] ++ cs.drop 36 = cs.drop 35 from b1.symm]
        exact (List.take_append_drop 35 cs).symm
      · show sizeP p + ms.length + wnN t ≤ Rows.uptoBulk (.agg [z0.1, z1.1, z2.1])
        simp only [Rows.uptoBulk, Rows.uptoBulkAll]
        omega) f5
    refine ⟨.mk k m r ns kids cases, RN_mk.2 ⟨nv, ks, cv, ?_, wf_inI wk, wf_inI wm, hns, hkids, hcases⟩, ?_⟩
    · have a0 := take1 hk
      have a1 := take1 hm
      have a3 := take1 hnv
      have a4 := take1 hks
      have a5 := take1 hcv
      rw [List.drop_zero] at a0
      have a6 : cs.drop 37 = [] := List.drop_eq_nil_of_le (by omega)
      rw [a0, a1, ← List.take_append_drop 32 (cs.drop (1 + 1)), List.drop_drop]
      rw [show (cs.drop (1 + 1)).take 32 = sC r from hr, show 1 + 1 + 32 = 34 from rfl, a3, show 34 + 1 = 35 from rfl, a4, show 35 + 1 = 36 from rfl, a5, show 36 + 1 = 37 from rfl, a6]
      rfl
    · rw [wnN, wnNs_sum', wnNCs_sum']
      show _ ≤ Rows.uptoBulk (.agg [y0.1, y1.1, y2.1, y3.1, y4.1, y5.1])
      simp only [Rows.uptoBulk, Rows.uptoBulkAll]
      omega
end
end Go.Proofs.YtmophpgiaiemhaaGreat.Hs
