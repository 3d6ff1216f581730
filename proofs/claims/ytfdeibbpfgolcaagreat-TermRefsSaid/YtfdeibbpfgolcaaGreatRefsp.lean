import Derived.Test.YtfdeibbpfgolcaaGreatRefso
import Derived.Sort.OwnSorted
/-! Digests in a row of one's own, put into order: the library's contract as a contract of this logic. -/
namespace Go.Proofs.YtfdeibbpfgolcaaGreat.Hs
open Go Go.Proofs Go.Sort Go.RowKit Go.MapKept
theorem Mem.setW {w w' : World} {L : Zh} {H : Heap} {b : Nat} {o o' : Obj} (m : Mem w ((b, o) :: L) H)
    (hb : w'.heap[b]? = some o') (hne : ∀ k, k < w.heap.size → k ≠ b → w'.heap[k]? = w.heap[k]?) (hr : Still w w') : Mem w' ((b, o') :: L) H := by
  have hnd := m.nd
  rw [List.map_cons, List.nodup_cons] at hnd
  have lt : ∀ {k : Nat} {x : Obj}, w.heap[k]? = some x → k < w.heap.size := fun h => (Array.getElem?_eq_some_iff.1 h).1
  refine ⟨by rw [List.map_cons, List.nodup_cons]; exact hnd, ?_, ?_, ?_, hr.rest m.rest⟩
  · intro k x hk
    rcases List.mem_cons.1 hk with e | hk
    · cases e; exact hb
    · have h1 := m.own k x (List.mem_cons.2 (.inr hk))
      rw [hne k (lt h1) (fun e => hnd.1 (List.mem_map.2 ⟨(k, x), hk, e⟩))]; exact h1
  · intro k x hk
    rcases List.mem_cons.1 hk with e | hk
    · cases e; exact m.sep b o (List.mem_cons.2 (.inl rfl))
    · exact m.sep k x (List.mem_cons.2 (.inr hk))
  · intro k x hk
    have h1 := m.imm k x hk
    rw [hne k (lt h1) (fun e => by subst e; rw [m.sep k o (List.mem_cons.2 (.inl rfl))] at hk; cases hk)]; exact h1
/-- the world as what is lent -/
def lentW (W : World) : Heap := ⟨fun b => W.heap[b]?, W.os, W.output, W.tape, W.drawn⟩
theorem lentW_mem (W : World) : Mem W ([].flatten ++ []) (lentW W) := ⟨by simp, fun b o h => by simp at h, fun b o h => by simp at h, fun _ _ h => h, rfl, rfl, rfl, Nat.le_refl _⟩
/-- behind a call that only makes memory: the world, grown -/
theorem grown_of {W w' : World} (m : Mem w' [] (lentW W)) : ∃ q os, w' = grow (W.drewN q) os := by
  obtain ⟨h1, h2, h3, h4⟩ := m.rest
  have hsz : W.heap.size ≤ w'.heap.size := by
    by_cases h0 : W.heap.size = 0
    · omega
    · have h := m.imm (W.heap.size - 1) (W.heap[W.heap.size - 1]'(by omega)) (Array.getElem?_eq_getElem (by omega))
      have := (Array.getElem?_eq_some_iff.1 h).1
      omega
  refine ⟨w'.drawn - W.drawn, w'.heap.extract W.heap.size w'.heap.size, ?_⟩
  obtain ⟨heap, tape, drawn, os, output⟩ := w'
  simp only [lentW] at h1 h2 h3 h4 hsz
  simp only [grow, World.drewN]
  subst h1 h2 h3
  congr 1
  · apply Array.ext
    · simp; omega
    · intro i hi1 hi2
      by_cases hi : i < W.heap.size
      · rw [Array.getElem_append_left hi]
        have h := m.imm i (W.heap[i]) (Array.getElem?_eq_getElem hi)
        exact (Array.getElem?_eq_some_iff.1 h).2
      · rw [Array.getElem_append_right (by omega), Array.getElem_extract]
        congr 1; omega
  · omega
theorem cmp_calls (x y : Sm) (W : World) : Calls Tryz.prog 55 #[.agg ⟨sC x⟩, .agg ⟨sC y⟩] W fun e w' => e = .returned (.int .i64 (cmpS x y)) ∧ ∃ q os', w' = grow (W.drewN q) os' := by
  refine callsIn_wide.1 ((cmpf_ct x y (lentW W) [] W (lentW_mem W)).mono ?_)
  rintro e w' ⟨v, M', rfl, hm, rfl, rfl⟩
  exact ⟨rfl, grown_of hm⟩
theorem cmp_lays (blk off size : Nat) (w : World) : CmpLays Tryz.prog 55 #[] sC 32 cmpS blk off size w := fun _ _ _ _ x y => cmp_calls x y _
theorem ltOf_cmpS (x y : Sm) : ltOf cmpS x y = bef x y := cmpS_lt x y
theorem cmp_swo : SWO (ltOf cmpS) where
  irrefl x := by rw [ltOf_cmpS]; exact bef_irr x
  trans x y z h1 h2 := by rw [ltOf_cmpS] at *; exact bef_trans h1 h2
  ntrans x y z h1 h2 := by
    rw [ltOf_cmpS] at *
    cases h : bef x z with
    | false => rfl
    | true =>
      exfalso
      cases e1 : bef y x with
      | false => rw [bef_tri h1 e1] at h; rw [h] at h2; cases h2
      | true =>
        cases e2 : bef z y with
        | false => rw [← bef_tri h2 e2, h1] at h; cases h
        | true => have := bef_trans h (bef_trans e2 e1); rw [bef_irr] at this; cases this
theorem arr_get? (l : List Value) (i : Nat) : (⟨l⟩ : Array Value)[i]? = l[i]? := by rw [← Array.getElem?_toList]
theorem arr_get! {l : List Value} {i : Nat} (h : i < l.length) : (⟨l⟩ : Array Value)[i]! = l[i] := getElem!_pos (⟨l⟩ : Array Value) i h
theorem flat_get {es : List (List Value)} (h : ∀ e ∈ es, e.length = 32) {i c : Nat} (hi : i < es.length) (hc : c < 32) : es.flatten[i * 32 + c]? = es[i][c]? := by
  have h1 := sub_row (sp := []) h i hi
  rw [List.append_nil] at h1
  obtain ⟨_, h3⟩ := Y2 h1
  rw [h3, List.getElem?_take, if_pos hc, List.getElem?_drop]
theorem flat_sms (l : List Sm) : flatK sC 32 l.toArray = ⟨(sms l).flatten⟩ := by
  have hl := ZA (Yv l)
  rw [Z1] at hl
  apply ext_get!
  · rw [size_flatK]; simp [hl]
  · intro t ht
    rw [size_flatK] at ht
    rw [get_flatK _ _ _ _ ht]
    have ht : t < l.length * 32 := ht
    have hi : t / 32 < l.length := by omega
    have hc : t % 32 < 32 := Nat.mod_lt _ (by decide)
    have e := flat_get (Yv l) (i := t / 32) (c := t % 32) (by rw [Z1]; exact hi) hc
    rw [show t / 32 * 32 + t % 32 = t from by omega, sms_get l _ hi] at e
    have e1 : l.toArray[t / 32]! = l[t / 32] := by simp [hi]
    rw [e1]
    have e2 : t < (sms l).flatten.length := by rw [hl]; exact ht
    rw [List.getElem?_eq_getElem e2, List.getElem?_eq_getElem (by rw [sC_len]; exact hc)] at e
    have e3 := Option.some.inj e
    rw [arr_get! e2, e3, getElem!_pos]
theorem put_flat {F G sp : List Value} (h : F.length = G.length) : putCells id 0 ⟨F⟩ ⟨G ++ sp⟩ = ⟨F ++ sp⟩ := by
  apply Array.ext'
  apply List.ext_getElem?
  intro i
  simp only [putCells]
  rw [Array.getElem?_toList, Array.getElem?_mapIdx]
  by_cases hi : i < F.length
  · rw [List.getElem?_append_left hi]
    have : (⟨G ++ sp⟩ : Array Value)[i]? = some (G[i]'(by omega)) := by rw [arr_get?, List.getElem?_append_left (by omega), List.getElem?_eq_getElem]
    rw [this, List.getElem?_eq_getElem hi]
    simp [hi]
  · rw [List.getElem?_append_right (by omega)]
    have : (⟨G ++ sp⟩ : Array Value)[i]? = sp[i - F.length]? := by
      rw [arr_get?, List.getElem?_append_right (by omega), h]
    rw [this]
    cases sp[i - F.length]? with
    | none => rfl
    | some x => simp [hi]
theorem heap_sortW {w : World} {g n : Nat} {os : Array Obj} {cur : Array Value} {e : TypeId} {fr : Nat × Nat} (d : Array Value) (hb : w.heap[g]? = some (.cells cur e fr)) :
    (grow (putRow id (Sort.ahead w n) g 0 d) os).heap[g]? = some (.cells (putCells id 0 d cur) e fr) := by
  have hg : g < w.heap.size := (Array.getElem?_eq_some_iff.1 hb).1
  rw [heap_grow_old _ _ (by simpa using hg)]
  simp [putRow, mapBlock, Sort.ahead, Array.getElem?_modify, hb, onCells]
theorem sortS_ct (l : List Sm) (v : Value) (k : Zh) (H : Heap) (ho : Own 23 32 v (sms l) k) (hl : l.length ≤ 1000000) :
    CT Tryz.prog 54 ⟨[v, .func (.func 55) ⟨[]⟩ ⟨[]⟩]⟩ [k] H (fun r N => r = .tuple ⟨[]⟩ ∧ ∃ k' l', N = [k'] ∧ l'.Perm l ∧ l'.Pairwise (fun x y => bef y x = false) ∧ Own 23 32 v (sms l') k') := fun F w m => by
  rw [callsIn_wide]
  obtain ⟨h1, ⟨rfl, he, rfl⟩ | ⟨b, cap, spare, rfl, rfl, hsp, hcap⟩⟩ := ho
  · have : l = [] := by cases l with
      | nil => rfl
      | cons x l => cases he
    subst this
    have hc := AnyF.slices_SortFunc_none Tryz.sortS none 0 (.func (.func 55) #[] #[]) w
    change Calls Tryz.prog 54 _ _ _ at hc
    refine hc.mono ?_
    rintro e w' ⟨rfl, rfl⟩
    exact ⟨_, [[]], rfl, m, rfl, [], [], rfl, List.Perm.refl _, List.Pairwise.nil, by simpa [sms] using (Own.nil : Own 23 32 (.slice none 0 0) [] [])⟩
  · rw [Z1] at hsp hcap ⊢
    have hb := m.own b _ (by simp : (b, Obj.cells ⟨(sms l).flatten ++ spare⟩ 23 (0, 0)) ∈ _)
    have hfl := ZA (Yv l)
    rw [Z1] at hfl
    have hH : HoldsK sC 32 w b 0 l.toArray := by
      unfold HoldsK
      rw [flat_sms]
      intro j hj
      have hj : j < (sms l).flatten.length := hj
      refine ⟨?_, by simp [World.frozen?, hb]⟩
      simp only [World.cell?, hb, Nat.zero_add]
      simp only [Option.isSome_none, Bool.false_eq_true, if_false]
      have e1 : (⟨(sms l).flatten ++ spare⟩ : Array Value)[j]? = some ((sms l).flatten[j]) := by
        rw [arr_get?, List.getElem?_append_left hj, List.getElem?_eq_getElem hj]
      rw [e1, arr_get! hj]; rfl
    have eg : ∀ args w, (callFunc 55 args).run Tryz.prog w = .ok (.enter 55 args) w := Tryz.call55
    have hc := AnyQ.slices_SortFunc Tryz.sortS 32 Tryz.isAgg23 Tryz.sizeOf23 sC sC_len sC_ok cmpS cmp_swo 55 #[] b 0 cap l.toArray w eg (cmp_lays b 0 l.toArray.size w) hH (Array.getElem?_eq_some_iff.1 hb).1 (by simp; omega)
    change Calls Tryz.prog 54 _ _ _ at hc
    refine hc.mono ?_
    rintro e w' ⟨rfl, d', n, os, hp, hs, rfl⟩
    obtain ⟨l', rfl⟩ : ∃ l' : List Sm, d' = l'.toArray := ⟨d'.toList, by simp⟩
    obtain ⟨hp1, _, hp3⟩ := hp
    have hll : l'.length = l.length := by simpa using hp1
    have hperm : l'.Perm l := by
      have e1 : (l'.toArray.extract 0 l.toArray.size).toList = l' := by simp [← hll]
      have e2 : (l.toArray.extract 0 l.toArray.size).toList = l := by simp
      rwa [e1, e2] at hp3
    have hsrt : l'.Pairwise (fun x y => bef y x = false) := by
      rw [List.pairwise_iff_getElem]
      intro i j hi hj hij
      have := hs i j (Nat.zero_le _) hij (by simp; omega)
      rw [ltOf_cmpS] at this
      have z : ∀ i (h : i < l'.length), l'.toArray[i]! = l'[i] := by intro i h; simp [h]
      rwa [z i hi, z j hj] at this
    have hfl' := ZA (Yv l')
    rw [Z1, hll, ← hfl] at hfl'
    have hm : Mem (sortWorldK sC 32 w b 0 n l'.toArray os) ((b, .cells ⟨(sms l').flatten ++ spare⟩ 23 (0, 0)) :: F) H := by
      refine Mem.setW (w := w) (o := .cells ⟨(sms l).flatten ++ spare⟩ 23 (0, 0)) (by simpa using m) ?_ ?_ ⟨rfl, rfl, rfl, Nat.le_add_right _ _⟩
      · unfold sortWorldK putRowK
        rw [flat_sms, heap_sortW _ hb, put_flat hfl']
      · intro k hk hne
        unfold sortWorldK putRowK
        rw [heap_grow_old _ _ (by simpa using hk)]
        simp [putRow, mapBlock, Sort.ahead, Array.getElem?_modify, Ne.symm hne]
    refine ⟨_, [[(b, .cells ⟨(sms l').flatten ++ spare⟩ 23 (0, 0))]], rfl, by simpa using hm, rfl, _, l', rfl, hperm, hsrt, ?_⟩
    rw [← hll] at hsp hcap ⊢
    rw [← Z1 l']
    exact ⟨Yv l', .inr ⟨b, cap, spare, rfl, rfl, by rw [Z1]; exact hsp, by rw [Z1]; exact hcap⟩⟩
end Go.Proofs.YtfdeibbpfgolcaaGreat.Hs
/-! Walks, printed by a program of this session's own (gen.py). -/
namespace Go.Proofs.YtfdeibbpfgolcaaGreat.Hs
open Go Go.Proofs
set_option maxRecDepth 100000
set_option linter.unusedVariables false
set_option linter.unusedSimpArgs false
attribute [local irreducible] JL J CT wlo DT
set_option maxHeartbeats 2000000 in
theorem refsP_ct (t : Tm) (cs : List Value) (H : Heap) (ht : RT H cs t) : CT Tryz.prog 12 ⟨[.agg ⟨cs⟩]⟩ [] H (fun v N => ∃ va vb vc ka kb kc, v = .tuple ⟨[va, vb, vc, iv (ZN [t])]⟩ ∧ N = [ka ++ (kb ++ kc)] ∧ Own 23 32 va (sms ((refE t).a)) ka ∧ Own 23 32 vb (sms ((refE t).b)) kb ∧ Own 23 32 vc (sms ((refE t).c)) kc) := by
 refine Zn Tryz.func12 rfl rfl <| Zc <| Za <| JLr (Zo (l := cs) rfl rfl fun b1 => JLr (Zl (l := [nS]) Tryz.zeroValue34 rfl fun b2 => JLr (Zl (l := [nS]) Tryz.zeroValue34 rfl fun b3 => JLr (Zl (l := [nS]) Tryz.zeroValue34 rfl fun b4 => JLA rfl <| Zb <| Zc <| Zc <| Za <| JLr (Zg Zt rfl (At.bx 3 rfl) (Zr (Zq ht)) ?_)))))
 refine JLr (Zs (vs := [.agg ⟨cs⟩]) [cs] Tryz.runUnderlying24 el27 rfl rfl (by intro e he; simp only [List.mem_cons, List.not_mem_nil, or_false] at he; subst he; exact (Zq ht)) rfl (by decide) fun b5 k5 ho5 hk5 => Jc Tryz.call49 rfl (fun hin => right_ct _ _ _ (Own.rd1 ho5 (hin 0 _ rfl) (RT.mono (Hle.hu _ _) ht))) rfl ?_)
 rintro _ _ ⟨rfl, rfl⟩
 refine JLA rfl <| Zb <| Zc <| Za <| JLM rfl <| JLn (Pu.neq rfl rfl) <| Zb <| Zf rfl (fun h6 => ?_) (fun h6 => ?_)
 ·replace h6 := nt h6
  replace h6 := df h6
  refine Zc <| Za <| JLM rfl <| JLr (Ze 3 (vs := [nS]) (l := [nS]) Yg rfl rfl rfl rfl rfl (Zi rfl Zp) rfl <| JLr (Ze 2 (vs := [nS]) (l := [nS]) Yg rfl rfl rfl rfl rfl (Zi rfl Zp) rfl <| JLr (Ze 1 (vs := [nS]) (l := [nS]) Yg rfl rfl rfl rfl rfl (Zi rfl Zp) rfl <| JLA rfl <| Zb <| Zm <| ⟨.tuple ⟨[nS, nS, nS, iv (ZN [t])]⟩, [[] ++ ([] ++ [])], Ret.four rfl (RV.cell1 Yg rfl (At.bx 3 rfl) rfl) (RV.cell1 Yg rfl (At.bx 2 rfl) rfl) (RV.cell1 Yg rfl (At.bx 1 rfl) rfl) (RV.tmp rfl), (Sub.emp Sub.nil), ?_⟩)))
  have hx : refE t = ⟨[], [], []⟩ := by rw [refE, if_neg (by assumption)]
  exact ⟨_, _, _, _, _, _, rfl, rfl, by rw [hx]; exact Own.nil, by rw [hx]; exact Own.nil, by rw [hx]; exact Own.nil⟩
 replace h6 := nf h6
 replace h6 := dt h6
 refine Zj <| Zc ?_
 have hrt : ZN [t] = 0 := by assumption
 refine Za <| JLr (Runs_makeHd fun r7 => JLr (Zl (l := [.map none]) Tryz.zeroValue96 rfl fun b8 => JLr (Ze 0 (vs := [.map (some r7)]) (l := [.map (some r7)]) ty96 rfl rfl rfl rfl rfl (Zi rfl Zp) rfl <| Zb <| Zc <| Za <| JLq (.func (.func 50) ⟨[]⟩ ⟨[pp b8 0]⟩) (Pu.makeFunc rfl rfl) <| JLr (Zl (l := [.nilFunc]) Tryz.zeroValue100 rfl fun b9 => JLr (Ze 0 (vs := [.func (.func 50) ⟨[]⟩ ⟨[pp b8 0]⟩]) (l := [.func (.func 50) ⟨[]⟩ ⟨[pp b8 0]⟩]) ty100 rfl rfl rfl rfl rfl (Zi rfl Zp) rfl <| Zb <| Zc <| Za ?_)))))
 refine JLr (Zl (l := [.nilFunc]) Tryz.zeroValue101 rfl fun b10 => Zb <| Zc <| Za <| JLq (.func (.func 51) ⟨[]⟩ ⟨[pp b9 0, pp b3 0, pp b10 0]⟩) (Pu.makeFunc rfl rfl) <| JLr (Ze 0 (vs := [.func (.func 51) ⟨[]⟩ ⟨[pp b9 0, pp b3 0, pp b10 0]⟩]) (l := [.func (.func 51) ⟨[]⟩ ⟨[pp b9 0, pp b3 0, pp b10 0]⟩]) ty101 rfl rfl rfl rfl rfl (Zi rfl Zp) rfl <| Zb <| Zc <| Za <| JLr (Zl (l := [.nilFunc]) Tryz.zeroValue102 rfl fun b11 => Zb <| Zc <| Za ?_)))
 refine JLq (.func (.func 52) ⟨[]⟩ ⟨[pp b9 0, pp b2 0, pp b3 0, pp b4 0, pp b10 0, pp b11 0]⟩) (Pu.makeFunc rfl rfl) <| JLr (Ze 0 (vs := [.func (.func 52) ⟨[]⟩ ⟨[pp b9 0, pp b2 0, pp b3 0, pp b4 0, pp b10 0, pp b11 0]⟩]) (l := [.func (.func 52) ⟨[]⟩ ⟨[pp b9 0, pp b2 0, pp b3 0, pp b4 0, pp b10 0, pp b11 0]⟩]) ty102 rfl rfl rfl rfl rfl (Zi rfl Zp) rfl <| Zb <| Zc <| Za <| JLr (Zd ty102 rfl (At.bx 0 rfl) rfl <| JLr (Zg Zt rfl (At.bx 9 rfl) (Zr (Zq ht)) <| ZZ (Sub.cons 4 rfl (Sub.cons 7 rfl (Sub.cons 6 rfl (Sub.cons 5 rfl (Sk (Sk (Sk (Sk (Sk (Sk Sub.nil)))))))))) <| ZZ (M' := [gsC r7 b2 b3 b4 (⟨[], nS, nS, nS, [], [], []⟩ : GS), (BX b11 [.func (.func 52) ⟨[]⟩ ⟨[pp b9 0, pp b2 0, pp b3 0, pp b4 0, pp b10 0, pp b11 0]⟩] 102), (BX b10 [.func (.func 51) ⟨[]⟩ ⟨[pp b9 0, pp b3 0, pp b10 0]⟩] 101), (BX b9 [.func (.func 50) ⟨[]⟩ ⟨[pp b8 0]⟩] 100), (BX b8 [.map (some r7)] 96), k5, (BX b1 cs 27)]) (Sub.flat Sub.refl (by simp [gsC])) ?_)))
 have hI0 : gsI (⟨[], nS, nS, nS, [], [], []⟩ : GS) := ⟨Own.nil, Own.nil, Own.nil⟩
 refine Zw 0 rfl Tryz.call52 rfl rfl (fun hin => wlk_ct r7 b2 b3 b4 b8 b9 b10 b11 _ _ (⟨[], nS, nS, nS, [], [], []⟩ : GS) _ (RT.mono (Hle.hu _ _) ht) hI0 (by have := (Ye (YX hrt)).1; simp only [List.length_nil]; omega) (hin 3 _ rfl _ _ List.mem_cons_self) (hin 2 _ rfl _ _ List.mem_cons_self) (hin 1 _ rfl _ _ List.mem_cons_self) (hin 0 _ rfl _ _ List.mem_cons_self)) rfl ?_
 rintro _ _ ⟨s12, rfl, hI12, hl12⟩
 have hgl := gT_len t []
 have hck := (Ye (YX hrt)).1
 rw [← hl12] at hgl
 simp only [List.length_nil] at hgl
 have hsl6 := sel_len 6 s12.l
 have hsl8 := sel_len 8 s12.l
 have hsl11 := sel_len 11 s12.l
 refine ZZ (M' := [hdC r7 (s12.l), (BX b2 [s12.v0] 34), s12.k0, (BX b3 [s12.v1] 34), s12.k1, (BX b4 [s12.v2] 34), s12.k2, (BX b11 [.func (.func 52) ⟨[]⟩ ⟨[pp b9 0, pp b2 0, pp b3 0, pp b4 0, pp b10 0, pp b11 0]⟩] 102), (BX b10 [.func (.func 51) ⟨[]⟩ ⟨[pp b9 0, pp b3 0, pp b10 0]⟩] 101), (BX b9 [.func (.func 50) ⟨[]⟩ ⟨[pp b8 0]⟩] 100), (BX b8 [.map (some r7)] 96), k5, (BX b1 cs 27)]) (Sub.flat Sub.refl (by simp [gsC])) <| Zb <| Zc <| Zc <| Za <| JLr (Zd Yg rfl (At.bx 1 rfl) rfl <| JLr (Zd Yg rfl (At.bx 3 rfl) rfl <| JLr (Zd Yg rfl (At.bx 5 rfl) rfl <| JLr (Zs (vs := [s12.v0, s12.v1, s12.v2]) [[s12.v0], [s12.v1], [s12.v2]] Tryz.runUnderlying108 el34 rfl (congr (congrArg List.cons (ZJ hI12.1.one)) (congr (congrArg List.cons (ZJ hI12.2.1.one)) (congr (congrArg List.cons (ZJ hI12.2.2.one)) rfl))) (by intro e he; simp only [List.mem_cons, List.not_mem_nil, or_false] at he; rcases he with rfl | rfl | rfl <;> first | exact rfl | exact rfl | exact rfl) rfl (by decide) fun b13 k13 ho13 hk13 => JLn (Pu.lenSl Tryz.runUnderlying108 rfl) <| JLM rfl <| Zb <| Zk ?_))))
 refine Yo 4 <| Z0 <| Zc <| Za <| JLq (.bool true) (show Pu _ _ _ (.bool (decide ((0 : Int) < 3))) from Pu.lss rfl rfl) <| Zb <| Zc <| Zf (b := true) rfl (fun _ => ?_) (fun h => absurd h (by simp))
 refine Zj <| Zc <| Zk <| Zc <| Za <| JLq (pp b13 0) (Pu.idx 0 Tryz.runUnderlying108 Yg rfl rfl (by decide) (by decide)) <| JLr (Zd Yg rfl (At.k 0 rfl (by rw [hk13]; exact List.mem_cons_self)) rfl <| JLa (s12.v0) <| Zb <| Za <| JLm (s12.v0) <| Zw 3 rfl Tryz.call54 rfl rfl (fun hin => sortS_ct (sel 6 s12.l) _ _ _ hI12.1 (by omega)) rfl ?_)
 rintro _ _ ⟨rfl, k14, l14, rfl, hp14, hs14, ho14⟩
 rw [hl12] at hp14
 rw [ref_a hp14 hs14] at ho14
 refine Zb <| Za <| JLq (iv 1) (Pu.arith rfl rfl rfl) <| JLM rfl <| Zb <| Z0 <| Zc <| Za <| JLq (.bool true) (show Pu _ _ _ (.bool (decide ((1 : Int) < 3))) from Pu.lss rfl rfl) <| Zb <| Zc <| Zf (b := true) rfl (fun _ => ?_) (fun h => absurd h (by simp))
 refine Zj <| Zc <| Zk <| Zc <| Za <| JLq (pp b13 1) (Pu.idx 1 Tryz.runUnderlying108 Yg rfl rfl (by decide) (by decide)) <| JLr (Zd Yg rfl (At.k 1 rfl (by rw [hk13]; exact List.mem_cons_self)) rfl <| JLa (s12.v1) <| Zb <| Za <| JLm (s12.v1) <| Zw 5 rfl Tryz.call54 rfl rfl (fun hin => sortS_ct (sel 8 s12.l) _ _ _ hI12.2.1 (by omega)) rfl ?_)
 rintro _ _ ⟨rfl, k15, l15, rfl, hp15, hs15, ho15⟩
 rw [hl12] at hp15
 rw [ref_b hp15 hs15] at ho15
 refine Zb <| Za <| JLq (iv 2) (Pu.arith rfl rfl rfl) <| JLM rfl <| Zb <| Z0 <| Zc <| Za <| JLq (.bool true) (show Pu _ _ _ (.bool (decide ((2 : Int) < 3))) from Pu.lss rfl rfl) <| Zb <| Zc <| Zf (b := true) rfl (fun _ => ?_) (fun h => absurd h (by simp))
 refine Zj <| Zc <| Zk <| Zc <| Za <| JLq (pp b13 2) (Pu.idx 2 Tryz.runUnderlying108 Yg rfl rfl (by decide) (by decide)) <| JLr (Zd Yg rfl (At.k 2 rfl (by rw [hk13]; exact List.mem_cons_self)) rfl <| JLa (s12.v2) <| Zb <| Za <| JLm (s12.v2) <| Zw 7 rfl Tryz.call54 rfl rfl (fun hin => sortS_ct (sel 11 s12.l) _ _ _ hI12.2.2 (by omega)) rfl ?_)
 rintro _ _ ⟨rfl, k16, l16, rfl, hp16, hs16, ho16⟩
 rw [hl12] at hp16
 rw [ref_c hp16 hs16] at ho16
 refine Zb <| Za <| JLq (iv 3) (Pu.arith rfl rfl rfl) <| JLM rfl <| Zb <| Z0 <| Zc <| Za <| JLq (.bool false) (show Pu _ _ _ (.bool (decide ((3 : Int) < 3))) from Pu.lss rfl rfl) <| Zb <| Zc <| Zf (b := false) rfl (fun h => absurd h (by simp)) (fun _ => Zy _ rfl ?_)
 refine Zc <| Za <| JLr (Zd Yg rfl (At.bx 5 rfl) rfl <| JLr (Zd Yg rfl (At.bx 6 rfl) rfl <| JLr (Zd Yg rfl (At.bx 7 rfl) rfl <| JLr (Ze 5 (vs := [s12.v0]) (l := [s12.v0]) Yg rfl rfl rfl (ZJ hI12.1.one) rfl (Zi hI12.1.one Zp) rfl <| JLr (Ze 6 (vs := [s12.v1]) (l := [s12.v1]) Yg rfl rfl rfl (ZJ hI12.2.1.one) rfl (Zi hI12.2.1.one Zp) rfl <| JLr (Ze 7 (vs := [s12.v2]) (l := [s12.v2]) Yg rfl rfl rfl (ZJ hI12.2.2.one) rfl (Zi hI12.2.2.one Zp) rfl <| JLA rfl <| Zb <| Zm <| ⟨.tuple ⟨[s12.v0, s12.v1, s12.v2, iv 0]⟩, [k14 ++ (k15 ++ k16)], Ret.four rfl (RV.cell1 Yg rfl (At.bx 5 rfl) rfl) (RV.cell1 Yg rfl (At.bx 6 rfl) rfl) (RV.cell1 Yg rfl (At.bx 7 rfl) rfl) (RV.tmp rfl), (Sub.join3 (Sub.cons 2 rfl (Sub.cons 1 rfl (Sk Sub.nil)))), ?_⟩))))))
 have hx : refE t = refL t := by rw [refE, if_pos hrt]
 exact ⟨_, _, _, _, _, _, by rw [hrt], rfl, by rw [hx]; exact ho14, by rw [hx]; exact ho15, by rw [hx]; exact ho16⟩
end Go.Proofs.YtfdeibbpfgolcaaGreat.Hs
/-! Walks, printed by a program of this session's own (gen.py). -/
namespace Go.Proofs.YtfdeibbpfgolcaaGreat.Hs
open Go Go.Proofs
set_option maxRecDepth 100000
set_option linter.unusedVariables false
set_option linter.unusedSimpArgs false
attribute [local irreducible] JL J CT wlo DT
set_option maxHeartbeats 4000000 in
theorem refs_law (t : Tm) (sf sg : Sm) (cs : List Value) (H : Heap) (ht : RT H cs t) : CT Tryz.prog 3 ⟨[.agg ⟨cs⟩, .agg ⟨sC sf⟩, .agg ⟨sC sg⟩]⟩ [] H (fun v N => v = .bool true ∧ N = []) := by
 refine Zn Tryz.func3 rfl rfl <| Zc <| Za <| JLr (Zo (l := cs) rfl rfl fun b1 => JLr (Zo (l := sC sf) rfl rfl fun b2 => JLr (Zo (l := sC sg) rfl rfl fun b3 => JLA rfl <| Zb <| Zc <| Zc <| Za <| JLr (Zg Zt rfl (At.bx 2 rfl) (Zr (Zq ht)) <| Jc Tryz.call6 rfl (fun hin => great_ct _ _ _ (RT.mono (Hle.hu _ _) ht)) rfl ?_))))
 rintro _ _ ⟨rfl, rfl⟩
 refine Zb <| Zf rfl (fun h4 => ?_) (fun h4 => ?_)
 ·refine Zc <| Za <| Jc Tryz.call7 rfl (fun hin => awake_ct _) rfl ?_
  rintro _ _ ⟨rfl, rfl⟩
  refine JLA rfl <| Zb <| Zm <| ⟨.bool true, [], Ret.one rfl (RV.tmp rfl), Sub.nil, ?_⟩
  exact ⟨rfl, rfl⟩
 refine Zj <| Zc ?_
 have hrl := refL_len (t := t) (by have := (great_size ‹(cnT stG 0 t 0).1 = false›); omega)
 refine Za <| JLr (Zg Zt rfl (At.bx 2 rfl) (Zr (Zq ht)) <| Jc Tryz.call8 rfl (fun hin => ownTerm_ct _ _ _ (RT.mono (Hle.hu _ _) ht) (by have := (great_size ‹(cnT stG 0 t 0).1 = false›); omega)) rfl ?_)
 rintro _ _ ⟨cs5, k5, rfl, rfl, hO5⟩
 refine JLr (Zl (l := pkT 0 0 zS nS nS) Tryz.zeroValue27 rfl fun b6 => JLr (Ze 0 (vs := cs5) (l := cs5) Zt rfl rfl rfl rfl hO5.len hO5.ok (ZL (n := 36) rfl hO5.len) <| Zb <| Zc <| Za <| JLr (Zg Zt rfl (At.bx 4 rfl) (Zr (Zq ht)) <| Jc Tryz.call9 rfl (fun hin => rightL_ct _ _ _ (RT.mono (Hle.hu _ _) ht) (by have := (great_size ‹(cnT stG 0 t 0).1 = false›); omega)) rfl ?_)))
 rintro _ _ ⟨rfl, rfl⟩
 refine JLM rfl <| JLn (Pu.extract rfl rfl) <| JLn (Pu.extract rfl rfl) <| JLA rfl <| JLA rfl <| Zb <| Zc <| Za <| JLr (Zl (l := [nS, nS, nS]) Tryz.zeroValue35 rfl fun b7 => Zb <| Zc <| Za <| JLr (Zl (l := pkT 0 0 zS nS nS) Tryz.zeroValue27 rfl fun b8 => ?_))
 refine Zb <| Zc <| Zc <| Za <| JLM rfl <| Zb <| Zf rfl (fun h9 => ?_) (fun h9 => ?_)
 ·replace h9 := dt h9
  refine ZC mixed #[0, 1, 0, 0, 0, 31, 63, 127] 5 [some 29, some 30, some 31, some 32, some 33] [] [(1, fun _ _ vw qw => ∃ va vb vc ka kb kc, vw = .agg ⟨[va, vb, vc]⟩ ∧ qw = [ka ++ (kb ++ kc)] ∧ Own 23 32 va (sms ((rT t ⟨[], [], []⟩).a)) ka ∧ Own 23 32 vb (sms ((rT t ⟨[], [], []⟩).b)) kb ∧ Own 23 32 vc (sms ((rT t ⟨[], [], []⟩).c)) kc)] rfl (by kernel_rfl) rfl (by kernel_rfl) <| Dl Zt (At.bx 6 rfl) (Zr (Zq ht)) ?_
  refine Dc rfl Tryz.call10 (fun _ => rfl) (fun hin => refsR_ct _ _ _ (RT.mono (Hle.hu _ _) ht) (by have := (great_size ‹(cnT stG 0 t 0).1 = false›); omega)) ?_
  rintro _ _ ⟨v11a, v11b, v11c, k11a, k11b, k11c, rfl, rfl, ho11a, ho11b, ho11c⟩
  refine Dl Zt (At.bx 6 rfl) (Zr (Zq ht)) <| Dl ZR (At.bx 5 rfl) (Zr rfl) <| Dl ZR (At.bx 4 rfl) (Zr rfl) <| ZK (M' := [k11a ++ (k11b ++ k11c), (BX b8 (pkT 0 0 zS nS nS) 27), (BX b7 [nS, nS, nS] 35), (BX b6 cs5 27), k5, (BX b3 (sC sg) 23), (BX b2 (sC sf) 23), (BX b1 cs 27)]) rfl ?_
  show JL _ _ _ [_, _, _] _ _ _
  refine Jc Tryz.call11 rfl (fun hin => replR_ct _ _ _ _ _ (RT.mono (Hle.hu _ _) ht) (by have := (great_size ‹(cnT stG 0 t 0).1 = false›); omega)) rfl ?_
  rintro _ _ ⟨cs12, k12, rfl, rfl, hO12⟩
  refine JLr (Ze 3 (vs := [v11a, v11b, v11c]) (l := [v11a, v11b, v11c]) ty35 rfl rfl rfl rfl rfl (Zi ho11a.one (Zi ho11b.one (Zi ho11c.one Zp))) rfl <| JLr (Ze 2 (vs := cs12) (l := cs12) Zt rfl rfl rfl rfl hO12.len hO12.ok (ZL (n := 36) rfl hO12.len) <| Zb <| Zc <| Za <| JLr (Zg Zt rfl (At.bx 4 rfl) (Zr hO5.len) <| Jc Tryz.call12 rfl (fun hin => refsP_ct _ _ _ (hO5.rd (hin 5 _ rfl))) rfl ?_)))
  rintro _ _ ⟨v13a, v13b, v13c, k13a, k13b, k13c, rfl, rfl, ho13a, ho13b, ho13c⟩
  rw [refE, YP, if_pos h9] at ho13a ho13b ho13c
  refine ZZ (M' := [k13a, k13b, k13c, k12, k11a ++ (k11b ++ k11c), (BX b8 cs12 27), (BX b7 [v11a, v11b, v11c] 35), (BX b6 cs5 27), k5, (BX b3 (sC sg) 23), (BX b2 (sC sf) 23), (BX b1 cs 27)]) (Sub.flat Sub.refl (by simp)) <| JLM rfl <| JLn (Pu.extract rfl rfl) <| JLn (Pu.extract rfl rfl) <| JLn (Pu.extract rfl rfl) <| JLn (Pu.extract rfl rfl) <| JLa v13a <| JLa v13b <| JLa v13c <| JLA rfl <| Zb <| Zc <| Za ?_
  refine JLr (Zg Zt rfl (At.bx 7 rfl) (Zr hO5.len) <| JLr (Zg ZR rfl (At.bx 10 rfl) (Zr rfl) <| JLr (Zg ZR rfl (At.bx 9 rfl) (Zr rfl) <| Jc Tryz.call13 rfl (fun hin => replE_ct _ _ _ _ _ (hO5.rd (hin 8 _ rfl))) rfl ?_)))
  rintro _ _ ⟨cs14, k14, rfl, rfl, hO14⟩
  refine JLM rfl <| JLn (Pu.extract rfl rfl) <| JLn (Pu.extract rfl rfl) <| JLr (Zl (l := pkT 0 0 zS nS nS) Tryz.zeroValue27 rfl fun b15 => JLr (Ze 0 (vs := cs14) (l := cs14) Zt rfl rfl rfl rfl hO14.len hO14.ok (ZL (n := 36) rfl hO14.len) <| JLA rfl <| Zb <| Zc <| Za <| JLM rfl <| JLM rfl <| JLq (.bool true) (Pu.asB (Pu.eql rfl rfl) (decide_eq_true (YP t))) <| JLM rfl ?_))
  refine JLm v13a <| JLq (pp b7 0) (Pu.idxA 0 Tryz.runUnderlying35 Yg rfl rfl (by decide) (by decide)) <| JLr (Zd Yg rfl (At.bx 8 rfl) rfl <| Jc Tryz.call14 rfl (fun hin => YF (r := true) (equalM_ct ((refL t).a) ((refL t).a) _ _ _ (own_sms ho13a (by first | exact Nat.zero_le _ | (have := hrl; omega)) (hin 2 _ rfl)) (own_sms ho11a (by have := hrl; unfold refL at this; omega) (hin 6 _ rfl).left)) (decide_eq_true rfl)) rfl ?_)
  rintro _ _ ⟨rfl, rfl⟩
  refine JLq (.bool true) (Pu.pickT rfl rfl) <| JLM rfl <| JLm v13b <| JLq (pp b7 1) (Pu.idxA 1 Tryz.runUnderlying35 Yg rfl rfl (by decide) (by decide)) <| JLr (Zd Yg rfl (At.bx 8 rfl) rfl <| Jc Tryz.call14 rfl (fun hin => YF (r := true) (equalM_ct ((refL t).b) ((refL t).b) _ _ _ (own_sms ho13b (by first | exact Nat.zero_le _ | (have := hrl; omega)) (hin 3 _ rfl)) (own_sms ho11b (by have := hrl; unfold refL at this; omega) (hin 6 _ rfl).right.left)) (decide_eq_true rfl)) rfl ?_)
  rintro _ _ ⟨rfl, rfl⟩
  refine JLq (.bool true) (Pu.pickT rfl rfl) <| JLM rfl <| JLm v13c <| JLq (pp b7 2) (Pu.idxA 2 Tryz.runUnderlying35 Yg rfl rfl (by decide) (by decide)) <| JLr (Zd Yg rfl (At.bx 8 rfl) rfl <| Jc Tryz.call14 rfl (fun hin => YF (r := true) (equalM_ct ((refL t).c) ((refL t).c) _ _ _ (own_sms ho13c (by first | exact Nat.zero_le _ | (have := hrl; omega)) (hin 4 _ rfl)) (own_sms ho11c (by have := hrl; unfold refL at this; omega) (hin 6 _ rfl).right.right)) (decide_eq_true rfl)) rfl ?_)
  rintro _ _ ⟨rfl, rfl⟩
  refine JLq (.bool true) (Pu.pickT rfl rfl) <| JLM rfl <| JLr (Zg Zt rfl (At.bx 0 rfl) (Zr hO14.len) <| JLr (Zg Zt rfl (At.bx 7 rfl) (Zr hO12.len) <| JLM rfl <| JLM rfl <| Zw 1 rfl Tryz.call15 rfl rfl (fun hin => YF (r := true) (told_ct ((rpE sf sg t).1) (rpT sf sg t) ((rpE sf sg t).2) (Xd 60 8 t) _ _ _ _ hO14 (hO12.rd (hin 4 _ rfl))) (by first | (rw [rpE, YP, if_pos (by assumption)]; simp [*]; done) | (rw [rpE, YP, if_neg (by assumption)]; simp; done))) rfl ?_))
  rintro _ _ ⟨rfl, rfl⟩
  refine JLq (.bool true) (Pu.pickT rfl rfl) <| JLM rfl <| JLr (Zg Zt rfl (At.bx 8 rfl) (Zr hO5.len) <| JLr (Zg Zt rfl (At.bx 12 rfl) (Zr (Zq ht)) <| Jc Tryz.call16 rfl (fun hin => YF (r := true) (Y0 _ _ _ _ _ (hO5.rd (hin 9 _ rfl)) (RT.mono (Hle.hu _ _) ht)) (decide_eq_true rfl)) rfl ?_))
  rintro _ _ ⟨rfl, rfl⟩
  refine JLq (.bool true) (Pu.pickT rfl rfl) <| JLM rfl <| Jc Tryz.call7 rfl (fun hin => awake_ct _) rfl ?_
  rintro _ _ ⟨rfl, rfl⟩
  refine JLq (.bool true) (Pu.pickT rfl rfl) <| JLA rfl <| Zb <| Zm <| ⟨.bool true, [], Ret.one rfl (RV.tmp rfl), Sub.nil, ?_⟩
  exact ⟨rfl, rfl⟩
 replace h9 := df h9
 refine Zj <| Zc <| Za <| JLr (Zg Zt rfl (At.bx 2 rfl) (Zr hO5.len) <| Jc Tryz.call12 rfl (fun hin => refsP_ct _ _ _ (hO5.rd (hin 3 _ rfl))) rfl ?_)
 rintro _ _ ⟨v16a, v16b, v16c, k16a, k16b, k16c, rfl, rfl, ho16a, ho16b, ho16c⟩
 rw [refE, YP, if_neg h9] at ho16a ho16b ho16c
 refine ZZ (M' := [k16a, k16b, k16c, (BX b8 (pkT 0 0 zS nS nS) 27), (BX b7 [nS, nS, nS] 35), (BX b6 cs5 27), k5, (BX b3 (sC sg) 23), (BX b2 (sC sf) 23), (BX b1 cs 27)]) (Sub.flat Sub.refl (by simp)) <| JLM rfl <| JLn (Pu.extract rfl rfl) <| JLn (Pu.extract rfl rfl) <| JLn (Pu.extract rfl rfl) <| JLn (Pu.extract rfl rfl) <| JLa v16a <| JLa v16b <| JLa v16c <| JLA rfl <| Zb <| Zc <| Za ?_
 refine JLr (Zg Zt rfl (At.bx 5 rfl) (Zr hO5.len) <| JLr (Zg ZR rfl (At.bx 8 rfl) (Zr rfl) <| JLr (Zg ZR rfl (At.bx 7 rfl) (Zr rfl) <| Jc Tryz.call13 rfl (fun hin => replE_ct _ _ _ _ _ (hO5.rd (hin 6 _ rfl))) rfl ?_)))
 rintro _ _ ⟨cs17, k17, rfl, rfl, hO17⟩
 refine JLM rfl <| JLn (Pu.extract rfl rfl) <| JLn (Pu.extract rfl rfl) <| JLr (Zl (l := pkT 0 0 zS nS nS) Tryz.zeroValue27 rfl fun b18 => JLr (Ze 0 (vs := cs17) (l := cs17) Zt rfl rfl rfl rfl hO17.len hO17.ok (ZL (n := 36) rfl hO17.len) <| JLA rfl <| Zb <| Zc <| Za <| JLM rfl <| JLM rfl <| JLq (.bool true) (Pu.asB (Pu.eql rfl rfl) (decide_eq_true (YP t))) <| JLM rfl ?_))
 refine JLm v16a <| JLq (pp b7 0) (Pu.idxA 0 Tryz.runUnderlying35 Yg rfl rfl (by decide) (by decide)) <| JLr (Zd Yg rfl (At.bx 6 rfl) rfl <| Jc Tryz.call14 rfl (fun hin => YF (r := true) (equalM_ct ([]) ([]) _ _ _ (own_sms ho16a (by first | exact Nat.zero_le _ | (have := hrl; omega)) (hin 2 _ rfl)) (rdS.nil : Hs.rdS RSm 32 _ nS [])) (decide_eq_true rfl)) rfl ?_)
 rintro _ _ ⟨rfl, rfl⟩
 refine JLq (.bool true) (Pu.pickT rfl rfl) <| JLM rfl <| JLm v16b <| JLq (pp b7 1) (Pu.idxA 1 Tryz.runUnderlying35 Yg rfl rfl (by decide) (by decide)) <| JLr (Zd Yg rfl (At.bx 6 rfl) rfl <| Jc Tryz.call14 rfl (fun hin => YF (r := true) (equalM_ct ([]) ([]) _ _ _ (own_sms ho16b (by first | exact Nat.zero_le _ | (have := hrl; omega)) (hin 3 _ rfl)) (rdS.nil : Hs.rdS RSm 32 _ nS [])) (decide_eq_true rfl)) rfl ?_)
 rintro _ _ ⟨rfl, rfl⟩
 refine JLq (.bool true) (Pu.pickT rfl rfl) <| JLM rfl <| JLm v16c <| JLq (pp b7 2) (Pu.idxA 2 Tryz.runUnderlying35 Yg rfl rfl (by decide) (by decide)) <| JLr (Zd Yg rfl (At.bx 6 rfl) rfl <| Jc Tryz.call14 rfl (fun hin => YF (r := true) (equalM_ct ([]) ([]) _ _ _ (own_sms ho16c (by first | exact Nat.zero_le _ | (have := hrl; omega)) (hin 4 _ rfl)) (rdS.nil : Hs.rdS RSm 32 _ nS [])) (decide_eq_true rfl)) rfl ?_)
 rintro _ _ ⟨rfl, rfl⟩
 refine JLq (.bool true) (Pu.pickT rfl rfl) <| JLM rfl <| JLr (Zg Zt rfl (At.bx 0 rfl) (Zr hO17.len) <| JLr (Zg Zt rfl (At.bx 5 rfl) (YI ..) <| JLM rfl <| JLM rfl <| Zw 1 rfl Tryz.call15 rfl rfl (fun hin => YF (r := true) (told_ct ((rpE sf sg t).1) zT ((rpE sf sg t).2) (Xd 60 8 t) _ _ _ _ hO17 RT_zero) (by first | (rw [rpE, YP, if_pos (by assumption)]; simp [*]; done) | (rw [rpE, YP, if_neg (by assumption)]; simp; done))) rfl ?_))
 rintro _ _ ⟨rfl, rfl⟩
 refine JLq (.bool true) (Pu.pickT rfl rfl) <| JLM rfl <| JLr (Zg Zt rfl (At.bx 6 rfl) (Zr hO5.len) <| JLr (Zg Zt rfl (At.bx 10 rfl) (Zr (Zq ht)) <| Jc Tryz.call16 rfl (fun hin => YF (r := true) (Y0 _ _ _ _ _ (hO5.rd (hin 7 _ rfl)) (RT.mono (Hle.hu _ _) ht)) (decide_eq_true rfl)) rfl ?_))
 rintro _ _ ⟨rfl, rfl⟩
 refine JLq (.bool true) (Pu.pickT rfl rfl) <| JLM rfl <| Jc Tryz.call7 rfl (fun hin => awake_ct _) rfl ?_
 rintro _ _ ⟨rfl, rfl⟩
 refine JLq (.bool true) (Pu.pickT rfl rfl) <| JLA rfl <| Zb <| Zm <| ⟨.bool true, [], Ret.one rfl (RV.tmp rfl), Sub.nil, ?_⟩
 exact ⟨rfl, rfl⟩
end Go.Proofs.YtfdeibbpfgolcaaGreat.Hs
