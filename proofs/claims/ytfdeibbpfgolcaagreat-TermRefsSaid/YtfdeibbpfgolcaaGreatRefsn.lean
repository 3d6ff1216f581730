import Derived.Test.YtfdeibbpfgolcaaGreatRefsm
import Derived.Lib.Bytealg
import Derived.Lib.BytesEntry
import Derived.Laws.Externs
/-! Digests byte by byte; slices of digests with their room; digests compared by the library's entry. -/
namespace Go.Proofs.YtfdeibbpfgolcaaGreat.Hs
open Go Go.Proofs
theorem Pu.asB {P : Program} {e : Operand → Value} {o : Oper} {b c : Bool} (h : Pu P e o (.bool b)) (q : b = c) : Pu P e o (.bool c) := q ▸ h
/-- byte j of a digest -/
def sbt (r : Sm) (j : Nat) : Int := ((r.toList.getD j 0).toNat : Int)
theorem sC_at {r : Sm} {j : Nat} (h : j < 32) : (sC r)[0 + j * 1]? = some (.int .u8 (sbt r j)) := by
  rw [show 0 + j * 1 = j from by omega, sC_get r j h]
  unfold sbt
  rw [List.getD_eq_getElem?_getD, List.getElem?_eq_getElem (by simpa using h)]
  simp
theorem sbt_ne {r s : Sm} {j : Nat} : sbt r j = sbt s j ↔ r.toList.getD j 0 = s.toList.getD j 0 := by
  unfold sbt
  constructor
  · intro h; exact UInt8.toNat_inj.1 (by omega)
  · intro h; rw [h]
theorem sbt_lt {r s : Sm} {j : Nat} : sbt r j < sbt s j ↔ r.toList.getD j 0 < s.toList.getD j 0 := by
  unfold sbt; rw [UInt8.lt_iff_toNat_lt]; omega
theorem drop_getD (r : Sm) {j : Nat} (h : j < 32) : r.toList.drop j = r.toList.getD j 0 :: r.toList.drop (j + 1) := by
  rw [List.drop_eq_getElem_cons (by simpa using h), List.getD_eq_getElem?_getD, List.getElem?_eq_getElem (by simpa using h)]
  rfl
/-- what is left to compare behind j bytes that are alike -/
theorem bef_step {r s : Sm} {j : Nat} (h : j < 32) (he : sbt r j = sbt s j) : befL (r.toList.drop j) (s.toList.drop j) = befL (r.toList.drop (j + 1)) (s.toList.drop (j + 1)) := by
  rw [drop_getD r h, drop_getD s h, befL, if_pos (sbt_ne.1 he)]
theorem bef_here {r s : Sm} {j : Nat} (h : j < 32) (he : ¬ sbt r j = sbt s j) : befL (r.toList.drop j) (s.toList.drop j) = decide (sbt r j < sbt s j) := by
  rw [drop_getD r h, drop_getD s h, befL, if_neg (fun e => he (sbt_ne.2 e))]
  rw [Bool.eq_iff_iff, decide_eq_true_iff, decide_eq_true_iff, sbt_lt]
theorem bef_end (r s : Sm) {j : Nat} (h : 32 ≤ j) : befL (r.toList.drop j) (s.toList.drop j) = false := by
  rw [List.drop_eq_nil_of_le (by simpa using h)]; rfl
/-- an element of a slice of digests -/
theorem RSms.at {h : Heap} {v : Value} {l : List Sm} (q : Hs.rdS RSm 32 h v l) (i : Nat) (hi : i < l.length) : ∃ b o cap row T fr, v = .slice (some ⟨b, o, none⟩) l.length cap ∧ h b = some (.cells ⟨row⟩ T fr) ∧ sub row (o + i * 32) 32 = some (sC (l.getD i zS)) := by
  obtain ⟨b, o, cap, row, T, fr, cs, h1, h2, h3, h4⟩ := q.get i hi
  refine ⟨b, o, cap, row, T, fr, h1, h2, ?_⟩
  rw [h3, show cs = sC l[i] from h4, List.getD_eq_getElem?_getD, List.getElem?_eq_getElem hi]; rfl
theorem getD_lt {l : List Sm} {i : Nat} (hi : i < l.length) : l.getD i zS = l[i] := by rw [List.getD_eq_getElem?_getD, List.getElem?_eq_getElem hi]; rfl
/-- a slice of digests, with its room -/
def smR (H : Heap) (v : Value) (l : List Sm) : Prop := ∃ a cap, v = .slice a l.length cap ∧ l.length ≤ cap ∧ Hs.rdS RSm 32 H v l
theorem smR.rd {H : Heap} {v : Value} {l : List Sm} (h : smR H v l) : Hs.rdS RSm 32 H v l := by obtain ⟨_, _, _, _, h⟩ := h; exact h
theorem smR.mono {H H' : Heap} {v : Value} {l : List Sm} (hh : Hle H H') (h : smR H v l) : smR H' v l := by obtain ⟨a, cap, e, h1, h⟩ := h; exact ⟨a, cap, e, h1, RSms.mono hh h⟩
theorem smR.own {T : TypeId} {v : Value} {l : List Sm} {k : Zh} {h : Heap} (o : Own T 32 v (sms l) k) (hn : l.length ≤ 9223372036854775807) (hk : Has k h) : smR h v l := by
  have hr := own_sms o hn hk
  rcases id o.2 with ⟨rfl, h1, _⟩ | ⟨b, cap, sp, rfl, rfl, h3, h4⟩
  · have : l = [] := by cases l; rfl; simp [sms] at h1
    subst this; exact ⟨none, 0, rfl, by simp, hr⟩
  · refine ⟨_, cap, by rw [Z1], ?_, hr⟩
    rw [Z1] at h4; exact h4
theorem smR.drop {h : Heap} {a : Option Addr} {N cap : Nat} {l : List Sm} (r : smR h (.slice a N cap) l) (n : Nat) (hn : n ≤ l.length) : Hs.rdS RSm 32 h (.slice (if cap = n then a else a.map (·.add (n * 32))) (N - n) (cap - n)) (l.drop n) := by
  obtain ⟨a', c', e, h1, a2, c2, e2, h2, h0⟩ := r
  cases e; cases e2
  refine ⟨_, _, by rw [List.length_drop], by rw [List.length_drop]; omega, ?_⟩
  by_cases hz : (l.drop n).length = 0
  · exact .inl hz
  rw [List.length_drop] at hz
  rcases h0 with h0 | ⟨b, o, row, T, fr, e1, e2, e3⟩
  · omega
  · right
    have hc : ¬ cap = n := by omega
    refine ⟨b, o + n * 32, row, T, fr, by rw [if_neg hc, e1]; simp [Addr.add], e2, rows.mk fun i hi => ?_⟩
    rw [List.length_drop] at hi
    obtain ⟨cs, h2, h3⟩ := e3.get (n + i) (by omega)
    exact ⟨cs, by rw [← h2]; congr 1; omega, by rw [List.getElem_drop]; exact h3⟩
/-- What a slice of digests gives to append. -/
theorem sms_src {P : Program} {H : Heap} {v : Value} {l : List Sm} (h : Hs.rdS RSm 32 H v l) : ∀ w L, Mem w L H → Src P 32 w v l.length (sms l).flatten := by
  obtain ⟨es, e1, e2, e3, e4⟩ := rdS.src (P := P) h
  have : es = sms l := by
    apply List.ext_getElem
    · rw [e1, Z1]
    · intro i h1 h2
      have := e2 i h1 (by omega)
      rw [sms_get l i (by omega)]; exact this
  subst this
  intro w L m
  exact e4 w L H (Hle.refl _) m
section
variable {c : Cx} {H : Heap} {ρ : Nat → Value} {M : List Zh} {K : Value → List Zh → Prop} {d : Option Nat} {ot : TypeId} {pos : String} {af : Array Edge} {g : Option (Nat × Bool)} {x y : Operand}
theorem Runs_dropM {T el : TypeId} {k : IntKind} {v : Value} {l : List Sm} {n : Nat} {i : Int} (hp : smR H v l) (hi : i = (n : Int)) (hn : n ≤ l.length) (hT : ∀ w, (underlying T).run c.P w = .ok (.slice el) w) (hsz : ∀ w, (sizeOf el).run c.P w = .ok 32 w) (hx : ev c.n ρ x = v) (hy : ev c.n ρ y = .int k i)
    (h : ∀ u, Hs.rdS RSm 32 H u (l.drop n) → K u M) : Runs c H ⟨d, .slice T x (some y) none none, ot, pos, af, g⟩ ρ M K := fun F w m => by
  subst hi
  obtain ⟨a, cap, rfl, h1, h2⟩ := hp
  refine ⟨_, w, M, .inl ?_, m, h (.slice (if cap = n then a else a.map (·.add (n * 32))) (l.length - n) (cap - n)) (smR.drop ⟨a, cap, rfl, h1, h2⟩ n hn)⟩
  simp [execOp, Instr.sliceAt, Instr.slice, Instr.sliceBounds, Instr.sliceBound, asIntOf, hx, hy, hT, hsz, Result.andThen, hn]
theorem Pu.sliceA {P : Program} {e : Operand → Value} {T : TypeId} {n b : Nat} {elem : TypeId} (hT : ∀ w, (underlying T).run P w = .ok (.array n elem) w) (hsz : ∀ w, (sizeOf elem).run P w = .ok 1 w) (hx : e x = .pointer (some ⟨b, 0, none⟩)) : Pu P e ⟨d, .slice T x none none none, ot, pos, af, g⟩ (.slice (some ⟨b, 0, none⟩) n n) := fun w => by
  simp [execOp, Instr.sliceAt, Instr.sliceBounds, Instr.sureAddr, hx, hT, hsz, Result.andThen, Addr.add]
end
/-! the reference's Among: where it stops -/
theorem among_step {l : List Sm} {s : Sm} {j : Nat} (h : Yb l s = l.take j ++ Yb (l.drop j) s) (hj : j < l.length) (hb : bef (l.getD j zS) s = true) : Yb l s = l.take j ++ [l.getD j zS] ++ Yb (l.drop (j + 1)) s := by
  rw [getD_lt hj] at hb ⊢
  rw [h, List.drop_eq_getElem_cons hj, Yb, if_pos hb, List.append_assoc]; rfl
theorem take_snoc {l : List Sm} {j : Nat} (hj : j < l.length) : l.take j ++ [l.getD j zS] = l.take (j + 1) := by
  rw [getD_lt hj, List.take_succ_eq_append_getElem hj]
theorem among_fin1 {l : List Sm} {s : Sm} {j : Nat} (h : Yb l s = l.take j ++ Yb (l.drop j) s) (hj : j < l.length) (he : l.getD j zS = s) : Yb l s = l.take j ++ [s] ++ l.drop (j + 1) := by
  rw [getD_lt hj] at he
  rw [h, List.drop_eq_getElem_cons hj, Yb, he, bef_irr]; simp
theorem among_fin2 {l : List Sm} {s : Sm} {j : Nat} (h : Yb l s = l.take j ++ Yb (l.drop j) s) (hs : l.length ≤ j ∨ bef (l.getD j zS) s = false) (he : l.length ≤ j ∨ ¬ l.getD j zS = s) : Yb l s = l.take j ++ [s] ++ l.drop j := by
  by_cases hj : j < l.length
  · have hs := hs.resolve_left (by omega)
    have he := he.resolve_left (by omega)
    rw [getD_lt hj] at hs he
    rw [h, List.drop_eq_getElem_cons hj, Yb, hs, if_neg (by simp), if_neg he]; simp
  · rw [h, List.drop_eq_nil_of_le (by omega), Yb]; simp
theorem among_len (l : List Sm) (s : Sm) : (Yb l s).length ≤ l.length + 1 := by
  induction l with
  | nil => simp [Yb]
  | cons x l ih => rw [Yb]; split; · simp only [List.length_cons]; omega
                   split <;> simp
theorem rP_len (p : Pt) : ∀ l, (rP p l).length ≤ l.length + sizeP p := by
  induction p using Pt.ind with
  | h k n r kids ih =>
    intro l
    have : ∀ (ps : List Pt), (∀ p ∈ ps, ∀ l, (rP p l).length ≤ l.length + sizeP p) → ∀ l, (rPs ps l).length ≤ l.length + ZE ps := by
      intro ps
      induction ps with
      | nil => intro _ l; simp [rPs]
      | cons p ps ihp => intro h l; rw [rPs, ZE]; have := ihp (fun q hq => h q (by simp [hq])) (rP p l); have := h p (by simp) l; omega
    rw [rP, sizeP]
    have h1 := this kids ih (if k = 3 then Yb l r else l)
    have h2 := among_len l r
    split at h1 <;> split <;> first | omega | contradiction
def YB (l : L3) : Nat := max l.a.length (max l.b.length l.c.length)
theorem rH_len (k : Int) (r : Sm) (l : L3) : YB (rH k r l) ≤ YB l + 1 := by
  have h1 := among_len l.a r
  have h2 := among_len l.b r
  have h3 := among_len l.c r
  unfold YB rH
  simp only
  split <;> split <;> split <;> omega
theorem rT_len (t : Tm) : ∀ l, YB (rT t l) ≤ YB l + sizeT t := by
  induction t using Tm.ind with
  | h k n r kids cases ih ih' =>
    intro l
    have h1 : ∀ (ts : List Tm), (∀ t ∈ ts, ∀ l, YB (rT t l) ≤ YB l + sizeT t) → ∀ l, YB (rTs ts l) ≤ YB l + ZD ts := by
      intro ts
      induction ts with
      | nil => intro _ l; simp [rTs]
      | cons p ps ihp => intro h l; rw [rTs, ZD]; have := ihp (fun q hq => h q (by simp [hq])) (rT p l); have := h p (by simp) l; omega
    have h2 : ∀ (ts : List (Pt × Tm)), (∀ c ∈ ts, ∀ l, YB (rT c.2 l) ≤ YB l + sizeT c.2) → ∀ l, YB (rCs ts l) ≤ YB l + ZM ts := by
      intro ts
      induction ts with
      | nil => intro _ l; simp [rCs]
      | cons c ps ihp =>
        obtain ⟨p, t⟩ := c
        intro h l
        rw [rCs, ZM]
        have e1 := ihp (fun q hq => h q (by simp [hq])) (rT t ⟨l.a, rP p l.b, l.c⟩)
        have e2 := h (p, t) (by simp) ⟨l.a, rP p l.b, l.c⟩
        have e3 := rP_len p l.b
        have e4 : YB ⟨l.a, rP p l.b, l.c⟩ ≤ YB l + sizeP p := by unfold YB; simp only; omega
        simp only at e2
        omega
    rw [rT, sizeT]
    have e1 := h2 cases ih' (rTs kids (rH k r l))
    have e2 := h1 kids ih (rH k r l)
    have e3 := rH_len k r l
    omega
/-! the library's comparing -/
def cmpS (r s : Sm) : Int := Lib.compareBytes r.toList s.toList
theorem cmpL_lt : ∀ {a b : List UInt8}, a.length = b.length → (Lib.compareBytes a b < 0 ↔ befL a b = true) := by
  intro a
  induction a with
  | nil => intro b h; cases b with
    | nil => simp [Lib.compareBytes, befL]
    | cons y b => cases h
  | cons x a ih =>
    intro b h
    cases b with
    | nil => cases h
    | cons y b =>
      rw [Lib.compareBytes, befL]
      by_cases e : x = y
      · subst e
        rw [if_neg (UInt8.lt_irrefl _), if_neg (UInt8.lt_irrefl _), if_pos rfl]
        exact ih (by simpa using h)
      · rw [if_neg e]
        by_cases e2 : x < y
        · simp [e2]
        · rw [if_neg e2]
          have : y < x := UInt8.lt_of_le_of_ne (UInt8.not_lt.1 e2) (Ne.symm e)
          simp [this, e2]
theorem cmpS_lt (r s : Sm) : decide (cmpS r s < 0) = bef r s := by
  rw [Bool.eq_iff_iff, decide_eq_true_iff]; exact cmpL_lt (by simp)
theorem run_bytesOf {P : Program} {w : World} {b cap : Nat} {r : Sm} {T : TypeId} {fr : Nat × Nat} (hb : w.heap[b]? = some (.cells ⟨sC r⟩ T fr)) : (Extern.Bytes.bytesOf (.slice (some ⟨b, 0, none⟩) 32 cap)).run P w = .ok ⟨r.toList.toArray⟩ w := by
  have h := Lib.run_loadBytesX (P := P) w (r.toList.map fun z => (z.toNat : Int)) ⟨b, 0, none⟩ .empty (fun j x hx => by
    rw [List.getElem?_map] at hx
    obtain ⟨z, hz, rfl⟩ := Option.map_eq_some_iff.1 hx
    have hj : j < 32 := by have := (List.getElem?_eq_some_iff.1 hz).1; simpa using this
    rw [addr_add, cell_of_row w b (0 + j) _ _ _ hb]
    have e := sC_get r j hj
    simp only [Nat.zero_add]
    have e2 : (⟨sC r⟩ : Array Value)[j]? = some (.int .u8 (r[j].toNat : Int)) := by simpa using e
    rw [e2]
    have e3 : r[j] = z := by
      rw [List.getElem?_eq_getElem (by simpa using hj)] at hz
      have := Option.some.inj hz
      simpa using this
    rw [e3])
  have hl : (r.toList.map fun z => (z.toNat : Int)).length = 32 := by simp
  rw [hl] at h
  have hbb : Lib.bytesOf (r.toList.map fun z => (z.toNat : Int)) = r.toList := by
    unfold Lib.bytesOf
    rw [List.map_map]
    conv => rhs; rw [← List.map_id r.toList]
    apply List.map_congr_left
    intro z _
    simp
  rw [hbb] at h
  show (Extern.Bytes.loadBytes ⟨b, 0, none⟩ 32 .empty).run P w = _
  rw [h]
  congr 1
  apply ByteArray.ext
  simp
section
variable {c : Cx} {H : Heap} {ρ : Nat → Value} {M : List Zh} {K : Value → List Zh → Prop} {d : Option Nat} {ot : TypeId} {pos : String} {af : Array Edge} {g : Option (Nat × Bool)} {x y : Operand}
/-- two boxed digests, compared by the library's entry -/
theorem Runs_cmp {f : FuncId} {fn : Func} {ats : Array TypeId} {a b cap cap' : Nat} {r s : Sm} {T T' : TypeId} {fr fr' : Nat × Nat} (hf : c.P.funcs[f]? = some fn) (hname : (fn.name == "runtime.NumGoroutine") = false)
    (hb : fn.body.isNone = true) (hn : Extern.findNext fn = none) (he : Extern.find fn = some Extern.BytealgCompare.compare)
    (hx : ev c.n ρ x = .slice (some ⟨a, 0, none⟩) 32 cap) (hy : ev c.n ρ y = .slice (some ⟨b, 0, none⟩) 32 cap') (h1 : At M H a (.cells ⟨sC r⟩ T fr)) (h2 : At M H b (.cells ⟨sC s⟩ T' fr')) (h : K (.int .i64 (cmpS r s)) M) :
    Runs c H ⟨d, .call { callee := .value (.func f), args := #[x, y], argTypes := ats }, ot, pos, af, g⟩ ρ M K := fun F w m => by
  refine ⟨_, w, M, .inl ?_, m, h⟩
  have e := run_callFunc_extern hf hname hb hn he #[.slice (some ⟨a, 0, none⟩) 32 cap, .slice (some ⟨b, 0, none⟩) 32 cap'] w
  have e2 : (Extern.BytealgCompare.compare #[.slice (some ⟨a, 0, none⟩) 32 cap, .slice (some ⟨b, 0, none⟩) 32 cap']).run c.P w = .ok (.int .i64 (cmpS r s)) w := by
    change Sem.run c.P (do pure (goInt (Extern.BytealgCompare.cmp (← Extern.Bytes.bytesOf (.slice (some ⟨a, 0, none⟩) 32 cap)) (← Extern.Bytes.bytesOf (.slice (some ⟨b, 0, none⟩) 32 cap'))))) w = _
    simp only [Sem.run_bind, run_bytesOf (h1.heap m), run_bytesOf (h2.heap m), Sem.run_pure, Result.andThen]
    rw [Lib.cmp_eq]
    rfl
  rw [e2] at e
  have hfn : ev c.n ρ (.func f) = .func (.func f) #[] #[] := rfl
  simp [execOp, resolve, hfn, Deferred.ofValue, invoke, hx, hy, e, Result.andThen]
end
end Go.Proofs.YtfdeibbpfgolcaaGreat.Hs
/-! Walks, printed by a program of this session's own (gen.py). -/
namespace Go.Proofs.YtfdeibbpfgolcaaGreat.Hs
open Go Go.Proofs
set_option maxRecDepth 100000
set_option linter.unusedVariables false
set_option linter.unusedSimpArgs false
attribute [local irreducible] JL J CT wlo DT
theorem equalM_ct (l m : List Sm) (v u : Value) (H : Heap) (hl : Hs.rdS RSm 32 H v l) (hm : Hs.rdS RSm 32 H u m) : CT Tryz.prog 14 ⟨[v, u]⟩ [] H (fun v N => v = .bool (decide (l = m)) ∧ N = []) := by
 refine Zn Tryz.func14 rfl rfl <| Zc <| Za <| JLA rfl <| Zb <| Zc <| Zc <| Za <| JLm v ?_
 obtain ⟨a1, cap1, hv1⟩ := hl.sl
 have hle1 := hl.le
 refine JLn (Pu.lenSl Tryz.runUnderlying34 hv1) <| JLm u ?_
 obtain ⟨a2, cap2, hv2⟩ := hm.sl
 have hle2 := hm.le
 refine JLn (Pu.lenSl Tryz.runUnderlying34 hv2) <| JLn (Pu.neq rfl rfl) <| Zb <| Zf rfl (fun h3 => ?_) (fun h3 => ?_)
 ·replace h3 := nt h3
  replace h3 := df h3
  refine Zc <| Za <| JLA rfl <| Zb <| Zm <| ⟨.bool false, [], Ret.one rfl (RV.tmp rfl), Sub.nil, ?_⟩
  exact ⟨by rw [decide_eq_false]; intro e; subst e; exact h3 rfl, rfl⟩
 replace h3 := nf h3
 replace h3 := dt h3
 refine Zj <| Zc <| Zc <| Za <| JLm v ?_
 obtain ⟨a4, cap4, hv4⟩ := hl.sl
 have hle4 := hl.le
 refine JLn (Pu.lenSl Tryz.runUnderlying34 hv4) <| JLM rfl <| Zb <| Zk <| ZF (fun k ρ M => ∃ (j : Nat), ρ 0 = v ∧ ρ 1 = u ∧ ρ 4 = .bool false ∧ ρ 12 = iv ((l.length : Int)) ∧ ρ 13 = iv ((j : Int)) ∧ Sub [] M ∧ j ≤ l.length ∧ l.length = m.length ∧ l.take j = m.take j ∧ k = l.length - j) _ ⟨0, rfl, rfl, rfl, rfl, rfl, Sub.nil, Nat.zero_le _, (by omega), rfl, rfl⟩ ?_
 rintro _ ρ5 _ ⟨j, e6, e7, e8, e9, e10, hm11, hj, hlen, htake, rfl⟩
 obtain ⟨ρ12, rfl⟩ := Zu (uc e6 (uc e7 (uc e8 (uc e9 (uc e10 un)))))
 clear e6 e7 e8 e9 e10
 refine ZI hm11 <| Zc <| Za <| JLn (Pu.lss rfl rfl) <| Zb <| Zc <| Zf rfl (fun h13 => ?_) (fun h13 => ?_)
 ·replace h13 := dt h13
  have h13n : j < l.length := by omega
  have hlenl := hl.le
  have hltm : j < m.length := by omega
  refine Zj <| Zc <| Zk <| Zc <| Za <| JLM rfl <| JLA rfl <| Zb <| Zc <| ZC mixed #[0, 0, 3, 7, 0, 0, 48, 112, 255] 8 [some 16, some 17, some 18, some 19, some 20, some 21, some 22, some 23] [] [] rfl (by kernel_rfl) rfl (by kernel_rfl) <| Dm v <| DM (fun _ => rfl) ?_
  obtain ⟨b16, o16, cap16, row16, T16, fr16, hv16, hb16, hs16⟩ := RSms.at hl j (by first | assumption | omega | decide | simp)
  refine Dq (pp b16 (o16 + j * 32)) (fun _ => Pu.idx j Tryz.runUnderlying34 ZR hv16 rfl rfl (by first | assumption | omega | decide | simp)) <| Dl ZR (At.im hb16) hs16 <| Dm u <| DM (fun _ => rfl) ?_
  obtain ⟨b17, o17, cap17, row17, T17, fr17, hv17, hb17, hs17⟩ := RSms.at hm j (by first | assumption | omega | decide | simp)
  refine Dq (pp b17 (o17 + j * 32)) (fun _ => Pu.idx j Tryz.runUnderlying34 ZR hv17 rfl rfl (by first | assumption | omega | decide | simp)) <| Dl ZR (At.im hb17) hs17 <| ZK (M' := []) rfl ?_
  show JL _ _ _ [_] _ _ _
  refine JLn (neqS rfl rfl) <| Zb <| Zf rfl (fun h18 => ?_) (fun h18 => ?_)
  ·replace h18 := nt h18
   replace h18 := df h18
   refine Zc <| Za <| JLA rfl <| Zb <| Zm <| ⟨.bool false, [], Ret.one rfl (RV.tmp rfl), Sub.nil, ?_⟩
   exact ⟨by rw [decide_eq_false]; intro e; subst e; exact h18 rfl, rfl⟩
  replace h18 := nf h18
  replace h18 := dt h18
  refine Zj <| Za <| JLn (Pu.inc rfl rfl (by omega)) <| JLM rfl <| Zb <| ⟨_, ?_, (j + 1), rfl, rfl, rfl, rfl, rfl, Sub.nil, ?_, ?_, ?_, rfl⟩
  ·omega
  ·omega
  ·assumption
  rw [List.take_succ_eq_append_getElem h13n, List.take_succ_eq_append_getElem (by omega), htake, ← getD_lt, ← getD_lt, h18]
 replace h13 := df h13
 have h13n : l.length ≤ j := by omega
 refine Zy _ rfl <| Zc <| Za <| JLA rfl <| Zb <| Zm <| ⟨.bool true, [], Ret.one rfl (RV.tmp rfl), Sub.nil, ?_⟩
 exact ⟨by rw [decide_eq_true]; have e := htake; rw [List.take_of_length_le h13n, List.take_of_length_le (by omega)] at e; exact e, rfl⟩
end Go.Proofs.YtfdeibbpfgolcaaGreat.Hs
/-! Walks, printed by a program of this session's own (gen.py). -/
namespace Go.Proofs.YtfdeibbpfgolcaaGreat.Hs
open Go Go.Proofs
set_option maxRecDepth 100000
set_option linter.unusedVariables false
set_option linter.unusedSimpArgs false
attribute [local irreducible] JL J CT wlo DT
theorem bcmp_ct (a b : Sm) (ba bb : Nat) (H : Heap) (h1 : H ba = some (.cells ⟨sC a⟩ 23 (0, 0))) (h2 : H bb = some (.cells ⟨sC b⟩ 23 (0, 0))) : CT Tryz.prog 56 ⟨[.slice (some ⟨ba, 0, none⟩) 32 32, .slice (some ⟨bb, 0, none⟩) 32 32]⟩ [] H (fun v N => v = iv (cmpS a b) ∧ N = []) := by
 refine Zn Tryz.func56 rfl rfl <| Zc <| Za <| JLA rfl <| Zb <| Zc <| Za <| JLM rfl <| JLM rfl <| JLr (Runs_cmp Tryz.func100 (by kernel_rfl) (by kernel_rfl) (by kernel_rfl) (by kernel_rfl) rfl rfl (At.im h1) (At.im h2) <| JLA rfl <| Zb <| Zm ?_)
 refine ⟨iv (cmpS a b), [], Ret.one rfl (RV.tmp rfl), Sub.nil, ?_⟩
 exact ⟨rfl, rfl⟩
theorem cmpf_ct (a b : Sm) (H : Heap) : CT Tryz.prog 55 ⟨[.agg ⟨sC a⟩, .agg ⟨sC b⟩]⟩ [] H (fun v N => v = iv (cmpS a b) ∧ N = []) := by
 refine Zn Tryz.func55 rfl rfl <| Zc <| Za <| JLr (Zo (l := sC a) rfl rfl fun b1 => JLr (Zo (l := sC b) rfl rfl fun b2 => JLA rfl <| Zb <| Zc <| ZC mixed #[0, 0, 3, 7] 2 [some 5, some 6] [] [] rfl (by kernel_rfl) rfl (by kernel_rfl) <| Dq (.slice (some ⟨b1, 0, none⟩) 32 32) (fun _ => Pu.sliceA Tryz.runUnderlying23 Tryz.sizeOf5 rfl) <| Dq (.slice (some ⟨b2, 0, none⟩) 32 32) (fun _ => Pu.sliceA Tryz.runUnderlying23 Tryz.sizeOf5 rfl) <| ZK (M' := [(BX b2 (sC b) 23), (BX b1 (sC a) 23)]) rfl ?_))
 show JL _ _ _ [_, _] _ _ _
 refine Jc Tryz.call56 rfl (fun hin => bcmp_ct a b _ _ _ (hin 1 _ rfl _ _ List.mem_cons_self) (hin 0 _ rfl _ _ List.mem_cons_self)) rfl ?_
 rintro _ _ ⟨rfl, rfl⟩
 refine JLA rfl <| Zb <| Zm <| ⟨iv (cmpS a b), [], Ret.one rfl (RV.tmp rfl), Sub.nil, ?_⟩
 exact ⟨rfl, rfl⟩
end Go.Proofs.YtfdeibbpfgolcaaGreat.Hs
/-! The program's lists of digests are the reference's. Plain. -/
namespace Go.Proofs.YtfdeibbpfgolcaaGreat.Hs
open Go Go.Proofs
def refL (t : Tm) : L3 := rT t ⟨[], [], []⟩
/-- what the program's Refs hands back -/
def refE (t : Tm) : L3 := if ZN [t] = 0 then refL t else ⟨[], [], []⟩
theorem ref_eq {t : Tm} {k : Int} {l m : List Sm} (hm : risS m) (hx : ∀ x, x ∈ m ↔ (k, x) ∈ hdsT t) (hp : l.Perm (sel k (gT t []))) (hs : l.Pairwise fun x y => bef y x = false) : l = m := by
  have hn : (sel k (gT t [])).Nodup := sel_nodup (gT_nodup t [] List.nodup_nil)
  refine ris_unique (sorted_ris (hp.symm.nodup hn) hs) hm fun x => ?_
  rw [hp.mem_iff, sel_mem, gT_mem, hx]; simp
theorem ref_a {t : Tm} {l : List Sm} (hp : l.Perm (sel 6 (gT t []))) (hs : l.Pairwise fun x y => bef y x = false) : l = (refL t).a := ref_eq (rT_lists t).1 (rT_lists t).2.2.2.1 hp hs
theorem ref_b {t : Tm} {l : List Sm} (hp : l.Perm (sel 8 (gT t []))) (hs : l.Pairwise fun x y => bef y x = false) : l = (refL t).b := ref_eq (rT_lists t).2.1 (rT_lists t).2.2.2.2.1 hp hs
theorem ref_c {t : Tm} {l : List Sm} (hp : l.Perm (sel 11 (gT t []))) (hs : l.Pairwise fun x y => bef y x = false) : l = (refL t).c := ref_eq (rT_lists t).2.2.1 (rT_lists t).2.2.2.2.2 hp hs
theorem refL_len {t : Tm} (h : sizeT t ≤ 100000) : (refL t).a.length ≤ 100000 ∧ (refL t).b.length ≤ 100000 ∧ (refL t).c.length ≤ 100000 := by
  have h1 := rT_len t ⟨[], [], []⟩
  have h2 : YB ⟨[], [], []⟩ = 0 := rfl
  rw [h2] at h1
  unfold YB at h1
  unfold refL
  omega
end Go.Proofs.YtfdeibbpfgolcaaGreat.Hs
/-! Walks, printed by a program of this session's own (gen.py). -/
namespace Go.Proofs.YtfdeibbpfgolcaaGreat.Hs
open Go Go.Proofs
set_option maxRecDepth 100000
set_option linter.unusedVariables false
set_option linter.unusedSimpArgs false
attribute [local irreducible] JL J CT wlo DT
theorem put1_ct (s sf sg : Sm) (bF bG : Nat) (H : Heap) (hF : H bF = some (.cells ⟨sC sf⟩ 23 (0, 0))) (hG : H bG = some (.cells ⟨sC sg⟩ 23 (0, 0))) : CT Tryz.prog 57 ⟨[.agg ⟨sC s⟩, pp bF 0, pp bG 0]⟩ [] H (fun v N => v = .agg ⟨sC (if s = sf then sg else s)⟩ ∧ N = []) := by
 refine Zn Tryz.func57 rfl rfl <| Zc <| Za <| JLr (Zo (l := sC s) rfl rfl fun b1 => JLr (Zl (l := sC zS) Tryz.zeroValue23 rfl fun b2 => Zb <| Zc <| Zc <| Za <| JLr (Zg ZR rfl (At.bx 1 rfl) (Zr rfl) <| JLr (Zg ZR rfl (At.im hF) (Zr rfl) <| JLn (eqS rfl rfl) <| Zb ?_))))
 refine Zf rfl (fun h3 => ?_) (fun h3 => ?_)
 ·replace h3 := dt h3
  refine Zc <| Za <| JLr (Zg ZR rfl (At.im hG) (Zr rfl) <| JLr (Ze 0 (vs := sC sg) (l := sC sg) ZR rfl rfl rfl rfl rfl (sC_ok _) (ZL rfl rfl) <| Zb <| Zm <| ⟨.agg ⟨sC sg⟩, [], Ret.one rfl (RV.cell ZR rfl (At.bx 0 rfl) (Zr rfl)), Sub.nil, ?_⟩))
  exact ⟨by rw [if_pos h3], rfl⟩
 replace h3 := df h3
 refine Zj <| Zc <| Za <| JLr (Zg ZR rfl (At.bx 1 rfl) (Zr rfl) <| JLr (Ze 0 (vs := sC s) (l := sC s) ZR rfl rfl rfl rfl rfl (sC_ok _) (ZL rfl rfl) <| Zb <| Zm <| ⟨.agg ⟨sC s⟩, [], Ret.one rfl (RV.cell ZR rfl (At.bx 0 rfl) (Zr rfl)), Sub.nil, ?_⟩))
 exact ⟨by rw [if_neg h3], rfl⟩
set_option maxHeartbeats 2000000 in
theorem replP_ct : ∀ (sf sg : Sm) (bF bG bU bP bW : Nat) (p : Pt) (cs : List Value) (k : Zh) (H : Heap), OP p cs k → H bF = some (.cells ⟨sC sf⟩ 23 (0, 0)) → H bG = some (.cells ⟨sC sg⟩ 23 (0, 0)) → H bU = some (.cells ⟨[.func (.func 57) ⟨[]⟩ ⟨[pp bF 0, pp bG 0]⟩]⟩ 112 (0, 0)) → H bP = some (.cells ⟨[.func (.func 58) ⟨[]⟩ ⟨[pp bP 0, pp bU 0]⟩]⟩ 90 (0, 0)) → H bW = some (.cells ⟨[.func (.func 59) ⟨[]⟩ ⟨[pp bU 0, pp bW 0, pp bP 0]⟩]⟩ 30 (0, 0)) → CT Tryz.prog 58 ⟨[.agg ⟨cs⟩, pp bP 0, pp bU 0]⟩ [k] H (fun v N => ∃ cs k, v = .agg ⟨cs⟩ ∧ N = [k] ∧ OP (rpP sf sg p) cs k) := by
 intro sf sg bF bG bU bP bW p
 induction p using Pt.ind with
 | h kind num ref kids ih =>
 intro cs k H hO hF hG hU hP hW
 obtain ⟨ks, es, k1, k2, rfl, hk, hn, ho1, ho2, rfl, hlK⟩ := OP_mk.1 hO
 refine Zn Tryz.func58 rfl rfl <| ZI (M' := [k1, k2]) (Sub.flat Sub.refl (by simp)) <| Zc <| Za <| JLr (Zo (l := pkP kind num ref ks) rfl rfl fun b1 => JLr (Zl (l := pkP 0 0 zS nS) Tryz.zeroValue54 rfl fun b2 => Zb <| Zc <| Zc <| Za <| JLq (pp b1 34) (ZX rfl rfl) <| JLr (Zd Yz rfl (At.bx 1 rfl) (Z3 ..) ?_)))
 obtain ⟨a3, cap3, hv3⟩ := ho1.sl
 rw [(OPs_len ho2)] at hv3
 refine JLn (Pu.lenSl Tryz.runUnderlying52 hv3) <| JLM rfl <| Zb <| Zk <| ZF (fun k ρ M => ∃ (j : Nat) (es5 : List (List Value)) (k5 ca5 c05 : Zh), ρ 1 = pp bP 0 ∧ ρ 2 = pp bU 0 ∧ ρ 3 = pp b1 0 ∧ ρ 4 = pp b2 0 ∧ ρ 8 = iv ((kids.length : Int)) ∧ ρ 9 = iv ((j : Int)) ∧ Sub [(BX b1 (pkP kind num ref ks) 54), k5, ca5, c05, (BX b2 (pkP 0 0 zS nS) 54)] M ∧ j ≤ kids.length ∧ Own 54 35 ks es5 k5 ∧ es5.length = kids.length ∧ OPs (rpPs sf sg (kids.take j)) (es5.take j) ca5 ∧ OPs (kids.drop j) (es5.drop j) c05 ∧ k = kids.length - j) _ ⟨0, es, k1, [], k2, rfl, rfl, rfl, rfl, rfl, rfl, (Sub.cons 1 rfl (Sub.cons 1 rfl (Sub.emp (Sub.cons 1 rfl (Sk Sub.nil))))), Nat.zero_le _, ho1, OPs_len ho2, (by simpa [rpPs] using OPs.nil), (by simpa using ho2), rfl⟩ ?_
 rintro _ ρ4 _ ⟨j, es5, k5, ca5, c05, e5, e6, e7, e8, e9, e10, hm11, hj, ho5, hl5, hd5, hr5, rfl⟩
 obtain ⟨ρ12, rfl⟩ := Zu (uc e5 (uc e6 (uc e7 (uc e8 (uc e9 (uc e10 un))))))
 clear e5 e6 e7 e8 e9 e10
 refine ZI hm11 <| Zc <| Za <| JLn (Pu.lss rfl rfl) <| Zb <| Zc <| Zf rfl (fun h13 => ?_) (fun h13 => ?_)
 ·replace h13 := dt h13
  have h13n : j < kids.length := by omega
  obtain ⟨e5, kc5, c5, hE5, hO5, rfl, hR5⟩ := OPs.take hr5 h13n
  refine ZI (M' := [(BX b1 (pkP kind num ref ks) 54), k5, ca5, kc5, c5, (BX b2 (pkP 0 0 zS nS) 54)]) (Sub.flat Sub.refl (by simp)) <| Zj <| Zc <| Zk <| Zc <| Za <| JLM rfl <| JLA rfl <| Zb <| ZC mixed #[0, 1, 0, 0, 0, 16, 0, 112, 240, 504, 1023, 2047] 10 [some 12, some 13, some 14, some 15, some 16, some 17, some 18, some 19, some 20, some 21] [(9, 13)] [(9, fun _ _ vw qw => ∃ cs k, vw = .agg ⟨cs⟩ ∧ qw = [k] ∧ OP (rpP sf sg (kids[j])) cs k)] rfl (by kernel_rfl) rfl (by kernel_rfl) <| Dq (pp b1 34) (fun _ => ZX rfl rfl) <| Dl1 Yz (At.bx 0 rfl) (Z3 ..) <| DM (fun _ => rfl) ?_
  refine Dl1 ty90 (At.im hP) rfl <| Dq (pp b1 34) (fun _ => ZX rfl rfl) <| Dl1 Yz (At.bx 0 rfl) (Z3 ..) <| DM (fun _ => rfl) ?_
  obtain ⟨b16, cap16, row16, hv16, hm16, hs16⟩ := ho5.at' hE5
  refine Dq (pp b16 (0 + j * 35)) (fun _ => Pu.idx j Tryz.runUnderlying52 ZQ hv16 rfl rfl (by rw [hl5]; exact h13n)) <| Dl ZQ (At.k 1 rfl hm16) hs16 <| DJ_call1 3 rfl rfl (fun _ => rfl) Tryz.call58 (fun _ => rfl) rfl (fun hin => ih _ (List.getElem_mem h13n) _ _ _ hO5 (Hle.hu _ _ _ _ hF) (Hle.hu _ _ _ _ hG) (Hle.hu _ _ _ _ hU) (Hle.hu _ _ _ _ hP) (Hle.hu _ _ _ _ hW)) (fun _ => rfl) ?_
  rintro _ _ ⟨cs17, k17, rfl, rfl, hO17⟩
  refine ZK (M' := [k17, (BX b1 (pkP kind num ref ks) 54), k5, ca5, c5, (BX b2 (pkP 0 0 zS nS) 54)]) rfl ?_
  show JL _ _ _ [_, _] _ _ _
  obtain ⟨b18, cap18, row18, hv18, hm18, hs18⟩ := ho5.at' hE5
  refine JLq (pp b18 (0 + j * 35)) (Pu.idx j Tryz.runUnderlying52 ZQ hv18 rfl rfl (by rw [hl5]; exact h13n)) <| JLr (Yr (i := 2) (j := j) (b := b18) ZQ rfl ho5 ⟨_, _, hv18⟩ rfl (by rw [hl5]; exact h13n) rfl rfl hO17.len hO17.ok fun k19 ho19 => Zb <| Za <| JLn (Pu.inc rfl rfl (by omega)) <| JLM rfl <| Zb <| ⟨_, ?_, (j + 1), (es5.set j cs17), k19, (ca5 ++ k17), c5, rfl, rfl, rfl, rfl, rfl, rfl, (Sub.cons 1 rfl (Sub.cons 1 rfl (Sub.join (Sub.cons 1 rfl (Sk (Sk (Sk Sub.nil))))))), ?_, ?_, ?_, ?_, ?_, rfl⟩)
  ·omega
  ·omega
  ·exact ho19
  ·rw [List.length_set]; exact hl5
  ·rw [rpPs_take _ _ _ _ h13n, take_set hE5]; exact OPs.snoc hO17 hd5
  exact hR5 _
 replace h13 := df h13
 have h13n : kids.length ≤ j := by omega
 refine Zy _ rfl <| Zc <| Zc <| Za <| JLq (pp b1 0) (Yj rfl rfl) <| JLr (Zd ty3 rfl (At.bx 0 rfl) (YJ ..) <| JLn (Pu.eql rfl rfl) <| Zb <| Zf rfl (fun h20 => ?_) (fun h20 => ?_))
 ·replace h20 := dt h20
  refine Za <| JLr (Zd ty112 rfl (At.im hU) rfl <| JLq (pp b1 2) (fa54_2 rfl rfl) <| JLr (Zg ZR rfl (At.bx 0 rfl) (pkP_2 ..) <| Jc Tryz.call57 rfl (fun hin => put1_ct _ sf sg _ _ _ (Hle.hu _ _ _ _ hF) (Hle.hu _ _ _ _ hG)) rfl ?_))
  rintro _ _ ⟨rfl, rfl⟩
  refine JLq (pp b1 2) (fa54_2 rfl rfl) <| JLr (Ze 0 (vs := sC (if ref = sf then sg else ref)) (l := pkP kind num (if ref = sf then sg else ref) ks) ZR rfl rfl rfl rfl rfl (sC_ok _) (pkP_s2 ..) <| Zb <| Zc <| Za <| JLr (Zg ZQ rfl (At.bx 0 rfl) (pkP_a ..) <| JLr (Ze 4 (vs := pkP kind num (if ref = sf then sg else ref) ks) (l := pkP kind num (if ref = sf then sg else ref) ks) ZQ rfl rfl rfl rfl rfl (pkP_ok ho5.one) (pkP_s ..) <| Zb <| Zm <| ⟨.agg ⟨pkP kind num (if ref = sf then sg else ref) ks⟩, [k5 ++ ca5], Ret.one rfl (RV.cell ZQ rfl (At.bx 4 rfl) (pkP_a ..)), (Sub.join (Sd (Sk (Sk Sub.nil)))), ?_⟩)))
  rw [List.take_of_length_le h13n, List.take_of_length_le (by rw [hl5]; exact h13n)] at hd5
  have hz : rpP sf sg (.mk kind num ref kids) = .mk kind num (if ref = sf then sg else ref) (rpPs sf sg kids) := by rw [rpP, ← put_refP]; simp [h20]
  rw [hz]
  exact ⟨_, _, rfl, rfl, OP_mk.2 ⟨_, _, _, _, rfl, hk, hn, ho5, hd5, rfl, by rw [rpPs_len]; exact hlK⟩⟩
 replace h20 := df h20
 refine Zj <| Zc <| Za <| JLr (Zg ZQ rfl (At.bx 0 rfl) (pkP_a ..) <| JLr (Ze 4 (vs := pkP kind num ref ks) (l := pkP kind num ref ks) ZQ rfl rfl rfl rfl rfl (pkP_ok ho5.one) (pkP_s ..) <| Zb <| Zm <| ⟨.agg ⟨pkP kind num ref ks⟩, [k5 ++ ca5], Ret.one rfl (RV.cell ZQ rfl (At.bx 4 rfl) (pkP_a ..)), (Sub.join (Sd (Sk (Sk Sub.nil)))), ?_⟩))
 rw [List.take_of_length_le h13n, List.take_of_length_le (by rw [hl5]; exact h13n)] at hd5
 have hz : rpP sf sg (.mk kind num ref kids) = .mk kind num ref (rpPs sf sg kids) := by rw [rpP, ← put_refP]; simp [h20]
 rw [hz]
 exact ⟨_, _, rfl, rfl, OP_mk.2 ⟨_, _, _, _, rfl, hk, hn, ho5, hd5, rfl, by rw [rpPs_len]; exact hlK⟩⟩
end Go.Proofs.YtfdeibbpfgolcaaGreat.Hs
/-! Walks, printed by a program of this session's own (gen.py). -/
namespace Go.Proofs.YtfdeibbpfgolcaaGreat.Hs
open Go Go.Proofs
set_option maxRecDepth 100000
set_option linter.unusedVariables false
set_option linter.unusedSimpArgs false
attribute [local irreducible] JL J CT wlo DT
set_option maxHeartbeats 4000000 in
theorem replW_ct : ∀ (sf sg : Sm) (bF bG bU bP bW : Nat) (t : Tm) (cs : List Value) (k : Zh) (H : Heap), OT t cs k → H bF = some (.cells ⟨sC sf⟩ 23 (0, 0)) → H bG = some (.cells ⟨sC sg⟩ 23 (0, 0)) → H bU = some (.cells ⟨[.func (.func 57) ⟨[]⟩ ⟨[pp bF 0, pp bG 0]⟩]⟩ 112 (0, 0)) → H bP = some (.cells ⟨[.func (.func 58) ⟨[]⟩ ⟨[pp bP 0, pp bU 0]⟩]⟩ 90 (0, 0)) → H bW = some (.cells ⟨[.func (.func 59) ⟨[]⟩ ⟨[pp bU 0, pp bW 0, pp bP 0]⟩]⟩ 30 (0, 0)) → CT Tryz.prog 59 ⟨[.agg ⟨cs⟩, pp bU 0, pp bW 0, pp bP 0]⟩ [k] H (fun v N => ∃ cs k, v = .agg ⟨cs⟩ ∧ N = [k] ∧ OT (rpT sf sg t) cs k) := by
 intro sf sg bF bG bU bP bW t
 induction t using Tm.ind with
 | h kind num ref kids cases ih ih' =>
 intro cs k H hO hF hG hU hP hW
 obtain ⟨ks, cv, es, es', k1, k2, k3, k4, rfl, hk, hn, ho1, ho2, ho3, ho4, rfl, hlK, hlC⟩ := OT_mk.1 hO
 refine Zn Tryz.func59 rfl rfl <| ZI (M' := [k1, k2, k3, k4]) (Sub.flat Sub.refl (by simp)) <| Zc <| Za <| JLr (Zo (l := pkT kind num ref ks cv) rfl rfl fun b1 => JLr (Zl (l := pkT 0 0 zS nS nS) Tryz.zeroValue27 rfl fun b2 => Zb <| Zc <| Zc <| Za <| JLq (pp b1 0) (ZG rfl rfl) <| JLr (Zd ty3 rfl (At.bx 1 rfl) (ZU ..) <| Jc Tryz.call60 rfl (fun hin => fields_ct _ _) rfl ?_)))
 rintro _ _ ⟨rfl, rfl⟩
 refine JLq (.bool (fR kind)) (Pu.idxV 1 Tryz.runUnderlying114 ty4 rfl rfl rfl (by decide) rfl) <| Zb <| J_weak (N := fun ρ M => ρ 2 = pp bW 0 ∧ ρ 3 = pp bP 0 ∧ ρ 4 = pp b1 0 ∧ ρ 5 = pp b2 0 ∧ M = [(BX b2 (pkT 0 0 zS nS nS) 27), (BX b1 (pkT kind num ((if ZH kind = true ∧ ref = sf then sg else ref)) ks cv) 27), k1, k2, k3, k4]) ?_ ?_
 ·refine Zf rfl (fun h3 => ?_) (fun h3 => ?_)
  ·refine Za <| JLr (Zd ty112 rfl (At.im hU) rfl <| JLq (pp b1 2) (Yq rfl rfl) <| JLr (Zg ZR rfl (At.bx 1 rfl) (Y5 ..) <| Jc Tryz.call57 rfl (fun hin => put1_ct _ sf sg _ _ _ (Hle.hu _ _ _ _ hF) (Hle.hu _ _ _ _ hG)) rfl ?_))
   rintro _ _ ⟨rfl, rfl⟩
   refine JLq (pp b1 2) (Yq rfl rfl) <| JLr (Ze 1 (vs := sC (if ref = sf then sg else ref)) (l := pkT kind num (if ref = sf then sg else ref) ks cv) ZR rfl rfl rfl rfl rfl (sC_ok _) (pkT_s2 ..) <| Zb ?_)
   rw [show (if ZH kind = true ∧ ref = sf then sg else ref) = if ref = sf then sg else ref from by rw [← put_ref]; simp [h3]]
   exact ⟨rfl, rfl, rfl, rfl, rfl⟩
  refine Zj ?_
  rw [show (if ZH kind = true ∧ ref = sf then sg else ref) = ref from by rw [← put_ref]; simp [h3]]
  exact ⟨rfl, rfl, rfl, rfl, rfl⟩
 rintro ρ4 _ ⟨e5, e6, e7, e8, rfl⟩
 obtain ⟨ρ9, rfl⟩ := Zu (uc e5 (uc e6 (uc e7 (uc e8 un))))
 clear e5 e6 e7 e8
 refine Zc <| Zc <| Za <| JLq (pp b1 34) (ZY rfl rfl) <| JLr (Zd YA rfl (At.bx 1 rfl) (ZV ..) ?_)
 obtain ⟨a10, cap10, hv10⟩ := ho1.sl
 rw [(OTs_len ho2)] at hv10
 refine JLn (Pu.lenSl Tryz.runUnderlying24 hv10) <| JLM rfl <| Zb <| Zk <| ZF (fun k ρ M => ∃ (j : Nat) (es5 : List (List Value)) (k5 ca5 c05 : Zh), ρ 2 = pp bW 0 ∧ ρ 3 = pp bP 0 ∧ ρ 4 = pp b1 0 ∧ ρ 5 = pp b2 0 ∧ ρ 20 = iv ((kids.length : Int)) ∧ ρ 21 = iv ((j : Int)) ∧ Sub [(BX b1 (pkT kind num ((if ZH kind = true ∧ ref = sf then sg else ref)) ks cv) 27), k5, ca5, c05, (BX b2 (pkT 0 0 zS nS nS) 27), k3, k4] M ∧ j ≤ kids.length ∧ Own 27 36 ks es5 k5 ∧ es5.length = kids.length ∧ OTs (rpTs sf sg (kids.take j)) (es5.take j) ca5 ∧ OTs (kids.drop j) (es5.drop j) c05 ∧ k = kids.length - j) _ ⟨0, es, k1, [], k2, rfl, rfl, rfl, rfl, rfl, rfl, (Sub.cons 1 rfl (Sub.cons 1 rfl (Sub.emp (Sub.cons 1 rfl (Sk (Sk (Sk Sub.nil))))))), Nat.zero_le _, ho1, OTs_len ho2, (by simpa [rpTs] using OTs.nil), (by simpa using ho2), rfl⟩ ?_
 rintro _ ρ11 _ ⟨j, es5, k5, ca5, c05, e12, e13, e14, e15, e16, e17, hm18, hj, ho5, hl5, hd5, hr5, rfl⟩
 obtain ⟨ρ19, rfl⟩ := Zu (uc e12 (uc e13 (uc e14 (uc e15 (uc e16 (uc e17 un))))))
 clear e12 e13 e14 e15 e16 e17
 refine ZI hm18 <| Zc <| Za <| JLn (Pu.lss rfl rfl) <| Zb <| Zc <| Zf rfl (fun h20 => ?_) (fun h20 => ?_)
 ·replace h20 := dt h20
  have h20n : j < kids.length := by omega
  obtain ⟨e5, kc5, c5, hE5, hO5, rfl, hR5⟩ := OTs.take hr5 h20n
  refine ZI (M' := [(BX b1 (pkT kind num ((if ZH kind = true ∧ ref = sf then sg else ref)) ks cv) 27), k5, ca5, kc5, c5, (BX b2 (pkT 0 0 zS nS nS) 27), k3, k4]) (Sub.flat Sub.refl (by simp)) <| Zj <| Zc <| Zk <| Zc <| Za <| JLM rfl <| JLA rfl <| Zb <| ZC mixed #[0, 1, 0, 0, 0, 16, 0, 112, 240, 504, 1023, 2047] 10 [some 24, some 25, some 26, some 27, some 28, some 29, some 30, some 31, some 32, some 33] [(9, 13)] [(9, fun _ _ vw qw => ∃ cs k, vw = .agg ⟨cs⟩ ∧ qw = [k] ∧ OT (rpT sf sg (kids[j])) cs k)] rfl (by kernel_rfl) rfl (by kernel_rfl) <| Dq (pp b1 34) (fun _ => ZY rfl rfl) <| Dl1 YA (At.bx 0 rfl) (ZV ..) <| DM (fun _ => rfl) ?_
  refine Dl1 ty30 (At.im hW) rfl <| Dq (pp b1 34) (fun _ => ZY rfl rfl) <| Dl1 YA (At.bx 0 rfl) (ZV ..) <| DM (fun _ => rfl) ?_
  obtain ⟨b23, cap23, row23, hv23, hm23, hs23⟩ := ho5.at' hE5
  refine Dq (pp b23 (0 + j * 36)) (fun _ => Pu.idx j Tryz.runUnderlying24 Zt hv23 rfl rfl (by rw [hl5]; exact h20n)) <| Dl Zt (At.k 1 rfl hm23) hs23 <| DJ_call1 3 rfl rfl (fun _ => rfl) Tryz.call59 (fun _ => rfl) rfl (fun hin => ih _ (List.getElem_mem h20n) _ _ _ hO5 (Hle.hu _ _ _ _ hF) (Hle.hu _ _ _ _ hG) (Hle.hu _ _ _ _ hU) (Hle.hu _ _ _ _ hP) (Hle.hu _ _ _ _ hW)) (fun _ => rfl) ?_
  rintro _ _ ⟨cs24, k24, rfl, rfl, hO24⟩
  refine ZK (M' := [k24, (BX b1 (pkT kind num ((if ZH kind = true ∧ ref = sf then sg else ref)) ks cv) 27), k5, ca5, c5, (BX b2 (pkT 0 0 zS nS nS) 27), k3, k4]) rfl ?_
  show JL _ _ _ [_, _] _ _ _
  obtain ⟨b25, cap25, row25, hv25, hm25, hs25⟩ := ho5.at' hE5
  refine JLq (pp b25 (0 + j * 36)) (Pu.idx j Tryz.runUnderlying24 Zt hv25 rfl rfl (by rw [hl5]; exact h20n)) <| JLr (Yr (i := 2) (j := j) (b := b25) Zt rfl ho5 ⟨_, _, hv25⟩ rfl (by rw [hl5]; exact h20n) rfl rfl hO24.len hO24.ok fun k26 ho26 => Zb <| Za <| JLn (Pu.inc rfl rfl (by omega)) <| JLM rfl <| Zb <| ⟨_, ?_, (j + 1), (es5.set j cs24), k26, (ca5 ++ k24), c5, rfl, rfl, rfl, rfl, rfl, rfl, (Sub.cons 1 rfl (Sub.cons 1 rfl (Sub.join (Sub.cons 1 rfl (Sk (Sk (Sk (Sk (Sk Sub.nil))))))))), ?_, ?_, ?_, ?_, ?_, rfl⟩)
  ·omega
  ·omega
  ·exact ho26
  ·rw [List.length_set]; exact hl5
  ·rw [rpTs_take _ _ _ _ h20n, take_set hE5]; exact OTs.snoc hO24 hd5
  exact hR5 _
 replace h20 := df h20
 have h20n : kids.length ≤ j := by omega
 refine Zy _ rfl <| Zc <| Zc <| Za <| JLq (pp b1 35) (ZP rfl rfl) <| JLr (Zd Ym rfl (At.bx 0 rfl) (ZO ..) ?_)
 obtain ⟨a27, cap27, hv27⟩ := ho3.sl
 rw [(OCs_len ho4)] at hv27
 refine JLn (Pu.lenSl Tryz.runUnderlying25 hv27) <| JLM rfl <| Zb <| Zk ?_
 rw [List.take_of_length_le h20n, List.take_of_length_le (by rw [hl5]; exact h20n)] at hd5
 refine ZF (fun k ρ M => ∃ (j : Nat) (es7 : List (List Value)) (k7 ca7 c07 : Zh), ρ 2 = pp bW 0 ∧ ρ 3 = pp bP 0 ∧ ρ 4 = pp b1 0 ∧ ρ 5 = pp b2 0 ∧ ρ 37 = cv ∧ ρ 38 = iv ((cases.length : Int)) ∧ ρ 39 = iv ((j : Int)) ∧ Sub [(BX b1 (pkT kind num ((if ZH kind = true ∧ ref = sf then sg else ref)) ks cv) 27), k7, ca7, c07, k5, ca5, c05, (BX b2 (pkT 0 0 zS nS nS) 27)] M ∧ j ≤ cases.length ∧ Own 56 71 cv es7 k7 ∧ es7.length = cases.length ∧ OCs (rpCs sf sg (cases.take j)) (es7.take j) ca7 ∧ OCs (cases.drop j) (es7.drop j) c07 ∧ k = cases.length - j) _ ⟨0, es', k3, [], k4, rfl, rfl, rfl, rfl, rfl, rfl, rfl, (Sk (Sub.cons 4 rfl (Sub.emp (Sub.cons 4 rfl (Sk (Sk (Sk (Sk Sub.nil)))))))), Nat.zero_le _, ho3, OCs_len ho4, (by simpa [rpCs] using OCs.nil), (by simpa using ho4), rfl⟩ ?_
 rintro _ ρ28 _ ⟨j, es7, k7, ca7, c07, e29, e30, e31, e32, e33, e34, e35, hm36, hj, ho7, hl7, hd7, hr7, rfl⟩
 obtain ⟨ρ37, rfl⟩ := Zu (uc e29 (uc e30 (uc e31 (uc e32 (uc e33 (uc e34 (uc e35 un)))))))
 clear e29 e30 e31 e32 e33 e34 e35
 refine ZI hm36 <| Zc <| Za <| JLn (Pu.lss rfl rfl) <| Zb <| Zc <| Zf rfl (fun h38 => ?_) (fun h38 => ?_)
 ·replace h38 := dt h38
  have h38n : j < cases.length := by omega
  obtain ⟨ea7, eb7, ka7, kb7, c7, hE7, hA7, hB7, rfl, hR7⟩ := OCs.take2 hr7 h38n
  refine ZI (M' := [(BX b1 (pkT kind num ((if ZH kind = true ∧ ref = sf then sg else ref)) ks cv) 27), k7, ca7, ka7, kb7, c7, k5, ca5, c05, (BX b2 (pkT 0 0 zS nS nS) 27)]) (Sub.flat Sub.refl (by simp)) <| Zj <| Zc <| Zk <| Zc <| Za <| JLM rfl ?_
  obtain ⟨b39, cap39, row39, hv39, hm39, hs39⟩ := ho7.at' hE7
  refine JLq (pp b39 (0 + j * 71)) (Pu.idx j Tryz.runUnderlying25 Yl hv39 rfl rfl (by rw [hl7]; exact h38n)) <| JLr (Zg Yl rfl (At.k 1 rfl hm39) hs39 <| JLr (Zl (l := (pkP 0 0 zS nS) ++ (pkT 0 0 zS nS nS)) Tryz.zeroValue56 rfl fun b40 => JLA rfl <| JLr (Ze 0 (vs := ea7 ++ eb7) (l := ea7 ++ eb7) Yl rfl rfl rfl rfl (ZW hA7.len hB7.len) (Z6 hA7.ok hB7.ok) (ZL (n := 71) rfl (ZW hA7.len hB7.len)) <| Zb <| ZC mixed #[0, 1, 0, 0, 0, 16, 56, 0, 0, 256, 1016, 2040, 4095, 8191] 12 [some 44, some 45, some 46, some 47, some 48, some 49, some 50, some 51, some 52, some 53, some 54, some 55] [(6, 16), (10, 17)] [(6, fun _ _ vw qw => ∃ cs k, vw = .agg ⟨cs⟩ ∧ qw = [k] ∧ OP (rpP sf sg (cases[j].1)) cs k), (10, fun _ _ vw qw => ∃ cs k, vw = .agg ⟨cs⟩ ∧ qw = [k] ∧ OT (rpT sf sg (cases[j].2)) cs k)] rfl (by kernel_rfl) rfl (by kernel_rfl) <| Dq (pp b1 35) (fun _ => ZP rfl rfl) <| Dl1 Ym (At.bx 1 rfl) (ZO ..) <| DM (fun _ => rfl) <| Dl1 ty90 (At.im hP) rfl <| Dq (pp b40 0) (fun _ => YE rfl rfl) <| Dl ZQ (At.bx 0 rfl) (Y3 hA7.len) ?_)))
  refine DJ_call1 4 rfl rfl (fun _ => rfl) Tryz.call58 (fun _ => rfl) rfl (fun hin => replP_ct sf sg _ _ _ _ _ _ _ _ _ hA7 (Hle.hu _ _ _ _ hF) (Hle.hu _ _ _ _ hG) (Hle.hu _ _ _ _ hU) (Hle.hu _ _ _ _ hP) (Hle.hu _ _ _ _ hW)) (fun _ => rfl) ?_
  rintro _ _ ⟨cs43, k43, rfl, rfl, hO43⟩
  refine Dl1 ty30 (At.im hW) rfl <| Dq (pp b40 35) (fun _ => Y9 rfl rfl) <| Dl Zt (At.bx 0 rfl) (sub_r hA7.len hB7.len) <| DJ_call1 5 rfl rfl (fun _ => rfl) Tryz.call59 (fun _ => rfl) rfl (fun hin => ih' _ (List.getElem_mem h38n) _ _ _ hB7 (Hle.hu _ _ _ _ hF) (Hle.hu _ _ _ _ hG) (Hle.hu _ _ _ _ hU) (Hle.hu _ _ _ _ hP) (Hle.hu _ _ _ _ hW)) (fun _ => rfl) ?_
  rintro _ _ ⟨cs44, k44, rfl, rfl, hO44⟩
  refine Dq (.agg ⟨cs43 ++ cs44⟩) (fun _ => Pu.build (pv := [(0, .agg ⟨cs43⟩), (1, .agg ⟨cs44⟩)]) (l := cs43 ++ cs44) rfl (bld56_0_1 hO43.len hO44.len)) <| ZK (M' := [k44, k43, (BX b40 (ea7 ++ eb7) 56), (BX b1 (pkT kind num ((if ZH kind = true ∧ ref = sf then sg else ref)) ks cv) 27), k7, ca7, c7, k5, ca5, c05, (BX b2 (pkT 0 0 zS nS nS) 27)]) rfl ?_
  show JL _ _ _ [_, _] _ _ _
  obtain ⟨b45, cap45, row45, hv45, hm45, hs45⟩ := ho7.at' hE7
  refine JLq (pp b45 (0 + j * 71)) (Pu.idx j Tryz.runUnderlying25 Yl hv45 rfl rfl (by rw [hl7]; exact h38n)) <| JLr (Yr (i := 4) (j := j) (b := b45) Yl rfl ho7 ⟨_, _, hv45⟩ rfl (by rw [hl7]; exact h38n) rfl rfl (ZW hO43.len hO44.len) (Z6 hO43.ok hO44.ok) fun k46 ho46 => Zb <| Za <| JLn (Pu.inc rfl rfl (by omega)) <| JLM rfl <| Zb <| ⟨_, ?_, (j + 1), (es7.set j (cs43 ++ cs44)), k46, (ca7 ++ (k43 ++ k44)), c7, rfl, rfl, rfl, rfl, rfl, rfl, rfl, (Sub.cons 3 rfl (Sub.cons 3 rfl (Sub.join3 (Sub.cons 3 rfl (Sub.cons 1 rfl (Sk (Sd (Sk (Sk (Sk (Sk (Sk Sub.nil)))))))))))), ?_, ?_, ?_, ?_, ?_, rfl⟩)
  ·omega
  ·omega
  ·exact ho46
  ·rw [List.length_set]; exact hl7
  ·rw [rpCs_take _ _ _ _ h38n, take_set hE7]; exact OCs.snoc hO43 hO44 hd7
  exact hR7 _
 replace h38 := df h38
 have h38n : cases.length ≤ j := by omega
 refine Zy _ rfl <| Zc <| Za <| JLr (Zg Zt rfl (At.bx 0 rfl) (YI ..) <| JLr (Ze 7 (vs := pkT kind num ((if ZH kind = true ∧ ref = sf then sg else ref)) ks cv) (l := pkT kind num ((if ZH kind = true ∧ ref = sf then sg else ref)) ks cv) Zt rfl rfl rfl rfl rfl (Z2 ho5.one ho7.one) (Y4 ..) <| Zb <| Zm <| ⟨.agg ⟨pkT kind num ((if ZH kind = true ∧ ref = sf then sg else ref)) ks cv⟩, [k5 ++ (ca5 ++ (k7 ++ ca7))], Ret.one rfl (RV.cell Zt rfl (At.bx 7 rfl) (YI ..)), (Sub.join4 (Sd (Sub.cons 3 rfl (Sub.cons 3 rfl (Sk (Sk Sub.nil)))))), ?_⟩))
 rw [List.take_of_length_le h38n, List.take_of_length_le (by rw [hl7]; exact h38n)] at hd7
 rw [rpT]
 exact ⟨_, _, rfl, rfl, OT_mk.2 ⟨_, _, _, _, _, _, _, _, rfl, hk, hn, ho5, hd5, ho7, hd7, rfl, by rw [rpTs_len]; exact hlK, by rw [rpCs_len]; exact hlC⟩⟩
end Go.Proofs.YtfdeibbpfgolcaaGreat.Hs
/-! Walks, printed by a program of this session's own (gen.py). -/
namespace Go.Proofs.YtfdeibbpfgolcaaGreat.Hs
open Go Go.Proofs
set_option maxRecDepth 100000
set_option linter.unusedVariables false
set_option linter.unusedSimpArgs false
attribute [local irreducible] JL J CT wlo DT
theorem replE_ct (t : Tm) (sf sg : Sm) (cs : List Value) (H : Heap) (ht : RT H cs t) : CT Tryz.prog 13 ⟨[.agg ⟨cs⟩, .agg ⟨sC sf⟩, .agg ⟨sC sg⟩]⟩ [] H (fun v N => ∃ cs k, v = .tuple ⟨[.agg ⟨cs⟩, iv (rpE sf sg t).2]⟩ ∧ N = [k] ∧ OT (rpE sf sg t).1 cs k) := by
 refine Zn Tryz.func13 rfl rfl <| Zc <| Za <| JLr (Zo (l := cs) rfl rfl fun b1 => JLr (Zo (l := sC sf) rfl rfl fun b2 => JLr (Zo (l := sC sg) rfl rfl fun b3 => JLr (Zl (l := pkT 0 0 zS nS nS) Tryz.zeroValue27 rfl fun b4 => JLA rfl <| Zb <| Zc <| Zc <| Za <| JLr (Zg Zt rfl (At.bx 3 rfl) (Zr (Zq ht)) ?_)))))
 refine JLr (Zs (vs := [.agg ⟨cs⟩]) [cs] Tryz.runUnderlying24 el27 rfl rfl (by intro e he; simp only [List.mem_cons, List.not_mem_nil, or_false] at he; subst he; exact (Zq ht)) rfl (by decide) fun b5 k5 ho5 hk5 => Jc Tryz.call49 rfl (fun hin => right_ct _ _ _ (Own.rd1 ho5 (hin 0 _ rfl) (RT.mono (Hle.hu _ _) ht))) rfl ?_)
 rintro _ _ ⟨rfl, rfl⟩
 refine JLA rfl <| Zb <| Zc <| Za <| JLM rfl <| JLn (Pu.neq rfl rfl) <| Zb <| Zf rfl (fun h6 => ?_) (fun h6 => ?_)
 ·replace h6 := nt h6
  replace h6 := df h6
  refine Zc <| Za <| JLq (.agg ⟨pkT 0 0 zS nS nS⟩) (Pu.build (pv := []) (l := pkT 0 0 zS nS nS) rfl (bld27_ )) <| JLM rfl <| JLr (Ze 1 (vs := pkT 0 0 zS nS nS) (l := pkT 0 0 zS nS nS) Zt rfl rfl rfl rfl rfl (Z2 rfl rfl) (Y4 ..) <| JLA rfl <| Zb <| Zm <| ⟨.tuple ⟨[.agg ⟨pkT 0 0 zS nS nS⟩, iv (ZN [t])]⟩, [[]], Ret.two rfl (RV.cell Zt rfl (At.bx 1 rfl) (YI ..)) (RV.tmp rfl), (Sub.emp Sub.nil), ?_⟩)
  have hx2 : rpE sf sg t = (zT, ZN [t]) := by rw [rpE, if_neg (by assumption)]
  exact ⟨_, _, by rw [hx2], rfl, by rw [hx2]; exact OT_zero⟩
 replace h6 := nf h6
 replace h6 := dt h6
 refine Zj <| Zc ?_
 have hrt : ZN [t] = 0 := by assumption
 refine Za <| JLq (.func (.func 57) ⟨[]⟩ ⟨[pp b2 0, pp b3 0]⟩) (Pu.makeFunc rfl rfl) <| JLr (Zl (l := [.nilFunc]) Tryz.zeroValue112 rfl fun b7 => JLr (Ze 0 (vs := [.func (.func 57) ⟨[]⟩ ⟨[pp b2 0, pp b3 0]⟩]) (l := [.func (.func 57) ⟨[]⟩ ⟨[pp b2 0, pp b3 0]⟩]) ty112 rfl rfl rfl rfl rfl (Zi rfl Zp) rfl <| Zb <| Zc <| Za <| JLr (Zl (l := [.nilFunc]) Tryz.zeroValue90 rfl fun b8 => Zb <| Zc <| Za <| JLq (.func (.func 58) ⟨[]⟩ ⟨[pp b8 0, pp b7 0]⟩) (Pu.makeFunc rfl rfl) <| JLr (Ze 0 (vs := [.func (.func 58) ⟨[]⟩ ⟨[pp b8 0, pp b7 0]⟩]) (l := [.func (.func 58) ⟨[]⟩ ⟨[pp b8 0, pp b7 0]⟩]) ty90 rfl rfl rfl rfl rfl (Zi rfl Zp) rfl ?_))))
 refine Zb <| Zc <| Za <| JLr (Zl (l := [.nilFunc]) Tryz.zeroValue30 rfl fun b9 => Zb <| Zc <| Za <| JLq (.func (.func 59) ⟨[]⟩ ⟨[pp b7 0, pp b9 0, pp b8 0]⟩) (Pu.makeFunc rfl rfl) <| JLr (Ze 0 (vs := [.func (.func 59) ⟨[]⟩ ⟨[pp b7 0, pp b9 0, pp b8 0]⟩]) (l := [.func (.func 59) ⟨[]⟩ ⟨[pp b7 0, pp b9 0, pp b8 0]⟩]) ty30 rfl rfl rfl rfl rfl (Zi rfl Zp) rfl <| Zb <| Zc <| ZC mixed #[0, 0, 2, 7, 15, 31] 3 [some 22, some 23, some 24] [] [(2, fun _ _ vw qw => ∃ cs k, vw = .agg ⟨cs⟩ ∧ qw = [k] ∧ OT (ownQ t) cs k)] rfl (by kernel_rfl) rfl (by kernel_rfl) <| Dl1 ty30 (At.bx 0 rfl) rfl ?_))
 refine Dl Zt (At.bx 7 rfl) (Zr (Zq ht)) ?_
 refine Dc rfl Tryz.call61 (fun _ => rfl) (fun hin => ownQ_ct _ _ _ (RT.mono (Hle.hu _ _) ht) (by have := (Ye (YX hrt)).1; omega) (Ye (YX hrt)).2.1) ?_
 rintro _ _ ⟨cs11, k11, rfl, rfl, hO11⟩
 refine ZK (M' := [k11, (BX b9 [.func (.func 59) ⟨[]⟩ ⟨[pp b7 0, pp b9 0, pp b8 0]⟩] 30), (BX b8 [.func (.func 58) ⟨[]⟩ ⟨[pp b8 0, pp b7 0]⟩] 90), (BX b7 [.func (.func 57) ⟨[]⟩ ⟨[pp b2 0, pp b3 0]⟩] 112), k5, (BX b4 (pkT 0 0 zS nS nS) 27), (BX b3 (sC sg) 23), (BX b2 (sC sf) 23), (BX b1 cs 27)]) rfl ?_
 show JL _ _ _ [_, _, _] _ _ _
 refine Zw 0 rfl Tryz.call59 rfl rfl (fun hin => replW_ct sf sg b2 b3 b7 b8 b9 _ _ _ _ hO11 (hin 6 _ rfl _ _ List.mem_cons_self) (hin 5 _ rfl _ _ List.mem_cons_self) (hin 2 _ rfl _ _ List.mem_cons_self) (hin 1 _ rfl _ _ List.mem_cons_self) (hin 0 _ rfl _ _ List.mem_cons_self)) rfl ?_
 rintro _ _ ⟨cs12, k12, rfl, rfl, hO12⟩
 refine JLr (Ze 5 (vs := cs12) (l := cs12) Zt rfl rfl rfl rfl hO12.len hO12.ok (ZL (n := 36) rfl hO12.len) <| JLA rfl <| Zb <| Zm <| ⟨.tuple ⟨[.agg ⟨cs12⟩, iv 0]⟩, [k12], Ret.two rfl (RV.cell Zt rfl (At.bx 5 rfl) (Zr hO12.len)) (RV.tmp rfl), (Sk Sub.nil), ?_⟩)
 have hx2 : rpE sf sg t = (rpT sf sg t, 0) := by rw [rpE, if_pos hrt]
 exact ⟨_, _, by rw [hx2], rfl, by rw [hx2]; have hO := hO12; rw [own_eq (Ye (YX hrt)).2.2.1] at hO; exact hO⟩
end Go.Proofs.YtfdeibbpfgolcaaGreat.Hs
/-! Walks, printed by a program of this session's own (gen.py). -/
namespace Go.Proofs.YtfdeibbpfgolcaaGreat.Hs
open Go Go.Proofs
set_option maxRecDepth 100000
set_option linter.unusedVariables false
set_option linter.unusedSimpArgs false
attribute [local irreducible] JL J CT wlo DT
theorem before_ct (a b : Sm) (H : Heap) : CT Tryz.prog 118 ⟨[.agg ⟨sC a⟩, .agg ⟨sC b⟩]⟩ [] H (fun v N => v = .bool (bef a b) ∧ N = []) := by
 refine Zn Tryz.func118 rfl rfl <| Zc <| Za <| JLr (Zo (l := sC a) rfl rfl fun b1 => JLr (Zo (l := sC b) rfl rfl fun b2 => JLA rfl <| Zb <| Zc <| Zc <| Za <| JLA rfl <| Zb <| Zk ?_))
 refine ZF (fun k ρ M => ∃ (j : Nat), ρ 2 = pp b1 0 ∧ ρ 3 = pp b2 0 ∧ ρ 4 = .bool false ∧ ρ 5 = iv ((j : Int)) ∧ Sub [(BX b2 (sC b) 23), (BX b1 (sC a) 23)] M ∧ j ≤ 32 ∧ befL (a.toList.drop j) (b.toList.drop j) = bef a b ∧ k = 32 - j) _ ⟨0, rfl, rfl, rfl, rfl, (Sk (Sk Sub.nil)), (by decide), rfl, rfl⟩ ?_
 rintro _ ρ3 _ ⟨j, e4, e5, e6, e7, hm8, hj, hinv, rfl⟩
 obtain ⟨ρ9, rfl⟩ := Zu (uc e4 (uc e5 (uc e6 (uc e7 un))))
 clear e4 e5 e6 e7
 refine ZI hm8 <| Zc <| Zc <| Za <| JLM rfl <| JLn (Pu.lss rfl rfl) <| Zb <| Zf rfl (fun h10 => ?_) (fun h10 => ?_)
 ·replace h10 := dt h10
  have h10n : j < 32 := by omega
  refine Zj <| Zc <| Zk <| Zc <| ZC mixed #[0, 1, 3, 0, 8, 24, 63] 6 [some 10, some 11, some 12, some 13, some 14, some 15] [] [] rfl (by kernel_rfl) rfl (by kernel_rfl) <| DM (fun _ => rfl) ?_
  refine Dq (pp b1 (0 + j * 1)) (fun _ => Pu.idxA j Tryz.runUnderlying23 ty5 rfl rfl rfl (by omega)) ?_
  refine Dl1 ty5 (At.bx 1 rfl) (sC_at (by omega)) <| DM (fun _ => rfl) ?_
  refine Dq (pp b2 (0 + j * 1)) (fun _ => Pu.idxA j Tryz.runUnderlying23 ty5 rfl rfl rfl (by omega)) ?_
  refine Dl1 ty5 (At.bx 0 rfl) (sC_at (by omega)) <| ZK (M' := [(BX b2 (sC b) 23), (BX b1 (sC a) 23)]) rfl ?_
  show JL _ _ _ [_] _ _ _
  refine JLn (Pu.neq rfl rfl) <| Zb <| Zf rfl (fun h11 => ?_) (fun h11 => ?_)
  ·replace h11 := nt h11
   replace h11 := df h11
   refine Zc <| ZC mixed #[0, 1, 3, 0, 8, 24, 63, 127] 6 [some 17, some 18, some 19, some 20, some 21, some 22] [] [] rfl (by kernel_rfl) rfl (by kernel_rfl) <| DM (fun _ => rfl) ?_
   refine Dq (pp b1 (0 + j * 1)) (fun _ => Pu.idxA j Tryz.runUnderlying23 ty5 rfl rfl rfl (by omega)) ?_
   refine Dl1 ty5 (At.bx 1 rfl) (sC_at (by omega)) <| DM (fun _ => rfl) ?_
   refine Dq (pp b2 (0 + j * 1)) (fun _ => Pu.idxA j Tryz.runUnderlying23 ty5 rfl rfl rfl (by omega)) ?_
   refine Dl1 ty5 (At.bx 0 rfl) (sC_at (by omega)) <| ZK (M' := [(BX b2 (sC b) 23), (BX b1 (sC a) 23)]) rfl ?_
   show JL _ _ _ [_, _] _ _ _
   refine JLn (Pu.lss rfl rfl) <| JLA rfl <| Zb <| Zm <| ⟨.bool (decide (sbt a j < sbt b j)), [], Ret.one rfl (RV.tmp rfl), Sub.nil, ?_⟩
   exact ⟨by rw [← hinv, bef_here h10n h11], rfl⟩
  replace h11 := nf h11
  replace h11 := dt h11
  refine Zj <| Za <| JLM rfl <| JLn (Pu.inc rfl rfl (by omega)) <| JLA rfl <| Zb <| ⟨_, ?_, (j + 1), rfl, rfl, rfl, rfl, (Sk (Sk Sub.nil)), ?_, ?_, rfl⟩
  ·omega
  ·omega
  rw [bef_step h10n h11] at hinv; exact hinv
 replace h10 := df h10
 have h10n : 32 ≤ j := by omega
 refine Zy _ rfl <| Zc <| Za <| JLA rfl <| Zb <| Zm <| ⟨.bool false, [], Ret.one rfl (RV.tmp rfl), Sub.nil, ?_⟩
 exact ⟨by rw [← hinv, bef_end _ _ h10n], rfl⟩
theorem among_ct (v : Value) (l : List Sm) (s : Sm) (H : Heap) (hl : smR H v l) (hb : l.length ≤ 100000) : CT Tryz.prog 93 ⟨[v, .agg ⟨sC s⟩]⟩ [] H (fun r N => ∃ k, N = [k] ∧ Own 23 32 r (sms (Yb l s)) k) := by
 refine Zn Tryz.func93 rfl rfl <| Zc <| Za <| JLr (Zo (l := sC s) rfl rfl fun b1 => JLA rfl <| Zb <| Zc <| Za <| JLA rfl <| Zb <| Zc <| Za <| JLA rfl ?_)
 refine Zb <| Zc <| Zk <| ZF (fun k ρ M => ∃ (j : Nat) (y : Value) (q1 : Zh), ρ 0 = v ∧ ρ 3 = pp b1 0 ∧ ρ 4 = nS ∧ ρ 5 = y ∧ ρ 6 = iv ((j : Int)) ∧ Sub [q1, (BX b1 (sC s) 23)] M ∧ j ≤ l.length ∧ Yb l s = l.take j ++ Yb (l.drop j) s ∧ Own 23 32 y (sms (l.take j)) q1 ∧ k = l.length - j) _ ⟨0, nS, [], rfl, rfl, rfl, rfl, rfl, (Sub.emp (Sk Sub.nil)), Nat.zero_le _, rfl, (by simpa [sms] using Own.nil), rfl⟩ ?_
 rintro _ ρ2 _ ⟨j, y, q1, e3, e4, e5, e6, e7, hm8, hj, hinv, hown, rfl⟩
 obtain ⟨ρ9, rfl⟩ := Zu (uc e3 (uc e4 (uc e5 (uc e6 (uc e7 un)))))
 clear e3 e4 e5 e6 e7
 refine ZI hm8 ?_
 have hltk : (l.take j).length ≤ 1000000 := by rw [List.length_take]; omega
 refine Zc <| Zc ?_
 cases h10 : (decide ((j : Int) < (l.length : Int))) with
 | true =>
  replace h10 := dt h10
  have h10n : j < l.length := by omega
  have hltk : (l.take j).length ≤ 1000000 := by rw [List.length_take]; omega
  refine ZC mixed #[0, 0, 2, 7, 15, 31, 31, 127, 255, 31, 1023, 2047] 10 [some 7, some 8, some 9, some 10, some 11, some 12, some 13, some 14, some 15, some 16] [] [] rfl (by kernel_rfl) rfl (by kernel_rfl) <| DM (fun _ => rfl) <| Dm v ?_
  obtain ⟨a13, cap13, hv13⟩ := hl.rd.sl
  have hle13 := hl.rd.le
  refine Dn (fun _ => Pu.lenSl Tryz.runUnderlying34 hv13) <| Dq (.bool true) (fun _ => Pu.asB (Pu.lss rfl rfl) (decide_eq_true h10)) <| DM (fun _ => rfl) <| Dm v <| DM (fun _ => rfl) ?_
  obtain ⟨b14, o14, cap14, row14, T14, fr14, hv14, hb14, hs14⟩ := RSms.at hl.rd j (by first | assumption | omega | decide | simp)
  refine Dq (pp b14 (o14 + j * 32)) (fun _ => Pu.idx j Tryz.runUnderlying34 ZR hv14 rfl rfl (by first | assumption | omega | decide | simp)) <| Dl ZR (At.im hb14) hs14 <| Dl ZR (At.bx 1 rfl) (Zr rfl) <| ZK (M' := [q1, (BX b1 (sC s) 23)]) rfl ?_
  show JL _ _ _ [_, _] _ _ _
  refine Jc Tryz.call118 rfl (fun hin => before_ct _ _ _) rfl ?_
  rintro _ _ ⟨rfl, rfl⟩
  refine JLq (.bool (bef (l.getD j zS) s)) (Pu.pickT rfl rfl) <| Zb <| Zf rfl (fun h15 => ?_) (fun h15 => ?_)
  ·refine Zj <| Zk <| Zc <| Za <| JLm y <| JLm v <| JLM rfl ?_
   obtain ⟨b16, o16, cap16, row16, T16, fr16, hv16, hb16, hs16⟩ := RSms.at hl.rd j (by first | assumption | omega | decide | simp)
   refine JLq (pp b16 (o16 + j * 32)) (Pu.idx j Tryz.runUnderlying34 ZR hv16 rfl rfl (by first | assumption | omega | decide | simp)) <| JLr (Zg ZR rfl (At.im hb16) hs16 <| JLr (Zs (vs := [.agg ⟨sC (l.getD j zS)⟩]) [sC (l.getD j zS)] Tryz.runUnderlying34 el23 rfl rfl (by intro e he; simp only [List.mem_cons, List.not_mem_nil, or_false] at he; subst he; exact rfl) rfl (by decide) fun b17 k17 ho17 hk17 => ?_))
   have hlens18 : ∀ e ∈ ([sC (l.getD j zS)] : List (List Value)), List.length e = 32 := by
    intro e he; simp only [List.mem_cons, List.not_mem_nil, or_false] at he
    rcases he with rfl
    ·exact rfl
   have hoks18 : ∀ e ∈ ([sC (l.getD j zS)] : List (List Value)), okc e := by
    intro e he; simp only [List.mem_cons, List.not_mem_nil, or_false] at he
    rcases he with rfl
    ·exact (sC_ok _)
   refine JLr (ZB (i := 1) (n := 1) (es' := [sC (l.getD j zS)]) Tryz.runUnderlying34 Tryz.runUnderlying34 (Or.inl rfl) el23 rfl rfl rfl hown (fun F w m => Src.row (((At.k 0 rfl (by rw [hk17]; exact List.mem_cons_self))).heap m) (Zr (ZA hlens18))) rfl hlens18 hoks18 (by decide) (by rw [Z1]; omega) fun v18 k18 ho18 => ?_)
   rw [← sms_snoc] at ho18
   refine JLa v18 <| Zb <| Za <| JLM rfl <| JLn (Pu.inc rfl rfl (by omega)) <| JLA rfl <| Zb <| ⟨_, ?_, (j + 1), v18, k18, rfl, rfl, rfl, rfl, rfl, (Sd (Sk (Sk Sub.nil))), ?_, ?_, ?_, rfl⟩
   ·omega
   ·omega
   ·have z := among_step hinv (by omega) h15; rw [take_snoc (by omega)] at z; exact z
   have z := ho18; rw [take_snoc (by omega)] at z; exact z
  refine Zy _ rfl <| Zc <| Za <| JLm y <| JLr (Zg ZR rfl (At.bx 1 rfl) (Zr rfl) <| JLr (Zs (vs := [.agg ⟨sC s⟩]) [sC s] Tryz.runUnderlying34 el23 rfl rfl (by intro e he; simp only [List.mem_cons, List.not_mem_nil, or_false] at he; subst he; exact rfl) rfl (by decide) fun b19 k19 ho19 hk19 => ?_))
  have hlens20 : ∀ e ∈ ([sC s] : List (List Value)), List.length e = 32 := by
   intro e he; simp only [List.mem_cons, List.not_mem_nil, or_false] at he
   rcases he with rfl
   ·exact rfl
  have hoks20 : ∀ e ∈ ([sC s] : List (List Value)), okc e := by
   intro e he; simp only [List.mem_cons, List.not_mem_nil, or_false] at he
   rcases he with rfl
   ·exact (sC_ok _)
  refine JLr (ZB (i := 1) (n := 1) (es' := [sC s]) Tryz.runUnderlying34 Tryz.runUnderlying34 (Or.inl rfl) el23 rfl rfl rfl hown (fun F w m => Src.row (((At.k 0 rfl (by rw [hk19]; exact List.mem_cons_self))).heap m) (Zr (ZA hlens20))) rfl hlens20 hoks20 (by decide) (by rw [Z1]; omega) fun v20 k20 ho20 => ?_)
  rw [← sms_snoc] at ho20
  refine JLa v20 <| Zb <| Zc <| Zc ?_
  cases h21 : (decide ((j : Int) < (l.length : Int))) with
  | true =>
   replace h21 := dt h21
   have h21n : j < l.length := by omega
   have hltk : (l.take j).length ≤ 1000000 := by rw [List.length_take]; omega
   refine ZC mixed #[0, 0, 2, 7, 15, 31, 31, 127, 255, 31, 1023, 2047] 10 [some 32, some 33, some 34, some 35, some 36, some 37, some 38, some 39, some 40, some 41] [] [] rfl (by kernel_rfl) rfl (by kernel_rfl) <| DM (fun _ => rfl) <| Dm v ?_
   obtain ⟨a24, cap24, hv24⟩ := hl.rd.sl
   have hle24 := hl.rd.le
   refine Dn (fun _ => Pu.lenSl Tryz.runUnderlying34 hv24) <| Dq (.bool true) (fun _ => Pu.asB (Pu.lss rfl rfl) (decide_eq_true h21)) <| DM (fun _ => rfl) <| Dm v <| DM (fun _ => rfl) ?_
   obtain ⟨b25, o25, cap25, row25, T25, fr25, hv25, hb25, hs25⟩ := RSms.at hl.rd j (by first | assumption | omega | decide | simp)
   refine Dq (pp b25 (o25 + j * 32)) (fun _ => Pu.idx j Tryz.runUnderlying34 ZR hv25 rfl rfl (by first | assumption | omega | decide | simp)) <| Dl ZR (At.im hb25) hs25 <| Dl ZR (At.bx 2 rfl) (Zr rfl) <| ZK (M' := [k19, k20, (BX b1 (sC s) 23)]) rfl ?_
   show JL _ _ _ [_, _] _ _ _
   refine JLn (eqS rfl rfl) <| JLq (.bool (decide (l.getD j zS = s))) (Pu.pickT rfl rfl) <| Zb <| Zf rfl (fun h26 => ?_) (fun h26 => ?_)
   ·replace h26 := dt h26
    refine Za <| JLM rfl <| JLn (Pu.inc rfl rfl (by omega)) <| JLA rfl <| Zb <| Zc <| Za <| JLm v20 <| JLm v <| JLM rfl <| JLr (Runs_dropM (n := j + 1) hl rfl (by omega) Tryz.runUnderlying34 Tryz.sizeOf23 rfl rfl fun u27 hu27 => JLr (ZB (i := 1) (n := (l.drop (j + 1)).length) (es' := sms (l.drop (j + 1))) Tryz.runUnderlying34 Tryz.runUnderlying34 (Or.inl rfl) el23 rfl rfl rfl ho20 (fun F w m => sms_src hu27 w _ m) (Z1 _) (Yv _) (sms_ok _) (by decide) (by rw [Z1]; simp; omega) fun v28 k28 ho28 => ?_))
    rw [← sms_app] at ho28
    refine JLa v28 <| Zb <| Zm <| ⟨v28, [k28], Ret.one rfl (RV.tmp rfl), (Sd (Sk Sub.nil)), ?_⟩
    first
    | exact absurd (by assumption : (j : Int) < (l.length : Int)) (by omega)
    | exact ⟨_, rfl, by rw [among_fin1 hinv (by omega) (by assumption)]; exact ho28⟩
    | exact ⟨_, rfl, by rw [among_fin2 hinv (by first | exact .inl (by omega) | exact .inr (by assumption)) (by first | exact .inl (by omega) | exact .inr (by assumption))]; exact ho28⟩
   replace h26 := df h26
   refine Zj <| Zc <| Za <| JLm v20 <| JLm v <| JLM rfl <| JLr (Runs_dropM (n := j) hl rfl (by omega) Tryz.runUnderlying34 Tryz.sizeOf23 rfl rfl fun u29 hu29 => JLr (ZB (i := 1) (n := (l.drop j).length) (es' := sms (l.drop j)) Tryz.runUnderlying34 Tryz.runUnderlying34 (Or.inl rfl) el23 rfl rfl rfl ho20 (fun F w m => sms_src hu29 w _ m) (Z1 _) (Yv _) (sms_ok _) (by decide) (by rw [Z1]; simp; omega) fun v30 k30 ho30 => ?_))
   rw [← sms_app] at ho30
   refine JLa v30 <| Zb <| Zm <| ⟨v30, [k30], Ret.one rfl (RV.tmp rfl), (Sd (Sk Sub.nil)), ?_⟩
   first
   | exact absurd (by assumption : (j : Int) < (l.length : Int)) (by omega)
   | exact ⟨_, rfl, by rw [among_fin1 hinv (by omega) (by assumption)]; exact ho30⟩
   | exact ⟨_, rfl, by rw [among_fin2 hinv (by first | exact .inl (by omega) | exact .inr (by assumption)) (by first | exact .inl (by omega) | exact .inr (by assumption))]; exact ho30⟩
  | false =>
   replace h21 := df h21
   have h21n : l.length ≤ j := by omega
   refine ZC mixed #[0, 0, 2, 7, 15, 31, 31, 127, 255, 31, 1023, 2047] 10 [some 32, some 33, some 34, some 35, some 36, some 37, some 38, some 39, some 40, some 41] [] [] rfl (by kernel_rfl) rfl (by kernel_rfl) <| DM (fun _ => rfl) <| Dm v ?_
   obtain ⟨a32, cap32, hv32⟩ := hl.rd.sl
   have hle32 := hl.rd.le
   refine Dn (fun _ => Pu.lenSl Tryz.runUnderlying34 hv32) <| Dq (.bool false) (fun _ => Pu.asB (Pu.lss rfl rfl) (decide_eq_false h21)) <| DM (fun _ => rfl) <| YH rfl (fun _ => rfl) <| YH rfl (fun _ => rfl) <| YH rfl (fun _ => rfl) <| YH rfl (fun _ => rfl) <| YH rfl (fun _ => rfl) <| ZK (M' := [k19, k20, (BX b1 (sC s) 23)]) rfl ?_
   show JL _ _ _ [_, _] _ _ _
   refine YG rfl <| JLq (.bool false) (Pu.pickF rfl rfl) <| Zb <| Zf (b := false) rfl (fun h => absurd h (by simp)) (fun _ => Zj <| Zc <| Za <| JLm v20 <| JLm v <| JLM rfl <| JLr (Runs_dropM (n := j) hl rfl (by omega) Tryz.runUnderlying34 Tryz.sizeOf23 rfl rfl fun u33 hu33 => JLr (ZB (i := 1) (n := (l.drop j).length) (es' := sms (l.drop j)) Tryz.runUnderlying34 Tryz.runUnderlying34 (Or.inl rfl) el23 rfl rfl rfl ho20 (fun F w m => sms_src hu33 w _ m) (Z1 _) (Yv _) (sms_ok _) (by decide) (by rw [Z1]; simp; omega) fun v34 k34 ho34 => ?_)))
   rw [← sms_app] at ho34
   refine JLa v34 <| Zb <| Zm <| ⟨v34, [k34], Ret.one rfl (RV.tmp rfl), (Sd (Sk Sub.nil)), ?_⟩
   first
   | exact absurd (by assumption : (j : Int) < (l.length : Int)) (by omega)
   | exact ⟨_, rfl, by rw [among_fin1 hinv (by omega) (by assumption)]; exact ho34⟩
   | exact ⟨_, rfl, by rw [among_fin2 hinv (by first | exact .inl (by omega) | exact .inr (by assumption)) (by first | exact .inl (by omega) | exact .inr (by assumption))]; exact ho34⟩
 | false =>
  replace h10 := df h10
  have h10n : l.length ≤ j := by omega
  refine ZC mixed #[0, 0, 2, 7, 15, 31, 31, 127, 255, 31, 1023, 2047] 10 [some 7, some 8, some 9, some 10, some 11, some 12, some 13, some 14, some 15, some 16] [] [] rfl (by kernel_rfl) rfl (by kernel_rfl) <| DM (fun _ => rfl) <| Dm v ?_
  obtain ⟨a36, cap36, hv36⟩ := hl.rd.sl
  have hle36 := hl.rd.le
  refine Dn (fun _ => Pu.lenSl Tryz.runUnderlying34 hv36) <| Dq (.bool false) (fun _ => Pu.asB (Pu.lss rfl rfl) (decide_eq_false h10)) <| DM (fun _ => rfl) <| YH rfl (fun _ => rfl) <| YH rfl (fun _ => rfl) <| YH rfl (fun _ => rfl) <| YH rfl (fun _ => rfl) <| YH rfl (fun _ => rfl) <| ZK (M' := [q1, (BX b1 (sC s) 23)]) rfl ?_
  show JL _ _ _ [_, _] _ _ _
  refine YG rfl <| JLq (.bool false) (Pu.pickF rfl rfl) <| Zb <| Zf (b := false) rfl (fun h => absurd h (by simp)) (fun _ => Zy _ rfl <| Zc <| Za <| JLm y <| JLr (Zg ZR rfl (At.bx 1 rfl) (Zr rfl) <| JLr (Zs (vs := [.agg ⟨sC s⟩]) [sC s] Tryz.runUnderlying34 el23 rfl rfl (by intro e he; simp only [List.mem_cons, List.not_mem_nil, or_false] at he; subst he; exact rfl) rfl (by decide) fun b37 k37 ho37 hk37 => ?_)))
  have hlens38 : ∀ e ∈ ([sC s] : List (List Value)), List.length e = 32 := by
   intro e he; simp only [List.mem_cons, List.not_mem_nil, or_false] at he
   rcases he with rfl
   ·exact rfl
  have hoks38 : ∀ e ∈ ([sC s] : List (List Value)), okc e := by
   intro e he; simp only [List.mem_cons, List.not_mem_nil, or_false] at he
   rcases he with rfl
   ·exact (sC_ok _)
  refine JLr (ZB (i := 1) (n := 1) (es' := [sC s]) Tryz.runUnderlying34 Tryz.runUnderlying34 (Or.inl rfl) el23 rfl rfl rfl hown (fun F w m => Src.row (((At.k 0 rfl (by rw [hk37]; exact List.mem_cons_self))).heap m) (Zr (ZA hlens38))) rfl hlens38 hoks38 (by decide) (by rw [Z1]; omega) fun v38 k38 ho38 => ?_)
  rw [← sms_snoc] at ho38
  refine JLa v38 <| Zb <| Zc <| Zc ?_
  cases h39 : (decide ((j : Int) < (l.length : Int))) with
  | true =>
   replace h39 := dt h39
   have h39n : j < l.length := by omega
   have hltk : (l.take j).length ≤ 1000000 := by rw [List.length_take]; omega
   refine ZC mixed #[0, 0, 2, 7, 15, 31, 31, 127, 255, 31, 1023, 2047] 10 [some 32, some 33, some 34, some 35, some 36, some 37, some 38, some 39, some 40, some 41] [] [] rfl (by kernel_rfl) rfl (by kernel_rfl) <| DM (fun _ => rfl) <| Dm v ?_
   obtain ⟨a42, cap42, hv42⟩ := hl.rd.sl
   have hle42 := hl.rd.le
   refine Dn (fun _ => Pu.lenSl Tryz.runUnderlying34 hv42) <| Dq (.bool true) (fun _ => Pu.asB (Pu.lss rfl rfl) (decide_eq_true h39)) <| DM (fun _ => rfl) <| Dm v <| DM (fun _ => rfl) ?_
   obtain ⟨b43, o43, cap43, row43, T43, fr43, hv43, hb43, hs43⟩ := RSms.at hl.rd j (by first | assumption | omega | decide | simp)
   refine Dq (pp b43 (o43 + j * 32)) (fun _ => Pu.idx j Tryz.runUnderlying34 ZR hv43 rfl rfl (by first | assumption | omega | decide | simp)) <| Dl ZR (At.im hb43) hs43 <| Dl ZR (At.bx 2 rfl) (Zr rfl) <| ZK (M' := [k37, k38, (BX b1 (sC s) 23)]) rfl ?_
   show JL _ _ _ [_, _] _ _ _
   refine JLn (eqS rfl rfl) <| JLq (.bool (decide (l.getD j zS = s))) (Pu.pickT rfl rfl) <| Zb <| Zf rfl (fun h44 => ?_) (fun h44 => ?_)
   ·replace h44 := dt h44
    refine Za <| JLM rfl <| JLn (Pu.inc rfl rfl (by omega)) <| JLA rfl <| Zb <| Zc <| Za <| JLm v38 <| JLm v <| JLM rfl <| JLr (Runs_dropM (n := j + 1) hl rfl (by omega) Tryz.runUnderlying34 Tryz.sizeOf23 rfl rfl fun u45 hu45 => JLr (ZB (i := 1) (n := (l.drop (j + 1)).length) (es' := sms (l.drop (j + 1))) Tryz.runUnderlying34 Tryz.runUnderlying34 (Or.inl rfl) el23 rfl rfl rfl ho38 (fun F w m => sms_src hu45 w _ m) (Z1 _) (Yv _) (sms_ok _) (by decide) (by rw [Z1]; simp; omega) fun v46 k46 ho46 => ?_))
    rw [← sms_app] at ho46
    refine JLa v46 <| Zb <| Zm <| ⟨v46, [k46], Ret.one rfl (RV.tmp rfl), (Sd (Sk Sub.nil)), ?_⟩
    first
    | exact absurd (by assumption : (j : Int) < (l.length : Int)) (by omega)
    | exact ⟨_, rfl, by rw [among_fin1 hinv (by omega) (by assumption)]; exact ho46⟩
    | exact ⟨_, rfl, by rw [among_fin2 hinv (by first | exact .inl (by omega) | exact .inr (by assumption)) (by first | exact .inl (by omega) | exact .inr (by assumption))]; exact ho46⟩
   replace h44 := df h44
   refine Zj <| Zc <| Za <| JLm v38 <| JLm v <| JLM rfl <| JLr (Runs_dropM (n := j) hl rfl (by omega) Tryz.runUnderlying34 Tryz.sizeOf23 rfl rfl fun u47 hu47 => JLr (ZB (i := 1) (n := (l.drop j).length) (es' := sms (l.drop j)) Tryz.runUnderlying34 Tryz.runUnderlying34 (Or.inl rfl) el23 rfl rfl rfl ho38 (fun F w m => sms_src hu47 w _ m) (Z1 _) (Yv _) (sms_ok _) (by decide) (by rw [Z1]; simp; omega) fun v48 k48 ho48 => ?_))
   rw [← sms_app] at ho48
   refine JLa v48 <| Zb <| Zm <| ⟨v48, [k48], Ret.one rfl (RV.tmp rfl), (Sd (Sk Sub.nil)), ?_⟩
   first
   | exact absurd (by assumption : (j : Int) < (l.length : Int)) (by omega)
   | exact ⟨_, rfl, by rw [among_fin1 hinv (by omega) (by assumption)]; exact ho48⟩
   | exact ⟨_, rfl, by rw [among_fin2 hinv (by first | exact .inl (by omega) | exact .inr (by assumption)) (by first | exact .inl (by omega) | exact .inr (by assumption))]; exact ho48⟩
  | false =>
   replace h39 := df h39
   have h39n : l.length ≤ j := by omega
   refine ZC mixed #[0, 0, 2, 7, 15, 31, 31, 127, 255, 31, 1023, 2047] 10 [some 32, some 33, some 34, some 35, some 36, some 37, some 38, some 39, some 40, some 41] [] [] rfl (by kernel_rfl) rfl (by kernel_rfl) <| DM (fun _ => rfl) <| Dm v ?_
   obtain ⟨a50, cap50, hv50⟩ := hl.rd.sl
   have hle50 := hl.rd.le
   refine Dn (fun _ => Pu.lenSl Tryz.runUnderlying34 hv50) <| Dq (.bool false) (fun _ => Pu.asB (Pu.lss rfl rfl) (decide_eq_false h39)) <| DM (fun _ => rfl) <| YH rfl (fun _ => rfl) <| YH rfl (fun _ => rfl) <| YH rfl (fun _ => rfl) <| YH rfl (fun _ => rfl) <| YH rfl (fun _ => rfl) <| ZK (M' := [k37, k38, (BX b1 (sC s) 23)]) rfl ?_
   show JL _ _ _ [_, _] _ _ _
   refine YG rfl <| JLq (.bool false) (Pu.pickF rfl rfl) <| Zb <| Zf (b := false) rfl (fun h => absurd h (by simp)) (fun _ => Zj <| Zc <| Za <| JLm v38 <| JLm v <| JLM rfl <| JLr (Runs_dropM (n := j) hl rfl (by omega) Tryz.runUnderlying34 Tryz.sizeOf23 rfl rfl fun u51 hu51 => JLr (ZB (i := 1) (n := (l.drop j).length) (es' := sms (l.drop j)) Tryz.runUnderlying34 Tryz.runUnderlying34 (Or.inl rfl) el23 rfl rfl rfl ho38 (fun F w m => sms_src hu51 w _ m) (Z1 _) (Yv _) (sms_ok _) (by decide) (by rw [Z1]; simp; omega) fun v52 k52 ho52 => ?_)))
   rw [← sms_app] at ho52
   refine JLa v52 <| Zb <| Zm <| ⟨v52, [k52], Ret.one rfl (RV.tmp rfl), (Sd (Sk Sub.nil)), ?_⟩
   first
   | exact absurd (by assumption : (j : Int) < (l.length : Int)) (by omega)
   | exact ⟨_, rfl, by rw [among_fin1 hinv (by omega) (by assumption)]; exact ho52⟩
   | exact ⟨_, rfl, by rw [among_fin2 hinv (by first | exact .inl (by omega) | exact .inr (by assumption)) (by first | exact .inl (by omega) | exact .inr (by assumption))]; exact ho52⟩
end Go.Proofs.YtfdeibbpfgolcaaGreat.Hs
/-! Walks, printed by a program of this session's own (gen.py). -/
namespace Go.Proofs.YtfdeibbpfgolcaaGreat.Hs
open Go Go.Proofs
set_option maxRecDepth 100000
set_option linter.unusedVariables false
set_option linter.unusedSimpArgs false
attribute [local irreducible] JL J CT wlo DT
theorem patReplR_ct : ∀ (sf sg : Sm) (p : Pt) (cs : List Value) (H : Heap), RP H cs p → sizeP p ≤ 1000000 → CT Tryz.prog 48 ⟨[.agg ⟨cs⟩, .agg ⟨sC sf⟩, .agg ⟨sC sg⟩]⟩ [] H (fun v N => ∃ cs k, v = .agg ⟨cs⟩ ∧ N = [k] ∧ OP (rpP sf sg p) cs k) := by
 intro sf sg
 intro p
 induction p using Pt.ind with
 | h kind num ref kids ih =>
 intro cs H hp hz
 rw [sizeP] at hz
 have hlk := len_sizePs kids
 obtain ⟨ks, rfl, hk, hn, hks⟩ := RP_mk.1 hp
 refine Zn Tryz.func48 rfl rfl <| Zc <| Za <| JLr (Zo (l := pkP kind num ref ks) rfl rfl fun b1 => JLr (Zo (l := sC sf) rfl rfl fun b2 => JLr (Zo (l := sC sg) rfl rfl fun b3 => JLr (Zl (l := pkP 0 0 zS nS) Tryz.zeroValue54 rfl fun b4 => Zb <| Zc <| Za <| JLq (pp b1 0) (Yj rfl rfl) <| JLr (Zd ty3 rfl (At.bx 3 rfl) (YJ ..) <| JLq (pp b1 1) (fa54_1 rfl rfl) ?_)))))
 refine JLr (Zd ty3 rfl (At.bx 3 rfl) (pkP_1 ..) <| JLq (pp b1 2) (fa54_2 rfl rfl) <| JLr (Zg ZR rfl (At.bx 3 rfl) (pkP_2 ..) <| JLq (.agg ⟨pkP kind num ref nS⟩) (Pu.build (pv := [(0, iv kind), (1, iv num), (2, .agg ⟨sC ref⟩)]) (l := pkP kind num ref nS) rfl (bld54_0_1_2 _ _ _)) <| JLr (Zl (l := pkP 0 0 zS nS) Tryz.zeroValue54 rfl fun b5 => JLr (Ze 0 (vs := pkP kind num ref nS) (l := pkP kind num ref nS) ZQ rfl rfl rfl rfl rfl (pkP_ok rfl) (pkP_s ..) <| Zb <| Zc <| Zc <| Za <| JLq (pp b1 0) (Yj rfl rfl) <| JLr (Zd ty3 rfl (At.bx 4 rfl) (YJ ..) <| JLn (Pu.eql rfl rfl) ?_)))))
 refine JLM rfl <| Zv 4 [20, 21, 22, 23] [(23, cond (decide (kind = 3)) (.bool (decide (ref = sf))) undef)] ?_ fun f7 => ?_
 ·cases h6 : (decide (kind = 3)) with
  | true =>
   replace h6 := dt h6
   refine JLq (pp b1 2) (fa54_2 rfl rfl) <| JLr (Zg ZR rfl (At.bx 4 rfl) (pkP_2 ..) <| JLr (Zg ZR rfl (At.bx 3 rfl) (Zr rfl) <| JLn (eqS rfl rfl) ?_))
   exact Zb ⟨⟨rfl, trivial⟩, rfl⟩
  | false =>
   exact Zx rfl ⟨rfl, trivial⟩
 refine JLn (Pu.pickAnd rfl rfl rfl) <| Zb <| J_weak (N := fun ρ M => ρ 3 = pp b1 0 ∧ ρ 4 = pp b2 0 ∧ ρ 5 = pp b3 0 ∧ ρ 6 = pp b4 0 ∧ ρ 7 = pp b5 0 ∧ M = [(BX b5 (pkP kind num ((if kind = 3 ∧ ref = sf then sg else ref)) nS) 54), (BX b4 (pkP 0 0 zS nS) 54), (BX b3 (sC sg) 23), (BX b2 (sC sf) 23), (BX b1 (pkP kind num ref ks) 54)]) ?_ ?_
 ·refine Zf rfl (fun h8 => ?_) (fun h8 => ?_)
  ·obtain ⟨h8a, h8b⟩ := YM h8
   replace h8a := dt h8a
   replace h8b := dt h8b
   refine Za <| JLr (Zg ZR rfl (At.bx 2 rfl) (Zr rfl) <| JLq (pp b5 2) (fa54_2 rfl rfl) <| JLr (Ze 0 (vs := sC sg) (l := pkP kind num sg nS) ZR rfl rfl rfl rfl rfl (sC_ok _) (pkP_s2 ..) <| Zb ?_))
   have hC : (kind = 3 ∧ ref = sf) := by exact ⟨h8a, h8b⟩
   rw [if_pos hC]
   exact ⟨rfl, rfl, rfl, rfl, rfl, rfl⟩
  refine Zj ?_
  have hC : ¬ (kind = 3 ∧ ref = sf) := by intro hh; simp_all
  rw [if_neg hC]
  exact ⟨rfl, rfl, rfl, rfl, rfl, rfl⟩
 rintro ρ9 _ ⟨e10, e11, e12, e13, e14, rfl⟩
 obtain ⟨ρ15, rfl⟩ := Zu (uc e10 (uc e11 (uc e12 (uc e13 (uc e14 un)))))
 clear e10 e11 e12 e13 e14
 refine Zc <| Zc <| Za <| JLA rfl <| Zb <| Zk <| ZF (fun k ρ M => ∃ (j : Nat) (v : Value) (es : List (List Value)) (k1 k2 : Zh), ρ 3 = pp b1 0 ∧ ρ 4 = pp b2 0 ∧ ρ 5 = pp b3 0 ∧ ρ 6 = pp b4 0 ∧ ρ 7 = pp b5 0 ∧ ρ 8 = iv ((j : Int)) ∧ Sub [(BX b5 (pkP kind num ((if kind = 3 ∧ ref = sf then sg else ref)) v) 54), k1, k2, (BX b4 (pkP 0 0 zS nS) 54), (BX b3 (sC sg) 23), (BX b2 (sC sf) 23), (BX b1 (pkP kind num ref ks) 54)] M ∧ j ≤ kids.length ∧ Own 54 35 v es k1 ∧ OPs (rpPs sf sg (kids.take j)) es k2 ∧ k = kids.length - j) _ ⟨0, nS, [], [], [], rfl, rfl, rfl, rfl, rfl, rfl, (Sk (Sub.emp (Sub.emp (Sk (Sk (Sk (Sk Sub.nil))))))), Nat.zero_le _, Own.nil, OPs.nil, rfl⟩ ?_
 rintro _ ρ16 _ ⟨j, v, es, k1, k2, e17, e18, e19, e20, e21, e22, hm23, hj, hov, hopv, rfl⟩
 obtain ⟨ρ24, rfl⟩ := Zu (uc e17 (uc e18 (uc e19 (uc e20 (uc e21 (uc e22 un))))))
 clear e17 e18 e19 e20 e21 e22
 refine ZI hm23 ?_
 have hlen := hks.le
 refine Zc <| Zc <| Za <| JLM rfl <| JLq (pp b1 34) (ZX rfl rfl) <| JLr (Zd Yz rfl (At.bx 6 rfl) (Z3 ..) ?_)
 obtain ⟨a25, cap25, hv25⟩ := hks.sl
 have hle25 := hks.le
 refine JLn (Pu.lenSl Tryz.runUnderlying52 hv25) <| JLn (Pu.lss rfl rfl) <| Zb <| Zf rfl (fun h26 => ?_) (fun h26 => ?_)
 ·replace h26 := dt h26
  have h26n : j < kids.length := by omega
  have helv := OPs_len hopv
  rw [rpPs_len, List.length_take] at helv
  have hs1 := sizePs_mem _ (List.getElem_mem h26n)
  refine Zj <| Zc <| Zk <| ZC mixed #[0, 1, 0, 4, 0, 28, 60, 0, 0, 508, 1020, 2047, 4095, 8191] 11 [some 34, some 35, some 36, some 37, some 38, some 39, some 40, some 41, some 42, some 43, some 44] [] [(9, fun _ _ vw qw => ∃ cs k, vw = .agg ⟨cs⟩ ∧ qw = [k] ∧ OP (rpP sf sg (kids[j])) cs k), (10, fun r _ vw qw => ∃ b k, vw = .slice (some ⟨b, 0, none⟩) 1 1 ∧ qw = [k] ∧ Own 54 35 (.slice (some ⟨b, 0, none⟩) 1 1) [(cel (r 9))] k ∧ k = (BX b (List.flatten [(cel (r 9))]) 54))] rfl (by kernel_rfl) rfl (by kernel_rfl) <| Dq (pp b5 34) (fun _ => ZX rfl rfl) <| Dl1 Yz (At.bx 0 rfl) (Z3 ..) <| Dq (pp b1 34) (fun _ => ZX rfl rfl) <| Dl1 Yz (At.bx 6 rfl) (Z3 ..) <| DM (fun _ => rfl) ?_
  obtain ⟨b30, o30, cap30, row30, T30, fr30, cs30, hv30, hb30, hs30, hE30⟩ := hks.get j (by first | assumption | omega | decide | simp)
  refine Dq (pp b30 (o30 + j * 35)) (fun _ => Pu.idx j Tryz.runUnderlying52 ZQ hv30 rfl rfl (by first | assumption | omega | decide | simp)) <| Dl ZQ (At.im hb30) hs30 <| Dl ZR (At.bx 5 rfl) (Zr rfl) <| Dl ZR (At.bx 4 rfl) (Zr rfl) ?_
  refine Dc rfl Tryz.call48 (fun _ => rfl) (fun hin => ih _ (List.getElem_mem h26n) _ _ (RP.mono (Hle.hu _ _) hE30) (by omega)) ?_
  rintro _ _ ⟨cs31, k31, rfl, rfl, hO31⟩
  refine Dr rfl (fun _ => Zs (vs := [.agg ⟨cs31⟩]) [cs31] Tryz.runUnderlying52 el54 rfl rfl (by intro e he; simp only [List.mem_cons, List.not_mem_nil, or_false] at he; subst he; exact hO31.len) rfl (by decide) fun b k h1 h2 => ⟨[k], by rw [Z9 rfl]; exact Sub.refl, b, k, rfl, rfl, h1, h2⟩) (fun _ _ ⟨b32, k32, e1, e2, ho32, hk32⟩ => ?_); subst e1 e2
  refine ZK (M' := [k32, k31, (BX b5 (pkP kind num ((if kind = 3 ∧ ref = sf then sg else ref)) v) 54), k1, k2, (BX b4 (pkP 0 0 zS nS) 54), (BX b3 (sC sg) 23), (BX b2 (sC sf) 23), (BX b1 (pkP kind num ref ks) 54)]) rfl ?_
  show JL _ _ _ [_, _, _] _ _ _
  have hlens33 : ∀ e ∈ ([cs31] : List (List Value)), List.length e = 35 := by
   intro e he; simp only [List.mem_cons, List.not_mem_nil, or_false] at he
   rcases he with rfl
   ·exact hO31.len
  have hoks33 : ∀ e ∈ ([cs31] : List (List Value)), okc e := by
   intro e he; simp only [List.mem_cons, List.not_mem_nil, or_false] at he
   rcases he with rfl
   ·exact hO31.ok
  refine JLr (ZB (i := 3) (n := 1) (es' := [cs31]) Tryz.runUnderlying52 Tryz.runUnderlying52 (Or.inl rfl) el54 rfl rfl rfl hov (fun F w m => Src.row (((At.k 0 rfl (by rw [hk32]; exact List.mem_cons_self))).heap m) (Zr (ZA hlens33))) rfl hlens33 hoks33 (by decide) (by omega) fun v33 k33 ho33 => JLq (pp b5 34) (ZX rfl rfl) <| JLr (Ze 2 (vs := [v33]) (l := pkP kind num ((if kind = 3 ∧ ref = sf then sg else ref)) v33) Yz rfl rfl rfl (ZJ ho33.one) rfl (Zi ho33.one Zp) (pkP_s34 ..) <| Zb <| Za <| JLM rfl <| JLn (Pu.inc rfl rfl (by omega)) <| JLA rfl <| Zb <| ⟨_, ?_, (j + 1), v33, (es ++ [cs31]), k33, (k2 ++ k31), rfl, rfl, rfl, rfl, rfl, rfl, (Sd (Sub.cons 1 rfl (Sub.cons 1 rfl (Sub.join (Sub.cons 1 rfl (Sk (Sk (Sk (Sk (Sk Sub.nil)))))))))), ?_, ?_, ?_, rfl⟩))
  ·omega
  ·omega
  ·assumption
  rw [rpPs_take sf sg kids j h26n]; exact OPs.snoc hO31 hopv
 replace h26 := df h26
 have h26n : kids.length ≤ j := by omega
 refine Zy _ rfl <| Zc <| Za <| JLr (Zg ZQ rfl (At.bx 0 rfl) (pkP_a ..) <| JLr (Ze 3 (vs := pkP kind num ((if kind = 3 ∧ ref = sf then sg else ref)) v) (l := pkP kind num ((if kind = 3 ∧ ref = sf then sg else ref)) v) ZQ rfl rfl rfl rfl rfl (pkP_ok hov.one) (pkP_s ..) <| Zb <| Zm <| ⟨.agg ⟨pkP kind num ((if kind = 3 ∧ ref = sf then sg else ref)) v⟩, [k1 ++ k2], Ret.one rfl (RV.cell ZQ rfl (At.bx 3 rfl) (pkP_a ..)), (Sub.join (Sd (Sk (Sk Sub.nil)))), ?_⟩))
 rw [rpP]
 rw [List.take_of_length_le h26n] at hopv
 exact ⟨_, _, rfl, rfl, OP_mk.2 ⟨v, es, k1, k2, rfl, hk, hn, hov, hopv, rfl, by rw [rpPs_len]; exact hks.le⟩⟩
theorem replR_ct : ∀ (sf sg : Sm) (t : Tm) (cs : List Value) (H : Heap), RT H cs t → sizeT t ≤ 1000000 → CT Tryz.prog 11 ⟨[.agg ⟨cs⟩, .agg ⟨sC sf⟩, .agg ⟨sC sg⟩]⟩ [] H (fun v N => ∃ cs k, v = .agg ⟨cs⟩ ∧ N = [k] ∧ OT (rpT sf sg t) cs k) := by
 intro sf sg
 intro t
 induction t using Tm.ind with
 | h kind num ref kids cases ih ih' =>
 intro cs H ht hz
 rw [sizeT] at hz
 have hlk := len_sizeTs kids
 have hlc := len_sizeCs cases
 obtain ⟨ks, cv, rfl, hk, hn, hks, hcv⟩ := RT_mk.1 ht
 refine Zn Tryz.func11 rfl rfl <| Zc <| Za <| JLr (Zo (l := pkT kind num ref ks cv) rfl rfl fun b1 => JLr (Zo (l := sC sf) rfl rfl fun b2 => JLr (Zo (l := sC sg) rfl rfl fun b3 => JLr (Zl (l := pkT 0 0 zS nS nS) Tryz.zeroValue27 rfl fun b4 => Zb <| Zc <| Za <| JLq (pp b1 0) (ZG rfl rfl) <| JLr (Zd ty3 rfl (At.bx 3 rfl) (ZU ..) <| JLq (pp b1 1) (Ya rfl rfl) ?_)))))
 refine JLr (Zd ty3 rfl (At.bx 3 rfl) (Yn ..) <| JLq (pp b1 2) (Yq rfl rfl) <| JLr (Zg ZR rfl (At.bx 3 rfl) (Y5 ..) <| JLq (.agg ⟨pkT kind num ref nS nS⟩) (Pu.build (pv := [(0, iv kind), (1, iv num), (2, .agg ⟨sC ref⟩)]) (l := pkT kind num ref nS nS) rfl (bld27_0_1_2 _ _ _)) <| JLr (Zl (l := pkT 0 0 zS nS nS) Tryz.zeroValue27 rfl fun b5 => JLr (Ze 0 (vs := pkT kind num ref nS nS) (l := pkT kind num ref nS nS) Zt rfl rfl rfl rfl rfl (Z2 rfl rfl) (Y4 ..) <| Zb <| Zc <| Zc <| Za <| JLq (pp b1 0) (ZG rfl rfl) <| JLr (Zd ty3 rfl (At.bx 4 rfl) (ZU ..) <| Jc Tryz.call47 rfl (fun hin => hasRef_ct _ _) rfl ?_)))))
 rintro _ _ ⟨rfl, rfl⟩
 refine JLM rfl <| Zv 4 [21, 22, 23, 24] [(24, cond (ZH kind) (.bool (decide (ref = sf))) undef)] ?_ fun f7 => ?_
 ·cases h6 : (ZH kind) with
  | true =>
   refine JLq (pp b1 2) (Yq rfl rfl) <| JLr (Zg ZR rfl (At.bx 4 rfl) (Y5 ..) <| JLr (Zg ZR rfl (At.bx 3 rfl) (Zr rfl) <| JLn (eqS rfl rfl) ?_))
   exact Zb ⟨⟨rfl, trivial⟩, rfl⟩
  | false =>
   exact Zx rfl ⟨rfl, trivial⟩
 refine JLn (Pu.pickAnd rfl rfl rfl) <| Zb <| J_weak (N := fun ρ M => ρ 3 = pp b1 0 ∧ ρ 4 = pp b2 0 ∧ ρ 5 = pp b3 0 ∧ ρ 6 = pp b4 0 ∧ ρ 7 = pp b5 0 ∧ M = [(BX b5 (pkT kind num ((if ZH kind = true ∧ ref = sf then sg else ref)) nS nS) 27), (BX b4 (pkT 0 0 zS nS nS) 27), (BX b3 (sC sg) 23), (BX b2 (sC sf) 23), (BX b1 (pkT kind num ref ks cv) 27)]) ?_ ?_
 ·refine Zf rfl (fun h8 => ?_) (fun h8 => ?_)
  ·obtain ⟨h8a, h8b⟩ := YM h8
   replace h8b := dt h8b
   refine Za <| JLr (Zg ZR rfl (At.bx 2 rfl) (Zr rfl) <| JLq (pp b5 2) (Yq rfl rfl) <| JLr (Ze 0 (vs := sC sg) (l := pkT kind num sg nS nS) ZR rfl rfl rfl rfl rfl (sC_ok _) (pkT_s2 ..) <| Zb ?_))
   have hC : (ZH kind = true ∧ ref = sf) := by exact ⟨h8a, h8b⟩
   rw [if_pos hC]
   exact ⟨rfl, rfl, rfl, rfl, rfl, rfl⟩
  refine Zj ?_
  have hC : ¬ (ZH kind = true ∧ ref = sf) := by intro hh; simp_all
  rw [if_neg hC]
  exact ⟨rfl, rfl, rfl, rfl, rfl, rfl⟩
 rintro ρ9 _ ⟨e10, e11, e12, e13, e14, rfl⟩
 obtain ⟨ρ15, rfl⟩ := Zu (uc e10 (uc e11 (uc e12 (uc e13 (uc e14 un)))))
 clear e10 e11 e12 e13 e14
 refine Zc <| Zc <| Za <| JLA rfl <| Zb <| Zk <| ZF (fun k ρ M => ∃ (j : Nat) (v : Value) (es : List (List Value)) (k1 k2 : Zh), ρ 3 = pp b1 0 ∧ ρ 4 = pp b2 0 ∧ ρ 5 = pp b3 0 ∧ ρ 6 = pp b4 0 ∧ ρ 7 = pp b5 0 ∧ ρ 8 = iv ((j : Int)) ∧ Sub [(BX b5 (pkT kind num ((if ZH kind = true ∧ ref = sf then sg else ref)) v nS) 27), k1, k2, (BX b4 (pkT 0 0 zS nS nS) 27), (BX b3 (sC sg) 23), (BX b2 (sC sf) 23), (BX b1 (pkT kind num ref ks cv) 27)] M ∧ j ≤ kids.length ∧ Own 27 36 v es k1 ∧ OTs (rpTs sf sg (kids.take j)) es k2 ∧ k = kids.length - j) _ ⟨0, nS, [], [], [], rfl, rfl, rfl, rfl, rfl, rfl, (Sk (Sub.emp (Sub.emp (Sk (Sk (Sk (Sk Sub.nil))))))), Nat.zero_le _, Own.nil, OTs.nil, rfl⟩ ?_
 rintro _ ρ16 _ ⟨j, v, es, k1, k2, e17, e18, e19, e20, e21, e22, hm23, hj, hov, hopv, rfl⟩
 obtain ⟨ρ24, rfl⟩ := Zu (uc e17 (uc e18 (uc e19 (uc e20 (uc e21 (uc e22 un))))))
 clear e17 e18 e19 e20 e21 e22
 refine ZI hm23 ?_
 have hlen := hks.le
 refine Zc <| Zc <| Za <| JLM rfl <| JLq (pp b1 34) (ZY rfl rfl) <| JLr (Zd YA rfl (At.bx 6 rfl) (ZV ..) ?_)
 obtain ⟨a25, cap25, hv25⟩ := hks.sl
 have hle25 := hks.le
 refine JLn (Pu.lenSl Tryz.runUnderlying24 hv25) <| JLn (Pu.lss rfl rfl) <| Zb <| Zf rfl (fun h26 => ?_) (fun h26 => ?_)
 ·replace h26 := dt h26
  have h26n : j < kids.length := by omega
  have helv := OTs_len hopv
  rw [rpTs_len, List.length_take] at helv
  have hs1 := YY _ (List.getElem_mem h26n)
  refine Zj <| Zc <| Zk <| ZC mixed #[0, 1, 0, 4, 0, 28, 60, 0, 0, 508, 1020, 2047, 4095, 8191] 11 [some 35, some 36, some 37, some 38, some 39, some 40, some 41, some 42, some 43, some 44, some 45] [] [(9, fun _ _ vw qw => ∃ cs k, vw = .agg ⟨cs⟩ ∧ qw = [k] ∧ OT (rpT sf sg (kids[j])) cs k), (10, fun r _ vw qw => ∃ b k, vw = .slice (some ⟨b, 0, none⟩) 1 1 ∧ qw = [k] ∧ Own 27 36 (.slice (some ⟨b, 0, none⟩) 1 1) [(cel (r 9))] k ∧ k = (BX b (List.flatten [(cel (r 9))]) 27))] rfl (by kernel_rfl) rfl (by kernel_rfl) <| Dq (pp b5 34) (fun _ => ZY rfl rfl) <| Dl1 YA (At.bx 0 rfl) (ZV ..) <| Dq (pp b1 34) (fun _ => ZY rfl rfl) <| Dl1 YA (At.bx 6 rfl) (ZV ..) <| DM (fun _ => rfl) ?_
  obtain ⟨b30, o30, cap30, row30, T30, fr30, cs30, hv30, hb30, hs30, hE30⟩ := hks.get j (by first | assumption | omega | decide | simp)
  refine Dq (pp b30 (o30 + j * 36)) (fun _ => Pu.idx j Tryz.runUnderlying24 Zt hv30 rfl rfl (by first | assumption | omega | decide | simp)) <| Dl Zt (At.im hb30) hs30 <| Dl ZR (At.bx 5 rfl) (Zr rfl) <| Dl ZR (At.bx 4 rfl) (Zr rfl) ?_
  refine Dc rfl Tryz.call11 (fun _ => rfl) (fun hin => ih _ (List.getElem_mem h26n) _ _ (RT.mono (Hle.hu _ _) hE30) (by omega)) ?_
  rintro _ _ ⟨cs31, k31, rfl, rfl, hO31⟩
  refine Dr rfl (fun _ => Zs (vs := [.agg ⟨cs31⟩]) [cs31] Tryz.runUnderlying24 el27 rfl rfl (by intro e he; simp only [List.mem_cons, List.not_mem_nil, or_false] at he; subst he; exact hO31.len) rfl (by decide) fun b k h1 h2 => ⟨[k], by rw [Z9 rfl]; exact Sub.refl, b, k, rfl, rfl, h1, h2⟩) (fun _ _ ⟨b32, k32, e1, e2, ho32, hk32⟩ => ?_); subst e1 e2
  refine ZK (M' := [k32, k31, (BX b5 (pkT kind num ((if ZH kind = true ∧ ref = sf then sg else ref)) v nS) 27), k1, k2, (BX b4 (pkT 0 0 zS nS nS) 27), (BX b3 (sC sg) 23), (BX b2 (sC sf) 23), (BX b1 (pkT kind num ref ks cv) 27)]) rfl ?_
  show JL _ _ _ [_, _, _] _ _ _
  have hlens33 : ∀ e ∈ ([cs31] : List (List Value)), List.length e = 36 := by
   intro e he; simp only [List.mem_cons, List.not_mem_nil, or_false] at he
   rcases he with rfl
   ·exact hO31.len
  have hoks33 : ∀ e ∈ ([cs31] : List (List Value)), okc e := by
   intro e he; simp only [List.mem_cons, List.not_mem_nil, or_false] at he
   rcases he with rfl
   ·exact hO31.ok
  refine JLr (ZB (i := 3) (n := 1) (es' := [cs31]) Tryz.runUnderlying24 Tryz.runUnderlying24 (Or.inl rfl) el27 rfl rfl rfl hov (fun F w m => Src.row (((At.k 0 rfl (by rw [hk32]; exact List.mem_cons_self))).heap m) (Zr (ZA hlens33))) rfl hlens33 hoks33 (by decide) (by omega) fun v33 k33 ho33 => JLq (pp b5 34) (ZY rfl rfl) <| JLr (Ze 2 (vs := [v33]) (l := pkT kind num ((if ZH kind = true ∧ ref = sf then sg else ref)) v33 nS) YA rfl rfl rfl (ZJ ho33.one) rfl (Zi ho33.one Zp) (pkT_s34 ..) <| Zb <| Za <| JLM rfl <| JLn (Pu.inc rfl rfl (by omega)) <| JLA rfl <| Zb <| ⟨_, ?_, (j + 1), v33, (es ++ [cs31]), k33, (k2 ++ k31), rfl, rfl, rfl, rfl, rfl, rfl, (Sd (Sub.cons 1 rfl (Sub.cons 1 rfl (Sub.join (Sub.cons 1 rfl (Sk (Sk (Sk (Sk (Sk Sub.nil)))))))))), ?_, ?_, ?_, rfl⟩))
  ·omega
  ·omega
  ·assumption
  rw [rpTs_take sf sg kids j h26n]; exact OTs.snoc hO31 hopv
 replace h26 := df h26
 have h26n : kids.length ≤ j := by omega
 refine Zy _ rfl <| Zc <| Zc <| Za <| JLA rfl <| Zb <| Zk ?_
 rw [List.take_of_length_le h26n] at hopv
 refine ZF (fun k ρ M => ∃ (j : Nat) (w : Value) (es2 : List (List Value)) (k3 k4 : Zh), ρ 3 = pp b1 0 ∧ ρ 4 = pp b2 0 ∧ ρ 5 = pp b3 0 ∧ ρ 6 = pp b4 0 ∧ ρ 7 = pp b5 0 ∧ ρ 9 = iv ((j : Int)) ∧ Sub [(BX b5 (pkT kind num ((if ZH kind = true ∧ ref = sf then sg else ref)) v w) 27), k3, k4, k1, k2, (BX b4 (pkT 0 0 zS nS nS) 27), (BX b3 (sC sg) 23), (BX b2 (sC sf) 23), (BX b1 (pkT kind num ref ks cv) 27)] M ∧ j ≤ cases.length ∧ Own 56 71 w es2 k3 ∧ OCs (rpCs sf sg (cases.take j)) es2 k4 ∧ k = cases.length - j) _ ⟨0, nS, [], [], [], rfl, rfl, rfl, rfl, rfl, rfl, (Sk (Sub.emp (Sub.emp (Sk (Sk (Sk (Sk (Sk (Sk Sub.nil))))))))), Nat.zero_le _, Own.nil, OCs.nil, rfl⟩ ?_
 rintro _ ρ34 _ ⟨j, w, es2, k3, k4, e35, e36, e37, e38, e39, e40, hm41, hj, how, hopw, rfl⟩
 obtain ⟨ρ42, rfl⟩ := Zu (uc e35 (uc e36 (uc e37 (uc e38 (uc e39 (uc e40 un))))))
 clear e35 e36 e37 e38 e39 e40
 refine ZI hm41 ?_
 have hlen := hcv.le
 refine Zc <| Zc <| Za <| JLM rfl <| JLq (pp b1 35) (ZP rfl rfl) <| JLr (Zd Ym rfl (At.bx 8 rfl) (ZO ..) ?_)
 obtain ⟨a43, cap43, hv43⟩ := hcv.sl
 have hle43 := hcv.le
 refine JLn (Pu.lenSl Tryz.runUnderlying25 hv43) <| JLn (Pu.lss rfl rfl) <| Zb <| Zf rfl (fun h44 => ?_) (fun h44 => ?_)
 ·replace h44 := dt h44
  have h44n : j < cases.length := by omega
  have helw := OCs_len hopw
  rw [rpCs_len, List.length_take] at helw
  have hs1 := Yp _ (List.getElem_mem h44n)
  refine Zj <| Zc <| Zk <| ZC mixed #[0, 1, 0, 4, 0, 28, 60, 124, 0, 0, 1020, 0, 2048, 0, 14336, 30720, 63488, 0, 0, 524284, 1048572, 2097148, 4194303, 8388607, 16777215] 22 [some 55, some 56, some 57, some 58, some 59, some 60, some 61, some 62, some 63, some 64, some 65, some 66, some 67, some 68, some 69, some 70, some 71, some 72, some 73, some 74, some 75, some 76] [] [(10, fun _ _ vw qw => ∃ cs k, vw = .agg ⟨cs⟩ ∧ qw = [k] ∧ OP (rpP sf sg (cases[j].1)) cs k), (19, fun _ _ vw qw => ∃ cs k, vw = .agg ⟨cs⟩ ∧ qw = [k] ∧ OT (rpT sf sg (cases[j].2)) cs k), (21, fun r _ vw qw => ∃ b k, vw = .slice (some ⟨b, 0, none⟩) 1 1 ∧ qw = [k] ∧ Own 56 71 (.slice (some ⟨b, 0, none⟩) 1 1) [((cel (r 10))) ++ ((cel (r 19)))] k ∧ k = (BX b (List.flatten [((cel (r 10))) ++ ((cel (r 19)))]) 56))] rfl (by kernel_rfl) rfl (by kernel_rfl) <| Dq (pp b5 35) (fun _ => ZP rfl rfl) <| Dl1 Ym (At.bx 0 rfl) (ZO ..) <| Dq (pp b1 35) (fun _ => ZP rfl rfl) <| Dl1 Ym (At.bx 8 rfl) (ZO ..) <| DM (fun _ => rfl) ?_
  obtain ⟨b50, o50, cap50, row50, T50, fr50, cs50, hv50, hb50, hs50, hE50⟩ := hcv.get j (by first | assumption | omega | decide | simp)
  obtain ⟨ca50, cb50, rfl, hA50, hB50⟩ := hE50
  refine Dq (pp b50 (o50 + j * 71)) (fun _ => Pu.idx j Tryz.runUnderlying25 Yl hv50 rfl rfl (by first | assumption | omega | decide | simp)) <| Dq (pp b50 (o50 + j * 71)) (fun _ => YE rfl rfl) <| Dl ZQ (At.im hb50) (sub_sub0 hs50 (Y3 (Zz hA50))) <| Dl ZR (At.bx 7 rfl) (Zr rfl) <| Dl ZR (At.bx 6 rfl) (Zr rfl) ?_
  refine Dc rfl Tryz.call48 (fun _ => rfl) (fun hin => patReplR_ct sf sg _ _ _ (RP.mono (Hle.hu _ _) hA50) (by omega)) ?_
  rintro _ _ ⟨cs51, k51, rfl, rfl, hO51⟩
  refine Dq (pp b1 35) (fun _ => ZP rfl rfl) <| Dl1 Ym (At.bx 8 rfl) (ZO ..) <| DM (fun _ => rfl) ?_
  obtain ⟨b52, o52, cap52, row52, T52, fr52, cs52, hv52, hb52, hs52, hE52⟩ := hcv.get j (by first | assumption | omega | decide | simp)
  obtain ⟨ca52, cb52, rfl, hA52, hB52⟩ := hE52
  refine Dq (pp b52 (o52 + j * 71)) (fun _ => Pu.idx j Tryz.runUnderlying25 Yl hv52 rfl rfl (by first | assumption | omega | decide | simp)) <| Dq (pp b52 (o52 + j * 71 + 35)) (fun _ => Y9 rfl rfl) <| Dl Zt (At.im hb52) (sub_sub hs52 (sub_r (Zz hA52) (Zq hB52))) <| Dl ZR (At.bx 7 rfl) (Zr rfl) <| Dl ZR (At.bx 6 rfl) (Zr rfl) ?_
  refine Dc rfl Tryz.call11 (fun _ => rfl) (fun hin => ih' _ (List.getElem_mem h44n) _ _ (RT.mono (Hle.hu _ _) hB52) (by omega)) ?_
  rintro _ _ ⟨cs53, k53, rfl, rfl, hO53⟩
  refine Dq (.agg ⟨cs51 ++ cs53⟩) (fun _ => Pu.build (pv := [(0, .agg ⟨cs51⟩), (1, .agg ⟨cs53⟩)]) (l := cs51 ++ cs53) rfl (bld56_0_1 hO51.len hO53.len)) <| Dr rfl (fun _ => Zs (vs := [.agg ⟨cs51 ++ cs53⟩]) [cs51 ++ cs53] Tryz.runUnderlying25 el56 rfl rfl (by intro e he; simp only [List.mem_cons, List.not_mem_nil, or_false] at he; subst he; exact (ZW hO51.len hO53.len)) rfl (by decide) fun b k h1 h2 => ⟨[k], by rw [Z9 rfl]; exact Sub.refl, b, k, rfl, rfl, h1, h2⟩) (fun _ _ ⟨b54, k54, e1, e2, ho54, hk54⟩ => ?_); subst e1 e2
  refine ZK (M' := [k54, k53, k51, (BX b5 (pkT kind num ((if ZH kind = true ∧ ref = sf then sg else ref)) v w) 27), k3, k4, k1, k2, (BX b4 (pkT 0 0 zS nS nS) 27), (BX b3 (sC sg) 23), (BX b2 (sC sf) 23), (BX b1 (pkT kind num ref ks cv) 27)]) rfl ?_
  show JL _ _ _ [_, _, _] _ _ _
  have hlens55 : ∀ e ∈ ([cs51 ++ cs53] : List (List Value)), List.length e = 71 := by
   intro e he; simp only [List.mem_cons, List.not_mem_nil, or_false] at he
   rcases he with rfl
   ·exact (ZW hO51.len hO53.len)
  have hoks55 : ∀ e ∈ ([cs51 ++ cs53] : List (List Value)), okc e := by
   intro e he; simp only [List.mem_cons, List.not_mem_nil, or_false] at he
   rcases he with rfl
   ·exact (Z6 hO51.ok hO53.ok)
  refine JLr (ZB (i := 4) (n := 1) (es' := [cs51 ++ cs53]) Tryz.runUnderlying25 Tryz.runUnderlying25 (Or.inl rfl) el56 rfl rfl rfl how (fun F w m => Src.row (((At.k 0 rfl (by rw [hk54]; exact List.mem_cons_self))).heap m) (Zr (ZA hlens55))) rfl hlens55 hoks55 (by decide) (by omega) fun v55 k55 ho55 => JLq (pp b5 35) (ZP rfl rfl) <| JLr (Ze 3 (vs := [v55]) (l := pkT kind num ((if ZH kind = true ∧ ref = sf then sg else ref)) v v55) Ym rfl rfl rfl (ZJ ho55.one) rfl (Zi ho55.one Zp) (pkT_s35 ..) <| Zb <| Za <| JLM rfl <| JLn (Pu.inc rfl rfl (by omega)) <| JLA rfl <| Zb <| ⟨_, ?_, (j + 1), v55, (es2 ++ [cs51 ++ cs53]), k55, (k4 ++ (k51 ++ k53)), rfl, rfl, rfl, rfl, rfl, rfl, (Sd (Sub.cons 2 rfl (Sub.cons 2 rfl (Sub.join3 (Sub.cons 2 rfl (Sub.cons 1 rfl (Sk (Sk (Sk (Sk (Sk (Sk (Sk Sub.nil))))))))))))), ?_, ?_, ?_, rfl⟩))
  ·omega
  ·omega
  ·assumption
  rw [rpCs_take sf sg cases j h44n]; exact OCs.snoc hO51 hO53 hopw
 replace h44 := df h44
 have h44n : cases.length ≤ j := by omega
 refine Zy _ rfl <| Zc <| Za <| JLr (Zg Zt rfl (At.bx 0 rfl) (YI ..) <| JLr (Ze 5 (vs := pkT kind num ((if ZH kind = true ∧ ref = sf then sg else ref)) v w) (l := pkT kind num ((if ZH kind = true ∧ ref = sf then sg else ref)) v w) Zt rfl rfl rfl rfl rfl (Z2 hov.one how.one) (Y4 ..) <| Zb <| Zm <| ⟨.agg ⟨pkT kind num ((if ZH kind = true ∧ ref = sf then sg else ref)) v w⟩, [k1 ++ (k2 ++ (k3 ++ k4))], Ret.one rfl (RV.cell Zt rfl (At.bx 5 rfl) (YI ..)), (Sub.join4 (Sd (Sub.cons 2 rfl (Sub.cons 2 rfl (Sk (Sk Sub.nil)))))), ?_⟩))
 rw [rpT]
 rw [List.take_of_length_le h44n] at hopw
 exact ⟨_, _, rfl, rfl, OT_mk.2 ⟨v, w, es, es2, k1, k2, k3, k4, rfl, hk, hn, hov, hopv, how, hopw, rfl, (by rw [rpTs_len]; exact hks.le), (by rw [rpCs_len]; exact hcv.le)⟩⟩
end Go.Proofs.YtfdeibbpfgolcaaGreat.Hs
/-! Walks, printed by a program of this session's own (gen.py). -/
namespace Go.Proofs.YtfdeibbpfgolcaaGreat.Hs
open Go Go.Proofs
set_option maxRecDepth 100000
set_option linter.unusedVariables false
set_option linter.unusedSimpArgs false
attribute [local irreducible] JL J CT wlo DT
theorem patRefs_ct : ∀ (p : Pt) (cs : List Value) (v : Value) (l : List Sm) (k : Zh) (H : Heap), RP H cs p → Own 23 32 v (sms l) k → l.length + sizeP p ≤ 100000 → CT Tryz.prog 94 ⟨[.agg ⟨cs⟩, v]⟩ [k] H (fun r N => ∃ k, N = [k] ∧ Own 23 32 r (sms (rP p l)) k) := by
 intro p
 induction p using Pt.ind with
 | h kind num ref kids ih =>
 intro cs v l k H hp hv hb
 obtain ⟨ks, rfl, hk, hn, hks⟩ := RP_mk.1 hp
 rw [sizeP] at hb
 have hle := hks.le
 refine Zn Tryz.func94 rfl rfl <| Zc <| Za <| JLr (Zo (l := pkP kind num ref ks) rfl rfl fun b1 => JLA rfl <| Zb <| Zc <| Zc <| Za <| JLq (pp b1 0) (Yj rfl rfl) <| JLr (Zd ty3 rfl (At.bx 0 rfl) (YJ ..) <| JLn (Pu.eql rfl rfl) <| Zb ?_))
 refine Zf rfl (fun h2 => ?_) (fun h2 => ?_)
 ·replace h2 := dt h2
  refine Za <| JLm v <| JLq (pp b1 2) (fa54_2 rfl rfl) <| JLr (Zg ZR rfl (At.bx 0 rfl) (pkP_2 ..) <| Jc Tryz.call93 rfl (fun hin => among_ct _ l ref _ (smR.own hv (by omega) (hin 1 _ rfl)) (by omega)) rfl ?_)
  rintro v3 _ ⟨k3, rfl, ho3⟩
  refine JLa v3 <| Zb <| Zc <| Zc <| Za <| JLA rfl <| Zb <| Zk ?_
  have hl0 : Yb l ref = (if kind = 3 then Yb l ref else l) := by rw [if_pos (by assumption)]
  have hal := among_len l ref
  have hll : (Yb l ref).length ≤ l.length + 1 := by exact hal
  refine ZF (fun k ρ M => ∃ (j : Nat) (y : Value) (q1 : Zh) (lj : List Sm), ρ 1 = y ∧ ρ 2 = pp b1 0 ∧ ρ 4 = nS ∧ ρ 5 = iv ((j : Int)) ∧ Sub [q1, (BX b1 (pkP kind num ref ks) 54)] M ∧ j ≤ kids.length ∧ rPs (kids.drop j) lj = rPs kids (if kind = 3 then Yb l ref else l) ∧ lj.length + ZE (kids.drop j) ≤ l.length + 1 + ZE kids ∧ Own 23 32 y (sms lj) q1 ∧ k = kids.length - j) _ ⟨0, v3, k3, Yb l ref, rfl, rfl, rfl, rfl, (Sk (Sk Sub.nil)), Nat.zero_le _, (congrArg (rPs kids) hl0), (by simp only [List.drop_zero]; omega), ho3, rfl⟩ ?_
  rintro _ ρ4 _ ⟨j, y, q1, lj, e5, e6, e7, e8, hm9, hj, hinv, hlj, hown, rfl⟩
  obtain ⟨ρ10, rfl⟩ := Zu (uc e5 (uc e6 (uc e7 (uc e8 un))))
  clear e5 e6 e7 e8
  refine ZI hm9 <| Zc <| Zc <| Za <| JLM rfl <| JLq (pp b1 34) (ZX rfl rfl) <| JLr (Zd Yz rfl (At.bx 1 rfl) (Z3 ..) ?_)
  obtain ⟨a11, cap11, hv11⟩ := hks.sl
  have hle11 := hks.le
  refine JLn (Pu.lenSl Tryz.runUnderlying52 hv11) <| JLn (Pu.lss rfl rfl) <| Zb <| Zf rfl (fun h12 => ?_) (fun h12 => ?_)
  ·replace h12 := dt h12
   have h12n : j < kids.length := by omega
   have hs2 : ZE (kids.drop j) = sizeP kids[j] + ZE (kids.drop (j + 1)) := by rw [ZT h12n, ZE]
   have hs3 := rP_len kids[j] lj
   refine Zj <| Zc <| Zk <| Za <| JLq (pp b1 34) (ZX rfl rfl) <| JLr (Zd Yz rfl (At.bx 1 rfl) (Z3 ..) <| JLM rfl ?_)
   obtain ⟨b13, o13, cap13, row13, T13, fr13, cs13, hv13, hb13, hs13, hE13⟩ := hks.get j (by first | assumption | omega | decide | simp)
   refine JLq (pp b13 (o13 + j * 35)) (Pu.idx j Tryz.runUnderlying52 ZQ hv13 rfl rfl (by first | assumption | omega | decide | simp)) <| JLr (Zg ZQ rfl (At.im hb13) hs13 <| JLm y <| Zw 0 rfl Tryz.call94 rfl rfl (fun hin => ih _ (List.getElem_mem h12n) _ _ _ _ _ (RP.mono (Hle.hu _ _) hE13) hown (by omega)) rfl ?_)
   rintro v14 _ ⟨k14, rfl, ho14⟩
   refine JLa v14 <| Zb <| Za <| JLM rfl <| JLn (Pu.inc rfl rfl (by omega)) <| JLA rfl <| Zb <| ⟨_, ?_, (j + 1), v14, k14, (rP (kids[j]) lj), rfl, rfl, rfl, rfl, (Sk (Sk Sub.nil)), ?_, ?_, ?_, ?_, rfl⟩
   ·omega
   ·omega
   ·rw [ZT h12n, rPs] at hinv; exact hinv
   ·omega
   exact ho14
  replace h12 := df h12
  have h12n : kids.length ≤ j := by omega
  refine Zy _ rfl <| Zc <| Za <| JLm y <| JLa y <| Zb <| Zm <| ⟨y, [q1], Ret.one rfl (RV.tmp rfl), (Sk Sub.nil), ?_⟩
  rw [YL h12n, rPs] at hinv
  exact ⟨_, rfl, by rw [rP, ← hinv]; exact hown⟩
 replace h2 := df h2
 refine Zj <| Zc <| Zc <| Za <| JLA rfl <| Zb <| Zk ?_
 have hl0 : l = (if kind = 3 then Yb l ref else l) := by rw [if_neg (by assumption)]
 have hal := among_len l ref
 have hll : l.length ≤ l.length + 1 := by omega
 refine ZF (fun k ρ M => ∃ (j : Nat) (y : Value) (q1 : Zh) (lj : List Sm), ρ 1 = y ∧ ρ 2 = pp b1 0 ∧ ρ 4 = nS ∧ ρ 5 = iv ((j : Int)) ∧ Sub [q1, (BX b1 (pkP kind num ref ks) 54)] M ∧ j ≤ kids.length ∧ rPs (kids.drop j) lj = rPs kids (if kind = 3 then Yb l ref else l) ∧ lj.length + ZE (kids.drop j) ≤ l.length + 1 + ZE kids ∧ Own 23 32 y (sms lj) q1 ∧ k = kids.length - j) _ ⟨0, v, k, l, rfl, rfl, rfl, rfl, (Sub.cons 1 rfl (Sk Sub.nil)), Nat.zero_le _, (congrArg (rPs kids) hl0), (by simp only [List.drop_zero]; omega), hv, rfl⟩ ?_
 rintro _ ρ15 _ ⟨j, y, q1, lj, e16, e17, e18, e19, hm20, hj, hinv, hlj, hown, rfl⟩
 obtain ⟨ρ21, rfl⟩ := Zu (uc e16 (uc e17 (uc e18 (uc e19 un))))
 clear e16 e17 e18 e19
 refine ZI hm20 <| Zc <| Zc <| Za <| JLM rfl <| JLq (pp b1 34) (ZX rfl rfl) <| JLr (Zd Yz rfl (At.bx 1 rfl) (Z3 ..) ?_)
 obtain ⟨a22, cap22, hv22⟩ := hks.sl
 have hle22 := hks.le
 refine JLn (Pu.lenSl Tryz.runUnderlying52 hv22) <| JLn (Pu.lss rfl rfl) <| Zb <| Zf rfl (fun h23 => ?_) (fun h23 => ?_)
 ·replace h23 := dt h23
  have h23n : j < kids.length := by omega
  have hs2 : ZE (kids.drop j) = sizeP kids[j] + ZE (kids.drop (j + 1)) := by rw [ZT h23n, ZE]
  have hs3 := rP_len kids[j] lj
  refine Zj <| Zc <| Zk <| Za <| JLq (pp b1 34) (ZX rfl rfl) <| JLr (Zd Yz rfl (At.bx 1 rfl) (Z3 ..) <| JLM rfl ?_)
  obtain ⟨b24, o24, cap24, row24, T24, fr24, cs24, hv24, hb24, hs24, hE24⟩ := hks.get j (by first | assumption | omega | decide | simp)
  refine JLq (pp b24 (o24 + j * 35)) (Pu.idx j Tryz.runUnderlying52 ZQ hv24 rfl rfl (by first | assumption | omega | decide | simp)) <| JLr (Zg ZQ rfl (At.im hb24) hs24 <| JLm y <| Zw 0 rfl Tryz.call94 rfl rfl (fun hin => ih _ (List.getElem_mem h23n) _ _ _ _ _ (RP.mono (Hle.hu _ _) hE24) hown (by omega)) rfl ?_)
  rintro v25 _ ⟨k25, rfl, ho25⟩
  refine JLa v25 <| Zb <| Za <| JLM rfl <| JLn (Pu.inc rfl rfl (by omega)) <| JLA rfl <| Zb <| ⟨_, ?_, (j + 1), v25, k25, (rP (kids[j]) lj), rfl, rfl, rfl, rfl, (Sk (Sk Sub.nil)), ?_, ?_, ?_, ?_, rfl⟩
  ·omega
  ·omega
  ·rw [ZT h23n, rPs] at hinv; exact hinv
  ·omega
  exact ho25
 replace h23 := df h23
 have h23n : kids.length ≤ j := by omega
 refine Zy _ rfl <| Zc <| Za <| JLm y <| JLa y <| Zb <| Zm <| ⟨y, [q1], Ret.one rfl (RV.tmp rfl), (Sk Sub.nil), ?_⟩
 rw [YL h23n, rPs] at hinv
 exact ⟨_, rfl, by rw [rP, ← hinv]; exact hown⟩
end Go.Proofs.YtfdeibbpfgolcaaGreat.Hs
/-! Walks, printed by a program of this session's own (gen.py). -/
namespace Go.Proofs.YtfdeibbpfgolcaaGreat.Hs
open Go Go.Proofs
set_option maxRecDepth 100000
set_option linter.unusedVariables false
set_option linter.unusedSimpArgs false
attribute [local irreducible] JL J CT wlo DT
set_option maxHeartbeats 2000000 in
theorem refs3_ct : ∀ (t : Tm) (cs : List Value) (l : L3) (va vb vc : Value) (ka kb kc : Zh) (H : Heap), RT H cs t → Own 23 32 va (sms (l.a)) ka → Own 23 32 vb (sms (l.b)) kb → Own 23 32 vc (sms (l.c)) kc → YB l + sizeT t ≤ 100000 → CT Tryz.prog 46 ⟨[.agg ⟨cs⟩, .agg ⟨[va, vb, vc]⟩]⟩ [ka ++ (kb ++ kc)] H (fun r N => ∃ va vb vc ka kb kc, r = .agg ⟨[va, vb, vc]⟩ ∧ N = [ka ++ (kb ++ kc)] ∧ Own 23 32 va (sms ((rT t l).a)) ka ∧ Own 23 32 vb (sms ((rT t l).b)) kb ∧ Own 23 32 vc (sms ((rT t l).c)) kc) := by
 intro t
 induction t using Tm.ind with
 | h kind num ref kids cases ih ih' =>
 intro cs l va vb vc ka kb kc H ht ha hb hc hz
 obtain ⟨ks, cv, rfl, hk, hn, hks, hcv⟩ := RT_mk.1 ht
 rw [sizeT] at hz
 have hle := hks.le
 have hla : l.a.length ≤ YB l := by unfold YB; omega
 have hlb : l.b.length ≤ YB l := by unfold YB; omega
 have hlc : l.c.length ≤ YB l := by unfold YB; omega
 refine Zn Tryz.func46 rfl rfl <| ZI (M' := [ka, kb, kc]) (Sub.flat Sub.refl (by simp)) <| Zc <| Za <| JLr (Zo (l := pkT kind num ref ks cv) rfl rfl fun b1 => JLr (Zo (l := [va, vb, vc]) rfl rfl fun b2 => JLr (Zl (l := [nS, nS, nS]) Tryz.zeroValue35 rfl fun b3 => Zb <| Zc <| Zc <| Za <| JLq (pp b1 0) (ZG rfl rfl) <| JLr (Zd ty3 rfl (At.bx 2 rfl) (ZU ..) ?_))))
 refine Zb <| Zk <| Zc <| Za <| JLn (Pu.eql rfl rfl) <| JLA rfl <| Zb <| J_weak (N := fun ρ M => ∃ (ya yb yc : Value) (qa qb qc : Zh), (Own 23 32 ya (sms ((rH kind ref l).a)) qa) ∧ (Own 23 32 yb (sms ((rH kind ref l).b)) qb) ∧ (Own 23 32 yc (sms ((rH kind ref l).c)) qc) ∧ ρ 2 = pp b1 0 ∧ ρ 3 = pp b2 0 ∧ ρ 4 = pp b3 0 ∧ Sub [(BX b2 [ya, yb, yc] 35), qa, qb, qc, (BX b3 [nS, nS, nS] 35), (BX b1 (pkT kind num ref ks cv) 27)] M) ?_ ?_
 ·refine Zf rfl (fun h4 => ?_) (fun h4 => ?_)
  ·replace h4 := dt h4
   refine Za <| JLq (pp b2 0) (Pu.idxA 0 Tryz.runUnderlying35 Yg rfl rfl (by decide) (by decide)) <| JLr (Zd Yg rfl (At.bx 1 rfl) rfl <| JLq (pp b1 2) (Yq rfl rfl) <| JLr (Zg ZR rfl (At.bx 2 rfl) (Y5 ..) <| Jc Tryz.call93 rfl (fun hin => among_ct _ (l.a) ref _ (smR.own ha (by omega) (hin 3 _ rfl)) (by omega)) rfl ?_))
   rintro v5 _ ⟨k5, rfl, ho5⟩
   refine JLq (pp b2 0) (Pu.idxA 0 Tryz.runUnderlying35 Yg rfl rfl (by decide) (by decide)) <| JLr (Ze 2 (vs := [v5]) (l := [v5, vb, vc]) Yg rfl rfl rfl (ZJ ho5.one) rfl (Zi ho5.one Zp) rfl <| Zb ?_)
   exact ⟨v5, vb, vc, k5, kb, kc, (by have z := ho5; simp only [rH]; first | exact z | (rw [if_pos (by first | assumption | omega)]; exact z) | (rw [if_neg (by omega)]; exact z)), (by have z := hb; simp only [rH]; first | exact z | (rw [if_pos (by first | assumption | omega)]; exact z) | (rw [if_neg (by omega)]; exact z)), (by have z := hc; simp only [rH]; first | exact z | (rw [if_pos (by first | assumption | omega)]; exact z) | (rw [if_neg (by omega)]; exact z)), rfl, rfl, rfl, (Sub.cons 2 rfl (Sk (Sub.cons 3 rfl (Sub.cons 3 rfl (Sk (Sk Sub.nil))))))⟩
  replace h4 := df h4
  refine Zc <| Za <| JLn (Pu.eql rfl rfl) <| JLA rfl <| Zb <| Zf rfl (fun h6 => ?_) (fun h6 => ?_)
  ·replace h6 := dt h6
   refine Za <| JLq (pp b2 1) (Pu.idxA 1 Tryz.runUnderlying35 Yg rfl rfl (by decide) (by decide)) <| JLr (Zd Yg rfl (At.bx 1 rfl) rfl <| JLq (pp b1 2) (Yq rfl rfl) <| JLr (Zg ZR rfl (At.bx 2 rfl) (Y5 ..) <| Jc Tryz.call93 rfl (fun hin => among_ct _ (l.b) ref _ (smR.own hb (by omega) (hin 4 _ rfl)) (by omega)) rfl ?_))
   rintro v7 _ ⟨k7, rfl, ho7⟩
   refine JLq (pp b2 1) (Pu.idxA 1 Tryz.runUnderlying35 Yg rfl rfl (by decide) (by decide)) <| JLr (Ze 2 (vs := [v7]) (l := [va, v7, vc]) Yg rfl rfl rfl (ZJ ho7.one) rfl (Zi ho7.one Zp) rfl <| Zb ?_)
   exact ⟨va, v7, vc, ka, k7, kc, (by have z := ha; simp only [rH]; first | exact z | (rw [if_pos (by first | assumption | omega)]; exact z) | (rw [if_neg (by omega)]; exact z)), (by have z := ho7; simp only [rH]; first | exact z | (rw [if_pos (by first | assumption | omega)]; exact z) | (rw [if_neg (by omega)]; exact z)), (by have z := hc; simp only [rH]; first | exact z | (rw [if_pos (by first | assumption | omega)]; exact z) | (rw [if_neg (by omega)]; exact z)), rfl, rfl, rfl, (Sub.cons 2 rfl (Sub.cons 3 rfl (Sk (Sub.cons 3 rfl (Sk (Sk Sub.nil))))))⟩
  replace h6 := df h6
  refine Zc <| Zc <| Za <| JLn (Pu.eql rfl rfl) <| JLA rfl <| Zb <| Zf rfl (fun h8 => ?_) (fun h8 => ?_)
  ·replace h8 := dt h8
   refine Zj <| Zf rfl (fun _ => ?_) (fun h9 => absurd h8 (df h9))
   refine Za <| JLq (pp b2 2) (Pu.idxA 2 Tryz.runUnderlying35 Yg rfl rfl (by decide) (by decide)) <| JLr (Zd Yg rfl (At.bx 1 rfl) rfl <| JLq (pp b1 2) (Yq rfl rfl) <| JLr (Zg ZR rfl (At.bx 2 rfl) (Y5 ..) <| Jc Tryz.call93 rfl (fun hin => among_ct _ (l.c) ref _ (smR.own hc (by omega) (hin 5 _ rfl)) (by omega)) rfl ?_))
   rintro v10 _ ⟨k10, rfl, ho10⟩
   refine JLq (pp b2 2) (Pu.idxA 2 Tryz.runUnderlying35 Yg rfl rfl (by decide) (by decide)) <| JLr (Ze 2 (vs := [v10]) (l := [va, vb, v10]) Yg rfl rfl rfl (ZJ ho10.one) rfl (Zi ho10.one Zp) rfl <| Zb ?_)
   exact ⟨va, vb, v10, ka, kb, k10, (by have z := ha; simp only [rH]; first | exact z | (rw [if_pos (by first | assumption | omega)]; exact z) | (rw [if_neg (by omega)]; exact z)), (by have z := hb; simp only [rH]; first | exact z | (rw [if_pos (by first | assumption | omega)]; exact z) | (rw [if_neg (by omega)]; exact z)), (by have z := ho10; simp only [rH]; first | exact z | (rw [if_pos (by first | assumption | omega)]; exact z) | (rw [if_neg (by omega)]; exact z)), rfl, rfl, rfl, (Sub.cons 2 rfl (Sub.cons 3 rfl (Sub.cons 3 rfl (Sk (Sk (Sk Sub.nil))))))⟩
  replace h8 := df h8
  refine Za <| JLn (Pu.eql rfl rfl) <| JLA rfl <| Zb <| Zf rfl (fun h11 => ?_) (fun h11 => ?_)
  ·replace h11 := dt h11
   refine Za <| JLq (pp b2 2) (Pu.idxA 2 Tryz.runUnderlying35 Yg rfl rfl (by decide) (by decide)) <| JLr (Zd Yg rfl (At.bx 1 rfl) rfl <| JLq (pp b1 2) (Yq rfl rfl) <| JLr (Zg ZR rfl (At.bx 2 rfl) (Y5 ..) <| Jc Tryz.call93 rfl (fun hin => among_ct _ (l.c) ref _ (smR.own hc (by omega) (hin 5 _ rfl)) (by omega)) rfl ?_))
   rintro v12 _ ⟨k12, rfl, ho12⟩
   refine JLq (pp b2 2) (Pu.idxA 2 Tryz.runUnderlying35 Yg rfl rfl (by decide) (by decide)) <| JLr (Ze 2 (vs := [v12]) (l := [va, vb, v12]) Yg rfl rfl rfl (ZJ ho12.one) rfl (Zi ho12.one Zp) rfl <| Zb ?_)
   exact ⟨va, vb, v12, ka, kb, k12, (by have z := ha; simp only [rH]; first | exact z | (rw [if_pos (by first | assumption | omega)]; exact z) | (rw [if_neg (by omega)]; exact z)), (by have z := hb; simp only [rH]; first | exact z | (rw [if_pos (by first | assumption | omega)]; exact z) | (rw [if_neg (by omega)]; exact z)), (by have z := ho12; simp only [rH]; first | exact z | (rw [if_pos (by first | assumption | omega)]; exact z) | (rw [if_neg (by omega)]; exact z)), rfl, rfl, rfl, (Sub.cons 2 rfl (Sub.cons 3 rfl (Sub.cons 3 rfl (Sk (Sk (Sk Sub.nil))))))⟩
  replace h11 := df h11
  refine Zj ?_
  exact ⟨va, vb, vc, ka, kb, kc, (by have z := ha; simp only [rH]; first | exact z | (rw [if_pos (by first | assumption | omega)]; exact z) | (rw [if_neg (by omega)]; exact z)), (by have z := hb; simp only [rH]; first | exact z | (rw [if_pos (by first | assumption | omega)]; exact z) | (rw [if_neg (by omega)]; exact z)), (by have z := hc; simp only [rH]; first | exact z | (rw [if_pos (by first | assumption | omega)]; exact z) | (rw [if_neg (by omega)]; exact z)), rfl, rfl, rfl, (Sub.cons 1 rfl (Sub.cons 2 rfl (Sub.cons 2 rfl (Sub.cons 2 rfl (Sk (Sk Sub.nil))))))⟩
 rintro ρ13 _ ⟨ya, yb, yc, qa, qb, qc, hja, hjb, hjc, e14, e15, e16, hm17⟩
 obtain ⟨ρ18, rfl⟩ := Zu (uc e14 (uc e15 (uc e16 un)))
 clear e14 e15 e16
 refine ZI hm17 <| Zc <| Zc <| Za <| JLA rfl <| Zb <| Zk ?_
 have hl0 := rH_len kind ref l
 refine ZF (fun k ρ M => ∃ (j : Nat) (y1a y1b y1c : Value) (q1a q1b q1c : Zh) (l1 : L3), ρ 2 = pp b1 0 ∧ ρ 3 = pp b2 0 ∧ ρ 4 = pp b3 0 ∧ ρ 5 = iv ((j : Int)) ∧ Sub [(BX b2 [y1a, y1b, y1c] 35), q1a, q1b, q1c, (BX b3 [nS, nS, nS] 35), (BX b1 (pkT kind num ref ks cv) 27)] M ∧ j ≤ kids.length ∧ rTs (kids.drop j) l1 = rTs kids (rH kind ref l) ∧ YB l1 + ZD (kids.drop j) + ZM cases ≤ YB l + 1 + ZD kids + ZM cases ∧ Own 23 32 y1a (sms (l1.a)) q1a ∧ Own 23 32 y1b (sms (l1.b)) q1b ∧ Own 23 32 y1c (sms (l1.c)) q1c ∧ k = kids.length - j) _ ⟨0, ya, yb, yc, qa, qb, qc, (rH kind ref l), rfl, rfl, rfl, rfl, (Sk (Sk (Sk (Sk (Sk (Sk Sub.nil)))))), Nat.zero_le _, rfl, (by simp only [List.drop_zero]; omega), hja, hjb, hjc, rfl⟩ ?_
 rintro _ ρ19 _ ⟨j, y1a, y1b, y1c, q1a, q1b, q1c, l1, e20, e21, e22, e23, hm24, hj, hinv, hlj, h1a, h1b, h1c, rfl⟩
 obtain ⟨ρ25, rfl⟩ := Zu (uc e20 (uc e21 (uc e22 (uc e23 un))))
 clear e20 e21 e22 e23
 refine ZI hm24 <| Zc <| Zc <| Za <| JLM rfl <| JLq (pp b1 34) (ZY rfl rfl) <| JLr (Zd YA rfl (At.bx 5 rfl) (ZV ..) ?_)
 obtain ⟨a26, cap26, hv26⟩ := hks.sl
 have hle26 := hks.le
 refine JLn (Pu.lenSl Tryz.runUnderlying24 hv26) <| JLn (Pu.lss rfl rfl) <| Zb <| Zf rfl (fun h27 => ?_) (fun h27 => ?_)
 ·replace h27 := dt h27
  have h27n : j < kids.length := by omega
  have hs2 : ZD (kids.drop j) = sizeT kids[j] + ZD (kids.drop (j + 1)) := by rw [ZT h27n, ZD]
  have hs3 := rT_len kids[j] l1
  refine Zj <| Zc <| Zk <| ZC mixed #[0, 1, 0, 7, 15, 0, 63, 127] 6 [some 41, some 42, some 43, some 44, some 45, some 46] [] [] rfl (by kernel_rfl) rfl (by kernel_rfl) <| Dq (pp b1 34) (fun _ => ZY rfl rfl) <| Dl1 YA (At.bx 5 rfl) (ZV ..) <| DM (fun _ => rfl) ?_
  obtain ⟨b29, o29, cap29, row29, T29, fr29, cs29, hv29, hb29, hs29, hE29⟩ := hks.get j (by first | assumption | omega | decide | simp)
  refine Dq (pp b29 (o29 + j * 36)) (fun _ => Pu.idx j Tryz.runUnderlying24 Zt hv29 rfl rfl (by first | assumption | omega | decide | simp)) <| Dl Zt (At.im hb29) hs29 <| Dl ty35 (At.bx 0 rfl) rfl <| ZK (M' := [(BX b2 [y1a, y1b, y1c] 35), q1a, q1b, q1c, (BX b3 [nS, nS, nS] 35), (BX b1 (pkT kind num ref ks cv) 27)]) rfl ?_
  show JL _ _ _ [_, _] _ _ _
  refine ZZ (Sub.join3 (Sub.cons 1 rfl (Sub.cons 1 rfl (Sub.cons 1 rfl (Sk (Sk (Sk Sub.nil))))))) <| Zw 0 rfl Tryz.call46 rfl rfl (fun hin => ih _ (List.getElem_mem h27n) _ l1 _ _ _ _ _ _ _ (RT.mono (Hle.hu _ _) hE29) h1a h1b h1c (by first | omega | simpa [YB] using hz | (unfold YB at *; simp only at *; omega))) rfl ?_
  rintro _ _ ⟨v30a, v30b, v30c, k30a, k30b, k30c, rfl, rfl, ho30a, ho30b, ho30c⟩
  refine ZZ (M' := [k30a, k30b, k30c, (BX b2 [y1a, y1b, y1c] 35), (BX b3 [nS, nS, nS] 35), (BX b1 (pkT kind num ref ks cv) 27)]) (Sub.flat Sub.refl (by simp)) <| JLr (Ze 3 (vs := [v30a, v30b, v30c]) (l := [v30a, v30b, v30c]) ty35 rfl rfl rfl rfl rfl (Zi ho30a.one (Zi ho30b.one (Zi ho30c.one Zp))) rfl <| Zb <| Za <| JLM rfl <| JLn (Pu.inc rfl rfl (by omega)) <| JLA rfl <| Zb <| ⟨_, ?_, (j + 1), v30a, v30b, v30c, k30a, k30b, k30c, (rT (kids[j]) l1), rfl, rfl, rfl, rfl, (Sub.cons 3 rfl (Sk (Sk (Sk (Sk (Sk Sub.nil)))))), ?_, ?_, ?_, ?_, ?_, ?_, rfl⟩)
  ·omega
  ·omega
  ·rw [ZT h27n, rTs] at hinv; exact hinv
  ·first | omega | (simp only at *; omega)
  ·exact ho30a
  ·exact ho30b
  exact ho30c
 replace h27 := df h27
 have h27n : kids.length ≤ j := by omega
 refine Zy _ rfl <| Zc <| Zc <| Za <| JLA rfl <| Zb <| Zk ?_
 have hk1 : l1 = rTs kids (rH kind ref l) := by rw [← hinv, YL h27n]; rfl
 refine ZF (fun k ρ M => ∃ (j : Nat) (y2a y2b y2c : Value) (q2a q2b q2c : Zh) (l2 : L3), ρ 2 = pp b1 0 ∧ ρ 3 = pp b2 0 ∧ ρ 4 = pp b3 0 ∧ ρ 6 = iv ((j : Int)) ∧ Sub [(BX b2 [y2a, y2b, y2c] 35), q2a, q2b, q2c, (BX b3 [nS, nS, nS] 35), (BX b1 (pkT kind num ref ks cv) 27)] M ∧ j ≤ cases.length ∧ rCs (cases.drop j) l2 = rCs cases l1 ∧ YB l2 + ZM (cases.drop j) ≤ YB l + 1 + ZD kids + ZM cases ∧ Own 23 32 y2a (sms (l2.a)) q2a ∧ Own 23 32 y2b (sms (l2.b)) q2b ∧ Own 23 32 y2c (sms (l2.c)) q2c ∧ k = cases.length - j) _ ⟨0, y1a, y1b, y1c, q1a, q1b, q1c, l1, rfl, rfl, rfl, rfl, (Sk (Sk (Sk (Sk (Sk (Sk Sub.nil)))))), Nat.zero_le _, rfl, (by simp only [List.drop_zero]; omega), h1a, h1b, h1c, rfl⟩ ?_
 rintro _ ρ31 _ ⟨j, y2a, y2b, y2c, q2a, q2b, q2c, l2, e32, e33, e34, e35, hm36, hj, hinv, hlj, h2a, h2b, h2c, rfl⟩
 obtain ⟨ρ37, rfl⟩ := Zu (uc e32 (uc e33 (uc e34 (uc e35 un))))
 clear e32 e33 e34 e35
 refine ZI hm36 <| Zc <| Zc <| Za <| JLM rfl <| JLq (pp b1 35) (ZP rfl rfl) <| JLr (Zd Ym rfl (At.bx 5 rfl) (ZO ..) ?_)
 obtain ⟨a38, cap38, hv38⟩ := hcv.sl
 have hle38 := hcv.le
 refine JLn (Pu.lenSl Tryz.runUnderlying25 hv38) <| JLn (Pu.lss rfl rfl) <| Zb <| Zf rfl (fun h39 => ?_) (fun h39 => ?_)
 ·replace h39 := dt h39
  have h39n : j < cases.length := by omega
  have hs2 : ZM (cases.drop j) = sizeP cases[j].1 + sizeT cases[j].2 + ZM (cases.drop (j + 1)) := by rw [ZT h39n, ZM]
  have hs4 := rP_len cases[j].1 l2.b
  have hs3 := rT_len cases[j].2 ⟨l2.a, rP cases[j].1 l2.b, l2.c⟩
  have hs5 : YB ⟨l2.a, rP cases[j].1 l2.b, l2.c⟩ ≤ YB l2 + sizeP cases[j].1 := by unfold YB; simp only; omega
  have hs6 : l2.b.length ≤ YB l2 := by unfold YB; omega
  refine Zj <| Zc <| Zk <| Zc <| ZC mixed #[0, 1, 0, 7, 15, 31, 0, 64, 255, 511, 1023] 8 [some 55, some 56, some 57, some 58, some 59, some 60, some 61, some 62] [] [] rfl (by kernel_rfl) rfl (by kernel_rfl) <| Dq (pp b1 35) (fun _ => ZP rfl rfl) <| Dl1 Ym (At.bx 5 rfl) (ZO ..) <| DM (fun _ => rfl) ?_
  obtain ⟨b41, o41, cap41, row41, T41, fr41, cs41, hv41, hb41, hs41, hE41⟩ := hcv.get j (by first | assumption | omega | decide | simp)
  obtain ⟨ca41, cb41, rfl, hA41, hB41⟩ := hE41
  refine Dq (pp b41 (o41 + j * 71)) (fun _ => Pu.idx j Tryz.runUnderlying25 Yl hv41 rfl rfl (by first | assumption | omega | decide | simp)) <| Dq (pp b41 (o41 + j * 71)) (fun _ => YE rfl rfl) <| Dl ZQ (At.im hb41) (sub_sub0 hs41 (Y3 (Zz hA41))) <| Dq (pp b2 1) (fun _ => Pu.idxA 1 Tryz.runUnderlying35 Yg rfl rfl (by decide) (by decide)) <| Dl1 Yg (At.bx 0 rfl) rfl <| ZK (M' := [(BX b2 [y2a, y2b, y2c] 35), q2a, q2b, q2c, (BX b3 [nS, nS, nS] 35), (BX b1 (pkT kind num ref ks cv) 27)]) rfl ?_
  show JL _ _ _ [_, _, _] _ _ _
  refine Zw 2 rfl Tryz.call94 rfl rfl (fun hin => patRefs_ct _ _ _ _ _ _ (RP.mono (Hle.hu _ _) hA41) h2b (by omega)) rfl ?_
  rintro v42 _ ⟨k42, rfl, ho42⟩
  refine JLq (pp b2 1) (Pu.idxA 1 Tryz.runUnderlying35 Yg rfl rfl (by decide) (by decide)) <| JLr (Ze 1 (vs := [v42]) (l := [y2a, v42, y2c]) Yg rfl rfl rfl (ZJ ho42.one) rfl (Zi ho42.one Zp) rfl <| Zb <| ZC mixed #[0, 1, 0, 7, 15, 31, 0, 127, 255] 7 [some 65, some 66, some 67, some 68, some 69, some 70, some 71] [] [] rfl (by kernel_rfl) rfl (by kernel_rfl) <| Dq (pp b1 35) (fun _ => ZP rfl rfl) <| Dl1 Ym (At.bx 5 rfl) (ZO ..) <| DM (fun _ => rfl) ?_)
  obtain ⟨b44, o44, cap44, row44, T44, fr44, cs44, hv44, hb44, hs44, hE44⟩ := hcv.get j (by first | assumption | omega | decide | simp)
  obtain ⟨ca44, cb44, rfl, hA44, hB44⟩ := hE44
  refine Dq (pp b44 (o44 + j * 71)) (fun _ => Pu.idx j Tryz.runUnderlying25 Yl hv44 rfl rfl (by first | assumption | omega | decide | simp)) <| Dq (pp b44 (o44 + j * 71 + 35)) (fun _ => Y9 rfl rfl) <| Dl Zt (At.im hb44) (sub_sub hs44 (sub_r (Zz hA44) (Zq hB44))) <| Dl ty35 (At.bx 1 rfl) rfl <| ZK (M' := [k42, (BX b2 [y2a, v42, y2c] 35), q2a, q2c, (BX b3 [nS, nS, nS] 35), (BX b1 (pkT kind num ref ks cv) 27)]) rfl ?_
  show JL _ _ _ [_, _] _ _ _
  refine ZZ (Sub.join3 (Sub.cons 2 rfl (Sk (Sub.cons 1 rfl (Sk (Sk (Sk Sub.nil))))))) <| Zw 0 rfl Tryz.call46 rfl rfl (fun hin => ih' _ (List.getElem_mem h39n) _ ⟨l2.a, rP (cases[j].1) (l2.b), l2.c⟩ _ _ _ _ _ _ _ (RT.mono (Hle.hu _ _) hB44) h2a ho42 h2c (by first | omega | simpa [YB] using hz | (unfold YB at *; simp only at *; omega))) rfl ?_
  rintro _ _ ⟨v45a, v45b, v45c, k45a, k45b, k45c, rfl, rfl, ho45a, ho45b, ho45c⟩
  refine ZZ (M' := [k45a, k45b, k45c, (BX b2 [y2a, v42, y2c] 35), (BX b3 [nS, nS, nS] 35), (BX b1 (pkT kind num ref ks cv) 27)]) (Sub.flat Sub.refl (by simp)) <| JLr (Ze 3 (vs := [v45a, v45b, v45c]) (l := [v45a, v45b, v45c]) ty35 rfl rfl rfl rfl rfl (Zi ho45a.one (Zi ho45b.one (Zi ho45c.one Zp))) rfl <| Zb <| Za <| JLM rfl <| JLn (Pu.inc rfl rfl (by omega)) <| JLA rfl <| Zb <| ⟨_, ?_, (j + 1), v45a, v45b, v45c, k45a, k45b, k45c, (rT (cases[j].2) ⟨l2.a, rP (cases[j].1) (l2.b), l2.c⟩), rfl, rfl, rfl, rfl, (Sub.cons 3 rfl (Sk (Sk (Sk (Sk (Sk Sub.nil)))))), ?_, ?_, ?_, ?_, ?_, ?_, rfl⟩)
  ·omega
  ·omega
  ·rw [ZT h39n, rCs] at hinv; exact hinv
  ·first | omega | (simp only at *; omega)
  ·exact ho45a
  ·exact ho45b
  exact ho45c
 replace h39 := df h39
 have h39n : cases.length ≤ j := by omega
 refine Zy _ rfl <| Zc <| Za <| JLr (Zg ty35 rfl (At.bx 0 rfl) rfl <| JLr (Ze 4 (vs := [y2a, y2b, y2c]) (l := [y2a, y2b, y2c]) ty35 rfl rfl rfl rfl rfl (Zi h2a.one (Zi h2b.one (Zi h2c.one Zp))) rfl <| Zb <| Zm <| ⟨.agg ⟨[y2a, y2b, y2c]⟩, [q2a ++ (q2b ++ q2c)], Ret.one rfl (RV.cell ty35 rfl (At.bx 4 rfl) rfl), (Sub.join3 (Sd (Sk (Sk (Sk Sub.nil))))), ?_⟩))
 have hz : rT (.mk kind num ref kids cases) l = l2 := by rw [rT, ← hk1, ← hinv, YL h39n]; rfl
 rw [hz]
 exact ⟨_, _, _, _, _, _, rfl, rfl, h2a, h2b, h2c⟩
theorem refsR_ct (t : Tm) (cs : List Value) (H : Heap) (ht : RT H cs t) (hz : sizeT t ≤ 100000) : CT Tryz.prog 10 ⟨[.agg ⟨cs⟩]⟩ [] H (fun r N => ∃ va vb vc ka kb kc, r = .agg ⟨[va, vb, vc]⟩ ∧ N = [ka ++ (kb ++ kc)] ∧ Own 23 32 va (sms ((rT t ⟨[], [], []⟩).a)) ka ∧ Own 23 32 vb (sms ((rT t ⟨[], [], []⟩).b)) kb ∧ Own 23 32 vc (sms ((rT t ⟨[], [], []⟩).c)) kc) := by
 refine Zn Tryz.func10 rfl rfl <| Zc <| Za <| JLr (Zo (l := cs) rfl rfl fun b1 => JLr (Zl (l := [nS, nS, nS]) Tryz.zeroValue35 rfl fun b2 => Zb <| Zc <| Za <| JLr (Zg Zt rfl (At.bx 1 rfl) (Zr (Zq ht)) <| JLq (.agg ⟨[nS, nS, nS]⟩) (Pu.build (pv := []) (l := [nS, nS, nS]) rfl bld35_) <| ZZ (M' := [[] ++ ([] ++ []), (BX b2 [nS, nS, nS] 35), (BX b1 cs 27)]) (Sub.emp Sub.refl) <| Zw 0 rfl Tryz.call46 rfl rfl (fun hin => refs3_ct _ _ ⟨[], [], []⟩ _ _ _ _ _ _ _ (RT.mono (Hle.hu _ _) ht) (show Own _ _ _ (sms []) _ from Own.nil) (show Own _ _ _ (sms []) _ from Own.nil) (show Own _ _ _ (sms []) _ from Own.nil) (by first | omega | simpa [YB] using hz | (unfold YB at *; simp only at *; omega))) rfl ?_)))
 rintro _ _ ⟨v3a, v3b, v3c, k3a, k3b, k3c, rfl, rfl, ho3a, ho3b, ho3c⟩
 refine ZZ (M' := [k3a, k3b, k3c, (BX b2 [nS, nS, nS] 35), (BX b1 cs 27)]) (Sub.flat Sub.refl (by simp)) <| JLr (Ze 3 (vs := [v3a, v3b, v3c]) (l := [v3a, v3b, v3c]) ty35 rfl rfl rfl rfl rfl (Zi ho3a.one (Zi ho3b.one (Zi ho3c.one Zp))) rfl <| Zb <| Zm <| ⟨.agg ⟨[v3a, v3b, v3c]⟩, [k3a ++ (k3b ++ k3c)], Ret.one rfl (RV.cell ty35 rfl (At.bx 3 rfl) rfl), (Sub.join3 (Sk (Sk (Sk Sub.nil)))), ?_⟩)
 exact ⟨_, _, _, _, _, _, rfl, rfl, ho3a, ho3b, ho3c⟩
end Go.Proofs.YtfdeibbpfgolcaaGreat.Hs
/-! What the program's Refs gathers: a map of heads, and three rows of digests. -/
namespace Go.Proofs.YtfdeibbpfgolcaaGreat.Hs
open Go
theorem sel_add {k : Int} {s : Sm} {l : List Hd} (h : ¬ (k, s) ∈ l) : sel k l ++ [s] = sel k (Yy l (k, s)) := by
  rw [Yy, if_neg h, sel_app, sel_one]
theorem sel_add_in {k : Int} {s : Sm} {l : List Hd} (h : (k, s) ∈ l) : sel k l = sel k (Yy l (k, s)) := by rw [Yy, if_pos h]
theorem addH_in {k : Int} {s : Sm} {l : List Hd} (h : (k, s) ∈ l) : l = Yy l (k, s) := by rw [Yy, if_pos h]
theorem Z5 {j k : Int} (s : Sm) (l : List Hd) (h : k ≠ j) : sel j (Yy l (k, s)) = sel j l := by
  unfold Yy
  split
  · rfl
  · rw [sel_app, sel_other s h, List.append_nil]
theorem gP_other {j : Int} (h : (8 : Int) ≠ j) (p : Pt) : ∀ l, sel j (gP p l) = sel j l := by
  induction p using Pt.ind with
  | h k n r kids ih =>
    intro l
    have : ∀ (ps : List Pt), (∀ p ∈ ps, ∀ l, sel j (gP p l) = sel j l) → ∀ l, sel j (gPs ps l) = sel j l := by
      intro ps
      induction ps with
      | nil => intro _ l; rw [gPs]
      | cons p ps ihp => intro h l; rw [gPs, ihp (fun q hq => h q (by simp [hq])), h p (by simp)]
    rw [gP, this kids ih]
    split
    · exact Z5 r l h
    · rfl
theorem Sub.join7 {a b c d e f g : Zh} {R M : List Zh} (h : Sub (a :: b :: c :: d :: e :: f :: g :: R) M) : Sub ((a ++ (b ++ (c ++ (d ++ (e ++ (f ++ g)))))) :: R) M := h.flat (by simp)
structure GS where
  l : List Hd
  v0 : Value
  v1 : Value
  v2 : Value
  k0 : Zh
  k1 : Zh
  k2 : Zh
def gsC (r b0 b1 b2 : Nat) (s : GS) : Zh := (hdC r s.l) ++ ([(b0, .cells ⟨[s.v0]⟩ 34 (0, 0))] ++ (s.k0 ++ ([(b1, .cells ⟨[s.v1]⟩ 34 (0, 0))] ++ (s.k1 ++ ([(b2, .cells ⟨[s.v2]⟩ 34 (0, 0))] ++ s.k2)))))
def gsI (s : GS) : Prop := Own 23 32 s.v0 (sms (sel 6 s.l)) s.k0 ∧ Own 23 32 s.v1 (sms (sel 8 s.l)) s.k1 ∧ Own 23 32 s.v2 (sms (sel 11 s.l)) s.k2
theorem gTs_fold (ts : List Tm) : ∀ l, gTs ts l = ts.foldl (fun l x => gT x l) l := by
  induction ts with
  | nil => intro l; rfl
  | cons t ts ih => intro l; rw [gTs, ih]; rfl
theorem gBs_fold (ts : List (Pt × Tm)) : ∀ l, gBs ts l = ts.foldl (fun l c => gT c.2 l) l := by
  induction ts with
  | nil => intro l; rfl
  | cons t ts ih => intro l; obtain ⟨p, t⟩ := t; rw [gBs, ih]; rfl
theorem gTs_len (ts : List Tm) : ∀ l, (gTs ts l).length ≤ l.length + ZD ts := by
  induction ts with
  | nil => intro l; simp [gTs]
  | cons p ps ih => intro l; rw [gTs, ZD]; have := ih (gT p l); have := gT_len p l; omega
theorem sizeTs_split (ts : List Tm) (j : Nat) (h : j < ts.length) : ZD (ts.take j) + sizeT ts[j] ≤ ZD ts := by
  induction ts generalizing j with
  | nil => cases h
  | cons t ts ih =>
    cases j with
    | zero => simp [ZD]
    | succ j => rw [List.take_succ_cons, ZD, ZD, List.getElem_cons_succ]; have := ih j (by simpa using h); omega
def sizeBs (cs : List (Pt × Tm)) : Nat := (cs.map fun c => sizeT c.2).sum
theorem gBs_len (ts : List (Pt × Tm)) : ∀ l, (gBs ts l).length ≤ l.length + sizeBs ts := by
  induction ts with
  | nil => intro l; simp [gBs]
  | cons p ps ih => obtain ⟨p, t⟩ := p; intro l; rw [gBs]; have := ih (gT t l); have := gT_len t l; simp only [sizeBs, List.map_cons, List.sum_cons] at *; omega
theorem sizeBs_split (ts : List (Pt × Tm)) (j : Nat) (h : j < ts.length) : sizeBs (ts.take j) + sizeT (ts[j]).2 ≤ sizeBs ts := by
  induction ts generalizing j with
  | nil => cases h
  | cons t ts ih =>
    cases j with
    | zero => simp [sizeBs]
    | succ j => rw [List.take_succ_cons]; simp only [sizeBs, List.map_cons, List.sum_cons, List.getElem_cons_succ] at *; have := ih j (by simpa using h); omega
theorem sizeBs_le (cs : List (Pt × Tm)) : sizeBs cs + (cs.map fun c => sizeP c.1).sum = ZM cs := by
  induction cs with
  | nil => rfl
  | cons c cs ih => obtain ⟨p, t⟩ := c; rw [ZM]; simp only [sizeBs, List.map_cons, List.sum_cons] at *; omega
theorem hd0_len (k : Int) (r : Sm) (l : List Hd) : (hd0 k r l).length ≤ l.length + 1 := by
  unfold hd0; split
  · omega
  · exact addH_len _ _
theorem hd0_eq {k : Int} (r : Sm) (l : List Hd) (h : srt k ≠ 0) : hd0 k r l = Yy l (srt k, r) := by rw [hd0, if_neg h]
end Go.Proofs.YtfdeibbpfgolcaaGreat.Hs
/-! Walks, printed by a program of this session's own (gen.py). -/
namespace Go.Proofs.YtfdeibbpfgolcaaGreat.Hs
open Go Go.Proofs
set_option maxRecDepth 100000
set_option linter.unusedVariables false
set_option linter.unusedSimpArgs false
attribute [local irreducible] JL J CT wlo DT
theorem parts1R_ct (kind num : Int) (ref : Sm) (ks cv : Value) (kids : List Tm) (cases : List (Pt × Tm)) (H : Heap) (bT : Nat) (hks : Hs.rdS RT 36 H ks kids) (hcv : Hs.rdS RC 71 H cv cases) (hT : H bT = some (.cells ⟨pkT kind num ref ks cv⟩ 27 (0, 0))) (hsz : ∀ c ∈ cases, binds c.1 ≤ 1000000) (hkl : kids.length ≤ 1000000) (hcl : cases.length ≤ 1000000) (l : Nat) {σ τ : Type} (yc : σ → Zh) (Inv : σ → Prop) (ab : σ → τ) (step : Tm → τ → τ) (Ok : Tm → τ → Prop) (s0 : σ) (h0 : Inv s0) (hKok : ∀ (j : Nat) (hj : j < kids.length), Ok kids[j] ((kids.take j).foldl (fun t x => step x t) (ab s0))) (hCok : ∀ (j : Nat) (hj : j < cases.length), Ok cases[j].2 ((cases.take j).foldl (fun t c => step c.2 t) (kids.foldl (fun t x => step x t) (ab s0)))) (hy : ∀ x s (i mo : Int) a h, Inv s → Ok x (ab s) → Hle H h → RT h a x → YT Tryz.prog l ⟨[iv i, .agg ⟨a ++ [iv mo]⟩]⟩ [yc s] h (fun v N => ∃ s2, v = .bool true ∧ N = [yc s2] ∧ Inv s2 ∧ ab s2 = step x (ab s))) : CT Tryz.prog 95 ⟨[.func (.yield l) ⟨[]⟩ ⟨[]⟩, pp bT 0]⟩ [yc s0] H (fun _ N => ∃ s, N = [yc s] ∧ Inv s ∧ ab s = cases.foldl (fun t c => step c.2 t) (kids.foldl (fun t x => step x t) (ab s0))) := by
 refine Zn Tryz.func95 rfl rfl <| Zc <| Zc <| Za <| JLq (pp bT 34) (ZY rfl rfl) <| JLr (Zd YA rfl (At.im hT) (ZV ..) ?_)
 obtain ⟨a1, cap1, hv1⟩ := hks.sl
 have hle1 := hks.le
 refine JLn (Pu.lenSl Tryz.runUnderlying24 hv1) <| JLM rfl <| Zb <| Zk <| ZF (fun k ρ M => ∃ (j : Nat) (s : σ), ρ 0 = .func (.yield l) ⟨[]⟩ ⟨[]⟩ ∧ ρ 1 = pp bT 0 ∧ ρ 8 = ks ∧ ρ 9 = iv ((kids.length : Int)) ∧ ρ 10 = iv ((j : Int)) ∧ Sub [yc s] M ∧ j ≤ kids.length ∧ Inv s ∧ ab s = (kids.take j).foldl (fun t x => step x t) (ab s0) ∧ k = kids.length - j) _ ⟨0, s0, rfl, rfl, rfl, rfl, rfl, (Sk Sub.nil), Nat.zero_le _, h0, rfl, rfl⟩ ?_
 rintro _ ρ2 _ ⟨j, s, e3, e4, e5, e6, e7, hm8, hj, hs, hab, rfl⟩
 obtain ⟨ρ9, rfl⟩ := Zu (uc e3 (uc e4 (uc e5 (uc e6 (uc e7 un)))))
 clear e3 e4 e5 e6 e7
 refine ZI hm8 ?_
 have hlen := hks.le
 refine Zc <| Za <| JLn (Pu.lss rfl rfl) <| Zb <| Zc <| Zf rfl (fun h10 => ?_) (fun h10 => ?_)
 ·replace h10 := dt h10
  have h10n : j < kids.length := by omega
  refine Zj <| Zc <| Zk <| Zc <| Za <| JLM rfl ?_
  obtain ⟨b11, o11, cap11, row11, T11, fr11, cs11, hv11, hb11, hs11, hE11⟩ := hks.get j (by first | assumption | omega | decide | simp)
  refine JLq (pp b11 (o11 + j * 36)) (Pu.idx j Tryz.runUnderlying24 Zt hv11 rfl rfl (by first | assumption | omega | decide | simp)) <| JLr (Zg Zt rfl (At.im hb11) hs11 <| JLr (Zl (l := pkT 0 0 zS nS nS) Tryz.zeroValue27 rfl fun b12 => JLA rfl <| JLr (Ze 0 (vs := cs11) (l := cs11) Zt rfl rfl rfl rfl (Zq hE11) (YV hE11) (ZL (n := 36) rfl (Zq hE11)) <| Zb <| Zc <| ZC mixed #[0, 0, 0, 0, 8, 0, 56, 124, 255, 511] 8 [some 15, some 16, some 17, some 18, some 19, some 20, some 21, some 22] [] [(6, fun _ _ vw qw => vw = iv (Z4 kind ((j : Int))) ∧ qw = [])] rfl (by kernel_rfl) rfl (by kernel_rfl) <| DM (fun _ => rfl) <| DM (fun _ => rfl) <| Dl Zt (At.bx 0 rfl) (Zr (Zq hE11)) <| Dq (pp bT 0) (fun _ => ZG rfl rfl) <| Dl1 ty3 (At.im hT) (ZU ..) ?_)))
  refine DM (fun _ => rfl) <| Dc rfl Tryz.call96 (fun _ => rfl) (fun hin => more_ct _ _ _) ?_
  rintro _ _ ⟨rfl, rfl⟩
  refine Dq (.agg ⟨cs11 ++ ([iv (Z4 kind ((j : Int)))] : List Value)⟩) (fun _ => Pu.build (pv := [(0, .agg ⟨cs11⟩), (1, iv (Z4 kind ((j : Int))))]) (l := cs11 ++ ([iv (Z4 kind ((j : Int)))] : List Value)) rfl (bld107_0_1 (Zq hE11))) <| ZK (M' := [(BX b12 cs11 27), yc s]) rfl ?_
  show JL _ _ _ [_, _] _ _ _
  refine JL_yield1 1 rfl rfl rfl (fun hin => hy _ _ _ _ _ _ hs (by rw [hab]; exact hKok j h10n) (Hle.hu _ _) (RT.mono (Hle.hu _ _) hE11)) rfl ?_
  rintro _ _ ⟨s13, rfl, rfl, hs13, ha13⟩
  refine JLq (.bool false) (show Pu _ _ _ (.bool (!true)) from Pu.not rfl) <| Zb <| Zf (b := false) rfl (fun h => absurd h (by simp)) (fun _ => Zj <| Za <| JLn (Pu.inc rfl rfl (by omega)) <| JLM rfl <| Zb <| ⟨_, ?_, (j + 1), s13, rfl, rfl, rfl, rfl, rfl, (Sk Sub.nil), ?_, ?_, ?_, rfl⟩)
  ·omega
  ·omega
  ·exact hs13
  rw [ha13, List.take_succ_eq_append_getElem h10n, List.foldl_append, ← hab]; rfl
 replace h10 := df h10
 have h10n : kids.length ≤ j := by omega
 refine Zy _ rfl <| Zc <| Za <| JLq (pp bT 35) (ZP rfl rfl) <| JLr (Zd Ym rfl (At.im hT) (ZO ..) ?_)
 obtain ⟨a14, cap14, hv14⟩ := hcv.sl
 have hle14 := hcv.le
 refine JLn (Pu.lenSl Tryz.runUnderlying25 hv14) <| JLM rfl <| Zb <| Zk <| ZF (fun k ρ M => ∃ (j : Nat) (s2 : σ), ρ 0 = .func (.yield l) ⟨[]⟩ ⟨[]⟩ ∧ ρ 1 = pp bT 0 ∧ ρ 27 = cv ∧ ρ 28 = iv ((cases.length : Int)) ∧ ρ 29 = iv ((j : Int)) ∧ Sub [yc s2] M ∧ j ≤ cases.length ∧ Inv s2 ∧ ab s2 = (cases.take j).foldl (fun t c => step c.2 t) (kids.foldl (fun t x => step x t) (ab s0)) ∧ k = cases.length - j) _ ⟨0, s, rfl, rfl, rfl, rfl, rfl, (Sk Sub.nil), Nat.zero_le _, hs, (by rw [hab, List.take_of_length_le h10n]; rfl), rfl⟩ ?_
 rintro _ ρ15 _ ⟨j, s2, e16, e17, e18, e19, e20, hm21, hj, hs, hab, rfl⟩
 obtain ⟨ρ22, rfl⟩ := Zu (uc e16 (uc e17 (uc e18 (uc e19 (uc e20 un)))))
 clear e16 e17 e18 e19 e20
 refine ZI hm21 ?_
 have hlen := hcv.le
 refine Zc <| Za <| JLn (Pu.lss rfl rfl) <| Zb <| Zc <| Zf rfl (fun h23 => ?_) (fun h23 => ?_)
 ·replace h23 := dt h23
  have h23n : j < cases.length := by omega
  have hbm := hsz _ (List.getElem_mem h23n)
  have hlenk := hks.le
  refine Zj <| Zc <| Zk <| Zc <| Za <| JLM rfl ?_
  obtain ⟨b24, o24, cap24, row24, T24, fr24, cs24, hv24, hb24, hs24, hE24⟩ := hcv.get j (by first | assumption | omega | decide | simp)
  obtain ⟨ca24, cb24, rfl, hA24, hB24⟩ := hE24
  refine JLq (pp b24 (o24 + j * 71)) (Pu.idx j Tryz.runUnderlying25 Yl hv24 rfl rfl (by first | assumption | omega | decide | simp)) <| JLr (Zg Yl rfl (At.im hb24) hs24 <| JLr (Zl (l := (pkP 0 0 zS nS) ++ (pkT 0 0 zS nS nS)) Tryz.zeroValue56 rfl fun b25 => JLA rfl <| JLr (Ze 0 (vs := ca24 ++ cb24) (l := ca24 ++ cb24) Yl rfl rfl rfl rfl (ZW (Zz hA24) (Zq hB24)) (Z6 (RP_ok hA24) (YV hB24)) (ZL (n := 71) rfl (ZW (Zz hA24) (Zq hB24))) <| Zb <| Zc <| ZC mixed #[0, 0, 2, 6, 0, 30, 0, 64, 0, 256, 768, 1984, 4095, 8191] 12 [some 34, some 35, some 36, some 37, some 38, some 39, some 40, some 41, some 42, some 43, some 44, some 45] [] [(10, fun _ _ vw qw => vw = iv ((binds (cases[j].1) : Int)) ∧ qw = [])] rfl (by kernel_rfl) rfl (by kernel_rfl) <| DM (fun _ => rfl) <| Dq (pp bT 34) (fun _ => ZY rfl rfl) <| Dl1 YA (At.im hT) (ZV ..) ?_)))
  obtain ⟨a27, cap27, hv27⟩ := hks.sl
  have hle27 := hks.le
  refine Dn (fun _ => Pu.lenSl Tryz.runUnderlying24 hv27) <| DM (fun _ => rfl) ?_
  refine Dn (fun _ => Pu.add64 rfl rfl (by first | omega | (constructor <;> omega))) <| Dq (pp b25 35) (fun _ => Y9 rfl rfl) <| Dl Zt (At.bx 0 rfl) (sub_r (Zz hA24) (Zq hB24)) <| Dq (pp b25 0) (fun _ => YE rfl rfl) <| Dl ZQ (At.bx 0 rfl) (Y3 (Zz hA24)) ?_
  refine Dc rfl Tryz.call97 (fun _ => rfl) (fun hin => binds_ct _ _ _ (RP.mono (Hle.hu _ _) hA24) (by omega)) ?_
  rintro _ _ ⟨rfl, rfl⟩
  refine Dq (.agg ⟨cb24 ++ ([iv ((binds (cases[j].1) : Int))] : List Value)⟩) (fun _ => Pu.build (pv := [(0, .agg ⟨cb24⟩), (1, iv ((binds (cases[j].1) : Int)))]) (l := cb24 ++ ([iv ((binds (cases[j].1) : Int))] : List Value)) rfl (bld107_0_1 (Zq hB24))) <| ZK (M' := [(BX b25 (ca24 ++ cb24) 56), yc s2]) rfl ?_
  show JL _ _ _ [_, _] _ _ _
  refine JL_yield1 1 rfl rfl rfl (fun hin => hy _ _ _ _ _ _ hs (by rw [hab]; exact hCok j h23n) (Hle.hu _ _) (RT.mono (Hle.hu _ _) hB24)) rfl ?_
  rintro _ _ ⟨s28, rfl, rfl, hs28, ha28⟩
  refine JLq (.bool false) (show Pu _ _ _ (.bool (!true)) from Pu.not rfl) <| Zb <| Zf (b := false) rfl (fun h => absurd h (by simp)) (fun _ => Zj <| Za <| JLn (Pu.inc rfl rfl (by omega)) <| JLM rfl <| Zb <| ⟨_, ?_, (j + 1), s28, rfl, rfl, rfl, rfl, rfl, (Sk Sub.nil), ?_, ?_, ?_, rfl⟩)
  ·omega
  ·omega
  ·exact hs28
  rw [ha28, List.take_succ_eq_append_getElem h23n, List.foldl_append, ← hab]; rfl
 replace h23 := df h23
 have h23n : cases.length ≤ j := by omega
 refine Zy _ rfl <| ⟨.tuple ⟨[]⟩, [yc s2], Ret.none rfl, (Sk Sub.nil), ?_⟩
 exact ⟨_, rfl, hs, by rw [hab, List.take_of_length_le h23n]⟩
end Go.Proofs.YtfdeibbpfgolcaaGreat.Hs
/-! Walks, printed by a program of this session's own (gen.py). -/
namespace Go.Proofs.YtfdeibbpfgolcaaGreat.Hs
open Go Go.Proofs
set_option maxRecDepth 100000
set_option linter.unusedVariables false
set_option linter.unusedSimpArgs false
attribute [local irreducible] JL J CT wlo DT
theorem add_ct (b r bM : Nat) (ks : Int) (s : Sm) (l : List Hd) (v : Value) (k : Zh) (H : Heap) (hM : H bM = some (.cells ⟨[.map (some r)]⟩ 96 (0, 0))) (ho : Own 23 32 v (sms (sel ks l)) k) (hb : l.length ≤ 100000) : CT Tryz.prog 50 ⟨[pp b 0, iv ks, .agg ⟨sC s⟩, pp bM 0]⟩ [(hdC r l) ++ ((BX b [v] 34) ++ k)] H (fun _ N => ∃ v k, N = [(hdC r (Yy l (ks, s))) ++ ((BX b [v] 34) ++ k)] ∧ Own 23 32 v (sms (sel ks (Yy l (ks, s)))) k) := by
 have hsl := sel_len ks l
 refine Zn Tryz.func50 rfl rfl <| ZI (M' := [hdC r l, (BX b [v] 34), k]) (Sub.flat Sub.refl (by simp)) <| Zc <| Za <| JLr (Zo (l := sC s) rfl rfl fun b1 => Zb <| Zc <| Za <| JLM rfl <| JLr (Zg ZR rfl (At.bx 0 rfl) (Zr rfl) <| JLq (.agg ⟨([iv ks]) ++ (sC s)⟩) (Pu.build (pv := [(0, iv ks), (1, .agg ⟨sC s⟩)]) (l := ([iv ks]) ++ (sC s)) rfl (bldHd _ _)) <| JLr (Zl (l := ([iv 0]) ++ (sC zS)) Tryz.zeroValue99 rfl fun b2 => JLr (Ze 0 (vs := ([iv ks]) ++ (sC s)) (l := ([iv ks]) ++ (sC s)) ty99 rfl rfl rfl rfl rfl (Z6 (Zi rfl Zp) (sC_ok _)) (ZL (n := 33) rfl rfl) ?_))))
 refine Zb <| Zc <| Za <| JLr (Zd ty96 rfl (At.im hM) rfl <| JLr (Zg ty99 rfl (At.bx 0 rfl) (Zr rfl) <| JLr (Runs_lookupHd (i := 2) (s := s) Tryz.underlying96 Tryz.zeroValue4 rfl rfl rfl <| JLn (Pu.not rfl) <| Zb <| Zf rfl (fun h3 => ?_) (fun h3 => ?_))))
 ·replace h3 := nt h3
  replace h3 := df h3
  refine Zc <| Za <| JLr (Zd ty96 rfl (At.im hM) rfl <| JLr (Zg ty99 rfl (At.bx 0 rfl) (Zr rfl) <| JLr (Runs_updateHd (i := 2) (s := s) Tryz.underlying96 rfl rfl rfl rfl <| Zb <| ZC mixed #[0, 0, 2, 6, 0, 16, 62, 127, 255] 7 [some 17, some 18, some 19, some 20, some 21, some 22, some 23] [(6, 11)] [(5, fun _ _ vw qw => ∃ b k, vw = .slice (some ⟨b, 0, none⟩) 1 1 ∧ qw = [k] ∧ Own 23 32 (.slice (some ⟨b, 0, none⟩) 1 1) [sC s] k ∧ k = (BX b (List.flatten [sC s]) 23)), (6, fun _ _ vw qw => ∃ k, qw = [k] ∧ Own 23 32 vw (sms (sel ks l) ++ [sC s]) k)] rfl (by kernel_rfl) rfl (by kernel_rfl) <| DM (fun _ => rfl) <| DM (fun _ => rfl) <| Dq (pp b 0) (fun _ => Pu.nilCheck rfl) <| Dl1 Yg (At.bx 3 rfl) rfl <| Dl ZR (At.bx 1 rfl) (Zr rfl) ?_)))
  refine Dr rfl (fun _ => Zs (vs := [.agg ⟨sC s⟩]) [sC s] Tryz.runUnderlying34 el23 rfl rfl (by intro e he; simp only [List.mem_cons, List.not_mem_nil, or_false] at he; subst he; exact rfl) rfl (by decide) fun b k h1 h2 => ⟨[k], by rw [Z9 rfl]; exact Sub.refl, b, k, rfl, rfl, h1, h2⟩) (fun _ _ ⟨b6, k6, e1, e2, ho6, hk6⟩ => ?_); subst e1 e2
  have hlens7 : ∀ e ∈ ([sC s] : List (List Value)), List.length e = 32 := by
   intro e he; simp only [List.mem_cons, List.not_mem_nil, or_false] at he
   rcases he with rfl
   ·exact rfl
  have hoks7 : ∀ e ∈ ([sC s] : List (List Value)), okc e := by
   intro e he; simp only [List.mem_cons, List.not_mem_nil, or_false] at he
   rcases he with rfl
   ·exact (sC_ok _)
  refine Dr rfl (fun _ => ZB (i := 5) (n := 1) (es' := [sC s]) Tryz.runUnderlying34 Tryz.runUnderlying34 (Or.inl rfl) el23 rfl rfl rfl ho (fun F w m => Src.row (((At.k 0 rfl (by rw [hk6]; exact List.mem_cons_self))).heap m) (Zr (ZA hlens7))) rfl hlens7 hoks7 (by decide) (by rw [Z1]; omega) fun v k h1 => ⟨[k], keptE rfl rfl, k, rfl, h1⟩) ?_; rintro v7 _ ⟨k7, rfl, ho7⟩
  rw [← sms_snoc] at ho7
  refine ZK (M' := [k7, k6, (BX b2 (([iv ks]) ++ (sC s)) 99), (BX b1 (sC s) 23), hdC r (Yy l (ks, s)), (BX b [v] 34)]) rfl ?_
  show JL _ _ _ [_, _] _ _ _
  refine JLq (pp b 0) (Pu.nilCheck rfl) <| JLr (Ze 5 (vs := [v7]) (l := [v7]) Yg rfl rfl rfl (ZJ ho7.one) rfl (Zi ho7.one Zp) rfl <| Zb <| ⟨.tuple ⟨[]⟩, [(hdC r (Yy l (ks, s))) ++ (((BX b [v7] 34)) ++ k7)], Ret.none rfl, (Sub.join3 (Sub.cons 4 rfl (Sub.cons 4 rfl (Sk Sub.nil)))), ?_⟩)
  have z := ho7
  rw [sel_add h3] at z
  exact ⟨_, _, rfl, z⟩
 replace h3 := nf h3
 replace h3 := dt h3
 refine Zj <| ⟨.tuple ⟨[]⟩, [(hdC r l) ++ (((BX b [v] 34)) ++ k)], Ret.none rfl, (Sub.join3 (Sd (Sd (Sk (Sk (Sk Sub.nil)))))), ?_⟩
 have z := ho
 rw [sel_add_in h3] at z
 exact ⟨_, _, by rw [← addH_in h3], z⟩
end Go.Proofs.YtfdeibbpfgolcaaGreat.Hs
/-! Walks, printed by a program of this session's own (gen.py). -/
namespace Go.Proofs.YtfdeibbpfgolcaaGreat.Hs
open Go Go.Proofs
set_option maxRecDepth 100000
set_option linter.unusedVariables false
set_option linter.unusedSimpArgs false
attribute [local irreducible] JL J CT wlo DT
theorem pat_ct : ∀ (bd1 r bM bA bQ : Nat) (p : Pt) (cs : List Value) (l : List Hd) (v : Value) (k : Zh) (H : Heap), RP H cs p → Own 23 32 v (sms (sel 8 l)) k → l.length + sizeP p ≤ 100000 → H bM = some (.cells ⟨[.map (some r)]⟩ 96 (0, 0)) → H bA = some (.cells ⟨[.func (.func 50) ⟨[]⟩ ⟨[pp bM 0]⟩]⟩ 100 (0, 0)) → H bQ = some (.cells ⟨[.func (.func 51) ⟨[]⟩ ⟨[pp bA 0, pp bd1 0, pp bQ 0]⟩]⟩ 101 (0, 0)) → CT Tryz.prog 51 ⟨[.agg ⟨cs⟩, pp bA 0, pp bd1 0, pp bQ 0]⟩ [(hdC r l) ++ ((BX bd1 [v] 34) ++ k)] H (fun _ N => ∃ v k, N = [(hdC r (gP p l)) ++ ((BX bd1 [v] 34) ++ k)] ∧ Own 23 32 v (sms (sel 8 (gP p l))) k) := by
 intro bd1 r bM bA bQ p
 induction p using Pt.ind with
 | h kind num ref kids ih =>
 intro cs l v k H hp ho hb hM hA hQ
 obtain ⟨ks, rfl, hk, hn, hks⟩ := RP_mk.1 hp
 rw [sizeP] at hb
 have hle := hks.le
 refine Zn Tryz.func51 rfl rfl <| ZI (M' := [hdC r l, (BX bd1 [v] 34), k]) (Sub.flat Sub.refl (by simp)) <| Zc <| Za <| JLr (Zo (l := pkP kind num ref ks) rfl rfl fun b1 => Zb <| Zc <| Zc <| Za <| JLq (pp b1 0) (Yj rfl rfl) <| JLr (Zd ty3 rfl (At.bx 0 rfl) (YJ ..) <| JLn (Pu.eql rfl rfl) <| Zb ?_))
 refine Zf rfl (fun h2 => ?_) (fun h2 => ?_)
 ·replace h2 := dt h2
  refine Za <| JLr (Zd ty100 rfl (At.im hA) rfl <| JLq (pp b1 2) (fa54_2 rfl rfl) <| JLr (Zg ZR rfl (At.bx 0 rfl) (pkP_2 ..) <| ZZ (Sub.join3 (Sub.cons 1 rfl (Sub.cons 1 rfl (Sub.cons 1 rfl (Sk Sub.nil))))) <| Zw 0 rfl Tryz.call50 rfl rfl (fun hin => add_ct bd1 r bM 8 ref l _ _ _ (Hle.hu _ _ _ _ hM) ho (by omega)) rfl ?_))
  rintro _ _ ⟨v3, k3, rfl, ho3⟩
  refine ZZ (M' := [hdC r (Yy l (8, ref)), (BX bd1 [v3] 34), k3, (BX b1 (pkP kind num ref ks) 54)]) (Sub.flat Sub.refl (by simp)) <| Zb <| Zc <| Za <| JLq (pp b1 34) (ZX rfl rfl) <| JLr (Zd Yz rfl (At.bx 3 rfl) (Z3 ..) ?_)
  obtain ⟨a4, cap4, hv4⟩ := hks.sl
  have hle4 := hks.le
  refine JLn (Pu.lenSl Tryz.runUnderlying52 hv4) <| JLM rfl <| Zb <| Zk ?_
  have hl0 : (Yy l (8, ref)) = (if kind = 3 then Yy l (8, ref) else l) := by rw [if_pos (by assumption)]
  have hal := addH_len l (8, ref)
  have hll : ((Yy l (8, ref))).length ≤ l.length + 1 := by exact hal
  refine ZF (fun k ρ M => ∃ (j : Nat) (y : Value) (q1 : Zh) (lj : List Hd), ρ 3 = pp bQ 0 ∧ ρ 15 = ks ∧ ρ 16 = iv ((kids.length : Int)) ∧ ρ 17 = iv ((j : Int)) ∧ Sub [hdC r lj, (BX bd1 [y] 34), q1, (BX b1 (pkP kind num ref ks) 54)] M ∧ j ≤ kids.length ∧ gPs (kids.drop j) lj = gPs kids (if kind = 3 then Yy l (8, ref) else l) ∧ lj.length + ZE (kids.drop j) ≤ l.length + 1 + ZE kids ∧ Own 23 32 y (sms (sel 8 lj)) q1 ∧ k = kids.length - j) _ ⟨0, v3, k3, (Yy l (8, ref)), rfl, rfl, rfl, rfl, (Sk (Sk (Sk (Sk Sub.nil)))), Nat.zero_le _, (congrArg (gPs kids) hl0), (by simp only [List.drop_zero]; omega), ho3, rfl⟩ ?_
  rintro _ ρ5 _ ⟨j, y, q1, lj, e6, e7, e8, e9, hm10, hj, hinv, hlj, hown, rfl⟩
  obtain ⟨ρ11, rfl⟩ := Zu (uc e6 (uc e7 (uc e8 (uc e9 un))))
  clear e6 e7 e8 e9
  refine ZI hm10 <| Zc <| Za <| JLn (Pu.lss rfl rfl) <| Zb <| Zc <| Zf rfl (fun h12 => ?_) (fun h12 => ?_)
  ·replace h12 := dt h12
   have h12n : j < kids.length := by omega
   have hs2 : ZE (kids.drop j) = sizeP kids[j] + ZE (kids.drop (j + 1)) := by rw [ZT h12n, ZE]
   have hs3 := gP_len kids[j] lj
   refine Zj <| Zc <| Zk <| Zc <| Za ?_
   obtain ⟨b13, o13, cap13, row13, T13, fr13, cs13, hv13, hb13, hs13, hE13⟩ := hks.get j (by first | assumption | omega | decide | simp)
   refine JLq (pp b13 (o13 + j * 35)) (Pu.idx j Tryz.runUnderlying52 ZQ hv13 rfl rfl (by first | assumption | omega | decide | simp)) <| JLr (Zg ZQ rfl (At.im hb13) hs13 <| JLr (Zl (l := pkP 0 0 zS nS) Tryz.zeroValue54 rfl fun b14 => JLr (Ze 0 (vs := cs13) (l := cs13) ZQ rfl rfl rfl rfl (Zz hE13) (RP_ok hE13) (ZL (n := 35) rfl (Zz hE13)) <| Zb <| Za <| JLr (Zd ty101 rfl (At.im hQ) rfl <| JLr (Zg ZQ rfl (At.bx 0 rfl) (Zr (Zz hE13)) <| ZZ (Sub.join3 (Sub.cons 1 rfl (Sub.cons 1 rfl (Sub.cons 1 rfl (Sk (Sk Sub.nil)))))) <| Zw 0 rfl Tryz.call51 rfl rfl (fun hin => ih _ (List.getElem_mem h12n) _ lj _ _ _ (RP.mono (Hle.hu _ _) hE13) hown (by omega) (Hle.hu _ _ _ _ hM) (Hle.hu _ _ _ _ hA) (Hle.hu _ _ _ _ hQ)) rfl ?_)))))
   rintro _ _ ⟨v15, k15, rfl, ho15⟩
   refine ZZ (M' := [hdC r (gP (kids[j]) lj), (BX bd1 [v15] 34), k15, (BX b14 cs13 54), (BX b1 (pkP kind num ref ks) 54)]) (Sub.flat Sub.refl (by simp)) <| Zb <| Za <| JLn (Pu.inc rfl rfl (by omega)) <| JLM rfl <| Zb <| ⟨_, ?_, (j + 1), v15, k15, (gP (kids[j]) lj), rfl, rfl, rfl, rfl, (Sk (Sk (Sk (Sd (Sk Sub.nil))))), ?_, ?_, ?_, ?_, rfl⟩
   ·omega
   ·omega
   ·rw [ZT h12n, gPs] at hinv; exact hinv
   ·omega
   exact ho15
  replace h12 := df h12
  have h12n : kids.length ≤ j := by omega
  refine Zy _ rfl <| ⟨.tuple ⟨[]⟩, [(hdC r lj) ++ (((BX bd1 [y] 34)) ++ q1)], Ret.none rfl, (Sub.join3 (Sk (Sk (Sk Sub.nil)))), ?_⟩
  rw [YL h12n, gPs] at hinv
  rw [gP, ← hinv]
  exact ⟨_, _, rfl, hown⟩
 replace h2 := df h2
 refine Zj <| Zc <| Za <| JLq (pp b1 34) (ZX rfl rfl) <| JLr (Zd Yz rfl (At.bx 0 rfl) (Z3 ..) ?_)
 obtain ⟨a16, cap16, hv16⟩ := hks.sl
 have hle16 := hks.le
 refine JLn (Pu.lenSl Tryz.runUnderlying52 hv16) <| JLM rfl <| Zb <| Zk ?_
 have hl0 : l = (if kind = 3 then Yy l (8, ref) else l) := by rw [if_neg (by assumption)]
 have hal := addH_len l (8, ref)
 have hll : (l).length ≤ l.length + 1 := by omega
 refine ZF (fun k ρ M => ∃ (j : Nat) (y : Value) (q1 : Zh) (lj : List Hd), ρ 3 = pp bQ 0 ∧ ρ 15 = ks ∧ ρ 16 = iv ((kids.length : Int)) ∧ ρ 17 = iv ((j : Int)) ∧ Sub [hdC r lj, (BX bd1 [y] 34), q1, (BX b1 (pkP kind num ref ks) 54)] M ∧ j ≤ kids.length ∧ gPs (kids.drop j) lj = gPs kids (if kind = 3 then Yy l (8, ref) else l) ∧ lj.length + ZE (kids.drop j) ≤ l.length + 1 + ZE kids ∧ Own 23 32 y (sms (sel 8 lj)) q1 ∧ k = kids.length - j) _ ⟨0, v, k, l, rfl, rfl, rfl, rfl, (Sub.cons 1 rfl (Sub.cons 1 rfl (Sub.cons 1 rfl (Sk Sub.nil)))), Nat.zero_le _, (congrArg (gPs kids) hl0), (by simp only [List.drop_zero]; omega), ho, rfl⟩ ?_
 rintro _ ρ17 _ ⟨j, y, q1, lj, e18, e19, e20, e21, hm22, hj, hinv, hlj, hown, rfl⟩
 obtain ⟨ρ23, rfl⟩ := Zu (uc e18 (uc e19 (uc e20 (uc e21 un))))
 clear e18 e19 e20 e21
 refine ZI hm22 <| Zc <| Za <| JLn (Pu.lss rfl rfl) <| Zb <| Zc <| Zf rfl (fun h24 => ?_) (fun h24 => ?_)
 ·replace h24 := dt h24
  have h24n : j < kids.length := by omega
  have hs2 : ZE (kids.drop j) = sizeP kids[j] + ZE (kids.drop (j + 1)) := by rw [ZT h24n, ZE]
  have hs3 := gP_len kids[j] lj
  refine Zj <| Zc <| Zk <| Zc <| Za ?_
  obtain ⟨b25, o25, cap25, row25, T25, fr25, cs25, hv25, hb25, hs25, hE25⟩ := hks.get j (by first | assumption | omega | decide | simp)
  refine JLq (pp b25 (o25 + j * 35)) (Pu.idx j Tryz.runUnderlying52 ZQ hv25 rfl rfl (by first | assumption | omega | decide | simp)) <| JLr (Zg ZQ rfl (At.im hb25) hs25 <| JLr (Zl (l := pkP 0 0 zS nS) Tryz.zeroValue54 rfl fun b26 => JLr (Ze 0 (vs := cs25) (l := cs25) ZQ rfl rfl rfl rfl (Zz hE25) (RP_ok hE25) (ZL (n := 35) rfl (Zz hE25)) <| Zb <| Za <| JLr (Zd ty101 rfl (At.im hQ) rfl <| JLr (Zg ZQ rfl (At.bx 0 rfl) (Zr (Zz hE25)) <| ZZ (Sub.join3 (Sub.cons 1 rfl (Sub.cons 1 rfl (Sub.cons 1 rfl (Sk (Sk Sub.nil)))))) <| Zw 0 rfl Tryz.call51 rfl rfl (fun hin => ih _ (List.getElem_mem h24n) _ lj _ _ _ (RP.mono (Hle.hu _ _) hE25) hown (by omega) (Hle.hu _ _ _ _ hM) (Hle.hu _ _ _ _ hA) (Hle.hu _ _ _ _ hQ)) rfl ?_)))))
  rintro _ _ ⟨v27, k27, rfl, ho27⟩
  refine ZZ (M' := [hdC r (gP (kids[j]) lj), (BX bd1 [v27] 34), k27, (BX b26 cs25 54), (BX b1 (pkP kind num ref ks) 54)]) (Sub.flat Sub.refl (by simp)) <| Zb <| Za <| JLn (Pu.inc rfl rfl (by omega)) <| JLM rfl <| Zb <| ⟨_, ?_, (j + 1), v27, k27, (gP (kids[j]) lj), rfl, rfl, rfl, rfl, (Sk (Sk (Sk (Sd (Sk Sub.nil))))), ?_, ?_, ?_, ?_, rfl⟩
  ·omega
  ·omega
  ·rw [ZT h24n, gPs] at hinv; exact hinv
  ·omega
  exact ho27
 replace h24 := df h24
 have h24n : kids.length ≤ j := by omega
 refine Zy _ rfl <| ⟨.tuple ⟨[]⟩, [(hdC r lj) ++ (((BX bd1 [y] 34)) ++ q1)], Ret.none rfl, (Sub.join3 (Sk (Sk (Sk Sub.nil)))), ?_⟩
 rw [YL h24n, gPs] at hinv
 rw [gP, ← hinv]
 exact ⟨_, _, rfl, hown⟩
end Go.Proofs.YtfdeibbpfgolcaaGreat.Hs
/-! Walks, printed by a program of this session's own (gen.py). -/
namespace Go.Proofs.YtfdeibbpfgolcaaGreat.Hs
open Go Go.Proofs
set_option maxRecDepth 100000
set_option linter.unusedVariables false
set_option linter.unusedSimpArgs false
attribute [local irreducible] JL J CT wlo DT
set_option maxHeartbeats 4000000 in
theorem wlk_ct : ∀ (r bd0 bd1 bd2 bM bA bQ bW : Nat) (t : Tm) (cs : List Value) (s : GS) (H : Heap), RT H cs t → gsI s → s.l.length + sizeT t ≤ 100000 → H bM = some (.cells ⟨[.map (some r)]⟩ 96 (0, 0)) → H bA = some (.cells ⟨[.func (.func 50) ⟨[]⟩ ⟨[pp bM 0]⟩]⟩ 100 (0, 0)) → H bQ = some (.cells ⟨[.func (.func 51) ⟨[]⟩ ⟨[pp bA 0, pp bd1 0, pp bQ 0]⟩]⟩ 101 (0, 0)) → H bW = some (.cells ⟨[.func (.func 52) ⟨[]⟩ ⟨[pp bA 0, pp bd0 0, pp bd1 0, pp bd2 0, pp bQ 0, pp bW 0]⟩]⟩ 102 (0, 0)) → CT Tryz.prog 52 ⟨[.agg ⟨cs⟩, pp bA 0, pp bd0 0, pp bd1 0, pp bd2 0, pp bQ 0, pp bW 0]⟩ [gsC r bd0 bd1 bd2 s] H (fun _ N => ∃ s2, N = [gsC r bd0 bd1 bd2 s2] ∧ gsI s2 ∧ s2.l = gT t s.l) := by
 intro r bd0 bd1 bd2 bM bA bQ bW t
 induction t using Tm.ind with
 | h kind num ref kids cases ih ih' =>
 intro cs s H ht hI hz hM hA hQ hW
 obtain ⟨ks, cv, rfl, hk, hn, hks, hcv⟩ := RT_mk.1 ht
 rw [sizeT] at hz
 have hle := hks.le
 have hzs0 := sizeBs_le cases
 have ihx : ∀ x, (fun (x : Tm) => (∃ (j : Nat) (hj : j < kids.length), x = kids[j]) ∨ ∃ (j : Nat) (hj : j < cases.length), x = cases[j].2) x → ∀ (cs : List Value) (s : GS) (H : Heap), RT H cs x → gsI s → s.l.length + sizeT x ≤ 100000 → H bM = some (.cells ⟨[.map (some r)]⟩ 96 (0, 0)) → H bA = some (.cells ⟨[.func (.func 50) ⟨[]⟩ ⟨[pp bM 0]⟩]⟩ 100 (0, 0)) → H bQ = some (.cells ⟨[.func (.func 51) ⟨[]⟩ ⟨[pp bA 0, pp bd1 0, pp bQ 0]⟩]⟩ 101 (0, 0)) → H bW = some (.cells ⟨[.func (.func 52) ⟨[]⟩ ⟨[pp bA 0, pp bd0 0, pp bd1 0, pp bd2 0, pp bQ 0, pp bW 0]⟩]⟩ 102 (0, 0)) → CT Tryz.prog 52 ⟨[.agg ⟨cs⟩, pp bA 0, pp bd0 0, pp bd1 0, pp bd2 0, pp bQ 0, pp bW 0]⟩ [gsC r bd0 bd1 bd2 s] H (fun _ N => ∃ s2, N = [gsC r bd0 bd1 bd2 s2] ∧ gsI s2 ∧ s2.l = gT x s.l) := by
  rintro x (⟨j, hj, rfl⟩ | ⟨j, hj, rfl⟩)
  ·exact ih _ (List.getElem_mem hj)
  ·exact ih' _ (List.getElem_mem hj)
 refine Zn Tryz.func52 rfl rfl <| ZI (M' := [hdC r (s.l), (BX bd0 [s.v0] 34), s.k0, (BX bd1 [s.v1] 34), s.k1, (BX bd2 [s.v2] 34), s.k2]) (Sub.flat Sub.refl (by simp [gsC])) <| Zc <| Za <| JLr (Zo (l := pkT kind num ref ks cv) rfl rfl fun b1 => Zb <| Zc <| Zc <| Za <| JLq (pp b1 0) (ZG rfl rfl) <| JLr (Zd ty3 rfl (At.bx 0 rfl) (ZU ..) <| Zb <| Zk ?_))
 refine Zc <| Za <| JLn (Pu.eql rfl rfl) <| JLA rfl <| Zb <| J_weak (N := fun ρ M => ∃ (y0 y1 y2 : Value) (q0 q1 q2 : Zh), (Own 23 32 y0 (sms (sel 6 (hd0 kind ref s.l))) q0) ∧ (Own 23 32 y1 (sms (sel 8 (hd0 kind ref s.l))) q1) ∧ (Own 23 32 y2 (sms (sel 11 (hd0 kind ref s.l))) q2) ∧ ρ 5 = pp bQ 0 ∧ ρ 6 = pp bW 0 ∧ ρ 7 = pp b1 0 ∧ Sub [hdC r (hd0 kind ref s.l), (BX bd0 [y0] 34), q0, (BX bd1 [y1] 34), q1, (BX bd2 [y2] 34), q2, (BX b1 (pkT kind num ref ks cv) 27)] M) ?_ ?_
 ·refine Zf rfl (fun h2 => ?_) (fun h2 => ?_)
  ·replace h2 := dt h2
   refine Za <| JLr (Zd ty100 rfl (At.im hA) rfl <| JLq (pp b1 2) (Yq rfl rfl) <| JLr (Zg ZR rfl (At.bx 0 rfl) (Y5 ..) <| ZZ (Sub.join3 (Sub.cons 1 rfl (Sub.cons 1 rfl (Sub.cons 1 rfl (Sk (Sk (Sk (Sk (Sk Sub.nil))))))))) <| Zw 0 rfl Tryz.call50 rfl rfl (fun hin => add_ct bd0 r bM 6 ref (s.l) _ _ _ (Hle.hu _ _ _ _ hM) hI.1 (by omega)) rfl ?_))
   rintro _ _ ⟨v3, k3, rfl, ho3⟩
   refine ZZ (M' := [hdC r (Yy (s.l) (6, ref)), (BX bd0 [v3] 34), k3, (BX b1 (pkT kind num ref ks cv) 27), (BX bd1 [s.v1] 34), s.k1, (BX bd2 [s.v2] 34), s.k2]) (Sub.flat Sub.refl (by simp)) <| Zb ?_
   have hsr : srt kind = 6 := by unfold srt; repeat (first | rfl | rw [if_pos (by first | assumption | omega)] | rw [if_neg (by first | assumption | omega)])
   have hL : (hd0 kind ref s.l) = (Yy (s.l) (6, ref)) := by rw [hd0_eq _ _ (by rw [hsr]; decide), hsr]
   rw [hL]
   exact ⟨v3, s.v1, s.v2, k3, s.k1, s.k2, (by first | exact ho3 | (rw [Z5 _ _ (by decide)]; exact ho3)), (by first | exact hI.2.1 | (rw [Z5 _ _ (by decide)]; exact hI.2.1)), (by first | exact hI.2.2 | (rw [Z5 _ _ (by decide)]; exact hI.2.2)), rfl, rfl, rfl, (Sk (Sk (Sk (Sub.cons 1 rfl (Sub.cons 1 rfl (Sub.cons 1 rfl (Sub.cons 1 rfl (Sk Sub.nil))))))))⟩
  replace h2 := df h2
  refine Zc <| Za <| JLn (Pu.eql rfl rfl) <| JLA rfl <| Zb <| Zf rfl (fun h4 => ?_) (fun h4 => ?_)
  ·replace h4 := dt h4
   refine Za <| JLr (Zd ty100 rfl (At.im hA) rfl <| JLq (pp b1 2) (Yq rfl rfl) <| JLr (Zg ZR rfl (At.bx 0 rfl) (Y5 ..) <| ZZ (Sub.join3 (Sub.cons 1 rfl (Sub.cons 3 rfl (Sub.cons 3 rfl (Sk (Sk (Sk (Sk (Sk Sub.nil))))))))) <| Zw 0 rfl Tryz.call50 rfl rfl (fun hin => add_ct bd1 r bM 8 ref (s.l) _ _ _ (Hle.hu _ _ _ _ hM) hI.2.1 (by omega)) rfl ?_))
   rintro _ _ ⟨v5, k5, rfl, ho5⟩
   refine ZZ (M' := [hdC r (Yy (s.l) (8, ref)), (BX bd1 [v5] 34), k5, (BX b1 (pkT kind num ref ks cv) 27), (BX bd0 [s.v0] 34), s.k0, (BX bd2 [s.v2] 34), s.k2]) (Sub.flat Sub.refl (by simp)) <| Zb ?_
   have hsr : srt kind = 8 := by unfold srt; repeat (first | rfl | rw [if_pos (by first | assumption | omega)] | rw [if_neg (by first | assumption | omega)])
   have hL : (hd0 kind ref s.l) = (Yy (s.l) (8, ref)) := by rw [hd0_eq _ _ (by rw [hsr]; decide), hsr]
   rw [hL]
   exact ⟨s.v0, v5, s.v2, s.k0, k5, s.k2, (by first | exact hI.1 | (rw [Z5 _ _ (by decide)]; exact hI.1)), (by first | exact ho5 | (rw [Z5 _ _ (by decide)]; exact ho5)), (by first | exact hI.2.2 | (rw [Z5 _ _ (by decide)]; exact hI.2.2)), rfl, rfl, rfl, (Sk (Sub.cons 3 rfl (Sub.cons 3 rfl (Sk (Sk (Sub.cons 1 rfl (Sub.cons 1 rfl (Sk Sub.nil))))))))⟩
  replace h4 := df h4
  refine Zc <| Zc <| Za <| JLn (Pu.eql rfl rfl) <| JLA rfl <| Zb <| Zf rfl (fun h6 => ?_) (fun h6 => ?_)
  ·replace h6 := dt h6
   refine Zj <| Zf rfl (fun _ => ?_) (fun h7 => absurd h6 (df h7))
   refine Za <| JLr (Zd ty100 rfl (At.im hA) rfl <| JLq (pp b1 2) (Yq rfl rfl) <| JLr (Zg ZR rfl (At.bx 0 rfl) (Y5 ..) <| ZZ (Sub.join3 (Sub.cons 1 rfl (Sub.cons 5 rfl (Sub.cons 5 rfl (Sk (Sk (Sk (Sk (Sk Sub.nil))))))))) <| Zw 0 rfl Tryz.call50 rfl rfl (fun hin => add_ct bd2 r bM 11 ref (s.l) _ _ _ (Hle.hu _ _ _ _ hM) hI.2.2 (by omega)) rfl ?_))
   rintro _ _ ⟨v8, k8, rfl, ho8⟩
   refine ZZ (M' := [hdC r (Yy (s.l) (11, ref)), (BX bd2 [v8] 34), k8, (BX b1 (pkT kind num ref ks cv) 27), (BX bd0 [s.v0] 34), s.k0, (BX bd1 [s.v1] 34), s.k1]) (Sub.flat Sub.refl (by simp)) <| Zb ?_
   have hsr : srt kind = 11 := by unfold srt; repeat (first | rfl | rw [if_pos (by first | assumption | omega)] | rw [if_neg (by first | assumption | omega)])
   have hL : (hd0 kind ref s.l) = (Yy (s.l) (11, ref)) := by rw [hd0_eq _ _ (by rw [hsr]; decide), hsr]
   rw [hL]
   exact ⟨s.v0, s.v1, v8, s.k0, s.k1, k8, (by first | exact hI.1 | (rw [Z5 _ _ (by decide)]; exact hI.1)), (by first | exact hI.2.1 | (rw [Z5 _ _ (by decide)]; exact hI.2.1)), (by first | exact ho8 | (rw [Z5 _ _ (by decide)]; exact ho8)), rfl, rfl, rfl, (Sk (Sub.cons 3 rfl (Sub.cons 3 rfl (Sub.cons 3 rfl (Sub.cons 3 rfl (Sk (Sk (Sk Sub.nil))))))))⟩
  replace h6 := df h6
  refine Za <| JLn (Pu.eql rfl rfl) <| JLA rfl <| Zb <| Zf rfl (fun h9 => ?_) (fun h9 => ?_)
  ·replace h9 := dt h9
   refine Za <| JLr (Zd ty100 rfl (At.im hA) rfl <| JLq (pp b1 2) (Yq rfl rfl) <| JLr (Zg ZR rfl (At.bx 0 rfl) (Y5 ..) <| ZZ (Sub.join3 (Sub.cons 1 rfl (Sub.cons 5 rfl (Sub.cons 5 rfl (Sk (Sk (Sk (Sk (Sk Sub.nil))))))))) <| Zw 0 rfl Tryz.call50 rfl rfl (fun hin => add_ct bd2 r bM 11 ref (s.l) _ _ _ (Hle.hu _ _ _ _ hM) hI.2.2 (by omega)) rfl ?_))
   rintro _ _ ⟨v10, k10, rfl, ho10⟩
   refine ZZ (M' := [hdC r (Yy (s.l) (11, ref)), (BX bd2 [v10] 34), k10, (BX b1 (pkT kind num ref ks cv) 27), (BX bd0 [s.v0] 34), s.k0, (BX bd1 [s.v1] 34), s.k1]) (Sub.flat Sub.refl (by simp)) <| Zb ?_
   have hsr : srt kind = 11 := by unfold srt; repeat (first | rfl | rw [if_pos (by first | assumption | omega)] | rw [if_neg (by first | assumption | omega)])
   have hL : (hd0 kind ref s.l) = (Yy (s.l) (11, ref)) := by rw [hd0_eq _ _ (by rw [hsr]; decide), hsr]
   rw [hL]
   exact ⟨s.v0, s.v1, v10, s.k0, s.k1, k10, (by first | exact hI.1 | (rw [Z5 _ _ (by decide)]; exact hI.1)), (by first | exact hI.2.1 | (rw [Z5 _ _ (by decide)]; exact hI.2.1)), (by first | exact ho10 | (rw [Z5 _ _ (by decide)]; exact ho10)), rfl, rfl, rfl, (Sk (Sub.cons 3 rfl (Sub.cons 3 rfl (Sub.cons 3 rfl (Sub.cons 3 rfl (Sk (Sk (Sk Sub.nil))))))))⟩
  replace h9 := df h9
  refine Zj ?_
  have hsr : srt kind = 0 := by unfold srt; repeat (first | rfl | rw [if_neg (by first | assumption | omega)])
  have hL : (hd0 kind ref s.l) = (s.l) := by rw [hd0, if_pos hsr]
  rw [hL]
  exact ⟨s.v0, s.v1, s.v2, s.k0, s.k1, s.k2, (by first | exact hI.1 | (rw [Z5 _ _ (by decide)]; exact hI.1)), (by first | exact hI.2.1 | (rw [Z5 _ _ (by decide)]; exact hI.2.1)), (by first | exact hI.2.2 | (rw [Z5 _ _ (by decide)]; exact hI.2.2)), rfl, rfl, rfl, (Sub.cons 1 rfl (Sub.cons 1 rfl (Sub.cons 1 rfl (Sub.cons 1 rfl (Sub.cons 1 rfl (Sub.cons 1 rfl (Sub.cons 1 rfl (Sk Sub.nil))))))))⟩
 rintro ρ11 _ ⟨y0, y1, y2, q0, q1, q2, hj0, hj1, hj2, e12, e13, e14, hm15⟩
 obtain ⟨ρ16, rfl⟩ := Zu (uc e12 (uc e13 (uc e14 un)))
 clear e12 e13 e14
 refine ZI hm15 <| Zc <| Zc <| Za <| JLq (pp b1 35) (ZP rfl rfl) <| JLr (Zd Ym rfl (At.bx 7 rfl) (ZO ..) ?_)
 obtain ⟨a17, cap17, hv17⟩ := hcv.sl
 have hle17 := hcv.le
 refine JLn (Pu.lenSl Tryz.runUnderlying25 hv17) <| JLM rfl <| Zb <| Zk <| ZF (fun k ρ M => ∃ (j : Nat) (y : Value) (qq : Zh) (lj : List Hd), ρ 5 = pp bQ 0 ∧ ρ 6 = pp bW 0 ∧ ρ 7 = pp b1 0 ∧ ρ 34 = cv ∧ ρ 35 = iv ((cases.length : Int)) ∧ ρ 36 = iv ((j : Int)) ∧ Sub [hdC r lj, (BX bd0 [y0] 34), q0, (BX bd1 [y] 34), qq, (BX bd2 [y2] 34), q2, (BX b1 (pkT kind num ref ks cv) 27)] M ∧ j ≤ cases.length ∧ gCp (cases.drop j) lj = gCp cases (hd0 kind ref s.l) ∧ lj.length + ((cases.drop j).map fun c => sizeP c.1).sum ≤ s.l.length + 1 + (cases.map fun c => sizeP c.1).sum ∧ Own 23 32 y (sms (sel 8 lj)) qq ∧ Own 23 32 y0 (sms (sel 6 lj)) q0 ∧ Own 23 32 y2 (sms (sel 11 lj)) q2 ∧ k = cases.length - j) _ ⟨0, y1, q1, (hd0 kind ref s.l), rfl, rfl, rfl, rfl, rfl, rfl, (Sk (Sk (Sk (Sk (Sk (Sk (Sk (Sk Sub.nil)))))))), Nat.zero_le _, rfl, (by have := hd0_len kind ref s.l; simp only [List.drop_zero]; omega), hj1, hj0, hj2, rfl⟩ ?_
 rintro _ ρ18 _ ⟨j, y, qq, lj, e19, e20, e21, e22, e23, e24, hm25, hj, hinv, hlj, hown, how0, how2, rfl⟩
 obtain ⟨ρ26, rfl⟩ := Zu (uc e19 (uc e20 (uc e21 (uc e22 (uc e23 (uc e24 un))))))
 clear e19 e20 e21 e22 e23 e24
 refine ZI hm25 <| Zc <| Za <| JLn (Pu.lss rfl rfl) <| Zb <| Zc <| Zf rfl (fun h27 => ?_) (fun h27 => ?_)
 ·replace h27 := dt h27
  have h27n : j < cases.length := by omega
  have hs2 : ((cases.drop j).map fun c => sizeP c.1).sum = sizeP cases[j].1 + ((cases.drop (j + 1)).map fun c => sizeP c.1).sum := by rw [ZT h27n, List.map_cons, List.sum_cons]
  have hs3 := gP_len cases[j].1 lj
  have hs4 := Yp _ (List.getElem_mem h27n)
  refine Zj <| Zc <| Zk <| Zc <| Za ?_
  obtain ⟨b28, o28, cap28, row28, T28, fr28, cs28, hv28, hb28, hs28, hE28⟩ := hcv.get j (by first | assumption | omega | decide | simp)
  obtain ⟨ca28, cb28, rfl, hA28, hB28⟩ := hE28
  refine JLq (pp b28 (o28 + j * 71)) (Pu.idx j Tryz.runUnderlying25 Yl hv28 rfl rfl (by first | assumption | omega | decide | simp)) <| JLr (Zg Yl rfl (At.im hb28) hs28 <| JLr (Zl (l := (pkP 0 0 zS nS) ++ (pkT 0 0 zS nS nS)) Tryz.zeroValue56 rfl fun b29 => JLr (Ze 0 (vs := ca28 ++ cb28) (l := ca28 ++ cb28) Yl rfl rfl rfl rfl (ZW (Zz hA28) (Zq hB28)) (Z6 (RP_ok hA28) (YV hB28)) (ZL (n := 71) rfl (ZW (Zz hA28) (Zq hB28))) <| Zb <| Za <| JLr (Zd ty101 rfl (At.im hQ) rfl <| JLq (pp b29 0) (YE rfl rfl) <| JLr (Zg ZQ rfl (At.bx 0 rfl) (Y3 (Zz hA28)) <| ZZ (Sub.join3 (Sub.cons 1 rfl (Sub.cons 3 rfl (Sub.cons 3 rfl (Sk (Sk (Sk (Sk (Sk (Sk Sub.nil)))))))))) <| Zw 0 rfl Tryz.call51 rfl rfl (fun hin => pat_ct bd1 r bM bA bQ _ _ lj _ _ _ (RP.mono (Hle.hu _ _) hA28) hown (by omega) (Hle.hu _ _ _ _ hM) (Hle.hu _ _ _ _ hA) (Hle.hu _ _ _ _ hQ)) rfl ?_)))))
  rintro _ _ ⟨v30, k30, rfl, ho30⟩
  refine ZZ (M' := [hdC r (gP (cases[j].1) lj), (BX bd1 [v30] 34), k30, (BX b29 (ca28 ++ cb28) 56), (BX bd0 [y0] 34), q0, (BX bd2 [y2] 34), q2, (BX b1 (pkT kind num ref ks cv) 27)]) (Sub.flat Sub.refl (by simp)) <| Zb <| Za <| JLn (Pu.inc rfl rfl (by omega)) <| JLM rfl <| Zb <| ⟨_, ?_, (j + 1), v30, k30, (gP (cases[j].1) lj), rfl, rfl, rfl, rfl, rfl, rfl, (Sk (Sub.cons 3 rfl (Sub.cons 3 rfl (Sk (Sk (Sd (Sk (Sk (Sk Sub.nil))))))))), ?_, ?_, ?_, ?_, ?_, ?_, rfl⟩
  ·omega
  ·omega
  ·rw [ZT h27n, gCp] at hinv; exact hinv
  ·omega
  ·exact ho30
  ·rw [gP_other (by decide)]; exact how0
  rw [gP_other (by decide)]; exact how2
 replace h27 := df h27
 have h27n : cases.length ≤ j := by omega
 refine Zy _ rfl <| Zc <| Za <| JLr (Zg Zt rfl (At.bx 7 rfl) (YI ..) <| Jc Tryz.call53 rfl (fun hin => parts_ct _ _ rfl) rfl ?_)
 rintro _ _ ⟨bT31, rfl, rfl⟩
 rw [YL h27n, gCp] at hinv
 have hI1 : gsI (⟨lj, y0, y, y2, q0, qq, q2⟩ : GS) := ⟨how0, hown, how2⟩
 refine ZZ (Sub.join7 (Sub.cons 1 rfl (Sub.cons 1 rfl (Sub.cons 1 rfl (Sub.cons 1 rfl (Sub.cons 1 rfl (Sub.cons 1 rfl (Sub.cons 1 rfl (Sk (Sk Sub.nil)))))))))) <| Zb <| Zk <| J_range (L := [(BX bT31 (pkT kind num ref ks cv) 27), (BX b1 (pkT kind num ref ks cv) 27)]) (fun e : GS => [gsC r bd0 bd1 bd2 e]) (fun _ => false) (⟨lj, y0, y, y2, q0, qq, q2⟩ : GS) (fun s2 => gsI s2 ∧ s2.l = gBs cases (gTs kids lj)) rfl rfl Tryz.call95 (flatten_pick (i := 0) rfl) ?_ ?_ ?_
 ·intro l yc hY hin
  have hzs := sizeBs_le cases
  refine CT.mono (parts1R_ct kind num ref ks cv kids cases _ bT31 (RTs.mono (Hle.hu _ _) hks) (RCs.mono (Hle.hu _ _) hcv) (hin 0 _ rfl _ _ List.mem_cons_self) (fun c hc => by have := Yp c hc; have := binds_le c.1; omega) (by have := len_sizeTs kids; omega) (by have := len_sizeCs cases; omega) l yc gsI GS.l gT (fun x l => (fun (x : Tm) => (∃ (j : Nat) (hj : j < kids.length), x = kids[j]) ∨ ∃ (j : Nat) (hj : j < cases.length), x = cases[j].2) x ∧ l.length + sizeT x ≤ 100000) (⟨lj, y0, y, y2, q0, qq, q2⟩ : GS) hI1 ?_ ?_ ?_) (fun v N ⟨s, h1, h2, h3⟩ => ⟨s, h1, h2, by rw [gBs_fold, gTs_fold]; exact h3⟩)
  ·intro j hj; have e1 := gTs_len (kids.take j) lj; have e2 := sizeTs_split kids j hj; rw [gTs_fold] at e1; refine ⟨.inl ⟨j, hj, rfl⟩, ?_⟩; show (List.foldl (fun l x => gT x l) lj (kids.take j)).length + sizeT kids[j] ≤ 100000; omega
  ·intro j hj; have e1 := gBs_len (cases.take j) (gTs kids lj); have e2 := sizeBs_split cases j hj; have e3 := gTs_len kids lj; rw [gBs_fold, gTs_fold] at e1; rw [gTs_fold] at e3; refine ⟨.inr ⟨j, hj, rfl⟩, ?_⟩; show (List.foldl (fun l c => gT c.2 l) (List.foldl (fun l x => gT x l) lj kids) (cases.take j)).length + sizeT (cases[j]).2 ≤ 100000; omega
  intro x s2 i mo a h hgs hok hh ra
  refine YT.mono (hY s2 [_, _] h (fun s3 => gsI s3 ∧ s3.l = gT x s2.l) rfl rfl (RoundOk.mk ?_)) ?_
  ·show J _ _ _ _ [gsC r bd0 bd1 bd2 s2] _
   refine Za <| JLr (Zl (l := (pkT 0 0 zS nS nS) ++ ([iv 0] : List Value)) Tryz.zeroValue107 rfl fun b32 => JLr (Ze 0 (vs := a ++ ([iv mo] : List Value)) (l := a ++ ([iv mo] : List Value)) ty107 rfl rfl rfl rfl (ZW (Zq ra) rfl) (Z6 (YV ra) (Zi rfl Zp)) (ZL (n := 37) rfl (ZW (Zq ra) rfl)) <| Zb <| Zk <| Za <| JLr (Zd ty102 rfl (At.im (hh _ _ (Hle.hu _ _ _ _ hW))) rfl <| JLq (pp b32 0) (fa107_0 rfl rfl) <| JLr (Zg Zt rfl (At.bx 0 rfl) (Y3 (Zq ra)) <| Zw 1 rfl Tryz.call52 rfl rfl (fun hin => ihx _ hok.1 _ _ _ (RT.mono (Hle.hu _ _) ra) hgs hok.2 (Hle.hu _ _ _ _ (hh _ _ (Hle.hu _ _ _ _ hM))) (Hle.hu _ _ _ _ (hh _ _ (Hle.hu _ _ _ _ hA))) (Hle.hu _ _ _ _ (hh _ _ (Hle.hu _ _ _ _ hQ))) (Hle.hu _ _ _ _ (hh _ _ (Hle.hu _ _ _ _ hW)))) rfl ?_))))
   rintro _ _ ⟨s33, rfl, hI33, hl33⟩
   refine Zb ?_
   exact ⟨s33, rfl, (Sk Sub.nil), hI33, hl33⟩
  rintro v N ⟨s3, rfl, rfl, h1, h2⟩; exact ⟨s3, rfl, rfl, h1, h2⟩
 ·rintro ef ⟨hef, hel⟩ hp
  refine ⟨.tuple ⟨[]⟩, [gsC r bd0 bd1 bd2 ef], Ret.none rfl, (Sk Sub.nil), ?_⟩
  exact ⟨ef, rfl, hef, by rw [gT, hel, hinv]⟩
 intro s _ hp; cases hp
end Go.Proofs.YtfdeibbpfgolcaaGreat.Hs
