import Derived.Test.YtjhenmdcnbaobaaGreatFreef
import Derived.Shelf.Small.Bits
import Derived.Shelf.Strconv.Itoa0
import Derived.Shelf.Sort.Plain
import Derived.Shelf.Slices.Turned
import Derived.Shelf.Slices.Equal
import Derived.Ground.Names2Prog
import Derived.Shelf.Slices.CompactI
import Derived.Shelf.Slices.SearchI
import Derived.Shelf.Slices.Cells
import Derived.Shelf.Slices.In.SortNone
import Derived.Shelf.Slices.Empties2
import Derived.Test.YtjhenmdcnbaobaaGreatProg
namespace Go.Proofs
open Go.Shelf
def Tryz.lays189_ren : Go.Shelf.Ren := ⟨fun | 189 => 18 | 125 => 54 | 257 => 53 | 128 => 93 | 129 => 94 | 294 => 84 | 295 => 85 | 296 => 86 | 297 => 87 | 298 => 88 | 299 => 89 | 216 => 90 | 300 => 91 | 301 => 92 | 328 => 125 | 329 => 126 | 330 => 127 | 331 => 128 | 332 => 129 | 215 => 130 | 343 => 154 | n => n, fun | 28 => 49 | 3 => 3 | 46 => 114 | 0 => 0 | 51 => 158 | 53 => 67 | 4 => 4 | 183 => 151 | 182 => 150 | 131 => 155 | 5 => 5 | 9 => 9 | 218 => 198 | 222 => 202 | 228 => 223 | 229 => 224 | n => n, fun | n => n⟩
theorem Tryz.lays189 : Go.Proofs.Lays.n189 Tryz.prog Tryz.lays189_ren := {
  mixed := by kernel_rfl
  f125 := Tryz.func54.trans (congrArg some (by kernel_rfl))
  f128 := Tryz.func93.trans (congrArg some (by kernel_rfl))
  f129 := Tryz.func94.trans (congrArg some (by kernel_rfl))
  f189 := Tryz.func18.trans (congrArg some (by kernel_rfl))
  f215 := Tryz.func130.trans (congrArg some (by kernel_rfl))
  f216 := Tryz.func90.trans (congrArg some (by kernel_rfl))
  f257 := Tryz.func53.trans (congrArg some (by kernel_rfl))
  f294 := Tryz.func84.trans (congrArg some (by kernel_rfl))
  f295 := Tryz.func85.trans (congrArg some (by kernel_rfl))
  f296 := Tryz.func86.trans (congrArg some (by kernel_rfl))
  f297 := Tryz.func87.trans (congrArg some (by kernel_rfl))
  f298 := Tryz.func88.trans (congrArg some (by kernel_rfl))
  f299 := Tryz.func89.trans (congrArg some (by kernel_rfl))
  f300 := Tryz.func91.trans (congrArg some (by kernel_rfl))
  f301 := Tryz.func92.trans (congrArg some (by kernel_rfl))
  f328 := Tryz.func125.trans (congrArg some (by kernel_rfl))
  f329 := Tryz.func126.trans (congrArg some (by kernel_rfl))
  f330 := Tryz.func127.trans (congrArg some (by kernel_rfl))
  f331 := Tryz.func128.trans (congrArg some (by kernel_rfl))
  f332 := Tryz.func129.trans (congrArg some (by kernel_rfl))
  f343 := Tryz.func154.trans (congrArg some (by kernel_rfl))
  t0 := Tryz.underlying0
  a0 := Tryz.isAgg0
  z0 := Tryz.sizeOf0
  v0 := Tryz.zeroValue0
  t3 := Tryz.underlying3
  a3 := Tryz.isAgg3
  z3 := Tryz.sizeOf3
  v3 := Tryz.zeroValue3
  t4 := Tryz.underlying4
  a4 := Tryz.isAgg4
  z4 := Tryz.sizeOf4
  v4 := Tryz.zeroValue4
  t5 := Tryz.underlying5
  a5 := Tryz.isAgg5
  z5 := Tryz.sizeOf5
  v5 := Tryz.zeroValue5
  t9 := Tryz.underlying9
  a9 := Tryz.isAgg9
  z9 := Tryz.sizeOf9
  v9 := Tryz.zeroValue9
  t28 := Tryz.underlying49
  a28 := Tryz.isAgg49
  z28 := Tryz.sizeOf49
  v28 := Tryz.zeroValue49
  t46 := Tryz.underlying114
  a46 := Tryz.isAgg114
  z46 := Tryz.sizeOf114
  v46 := Tryz.zeroValue114
  t51 := Tryz.underlying158
  a51 := Tryz.isAgg158
  z51 := Tryz.sizeOf158
  v51 := Tryz.zeroValue158
  t53 := Tryz.underlying67
  a53 := Tryz.isAgg67
  z53 := Tryz.sizeOf67
  v53 := Tryz.zeroValue67
  t131 := Tryz.underlying155
  a131 := Tryz.isAgg155
  z131 := Tryz.sizeOf155
  v131 := Tryz.zeroValue155
  t182 := Tryz.underlying150
  a182 := Tryz.isAgg150
  z182 := Tryz.sizeOf150
  v182 := Tryz.zeroValue150
  t183 := Tryz.underlying151
  a183 := Tryz.isAgg151
  z183 := Tryz.sizeOf151
  v183 := Tryz.zeroValue151
  t218 := Tryz.underlying198
  a218 := Tryz.isAgg198
  z218 := Tryz.sizeOf198
  v218 := Tryz.zeroValue198
  t222 := Tryz.underlying202
  a222 := Tryz.isAgg202
  z222 := Tryz.sizeOf202
  v222 := Tryz.zeroValue202
  t228 := Tryz.underlying223
  a228 := Tryz.isAgg223
  z228 := Tryz.sizeOf223
  v228 := Tryz.zeroValue223
  t229 := Tryz.underlying224
  a229 := Tryz.isAgg224
  z229 := Tryz.sizeOf224
  v229 := Tryz.zeroValue224 }
open Go.Sort Go.RowKit in
theorem Tryz.slices_Sort_int (blk off cap : Nat) (zs : List Int) (w : World) (hH : Holds (Value.int .i64) w blk off zs.toArray) (hblk : blk < w.heap.size) (hsz : zs.length < 4611686018427387904) :
    Calls Tryz.prog 18 #[.slice (some ⟨blk, off, none⟩) zs.length cap] w fun e w' =>
      e = .returned (.tuple #[]) ∧ ∃ n os, w' = grow (putRow (Value.int .i64) (Sort.ahead w n) blk off (zs.mergeSort fun x y => decide (x ≤ y)).toArray) os := Any.slices_Sort_int Tryz.lays189 blk off cap zs w hH hblk hsz
def Tryz.laysNm220_ren : Go.Shelf.Ren := ⟨fun | 20 => 22 | n => n, fun | 22 => 49 | 3 => 3 | 4 => 4 | 0 => 0 | n => n, fun | n => n⟩
theorem Tryz.laysNm220 : Go.Proofs.Lays2.n20 Tryz.prog Tryz.laysNm220_ren := {
  mixed := by kernel_rfl
  f20 := Tryz.func22.trans (congrArg some (by kernel_rfl))
  t0 := Tryz.underlying0
  a0 := Tryz.isAgg0
  z0 := Tryz.sizeOf0
  v0 := Tryz.zeroValue0
  t3 := Tryz.underlying3
  a3 := Tryz.isAgg3
  z3 := Tryz.sizeOf3
  v3 := Tryz.zeroValue3
  t4 := Tryz.underlying4
  a4 := Tryz.isAgg4
  z4 := Tryz.sizeOf4
  v4 := Tryz.zeroValue4
  t22 := Tryz.underlying49
  a22 := Tryz.isAgg49
  z22 := Tryz.sizeOf49
  v22 := Tryz.zeroValue49
  i3 := by kernel_rfl }
open Go.RowKit Go.Lib Go.Sort in
theorem Tryz.slices_Compact_int (blk off cap : Nat) (zs : List Int) (w : World) (hH : Holds (Value.int .i64) w blk off zs.toArray) (hsz : zs.length ≤ 9223372036854775807) (hcap : zs.length ≤ cap) :
    Calls Tryz.prog 22 #[.slice (some ⟨blk, off, none⟩) zs.length cap] w fun e w' => e = .returned (.slice (some ⟨blk, off, none⟩) (Lib.compact zs).length cap) ∧ ∃ q, w' = putRow (Value.int .i64) (Sort.ahead w q) blk off (Lib.compact zs ++ List.replicate (zs.length - (Lib.compact zs).length) 0).toArray := Any.slices_Compact_int Tryz.laysNm220 blk off cap zs w hH hsz hcap
open Go.RowKit Go.Lib Go.Sort in
theorem Tryz.slices_Compact_int_empty (a : Option Addr) (cap : Nat) (w : World) :
    Calls Tryz.prog 22 #[.slice a 0 cap] w fun e w' => e = .returned (.slice a 0 cap) ∧ w' = w := Any.slices_Compact_int_empty Tryz.laysNm220 a cap w
open Go.RowKit Go.Sort in
theorem Tryz.slices_Sort_int_none (p : Option Addr) (cap : Nat) (w : World) :
    Calls Tryz.prog 18 #[.slice p 0 cap] w fun e w' => e = .returned (.tuple #[]) ∧ w' = w := Any.slices_Sort_int_none Tryz.lays189 p cap w

end Go.Proofs
/-! Layer 4, the YU law, second part: what the mapper makes is what the reference makes. No program here. -/
namespace Go.Proofs.YtjhenmdcnbaobaaGreat.Hs
open Go

theorem mapP_id (p : Pt) : mapP (fun s => s) p = p := by
  induction p using Pt.ind with
  | h k n r kids ih =>
    rw [mapP]
    congr 1
    clear k n r
    induction kids with
    | nil => rfl
    | cons p l ih' => rw [mapPs, ih p (by simp), ih' (fun x hx => ih x (by simp [hx]))]

end Go.Proofs.YtjhenmdcnbaobaaGreat.Hs
/-! Owned trees taken apart, one element after the other. -/
namespace Go.Proofs.YtjhenmdcnbaobaaGreat.Hs
open Go
theorem Own.at' {T : TypeId} {sz : Nat} {v : Value} {es : List (List Value)} {k : Zf} (o : Own T sz v es k) {j : Nat} {e : List Value} (he : es[j]? = some e) :
    ∃ b cap row, v = .slice (some ⟨b, 0, none⟩) es.length cap ∧ (b, Obj.cells ⟨row⟩ T (0, 0)) ∈ k ∧ sub row (0 + j * sz) sz = some e := by
  obtain ⟨hj, rfl⟩ := List.getElem?_eq_some_iff.1 he
  exact o.at hj
theorem OTs.take {l : List Tm} {es : List (List Value)} {c : Zf} {j : Nat} (h : OTs (l.drop j) (es.drop j) c) (hj : j < l.length) :
    ∃ e k c', es[j]? = some e ∧ OT l[j] e k ∧ c = k ++ c' ∧ ∀ x, OTs (l.drop (j + 1)) ((es.set j x).drop (j + 1)) c' := by
  rw [List.drop_eq_getElem_cons hj, OTs] at h
  obtain ⟨e, es', k, c', h1, h2, h3, h4⟩ := h
  have hj' : es[j]? = some e := by
    have := congrArg (fun l => l[0]?) h1
    simpa [List.getElem?_drop] using this
  refine ⟨e, k, c', hj', h2, h4, fun x => ?_⟩
  rw [List.drop_set_of_lt (by omega)]
  have : es.drop (j + 1) = es' := by rw [← List.drop_drop, h1]; rfl
  rw [this]; exact h3
theorem OCs.take {l : List (Pt × Tm)} {es : List (List Value)} {c : Zf} {j : Nat} (h : OCs (l.drop j) (es.drop j) c) (hj : j < l.length) :
    ∃ kk n r ks b esp q kp1 kp2 kb c', es[j]? = some (pkP kk n r ks ++ b) ∧ Own 85 35 ks esp kp1 ∧ esp.length = q ∧ q ≤ 9223372036854775807 ∧ OT l[j].2 b kb ∧ c = (kp1 ++ kp2) ++ (kb ++ c') ∧ ∀ x, OCs (l.drop (j + 1)) ((es.set j x).drop (j + 1)) c' := by
  rw [List.drop_eq_getElem_cons hj] at h
  cases hlj : l[j] with
  | mk p t =>
    rw [hlj, OCs] at h
    obtain ⟨a, b, es', ka, kb, c', h1, h2, h3, h4, h5⟩ := h
    obtain ⟨kk, n, r, kids⟩ := p
    obtain ⟨ks, esp, kp1, kp2, rfl, _, _, h6, h7, rfl, h8⟩ := OP_mk.1 h2
    have hj' : es[j]? = some (pkP kk n r ks ++ b) := by
      have := congrArg (fun l => l[0]?) h1
      simpa [List.getElem?_drop] using this
    refine ⟨kk, n, r, ks, b, esp, esp.length, kp1, kp2, kb, c', hj', h6, rfl, by rw [OPs_len h7]; exact h8, h3, h5, fun x => ?_⟩
    rw [List.drop_set_of_lt (by omega)]
    have : es.drop (j + 1) = es' := by rw [← List.drop_drop, h1]; rfl
    rw [this]; exact h4
end Go.Proofs.YtjhenmdcnbaobaaGreat.Hs
