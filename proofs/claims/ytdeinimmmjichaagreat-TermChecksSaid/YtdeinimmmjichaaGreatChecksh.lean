import Derived.Test.YtdeinimmmjichaaGreatChecksg
import Derived.Test.YtdeinimmmjichaaGreatProg
/-! The types of the program, as the rules need them: printed by a program of this session's own (types.py). -/
namespace Go.Proofs.YtdeinimmmjichaaGreat.Hs
open Go Go.Proofs
set_option maxRecDepth 100000
theorem ty3 : Ty Tryz.prog 3 false 1 := ⟨Tryz.isAgg3, Tryz.sizeOf3⟩
theorem ty4 : Ty Tryz.prog 4 false 1 := ⟨Tryz.isAgg4, Tryz.sizeOf4⟩
theorem ty9 : Ty Tryz.prog 9 false 1 := ⟨Tryz.isAgg9, Tryz.sizeOf9⟩
theorem ty23 : Ty Tryz.prog 23 true 32 := ⟨Tryz.isAgg23, Tryz.sizeOf23⟩
theorem ty24 : Ty Tryz.prog 24 false 1 := ⟨Tryz.isAgg24, Tryz.sizeOf24⟩
theorem ty25 : Ty Tryz.prog 25 false 1 := ⟨Tryz.isAgg25, Tryz.sizeOf25⟩
theorem ty27 : Ty Tryz.prog 27 true 36 := ⟨Tryz.isAgg27, Tryz.sizeOf27⟩
theorem ty28 : Ty Tryz.prog 28 false 1 := ⟨Tryz.isAgg28, Tryz.sizeOf28⟩
theorem ty30 : Ty Tryz.prog 30 true 35 := ⟨Tryz.isAgg30, Tryz.sizeOf30⟩
theorem ty34 : Ty Tryz.prog 34 true 71 := ⟨Tryz.isAgg34, Tryz.sizeOf34⟩
theorem ty36 : Ty Tryz.prog 36 false 1 := ⟨Tryz.isAgg36, Tryz.sizeOf36⟩
theorem ty40 : Ty Tryz.prog 40 false 1 := ⟨Tryz.isAgg40, Tryz.sizeOf40⟩
theorem ty63 : Ty Tryz.prog 63 false 1 := ⟨Tryz.isAgg63, Tryz.sizeOf63⟩
theorem ty71 : Ty Tryz.prog 71 false 1 := ⟨Tryz.isAgg71, Tryz.sizeOf71⟩
theorem ty72 : Ty Tryz.prog 72 false 1 := ⟨Tryz.isAgg72, Tryz.sizeOf72⟩
theorem ty75 : Ty Tryz.prog 75 true 37 := ⟨Tryz.isAgg75, Tryz.sizeOf75⟩
theorem ty86 : Ty Tryz.prog 86 false 1 := ⟨Tryz.isAgg86, Tryz.sizeOf86⟩
theorem ty90 : Ty Tryz.prog 90 false 1 := ⟨Tryz.isAgg90, Tryz.sizeOf90⟩
theorem ty92 : Ty Tryz.prog 92 true 2 := ⟨Tryz.isAgg92, Tryz.sizeOf92⟩
theorem ty105 : Ty Tryz.prog 105 true 37 := ⟨Tryz.isAgg105, Tryz.sizeOf105⟩
theorem ty115 : Ty Tryz.prog 115 false 1 := ⟨Tryz.isAgg115, Tryz.sizeOf115⟩
theorem ty116 : Ty Tryz.prog 116 false 1 := ⟨Tryz.isAgg116, Tryz.sizeOf116⟩
theorem ty118 : Ty Tryz.prog 118 true 2 := ⟨Tryz.isAgg118, Tryz.sizeOf118⟩
theorem ty121 : Ty Tryz.prog 121 false 1 := ⟨Tryz.isAgg121, Tryz.sizeOf121⟩
theorem ty124 : Ty Tryz.prog 124 false 1 := ⟨Tryz.isAgg124, Tryz.sizeOf124⟩
theorem ty127 : Ty Tryz.prog 127 false 1 := ⟨Tryz.isAgg127, Tryz.sizeOf127⟩
theorem ty141 : Ty Tryz.prog 141 true 3 := ⟨Tryz.isAgg141, Tryz.sizeOf141⟩
theorem fa27_0 {e : Operand → Value} {d : Option Nat} {ot : TypeId} {pos : String} {af : Array Edge} {g : Option (Nat × Bool)} {x : Operand} {b o q : Nat} (hx : e x = .pointer (some ⟨b, o, none⟩)) (ho : o + 0 = q) : Pu Tryz.prog e ⟨d, .fieldAddr 27 x 0, ot, pos, af, g⟩ (.pointer (some ⟨b, q, none⟩)) := Pu.fieldAddr Tryz.runUnderlying27 rfl ty3 hx ho
theorem fa27_1 {e : Operand → Value} {d : Option Nat} {ot : TypeId} {pos : String} {af : Array Edge} {g : Option (Nat × Bool)} {x : Operand} {b o q : Nat} (hx : e x = .pointer (some ⟨b, o, none⟩)) (ho : o + 1 = q) : Pu Tryz.prog e ⟨d, .fieldAddr 27 x 1, ot, pos, af, g⟩ (.pointer (some ⟨b, q, none⟩)) := Pu.fieldAddr Tryz.runUnderlying27 rfl ty3 hx ho
theorem fa27_2 {e : Operand → Value} {d : Option Nat} {ot : TypeId} {pos : String} {af : Array Edge} {g : Option (Nat × Bool)} {x : Operand} {b o q : Nat} (hx : e x = .pointer (some ⟨b, o, none⟩)) (ho : o + 2 = q) : Pu Tryz.prog e ⟨d, .fieldAddr 27 x 2, ot, pos, af, g⟩ (.pointer (some ⟨b, q, none⟩)) := Pu.fieldAddr Tryz.runUnderlying27 rfl ty23 hx ho
theorem fa27_3 {e : Operand → Value} {d : Option Nat} {ot : TypeId} {pos : String} {af : Array Edge} {g : Option (Nat × Bool)} {x : Operand} {b o q : Nat} (hx : e x = .pointer (some ⟨b, o, none⟩)) (ho : o + 34 = q) : Pu Tryz.prog e ⟨d, .fieldAddr 27 x 3, ot, pos, af, g⟩ (.pointer (some ⟨b, q, none⟩)) := Pu.fieldAddr Tryz.runUnderlying27 rfl ty24 hx ho
theorem fa27_4 {e : Operand → Value} {d : Option Nat} {ot : TypeId} {pos : String} {af : Array Edge} {g : Option (Nat × Bool)} {x : Operand} {b o q : Nat} (hx : e x = .pointer (some ⟨b, o, none⟩)) (ho : o + 35 = q) : Pu Tryz.prog e ⟨d, .fieldAddr 27 x 4, ot, pos, af, g⟩ (.pointer (some ⟨b, q, none⟩)) := Pu.fieldAddr Tryz.runUnderlying27 rfl ty25 hx ho
theorem fa30_0 {e : Operand → Value} {d : Option Nat} {ot : TypeId} {pos : String} {af : Array Edge} {g : Option (Nat × Bool)} {x : Operand} {b o q : Nat} (hx : e x = .pointer (some ⟨b, o, none⟩)) (ho : o + 0 = q) : Pu Tryz.prog e ⟨d, .fieldAddr 30 x 0, ot, pos, af, g⟩ (.pointer (some ⟨b, q, none⟩)) := Pu.fieldAddr Tryz.runUnderlying30 rfl ty3 hx ho
theorem fa30_1 {e : Operand → Value} {d : Option Nat} {ot : TypeId} {pos : String} {af : Array Edge} {g : Option (Nat × Bool)} {x : Operand} {b o q : Nat} (hx : e x = .pointer (some ⟨b, o, none⟩)) (ho : o + 1 = q) : Pu Tryz.prog e ⟨d, .fieldAddr 30 x 1, ot, pos, af, g⟩ (.pointer (some ⟨b, q, none⟩)) := Pu.fieldAddr Tryz.runUnderlying30 rfl ty3 hx ho
theorem fa30_2 {e : Operand → Value} {d : Option Nat} {ot : TypeId} {pos : String} {af : Array Edge} {g : Option (Nat × Bool)} {x : Operand} {b o q : Nat} (hx : e x = .pointer (some ⟨b, o, none⟩)) (ho : o + 2 = q) : Pu Tryz.prog e ⟨d, .fieldAddr 30 x 2, ot, pos, af, g⟩ (.pointer (some ⟨b, q, none⟩)) := Pu.fieldAddr Tryz.runUnderlying30 rfl ty23 hx ho
theorem fa30_3 {e : Operand → Value} {d : Option Nat} {ot : TypeId} {pos : String} {af : Array Edge} {g : Option (Nat × Bool)} {x : Operand} {b o q : Nat} (hx : e x = .pointer (some ⟨b, o, none⟩)) (ho : o + 34 = q) : Pu Tryz.prog e ⟨d, .fieldAddr 30 x 3, ot, pos, af, g⟩ (.pointer (some ⟨b, q, none⟩)) := Pu.fieldAddr Tryz.runUnderlying30 rfl ty28 hx ho
theorem fa34_0 {e : Operand → Value} {d : Option Nat} {ot : TypeId} {pos : String} {af : Array Edge} {g : Option (Nat × Bool)} {x : Operand} {b o q : Nat} (hx : e x = .pointer (some ⟨b, o, none⟩)) (ho : o + 0 = q) : Pu Tryz.prog e ⟨d, .fieldAddr 34 x 0, ot, pos, af, g⟩ (.pointer (some ⟨b, q, none⟩)) := Pu.fieldAddr Tryz.runUnderlying34 rfl ty30 hx ho
theorem fa34_1 {e : Operand → Value} {d : Option Nat} {ot : TypeId} {pos : String} {af : Array Edge} {g : Option (Nat × Bool)} {x : Operand} {b o q : Nat} (hx : e x = .pointer (some ⟨b, o, none⟩)) (ho : o + 35 = q) : Pu Tryz.prog e ⟨d, .fieldAddr 34 x 1, ot, pos, af, g⟩ (.pointer (some ⟨b, q, none⟩)) := Pu.fieldAddr Tryz.runUnderlying34 rfl ty27 hx ho
theorem fa75_1 {e : Operand → Value} {d : Option Nat} {ot : TypeId} {pos : String} {af : Array Edge} {g : Option (Nat × Bool)} {x : Operand} {b o q : Nat} (hx : e x = .pointer (some ⟨b, o, none⟩)) (ho : o + 1 = q) : Pu Tryz.prog e ⟨d, .fieldAddr 75 x 1, ot, pos, af, g⟩ (.pointer (some ⟨b, q, none⟩)) := Pu.fieldAddr Tryz.runUnderlying75 rfl ty3 hx ho
theorem fa75_3 {e : Operand → Value} {d : Option Nat} {ot : TypeId} {pos : String} {af : Array Edge} {g : Option (Nat × Bool)} {x : Operand} {b o q : Nat} (hx : e x = .pointer (some ⟨b, o, none⟩)) (ho : o + 34 = q) : Pu Tryz.prog e ⟨d, .fieldAddr 75 x 3, ot, pos, af, g⟩ (.pointer (some ⟨b, q, none⟩)) := Pu.fieldAddr Tryz.runUnderlying75 rfl ty71 hx ho
theorem fa75_4 {e : Operand → Value} {d : Option Nat} {ot : TypeId} {pos : String} {af : Array Edge} {g : Option (Nat × Bool)} {x : Operand} {b o q : Nat} (hx : e x = .pointer (some ⟨b, o, none⟩)) (ho : o + 35 = q) : Pu Tryz.prog e ⟨d, .fieldAddr 75 x 4, ot, pos, af, g⟩ (.pointer (some ⟨b, q, none⟩)) := Pu.fieldAddr Tryz.runUnderlying75 rfl ty72 hx ho
theorem fa88_0 {e : Operand → Value} {d : Option Nat} {ot : TypeId} {pos : String} {af : Array Edge} {g : Option (Nat × Bool)} {x : Operand} {b o q : Nat} (hx : e x = .pointer (some ⟨b, o, none⟩)) (ho : o + 0 = q) : Pu Tryz.prog e ⟨d, .fieldAddr 88 x 0, ot, pos, af, g⟩ (.pointer (some ⟨b, q, none⟩)) := Pu.fieldAddr Tryz.runUnderlying88 rfl ty3 hx ho
theorem fa92_0 {e : Operand → Value} {d : Option Nat} {ot : TypeId} {pos : String} {af : Array Edge} {g : Option (Nat × Bool)} {x : Operand} {b o q : Nat} (hx : e x = .pointer (some ⟨b, o, none⟩)) (ho : o + 0 = q) : Pu Tryz.prog e ⟨d, .fieldAddr 92 x 0, ot, pos, af, g⟩ (.pointer (some ⟨b, q, none⟩)) := Pu.fieldAddr Tryz.runUnderlying92 rfl ty3 hx ho
theorem fa92_1 {e : Operand → Value} {d : Option Nat} {ot : TypeId} {pos : String} {af : Array Edge} {g : Option (Nat × Bool)} {x : Operand} {b o q : Nat} (hx : e x = .pointer (some ⟨b, o, none⟩)) (ho : o + 1 = q) : Pu Tryz.prog e ⟨d, .fieldAddr 92 x 1, ot, pos, af, g⟩ (.pointer (some ⟨b, q, none⟩)) := Pu.fieldAddr Tryz.runUnderlying92 rfl ty90 hx ho
theorem fa105_0 {e : Operand → Value} {d : Option Nat} {ot : TypeId} {pos : String} {af : Array Edge} {g : Option (Nat × Bool)} {x : Operand} {b o q : Nat} (hx : e x = .pointer (some ⟨b, o, none⟩)) (ho : o + 0 = q) : Pu Tryz.prog e ⟨d, .fieldAddr 105 x 0, ot, pos, af, g⟩ (.pointer (some ⟨b, q, none⟩)) := Pu.fieldAddr Tryz.runUnderlying105 rfl ty27 hx ho
theorem fa105_1 {e : Operand → Value} {d : Option Nat} {ot : TypeId} {pos : String} {af : Array Edge} {g : Option (Nat × Bool)} {x : Operand} {b o q : Nat} (hx : e x = .pointer (some ⟨b, o, none⟩)) (ho : o + 36 = q) : Pu Tryz.prog e ⟨d, .fieldAddr 105 x 1, ot, pos, af, g⟩ (.pointer (some ⟨b, q, none⟩)) := Pu.fieldAddr Tryz.runUnderlying105 rfl ty3 hx ho
theorem fa118_0 {e : Operand → Value} {d : Option Nat} {ot : TypeId} {pos : String} {af : Array Edge} {g : Option (Nat × Bool)} {x : Operand} {b o q : Nat} (hx : e x = .pointer (some ⟨b, o, none⟩)) (ho : o + 0 = q) : Pu Tryz.prog e ⟨d, .fieldAddr 118 x 0, ot, pos, af, g⟩ (.pointer (some ⟨b, q, none⟩)) := Pu.fieldAddr Tryz.runUnderlying118 rfl ty115 hx ho
theorem fa118_1 {e : Operand → Value} {d : Option Nat} {ot : TypeId} {pos : String} {af : Array Edge} {g : Option (Nat × Bool)} {x : Operand} {b o q : Nat} (hx : e x = .pointer (some ⟨b, o, none⟩)) (ho : o + 1 = q) : Pu Tryz.prog e ⟨d, .fieldAddr 118 x 1, ot, pos, af, g⟩ (.pointer (some ⟨b, q, none⟩)) := Pu.fieldAddr Tryz.runUnderlying118 rfl ty116 hx ho
theorem el3 : El Tryz.prog 3 1 8 (.int .i64 0) := ⟨⟨Tryz.t3, Tryz.typeInfo3, rfl, rfl, rfl⟩, rfl⟩
theorem el4 : El Tryz.prog 4 1 1 (.bool false) := ⟨⟨Tryz.t4, Tryz.typeInfo4, rfl, rfl, rfl⟩, rfl⟩
theorem el9 : El Tryz.prog 9 1 16 (.string ⟨#[]⟩) := ⟨⟨Tryz.t9, Tryz.typeInfo9, rfl, rfl, rfl⟩, rfl⟩
theorem el27 : El Tryz.prog 27 36 96 (.agg ⟨pkT 0 0 zS (.slice none 0 0) (.slice none 0 0)⟩) := ⟨⟨Tryz.t27, Tryz.typeInfo27, rfl, rfl, rfl⟩, rfl⟩
theorem el30 : El Tryz.prog 30 35 72 (.agg ⟨pkP 0 0 zS (.slice none 0 0)⟩) := ⟨⟨Tryz.t30, Tryz.typeInfo30, rfl, rfl, rfl⟩, rfl⟩
theorem el34 : El Tryz.prog 34 71 168 (.agg ⟨(pkP 0 0 zS (.slice none 0 0)) ++ (pkT 0 0 zS (.slice none 0 0) (.slice none 0 0))⟩) := ⟨⟨Tryz.t34, Tryz.typeInfo34, rfl, rfl, rfl⟩, rfl⟩
theorem el75 : El Tryz.prog 75 37 120 (.agg ⟨(pkT 0 0 zS (.slice none 0 0) (.slice none 0 0)) ++ [.slice none 0 0]⟩) := ⟨⟨Tryz.t75, Tryz.typeInfo75, rfl, rfl, rfl⟩, rfl⟩
theorem bld23_ : ∀ w, (Instr.build 23 ⟨[]⟩).run Tryz.prog w = .ok (.agg ⟨sC zS⟩) w := run_buildA Tryz.zeroValue23 Tryz.runUnderlying23 Tryz.sizeOf5 rfl
theorem pl27 (w : World) : (Sem.run Tryz.prog ((#[{ name := "Kind", type := 3, offset := 0, embedded := false, tag := "", pkgPath := "", byteOffset := 0 }, { name := "Num", type := 3, offset := 1, embedded := false, tag := "", pkgPath := "", byteOffset := 8 }, { name := "Ref", type := 23, offset := 2, embedded := false, tag := "", pkgPath := "", byteOffset := 16 }, { name := "Kids", type := 24, offset := 34, embedded := false, tag := "", pkgPath := "", byteOffset := 48 }, { name := "Cases", type := 25, offset := 35, embedded := false, tag := "", pkgPath := "", byteOffset := 72 }] : Array Field).mapM fun f => (do pure (f.offset, ← Go.sizeOf f.type) : Sem (Nat × Nat))) w) = .ok #[(0, 1), (1, 1), (2, 32), (34, 1), (35, 1)] w := by simp [Tryz.sizeOf23, Tryz.sizeOf24, Tryz.sizeOf25, Tryz.sizeOf3]
theorem bld27_ : ∀ w, (Instr.build 27 ⟨[]⟩).run Tryz.prog w = .ok (.agg ⟨pkT 0 0 zS (.slice none 0 0) (.slice none 0 0)⟩) w := run_build Tryz.zeroValue27 Tryz.runUnderlying27 pl27 rfl
theorem bld27_0 (k : Int) : ∀ w, (Instr.build 27 ⟨[(0, .int .i64 k)]⟩).run Tryz.prog w = .ok (.agg ⟨pkT k 0 zS (.slice none 0 0) (.slice none 0 0)⟩) w := run_build Tryz.zeroValue27 Tryz.runUnderlying27 pl27 (by kernel_rfl)
theorem bld27_0_1 (k : Int) (n : Int) : ∀ w, (Instr.build 27 ⟨[(0, .int .i64 k), (1, .int .i64 n)]⟩).run Tryz.prog w = .ok (.agg ⟨pkT k n zS (.slice none 0 0) (.slice none 0 0)⟩) w := run_build Tryz.zeroValue27 Tryz.runUnderlying27 pl27 (by kernel_rfl)
theorem bld27_0_1_2 (k : Int) (n : Int) (r : Sm) : ∀ w, (Instr.build 27 ⟨[(0, .int .i64 k), (1, .int .i64 n), (2, .agg ⟨sC r⟩)]⟩).run Tryz.prog w = .ok (.agg ⟨pkT k n r (.slice none 0 0) (.slice none 0 0)⟩) w := run_build Tryz.zeroValue27 Tryz.runUnderlying27 pl27 (by kernel_rfl)
theorem bld27_0_2_3 (k : Int) (r : Sm) (a3 : Option Addr) (n3 c3 : Nat) : ∀ w, (Instr.build 27 ⟨[(0, .int .i64 k), (2, .agg ⟨sC r⟩), (3, (.slice a3 n3 c3))]⟩).run Tryz.prog w = .ok (.agg ⟨pkT k 0 r (.slice a3 n3 c3) (.slice none 0 0)⟩) w := run_build Tryz.zeroValue27 Tryz.runUnderlying27 pl27 (by kernel_rfl)
theorem bld27_0_3 (k : Int) (a3 : Option Addr) (n3 c3 : Nat) : ∀ w, (Instr.build 27 ⟨[(0, .int .i64 k), (3, (.slice a3 n3 c3))]⟩).run Tryz.prog w = .ok (.agg ⟨pkT k 0 zS (.slice a3 n3 c3) (.slice none 0 0)⟩) w := run_build Tryz.zeroValue27 Tryz.runUnderlying27 pl27 (by kernel_rfl)
theorem bld27_0_3_4 (k : Int) (a3 : Option Addr) (n3 c3 : Nat) (a4 : Option Addr) (n4 c4 : Nat) : ∀ w, (Instr.build 27 ⟨[(0, .int .i64 k), (3, (.slice a3 n3 c3)), (4, (.slice a4 n4 c4))]⟩).run Tryz.prog w = .ok (.agg ⟨pkT k 0 zS (.slice a3 n3 c3) (.slice a4 n4 c4)⟩) w := run_build Tryz.zeroValue27 Tryz.runUnderlying27 pl27 (by kernel_rfl)
theorem pl30 (w : World) : (Sem.run Tryz.prog ((#[{ name := "Kind", type := 3, offset := 0, embedded := false, tag := "", pkgPath := "", byteOffset := 0 }, { name := "Num", type := 3, offset := 1, embedded := false, tag := "", pkgPath := "", byteOffset := 8 }, { name := "Ref", type := 23, offset := 2, embedded := false, tag := "", pkgPath := "", byteOffset := 16 }, { name := "Kids", type := 28, offset := 34, embedded := false, tag := "", pkgPath := "", byteOffset := 48 }] : Array Field).mapM fun f => (do pure (f.offset, ← Go.sizeOf f.type) : Sem (Nat × Nat))) w) = .ok #[(0, 1), (1, 1), (2, 32), (34, 1)] w := by simp [Tryz.sizeOf23, Tryz.sizeOf28, Tryz.sizeOf3]
theorem bld30_0_1_2 (k : Int) (n : Int) (r : Sm) : ∀ w, (Instr.build 30 ⟨[(0, .int .i64 k), (1, .int .i64 n), (2, .agg ⟨sC r⟩)]⟩).run Tryz.prog w = .ok (.agg ⟨pkP k n r (.slice none 0 0)⟩) w := run_build Tryz.zeroValue30 Tryz.runUnderlying30 pl30 (by kernel_rfl)
theorem pl34 (w : World) : (Sem.run Tryz.prog ((#[{ name := "Pat", type := 30, offset := 0, embedded := false, tag := "", pkgPath := "", byteOffset := 0 }, { name := "Body", type := 27, offset := 35, embedded := false, tag := "", pkgPath := "", byteOffset := 72 }] : Array Field).mapM fun f => (do pure (f.offset, ← Go.sizeOf f.type) : Sem (Nat × Nat))) w) = .ok #[(0, 35), (35, 36)] w := by simp [Tryz.sizeOf27, Tryz.sizeOf30]
theorem bld34_0_1 {p t : List Value} (hp : p.length = 35) (ht : t.length = 36) : ∀ w, (Instr.build 34 ⟨[(0, .agg ⟨p⟩), (1, .agg ⟨t⟩)]⟩).run Tryz.prog w = .ok (.agg ⟨p ++ t⟩) w := run_build Tryz.zeroValue34 Tryz.runUnderlying34 pl34 (fill_cons (pre := []) (mid := pkP 0 0 zS (.slice none 0 0)) (post := pkT 0 0 zS (.slice none 0 0) (.slice none 0 0)) rfl rfl hp rfl rfl (by have := fill_cons (place := (#[(0, 35), (35, 36)][·]?)) (i := 1) (v := .agg ⟨t⟩) (rest := []) (pre := p) (mid := pkT 0 0 zS (.slice none 0 0) (.slice none 0 0)) (post := []) rfl rfl ht hp rfl rfl; simpa [Instr.fill] using this))
theorem pl75 (w : World) : (Sem.run Tryz.prog ((#[{ name := "Kind", type := 3, offset := 0, embedded := false, tag := "", pkgPath := "", byteOffset := 0 }, { name := "Num", type := 3, offset := 1, embedded := false, tag := "", pkgPath := "", byteOffset := 8 }, { name := "Ref", type := 23, offset := 2, embedded := false, tag := "", pkgPath := "", byteOffset := 16 }, { name := "Names", type := 71, offset := 34, embedded := false, tag := "", pkgPath := "", byteOffset := 48 }, { name := "Kids", type := 72, offset := 35, embedded := false, tag := "", pkgPath := "", byteOffset := 72 }, { name := "Cases", type := 73, offset := 36, embedded := false, tag := "", pkgPath := "", byteOffset := 96 }] : Array Field).mapM fun f => (do pure (f.offset, ← Go.sizeOf f.type) : Sem (Nat × Nat))) w) = .ok #[(0, 1), (1, 1), (2, 32), (34, 1), (35, 1), (36, 1)] w := by simp [Tryz.sizeOf23, Tryz.sizeOf3, Tryz.sizeOf71, Tryz.sizeOf72, Tryz.sizeOf73]
theorem bld75_0_1_2 (k : Int) (n : Int) (r : Sm) : ∀ w, (Instr.build 75 ⟨[(0, .int .i64 k), (1, .int .i64 n), (2, .agg ⟨sC r⟩)]⟩).run Tryz.prog w = .ok (.agg ⟨(pkT k n r (.slice none 0 0) (.slice none 0 0)) ++ [.slice none 0 0]⟩) w := run_build Tryz.zeroValue75 Tryz.runUnderlying75 pl75 (by kernel_rfl)
theorem pl88 (w : World) : (Sem.run Tryz.prog ((#[{ name := "count", type := 3, offset := 0, embedded := false, tag := "", pkgPath := "hoarstone/term", byteOffset := 0 }] : Array Field).mapM fun f => (do pure (f.offset, ← Go.sizeOf f.type) : Sem (Nat × Nat))) w) = .ok #[(0, 1)] w := by simp [Tryz.sizeOf3]
theorem bld88_ : ∀ w, (Instr.build 88 ⟨[]⟩).run Tryz.prog w = .ok (.agg ⟨[.int .i64 0]⟩) w := run_build Tryz.zeroValue88 Tryz.runUnderlying88 pl88 rfl
theorem pl92 (w : World) : (Sem.run Tryz.prog ((#[{ name := "members", type := 3, offset := 0, embedded := false, tag := "", pkgPath := "hoarstone/term", byteOffset := 0 }, { name := "known", type := 90, offset := 1, embedded := false, tag := "", pkgPath := "hoarstone/term", byteOffset := 8 }] : Array Field).mapM fun f => (do pure (f.offset, ← Go.sizeOf f.type) : Sem (Nat × Nat))) w) = .ok #[(0, 1), (1, 1)] w := by simp [Tryz.sizeOf3, Tryz.sizeOf90]
theorem bld92_0_1 (a0 : Int) (a1 : Fn) (x1 y1 : Array Value) : ∀ w, (Instr.build 92 ⟨[(0, .int .i64 a0), (1, .func a1 x1 y1)]⟩).run Tryz.prog w = .ok (.agg ⟨[.int .i64 a0, .func a1 x1 y1]⟩) w := run_build Tryz.zeroValue92 Tryz.runUnderlying92 pl92 (by kernel_rfl)
theorem pl105 (w : World) : (Sem.run Tryz.prog ((#[{ name := "Term", type := 27, offset := 0, embedded := true, tag := "", pkgPath := "", byteOffset := 0 }, { name := "more", type := 3, offset := 36, embedded := false, tag := "", pkgPath := "hoarstone/term", byteOffset := 96 }] : Array Field).mapM fun f => (do pure (f.offset, ← Go.sizeOf f.type) : Sem (Nat × Nat))) w) = .ok #[(0, 36), (36, 1)] w := by simp [Tryz.sizeOf27, Tryz.sizeOf3]
theorem bld105_0_1 {t : List Value} {m : Int} (ht : t.length = 36) : ∀ w, (Instr.build 105 ⟨[(0, .agg ⟨t⟩), (1, .int .i64 m)]⟩).run Tryz.prog w = .ok (.agg ⟨t ++ [.int .i64 m]⟩) w := run_build Tryz.zeroValue105 Tryz.runUnderlying105 pl105 (fill_cons (pre := []) (mid := pkT 0 0 zS (.slice none 0 0) (.slice none 0 0)) (post := [.int .i64 0]) rfl rfl ht rfl rfl (by have := fill_cons (place := (#[(0, 36), (36, 1)][·]?)) (i := 1) (v := .int .i64 m) (rest := []) (pre := t) (mid := [.int .i64 0]) (post := []) rfl rfl rfl ht rfl rfl; simpa [Instr.fill] using this))
theorem pl118 (w : World) : (Sem.run Tryz.prog ((#[{ name := "variable", type := 115, offset := 0, embedded := false, tag := "", pkgPath := "hoarstone/term", byteOffset := 0 }, { name := "ref", type := 116, offset := 1, embedded := false, tag := "", pkgPath := "hoarstone/term", byteOffset := 8 }] : Array Field).mapM fun f => (do pure (f.offset, ← Go.sizeOf f.type) : Sem (Nat × Nat))) w) = .ok #[(0, 1), (1, 1)] w := by simp [Tryz.sizeOf115, Tryz.sizeOf116]
theorem bld118_0_1 (a0 : Fn) (x0 y0 : Array Value) (a1 : Fn) (x1 y1 : Array Value) : ∀ w, (Instr.build 118 ⟨[(0, .func a0 x0 y0), (1, .func a1 x1 y1)]⟩).run Tryz.prog w = .ok (.agg ⟨[.func a0 x0 y0, .func a1 x1 y1]⟩) w := run_build Tryz.zeroValue118 Tryz.runUnderlying118 pl118 (by kernel_rfl)
theorem pl131 (w : World) : (Sem.run Tryz.prog ((#[{ name := "kind", type := 3, offset := 0, embedded := false, tag := "", pkgPath := "hoarstone/term", byteOffset := 0 }, { name := "num", type := 3, offset := 1, embedded := false, tag := "", pkgPath := "hoarstone/term", byteOffset := 8 }, { name := "ref", type := 23, offset := 2, embedded := false, tag := "", pkgPath := "hoarstone/term", byteOffset := 16 }] : Array Field).mapM fun f => (do pure (f.offset, ← Go.sizeOf f.type) : Sem (Nat × Nat))) w) = .ok #[(0, 1), (1, 1), (2, 32)] w := by simp [Tryz.sizeOf23, Tryz.sizeOf3]
theorem bld141_ : ∀ w, (Instr.build 141 ⟨[]⟩).run Tryz.prog w = .ok (.agg ⟨[.bool false, .bool false, .bool false]⟩) w := run_buildA Tryz.zeroValue141 Tryz.runUnderlying141 Tryz.sizeOf4 rfl
theorem bld141_0_1_2 (a0 a1 a2 : Bool) : ∀ w, (Instr.build 141 ⟨[(0, .bool a0), (1, .bool a1), (2, .bool a2)]⟩).run Tryz.prog w = .ok (.agg ⟨[.bool a0, .bool a1, .bool a2]⟩) w := run_buildA Tryz.zeroValue141 Tryz.runUnderlying141 Tryz.sizeOf4 rfl
theorem eqS {e : Operand → Value} {d : Option Nat} {ot : TypeId} {pos : String} {af : Array Edge} {g : Option (Nat × Bool)} {T' : TypeId} {x y : Operand} {r s : Sm} (hx : e x = .agg ⟨sC r⟩) (hy : e y = .agg ⟨sC s⟩) : Pu Tryz.prog e ⟨d, .binOp .eql 23 x y T', ot, pos, af, g⟩ (.bool (decide (r = s))) := Pu_eqlSum Tryz.eqGuardType23 Tryz.underlying23 Tryz.underlying5 Tryz.sizeOf5 hx hy
theorem neqS {e : Operand → Value} {d : Option Nat} {ot : TypeId} {pos : String} {af : Array Edge} {g : Option (Nat × Bool)} {T' : TypeId} {x y : Operand} {r s : Sm} (hx : e x = .agg ⟨sC r⟩) (hy : e y = .agg ⟨sC s⟩) : Pu Tryz.prog e ⟨d, .binOp .neq 23 x y T', ot, pos, af, g⟩ (.bool (!decide (r = s))) := Pu_neqSum Tryz.eqGuardType23 Tryz.underlying23 Tryz.underlying5 Tryz.sizeOf5 hx hy
theorem neqB3 {e : Operand → Value} {d : Option Nat} {ot : TypeId} {pos : String} {af : Array Edge} {g : Option (Nat × Bool)} {T' : TypeId} {x y : Operand} {a b c a' b' c' : Bool} (hx : e x = .agg ⟨[.bool a, .bool b, .bool c]⟩) (hy : e y = .agg ⟨[.bool a', .bool b', .bool c']⟩) : Pu Tryz.prog e ⟨d, .binOp .neq 141 x y T', ot, pos, af, g⟩ (.bool (!(a == a' && (b == b' && c == c')))) := Pu_neqB3 Tryz.eqGuardType141 Tryz.underlying141 Tryz.underlying4 Tryz.sizeOf4 hx hy
theorem mixed : Tryz.prog.follows .mixedOrders = true := Tryz.checked.mixed
end Go.Proofs.YtdeinimmmjichaaGreat.Hs
/-! A key of a pattern: built, compared. -/
namespace Go.Proofs.YtdeinimmmjichaaGreat.Hs
open Go Go.Proofs
set_option maxRecDepth 100000

theorem made_sub {k a : Nat} {N : Nat → Chunk} {B M' : List Chunk} (h : Sub M' B) : Sub M' (made k a N B) := by
  unfold made
  generalize (List.range k).map (fun j => cond (Nat.beq j a) [] (N j)) = l
  induction l with
  | nil => exact h
  | cons x l ih => exact Sd ih
theorem bldK (k n : Int) (r : Sm) : ∀ w, (Instr.build 131 ⟨[(0, .int .i64 k), (1, .int .i64 n), (2, .agg ⟨sC r⟩)]⟩).run Tryz.prog w = .ok (.agg ⟨[.int .i64 k, .int .i64 n] ++ sC r⟩) w :=
  run_build Tryz.zeroValue131 Tryz.runUnderlying131 pl131 (by kernel_rfl)
theorem partK0 (k n : Int) (r : Sm) (w : World) : (part 3 ⟨[.int .i64 k, .int .i64 n] ++ sC r⟩ 0).run Tryz.prog w = .ok (.int .i64 k) w := by
  simp [part, isAgg, Tryz.runUnderlying3]
theorem partK1 (k n : Int) (r : Sm) (w : World) : (part 3 ⟨[.int .i64 k, .int .i64 n] ++ sC r⟩ 1).run Tryz.prog w = .ok (.int .i64 n) w := by
  simp [part, isAgg, Tryz.runUnderlying3]
theorem partK2 (k n : Int) (r : Sm) (w : World) : (part 23 ⟨[.int .i64 k, .int .i64 n] ++ sC r⟩ 2).run Tryz.prog w = .ok (.agg ⟨sC r⟩) w := by
  have h : (⟨[.int .i64 k, .int .i64 n] ++ sC r⟩ : Array Value).extract 2 (2 + 32) = ⟨sC r⟩ := by
    apply Array.toList_inj.1
    simpa using List.take_of_length_le (by rw [sC_len]; decide)
  simp only [part, Sem.run_bind, Tryz.isAgg23, Result.andThen_ok, if_true, Tryz.sizeOf23, Sem.run_pure, h]
theorem eqK {e : Operand → Value} {d : Option Nat} {ot : TypeId} {pos : String} {af : Array Edge} {g : Option (Nat × Bool)} {T' : TypeId} {x y : Operand} {a b a' b' : Int} {r s : Sm}
    (hx : e x = .agg ⟨[.int .i64 a, .int .i64 b] ++ sC r⟩) (hy : e y = .agg ⟨[.int .i64 a', .int .i64 b'] ++ sC s⟩) :
    Pu Tryz.prog e ⟨d, .binOp .eql 131 x y T', ot, pos, af, g⟩ (.bool (decide (a = a') && (decide (b = b') && decide (r = s)))) := fun w => by
  have hg := run_eqGuard_agg (P := Tryz.prog) w .eql 131 x y ⟨[.int .i64 a, .int .i64 b] ++ sC r⟩ ⟨[.int .i64 a', .int .i64 b'] ++ sC s⟩ (by kernel_rfl)
  have hF : Tryz.prog.underlying 131 = some (.struct (Tryz.prog.fieldsOf 131)) := by simp only [Program.fieldsOf, Tryz.underlying131]
  have hL : ∃ f1 f2 f3 : Field, (Tryz.prog.fieldsOf 131).toList = [f1, f2, f3] ∧ f1.name ≠ "_" ∧ f1.type = 3 ∧ f1.offset = 0 ∧ f2.name ≠ "_" ∧ f2.type = 3 ∧ f2.offset = 1 ∧ f3.name ≠ "_" ∧ f3.type = 23 ∧ f3.offset = 2 := by
    simp only [Program.fieldsOf, Tryz.underlying131]
    exact ⟨_, _, _, rfl, by decide, rfl, rfl, by decide, rfl, rfl, by decide, rfl, rfl⟩
  obtain ⟨f1, f2, f3, hl, n1, t1, o1, n2, t2, o2, n3, t3, o3⟩ := hL
  simp only [execOp, hx, hy, Sem.run_bind]
  rw [hg, Result.andThen_ok, run_eql_struct, run_equalIn_struct w 9999 131 _ _ hF (by kernel_rfl), hl]
  have hs := run_equalIn_bytes (P := Tryz.prog) w 9997 23 _ 32 Tryz.underlying23 Tryz.underlying5 Tryz.sizeOf5 r.toList s.toList (by simp) (by simp)
  rw [← sC_map, ← sC_map] at hs
  have hd : (r.toList == s.toList) = decide (r = s) := by
    rw [Bool.eq_iff_iff]; simp
  rw [hd] at hs
  change (Op.equalIn 9999 23 (.agg ⟨sC r⟩) (.agg ⟨sC s⟩)).run Tryz.prog w = _ at hs
  have hi : ∀ u v : Int, (Op.equalIn 9999 3 (.int .i64 u) (.int .i64 v)).run Tryz.prog w = .ok (u == v) w := fun u v => run_equalIn_int w 9998 3 .i64 .i64 u v Tryz.underlying3
  simp only [Op.eqFields, n1, n2, n3, t1, t2, t3, o1, o2, o3, if_true, ne_eq, not_false_eq_true, Sem.run_bind, Sem.run_ite, partK0, partK1, partK2, Result.andThen_ok, hi, hs, Sem.run_pure]
  by_cases h1 : a = a' <;> by_cases h2 : b = b' <;> by_cases h3 : r = s <;> simp [h1, h2, h3]
end Go.Proofs.YtdeinimmmjichaaGreat.Hs
