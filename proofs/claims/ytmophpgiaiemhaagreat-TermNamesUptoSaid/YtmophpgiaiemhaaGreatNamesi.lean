import Derived.Test.YtmophpgiaiemhaaGreatNamesh
import Derived.Test.YtmophpgiaiemhaaGreatProg
/-! The types of the program, as the rules need them: printed by a program of this session's own (types.py). -/
namespace Go.Proofs.YtmophpgiaiemhaaGreat.Hs
open Go Go.Proofs
set_option maxRecDepth 100000
theorem ty3 : Ty Tryz.prog 3 false 1 := ⟨Tryz.isAgg3, Tryz.sizeOf3⟩
theorem ty4 : Ty Tryz.prog 4 false 1 := ⟨Tryz.isAgg4, Tryz.sizeOf4⟩
theorem ty9 : Ty Tryz.prog 9 false 1 := ⟨Tryz.isAgg9, Tryz.sizeOf9⟩
theorem Xm : Ty Tryz.prog 23 true 32 := ⟨Tryz.isAgg23, Tryz.sizeOf23⟩
theorem YW : Ty Tryz.prog 24 false 1 := ⟨Tryz.isAgg24, Tryz.sizeOf24⟩
theorem YI : Ty Tryz.prog 25 false 1 := ⟨Tryz.isAgg25, Tryz.sizeOf25⟩
theorem Zs : Ty Tryz.prog 27 true 36 := ⟨Tryz.isAgg27, Tryz.sizeOf27⟩
theorem Yy : Ty Tryz.prog 28 false 1 := ⟨Tryz.isAgg28, Tryz.sizeOf28⟩
theorem ty29 : Ty Tryz.prog 29 false 1 := ⟨Tryz.isAgg29, Tryz.sizeOf29⟩
theorem ty30 : Ty Tryz.prog 30 false 1 := ⟨Tryz.isAgg30, Tryz.sizeOf30⟩
theorem Ya : Ty Tryz.prog 32 true 37 := ⟨Tryz.isAgg32, Tryz.sizeOf32⟩
theorem ty33 : Ty Tryz.prog 33 false 1 := ⟨Tryz.isAgg33, Tryz.sizeOf33⟩
theorem ty34 : Ty Tryz.prog 34 false 1 := ⟨Tryz.isAgg34, Tryz.sizeOf34⟩
theorem ty40 : Ty Tryz.prog 40 false 1 := ⟨Tryz.isAgg40, Tryz.sizeOf40⟩
theorem ty41 : Ty Tryz.prog 41 false 1 := ⟨Tryz.isAgg41, Tryz.sizeOf41⟩
theorem Y8 : Ty Tryz.prog 43 true 37 := ⟨Tryz.isAgg43, Tryz.sizeOf43⟩
theorem ty46 : Ty Tryz.prog 46 false 1 := ⟨Tryz.isAgg46, Tryz.sizeOf46⟩
theorem ty72 : Ty Tryz.prog 72 false 1 := ⟨Tryz.isAgg72, Tryz.sizeOf72⟩
theorem Xv : Ty Tryz.prog 73 false 1 := ⟨Tryz.isAgg73, Tryz.sizeOf73⟩
theorem Z6 : Ty Tryz.prog 75 true 35 := ⟨Tryz.isAgg75, Tryz.sizeOf75⟩
theorem YM : Ty Tryz.prog 80 true 71 := ⟨Tryz.isAgg80, Tryz.sizeOf80⟩
theorem ty85 : Ty Tryz.prog 85 true 73 := ⟨Tryz.isAgg85, Tryz.sizeOf85⟩
theorem ty89 : Ty Tryz.prog 89 false 1 := ⟨Tryz.isAgg89, Tryz.sizeOf89⟩
theorem ty100 : Ty Tryz.prog 100 true 73 := ⟨Tryz.isAgg100, Tryz.sizeOf100⟩
theorem ty109 : Ty Tryz.prog 109 false 1 := ⟨Tryz.isAgg109, Tryz.sizeOf109⟩
theorem ty111 : Ty Tryz.prog 111 false 1 := ⟨Tryz.isAgg111, Tryz.sizeOf111⟩
theorem ty112 : Ty Tryz.prog 112 false 1 := ⟨Tryz.isAgg112, Tryz.sizeOf112⟩
theorem ty133 : Ty Tryz.prog 133 false 1 := ⟨Tryz.isAgg133, Tryz.sizeOf133⟩
theorem ty134 : Ty Tryz.prog 134 false 1 := ⟨Tryz.isAgg134, Tryz.sizeOf134⟩
theorem ty136 : Ty Tryz.prog 136 true 2 := ⟨Tryz.isAgg136, Tryz.sizeOf136⟩
theorem ty139 : Ty Tryz.prog 139 false 1 := ⟨Tryz.isAgg139, Tryz.sizeOf139⟩
theorem ty141 : Ty Tryz.prog 141 true 2 := ⟨Tryz.isAgg141, Tryz.sizeOf141⟩
theorem ty175 : Ty Tryz.prog 175 true 37 := ⟨Tryz.isAgg175, Tryz.sizeOf175⟩
theorem ty176 : Ty Tryz.prog 176 false 1 := ⟨Tryz.isAgg176, Tryz.sizeOf176⟩
theorem Yj : Ty Tryz.prog 196 true 3 := ⟨Tryz.isAgg196, Tryz.sizeOf196⟩
theorem ZO {e : Operand → Value} {d : Option Nat} {ot : TypeId} {pos : String} {af : Array Edge} {g : Option (Nat × Bool)} {x : Operand} {b o q : Nat} (hx : e x = .pointer (some ⟨b, o, none⟩)) (ho : o + 0 = q) : Pu Tryz.prog e ⟨d, .fieldAddr 27 x 0, ot, pos, af, g⟩ (.pointer (some ⟨b, q, none⟩)) := Pu.fieldAddr Tryz.runUnderlying27 rfl ty3 hx ho
theorem ZZ {e : Operand → Value} {d : Option Nat} {ot : TypeId} {pos : String} {af : Array Edge} {g : Option (Nat × Bool)} {x : Operand} {b o q : Nat} (hx : e x = .pointer (some ⟨b, o, none⟩)) (ho : o + 1 = q) : Pu Tryz.prog e ⟨d, .fieldAddr 27 x 1, ot, pos, af, g⟩ (.pointer (some ⟨b, q, none⟩)) := Pu.fieldAddr Tryz.runUnderlying27 rfl ty3 hx ho
theorem fa27_2 {e : Operand → Value} {d : Option Nat} {ot : TypeId} {pos : String} {af : Array Edge} {g : Option (Nat × Bool)} {x : Operand} {b o q : Nat} (hx : e x = .pointer (some ⟨b, o, none⟩)) (ho : o + 2 = q) : Pu Tryz.prog e ⟨d, .fieldAddr 27 x 2, ot, pos, af, g⟩ (.pointer (some ⟨b, q, none⟩)) := Pu.fieldAddr Tryz.runUnderlying27 rfl Xm hx ho
theorem Z8 {e : Operand → Value} {d : Option Nat} {ot : TypeId} {pos : String} {af : Array Edge} {g : Option (Nat × Bool)} {x : Operand} {b o q : Nat} (hx : e x = .pointer (some ⟨b, o, none⟩)) (ho : o + 34 = q) : Pu Tryz.prog e ⟨d, .fieldAddr 27 x 3, ot, pos, af, g⟩ (.pointer (some ⟨b, q, none⟩)) := Pu.fieldAddr Tryz.runUnderlying27 rfl YW hx ho
theorem Z1 {e : Operand → Value} {d : Option Nat} {ot : TypeId} {pos : String} {af : Array Edge} {g : Option (Nat × Bool)} {x : Operand} {b o q : Nat} (hx : e x = .pointer (some ⟨b, o, none⟩)) (ho : o + 35 = q) : Pu Tryz.prog e ⟨d, .fieldAddr 27 x 4, ot, pos, af, g⟩ (.pointer (some ⟨b, q, none⟩)) := Pu.fieldAddr Tryz.runUnderlying27 rfl YI hx ho
theorem fa32_0 {e : Operand → Value} {d : Option Nat} {ot : TypeId} {pos : String} {af : Array Edge} {g : Option (Nat × Bool)} {x : Operand} {b o q : Nat} (hx : e x = .pointer (some ⟨b, o, none⟩)) (ho : o + 0 = q) : Pu Tryz.prog e ⟨d, .fieldAddr 32 x 0, ot, pos, af, g⟩ (.pointer (some ⟨b, q, none⟩)) := Pu.fieldAddr Tryz.runUnderlying32 rfl ty3 hx ho
theorem fa32_1 {e : Operand → Value} {d : Option Nat} {ot : TypeId} {pos : String} {af : Array Edge} {g : Option (Nat × Bool)} {x : Operand} {b o q : Nat} (hx : e x = .pointer (some ⟨b, o, none⟩)) (ho : o + 1 = q) : Pu Tryz.prog e ⟨d, .fieldAddr 32 x 1, ot, pos, af, g⟩ (.pointer (some ⟨b, q, none⟩)) := Pu.fieldAddr Tryz.runUnderlying32 rfl ty3 hx ho
theorem fa32_2 {e : Operand → Value} {d : Option Nat} {ot : TypeId} {pos : String} {af : Array Edge} {g : Option (Nat × Bool)} {x : Operand} {b o q : Nat} (hx : e x = .pointer (some ⟨b, o, none⟩)) (ho : o + 2 = q) : Pu Tryz.prog e ⟨d, .fieldAddr 32 x 2, ot, pos, af, g⟩ (.pointer (some ⟨b, q, none⟩)) := Pu.fieldAddr Tryz.runUnderlying32 rfl Xm hx ho
theorem Y2 {e : Operand → Value} {d : Option Nat} {ot : TypeId} {pos : String} {af : Array Edge} {g : Option (Nat × Bool)} {x : Operand} {b o q : Nat} (hx : e x = .pointer (some ⟨b, o, none⟩)) (ho : o + 34 = q) : Pu Tryz.prog e ⟨d, .fieldAddr 32 x 3, ot, pos, af, g⟩ (.pointer (some ⟨b, q, none⟩)) := Pu.fieldAddr Tryz.runUnderlying32 rfl Yy hx ho
theorem Xd {e : Operand → Value} {d : Option Nat} {ot : TypeId} {pos : String} {af : Array Edge} {g : Option (Nat × Bool)} {x : Operand} {b o q : Nat} (hx : e x = .pointer (some ⟨b, o, none⟩)) (ho : o + 35 = q) : Pu Tryz.prog e ⟨d, .fieldAddr 32 x 4, ot, pos, af, g⟩ (.pointer (some ⟨b, q, none⟩)) := Pu.fieldAddr Tryz.runUnderlying32 rfl ty29 hx ho
theorem fa32_5 {e : Operand → Value} {d : Option Nat} {ot : TypeId} {pos : String} {af : Array Edge} {g : Option (Nat × Bool)} {x : Operand} {b o q : Nat} (hx : e x = .pointer (some ⟨b, o, none⟩)) (ho : o + 36 = q) : Pu Tryz.prog e ⟨d, .fieldAddr 32 x 5, ot, pos, af, g⟩ (.pointer (some ⟨b, q, none⟩)) := Pu.fieldAddr Tryz.runUnderlying32 rfl ty30 hx ho
theorem fa43_0 {e : Operand → Value} {d : Option Nat} {ot : TypeId} {pos : String} {af : Array Edge} {g : Option (Nat × Bool)} {x : Operand} {b o q : Nat} (hx : e x = .pointer (some ⟨b, o, none⟩)) (ho : o + 0 = q) : Pu Tryz.prog e ⟨d, .fieldAddr 43 x 0, ot, pos, af, g⟩ (.pointer (some ⟨b, q, none⟩)) := Pu.fieldAddr Tryz.runUnderlying43 rfl ty3 hx ho
theorem fa43_1 {e : Operand → Value} {d : Option Nat} {ot : TypeId} {pos : String} {af : Array Edge} {g : Option (Nat × Bool)} {x : Operand} {b o q : Nat} (hx : e x = .pointer (some ⟨b, o, none⟩)) (ho : o + 1 = q) : Pu Tryz.prog e ⟨d, .fieldAddr 43 x 1, ot, pos, af, g⟩ (.pointer (some ⟨b, q, none⟩)) := Pu.fieldAddr Tryz.runUnderlying43 rfl ty3 hx ho
theorem fa43_2 {e : Operand → Value} {d : Option Nat} {ot : TypeId} {pos : String} {af : Array Edge} {g : Option (Nat × Bool)} {x : Operand} {b o q : Nat} (hx : e x = .pointer (some ⟨b, o, none⟩)) (ho : o + 2 = q) : Pu Tryz.prog e ⟨d, .fieldAddr 43 x 2, ot, pos, af, g⟩ (.pointer (some ⟨b, q, none⟩)) := Pu.fieldAddr Tryz.runUnderlying43 rfl Xm hx ho
theorem fa43_3 {e : Operand → Value} {d : Option Nat} {ot : TypeId} {pos : String} {af : Array Edge} {g : Option (Nat × Bool)} {x : Operand} {b o q : Nat} (hx : e x = .pointer (some ⟨b, o, none⟩)) (ho : o + 34 = q) : Pu Tryz.prog e ⟨d, .fieldAddr 43 x 3, ot, pos, af, g⟩ (.pointer (some ⟨b, q, none⟩)) := Pu.fieldAddr Tryz.runUnderlying43 rfl Yy hx ho
theorem fa43_4 {e : Operand → Value} {d : Option Nat} {ot : TypeId} {pos : String} {af : Array Edge} {g : Option (Nat × Bool)} {x : Operand} {b o q : Nat} (hx : e x = .pointer (some ⟨b, o, none⟩)) (ho : o + 35 = q) : Pu Tryz.prog e ⟨d, .fieldAddr 43 x 4, ot, pos, af, g⟩ (.pointer (some ⟨b, q, none⟩)) := Pu.fieldAddr Tryz.runUnderlying43 rfl ty40 hx ho
theorem fa43_5 {e : Operand → Value} {d : Option Nat} {ot : TypeId} {pos : String} {af : Array Edge} {g : Option (Nat × Bool)} {x : Operand} {b o q : Nat} (hx : e x = .pointer (some ⟨b, o, none⟩)) (ho : o + 36 = q) : Pu Tryz.prog e ⟨d, .fieldAddr 43 x 5, ot, pos, af, g⟩ (.pointer (some ⟨b, q, none⟩)) := Pu.fieldAddr Tryz.runUnderlying43 rfl ty41 hx ho
theorem YL {e : Operand → Value} {d : Option Nat} {ot : TypeId} {pos : String} {af : Array Edge} {g : Option (Nat × Bool)} {x : Operand} {b o q : Nat} (hx : e x = .pointer (some ⟨b, o, none⟩)) (ho : o + 0 = q) : Pu Tryz.prog e ⟨d, .fieldAddr 75 x 0, ot, pos, af, g⟩ (.pointer (some ⟨b, q, none⟩)) := Pu.fieldAddr Tryz.runUnderlying75 rfl ty3 hx ho
theorem fa75_1 {e : Operand → Value} {d : Option Nat} {ot : TypeId} {pos : String} {af : Array Edge} {g : Option (Nat × Bool)} {x : Operand} {b o q : Nat} (hx : e x = .pointer (some ⟨b, o, none⟩)) (ho : o + 1 = q) : Pu Tryz.prog e ⟨d, .fieldAddr 75 x 1, ot, pos, af, g⟩ (.pointer (some ⟨b, q, none⟩)) := Pu.fieldAddr Tryz.runUnderlying75 rfl ty3 hx ho
theorem fa75_2 {e : Operand → Value} {d : Option Nat} {ot : TypeId} {pos : String} {af : Array Edge} {g : Option (Nat × Bool)} {x : Operand} {b o q : Nat} (hx : e x = .pointer (some ⟨b, o, none⟩)) (ho : o + 2 = q) : Pu Tryz.prog e ⟨d, .fieldAddr 75 x 2, ot, pos, af, g⟩ (.pointer (some ⟨b, q, none⟩)) := Pu.fieldAddr Tryz.runUnderlying75 rfl Xm hx ho
theorem Yl {e : Operand → Value} {d : Option Nat} {ot : TypeId} {pos : String} {af : Array Edge} {g : Option (Nat × Bool)} {x : Operand} {b o q : Nat} (hx : e x = .pointer (some ⟨b, o, none⟩)) (ho : o + 34 = q) : Pu Tryz.prog e ⟨d, .fieldAddr 75 x 3, ot, pos, af, g⟩ (.pointer (some ⟨b, q, none⟩)) := Pu.fieldAddr Tryz.runUnderlying75 rfl Xv hx ho
theorem Y1 {e : Operand → Value} {d : Option Nat} {ot : TypeId} {pos : String} {af : Array Edge} {g : Option (Nat × Bool)} {x : Operand} {b o q : Nat} (hx : e x = .pointer (some ⟨b, o, none⟩)) (ho : o + 0 = q) : Pu Tryz.prog e ⟨d, .fieldAddr 80 x 0, ot, pos, af, g⟩ (.pointer (some ⟨b, q, none⟩)) := Pu.fieldAddr Tryz.runUnderlying80 rfl Z6 hx ho
theorem fa80_1 {e : Operand → Value} {d : Option Nat} {ot : TypeId} {pos : String} {af : Array Edge} {g : Option (Nat × Bool)} {x : Operand} {b o q : Nat} (hx : e x = .pointer (some ⟨b, o, none⟩)) (ho : o + 35 = q) : Pu Tryz.prog e ⟨d, .fieldAddr 80 x 1, ot, pos, af, g⟩ (.pointer (some ⟨b, q, none⟩)) := Pu.fieldAddr Tryz.runUnderlying80 rfl Zs hx ho
theorem fa85_0 {e : Operand → Value} {d : Option Nat} {ot : TypeId} {pos : String} {af : Array Edge} {g : Option (Nat × Bool)} {x : Operand} {b o q : Nat} (hx : e x = .pointer (some ⟨b, o, none⟩)) (ho : o + 0 = q) : Pu Tryz.prog e ⟨d, .fieldAddr 85 x 0, ot, pos, af, g⟩ (.pointer (some ⟨b, q, none⟩)) := Pu.fieldAddr Tryz.runUnderlying85 rfl Z6 hx ho
theorem fa85_1 {e : Operand → Value} {d : Option Nat} {ot : TypeId} {pos : String} {af : Array Edge} {g : Option (Nat × Bool)} {x : Operand} {b o q : Nat} (hx : e x = .pointer (some ⟨b, o, none⟩)) (ho : o + 35 = q) : Pu Tryz.prog e ⟨d, .fieldAddr 85 x 1, ot, pos, af, g⟩ (.pointer (some ⟨b, q, none⟩)) := Pu.fieldAddr Tryz.runUnderlying85 rfl Yy hx ho
theorem fa85_2 {e : Operand → Value} {d : Option Nat} {ot : TypeId} {pos : String} {af : Array Edge} {g : Option (Nat × Bool)} {x : Operand} {b o q : Nat} (hx : e x = .pointer (some ⟨b, o, none⟩)) (ho : o + 36 = q) : Pu Tryz.prog e ⟨d, .fieldAddr 85 x 2, ot, pos, af, g⟩ (.pointer (some ⟨b, q, none⟩)) := Pu.fieldAddr Tryz.runUnderlying85 rfl Ya hx ho
theorem fa100_0 {e : Operand → Value} {d : Option Nat} {ot : TypeId} {pos : String} {af : Array Edge} {g : Option (Nat × Bool)} {x : Operand} {b o q : Nat} (hx : e x = .pointer (some ⟨b, o, none⟩)) (ho : o + 0 = q) : Pu Tryz.prog e ⟨d, .fieldAddr 100 x 0, ot, pos, af, g⟩ (.pointer (some ⟨b, q, none⟩)) := Pu.fieldAddr Tryz.runUnderlying100 rfl Z6 hx ho
theorem fa100_1 {e : Operand → Value} {d : Option Nat} {ot : TypeId} {pos : String} {af : Array Edge} {g : Option (Nat × Bool)} {x : Operand} {b o q : Nat} (hx : e x = .pointer (some ⟨b, o, none⟩)) (ho : o + 35 = q) : Pu Tryz.prog e ⟨d, .fieldAddr 100 x 1, ot, pos, af, g⟩ (.pointer (some ⟨b, q, none⟩)) := Pu.fieldAddr Tryz.runUnderlying100 rfl Yy hx ho
theorem fa100_2 {e : Operand → Value} {d : Option Nat} {ot : TypeId} {pos : String} {af : Array Edge} {g : Option (Nat × Bool)} {x : Operand} {b o q : Nat} (hx : e x = .pointer (some ⟨b, o, none⟩)) (ho : o + 36 = q) : Pu Tryz.prog e ⟨d, .fieldAddr 100 x 2, ot, pos, af, g⟩ (.pointer (some ⟨b, q, none⟩)) := Pu.fieldAddr Tryz.runUnderlying100 rfl Y8 hx ho
theorem fa114_0 {e : Operand → Value} {d : Option Nat} {ot : TypeId} {pos : String} {af : Array Edge} {g : Option (Nat × Bool)} {x : Operand} {b o q : Nat} (hx : e x = .pointer (some ⟨b, o, none⟩)) (ho : o + 0 = q) : Pu Tryz.prog e ⟨d, .fieldAddr 114 x 0, ot, pos, af, g⟩ (.pointer (some ⟨b, q, none⟩)) := Pu.fieldAddr Tryz.runUnderlying114 rfl ty3 hx ho
theorem fa136_0 {e : Operand → Value} {d : Option Nat} {ot : TypeId} {pos : String} {af : Array Edge} {g : Option (Nat × Bool)} {x : Operand} {b o q : Nat} (hx : e x = .pointer (some ⟨b, o, none⟩)) (ho : o + 0 = q) : Pu Tryz.prog e ⟨d, .fieldAddr 136 x 0, ot, pos, af, g⟩ (.pointer (some ⟨b, q, none⟩)) := Pu.fieldAddr Tryz.runUnderlying136 rfl ty133 hx ho
theorem fa136_1 {e : Operand → Value} {d : Option Nat} {ot : TypeId} {pos : String} {af : Array Edge} {g : Option (Nat × Bool)} {x : Operand} {b o q : Nat} (hx : e x = .pointer (some ⟨b, o, none⟩)) (ho : o + 1 = q) : Pu Tryz.prog e ⟨d, .fieldAddr 136 x 1, ot, pos, af, g⟩ (.pointer (some ⟨b, q, none⟩)) := Pu.fieldAddr Tryz.runUnderlying136 rfl ty134 hx ho
theorem fa141_0 {e : Operand → Value} {d : Option Nat} {ot : TypeId} {pos : String} {af : Array Edge} {g : Option (Nat × Bool)} {x : Operand} {b o q : Nat} (hx : e x = .pointer (some ⟨b, o, none⟩)) (ho : o + 0 = q) : Pu Tryz.prog e ⟨d, .fieldAddr 141 x 0, ot, pos, af, g⟩ (.pointer (some ⟨b, q, none⟩)) := Pu.fieldAddr Tryz.runUnderlying141 rfl ty3 hx ho
theorem fa141_1 {e : Operand → Value} {d : Option Nat} {ot : TypeId} {pos : String} {af : Array Edge} {g : Option (Nat × Bool)} {x : Operand} {b o q : Nat} (hx : e x = .pointer (some ⟨b, o, none⟩)) (ho : o + 1 = q) : Pu Tryz.prog e ⟨d, .fieldAddr 141 x 1, ot, pos, af, g⟩ (.pointer (some ⟨b, q, none⟩)) := Pu.fieldAddr Tryz.runUnderlying141 rfl ty139 hx ho
theorem fa175_0 {e : Operand → Value} {d : Option Nat} {ot : TypeId} {pos : String} {af : Array Edge} {g : Option (Nat × Bool)} {x : Operand} {b o q : Nat} (hx : e x = .pointer (some ⟨b, o, none⟩)) (ho : o + 0 = q) : Pu Tryz.prog e ⟨d, .fieldAddr 175 x 0, ot, pos, af, g⟩ (.pointer (some ⟨b, q, none⟩)) := Pu.fieldAddr Tryz.runUnderlying175 rfl Zs hx ho
theorem fa175_1 {e : Operand → Value} {d : Option Nat} {ot : TypeId} {pos : String} {af : Array Edge} {g : Option (Nat × Bool)} {x : Operand} {b o q : Nat} (hx : e x = .pointer (some ⟨b, o, none⟩)) (ho : o + 36 = q) : Pu Tryz.prog e ⟨d, .fieldAddr 175 x 1, ot, pos, af, g⟩ (.pointer (some ⟨b, q, none⟩)) := Pu.fieldAddr Tryz.runUnderlying175 rfl ty3 hx ho
theorem el3 : El Tryz.prog 3 1 8 (.int .i64 0) := ⟨⟨Tryz.t3, Tryz.typeInfo3, rfl, rfl, rfl⟩, rfl⟩
theorem el4 : El Tryz.prog 4 1 1 (.bool false) := ⟨⟨Tryz.t4, Tryz.typeInfo4, rfl, rfl, rfl⟩, rfl⟩
theorem el9 : El Tryz.prog 9 1 16 (.string ⟨#[]⟩) := ⟨⟨Tryz.t9, Tryz.typeInfo9, rfl, rfl, rfl⟩, rfl⟩
theorem el27 : El Tryz.prog 27 36 96 (.agg ⟨pkT 0 0 zS (.slice none 0 0) (.slice none 0 0)⟩) := ⟨⟨Tryz.t27, Tryz.typeInfo27, rfl, rfl, rfl⟩, rfl⟩
theorem el32 : El Tryz.prog 32 37 120 (.agg ⟨(pkT 0 0 zS (.slice none 0 0) (.slice none 0 0)) ++ [.slice none 0 0]⟩) := ⟨⟨Tryz.t32, Tryz.typeInfo32, rfl, rfl, rfl⟩, rfl⟩
theorem el43 : El Tryz.prog 43 37 120 (.agg ⟨(pkT 0 0 zS (.slice none 0 0) (.slice none 0 0)) ++ [.slice none 0 0]⟩) := ⟨⟨Tryz.t43, Tryz.typeInfo43, rfl, rfl, rfl⟩, rfl⟩
theorem el75 : El Tryz.prog 75 35 72 (.agg ⟨pkP 0 0 zS (.slice none 0 0)⟩) := ⟨⟨Tryz.t75, Tryz.typeInfo75, rfl, rfl, rfl⟩, rfl⟩
theorem el80 : El Tryz.prog 80 71 168 (.agg ⟨(pkP 0 0 zS (.slice none 0 0)) ++ (pkT 0 0 zS (.slice none 0 0) (.slice none 0 0))⟩) := ⟨⟨Tryz.t80, Tryz.typeInfo80, rfl, rfl, rfl⟩, rfl⟩
theorem el85 : El Tryz.prog 85 73 216 (.agg ⟨[.int .i64 0, .int .i64 0, .int .u8 0, .int .u8 0, .int .u8 0, .int .u8 0, .int .u8 0, .int .u8 0, .int .u8 0, .int .u8 0, .int .u8 0, .int .u8 0, .int .u8 0, .int .u8 0, .int .u8 0, .int .u8 0, .int .u8 0, .int .u8 0, .int .u8 0, .int .u8 0, .int .u8 0, .int .u8 0, .int .u8 0, .int .u8 0, .int .u8 0, .int .u8 0, .int .u8 0, .int .u8 0, .int .u8 0, .int .u8 0, .int .u8 0, .int .u8 0, .int .u8 0, .int .u8 0, .slice none 0 0, .slice none 0 0, .int .i64 0, .int .i64 0, .int .u8 0, .int .u8 0, .int .u8 0, .int .u8 0, .int .u8 0, .int .u8 0, .int .u8 0, .int .u8 0, .int .u8 0, .int .u8 0, .int .u8 0, .int .u8 0, .int .u8 0, .int .u8 0, .int .u8 0, .int .u8 0, .int .u8 0, .int .u8 0, .int .u8 0, .int .u8 0, .int .u8 0, .int .u8 0, .int .u8 0, .int .u8 0, .int .u8 0, .int .u8 0, .int .u8 0, .int .u8 0, .int .u8 0, .int .u8 0, .int .u8 0, .int .u8 0, .slice none 0 0, .slice none 0 0, .slice none 0 0]⟩) := ⟨⟨Tryz.t85, Tryz.typeInfo85, rfl, rfl, rfl⟩, rfl⟩
theorem el100 : El Tryz.prog 100 73 216 (.agg ⟨[.int .i64 0, .int .i64 0, .int .u8 0, .int .u8 0, .int .u8 0, .int .u8 0, .int .u8 0, .int .u8 0, .int .u8 0, .int .u8 0, .int .u8 0, .int .u8 0, .int .u8 0, .int .u8 0, .int .u8 0, .int .u8 0, .int .u8 0, .int .u8 0, .int .u8 0, .int .u8 0, .int .u8 0, .int .u8 0, .int .u8 0, .int .u8 0, .int .u8 0, .int .u8 0, .int .u8 0, .int .u8 0, .int .u8 0, .int .u8 0, .int .u8 0, .int .u8 0, .int .u8 0, .int .u8 0, .slice none 0 0, .slice none 0 0, .int .i64 0, .int .i64 0, .int .u8 0, .int .u8 0, .int .u8 0, .int .u8 0, .int .u8 0, .int .u8 0, .int .u8 0, .int .u8 0, .int .u8 0, .int .u8 0, .int .u8 0, .int .u8 0, .int .u8 0, .int .u8 0, .int .u8 0, .int .u8 0, .int .u8 0, .int .u8 0, .int .u8 0, .int .u8 0, .int .u8 0, .int .u8 0, .int .u8 0, .int .u8 0, .int .u8 0, .int .u8 0, .int .u8 0, .int .u8 0, .int .u8 0, .int .u8 0, .int .u8 0, .int .u8 0, .slice none 0 0, .slice none 0 0, .slice none 0 0]⟩) := ⟨⟨Tryz.t100, Tryz.typeInfo100, rfl, rfl, rfl⟩, rfl⟩
theorem bld23_ : ∀ w, (Instr.build 23 ⟨[]⟩).run Tryz.prog w = .ok (.agg ⟨sC zS⟩) w := run_buildA Tryz.zeroValue23 Tryz.runUnderlying23 Tryz.sizeOf5 rfl
theorem pl27 (w : World) : (Sem.run Tryz.prog ((#[{ name := "Kind", type := 3, offset := 0, embedded := false, tag := "", pkgPath := "", byteOffset := 0 }, { name := "Num", type := 3, offset := 1, embedded := false, tag := "", pkgPath := "", byteOffset := 8 }, { name := "Ref", type := 23, offset := 2, embedded := false, tag := "", pkgPath := "", byteOffset := 16 }, { name := "Kids", type := 24, offset := 34, embedded := false, tag := "", pkgPath := "", byteOffset := 48 }, { name := "Cases", type := 25, offset := 35, embedded := false, tag := "", pkgPath := "", byteOffset := 72 }] : Array Field).mapM fun f => (do pure (f.offset, ← Go.sizeOf f.type) : Sem (Nat × Nat))) w) = .ok #[(0, 1), (1, 1), (2, 32), (34, 1), (35, 1)] w := by simp [Tryz.sizeOf23, Tryz.sizeOf24, Tryz.sizeOf25, Tryz.sizeOf3]
theorem YR : ∀ w, (Instr.build 27 ⟨[]⟩).run Tryz.prog w = .ok (.agg ⟨pkT 0 0 zS (.slice none 0 0) (.slice none 0 0)⟩) w := Z4 Tryz.zeroValue27 Tryz.runUnderlying27 pl27 rfl
theorem bld27_0 (k : Int) : ∀ w, (Instr.build 27 ⟨[(0, .int .i64 k)]⟩).run Tryz.prog w = .ok (.agg ⟨pkT k 0 zS (.slice none 0 0) (.slice none 0 0)⟩) w := Z4 Tryz.zeroValue27 Tryz.runUnderlying27 pl27 (by kernel_rfl)
theorem bld27_0_1 (k : Int) (n : Int) : ∀ w, (Instr.build 27 ⟨[(0, .int .i64 k), (1, .int .i64 n)]⟩).run Tryz.prog w = .ok (.agg ⟨pkT k n zS (.slice none 0 0) (.slice none 0 0)⟩) w := Z4 Tryz.zeroValue27 Tryz.runUnderlying27 pl27 (by kernel_rfl)
theorem bld27_0_1_2 (k : Int) (n : Int) (r : Sm) : ∀ w, (Instr.build 27 ⟨[(0, .int .i64 k), (1, .int .i64 n), (2, .agg ⟨sC r⟩)]⟩).run Tryz.prog w = .ok (.agg ⟨pkT k n r (.slice none 0 0) (.slice none 0 0)⟩) w := Z4 Tryz.zeroValue27 Tryz.runUnderlying27 pl27 (by kernel_rfl)
theorem bld27_0_2_3 (k : Int) (r : Sm) (a3 : Option Addr) (n3 c3 : Nat) : ∀ w, (Instr.build 27 ⟨[(0, .int .i64 k), (2, .agg ⟨sC r⟩), (3, (.slice a3 n3 c3))]⟩).run Tryz.prog w = .ok (.agg ⟨pkT k 0 r (.slice a3 n3 c3) (.slice none 0 0)⟩) w := Z4 Tryz.zeroValue27 Tryz.runUnderlying27 pl27 (by kernel_rfl)
theorem bld27_0_3 (k : Int) (a3 : Option Addr) (n3 c3 : Nat) : ∀ w, (Instr.build 27 ⟨[(0, .int .i64 k), (3, (.slice a3 n3 c3))]⟩).run Tryz.prog w = .ok (.agg ⟨pkT k 0 zS (.slice a3 n3 c3) (.slice none 0 0)⟩) w := Z4 Tryz.zeroValue27 Tryz.runUnderlying27 pl27 (by kernel_rfl)
theorem bld27_0_3_4 (k : Int) (a3 : Option Addr) (n3 c3 : Nat) (a4 : Option Addr) (n4 c4 : Nat) : ∀ w, (Instr.build 27 ⟨[(0, .int .i64 k), (3, (.slice a3 n3 c3)), (4, (.slice a4 n4 c4))]⟩).run Tryz.prog w = .ok (.agg ⟨pkT k 0 zS (.slice a3 n3 c3) (.slice a4 n4 c4)⟩) w := Z4 Tryz.zeroValue27 Tryz.runUnderlying27 pl27 (by kernel_rfl)
theorem pl32 (w : World) : (Sem.run Tryz.prog ((#[{ name := "Kind", type := 3, offset := 0, embedded := false, tag := "", pkgPath := "", byteOffset := 0 }, { name := "Num", type := 3, offset := 1, embedded := false, tag := "", pkgPath := "", byteOffset := 8 }, { name := "Ref", type := 23, offset := 2, embedded := false, tag := "", pkgPath := "", byteOffset := 16 }, { name := "Names", type := 28, offset := 34, embedded := false, tag := "", pkgPath := "", byteOffset := 48 }, { name := "Kids", type := 29, offset := 35, embedded := false, tag := "", pkgPath := "", byteOffset := 72 }, { name := "Cases", type := 30, offset := 36, embedded := false, tag := "", pkgPath := "", byteOffset := 96 }] : Array Field).mapM fun f => (do pure (f.offset, ← Go.sizeOf f.type) : Sem (Nat × Nat))) w) = .ok #[(0, 1), (1, 1), (2, 32), (34, 1), (35, 1), (36, 1)] w := by simp [Tryz.sizeOf23, Tryz.sizeOf28, Tryz.sizeOf29, Tryz.sizeOf3, Tryz.sizeOf30]
theorem bld32_ : ∀ w, (Instr.build 32 ⟨[]⟩).run Tryz.prog w = .ok (.agg ⟨(pkT 0 0 zS (.slice none 0 0) (.slice none 0 0)) ++ [.slice none 0 0]⟩) w := Z4 Tryz.zeroValue32 Tryz.runUnderlying32 pl32 rfl
theorem bld32_0_1_2 (k : Int) (n : Int) (r : Sm) : ∀ w, (Instr.build 32 ⟨[(0, .int .i64 k), (1, .int .i64 n), (2, .agg ⟨sC r⟩)]⟩).run Tryz.prog w = .ok (.agg ⟨(pkT k n r (.slice none 0 0) (.slice none 0 0)) ++ [.slice none 0 0]⟩) w := Z4 Tryz.zeroValue32 Tryz.runUnderlying32 pl32 (by kernel_rfl)
theorem pl43 (w : World) : (Sem.run Tryz.prog ((#[{ name := "Kind", type := 3, offset := 0, embedded := false, tag := "", pkgPath := "", byteOffset := 0 }, { name := "Num", type := 3, offset := 1, embedded := false, tag := "", pkgPath := "", byteOffset := 8 }, { name := "Ref", type := 23, offset := 2, embedded := false, tag := "", pkgPath := "", byteOffset := 16 }, { name := "Names", type := 28, offset := 34, embedded := false, tag := "", pkgPath := "", byteOffset := 48 }, { name := "Kids", type := 40, offset := 35, embedded := false, tag := "", pkgPath := "", byteOffset := 72 }, { name := "Cases", type := 41, offset := 36, embedded := false, tag := "", pkgPath := "", byteOffset := 96 }] : Array Field).mapM fun f => (do pure (f.offset, ← Go.sizeOf f.type) : Sem (Nat × Nat))) w) = .ok #[(0, 1), (1, 1), (2, 32), (34, 1), (35, 1), (36, 1)] w := by simp [Tryz.sizeOf23, Tryz.sizeOf28, Tryz.sizeOf3, Tryz.sizeOf40, Tryz.sizeOf41]
theorem bld43_ : ∀ w, (Instr.build 43 ⟨[]⟩).run Tryz.prog w = .ok (.agg ⟨(pkT 0 0 zS (.slice none 0 0) (.slice none 0 0)) ++ [.slice none 0 0]⟩) w := Z4 Tryz.zeroValue43 Tryz.runUnderlying43 pl43 rfl
theorem pl75 (w : World) : (Sem.run Tryz.prog ((#[{ name := "Kind", type := 3, offset := 0, embedded := false, tag := "", pkgPath := "", byteOffset := 0 }, { name := "Num", type := 3, offset := 1, embedded := false, tag := "", pkgPath := "", byteOffset := 8 }, { name := "Ref", type := 23, offset := 2, embedded := false, tag := "", pkgPath := "", byteOffset := 16 }, { name := "Kids", type := 73, offset := 34, embedded := false, tag := "", pkgPath := "", byteOffset := 48 }] : Array Field).mapM fun f => (do pure (f.offset, ← Go.sizeOf f.type) : Sem (Nat × Nat))) w) = .ok #[(0, 1), (1, 1), (2, 32), (34, 1)] w := by simp [Tryz.sizeOf23, Tryz.sizeOf3, Tryz.sizeOf73]
theorem bld75_0 (k : Int) : ∀ w, (Instr.build 75 ⟨[(0, .int .i64 k)]⟩).run Tryz.prog w = .ok (.agg ⟨pkP k 0 zS (.slice none 0 0)⟩) w := Z4 Tryz.zeroValue75 Tryz.runUnderlying75 pl75 (by kernel_rfl)
theorem bld75_0_1_2 (k : Int) (n : Int) (r : Sm) : ∀ w, (Instr.build 75 ⟨[(0, .int .i64 k), (1, .int .i64 n), (2, .agg ⟨sC r⟩)]⟩).run Tryz.prog w = .ok (.agg ⟨pkP k n r (.slice none 0 0)⟩) w := Z4 Tryz.zeroValue75 Tryz.runUnderlying75 pl75 (by kernel_rfl)
theorem pl80 (w : World) : (Sem.run Tryz.prog ((#[{ name := "Pat", type := 75, offset := 0, embedded := false, tag := "", pkgPath := "", byteOffset := 0 }, { name := "Body", type := 27, offset := 35, embedded := false, tag := "", pkgPath := "", byteOffset := 72 }] : Array Field).mapM fun f => (do pure (f.offset, ← Go.sizeOf f.type) : Sem (Nat × Nat))) w) = .ok #[(0, 35), (35, 36)] w := by simp [Tryz.sizeOf27, Tryz.sizeOf75]
theorem bld80_ : ∀ w, (Instr.build 80 ⟨[]⟩).run Tryz.prog w = .ok (.agg ⟨(pkP 0 0 zS (.slice none 0 0)) ++ (pkT 0 0 zS (.slice none 0 0) (.slice none 0 0))⟩) w := Z4 Tryz.zeroValue80 Tryz.runUnderlying80 pl80 rfl
theorem bld80_0_1 {p t : List Value} (hp : p.length = 35) (ht : t.length = 36) : ∀ w, (Instr.build 80 ⟨[(0, .agg ⟨p⟩), (1, .agg ⟨t⟩)]⟩).run Tryz.prog w = .ok (.agg ⟨p ++ t⟩) w := Z4 Tryz.zeroValue80 Tryz.runUnderlying80 pl80 (YQ (pre := []) (mid := pkP 0 0 zS (.slice none 0 0)) (post := pkT 0 0 zS (.slice none 0 0) (.slice none 0 0)) rfl rfl hp rfl rfl (by have := YQ (place := (#[(0, 35), (35, 36)][·]?)) (i := 1) (v := .agg ⟨t⟩) (rest := []) (pre := p) (mid := pkT 0 0 zS (.slice none 0 0) (.slice none 0 0)) (post := []) rfl rfl ht hp rfl rfl; simpa [Instr.fill] using this))
theorem pl85 (w : World) : (Sem.run Tryz.prog ((#[{ name := "Pat", type := 75, offset := 0, embedded := false, tag := "", pkgPath := "", byteOffset := 0 }, { name := "Names", type := 28, offset := 35, embedded := false, tag := "", pkgPath := "", byteOffset := 72 }, { name := "Body", type := 32, offset := 36, embedded := false, tag := "", pkgPath := "", byteOffset := 96 }] : Array Field).mapM fun f => (do pure (f.offset, ← Go.sizeOf f.type) : Sem (Nat × Nat))) w) = .ok #[(0, 35), (35, 1), (36, 37)] w := by simp [Tryz.sizeOf28, Tryz.sizeOf32, Tryz.sizeOf75]
theorem pl100 (w : World) : (Sem.run Tryz.prog ((#[{ name := "Pat", type := 75, offset := 0, embedded := false, tag := "", pkgPath := "", byteOffset := 0 }, { name := "Names", type := 28, offset := 35, embedded := false, tag := "", pkgPath := "", byteOffset := 72 }, { name := "Body", type := 43, offset := 36, embedded := false, tag := "", pkgPath := "", byteOffset := 96 }] : Array Field).mapM fun f => (do pure (f.offset, ← Go.sizeOf f.type) : Sem (Nat × Nat))) w) = .ok #[(0, 35), (35, 1), (36, 37)] w := by simp [Tryz.sizeOf28, Tryz.sizeOf43, Tryz.sizeOf75]
theorem pl114 (w : World) : (Sem.run Tryz.prog ((#[{ name := "count", type := 3, offset := 0, embedded := false, tag := "", pkgPath := "hoarstone/term", byteOffset := 0 }] : Array Field).mapM fun f => (do pure (f.offset, ← Go.sizeOf f.type) : Sem (Nat × Nat))) w) = .ok #[(0, 1)] w := by simp [Tryz.sizeOf3]
theorem bld114_ : ∀ w, (Instr.build 114 ⟨[]⟩).run Tryz.prog w = .ok (.agg ⟨[.int .i64 0]⟩) w := Z4 Tryz.zeroValue114 Tryz.runUnderlying114 pl114 rfl
theorem pl136 (w : World) : (Sem.run Tryz.prog ((#[{ name := "variable", type := 133, offset := 0, embedded := false, tag := "", pkgPath := "hoarstone/term", byteOffset := 0 }, { name := "ref", type := 134, offset := 1, embedded := false, tag := "", pkgPath := "hoarstone/term", byteOffset := 8 }] : Array Field).mapM fun f => (do pure (f.offset, ← Go.sizeOf f.type) : Sem (Nat × Nat))) w) = .ok #[(0, 1), (1, 1)] w := by simp [Tryz.sizeOf133, Tryz.sizeOf134]
theorem bld136_0_1 (a0 : Fn) (x0 y0 : Array Value) (a1 : Fn) (x1 y1 : Array Value) : ∀ w, (Instr.build 136 ⟨[(0, .func a0 x0 y0), (1, .func a1 x1 y1)]⟩).run Tryz.prog w = .ok (.agg ⟨[.func a0 x0 y0, .func a1 x1 y1]⟩) w := Z4 Tryz.zeroValue136 Tryz.runUnderlying136 pl136 (by kernel_rfl)
theorem pl141 (w : World) : (Sem.run Tryz.prog ((#[{ name := "members", type := 3, offset := 0, embedded := false, tag := "", pkgPath := "hoarstone/term", byteOffset := 0 }, { name := "known", type := 139, offset := 1, embedded := false, tag := "", pkgPath := "hoarstone/term", byteOffset := 8 }] : Array Field).mapM fun f => (do pure (f.offset, ← Go.sizeOf f.type) : Sem (Nat × Nat))) w) = .ok #[(0, 1), (1, 1)] w := by simp [Tryz.sizeOf139, Tryz.sizeOf3]
theorem bld141_0_1 (a0 : Int) (a1 : Fn) (x1 y1 : Array Value) : ∀ w, (Instr.build 141 ⟨[(0, .int .i64 a0), (1, .func a1 x1 y1)]⟩).run Tryz.prog w = .ok (.agg ⟨[.int .i64 a0, .func a1 x1 y1]⟩) w := Z4 Tryz.zeroValue141 Tryz.runUnderlying141 pl141 (by kernel_rfl)
theorem pl175 (w : World) : (Sem.run Tryz.prog ((#[{ name := "Term", type := 27, offset := 0, embedded := true, tag := "", pkgPath := "", byteOffset := 0 }, { name := "more", type := 3, offset := 36, embedded := false, tag := "", pkgPath := "hoarstone/term", byteOffset := 96 }] : Array Field).mapM fun f => (do pure (f.offset, ← Go.sizeOf f.type) : Sem (Nat × Nat))) w) = .ok #[(0, 36), (36, 1)] w := by simp [Tryz.sizeOf27, Tryz.sizeOf3]
theorem bld175_0_1 {t : List Value} {m : Int} (ht : t.length = 36) : ∀ w, (Instr.build 175 ⟨[(0, .agg ⟨t⟩), (1, .int .i64 m)]⟩).run Tryz.prog w = .ok (.agg ⟨t ++ [.int .i64 m]⟩) w := Z4 Tryz.zeroValue175 Tryz.runUnderlying175 pl175 (YQ (pre := []) (mid := pkT 0 0 zS (.slice none 0 0) (.slice none 0 0)) (post := [.int .i64 0]) rfl rfl ht rfl rfl (by have := YQ (place := (#[(0, 36), (36, 1)][·]?)) (i := 1) (v := .int .i64 m) (rest := []) (pre := t) (mid := [.int .i64 0]) (post := []) rfl rfl rfl ht rfl rfl; simpa [Instr.fill] using this))
theorem bld196_ : ∀ w, (Instr.build 196 ⟨[]⟩).run Tryz.prog w = .ok (.agg ⟨[.bool false, .bool false, .bool false]⟩) w := run_buildA Tryz.zeroValue196 Tryz.runUnderlying196 Tryz.sizeOf4 rfl
theorem bld196_0_1_2 (a0 a1 a2 : Bool) : ∀ w, (Instr.build 196 ⟨[(0, .bool a0), (1, .bool a1), (2, .bool a2)]⟩).run Tryz.prog w = .ok (.agg ⟨[.bool a0, .bool a1, .bool a2]⟩) w := run_buildA Tryz.zeroValue196 Tryz.runUnderlying196 Tryz.sizeOf4 rfl
theorem eqS {e : Operand → Value} {d : Option Nat} {ot : TypeId} {pos : String} {af : Array Edge} {g : Option (Nat × Bool)} {T' : TypeId} {x y : Operand} {r s : Sm} (hx : e x = .agg ⟨sC r⟩) (hy : e y = .agg ⟨sC s⟩) : Pu Tryz.prog e ⟨d, .binOp .eql 23 x y T', ot, pos, af, g⟩ (.bool (decide (r = s))) := Pu_eqlSum Tryz.eqGuardType23 Tryz.underlying23 Tryz.underlying5 Tryz.sizeOf5 hx hy
theorem neqS {e : Operand → Value} {d : Option Nat} {ot : TypeId} {pos : String} {af : Array Edge} {g : Option (Nat × Bool)} {T' : TypeId} {x y : Operand} {r s : Sm} (hx : e x = .agg ⟨sC r⟩) (hy : e y = .agg ⟨sC s⟩) : Pu Tryz.prog e ⟨d, .binOp .neq 23 x y T', ot, pos, af, g⟩ (.bool (!decide (r = s))) := Pu_neqSum Tryz.eqGuardType23 Tryz.underlying23 Tryz.underlying5 Tryz.sizeOf5 hx hy
theorem neqB3 {e : Operand → Value} {d : Option Nat} {ot : TypeId} {pos : String} {af : Array Edge} {g : Option (Nat × Bool)} {T' : TypeId} {x y : Operand} {a b c a' b' c' : Bool} (hx : e x = .agg ⟨[.bool a, .bool b, .bool c]⟩) (hy : e y = .agg ⟨[.bool a', .bool b', .bool c']⟩) : Pu Tryz.prog e ⟨d, .binOp .neq 196 x y T', ot, pos, af, g⟩ (.bool (!(a == a' && (b == b' && c == c')))) := Pu_neqB3 Tryz.eqGuardType196 Tryz.underlying196 Tryz.underlying4 Tryz.sizeOf4 hx hy
theorem mixed : Tryz.prog.follows .mixedOrders = true := Tryz.checked.mixed
end Go.Proofs.YtmophpgiaiemhaaGreat.Hs
/-! A term with names that is not too wide is small. -/
namespace Go.Proofs.YtmophpgiaiemhaaGreat.Hs
open Go Go.Proofs
theorem gtW_size {p : Pt} (h : gtW p = false) : sizeP p ≤ 400 := by
  have := great_size (t := ofP p) h
  rw [size_of] at this
  omega
theorem anyW_sz {α : Type} {step : α → Int → Bool × Int} {w : α → Nat} {l : List α} (h : ∀ x ∈ l, ∀ n, 0 ≤ n → (step x n).1 = false → 0 ≤ (step x n).2 ∧ (w x : Int) ≤ 401 * ((step x n).2 - n)) :
    ∀ n, 0 ≤ n → (ZP step l n).1 = false → 0 ≤ (ZP step l n).2 ∧ ((l.map w).sum : Int) ≤ 401 * ((ZP step l n).2 - n) := by
  induction l with
  | nil => intro n h0 _; rw [ZP]; simp; exact h0
  | cons x l ih =>
    intro n h0 hf
    rw [ZP] at hf ⊢
    by_cases e : (step x n).1 = true
    · rw [if_pos e] at hf; cases hf
    · rw [if_neg e] at hf ⊢
      have q1 := h x (by simp) n h0 (Bool.eq_false_iff.2 e)
      have q2 := ih (fun y hy => h y (by simp [hy])) _ q1.1 hf
      refine ⟨q2.1, ?_⟩
      simp only [List.map_cons, List.sum_cons]
      omega
theorem wnNs_sum (l : List Nm) : wnNs l = (l.map wnN).sum := by
  induction l with
  | nil => rfl
  | cons x l ih => rw [wnNs, ih]; rfl
theorem wnNCs_sum (l : List (Pt × List ByteArray × Nm)) : Xf l = (l.map (fun c => sizeP c.1 + c.2.1.length + wnN c.2.2)).sum := by
  induction l with
  | nil => rfl
  | cons x l ih => obtain ⟨p, m, x⟩ := x; rw [Xf, ih]; rfl
theorem wd_sz (t : Nm) : ∀ n, 0 ≤ n → (wdN t n).1 = false → (wnN t : Int) + 400 ≤ 401 * ((wdN t n).2 - n) := by
  induction t using Nm.ind with
  | h k m r ns kids cases ih ih' =>
    intro n h0 h
    rw [wdN_eq] at h ⊢
    by_cases h1 : 900 < n + (1 + (ns.length : Int))
    · rw [if_pos h1] at h; cases h
    · rw [if_neg h1] at h ⊢
      by_cases h2 : ns.any Xt = true
      · rw [if_pos h2] at h; cases h
      · rw [if_neg h2] at h ⊢
        by_cases h3 : (ZP wdN kids (n + (1 + (ns.length : Int)))).1 = true
        · rw [if_pos h3] at h; cases h
        · rw [if_neg h3] at h ⊢
          have q := anyW_sz (step := wdN) (w := wnN) (l := kids) (fun x hx s hs hf => ⟨(wdN_keep x s hs hf).1, by have := ih x hx s hs hf; omega⟩) (n + (1 + (ns.length : Int))) (by omega) (Bool.eq_false_iff.2 h3)
          have q' := anyW_sz (step := wdC) (w := fun c => sizeP c.1 + c.2.1.length + wnN c.2.2) (l := cases) (fun c hc s hs hf => ⟨(wdC_keep c s hs hf).1, by
            unfold wdC at hf ⊢
            by_cases h4 : gtW c.1 = true ∨ c.2.1.any Xt = true
            · rw [if_pos h4] at hf; cases hf
            · rw [if_neg h4] at hf ⊢
              have := ih' c hc _ (by omega) hf
              have := gtW_size (Bool.eq_false_iff.2 (fun z => h4 (.inl z)))
              omega⟩) _ q.1 h
          rw [wnN, wnNs_sum, wnNCs_sum]
          omega
theorem wd_small {t : Nm} (h : (wdN t 0).1 = false) : wnN t ≤ 361000 := by
  have h1 := wd_sz t 0 (by omega) h
  have h2 := wdN_keep t 0 (by omega) h
  omega
end Go.Proofs.YtmophpgiaiemhaaGreat.Hs
/-! Terms that are drawn, in Xo Lean: nodes that are right where their parts are. No program here. -/
namespace Go.Proofs.YtmophpgiaiemhaaGreat.Hs
open Go
section
variable {d m : Int} {t u : Tm} {r : Sm} {n : Int}
end
end Go.Proofs.YtmophpgiaiemhaaGreat.Hs
/-! Layer 4, the Xo law of moving: what Shift and Subst answer about terms that are right. No program here. -/
namespace Go.Proofs.YtmophpgiaiemhaaGreat.Hs
open Go Go.Proofs
section
variable {d m : Int} {t u : Tm} {n k y : Int}
end
/-! two terms put, in either order -/
section
variable {t u v : Tm} (ht : YB 4 2 t = 0) (hu : YB 2 2 u = 0) (hv : YB 2 2 v = 0)
include ht hu
end
end Go.Proofs.YtmophpgiaiemhaaGreat.Hs
/-! Name and Nameless, one behind the other. -/
namespace Go.Proofs.YtmophpgiaiemhaaGreat.Hs
open Go Go.Proofs
set_option maxRecDepth 100000
section
variable {t u : Tm} (h : YB 4 2 t = 0)
include h
end
/-- what is owned is read somewhere -/
theorem strR.any {T : TypeId} {v : Value} {l : List ByteArray} {k : Zj} (H : Heap) (o : Own T 1 v (Z0 l) k) (hn : l.length ≤ 9223372036854775807) : ∃ h, strR h v l := by
  rcases id o.2 with ⟨rfl, h1, _⟩ | ⟨b, cap, sp, rfl, rfl, h3, h4⟩
  · have : l = [] := by cases l; rfl; simp [Z0] at h1
    subst this; exact ⟨H, strR.nil⟩
  · exact ⟨⟨fun i => if i = b then some (Obj.cells ⟨(Z0 l).flatten ++ sp⟩ T (0, 0)) else none, H.os, H.out⟩, strR.own o hn (fun i o' hi => by
      rw [List.mem_singleton] at hi
      cases hi
      simp)⟩
end Go.Proofs.YtmophpgiaiemhaaGreat.Hs
/-! What the law asks of names: how long they are. -/
namespace Go.Proofs.YtmophpgiaiemhaaGreat.Hs
open Go Go.Proofs
set_option maxRecDepth 100000
end Go.Proofs.YtmophpgiaiemhaaGreat.Hs
/-! Terms with names of the reference's types, owned. -/
namespace Go.Proofs.YtmophpgiaiemhaaGreat.Hs
open Go
/-- a part of a slice of strings -/
theorem strR.cut {h : Heap} {a : Option Addr} {N cap : Nat} {l : List ByteArray} (r : strR h (.slice a N cap) l) (n m : Nat) (hn : n ≤ l.length) (hm : m ≤ l.length - n) : strR h (.slice (if cap = n then a else a.map (·.add (n * 1))) m (cap - n)) ((l.drop n).take m) := by
  have hd := r.drop n hn
  have := strR.take hd m (by rw [List.length_drop]; exact hm)
  have ea : ∀ (q : Nat) (a' : Option Addr), (if q = 0 then a' else a'.map (·.add (0 * 1))) = a' := by
    intro q a'
    cases a' with
    | none => simp
    | some a' => simp [Addr.add]
  rw [ea] at this
  exact this
section
variable {c : Cx} {H : Heap} {ρ : Nat → Value} {M : List Zj} {K : Value → List Zj → Prop} {d : Option Nat} {ot : TypeId} {pos : String} {af : Array Edge} {g : Option (Nat × Bool)} {x y z : Operand}
theorem Runs_cutS {T el : TypeId} {k k' : IntKind} {v : Value} {l : List ByteArray} {H0 : Heap} {n m : Nat} {i j : Int} (hp : strR H0 v l) (hi : i = (n : Int)) (hj : j = (n : Int) + (m : Int)) (hn : n + m ≤ l.length) (hT : ∀ w, (underlying T).run c.P w = .ok (.slice el) w) (hsz : ∀ w, (sizeOf el).run c.P w = .ok 1 w) (hx : ev c.n ρ x = v) (hy : ev c.n ρ y = .int k i) (hz : ev c.n ρ z = .int k' j)
    (h : ∀ u, (∀ h, strR h v l → strR h u ((l.drop n).take m)) → K u M) : Runs c H ⟨d, .slice T x (some y) (some z) none, ot, pos, af, g⟩ ρ M K := fun F w mm => by
  subst hi
  obtain ⟨q, hq⟩ : ∃ q, q = n + m := ⟨_, rfl⟩
  have hj : j = (q : Int) := by omega
  subst hj
  obtain ⟨a, cap, rfl, h1, h2⟩ := hp
  refine ⟨_, w, M, .inl ?_, mm, h (.slice (if cap = n then a else a.map (·.add (n * 1))) m (cap - n)) (fun h' q => q.cut n m (by omega) (by omega))⟩
  have h3 : q ≤ cap := by omega
  have h4 : n ≤ q := by omega
  have h6 : q - n = m := by omega
  simp [execOp, Instr.sliceAt, Instr.slice, Instr.sliceBounds, Instr.sliceBound, asIntOf, hx, hy, hz, hT, hsz, Result.andThen, h3, h4, h6]
end
mutual
def OM : Nm → List Value → Zj → Prop
  | .mk k n r ns kids cases, cs, c => ∃ nv ks cv es es' k0 k1 k2 k3 k4, cs = pkN k n r nv ks cv ∧ inI k ∧ inI n ∧ Own 9 1 nv (Z0 ns) k0 ∧ Own 43 37 ks es k1 ∧ OMs kids es k2 ∧ Own 100 73 cv es' k3 ∧ OMCs cases es' k4 ∧ c = k0 ++ (k1 ++ (k2 ++ (k3 ++ k4))) ∧
      ns.length ≤ 9223372036854775807 ∧ kids.length ≤ 9223372036854775807 ∧ cases.length ≤ 9223372036854775807
def OMs : List Nm → List (List Value) → Zj → Prop
  | [], es, c => es = [] ∧ c = []
  | p :: ps, es, c => ∃ e es' k k', es = e :: es' ∧ OM p e k ∧ OMs ps es' k' ∧ c = k ++ k'
def OMCs : List (Pt × List ByteArray × Nm) → List (List Value) → Zj → Prop
  | [], es, c => es = [] ∧ c = []
  | (p, m, t) :: ps, es, c => ∃ a v b es' ka km kb k', es = (a ++ ([v] ++ b)) :: es' ∧ OP p a ka ∧ Own 9 1 v (Z0 m) km ∧ m.length ≤ 9223372036854775807 ∧ OM t b kb ∧ OMCs ps es' k' ∧ c = ka ++ (km ++ (kb ++ k'))
end
theorem OM_mk {k n : Int} {r : Sm} {ns : List ByteArray} {kids : List Nm} {cases : List (Pt × List ByteArray × Nm)} {cs : List Value} {c : Zj} : OM (.mk k n r ns kids cases) cs c ↔ ∃ nv ks cv es es' k0 k1 k2 k3 k4, cs = pkN k n r nv ks cv ∧ inI k ∧ inI n ∧ Own 9 1 nv (Z0 ns) k0 ∧ Own 43 37 ks es k1 ∧ OMs kids es k2 ∧ Own 100 73 cv es' k3 ∧ OMCs cases es' k4 ∧ c = k0 ++ (k1 ++ (k2 ++ (k3 ++ k4))) ∧
      ns.length ≤ 9223372036854775807 ∧ kids.length ≤ 9223372036854775807 ∧ cases.length ≤ 9223372036854775807 := by
  rw [OM]
theorem OMs_len {l : List Nm} : ∀ {es c}, OMs l es c → es.length = l.length := by
  induction l with
  | nil => rintro es c h; rw [OMs] at h; rw [h.1]; rfl
  | cons p l ih => intro es c h; rw [OMs] at h; obtain ⟨e, es', k, k', rfl, _, h, _⟩ := h; simp [ih h]
theorem OMCs_len {l : List (Pt × List ByteArray × Nm)} : ∀ {es c}, OMCs l es c → es.length = l.length := by
  induction l with
  | nil => rintro es c h; rw [OMCs] at h; rw [h.1]; rfl
  | cons p l ih => intro es c h; obtain ⟨p, m, t⟩ := p; rw [OMCs] at h; obtain ⟨a, v, b, es', ka, km, kb, k', rfl, _, _, _, _, h, _⟩ := h; simp [ih h]
theorem OMs.nil : OMs [] [] [] := by rw [OMs]; exact ⟨rfl, rfl⟩
theorem OMCs.nil : OMCs [] [] [] := by rw [OMCs]; exact ⟨rfl, rfl⟩
theorem OMs.snoc {l : List Nm} {p : Nm} {e : List Value} {k : Zj} (h' : OM p e k) : ∀ {es c}, OMs l es c → OMs (l ++ [p]) (es ++ [e]) (c ++ k) := by
  induction l with
  | nil => intro es c h; rw [OMs] at h; rw [h.1, h.2]; simp only [List.nil_append]; rw [OMs]; exact ⟨e, [], k, [], rfl, h', OMs.nil, by simp⟩
  | cons q l ih =>
    intro es c h
    rw [OMs] at h
    obtain ⟨f, es', k1, k2, rfl, h1, h2, rfl⟩ := h
    simp only [List.cons_append]
    rw [OMs]
    exact ⟨f, _, k1, _, rfl, h1, ih h2, by rw [List.append_assoc]⟩
theorem OMCs.snoc {l : List (Pt × List ByteArray × Nm)} {p : Pt} {m : List ByteArray} {t : Nm} {a b : List Value} {v : Value} {ka km kb : Zj} (hp : OP p a ka) (hm : Own 9 1 v (Z0 m) km) (hl : m.length ≤ 9223372036854775807) (ht : OM t b kb) : ∀ {es c}, OMCs l es c → OMCs (l ++ [(p, m, t)]) (es ++ [a ++ ([v] ++ b)]) (c ++ (ka ++ (km ++ kb))) := by
  induction l with
  | nil => intro es c h; rw [OMCs] at h; rw [h.1, h.2]; simp only [List.nil_append]; rw [OMCs]; exact ⟨a, v, b, [], ka, km, kb, [], rfl, hp, hm, hl, ht, OMCs.nil, by simp⟩
  | cons q l ih =>
    intro es c h
    obtain ⟨q, n, u⟩ := q
    rw [OMCs] at h
    obtain ⟨a', v', b', es', k1, k0, k2, k3, rfl, h1, h0, h00, h2, h3, rfl⟩ := h
    simp only [List.cons_append]
    rw [OMCs]
    exact ⟨a', v', b', _, k1, k0, k2, _, rfl, h1, h0, h00, h2, ih h3, by simp only [List.append_assoc]⟩
theorem OM.len {t : Nm} {cs : List Value} {c : Zj} (h : OM t cs c) : cs.length = 37 := by cases t; obtain ⟨_, _, _, _, _, _, _, _, _, _, rfl, _⟩ := OM_mk.1 h; rfl
theorem OM.ok {t : Nm} {cs : List Value} {c : Zj} (h : OM t cs c) : okc cs := by cases t; obtain ⟨_, _, _, _, _, _, _, _, _, _, rfl, _, _, h0, h, _, h', _⟩ := OM_mk.1 h; exact YZ h0.one h.one h'.one
theorem OMs_rows {h : Heap} {l : List Nm} (ih : ∀ p ∈ l, ∀ cs c, OM p cs c → Has c h → RN h cs p) : ∀ {es c}, OMs l es c → Has c h → ∀ i (h1 : i < es.length) (h2 : i < l.length), RN h es[i] l[i] := by
  induction l with
  | nil => intro es c _ _ i _ h2; exact absurd h2 (by simp)
  | cons p l ih' =>
    intro es c ho hh i h1 h2
    rw [OMs] at ho
    obtain ⟨e, es', k, k', rfl, hp, hs, rfl⟩ := ho
    cases i with
    | zero => exact ih p (by simp) e k hp hh.left
    | succ i => exact ih' (fun q hq => ih q (by simp [hq])) hs hh.right i (by simpa using h1) (by simpa using h2)
theorem OMCs_rows {h : Heap} {l : List (Pt × List ByteArray × Nm)} (ih : ∀ p ∈ l, ∀ cs c, OM p.2.2 cs c → Has c h → RN h cs p.2.2) : ∀ {es c}, OMCs l es c → Has c h → ∀ i (h1 : i < es.length) (h2 : i < l.length), RNC h es[i] l[i] := by
  induction l with
  | nil => intro es c _ _ i _ h2; exact absurd h2 (by simp)
  | cons p l ih' =>
    intro es c ho hh i h1 h2
    obtain ⟨p, m, t⟩ := p
    rw [OMCs] at ho
    obtain ⟨a, v, b, es', ka, km, kb, k', rfl, hp, hm, hl, ht, hs, rfl⟩ := ho
    cases i with
    | zero => exact ⟨a, v, b, rfl, hp.rd hh.left, Yc hm hl hh.right.left, ih (p, m, t) (by simp) b kb ht hh.right.right.left⟩
    | succ i => exact ih' (fun q hq => ih q (by simp [hq])) hs hh.right.right.right i (by simpa using h1) (by simpa using h2)
theorem OM.rd {h : Heap} {t : Nm} : ∀ {cs c}, OM t cs c → Has c h → RN h cs t := by
  induction t using Nm.ind with
  | h k n r ns kids cases ih ih' =>
    intro cs c ho hh
    obtain ⟨nv, ks, cv, es, es', k0, k1, k2, k3, k4, rfl, hk, hn, ho0, ho1, ho2, ho3, ho4, rfl, hl0, hl, hl'⟩ := OM_mk.1 ho
    exact RN_mk.2 ⟨nv, ks, cv, rfl, hk, hn, strR.own ho0 hl0 hh.left, ho1.rdS (OMs_len ho2).symm hl hh.right.left (OMs_rows (fun p hp cs c => ih p hp) ho2 hh.right.right.left),
      ho3.rdS (OMCs_len ho4).symm hl' hh.right.right.right.left (OMCs_rows (fun p hp cs c => ih' p hp) ho4 hh.right.right.right.right)⟩
theorem OM_leaf {k n : Int} {r : Sm} (hk : inI k) (hn : inI n) : OM (.mk k n r [] [] []) (pkN k n r (.slice none 0 0) (.slice none 0 0) (.slice none 0 0)) [] :=
  OM_mk.2 ⟨_, _, _, [], [], [], [], [], [], [], rfl, hk, hn, Own.nil, Own.nil, OMs.nil, Own.nil, OMCs.nil, rfl, by simp, by simp, by simp⟩
theorem OM_zero : OM zN (pkN 0 0 zS (.slice none 0 0) (.slice none 0 0) (.slice none 0 0)) [] := OM_leaf (by unfold inI; omega) (by unfold inI; omega)
end Go.Proofs.YtmophpgiaiemhaaGreat.Hs
/-! Walks, printed by a program of this session's own (gen.py). -/
namespace Go.Proofs.YtmophpgiaiemhaaGreat.Hs
open Go Go.Proofs
set_option maxRecDepth 100000
set_option linter.unusedVariables false
set_option linter.unusedSimpArgs false
attribute [local irreducible] JL J CT wlo DT
theorem more_ct (k j : Int) (H : Heap) : CT Tryz.prog 111 ⟨[iv k, iv j]⟩ [] H (fun v N => v = iv (ZB k j) ∧ N = []) := by
 refine Zm Tryz.func111 rfl rfl <| Zc <| Za <| JLA rfl <| Zb <| Zc <| Zl <| Zc <| Zc <| Za <| JLM rfl <| JLn (Pu.eql rfl rfl) <| JLA rfl ?_
 refine Zb <| Zf rfl (fun h1 => ?_) (fun h1 => ?_)
 ·replace h1 := dt h1
  refine Zi <| Zf rfl (fun _ => ?_) (fun h2 => absurd h1 (df h2))
  refine Zc <| Za <| JLA rfl <| Zb <| Zh <| ⟨iv 1, [], Ret.one rfl (RV.tmp rfl), Sub.nil, ?_⟩
  exact ⟨by first | (simp_all [ZB]; done) | (congr 1; unfold ZB; simp_all; try omega), rfl⟩
 replace h1 := df h1
 refine Zc <| Za <| JLM rfl <| JLn (Pu.eql rfl rfl) <| JLM rfl <| Zx 2 [11, 12] [(12, cond (decide (k = 5)) (.bool (decide (j = 1))) undef)] ?_ fun f4 => ?_
 ·cases h3 : (decide (k = 5)) with
  | true =>
   replace h3 := dt h3
   refine JLM rfl <| JLn (Pu.eql rfl rfl) ?_
   exact Zb ⟨⟨rfl, trivial⟩, rfl⟩
  | false =>
   exact ZG rfl ⟨rfl, trivial⟩
 refine JLn (Pu.pickAnd rfl rfl rfl) <| JLA rfl <| Zb <| Zf rfl (fun h5 => ?_) (fun h5 => ?_)
 ·obtain ⟨h5a, h5b⟩ := Yr h5
  replace h5a := dt h5a
  replace h5b := dt h5b
  refine Zi <| Zf rfl (fun h6 => ?_) (fun h6 => ?_)
  ·obtain ⟨h6a, h6b⟩ := Yr h6
   replace h6a := dt h6a
   replace h6b := dt h6b
   refine Zc <| Za <| JLA rfl <| Zb <| Zh <| ⟨iv 1, [], Ret.one rfl (RV.tmp rfl), Sub.nil, ?_⟩
   exact ⟨by first | (simp_all [ZB]; done) | (congr 1; unfold ZB; simp_all; try omega), rfl⟩
  refine Zc <| Za <| JLM rfl <| JLn (Pu.eql rfl rfl) <| JLM rfl <| Zx 2 [24, 25] [(25, cond (decide (k = 12)) (.bool (decide (1 < j))) undef)] ?_ fun f8 => ?_
  ·cases h7 : (decide (k = 12)) with
   | true =>
    replace h7 := dt h7
    refine JLM rfl <| JLn (Pu.gtr rfl rfl) ?_
    exact Zb ⟨⟨rfl, trivial⟩, rfl⟩
   | false =>
    exact ZG rfl ⟨rfl, trivial⟩
  refine JLn (Pu.pickAnd rfl rfl rfl) <| JLA rfl <| Zb <| Zf rfl (fun h9 => ?_) (fun h9 => ?_)
  ·obtain ⟨h9a, h9b⟩ := Yr h9
   replace h9a := dt h9a
   replace h9b := dt h9b
   refine Zc <| Za <| JLA rfl <| Zb <| Zh <| ⟨iv 2, [], Ret.one rfl (RV.tmp rfl), Sub.nil, ?_⟩
   exact ⟨by first | (simp_all [ZB]; done) | (congr 1; unfold ZB; simp_all; try omega), rfl⟩
  refine Zi <| Zc <| Za <| JLA rfl <| Zb <| Zh <| ⟨iv 0, [], Ret.one rfl (RV.tmp rfl), Sub.nil, ?_⟩
  exact ⟨by first | (simp_all [ZB]; done) | (congr 1; unfold ZB; simp_all; try omega), rfl⟩
 refine Za <| JLM rfl <| JLn (Pu.eql rfl rfl) <| JLM rfl <| Zx 2 [17, 18] [(18, cond (decide (k = 12)) (.bool (decide (j = 1))) undef)] ?_ fun f11 => ?_
 ·cases h10 : (decide (k = 12)) with
  | true =>
   replace h10 := dt h10
   refine JLM rfl <| JLn (Pu.eql rfl rfl) ?_
   exact Zb ⟨⟨rfl, trivial⟩, rfl⟩
  | false =>
   exact ZG rfl ⟨rfl, trivial⟩
 refine JLn (Pu.pickAnd rfl rfl rfl) <| JLA rfl <| Zb <| Zf rfl (fun h12 => ?_) (fun h12 => ?_)
 ·obtain ⟨h12a, h12b⟩ := Yr h12
  replace h12a := dt h12a
  replace h12b := dt h12b
  refine Zc <| Za <| JLA rfl <| Zb <| Zh <| ⟨iv 1, [], Ret.one rfl (RV.tmp rfl), Sub.nil, ?_⟩
  exact ⟨by first | (simp_all [ZB]; done) | (congr 1; unfold ZB; simp_all; try omega), rfl⟩
 refine Zc <| Za <| JLM rfl <| JLn (Pu.eql rfl rfl) <| JLM rfl <| Zx 2 [24, 25] [(25, cond (decide (k = 12)) (.bool (decide (1 < j))) undef)] ?_ fun f14 => ?_
 ·cases h13 : (decide (k = 12)) with
  | true =>
   replace h13 := dt h13
   refine JLM rfl <| JLn (Pu.gtr rfl rfl) ?_
   exact Zb ⟨⟨rfl, trivial⟩, rfl⟩
  | false =>
   exact ZG rfl ⟨rfl, trivial⟩
 refine JLn (Pu.pickAnd rfl rfl rfl) <| JLA rfl <| Zb <| Zf rfl (fun h15 => ?_) (fun h15 => ?_)
 ·obtain ⟨h15a, h15b⟩ := Yr h15
  replace h15a := dt h15a
  replace h15b := dt h15b
  refine Zc <| Za <| JLA rfl <| Zb <| Zh <| ⟨iv 2, [], Ret.one rfl (RV.tmp rfl), Sub.nil, ?_⟩
  exact ⟨by first | (simp_all [ZB]; done) | (congr 1; unfold ZB; simp_all; try omega), rfl⟩
 refine Zi <| Zc <| Za <| JLA rfl <| Zb <| Zh <| ⟨iv 0, [], Ret.one rfl (RV.tmp rfl), Sub.nil, ?_⟩
 exact ⟨by first | (simp_all [ZB]; done) | (congr 1; unfold ZB; simp_all; try omega), rfl⟩
theorem Y0 (n lo hi : Int) (H : Heap) : CT Tryz.prog 79 ⟨[iv n, iv lo, iv hi]⟩ [] H (fun v N => v = .bool (decide (n < lo ∨ hi < n)) ∧ N = []) := by
 refine Zm Tryz.func79 rfl rfl <| Zc <| Za <| JLA rfl <| Zb <| Zc <| Za <| JLM rfl <| JLM rfl <| JLn (Pu.lss rfl rfl) <| JLM rfl <| Zx 3 [11, 12, 13] [(13, cond (decide (n < lo)) undef (.bool (decide (hi < n))))] ?_ fun f2 => ?_
 ·cases h1 : (decide (n < lo)) with
  | false =>
   replace h1 := df h1
   refine JLM rfl <| JLM rfl <| JLn (Pu.gtr rfl rfl) ?_
   exact Zb ⟨⟨rfl, trivial⟩, rfl⟩
  | true =>
   exact ZG rfl ⟨rfl, trivial⟩
 refine JLn (Pu.pickOr rfl rfl rfl) <| JLA rfl <| Zb <| Zh <| ⟨.bool ((decide (n < lo)) || (decide (hi < n))), [], Ret.one rfl (RV.tmp rfl), Sub.nil, ?_⟩
 exact ⟨by simp, rfl⟩
theorem binds_ct : ∀ (p : Pt) (cs : List Value) (H : Heap), RP H cs p → binds p ≤ 1000000 → CT Tryz.prog 112 ⟨[.agg ⟨cs⟩]⟩ [] H (fun v N => v = iv (binds p : Int) ∧ N = []) := by
 intro p
 induction p using Pt.ind with
 | h kind num ref kids ih =>
 intro cs H hp hb
 obtain ⟨ks, rfl, hk, hn, hks⟩ := RP_mk.1 hp
 rw [binds] at hb ⊢
 refine Zm Tryz.func112 rfl rfl <| Zc <| Za <| JLr (Zo (l := pkP kind num ref ks) rfl rfl fun b1 => JLA rfl <| Zb <| Zc <| Zc <| Za <| JLq (pp b1 0) (YL rfl rfl) <| JLr (Ze ty3 rfl (At.bx 0 rfl) (Xp ..) <| JLn (Pu.eql rfl rfl) <| Zb ?_))
 refine Zf rfl (fun h2 => ?_) (fun h2 => ?_)
 ·replace h2 := dt h2
  refine Zc <| Za <| JLA rfl <| Zb <| Zh <| ⟨iv 1, [], Ret.one rfl (RV.tmp rfl), Sub.nil, ?_⟩
  exact ⟨by rw [if_pos (by assumption)]; rfl, rfl⟩
 replace h2 := df h2
 refine Zi <| Zc <| Za <| JLA rfl <| Zb <| Zc <| Zc <| Za <| JLq (pp b1 34) (Yl rfl rfl) <| JLr (Ze Xv rfl (At.bx 0 rfl) (Yw ..) ?_)
 obtain ⟨a3, cap3, hv3⟩ := hks.sl
 have hle3 := hks.le
 refine JLn (Pu.lenSl Tryz.runUnderlying73 hv3) <| JLM rfl <| Zb <| Zl <| ZE (fun k ρ M => ∃ (j : Nat), ρ 2 = iv 0 ∧ ρ 3 = iv ((YU (kids.take j) : Int)) ∧ ρ 10 = ks ∧ ρ 11 = iv ((kids.length : Int)) ∧ ρ 12 = iv ((j : Int)) ∧ Sub [(BX b1 (pkP kind num ref ks) 75)] M ∧ j ≤ kids.length ∧ k = kids.length - j) _ ⟨0, rfl, rfl, rfl, rfl, rfl, (Sk Sub.nil), Nat.zero_le _, rfl⟩ ?_
 rintro _ ρ4 _ ⟨j, e5, e6, e7, e8, e9, hm10, hj, rfl⟩
 obtain ⟨ρ11, rfl⟩ := Zr (uc e5 (uc e6 (uc e7 (uc e8 (uc e9 un)))))
 clear e5 e6 e7 e8 e9
 refine ZJ hm10 ?_
 have hlen := hks.le
 refine Zc <| Za <| JLn (Pu.lss rfl rfl) <| Zb <| Zc <| Zf rfl (fun h12 => ?_) (fun h12 => ?_)
 ·replace h12 := dt h12
  have h12n : j < kids.length := by omega
  have hm1 := binds_mem kids _ (List.getElem_mem h12n)
  have hm2 := bindsL_take kids _ h12n
  have hm3 := bindsL_take_le kids (j + 1)
  rw [if_neg (by assumption)] at hb
  refine Zi <| Zc <| Zl <| Zc <| Za ?_
  obtain ⟨b13, o13, cap13, row13, T13, fr13, cs13, hv13, hb13, hs13, hE13⟩ := hks.get j (by first | assumption | omega | decide | simp)
  refine JLq (pp b13 (o13 + j * 35)) (Pu.idx j Tryz.runUnderlying73 Z6 hv13 rfl rfl (by first | assumption | omega | decide | simp)) <| JLr (Zg Z6 rfl (At.im hb13) hs13 <| JLr (Zn (l := pkP 0 0 zS nS) Tryz.zeroValue75 rfl fun b14 => JLr (Zd 0 (vs := cs13) (l := cs13) Z6 rfl rfl rfl rfl (Zu hE13) (Xj hE13) (ZM (n := 35) rfl (Zu hE13)) <| Zb <| Za <| JLM rfl <| JLr (Zg Z6 rfl (At.bx 0 rfl) (Zt (Zu hE13)) <| Jc Tryz.call112 rfl (fun hin => ih _ (List.getElem_mem h12n) _ _ (RP.mono (Hle.hu _ _) hE13) (by omega)) rfl ?_))))
  rintro _ _ ⟨rfl, rfl⟩
  refine JLn (Pu.add64 rfl rfl (by first | omega | (constructor <;> omega))) <| JLA rfl <| Zb <| Za <| JLn (Pu.inc rfl rfl (by omega)) <| JLM rfl <| Zb <| ⟨_, ?_, (j + 1), rfl, (ieq rfl (by omega)), rfl, rfl, rfl, (Sd (Sk Sub.nil)), ?_, rfl⟩
  ·omega
  omega
 replace h12 := df h12
 have h12n : kids.length ≤ j := by omega
 refine Zy _ rfl <| Zc <| Za <| JLM rfl <| JLA rfl <| Zb <| Zh <| ⟨iv ((YU (kids.take j) : Int)), [], Ret.one rfl (RV.tmp rfl), Sub.nil, ?_⟩
 exact ⟨by rw [if_neg (by assumption), List.take_of_length_le h12n], rfl⟩
end Go.Proofs.YtmophpgiaiemhaaGreat.Hs
/-! Walks, printed by a program of this session's own (gen.py). -/
namespace Go.Proofs.YtmophpgiaiemhaaGreat.Hs
open Go Go.Proofs
set_option maxRecDepth 100000
set_option linter.unusedVariables false
set_option linter.unusedSimpArgs false
attribute [local irreducible] JL J CT wlo DT
theorem stay_ct (n b : Int) (H : Heap) (hb : inI (n + b)) : CT Tryz.prog 83 ⟨[iv n, iv b]⟩ [] H (fun v N => ∃ cs k, v = .agg ⟨cs⟩ ∧ N = [k] ∧ OT (.mk 1 (n + b) zS [] []) cs k) := by
 have hb1 : -9223372036854775808 ≤ n + b := hb.1
 have hb2 : n + b ≤ 9223372036854775807 := hb.2
 refine Zm Tryz.func83 rfl rfl <| Zc <| Za <| JLr (Zn (l := pkT 0 0 zS nS nS) Tryz.zeroValue27 rfl fun b1 => Zb <| Zc <| Za <| JLM rfl <| JLM rfl <| JLn (Pu.add64 rfl rfl (by first | omega | (constructor <;> omega))) <| JLq (.agg ⟨pkT 1 (n + b) zS nS nS⟩) (Pu.build (pv := [(0, iv 1), (1, iv (n + b))]) (l := pkT 1 (n + b) zS nS nS) rfl (bld27_0_1 _ _)) <| JLr (Zd 0 (vs := pkT 1 (n + b) zS nS nS) (l := pkT 1 (n + b) zS nS nS) Zs rfl rfl rfl rfl rfl (ZI rfl rfl) (Yk ..) <| Zb ?_))
 refine Zh <| ⟨.agg ⟨pkT 1 (n + b) zS nS nS⟩, [[]], Ret.one rfl (RV.cell Zs rfl (At.bx 0 rfl) (Z9 ..)), (Sub.emp Sub.nil), ?_⟩
 exact ⟨_, _, rfl, rfl, OT_leaf (by unfold inI; omega) hb⟩
theorem same_ct (s : Sm) (H : Heap) : CT Tryz.prog 84 ⟨[.agg ⟨sC s⟩]⟩ [] H (fun v N => v = .agg ⟨sC s⟩ ∧ N = []) := by
 refine Zm Tryz.func84 rfl rfl <| Zc <| Za <| JLr (Zo (l := sC s) rfl rfl fun b1 => JLr (Zn (l := sC zS) Tryz.zeroValue23 rfl fun b2 => Zb <| Zc <| Za <| JLr (Zg Xm rfl (At.bx 1 rfl) (Zt rfl) <| JLr (Zd 0 (vs := sC s) (l := sC s) Xm rfl rfl rfl rfl rfl (sC_ok _) (ZM rfl rfl) <| Zb <| Zh <| ⟨.agg ⟨sC s⟩, [], Ret.one rfl (RV.cell Xm rfl (At.bx 0 rfl) (Zt rfl)), Sub.nil, ?_⟩))))
 exact ⟨rfl, rfl⟩
theorem mapPattern_ct : ∀ (gr : Nat) (frs crs : List Value) (hcallr : ∀ args w, (callFunc gr args).run Tryz.prog w = .ok (.enter gr args) w) (rf : Sm → Sm) (fv : Value) (hfv : fv.oneCell' = true) (p : Pt) (cs : List Value) (H : Heap), RP H cs p → (∀ s h, Hle H h → CT Tryz.prog gr ⟨frs ++ [.agg ⟨sC s⟩] ++ crs⟩ [] h (fun v N => v = .agg ⟨sC (rf s)⟩ ∧ N = [])) → sizeP p ≤ 1000000 → CT Tryz.prog 113 ⟨[.agg ⟨[fv, .func (.func gr) ⟨frs⟩ ⟨crs⟩]⟩, .agg ⟨cs⟩]⟩ [] H (fun v N => ∃ cs k, v = .agg ⟨cs⟩ ∧ N = [k] ∧ OP (mapP rf p) cs k) := by
 intro gr frs crs hcallr rf fv hfv p
 induction p using Pt.ind with
 | h kind num ref kids ih =>
 intro cs H hp hgr hz
 rw [sizeP] at hz
 have hlk := len_sizePs kids
 obtain ⟨ks, rfl, hk, hn, hks⟩ := RP_mk.1 hp
 refine Zm Tryz.func113 rfl rfl <| Zc <| Za <| JLr (Zo (l := [fv, .func (.func gr) ⟨frs⟩ ⟨crs⟩]) rfl rfl fun b1 => JLr (Zo (l := pkP kind num ref ks) rfl rfl fun b2 => JLr (Zn (l := pkP 0 0 zS nS) Tryz.zeroValue75 rfl fun b3 => Zb <| Zc <| ZF mixed #[0, 1, 0, 4, 0, 16, 0, 64, 240, 511, 0, 2047] 11 [some 8, some 9, some 10, some 11, some 12, some 13, some 14, some 15, some 16, some 17, some 5] [] [(8, fun _ _ vw qw => vw = .agg ⟨sC (rf ref)⟩ ∧ qw = []), (10, newP 75 (pkP 0 0 zS nS))] rfl (by kernel_rfl) rfl (by kernel_rfl) <| Dq (pp b2 0) (fun _ => YL rfl rfl) <| Dl1 ty3 (At.bx 1 rfl) (Xp ..) <| Dq (pp b2 1) (fun _ => fa75_1 rfl rfl) <| Dl1 ty3 (At.bx 1 rfl) (pkP_1 ..) ?_)))
 refine Dq (pp b1 1) (fun _ => fa136_1 rfl rfl) <| Dl1 ty134 (At.bx 2 rfl) rfl <| Dq (pp b2 2) (fun _ => fa75_2 rfl rfl) <| Dl Xm (At.bx 1 rfl) (pkP_2 ..) <| Dc rfl hcallr (fun _ => rfl) (fun hin => hgr _ _ (Hle.hu _ _)) ?_
 rintro _ _ ⟨rfl, rfl⟩
 refine Dq (.agg ⟨pkP kind num (rf ref) nS⟩) (fun _ => Pu.build (pv := [(0, iv kind), (1, iv num), (2, .agg ⟨sC (rf ref)⟩)]) (l := pkP kind num (rf ref) nS) rfl (bld75_0_1_2 _ _ _)) <| Da Tryz.zeroValue75 rfl fun b5 => ZL (M' := [(BX b5 (pkP 0 0 zS nS) 75), (BX b3 (pkP 0 0 zS nS) 75), (BX b2 (pkP kind num ref ks) 75), (BX b1 [fv, .func (.func gr) ⟨frs⟩ ⟨crs⟩] 136)]) rfl ?_
 show JL _ _ _ [_] _ _ _
 refine JLr (Zd 0 (vs := pkP kind num (rf ref) nS) (l := pkP kind num (rf ref) nS) Z6 rfl rfl rfl rfl rfl (pkP_ok rfl) (pkP_s ..) <| Zb <| Zc <| Zc <| Za <| JLq (pp b2 34) (Yl rfl rfl) <| JLr (Ze Xv rfl (At.bx 2 rfl) (Yw ..) ?_))
 obtain ⟨a6, cap6, hv6⟩ := hks.sl
 have hle6 := hks.le
 refine JLn (Pu.lenSl Tryz.runUnderlying73 hv6) <| JLM rfl <| Zb <| Zl <| ZE (fun k ρ M => ∃ (j : Nat) (v : Value) (es : List (List Value)) (k1 k2 : Zj), ρ 2 = pp b1 0 ∧ ρ 4 = pp b3 0 ∧ ρ 5 = pp b5 0 ∧ ρ 19 = ks ∧ ρ 20 = iv ((kids.length : Int)) ∧ ρ 21 = iv ((j : Int)) ∧ Sub [(BX b5 (pkP kind num (rf ref) v) 75), k1, k2, (BX b3 (pkP 0 0 zS nS) 75), (BX b1 [fv, .func (.func gr) ⟨frs⟩ ⟨crs⟩] 136)] M ∧ j ≤ kids.length ∧ Own 75 35 v es k1 ∧ OPs (mapPs rf (kids.take j)) es k2 ∧ k = kids.length - j) _ ⟨0, _, [], [], [], rfl, rfl, rfl, rfl, rfl, rfl, (Sk (Sub.emp (Sub.emp (Sk (Sd (Sk Sub.nil)))))), Nat.zero_le _, Own.nil, OPs.nil, rfl⟩ ?_
 rintro _ ρ7 _ ⟨j, v, es, k1, k2, e8, e9, e10, e11, e12, e13, hm14, hj, ho, hop, rfl⟩
 obtain ⟨ρ15, rfl⟩ := Zr (uc e8 (uc e9 (uc e10 (uc e11 (uc e12 (uc e13 un))))))
 clear e8 e9 e10 e11 e12 e13
 refine ZJ hm14 ?_
 have hlen := hks.le
 refine Zc <| Za <| JLn (Pu.lss rfl rfl) <| Zb <| Zc <| Zf rfl (fun h16 => ?_) (fun h16 => ?_)
 ·replace h16 := dt h16
  have h16n : j < kids.length := by omega
  have hel := OPs_len hop
  rw [mapPs_len, List.length_take] at hel
  have hs1 := sizePs_mem _ (List.getElem_mem h16n)
  refine Zi <| Zc <| Zl <| Zc <| Za ?_
  obtain ⟨b17, o17, cap17, row17, T17, fr17, cs17, hv17, hb17, hs17, hE17⟩ := hks.get j (by first | assumption | omega | decide | simp)
  refine JLq (pp b17 (o17 + j * 35)) (Pu.idx j Tryz.runUnderlying73 Z6 hv17 rfl rfl (by first | assumption | omega | decide | simp)) <| JLr (Zg Z6 rfl (At.im hb17) hs17 <| JLr (Zn (l := pkP 0 0 zS nS) Tryz.zeroValue75 rfl fun b18 => JLr (Zd 0 (vs := cs17) (l := cs17) Z6 rfl rfl rfl rfl (Zu hE17) (Xj hE17) (ZM (n := 35) rfl (Zu hE17)) <| Zb <| ZF mixed #[0, 1, 0, 0, 12, 28, 63, 127, 255] 6 [some 25, some 26, some 27, some 28, some 29, some 30] [] [(4, fun _ _ vw qw => ∃ cs k, vw = .agg ⟨cs⟩ ∧ qw = [k] ∧ OP (mapP rf (kids[j])) cs k), (5, fun r _ vw qw => ∃ b k, vw = .slice (some ⟨b, 0, none⟩) 1 1 ∧ qw = [k] ∧ Own 75 35 (.slice (some ⟨b, 0, none⟩) 1 1) [(cel (r 4))] k ∧ k = (BX b (List.flatten [(cel (r 4))]) 75))] rfl (by kernel_rfl) rfl (by kernel_rfl) <| Dq (pp b5 34) (fun _ => Yl rfl rfl) <| Dl1 Xv (At.bx 1 rfl) (Yw ..) <| Dl ty136 (At.bx 5 rfl) rfl <| Dl Z6 (At.bx 0 rfl) (Zt (Zu hE17)) <| Dc rfl Tryz.call113 (fun _ => rfl) (fun hin => ih _ (List.getElem_mem h16n) _ _ (RP.mono (Hle.hu _ _) hE17) (fun s h hh => hgr s h (Hle.trans (Hle.hu _ _) hh)) (by omega)) ?_)))
  rintro _ _ ⟨cs21, k21, rfl, rfl, hO21⟩
  refine Dr rfl (fun _ => Zp (vs := [.agg ⟨cs21⟩]) [cs21] Tryz.runUnderlying73 el75 rfl rfl (by intro e he; simp only [List.mem_cons, List.not_mem_nil, or_false] at he; subst he; exact hO21.len) rfl (by decide) fun b k h1 h2 => ⟨[k], by rw [ZR rfl]; exact Sub.refl, b, k, rfl, rfl, h1, h2⟩) (fun _ _ ⟨b22, k22, e1, e2, ho22, hk22⟩ => ?_); subst e1 e2
  refine ZL (M' := [k22, k21, (BX b18 cs17 75), (BX b5 (pkP kind num (rf ref) v) 75), k1, k2, (BX b3 (pkP 0 0 zS nS) 75), (BX b1 [fv, .func (.func gr) ⟨frs⟩ ⟨crs⟩] 136)]) rfl ?_
  show JL _ _ _ [_, _, _] _ _ _
  have hlens23 : ∀ e ∈ ([cs21] : List (List Value)), List.length e = 35 := by
   intro e he; simp only [List.mem_cons, List.not_mem_nil, or_false] at he
   rcases he with rfl
   ·exact hO21.len
  have hoks23 : ∀ e ∈ ([cs21] : List (List Value)), okc e := by
   intro e he; simp only [List.mem_cons, List.not_mem_nil, or_false] at he
   rcases he with rfl
   ·exact hO21.ok
  refine JLr (ZA (i := 4) (n := 1) (es' := [cs21]) Tryz.runUnderlying73 Tryz.runUnderlying73 (Or.inl rfl) el75 rfl rfl rfl ho (fun F w m => Src.row (((At.k 0 rfl (by rw [hk22]; exact List.mem_cons_self))).heap m) (Zt (Zz hlens23))) rfl hlens23 hoks23 (by decide) (by omega) fun v23 k23 ho23 => JLq (pp b5 34) (Yl rfl rfl) <| JLr (Zd 3 (vs := [v23]) (l := pkP kind num (rf ref) v23) Xv rfl rfl rfl (ZK ho23.one) rfl (Zk ho23.one Zq) (pkP_s34 ..) <| Zb <| Za <| JLn (Pu.inc rfl rfl (by omega)) <| JLM rfl <| Zb <| ⟨_, ?_, (j + 1), v23, (es ++ [cs21]), k23, (k2 ++ k21), rfl, rfl, rfl, rfl, rfl, rfl, (Sd (Sub.cons 2 rfl (Sub.cons 2 rfl (Sub.join (Sub.cons 2 rfl (Sk (Sd (Sk (Sk Sub.nil))))))))), ?_, ?_, ?_, rfl⟩))
  ·omega
  ·omega
  ·assumption
  rw [mapPs_take rf kids j h16n]; exact OPs.snoc hO21 hop
 replace h16 := df h16
 have h16n : kids.length ≤ j := by omega
 refine Zy _ rfl <| Zc <| Za <| JLr (Zg Z6 rfl (At.bx 0 rfl) (pkP_a ..) <| JLr (Zd 3 (vs := pkP kind num (rf ref) v) (l := pkP kind num (rf ref) v) Z6 rfl rfl rfl rfl rfl (pkP_ok ho.one) (pkP_s ..) <| Zb <| Zh <| ⟨.agg ⟨pkP kind num (rf ref) v⟩, [k1 ++ k2], Ret.one rfl (RV.cell Z6 rfl (At.bx 3 rfl) (pkP_a ..)), (Sub.join (Sd (Sk (Sk Sub.nil)))), ?_⟩))
 rw [List.take_of_length_le h16n] at hop
 exact ⟨_, _, rfl, rfl, by rw [mapP]; exact OP_mk.2 ⟨v, es, k1, k2, rfl, hk, hn, ho, hop, rfl, by rw [mapPs_len]; exact hks.le⟩⟩
end Go.Proofs.YtmophpgiaiemhaaGreat.Hs
/-! Walks, printed by a program of this session's own (gen.py). -/
namespace Go.Proofs.YtmophpgiaiemhaaGreat.Hs
open Go Go.Proofs
set_option maxRecDepth 100000
set_option linter.unusedVariables false
set_option linter.unusedSimpArgs false
attribute [local irreducible] JL J CT wlo DT
theorem moreR_ct (k j : Int) (H : Heap) : CT Tryz.prog 98 ⟨[iv k, iv j]⟩ [] H (fun v N => v = iv (ZB k j) ∧ N = []) := by
 refine Zm Tryz.func98 rfl rfl <| Zc <| Za <| JLA rfl <| Zb <| Zc <| Zl <| Zc <| Zc <| Za <| JLM rfl <| JLn (Pu.eql rfl rfl) <| JLA rfl ?_
 refine Zb <| Zf rfl (fun h1 => ?_) (fun h1 => ?_)
 ·replace h1 := dt h1
  refine Zi <| Zf rfl (fun _ => ?_) (fun h2 => absurd h1 (df h2))
  refine Zc <| Za <| JLA rfl <| Zb <| Zh <| ⟨iv 1, [], Ret.one rfl (RV.tmp rfl), Sub.nil, ?_⟩
  exact ⟨by first | (simp_all [ZB]; done) | (congr 1; unfold ZB; simp_all; try omega), rfl⟩
 replace h1 := df h1
 refine J_cut (fun ρ M => ρ 0 = iv k ∧ ρ 1 = iv j ∧ ρ 4 = iv 0 ∧ ρ 5 = .bool ((decide (k = 5)) && (decide (j = 1))) ∧ M = []) ?_ ?_
 ·refine Za <| JLM rfl <| JLn (Pu.eql rfl rfl) <| JLM rfl ?_
  cases h3 : (decide (k = 5)) with
  | true =>
   replace h3 := dt h3
   refine JLM rfl <| JLn (Pu.eql rfl rfl) <| JLq (.bool (decide (j = 1))) (Pu.pickT rfl rfl) <| JLA rfl <| Zb ?_
   first | exact ⟨rfl, rfl, rfl, rfl, rfl⟩ | (exfalso; omega)
  | false =>
   replace h3 := df h3
   iterate 2 refine ZC rfl ?_
   refine JLq (.bool false) (Pu.pickF rfl rfl) <| JLA rfl <| Zb ?_
   first | exact ⟨rfl, rfl, rfl, rfl, rfl⟩ | (exfalso; omega)
 rintro ρ4 _ ⟨e5, e6, e7, e8, rfl⟩
 obtain ⟨ρ9, rfl⟩ := Zr (uc e5 (uc e6 (uc e7 (uc e8 un))))
 clear e5 e6 e7 e8
 refine Zf rfl (fun h10 => ?_) (fun h10 => ?_)
 ·obtain ⟨h10a, h10b⟩ := Yr h10
  replace h10a := dt h10a
  replace h10b := dt h10b
  refine Zi <| Zf rfl (fun h11 => ?_) (fun h11 => ?_)
  ·obtain ⟨h11a, h11b⟩ := Yr h11
   replace h11a := dt h11a
   replace h11b := dt h11b
   refine Zc <| Za <| JLA rfl <| Zb <| Zh <| ⟨iv 1, [], Ret.one rfl (RV.tmp rfl), Sub.nil, ?_⟩
   exact ⟨by first | (simp_all [ZB]; done) | (congr 1; unfold ZB; simp_all; try omega), rfl⟩
  refine J_cut (fun ρ M => ρ 4 = iv 0 ∧ ρ 20 = .bool ((decide (k = 12)) && (decide (1 < j))) ∧ M = []) ?_ ?_
  ·refine Za <| JLM rfl <| JLn (Pu.eql rfl rfl) <| JLM rfl ?_
   cases h12 : (decide (k = 12)) with
   | true =>
    replace h12 := dt h12
    refine JLM rfl <| JLn (Pu.gtr rfl rfl) <| JLq (.bool (decide (1 < j))) (Pu.pickT rfl rfl) <| JLA rfl <| Zb ?_
    first | exact ⟨rfl, rfl, rfl⟩ | (exfalso; omega)
   | false =>
    replace h12 := df h12
    iterate 2 refine ZC rfl ?_
    refine JLq (.bool false) (Pu.pickF rfl rfl) <| JLA rfl <| Zb ?_
    first | exact ⟨rfl, rfl, rfl⟩ | (exfalso; omega)
  rintro ρ13 _ ⟨e14, e15, rfl⟩
  obtain ⟨ρ16, rfl⟩ := Zr (uc e14 (uc e15 un))
  clear e14 e15
  refine Zf rfl (fun h17 => ?_) (fun h17 => ?_)
  ·obtain ⟨h17a, h17b⟩ := Yr h17
   replace h17a := dt h17a
   replace h17b := dt h17b
   refine Zc <| Za <| JLA rfl <| Zb <| Zh <| ⟨iv 2, [], Ret.one rfl (RV.tmp rfl), Sub.nil, ?_⟩
   exact ⟨by first | (simp_all [ZB]; done) | (congr 1; unfold ZB; simp_all; try omega), rfl⟩
  refine Zi <| Zc <| Za <| JLA rfl <| Zb <| Zh <| ⟨iv 0, [], Ret.one rfl (RV.tmp rfl), Sub.nil, ?_⟩
  exact ⟨by first | (simp_all [ZB]; done) | (congr 1; unfold ZB; simp_all; try omega), rfl⟩
 refine J_weak (N := fun ρ M => ρ 0 = iv k ∧ ρ 1 = iv j ∧ ρ 4 = iv 0 ∧ ρ 5 = .bool ((decide (k = 12)) && (decide (j = 1))) ∧ M = []) ?_ ?_
 ·refine Za <| JLM rfl <| JLn (Pu.eql rfl rfl) <| JLM rfl ?_
  cases h18 : (decide (k = 12)) with
  | true =>
   replace h18 := dt h18
   refine JLM rfl <| JLn (Pu.eql rfl rfl) <| JLq (.bool (decide (j = 1))) (Pu.pickT rfl rfl) <| JLA rfl <| Zb ?_
   first | exact ⟨rfl, rfl, rfl, rfl, rfl⟩ | (exfalso; omega)
  | false =>
   replace h18 := df h18
   iterate 2 refine ZC rfl ?_
   refine JLq (.bool false) (Pu.pickF rfl rfl) <| JLA rfl <| Zb ?_
   first | exact ⟨rfl, rfl, rfl, rfl, rfl⟩ | (exfalso; omega)
 rintro ρ19 _ ⟨e20, e21, e22, e23, rfl⟩
 obtain ⟨ρ24, rfl⟩ := Zr (uc e20 (uc e21 (uc e22 (uc e23 un))))
 clear e20 e21 e22 e23
 refine Zf rfl (fun h25 => ?_) (fun h25 => ?_)
 ·obtain ⟨h25a, h25b⟩ := Yr h25
  replace h25a := dt h25a
  replace h25b := dt h25b
  refine Zc <| Za <| JLA rfl <| Zb <| Zh <| ⟨iv 1, [], Ret.one rfl (RV.tmp rfl), Sub.nil, ?_⟩
  exact ⟨by first | (simp_all [ZB]; done) | (congr 1; unfold ZB; simp_all; try omega), rfl⟩
 refine J_cut (fun ρ M => ρ 4 = iv 0 ∧ ρ 20 = .bool ((decide (k = 12)) && (decide (1 < j))) ∧ M = []) ?_ ?_
 ·refine Za <| JLM rfl <| JLn (Pu.eql rfl rfl) <| JLM rfl ?_
  cases h26 : (decide (k = 12)) with
  | true =>
   replace h26 := dt h26
   refine JLM rfl <| JLn (Pu.gtr rfl rfl) <| JLq (.bool (decide (1 < j))) (Pu.pickT rfl rfl) <| JLA rfl <| Zb ?_
   first | exact ⟨rfl, rfl, rfl⟩ | (exfalso; omega)
  | false =>
   replace h26 := df h26
   iterate 2 refine ZC rfl ?_
   refine JLq (.bool false) (Pu.pickF rfl rfl) <| JLA rfl <| Zb ?_
   first | exact ⟨rfl, rfl, rfl⟩ | (exfalso; omega)
 rintro ρ27 _ ⟨e28, e29, rfl⟩
 obtain ⟨ρ30, rfl⟩ := Zr (uc e28 (uc e29 un))
 clear e28 e29
 refine Zf rfl (fun h31 => ?_) (fun h31 => ?_)
 ·obtain ⟨h31a, h31b⟩ := Yr h31
  replace h31a := dt h31a
  replace h31b := dt h31b
  refine Zc <| Za <| JLA rfl <| Zb <| Zh <| ⟨iv 2, [], Ret.one rfl (RV.tmp rfl), Sub.nil, ?_⟩
  exact ⟨by first | (simp_all [ZB]; done) | (congr 1; unfold ZB; simp_all; try omega), rfl⟩
 refine Zi <| Zc <| Za <| JLA rfl <| Zb <| Zh <| ⟨iv 0, [], Ret.one rfl (RV.tmp rfl), Sub.nil, ?_⟩
 exact ⟨by first | (simp_all [ZB]; done) | (congr 1; unfold ZB; simp_all; try omega), rfl⟩
theorem offR_ct (n lo hi : Int) (H : Heap) : CT Tryz.prog 134 ⟨[iv n, iv lo, iv hi]⟩ [] H (fun v N => v = .bool (decide (n < lo ∨ hi < n)) ∧ N = []) := by
 refine Zm Tryz.func134 rfl rfl <| Zc <| Za <| JLA rfl <| Zb <| J_cut (fun ρ M => ρ 6 = .bool ((decide (n < lo)) || (decide (hi < n))) ∧ M = []) ?_ ?_
 ·refine Za <| JLM rfl <| JLM rfl <| JLn (Pu.lss rfl rfl) <| JLM rfl ?_
  cases h1 : (decide (n < lo)) with
  | true =>
   replace h1 := dt h1
   iterate 3 refine ZC rfl ?_
   refine JLq (.bool true) (Pu.pickT rfl rfl) <| JLA rfl <| Zb ?_
   first | exact ⟨rfl, rfl⟩ | (exfalso; omega)
  | false =>
   replace h1 := df h1
   refine JLM rfl <| JLM rfl <| JLn (Pu.gtr rfl rfl) <| JLq (.bool (decide (hi < n))) (Pu.pickF rfl rfl) <| JLA rfl <| Zb ?_
   first | exact ⟨rfl, rfl⟩ | (exfalso; omega)
 rintro ρ2 _ ⟨e3, rfl⟩
 obtain ⟨ρ4, rfl⟩ := Zr (uc e3 un)
 clear e3
 refine Zh <| ⟨.bool ((decide (n < lo)) || (decide (hi < n))), [], Ret.one rfl (RV.tmp rfl), Sub.nil, ?_⟩
 exact ⟨by simp, rfl⟩
theorem bindsR_ct : ∀ (p : Pt) (cs : List Value) (H : Heap), RP H cs p → binds p ≤ 1000000 → CT Tryz.prog 100 ⟨[.agg ⟨cs⟩]⟩ [] H (fun v N => v = iv (binds p : Int) ∧ N = []) := by
 intro p
 induction p using Pt.ind with
 | h kind num ref kids ih =>
 intro cs H hp hb
 obtain ⟨ks, rfl, hk, hn, hks⟩ := RP_mk.1 hp
 rw [binds] at hb ⊢
 refine Zm Tryz.func100 rfl rfl <| Zc <| Za <| JLr (Zo (l := pkP kind num ref ks) rfl rfl fun b1 => JLA rfl <| Zb <| Zc <| Zc <| Za <| JLq (pp b1 0) (YL rfl rfl) <| JLr (Ze ty3 rfl (At.bx 0 rfl) (Xp ..) <| JLn (Pu.eql rfl rfl) <| Zb ?_))
 refine Zf rfl (fun h2 => ?_) (fun h2 => ?_)
 ·replace h2 := dt h2
  refine Zc <| Za <| JLA rfl <| Zb <| Zh <| ⟨iv 1, [], Ret.one rfl (RV.tmp rfl), Sub.nil, ?_⟩
  exact ⟨by rw [if_pos (by assumption)]; rfl, rfl⟩
 replace h2 := df h2
 refine Zi <| Zc <| Za <| JLA rfl <| Zb <| Zc <| Zc <| Za <| JLA rfl <| Zb <| Zl <| ZE (fun k ρ M => ∃ (j : Nat), ρ 1 = pp b1 0 ∧ ρ 2 = iv 0 ∧ ρ 3 = iv ((YU (kids.take j) : Int)) ∧ ρ 4 = iv ((j : Int)) ∧ Sub [(BX b1 (pkP kind num ref ks) 75)] M ∧ j ≤ kids.length ∧ k = kids.length - j) _ ⟨0, rfl, rfl, rfl, rfl, (Sk Sub.nil), Nat.zero_le _, rfl⟩ ?_
 rintro _ ρ3 _ ⟨j, e4, e5, e6, e7, hm8, hj, rfl⟩
 obtain ⟨ρ9, rfl⟩ := Zr (uc e4 (uc e5 (uc e6 (uc e7 un))))
 clear e4 e5 e6 e7
 refine ZJ hm8 ?_
 have hlen := hks.le
 refine Zc <| Zc <| Za <| JLM rfl <| JLq (pp b1 34) (Yl rfl rfl) <| JLr (Ze Xv rfl (At.bx 0 rfl) (Yw ..) ?_)
 obtain ⟨a10, cap10, hv10⟩ := hks.sl
 have hle10 := hks.le
 refine JLn (Pu.lenSl Tryz.runUnderlying73 hv10) <| JLn (Pu.lss rfl rfl) <| Zb <| Zf rfl (fun h11 => ?_) (fun h11 => ?_)
 ·replace h11 := dt h11
  have h11n : j < kids.length := by omega
  have hm1 := binds_mem kids _ (List.getElem_mem h11n)
  have hm2 := bindsL_take kids _ h11n
  have hm3 := bindsL_take_le kids (j + 1)
  rw [if_neg (by assumption)] at hb
  refine Zi <| Zc <| Zl <| Za <| JLM rfl <| JLq (pp b1 34) (Yl rfl rfl) <| JLr (Ze Xv rfl (At.bx 0 rfl) (Yw ..) <| JLM rfl ?_)
  obtain ⟨b12, o12, cap12, row12, T12, fr12, cs12, hv12, hb12, hs12, hE12⟩ := hks.get j (by first | assumption | omega | decide | simp)
  refine JLq (pp b12 (o12 + j * 35)) (Pu.idx j Tryz.runUnderlying73 Z6 hv12 rfl rfl (by first | assumption | omega | decide | simp)) <| JLr (Zg Z6 rfl (At.im hb12) hs12 <| Jc Tryz.call100 rfl (fun hin => ih _ (List.getElem_mem h11n) _ _ (RP.mono (Hle.hu _ _) hE12) (by omega)) rfl ?_)
  rintro _ _ ⟨rfl, rfl⟩
  refine JLn (Pu.add64 rfl rfl (by first | omega | (constructor <;> omega))) <| JLA rfl <| Zb <| Za <| JLM rfl <| JLn (Pu.inc rfl rfl (by omega)) <| JLA rfl <| Zb <| ⟨_, ?_, (j + 1), rfl, rfl, (ieq rfl (by omega)), rfl, (Sk Sub.nil), ?_, rfl⟩
  ·omega
  omega
 replace h11 := df h11
 have h11n : kids.length ≤ j := by omega
 refine Zy _ rfl <| Zc <| Za <| JLM rfl <| JLA rfl <| Zb <| Zh <| ⟨iv ((YU (kids.take j) : Int)), [], Ret.one rfl (RV.tmp rfl), Sub.nil, ?_⟩
 exact ⟨by rw [if_neg (by assumption), List.take_of_length_le h11n], rfl⟩
theorem hasNum_ct (k : Int) (H : Heap) : CT Tryz.prog 135 ⟨[iv k]⟩ [] H (fun v N => v = .bool (XH k) ∧ N = []) := by
 refine Zm Tryz.func135 rfl rfl <| Zc <| Za <| JLA rfl <| Zb <| J_cut (fun ρ M => ρ 2 = .bool ((((((decide (k = 1)) || (decide (k = 2))) || (decide (k = 7))) || (decide (k = 8))) || (decide (k = 10))) || (decide (k = 11))) ∧ M = []) ?_ ?_
 ·refine Za <| JLM rfl <| JLn (Pu.eql rfl rfl) <| JLM rfl ?_
  cases h1 : (decide (k = 1)) with
  | true =>
   replace h1 := dt h1
   iterate 2 refine ZC rfl ?_
   refine JLq (.bool true) (Pu.pickT rfl rfl) <| JLM rfl ?_
   iterate 2 refine ZC rfl ?_
   refine JLq (.bool true) (Pu.pickT rfl rfl) <| JLM rfl ?_
   iterate 2 refine ZC rfl ?_
   refine JLq (.bool true) (Pu.pickT rfl rfl) <| JLM rfl ?_
   iterate 2 refine ZC rfl ?_
   refine JLq (.bool true) (Pu.pickT rfl rfl) <| JLM rfl ?_
   iterate 2 refine ZC rfl ?_
   refine JLq (.bool true) (Pu.pickT rfl rfl) <| JLA rfl <| Zb ?_
   first | exact ⟨rfl, rfl⟩ | (exfalso; omega)
  | false =>
   replace h1 := df h1
   refine JLM rfl <| JLn (Pu.eql rfl rfl) <| JLq (.bool (decide (k = 2))) (Pu.pickF rfl rfl) <| JLM rfl ?_
   cases h2 : (decide (k = 2)) with
   | true =>
    replace h2 := dt h2
    iterate 2 refine ZC rfl ?_
    refine JLq (.bool true) (Pu.pickT rfl rfl) <| JLM rfl ?_
    iterate 2 refine ZC rfl ?_
    refine JLq (.bool true) (Pu.pickT rfl rfl) <| JLM rfl ?_
    iterate 2 refine ZC rfl ?_
    refine JLq (.bool true) (Pu.pickT rfl rfl) <| JLM rfl ?_
    iterate 2 refine ZC rfl ?_
    refine JLq (.bool true) (Pu.pickT rfl rfl) <| JLA rfl <| Zb ?_
    first | exact ⟨rfl, rfl⟩ | (exfalso; omega)
   | false =>
    replace h2 := df h2
    refine JLM rfl <| JLn (Pu.eql rfl rfl) <| JLq (.bool (decide (k = 7))) (Pu.pickF rfl rfl) <| JLM rfl ?_
    cases h3 : (decide (k = 7)) with
    | true =>
     replace h3 := dt h3
     iterate 2 refine ZC rfl ?_
     refine JLq (.bool true) (Pu.pickT rfl rfl) <| JLM rfl ?_
     iterate 2 refine ZC rfl ?_
     refine JLq (.bool true) (Pu.pickT rfl rfl) <| JLM rfl ?_
     iterate 2 refine ZC rfl ?_
     refine JLq (.bool true) (Pu.pickT rfl rfl) <| JLA rfl <| Zb ?_
     first | exact ⟨rfl, rfl⟩ | (exfalso; omega)
    | false =>
     replace h3 := df h3
     refine JLM rfl <| JLn (Pu.eql rfl rfl) <| JLq (.bool (decide (k = 8))) (Pu.pickF rfl rfl) <| JLM rfl ?_
     cases h4 : (decide (k = 8)) with
     | true =>
      replace h4 := dt h4
      iterate 2 refine ZC rfl ?_
      refine JLq (.bool true) (Pu.pickT rfl rfl) <| JLM rfl ?_
      iterate 2 refine ZC rfl ?_
      refine JLq (.bool true) (Pu.pickT rfl rfl) <| JLA rfl <| Zb ?_
      first | exact ⟨rfl, rfl⟩ | (exfalso; omega)
     | false =>
      replace h4 := df h4
      refine JLM rfl <| JLn (Pu.eql rfl rfl) <| JLq (.bool (decide (k = 10))) (Pu.pickF rfl rfl) <| JLM rfl ?_
      cases h5 : (decide (k = 10)) with
      | true =>
       replace h5 := dt h5
       iterate 2 refine ZC rfl ?_
       refine JLq (.bool true) (Pu.pickT rfl rfl) <| JLA rfl <| Zb ?_
       first | exact ⟨rfl, rfl⟩ | (exfalso; omega)
      | false =>
       replace h5 := df h5
       refine JLM rfl <| JLn (Pu.eql rfl rfl) <| JLq (.bool (decide (k = 11))) (Pu.pickF rfl rfl) <| JLA rfl <| Zb ?_
       first | exact ⟨rfl, rfl⟩ | (exfalso; omega)
 rintro ρ6 _ ⟨e7, rfl⟩
 obtain ⟨ρ8, rfl⟩ := Zr (uc e7 un)
 clear e7
 refine Zh <| ⟨.bool ((((((decide (k = 1)) || (decide (k = 2))) || (decide (k = 7))) || (decide (k = 8))) || (decide (k = 10))) || (decide (k = 11))), [], Ret.one rfl (RV.tmp rfl), Sub.nil, ?_⟩
 exact ⟨by simp_all [XH], rfl⟩
theorem hasRef_ct (k : Int) (H : Heap) : CT Tryz.prog 136 ⟨[iv k]⟩ [] H (fun v N => v = .bool (hasRefB k) ∧ N = []) := by
 refine Zm Tryz.func136 rfl rfl <| Zc <| Za <| JLA rfl <| Zb <| J_cut (fun ρ M => ρ 2 = .bool ((((decide (k = 6)) || (decide (k = 8))) || (decide (k = 11))) || (decide (k = 12))) ∧ M = []) ?_ ?_
 ·refine Za <| JLM rfl <| JLn (Pu.eql rfl rfl) <| JLM rfl ?_
  cases h1 : (decide (k = 6)) with
  | true =>
   replace h1 := dt h1
   iterate 2 refine ZC rfl ?_
   refine JLq (.bool true) (Pu.pickT rfl rfl) <| JLM rfl ?_
   iterate 2 refine ZC rfl ?_
   refine JLq (.bool true) (Pu.pickT rfl rfl) <| JLM rfl ?_
   iterate 2 refine ZC rfl ?_
   refine JLq (.bool true) (Pu.pickT rfl rfl) <| JLA rfl <| Zb ?_
   first | exact ⟨rfl, rfl⟩ | (exfalso; omega)
  | false =>
   replace h1 := df h1
   refine JLM rfl <| JLn (Pu.eql rfl rfl) <| JLq (.bool (decide (k = 8))) (Pu.pickF rfl rfl) <| JLM rfl ?_
   cases h2 : (decide (k = 8)) with
   | true =>
    replace h2 := dt h2
    iterate 2 refine ZC rfl ?_
    refine JLq (.bool true) (Pu.pickT rfl rfl) <| JLM rfl ?_
    iterate 2 refine ZC rfl ?_
    refine JLq (.bool true) (Pu.pickT rfl rfl) <| JLA rfl <| Zb ?_
    first | exact ⟨rfl, rfl⟩ | (exfalso; omega)
   | false =>
    replace h2 := df h2
    refine JLM rfl <| JLn (Pu.eql rfl rfl) <| JLq (.bool (decide (k = 11))) (Pu.pickF rfl rfl) <| JLM rfl ?_
    cases h3 : (decide (k = 11)) with
    | true =>
     replace h3 := dt h3
     iterate 2 refine ZC rfl ?_
     refine JLq (.bool true) (Pu.pickT rfl rfl) <| JLA rfl <| Zb ?_
     first | exact ⟨rfl, rfl⟩ | (exfalso; omega)
    | false =>
     replace h3 := df h3
     refine JLM rfl <| JLn (Pu.eql rfl rfl) <| JLq (.bool (decide (k = 12))) (Pu.pickF rfl rfl) <| JLA rfl <| Zb ?_
     first | exact ⟨rfl, rfl⟩ | (exfalso; omega)
 rintro ρ4 _ ⟨e5, rfl⟩
 obtain ⟨ρ6, rfl⟩ := Zr (uc e5 un)
 clear e5
 refine Zh <| ⟨.bool ((((decide (k = 6)) || (decide (k = 8))) || (decide (k = 11))) || (decide (k = 12))), [], Ret.one rfl (RV.tmp rfl), Sub.nil, ?_⟩
 exact ⟨by simp_all [hasRefB], rfl⟩
theorem kidsR_ct (k : Int) (H : Heap) : CT Tryz.prog 137 ⟨[iv k]⟩ [] H (fun v N => v = .tuple ⟨[iv (loK k), iv (hiK k)]⟩ ∧ N = []) := by
 refine Zm Tryz.func137 rfl rfl <| Zc <| Za <| JLA rfl <| JLA rfl <| Zb <| Zc <| Zc <| Za <| JLM rfl <| Zb <| Zl <| Zc ?_
 refine Zc <| Za <| JLn (Pu.eql rfl rfl) <| JLA rfl <| Zb <| Zf rfl (fun h1 => ?_) (fun h1 => ?_)
 ·replace h1 := dt h1
  refine Zi <| Zf rfl (fun _ => ?_) (fun h2 => absurd h1 (df h2))
  refine Zc <| Za <| JLA rfl <| JLA rfl <| Zb <| Zh <| ⟨.tuple ⟨[iv 1, iv 1]⟩, [], Ret.two rfl (RV.tmp rfl) (RV.tmp rfl), Sub.nil, ?_⟩
  exact ⟨by simp_all [loK, hiK], rfl⟩
 replace h1 := df h1
 refine Zc <| Za <| JLn (Pu.eql rfl rfl) <| JLA rfl <| Zb <| Zf rfl (fun h3 => ?_) (fun h3 => ?_)
 ·replace h3 := dt h3
  refine Zi <| Zf rfl (fun _ => ?_) (fun h4 => absurd h3 (df h4))
  refine Zc <| Za <| JLA rfl <| JLA rfl <| Zb <| Zh <| ⟨.tuple ⟨[iv 1, iv 1]⟩, [], Ret.two rfl (RV.tmp rfl) (RV.tmp rfl), Sub.nil, ?_⟩
  exact ⟨by simp_all [loK, hiK], rfl⟩
 replace h3 := df h3
 refine Za <| JLn (Pu.eql rfl rfl) <| JLA rfl <| Zb <| Zf rfl (fun h5 => ?_) (fun h5 => ?_)
 ·replace h5 := dt h5
  refine Zc <| Za <| JLA rfl <| JLA rfl <| Zb <| Zh <| ⟨.tuple ⟨[iv 1, iv 1]⟩, [], Ret.two rfl (RV.tmp rfl) (RV.tmp rfl), Sub.nil, ?_⟩
  exact ⟨by simp_all [loK, hiK], rfl⟩
 replace h5 := df h5
 refine Zc <| Zc <| Za <| JLn (Pu.eql rfl rfl) <| JLA rfl <| Zb <| Zf rfl (fun h6 => ?_) (fun h6 => ?_)
 ·replace h6 := dt h6
  refine Zi <| Zf rfl (fun _ => ?_) (fun h7 => absurd h6 (df h7))
  refine Zc <| Za <| JLA rfl <| JLA rfl <| Zb <| Zh <| ⟨.tuple ⟨[iv 2, iv 2]⟩, [], Ret.two rfl (RV.tmp rfl) (RV.tmp rfl), Sub.nil, ?_⟩
  exact ⟨by simp_all [loK, hiK], rfl⟩
 replace h6 := df h6
 refine Zc <| Za <| JLn (Pu.eql rfl rfl) <| JLA rfl <| Zb <| Zf rfl (fun h8 => ?_) (fun h8 => ?_)
 ·replace h8 := dt h8
  refine Zi <| Zf rfl (fun _ => ?_) (fun h9 => absurd h8 (df h9))
  refine Zc <| Za <| JLA rfl <| JLA rfl <| Zb <| Zh <| ⟨.tuple ⟨[iv 2, iv 2]⟩, [], Ret.two rfl (RV.tmp rfl) (RV.tmp rfl), Sub.nil, ?_⟩
  exact ⟨by simp_all [loK, hiK], rfl⟩
 replace h8 := df h8
 refine Za <| JLn (Pu.eql rfl rfl) <| JLA rfl <| Zb <| Zf rfl (fun h10 => ?_) (fun h10 => ?_)
 ·replace h10 := dt h10
  refine Zc <| Za <| JLA rfl <| JLA rfl <| Zb <| Zh <| ⟨.tuple ⟨[iv 2, iv 2]⟩, [], Ret.two rfl (RV.tmp rfl) (RV.tmp rfl), Sub.nil, ?_⟩
  exact ⟨by simp_all [loK, hiK], rfl⟩
 replace h10 := df h10
 refine Zc <| Za <| JLn (Pu.eql rfl rfl) <| JLA rfl <| Zb <| Zf rfl (fun h11 => ?_) (fun h11 => ?_)
 ·replace h11 := dt h11
  refine Zc <| Za <| JLA rfl <| JLA rfl <| Zb <| Zh <| ⟨.tuple ⟨[iv 0, iv 4]⟩, [], Ret.two rfl (RV.tmp rfl) (RV.tmp rfl), Sub.nil, ?_⟩
  exact ⟨by simp_all [loK, hiK], rfl⟩
 replace h11 := df h11
 refine Zc <| Za <| JLn (Pu.eql rfl rfl) <| JLA rfl <| Zb <| Zf rfl (fun h12 => ?_) (fun h12 => ?_)
 ·replace h12 := dt h12
  refine Zc <| Za <| JLA rfl <| JLA rfl <| Zb <| Zh <| ⟨.tuple ⟨[iv 2, iv 10]⟩, [], Ret.two rfl (RV.tmp rfl) (RV.tmp rfl), Sub.nil, ?_⟩
  exact ⟨by simp_all [loK, hiK], rfl⟩
 replace h12 := df h12
 refine Zi <| Zc <| Za <| JLA rfl <| JLA rfl <| Zb <| Zh <| ⟨.tuple ⟨[iv 0, iv 0]⟩, [], Ret.two rfl (RV.tmp rfl) (RV.tmp rfl), Sub.nil, ?_⟩
 exact ⟨by simp_all [loK, hiK], rfl⟩
theorem fields_ct (k : Int) (H : Heap) : CT Tryz.prog 159 ⟨[iv k]⟩ [] H (fun v N => v = .agg ⟨[.bool (fN k), .bool (fR k), .bool (fC k)]⟩ ∧ N = []) := by
 refine Zm Tryz.func159 rfl rfl <| Zc <| Za <| JLr (Zn (l := [.bool false, .bool false, .bool false]) Tryz.zeroValue196 rfl fun b1 => Zb <| Zc <| Za <| JLr (Zn (l := [.bool false, .bool false, .bool false]) Tryz.zeroValue196 rfl fun b2 => Zb <| Zc <| Zc <| Za <| JLM rfl ?_))
 refine Zb <| Zl <| Zc <| Zc <| Za <| JLn (Pu.eql rfl rfl) <| JLA rfl <| Zb <| Zf rfl (fun h3 => ?_) (fun h3 => ?_)
 ·replace h3 := dt h3
  refine Zi <| Zf rfl (fun _ => ?_) (fun h4 => absurd h3 (df h4))
  refine Za <| JLq (pp b2 0) (Pu.idxA 0 Tryz.runUnderlying196 ty4 rfl rfl (by decide) (by decide)) <| JLr (Zd 0 (vs := [.bool true]) (l := [.bool true, .bool false, .bool false]) ty4 rfl rfl rfl rfl rfl (Zk rfl Zq) rfl <| Zb <| Zc <| Za <| JLr (Zg Yj rfl (At.bx 0 rfl) rfl <| JLr (Zd 1 (vs := [.bool true, .bool false, .bool false]) (l := [.bool true, .bool false, .bool false]) Yj rfl rfl rfl rfl rfl (Zk rfl (Zk rfl (Zk rfl Zq))) rfl <| Zb <| Zh <| ⟨.agg ⟨[.bool true, .bool false, .bool false]⟩, [], Ret.one rfl (RV.cell Yj rfl (At.bx 1 rfl) rfl), Sub.nil, ?_⟩)))
  exact ⟨by simp_all [fN, fR, fC], rfl⟩
 replace h3 := df h3
 refine Zc <| Za <| JLn (Pu.eql rfl rfl) <| JLA rfl <| Zb <| Zf rfl (fun h5 => ?_) (fun h5 => ?_)
 ·replace h5 := dt h5
  refine Zi <| Zf rfl (fun _ => ?_) (fun h6 => absurd h5 (df h6))
  refine Za <| JLq (pp b2 0) (Pu.idxA 0 Tryz.runUnderlying196 ty4 rfl rfl (by decide) (by decide)) <| JLr (Zd 0 (vs := [.bool true]) (l := [.bool true, .bool false, .bool false]) ty4 rfl rfl rfl rfl rfl (Zk rfl Zq) rfl <| Zb <| Zc <| Za <| JLr (Zg Yj rfl (At.bx 0 rfl) rfl <| JLr (Zd 1 (vs := [.bool true, .bool false, .bool false]) (l := [.bool true, .bool false, .bool false]) Yj rfl rfl rfl rfl rfl (Zk rfl (Zk rfl (Zk rfl Zq))) rfl <| Zb <| Zh <| ⟨.agg ⟨[.bool true, .bool false, .bool false]⟩, [], Ret.one rfl (RV.cell Yj rfl (At.bx 1 rfl) rfl), Sub.nil, ?_⟩)))
  exact ⟨by simp_all [fN, fR, fC], rfl⟩
 replace h5 := df h5
 refine Zc <| Za <| JLn (Pu.eql rfl rfl) <| JLA rfl <| Zb <| Zf rfl (fun h7 => ?_) (fun h7 => ?_)
 ·replace h7 := dt h7
  refine Zi <| Zf rfl (fun _ => ?_) (fun h8 => absurd h7 (df h8))
  refine Za <| JLq (pp b2 0) (Pu.idxA 0 Tryz.runUnderlying196 ty4 rfl rfl (by decide) (by decide)) <| JLr (Zd 0 (vs := [.bool true]) (l := [.bool true, .bool false, .bool false]) ty4 rfl rfl rfl rfl rfl (Zk rfl Zq) rfl <| Zb <| Zc <| Za <| JLr (Zg Yj rfl (At.bx 0 rfl) rfl <| JLr (Zd 1 (vs := [.bool true, .bool false, .bool false]) (l := [.bool true, .bool false, .bool false]) Yj rfl rfl rfl rfl rfl (Zk rfl (Zk rfl (Zk rfl Zq))) rfl <| Zb <| Zh <| ⟨.agg ⟨[.bool true, .bool false, .bool false]⟩, [], Ret.one rfl (RV.cell Yj rfl (At.bx 1 rfl) rfl), Sub.nil, ?_⟩)))
  exact ⟨by simp_all [fN, fR, fC], rfl⟩
 replace h7 := df h7
 refine Za <| JLn (Pu.eql rfl rfl) <| JLA rfl <| Zb <| Zf rfl (fun h9 => ?_) (fun h9 => ?_)
 ·replace h9 := dt h9
  refine Za <| JLq (pp b2 0) (Pu.idxA 0 Tryz.runUnderlying196 ty4 rfl rfl (by decide) (by decide)) <| JLr (Zd 0 (vs := [.bool true]) (l := [.bool true, .bool false, .bool false]) ty4 rfl rfl rfl rfl rfl (Zk rfl Zq) rfl <| Zb <| Zc <| Za <| JLr (Zg Yj rfl (At.bx 0 rfl) rfl <| JLr (Zd 1 (vs := [.bool true, .bool false, .bool false]) (l := [.bool true, .bool false, .bool false]) Yj rfl rfl rfl rfl rfl (Zk rfl (Zk rfl (Zk rfl Zq))) rfl <| Zb <| Zh <| ⟨.agg ⟨[.bool true, .bool false, .bool false]⟩, [], Ret.one rfl (RV.cell Yj rfl (At.bx 1 rfl) rfl), Sub.nil, ?_⟩)))
  exact ⟨by simp_all [fN, fR, fC], rfl⟩
 replace h9 := df h9
 refine Zc <| Zc <| Za <| JLn (Pu.eql rfl rfl) <| JLA rfl <| Zb <| Zf rfl (fun h10 => ?_) (fun h10 => ?_)
 ·replace h10 := dt h10
  refine Zi <| Zf rfl (fun _ => ?_) (fun h11 => absurd h10 (df h11))
  refine Za <| JLq (pp b2 0) (Pu.idxA 0 Tryz.runUnderlying196 ty4 rfl rfl (by decide) (by decide)) <| JLr (Zd 0 (vs := [.bool true]) (l := [.bool true, .bool false, .bool false]) ty4 rfl rfl rfl rfl rfl (Zk rfl Zq) rfl <| JLq (pp b2 1) (Pu.idxA 1 Tryz.runUnderlying196 ty4 rfl rfl (by decide) (by decide)) <| JLr (Zd 0 (vs := [.bool true]) (l := [.bool true, .bool true, .bool false]) ty4 rfl rfl rfl rfl rfl (Zk rfl Zq) rfl <| Zb <| Zc <| Za <| JLr (Zg Yj rfl (At.bx 0 rfl) rfl <| JLr (Zd 1 (vs := [.bool true, .bool true, .bool false]) (l := [.bool true, .bool true, .bool false]) Yj rfl rfl rfl rfl rfl (Zk rfl (Zk rfl (Zk rfl Zq))) rfl <| Zb <| Zh <| ⟨.agg ⟨[.bool true, .bool true, .bool false]⟩, [], Ret.one rfl (RV.cell Yj rfl (At.bx 1 rfl) rfl), Sub.nil, ?_⟩))))
  exact ⟨by simp_all [fN, fR, fC], rfl⟩
 replace h10 := df h10
 refine Za <| JLn (Pu.eql rfl rfl) <| JLA rfl <| Zb <| Zf rfl (fun h12 => ?_) (fun h12 => ?_)
 ·replace h12 := dt h12
  refine Za <| JLq (pp b2 0) (Pu.idxA 0 Tryz.runUnderlying196 ty4 rfl rfl (by decide) (by decide)) <| JLr (Zd 0 (vs := [.bool true]) (l := [.bool true, .bool false, .bool false]) ty4 rfl rfl rfl rfl rfl (Zk rfl Zq) rfl <| JLq (pp b2 1) (Pu.idxA 1 Tryz.runUnderlying196 ty4 rfl rfl (by decide) (by decide)) <| JLr (Zd 0 (vs := [.bool true]) (l := [.bool true, .bool true, .bool false]) ty4 rfl rfl rfl rfl rfl (Zk rfl Zq) rfl <| Zb <| Zc <| Za <| JLr (Zg Yj rfl (At.bx 0 rfl) rfl <| JLr (Zd 1 (vs := [.bool true, .bool true, .bool false]) (l := [.bool true, .bool true, .bool false]) Yj rfl rfl rfl rfl rfl (Zk rfl (Zk rfl (Zk rfl Zq))) rfl <| Zb <| Zh <| ⟨.agg ⟨[.bool true, .bool true, .bool false]⟩, [], Ret.one rfl (RV.cell Yj rfl (At.bx 1 rfl) rfl), Sub.nil, ?_⟩))))
  exact ⟨by simp_all [fN, fR, fC], rfl⟩
 replace h12 := df h12
 refine Zc <| Zc <| Za <| JLn (Pu.eql rfl rfl) <| JLA rfl <| Zb <| Zf rfl (fun h13 => ?_) (fun h13 => ?_)
 ·replace h13 := dt h13
  refine Zi <| Zf rfl (fun _ => ?_) (fun h14 => absurd h13 (df h14))
  refine Za <| JLq (pp b2 1) (Pu.idxA 1 Tryz.runUnderlying196 ty4 rfl rfl (by decide) (by decide)) <| JLr (Zd 0 (vs := [.bool true]) (l := [.bool false, .bool true, .bool false]) ty4 rfl rfl rfl rfl rfl (Zk rfl Zq) rfl <| Zb <| Zc <| Za <| JLr (Zg Yj rfl (At.bx 0 rfl) rfl <| JLr (Zd 1 (vs := [.bool false, .bool true, .bool false]) (l := [.bool false, .bool true, .bool false]) Yj rfl rfl rfl rfl rfl (Zk rfl (Zk rfl (Zk rfl Zq))) rfl <| Zb <| Zh <| ⟨.agg ⟨[.bool false, .bool true, .bool false]⟩, [], Ret.one rfl (RV.cell Yj rfl (At.bx 1 rfl) rfl), Sub.nil, ?_⟩)))
  exact ⟨by simp_all [fN, fR, fC], rfl⟩
 replace h13 := df h13
 refine Za <| JLn (Pu.eql rfl rfl) <| JLA rfl <| Zb <| Zf rfl (fun h15 => ?_) (fun h15 => ?_)
 ·replace h15 := dt h15
  refine Za <| JLq (pp b2 1) (Pu.idxA 1 Tryz.runUnderlying196 ty4 rfl rfl (by decide) (by decide)) <| JLr (Zd 0 (vs := [.bool true]) (l := [.bool false, .bool true, .bool false]) ty4 rfl rfl rfl rfl rfl (Zk rfl Zq) rfl <| Zb <| Zc <| Za <| JLr (Zg Yj rfl (At.bx 0 rfl) rfl <| JLr (Zd 1 (vs := [.bool false, .bool true, .bool false]) (l := [.bool false, .bool true, .bool false]) Yj rfl rfl rfl rfl rfl (Zk rfl (Zk rfl (Zk rfl Zq))) rfl <| Zb <| Zh <| ⟨.agg ⟨[.bool false, .bool true, .bool false]⟩, [], Ret.one rfl (RV.cell Yj rfl (At.bx 1 rfl) rfl), Sub.nil, ?_⟩)))
  exact ⟨by simp_all [fN, fR, fC], rfl⟩
 replace h15 := df h15
 refine Zc <| Za <| JLn (Pu.eql rfl rfl) <| JLA rfl <| Zb <| Zf rfl (fun h16 => ?_) (fun h16 => ?_)
 ·replace h16 := dt h16
  refine Za <| JLq (pp b2 2) (Pu.idxA 2 Tryz.runUnderlying196 ty4 rfl rfl (by decide) (by decide)) <| JLr (Zd 0 (vs := [.bool true]) (l := [.bool false, .bool false, .bool true]) ty4 rfl rfl rfl rfl rfl (Zk rfl Zq) rfl <| Zb <| Zc <| Za <| JLr (Zg Yj rfl (At.bx 0 rfl) rfl <| JLr (Zd 1 (vs := [.bool false, .bool false, .bool true]) (l := [.bool false, .bool false, .bool true]) Yj rfl rfl rfl rfl rfl (Zk rfl (Zk rfl (Zk rfl Zq))) rfl <| Zb <| Zh <| ⟨.agg ⟨[.bool false, .bool false, .bool true]⟩, [], Ret.one rfl (RV.cell Yj rfl (At.bx 1 rfl) rfl), Sub.nil, ?_⟩)))
  exact ⟨by simp_all [fN, fR, fC], rfl⟩
 replace h16 := df h16
 refine Zi <| Zc <| Za <| JLr (Zg Yj rfl (At.bx 0 rfl) rfl <| JLr (Zd 1 (vs := [.bool false, .bool false, .bool false]) (l := [.bool false, .bool false, .bool false]) Yj rfl rfl rfl rfl rfl (Zk rfl (Zk rfl (Zk rfl Zq))) rfl <| Zb <| Zh <| ⟨.agg ⟨[.bool false, .bool false, .bool false]⟩, [], Ret.one rfl (RV.cell Yj rfl (At.bx 1 rfl) rfl), Sub.nil, ?_⟩))
 exact ⟨by simp_all [fN, fR, fC], rfl⟩
theorem patternFields_ct (k : Int) (H : Heap) : CT Tryz.prog 169 ⟨[iv k]⟩ [] H (fun v N => v = .agg ⟨[.bool (pfN k), .bool (pfR k), .bool false]⟩ ∧ N = []) := by
 refine Zm Tryz.func169 rfl rfl <| Zc <| Za <| JLr (Zn (l := [.bool false, .bool false, .bool false]) Tryz.zeroValue196 rfl fun b1 => Zb <| Zc <| Zc <| Za <| JLM rfl <| Zb <| Zl <| Zc <| Za ?_)
 refine JLn (Pu.eql rfl rfl) <| JLA rfl <| Zb <| Zf rfl (fun h2 => ?_) (fun h2 => ?_)
 ·replace h2 := dt h2
  refine Zc <| Za <| JLq (.agg ⟨[.bool true, .bool false, .bool false]⟩) (Pu.build (pv := [(0, .bool true), (1, .bool false), (2, .bool false)]) (l := [.bool true, .bool false, .bool false]) rfl (bld196_0_1_2 _ _ _)) <| JLr (Zd 0 (vs := [.bool true, .bool false, .bool false]) (l := [.bool true, .bool false, .bool false]) Yj rfl rfl rfl rfl rfl (Zk rfl (Zk rfl (Zk rfl Zq))) rfl <| Zb <| Zh <| ⟨.agg ⟨[.bool true, .bool false, .bool false]⟩, [], Ret.one rfl (RV.cell Yj rfl (At.bx 0 rfl) rfl), Sub.nil, ?_⟩)
  exact ⟨by simp_all [pfN, pfR], rfl⟩
 replace h2 := df h2
 refine Zc <| Za <| JLn (Pu.eql rfl rfl) <| JLA rfl <| Zb <| Zf rfl (fun h3 => ?_) (fun h3 => ?_)
 ·replace h3 := dt h3
  refine Zc <| Za <| JLq (.agg ⟨[.bool true, .bool true, .bool false]⟩) (Pu.build (pv := [(0, .bool true), (1, .bool true), (2, .bool false)]) (l := [.bool true, .bool true, .bool false]) rfl (bld196_0_1_2 _ _ _)) <| JLr (Zd 0 (vs := [.bool true, .bool true, .bool false]) (l := [.bool true, .bool true, .bool false]) Yj rfl rfl rfl rfl rfl (Zk rfl (Zk rfl (Zk rfl Zq))) rfl <| Zb <| Zh <| ⟨.agg ⟨[.bool true, .bool true, .bool false]⟩, [], Ret.one rfl (RV.cell Yj rfl (At.bx 0 rfl) rfl), Sub.nil, ?_⟩)
  exact ⟨by simp_all [pfN, pfR], rfl⟩
 replace h3 := df h3
 refine Zi <| Zc <| Za <| JLq (.agg ⟨[.bool false, .bool false, .bool false]⟩) (Pu.build (pv := []) (l := [.bool false, .bool false, .bool false]) rfl bld196_) <| JLr (Zd 0 (vs := [.bool false, .bool false, .bool false]) (l := [.bool false, .bool false, .bool false]) Yj rfl rfl rfl rfl rfl (Zk rfl (Zk rfl (Zk rfl Zq))) rfl <| Zb <| Zh <| ⟨.agg ⟨[.bool false, .bool false, .bool false]⟩, [], Ret.one rfl (RV.cell Yj rfl (At.bx 0 rfl) rfl), Sub.nil, ?_⟩)
 exact ⟨by simp_all [pfN, pfR], rfl⟩
theorem clash_ct (a b c : Bool) (n : Int) (r : Sm) (m : Int) (H : Heap) : CT Tryz.prog 158 ⟨[.agg ⟨[.bool a, .bool b, .bool c]⟩, iv n, .agg ⟨sC r⟩, iv m]⟩ [] H (fun v N => v = .bool (clashB a b c n r m) ∧ N = []) := by
 refine Zm Tryz.func158 rfl rfl <| Zc <| Za <| JLr (Zo (l := [.bool a, .bool b, .bool c]) rfl rfl fun b1 => JLr (Zo (l := sC r) rfl rfl fun b2 => JLA rfl <| Zb <| Zc <| Za <| JLM rfl <| JLn (Pu.neq rfl rfl) <| JLr (Zg Xm rfl (At.bx 0 rfl) (Zt rfl) <| JLq (.agg ⟨sC zS⟩) (Pu.build (pv := []) (l := sC zS) rfl bld23_) ?_)))
 refine JLn (neqS rfl rfl) <| JLM rfl <| JLn (Pu.gtr rfl rfl) <| JLq (.agg ⟨[.bool (!decide (n = 0)), .bool (!decide (r = zS)), .bool (decide (0 < m))]⟩) (Pu.build (pv := [(0, .bool (!decide (n = 0))), (1, .bool (!decide (r = zS))), (2, .bool (decide (0 < m)))]) (l := [.bool (!decide (n = 0)), .bool (!decide (r = zS)), .bool (decide (0 < m))]) rfl (bld196_0_1_2 _ _ _)) <| JLr (Zn (l := [.bool false, .bool false, .bool false]) Tryz.zeroValue196 rfl fun b3 => JLr (Zd 0 (vs := [.bool (!decide (n = 0)), .bool (!decide (r = zS)), .bool (decide (0 < m))]) (l := [.bool (!decide (n = 0)), .bool (!decide (r = zS)), .bool (decide (0 < m))]) Yj rfl rfl rfl rfl rfl (Zk rfl (Zk rfl (Zk rfl Zq))) rfl <| Zb <| Zc <| Za <| JLr (Zg Yj rfl (At.bx 0 rfl) rfl <| JLr (Zn (l := [.bool false, .bool false, .bool false]) Tryz.zeroValue196 rfl fun b4 => JLr (Zd 0 (vs := [.bool (!decide (n = 0)), .bool (!decide (r = zS)), .bool (decide (0 < m))]) (l := [.bool (!decide (n = 0)), .bool (!decide (r = zS)), .bool (decide (0 < m))]) Yj rfl rfl rfl rfl rfl (Zk rfl (Zk rfl (Zk rfl Zq))) rfl <| Zb ?_)))))
 refine Zc <| Zc <| Za <| JLM rfl <| Zb <| Zl <| YV 4 <| Yg <| Zc <| Za <| JLq (.bool true) (show Pu _ _ _ (.bool (decide ((0 : Int) < 3))) from Pu.lss rfl rfl) <| Zb <| Zc ?_
 refine Zf (b := true) rfl (fun _ => ?_) (fun h => absurd h (by simp))
 refine Zi <| Zc <| Zl <| Zc <| Za <| JLM rfl <| JLA rfl <| Zb <| J_weak (N := fun ρ M => ρ 4 = pp b1 0 ∧ ρ 8 = .bool false ∧ ρ 9 = pp b3 0 ∧ ρ 10 = pp b4 0 ∧ ρ 21 = iv 0 ∧ M = [(BX b4 [.bool ((!decide (n = 0)) && a), .bool (!decide (r = zS)), .bool (decide (0 < m))] 196), (BX b3 [.bool (!decide (n = 0)), .bool (!decide (r = zS)), .bool (decide (0 < m))] 196), (BX b2 (sC r) 23), (BX b1 [.bool a, .bool b, .bool c] 196)]) ?_ ?_
 ·refine Za <| JLM rfl <| JLM rfl <| JLq (pp b3 0) (Pu.idxA 0 Tryz.runUnderlying196 ty4 rfl rfl (by decide) (by decide)) <| JLr (Ze ty4 rfl (At.bx 1 rfl) rfl <| JLM rfl ?_)
  cases h5 : (!decide (n = 0)) with
  | true =>
   replace h5 := nt h5
   replace h5 := df h5
   refine JLM rfl <| JLq (pp b1 0) (Pu.idxA 0 Tryz.runUnderlying196 ty4 rfl rfl (by decide) (by decide)) <| JLr (Ze ty4 rfl (At.bx 3 rfl) rfl <| JLq (.bool a) (Pu.pickT rfl rfl) <| JLq (pp b4 0) (Pu.idxA 0 Tryz.runUnderlying196 ty4 rfl rfl (by decide) (by decide)) <| JLr (Zd 0 (vs := [.bool a]) (l := [.bool a, .bool (!decide (r = zS)), .bool (decide (0 < m))]) ty4 rfl rfl rfl rfl rfl (Zk rfl Zq) rfl <| Zb ?_))
   first | exact ⟨rfl, rfl, rfl, rfl, rfl, rfl⟩ | (exfalso; omega)
  | false =>
   replace h5 := nf h5
   replace h5 := dt h5
   iterate 3 refine ZC rfl ?_
   refine JLq (.bool false) (Pu.pickF rfl rfl) <| JLq (pp b4 0) (Pu.idxA 0 Tryz.runUnderlying196 ty4 rfl rfl (by decide) (by decide)) <| JLr (Zd 0 (vs := [.bool false]) (l := [.bool false, .bool (!decide (r = zS)), .bool (decide (0 < m))]) ty4 rfl rfl rfl rfl rfl (Zk rfl Zq) rfl <| Zb ?_)
   first | exact ⟨rfl, rfl, rfl, rfl, rfl, rfl⟩ | (exfalso; omega)
 rintro ρ6 _ ⟨e7, e8, e9, e10, e11, rfl⟩
 obtain ⟨ρ12, rfl⟩ := Zr (uc e7 (uc e8 (uc e9 (uc e10 (uc e11 un)))))
 clear e7 e8 e9 e10 e11
 refine Za <| JLq (iv 1) (Pu.arith rfl rfl rfl) <| JLM rfl <| Zb <| Yg <| Zc <| Za <| JLq (.bool true) (show Pu _ _ _ (.bool (decide ((1 : Int) < 3))) from Pu.lss rfl rfl) <| Zb <| Zc <| Zf (b := true) rfl (fun _ => ?_) (fun h => absurd h (by simp))
 refine Zi <| Zc <| Zl <| Zc <| Za <| JLM rfl <| JLA rfl <| Zb <| J_weak (N := fun ρ M => ρ 4 = pp b1 0 ∧ ρ 8 = .bool false ∧ ρ 9 = pp b3 0 ∧ ρ 10 = pp b4 0 ∧ ρ 21 = iv 1 ∧ M = [(BX b4 [.bool ((!decide (n = 0)) && a), .bool ((!decide (r = zS)) && b), .bool (decide (0 < m))] 196), (BX b3 [.bool (!decide (n = 0)), .bool (!decide (r = zS)), .bool (decide (0 < m))] 196), (BX b2 (sC r) 23), (BX b1 [.bool a, .bool b, .bool c] 196)]) ?_ ?_
 ·refine Za <| JLM rfl <| JLM rfl <| JLq (pp b3 1) (Pu.idxA 1 Tryz.runUnderlying196 ty4 rfl rfl (by decide) (by decide)) <| JLr (Ze ty4 rfl (At.bx 1 rfl) rfl <| JLM rfl ?_)
  cases h13 : (!decide (r = zS)) with
  | true =>
   replace h13 := nt h13
   replace h13 := df h13
   refine JLM rfl <| JLq (pp b1 1) (Pu.idxA 1 Tryz.runUnderlying196 ty4 rfl rfl (by decide) (by decide)) <| JLr (Ze ty4 rfl (At.bx 3 rfl) rfl <| JLq (.bool b) (Pu.pickT rfl rfl) <| JLq (pp b4 1) (Pu.idxA 1 Tryz.runUnderlying196 ty4 rfl rfl (by decide) (by decide)) <| JLr (Zd 0 (vs := [.bool b]) (l := [.bool ((!decide (n = 0)) && a), .bool b, .bool (decide (0 < m))]) ty4 rfl rfl rfl rfl rfl (Zk rfl Zq) rfl <| Zb ?_))
   first | exact ⟨rfl, rfl, rfl, rfl, rfl, rfl⟩ | (exfalso; omega)
  | false =>
   replace h13 := nf h13
   replace h13 := dt h13
   iterate 3 refine ZC rfl ?_
   refine JLq (.bool false) (Pu.pickF rfl rfl) <| JLq (pp b4 1) (Pu.idxA 1 Tryz.runUnderlying196 ty4 rfl rfl (by decide) (by decide)) <| JLr (Zd 0 (vs := [.bool false]) (l := [.bool ((!decide (n = 0)) && a), .bool false, .bool (decide (0 < m))]) ty4 rfl rfl rfl rfl rfl (Zk rfl Zq) rfl <| Zb ?_)
   first | exact ⟨rfl, rfl, rfl, rfl, rfl, rfl⟩ | (exfalso; omega)
 rintro ρ14 _ ⟨e15, e16, e17, e18, e19, rfl⟩
 obtain ⟨ρ20, rfl⟩ := Zr (uc e15 (uc e16 (uc e17 (uc e18 (uc e19 un)))))
 clear e15 e16 e17 e18 e19
 refine Za <| JLq (iv 2) (Pu.arith rfl rfl rfl) <| JLM rfl <| Zb <| Yg <| Zc <| Za <| JLq (.bool true) (show Pu _ _ _ (.bool (decide ((2 : Int) < 3))) from Pu.lss rfl rfl) <| Zb <| Zc <| Zf (b := true) rfl (fun _ => ?_) (fun h => absurd h (by simp))
 refine Zi <| Zc <| Zl <| Zc <| Za <| JLM rfl <| JLA rfl <| Zb <| J_weak (N := fun ρ M => ρ 4 = pp b1 0 ∧ ρ 8 = .bool false ∧ ρ 9 = pp b3 0 ∧ ρ 10 = pp b4 0 ∧ ρ 21 = iv 2 ∧ M = [(BX b4 [.bool ((!decide (n = 0)) && a), .bool ((!decide (r = zS)) && b), .bool ((decide (0 < m)) && c)] 196), (BX b3 [.bool (!decide (n = 0)), .bool (!decide (r = zS)), .bool (decide (0 < m))] 196), (BX b2 (sC r) 23), (BX b1 [.bool a, .bool b, .bool c] 196)]) ?_ ?_
 ·refine Za <| JLM rfl <| JLM rfl <| JLq (pp b3 2) (Pu.idxA 2 Tryz.runUnderlying196 ty4 rfl rfl (by decide) (by decide)) <| JLr (Ze ty4 rfl (At.bx 1 rfl) rfl <| JLM rfl ?_)
  cases h21 : (decide (0 < m)) with
  | true =>
   replace h21 := dt h21
   refine JLM rfl <| JLq (pp b1 2) (Pu.idxA 2 Tryz.runUnderlying196 ty4 rfl rfl (by decide) (by decide)) <| JLr (Ze ty4 rfl (At.bx 3 rfl) rfl <| JLq (.bool c) (Pu.pickT rfl rfl) <| JLq (pp b4 2) (Pu.idxA 2 Tryz.runUnderlying196 ty4 rfl rfl (by decide) (by decide)) <| JLr (Zd 0 (vs := [.bool c]) (l := [.bool ((!decide (n = 0)) && a), .bool ((!decide (r = zS)) && b), .bool c]) ty4 rfl rfl rfl rfl rfl (Zk rfl Zq) rfl <| Zb ?_))
   first | exact ⟨rfl, rfl, rfl, rfl, rfl, rfl⟩ | (exfalso; omega)
  | false =>
   replace h21 := df h21
   iterate 3 refine ZC rfl ?_
   refine JLq (.bool false) (Pu.pickF rfl rfl) <| JLq (pp b4 2) (Pu.idxA 2 Tryz.runUnderlying196 ty4 rfl rfl (by decide) (by decide)) <| JLr (Zd 0 (vs := [.bool false]) (l := [.bool ((!decide (n = 0)) && a), .bool ((!decide (r = zS)) && b), .bool false]) ty4 rfl rfl rfl rfl rfl (Zk rfl Zq) rfl <| Zb ?_)
   first | exact ⟨rfl, rfl, rfl, rfl, rfl, rfl⟩ | (exfalso; omega)
 rintro ρ22 _ ⟨e23, e24, e25, e26, e27, rfl⟩
 obtain ⟨ρ28, rfl⟩ := Zr (uc e23 (uc e24 (uc e25 (uc e26 (uc e27 un)))))
 clear e23 e24 e25 e26 e27
 refine Za <| JLq (iv 3) (Pu.arith rfl rfl rfl) <| JLM rfl <| Zb <| Yg <| Zc <| Za <| JLq (.bool false) (show Pu _ _ _ (.bool (decide ((3 : Int) < 3))) from Pu.lss rfl rfl) <| Zb <| Zc <| Zf (b := false) rfl (fun h => absurd h (by simp)) (fun _ => Zy _ rfl <| Zc ?_)
 refine Za <| JLr (Zg Yj rfl (At.bx 0 rfl) rfl <| JLr (Zg Yj rfl (At.bx 1 rfl) rfl <| JLq (.bool (!((((!decide (n = 0)) && a) == (!decide (n = 0))) && ((((!decide (r = zS)) && b) == (!decide (r = zS))) && (((decide (0 < m)) && c) == (decide (0 < m))))))) (neqB3 rfl rfl) <| JLA rfl <| Zb <| Zh <| ⟨.bool (!((((!decide (n = 0)) && a) == (!decide (n = 0))) && ((((!decide (r = zS)) && b) == (!decide (r = zS))) && (((decide (0 < m)) && c) == (decide (0 < m)))))), [], Ret.one rfl (RV.tmp rfl), Sub.nil, ?_⟩))
 exact ⟨by unfold clashB; congr 1; cases a <;> cases b <;> cases c <;> simp, rfl⟩
theorem kidsT_ct (k n : Int) (H : Heap) : CT Tryz.prog 160 ⟨[iv k, iv n]⟩ [] H (fun v N => v = .bool (kidsB k n) ∧ N = []) := by
 refine Zm Tryz.func160 rfl rfl <| Zc <| Za <| JLA rfl <| Zb <| Zc <| Zc <| Za <| JLM rfl <| Zb <| Zl <| Zc <| Zc ?_
 refine Za <| JLn (Pu.eql rfl rfl) <| JLA rfl <| Zb <| Zf rfl (fun h1 => ?_) (fun h1 => ?_)
 ·replace h1 := dt h1
  refine Zi <| Zf rfl (fun _ => ?_) (fun h2 => absurd h1 (df h2))
  refine Zc <| Za <| JLM rfl <| JLn (Pu.eql rfl rfl) <| JLA rfl <| Zb <| Zh <| ⟨.bool (decide (n = 1)), [], Ret.one rfl (RV.tmp rfl), Sub.nil, ?_⟩
  exact ⟨by simp_all [kidsB], rfl⟩
 replace h1 := df h1
 refine Zc <| Za <| JLn (Pu.eql rfl rfl) <| JLA rfl <| Zb <| Zf rfl (fun h3 => ?_) (fun h3 => ?_)
 ·replace h3 := dt h3
  refine Zi <| Zf rfl (fun _ => ?_) (fun h4 => absurd h3 (df h4))
  refine Zc <| Za <| JLM rfl <| JLn (Pu.eql rfl rfl) <| JLA rfl <| Zb <| Zh <| ⟨.bool (decide (n = 1)), [], Ret.one rfl (RV.tmp rfl), Sub.nil, ?_⟩
  exact ⟨by simp_all [kidsB], rfl⟩
 replace h3 := df h3
 refine Za <| JLn (Pu.eql rfl rfl) <| JLA rfl <| Zb <| Zf rfl (fun h5 => ?_) (fun h5 => ?_)
 ·replace h5 := dt h5
  refine Zc <| Za <| JLM rfl <| JLn (Pu.eql rfl rfl) <| JLA rfl <| Zb <| Zh <| ⟨.bool (decide (n = 1)), [], Ret.one rfl (RV.tmp rfl), Sub.nil, ?_⟩
  exact ⟨by simp_all [kidsB], rfl⟩
 replace h5 := df h5
 refine Zc <| Zc <| Za <| JLn (Pu.eql rfl rfl) <| JLA rfl <| Zb <| Zf rfl (fun h6 => ?_) (fun h6 => ?_)
 ·replace h6 := dt h6
  refine Zi <| Zf rfl (fun _ => ?_) (fun h7 => absurd h6 (df h7))
  refine Zc <| Za <| JLM rfl <| JLn (Pu.eql rfl rfl) <| JLA rfl <| Zb <| Zh <| ⟨.bool (decide (n = 2)), [], Ret.one rfl (RV.tmp rfl), Sub.nil, ?_⟩
  exact ⟨by simp_all [kidsB], rfl⟩
 replace h6 := df h6
 refine Zc <| Za <| JLn (Pu.eql rfl rfl) <| JLA rfl <| Zb <| Zf rfl (fun h8 => ?_) (fun h8 => ?_)
 ·replace h8 := dt h8
  refine Zi <| Zf rfl (fun _ => ?_) (fun h9 => absurd h8 (df h9))
  refine Zc <| Za <| JLM rfl <| JLn (Pu.eql rfl rfl) <| JLA rfl <| Zb <| Zh <| ⟨.bool (decide (n = 2)), [], Ret.one rfl (RV.tmp rfl), Sub.nil, ?_⟩
  exact ⟨by simp_all [kidsB], rfl⟩
 replace h8 := df h8
 refine Za <| JLn (Pu.eql rfl rfl) <| JLA rfl <| Zb <| Zf rfl (fun h10 => ?_) (fun h10 => ?_)
 ·replace h10 := dt h10
  refine Zc <| Za <| JLM rfl <| JLn (Pu.eql rfl rfl) <| JLA rfl <| Zb <| Zh <| ⟨.bool (decide (n = 2)), [], Ret.one rfl (RV.tmp rfl), Sub.nil, ?_⟩
  exact ⟨by simp_all [kidsB], rfl⟩
 replace h10 := df h10
 refine Zc <| Za <| JLn (Pu.eql rfl rfl) <| JLA rfl <| Zb <| Zf rfl (fun h11 => ?_) (fun h11 => ?_)
 ·replace h11 := dt h11
  refine Zc <| Za <| JLM rfl <| JLn (Pu.leq rfl rfl) <| JLA rfl <| Zb <| Zh <| ⟨.bool (decide (n ≤ 4)), [], Ret.one rfl (RV.tmp rfl), Sub.nil, ?_⟩
  exact ⟨by simp_all [kidsB], rfl⟩
 replace h11 := df h11
 refine Zc <| Za <| JLn (Pu.eql rfl rfl) <| JLA rfl <| Zb <| Zf rfl (fun h12 => ?_) (fun h12 => ?_)
 ·replace h12 := dt h12
  refine Zc <| Za <| JLM rfl <| Jc Tryz.call79 rfl (fun hin => Y0 _ _ _ _) rfl ?_
  rintro _ _ ⟨rfl, rfl⟩
  refine JLn (Pu.not rfl) <| JLA rfl <| Zb <| Zh <| ⟨.bool (!(decide (n < 2 ∨ 10 < n))), [], Ret.one rfl (RV.tmp rfl), Sub.nil, ?_⟩
  exact ⟨by simp_all [kidsB], rfl⟩
 replace h12 := df h12
 refine Zi <| Zc <| Za <| JLM rfl <| JLn (Pu.eql rfl rfl) <| JLA rfl <| Zb <| Zh <| ⟨.bool (decide (n = 0)), [], Ret.one rfl (RV.tmp rfl), Sub.nil, ?_⟩
 exact ⟨by simp_all [kidsB], rfl⟩
end Go.Proofs.YtmophpgiaiemhaaGreat.Hs
/-! Walks, printed by a program of this session's own (gen.py). -/
namespace Go.Proofs.YtmophpgiaiemhaaGreat.Hs
open Go Go.Proofs
set_option maxRecDepth 100000
set_option linter.unusedVariables false
set_option linter.unusedSimpArgs false
attribute [local irreducible] JL J CT wlo DT
theorem patternError_ct (kind num : Int) (ref : Sm) (ks : Value) (kids : List Pt) (H : Heap) (hks : rdS RP 35 H ks kids) : CT Tryz.prog 161 ⟨[.agg ⟨pkP kind num ref ks⟩]⟩ [] H (fun v N => v = iv (pErr kind num ref kids.length) ∧ N = []) := by
 refine Zm Tryz.func161 rfl rfl <| Zc <| Za <| JLr (Zo (l := pkP kind num ref ks) rfl rfl fun b1 => JLA rfl <| Zb <| Zc <| Za <| JLA rfl <| Zb <| Zc <| Zc <| Za ?_)
 refine JLq (pp b1 0) (YL rfl rfl) <| JLr (Ze ty3 rfl (At.bx 0 rfl) (Xp ..) <| JLn (Pu.eql rfl rfl) <| Zb <| Zf rfl (fun h2 => ?_) (fun h2 => ?_))
 ·replace h2 := dt h2
  refine Za <| JLA rfl <| Zb <| Zc <| Zl <| Zc <| Za <| JLq (pp b1 0) (YL rfl rfl) <| JLr (Ze ty3 rfl (At.bx 0 rfl) (Xp ..) <| Jc Tryz.call79 rfl (fun hin => Y0 _ _ _ _) rfl ?_)
  rintro _ _ ⟨rfl, rfl⟩
  refine JLA rfl <| Zb <| Zf rfl (fun h3 => ?_) (fun h3 => ?_)
  ·replace h3 := dt h3
   refine Zc <| Za <| JLA rfl <| Zb <| Zh <| ⟨iv 3, [], Ret.one rfl (RV.tmp rfl), Sub.nil, ?_⟩
   exact ⟨by refine congrArg (Value.int .i64) ?_; simp only [pErr]; (repeat' split) <;> first | rfl | omega | (exfalso; simp_all; done) | (exfalso; simp_all; omega) | grind, rfl⟩
  replace h3 := df h3
  refine Zc <| ZF mixed #[0, 1, 3, 0, 8, 0, 32, 127, 255] 7 [some 12, some 13, some 14, some 15, some 16, some 17, some 18] [] [(2, fun _ _ vw qw => vw = .agg ⟨[.bool (pfN kind), .bool (pfR kind), .bool false]⟩ ∧ qw = [])] rfl (by kernel_rfl) rfl (by kernel_rfl) <| Dq (pp b1 0) (fun _ => YL rfl rfl) <| Dl1 ty3 (At.bx 0 rfl) (Xp ..) <| Dc rfl Tryz.call169 (fun _ => rfl) (fun hin => patternFields_ct _ _) ?_
  rintro _ _ ⟨rfl, rfl⟩
  refine Dq (pp b1 1) (fun _ => fa75_1 rfl rfl) <| Dl1 ty3 (At.bx 0 rfl) (pkP_1 ..) <| Dq (pp b1 2) (fun _ => fa75_2 rfl rfl) <| Dl Xm (At.bx 0 rfl) (pkP_2 ..) <| ZL (M' := [(BX b1 (pkP kind num ref ks) 75)]) rfl ?_
  show JL _ _ _ [_, _] _ _ _
  refine Jc Tryz.call158 rfl (fun hin => clash_ct _ _ _ _ _ _ _) rfl ?_
  rintro _ _ ⟨rfl, rfl⟩
  refine JLA rfl <| Zb <| Zf rfl (fun h4 => ?_) (fun h4 => ?_)
  ·refine Zc <| Za <| JLA rfl <| Zb <| Zh <| ⟨iv 7, [], Ret.one rfl (RV.tmp rfl), Sub.nil, ?_⟩
   exact ⟨by refine congrArg (Value.int .i64) ?_; simp only [pErr]; (repeat' split) <;> first | rfl | omega | (exfalso; simp_all; done) | (exfalso; simp_all; omega) | grind, rfl⟩
  refine Zc <| Za <| JLq (pp b1 34) (Yl rfl rfl) <| JLr (Ze Xv rfl (At.bx 0 rfl) (Yw ..) ?_)
  obtain ⟨a5, cap5, hv5⟩ := hks.sl
  have hle5 := hks.le
  refine JLn (Pu.lenSl Tryz.runUnderlying73 hv5) <| JLM rfl <| JLn (Pu.gtr rfl rfl) <| JLA rfl <| Zb <| Zf rfl (fun h6 => ?_) (fun h6 => ?_)
  ·replace h6 := dt h6
   refine Zc <| Za <| JLA rfl <| Zb <| Zh <| ⟨iv 2, [], Ret.one rfl (RV.tmp rfl), Sub.nil, ?_⟩
   exact ⟨by refine congrArg (Value.int .i64) ?_; simp only [pErr]; (repeat' split) <;> first | rfl | omega | (exfalso; simp_all; done) | (exfalso; simp_all; omega) | grind, rfl⟩
  replace h6 := df h6
  refine Zc <| Zc <| Za <| JLq (pp b1 0) (YL rfl rfl) <| JLr (Ze ty3 rfl (At.bx 0 rfl) (Xp ..) <| JLn (Pu.eql rfl rfl) <| JLM rfl <| Zx 3 [31, 32, 33] [(33, cond (decide (kind = 2)) (.bool (decide (num < 0 ∨ 1073741824 < num))) undef)] ?_ fun f8 => ?_)
  ·cases h7 : (decide (kind = 2)) with
   | true =>
    replace h7 := dt h7
    refine JLq (pp b1 1) (fa75_1 rfl rfl) <| JLr (Ze ty3 rfl (At.bx 0 rfl) (pkP_1 ..) <| Jc Tryz.call79 rfl (fun hin => Y0 _ _ _ _) rfl ?_)
    rintro _ _ ⟨rfl, rfl⟩
    exact Zb ⟨⟨rfl, trivial⟩, rfl⟩
   | false =>
    exact ZG rfl ⟨rfl, trivial⟩
  refine JLn (Pu.pickAnd rfl rfl rfl) <| JLA rfl <| Zb <| Zf rfl (fun h9 => ?_) (fun h9 => ?_)
  ·obtain ⟨h9a, h9b⟩ := Yr h9
   replace h9a := dt h9a
   replace h9b := dt h9b
   refine Zi <| Zf rfl (fun h10 => ?_) (fun h10 => ?_)
   ·obtain ⟨h10a, h10b⟩ := Yr h10
    replace h10a := dt h10a
    replace h10b := dt h10b
    refine Zc <| Za <| JLA rfl <| Zb <| Zh <| ⟨iv 3, [], Ret.one rfl (RV.tmp rfl), Sub.nil, ?_⟩
    exact ⟨by refine congrArg (Value.int .i64) ?_; simp only [pErr]; (repeat' split) <;> first | rfl | omega | (exfalso; simp_all; done) | (exfalso; simp_all; omega) | grind, rfl⟩
   refine Zi <| Zc <| Za <| JLA rfl <| Zb <| Zh <| ⟨iv 0, [], Ret.one rfl (RV.tmp rfl), Sub.nil, ?_⟩
   exact ⟨by refine congrArg (Value.int .i64) ?_; simp only [pErr]; (repeat' split) <;> first | rfl | omega | (exfalso; simp_all; done) | (exfalso; simp_all; omega) | grind, rfl⟩
  refine Za <| JLq (pp b1 0) (YL rfl rfl) <| JLr (Ze ty3 rfl (At.bx 0 rfl) (Xp ..) <| JLn (Pu.eql rfl rfl) <| JLM rfl <| Zx 3 [39, 40, 41] [(41, cond (decide (kind = 3)) (.bool (decide (num < 0 ∨ 7 < num))) undef)] ?_ fun f12 => ?_)
  ·cases h11 : (decide (kind = 3)) with
   | true =>
    replace h11 := dt h11
    refine JLq (pp b1 1) (fa75_1 rfl rfl) <| JLr (Ze ty3 rfl (At.bx 0 rfl) (pkP_1 ..) <| Jc Tryz.call79 rfl (fun hin => Y0 _ _ _ _) rfl ?_)
    rintro _ _ ⟨rfl, rfl⟩
    exact Zb ⟨⟨rfl, trivial⟩, rfl⟩
   | false =>
    exact ZG rfl ⟨rfl, trivial⟩
  refine JLn (Pu.pickAnd rfl rfl rfl) <| JLA rfl <| Zb <| Zf rfl (fun h13 => ?_) (fun h13 => ?_)
  ·obtain ⟨h13a, h13b⟩ := Yr h13
   replace h13a := dt h13a
   replace h13b := dt h13b
   refine Zc <| Za <| JLA rfl <| Zb <| Zh <| ⟨iv 3, [], Ret.one rfl (RV.tmp rfl), Sub.nil, ?_⟩
   exact ⟨by refine congrArg (Value.int .i64) ?_; simp only [pErr]; (repeat' split) <;> first | rfl | omega | (exfalso; simp_all; done) | (exfalso; simp_all; omega) | grind, rfl⟩
  refine Zi <| Zc <| Za <| JLA rfl <| Zb <| Zh <| ⟨iv 0, [], Ret.one rfl (RV.tmp rfl), Sub.nil, ?_⟩
  exact ⟨by refine congrArg (Value.int .i64) ?_; simp only [pErr]; (repeat' split) <;> first | rfl | omega | (exfalso; simp_all; done) | (exfalso; simp_all; omega) | grind, rfl⟩
 replace h2 := df h2
 refine Zi <| Zc <| Zl <| Zc <| Za <| JLq (pp b1 0) (YL rfl rfl) <| JLr (Ze ty3 rfl (At.bx 0 rfl) (Xp ..) <| Jc Tryz.call79 rfl (fun hin => Y0 _ _ _ _) rfl ?_)
 rintro _ _ ⟨rfl, rfl⟩
 refine JLA rfl <| Zb <| Zf rfl (fun h14 => ?_) (fun h14 => ?_)
 ·replace h14 := dt h14
  refine Zc <| Za <| JLA rfl <| Zb <| Zh <| ⟨iv 3, [], Ret.one rfl (RV.tmp rfl), Sub.nil, ?_⟩
  exact ⟨by refine congrArg (Value.int .i64) ?_; simp only [pErr]; (repeat' split) <;> first | rfl | omega | (exfalso; simp_all; done) | (exfalso; simp_all; omega) | grind, rfl⟩
 replace h14 := df h14
 refine Zc <| ZF mixed #[0, 1, 3, 0, 8, 0, 32, 127, 255] 7 [some 12, some 13, some 14, some 15, some 16, some 17, some 18] [] [(2, fun _ _ vw qw => vw = .agg ⟨[.bool (pfN kind), .bool (pfR kind), .bool false]⟩ ∧ qw = [])] rfl (by kernel_rfl) rfl (by kernel_rfl) <| Dq (pp b1 0) (fun _ => YL rfl rfl) <| Dl1 ty3 (At.bx 0 rfl) (Xp ..) <| Dc rfl Tryz.call169 (fun _ => rfl) (fun hin => patternFields_ct _ _) ?_
 rintro _ _ ⟨rfl, rfl⟩
 refine Dq (pp b1 1) (fun _ => fa75_1 rfl rfl) <| Dl1 ty3 (At.bx 0 rfl) (pkP_1 ..) <| Dq (pp b1 2) (fun _ => fa75_2 rfl rfl) <| Dl Xm (At.bx 0 rfl) (pkP_2 ..) <| ZL (M' := [(BX b1 (pkP kind num ref ks) 75)]) rfl ?_
 show JL _ _ _ [_, _] _ _ _
 refine Jc Tryz.call158 rfl (fun hin => clash_ct _ _ _ _ _ _ _) rfl ?_
 rintro _ _ ⟨rfl, rfl⟩
 refine JLA rfl <| Zb <| Zf rfl (fun h15 => ?_) (fun h15 => ?_)
 ·refine Zc <| Za <| JLA rfl <| Zb <| Zh <| ⟨iv 7, [], Ret.one rfl (RV.tmp rfl), Sub.nil, ?_⟩
  exact ⟨by refine congrArg (Value.int .i64) ?_; simp only [pErr]; (repeat' split) <;> first | rfl | omega | (exfalso; simp_all; done) | (exfalso; simp_all; omega) | grind, rfl⟩
 refine Zc <| Za <| JLq (pp b1 34) (Yl rfl rfl) <| JLr (Ze Xv rfl (At.bx 0 rfl) (Yw ..) ?_)
 obtain ⟨a16, cap16, hv16⟩ := hks.sl
 have hle16 := hks.le
 refine JLn (Pu.lenSl Tryz.runUnderlying73 hv16) <| JLM rfl <| JLn (Pu.gtr rfl rfl) <| JLA rfl <| Zb <| Zf rfl (fun h17 => ?_) (fun h17 => ?_)
 ·replace h17 := dt h17
  refine Zc <| Za <| JLA rfl <| Zb <| Zh <| ⟨iv 2, [], Ret.one rfl (RV.tmp rfl), Sub.nil, ?_⟩
  exact ⟨by refine congrArg (Value.int .i64) ?_; simp only [pErr]; (repeat' split) <;> first | rfl | omega | (exfalso; simp_all; done) | (exfalso; simp_all; omega) | grind, rfl⟩
 replace h17 := df h17
 refine Zc <| Zc <| Za <| JLq (pp b1 0) (YL rfl rfl) <| JLr (Ze ty3 rfl (At.bx 0 rfl) (Xp ..) <| JLn (Pu.eql rfl rfl) <| JLM rfl <| Zx 3 [31, 32, 33] [(33, cond (decide (kind = 2)) (.bool (decide (num < 0 ∨ 1073741824 < num))) undef)] ?_ fun f19 => ?_)
 ·cases h18 : (decide (kind = 2)) with
  | true =>
   replace h18 := dt h18
   refine JLq (pp b1 1) (fa75_1 rfl rfl) <| JLr (Ze ty3 rfl (At.bx 0 rfl) (pkP_1 ..) <| Jc Tryz.call79 rfl (fun hin => Y0 _ _ _ _) rfl ?_)
   rintro _ _ ⟨rfl, rfl⟩
   exact Zb ⟨⟨rfl, trivial⟩, rfl⟩
  | false =>
   exact ZG rfl ⟨rfl, trivial⟩
 refine JLn (Pu.pickAnd rfl rfl rfl) <| JLA rfl <| Zb <| Zf rfl (fun h20 => ?_) (fun h20 => ?_)
 ·obtain ⟨h20a, h20b⟩ := Yr h20
  replace h20a := dt h20a
  replace h20b := dt h20b
  refine Zi <| Zf rfl (fun h21 => ?_) (fun h21 => ?_)
  ·obtain ⟨h21a, h21b⟩ := Yr h21
   replace h21a := dt h21a
   replace h21b := dt h21b
   refine Zc <| Za <| JLA rfl <| Zb <| Zh <| ⟨iv 3, [], Ret.one rfl (RV.tmp rfl), Sub.nil, ?_⟩
   exact ⟨by refine congrArg (Value.int .i64) ?_; simp only [pErr]; (repeat' split) <;> first | rfl | omega | (exfalso; simp_all; done) | (exfalso; simp_all; omega) | grind, rfl⟩
  refine Zi <| Zc <| Za <| JLA rfl <| Zb <| Zh <| ⟨iv 0, [], Ret.one rfl (RV.tmp rfl), Sub.nil, ?_⟩
  exact ⟨by refine congrArg (Value.int .i64) ?_; simp only [pErr]; (repeat' split) <;> first | rfl | omega | (exfalso; simp_all; done) | (exfalso; simp_all; omega) | grind, rfl⟩
 refine Za <| JLq (pp b1 0) (YL rfl rfl) <| JLr (Ze ty3 rfl (At.bx 0 rfl) (Xp ..) <| JLn (Pu.eql rfl rfl) <| JLM rfl <| Zx 3 [39, 40, 41] [(41, cond (decide (kind = 3)) (.bool (decide (num < 0 ∨ 7 < num))) undef)] ?_ fun f23 => ?_)
 ·cases h22 : (decide (kind = 3)) with
  | true =>
   replace h22 := dt h22
   refine JLq (pp b1 1) (fa75_1 rfl rfl) <| JLr (Ze ty3 rfl (At.bx 0 rfl) (pkP_1 ..) <| Jc Tryz.call79 rfl (fun hin => Y0 _ _ _ _) rfl ?_)
   rintro _ _ ⟨rfl, rfl⟩
   exact Zb ⟨⟨rfl, trivial⟩, rfl⟩
  | false =>
   exact ZG rfl ⟨rfl, trivial⟩
 refine JLn (Pu.pickAnd rfl rfl rfl) <| JLA rfl <| Zb <| Zf rfl (fun h24 => ?_) (fun h24 => ?_)
 ·obtain ⟨h24a, h24b⟩ := Yr h24
  replace h24a := dt h24a
  replace h24b := dt h24b
  refine Zc <| Za <| JLA rfl <| Zb <| Zh <| ⟨iv 3, [], Ret.one rfl (RV.tmp rfl), Sub.nil, ?_⟩
  exact ⟨by refine congrArg (Value.int .i64) ?_; simp only [pErr]; (repeat' split) <;> first | rfl | omega | (exfalso; simp_all; done) | (exfalso; simp_all; omega) | grind, rfl⟩
 refine Zi <| Zc <| Za <| JLA rfl <| Zb <| Zh <| ⟨iv 0, [], Ret.one rfl (RV.tmp rfl), Sub.nil, ?_⟩
 exact ⟨by refine congrArg (Value.int .i64) ?_; simp only [pErr]; (repeat' split) <;> first | rfl | omega | (exfalso; simp_all; done) | (exfalso; simp_all; omega) | grind, rfl⟩
theorem patternsError_ct : ∀ (p : Pt) (cs : List Value) (H : Heap), RP H cs p → CT Tryz.prog 129 ⟨[.agg ⟨cs⟩]⟩ [] H (fun v N => v = iv (pErrs p) ∧ N = []) := by
 intro p
 induction p using Pt.ind with
 | h kind num ref kids ih =>
 intro cs H hp
 obtain ⟨ks, rfl, hk, hn, hks⟩ := RP_mk.1 hp
 refine Zm Tryz.func129 rfl rfl <| Zc <| Za <| JLr (Zo (l := pkP kind num ref ks) rfl rfl fun b1 => JLA rfl <| Zb <| Zc <| Za <| JLr (Zg Z6 rfl (At.bx 0 rfl) (pkP_a ..) <| Jc Tryz.call161 rfl (fun hin => patternError_ct _ _ _ _ _ _ (RPs.mono (Hle.hu _ _) hks)) rfl ?_))
 rintro _ _ ⟨rfl, rfl⟩
 refine JLA rfl <| Zb <| Zc <| Zc <| Za <| JLA rfl <| Zb <| Zl <| ZE (fun k ρ M => ∃ (j : Nat) (e : Int), ρ 1 = pp b1 0 ∧ ρ 2 = iv 0 ∧ ρ 3 = iv e ∧ ρ 4 = iv ((j : Int)) ∧ Sub [(BX b1 (pkP kind num ref ks) 75)] M ∧ j ≤ kids.length ∧ (if e = 0 then pErrsL (kids.drop j) else e) = pErrs (.mk kind num ref kids) ∧ k = kids.length - j) _ ⟨0, (pErr kind num ref kids.length), rfl, rfl, rfl, rfl, (Sk Sub.nil), Nat.zero_le _, (by rw [pErrs]; rfl), rfl⟩ ?_
 rintro _ ρ2 _ ⟨j, e, e3, e4, e5, e6, hm7, hj, hinv, rfl⟩
 obtain ⟨ρ8, rfl⟩ := Zr (uc e3 (uc e4 (uc e5 (uc e6 un))))
 clear e3 e4 e5 e6
 refine ZJ hm7 ?_
 have hlen := hks.le
 refine Zc <| Zc <| Za <| JLM rfl <| JLq (pp b1 34) (Yl rfl rfl) <| JLr (Ze Xv rfl (At.bx 0 rfl) (Yw ..) ?_)
 obtain ⟨a9, cap9, hv9⟩ := hks.sl
 have hle9 := hks.le
 refine JLn (Pu.lenSl Tryz.runUnderlying73 hv9) <| JLn (Pu.lss rfl rfl) <| JLM rfl <| Zx 2 [13, 14] [(14, cond (decide ((j : Int) < (kids.length : Int))) (.bool (decide (e = 0))) undef)] ?_ fun f11 => ?_
 ·cases h10 : (decide ((j : Int) < (kids.length : Int))) with
  | true =>
   replace h10 := dt h10
   have h10n : j < kids.length := by omega
   refine JLM rfl <| JLn (Pu.eql rfl rfl) ?_
   exact Zb ⟨⟨rfl, trivial⟩, rfl⟩
  | false =>
   exact ZG rfl ⟨rfl, trivial⟩
 refine JLn (Pu.pickAnd rfl rfl rfl) <| Zb <| Zf rfl (fun h12 => ?_) (fun h12 => ?_)
 ·obtain ⟨h12a, h12b⟩ := Yr h12
  replace h12a := dt h12a
  have h12an : j < kids.length := by omega
  replace h12b := dt h12b
  refine Zi <| Zc <| Zl <| Za <| JLq (pp b1 34) (Yl rfl rfl) <| JLr (Ze Xv rfl (At.bx 0 rfl) (Yw ..) <| JLM rfl ?_)
  obtain ⟨b13, o13, cap13, row13, T13, fr13, cs13, hv13, hb13, hs13, hE13⟩ := hks.get j (by first | assumption | omega | decide | simp)
  refine JLq (pp b13 (o13 + j * 35)) (Pu.idx j Tryz.runUnderlying73 Z6 hv13 rfl rfl (by first | assumption | omega | decide | simp)) <| JLr (Zg Z6 rfl (At.im hb13) hs13 <| Jc Tryz.call129 rfl (fun hin => ih _ (List.getElem_mem h12an) _ _ (RP.mono (Hle.hu _ _) hE13)) rfl ?_)
  rintro _ _ ⟨rfl, rfl⟩
  refine JLA rfl <| Zb <| Za <| JLM rfl <| JLn (Pu.inc rfl rfl (by omega)) <| JLA rfl <| Zb <| ⟨_, ?_, (j + 1), (pErrs (kids[j])), rfl, rfl, rfl, rfl, (Sk Sub.nil), ?_, ?_, rfl⟩
  ·omega
  ·omega
  rw [if_pos (by assumption), ZU h12an, pErrsL] at hinv; exact hinv
 refine Zy _ rfl <| Zc <| Za <| JLM rfl <| JLA rfl <| Zb <| Zh <| ⟨iv e, [], Ret.one rfl (RV.tmp rfl), Sub.nil, ?_⟩
 refine ⟨?_, rfl⟩
 rw [← hinv]; by_cases he : e = 0
 ·have hj2 : kids.length ≤ j := by
   apply Nat.le_of_not_lt; intro hlt; have : (j : Int) < (kids.length : Int) := by omega
   simp_all
  rw [if_pos he, Yt hj2, he]; rfl
 rw [if_neg he]
theorem patternErrorR_ct : ∀ (p : Pt) (cs : List Value) (H : Heap), RP H cs p → CT Tryz.prog 138 ⟨[.agg ⟨cs⟩]⟩ [] H (fun v N => v = iv (pErrR p) ∧ N = []) := by
 intro p
 induction p using Pt.ind with
 | h kind num ref kids ih =>
 intro cs H hp
 obtain ⟨ks, rfl, hk, hn, hks⟩ := RP_mk.1 hp
 refine Zm Tryz.func138 rfl rfl <| Zc <| Za <| JLr (Zo (l := pkP kind num ref ks) rfl rfl fun b1 => JLA rfl <| Zb <| Zc <| Zc <| Za <| JLq (pp b1 0) (YL rfl rfl) <| JLr (Ze ty3 rfl (At.bx 0 rfl) (Xp ..) <| Jc Tryz.call134 rfl (fun hin => offR_ct _ _ _ _) rfl ?_))
 rintro _ _ ⟨rfl, rfl⟩
 refine Zb <| Zf rfl (fun h2 => ?_) (fun h2 => ?_)
 ·replace h2 := dt h2
  refine Zc <| Za <| JLA rfl <| Zb <| Zh <| ⟨iv 3, [], Ret.one rfl (RV.tmp rfl), Sub.nil, ?_⟩
  have hx : pHead kind num ref kids.length = 3 := by simp only [pHead]; (repeat' split) <;> first | rfl | omega | (exfalso; simp_all; done) | (exfalso; simp_all; omega) | grind
  exact ⟨by rw [pErrR, hx]; rfl, rfl⟩
 replace h2 := df h2
 refine Zi <| Zc <| Zc <| Za <| JLq (pp b1 0) (YL rfl rfl) <| JLr (Ze ty3 rfl (At.bx 0 rfl) (Xp ..) <| JLn (Pu.eql rfl rfl) <| JLM rfl <| Zx 3 [12, 13, 14] [(14, cond (decide (kind = 1)) (.bool (!decide (num = 0))) undef)] ?_ fun f4 => ?_)
 ·cases h3 : (decide (kind = 1)) with
  | true =>
   replace h3 := dt h3
   refine JLq (pp b1 1) (fa75_1 rfl rfl) <| JLr (Ze ty3 rfl (At.bx 0 rfl) (pkP_1 ..) <| JLn (Pu.neq rfl rfl) ?_)
   exact Zb ⟨⟨rfl, trivial⟩, rfl⟩
  | false =>
   exact ZG rfl ⟨rfl, trivial⟩
 refine JLn (Pu.pickAnd rfl rfl rfl) <| JLM rfl <| Zx 9 [17, 18, 19, 20, 21, 22, 23, 24, 25] [(25, cond ((decide (kind = 1)) && (!decide (num = 0))) undef (.bool ((!decide (kind = 3)) && (!decide (ref = zS)))))] ?_ fun f8 => ?_
 ·cases h5 : ((decide (kind = 1)) && (!decide (num = 0))) with
  | false =>
   refine JLq (pp b1 0) (YL rfl rfl) <| JLr (Ze ty3 rfl (At.bx 0 rfl) (Xp ..) <| JLn (Pu.neq rfl rfl) <| JLM rfl <| Zx 4 [21, 22, 23, 24] [(24, cond (!decide (kind = 3)) (.bool (!decide (ref = zS))) undef)] ?_ fun f7 => ?_)
   ·cases h6 : (!decide (kind = 3)) with
    | true =>
     replace h6 := nt h6
     replace h6 := df h6
     refine JLq (pp b1 2) (fa75_2 rfl rfl) <| JLr (Zg Xm rfl (At.bx 0 rfl) (pkP_2 ..) <| JLq (.agg ⟨sC zS⟩) (Pu.build (pv := []) (l := sC zS) rfl bld23_) <| JLn (neqS rfl rfl) ?_)
     exact Zb ⟨⟨rfl, trivial⟩, rfl⟩
    | false =>
     exact ZG rfl ⟨rfl, trivial⟩
   refine JLn (Pu.pickAnd rfl rfl rfl) ?_
   exact Zb ⟨⟨rfl, trivial⟩, rfl⟩
  | true =>
   exact ZG rfl ⟨rfl, trivial⟩
 refine JLn (Pu.pickOr rfl rfl rfl) <| Zb <| Zf rfl (fun h9 => ?_) (fun h9 => ?_)
 ·refine Zc <| Za <| JLA rfl <| Zb <| Zh <| ⟨iv 7, [], Ret.one rfl (RV.tmp rfl), Sub.nil, ?_⟩
  have hx : pHead kind num ref kids.length = 7 := by simp only [pHead]; (repeat' split) <;> first | rfl | omega | (exfalso; simp_all; done) | (exfalso; simp_all; omega) | grind
  exact ⟨by rw [pErrR, hx]; rfl, rfl⟩
 obtain ⟨h9a, h9b⟩ := orF h9
 refine Zi <| Zc <| Zc <| Za <| JLq (pp b1 0) (YL rfl rfl) <| JLr (Ze ty3 rfl (At.bx 0 rfl) (Xp ..) <| JLn (Pu.neq rfl rfl) <| JLM rfl <| Zx 4 [31, 32, 33, 34] [(34, cond (!decide (kind = 3)) (.bool (decide (0 < (kids.length : Int)))) undef)] ?_ fun f12 => ?_)
 ·cases h10 : (!decide (kind = 3)) with
  | true =>
   replace h10 := nt h10
   replace h10 := df h10
   refine JLq (pp b1 34) (Yl rfl rfl) <| JLr (Ze Xv rfl (At.bx 0 rfl) (Yw ..) ?_)
   obtain ⟨a11, cap11, hv11⟩ := hks.sl
   have hle11 := hks.le
   refine JLn (Pu.lenSl Tryz.runUnderlying73 hv11) <| JLn (Pu.gtr rfl rfl) ?_
   exact Zb ⟨⟨rfl, trivial⟩, rfl⟩
  | false =>
   exact ZG rfl ⟨rfl, trivial⟩
 refine JLn (Pu.pickAnd rfl rfl rfl) <| JLM rfl <| Zx 4 [37, 38, 39, 40] [(40, cond ((!decide (kind = 3)) && (decide (0 < (kids.length : Int)))) undef (.bool (decide (4 < (kids.length : Int)))))] ?_ fun f15 => ?_
 ·cases h13 : ((!decide (kind = 3)) && (decide (0 < (kids.length : Int)))) with
  | false =>
   refine JLq (pp b1 34) (Yl rfl rfl) <| JLr (Ze Xv rfl (At.bx 0 rfl) (Yw ..) ?_)
   obtain ⟨a14, cap14, hv14⟩ := hks.sl
   have hle14 := hks.le
   refine JLn (Pu.lenSl Tryz.runUnderlying73 hv14) <| JLn (Pu.gtr rfl rfl) ?_
   exact Zb ⟨⟨rfl, trivial⟩, rfl⟩
  | true =>
   exact ZG rfl ⟨rfl, trivial⟩
 refine JLn (Pu.pickOr rfl rfl rfl) <| Zb <| Zf rfl (fun h16 => ?_) (fun h16 => ?_)
 ·refine Zc <| Za <| JLA rfl <| Zb <| Zh <| ⟨iv 2, [], Ret.one rfl (RV.tmp rfl), Sub.nil, ?_⟩
  have hx : pHead kind num ref kids.length = 2 := by simp only [pHead]; (repeat' split) <;> first | rfl | omega | (exfalso; simp_all; done) | (exfalso; simp_all; omega) | grind
  exact ⟨by rw [pErrR, hx]; rfl, rfl⟩
 obtain ⟨h16a, h16b⟩ := orF h16
 replace h16b := df h16b
 refine Zi <| Zc <| Zc <| Za <| JLq (pp b1 0) (YL rfl rfl) <| JLr (Ze ty3 rfl (At.bx 0 rfl) (Xp ..) <| JLn (Pu.eql rfl rfl) <| JLM rfl <| Zx 3 [46, 47, 48] [(48, cond (decide (kind = 2)) (.bool (decide (num < 0 ∨ 1073741824 < num))) undef)] ?_ fun f18 => ?_)
 ·cases h17 : (decide (kind = 2)) with
  | true =>
   replace h17 := dt h17
   refine JLq (pp b1 1) (fa75_1 rfl rfl) <| JLr (Ze ty3 rfl (At.bx 0 rfl) (pkP_1 ..) <| Jc Tryz.call134 rfl (fun hin => offR_ct _ _ _ _) rfl ?_)
   rintro _ _ ⟨rfl, rfl⟩
   exact Zb ⟨⟨rfl, trivial⟩, rfl⟩
  | false =>
   exact ZG rfl ⟨rfl, trivial⟩
 refine JLn (Pu.pickAnd rfl rfl rfl) <| JLM rfl <| Zx 8 [51, 52, 53, 54, 55, 56, 57, 58] [(58, cond ((decide (kind = 2)) && (decide (num < 0 ∨ 1073741824 < num))) undef (.bool ((decide (kind = 3)) && (decide (num < 0 ∨ 7 < num)))))] ?_ fun f22 => ?_
 ·cases h19 : ((decide (kind = 2)) && (decide (num < 0 ∨ 1073741824 < num))) with
  | false =>
   refine JLq (pp b1 0) (YL rfl rfl) <| JLr (Ze ty3 rfl (At.bx 0 rfl) (Xp ..) <| JLn (Pu.eql rfl rfl) <| JLM rfl <| Zx 3 [55, 56, 57] [(57, cond (decide (kind = 3)) (.bool (decide (num < 0 ∨ 7 < num))) undef)] ?_ fun f21 => ?_)
   ·cases h20 : (decide (kind = 3)) with
    | true =>
     replace h20 := dt h20
     refine JLq (pp b1 1) (fa75_1 rfl rfl) <| JLr (Ze ty3 rfl (At.bx 0 rfl) (pkP_1 ..) <| Jc Tryz.call134 rfl (fun hin => offR_ct _ _ _ _) rfl ?_)
     rintro _ _ ⟨rfl, rfl⟩
     exact Zb ⟨⟨rfl, trivial⟩, rfl⟩
    | false =>
     exact ZG rfl ⟨rfl, trivial⟩
   refine JLn (Pu.pickAnd rfl rfl rfl) ?_
   exact Zb ⟨⟨rfl, trivial⟩, rfl⟩
  | true =>
   exact ZG rfl ⟨rfl, trivial⟩
 refine JLn (Pu.pickOr rfl rfl rfl) <| Zb <| Zf rfl (fun h23 => ?_) (fun h23 => ?_)
 ·refine Zc <| Za <| JLA rfl <| Zb <| Zh <| ⟨iv 3, [], Ret.one rfl (RV.tmp rfl), Sub.nil, ?_⟩
  have hx : pHead kind num ref kids.length = 3 := by simp only [pHead]; (repeat' split) <;> first | rfl | omega | (exfalso; simp_all; done) | (exfalso; simp_all; omega) | grind
  exact ⟨by rw [pErrR, hx]; rfl, rfl⟩
 obtain ⟨h23a, h23b⟩ := orF h23
 refine Zi <| Zc <| Zc <| Za <| JLA rfl <| Zb <| Zl <| ZE (fun k ρ M => ∃ (j : Nat), ρ 1 = pp b1 0 ∧ ρ 2 = iv 0 ∧ ρ 3 = iv ((j : Int)) ∧ Sub [(BX b1 (pkP kind num ref ks) 75)] M ∧ j ≤ kids.length ∧ pHead kind num ref kids.length = 0 ∧ pErrRL (kids.drop j) = pErrRL kids ∧ k = kids.length - j) _ ⟨0, rfl, rfl, rfl, (Sk Sub.nil), Nat.zero_le _, (by simp only [pHead]; (repeat' split) <;> first | rfl | omega | (exfalso; simp_all; done) | (exfalso; simp_all; omega) | grind), rfl, rfl⟩ ?_
 rintro _ ρ24 _ ⟨j, e25, e26, e27, hm28, hj, hh, hinv, rfl⟩
 obtain ⟨ρ29, rfl⟩ := Zr (uc e25 (uc e26 (uc e27 un)))
 clear e25 e26 e27
 refine ZJ hm28 ?_
 have hlen := hks.le
 refine Zc <| Zc <| Za <| JLM rfl <| JLq (pp b1 34) (Yl rfl rfl) <| JLr (Ze Xv rfl (At.bx 0 rfl) (Yw ..) ?_)
 obtain ⟨a30, cap30, hv30⟩ := hks.sl
 have hle30 := hks.le
 refine JLn (Pu.lenSl Tryz.runUnderlying73 hv30) <| JLn (Pu.lss rfl rfl) <| Zb <| Zf rfl (fun h31 => ?_) (fun h31 => ?_)
 ·replace h31 := dt h31
  have h31n : j < kids.length := by omega
  refine Zi <| Zc <| Zl <| Zc <| Za <| JLq (pp b1 34) (Yl rfl rfl) <| JLr (Ze Xv rfl (At.bx 0 rfl) (Yw ..) <| JLM rfl ?_)
  obtain ⟨b32, o32, cap32, row32, T32, fr32, cs32, hv32, hb32, hs32, hE32⟩ := hks.get j (by first | assumption | omega | decide | simp)
  refine JLq (pp b32 (o32 + j * 35)) (Pu.idx j Tryz.runUnderlying73 Z6 hv32 rfl rfl (by first | assumption | omega | decide | simp)) <| JLr (Zg Z6 rfl (At.im hb32) hs32 <| Jc Tryz.call138 rfl (fun hin => ih _ (List.getElem_mem h31n) _ _ (RP.mono (Hle.hu _ _) hE32)) rfl ?_)
  rintro _ _ ⟨rfl, rfl⟩
  refine JLA rfl <| Zb <| Zc <| Za <| JLM rfl <| JLn (Pu.neq rfl rfl) <| Zb <| Zf rfl (fun h33 => ?_) (fun h33 => ?_)
  ·replace h33 := nt h33
   replace h33 := df h33
   refine Zc <| Za <| JLM rfl <| JLA rfl <| Zb <| Zh <| ⟨iv (pErrR (kids[j])), [], Ret.one rfl (RV.tmp rfl), Sub.nil, ?_⟩
   exact ⟨by rw [pErrR, if_pos hh, ← hinv, ZU h31n, pErrRL, if_neg h33], rfl⟩
  replace h33 := nf h33
  replace h33 := dt h33
  refine Zi <| Za <| JLM rfl <| JLn (Pu.inc rfl rfl (by omega)) <| JLA rfl <| Zb <| ⟨_, ?_, (j + 1), rfl, rfl, rfl, (Sk Sub.nil), ?_, ?_, ?_, rfl⟩
  ·omega
  ·omega
  ·assumption
  rw [ZU h31n, pErrRL, if_pos h33] at hinv; exact hinv
 replace h31 := df h31
 have h31n : kids.length ≤ j := by omega
 refine Zy _ rfl <| Zc <| Za <| JLA rfl <| Zb <| Zh <| ⟨iv 0, [], Ret.one rfl (RV.tmp rfl), Sub.nil, ?_⟩
 exact ⟨by rw [pErrR, if_pos hh, ← hinv, Yt h31n]; rfl, rfl⟩
theorem nodeError_ct : ∀ (t : Tm) (d m b : Int) (cs : List Value) (H : Heap), RT H cs t → 0 ≤ b → b + 2 * sizeT t ≤ 1000000 → CT Tryz.prog 106 ⟨[.agg ⟨cs⟩, iv d, iv m, iv b]⟩ [] H (fun v N => v = iv (YX d m b t) ∧ N = []) := by
 intro t
 induction t using Tm.ind with
 | h kind num ref kids cases ih ih' =>
 intro d m b cs H ht hb0 hb
 obtain ⟨ks, cv, rfl, hk, hn, hks, hcv⟩ := RT_mk.1 ht
 rw [sizeT] at hb
 have hn1 : -9223372036854775808 ≤ num := hn.1
 have hn2 : num ≤ 9223372036854775807 := hn.2
 refine Zm Tryz.func106 rfl rfl <| Zc <| Za <| JLr (Zo (l := pkT kind num ref ks cv) rfl rfl fun b1 => JLA rfl <| Zb <| Zc <| Zc <| Za <| JLq (pp b1 0) (ZO rfl rfl) <| JLr (Ze ty3 rfl (At.bx 0 rfl) (Z3 ..) <| Jc Tryz.call134 rfl (fun hin => offR_ct _ _ _ _) rfl ?_))
 rintro _ _ ⟨rfl, rfl⟩
 refine Zb <| Zf rfl (fun h2 => ?_) (fun h2 => ?_)
 ·replace h2 := dt h2
  refine Zc <| Za <| JLA rfl <| Zb <| Zh <| ⟨iv 3, [], Ret.one rfl (RV.tmp rfl), Sub.nil, ?_⟩
  have hx : Xh d m b kind num ref kids.length cases.length = 3 := by simp only [Xh]; (repeat' split) <;> first | rfl | omega | (exfalso; simp_all; done) | (exfalso; simp_all; omega) | grind
  exact ⟨by rw [YX, hx]; rfl, rfl⟩
 replace h2 := df h2
 refine Zi <| Zc <| Zc <| Za <| JLq (pp b1 0) (ZO rfl rfl) <| JLr (Ze ty3 rfl (At.bx 0 rfl) (Z3 ..) <| Jc Tryz.call135 rfl (fun hin => hasNum_ct _ _) rfl ?_)
 rintro _ _ ⟨rfl, rfl⟩
 refine JLn (Pu.not rfl) <| JLM rfl <| Zx 3 [25, 26, 27] [(27, cond (!(XH kind)) (.bool (!decide (num = 0))) undef)] ?_ fun f4 => ?_
 ·cases h3 : (!(XH kind)) with
  | true =>
   replace h3 := nt h3
   refine JLq (pp b1 1) (ZZ rfl rfl) <| JLr (Ze ty3 rfl (At.bx 0 rfl) (Yh ..) <| JLn (Pu.neq rfl rfl) ?_)
   exact Zb ⟨⟨rfl, trivial⟩, rfl⟩
  | false =>
   exact ZG rfl ⟨rfl, trivial⟩
 refine JLn (Pu.pickAnd rfl rfl rfl) <| JLM rfl <| Zx 10 [30, 31, 32, 33, 34, 35, 36, 37, 38, 39] [(39, cond ((!(XH kind)) && (!decide (num = 0))) undef (.bool ((!(hasRefB kind)) && (!decide (ref = zS)))))] ?_ fun f8 => ?_
 ·cases h5 : ((!(XH kind)) && (!decide (num = 0))) with
  | false =>
   refine JLq (pp b1 0) (ZO rfl rfl) <| JLr (Ze ty3 rfl (At.bx 0 rfl) (Z3 ..) <| Jc Tryz.call136 rfl (fun hin => hasRef_ct _ _) rfl ?_)
   rintro _ _ ⟨rfl, rfl⟩
   refine JLn (Pu.not rfl) <| JLM rfl <| Zx 4 [35, 36, 37, 38] [(38, cond (!(hasRefB kind)) (.bool (!decide (ref = zS))) undef)] ?_ fun f7 => ?_
   ·cases h6 : (!(hasRefB kind)) with
    | true =>
     replace h6 := nt h6
     refine JLq (pp b1 2) (fa27_2 rfl rfl) <| JLr (Zg Xm rfl (At.bx 0 rfl) (pkT_2 ..) <| JLq (.agg ⟨sC zS⟩) (Pu.build (pv := []) (l := sC zS) rfl bld23_) <| JLn (neqS rfl rfl) ?_)
     exact Zb ⟨⟨rfl, trivial⟩, rfl⟩
    | false =>
     exact ZG rfl ⟨rfl, trivial⟩
   refine JLn (Pu.pickAnd rfl rfl rfl) ?_
   exact Zb ⟨⟨rfl, trivial⟩, rfl⟩
  | true =>
   exact ZG rfl ⟨rfl, trivial⟩
 refine JLn (Pu.pickOr rfl rfl rfl) <| JLM rfl <| Zx 9 [42, 43, 44, 45, 46, 47, 48, 49, 50] [(50, cond (((!(XH kind)) && (!decide (num = 0))) || ((!(hasRefB kind)) && (!decide (ref = zS)))) undef (.bool ((!decide (kind = 9)) && (decide (0 < (cases.length : Int))))))] ?_ fun f13 => ?_
 ·cases h9 : (((!(XH kind)) && (!decide (num = 0))) || ((!(hasRefB kind)) && (!decide (ref = zS)))) with
  | false =>
   obtain ⟨h9a, h9b⟩ := orF h9
   refine JLq (pp b1 0) (ZO rfl rfl) <| JLr (Ze ty3 rfl (At.bx 0 rfl) (Z3 ..) <| JLn (Pu.neq rfl rfl) <| JLM rfl <| Zx 4 [46, 47, 48, 49] [(49, cond (!decide (kind = 9)) (.bool (decide (0 < (cases.length : Int)))) undef)] ?_ fun f12 => ?_)
   ·cases h10 : (!decide (kind = 9)) with
    | true =>
     replace h10 := nt h10
     replace h10 := df h10
     refine JLq (pp b1 35) (Z1 rfl rfl) <| JLr (Ze YI rfl (At.bx 0 rfl) (Z2 ..) ?_)
     obtain ⟨a11, cap11, hv11⟩ := hcv.sl
     have hle11 := hcv.le
     refine JLn (Pu.lenSl Tryz.runUnderlying25 hv11) <| JLn (Pu.gtr rfl rfl) ?_
     exact Zb ⟨⟨rfl, trivial⟩, rfl⟩
    | false =>
     exact ZG rfl ⟨rfl, trivial⟩
   refine JLn (Pu.pickAnd rfl rfl rfl) ?_
   exact Zb ⟨⟨rfl, trivial⟩, rfl⟩
  | true =>
   exact ZG rfl ⟨rfl, trivial⟩
 refine JLn (Pu.pickOr rfl rfl rfl) <| Zb <| Zf rfl (fun h14 => ?_) (fun h14 => ?_)
 ·refine Zc <| Za <| JLA rfl <| Zb <| Zh <| ⟨iv 7, [], Ret.one rfl (RV.tmp rfl), Sub.nil, ?_⟩
  have hx : Xh d m b kind num ref kids.length cases.length = 7 := by simp only [Xh]; (repeat' split) <;> first | rfl | omega | (exfalso; simp_all; done) | (exfalso; simp_all; omega) | grind
  exact ⟨by rw [YX, hx]; rfl, rfl⟩
 obtain ⟨h14a, h14b⟩ := orF h14
 obtain ⟨h14aa, h14ab⟩ := orF h14a
 refine Zi <| Zc <| Za <| JLq (pp b1 0) (ZO rfl rfl) <| JLr (Ze ty3 rfl (At.bx 0 rfl) (Z3 ..) <| Jc Tryz.call137 rfl (fun hin => kidsR_ct _ _) rfl ?_)
 rintro _ _ ⟨rfl, rfl⟩
 refine JLM rfl <| JLn (Pu.extract rfl rfl) <| JLn (Pu.extract rfl rfl) <| JLA rfl <| JLA rfl <| Zb <| Zc <| Zc <| Za <| JLq (pp b1 34) (Z8 rfl rfl) <| JLr (Ze YW rfl (At.bx 0 rfl) (Yb ..) ?_)
 obtain ⟨a15, cap15, hv15⟩ := hks.sl
 have hle15 := hks.le
 refine JLn (Pu.lenSl Tryz.runUnderlying24 hv15) <| JLM rfl <| JLM rfl <| Jc Tryz.call134 rfl (fun hin => offR_ct _ _ _ _) rfl ?_
 rintro _ _ ⟨rfl, rfl⟩
 refine JLM rfl <| Zx 4 [65, 66, 67, 68] [(68, cond (decide ((kids.length : Int) < loK kind ∨ hiK kind < (kids.length : Int))) undef (.bool (decide (8 < (cases.length : Int)))))] ?_ fun f18 => ?_
 ·cases h16 : (decide ((kids.length : Int) < loK kind ∨ hiK kind < (kids.length : Int))) with
  | false =>
   replace h16 := df h16
   refine JLq (pp b1 35) (Z1 rfl rfl) <| JLr (Ze YI rfl (At.bx 0 rfl) (Z2 ..) ?_)
   obtain ⟨a17, cap17, hv17⟩ := hcv.sl
   have hle17 := hcv.le
   refine JLn (Pu.lenSl Tryz.runUnderlying25 hv17) <| JLn (Pu.gtr rfl rfl) ?_
   exact Zb ⟨⟨rfl, trivial⟩, rfl⟩
  | true =>
   exact ZG rfl ⟨rfl, trivial⟩
 refine JLn (Pu.pickOr rfl rfl rfl) <| Zb <| Zf rfl (fun h19 => ?_) (fun h19 => ?_)
 ·refine Zc <| Za <| JLA rfl <| Zb <| Zh <| ⟨iv 2, [], Ret.one rfl (RV.tmp rfl), Sub.nil, ?_⟩
  have hx : Xh d m b kind num ref kids.length cases.length = 2 := by simp only [Xh]; (repeat' split) <;> first | rfl | omega | (exfalso; simp_all; done) | (exfalso; simp_all; omega) | grind
  exact ⟨by rw [YX, hx]; rfl, rfl⟩
 obtain ⟨h19a, h19b⟩ := orF h19
 replace h19a := df h19a
 replace h19b := df h19b
 refine Zi <| Zc <| Zc <| Za <| JLq (pp b1 0) (ZO rfl rfl) <| JLr (Ze ty3 rfl (At.bx 0 rfl) (Z3 ..) <| JLn (Pu.eql rfl rfl) <| JLM rfl <| Zx 3 [74, 75, 76] [(76, cond (decide (kind = 2)) (.bool (decide (num < 0 ∨ 1073741824 < num))) undef)] ?_ fun f21 => ?_)
 ·cases h20 : (decide (kind = 2)) with
  | true =>
   replace h20 := dt h20
   refine JLq (pp b1 1) (ZZ rfl rfl) <| JLr (Ze ty3 rfl (At.bx 0 rfl) (Yh ..) <| Jc Tryz.call134 rfl (fun hin => offR_ct _ _ _ _) rfl ?_)
   rintro _ _ ⟨rfl, rfl⟩
   exact Zb ⟨⟨rfl, trivial⟩, rfl⟩
  | false =>
   exact ZG rfl ⟨rfl, trivial⟩
 refine JLn (Pu.pickAnd rfl rfl rfl) <| JLM rfl <| Zx 8 [79, 80, 81, 82, 83, 84, 85, 86] [(86, cond ((decide (kind = 2)) && (decide (num < 0 ∨ 1073741824 < num))) undef (.bool ((decide (kind = 10)) && (decide (num < 1 ∨ 5 < num)))))] ?_ fun f25 => ?_
 ·cases h22 : ((decide (kind = 2)) && (decide (num < 0 ∨ 1073741824 < num))) with
  | false =>
   refine JLq (pp b1 0) (ZO rfl rfl) <| JLr (Ze ty3 rfl (At.bx 0 rfl) (Z3 ..) <| JLn (Pu.eql rfl rfl) <| JLM rfl <| Zx 3 [83, 84, 85] [(85, cond (decide (kind = 10)) (.bool (decide (num < 1 ∨ 5 < num))) undef)] ?_ fun f24 => ?_)
   ·cases h23 : (decide (kind = 10)) with
    | true =>
     replace h23 := dt h23
     refine JLq (pp b1 1) (ZZ rfl rfl) <| JLr (Ze ty3 rfl (At.bx 0 rfl) (Yh ..) <| Jc Tryz.call134 rfl (fun hin => offR_ct _ _ _ _) rfl ?_)
     rintro _ _ ⟨rfl, rfl⟩
     exact Zb ⟨⟨rfl, trivial⟩, rfl⟩
    | false =>
     exact ZG rfl ⟨rfl, trivial⟩
   refine JLn (Pu.pickAnd rfl rfl rfl) ?_
   exact Zb ⟨⟨rfl, trivial⟩, rfl⟩
  | true =>
   exact ZG rfl ⟨rfl, trivial⟩
 refine JLn (Pu.pickOr rfl rfl rfl) <| JLM rfl <| Zx 13 [89, 90, 91, 92, 93, 94, 95, 96, 97, 98, 99, 100, 101] [(101, cond (((decide (kind = 2)) && (decide (num < 0 ∨ 1073741824 < num))) || ((decide (kind = 10)) && (decide (num < 1 ∨ 5 < num)))) undef (.bool (((decide (kind = 8)) || (decide (kind = 11))) && (decide (num < 0 ∨ 7 < num)))))] ?_ fun f31 => ?_
 ·cases h26 : (((decide (kind = 2)) && (decide (num < 0 ∨ 1073741824 < num))) || ((decide (kind = 10)) && (decide (num < 1 ∨ 5 < num)))) with
  | false =>
   obtain ⟨h26a, h26b⟩ := orF h26
   refine JLq (pp b1 0) (ZO rfl rfl) <| JLr (Ze ty3 rfl (At.bx 0 rfl) (Z3 ..) <| JLn (Pu.eql rfl rfl) <| JLM rfl <| Zx 3 [93, 94, 95] [(95, cond (decide (kind = 8)) undef (.bool (decide (kind = 11))))] ?_ fun f28 => ?_)
   ·cases h27 : (decide (kind = 8)) with
    | false =>
     replace h27 := df h27
     refine JLq (pp b1 0) (ZO rfl rfl) <| JLr (Ze ty3 rfl (At.bx 0 rfl) (Z3 ..) <| JLn (Pu.eql rfl rfl) ?_)
     exact Zb ⟨⟨rfl, trivial⟩, rfl⟩
    | true =>
     exact ZG rfl ⟨rfl, trivial⟩
   refine JLn (Pu.pickOr rfl rfl rfl) <| JLM rfl <| Zx 3 [98, 99, 100] [(100, cond ((decide (kind = 8)) || (decide (kind = 11))) (.bool (decide (num < 0 ∨ 7 < num))) undef)] ?_ fun f30 => ?_
   ·cases h29 : ((decide (kind = 8)) || (decide (kind = 11))) with
    | true =>
     refine JLq (pp b1 1) (ZZ rfl rfl) <| JLr (Ze ty3 rfl (At.bx 0 rfl) (Yh ..) <| Jc Tryz.call134 rfl (fun hin => offR_ct _ _ _ _) rfl ?_)
     rintro _ _ ⟨rfl, rfl⟩
     exact Zb ⟨⟨rfl, trivial⟩, rfl⟩
    | false =>
     exact ZG rfl ⟨rfl, trivial⟩
   refine JLn (Pu.pickAnd rfl rfl rfl) ?_
   exact Zb ⟨⟨rfl, trivial⟩, rfl⟩
  | true =>
   exact ZG rfl ⟨rfl, trivial⟩
 refine JLn (Pu.pickOr rfl rfl rfl) <| Zb <| Zf rfl (fun h32 => ?_) (fun h32 => ?_)
 ·refine Zc <| Za <| JLA rfl <| Zb <| Zh <| ⟨iv 3, [], Ret.one rfl (RV.tmp rfl), Sub.nil, ?_⟩
  have hx : Xh d m b kind num ref kids.length cases.length = 3 := by simp only [Xh]; (repeat' split) <;> first | rfl | omega | (exfalso; simp_all; done) | (exfalso; simp_all; omega) | grind
  exact ⟨by rw [YX, hx]; rfl, rfl⟩
 obtain ⟨h32a, h32b⟩ := orF h32
 obtain ⟨h32aa, h32ab⟩ := orF h32a
 refine Zi <| Zc <| Zc <| Za <| JLq (pp b1 0) (ZO rfl rfl) <| JLr (Ze ty3 rfl (At.bx 0 rfl) (Z3 ..) <| JLn (Pu.eql rfl rfl) <| JLM rfl <| Zx 17 [107, 108, 109, 110, 111, 112, 113, 114, 115, 116, 117, 118, 119, 120, 121, 122, 123] [(123, cond (decide (kind = 1)) (.bool ((decide (num < 0)) || ((decide (b ≤ num)) && (decide (d ≤ num - b))))) undef)] ?_ fun f38 => ?_)
 ·cases h33 : (decide (kind = 1)) with
  | true =>
   replace h33 := dt h33
   refine JLq (pp b1 1) (ZZ rfl rfl) <| JLr (Ze ty3 rfl (At.bx 0 rfl) (Yh ..) <| JLn (Pu.lss rfl rfl) <| JLM rfl <| Zx 12 [111, 112, 113, 114, 115, 116, 117, 118, 119, 120, 121, 122] [(122, cond (decide (num < 0)) undef (.bool ((decide (b ≤ num)) && (decide (d ≤ num - b)))))] ?_ fun f37 => ?_)
   ·cases h34 : (decide (num < 0)) with
    | false =>
     replace h34 := df h34
     refine JLq (pp b1 1) (ZZ rfl rfl) <| JLr (Ze ty3 rfl (At.bx 0 rfl) (Yh ..) <| JLM rfl <| JLn (Pu.geq rfl rfl) <| JLM rfl <| Zx 6 [116, 117, 118, 119, 120, 121] [(121, cond (decide (b ≤ num)) (.bool (decide (d ≤ num - b))) undef)] ?_ fun f36 => ?_)
     ·cases h35 : (decide (b ≤ num)) with
      | true =>
       replace h35 := dt h35
       refine JLq (pp b1 1) (ZZ rfl rfl) <| JLr (Ze ty3 rfl (At.bx 0 rfl) (Yh ..) <| JLM rfl <| JLn (Pu.sub64 rfl rfl (by first | omega | (constructor <;> omega))) <| JLM rfl <| JLn (Pu.geq rfl rfl) ?_)
       exact Zb ⟨⟨rfl, trivial⟩, rfl⟩
      | false =>
       exact ZG rfl ⟨rfl, trivial⟩
     refine JLn (Pu.pickAnd rfl rfl rfl) ?_
     exact Zb ⟨⟨rfl, trivial⟩, rfl⟩
    | true =>
     exact ZG rfl ⟨rfl, trivial⟩
   refine JLn (Pu.pickOr rfl rfl rfl) ?_
   exact Zb ⟨⟨rfl, trivial⟩, rfl⟩
  | false =>
   exact ZG rfl ⟨rfl, trivial⟩
 refine JLn (Pu.pickAnd rfl rfl rfl) <| JLM rfl <| Zx 14 [126, 127, 128, 129, 130, 131, 132, 133, 134, 135, 136, 137, 138, 139] [(139, cond ((decide (kind = 1)) && ((decide (num < 0)) || ((decide (b ≤ num)) && (decide (d ≤ num - b))))) undef (.bool ((decide (kind = 7)) && ((decide (num < 0)) || (decide (m ≤ num))))))] ?_ fun f44 => ?_
 ·cases h39 : ((decide (kind = 1)) && ((decide (num < 0)) || ((decide (b ≤ num)) && (decide (d ≤ num - b))))) with
  | false =>
   refine JLq (pp b1 0) (ZO rfl rfl) <| JLr (Ze ty3 rfl (At.bx 0 rfl) (Z3 ..) <| JLn (Pu.eql rfl rfl) <| JLM rfl <| Zx 9 [130, 131, 132, 133, 134, 135, 136, 137, 138] [(138, cond (decide (kind = 7)) (.bool ((decide (num < 0)) || (decide (m ≤ num)))) undef)] ?_ fun f43 => ?_)
   ·cases h40 : (decide (kind = 7)) with
    | true =>
     replace h40 := dt h40
     refine JLq (pp b1 1) (ZZ rfl rfl) <| JLr (Ze ty3 rfl (At.bx 0 rfl) (Yh ..) <| JLn (Pu.lss rfl rfl) <| JLM rfl <| Zx 4 [134, 135, 136, 137] [(137, cond (decide (num < 0)) undef (.bool (decide (m ≤ num))))] ?_ fun f42 => ?_)
     ·cases h41 : (decide (num < 0)) with
      | false =>
       replace h41 := df h41
       refine JLq (pp b1 1) (ZZ rfl rfl) <| JLr (Ze ty3 rfl (At.bx 0 rfl) (Yh ..) <| JLM rfl <| JLn (Pu.geq rfl rfl) ?_)
       exact Zb ⟨⟨rfl, trivial⟩, rfl⟩
      | true =>
       exact ZG rfl ⟨rfl, trivial⟩
     refine JLn (Pu.pickOr rfl rfl rfl) ?_
     exact Zb ⟨⟨rfl, trivial⟩, rfl⟩
    | false =>
     exact ZG rfl ⟨rfl, trivial⟩
   refine JLn (Pu.pickAnd rfl rfl rfl) ?_
   exact Zb ⟨⟨rfl, trivial⟩, rfl⟩
  | true =>
   exact ZG rfl ⟨rfl, trivial⟩
 refine JLn (Pu.pickOr rfl rfl rfl) <| Zb <| Zf rfl (fun h45 => ?_) (fun h45 => ?_)
 ·refine Zc <| Za <| JLA rfl <| Zb <| Zh <| ⟨iv 1, [], Ret.one rfl (RV.tmp rfl), Sub.nil, ?_⟩
  have hx : Xh d m b kind num ref kids.length cases.length = 1 := by simp only [Xh]; (repeat' split) <;> first | rfl | omega | (exfalso; simp_all; done) | (exfalso; simp_all; omega) | grind
  exact ⟨by rw [YX, hx]; rfl, rfl⟩
 obtain ⟨h45a, h45b⟩ := orF h45
 refine Zi <| Zc <| Zc <| Za <| JLA rfl <| Zb <| Zl <| ZE (fun k ρ M => ∃ (j : Nat), ρ 1 = iv d ∧ ρ 2 = iv m ∧ ρ 3 = iv b ∧ ρ 4 = pp b1 0 ∧ ρ 8 = iv 0 ∧ ρ 11 = iv ((j : Int)) ∧ Sub [(BX b1 (pkT kind num ref ks cv) 27)] M ∧ j ≤ cases.length ∧ Xh d m b kind num ref kids.length cases.length = 0 ∧ pErrRC (cases.drop j) = pErrRC cases ∧ k = cases.length - j) _ ⟨0, rfl, rfl, rfl, rfl, rfl, rfl, (Sk Sub.nil), Nat.zero_le _, (by simp only [Xh]; (repeat' split) <;> first | rfl | omega | (exfalso; simp_all; done) | (exfalso; simp_all; omega) | grind), rfl, rfl⟩ ?_
 rintro _ ρ46 _ ⟨j, e47, e48, e49, e50, e51, e52, hm53, hj, hh, hinv, rfl⟩
 obtain ⟨ρ54, rfl⟩ := Zr (uc e47 (uc e48 (uc e49 (uc e50 (uc e51 (uc e52 un))))))
 clear e47 e48 e49 e50 e51 e52
 refine ZJ hm53 ?_
 have hlen := hcv.le
 refine Zc <| Zc <| Za <| JLM rfl <| JLq (pp b1 35) (Z1 rfl rfl) <| JLr (Ze YI rfl (At.bx 0 rfl) (Z2 ..) ?_)
 obtain ⟨a55, cap55, hv55⟩ := hcv.sl
 have hle55 := hcv.le
 refine JLn (Pu.lenSl Tryz.runUnderlying25 hv55) <| JLn (Pu.lss rfl rfl) <| Zb <| Zf rfl (fun h56 => ?_) (fun h56 => ?_)
 ·replace h56 := dt h56
  have h56n : j < cases.length := by omega
  refine Zi <| Zc <| Zl <| Zc <| Za <| JLq (pp b1 35) (Z1 rfl rfl) <| JLr (Ze YI rfl (At.bx 0 rfl) (Z2 ..) <| JLM rfl ?_)
  obtain ⟨b57, o57, cap57, row57, T57, fr57, cs57, hv57, hb57, hs57, hE57⟩ := hcv.get j (by first | assumption | omega | decide | simp)
  obtain ⟨ca57, cb57, rfl, hA57, hB57⟩ := hE57
  refine JLq (pp b57 (o57 + j * 71)) (Pu.idx j Tryz.runUnderlying25 YM hv57 rfl rfl (by first | assumption | omega | decide | simp)) <| JLq (pp b57 (o57 + j * 71)) (Y1 rfl rfl) <| JLr (Zg Z6 rfl (At.im hb57) (sub_sub0 hs57 (YE (Zu hA57))) <| Jc Tryz.call138 rfl (fun hin => patternErrorR_ct _ _ _ (RP.mono (Hle.hu _ _) hA57)) rfl ?_)
  rintro _ _ ⟨rfl, rfl⟩
  refine JLA rfl <| Zb <| Zc <| Za <| JLM rfl <| JLn (Pu.neq rfl rfl) <| Zb <| Zf rfl (fun h58 => ?_) (fun h58 => ?_)
  ·replace h58 := nt h58
   replace h58 := df h58
   refine Zc <| Za <| JLM rfl <| JLA rfl <| Zb <| Zh <| ⟨iv (pErrR (cases[j].1)), [], Ret.one rfl (RV.tmp rfl), Sub.nil, ?_⟩
   exact ⟨by rw [YX, if_pos hh, ← hinv, ZU h56n, pErrRC, if_neg h58, if_neg h58], rfl⟩
  replace h58 := nf h58
  replace h58 := dt h58
  refine Zi <| Za <| JLM rfl <| JLn (Pu.inc rfl rfl (by omega)) <| JLA rfl <| Zb <| ⟨_, ?_, (j + 1), rfl, rfl, rfl, rfl, rfl, rfl, (Sk Sub.nil), ?_, ?_, ?_, rfl⟩
  ·omega
  ·omega
  ·assumption
  rw [ZU h56n, pErrRC, if_pos h58] at hinv; exact hinv
 replace h56 := df h56
 have h56n : cases.length ≤ j := by omega
 refine Zy _ rfl <| Zc <| Zc <| Za <| JLA rfl <| Zb <| Zl <| ZE (fun k ρ M => ∃ (j : Nat), ρ 1 = iv d ∧ ρ 2 = iv m ∧ ρ 3 = iv b ∧ ρ 4 = pp b1 0 ∧ ρ 8 = iv 0 ∧ ρ 13 = iv ((j : Int)) ∧ Sub [(BX b1 (pkT kind num ref ks cv) 27)] M ∧ j ≤ kids.length ∧ pErrRC cases = 0 ∧ Y6 d m b kind j (kids.drop j) = Y6 d m b kind 0 kids ∧ k = kids.length - j) _ ⟨0, rfl, rfl, rfl, rfl, rfl, rfl, (Sk Sub.nil), Nat.zero_le _, (by rw [← hinv, Yt h56n]; rfl), rfl, rfl⟩ ?_
 rintro _ ρ59 _ ⟨j, e60, e61, e62, e63, e64, e65, hm66, hj, h1, hinv, rfl⟩
 obtain ⟨ρ67, rfl⟩ := Zr (uc e60 (uc e61 (uc e62 (uc e63 (uc e64 (uc e65 un))))))
 clear e60 e61 e62 e63 e64 e65
 refine ZJ hm66 ?_
 have hlen := hks.le
 refine Zc <| Zc <| Za <| JLM rfl <| JLq (pp b1 34) (Z8 rfl rfl) <| JLr (Ze YW rfl (At.bx 0 rfl) (Yb ..) ?_)
 obtain ⟨a68, cap68, hv68⟩ := hks.sl
 have hle68 := hks.le
 refine JLn (Pu.lenSl Tryz.runUnderlying24 hv68) <| JLn (Pu.lss rfl rfl) <| Zb <| Zf rfl (fun h69 => ?_) (fun h69 => ?_)
 ·replace h69 := dt h69
  have h69n : j < kids.length := by omega
  have hs1 := YY _ (List.getElem_mem h69n)
  have hm1 := Xu kind j
  refine Zi <| Zc <| Zl <| Zc <| ZF mixed #[0, 1, 0, 7, 15, 0, 0, 0, 0, 256, 0, 1792, 3968, 8191, 16383] 13 [some 165, some 166, some 167, some 168, some 169, some 170, some 171, some 172, some 173, some 174, some 175, some 176, some 177] [] [(11, fun _ _ vw qw => vw = iv (ZB kind ((j : Int))) ∧ qw = [])] rfl (by kernel_rfl) rfl (by kernel_rfl) <| Dq (pp b1 34) (fun _ => Z8 rfl rfl) <| Dl1 YW (At.bx 0 rfl) (Yb ..) <| DM (fun _ => rfl) ?_
  obtain ⟨b71, o71, cap71, row71, T71, fr71, cs71, hv71, hb71, hs71, hE71⟩ := hks.get j (by first | assumption | omega | decide | simp)
  refine Dq (pp b71 (o71 + j * 36)) (fun _ => Pu.idx j Tryz.runUnderlying24 Zs hv71 rfl rfl (by first | assumption | omega | decide | simp)) <| Dl Zs (At.im hb71) hs71 <| DM (fun _ => rfl) <| DM (fun _ => rfl) <| DM (fun _ => rfl) <| Dq (pp b1 0) (fun _ => ZO rfl rfl) <| Dl1 ty3 (At.bx 0 rfl) (Z3 ..) <| DM (fun _ => rfl) <| Dc rfl Tryz.call98 (fun _ => rfl) (fun hin => moreR_ct _ _ _) ?_
  rintro _ _ ⟨rfl, rfl⟩
  refine Dn (fun _ => Pu.add64 rfl rfl (by first | omega | (constructor <;> omega))) <| ZL (M' := [(BX b1 (pkT kind num ref ks cv) 27)]) rfl ?_
  show JL _ _ _ [_, _] _ _ _
  refine Jc Tryz.call106 rfl (fun hin => ih _ (List.getElem_mem h69n) _ _ _ _ _ (RT.mono (Hle.hu _ _) hE71) (by omega) (by omega)) rfl ?_
  rintro _ _ ⟨rfl, rfl⟩
  refine JLA rfl <| Zb <| Zc <| Za <| JLM rfl <| JLn (Pu.neq rfl rfl) <| Zb <| Zf rfl (fun h72 => ?_) (fun h72 => ?_)
  ·replace h72 := nt h72
   replace h72 := df h72
   refine Zc <| Za <| JLM rfl <| JLA rfl <| Zb <| Zh <| ⟨iv (YX d m (b + (ZB kind ((j : Int)))) (kids[j])), [], Ret.one rfl (RV.tmp rfl), Sub.nil, ?_⟩
   exact ⟨by rw [YX, if_pos hh, if_pos h1, ← hinv, ZU h69n, Y6, if_neg h72, if_neg h72], rfl⟩
  replace h72 := nf h72
  replace h72 := dt h72
  refine Zi <| Za <| JLM rfl <| JLn (Pu.inc rfl rfl (by omega)) <| JLA rfl <| Zb <| ⟨_, ?_, (j + 1), rfl, rfl, rfl, rfl, rfl, rfl, (Sk Sub.nil), ?_, ?_, ?_, rfl⟩
  ·omega
  ·omega
  ·assumption
  rw [ZU h69n, Y6, if_pos h72] at hinv; exact hinv
 replace h69 := df h69
 have h69n : kids.length ≤ j := by omega
 refine Zy _ rfl <| Zc <| Zc <| Za <| JLA rfl <| Zb <| Zl <| ZE (fun k ρ M => ∃ (j : Nat), ρ 1 = iv d ∧ ρ 2 = iv m ∧ ρ 3 = iv b ∧ ρ 4 = pp b1 0 ∧ ρ 8 = iv 0 ∧ ρ 15 = iv ((j : Int)) ∧ Sub [(BX b1 (pkT kind num ref ks cv) 27)] M ∧ j ≤ cases.length ∧ Y6 d m b kind 0 kids = 0 ∧ Xi d m b (cases.drop j) = Xi d m b cases ∧ k = cases.length - j) _ ⟨0, rfl, rfl, rfl, rfl, rfl, rfl, (Sk Sub.nil), Nat.zero_le _, (by rw [← hinv, Yt h69n]; rfl), rfl, rfl⟩ ?_
 rintro _ ρ73 _ ⟨j, e74, e75, e76, e77, e78, e79, hm80, hj, h2, hinv, rfl⟩
 obtain ⟨ρ81, rfl⟩ := Zr (uc e74 (uc e75 (uc e76 (uc e77 (uc e78 (uc e79 un))))))
 clear e74 e75 e76 e77 e78 e79
 refine ZJ hm80 ?_
 have hlen := hcv.le
 refine Zc <| Zc <| Za <| JLM rfl <| JLq (pp b1 35) (Z1 rfl rfl) <| JLr (Ze YI rfl (At.bx 0 rfl) (Z2 ..) ?_)
 obtain ⟨a82, cap82, hv82⟩ := hcv.sl
 have hle82 := hcv.le
 refine JLn (Pu.lenSl Tryz.runUnderlying25 hv82) <| JLn (Pu.lss rfl rfl) <| Zb <| Zf rfl (fun h83 => ?_) (fun h83 => ?_)
 ·replace h83 := dt h83
  have h83n : j < cases.length := by omega
  have hs1 := YK _ (List.getElem_mem h83n)
  have hm1 := YS (cases[j]).1
  refine Zi <| Zc <| Zl <| Zc <| ZF mixed #[0, 1, 0, 7, 15, 31, 0, 0, 0, 0, 512, 0, 3584, 7680, 15872, 32256, 65280, 131071, 262143] 17 [some 189, some 190, some 191, some 192, some 193, some 194, some 195, some 196, some 197, some 198, some 199, some 200, some 201, some 202, some 203, some 204, some 205] [] [(15, fun _ _ vw qw => vw = iv ((binds (cases[j].1) : Int)) ∧ qw = [])] rfl (by kernel_rfl) rfl (by kernel_rfl) <| Dq (pp b1 35) (fun _ => Z1 rfl rfl) <| Dl1 YI (At.bx 0 rfl) (Z2 ..) <| DM (fun _ => rfl) ?_
  obtain ⟨b86, o86, cap86, row86, T86, fr86, cs86, hv86, hb86, hs86, hE86⟩ := hcv.get j (by first | assumption | omega | decide | simp)
  obtain ⟨ca86, cb86, rfl, hA86, hB86⟩ := hE86
  refine Dq (pp b86 (o86 + j * 71)) (fun _ => Pu.idx j Tryz.runUnderlying25 YM hv86 rfl rfl (by first | assumption | omega | decide | simp)) <| Dq (pp b86 (o86 + j * 71 + 35)) (fun _ => fa80_1 rfl rfl) <| Dl Zs (At.im hb86) (sub_sub hs86 (Xg (Zu hA86) (Zv hB86))) <| DM (fun _ => rfl) <| DM (fun _ => rfl) <| DM (fun _ => rfl) <| Dq (pp b1 35) (fun _ => Z1 rfl rfl) <| Dl1 YI (At.bx 0 rfl) (Z2 ..) <| DM (fun _ => rfl) ?_
  obtain ⟨b87, o87, cap87, row87, T87, fr87, cs87, hv87, hb87, hs87, hE87⟩ := hcv.get j (by first | assumption | omega | decide | simp)
  obtain ⟨ca87, cb87, rfl, hA87, hB87⟩ := hE87
  refine Dq (pp b87 (o87 + j * 71)) (fun _ => Pu.idx j Tryz.runUnderlying25 YM hv87 rfl rfl (by first | assumption | omega | decide | simp)) <| Dq (pp b87 (o87 + j * 71)) (fun _ => Y1 rfl rfl) <| Dl Z6 (At.im hb87) (sub_sub0 hs87 (YE (Zu hA87))) <| Dc rfl Tryz.call100 (fun _ => rfl) (fun hin => bindsR_ct _ _ _ (RP.mono (Hle.hu _ _) hA87) (by omega)) ?_
  rintro _ _ ⟨rfl, rfl⟩
  refine Dn (fun _ => Pu.add64 rfl rfl (by first | omega | (constructor <;> omega))) <| ZL (M' := [(BX b1 (pkT kind num ref ks cv) 27)]) rfl ?_
  show JL _ _ _ [_, _] _ _ _
  refine Jc Tryz.call106 rfl (fun hin => ih' _ (List.getElem_mem h83n) _ _ _ _ _ (RT.mono (Hle.hu _ _) hB86) (by omega) (by omega)) rfl ?_
  rintro _ _ ⟨rfl, rfl⟩
  refine JLA rfl <| Zb <| Zc <| Za <| JLM rfl <| JLn (Pu.neq rfl rfl) <| Zb <| Zf rfl (fun h88 => ?_) (fun h88 => ?_)
  ·replace h88 := nt h88
   replace h88 := df h88
   refine Zc <| Za <| JLM rfl <| JLA rfl <| Zb <| Zh <| ⟨iv (YX d m (b + ((binds (cases[j].1) : Int))) (cases[j].2)), [], Ret.one rfl (RV.tmp rfl), Sub.nil, ?_⟩
   exact ⟨by rw [YX, if_pos hh, if_pos h1, if_pos h2, ← hinv, ZU h83n, Xi, if_neg h88], rfl⟩
  replace h88 := nf h88
  replace h88 := dt h88
  refine Zi <| Za <| JLM rfl <| JLn (Pu.inc rfl rfl (by omega)) <| JLA rfl <| Zb <| ⟨_, ?_, (j + 1), rfl, rfl, rfl, rfl, rfl, rfl, (Sk Sub.nil), ?_, ?_, ?_, rfl⟩
  ·omega
  ·omega
  ·assumption
  rw [ZU h83n, Xi, if_pos h88] at hinv; exact hinv
 replace h83 := df h83
 have h83n : cases.length ≤ j := by omega
 refine Zy _ rfl <| Zc <| Za <| JLA rfl <| Zb <| Zh <| ⟨iv 0, [], Ret.one rfl (RV.tmp rfl), Sub.nil, ?_⟩
 exact ⟨by rw [YX, if_pos hh, if_pos h1, if_pos h2, ← hinv, Yt h83n]; rfl, rfl⟩
end Go.Proofs.YtmophpgiaiemhaaGreat.Hs
/-! Walks, printed by a program of this session's own (gen.py). -/
namespace Go.Proofs.YtmophpgiaiemhaaGreat.Hs
open Go Go.Proofs
set_option maxRecDepth 100000
set_option linter.unusedVariables false
set_option linter.unusedSimpArgs false
attribute [local irreducible] JL J CT wlo DT
theorem patternSize_ct : ∀ (p : Pt) (m : Int) (cs : List Value) (H : Heap), RP H cs p → sizeP p ≤ 1000000000 → sizeP p ≤ m + 2000000000 → m ≤ 2000000000 → CT Tryz.prog 102 ⟨[.agg ⟨cs⟩, iv m]⟩ [] H (fun v N => v = .tuple ⟨[iv (Xs m p).1, iv (Xs m p).2]⟩ ∧ N = []) := by
 intro p
 induction p using Pt.ind with
 | h kind num ref kids ih =>
 intro m cs H hp hz1 hz2 hz3
 obtain ⟨ks, rfl, hk, hn, hks⟩ := RP_mk.1 hp
 rw [sizeP] at hz1 hz2
 refine Zm Tryz.func102 rfl rfl <| Zc <| Za <| JLr (Zo (l := pkP kind num ref ks) rfl rfl fun b1 => JLA rfl <| JLA rfl <| Zb <| Zc <| Za <| JLA rfl <| JLA rfl <| Zb <| Zc ?_)
 refine Zc <| Za <| JLA rfl <| Zb <| Zl <| ZE (fun k ρ M => ∃ (j : Nat) (n d : Int), ρ 1 = iv m ∧ ρ 2 = pp b1 0 ∧ ρ 4 = iv 0 ∧ ρ 5 = iv 0 ∧ ρ 6 = iv n ∧ ρ 7 = iv d ∧ ρ 8 = iv ((j : Int)) ∧ Sub [(BX b1 (pkP kind num ref ks) 75)] M ∧ j ≤ kids.length ∧ XK m (kids.drop j) n d = XK m kids 1 0 ∧ 0 ≤ d ∧ d < n ∧ n + Ye (kids.drop j) ≤ 1 + Ye kids ∧ k = kids.length - j) _ ⟨0, 1, 0, rfl, rfl, rfl, rfl, rfl, rfl, rfl, (Sk Sub.nil), Nat.zero_le _, rfl, (by omega), (by omega), (by simp), rfl⟩ ?_
 rintro _ ρ2 _ ⟨j, n, d, e3, e4, e5, e6, e7, e8, e9, hm10, hj, hinv, hd0, hdn, hnn, rfl⟩
 obtain ⟨ρ11, rfl⟩ := Zr (uc e3 (uc e4 (uc e5 (uc e6 (uc e7 (uc e8 (uc e9 un)))))))
 clear e3 e4 e5 e6 e7 e8 e9
 refine ZJ hm10 ?_
 have hlen := hks.le
 refine Zc <| Zc <| Za <| JLM rfl <| JLq (pp b1 34) (Yl rfl rfl) <| JLr (Ze Xv rfl (At.bx 0 rfl) (Yw ..) ?_)
 obtain ⟨a12, cap12, hv12⟩ := hks.sl
 have hle12 := hks.le
 refine JLn (Pu.lenSl Tryz.runUnderlying73 hv12) <| JLn (Pu.lss rfl rfl) <| JLM rfl <| Zx 3 [17, 18, 19] [(19, cond (decide ((j : Int) < (kids.length : Int))) (.bool (decide (n ≤ m))) undef)] ?_ fun f14 => ?_
 ·cases h13 : (decide ((j : Int) < (kids.length : Int))) with
  | true =>
   replace h13 := dt h13
   have h13n : j < kids.length := by omega
   have hs1 := sizePs_mem _ (List.getElem_mem h13n)
   have hs2 : Ye (kids.drop j) = sizeP kids[j] + Ye (kids.drop (j + 1)) := by rw [ZU h13n, Ye]
   have hs3 := extP_le kids[j] (m - 1)
   refine JLM rfl <| JLM rfl <| JLn (Pu.leq rfl rfl) ?_
   exact Zb ⟨⟨rfl, trivial⟩, rfl⟩
  | false =>
   exact ZG rfl ⟨rfl, trivial⟩
 refine JLn (Pu.pickAnd rfl rfl rfl) <| Zb <| Zf rfl (fun h15 => ?_) (fun h15 => ?_)
 ·obtain ⟨h15a, h15b⟩ := Yr h15
  replace h15a := dt h15a
  have h15an : j < kids.length := by omega
  have hs1 := sizePs_mem _ (List.getElem_mem h15an)
  have hs2 : Ye (kids.drop j) = sizeP kids[j] + Ye (kids.drop (j + 1)) := by rw [ZU h15an, Ye]
  have hs3 := extP_le kids[j] (m - 1)
  replace h15b := dt h15b
  refine Zi <| Zc <| Zl <| Zc <| Za <| JLq (pp b1 34) (Yl rfl rfl) <| JLr (Ze Xv rfl (At.bx 0 rfl) (Yw ..) <| JLM rfl ?_)
  obtain ⟨b16, o16, cap16, row16, T16, fr16, cs16, hv16, hb16, hs16, hE16⟩ := hks.get j (by first | assumption | omega | decide | simp)
  refine JLq (pp b16 (o16 + j * 35)) (Pu.idx j Tryz.runUnderlying73 Z6 hv16 rfl rfl (by first | assumption | omega | decide | simp)) <| JLr (Zg Z6 rfl (At.im hb16) hs16 <| JLM rfl <| JLn (Pu.sub64 rfl rfl (by first | omega | (constructor <;> omega))) <| Jc Tryz.call102 rfl (fun hin => ih _ (List.getElem_mem h15an) _ _ _ (RP.mono (Hle.hu _ _) hE16) (by omega) (by omega) (by omega)) rfl ?_)
  rintro _ _ ⟨rfl, rfl⟩
  refine JLM rfl <| JLn (Pu.extract rfl rfl) <| JLn (Pu.extract rfl rfl) <| JLA rfl <| JLA rfl <| Zb <| Za <| JLM rfl <| JLM rfl <| JLn (Pu.add64 rfl rfl (by first | omega | (constructor <;> omega))) <| JLM rfl <| JLM rfl <| JLq (iv (max d ((Xs (m - 1) (kids[j])).2))) (Pu.max2 rfl rfl) ?_
  refine JLA rfl <| JLA rfl <| Zb <| Za <| JLM rfl <| JLn (Pu.inc rfl rfl (by omega)) <| JLA rfl <| Zb <| ⟨_, ?_, (j + 1), (n + ((Xs (m - 1) (kids[j])).1)), (max d ((Xs (m - 1) (kids[j])).2)), rfl, rfl, rfl, rfl, rfl, rfl, rfl, (Sk Sub.nil), ?_, ?_, ?_, ?_, ?_, rfl⟩
  ·omega
  ·omega
  ·rw [ZU h15an, XK, if_pos (by omega)] at hinv; exact hinv
  ·omega
  ·omega
  omega
 refine Zy _ rfl <| Zc <| Za <| JLM rfl <| JLM rfl <| JLn (Pu.add64 rfl rfl (by first | omega | (constructor <;> omega))) <| JLA rfl <| JLA rfl <| Zb <| Zh <| ⟨.tuple ⟨[iv n, iv (d + 1)]⟩, [], Ret.two rfl (RV.tmp rfl) (RV.tmp rfl), Sub.nil, ?_⟩
 have hf : ¬ ((j : Int) < (kids.length : Int) ∧ n ≤ m) := by
  intro ⟨hx1, hx2⟩
  have := h15
  simp [hx1, hx2] at this
  try omega
 have hr : XK m kids 1 0 = (n, d) := by
  rw [← hinv]; rcases Nat.lt_or_ge j kids.length with hl | hl
  ·have hnm : ¬ n ≤ m := fun hle => hf ⟨by omega, hle⟩
   rw [ZU hl, XK, if_neg hnm]
  ·rw [Yt hl, XK]
 exact ⟨by rw [Xs, hr], rfl⟩
theorem extent_ct : ∀ (t : Tm) (m : Int) (cs : List Value) (H : Heap), RT H cs t → sizeT t ≤ 1000000000 → sizeT t ≤ m + 2000000000 → m ≤ 2000000000 → CT Tryz.prog 133 ⟨[.agg ⟨cs⟩, iv m]⟩ [] H (fun v N => v = .tuple ⟨[iv (Ym m t).1, iv (Ym m t).2]⟩ ∧ N = []) := by
 intro t
 induction t using Tm.ind with
 | h kind num ref kids cases ih ih' =>
 intro m cs H ht hz1 hz2 hz3
 obtain ⟨ks, cv, rfl, hk, hn, hks, hcv⟩ := RT_mk.1 ht
 rw [sizeT] at hz1 hz2
 refine Zm Tryz.func133 rfl rfl <| Zc <| Za <| JLr (Zo (l := pkT kind num ref ks cv) rfl rfl fun b1 => JLA rfl <| JLA rfl <| Zb <| Zc <| Za <| JLA rfl <| JLA rfl <| Zb <| Zc ?_)
 refine Zc <| Za <| JLA rfl <| Zb <| Zl <| ZE (fun k ρ M => ∃ (j : Nat) (n d : Int), ρ 1 = iv m ∧ ρ 2 = pp b1 0 ∧ ρ 4 = iv 0 ∧ ρ 5 = iv 0 ∧ ρ 6 = iv n ∧ ρ 7 = iv d ∧ ρ 8 = iv ((j : Int)) ∧ Sub [(BX b1 (pkT kind num ref ks cv) 27)] M ∧ j ≤ kids.length ∧ Yo m (kids.drop j) n d = Yo m kids 1 0 ∧ 0 ≤ d ∧ d < n ∧ n + ZH (kids.drop j) ≤ 1 + ZH kids ∧ k = kids.length - j) _ ⟨0, 1, 0, rfl, rfl, rfl, rfl, rfl, rfl, rfl, (Sk Sub.nil), Nat.zero_le _, rfl, (by omega), (by omega), (by simp), rfl⟩ ?_
 rintro _ ρ2 _ ⟨j, n, d, e3, e4, e5, e6, e7, e8, e9, hm10, hj, hinv, hd0, hdn, hnn, rfl⟩
 obtain ⟨ρ11, rfl⟩ := Zr (uc e3 (uc e4 (uc e5 (uc e6 (uc e7 (uc e8 (uc e9 un)))))))
 clear e3 e4 e5 e6 e7 e8 e9
 refine ZJ hm10 ?_
 have hlen := hks.le
 refine Zc <| Zc <| Za <| JLM rfl <| JLq (pp b1 34) (Z8 rfl rfl) <| JLr (Ze YW rfl (At.bx 0 rfl) (Yb ..) ?_)
 obtain ⟨a12, cap12, hv12⟩ := hks.sl
 have hle12 := hks.le
 refine JLn (Pu.lenSl Tryz.runUnderlying24 hv12) <| JLn (Pu.lss rfl rfl) <| JLM rfl <| Zx 3 [22, 23, 24] [(24, cond (decide ((j : Int) < (kids.length : Int))) (.bool (decide (n ≤ m))) undef)] ?_ fun f14 => ?_
 ·cases h13 : (decide ((j : Int) < (kids.length : Int))) with
  | true =>
   replace h13 := dt h13
   have h13n : j < kids.length := by omega
   have hs1 := YY _ (List.getElem_mem h13n)
   have hs2 : ZH (kids.drop j) = sizeT kids[j] + ZH (kids.drop (j + 1)) := by rw [ZU h13n, ZH]
   have hs3 := XJ kids[j] (m - 1)
   refine JLM rfl <| JLM rfl <| JLn (Pu.leq rfl rfl) ?_
   exact Zb ⟨⟨rfl, trivial⟩, rfl⟩
  | false =>
   exact ZG rfl ⟨rfl, trivial⟩
 refine JLn (Pu.pickAnd rfl rfl rfl) <| Zb <| Zf rfl (fun h15 => ?_) (fun h15 => ?_)
 ·obtain ⟨h15a, h15b⟩ := Yr h15
  replace h15a := dt h15a
  have h15an : j < kids.length := by omega
  have hs1 := YY _ (List.getElem_mem h15an)
  have hs2 : ZH (kids.drop j) = sizeT kids[j] + ZH (kids.drop (j + 1)) := by rw [ZU h15an, ZH]
  have hs3 := XJ kids[j] (m - 1)
  replace h15b := dt h15b
  refine Zi <| Zc <| Zl <| Zc <| Za <| JLq (pp b1 34) (Z8 rfl rfl) <| JLr (Ze YW rfl (At.bx 0 rfl) (Yb ..) <| JLM rfl ?_)
  obtain ⟨b16, o16, cap16, row16, T16, fr16, cs16, hv16, hb16, hs16, hE16⟩ := hks.get j (by first | assumption | omega | decide | simp)
  refine JLq (pp b16 (o16 + j * 36)) (Pu.idx j Tryz.runUnderlying24 Zs hv16 rfl rfl (by first | assumption | omega | decide | simp)) <| JLr (Zg Zs rfl (At.im hb16) hs16 <| JLM rfl <| JLn (Pu.sub64 rfl rfl (by first | omega | (constructor <;> omega))) <| Jc Tryz.call133 rfl (fun hin => ih _ (List.getElem_mem h15an) _ _ _ (RT.mono (Hle.hu _ _) hE16) (by omega) (by omega) (by omega)) rfl ?_)
  rintro _ _ ⟨rfl, rfl⟩
  refine JLM rfl <| JLn (Pu.extract rfl rfl) <| JLn (Pu.extract rfl rfl) <| JLA rfl <| JLA rfl <| Zb <| Za <| JLM rfl <| JLM rfl <| JLn (Pu.add64 rfl rfl (by first | omega | (constructor <;> omega))) <| JLM rfl <| JLM rfl <| JLq (iv (max d ((Ym (m - 1) (kids[j])).2))) (Pu.max2 rfl rfl) ?_
  refine JLA rfl <| JLA rfl <| Zb <| Za <| JLM rfl <| JLn (Pu.inc rfl rfl (by omega)) <| JLA rfl <| Zb <| ⟨_, ?_, (j + 1), (n + ((Ym (m - 1) (kids[j])).1)), (max d ((Ym (m - 1) (kids[j])).2)), rfl, rfl, rfl, rfl, rfl, rfl, rfl, (Sk Sub.nil), ?_, ?_, ?_, ?_, ?_, rfl⟩
  ·omega
  ·omega
  ·rw [ZU h15an, Yo, if_pos (by omega)] at hinv; exact hinv
  ·omega
  ·omega
  omega
 refine Zy _ rfl <| Zc <| Zc <| Za <| JLA rfl <| Zb <| Zl ?_
 have hf : ¬ ((j : Int) < (kids.length : Int) ∧ n ≤ m) := by
  intro ⟨hx1, hx2⟩
  have := h15
  simp [hx1, hx2] at this
  try omega
 have hr : Yo m kids 1 0 = (n, d) := by
  rw [← hinv]; rcases Nat.lt_or_ge j kids.length with hl | hl
  ·have hnm : ¬ n ≤ m := fun hle => hf ⟨by omega, hle⟩
   rw [ZU hl, Yo, if_neg hnm]
  ·rw [Yt hl, Yo]
 refine ZE (fun k ρ M => ∃ (j : Nat) (n d : Int), ρ 1 = iv m ∧ ρ 2 = pp b1 0 ∧ ρ 4 = iv 0 ∧ ρ 5 = iv 0 ∧ ρ 6 = iv n ∧ ρ 7 = iv d ∧ ρ 11 = iv ((j : Int)) ∧ Sub [(BX b1 (pkT kind num ref ks cv) 27)] M ∧ j ≤ cases.length ∧ Y5 m (cases.drop j) n d = Y5 m cases (Yo m kids 1 0).1 (Yo m kids 1 0).2 ∧ 0 ≤ d ∧ d < n ∧ n + ZQ (cases.drop j) ≤ 1 + ZH kids + ZQ cases ∧ k = cases.length - j) _ ⟨0, n, d, rfl, rfl, rfl, rfl, rfl, rfl, rfl, (Sk Sub.nil), Nat.zero_le _, (by rw [hr]; rfl), (by omega), (by omega), (by simp only [List.drop_zero]; omega), rfl⟩ ?_
 rintro _ ρ17 _ ⟨j, n, d, e18, e19, e20, e21, e22, e23, e24, hm25, hj, hinv, hd0, hdn, hnn, rfl⟩
 obtain ⟨ρ26, rfl⟩ := Zr (uc e18 (uc e19 (uc e20 (uc e21 (uc e22 (uc e23 (uc e24 un)))))))
 clear e18 e19 e20 e21 e22 e23 e24
 refine ZJ hm25 ?_
 have hlen := hcv.le
 refine Zc <| Zc <| Za <| JLM rfl <| JLq (pp b1 35) (Z1 rfl rfl) <| JLr (Ze YI rfl (At.bx 0 rfl) (Z2 ..) ?_)
 obtain ⟨a27, cap27, hv27⟩ := hcv.sl
 have hle27 := hcv.le
 refine JLn (Pu.lenSl Tryz.runUnderlying25 hv27) <| JLn (Pu.lss rfl rfl) <| JLM rfl <| Zx 3 [51, 52, 53] [(53, cond (decide ((j : Int) < (cases.length : Int))) (.bool (decide (n ≤ m))) undef)] ?_ fun f29 => ?_
 ·cases h28 : (decide ((j : Int) < (cases.length : Int))) with
  | true =>
   replace h28 := dt h28
   have h28n : j < cases.length := by omega
   have hs1 := YK _ (List.getElem_mem h28n)
   have hs2 : ZQ (cases.drop j) = sizeP cases[j].1 + sizeT cases[j].2 + ZQ (cases.drop (j + 1)) := by rw [ZU h28n, ZQ]
   have hs3 := XJ cases[j].2 (m - 1)
   have hs4 := extP_le cases[j].1 (m - 1)
   refine JLM rfl <| JLM rfl <| JLn (Pu.leq rfl rfl) ?_
   exact Zb ⟨⟨rfl, trivial⟩, rfl⟩
  | false =>
   exact ZG rfl ⟨rfl, trivial⟩
 refine JLn (Pu.pickAnd rfl rfl rfl) <| Zb <| Zf rfl (fun h30 => ?_) (fun h30 => ?_)
 ·obtain ⟨h30a, h30b⟩ := Yr h30
  replace h30a := dt h30a
  have h30an : j < cases.length := by omega
  have hs1 := YK _ (List.getElem_mem h30an)
  have hs2 : ZQ (cases.drop j) = sizeP cases[j].1 + sizeT cases[j].2 + ZQ (cases.drop (j + 1)) := by rw [ZU h30an, ZQ]
  have hs3 := XJ cases[j].2 (m - 1)
  have hs4 := extP_le cases[j].1 (m - 1)
  replace h30b := dt h30b
  refine Zi <| Zc <| Zl <| Zc <| Za <| JLq (pp b1 35) (Z1 rfl rfl) <| JLr (Ze YI rfl (At.bx 0 rfl) (Z2 ..) <| JLM rfl ?_)
  obtain ⟨b31, o31, cap31, row31, T31, fr31, cs31, hv31, hb31, hs31, hE31⟩ := hcv.get j (by first | assumption | omega | decide | simp)
  obtain ⟨ca31, cb31, rfl, hA31, hB31⟩ := hE31
  refine JLq (pp b31 (o31 + j * 71)) (Pu.idx j Tryz.runUnderlying25 YM hv31 rfl rfl (by first | assumption | omega | decide | simp)) <| JLq (pp b31 (o31 + j * 71)) (Y1 rfl rfl) <| JLr (Zg Z6 rfl (At.im hb31) (sub_sub0 hs31 (YE (Zu hA31))) <| JLM rfl <| JLn (Pu.sub64 rfl rfl (by first | omega | (constructor <;> omega))) <| Jc Tryz.call102 rfl (fun hin => patternSize_ct _ _ _ _ (RP.mono (Hle.hu _ _) hA31) (by omega) (by omega) (by omega)) rfl ?_)
  rintro _ _ ⟨rfl, rfl⟩
  refine JLM rfl <| JLn (Pu.extract rfl rfl) <| JLn (Pu.extract rfl rfl) <| JLA rfl <| JLA rfl <| Zb <| Zc <| Za <| JLq (pp b1 35) (Z1 rfl rfl) <| JLr (Ze YI rfl (At.bx 0 rfl) (Z2 ..) <| JLM rfl ?_)
  obtain ⟨b32, o32, cap32, row32, T32, fr32, cs32, hv32, hb32, hs32, hE32⟩ := hcv.get j (by first | assumption | omega | decide | simp)
  obtain ⟨ca32, cb32, rfl, hA32, hB32⟩ := hE32
  refine JLq (pp b32 (o32 + j * 71)) (Pu.idx j Tryz.runUnderlying25 YM hv32 rfl rfl (by first | assumption | omega | decide | simp)) <| JLq (pp b32 (o32 + j * 71 + 35)) (fa80_1 rfl rfl) <| JLr (Zg Zs rfl (At.im hb32) (sub_sub hs32 (Xg (Zu hA32) (Zv hB32))) <| JLM rfl <| JLn (Pu.sub64 rfl rfl (by first | omega | (constructor <;> omega))) <| Jc Tryz.call133 rfl (fun hin => ih' _ (List.getElem_mem h30an) _ _ _ (RT.mono (Hle.hu _ _) hB32) (by omega) (by omega) (by omega)) rfl ?_)
  rintro _ _ ⟨rfl, rfl⟩
  refine JLM rfl <| JLn (Pu.extract rfl rfl) <| JLn (Pu.extract rfl rfl) <| JLA rfl <| JLA rfl <| Zb <| Za <| JLM rfl <| JLM rfl <| JLn (Pu.add64 rfl rfl (by first | omega | (constructor <;> omega))) <| JLM rfl <| JLn (Pu.add64 rfl rfl (by first | omega | (constructor <;> omega))) <| JLM rfl ?_
  refine JLM rfl <| JLM rfl <| JLq (iv (max (max d ((Xs (m - 1) (cases[j].1)).2)) ((Ym (m - 1) (cases[j].2)).2))) (Pu.max3 rfl rfl rfl) <| JLA rfl <| JLA rfl <| Zb <| Za <| JLM rfl <| JLn (Pu.inc rfl rfl (by omega)) <| JLA rfl <| Zb <| ⟨_, ?_, (j + 1), (n + ((Xs (m - 1) (cases[j].1)).1) + ((Ym (m - 1) (cases[j].2)).1)), (max (max d ((Xs (m - 1) (cases[j].1)).2)) ((Ym (m - 1) (cases[j].2)).2)), rfl, rfl, rfl, rfl, rfl, rfl, rfl, (Sk Sub.nil), ?_, ?_, ?_, ?_, ?_, rfl⟩
  ·omega
  ·omega
  ·rw [ZU h30an, Y5, if_pos (by omega)] at hinv; exact hinv
  ·omega
  ·omega
  omega
 refine Zy _ rfl <| Zc <| Za <| JLM rfl <| JLM rfl <| JLn (Pu.add64 rfl rfl (by first | omega | (constructor <;> omega))) <| JLA rfl <| JLA rfl <| Zb <| Zh <| ⟨.tuple ⟨[iv n, iv (d + 1)]⟩, [], Ret.two rfl (RV.tmp rfl) (RV.tmp rfl), Sub.nil, ?_⟩
 have hf : ¬ ((j : Int) < (cases.length : Int) ∧ n ≤ m) := by
  intro ⟨hx1, hx2⟩
  have := h30
  simp [hx1, hx2] at this
  try omega
 have hr : Y5 m cases (Yo m kids 1 0).1 (Yo m kids 1 0).2 = (n, d) := by
  rw [← hinv]; rcases Nat.lt_or_ge j cases.length with hl | hl
  ·have hnm : ¬ n ≤ m := fun hle => hf ⟨by omega, hle⟩
   rw [ZU hl, Y5, if_neg hnm]
  ·rw [Yt hl, Y5]
 exact ⟨by rw [Ym, hr], rfl⟩
theorem longR_ct (t : Tm) (cs : List Value) (H : Heap) (ht : RT H cs t) (hz : sizeT t ≤ 1000000000) : CT Tryz.prog 105 ⟨[.agg ⟨cs⟩]⟩ [] H (fun v N => v = .bool (longB t) ∧ N = []) := by
 refine Zm Tryz.func105 rfl rfl <| Zc <| Za <| JLr (Zo (l := cs) rfl rfl fun b1 => JLA rfl <| Zb <| Zc <| Za <| JLr (Zg Zs rfl (At.bx 0 rfl) (Zt (Zv ht)) <| Jc Tryz.call133 rfl (fun hin => extent_ct _ _ _ _ (RT.mono (Hle.hu _ _) ht) (by omega) (by omega) (by omega)) rfl ?_))
 rintro _ _ ⟨rfl, rfl⟩
 refine JLM rfl <| JLn (Pu.extract rfl rfl) <| JLn (Pu.extract rfl rfl) <| JLA rfl <| JLA rfl <| Zb <| Zc <| Za <| JLM rfl <| JLn (Pu.gtr rfl rfl) <| JLM rfl <| Zx 2 [13, 14] [(14, cond (decide (300 < (Ym 400 t).1)) undef (.bool (decide (60 < (Ym 400 t).2))))] ?_ fun f3 => ?_
 ·cases h2 : (decide (300 < (Ym 400 t).1)) with
  | false =>
   replace h2 := df h2
   refine JLM rfl <| JLn (Pu.gtr rfl rfl) ?_
   exact Zb ⟨⟨rfl, trivial⟩, rfl⟩
  | true =>
   exact ZG rfl ⟨rfl, trivial⟩
 refine JLn (Pu.pickOr rfl rfl rfl) <| JLA rfl <| Zb <| Zh <| ⟨.bool ((decide (300 < (Ym 400 t).1)) || (decide (60 < (Ym 400 t).2))), [], Ret.one rfl (RV.tmp rfl), Sub.nil, ?_⟩
 exact ⟨rfl, rfl⟩
theorem checkR_ct (t : Tm) (d m : Int) (cs : List Value) (H : Heap) (ht : RT H cs t) (hz : sizeT t ≤ 400000) : CT Tryz.prog 60 ⟨[.agg ⟨cs⟩, iv d, iv m]⟩ [] H (fun v N => v = iv (YB d m t) ∧ N = []) := by
 refine Zm Tryz.func60 rfl rfl <| Zc <| Za <| JLr (Zo (l := cs) rfl rfl fun b1 => JLA rfl <| Zb <| Zc <| Zc <| Za <| JLr (Zg Zs rfl (At.bx 0 rfl) (Zt (Zv ht)) <| Jc Tryz.call105 rfl (fun hin => longR_ct _ _ _ (RT.mono (Hle.hu _ _) ht) (by omega)) rfl ?_))
 rintro _ _ ⟨rfl, rfl⟩
 refine Zb <| Zf rfl (fun h2 => ?_) (fun h2 => ?_)
 ·refine Zc <| Za <| JLA rfl <| Zb <| Zh <| ⟨iv 11, [], Ret.one rfl (RV.tmp rfl), Sub.nil, ?_⟩
  exact ⟨by rw [YB, if_pos (by simp [h2])], rfl⟩
 refine Zi <| Zc <| Za <| JLr (Zg Zs rfl (At.bx 0 rfl) (Zt (Zv ht)) <| JLM rfl <| JLM rfl <| Jc Tryz.call106 rfl (fun hin => nodeError_ct _ _ _ _ _ _ (RT.mono (Hle.hu _ _) ht) (by omega) (by omega)) rfl ?_)
 rintro _ _ ⟨rfl, rfl⟩
 refine JLA rfl <| Zb <| Zh <| ⟨iv (YX d m 0 t), [], Ret.one rfl (RV.tmp rfl), Sub.nil, ?_⟩
 exact ⟨by rw [YB, if_neg (by simp [h2])], rfl⟩
theorem rightR_ct (t : Tm) (cs : List Value) (H : Heap) (ht : RT H cs t) (hz : sizeT t ≤ 400000) : CT Tryz.prog 54 ⟨[.agg ⟨cs⟩]⟩ [] H (fun v N => v = iv (YB 60 8 t) ∧ N = []) := by
 refine Zm Tryz.func54 rfl rfl <| Zc <| Za <| JLr (Zo (l := cs) rfl rfl fun b1 => JLA rfl <| Zb <| Zc <| Za <| JLr (Zg Zs rfl (At.bx 0 rfl) (Zt (Zv ht)) <| Jc Tryz.call60 rfl (fun hin => checkR_ct _ _ _ _ _ (RT.mono (Hle.hu _ _) ht) (by omega)) rfl ?_))
 rintro _ _ ⟨rfl, rfl⟩
 refine JLA rfl <| Zb <| Zh <| ⟨iv (YB 60 8 t), [], Ret.one rfl (RV.tmp rfl), Sub.nil, ?_⟩
 exact ⟨rfl, rfl⟩
theorem rightL_ct (t : Tm) (cs : List Value) (H : Heap) (ht : RT H cs t) (hz : sizeT t ≤ 400000) : CT Tryz.prog 14 ⟨[.agg ⟨cs⟩]⟩ [] H (fun v N => v = .tuple ⟨[.bool (decide (YB 60 8 t = 0)), iv (YB 60 8 t)]⟩ ∧ N = []) := by
 refine Zm Tryz.func14 rfl rfl <| Zc <| Za <| JLr (Zo (l := cs) rfl rfl fun b1 => JLA rfl <| JLA rfl <| Zb <| Zc <| Za <| JLr (Zg Zs rfl (At.bx 0 rfl) (Zt (Zv ht)) <| Jc Tryz.call54 rfl (fun hin => rightR_ct _ _ _ (RT.mono (Hle.hu _ _) ht) (by omega)) rfl ?_))
 rintro _ _ ⟨rfl, rfl⟩
 refine JLA rfl <| Zb <| Zc <| Za <| JLM rfl <| JLn (Pu.eql rfl rfl) <| JLM rfl <| JLA rfl <| JLA rfl <| Zb <| Zh <| ⟨.tuple ⟨[.bool (decide (YB 60 8 t = 0)), iv (YB 60 8 t)]⟩, [], Ret.two rfl (RV.tmp rfl) (RV.tmp rfl), Sub.nil, ?_⟩
 exact ⟨rfl, rfl⟩
end Go.Proofs.YtmophpgiaiemhaaGreat.Hs
/-! Copies of slices of numbers. -/
namespace Go.Proofs.YtmophpgiaiemhaaGreat.Hs
open Go Go.Proofs
set_option maxRecDepth 100000
/-- A slice of bytes, as cells read. -/
def RB (_ : Heap) (cs : List Value) (n : Int) : Prop := cs = [.int .u8 n]
theorem RBs.mono {h h' : Heap} (hh : Hle h h') {v : Value} {l : List Int} (q : Hs.rdS RB 1 h v l) : Hs.rdS RB 1 h' v l := rdS.mono q hh fun _ _ _ e => e
section
variable {P : Program} {e : Operand → Value} {d : Option Nat} {ot : TypeId} {pos : String} {af : Array Edge} {g : Option (Nat × Bool)} {T T' : TypeId} {x y z : Operand}
theorem run_equalIn_nil {el : TypeId} {a : Option Addr} {n c n' c' : Nat} (m : Nat) (w : World) (hT : ∀ w, (underlying T).run P w = .ok (.slice el) w) : (Op.equalIn (m + 1) T (.slice a n c) (.slice none n' c')).run P w = .ok a.isNone w := by
  cases a <;> simp [Op.equalIn, hT]
theorem Pu.eqlNil {el : TypeId} {a : Option Addr} {n c n' c' : Nat} (hT : ∀ w, (underlying T).run P w = .ok (.slice el) w) (hx : e x = .slice a n c) (hy : e y = .slice none n' c') : Pu P e ⟨d, .binOp .eql T x y T', ot, pos, af, g⟩ (.bool a.isNone) := fun w => by
  have := run_equalIn_nil (P := P) (a := a) (n := n) (c := c) (n' := n') (c' := c') 9999 w hT
  simp only [execOp, hx, hy, eqGuard, binOp, Op.equal, Op.maxDepth]
  simp [this]
end
end Go.Proofs.YtmophpgiaiemhaaGreat.Hs
/-! Walks, printed by a program of this session's own (gen.py). -/
namespace Go.Proofs.YtmophpgiaiemhaaGreat.Hs
open Go Go.Proofs
set_option maxRecDepth 100000
set_option linter.unusedVariables false
set_option linter.unusedSimpArgs false
attribute [local irreducible] JL J CT wlo DT
theorem ownPatternR_ct : ∀ (p : Pt) (cs : List Value) (H : Heap), RP H cs p → sizeP p ≤ 1000000 → CT Tryz.prog 101 ⟨[.agg ⟨cs⟩]⟩ [] H (fun v N => ∃ cs k, v = .agg ⟨cs⟩ ∧ N = [k] ∧ OP p cs k) := by
 intro p
 induction p using Pt.ind with
 | h kind num ref kids ih =>
 intro cs H hp hz
 rw [sizeP] at hz
 have hlk := len_sizePs kids
 obtain ⟨ks, rfl, hk, hn, hks⟩ := RP_mk.1 hp
 refine Zm Tryz.func101 rfl rfl <| Zc <| Za <| JLr (Zo (l := pkP kind num ref ks) rfl rfl fun b1 => JLr (Zn (l := pkP 0 0 zS nS) Tryz.zeroValue75 rfl fun b2 => Zb <| Zc <| Za <| JLq (pp b1 0) (YL rfl rfl) <| JLr (Ze ty3 rfl (At.bx 1 rfl) (Xp ..) <| JLq (pp b1 1) (fa75_1 rfl rfl) <| JLr (Ze ty3 rfl (At.bx 1 rfl) (pkP_1 ..) <| JLq (pp b1 2) (fa75_2 rfl rfl) ?_))))
 refine JLr (Zg Xm rfl (At.bx 1 rfl) (pkP_2 ..) <| JLq (.agg ⟨pkP kind num ref nS⟩) (Pu.build (pv := [(0, iv kind), (1, iv num), (2, .agg ⟨sC ref⟩)]) (l := pkP kind num ref nS) rfl (bld75_0_1_2 _ _ _)) <| JLr (Zn (l := pkP 0 0 zS nS) Tryz.zeroValue75 rfl fun b3 => JLr (Zd 0 (vs := pkP kind num ref nS) (l := pkP kind num ref nS) Z6 rfl rfl rfl rfl rfl (pkP_ok rfl) (pkP_s ..) <| Zb <| Zc <| Zc <| Za <| JLA rfl <| Zb <| Zl <| ZE (fun k ρ M => ∃ (j : Nat) (v : Value) (es : List (List Value)) (k1 k2 : Zj), ρ 1 = pp b1 0 ∧ ρ 2 = pp b2 0 ∧ ρ 3 = pp b3 0 ∧ ρ 4 = iv ((j : Int)) ∧ Sub [(BX b3 (pkP kind num ref v) 75), k1, k2, (BX b2 (pkP 0 0 zS nS) 75), (BX b1 (pkP kind num ref ks) 75)] M ∧ j ≤ kids.length ∧ Own 75 35 v es k1 ∧ OPs ((kids.take j)) es k2 ∧ k = kids.length - j) _ ⟨0, nS, [], [], [], rfl, rfl, rfl, rfl, (Sk (Sub.emp (Sub.emp (Sk (Sk Sub.nil))))), Nat.zero_le _, Own.nil, OPs.nil, rfl⟩ ?_)))
 rintro _ ρ4 _ ⟨j, v, es, k1, k2, e5, e6, e7, e8, hm9, hj, hov, hopv, rfl⟩
 obtain ⟨ρ10, rfl⟩ := Zr (uc e5 (uc e6 (uc e7 (uc e8 un))))
 clear e5 e6 e7 e8
 refine ZJ hm9 ?_
 have hlen := hks.le
 refine Zc <| Zc <| Za <| JLM rfl <| JLq (pp b1 34) (Yl rfl rfl) <| JLr (Ze Xv rfl (At.bx 4 rfl) (Yw ..) ?_)
 obtain ⟨a11, cap11, hv11⟩ := hks.sl
 have hle11 := hks.le
 refine JLn (Pu.lenSl Tryz.runUnderlying73 hv11) <| JLn (Pu.lss rfl rfl) <| Zb <| Zf rfl (fun h12 => ?_) (fun h12 => ?_)
 ·replace h12 := dt h12
  have h12n : j < kids.length := by omega
  have helv := OPs_len hopv
  rw [List.length_take] at helv
  have hs1 := sizePs_mem _ (List.getElem_mem h12n)
  refine Zi <| Zc <| Zl <| ZF mixed #[0, 1, 0, 4, 0, 28, 60, 124, 252, 511, 1023, 2047] 9 [some 19, some 20, some 21, some 22, some 23, some 24, some 25, some 26, some 27] [] [(7, fun _ _ vw qw => ∃ cs k, vw = .agg ⟨cs⟩ ∧ qw = [k] ∧ OP (kids[j]) cs k), (8, fun r _ vw qw => ∃ b k, vw = .slice (some ⟨b, 0, none⟩) 1 1 ∧ qw = [k] ∧ Own 75 35 (.slice (some ⟨b, 0, none⟩) 1 1) [(cel (r 7))] k ∧ k = (BX b (List.flatten [(cel (r 7))]) 75))] rfl (by kernel_rfl) rfl (by kernel_rfl) <| Dq (pp b3 34) (fun _ => Yl rfl rfl) <| Dl1 Xv (At.bx 0 rfl) (Yw ..) <| Dq (pp b1 34) (fun _ => Yl rfl rfl) <| Dl1 Xv (At.bx 4 rfl) (Yw ..) <| DM (fun _ => rfl) ?_
  obtain ⟨b16, o16, cap16, row16, T16, fr16, cs16, hv16, hb16, hs16, hE16⟩ := hks.get j (by first | assumption | omega | decide | simp)
  refine Dq (pp b16 (o16 + j * 35)) (fun _ => Pu.idx j Tryz.runUnderlying73 Z6 hv16 rfl rfl (by first | assumption | omega | decide | simp)) <| Dl Z6 (At.im hb16) hs16 <| Dc rfl Tryz.call101 (fun _ => rfl) (fun hin => ih _ (List.getElem_mem h12n) _ _ (RP.mono (Hle.hu _ _) hE16) (by omega)) ?_
  rintro _ _ ⟨cs17, k17, rfl, rfl, hO17⟩
  refine Dr rfl (fun _ => Zp (vs := [.agg ⟨cs17⟩]) [cs17] Tryz.runUnderlying73 el75 rfl rfl (by intro e he; simp only [List.mem_cons, List.not_mem_nil, or_false] at he; subst he; exact hO17.len) rfl (by decide) fun b k h1 h2 => ⟨[k], by rw [ZR rfl]; exact Sub.refl, b, k, rfl, rfl, h1, h2⟩) (fun _ _ ⟨b18, k18, e1, e2, ho18, hk18⟩ => ?_); subst e1 e2
  refine ZL (M' := [k18, k17, (BX b3 (pkP kind num ref v) 75), k1, k2, (BX b2 (pkP 0 0 zS nS) 75), (BX b1 (pkP kind num ref ks) 75)]) rfl ?_
  show JL _ _ _ [_, _, _] _ _ _
  have hlens19 : ∀ e ∈ ([cs17] : List (List Value)), List.length e = 35 := by
   intro e he; simp only [List.mem_cons, List.not_mem_nil, or_false] at he
   rcases he with rfl
   ·exact hO17.len
  have hoks19 : ∀ e ∈ ([cs17] : List (List Value)), okc e := by
   intro e he; simp only [List.mem_cons, List.not_mem_nil, or_false] at he
   rcases he with rfl
   ·exact hO17.ok
  refine JLr (ZA (i := 3) (n := 1) (es' := [cs17]) Tryz.runUnderlying73 Tryz.runUnderlying73 (Or.inl rfl) el75 rfl rfl rfl hov (fun F w m => Src.row (((At.k 0 rfl (by rw [hk18]; exact List.mem_cons_self))).heap m) (Zt (Zz hlens19))) rfl hlens19 hoks19 (by decide) (by omega) fun v19 k19 ho19 => JLq (pp b3 34) (Yl rfl rfl) <| JLr (Zd 2 (vs := [v19]) (l := pkP kind num ref v19) Xv rfl rfl rfl (ZK ho19.one) rfl (Zk ho19.one Zq) (pkP_s34 ..) <| Zb <| Za <| JLM rfl <| JLn (Pu.inc rfl rfl (by omega)) <| JLA rfl <| Zb <| ⟨_, ?_, (j + 1), v19, (es ++ [cs17]), k19, (k2 ++ k17), rfl, rfl, rfl, rfl, (Sd (Sub.cons 1 rfl (Sub.cons 1 rfl (Sub.join (Sub.cons 1 rfl (Sk (Sk (Sk Sub.nil)))))))), ?_, ?_, ?_, rfl⟩))
  ·omega
  ·omega
  ·assumption
  rw [List.take_succ_eq_append_getElem h12n]; exact OPs.snoc hO17 hopv
 replace h12 := df h12
 have h12n : kids.length ≤ j := by omega
 refine Zy _ rfl <| Zc <| Za <| JLr (Zg Z6 rfl (At.bx 0 rfl) (pkP_a ..) <| JLr (Zd 3 (vs := pkP kind num ref v) (l := pkP kind num ref v) Z6 rfl rfl rfl rfl rfl (pkP_ok hov.one) (pkP_s ..) <| Zb <| Zh <| ⟨.agg ⟨pkP kind num ref v⟩, [k1 ++ k2], Ret.one rfl (RV.cell Z6 rfl (At.bx 3 rfl) (pkP_a ..)), (Sub.join (Sd (Sk (Sk Sub.nil)))), ?_⟩))
 rw [List.take_of_length_le h12n] at hopv
 exact ⟨_, _, rfl, rfl, OP_mk.2 ⟨v, es, k1, k2, rfl, hk, hn, hov, hopv, rfl, hks.le⟩⟩
theorem ownPattern_ct : ∀ (p : Pt) (cs : List Value) (H : Heap), RP H cs p → sizeP p ≤ 1000000 → CT Tryz.prog 53 ⟨[.agg ⟨cs⟩]⟩ [] H (fun v N => ∃ cs k, v = .agg ⟨cs⟩ ∧ N = [k] ∧ OP p cs k) := by
 intro p
 induction p using Pt.ind with
 | h kind num ref kids ih =>
 intro cs H hp hz
 rw [sizeP] at hz
 have hlk := len_sizePs kids
 obtain ⟨ks, rfl, hk, hn, hks⟩ := RP_mk.1 hp
 refine Zm Tryz.func53 rfl rfl <| Zc <| Za <| JLr (Zo (l := pkP kind num ref ks) rfl rfl fun b1 => JLr (Zn (l := pkP 0 0 zS nS) Tryz.zeroValue75 rfl fun b2 => Zb <| Zc <| Za <| JLq (pp b1 34) (Yl rfl rfl) <| JLr (Ze Xv rfl (At.bx 1 rfl) (Yw ..) <| JLa ks <| Zb <| Zc ?_)))
 refine Za <| JLq (pp b1 34) (Yl rfl rfl) <| JLr (Zd 1 (vs := [nS]) (l := pkP kind num ref nS) Xv rfl rfl rfl rfl rfl (Zk rfl Zq) (pkP_s34 ..) <| Zb <| Zc <| Zc <| Za <| JLm ks ?_)
 obtain ⟨a3, cap3, hv3⟩ := hks.sl
 have hle3 := hks.le
 refine JLn (Pu.lenSl Tryz.runUnderlying73 hv3) <| JLM rfl <| Zb <| Zl <| ZE (fun k ρ M => ∃ (j : Nat) (v : Value) (es : List (List Value)) (k1 k2 : Zj), ρ 1 = pp b1 0 ∧ ρ 2 = pp b2 0 ∧ ρ 9 = ks ∧ ρ 10 = iv ((kids.length : Int)) ∧ ρ 11 = iv ((j : Int)) ∧ Sub [(BX b1 (pkP kind num ref v) 75), k1, k2, (BX b2 (pkP 0 0 zS nS) 75)] M ∧ j ≤ kids.length ∧ Own 75 35 v es k1 ∧ OPs ((kids.take j)) es k2 ∧ k = kids.length - j) _ ⟨0, nS, [], [], [], rfl, rfl, rfl, rfl, rfl, (Sub.cons 1 rfl (Sub.emp (Sub.emp (Sk Sub.nil)))), Nat.zero_le _, Own.nil, OPs.nil, rfl⟩ ?_
 rintro _ ρ4 _ ⟨j, v, es, k1, k2, e5, e6, e7, e8, e9, hm10, hj, hov, hopv, rfl⟩
 obtain ⟨ρ11, rfl⟩ := Zr (uc e5 (uc e6 (uc e7 (uc e8 (uc e9 un)))))
 clear e5 e6 e7 e8 e9
 refine ZJ hm10 ?_
 have hlen := hks.le
 refine Zc <| Za <| JLn (Pu.lss rfl rfl) <| Zb <| Zc <| Zf rfl (fun h12 => ?_) (fun h12 => ?_)
 ·replace h12 := dt h12
  have h12n : j < kids.length := by omega
  have helv := OPs_len hopv
  rw [List.length_take] at helv
  have hs1 := sizePs_mem _ (List.getElem_mem h12n)
  refine Zi <| Zc <| Zl <| Zc <| Za ?_
  obtain ⟨b13, o13, cap13, row13, T13, fr13, cs13, hv13, hb13, hs13, hE13⟩ := hks.get j (by first | assumption | omega | decide | simp)
  refine JLq (pp b13 (o13 + j * 35)) (Pu.idx j Tryz.runUnderlying73 Z6 hv13 rfl rfl (by first | assumption | omega | decide | simp)) <| JLr (Zg Z6 rfl (At.im hb13) hs13 <| JLr (Zn (l := pkP 0 0 zS nS) Tryz.zeroValue75 rfl fun b14 => JLr (Zd 0 (vs := cs13) (l := cs13) Z6 rfl rfl rfl rfl (Zu hE13) (Xj hE13) (ZM (n := 35) rfl (Zu hE13)) <| Zb <| ZF mixed #[0, 1, 0, 4, 12, 31, 63, 127] 5 [some 15, some 16, some 17, some 18, some 19] [] [(3, fun _ _ vw qw => ∃ cs k, vw = .agg ⟨cs⟩ ∧ qw = [k] ∧ OP (kids[j]) cs k), (4, fun r _ vw qw => ∃ b k, vw = .slice (some ⟨b, 0, none⟩) 1 1 ∧ qw = [k] ∧ Own 75 35 (.slice (some ⟨b, 0, none⟩) 1 1) [(cel (r 3))] k ∧ k = (BX b (List.flatten [(cel (r 3))]) 75))] rfl (by kernel_rfl) rfl (by kernel_rfl) <| Dq (pp b1 34) (fun _ => Yl rfl rfl) <| Dl1 Xv (At.bx 1 rfl) (Yw ..) <| Dl Z6 (At.bx 0 rfl) (Zt (Zu hE13)) <| Dc rfl Tryz.call53 (fun _ => rfl) (fun hin => ih _ (List.getElem_mem h12n) _ _ (RP.mono (Hle.hu _ _) hE13) (by omega)) ?_)))
  rintro _ _ ⟨cs17, k17, rfl, rfl, hO17⟩
  refine Dr rfl (fun _ => Zp (vs := [.agg ⟨cs17⟩]) [cs17] Tryz.runUnderlying73 el75 rfl rfl (by intro e he; simp only [List.mem_cons, List.not_mem_nil, or_false] at he; subst he; exact hO17.len) rfl (by decide) fun b k h1 h2 => ⟨[k], by rw [ZR rfl]; exact Sub.refl, b, k, rfl, rfl, h1, h2⟩) (fun _ _ ⟨b18, k18, e1, e2, ho18, hk18⟩ => ?_); subst e1 e2
  refine ZL (M' := [k18, k17, (BX b14 cs13 75), (BX b1 (pkP kind num ref v) 75), k1, k2, (BX b2 (pkP 0 0 zS nS) 75)]) rfl ?_
  show JL _ _ _ [_, _, _] _ _ _
  have hlens19 : ∀ e ∈ ([cs17] : List (List Value)), List.length e = 35 := by
   intro e he; simp only [List.mem_cons, List.not_mem_nil, or_false] at he
   rcases he with rfl
   ·exact hO17.len
  have hoks19 : ∀ e ∈ ([cs17] : List (List Value)), okc e := by
   intro e he; simp only [List.mem_cons, List.not_mem_nil, or_false] at he
   rcases he with rfl
   ·exact hO17.ok
  refine JLr (ZA (i := 4) (n := 1) (es' := [cs17]) Tryz.runUnderlying73 Tryz.runUnderlying73 (Or.inl rfl) el75 rfl rfl rfl hov (fun F w m => Src.row (((At.k 0 rfl (by rw [hk18]; exact List.mem_cons_self))).heap m) (Zt (Zz hlens19))) rfl hlens19 hoks19 (by decide) (by omega) fun v19 k19 ho19 => JLq (pp b1 34) (Yl rfl rfl) <| JLr (Zd 3 (vs := [v19]) (l := pkP kind num ref v19) Xv rfl rfl rfl (ZK ho19.one) rfl (Zk ho19.one Zq) (pkP_s34 ..) <| Zb <| Za <| JLn (Pu.inc rfl rfl (by omega)) <| JLM rfl <| Zb <| ⟨_, ?_, (j + 1), v19, (es ++ [cs17]), k19, (k2 ++ k17), rfl, rfl, rfl, rfl, rfl, (Sd (Sub.cons 2 rfl (Sub.cons 2 rfl (Sub.join (Sub.cons 2 rfl (Sk (Sd (Sk Sub.nil)))))))), ?_, ?_, ?_, rfl⟩))
  ·omega
  ·omega
  ·assumption
  rw [List.take_succ_eq_append_getElem h12n]; exact OPs.snoc hO17 hopv
 replace h12 := df h12
 have h12n : kids.length ≤ j := by omega
 refine Zy _ rfl <| Zc <| Za <| JLr (Zg Z6 rfl (At.bx 0 rfl) (pkP_a ..) <| JLr (Zd 3 (vs := pkP kind num ref v) (l := pkP kind num ref v) Z6 rfl rfl rfl rfl rfl (pkP_ok hov.one) (pkP_s ..) <| Zb <| Zh <| ⟨.agg ⟨pkP kind num ref v⟩, [k1 ++ k2], Ret.one rfl (RV.cell Z6 rfl (At.bx 3 rfl) (pkP_a ..)), (Sub.join (Sd (Sk (Sk Sub.nil)))), ?_⟩))
 rw [List.take_of_length_le h12n] at hopv
 exact ⟨_, _, rfl, rfl, OP_mk.2 ⟨v, es, k1, k2, rfl, hk, hn, hov, hopv, rfl, hks.le⟩⟩
end Go.Proofs.YtmophpgiaiemhaaGreat.Hs
/-! Walks, printed by a program of this session's own (gen.py). -/
namespace Go.Proofs.YtmophpgiaiemhaaGreat.Hs
open Go Go.Proofs
set_option maxRecDepth 100000
set_option linter.unusedVariables false
set_option linter.unusedSimpArgs false
attribute [local irreducible] JL J CT wlo DT
theorem occurs_ct : ∀ (t : Tm) (b : Int) (l : List Bool) (bF : Nat) (cs : List Value) (H : Heap), RT H cs t → 0 ≤ b → b + 2 * sizeT t ≤ 1000000 → l.length = 60 → CT Tryz.prog 96 ⟨[.agg ⟨cs⟩, iv b, .slice (some ⟨bF, 0, none⟩) 60 60]⟩ [(BX bF (bls l) 4)] H (fun _ N => N = [(BX bF (bls (occT b t l)) 4)]) := by
 intro t
 induction t using Tm.ind with
 | h kind num ref kids cases ih ih' =>
 intro b l bF cs H ht hb0 hb hl
 rw [sizeT] at hb
 obtain ⟨ks, cv, rfl, hk, hn, hks, hcv⟩ := RT_mk.1 ht
 have hn1 : -9223372036854775808 ≤ num := hn.1
 have hn2 : num ≤ 9223372036854775807 := hn.2
 refine Zm Tryz.func96 rfl rfl <| Zc <| Za <| JLr (Zo (l := pkT kind num ref ks cv) rfl rfl fun b1 => Zb <| Zc <| Zc <| Za <| JLq (pp b1 0) (ZO rfl rfl) <| JLr (Ze ty3 rfl (At.bx 0 rfl) (Z3 ..) <| JLn (Pu.eql rfl rfl) <| JLM rfl <| Zx 4 [12, 13, 14, 15] [(15, cond (decide (kind = 1)) (.bool (decide (b ≤ num))) undef)] ?_ fun f3 => ?_))
 ·cases h2 : (decide (kind = 1)) with
  | true =>
   replace h2 := dt h2
   refine JLq (pp b1 1) (ZZ rfl rfl) <| JLr (Ze ty3 rfl (At.bx 0 rfl) (Yh ..) <| JLM rfl <| JLn (Pu.geq rfl rfl) ?_)
   exact Zb ⟨⟨rfl, trivial⟩, rfl⟩
  | false =>
   exact ZG rfl ⟨rfl, trivial⟩
 refine JLn (Pu.pickAnd rfl rfl rfl) <| JLM rfl <| Zx 7 [18, 19, 20, 21, 22, 23, 24] [(24, cond ((decide (kind = 1)) && (decide (b ≤ num))) (.bool (decide (num - b < 60))) undef)] ?_ fun f5 => ?_
 ·cases h4 : ((decide (kind = 1)) && (decide (b ≤ num))) with
  | true =>
   obtain ⟨h4a, h4b⟩ := Yr h4
   replace h4a := dt h4a
   replace h4b := dt h4b
   refine JLq (pp b1 1) (ZZ rfl rfl) <| JLr (Ze ty3 rfl (At.bx 0 rfl) (Yh ..) <| JLM rfl <| JLn (Pu.sub64 rfl rfl (by first | omega | (constructor <;> omega))) <| JLM rfl <| JLn (Pu.lenSl Tryz.runUnderlying148 rfl) <| JLn (Pu.lss rfl rfl) ?_)
   exact Zb ⟨⟨rfl, trivial⟩, rfl⟩
  | false =>
   exact ZG rfl ⟨rfl, trivial⟩
 refine JLn (Pu.pickAnd rfl rfl rfl) <| Zb <| J_weak (N := fun ρ M => ρ 1 = iv b ∧ ρ 2 = .slice (some ⟨bF, 0, none⟩) 60 60 ∧ ρ 3 = pp b1 0 ∧ M = [(BX b1 (pkT kind num ref ks cv) 27), (BX bF (bls (mark1 kind num b l)) 4)]) ?_ ?_
 ·refine Zf rfl (fun h6 => ?_) (fun h6 => ?_)
  ·obtain ⟨h6a, h6b⟩ := Yr h6
   obtain ⟨h6aa, h6ab⟩ := Yr h6a
   replace h6aa := dt h6aa
   replace h6ab := dt h6ab
   replace h6b := dt h6b
   refine Za <| JLM rfl <| JLq (pp b1 1) (ZZ rfl rfl) <| JLr (Ze ty3 rfl (At.bx 0 rfl) (Yh ..) <| JLM rfl <| JLn (Pu.sub64 rfl rfl (by first | omega | (constructor <;> omega))) <| JLq (pp bF (0 + (num - b).toNat * 1)) (Pu.idx (num - b).toNat Tryz.runUnderlying148 ty4 rfl rfl (by omega) (by omega)) <| JLr (Zd 1 (vs := [.bool true]) (l := bls (l.set (num - b).toNat true)) ty4 rfl rfl rfl rfl rfl (Zk rfl Zq) (bls_set1 (by have hbl : List.length l = 60 := hl; omega)) <| Zb ?_))
   have hmk : mark1 kind num b l = l.set (num - b).toNat true := by unfold mark1; (repeat' split) <;> first | rfl | omega | (exfalso; simp_all; done) | (exfalso; simp_all; omega)
   rw [hmk]
   exact ⟨rfl, rfl, rfl, rfl⟩
  refine Zi ?_
  have hmk : mark1 kind num b l = l := by unfold mark1; (repeat' split) <;> first | rfl | omega | (exfalso; simp_all; done) | (exfalso; simp_all; omega)
  rw [hmk]
  exact ⟨rfl, rfl, rfl, rfl⟩
 rintro ρ7 _ ⟨e8, e9, e10, rfl⟩
 obtain ⟨ρ11, rfl⟩ := Zr (uc e8 (uc e9 (uc e10 un)))
 clear e8 e9 e10
 refine Zc <| Zc <| Za <| JLA rfl <| Zb <| Zl ?_
 have hmk : mark1 kind num b l = mark1 kind num b l := rfl
 refine ZE (fun k ρ M => ∃ (j : Nat) (l1 : List Bool), ρ 1 = iv b ∧ ρ 2 = .slice (some ⟨bF, 0, none⟩) 60 60 ∧ ρ 3 = pp b1 0 ∧ ρ 6 = iv ((j : Int)) ∧ Sub [(BX bF (bls l1) 4), (BX b1 (pkT kind num ref ks cv) 27)] M ∧ j ≤ kids.length ∧ l1.length = 60 ∧ occTs b kind j (kids.drop j) l1 = occTs b kind 0 kids (mark1 kind num b l) ∧ k = kids.length - j) _ ⟨0, (mark1 kind num b l), rfl, rfl, rfl, rfl, (Sub.cons 1 rfl (Sk Sub.nil)), Nat.zero_le _, ((mark1_len ..).trans hl), (by rw [hmk]; rfl), rfl⟩ ?_
 rintro _ ρ12 _ ⟨j, l1, e13, e14, e15, e16, hm17, hj, hll1, hinv, rfl⟩
 obtain ⟨ρ18, rfl⟩ := Zr (uc e13 (uc e14 (uc e15 (uc e16 un))))
 clear e13 e14 e15 e16
 refine ZJ hm17 ?_
 have hlen := hks.le
 refine Zc <| Zc <| Za <| JLM rfl <| JLq (pp b1 34) (Z8 rfl rfl) <| JLr (Ze YW rfl (At.bx 1 rfl) (Yb ..) ?_)
 obtain ⟨a19, cap19, hv19⟩ := hks.sl
 have hle19 := hks.le
 refine JLn (Pu.lenSl Tryz.runUnderlying24 hv19) <| JLn (Pu.lss rfl rfl) <| Zb <| Zf rfl (fun h20 => ?_) (fun h20 => ?_)
 ·replace h20 := dt h20
  have h20n : j < kids.length := by omega
  have hs1 := YY _ (List.getElem_mem h20n)
  have hm1 := Xu kind j
  refine Zi <| Zc <| Zl <| ZF mixed #[0, 1, 0, 7, 15, 0, 0, 64, 0, 448, 992, 0, 4095] 12 [some 39, some 40, some 41, some 42, some 43, some 44, some 45, some 46, some 47, some 48, some 49, some 50] [] [(9, fun _ _ vw qw => vw = iv (ZB kind ((j : Int))) ∧ qw = [])] rfl (by kernel_rfl) rfl (by kernel_rfl) <| Dq (pp b1 34) (fun _ => Z8 rfl rfl) <| Dl1 YW (At.bx 1 rfl) (Yb ..) <| DM (fun _ => rfl) ?_
  obtain ⟨b22, o22, cap22, row22, T22, fr22, cs22, hv22, hb22, hs22, hE22⟩ := hks.get j (by first | assumption | omega | decide | simp)
  refine Dq (pp b22 (o22 + j * 36)) (fun _ => Pu.idx j Tryz.runUnderlying24 Zs hv22 rfl rfl (by first | assumption | omega | decide | simp)) <| Dl Zs (At.im hb22) hs22 <| DM (fun _ => rfl) <| Dq (pp b1 0) (fun _ => ZO rfl rfl) <| Dl1 ty3 (At.bx 1 rfl) (Z3 ..) <| DM (fun _ => rfl) <| Dc rfl Tryz.call98 (fun _ => rfl) (fun hin => moreR_ct _ _ _) ?_
  rintro _ _ ⟨rfl, rfl⟩
  refine Dn (fun _ => Pu.add64 rfl rfl (by first | omega | (constructor <;> omega))) <| DM (fun _ => rfl) <| ZL (M' := [(BX bF (bls l1) 4), (BX b1 (pkT kind num ref ks cv) 27)]) rfl ?_
  show JL _ _ _ [_] _ _ _
  refine ZD 0 rfl Tryz.call96 rfl rfl (fun hin => ih _ (List.getElem_mem h20n) _ _ _ _ _ (RT.mono (Hle.hu _ _) hE22) (by omega) (by omega) hll1) rfl ?_
  rintro _ _ ⟨rfl, rfl⟩
  refine Zb <| Za <| JLM rfl <| JLn (Pu.inc rfl rfl (by omega)) <| JLA rfl <| Zb <| ⟨_, ?_, (j + 1), (occT (b + (ZB kind ((j : Int)))) (kids[j]) l1), rfl, rfl, rfl, rfl, (Sk (Sk Sub.nil)), ?_, ?_, ?_, rfl⟩
  ·omega
  ·omega
  ·exact ((occT_len _ _ _).trans hll1)
  rw [ZU h20n, occTs] at hinv; exact hinv
 replace h20 := df h20
 have h20n : kids.length ≤ j := by omega
 refine Zy _ rfl <| Zc <| Za <| JLA rfl <| Zb <| Zl ?_
 have hk1 : l1 = occTs b kind 0 kids (mark1 kind num b l) := by rw [← hinv, Yt h20n]; rfl
 refine ZE (fun k ρ M => ∃ (j : Nat) (l2 : List Bool), ρ 1 = iv b ∧ ρ 2 = .slice (some ⟨bF, 0, none⟩) 60 60 ∧ ρ 3 = pp b1 0 ∧ ρ 7 = iv ((j : Int)) ∧ Sub [(BX bF (bls l2) 4), (BX b1 (pkT kind num ref ks cv) 27)] M ∧ j ≤ cases.length ∧ l2.length = 60 ∧ occCs b (cases.drop j) l2 = occCs b cases l1 ∧ k = cases.length - j) _ ⟨0, l1, rfl, rfl, rfl, rfl, (Sk (Sk Sub.nil)), Nat.zero_le _, hll1, rfl, rfl⟩ ?_
 rintro _ ρ23 _ ⟨j, l2, e24, e25, e26, e27, hm28, hj, hll2, hinv, rfl⟩
 obtain ⟨ρ29, rfl⟩ := Zr (uc e24 (uc e25 (uc e26 (uc e27 un))))
 clear e24 e25 e26 e27
 refine ZJ hm28 ?_
 have hlen := hcv.le
 refine Zc <| Zc <| Za <| JLM rfl <| JLq (pp b1 35) (Z1 rfl rfl) <| JLr (Ze YI rfl (At.bx 1 rfl) (Z2 ..) ?_)
 obtain ⟨a30, cap30, hv30⟩ := hcv.sl
 have hle30 := hcv.le
 refine JLn (Pu.lenSl Tryz.runUnderlying25 hv30) <| JLn (Pu.lss rfl rfl) <| Zb <| Zf rfl (fun h31 => ?_) (fun h31 => ?_)
 ·replace h31 := dt h31
  have h31n : j < cases.length := by omega
  have hs1 := YK _ (List.getElem_mem h31n)
  have hm1 := YS (cases[j]).1
  refine Zi <| Zc <| Zl <| ZF mixed #[0, 1, 0, 7, 15, 31, 0, 0, 128, 0, 896, 1920, 3968, 8064, 16320, 0, 65535] 16 [some 59, some 60, some 61, some 62, some 63, some 64, some 65, some 66, some 67, some 68, some 69, some 70, some 71, some 72, some 73, some 74] [] [(13, fun _ _ vw qw => vw = iv ((binds (cases[j].1) : Int)) ∧ qw = [])] rfl (by kernel_rfl) rfl (by kernel_rfl) <| Dq (pp b1 35) (fun _ => Z1 rfl rfl) <| Dl1 YI (At.bx 1 rfl) (Z2 ..) <| DM (fun _ => rfl) ?_
  obtain ⟨b34, o34, cap34, row34, T34, fr34, cs34, hv34, hb34, hs34, hE34⟩ := hcv.get j (by first | assumption | omega | decide | simp)
  obtain ⟨ca34, cb34, rfl, hA34, hB34⟩ := hE34
  refine Dq (pp b34 (o34 + j * 71)) (fun _ => Pu.idx j Tryz.runUnderlying25 YM hv34 rfl rfl (by first | assumption | omega | decide | simp)) <| Dq (pp b34 (o34 + j * 71 + 35)) (fun _ => fa80_1 rfl rfl) <| Dl Zs (At.im hb34) (sub_sub hs34 (Xg (Zu hA34) (Zv hB34))) <| DM (fun _ => rfl) <| Dq (pp b1 35) (fun _ => Z1 rfl rfl) <| Dl1 YI (At.bx 1 rfl) (Z2 ..) <| DM (fun _ => rfl) ?_
  obtain ⟨b35, o35, cap35, row35, T35, fr35, cs35, hv35, hb35, hs35, hE35⟩ := hcv.get j (by first | assumption | omega | decide | simp)
  obtain ⟨ca35, cb35, rfl, hA35, hB35⟩ := hE35
  refine Dq (pp b35 (o35 + j * 71)) (fun _ => Pu.idx j Tryz.runUnderlying25 YM hv35 rfl rfl (by first | assumption | omega | decide | simp)) <| Dq (pp b35 (o35 + j * 71)) (fun _ => Y1 rfl rfl) <| Dl Z6 (At.im hb35) (sub_sub0 hs35 (YE (Zu hA35))) <| Dc rfl Tryz.call100 (fun _ => rfl) (fun hin => bindsR_ct _ _ _ (RP.mono (Hle.hu _ _) hA35) (by omega)) ?_
  rintro _ _ ⟨rfl, rfl⟩
  refine Dn (fun _ => Pu.add64 rfl rfl (by first | omega | (constructor <;> omega))) <| DM (fun _ => rfl) <| ZL (M' := [(BX bF (bls l2) 4), (BX b1 (pkT kind num ref ks cv) 27)]) rfl ?_
  show JL _ _ _ [_] _ _ _
  refine ZD 0 rfl Tryz.call96 rfl rfl (fun hin => ih' _ (List.getElem_mem h31n) _ _ _ _ _ (RT.mono (Hle.hu _ _) hB34) (by omega) (by omega) hll2) rfl ?_
  rintro _ _ ⟨rfl, rfl⟩
  refine Zb <| Za <| JLM rfl <| JLn (Pu.inc rfl rfl (by omega)) <| JLA rfl <| Zb <| ⟨_, ?_, (j + 1), (occT (b + ((binds (cases[j].1) : Int))) (cases[j].2) l2), rfl, rfl, rfl, rfl, (Sk (Sk Sub.nil)), ?_, ?_, ?_, rfl⟩
  ·omega
  ·omega
  ·exact ((occT_len _ _ _).trans hll2)
  rw [ZU h31n, occCs] at hinv; exact hinv
 replace h31 := df h31
 have h31n : cases.length ≤ j := by omega
 refine Zy _ rfl <| ⟨.tuple ⟨[]⟩, [(BX bF (bls l2) 4)], Ret.none rfl, (Sk Sub.nil), ?_⟩
 show _ = _; rw [occT, ← hk1, ← hinv, Yt h31n]; rfl
end Go.Proofs.YtmophpgiaiemhaaGreat.Hs
/-! Walks, printed by a program of this session's own (gen.py). -/
namespace Go.Proofs.YtmophpgiaiemhaaGreat.Hs
open Go Go.Proofs
set_option maxRecDepth 100000
set_option linter.unusedVariables false
set_option linter.unusedSimpArgs false
attribute [local irreducible] JL J CT wlo DT
theorem freeR_ct (t : Tm) (cs : List Value) (H : Heap) (ht : RT H cs t) (hz : sizeT t ≤ 400000) : CT Tryz.prog 56 ⟨[.agg ⟨cs⟩]⟩ [] H (fun v N => ∃ u k, v = u ∧ N = [k] ∧ Own 3 1 u (ints (Xc t)) k) := by
 refine Zm Tryz.func56 rfl rfl <| Zc <| Za <| JLr (Zo (l := cs) rfl rfl fun b1 => JLA rfl <| Zb <| Zc <| Za <| JLr (Runs_make 60 Tryz.runUnderlying148 el4 rfl rfl rfl rfl (by decide) (by decide) fun b2 k2 _ hk2 => ?_))
 obtain rfl : k2 = (BX b2 (bls (List.replicate 60 false)) 4) := hk2
 refine JLA rfl <| Zb <| Zc <| Za <| JLr (Zg Zs rfl (At.bx 1 rfl) (Zt (Zv ht)) <| JLM rfl <| ZD 0 rfl Tryz.call96 rfl rfl (fun hin => occurs_ct _ _ _ _ _ _ (RT.mono (Hle.hu _ _) ht) (by decide) (by omega) (List.length_replicate ..)) rfl ?_)
 rintro _ _ ⟨rfl, rfl⟩
 refine Zb <| Zc <| Za <| JLA rfl <| Zb <| Zc <| Zc <| Za <| JLA rfl <| Zb <| Zl <| ZE (fun k ρ M => ∃ (j : Nat) (v : Value) (k1 : Zj), ρ 2 = nS ∧ ρ 3 = .slice (some ⟨b2, 0, none⟩) 60 60 ∧ ρ 4 = v ∧ ρ 5 = iv ((j : Int)) ∧ Sub [k1, (BX b2 (bls (occT 0 t (List.replicate 60 false))) 4)] M ∧ j ≤ 60 ∧ Own 3 1 v (ints (upTo (occT 0 t (List.replicate 60 false)) j)) k1 ∧ k = 60 - j) _ ⟨0, nS, [], rfl, rfl, rfl, rfl, (Sub.emp (Sk Sub.nil)), Nat.zero_le _, Own.nil, rfl⟩ ?_
 rintro _ ρ3 _ ⟨j, v, k1, e4, e5, e6, e7, hm8, hj, ho, rfl⟩
 obtain ⟨ρ9, rfl⟩ := Zr (uc e4 (uc e5 (uc e6 (uc e7 un))))
 clear e4 e5 e6 e7
 refine ZJ hm8 <| Zc <| Zc <| Za <| JLM rfl <| JLM rfl <| JLn (Pu.lenSl Tryz.runUnderlying148 rfl) <| JLn (Pu.lss rfl rfl) <| Zb <| Zf rfl (fun h10 => ?_) (fun h10 => ?_)
 ·replace h10 := dt h10
  have h10n : j < 60 := by omega
  have hul := upTo_len (occT 0 t (List.replicate 60 false)) j
  have hil := ints_len (upTo (occT 0 t (List.replicate 60 false)) j)
  refine Zi <| Zc <| Zl <| Zc <| Za <| JLM rfl <| JLM rfl <| JLq (pp b2 (0 + j * 1)) (Pu.idx j Tryz.runUnderlying148 ty4 rfl rfl (by omega) (by omega)) <| JLr (Ze ty4 rfl (At.bx 1 rfl) (bls_get1 (by have hbl : List.length (occT 0 t (List.replicate 60 false)) = 60 := ((occT_len _ _ _).trans (List.length_replicate ..)); omega)) <| Zb <| Zf rfl (fun h11 => ?_) (fun h11 => ?_))
  ·refine Za <| JLm v <| JLM rfl <| JLr (Zp (vs := [iv ((j : Int))]) [[iv ((j : Int))]] Tryz.runUnderlying92 el3 rfl rfl (by intro e he; simp only [List.mem_cons, List.not_mem_nil, or_false] at he; subst he; exact rfl) rfl (by decide) fun b12 k12 ho12 hk12 => ?_)
   have hlens13 : ∀ e ∈ ([[iv ((j : Int))]] : List (List Value)), List.length e = 1 := by
    intro e he; simp only [List.mem_cons, List.not_mem_nil, or_false] at he
    rcases he with rfl
    ·exact rfl
   have hoks13 : ∀ e ∈ ([[iv ((j : Int))]] : List (List Value)), okc e := by
    intro e he; simp only [List.mem_cons, List.not_mem_nil, or_false] at he
    rcases he with rfl
    ·exact (Zk rfl Zq)
   refine JLr (ZA (i := 1) (n := 1) (es' := [[iv ((j : Int))]]) Tryz.runUnderlying92 Tryz.runUnderlying92 (Or.inl rfl) el3 rfl rfl rfl ho (fun F w m => Src.row (((At.k 0 rfl (by rw [hk12]; exact List.mem_cons_self))).heap m) (Zt (Zz hlens13))) rfl hlens13 hoks13 (by decide) (by omega) fun v13 k13 ho13 => JLa v13 <| Zb <| Za <| JLM rfl <| JLn (Pu.inc rfl rfl (by omega)) <| JLA rfl <| Zb <| ⟨_, ?_, (j + 1), v13, k13, rfl, rfl, rfl, rfl, (Sd (Sk (Sk Sub.nil))), ?_, ?_, rfl⟩)
   ·omega
   ·omega
   rw [upTo_succ, if_pos h11, ints_snoc]; exact ho13
  refine Zi <| Za <| JLM rfl <| JLn (Pu.inc rfl rfl (by omega)) <| JLA rfl <| Zb <| ⟨_, ?_, (j + 1), v, k1, rfl, rfl, rfl, rfl, (Sk (Sk Sub.nil)), ?_, ?_, rfl⟩
  ·omega
  ·omega
  rw [upTo_succ, if_neg (by rw [h11]; decide)]; exact ho
 replace h10 := df h10
 have h10n : 60 ≤ j := by omega
 refine Zy _ rfl <| Zc <| Za <| JLm v <| JLa v <| Zb <| Zh <| ⟨v, [k1], Ret.one rfl (RV.tmp rfl), (Sk Sub.nil), ?_⟩
 obtain rfl : j = 60 := by omega
 exact ⟨v, k1, rfl, rfl, ho⟩
end Go.Proofs.YtmophpgiaiemhaaGreat.Hs
/-! Walks, printed by a program of this session's own (gen.py). -/
namespace Go.Proofs.YtmophpgiaiemhaaGreat.Hs
open Go Go.Proofs
set_option maxRecDepth 100000
set_option linter.unusedVariables false
set_option linter.unusedSimpArgs false
attribute [local irreducible] JL J CT wlo DT
theorem eqFuncP_ct (g : Nat) (fs cv : List Value) (hcall : ∀ args w, (callFunc g args).run Tryz.prog w = .ok (.enter g args) w) (l m : List Pt) (v u : Value) (H : Heap) (hl : rdS RP 35 H v l) (hm : rdS RP 35 H u m) (hg : ∀ x ∈ l, ∀ y ∈ m, ∀ a b h, Hle H h → RP h a x → RP h b y → CT Tryz.prog g ⟨fs ++ [.agg ⟨a⟩, .agg ⟨b⟩] ++ cv⟩ [] h (fun v N => v = .bool (decide (x = y)) ∧ N = [])) : CT Tryz.prog 122 ⟨[v, u, .func (.func g) ⟨fs⟩ ⟨cv⟩]⟩ [] H (fun v N => v = .bool (decide (l = m)) ∧ N = []) := by
 refine Zm Tryz.func122 rfl rfl <| Zc <| Za <| JLA rfl <| Zb <| Zc <| Zc <| Za <| JLm v ?_
 obtain ⟨a1, cap1, hv1⟩ := hl.sl
 have hle1 := hl.le
 refine JLn (Pu.lenSl Tryz.runUnderlying73 hv1) <| JLm u ?_
 obtain ⟨a2, cap2, hv2⟩ := hm.sl
 have hle2 := hm.le
 refine JLn (Pu.lenSl Tryz.runUnderlying73 hv2) <| JLn (Pu.neq rfl rfl) <| Zb <| Zf rfl (fun h3 => ?_) (fun h3 => ?_)
 ·replace h3 := nt h3
  replace h3 := df h3
  refine Zc <| Za <| JLA rfl <| Zb <| Zh <| ⟨.bool false, [], Ret.one rfl (RV.tmp rfl), Sub.nil, ?_⟩
  exact ⟨by rw [decide_eq_false]; intro e; subst e; exact h3 rfl, rfl⟩
 replace h3 := nf h3
 replace h3 := dt h3
 refine Zi <| Zc <| Zc <| Za <| JLm v ?_
 obtain ⟨a4, cap4, hv4⟩ := hl.sl
 have hle4 := hl.le
 refine JLn (Pu.lenSl Tryz.runUnderlying73 hv4) <| JLM rfl <| Zb <| Zl <| ZE (fun k ρ M => ∃ (j : Nat), ρ 1 = u ∧ ρ 2 = .func (.func g) ⟨fs⟩ ⟨cv⟩ ∧ ρ 6 = .bool false ∧ ρ 15 = v ∧ ρ 16 = iv ((l.length : Int)) ∧ ρ 17 = iv ((j : Int)) ∧ Sub [] M ∧ j ≤ l.length ∧ l.length = m.length ∧ l.take j = m.take j ∧ k = l.length - j) _ ⟨0, rfl, rfl, rfl, rfl, rfl, rfl, Sub.nil, Nat.zero_le _, (by omega), rfl, rfl⟩ ?_
 rintro _ ρ5 _ ⟨j, e6, e7, e8, e9, e10, e11, hm12, hj, hlen, htake, rfl⟩
 obtain ⟨ρ13, rfl⟩ := Zr (uc e6 (uc e7 (uc e8 (uc e9 (uc e10 (uc e11 un))))))
 clear e6 e7 e8 e9 e10 e11
 refine ZJ hm12 <| Zc <| Za <| JLn (Pu.lss rfl rfl) <| Zb <| Zc <| Zf rfl (fun h14 => ?_) (fun h14 => ?_)
 ·replace h14 := dt h14
  have h14n : j < l.length := by omega
  have hlenl := hl.le
  have hltm : j < m.length := by omega
  refine Zi <| Zc <| Zl <| Zc <| Za <| JLM rfl ?_
  obtain ⟨b15, o15, cap15, row15, T15, fr15, cs15, hv15, hb15, hs15, hE15⟩ := hl.get j (by first | assumption | omega | decide | simp)
  refine JLq (pp b15 (o15 + j * 35)) (Pu.idx j Tryz.runUnderlying73 Z6 hv15 rfl rfl (by first | assumption | omega | decide | simp)) <| JLr (Zg Z6 rfl (At.im hb15) hs15 <| JLr (Zn (l := pkP 0 0 zS nS) Tryz.zeroValue75 rfl fun b16 => JLA rfl <| JLr (Zd 0 (vs := cs15) (l := cs15) Z6 rfl rfl rfl rfl (Zu hE15) (Xj hE15) (ZM (n := 35) rfl (Zu hE15)) <| Zb <| Zc <| Za <| JLm u <| JLM rfl ?_)))
  obtain ⟨b17, o17, cap17, row17, T17, fr17, cs17, hv17, hb17, hs17, hE17⟩ := hm.get j (by first | assumption | omega | decide | simp)
  refine JLq (pp b17 (o17 + j * 35)) (Pu.idx j Tryz.runUnderlying73 Z6 hv17 rfl rfl (by first | assumption | omega | decide | simp)) <| JLr (Zg Z6 rfl (At.im hb17) hs17 <| JLr (Zn (l := pkP 0 0 zS nS) Tryz.zeroValue75 rfl fun b18 => JLr (Zd 0 (vs := cs17) (l := cs17) Z6 rfl rfl rfl rfl (Zu hE17) (Xj hE17) (ZM (n := 35) rfl (Zu hE17)) <| Zb <| Zc <| Za <| JLM rfl <| JLr (Zg Z6 rfl (At.bx 1 rfl) (Zt (Zu hE15)) <| JLr (Zg Z6 rfl (At.bx 0 rfl) (Zt (Zu hE17)) <| Jc hcall rfl (fun hin => hg _ (List.getElem_mem h14n) _ (List.getElem_mem (by omega)) _ _ _ (Hle.hu _ _) (RP.mono (Hle.hu _ _) hE15) (RP.mono (Hle.hu _ _) hE17)) rfl ?_)))))
  rintro _ _ ⟨rfl, rfl⟩
  refine JLn (Pu.not rfl) <| Zb <| Zf rfl (fun h19 => ?_) (fun h19 => ?_)
  ·replace h19 := nt h19
   replace h19 := df h19
   refine Zc <| Za <| JLA rfl <| Zb <| Zh <| ⟨.bool false, [], Ret.one rfl (RV.tmp rfl), Sub.nil, ?_⟩
   exact ⟨by rw [decide_eq_false]; intro e; subst e; exact h19 rfl, rfl⟩
  replace h19 := nf h19
  replace h19 := dt h19
  refine Zi <| Za <| JLn (Pu.inc rfl rfl (by omega)) <| JLM rfl <| Zb <| ⟨_, ?_, (j + 1), rfl, rfl, rfl, rfl, rfl, rfl, Sub.nil, ?_, ?_, ?_, rfl⟩
  ·omega
  ·omega
  ·assumption
  rw [List.take_succ_eq_append_getElem h14n, List.take_succ_eq_append_getElem (by omega), htake, h19]
 replace h14 := df h14
 have h14n : l.length ≤ j := by omega
 refine Zy _ rfl <| Zc <| Za <| JLA rfl <| Zb <| Zh <| ⟨.bool true, [], Ret.one rfl (RV.tmp rfl), Sub.nil, ?_⟩
 exact ⟨by rw [decide_eq_true]; have e := htake; rw [List.take_of_length_le h14n, List.take_of_length_le (by omega)] at e; exact e, rfl⟩
theorem eqFuncT_ct (g : Nat) (fs cv : List Value) (hcall : ∀ args w, (callFunc g args).run Tryz.prog w = .ok (.enter g args) w) (l m : List Tm) (v u : Value) (H : Heap) (hl : rdS RT 36 H v l) (hm : rdS RT 36 H u m) (hg : ∀ x ∈ l, ∀ y ∈ m, ∀ a b h, Hle H h → RT h a x → RT h b y → CT Tryz.prog g ⟨fs ++ [.agg ⟨a⟩, .agg ⟨b⟩] ++ cv⟩ [] h (fun v N => v = .bool (decide (x = y)) ∧ N = [])) : CT Tryz.prog 123 ⟨[v, u, .func (.func g) ⟨fs⟩ ⟨cv⟩]⟩ [] H (fun v N => v = .bool (decide (l = m)) ∧ N = []) := by
 refine Zm Tryz.func123 rfl rfl <| Zc <| Za <| JLA rfl <| Zb <| Zc <| Zc <| Za <| JLm v ?_
 obtain ⟨a1, cap1, hv1⟩ := hl.sl
 have hle1 := hl.le
 refine JLn (Pu.lenSl Tryz.runUnderlying24 hv1) <| JLm u ?_
 obtain ⟨a2, cap2, hv2⟩ := hm.sl
 have hle2 := hm.le
 refine JLn (Pu.lenSl Tryz.runUnderlying24 hv2) <| JLn (Pu.neq rfl rfl) <| Zb <| Zf rfl (fun h3 => ?_) (fun h3 => ?_)
 ·replace h3 := nt h3
  replace h3 := df h3
  refine Zc <| Za <| JLA rfl <| Zb <| Zh <| ⟨.bool false, [], Ret.one rfl (RV.tmp rfl), Sub.nil, ?_⟩
  exact ⟨by rw [decide_eq_false]; intro e; subst e; exact h3 rfl, rfl⟩
 replace h3 := nf h3
 replace h3 := dt h3
 refine Zi <| Zc <| Zc <| Za <| JLm v ?_
 obtain ⟨a4, cap4, hv4⟩ := hl.sl
 have hle4 := hl.le
 refine JLn (Pu.lenSl Tryz.runUnderlying24 hv4) <| JLM rfl <| Zb <| Zl <| ZE (fun k ρ M => ∃ (j : Nat), ρ 1 = u ∧ ρ 2 = .func (.func g) ⟨fs⟩ ⟨cv⟩ ∧ ρ 6 = .bool false ∧ ρ 15 = v ∧ ρ 16 = iv ((l.length : Int)) ∧ ρ 17 = iv ((j : Int)) ∧ Sub [] M ∧ j ≤ l.length ∧ l.length = m.length ∧ l.take j = m.take j ∧ k = l.length - j) _ ⟨0, rfl, rfl, rfl, rfl, rfl, rfl, Sub.nil, Nat.zero_le _, (by omega), rfl, rfl⟩ ?_
 rintro _ ρ5 _ ⟨j, e6, e7, e8, e9, e10, e11, hm12, hj, hlen, htake, rfl⟩
 obtain ⟨ρ13, rfl⟩ := Zr (uc e6 (uc e7 (uc e8 (uc e9 (uc e10 (uc e11 un))))))
 clear e6 e7 e8 e9 e10 e11
 refine ZJ hm12 <| Zc <| Za <| JLn (Pu.lss rfl rfl) <| Zb <| Zc <| Zf rfl (fun h14 => ?_) (fun h14 => ?_)
 ·replace h14 := dt h14
  have h14n : j < l.length := by omega
  have hlenl := hl.le
  have hltm : j < m.length := by omega
  refine Zi <| Zc <| Zl <| Zc <| Za <| JLM rfl ?_
  obtain ⟨b15, o15, cap15, row15, T15, fr15, cs15, hv15, hb15, hs15, hE15⟩ := hl.get j (by first | assumption | omega | decide | simp)
  refine JLq (pp b15 (o15 + j * 36)) (Pu.idx j Tryz.runUnderlying24 Zs hv15 rfl rfl (by first | assumption | omega | decide | simp)) <| JLr (Zg Zs rfl (At.im hb15) hs15 <| JLr (Zn (l := pkT 0 0 zS nS nS) Tryz.zeroValue27 rfl fun b16 => JLA rfl <| JLr (Zd 0 (vs := cs15) (l := cs15) Zs rfl rfl rfl rfl (Zv hE15) (XC hE15) (ZM (n := 36) rfl (Zv hE15)) <| Zb <| Zc <| Za <| JLm u <| JLM rfl ?_)))
  obtain ⟨b17, o17, cap17, row17, T17, fr17, cs17, hv17, hb17, hs17, hE17⟩ := hm.get j (by first | assumption | omega | decide | simp)
  refine JLq (pp b17 (o17 + j * 36)) (Pu.idx j Tryz.runUnderlying24 Zs hv17 rfl rfl (by first | assumption | omega | decide | simp)) <| JLr (Zg Zs rfl (At.im hb17) hs17 <| JLr (Zn (l := pkT 0 0 zS nS nS) Tryz.zeroValue27 rfl fun b18 => JLr (Zd 0 (vs := cs17) (l := cs17) Zs rfl rfl rfl rfl (Zv hE17) (XC hE17) (ZM (n := 36) rfl (Zv hE17)) <| Zb <| Zc <| Za <| JLM rfl <| JLr (Zg Zs rfl (At.bx 1 rfl) (Zt (Zv hE15)) <| JLr (Zg Zs rfl (At.bx 0 rfl) (Zt (Zv hE17)) <| Jc hcall rfl (fun hin => hg _ (List.getElem_mem h14n) _ (List.getElem_mem (by omega)) _ _ _ (Hle.hu _ _) (RT.mono (Hle.hu _ _) hE15) (RT.mono (Hle.hu _ _) hE17)) rfl ?_)))))
  rintro _ _ ⟨rfl, rfl⟩
  refine JLn (Pu.not rfl) <| Zb <| Zf rfl (fun h19 => ?_) (fun h19 => ?_)
  ·replace h19 := nt h19
   replace h19 := df h19
   refine Zc <| Za <| JLA rfl <| Zb <| Zh <| ⟨.bool false, [], Ret.one rfl (RV.tmp rfl), Sub.nil, ?_⟩
   exact ⟨by rw [decide_eq_false]; intro e; subst e; exact h19 rfl, rfl⟩
  replace h19 := nf h19
  replace h19 := dt h19
  refine Zi <| Za <| JLn (Pu.inc rfl rfl (by omega)) <| JLM rfl <| Zb <| ⟨_, ?_, (j + 1), rfl, rfl, rfl, rfl, rfl, rfl, Sub.nil, ?_, ?_, ?_, rfl⟩
  ·omega
  ·omega
  ·assumption
  rw [List.take_succ_eq_append_getElem h14n, List.take_succ_eq_append_getElem (by omega), htake, h19]
 replace h14 := df h14
 have h14n : l.length ≤ j := by omega
 refine Zy _ rfl <| Zc <| Za <| JLA rfl <| Zb <| Zh <| ⟨.bool true, [], Ret.one rfl (RV.tmp rfl), Sub.nil, ?_⟩
 exact ⟨by rw [decide_eq_true]; have e := htake; rw [List.take_of_length_le h14n, List.take_of_length_le (by omega)] at e; exact e, rfl⟩
theorem eqFuncC_ct (g : Nat) (fs cv : List Value) (hcall : ∀ args w, (callFunc g args).run Tryz.prog w = .ok (.enter g args) w) (l m : List (Pt × Tm)) (v u : Value) (H : Heap) (hl : rdS RC 71 H v l) (hm : rdS RC 71 H u m) (hg : ∀ x ∈ l, ∀ y ∈ m, ∀ a b h, Hle H h → RC h a x → RC h b y → CT Tryz.prog g ⟨fs ++ [.agg ⟨a⟩, .agg ⟨b⟩] ++ cv⟩ [] h (fun v N => v = .bool (decide (x = y)) ∧ N = [])) : CT Tryz.prog 74 ⟨[v, u, .func (.func g) ⟨fs⟩ ⟨cv⟩]⟩ [] H (fun v N => v = .bool (decide (l = m)) ∧ N = []) := by
 refine Zm Tryz.func74 rfl rfl <| Zc <| Za <| JLA rfl <| Zb <| Zc <| Zc <| Za <| JLm v ?_
 obtain ⟨a1, cap1, hv1⟩ := hl.sl
 have hle1 := hl.le
 refine JLn (Pu.lenSl Tryz.runUnderlying25 hv1) <| JLm u ?_
 obtain ⟨a2, cap2, hv2⟩ := hm.sl
 have hle2 := hm.le
 refine JLn (Pu.lenSl Tryz.runUnderlying25 hv2) <| JLn (Pu.neq rfl rfl) <| Zb <| Zf rfl (fun h3 => ?_) (fun h3 => ?_)
 ·replace h3 := nt h3
  replace h3 := df h3
  refine Zc <| Za <| JLA rfl <| Zb <| Zh <| ⟨.bool false, [], Ret.one rfl (RV.tmp rfl), Sub.nil, ?_⟩
  exact ⟨by rw [decide_eq_false]; intro e; subst e; exact h3 rfl, rfl⟩
 replace h3 := nf h3
 replace h3 := dt h3
 refine Zi <| Zc <| Zc <| Za <| JLm v ?_
 obtain ⟨a4, cap4, hv4⟩ := hl.sl
 have hle4 := hl.le
 refine JLn (Pu.lenSl Tryz.runUnderlying25 hv4) <| JLM rfl <| Zb <| Zl <| ZE (fun k ρ M => ∃ (j : Nat), ρ 1 = u ∧ ρ 2 = .func (.func g) ⟨fs⟩ ⟨cv⟩ ∧ ρ 6 = .bool false ∧ ρ 15 = v ∧ ρ 16 = iv ((l.length : Int)) ∧ ρ 17 = iv ((j : Int)) ∧ Sub [] M ∧ j ≤ l.length ∧ l.length = m.length ∧ l.take j = m.take j ∧ k = l.length - j) _ ⟨0, rfl, rfl, rfl, rfl, rfl, rfl, Sub.nil, Nat.zero_le _, (by omega), rfl, rfl⟩ ?_
 rintro _ ρ5 _ ⟨j, e6, e7, e8, e9, e10, e11, hm12, hj, hlen, htake, rfl⟩
 obtain ⟨ρ13, rfl⟩ := Zr (uc e6 (uc e7 (uc e8 (uc e9 (uc e10 (uc e11 un))))))
 clear e6 e7 e8 e9 e10 e11
 refine ZJ hm12 <| Zc <| Za <| JLn (Pu.lss rfl rfl) <| Zb <| Zc <| Zf rfl (fun h14 => ?_) (fun h14 => ?_)
 ·replace h14 := dt h14
  have h14n : j < l.length := by omega
  have hlenl := hl.le
  have hltm : j < m.length := by omega
  refine Zi <| Zc <| Zl <| Zc <| Za <| JLM rfl ?_
  obtain ⟨b15, o15, cap15, row15, T15, fr15, cs15, hv15, hb15, hs15, hE15⟩ := hl.get j (by first | assumption | omega | decide | simp)
  obtain ⟨ca15, cb15, rfl, hA15, hB15⟩ := hE15
  refine JLq (pp b15 (o15 + j * 71)) (Pu.idx j Tryz.runUnderlying25 YM hv15 rfl rfl (by first | assumption | omega | decide | simp)) <| JLr (Zg YM rfl (At.im hb15) hs15 <| JLr (Zn (l := (pkP 0 0 zS nS) ++ (pkT 0 0 zS nS nS)) Tryz.zeroValue80 rfl fun b16 => JLA rfl <| JLr (Zd 0 (vs := ca15 ++ cb15) (l := ca15 ++ cb15) YM rfl rfl rfl rfl (Zw (Zu hA15) (Zv hB15)) (ZN (Xj hA15) (XC hB15)) (ZM (n := 71) rfl (Zw (Zu hA15) (Zv hB15))) <| Zb <| Zc <| Za <| JLm u <| JLM rfl ?_)))
  obtain ⟨b17, o17, cap17, row17, T17, fr17, cs17, hv17, hb17, hs17, hE17⟩ := hm.get j (by first | assumption | omega | decide | simp)
  obtain ⟨ca17, cb17, rfl, hA17, hB17⟩ := hE17
  refine JLq (pp b17 (o17 + j * 71)) (Pu.idx j Tryz.runUnderlying25 YM hv17 rfl rfl (by first | assumption | omega | decide | simp)) <| JLr (Zg YM rfl (At.im hb17) hs17 <| JLr (Zn (l := (pkP 0 0 zS nS) ++ (pkT 0 0 zS nS nS)) Tryz.zeroValue80 rfl fun b18 => JLr (Zd 0 (vs := ca17 ++ cb17) (l := ca17 ++ cb17) YM rfl rfl rfl rfl (Zw (Zu hA17) (Zv hB17)) (ZN (Xj hA17) (XC hB17)) (ZM (n := 71) rfl (Zw (Zu hA17) (Zv hB17))) <| Zb <| Zc <| Za <| JLM rfl <| JLr (Zg YM rfl (At.bx 1 rfl) (Zt (Zw (Zu hA15) (Zv hB15))) <| JLr (Zg YM rfl (At.bx 0 rfl) (Zt (Zw (Zu hA17) (Zv hB17))) <| Jc hcall rfl (fun hin => hg _ (List.getElem_mem h14n) _ (List.getElem_mem (by omega)) _ _ _ (Hle.hu _ _) (RC.mono (Hle.hu _ _) (RC_mk hA15 hB15)) (RC.mono (Hle.hu _ _) (RC_mk hA17 hB17))) rfl ?_)))))
  rintro _ _ ⟨rfl, rfl⟩
  refine JLn (Pu.not rfl) <| Zb <| Zf rfl (fun h19 => ?_) (fun h19 => ?_)
  ·replace h19 := nt h19
   replace h19 := df h19
   refine Zc <| Za <| JLA rfl <| Zb <| Zh <| ⟨.bool false, [], Ret.one rfl (RV.tmp rfl), Sub.nil, ?_⟩
   exact ⟨by rw [decide_eq_false]; intro e; subst e; exact h19 rfl, rfl⟩
  replace h19 := nf h19
  replace h19 := dt h19
  refine Zi <| Za <| JLn (Pu.inc rfl rfl (by omega)) <| JLM rfl <| Zb <| ⟨_, ?_, (j + 1), rfl, rfl, rfl, rfl, rfl, rfl, Sub.nil, ?_, ?_, ?_, rfl⟩
  ·omega
  ·omega
  ·assumption
  rw [List.take_succ_eq_append_getElem h14n, List.take_succ_eq_append_getElem (by omega), htake, h19]
 replace h14 := df h14
 have h14n : l.length ≤ j := by omega
 refine Zy _ rfl <| Zc <| Za <| JLA rfl <| Zb <| Zh <| ⟨.bool true, [], Ret.one rfl (RV.tmp rfl), Sub.nil, ?_⟩
 exact ⟨by rw [decide_eq_true]; have e := htake; rw [List.take_of_length_le h14n, List.take_of_length_le (by omega)] at e; exact e, rfl⟩
theorem samePattern_ct : ∀ (p q : Pt) (cs ds : List Value) (H : Heap), RP H cs p → RP H ds q → CT Tryz.prog 71 ⟨[.agg ⟨cs⟩, .agg ⟨ds⟩]⟩ [] H (fun v N => v = .bool (decide (p = q)) ∧ N = []) := by
 intro p
 induction p using Pt.ind with
 | h kind num ref kids ih =>
 intro q cs ds H hp hq
 obtain ⟨ks, rfl, hk, hn, hks⟩ := RP_mk.1 hp
 obtain ⟨ksq, rfl, hkq, hnq, hksq⟩ := RP_open hq
 refine Zm Tryz.func71 rfl rfl <| Zc <| Za <| JLr (Zo (l := pkP kind num ref ks) rfl rfl fun b1 => JLr (Zo (l := pkP (q.kind) (q.num) (q.ref) ksq) rfl rfl fun b2 => JLA rfl <| Zb <| Zc <| Za <| JLq (pp b1 0) (YL rfl rfl) <| JLr (Ze ty3 rfl (At.bx 1 rfl) (Xp ..) <| JLq (pp b2 0) (YL rfl rfl) <| JLr (Ze ty3 rfl (At.bx 0 rfl) (Xp ..) ?_))))
 refine JLn (Pu.eql rfl rfl) <| JLM rfl <| Zx 5 [11, 12, 13, 14, 15] [(15, cond (decide (kind = q.kind)) (.bool (decide (num = q.num))) undef)] ?_ fun f4 => ?_
 ·cases h3 : (decide (kind = q.kind)) with
  | true =>
   replace h3 := dt h3
   refine JLq (pp b1 1) (fa75_1 rfl rfl) <| JLr (Ze ty3 rfl (At.bx 1 rfl) (pkP_1 ..) <| JLq (pp b2 1) (fa75_1 rfl rfl) <| JLr (Ze ty3 rfl (At.bx 0 rfl) (pkP_1 ..) <| JLn (Pu.eql rfl rfl) ?_))
   exact Zb ⟨⟨rfl, trivial⟩, rfl⟩
  | false =>
   exact ZG rfl ⟨rfl, trivial⟩
 refine JLn (Pu.pickAnd rfl rfl rfl) <| JLM rfl <| Zx 5 [18, 19, 20, 21, 22] [(22, cond ((decide (kind = q.kind)) && (decide (num = q.num))) (.bool (decide (ref = q.ref))) undef)] ?_ fun f6 => ?_
 ·cases h5 : ((decide (kind = q.kind)) && (decide (num = q.num))) with
  | true =>
   obtain ⟨h5a, h5b⟩ := Yr h5
   replace h5a := dt h5a
   replace h5b := dt h5b
   refine JLq (pp b1 2) (fa75_2 rfl rfl) <| JLr (Zg Xm rfl (At.bx 1 rfl) (pkP_2 ..) <| JLq (pp b2 2) (fa75_2 rfl rfl) <| JLr (Zg Xm rfl (At.bx 0 rfl) (pkP_2 ..) <| JLn (eqS rfl rfl) ?_))
   exact Zb ⟨⟨rfl, trivial⟩, rfl⟩
  | false =>
   exact ZG rfl ⟨rfl, trivial⟩
 refine JLn (Pu.pickAnd rfl rfl rfl) <| JLM rfl <| Zx 5 [25, 26, 27, 28, 29] [(29, cond (((decide (kind = q.kind)) && (decide (num = q.num))) && (decide (ref = q.ref))) (.bool (decide (kids = (q.kids)))) undef)] ?_ fun f8 => ?_
 ·cases h7 : (((decide (kind = q.kind)) && (decide (num = q.num))) && (decide (ref = q.ref))) with
  | true =>
   obtain ⟨h7a, h7b⟩ := Yr h7
   obtain ⟨h7aa, h7ab⟩ := Yr h7a
   replace h7aa := dt h7aa
   replace h7ab := dt h7ab
   replace h7b := dt h7b
   refine JLq (pp b1 34) (Yl rfl rfl) <| JLr (Ze Xv rfl (At.bx 1 rfl) (Yw ..) <| JLq (pp b2 34) (Yl rfl rfl) <| JLr (Ze Xv rfl (At.bx 0 rfl) (Yw ..) <| Jc Tryz.call122 rfl (fun hin => eqFuncP_ct 71 [] [] (fun _ _ => rfl) _ _ _ _ _ (RPs.mono (Hle.hu _ _) hks) (RPs.mono (Hle.hu _ _) hksq) (fun x hx y hy a b h hh ra rb => ih x hx y a b h ra rb)) rfl ?_))
   rintro _ _ ⟨rfl, rfl⟩
   exact Zb ⟨⟨rfl, trivial⟩, rfl⟩
  | false =>
   exact ZG rfl ⟨rfl, trivial⟩
 refine JLn (Pu.pickAnd rfl rfl rfl) <| JLA rfl <| Zb <| Zh <| ⟨.bool ((((decide (kind = q.kind)) && (decide (num = q.num))) && (decide (ref = q.ref))) && (decide (kids = (q.kids)))), [], Ret.one rfl (RV.tmp rfl), Sub.nil, ?_⟩
 exact ⟨congrArg Value.bool (eqPd ..), rfl⟩
theorem sameCase_ct : ∀ (c d : Pt × Tm) (a b : List Value) (H : Heap), RC H a c → RC H b d → (∀ h a b, Hle H h → RT h a c.2 → RT h b d.2 → CT Tryz.prog 21 ⟨[.agg ⟨a⟩, .agg ⟨b⟩]⟩ [] h (fun v N => v = .bool (decide (c.2 = d.2)) ∧ N = [])) → CT Tryz.prog 75 ⟨[.agg ⟨a⟩, .agg ⟨b⟩]⟩ [] H (fun v N => v = .bool (decide (c = d)) ∧ N = []) := by
 intro c d a b H ⟨ca, cb, e1, ra1, ra2⟩ ⟨da, db, e2, rb1, rb2⟩ hg
 subst e1 e2
 refine Zm Tryz.func75 rfl rfl <| Zc <| Za <| JLr (Zo (l := ca ++ cb) rfl rfl fun b1 => JLr (Zo (l := da ++ db) rfl rfl fun b2 => JLA rfl <| Zb <| Zc <| Za <| JLq (pp b1 0) (Y1 rfl rfl) <| JLr (Zg Z6 rfl (At.bx 1 rfl) (YE (Zu ra1)) <| JLq (pp b2 0) (Y1 rfl rfl) <| JLr (Zg Z6 rfl (At.bx 0 rfl) (YE (Zu rb1)) ?_))))
 refine Jc Tryz.call71 rfl (fun hin => samePattern_ct _ _ _ _ _ (RP.mono (Hle.hu _ _) ra1) (RP.mono (Hle.hu _ _) rb1)) rfl ?_
 rintro _ _ ⟨rfl, rfl⟩
 refine JLM rfl <| Zx 5 [11, 12, 13, 14, 15] [(15, cond (decide ((c.1) = (d.1))) (.bool (decide ((c.2) = (d.2)))) undef)] ?_ fun f4 => ?_
 ·cases h3 : (decide ((c.1) = (d.1))) with
  | true =>
   replace h3 := dt h3
   refine JLq (pp b1 35) (fa80_1 rfl rfl) <| JLr (Zg Zs rfl (At.bx 1 rfl) (Xg (Zu ra1) (Zv ra2)) <| JLq (pp b2 35) (fa80_1 rfl rfl) <| JLr (Zg Zs rfl (At.bx 0 rfl) (Xg (Zu rb1) (Zv rb2)) <| Jc Tryz.call21 rfl (fun hin => hg _ _ _ (Hle.hu _ _) (RT.mono (Hle.hu _ _) ra2) (RT.mono (Hle.hu _ _) rb2)) rfl ?_))
   rintro _ _ ⟨rfl, rfl⟩
   exact Zb ⟨⟨rfl, trivial⟩, rfl⟩
  | false =>
   exact ZG rfl ⟨rfl, trivial⟩
 refine JLn (Pu.pickAnd rfl rfl rfl) <| JLA rfl <| Zb <| Zh <| ⟨.bool ((decide ((c.1) = (d.1))) && (decide ((c.2) = (d.2)))), [], Ret.one rfl (RV.tmp rfl), Sub.nil, ?_⟩
 exact ⟨by obtain ⟨c1, c2⟩ := c; obtain ⟨d1, d2⟩ := d; refine congrArg Value.bool ?_; rw [Bool.eq_iff_iff]; simp, rfl⟩
theorem sameTerms_ct : ∀ (l m : List Tm) (v u : Value) (H : Heap) (_ : rdS RT 36 H v l) (_ : rdS RT 36 H u m) (_ : ∀ x ∈ l, ∀ y a b h, Hle H h → RT h a x → RT h b y → CT Tryz.prog 21 ⟨[.agg ⟨a⟩, .agg ⟨b⟩]⟩ [] h (fun v N => v = .bool (decide (x = y)) ∧ N = [])), CT Tryz.prog 73 ⟨[v, u]⟩ [] H (fun v N => v = .bool (decide (l = m)) ∧ N = []) := by
 intro l m v u H hl hm hg
 refine Zm Tryz.func73 rfl rfl <| Zc <| Za <| JLA rfl <| Zb <| Zc <| Za <| JLm v <| JLm u <| Jc Tryz.call123 rfl (fun hin => eqFuncT_ct 21 [] [] (fun _ _ => rfl) _ _ _ _ _ (RTs.mono (Hle.hu _ _) hl) (RTs.mono (Hle.hu _ _) hm) (fun x hx y hy a b h hh ra rb => hg x hx y a b h (Hle.trans (Hle.hu _ _) hh) ra rb)) rfl ?_
 rintro _ _ ⟨rfl, rfl⟩
 refine JLA rfl <| Zb <| Zh <| ⟨.bool (decide (l = m)), [], Ret.one rfl (RV.tmp rfl), Sub.nil, ?_⟩
 exact ⟨rfl, rfl⟩
theorem sameTerm_ct : ∀ (t u : Tm) (cs ds : List Value) (H : Heap), RT H cs t → RT H ds u → CT Tryz.prog 21 ⟨[.agg ⟨cs⟩, .agg ⟨ds⟩]⟩ [] H (fun v N => v = .bool (decide (t = u)) ∧ N = []) := by
 intro t
 induction t using Tm.ind with
 | h kind num ref kids cases ih ih' =>
 intro u cs ds H ht hu
 obtain ⟨ks, cv, rfl, hk, hn, hks, hcv⟩ := RT_mk.1 ht
 obtain ⟨ksu, cvu, rfl, hku, hnu, hksu, hcvu⟩ := RT_open hu
 refine Zm Tryz.func21 rfl rfl <| Zc <| Za <| JLr (Zo (l := pkT kind num ref ks cv) rfl rfl fun b1 => JLr (Zo (l := pkT (u.kind) (u.num) (u.ref) ksu cvu) rfl rfl fun b2 => JLA rfl <| Zb <| Zc <| Za <| JLq (pp b1 0) (ZO rfl rfl) <| JLr (Ze ty3 rfl (At.bx 1 rfl) (Z3 ..) <| JLq (pp b2 0) (ZO rfl rfl) <| JLr (Ze ty3 rfl (At.bx 0 rfl) (Z3 ..) ?_))))
 refine JLn (Pu.eql rfl rfl) <| JLM rfl <| Zx 5 [11, 12, 13, 14, 15] [(15, cond (decide (kind = u.kind)) (.bool (decide (num = u.num))) undef)] ?_ fun f4 => ?_
 ·cases h3 : (decide (kind = u.kind)) with
  | true =>
   replace h3 := dt h3
   refine JLq (pp b1 1) (ZZ rfl rfl) <| JLr (Ze ty3 rfl (At.bx 1 rfl) (Yh ..) <| JLq (pp b2 1) (ZZ rfl rfl) <| JLr (Ze ty3 rfl (At.bx 0 rfl) (Yh ..) <| JLn (Pu.eql rfl rfl) ?_))
   exact Zb ⟨⟨rfl, trivial⟩, rfl⟩
  | false =>
   exact ZG rfl ⟨rfl, trivial⟩
 refine JLn (Pu.pickAnd rfl rfl rfl) <| JLM rfl <| Zx 5 [18, 19, 20, 21, 22] [(22, cond ((decide (kind = u.kind)) && (decide (num = u.num))) (.bool (decide (ref = u.ref))) undef)] ?_ fun f6 => ?_
 ·cases h5 : ((decide (kind = u.kind)) && (decide (num = u.num))) with
  | true =>
   obtain ⟨h5a, h5b⟩ := Yr h5
   replace h5a := dt h5a
   replace h5b := dt h5b
   refine JLq (pp b1 2) (fa27_2 rfl rfl) <| JLr (Zg Xm rfl (At.bx 1 rfl) (pkT_2 ..) <| JLq (pp b2 2) (fa27_2 rfl rfl) <| JLr (Zg Xm rfl (At.bx 0 rfl) (pkT_2 ..) <| JLn (eqS rfl rfl) ?_))
   exact Zb ⟨⟨rfl, trivial⟩, rfl⟩
  | false =>
   exact ZG rfl ⟨rfl, trivial⟩
 refine JLn (Pu.pickAnd rfl rfl rfl) <| JLM rfl <| Zx 5 [25, 26, 27, 28, 29] [(29, cond (((decide (kind = u.kind)) && (decide (num = u.num))) && (decide (ref = u.ref))) (.bool (decide (kids = (u.kids)))) undef)] ?_ fun f8 => ?_
 ·cases h7 : (((decide (kind = u.kind)) && (decide (num = u.num))) && (decide (ref = u.ref))) with
  | true =>
   obtain ⟨h7a, h7b⟩ := Yr h7
   obtain ⟨h7aa, h7ab⟩ := Yr h7a
   replace h7aa := dt h7aa
   replace h7ab := dt h7ab
   replace h7b := dt h7b
   refine JLq (pp b1 34) (Z8 rfl rfl) <| JLr (Ze YW rfl (At.bx 1 rfl) (Yb ..) <| JLq (pp b2 34) (Z8 rfl rfl) <| JLr (Ze YW rfl (At.bx 0 rfl) (Yb ..) <| Jc Tryz.call73 rfl (fun hin => sameTerms_ct _ _ _ _ _ (RTs.mono (Hle.hu _ _) hks) (RTs.mono (Hle.hu _ _) hksu) (fun x hx y a b h _ ra rb => ih x hx y a b h ra rb)) rfl ?_))
   rintro _ _ ⟨rfl, rfl⟩
   exact Zb ⟨⟨rfl, trivial⟩, rfl⟩
  | false =>
   exact ZG rfl ⟨rfl, trivial⟩
 refine JLn (Pu.pickAnd rfl rfl rfl) <| JLM rfl <| Zx 5 [32, 33, 34, 35, 36] [(36, cond ((((decide (kind = u.kind)) && (decide (num = u.num))) && (decide (ref = u.ref))) && (decide (kids = (u.kids)))) (.bool (decide (cases = (u.cases)))) undef)] ?_ fun f10 => ?_
 ·cases h9 : ((((decide (kind = u.kind)) && (decide (num = u.num))) && (decide (ref = u.ref))) && (decide (kids = (u.kids)))) with
  | true =>
   obtain ⟨h9a, h9b⟩ := Yr h9
   obtain ⟨h9aa, h9ab⟩ := Yr h9a
   obtain ⟨h9aaa, h9aab⟩ := Yr h9aa
   replace h9aaa := dt h9aaa
   replace h9aab := dt h9aab
   replace h9ab := dt h9ab
   replace h9b := dt h9b
   refine JLq (pp b1 35) (Z1 rfl rfl) <| JLr (Ze YI rfl (At.bx 1 rfl) (Z2 ..) <| JLq (pp b2 35) (Z1 rfl rfl) <| JLr (Ze YI rfl (At.bx 0 rfl) (Z2 ..) <| Jc Tryz.call74 rfl (fun hin => eqFuncC_ct 75 [] [] (fun _ _ => rfl) _ _ _ _ _ (RCs.mono (Hle.hu _ _) hcv) (RCs.mono (Hle.hu _ _) hcvu) (fun x hx y hy a b h hh ra rb => sameCase_ct x y a b h ra rb (fun h' a' b' _ r1 r2 => ih' x hx y.2 a' b' h' r1 r2))) rfl ?_))
   rintro _ _ ⟨rfl, rfl⟩
   exact Zb ⟨⟨rfl, trivial⟩, rfl⟩
  | false =>
   exact ZG rfl ⟨rfl, trivial⟩
 refine JLn (Pu.pickAnd rfl rfl rfl) <| JLA rfl <| Zb <| Zh <| ⟨.bool (((((decide (kind = u.kind)) && (decide (num = u.num))) && (decide (ref = u.ref))) && (decide (kids = (u.kids)))) && (decide (cases = (u.cases)))), [], Ret.one rfl (RV.tmp rfl), Sub.nil, ?_⟩
 exact ⟨congrArg Value.bool (eqTd ..), rfl⟩
end Go.Proofs.YtmophpgiaiemhaaGreat.Hs
/-! Walks, printed by a program of this session's own (gen.py). -/
namespace Go.Proofs.YtmophpgiaiemhaaGreat.Hs
open Go Go.Proofs
set_option maxRecDepth 100000
set_option linter.unusedVariables false
set_option linter.unusedSimpArgs false
attribute [local irreducible] JL J CT wlo DT
theorem idxP_ct (g : Nat) (fs cv : List Value) (hcall : ∀ args w, (callFunc g args).run Tryz.prog w = .ok (.enter g args) w) {σ : Type} (Sc : σ → Zj) (Inv : σ → Prop) (step : Pt → σ → Bool × σ) (l : List Pt) (v : Value) (H : Heap) (hl : rdS RP 35 H v l) (s0 : σ) (h0 : Inv s0) (hI : ∀ x ∈ l, ∀ s, Inv s → (step x s).1 = false → Inv (step x s).2) (hg : ∀ x ∈ l, ∀ s, Inv s → ∀ a h, Hle H h → RP h a x → CT Tryz.prog g ⟨fs ++ [.agg ⟨a⟩] ++ cv⟩ [Sc s] h (fun v N => v = .bool (step x s).1 ∧ N = [Sc (step x s).2])) : CT Tryz.prog 89 ⟨[v, .func (.func g) ⟨fs⟩ ⟨cv⟩]⟩ [Sc s0] H (fun v N => v = iv (idxS step l 0 s0).1 ∧ N = [Sc (idxS step l 0 s0).2]) := by
 refine Zm Tryz.func89 rfl rfl <| Zc <| Za <| JLA rfl <| Zb <| Zc <| Zc <| Za <| JLm v ?_
 obtain ⟨a1, cap1, hv1⟩ := hl.sl
 have hle1 := hl.le
 refine JLn (Pu.lenSl Tryz.runUnderlying73 hv1) <| JLM rfl <| Zb <| Zl <| ZE (fun k ρ M => ∃ (j : Nat) (s : σ), ρ 0 = v ∧ ρ 1 = .func (.func g) ⟨fs⟩ ⟨cv⟩ ∧ ρ 4 = iv 0 ∧ ρ 7 = iv ((l.length : Int)) ∧ ρ 8 = iv ((j : Int)) ∧ Sub [Sc s] M ∧ j ≤ l.length ∧ Inv s ∧ idxS step (l.drop j) j s = idxS step l 0 s0 ∧ k = l.length - j) _ ⟨0, s0, rfl, rfl, rfl, rfl, rfl, (Sk Sub.nil), Nat.zero_le _, h0, rfl, rfl⟩ ?_
 rintro _ ρ2 _ ⟨j, s, e3, e4, e5, e6, e7, hm8, hj, hs, hinv, rfl⟩
 obtain ⟨ρ9, rfl⟩ := Zr (uc e3 (uc e4 (uc e5 (uc e6 (uc e7 un)))))
 clear e3 e4 e5 e6 e7
 refine ZJ hm8 <| Zc <| Za <| JLn (Pu.lss rfl rfl) <| Zb <| Zc <| Zf rfl (fun h10 => ?_) (fun h10 => ?_)
 ·replace h10 := dt h10
  have h10n : j < l.length := by omega
  have hlenl := hl.le
  refine Zi <| Zc <| Zl <| Zc <| Za <| JLM rfl <| JLA rfl <| Zb <| Zc <| Za <| JLM rfl <| JLm v <| JLM rfl ?_
  obtain ⟨b11, o11, cap11, row11, T11, fr11, cs11, hv11, hb11, hs11, hE11⟩ := hl.get j (by first | assumption | omega | decide | simp)
  refine JLq (pp b11 (o11 + j * 35)) (Pu.idx j Tryz.runUnderlying73 Z6 hv11 rfl rfl (by first | assumption | omega | decide | simp)) <| JLr (Zg Z6 rfl (At.im hb11) hs11 <| ZD 0 rfl hcall rfl rfl (fun hin => hg _ (List.getElem_mem h10n) _ hs _ _ (Hle.hu _ _) (RP.mono (Hle.hu _ _) hE11)) rfl ?_)
  rintro _ _ ⟨rfl, rfl⟩
  refine Zb <| Zf rfl (fun h12 => ?_) (fun h12 => ?_)
  ·refine Zc <| Za <| JLM rfl <| JLA rfl <| Zb <| Zh <| ⟨iv ((j : Int)), [Sc (step (l[j]) s).2], Ret.one rfl (RV.tmp rfl), (Sk Sub.nil), ?_⟩
   refine ⟨?_, ?_⟩ <;> rw [← hinv, ZU h10n, idxS, if_pos h12]
  refine Zi <| Za <| JLn (Pu.inc rfl rfl (by omega)) <| JLM rfl <| Zb <| ⟨_, ?_, (j + 1), ((step (l[j]) s).2), rfl, rfl, rfl, rfl, rfl, (Sk Sub.nil), ?_, ?_, ?_, rfl⟩
  ·omega
  ·omega
  ·exact hI _ (List.getElem_mem h10n) s hs h12
  rw [ZU h10n, idxS, if_neg (by simp [h12])] at hinv; exact hinv
 replace h10 := df h10
 have h10n : l.length ≤ j := by omega
 refine Zy _ rfl <| Zc <| Za <| JLA rfl <| Zb <| Zh <| ⟨iv (-1), [Sc s], Ret.one rfl (RV.tmp rfl), (Sk Sub.nil), ?_⟩
 refine ⟨?_, ?_⟩ <;> rw [← hinv, Yt h10n] <;> rfl
theorem idxT_ct (g : Nat) (fs cv : List Value) (hcall : ∀ args w, (callFunc g args).run Tryz.prog w = .ok (.enter g args) w) {σ : Type} (Sc : σ → Zj) (Inv : σ → Prop) (step : Tm → σ → Bool × σ) (l : List Tm) (v : Value) (H : Heap) (hl : rdS RT 36 H v l) (s0 : σ) (h0 : Inv s0) (hI : ∀ x ∈ l, ∀ s, Inv s → (step x s).1 = false → Inv (step x s).2) (hg : ∀ x ∈ l, ∀ s, Inv s → ∀ a h, Hle H h → RT h a x → CT Tryz.prog g ⟨fs ++ [.agg ⟨a⟩] ++ cv⟩ [Sc s] h (fun v N => v = .bool (step x s).1 ∧ N = [Sc (step x s).2])) : CT Tryz.prog 90 ⟨[v, .func (.func g) ⟨fs⟩ ⟨cv⟩]⟩ [Sc s0] H (fun v N => v = iv (idxS step l 0 s0).1 ∧ N = [Sc (idxS step l 0 s0).2]) := by
 refine Zm Tryz.func90 rfl rfl <| Zc <| Za <| JLA rfl <| Zb <| Zc <| Zc <| Za <| JLm v ?_
 obtain ⟨a1, cap1, hv1⟩ := hl.sl
 have hle1 := hl.le
 refine JLn (Pu.lenSl Tryz.runUnderlying24 hv1) <| JLM rfl <| Zb <| Zl <| ZE (fun k ρ M => ∃ (j : Nat) (s : σ), ρ 0 = v ∧ ρ 1 = .func (.func g) ⟨fs⟩ ⟨cv⟩ ∧ ρ 4 = iv 0 ∧ ρ 7 = iv ((l.length : Int)) ∧ ρ 8 = iv ((j : Int)) ∧ Sub [Sc s] M ∧ j ≤ l.length ∧ Inv s ∧ idxS step (l.drop j) j s = idxS step l 0 s0 ∧ k = l.length - j) _ ⟨0, s0, rfl, rfl, rfl, rfl, rfl, (Sk Sub.nil), Nat.zero_le _, h0, rfl, rfl⟩ ?_
 rintro _ ρ2 _ ⟨j, s, e3, e4, e5, e6, e7, hm8, hj, hs, hinv, rfl⟩
 obtain ⟨ρ9, rfl⟩ := Zr (uc e3 (uc e4 (uc e5 (uc e6 (uc e7 un)))))
 clear e3 e4 e5 e6 e7
 refine ZJ hm8 <| Zc <| Za <| JLn (Pu.lss rfl rfl) <| Zb <| Zc <| Zf rfl (fun h10 => ?_) (fun h10 => ?_)
 ·replace h10 := dt h10
  have h10n : j < l.length := by omega
  have hlenl := hl.le
  refine Zi <| Zc <| Zl <| Zc <| Za <| JLM rfl <| JLA rfl <| Zb <| Zc <| Za <| JLM rfl <| JLm v <| JLM rfl ?_
  obtain ⟨b11, o11, cap11, row11, T11, fr11, cs11, hv11, hb11, hs11, hE11⟩ := hl.get j (by first | assumption | omega | decide | simp)
  refine JLq (pp b11 (o11 + j * 36)) (Pu.idx j Tryz.runUnderlying24 Zs hv11 rfl rfl (by first | assumption | omega | decide | simp)) <| JLr (Zg Zs rfl (At.im hb11) hs11 <| ZD 0 rfl hcall rfl rfl (fun hin => hg _ (List.getElem_mem h10n) _ hs _ _ (Hle.hu _ _) (RT.mono (Hle.hu _ _) hE11)) rfl ?_)
  rintro _ _ ⟨rfl, rfl⟩
  refine Zb <| Zf rfl (fun h12 => ?_) (fun h12 => ?_)
  ·refine Zc <| Za <| JLM rfl <| JLA rfl <| Zb <| Zh <| ⟨iv ((j : Int)), [Sc (step (l[j]) s).2], Ret.one rfl (RV.tmp rfl), (Sk Sub.nil), ?_⟩
   refine ⟨?_, ?_⟩ <;> rw [← hinv, ZU h10n, idxS, if_pos h12]
  refine Zi <| Za <| JLn (Pu.inc rfl rfl (by omega)) <| JLM rfl <| Zb <| ⟨_, ?_, (j + 1), ((step (l[j]) s).2), rfl, rfl, rfl, rfl, rfl, (Sk Sub.nil), ?_, ?_, ?_, rfl⟩
  ·omega
  ·omega
  ·exact hI _ (List.getElem_mem h10n) s hs h12
  rw [ZU h10n, idxS, if_neg (by simp [h12])] at hinv; exact hinv
 replace h10 := df h10
 have h10n : l.length ≤ j := by omega
 refine Zy _ rfl <| Zc <| Za <| JLA rfl <| Zb <| Zh <| ⟨iv (-1), [Sc s], Ret.one rfl (RV.tmp rfl), (Sk Sub.nil), ?_⟩
 refine ⟨?_, ?_⟩ <;> rw [← hinv, Yt h10n] <;> rfl
theorem idxC_ct (g : Nat) (fs cv : List Value) (hcall : ∀ args w, (callFunc g args).run Tryz.prog w = .ok (.enter g args) w) {σ : Type} (Sc : σ → Zj) (Inv : σ → Prop) (step : (Pt × Tm) → σ → Bool × σ) (l : List (Pt × Tm)) (v : Value) (H : Heap) (hl : rdS RC 71 H v l) (s0 : σ) (h0 : Inv s0) (hI : ∀ x ∈ l, ∀ s, Inv s → (step x s).1 = false → Inv (step x s).2) (hg : ∀ x ∈ l, ∀ s, Inv s → ∀ a h, Hle H h → RC h a x → CT Tryz.prog g ⟨fs ++ [.agg ⟨a⟩] ++ cv⟩ [Sc s] h (fun v N => v = .bool (step x s).1 ∧ N = [Sc (step x s).2])) : CT Tryz.prog 91 ⟨[v, .func (.func g) ⟨fs⟩ ⟨cv⟩]⟩ [Sc s0] H (fun v N => v = iv (idxS step l 0 s0).1 ∧ N = [Sc (idxS step l 0 s0).2]) := by
 refine Zm Tryz.func91 rfl rfl <| Zc <| Za <| JLA rfl <| Zb <| Zc <| Zc <| Za <| JLm v ?_
 obtain ⟨a1, cap1, hv1⟩ := hl.sl
 have hle1 := hl.le
 refine JLn (Pu.lenSl Tryz.runUnderlying25 hv1) <| JLM rfl <| Zb <| Zl <| ZE (fun k ρ M => ∃ (j : Nat) (s : σ), ρ 0 = v ∧ ρ 1 = .func (.func g) ⟨fs⟩ ⟨cv⟩ ∧ ρ 4 = iv 0 ∧ ρ 7 = iv ((l.length : Int)) ∧ ρ 8 = iv ((j : Int)) ∧ Sub [Sc s] M ∧ j ≤ l.length ∧ Inv s ∧ idxS step (l.drop j) j s = idxS step l 0 s0 ∧ k = l.length - j) _ ⟨0, s0, rfl, rfl, rfl, rfl, rfl, (Sk Sub.nil), Nat.zero_le _, h0, rfl, rfl⟩ ?_
 rintro _ ρ2 _ ⟨j, s, e3, e4, e5, e6, e7, hm8, hj, hs, hinv, rfl⟩
 obtain ⟨ρ9, rfl⟩ := Zr (uc e3 (uc e4 (uc e5 (uc e6 (uc e7 un)))))
 clear e3 e4 e5 e6 e7
 refine ZJ hm8 <| Zc <| Za <| JLn (Pu.lss rfl rfl) <| Zb <| Zc <| Zf rfl (fun h10 => ?_) (fun h10 => ?_)
 ·replace h10 := dt h10
  have h10n : j < l.length := by omega
  have hlenl := hl.le
  refine Zi <| Zc <| Zl <| Zc <| Za <| JLM rfl <| JLA rfl <| Zb <| Zc <| Za <| JLM rfl <| JLm v <| JLM rfl ?_
  obtain ⟨b11, o11, cap11, row11, T11, fr11, cs11, hv11, hb11, hs11, hE11⟩ := hl.get j (by first | assumption | omega | decide | simp)
  obtain ⟨ca11, cb11, rfl, hA11, hB11⟩ := hE11
  refine JLq (pp b11 (o11 + j * 71)) (Pu.idx j Tryz.runUnderlying25 YM hv11 rfl rfl (by first | assumption | omega | decide | simp)) <| JLr (Zg YM rfl (At.im hb11) hs11 <| ZD 0 rfl hcall rfl rfl (fun hin => hg _ (List.getElem_mem h10n) _ hs _ _ (Hle.hu _ _) (RC.mono (Hle.hu _ _) (RC_mk hA11 hB11))) rfl ?_)
  rintro _ _ ⟨rfl, rfl⟩
  refine Zb <| Zf rfl (fun h12 => ?_) (fun h12 => ?_)
  ·refine Zc <| Za <| JLM rfl <| JLA rfl <| Zb <| Zh <| ⟨iv ((j : Int)), [Sc (step (l[j]) s).2], Ret.one rfl (RV.tmp rfl), (Sk Sub.nil), ?_⟩
   refine ⟨?_, ?_⟩ <;> rw [← hinv, ZU h10n, idxS, if_pos h12]
  refine Zi <| Za <| JLn (Pu.inc rfl rfl (by omega)) <| JLM rfl <| Zb <| ⟨_, ?_, (j + 1), ((step (l[j]) s).2), rfl, rfl, rfl, rfl, rfl, (Sk Sub.nil), ?_, ?_, ?_, rfl⟩
  ·omega
  ·omega
  ·exact hI _ (List.getElem_mem h10n) s hs h12
  rw [ZU h10n, idxS, if_neg (by simp [h12])] at hinv; exact hinv
 replace h10 := df h10
 have h10n : l.length ≤ j := by omega
 refine Zy _ rfl <| Zc <| Za <| JLA rfl <| Zb <| Zh <| ⟨iv (-1), [Sc s], Ret.one rfl (RV.tmp rfl), (Sk Sub.nil), ?_⟩
 refine ⟨?_, ?_⟩ <;> rw [← hinv, Yt h10n] <;> rfl
theorem containsP_ct (g : Nat) (fs cv : List Value) (hcall : ∀ args w, (callFunc g args).run Tryz.prog w = .ok (.enter g args) w) {σ : Type} (Sc : σ → Zj) (Inv : σ → Prop) (step : Pt → σ → Bool × σ) (l : List Pt) (v : Value) (H : Heap) (hl : rdS RP 35 H v l) (s0 : σ) (h0 : Inv s0) (hI : ∀ x ∈ l, ∀ s, Inv s → (step x s).1 = false → Inv (step x s).2) (hg : ∀ x ∈ l, ∀ s, Inv s → ∀ a h, Hle H h → RP h a x → CT Tryz.prog g ⟨fs ++ [.agg ⟨a⟩] ++ cv⟩ [Sc s] h (fun v N => v = .bool (step x s).1 ∧ N = [Sc (step x s).2])) : CT Tryz.prog 31 ⟨[v, .func (.func g) ⟨fs⟩ ⟨cv⟩]⟩ [Sc s0] H (fun v N => v = .bool (ZP step l s0).1 ∧ N = [Sc (ZP step l s0).2]) := by
 refine Zm Tryz.func31 rfl rfl <| Zc <| Za <| JLA rfl <| Zb <| Zc <| Za <| JLm v <| JLM rfl <| ZD 0 rfl Tryz.call89 rfl rfl (fun hin => idxP_ct g fs cv hcall Sc Inv step _ _ _ (RPs.mono (Hle.hu _ _) hl) s0 h0 hI (fun x hx s hs a h hh ra => hg x hx s hs a h (Hle.trans (Hle.hu _ _) hh) ra)) rfl ?_
 rintro _ _ ⟨rfl, rfl⟩
 refine JLn (Pu.geq rfl rfl) <| JLA rfl <| Zb <| Zh <| ⟨.bool (decide (0 ≤ (idxS step l 0 s0).1)), [Sc (idxS step l 0 s0).2], Ret.one rfl (RV.tmp rfl), (Sk Sub.nil), ?_⟩
 exact ⟨by rw [(Xr step l 0 s0).1], by rw [(Xr step l 0 s0).2]⟩
theorem containsT_ct (g : Nat) (fs cv : List Value) (hcall : ∀ args w, (callFunc g args).run Tryz.prog w = .ok (.enter g args) w) {σ : Type} (Sc : σ → Zj) (Inv : σ → Prop) (step : Tm → σ → Bool × σ) (l : List Tm) (v : Value) (H : Heap) (hl : rdS RT 36 H v l) (s0 : σ) (h0 : Inv s0) (hI : ∀ x ∈ l, ∀ s, Inv s → (step x s).1 = false → Inv (step x s).2) (hg : ∀ x ∈ l, ∀ s, Inv s → ∀ a h, Hle H h → RT h a x → CT Tryz.prog g ⟨fs ++ [.agg ⟨a⟩] ++ cv⟩ [Sc s] h (fun v N => v = .bool (step x s).1 ∧ N = [Sc (step x s).2])) : CT Tryz.prog 33 ⟨[v, .func (.func g) ⟨fs⟩ ⟨cv⟩]⟩ [Sc s0] H (fun v N => v = .bool (ZP step l s0).1 ∧ N = [Sc (ZP step l s0).2]) := by
 refine Zm Tryz.func33 rfl rfl <| Zc <| Za <| JLA rfl <| Zb <| Zc <| Za <| JLm v <| JLM rfl <| ZD 0 rfl Tryz.call90 rfl rfl (fun hin => idxT_ct g fs cv hcall Sc Inv step _ _ _ (RTs.mono (Hle.hu _ _) hl) s0 h0 hI (fun x hx s hs a h hh ra => hg x hx s hs a h (Hle.trans (Hle.hu _ _) hh) ra)) rfl ?_
 rintro _ _ ⟨rfl, rfl⟩
 refine JLn (Pu.geq rfl rfl) <| JLA rfl <| Zb <| Zh <| ⟨.bool (decide (0 ≤ (idxS step l 0 s0).1)), [Sc (idxS step l 0 s0).2], Ret.one rfl (RV.tmp rfl), (Sk Sub.nil), ?_⟩
 exact ⟨by rw [(Xr step l 0 s0).1], by rw [(Xr step l 0 s0).2]⟩
theorem containsC_ct (g : Nat) (fs cv : List Value) (hcall : ∀ args w, (callFunc g args).run Tryz.prog w = .ok (.enter g args) w) {σ : Type} (Sc : σ → Zj) (Inv : σ → Prop) (step : (Pt × Tm) → σ → Bool × σ) (l : List (Pt × Tm)) (v : Value) (H : Heap) (hl : rdS RC 71 H v l) (s0 : σ) (h0 : Inv s0) (hI : ∀ x ∈ l, ∀ s, Inv s → (step x s).1 = false → Inv (step x s).2) (hg : ∀ x ∈ l, ∀ s, Inv s → ∀ a h, Hle H h → RC h a x → CT Tryz.prog g ⟨fs ++ [.agg ⟨a⟩] ++ cv⟩ [Sc s] h (fun v N => v = .bool (step x s).1 ∧ N = [Sc (step x s).2])) : CT Tryz.prog 34 ⟨[v, .func (.func g) ⟨fs⟩ ⟨cv⟩]⟩ [Sc s0] H (fun v N => v = .bool (ZP step l s0).1 ∧ N = [Sc (ZP step l s0).2]) := by
 refine Zm Tryz.func34 rfl rfl <| Zc <| Za <| JLA rfl <| Zb <| Zc <| Za <| JLm v <| JLM rfl <| ZD 0 rfl Tryz.call91 rfl rfl (fun hin => idxC_ct g fs cv hcall Sc Inv step _ _ _ (RCs.mono (Hle.hu _ _) hl) s0 h0 hI (fun x hx s hs a h hh ra => hg x hx s hs a h (Hle.trans (Hle.hu _ _) hh) ra)) rfl ?_
 rintro _ _ ⟨rfl, rfl⟩
 refine JLn (Pu.geq rfl rfl) <| JLA rfl <| Zb <| Zh <| ⟨.bool (decide (0 ≤ (idxS step l 0 s0).1)), [Sc (idxS step l 0 s0).2], Ret.one rfl (RV.tmp rfl), (Sk Sub.nil), ?_⟩
 exact ⟨by rw [(Xr step l 0 s0).1], by rw [(Xr step l 0 s0).2]⟩
end Go.Proofs.YtmophpgiaiemhaaGreat.Hs
/-! Walks, printed by a program of this session's own (gen.py). -/
namespace Go.Proofs.YtmophpgiaiemhaaGreat.Hs
open Go Go.Proofs
set_option maxRecDepth 100000
set_option linter.unusedVariables false
set_option linter.unusedSimpArgs false
attribute [local irreducible] JL J CT wlo DT
set_option maxHeartbeats 1000000 in
theorem mapTerm_ct : ∀ (gr : Nat) (frs crs : List Value) (hcallr : ∀ args w, (callFunc gr args).run Tryz.prog w = .ok (.enter gr args) w) (rf : Sm → Sm) (gv : Nat) (fvs cvs : List Value) (hcallv : ∀ args w, (callFunc gv args).run Tryz.prog w = .ok (.enter gv args) w) (σ : Type) (Sc : σ → Zj) (Inv : σ → Prop) (vf : Int → Int → σ → Tm × σ) (hI : ∀ n b s, Inv s → Inv (vf n b s).2) (t : Tm) (b : Int) (s : σ) (cs : List Value) (H : Heap), RT H cs t → sizeT t ≤ 1000000 → vOK t → 0 ≤ b → b + 2 * sizeT t ≤ 2000000 → Inv s → (∀ s h, Hle H h → CT Tryz.prog gr ⟨frs ++ [.agg ⟨sC s⟩] ++ crs⟩ [] h (fun v N => v = .agg ⟨sC (rf s)⟩ ∧ N = [])) → (∀ (n b : Int) (s : σ) (h : Heap), Hle H h → Inv s → 0 ≤ n → n ≤ 2000000 → 0 ≤ b → b ≤ 2000000 → CT Tryz.prog gv ⟨fvs ++ [iv n, iv b] ++ cvs⟩ [Sc s] h (fun v N => ∃ cs k, v = .agg ⟨cs⟩ ∧ N = [k, Sc (vf n b s).2] ∧ OT (vf n b s).1 cs k)) → CT Tryz.prog 85 ⟨[.agg ⟨[.func (.func gv) ⟨fvs⟩ ⟨cvs⟩, .func (.func gr) ⟨frs⟩ ⟨crs⟩]⟩, .agg ⟨cs⟩, iv b]⟩ [Sc s] H (fun v N => ∃ cs k, v = .agg ⟨cs⟩ ∧ N = [k, Sc (YD rf vf b t s).2] ∧ OT (YD rf vf b t s).1 cs k) := by
 intro gr frs crs hcallr rf gv fvs cvs hcallv σ Sc Inv vf hI t
 induction t using Tm.ind with
 | h kind num ref kids cases ih ih' =>
 intro b s cs H ht hz hv hb0 hb hs hgr hgv
 rw [sizeT] at hz hb
 rw [vOK] at hv
 have hv1 : ¬ kind = 1 ∨ (0 ≤ num ∧ num ≤ 2000000) := by by_cases h : kind = 1; exact .inr (hv.1 h); exact .inl h
 have hlk := Xx kids
 have hlc := Xy cases
 obtain ⟨ks, cv, rfl, hk, hn, hks, hcv⟩ := RT_mk.1 ht
 have hn1 : -9223372036854775808 ≤ num := hn.1
 have hn2 : num ≤ 9223372036854775807 := hn.2
 refine Zm Tryz.func85 rfl rfl <| Zc <| Za <| JLr (Zo (l := [.func (.func gv) ⟨fvs⟩ ⟨cvs⟩, .func (.func gr) ⟨frs⟩ ⟨crs⟩]) rfl rfl fun b1 => JLr (Zo (l := pkT kind num ref ks cv) rfl rfl fun b2 => JLr (Zn (l := pkT 0 0 zS nS nS) Tryz.zeroValue27 rfl fun b3 => Zb <| Zc <| Zc <| Za <| JLq (pp b2 0) (ZO rfl rfl) <| JLr (Ze ty3 rfl (At.bx 1 rfl) (Z3 ..) <| JLn (Pu.eql rfl rfl) ?_))))
 refine JLM rfl <| Zx 4 [16, 17, 18, 19] [(19, cond (decide (kind = 1)) (.bool (decide (b ≤ num))) undef)] ?_ fun f5 => ?_
 ·cases h4 : (decide (kind = 1)) with
  | true =>
   replace h4 := dt h4
   refine JLq (pp b2 1) (ZZ rfl rfl) <| JLr (Ze ty3 rfl (At.bx 1 rfl) (Yh ..) <| JLM rfl <| JLn (Pu.geq rfl rfl) ?_)
   exact Zb ⟨⟨rfl, trivial⟩, rfl⟩
  | false =>
   exact ZG rfl ⟨rfl, trivial⟩
 refine JLn (Pu.pickAnd rfl rfl rfl) <| Zb <| Zf rfl (fun h6 => ?_) (fun h6 => ?_)
 ·obtain ⟨h6a, h6b⟩ := Yr h6
  replace h6a := dt h6a
  replace h6b := dt h6b
  refine Zc <| Za <| JLq (pp b1 0) (fa136_0 rfl rfl) <| JLr (Ze ty133 rfl (At.bx 2 rfl) rfl <| JLq (pp b2 1) (ZZ rfl rfl) <| JLr (Ze ty3 rfl (At.bx 1 rfl) (Yh ..) <| JLM rfl <| JLn (Pu.sub64 rfl rfl (by first | omega | (constructor <;> omega))) <| JLM rfl <| ZD 3 rfl hcallv rfl rfl (fun hin => hgv _ _ _ _ (Hle.hu _ _) hs (by omega) (by omega) (by omega) (by omega)) rfl ?_))
  rintro _ _ ⟨cs7, k7, rfl, rfl, hO7⟩
  refine JLr (Zd 2 (vs := cs7) (l := cs7) Zs rfl rfl rfl rfl hO7.len hO7.ok (ZM (n := 36) rfl hO7.len) <| Zb <| Zh <| ⟨.agg ⟨cs7⟩, [k7, Sc ((vf (num - b) b s).2)], Ret.one rfl (RV.cell Zs rfl (At.bx 2 rfl) (Zt hO7.len)), (Sk (Sk Sub.nil)), ?_⟩)
  have hx : kind = 1 ∧ b ≤ num := ⟨h6a, h6b⟩
  exact ⟨_, _, rfl, by rw [YD, if_pos hx], by rw [YD, if_pos hx]; exact hO7⟩
 refine Zi <| Zc <| ZF mixed #[0, 1, 0, 4, 0, 16, 0, 64, 240, 511, 0, 2047] 11 [some 29, some 30, some 31, some 32, some 33, some 34, some 35, some 36, some 37, some 38, some 7] [] [(8, fun _ _ vw qw => vw = .agg ⟨sC (rf ref)⟩ ∧ qw = []), (10, newP 27 (pkT 0 0 zS nS nS))] rfl (by kernel_rfl) rfl (by kernel_rfl) <| Dq (pp b2 0) (fun _ => ZO rfl rfl) <| Dl1 ty3 (At.bx 1 rfl) (Z3 ..) <| Dq (pp b2 1) (fun _ => ZZ rfl rfl) <| Dl1 ty3 (At.bx 1 rfl) (Yh ..) <| Dq (pp b1 1) (fun _ => fa136_1 rfl rfl) <| Dl1 ty134 (At.bx 2 rfl) rfl <| Dq (pp b2 2) (fun _ => fa27_2 rfl rfl) <| Dl Xm (At.bx 1 rfl) (pkT_2 ..) <| Dc rfl hcallr (fun _ => rfl) (fun hin => hgr _ _ (Hle.hu _ _)) ?_
 rintro _ _ ⟨rfl, rfl⟩
 refine Dq (.agg ⟨pkT kind num (rf ref) nS nS⟩) (fun _ => Pu.build (pv := [(0, iv kind), (1, iv num), (2, .agg ⟨sC (rf ref)⟩)]) (l := pkT kind num (rf ref) nS nS) rfl (bld27_0_1_2 _ _ _)) <| Da Tryz.zeroValue27 rfl fun b9 => ZL (M' := [(BX b9 (pkT 0 0 zS nS nS) 27), (BX b3 (pkT 0 0 zS nS nS) 27), (BX b2 (pkT kind num ref ks cv) 27), (BX b1 [.func (.func gv) ⟨fvs⟩ ⟨cvs⟩, .func (.func gr) ⟨frs⟩ ⟨crs⟩] 136), Sc s]) rfl ?_
 show JL _ _ _ [_] _ _ _
 refine JLr (Zd 0 (vs := pkT kind num (rf ref) nS nS) (l := pkT kind num (rf ref) nS nS) Zs rfl rfl rfl rfl rfl (ZI rfl rfl) (Yk ..) <| Zb <| Zc <| Za <| JLq (pp b2 34) (Z8 rfl rfl) <| JLr (Ze YW rfl (At.bx 2 rfl) (Yb ..) ?_))
 obtain ⟨a10, cap10, hv10⟩ := hks.sl
 have hle10 := hks.le
 refine JLn (Pu.lenSl Tryz.runUnderlying24 hv10) <| JLr (Runs_makeO (kids.length) Tryz.runUnderlying24 el27 rfl rfl rfl rfl (by omega) (by omega) fun v11 k11 ho11 => JLq (pp b9 34) (Z8 rfl rfl) <| JLr (Zd 1 (vs := [v11]) (l := pkT kind num (rf ref) v11 nS) YW rfl rfl rfl (ZK ho11.one) rfl (Zk ho11.one Zq) (pkT_s34 ..) <| Zb <| Zc <| Za <| JLq (pp b9 34) (Z8 rfl rfl) <| JLr (Ze YW rfl (At.bx 1 rfl) (Yb ..) <| JLq (pp b2 34) (Z8 rfl rfl) <| JLr (Ze YW rfl (At.bx 3 rfl) (Yb ..) ?_))))
 obtain ⟨es12, he12, hH12, hl12, hok12, hsr12⟩ := kids_src (P := Tryz.prog) hks
 refine JLr (Runs_copy (i := 0) (n := kids.length) (m := kids.length) (es' := es12) Tryz.runUnderlying24 el27 rfl rfl rfl ho11 (fun F w m => hsr12 w _ m) he12 (by simp) hl12 hok12 rfl fun kc12 hc12 => Zb <| Zc <| Zc <| Za <| JLq (pp b9 34) (Z8 rfl rfl) <| JLr (Ze YW rfl (At.bx 1 rfl) (Yb ..) ?_))
 obtain ⟨a13, cap13, hv13⟩ := hc12.sl
 rw [he12] at hv13
 refine JLn (Pu.lenSl Tryz.runUnderlying24 hv13) <| JLM rfl <| Zb <| Zl ?_
 have hneg : ¬ (kind = 1 ∧ b ≤ num) := by intro hh; simp [hh.1, hh.2] at h6
 refine ZE (fun k ρ M => ∃ (j : Nat) (es : List (List Value)) (k1 k2 : Zj) (s1 : σ), ρ 2 = iv b ∧ ρ 3 = pp b1 0 ∧ ρ 4 = pp b2 0 ∧ ρ 6 = pp b3 0 ∧ ρ 7 = pp b9 0 ∧ ρ 50 = v11 ∧ ρ 51 = iv ((kids.length : Int)) ∧ ρ 52 = iv ((j : Int)) ∧ Sub [(BX b9 (pkT kind num (rf ref) v11 nS) 27), k1, k2, Sc s1, (BX b3 (pkT 0 0 zS nS nS) 27), (BX b2 (pkT kind num ref ks cv) 27), (BX b1 [.func (.func gv) ⟨fvs⟩ ⟨cvs⟩, .func (.func gr) ⟨frs⟩ ⟨crs⟩] 136)] M ∧ j ≤ kids.length ∧ Own 27 36 v11 es k1 ∧ Half H kids (Yx rf vf b kind 0 (kids.take j) s).1 j es k2 ∧ Inv s1 ∧ (Yx rf vf b kind 0 (kids.take j) s).2 = s1 ∧ k = kids.length - j) _ ⟨0, es12, kc12, [], s, rfl, rfl, rfl, rfl, rfl, rfl, rfl, rfl, (Sub.cons 1 rfl (Sk (Sub.emp (Sub.cons 3 rfl (Sk (Sk (Sk Sub.nil))))))), Nat.zero_le _, hc12, hH12, hs, rfl, rfl⟩ ?_
 rintro _ ρ14 _ ⟨j, es, k1, k2, s1, e15, e16, e17, e18, e19, e20, e21, e22, hm23, hj, ho, hH, hs1, hsq, rfl⟩
 obtain ⟨ρ24, rfl⟩ := Zr (uc e15 (uc e16 (uc e17 (uc e18 (uc e19 (uc e20 (uc e21 (uc e22 un))))))))
 clear e15 e16 e17 e18 e19 e20 e21 e22
 refine ZJ hm23 <| Zc <| Za <| JLn (Pu.lss rfl rfl) <| Zb <| Zc <| Zf rfl (fun h25 => ?_) (fun h25 => ?_)
 ·replace h25 := dt h25
  have h25n : j < kids.length := by omega
  have hz1 := YY _ (List.getElem_mem h25n)
  have hm1 := Xu kind j
  refine Zi <| Zc <| Zl <| Zc <| Za <| JLM rfl ?_
  obtain ⟨b26, cap26, row26, e26, hv26, hm26, hs26, hE26⟩ := hH.at ho h25n
  refine JLq (pp b26 (0 + j * 36)) (Pu.idx j Tryz.runUnderlying24 Zs hv26 rfl rfl (by rw [hH.1]; exact h25n)) <| JLr (Zg Zs rfl (At.k 1 rfl hm26) hs26 <| JLr (Zn (l := pkT 0 0 zS nS nS) Tryz.zeroValue27 rfl fun b27 => JLA rfl <| JLr (Zd 0 (vs := e26) (l := e26) Zs rfl rfl rfl rfl (Zv hE26) (XC hE26) (ZM (n := 36) rfl (Zv hE26)) <| Zb <| ZF mixed #[0, 1, 0, 0, 0, 0, 0, 64, 0, 448, 992, 2040, 4095, 8191] 12 [some 57, some 58, some 59, some 60, some 61, some 62, some 63, some 64, some 65, some 66, some 67, some 68] [(11, 16)] [(9, fun _ _ vw qw => vw = iv (ZB kind ((j : Int))) ∧ qw = []), (11, fun _ _ vw qw => ∃ cs k, vw = .agg ⟨cs⟩ ∧ qw = [k, Sc ((YD rf vf (b + (ZB kind ((j : Int)))) (kids[j]) s1).2)] ∧ OT ((YD rf vf (b + (ZB kind ((j : Int)))) (kids[j]) s1).1) cs k)] rfl (by kernel_rfl) rfl (by kernel_rfl) <| Dq (pp b9 34) (fun _ => Z8 rfl rfl) <| Dl1 YW (At.bx 1 rfl) (Yb ..) <| DM (fun _ => rfl) <| Dl ty136 (At.bx 7 rfl) rfl <| Dl Zs (At.bx 0 rfl) (Zt (Zv hE26)) <| DM (fun _ => rfl) ?_)))
  refine Dq (pp b2 0) (fun _ => ZO rfl rfl) <| Dl1 ty3 (At.bx 6 rfl) (Z3 ..) <| DM (fun _ => rfl) <| Dc rfl Tryz.call111 (fun _ => rfl) (fun hin => more_ct _ _ _) ?_
  rintro _ _ ⟨rfl, rfl⟩
  refine Dn (fun _ => Pu.add64 rfl rfl (by first | omega | (constructor <;> omega))) <| DJ_call1 4 rfl rfl (fun _ => rfl) Tryz.call85 (fun _ => rfl) rfl (fun hin => ih _ (List.getElem_mem h25n) _ _ _ _ (RT.mono (Hle.hu _ _) hE26) (by omega) (vOKs_mem hv.2.1 _ (List.getElem_mem h25n)) (by omega) (by omega) hs1 (fun s h hh => hgr s h (Hle.trans (Hle.hu _ _) hh)) (fun n b s h hh => hgv n b s h (Hle.trans (Hle.hu _ _) hh))) (fun _ => rfl) ?_
  rintro _ _ ⟨cs29, k29, rfl, rfl, hO29⟩
  refine ZL (M' := [k29, Sc ((YD rf vf (b + (ZB kind ((j : Int)))) (kids[j]) s1).2), (BX b27 e26 27), (BX b9 (pkT kind num (rf ref) v11 nS) 27), k1, k2, (BX b3 (pkT 0 0 zS nS nS) 27), (BX b2 (pkT kind num ref ks cv) 27), (BX b1 [.func (.func gv) ⟨fvs⟩ ⟨cvs⟩, .func (.func gr) ⟨frs⟩ ⟨crs⟩] 136)]) rfl ?_
  show JL _ _ _ [_, _] _ _ _
  obtain ⟨b30, cap30, row30, e30, hv30, hm30, hs30, hE30⟩ := hH.at ho h25n
  refine JLq (pp b30 (0 + j * 36)) (Pu.idx j Tryz.runUnderlying24 Zs hv30 rfl rfl (by rw [hH.1]; exact h25n)) <| JLr (Runs_storeOwn (i := 4) (j := j) (b := b30) Zs rfl ho ⟨_, _, hv30⟩ rfl (by rw [hH.1]; exact h25n) rfl rfl hO29.len hO29.ok fun k31 ho31 => Zb <| Za <| JLn (Pu.inc rfl rfl (by omega)) <| JLM rfl <| Zb <| ⟨_, ?_, (j + 1), (es.set j cs29), k31, (k2 ++ k29), ((YD rf vf (b + (ZB kind ((j : Int)))) (kids[j]) s1).2), rfl, rfl, rfl, rfl, rfl, rfl, rfl, rfl, (Sub.cons 3 rfl (Sub.cons 3 rfl (Sub.join (Sub.cons 3 rfl (Sk (Sk (Sd (Sk (Sk (Sk Sub.nil)))))))))), ?_, ?_, ?_, ?_, ?_, rfl⟩)
  ·omega
  ·omega
  ·exact ho31
  ·rw [mapTs_take0 rf vf b kind kids j s h25n, hsq]; exact hH.step h25n hO29
  ·exact mapT_inv hI _ _ _ hs1
  rw [mapTs_take0 rf vf b kind kids j s h25n, hsq]
 replace h25 := df h25
 have h25n : kids.length ≤ j := by omega
 refine Zy _ rfl <| Zc <| Zc <| Za <| JLq (pp b2 35) (Z1 rfl rfl) <| JLr (Ze YI rfl (At.bx 5 rfl) (Z2 ..) ?_)
 obtain ⟨a32, cap32, hv32⟩ := hcv.sl
 have hle32 := hcv.le
 refine JLn (Pu.lenSl Tryz.runUnderlying25 hv32) <| JLM rfl <| Zb <| Zl ?_
 have hjk := h25n
 rw [List.take_of_length_le hjk] at hsq hH
 refine ZE (fun k ρ M => ∃ (j : Nat) (w : Value) (es2 : List (List Value)) (k3 k4 : Zj) (s2 : σ), ρ 2 = iv b ∧ ρ 3 = pp b1 0 ∧ ρ 6 = pp b3 0 ∧ ρ 7 = pp b9 0 ∧ ρ 72 = cv ∧ ρ 73 = iv ((cases.length : Int)) ∧ ρ 74 = iv ((j : Int)) ∧ Sub [(BX b9 (pkT kind num (rf ref) v11 w) 27), k3, k4, Sc s2, k1, k2, (BX b3 (pkT 0 0 zS nS nS) 27), (BX b2 (pkT kind num ref ks cv) 27), (BX b1 [.func (.func gv) ⟨fvs⟩ ⟨cvs⟩, .func (.func gr) ⟨frs⟩ ⟨crs⟩] 136)] M ∧ j ≤ cases.length ∧ Own 80 71 w es2 k3 ∧ OCs (YC rf vf b (cases.take j) s1).1 es2 k4 ∧ Inv s2 ∧ (YC rf vf b (cases.take j) s1).2 = s2 ∧ k = cases.length - j) _ ⟨0, nS, [], [], [], s1, rfl, rfl, rfl, rfl, rfl, rfl, rfl, (Sk (Sub.emp (Sub.emp (Sub.cons 2 rfl (Sk (Sk (Sk (Sk (Sk Sub.nil))))))))), Nat.zero_le _, Own.nil, OCs.nil, hs1, rfl, rfl⟩ ?_
 rintro _ ρ33 _ ⟨j, w, es2, k3, k4, s2, e34, e35, e36, e37, e38, e39, e40, hm41, hj, how, hopw, hs2, hsq2, rfl⟩
 obtain ⟨ρ42, rfl⟩ := Zr (uc e34 (uc e35 (uc e36 (uc e37 (uc e38 (uc e39 (uc e40 un)))))))
 clear e34 e35 e36 e37 e38 e39 e40
 refine ZJ hm41 <| Zc <| Za <| JLn (Pu.lss rfl rfl) <| Zb <| Zc <| Zf rfl (fun h43 => ?_) (fun h43 => ?_)
 ·replace h43 := dt h43
  have h43n : j < cases.length := by omega
  have helw := OCs_len hopw
  rw [mapCs_len, List.length_take] at helw
  have hz1 := YK _ (List.getElem_mem h43n)
  have hm1 := YS (cases[j]).1
  refine Zi <| Zc <| Zl <| Zc <| Za ?_
  obtain ⟨b44, o44, cap44, row44, T44, fr44, cs44, hv44, hb44, hs44, hE44⟩ := hcv.get j (by first | assumption | omega | decide | simp)
  obtain ⟨ca44, cb44, rfl, hA44, hB44⟩ := hE44
  refine JLq (pp b44 (o44 + j * 71)) (Pu.idx j Tryz.runUnderlying25 YM hv44 rfl rfl (by first | assumption | omega | decide | simp)) <| JLr (Zg YM rfl (At.im hb44) hs44 <| JLr (Zn (l := (pkP 0 0 zS nS) ++ (pkT 0 0 zS nS nS)) Tryz.zeroValue80 rfl fun b45 => JLr (Zd 0 (vs := ca44 ++ cb44) (l := ca44 ++ cb44) YM rfl rfl rfl rfl (Zw (Zu hA44) (Zv hB44)) (ZN (Xj hA44) (XC hB44)) (ZM (n := 71) rfl (Zw (Zu hA44) (Zv hB44))) <| Zb <| ZF mixed #[0, 1, 0, 0, 8, 28, 0, 0, 128, 0, 0, 1024, 3132, 7740, 16380, 32764, 65532, 131071, 262143, 524287] 17 [some 78, some 79, some 80, some 81, some 82, some 83, some 84, some 85, some 86, some 87, some 88, some 89, some 90, some 91, some 92, some 93, some 94] [(14, 21)] [(5, fun _ _ vw qw => ∃ cs k, vw = .agg ⟨cs⟩ ∧ qw = [k] ∧ OP (mapP rf (cases[j].1)) cs k), (12, fun _ _ vw qw => vw = iv ((binds (cases[j].1) : Int)) ∧ qw = []), (14, fun _ _ vw qw => ∃ cs k, vw = .agg ⟨cs⟩ ∧ qw = [k, Sc ((YD rf vf (b + ((binds (cases[j].1) : Int))) (cases[j].2) s2).2)] ∧ OT ((YD rf vf (b + ((binds (cases[j].1) : Int))) (cases[j].2) s2).1) cs k), (16, fun r _ vw qw => ∃ b k, vw = .slice (some ⟨b, 0, none⟩) 1 1 ∧ qw = [k] ∧ Own 80 71 (.slice (some ⟨b, 0, none⟩) 1 1) [((cel (r 5))) ++ ((cel (r 14)))] k ∧ k = (BX b (List.flatten [((cel (r 5))) ++ ((cel (r 14)))]) 80))] rfl (by kernel_rfl) rfl (by kernel_rfl) <| Dq (pp b9 35) (fun _ => Z1 rfl rfl) <| Dl1 YI (At.bx 1 rfl) (Z2 ..) <| Dl ty136 (At.bx 9 rfl) rfl <| Dq (pp b45 0) (fun _ => Y1 rfl rfl) <| Dl Z6 (At.bx 0 rfl) (YE (Zu hA44)) <| Dc rfl Tryz.call113 (fun _ => rfl) (fun hin => mapPattern_ct gr frs crs hcallr rf _ rfl _ _ _ (RP.mono (Hle.hu _ _) hA44) (fun s h hh => hgr s h (Hle.trans (Hle.hu _ _) hh)) (by omega)) ?_)))
  rintro _ _ ⟨cs49, k49, rfl, rfl, hO49⟩
  refine Dl ty136 (At.bx 9 rfl) rfl <| Dq (pp b45 35) (fun _ => fa80_1 rfl rfl) <| Dl Zs (At.bx 0 rfl) (Xg (Zu hA44) (Zv hB44)) <| DM (fun _ => rfl) <| Dq (pp b45 0) (fun _ => Y1 rfl rfl) <| Dl Z6 (At.bx 0 rfl) (YE (Zu hA44)) <| Dc rfl Tryz.call112 (fun _ => rfl) (fun hin => binds_ct _ _ _ (RP.mono (Hle.hu _ _) hA44) (by omega)) ?_
  rintro _ _ ⟨rfl, rfl⟩
  refine Dn (fun _ => Pu.add64 rfl rfl (by first | omega | (constructor <;> omega))) <| DJ_call1 5 rfl rfl (fun _ => rfl) Tryz.call85 (fun _ => rfl) rfl (fun hin => ih' _ (List.getElem_mem h43n) _ _ _ _ (RT.mono (Hle.hu _ _) hB44) (by omega) (vOKc_mem hv.2.2 _ (List.getElem_mem h43n)) (by omega) (by omega) hs2 (fun s h hh => hgr s h (Hle.trans (Hle.hu _ _) hh)) (fun n b s h hh => hgv n b s h (Hle.trans (Hle.hu _ _) hh))) (fun _ => rfl) ?_
  rintro _ _ ⟨cs50, k50, rfl, rfl, hO50⟩
  refine Dq (.agg ⟨cs49 ++ cs50⟩) (fun _ => Pu.build (pv := [(0, .agg ⟨cs49⟩), (1, .agg ⟨cs50⟩)]) (l := cs49 ++ cs50) rfl (bld80_0_1 hO49.len hO50.len)) <| Dr rfl (fun _ => Zp (vs := [.agg ⟨cs49 ++ cs50⟩]) [cs49 ++ cs50] Tryz.runUnderlying25 el80 rfl rfl (by intro e he; simp only [List.mem_cons, List.not_mem_nil, or_false] at he; subst he; exact (Zw hO49.len hO50.len)) rfl (by decide) fun b k h1 h2 => ⟨[k], by rw [ZR rfl]; exact Sub.refl, b, k, rfl, rfl, h1, h2⟩) (fun _ _ ⟨b51, k51, e1, e2, ho51, hk51⟩ => ?_); subst e1 e2
  refine ZL (M' := [k51, k50, Sc ((YD rf vf (b + ((binds (cases[j].1) : Int))) (cases[j].2) s2).2), k49, (BX b45 (ca44 ++ cb44) 80), (BX b9 (pkT kind num (rf ref) v11 w) 27), k3, k4, k1, k2, (BX b3 (pkT 0 0 zS nS nS) 27), (BX b2 (pkT kind num ref ks cv) 27), (BX b1 [.func (.func gv) ⟨fvs⟩ ⟨cvs⟩, .func (.func gr) ⟨frs⟩ ⟨crs⟩] 136)]) rfl ?_
  show JL _ _ _ [_, _, _] _ _ _
  have hlens52 : ∀ e ∈ ([cs49 ++ cs50] : List (List Value)), List.length e = 71 := by
   intro e he; simp only [List.mem_cons, List.not_mem_nil, or_false] at he
   rcases he with rfl
   ·exact (Zw hO49.len hO50.len)
  have hoks52 : ∀ e ∈ ([cs49 ++ cs50] : List (List Value)), okc e := by
   intro e he; simp only [List.mem_cons, List.not_mem_nil, or_false] at he
   rcases he with rfl
   ·exact (ZN hO49.ok hO50.ok)
  refine JLr (ZA (i := 6) (n := 1) (es' := [cs49 ++ cs50]) Tryz.runUnderlying25 Tryz.runUnderlying25 (Or.inl rfl) el80 rfl rfl rfl how (fun F w m => Src.row (((At.k 0 rfl (by rw [hk51]; exact List.mem_cons_self))).heap m) (Zt (Zz hlens52))) rfl hlens52 hoks52 (by decide) (by omega) fun v52 k52 ho52 => JLq (pp b9 35) (Z1 rfl rfl) <| JLr (Zd 5 (vs := [v52]) (l := pkT kind num (rf ref) v11 v52) YI rfl rfl rfl (ZK ho52.one) rfl (Zk ho52.one Zq) (pkT_s35 ..) <| Zb <| Za <| JLn (Pu.inc rfl rfl (by omega)) <| JLM rfl <| Zb <| ⟨_, ?_, (j + 1), v52, (es2 ++ [cs49 ++ cs50]), k52, (k4 ++ (k49 ++ k50)), ((YD rf vf (b + ((binds (cases[j].1) : Int))) (cases[j].2) s2).2), rfl, rfl, rfl, rfl, rfl, rfl, rfl, (Sd (Sub.cons 4 rfl (Sub.cons 4 rfl (Sub.join3 (Sub.cons 4 rfl (Sub.cons 2 rfl (Sk (Sk (Sd (Sk (Sk (Sk (Sk (Sk Sub.nil)))))))))))))), ?_, ?_, ?_, ?_, ?_, rfl⟩))
  ·omega
  ·omega
  ·exact ho52
  ·rw [mapCs_take rf vf b cases j s1 h43n, hsq2]; exact OCs.snoc hO49 hO50 hopw
  ·exact mapT_inv hI _ _ _ hs2
  rw [mapCs_take rf vf b cases j s1 h43n, hsq2]
 replace h43 := df h43
 have h43n : cases.length ≤ j := by omega
 refine Zy _ rfl <| Zc <| Za <| JLr (Zg Zs rfl (At.bx 0 rfl) (Z9 ..) <| JLr (Zd 6 (vs := pkT kind num (rf ref) v11 w) (l := pkT kind num (rf ref) v11 w) Zs rfl rfl rfl rfl rfl (ZI ho.one how.one) (Yk ..) <| Zb <| Zh <| ⟨.agg ⟨pkT kind num (rf ref) v11 w⟩, [k1 ++ (k2 ++ (k3 ++ k4)), Sc s2], Ret.one rfl (RV.cell Zs rfl (At.bx 6 rfl) (Z9 ..)), (Sub.join4 (Sd (Sub.cons 3 rfl (Sub.cons 3 rfl (Sk (Sk (Sk Sub.nil))))))), ?_⟩))
 rw [List.take_of_length_le h43n] at hopw hsq2
 exact ⟨_, _, rfl, by rw [YD, if_neg hneg, hsq, hsq2], by rw [YD, if_neg hneg, hsq]; exact OT_mk.2 ⟨_, w, es, es2, k1, k2, k3, k4, rfl, hk, hn, ho, hH.done hjk, how, hopw, rfl, by rw [mapTs_len]; exact hks.le, by rw [mapCs_len]; exact hcv.le⟩⟩
end Go.Proofs.YtmophpgiaiemhaaGreat.Hs
/-! Walks, printed by a program of this session's own (gen.py). -/
namespace Go.Proofs.YtmophpgiaiemhaaGreat.Hs
open Go Go.Proofs
set_option maxRecDepth 100000
set_option linter.unusedVariables false
set_option linter.unusedSimpArgs false
attribute [local irreducible] JL J CT wlo DT
theorem idxI_ct (g : Nat) (fs cv : List Value) (hcall : ∀ args w, (callFunc g args).run Tryz.prog w = .ok (.enter g args) w) (pr : Int → Bool) (l : List Int) (v : Value) (H : Heap) (hl : rdS RI 1 H v l) (hg : ∀ x ∈ l, ∀ h, Hle H h → CT Tryz.prog g ⟨fs ++ [iv x] ++ cv⟩ [] h (fun v N => v = .bool (pr x) ∧ N = [])) : CT Tryz.prog 139 ⟨[v, .func (.func g) ⟨fs⟩ ⟨cv⟩]⟩ [] H (fun v N => v = iv (fstI pr l 0) ∧ N = []) := by
 refine Zm Tryz.func139 rfl rfl <| Zc <| Za <| JLA rfl <| Zb <| Zc <| Zc <| Za <| JLm v ?_
 obtain ⟨a1, cap1, hv1⟩ := hl.sl
 have hle1 := hl.le
 refine JLn (Pu.lenSl Tryz.runUnderlying92 hv1) <| JLM rfl <| Zb <| Zl <| ZE (fun k ρ M => ∃ (j : Nat), ρ 0 = v ∧ ρ 1 = .func (.func g) ⟨fs⟩ ⟨cv⟩ ∧ ρ 4 = iv 0 ∧ ρ 7 = iv ((l.length : Int)) ∧ ρ 8 = iv ((j : Int)) ∧ Sub [] M ∧ j ≤ l.length ∧ fstI pr (l.drop j) j = fstI pr l 0 ∧ k = l.length - j) _ ⟨0, rfl, rfl, rfl, rfl, rfl, Sub.nil, Nat.zero_le _, rfl, rfl⟩ ?_
 rintro _ ρ2 _ ⟨j, e3, e4, e5, e6, e7, hm8, hj, hinv, rfl⟩
 obtain ⟨ρ9, rfl⟩ := Zr (uc e3 (uc e4 (uc e5 (uc e6 (uc e7 un)))))
 clear e3 e4 e5 e6 e7
 refine ZJ hm8 <| Zc <| Za <| JLn (Pu.lss rfl rfl) <| Zb <| Zc <| Zf rfl (fun h10 => ?_) (fun h10 => ?_)
 ·replace h10 := dt h10
  have h10n : j < l.length := by omega
  have hlenl := hl.le
  refine Zi <| Zc <| Zl <| Zc <| Za <| JLM rfl <| JLA rfl <| Zb <| Zc <| Za <| JLM rfl <| JLm v <| JLM rfl ?_
  obtain ⟨b11, o11, cap11, row11, T11, fr11, cs11, hv11, hb11, hs11, hE11⟩ := hl.get j (by first | assumption | omega | decide | simp)
  refine JLq (pp b11 (o11 + j * 1)) (Pu.idx j Tryz.runUnderlying92 ty3 hv11 rfl rfl (by first | assumption | omega | decide | simp)) <| JLr (Ze ty3 rfl (At.im hb11) (Yi ((show cs11 = [Value.int .i64 (l[j])] from hE11) ▸ hs11)) <| Jc hcall rfl (fun hin => hg _ (List.getElem_mem h10n) _ (Hle.hu _ _)) rfl ?_)
  rintro _ _ ⟨rfl, rfl⟩
  refine Zb <| Zf rfl (fun h12 => ?_) (fun h12 => ?_)
  ·refine Zc <| Za <| JLM rfl <| JLA rfl <| Zb <| Zh <| ⟨iv ((j : Int)), [], Ret.one rfl (RV.tmp rfl), Sub.nil, ?_⟩
   exact ⟨by rw [← hinv, ZU h10n, fstI, if_pos h12], rfl⟩
  refine Zi <| Za <| JLn (Pu.inc rfl rfl (by omega)) <| JLM rfl <| Zb <| ⟨_, ?_, (j + 1), rfl, rfl, rfl, rfl, rfl, Sub.nil, ?_, ?_, rfl⟩
  ·omega
  ·omega
  rw [ZU h10n, fstI, if_neg (by simp [h12])] at hinv; exact hinv
 replace h10 := df h10
 have h10n : l.length ≤ j := by omega
 refine Zy _ rfl <| Zc <| Za <| JLA rfl <| Zb <| Zh <| ⟨iv (-1), [], Ret.one rfl (RV.tmp rfl), Sub.nil, ?_⟩
 exact ⟨by rw [← hinv, Yt h10n]; rfl, rfl⟩
theorem containsI_ct (g : Nat) (fs cv : List Value) (hcall : ∀ args w, (callFunc g args).run Tryz.prog w = .ok (.enter g args) w) (pr : Int → Bool) (l : List Int) (v : Value) (H : Heap) (hl : rdS RI 1 H v l) (hg : ∀ x ∈ l, ∀ h, Hle H h → CT Tryz.prog g ⟨fs ++ [iv x] ++ cv⟩ [] h (fun v N => v = .bool (pr x) ∧ N = [])) : CT Tryz.prog 108 ⟨[v, .func (.func g) ⟨fs⟩ ⟨cv⟩]⟩ [] H (fun v N => v = .bool (l.any pr) ∧ N = []) := by
 refine Zm Tryz.func108 rfl rfl <| Zc <| Za <| JLA rfl <| Zb <| Zc <| Za <| JLm v <| JLM rfl <| Jc Tryz.call139 rfl (fun hin => idxI_ct g fs cv hcall pr _ _ _ (RIs.mono (Hle.hu _ _) hl) (fun x hx h hh => hg x hx h (Hle.trans (Hle.hu _ _) hh))) rfl ?_
 rintro _ _ ⟨rfl, rfl⟩
 refine JLn (Pu.geq rfl rfl) <| JLA rfl <| Zb <| Zh <| ⟨.bool (decide (0 ≤ fstI pr l 0)), [], Ret.one rfl (RV.tmp rfl), Sub.nil, ?_⟩
 exact ⟨by rw [← fstI_any pr l 0], rfl⟩
theorem every1_ct (g : Nat) (fs cv : List Value) (hcall : ∀ args w, (callFunc g args).run Tryz.prog w = .ok (.enter g args) w) (pr : Int → Bool) (x : Int) (H : Heap) (bP : Nat) (hP : H bP = some (.cells ⟨[.func (.func g) ⟨fs⟩ ⟨cv⟩]⟩ 109 (0, 0))) (hg : ∀ h, Hle H h → CT Tryz.prog g ⟨fs ++ [iv x] ++ cv⟩ [] h (fun v N => v = .bool (pr x) ∧ N = [])) : CT Tryz.prog 109 ⟨[iv x, pp bP 0]⟩ [] H (fun v N => v = .bool (!pr x) ∧ N = []) := by
 refine Zm Tryz.func109 rfl rfl <| Zc <| Za <| JLA rfl <| Zb <| Zc <| Za <| JLr (Ze ty109 rfl (At.im hP) rfl <| JLM rfl <| Jc hcall rfl (fun hin => hg _ (Hle.hu _ _)) rfl ?_)
 rintro _ _ ⟨rfl, rfl⟩
 refine JLn (Pu.not rfl) <| JLA rfl <| Zb <| Zh <| ⟨.bool (!(pr x)), [], Ret.one rfl (RV.tmp rfl), Sub.nil, ?_⟩
 exact ⟨rfl, rfl⟩
theorem every_ct (g : Nat) (fs cv : List Value) (hcall : ∀ args w, (callFunc g args).run Tryz.prog w = .ok (.enter g args) w) (pr : Int → Bool) (l : List Int) (v : Value) (H : Heap) (hl : rdS RI 1 H v l) (hg : ∀ x ∈ l, ∀ h, Hle H h → CT Tryz.prog g ⟨fs ++ [iv x] ++ cv⟩ [] h (fun v N => v = .bool (pr x) ∧ N = [])) : CT Tryz.prog 63 ⟨[v, .func (.func g) ⟨fs⟩ ⟨cv⟩]⟩ [] H (fun v N => v = .bool (l.all pr) ∧ N = []) := by
 refine Zm Tryz.func63 rfl rfl <| Zc <| Za <| JLr (Zo (l := [.func (.func g) ⟨fs⟩ ⟨cv⟩]) rfl rfl fun b1 => JLA rfl <| Zb <| Zc <| Za <| JLm v <| JLq (.func (.func 109) ⟨[]⟩ ⟨[pp b1 0]⟩) (Pu.makeFunc rfl rfl) <| Jc Tryz.call108 rfl (fun hin => containsI_ct 109 [] [pp b1 0] Tryz.call109 (fun x => !pr x) _ _ _ (RIs.mono (Hle.hu _ _) hl) (fun x hx h hh => every1_ct g fs cv hcall pr x h b1 (hh _ _ (hin 0 _ rfl _ _ List.mem_cons_self)) (fun h2 hh2 => hg x hx h2 (Hle.trans (Hle.trans (Hle.hu _ _) hh) hh2)))) rfl ?_)
 rintro _ _ ⟨rfl, rfl⟩
 refine JLn (Pu.not rfl) <| JLA rfl <| Zb <| Zh <| ⟨.bool (!(l.any (fun x => !pr x))), [], Ret.one rfl (RV.tmp rfl), Sub.nil, ?_⟩
 exact ⟨by simp [List.not_any_eq_all_not], rfl⟩
theorem shiftO_ct (n dy fr : Int) (H : Heap) (bF bD : Nat) (hF : H bF = some (.cells ⟨[iv fr]⟩ 3 (0, 0))) (hD : H bD = some (.cells ⟨[iv dy]⟩ 3 (0, 0))) (hn0 : 0 ≤ n) (hn1 : n ≤ 60) (hd0 : -60 ≤ dy) (hd1 : dy ≤ 60) : CT Tryz.prog 95 ⟨[iv n, pp bF 0, pp bD 0]⟩ [] H (fun v N => v = .bool (mvOk dy fr n) ∧ N = []) := by
 refine Zm Tryz.func95 rfl rfl <| Zc <| Za <| JLA rfl <| Zb <| Zc <| Za <| JLM rfl <| JLr (Ze ty3 rfl (At.im hF) rfl <| JLn (Pu.lss rfl rfl) <| JLM rfl ?_)
 cases h1 : (decide (n < fr)) with
 | true =>
  replace h1 := dt h1
  iterate 6 refine ZC rfl ?_
  refine JLq (.bool true) (Pu.pickT rfl rfl) <| JLA rfl <| Zb <| Zh <| ⟨.bool true, [], Ret.one rfl (RV.tmp rfl), Sub.nil, ?_⟩
  exact ⟨by simp only [mvOk]; simp_all <;> omega, rfl⟩
 | false =>
  replace h1 := df h1
  refine JLM rfl <| JLr (Ze ty3 rfl (At.im hD) rfl <| JLn (Pu.add64 rfl rfl (by first | omega | (constructor <;> omega))) <| JLr (Ze ty3 rfl (At.im hF) rfl <| Jc Tryz.call79 rfl (fun hin => Y0 _ _ _ _) rfl ?_))
  rintro _ _ ⟨rfl, rfl⟩
  refine JLn (Pu.not rfl) <| JLq (.bool (!(decide (n + dy < fr ∨ 59 < n + dy)))) (Pu.pickF rfl rfl) <| JLA rfl <| Zb <| Zh <| ⟨.bool (!(decide (n + dy < fr ∨ 59 < n + dy))), [], Ret.one rfl (RV.tmp rfl), Sub.nil, ?_⟩
  exact ⟨by simp only [mvOk]; simp_all <;> omega, rfl⟩
theorem freeV_ct (n b : Int) (s : List Int) (r : Nat) (H : Heap) (bM : Nat) (hM : H bM = some (.cells ⟨[.map (some r)]⟩ 176 (0, 0))) (hn0 : 0 ≤ n) (hn1 : n ≤ 2000000) (hb0 : 0 ≤ b) (hb1 : b ≤ 2000000) : CT Tryz.prog 131 ⟨[iv n, iv b, pp bM 0]⟩ [metC r s] H (fun v N => ∃ cs k, v = .agg ⟨cs⟩ ∧ N = [k, metC r (metV n b s).2] ∧ OT (metV n b s).1 cs k) := by
 refine Zm Tryz.func131 rfl rfl <| Zc <| Za <| JLr (Zn (l := pkT 0 0 zS nS nS) Tryz.zeroValue27 rfl fun b1 => Zb <| Zc <| Za <| JLr (Ze ty176 rfl (At.im hM) rfl <| JLM rfl <| JLr (Runs_mapUpdate (i := 1) Tryz.underlying176 Tryz.underlying3 rfl rfl rfl rfl <| Zb <| Zc <| Za ?_)))
 refine JLM rfl <| JLM rfl <| Jc Tryz.call83 rfl (fun hin => stay_ct _ _ _ (by unfold inI; omega)) rfl ?_
 rintro _ _ ⟨cs2, k2, rfl, rfl, hO2⟩
 refine JLr (Zd 1 (vs := cs2) (l := cs2) Zs rfl rfl rfl rfl hO2.len hO2.ok (ZM (n := 36) rfl hO2.len) <| Zb <| Zh <| ⟨.agg ⟨cs2⟩, [k2, metC r (addK s n)], Ret.one rfl (RV.cell Zs rfl (At.bx 1 rfl) (Zt hO2.len)), (Sk (Sd (Sk Sub.nil))), ?_⟩)
 exact ⟨_, _, rfl, rfl, hO2⟩
theorem freeP_ct (t : Tm) (cs : List Value) (H : Heap) (ht : RT H cs t) (hz : sizeT t ≤ 900000) (hv : vOK t) : CT Tryz.prog 94 ⟨[.agg ⟨cs⟩]⟩ [] H (fun v N => ∃ u k, v = u ∧ N = [k] ∧ Own 3 1 u (ints (XI t)) k) := by
 refine Zm Tryz.func94 rfl rfl <| Zc <| Za <| JLr (Zo (l := cs) rfl rfl fun b1 => JLA rfl <| Zb <| Zc <| Za <| JLr (Runs_makeMap fun r2 => JLr (Zn (l := [.map none]) Tryz.zeroValue176 rfl fun b3 => JLr (Zd 0 (vs := [.map (some r2)]) (l := [.map (some r2)]) ty176 rfl rfl rfl rfl rfl (Zk rfl Zq) rfl <| Zb <| Zc ?_))))
 refine Za <| JLq (.func (.func 131) ⟨[]⟩ ⟨[pp b3 0]⟩) (Pu.makeFunc rfl rfl) <| JLq (.agg ⟨[.func (.func 131) ⟨[]⟩ ⟨[pp b3 0]⟩, .func (.func 84) ⟨[]⟩ ⟨[]⟩]⟩) (Pu.build (pv := [(0, .func (.func 131) ⟨[]⟩ ⟨[pp b3 0]⟩), (1, .func (.func 84) ⟨[]⟩ ⟨[]⟩)]) (l := [.func (.func 131) ⟨[]⟩ ⟨[pp b3 0]⟩, .func (.func 84) ⟨[]⟩ ⟨[]⟩]) rfl (bld136_0_1 _ _ _ _ _ _)) <| JLr (Zg Zs rfl (At.bx 2 rfl) (Zt (Zv ht)) <| ZD 1 rfl Tryz.call85 rfl rfl (fun hin => mapTerm_ct 84 [] [] Tryz.call84 (fun s => s) 131 [] [pp b3 0] Tryz.call131 (List Int) (metC r2) (fun _ => True) metV (fun _ _ _ _ => trivial) _ _ _ _ _ (RT.mono (Hle.hu _ _) ht) (by omega) hv (by decide) (by omega) trivial (fun s h hh => same_ct s h) (fun n b s h hh _ h1 h2 h3 h4 => freeV_ct n b s r2 h b3 (hh _ _ (hin 0 _ rfl _ _ List.mem_cons_self)) h1 h2 h3 h4)) rfl ?_)
 rintro _ _ ⟨cs4, k4, rfl, rfl, hO4⟩
 refine Zb <| Zc <| Za <| JLA rfl <| Zb <| Zc <| Zc <| Za <| JLM rfl <| Zb <| Zl <| ZE (fun k ρ M => ∃ (j : Nat) (v : Value) (k1 : Zj), ρ 2 = nS ∧ ρ 3 = pp b3 0 ∧ ρ 4 = v ∧ ρ 11 = iv ((j : Int)) ∧ Sub [k1, metC r2 (metT t), (BX b3 [.map (some r2)] 176)] M ∧ j ≤ 60 ∧ Own 3 1 v (ints (upTo (metF (metT t)) j)) k1 ∧ k = 60 - j) _ ⟨0, nS, [], rfl, rfl, rfl, rfl, (Sub.emp (Sd (Sk (Sk Sub.nil)))), Nat.zero_le _, Own.nil, rfl⟩ ?_
 rintro _ ρ5 _ ⟨j, v, k1, e6, e7, e8, e9, hm10, hj, ho, rfl⟩
 obtain ⟨ρ11, rfl⟩ := Zr (uc e6 (uc e7 (uc e8 (uc e9 un))))
 clear e6 e7 e8 e9
 refine ZJ hm10 <| Zc <| Za <| JLn (Pu.lss rfl rfl) <| Zb <| Zc <| Zf rfl (fun h12 => ?_) (fun h12 => ?_)
 ·replace h12 := dt h12
  have h12n : j < 60 := by omega
  have hul := upTo_len (metF (metT t)) j
  have hil := ints_len (upTo (metF (metT t)) j)
  have hge := metF_get (metT t) j h12n
  refine Zi <| Zc <| Zl <| Zc <| Za <| JLM rfl <| JLA rfl <| Zb <| Zc <| Za <| JLr (Ze ty176 rfl (At.bx 2 rfl) rfl <| JLM rfl <| JLr (Runs_lookup (i := 1) Tryz.underlying176 Tryz.underlying3 Tryz.zeroValue4 rfl rfl rfl ?_))
  refine Zb <| Zf rfl (fun h13 => ?_) (fun h13 => ?_)
  ·replace h13 := dt h13
   refine Za <| JLm v <| JLM rfl <| JLr (Zp (vs := [iv ((j : Int))]) [[iv ((j : Int))]] Tryz.runUnderlying92 el3 rfl rfl (by intro e he; simp only [List.mem_cons, List.not_mem_nil, or_false] at he; subst he; exact rfl) rfl (by decide) fun b14 k14 ho14 hk14 => ?_)
   have hlens15 : ∀ e ∈ ([[iv ((j : Int))]] : List (List Value)), List.length e = 1 := by
    intro e he; simp only [List.mem_cons, List.not_mem_nil, or_false] at he
    rcases he with rfl
    ·exact rfl
   have hoks15 : ∀ e ∈ ([[iv ((j : Int))]] : List (List Value)), okc e := by
    intro e he; simp only [List.mem_cons, List.not_mem_nil, or_false] at he
    rcases he with rfl
    ·exact (Zk rfl Zq)
   refine JLr (ZA (i := 1) (n := 1) (es' := [[iv ((j : Int))]]) Tryz.runUnderlying92 Tryz.runUnderlying92 (Or.inl rfl) el3 rfl rfl rfl ho (fun F w m => Src.row (((At.k 0 rfl (by rw [hk14]; exact List.mem_cons_self))).heap m) (Zt (Zz hlens15))) rfl hlens15 hoks15 (by decide) (by omega) fun v15 k15 ho15 => JLa v15 <| Zb <| Za <| JLn (Pu.inc rfl rfl (by omega)) <| JLM rfl <| Zb <| ⟨_, ?_, (j + 1), v15, k15, rfl, rfl, rfl, rfl, (Sd (Sk (Sk (Sk Sub.nil)))), ?_, ?_, rfl⟩)
   ·omega
   ·omega
   rw [upTo_succ, hge, if_pos (by simp [h13]), ints_snoc]; exact ho15
  replace h13 := df h13
  refine Zi <| Za <| JLn (Pu.inc rfl rfl (by omega)) <| JLM rfl <| Zb <| ⟨_, ?_, (j + 1), v, k1, rfl, rfl, rfl, rfl, (Sk (Sk (Sk Sub.nil))), ?_, ?_, rfl⟩
  ·omega
  ·omega
  rw [upTo_succ, hge, if_neg (by simp [h13])]; exact ho
 replace h12 := df h12
 have h12n : 60 ≤ j := by omega
 refine Zy _ rfl <| Zc <| Za <| JLm v <| JLa v <| Zb <| Zh <| ⟨v, [k1], Ret.one rfl (RV.tmp rfl), (Sk Sub.nil), ?_⟩
 obtain rfl : j = 60 := by omega
 exact ⟨v, k1, rfl, rfl, ho⟩
end Go.Proofs.YtmophpgiaiemhaaGreat.Hs
/-! Walks, printed by a program of this session's own (gen.py). -/
namespace Go.Proofs.YtmophpgiaiemhaaGreat.Hs
open Go Go.Proofs
set_option maxRecDepth 100000
set_option linter.unusedVariables false
set_option linter.unusedSimpArgs false
attribute [local irreducible] JL J CT wlo DT
theorem greatP_ct : ∀ (p : Pt) (d n : Int) (cs : List Value) (H : Heap) (bN bP : Nat), RP H cs p → 0 ≤ n → n ≤ 400 → H bP = some (.cells ⟨[.func (.func 30) ⟨[]⟩ ⟨[pp bN 0, pp bP 0]⟩]⟩ 72 (0, 0)) → CT Tryz.prog 30 ⟨[.agg ⟨cs⟩, pp bN 0, pp bP 0]⟩ [(BX bN [iv n] 3)] H (fun v N => v = .bool (cnP stG d p n).1 ∧ N = [(BX bN [iv ((cnP stG d p n).2)] 3)]) := by
 intro p
 induction p using Pt.ind with
 | h kind num ref kids ih =>
 intro d n cs H bN bP hp hn0 hn1 hP
 obtain ⟨ks, rfl, hk, hn, hks⟩ := RP_mk.1 hp
 refine Zm Tryz.func30 rfl rfl <| Zc <| Za <| JLr (Zo (l := pkP kind num ref ks) rfl rfl fun b1 => JLA rfl <| Zb <| Zc <| Za <| JLr (Ze ty3 rfl (At.bx 1 rfl) rfl <| JLn (Pu.add64 rfl rfl (by first | omega | (constructor <;> omega))) <| JLr (Zd 1 (vs := [iv (n + 1)]) (l := [iv (n + 1)]) ty3 rfl rfl rfl rfl rfl (Zk rfl Zq) rfl <| Zb <| Zc ?_)))
 refine Za <| JLr (Ze ty3 rfl (At.bx 1 rfl) rfl <| JLn (Pu.gtr rfl rfl) <| JLM rfl ?_)
 cases h2 : (decide (400 < n + 1)) with
 | true =>
  replace h2 := dt h2
  iterate 4 refine ZC rfl ?_
  refine JLq (.bool true) (Pu.pickT rfl rfl) <| JLA rfl <| Zb <| Zh <| ⟨.bool true, [(BX bN [iv (n + 1)] 3)], Ret.one rfl (RV.tmp rfl), (Sd (Sk Sub.nil)), ?_⟩
  refine ⟨?_, ?_⟩ <;> rw [cnP, if_pos (by simp [stG]; omega)]
 | false =>
  replace h2 := df h2
  refine JLq (pp b1 34) (Yl rfl rfl) <| JLr (Ze Xv rfl (At.bx 0 rfl) (Yw ..) <| JLr (Ze ty72 rfl (At.im hP) rfl <| ZD 1 rfl Tryz.call31 rfl rfl (fun hin => containsP_ct 30 [] [pp bN 0, pp bP 0] (fun _ _ => rfl) (fun n => (BX bN [iv n] 3)) (fun n => 0 ≤ n ∧ n ≤ 400) (cnP stG (d + 1)) _ _ _ (RPs.mono (Hle.hu _ _) hks) (n + 1) ⟨by omega, by omega⟩ (fun x hx s hs hf => XM stG_le x _ s hs.1 hf) (fun x hx s hs a h hh ra => ih x hx (d + 1) s a h bN bP ra hs.1 hs.2 (hh _ _ (Hle.hu _ _ _ _ hP)))) rfl ?_))
  rintro _ _ ⟨rfl, rfl⟩
  refine JLq (.bool ((ZP (cnP stG (d + 1)) kids (n + 1)).1)) (Pu.pickF rfl rfl) <| JLA rfl <| Zb <| Zh <| ⟨.bool ((ZP (cnP stG (d + 1)) kids (n + 1)).1), [(BX bN [iv ((ZP (cnP stG (d + 1)) kids (n + 1)).2)] 3)], Ret.one rfl (RV.tmp rfl), (Sk Sub.nil), ?_⟩
  refine ⟨?_, ?_⟩ <;> rw [cnP, if_neg (by simp [stG]; omega), cnPs_any]
theorem greatC_ct : ∀ (c : Pt × Tm) (d n : Int) (a : List Value) (H : Heap) (bN bW bP : Nat), RC H a c → 0 ≤ n → n ≤ 400 → H bW = some (.cells ⟨[.func (.func 32) ⟨[]⟩ ⟨[pp bN 0, pp bW 0, pp bP 0]⟩]⟩ 33 (0, 0)) → H bP = some (.cells ⟨[.func (.func 30) ⟨[]⟩ ⟨[pp bN 0, pp bP 0]⟩]⟩ 72 (0, 0)) → (∀ s a h, Hle H h → RT h a c.2 → 0 ≤ s → s ≤ 400 → CT Tryz.prog 32 ⟨[.agg ⟨a⟩, pp bN 0, pp bW 0, pp bP 0]⟩ [(BX bN [iv s] 3)] h (fun v N => v = .bool (cnT stG d c.2 s).1 ∧ N = [(BX bN [iv ((cnT stG d c.2 s).2)] 3)])) → CT Tryz.prog 35 ⟨[.agg ⟨a⟩, pp bP 0, pp bW 0]⟩ [(BX bN [iv n] 3)] H (fun v N => v = .bool (cnC stG d c n).1 ∧ N = [(BX bN [iv ((cnC stG d c n).2)] 3)]) := by
 intro c d n a H bN bW bP ⟨ca, cb, e1, ra1, ra2⟩ hn0 hn1 hW hP hg
 subst e1
 refine Zm Tryz.func35 rfl rfl <| Zc <| Za <| JLr (Zo (l := ca ++ cb) rfl rfl fun b1 => JLA rfl <| Zb <| Zc <| Za <| JLr (Ze ty72 rfl (At.im hP) rfl <| JLq (pp b1 0) (Y1 rfl rfl) <| JLr (Zg Z6 rfl (At.bx 0 rfl) (YE (Zu ra1)) <| ZD 1 rfl Tryz.call30 rfl rfl (fun hin => greatP_ct _ d _ _ _ bN bP (RP.mono (Hle.hu _ _) ra1) hn0 hn1 (Hle.hu _ _ _ _ hP)) rfl ?_)))
 rintro _ _ ⟨rfl, rfl⟩
 refine JLM rfl ?_
 cases h3 : ((cnP stG d (c.1) n).1) with
 | true =>
  iterate 4 refine ZC rfl ?_
  refine JLq (.bool true) (Pu.pickT rfl rfl) <| JLA rfl <| Zb <| Zh <| ⟨.bool true, [(BX bN [iv ((cnP stG d (c.1) n).2)] 3)], Ret.one rfl (RV.tmp rfl), (Sk Sub.nil), ?_⟩
  refine ⟨?_, ?_⟩ <;> rw [cnC, if_pos h3]
 | false =>
  refine JLr (Ze ty33 rfl (At.im hW) rfl <| JLq (pp b1 35) (fa80_1 rfl rfl) <| JLr (Zg Zs rfl (At.bx 1 rfl) (Xg (Zu ra1) (Zv ra2)) <| ZD 0 rfl Tryz.call32 rfl rfl (fun hin => hg _ _ _ (Hle.hu _ _) (RT.mono (Hle.hu _ _) ra2) (XM stG_le _ _ _ hn0 h3).1 (XM stG_le _ _ _ hn0 h3).2) rfl ?_))
  rintro _ _ ⟨rfl, rfl⟩
  refine JLq (.bool ((cnT stG d (c.2) ((cnP stG d (c.1) n).2)).1)) (Pu.pickF rfl rfl) <| JLA rfl <| Zb <| Zh <| ⟨.bool ((cnT stG d (c.2) ((cnP stG d (c.1) n).2)).1), [(BX bN [iv ((cnT stG d (c.2) ((cnP stG d (c.1) n).2)).2)] 3)], Ret.one rfl (RV.tmp rfl), (Sk Sub.nil), ?_⟩
  refine ⟨?_, ?_⟩ <;> rw [cnC, if_neg (by simp [h3])]
theorem greatT_ct : ∀ (t : Tm) (d n : Int) (cs : List Value) (H : Heap) (bN bW bP : Nat), RT H cs t → 0 ≤ n → n ≤ 400 → H bW = some (.cells ⟨[.func (.func 32) ⟨[]⟩ ⟨[pp bN 0, pp bW 0, pp bP 0]⟩]⟩ 33 (0, 0)) → H bP = some (.cells ⟨[.func (.func 30) ⟨[]⟩ ⟨[pp bN 0, pp bP 0]⟩]⟩ 72 (0, 0)) → CT Tryz.prog 32 ⟨[.agg ⟨cs⟩, pp bN 0, pp bW 0, pp bP 0]⟩ [(BX bN [iv n] 3)] H (fun v N => v = .bool (cnT stG d t n).1 ∧ N = [(BX bN [iv ((cnT stG d t n).2)] 3)]) := by
 intro t
 induction t using Tm.ind with
 | h kind num ref kids cases ih ih' =>
 intro d n cs H bN bW bP ht hn0 hn1 hW hP
 obtain ⟨ks, cv, rfl, hk, hn, hks, hcv⟩ := RT_mk.1 ht
 refine Zm Tryz.func32 rfl rfl <| Zc <| Za <| JLr (Zo (l := pkT kind num ref ks cv) rfl rfl fun b1 => JLA rfl <| Zb <| Zc <| Za <| JLr (Ze ty3 rfl (At.bx 1 rfl) rfl <| JLn (Pu.add64 rfl rfl (by first | omega | (constructor <;> omega))) <| JLr (Zd 1 (vs := [iv (n + 1)]) (l := [iv (n + 1)]) ty3 rfl rfl rfl rfl rfl (Zk rfl Zq) rfl <| Zb <| Zc ?_)))
 refine Za <| JLr (Ze ty3 rfl (At.bx 1 rfl) rfl <| JLn (Pu.gtr rfl rfl) <| JLM rfl ?_)
 cases h2 : (decide (400 < n + 1)) with
 | true =>
  replace h2 := dt h2
  iterate 4 refine ZC rfl ?_
  refine JLq (.bool true) (Pu.pickT rfl rfl) <| JLM rfl ?_
  iterate 4 refine ZC rfl ?_
  refine JLq (.bool true) (Pu.pickT rfl rfl) <| JLA rfl <| Zb <| Zh <| ⟨.bool true, [(BX bN [iv (n + 1)] 3)], Ret.one rfl (RV.tmp rfl), (Sd (Sk Sub.nil)), ?_⟩
  refine ⟨?_, ?_⟩ <;> rw [cnT, if_pos (by simp [stG]; omega)]
 | false =>
  replace h2 := df h2
  refine JLq (pp b1 34) (Z8 rfl rfl) <| JLr (Ze YW rfl (At.bx 0 rfl) (Yb ..) <| JLr (Ze ty33 rfl (At.im hW) rfl <| ZD 1 rfl Tryz.call33 rfl rfl (fun hin => containsT_ct 32 [] [pp bN 0, pp bW 0, pp bP 0] (fun _ _ => rfl) (fun n => (BX bN [iv n] 3)) (fun n => 0 ≤ n ∧ n ≤ 400) (cnT stG (d + 1)) _ _ _ (RTs.mono (Hle.hu _ _) hks) (n + 1) ⟨by omega, by omega⟩ (fun x hx s hs hf => cnT_keep stG_le x _ s hs.1 hf) (fun x hx s hs a h hh ra => ih x hx (d + 1) s a h bN bW bP ra hs.1 hs.2 (hh _ _ (Hle.hu _ _ _ _ hW)) (hh _ _ (Hle.hu _ _ _ _ hP)))) rfl ?_))
  rintro _ _ ⟨rfl, rfl⟩
  refine JLq (.bool ((ZP (cnT stG (d + 1)) kids (n + 1)).1)) (Pu.pickF rfl rfl) <| JLM rfl ?_
  cases h4 : ((ZP (cnT stG (d + 1)) kids (n + 1)).1) with
  | true =>
   iterate 4 refine ZC rfl ?_
   refine JLq (.bool true) (Pu.pickT rfl rfl) <| JLA rfl <| Zb <| Zh <| ⟨.bool true, [(BX bN [iv ((ZP (cnT stG (d + 1)) kids (n + 1)).2)] 3)], Ret.one rfl (RV.tmp rfl), (Sk Sub.nil), ?_⟩
   refine ⟨?_, ?_⟩ <;> rw [cnT, if_neg (by simp [stG]; omega), cnTs_any, if_pos h4]
  | false =>
   refine JLq (pp b1 35) (Z1 rfl rfl) <| JLr (Ze YI rfl (At.bx 1 rfl) (Z2 ..) <| JLq (.func (.func 35) ⟨[]⟩ ⟨[pp bP 0, pp bW 0]⟩) (Pu.makeFunc rfl rfl) <| ZD 0 rfl Tryz.call34 rfl rfl (fun hin => containsC_ct 35 [] [pp bP 0, pp bW 0] (fun _ _ => rfl) (fun n => (BX bN [iv n] 3)) (fun n => 0 ≤ n ∧ n ≤ 400) (cnC stG (d + 1)) _ _ _ (RCs.mono (Hle.hu _ _) hcv) ((ZP (cnT stG (d + 1)) kids (n + 1)).2) (anyT_keep stG_le _ _ _ (by omega) (by omega) h4) (fun x hx s hs hf => cnC_keep stG_le x _ s hs.1 hf) (fun x hx s hs a h hh ra => greatC_ct x (d + 1) s a h bN bW bP ra hs.1 hs.2 (hh _ _ (Hle.hu _ _ _ _ hW)) (hh _ _ (Hle.hu _ _ _ _ hP)) (fun s' a' h' hh' ra' k1 k2 => ih' x hx (d + 1) s' a' h' bN bW bP ra' k1 k2 (hh' _ _ (hh _ _ (Hle.hu _ _ _ _ hW))) (hh' _ _ (hh _ _ (Hle.hu _ _ _ _ hP)))))) rfl ?_)
   rintro _ _ ⟨rfl, rfl⟩
   refine JLq (.bool ((ZP (cnC stG (d + 1)) cases ((ZP (cnT stG (d + 1)) kids (n + 1)).2)).1)) (Pu.pickF rfl rfl) <| JLA rfl <| Zb <| Zh <| ⟨.bool ((ZP (cnC stG (d + 1)) cases ((ZP (cnT stG (d + 1)) kids (n + 1)).2)).1), [(BX bN [iv ((ZP (cnC stG (d + 1)) cases ((ZP (cnT stG (d + 1)) kids (n + 1)).2)).2)] 3)], Ret.one rfl (RV.tmp rfl), (Sk Sub.nil), ?_⟩
   refine ⟨?_, ?_⟩ <;> rw [cnT, if_neg (by simp [stG]; omega), cnTs_any, if_neg (by simp [h4]), cnCs_any]
theorem great_ct (t : Tm) (cs : List Value) (H : Heap) (ht : RT H cs t) : CT Tryz.prog 5 ⟨[.agg ⟨cs⟩]⟩ [] H (fun v N => v = .bool (cnT stG 0 t 0).1 ∧ N = []) := by
 refine Zm Tryz.func5 rfl rfl <| Zc <| Za <| JLr (Zo (l := cs) rfl rfl fun b1 => JLA rfl <| Zb <| Zc <| Za <| JLr (Zn (l := [iv 0]) Tryz.zeroValue3 rfl fun b2 => JLr (Zd 0 (vs := [iv 0]) (l := [iv 0]) ty3 rfl rfl rfl rfl rfl (Zk rfl Zq) rfl <| Zb <| Zc <| Za ?_)))
 refine JLr (Zn (l := [.nilFunc]) Tryz.zeroValue72 rfl fun b3 => Zb <| Zc <| Za <| JLq (.func (.func 30) ⟨[]⟩ ⟨[pp b2 0, pp b3 0]⟩) (Pu.makeFunc rfl rfl) <| JLr (Zd 0 (vs := [.func (.func 30) ⟨[]⟩ ⟨[pp b2 0, pp b3 0]⟩]) (l := [.func (.func 30) ⟨[]⟩ ⟨[pp b2 0, pp b3 0]⟩]) ty72 rfl rfl rfl rfl rfl (Zk rfl Zq) rfl <| Zb <| Zc <| Za <| JLr (Zn (l := [.nilFunc]) Tryz.zeroValue33 rfl fun b4 => Zb <| Zc <| Za ?_)))
 refine JLq (.func (.func 32) ⟨[]⟩ ⟨[pp b2 0, pp b4 0, pp b3 0]⟩) (Pu.makeFunc rfl rfl) <| JLr (Zd 0 (vs := [.func (.func 32) ⟨[]⟩ ⟨[pp b2 0, pp b4 0, pp b3 0]⟩]) (l := [.func (.func 32) ⟨[]⟩ ⟨[pp b2 0, pp b4 0, pp b3 0]⟩]) ty33 rfl rfl rfl rfl rfl (Zk rfl Zq) rfl <| Zb <| Zc <| Za <| JLr (Ze ty33 rfl (At.bx 0 rfl) rfl <| JLr (Zg Zs rfl (At.bx 3 rfl) (Zt (Zv ht)) <| ZD 2 rfl Tryz.call32 rfl rfl (fun hin => greatT_ct _ 0 _ _ _ _ _ _ (RT.mono (Hle.hu _ _) ht) (by decide) (by decide) (hin 0 _ rfl _ _ List.mem_cons_self) (hin 1 _ rfl _ _ List.mem_cons_self)) rfl ?_)))
 rintro _ _ ⟨rfl, rfl⟩
 refine JLA rfl <| Zb <| Zh <| ⟨.bool ((cnT stG 0 t 0).1), [], Ret.one rfl (RV.tmp rfl), Sub.nil, ?_⟩
 exact ⟨rfl, rfl⟩
end Go.Proofs.YtmophpgiaiemhaaGreat.Hs
