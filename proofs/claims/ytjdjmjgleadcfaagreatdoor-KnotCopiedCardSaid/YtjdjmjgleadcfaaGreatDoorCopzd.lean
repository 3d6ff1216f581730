import Derived.Test.YtjdjmjgleadcfaaGreatDoorCopzc
import Derived.Shelf.Small.Bits
import Derived.Shelf.Small.Wraps
import Derived.Shelf.Strconv.Itoa0
import Derived.Shelf.Sort.Plain
import Derived.Shelf.Slices.Turned
import Derived.Shelf.Slices.Equal
import Derived.Ground.Names2Prog
import Derived.Shelf.Slices.CompactI
import Derived.Shelf.Slices.SearchI
import Derived.Shelf.Slices.Cells
import Derived.Shelf.Slices.In.SortNone
import Derived.Shelf.Slices.Empties2
import Derived.Sort.OwnSortedInts
set_option linter.unusedVariables false
set_option linter.unusedSimpArgs false
set_option maxRecDepth 100000
open Go.Proofs.Tryz
open List (getElem_mem replicate mem_cons_self mem_cons not_mem_nil append_assoc take_of_length_le range length_append getD_eq_getElem?_getD getElem?_eq_getElem mem_append length_take take_succ_eq_append_getElem length_cons length_map length_set flatten_cons mem_map mem_range map_append length_drop flatten map_cons length_replicate flatten_append append_nil take_succ_cons all_eq_true eq_nil_of_length_eq_zero mem_flatten getElem?_map ext_getElem perm_append_comm mem_cons_of_mem getElem_map drop_eq_getElem_cons mem_singleton getElem?_eq_none nodup_cons flatten_nil mem_filter map_congr_left take_append_drop drop_eq_nil_of_le getElem?_replicate getElem_range map_nil getElem_cons_succ any_eq_true nodup_append set_cons_succ range_succ filter_append filter_cons getElem_append_left length_filter_le length_range set_cons_zero)
namespace Go.Proofs
section
open Go.Shelf
def Zdf:Go.Shelf.Ren:=⟨fun | 189=>149 | 125=>191 | 257=>190 | 128=>227 | 129=>228 | 294=>218 | 295=>219 | 296=>220 | 297=>221 | 298=>222 | 299=>223 | 216=>224 | 300=>225 | 301=>226 | 328=>237 | 329=>238 | 330=>239 | 331=>240 | 332=>241 | 215=>242 | 343=>245 | n=>n,fun | 28=>45 | 3=>3 | 46=>159 | 0=>0 | 51=>137 | 53=>107 | 4=>4 | 183=>258 | 182=>257 | 131=>167 | 5=>5 | 9=>9 | 218=>269 | 222=>273 | 228=>275 | 229=>180 | n=>n,fun | n=>n⟩
theorem Zdc:Go.Proofs.Lays.n189 prog Zdf:={
  mixed:=by kernel_rfl
  f125:=func191.trans (congrArg some (by kernel_rfl))
  f128:=func227.trans (congrArg some (by kernel_rfl))
  f129:=func228.trans (congrArg some (by kernel_rfl))
  f189:=func149.trans (congrArg some (by kernel_rfl))
  f215:=func242.trans (congrArg some (by kernel_rfl))
  f216:=func224.trans (congrArg some (by kernel_rfl))
  f257:=func190.trans (congrArg some (by kernel_rfl))
  f294:=func218.trans (congrArg some (by kernel_rfl))
  f295:=func219.trans (congrArg some (by kernel_rfl))
  f296:=func220.trans (congrArg some (by kernel_rfl))
  f297:=func221.trans (congrArg some (by kernel_rfl))
  f298:=func222.trans (congrArg some (by kernel_rfl))
  f299:=func223.trans (congrArg some (by kernel_rfl))
  f300:=func225.trans (congrArg some (by kernel_rfl))
  f301:=func226.trans (congrArg some (by kernel_rfl))
  f328:=func237.trans (congrArg some (by kernel_rfl))
  f329:=func238.trans (congrArg some (by kernel_rfl))
  f330:=func239.trans (congrArg some (by kernel_rfl))
  f331:=func240.trans (congrArg some (by kernel_rfl))
  f332:=func241.trans (congrArg some (by kernel_rfl))
  f343:=func245.trans (congrArg some (by kernel_rfl))
  t0:=underlying0
  a0:=isAgg0
  z0:=sizeOf0
  v0:=zeroValue0
  t3:=underlying3
  a3:=isAgg3
  z3:=sizeOf3
  v3:=zeroValue3
  t4:=underlying4
  a4:=isAgg4
  z4:=sizeOf4
  v4:=zeroValue4
  t5:=underlying5
  a5:=isAgg5
  z5:=sizeOf5
  v5:=zeroValue5
  t9:=underlying9
  a9:=isAgg9
  z9:=sizeOf9
  v9:=zeroValue9
  t28:=underlying45
  a28:=isAgg45
  z28:=sizeOf45
  v28:=zeroValue45
  t46:=underlying159
  a46:=isAgg159
  z46:=sizeOf159
  v46:=zeroValue159
  t51:=underlying137
  a51:=isAgg137
  z51:=sizeOf137
  v51:=zeroValue137
  t53:=underlying107
  a53:=isAgg107
  z53:=sizeOf107
  v53:=zeroValue107
  t131:=underlying167
  a131:=isAgg167
  z131:=sizeOf167
  v131:=zeroValue167
  t182:=underlying257
  a182:=isAgg257
  z182:=sizeOf257
  v182:=zeroValue257
  t183:=underlying258
  a183:=isAgg258
  z183:=sizeOf258
  v183:=zeroValue258
  t218:=underlying269
  a218:=isAgg269
  z218:=sizeOf269
  v218:=zeroValue269
  t222:=underlying273
  a222:=isAgg273
  z222:=sizeOf273
  v222:=zeroValue273
  t228:=underlying275
  a228:=isAgg275
  z228:=sizeOf275
  v228:=zeroValue275
  t229:=underlying180
  a229:=isAgg180
  z229:=sizeOf180
  v229:=zeroValue180}
open Go.Sort Go.RowKit in
theorem slices_Sort_int (blk off cap:Nat) (zs:List Int) (w:World) (hH:Holds (Value.int .i64) w blk off zs.toArray) (hblk:blk<w.heap.size) (hsz:zs.length<4611686018427387904):
    Calls prog 149 #[.slice (some ⟨blk,off,none⟩) zs.length cap] w fun e w'=>
      e=.returned (.tuple #[])∧∃ n os,w'=grow (putRow (Value.int .i64) (Sort.ahead w n) blk off (zs.mergeSort fun x y=>decide (x≤y)).toArray) os:=Any.slices_Sort_int Zdc blk off cap zs w hH hblk hsz
def Zdd:Go.Shelf.Ren:=⟨fun | 20=>150 | n=>n,fun | 22=>45 | 3=>3 | 4=>4 | 0=>0 | n=>n,fun | n=>n⟩
theorem Zc9:Go.Proofs.Lays2.n20 prog Zdd:={
  mixed:=by kernel_rfl
  f20:=func150.trans (congrArg some (by kernel_rfl))
  t0:=underlying0
  a0:=isAgg0
  z0:=sizeOf0
  v0:=zeroValue0
  t3:=underlying3
  a3:=isAgg3
  z3:=sizeOf3
  v3:=zeroValue3
  t4:=underlying4
  a4:=isAgg4
  z4:=sizeOf4
  v4:=zeroValue4
  t22:=underlying45
  a22:=isAgg45
  z22:=sizeOf45
  v22:=zeroValue45
  i3:=by kernel_rfl}
open Go.RowKit Go.Lib Go.Sort in
theorem slices_Compact_int (blk off cap:Nat) (zs:List Int) (w:World) (hH:Holds (Value.int .i64) w blk off zs.toArray) (hsz:zs.length≤9223372036854775807) (hcap:zs.length≤cap):
    Calls prog 150 #[.slice (some ⟨blk,off,none⟩) zs.length cap] w fun e w'=>e=.returned (.slice (some ⟨blk,off,none⟩) (Lib.compact zs).length cap)∧∃ q,w'=putRow (Value.int .i64) (Sort.ahead w q) blk off (Lib.compact zs++replicate (zs.length-(Lib.compact zs).length) 0).toArray:=Any.slices_Compact_int Zc9 blk off cap zs w hH hsz hcap
open Go.RowKit Go.Lib Go.Sort in
theorem slices_Compact_int_empty (a:Option Addr) (cap:Nat) (w:World):
    Calls prog 150 #[.slice a 0 cap] w fun e w'=>e=.returned (.slice a 0 cap)∧w'=w:=Any.slices_Compact_int_empty Zc9 a cap w
open Go.RowKit Go.Sort in
theorem slices_Sort_int_none (p:Option Addr) (cap:Nat) (w:World):
    Calls prog 149 #[.slice p 0 cap] w fun e w'=>e=.returned (.tuple #[])∧w'=w:=Any.slices_Sort_int_none Zdc p cap w
end
end Go.Proofs
namespace Go.Proofs.YtjdjmjgleadcfaaGreatDoor.Hs
section
open Go Go.Proofs Go.Sort Go.RowKit Go.MapKept
theorem Zdn {w w':World} {L:Zf} {H:Heap} {b:Nat} {o o':Obj} (m:Mem w ((b,o)::L) H)
    (hb:w'.heap[b]?=some o') (hne:∀ k,k<w.heap.size→k≠b→w'.heap[k]?=w.heap[k]?) (hr:Still w w'):Mem w' ((b,o')::L) H:=by
  have hnd:=m.nd
  rw [map_cons,nodup_cons] at hnd
  have lt:∀ {k:Nat} {x:Obj},w.heap[k]?=some x→k<w.heap.size:=fun h=>(Array.getElem?_eq_some_iff.1 h).1
  refine ⟨by rw [map_cons,nodup_cons];exact hnd,?_,?_,?_,hr.rest m.rest⟩
  · intro k x hk
    rcases mem_cons.1 hk with e | hk
    · cases e;exact hb
    · have h1:=m.own k x (mem_cons.2 (.inr hk))
      rw [hne k (lt h1) (fun e=>hnd.1 (mem_map.2 ⟨(k,x),hk,e⟩))];exact h1
  · intro k x hk
    rcases mem_cons.1 hk with e | hk
    · cases e;exact m.sep b o (mem_cons.2 (.inl rfl))
    · exact m.sep k x (mem_cons.2 (.inr hk))
  · intro k x hk
    have h1:=m.imm k x hk
    rw [hne k (lt h1) (fun e=>by subst e;rw [m.sep k o (mem_cons.2 (.inl rfl))] at hk;cases hk)];exact h1
theorem VH (l:List Int):(Z2 l).flatten=l.map (Value.int .i64):=by
  induction l with
  | nil=>rfl
  | cons x l ih=>rw [show Z2 (x::l)=[.int .i64 x]::Z2 l from rfl,flatten_cons,ih];rfl
theorem Jt {T:TypeId} {b n cap:Nat} {cur:List Value} {ts:List Int} (hc:cur.length=cap) (hts:ts.length≤cap) (hn:n≤ts.length) {us:List Int} (hus:us=ts.take n):
    Own T 1 (.slice (some ⟨b,0,none⟩) n cap) (Z2 us) [(b,.cells (putCells (Value.int .i64) 0 ts.toArray ⟨cur⟩) T (0,0))]:=by
  subst hus
  have e:=take_putCellsI ⟨cur⟩ ts (by simpa [hc] using hts)
  have hl:(ts.take n).length=n:=by rw [length_take];omega
  have hsz:(putCells (Value.int .i64) 0 ts.toArray ⟨cur⟩).size=cap:=by simp [putCells,hc]
  have e2:(putCells (Value.int .i64) 0 ts.toArray ⟨cur⟩).toList.take n=(ts.take n).map (Value.int .i64):=by
    rw [List.map_take,← e,List.take_take,Nat.min_eq_left hn]
  refine ⟨fun x hx=>Hc _ x hx,.inr ⟨b,cap,(putCells (Value.int .i64) 0 ts.toArray ⟨cur⟩).toList.drop n,by rw [Zv,hl],?_,?_,by rw [Zv,hl];omega⟩⟩
  · rw [VH,← e2,take_append_drop]
  · rw [length_drop,Array.length_toList,hsz,Zv,hl,Nat.mul_one]
theorem Gx (l:List Int) (v:Value) (k:Zf) (H:Heap) (ho:Own 3 1 v (Z2 l) k) (hl:l.length≤1000000):
    CT prog 149 ⟨[v]⟩ [k] H (fun r N=>r=.tuple ⟨[]⟩∧∃ k',N=[k']∧Own 3 1 v (Z2 (l.mergeSort fun x y=>decide (x≤y))) k'):=fun F w m=>by
  rw [callsIn_wide]
  obtain ⟨h1,⟨rfl,he,rfl⟩ | ⟨b,cap,spare,rfl,rfl,hsp,hcap⟩⟩:=ho
  · have:l=[]:=by cases l with
      | nil=>rfl
      | cons x l=>cases he
    subst this
    refine (slices_Sort_int_none none 0 w).mono ?_
    rintro e w' ⟨rfl,rfl⟩
    exact ⟨_,[[]],rfl,m,rfl,[],rfl,by simpa [Z2] using (Own.nil:Own 3 1 (.slice none 0 0) [] [])⟩
  · rw [Zv] at hsp hcap ⊢
    have hb:=m.own b _ (by simp:(b,Obj.cells ⟨(Z2 l).flatten++spare⟩ 3 (0,0))∈_)
    have hcl:((Z2 l).flatten++spare).length=cap:=by rw [length_append,VH,length_map,hsp];omega
    have ht:((⟨(Z2 l).flatten++spare⟩:Array Value)).toList.take l.length=l.map (Value.int .i64):=by
      show ((Z2 l).flatten++spare).take l.length=_
      rw [VH,List.take_append_of_le_length (by simp),take_of_length_le (by simp)]
    refine (slices_Sort_int b 0 cap l w (holds_of_blockI hb ht) (Array.getElem?_eq_some_iff.1 hb).1 (by omega)).mono ?_
    rintro e w' ⟨rfl,n,os,rfl⟩
    have hg:=grownBy_sortedI (w:=w) (g:=b) (n:=n) (os:=os) (l.mergeSort fun x y=>decide (x≤y)).toArray
    have hm:Mem (grow (putRow (Value.int .i64) (Sort.ahead w n) b 0 (l.mergeSort fun x y=>decide (x≤y)).toArray) os) ((b,.cells (putCells (Value.int .i64) 0 (l.mergeSort fun x y=>decide (x≤y)).toArray ⟨(Z2 l).flatten++spare⟩) 3 (0,0))::F) H:=by
      refine Zdn (w:=w) (o:=.cells ⟨(Z2 l).flatten++spare⟩ 3 (0,0)) (by simpa using m) (heap_sortedI _ hb) ?_ ⟨rfl,rfl,rfl,Nat.le_add_right _ _⟩
      intro k hk hne
      exact hg.block k hk (fun e=>hne (Option.some.inj e))
    refine ⟨_,[[(b,.cells (putCells (Value.int .i64) 0 (l.mergeSort fun x y=>decide (x≤y)).toArray ⟨(Z2 l).flatten++spare⟩) 3 (0,0))]],rfl,by simpa using hm,rfl,_,rfl,?_⟩
    have:=Jt (T:=3) (b:=b) (n:=l.length) (cap:=cap) (cur:=(Z2 l).flatten++spare) (ts:=l.mergeSort fun x y=>decide (x≤y)) hcl (by simp;omega) (by simp) (us:=l.mergeSort fun x y=>decide (x≤y)) (by rw [take_of_length_le (by simp)])
    exact this
theorem M6 (l:List Int) (v:Value) (k:Zf) (H:Heap) (ho:Own 3 1 v (Z2 l) k) (hl:l.length≤1000000):
    CT prog 150 ⟨[v]⟩ [k] H (fun r N=>∃ k',N=[k']∧Own 3 1 r (Z2 (Lib.compact l)) k'):=fun F w m=>by
  rw [callsIn_wide]
  obtain ⟨h1,⟨rfl,he,rfl⟩ | ⟨b,cap,spare,rfl,rfl,hsp,hcap⟩⟩:=ho
  · have:l=[]:=by cases l with
      | nil=>rfl
      | cons x l=>cases he
    subst this
    refine (slices_Compact_int_empty none 0 w).mono ?_
    rintro e w' ⟨rfl,rfl⟩
    exact ⟨_,[[]],rfl,m,[],rfl,Own.nil⟩
  · rw [Zv] at hsp hcap ⊢
    have hb:=m.own b _ (by simp:(b,Obj.cells ⟨(Z2 l).flatten++spare⟩ 3 (0,0))∈_)
    have hcl:((Z2 l).flatten++spare).length=cap:=by rw [length_append,VH,length_map,hsp];omega
    have ht:((⟨(Z2 l).flatten++spare⟩:Array Value)).toList.take l.length=l.map (Value.int .i64):=by
      show ((Z2 l).flatten++spare).take l.length=_
      rw [VH,List.take_append_of_le_length (by simp),take_of_length_le (by simp)]
    have hcle:=Lib.compact_length_le l
    refine (slices_Compact_int b 0 cap l w (holds_of_blockI hb ht) (by omega) hcap).mono ?_
    rintro e w' ⟨rfl,n,rfl⟩
    obtain ⟨ts,hts⟩:∃ ts,ts=Lib.compact l++replicate (l.length-(Lib.compact l).length) 0:=⟨_,rfl⟩
    have htl:ts.length=l.length:=by rw [hts];simp;omega
    rw [← hts]
    have hg:=grownBy_sortedI (w:=w) (g:=b) (n:=n) (os:=#[]) ts.toArray
    have e0:∀ w:World,grow w #[]=w:=by intro w;simp [grow]
    rw [e0] at hg
    have hb':=heap_sortedI (n:=n) (os:=#[]) ts.toArray hb
    rw [e0] at hb'
    have hm:Mem (putRow (Value.int .i64) (Sort.ahead w n) b 0 ts.toArray) ((b,.cells (putCells (Value.int .i64) 0 ts.toArray ⟨(Z2 l).flatten++spare⟩) 3 (0,0))::F) H:=by
      refine Zdn (w:=w) (o:=.cells ⟨(Z2 l).flatten++spare⟩ 3 (0,0)) (by simpa using m) hb' ?_ ⟨rfl,rfl,rfl,Nat.le_add_right _ _⟩
      intro k hk hne
      exact hg.block k hk (fun e=>hne (Option.some.inj e))
    refine ⟨_,[[(b,.cells (putCells (Value.int .i64) 0 ts.toArray ⟨(Z2 l).flatten++spare⟩) 3 (0,0))]],rfl,by simpa using hm,_,rfl,?_⟩
    exact Jt (T:=3) (b:=b) (n:=(Lib.compact l).length) (cap:=cap) (cur:=(Z2 l).flatten++spare) (ts:=ts) hcl (by omega) (by omega) (us:=Lib.compact l) (by rw [hts,List.take_left])
section
variable {c:Cx} {H:Heap} {ρ:Nat→Value} {M:List Zf} {K:Value→List Zf→Prop} {d:Option Nat} {ot:TypeId} {pos:String} {af:Array Edge} {g:Option (Nat×Bool)} {x y:Operand}
end
theorem Ph (a b:List Int):Z2 (a++b)=Z2 a++Z2 b:=by unfold Z2;rw [map_append]
end
mutual
def sfR:Tm→List Int
  | .mk k n _ kids cases=>if k=7 then [n] else Yl kids++Yp cases
def Yl:List Tm→List Int
  | []=>[]
  | t::l=>sfR t++Yl l
def Yp:List (Pt×Tm)→List Int
  | []=>[]
  | c::l=>sfR c.2++Yp l
end
theorem Iz {l:List Tm} {j:Nat} (h:j<l.length):Yl (l.take (j+1))=Yl (l.take j)++sfR l[j]:=by
  induction l generalizing j with
  | nil=>exact absurd h (by simp)
  | cons t l ih=>
    cases j with
    | zero=>simp [Yl]
    | succ j=>simp only [take_succ_cons,Yl,getElem_cons_succ];rw [ih (by simpa using h),append_assoc]
theorem IA {l:List (Pt×Tm)} {j:Nat} (h:j<l.length):Yp (l.take (j+1))=Yp (l.take j)++sfR l[j].2:=by
  induction l generalizing j with
  | nil=>exact absurd h (by simp)
  | cons t l ih=>
    cases j with
    | zero=>simp [Yp]
    | succ j=>simp only [take_succ_cons,Yp,getElem_cons_succ];rw [ih (by simpa using h),append_assoc]
mutual
theorem O0:∀ t:Tm,(sfR t).length≤sizeT t
  | .mk k n r kids cases=>by
    rw [sfR,sizeT]
    split
    · simp;omega
    · rw [length_append];have:=N8 kids;have:=Ma cases;omega
theorem N8:∀ l:List Tm,(Yl l).length≤sizeTs l
  | []=>by simp [Yl,sizeTs]
  | t::l=>by rw [Yl,sizeTs,length_append];have:=O0 t;have:=N8 l;omega
theorem Ma:∀ l:List (Pt×Tm),(Yp l).length≤sizeCs l
  | []=>by simp [Yp,sizeCs]
  | c::l=>by rw [Yp,sizeCs,length_append];have:=O0 c.2;have:=Ma l;omega
end
theorem RJ (l:List Tm) (j:Nat):sizeTs (l.take j)≤sizeTs l:=by
  induction l generalizing j with
  | nil=>simp
  | cons t l ih=>
    cases j with
    | zero=>simp [sizeTs]
    | succ j=>simp only [take_succ_cons,sizeTs];have:=ih j;omega
theorem N6 (l:List (Pt×Tm)) (j:Nat):sizeCs (l.take j)≤sizeCs l:=by
  induction l generalizing j with
  | nil=>simp
  | cons t l ih=>
    cases j with
    | zero=>simp [sizeCs]
    | succ j=>simp only [take_succ_cons,sizeCs];have:=ih j;omega
mutual
def Z8 (by':List Int) (sums:List Sm):Tm→Tm
  | .mk k n r kids cases=>if k=7 then (if by'.getD n.toNat 0<0 then .mk 6 0 (sums.getD n.toNat zS) [] [] else .mk 7 (by'.getD n.toNat 0) zS [] []) else .mk k n r (ZZ by' sums kids) (ZW by' sums cases)
def ZZ (by':List Int) (sums:List Sm):List Tm→List Tm
  | []=>[]
  | t::l=>Z8 by' sums t::ZZ by' sums l
def ZW (by':List Int) (sums:List Sm):List (Pt×Tm)→List (Pt×Tm)
  | []=>[]
  | c::l=>(c.1,Z8 by' sums c.2)::ZW by' sums l
end
theorem Vy (b:List Int) (s:List Sm) (l:List Tm):ZZ b s l=l.map (Z8 b s):=by induction l with
  | nil=>rfl
  | cons t l ih=>rw [ZZ,ih];rfl
theorem Vz (b:List Int) (s:List Sm) (l:List (Pt×Tm)):ZW b s l=l.map fun c=>(c.1,Z8 b s c.2):=by induction l with
  | nil=>rfl
  | cons t l ih=>rw [ZW,ih];rfl
theorem Ob (b:List Int) (s:List Sm) (l:List Tm):(ZZ b s l).length=l.length:=by rw [Vy,length_map]
theorem Oc (b:List Int) (s:List Sm) (l:List (Pt×Tm)):(ZW b s l).length=l.length:=by rw [Vz,length_map]
theorem LS (b:List Int) (s:List Sm) (l:List Tm) (j:Nat) (h:j<l.length):ZZ b s (l.take (j+1))=ZZ b s (l.take j)++[Z8 b s l[j]]:=by
  rw [Vy,Vy,take_succ_eq_append_getElem h,map_append];rfl
theorem LT (b:List Int) (s:List Sm) (l:List (Pt×Tm)) (j:Nat) (h:j<l.length):ZW b s (l.take (j+1))=ZW b s (l.take j)++[((l[j]).1,Z8 b s (l[j]).2)]:=by
  rw [Vz,Vz,take_succ_eq_append_getElem h,map_append];rfl
def Wd (f:Tm→Int):List Tm→Int
  | []=>0
  | t::l=>if f t=0 then Wd f l else f t
def YI (f:Int→Tm→Int) (l:List Tm):Int:=if l.length<1∨8<l.length then 2 else Wd (f l.length) l
theorem Ia {f:Tm→Int} {l:List Tm} {j:Nat} (h:j<l.length) (hi:Wd f (l.drop j)=Wd f l) (h0:f l[j]=0):Wd f (l.drop (j+1))=Wd f l:=by
  rw [drop_eq_getElem_cons h,Wd,if_pos h0] at hi;exact hi
theorem OF {f:Tm→Int} {l:List Tm} {j:Nat} (h:j<l.length) (hi:Wd f (l.drop j)=Wd f l) (h0:¬ f l[j]=0):Wd f l=f l[j]:=by
  rw [drop_eq_getElem_cons h,Wd,if_neg h0] at hi;exact hi.symm
theorem M9 {f:Tm→Int} {l:List Tm} {j:Nat} (h:l.length≤j) (hi:Wd f (l.drop j)=Wd f l):Wd f l=0:=by
  rw [drop_eq_nil_of_le h,Wd] at hi;exact hi.symm
theorem EQ {f:Int→Tm→Int} {l:List Tm} (h:l.length<1∨8<l.length):YI f l=2:=by rw [YI,if_pos h]
theorem Ib {f:Int→Tm→Int} {l:List Tm} (h:¬ (l.length<1∨8<l.length)):YI f l=Wd (f l.length) l:=by rw [YI,if_neg h]
section
attribute [local irreducible] JL J CT wlo DT
end
section
section
variable (e0:Nat→Nat→Prop) (s:Nat→List Nat)
def eqN:Nat→Nat→Nat→Prop
  | 0,i,j=>e0 i j
  | n+1,i,j=>eqN n i j∧∀ k,k<(s i).length→eqN n ((s i).getD k 0) ((s j).getD k 0)
def bis (i j:Nat):Prop:=∀ n,eqN e0 s n i j
end
variable {e0:Nat→Nat→Prop} {s:Nat→List Nat}
theorem Pj {m n i j:Nat} (h:m≤n) (q:eqN e0 s n i j):eqN e0 s m i j:=by
  induction n with
  | zero => obtain rfl:m=0:=by omega
            exact q
  | succ n ih=>
    rcases Nat.lt_or_ge m (n+1) with h1 | h1
    · exact ih (by omega) q.1
    · obtain rfl:m=n+1:=by omega
      exact q
theorem SK (hr:∀ i,e0 i i):∀ n i,eqN e0 s n i i
  | 0,i=>hr i
  | n+1,i=>⟨SK hr n i,fun _ _=>SK hr n _⟩
theorem ND (hl:∀ i j,e0 i j→(s i).length=(s j).length) {n i j:Nat} (q:eqN e0 s n i j):(s i).length=(s j).length:=hl _ _ (Pj (Nat.zero_le n) q)
theorem SJ (hs:∀ i j,e0 i j→e0 j i) (hl:∀ i j,e0 i j→(s i).length=(s j).length):∀ n {i j:Nat},eqN e0 s n i j→eqN e0 s n j i
  | 0,_,_,q=>hs _ _ q
  | n+1,_,_,q=>⟨SJ hs hl n q.1,fun k hk=>SJ hs hl n (q.2 k (by rw [ND hl q.1];exact hk))⟩
theorem Ti (ht:∀ i j k,e0 i j→e0 j k→e0 i k) (hl:∀ i j,e0 i j→(s i).length=(s j).length):∀ n {i j k:Nat},eqN e0 s n i j→eqN e0 s n j k→eqN e0 s n i k
  | 0,_,_,_,q,r=>ht _ _ _ q r
  | n+1,_,_,_,q,r=>⟨Ti ht hl n q.1 r.1,fun k hk=>Ti ht hl n (q.2 k hk) (r.2 k (by rw [← ND hl q.1];exact hk))⟩
theorem Kt {N n:Nat} (hb:∀ i,i<N→∀ x∈s i,x<N) (hl:∀ i j,e0 i j→(s i).length=(s j).length) (h:∀ i j,i<N→j<N→eqN e0 s n i j→eqN e0 s (n+1) i j):
    ∀ i j,i<N→j<N→eqN e0 s n i j→bis e0 s i j:=by
  have key:∀ m i j,i<N→j<N→eqN e0 s n i j→eqN e0 s (n+m) i j:=by
    intro m
    induction m with
    | zero=>intro i j _ _ q;exact q
    | succ m ih=>
      intro i j hi hj q
      have q1:=h i j hi hj q
      refine ⟨ih i j hi hj q,fun k hk=>ih _ _ ?_ ?_ (q1.2 k hk)⟩
      · exact hb i hi _ (by rw [getD_eq_getElem?_getD,getElem?_eq_getElem hk];exact getElem_mem _)
      · have hk2:k<(s j).length:=by rw [← ND hl q];exact hk
        exact hb j hj _ (by rw [getD_eq_getElem?_getD,getElem?_eq_getElem hk2];exact getElem_mem _)
  intro i j hi hj q m
  exact Pj (by omega) (key m i j hi hj q)
theorem SV {R:Nat→Nat→Prop} (h0:∀ i j,R i j→e0 i j) (h1:∀ i j,R i j→∀ k,k<(s i).length→R ((s i).getD k 0) ((s j).getD k 0)):∀ i j,R i j→bis e0 s i j:=by
  intro i j r n
  induction n generalizing i j with
  | zero=>exact h0 i j r
  | succ n ih=>exact ⟨ih i j r,fun k hk=>ih _ _ (h1 i j r k hk)⟩
theorem SU {i j:Nat} (h:bis e0 s i j) {k:Nat} (hk:k<(s i).length):bis e0 s ((s i).getD k 0) ((s j).getD k 0):=fun n=>(h (n+1)).2 k hk
theorem Uf {i j:Nat} (h:bis e0 s i j):e0 i j:=h 0
end
def So (N:Int) (K:List (Int×Int)) (o c:Int):Int:=N+K.idxOf (o,c)
theorem Fl {N:Int} {K:List (Int×Int)} {o c o' c':Int} (h:(o,c)∈K) (h':(o',c')∈K) (e:So N K o c=So N K o' c'):o=o'∧c=c':=by
  unfold So at e
  have e1:K.idxOf (o,c)=K.idxOf (o',c'):=by omega
  have h1:=List.idxOf_lt_length_of_mem h
  have h2:=List.idxOf_lt_length_of_mem h'
  have g1:K[K.idxOf (o,c)]=(o,c):=List.getElem_idxOf h1
  have g2:K[K.idxOf (o',c')]=(o',c'):=List.getElem_idxOf h2
  have:(o,c)=(o',c'):=by rw [← g1,← g2];congr 1
  injection this with a b
  exact ⟨a,b⟩
def Tz (N:Int) (K:List (Int×Int)) (a:Int):List Int→Int
  | []=>a
  | c::l=>So N K (Tz N K a l) c
def inK (N:Int) (K:List (Int×Int)) (a:Int):List Int→Prop
  | []=>True
  | c::l=>(Tz N K a l,c)∈K∧inK N K a l
theorem Mc {N:Int} {K:List (Int×Int)} {a b:Int} (ha:a<N) (hb:b<N):∀ {l m:List Int},inK N K a l→inK N K b m→Tz N K a l=Tz N K b m→a=b∧l=m
  | [],[],_,_,e=>⟨e,rfl⟩
  | [],c::m,_,_,e=>by simp only [Tz,So] at e;omega
  | c::l,[],_,_,e=>by simp only [Tz,So] at e;omega
  | c::l,c'::m,h,h',e=>by
    obtain ⟨e1,e2⟩:=Fl h.1 h'.1 e
    obtain ⟨e3,e4⟩:=Mc ha hb h.2 h'.2 e1
    exact ⟨e3,by rw [e2,e4]⟩
def PY (K:List (Int×Int)) (p:Int×Int):List (Int×Int):=if p∈K then K else K++[p]
theorem Db (K:List (Int×Int)) (p:Int×Int):p∈PY K p:=by
  unfold PY;split
  · assumption
  · simp
theorem Lt (K:List (Int×Int)) (p:Int×Int):K<+:PY K p:=by
  unfold PY;split
  · exact List.prefix_refl _
  · exact List.prefix_append _ _
theorem Fk {N:Int} {K K':List (Int×Int)} (h:K<+:K') {o c:Int} (hm:(o,c)∈K):So N K' o c=So N K o c:=by
  obtain ⟨r,rfl⟩:=h
  unfold So
  rw [List.idxOf_append,if_pos hm]
theorem QK {N:Int} {K K':List (Int×Int)} (h:K<+:K') {a:Int}:∀ {l:List Int},inK N K a l→Tz N K' a l=Tz N K a l∧inK N K' a l
  | [],_=>⟨rfl,trivial⟩
  | c::l,q=>by
    obtain ⟨e,i⟩:=QK h q.2
    refine ⟨by rw [Tz,Tz,e,Fk h q.1],by rw [e];exact h.subset q.1,i⟩
def plt (R:Nat→Nat→Prop):Nat→Nat→Nat→Prop
  | 0,i,j=>R i j
  | k+1,i,j=>plt R k i j∨(plt R k i k∧plt R k k j)
theorem GY {R:Nat→Nat→Prop} {k m i j:Nat} (h:k≤m) (q:plt R k i j):plt R m i j:=by
  induction m with
  | zero => obtain rfl:k=0:=by omega
            exact q
  | succ m ih=>
    rcases Nat.lt_or_ge k (m+1) with h1 | h1
    · exact .inl (ih (by omega))
    · obtain rfl:k=m+1:=by omega
      exact q
theorem U6 {R:Nat→Nat→Prop}:∀ {k m i j:Nat},m<k→plt R k i m→plt R k m j→plt R k i j
  | 0,_,_,_,h,_,_=>absurd h (by omega)
  | k +1,m,i,j,h,q,r=>by
    rcases Nat.lt_or_ge m k with hm | hm
    · rcases q with q | ⟨q1,q2⟩ <;> rcases r with r | ⟨r1,r2⟩
      · exact .inl (U6 hm q r)
      · exact .inr ⟨U6 hm q r1,r2⟩
      · exact .inr ⟨q1,U6 hm q2 r⟩
      · exact .inr ⟨q1,r2⟩
    · obtain rfl:m=k:=by omega
      have a:plt R m i m:=q.elim id (·.1)
      have b:plt R m m j:=r.elim id (·.2)
      exact .inr ⟨a,b⟩
theorem XU {R T:Nat→Nat→Prop} (h:∀ i j,R i j→T i j) (ht:∀ i j k,T i j→T j k→T i k):∀ {k i j:Nat},plt R k i j→T i j
  | 0,_,_,q=>h _ _ q
  | _+1,_,_,q=>q.elim (XU h ht) fun q=>ht _ _ _ (XU h ht q.1) (XU h ht q.2)
theorem Nb {R:Nat→Nat→Prop} {N:Nat} (h:∀ i j,R i j→j<N):∀ {k i j:Nat},plt R k i j→j<N
  | 0,_,_,q=>h _ _ q
  | _+1,_,_,q=>q.elim (Nb h) fun q=>Nb h q.2
def Ua (rs:List (List Bool)) (i j:Nat):Bool:=(rs.getD i []).getD j false
def PU (rs:List (List Bool)) (i j:Nat) (v:Bool):List (List Bool):=rs.set i ((rs.getD i []).set j v)
def okM (N:Nat) (rs:List (List Bool)):Prop:=rs.length=N∧∀ i,i<N→(rs.getD i []).length=N
theorem okM.set {N:Nat} {rs:List (List Bool)} (h:okM N rs) {i j:Nat} {v:Bool} (_hi:i<N):okM N (PU rs i j v):=by
  refine ⟨by rw [PU,length_set];exact h.1,fun a ha=>?_⟩
  unfold PU
  by_cases e:i=a
  · subst e
    rw [getD_eq_getElem?_getD,List.getElem?_set_self (by rw [h.1];exact ha),Option.getD_some,length_set]
    exact h.2 i ha
  · rw [getD_eq_getElem?_getD,List.getElem?_set_ne e,← getD_eq_getElem?_getD]
    exact h.2 a ha
def sfN (t:Tm):List Nat:=(sfR t).map Int.toNat
def cdL (l:List Tm):List (List Nat):=l.map sfN
def cdG (cd:List (List Nat)) (i:Nat):List Nat:=cd.getD i []
def rcB (cd:List (List Nat)):Nat→Nat→Nat→Bool
  | 0,i,j=>decide (j∈cdG cd i)
  | k+1,i,j=>rcB cd k i j||(rcB cd k i k&&rcB cd k k j)
theorem rcB_iff {cd:List (List Nat)} {k i j:Nat}:rcB cd k i j=true↔plt (fun i j=>j∈cdG cd i) k i j:=by
  induction k generalizing i j with
  | zero=>simp [rcB,plt]
  | succ k ih=>simp [rcB,plt,ih]
theorem Ce (cd:List (List Nat)) (k q:Nat):rcB cd (k+1) k q=rcB cd k k q:=by
  simp only [rcB];cases rcB cd k k q <;> simp
theorem Cf (cd:List (List Nat)) (k a:Nat):rcB cd (k+1) a k=rcB cd k a k:=by
  simp only [rcB];cases rcB cd k a k <;> simp
theorem US {l:List Tm} {i:Nat} (h:i<l.length):cdG (cdL l) i=sfN l[i]:=by
  unfold cdG cdL;rw [getD_eq_getElem?_getD,getElem?_map,getElem?_eq_getElem h];rfl
theorem O3 (t:Tm):(sfN t).length=(sfR t).length:=length_map ..
structure MxP (bs:List (Option Nat)) (rs:List (List Bool)) (n j:Nat) (f:Nat→Nat→Bool):Prop where
  bl:bs.length=n
  rl:rs.length=n
  row:∀ a,a<j→∃ q,bs[a]?=some (some q)
  non:∀ a,j≤a→a<n→bs[a]?=some none
  len:∀ a,a<j→(rs.getD a []).length=n
  got:∀ a,a<j→∀ q,q<n→Ua rs a q=f a q
theorem MxP.hl {bs:List (Option Nat)} {rs:List (List Bool)} {n j:Nat} {f:Nat→Nat→Bool} (h:MxP bs rs n j f):bs.length=rs.length:=h.bl.trans h.rl.symm
theorem MxP.same {bs:List (Option Nat)} {rs:List (List Bool)} {n j:Nat} {f f':Nat→Nat→Bool} (h:MxP bs rs n j f) (hf:∀ a,a<j→∀ q,q<n→f a q=f' a q):MxP bs rs n j f':=
  ⟨h.bl,h.rl,h.row,h.non,h.len,fun a ha q hq=>(h.got a ha q hq).trans (hf a ha q hq)⟩
theorem MxP.new (n:Nat) (f:Nat→Nat→Bool):MxP (replicate n none) (replicate n []) n 0 f:=
  ⟨by simp,by simp,fun a ha=>absurd ha (by omega),fun a _ ha=>by simp [ha],fun a ha=>absurd ha (by omega),fun a ha=>absurd ha (by omega)⟩
theorem MxP.fill {bs:List (Option Nat)} {rs:List (List Bool)} {n j b:Nat} {f f':Nat→Nat→Bool} (h:MxP bs rs n j f) (hj:j<n) (h0:∀ q,q<n→f' j q=false) (h1:∀ a,a<j→∀ q,q<n→f a q=f' a q):
    MxP (bs.set j (some b)) (rs.set j (replicate n false)) n (j+1) f':=by
  have hbl:=h.bl
  have hrl:=h.rl
  have e1:∀ a,a≠j→(rs.set j (replicate n false)).getD a []=rs.getD a []:=fun a ha=>by
    rw [getD_eq_getElem?_getD,List.getElem?_set_ne (by omega),← getD_eq_getElem?_getD]
  have e2:(rs.set j (replicate n false)).getD j []=replicate n false:=by
    rw [getD_eq_getElem?_getD,List.getElem?_set_self (by omega),Option.getD_some]
  refine ⟨by simpa using h.bl,by simpa using h.rl,fun a ha=>?_,fun a ha hn=>?_,fun a ha=>?_,fun a ha q hq=>?_⟩
  · by_cases e:a=j
    · subst e;exact ⟨b,by rw [List.getElem?_set_self (by omega)]⟩
    · obtain ⟨q,hq⟩:=h.row a (by omega)
      exact ⟨q,by rw [List.getElem?_set_ne (by omega)];exact hq⟩
  · rw [List.getElem?_set_ne (by omega)];exact h.non a (by omega) hn
  · by_cases e:a=j
    · subst e;rw [e2];simp
    · rw [e1 a e];exact h.len a (by omega)
  · by_cases e:a=j
    · subst e;unfold Ua;rw [e2,h0 q hq];simp [hq]
    · unfold Ua;rw [e1 a e,← h1 a (by omega) q hq];exact h.got a (by omega) q hq
theorem MxP.set {bs:List (Option Nat)} {rs:List (List Bool)} {n j a q:Nat} {v:Bool} {f f':Nat→Nat→Bool} (h:MxP bs rs n j f) (hj:j≤n) (ha:a<j) (hq:q<n) (hf:∀ a',a'<j→∀ q',q'<n→f' a' q'=if a'=a∧q'=q then v else f a' q'):
    MxP bs (PU rs a q v) n j f':=by
  have hrl:=h.rl
  have e1:∀ a',a'≠a→(PU rs a q v).getD a' []=rs.getD a' []:=fun a' h'=>by
    unfold PU;rw [getD_eq_getElem?_getD,List.getElem?_set_ne (by omega),← getD_eq_getElem?_getD]
  have e2:(PU rs a q v).getD a []=(rs.getD a []).set q v:=by
    unfold PU;rw [getD_eq_getElem?_getD,List.getElem?_set_self (by omega),Option.getD_some]
  refine ⟨h.bl,by unfold PU;simpa using h.rl,h.row,h.non,fun b hb=>?_,fun b hb p hp=>?_⟩
  · by_cases e:b=a
    · subst e;rw [e2,length_set];exact h.len b hb
    · rw [e1 b e];exact h.len b hb
  · rw [hf b hb p hp]
    by_cases e:b=a
    · subst e
      unfold Ua;rw [e2]
      have hl:=h.len b hb
      by_cases e3:p=q
      · subst e3;rw [if_pos ⟨rfl,rfl⟩,getD_eq_getElem?_getD,List.getElem?_set_self (by omega),Option.getD_some]
      · rw [if_neg (by intro z;exact e3 z.2),getD_eq_getElem?_getD,List.getElem?_set_ne (by omega),← getD_eq_getElem?_getD];exact h.got b hb p hp
    · rw [if_neg (by intro z;exact e z.1)];unfold Ua;rw [e1 b e];exact h.got b hb p hp
theorem MxP.self {bs:List (Option Nat)} {rs:List (List Bool)} {n:Nat} {f:Nat→Nat→Bool} (h:MxP bs rs n n f):MxP bs rs n n (Ua rs):=h.same fun a ha q hq=>(h.got a ha q hq).symm
theorem MxP.full {bs:List (Option Nat)} {rs:List (List Bool)} {n j:Nat} {f f':Nat→Nat→Bool} (h:MxP bs rs n j f) (hj:j=n) (hf:∀ a,a<j→∀ q,q<n→f a q=f' a q):MxP bs rs n n f':=by
  subst hj;exact h.same hf
def rcK (cd:List (List Nat)) (k i j:Nat) (a q:Nat):Bool:=if a<i∨(a=i∧q<j) then rcB cd (k+1) a q else rcB cd k a q
theorem AM (cd:List (List Nat)) (k i j a:Nat):rcK cd k i j a k=rcB cd k a k:=by
  unfold rcK;split
  · exact Cf cd k a
  · rfl
theorem AL (cd:List (List Nat)) (k i j q:Nat):rcK cd k i j k q=rcB cd k k q:=by
  unfold rcK;split
  · exact Ce cd k q
  · rfl
theorem MxP.rc {bs:List (Option Nat)} {rs:List (List Bool)} {n k i j:Nat} {v:Bool} {cd:List (List Nat)} (h:MxP bs rs n n (rcK cd k i j)) (hk:k<n) (hi:i<n) (hj:j<n) (hv:v=(Ua rs i j||(Ua rs i k&&Ua rs k j))):
    MxP bs (PU rs i j v) n n (rcK cd k i (j+1)):=by
  refine h.set (Nat.le_refl n) hi hj fun a ha q hq=>?_
  rw [h.got i hi j hj,h.got i hi k hk,h.got k hk j hj,AM,AL] at hv
  have e0:rcK cd k i j i j=rcB cd k i j:=by unfold rcK;rw [if_neg (by omega)]
  rw [e0] at hv
  by_cases e:a=i∧q=j
  · obtain ⟨rfl,rfl⟩:=e
    rw [if_pos ⟨rfl,rfl⟩,hv];unfold rcK;rw [if_pos (by omega)];rfl
  · rw [if_neg e];unfold rcK
    by_cases c:a<i∨(a=i∧q<j)
    · rw [if_pos c,if_pos (by omega)]
    · rw [if_neg c,if_neg (by omega)]
theorem MI (n:Nat):replicate n (Value.int .i64 0).cells.toList=Z2 (replicate n 0):=by unfold Z2;rw [List.map_replicate];rfl
def dT:Tm:=.mk 0 0 zS [] []
def YJ (n:Nat) (t:Tm):Tm:=Z8 (replicate n 0) [] t
def atL (l:List Tm) (i:Nat):Tm:=l.getD i dT
def e0L (l:List Tm) (i j:Nat):Prop:=YJ l.length (atL l i)=YJ l.length (atL l j)
def sL (l:List Tm) (i:Nat):List Nat:=sfN (atL l i)
def VT (l:List Tm) (i j:Nat):Prop:=bis (e0L l) (sL l) i j
theorem YK {l:List Tm} {i:Nat} (h:i<l.length):atL l i=l[i]:=by
  unfold atL;rw [getD_eq_getElem?_getD,getElem?_eq_getElem h];rfl
mutual
theorem Vb (n:Nat):∀ (t:Tm),(∀ x∈sfR t,0≤x∧x<(n:Int))→(sfR (YJ n t)).length=(sfR t).length
  | .mk k m r kids cases,h=>by
    unfold YJ;rw [Z8]
    by_cases e:k=7
    · rw [if_pos e]
      have hm:m.toNat<n:=by have:=h m (by rw [sfR,if_pos e];simp);omega
      rw [if_neg (by rw [getD_eq_getElem?_getD,getElem?_replicate,if_pos hm];simp),sfR,sfR,if_pos rfl,if_pos e];rfl
    · rw [if_neg e,sfR,sfR,if_neg e,if_neg e,length_append,length_append,T3 n kids (fun x hx=>h x (by rw [sfR,if_neg e];exact mem_append.2 (.inl hx))),N9 n cases (fun x hx=>h x (by rw [sfR,if_neg e];exact mem_append.2 (.inr hx)))]
theorem T3 (n:Nat):∀ (l:List Tm),(∀ x∈Yl l,0≤x∧x<(n:Int))→(Yl (ZZ (replicate n 0) [] l)).length=(Yl l).length
  | [],_=>by simp [ZZ]
  | t::l,h=>by
    rw [ZZ,Yl,Yl,length_append,length_append,T3 n l (fun x hx=>h x (by rw [Yl];exact mem_append.2 (.inr hx)))]
    have:=Vb n t (fun x hx=>h x (by rw [Yl];exact mem_append.2 (.inl hx)))
    unfold YJ at this;rw [this]
theorem N9 (n:Nat):∀ (l:List (Pt×Tm)),(∀ x∈Yp l,0≤x∧x<(n:Int))→(Yp (ZW (replicate n 0) [] l)).length=(Yp l).length
  | [],_=>by simp [ZW]
  | c::l,h=>by
    rw [ZW,Yp,Yp,length_append,length_append,N9 n l (fun x hx=>h x (by rw [Yp];exact mem_append.2 (.inr hx)))]
    have:=Vb n c.2 (fun x hx=>h x (by rw [Yp];exact mem_append.2 (.inl hx)))
    unfold YJ at this;rw [this]
end
def okC (l:List Tm):Prop:=∀ t∈l,∀ x∈sfR t,0≤x∧x<(l.length:Int)
theorem XM {l:List Tm} {i:Nat} (h:i<l.length):atL l i∈l:=by rw [YK h];exact getElem_mem h
theorem Rz {l:List Tm} {i:Nat} (h:l.length≤i):atL l i=dT:=by
  unfold atL;rw [getD_eq_getElem?_getD,getElem?_eq_none h];rfl
theorem okC.at {l:List Tm} (h:okC l) (i:Nat):∀ x∈sfR (atL l i),0≤x∧x<(l.length:Int):=by
  rcases Nat.lt_or_ge i l.length with hi | hi
  · exact h _ (XM hi)
  · rw [Rz hi];intro x hx;simp [dT,sfR,Yl,Yp] at hx
theorem okC.lt {l:List Tm} (h:okC l) (i:Nat):∀ x∈sL l i,x<l.length:=by
  intro x hx
  obtain ⟨y,hy,rfl⟩:=mem_map.1 hx
  have:=h.at i y hy;omega
theorem Wf {l:List Tm} (h:okC l) {i j:Nat} (e:e0L l i j):(sL l i).length=(sL l j).length:=by
  have a:=Vb l.length (atL l i) (h.at i)
  have b:=Vb l.length (atL l j) (h.at j)
  unfold e0L at e
  rw [e] at a
  unfold sL sfN;rw [length_map,length_map];omega
theorem Ry (l:List Tm) (i:Nat):VT l i i:=fun n=>SK (e0:=e0L l) (s:=sL l) (fun _=>rfl) n i
theorem VS {l:List Tm} (h:okC l) {i j:Nat} (b:VT l i j):VT l j i:=fun n=>SJ (e0:=e0L l) (s:=sL l) (fun _ _ e=>Eq.symm e) (fun _ _=>Wf h) n (b n)
theorem TS {l:List Tm} (h:okC l) {i j k:Nat} (b:VT l i j) (c:VT l j k):VT l i k:=fun n=>Ti (e0:=e0L l) (s:=sL l) (fun _ _ _ e f=>Eq.trans e f) (fun _ _=>Wf h) n (b n) (c n)
open Classical in
noncomputable def firstN (l:List Tm) (i:Nat):Nat:=(range l.length).findIdx (fun j=>decide (VT l i j))
theorem Ya {l:List Tm} {i:Nat} (h:i<l.length):firstN l i<l.length:=by
  have:=List.findIdx_lt_length (p:=fun j=>@decide (VT l i j) (Classical.propDecidable _)) (xs:=range l.length)
  rw [length_range] at this
  exact this.2 ⟨i,mem_range.2 h,by simpa using Ry l i⟩
theorem Y6 {l:List Tm} {i:Nat} (h:i<l.length):VT l i (firstN l i):=by
  have hl:firstN l i<(range l.length).length:=by rw [length_range];exact Ya h
  have key:∀ (p:Nat→Bool) (xs:List Nat) (k:Nat),xs.findIdx p=k→k<xs.length→p (xs.getD k 0)=true:=by
    intro p xs k e hk
    subst e
    rw [getD_eq_getElem?_getD,getElem?_eq_getElem hk]
    exact List.findIdx_getElem
  have:=key _ _ _ (show (range l.length).findIdx (fun j=>@decide (VT l i j) (Classical.propDecidable _))=firstN l i from rfl) hl
  rw [getD_eq_getElem?_getD,getElem?_eq_getElem hl,getElem_range] at this
  simpa using this
theorem TL {l:List Tm} {i j:Nat} (h:i<l.length) (b:VT l i j):firstN l i≤j:=by
  rcases Nat.lt_or_ge j (firstN l i) with hj | hj
  · have hl:=Ya h
    have:=@List.not_of_lt_findIdx _ (fun j=>@decide (VT l i j) (Classical.propDecidable _)) (range l.length) j hj
    simp only [getElem_range,decide_eq_false_iff_not] at this
    exact absurd b this
  · exact hj
theorem Tf {l:List Tm} {i:Nat} (h:i<l.length):firstN l i≤i:=TL h (Ry l i)
theorem Tg {l:List Tm} {i j:Nat} (h:i<l.length) (b:VT l i j) (m:∀ a,a<j→¬ VT l i a):firstN l i=j:=by
  have h1:=TL h b
  rcases Nat.lt_or_ge (firstN l i) j with h2 | h2
  · exact absurd (Y6 h) (m _ h2)
  · omega
theorem Wc {l:List Tm} (ok:okC l) {i j:Nat} (hi:i<l.length) (hj:j<l.length):firstN l i=firstN l j↔VT l i j:=by
  constructor
  · intro e
    have a:=Y6 hi
    have b:=Y6 hj
    rw [e] at a
    exact TS ok a (VS ok b)
  · intro b
    apply Tg hi
    · exact TS ok b (Y6 hj)
    · intro a ha c
      have:=TL hj (TS ok (VS ok b) c)
      omega
noncomputable def frI (l:List Tm):List Int:=(range l.length).map fun i=>(firstN l i:Int)
theorem Yy (l:List Tm):(frI l).length=l.length:=by simp [frI]
theorem WA {l:List Tm} {i:Nat} (h:i<l.length):(frI l)[i]'(by rw [Yy];exact h)=(firstN l i:Int):=by simp [frI]
def apI (l:List Tm) (rs:List (List Bool)):Prop:=(∀ a,a<l.length→∀ q,q<l.length→Ua rs a q=true→¬ VT l a q)∧∀ a,a<l.length→∀ q,q<l.length→Ua rs a q=false→e0L l a q
def Zcf (l:List Tm) (rs:List (List Bool)) (a q:Nat):Prop:=Ua rs a q=false→∀ p,p<(sL l a).length→Ua rs ((sL l a).getD p 0) ((sL l q).getD p 0)=false
def Bq (n:Nat) (rs:List (List Bool)):Nat:=(range (n*n)).countP fun x=> !Ua rs (x / n) (x % n)
theorem KE {α:Type} {p q:α→Bool} {l:List α} (h:∀ x∈l,p x=true→q x=true) {x:α} (hx:x∈l) (h1:q x=true) (h2:p x=false):l.countP p<l.countP q:=by
  induction l with
  | nil=>cases hx
  | cons y l ih=>
    have hm:=List.countP_mono_left (p:=p) (q:=q) (l:=l) (fun z hz=>h z (mem_cons_of_mem _ hz))
    rw [List.countP_cons,List.countP_cons]
    rcases mem_cons.1 hx with rfl | hx
    · rw [h1,h2];simp;omega
    · have:=ih (fun z hz=>h z (mem_cons_of_mem _ hz)) hx
      have h3:=h y mem_cons_self
      cases hp:p y <;> cases hq:q y <;> simp [hp,hq] at h3 ⊢ <;> omega
structure apR (l:List Tm) (rs0 rs:List (List Bool)) (more:Bool) (i k:Nat):Prop where
  inv:apI l rs
  le:Bq l.length rs≤Bq l.length rs0
  lt:more=true→Bq l.length rs<Bq l.length rs0
  not:more=false→rs=rs0∧∀ a,a<l.length→∀ q,q<l.length→(a<i∨(a=i∧q<k))→Zcf l rs a q
structure apJ (l:List Tm) (rs0 rs:List (List Bool)) (more:Bool) (i k j:Nat):Prop extends apR l rs0 rs more i k where
  e0:e0L l i k
  mo:Ua rs i k=true→more=true
  so:more=false→∀ p,p<j→Ua rs ((sL l i).getD p 0) ((sL l k).getD p 0)=false
theorem apR.beg {l:List Tm} {rs:List (List Bool)} (h:apI l rs):apR l rs rs false 0 0:=⟨h,Nat.le_refl _,Bool.noConfusion,fun _=>⟨rfl,fun a _ q _ e=>by omega⟩⟩
theorem apR.row {l:List Tm} {rs0 rs:List (List Bool)} {more:Bool} {i k:Nat} (h:apR l rs0 rs more i k) (hk:l.length≤k):apR l rs0 rs more (i+1) 0:=
  ⟨h.inv,h.le,h.lt,fun e=>⟨(h.not e).1,fun a ha q hq c=>(h.not e).2 a ha q hq (by omega)⟩⟩
theorem apR.skip {l:List Tm} {rs0 rs:List (List Bool)} {more:Bool} {i k:Nat} (h:apR l rs0 rs more i k) (e:Ua rs i k=true):apR l rs0 rs more i (k+1):=
  ⟨h.inv,h.le,h.lt,fun m=>⟨(h.not m).1,fun a ha q hq c=>by
    by_cases c2:a<i∨(a=i∧q<k)
    · exact (h.not m).2 a ha q hq c2
    · obtain ⟨rfl,rfl⟩:a=i∧q=k:=by omega
      intro e2;rw [e] at e2;cases e2⟩⟩
theorem apJ.beg {l:List Tm} {rs0 rs:List (List Bool)} {more:Bool} {i k:Nat} (h:apR l rs0 rs more i k) (hi:i<l.length) (hk:k<l.length) (e:Ua rs i k=false):apJ l rs0 rs more i k 0:=
  {h with e0:=h.inv.2 i hi k hk e,mo:=fun e2=>(by rw [e] at e2;cases e2),so:=fun _ p hp=>absurd hp (by omega)}
theorem apJ.fin {l:List Tm} {rs0 rs:List (List Bool)} {more:Bool} {i k j:Nat} (h:apJ l rs0 rs more i k j) (hj:(sL l i).length≤j):apR l rs0 rs more i (k+1):=
  ⟨h.inv,h.le,h.lt,fun m=>⟨(h.not m).1,fun a ha q hq c=>by
    by_cases c2:a<i∨(a=i∧q<k)
    · exact (h.not m).2 a ha q hq c2
    · obtain ⟨rfl,rfl⟩:a=i∧q=k:=by omega
      intro _ p hp;exact h.so m p (by omega)⟩⟩
theorem apJ.no {l:List Tm} {rs0 rs:List (List Bool)} {more:Bool} {i k j:Nat} (h:apJ l rs0 rs more i k j) (e:Ua rs ((sL l i).getD j 0) ((sL l k).getD j 0)=false):apJ l rs0 rs more i k (j+1):=
  {h with so:=fun m p hp=>(Nat.lt_or_ge p j).elim (h.so m p) fun c=>(show p=j by omega)▸e}
theorem apR.cl {l:List Tm} {rs0 rs:List (List Bool)} {more:Bool} {i:Nat} (h:apR l rs0 rs more i 0) (hi:l.length≤i) (m:more=false):∀ a,a<l.length→∀ q,q<l.length→Zcf l rs a q:=fun a ha q hq=>(h.not m).2 a ha q hq (by omega)
theorem BD (n:Nat):(replicate n [Value.bool false]).flatten=bls (replicate n false):=by
  induction n with
  | zero=>rfl
  | succ n ih=>rw [List.replicate_succ,flatten_cons,ih,List.replicate_succ];rfl
section
variable {c:Cx} {H:Heap} {ρ:Nat→Value} {M:List Zf} {K:Value→List Zf→Prop} {d:Option Nat} {ot:TypeId} {pos:String} {af:Array Edge} {g:Option (Nat×Bool)} {x y:Operand}
end
section
attribute [local irreducible] JL J CT wlo DT
theorem Bw (l:List Tm) (v:Value) (H:Heap) (hv:Hs.rdS RT 36 H v l) (hz:∀ t∈l,sizeT t≤400000):CT prog 49 ⟨[v]⟩ [] H (fun r N=>r=iv (YI (Xv 0) l)∧N=[]):=by
 have hlen:=hv.le
 refine Zl func49 rfl rfl<|Zd<|JAn rfl<|Zg<|Zd<|JLm v ?_
 obtain ⟨a1,cap1,hv1⟩:=hv.sl
 have hle1:=hv.le
 refine JLn (ZcM ZI hv1)<|JLn (Pu.lss rfl rfl)<|JLM rfl<|ZK 3 [10,11,12] [(12,cond (decide ((l.length:Int)<1)) undef (.bool (decide (8<(l.length:Int)))))] ?_ fun f4=>?_
 ·cases h2:(decide ((l.length:Int)<1)) with
  | false=>
   replace h2:=df h2
   refine JLm v ?_
   obtain ⟨a3,cap3,hv3⟩:=hv.sl
   have hle3:=hv.le
   refine JLn (ZcM ZI hv3)<|JLn (Pu.gtr rfl rfl) ?_
   exact Za ⟨⟨rfl,trivial⟩,rfl⟩
  | true=>
   exact Z1 rfl ⟨rfl,trivial⟩
 refine JLn (ZcT rfl rfl rfl)<|Za<|Zt rfl (fun h5=>?_) (fun h5=>?_)
 ·refine Zd<|JAn rfl<|ZE (iv 2) [] Sub.nil (?_)
  exact ⟨by rw [EQ (by have z:=h5;simp at z;omega)],rfl⟩
 obtain ⟨h5a,h5b⟩:=orF h5
 replace h5a:=df h5a
 replace h5b:=df h5b
 refine Zo<|Zg<|Zd<|JLm v ?_
 obtain ⟨a6,cap6,hv6⟩:=hv.sl
 have hle6:=hv.le
 refine JLn (ZcM ZI hv6)<|JLM rfl<|Za<|Zm<|ZD (fun k ρ M=>∃ (j:Nat),Z7 ρ [(0,v),(2,iv 0),(14,v),(15,iv ((l.length:Int))),(16,iv ((j:Int)))]=ρ∧Sub [] M∧j≤l.length∧Wd (Xv 0 l.length) (l.drop j)=Wd (Xv 0 l.length) l∧¬ (l.length<1∨8<l.length)∧k=l.length-j) _ ⟨0,Zp rfl,Sub.nil,Nat.zero_le _,rfl,(by omega),rfl⟩ ?_
 rintro _ ρ7 _ ⟨j,e8,hm13,hj,hinv,hgl,rfl⟩
 obtain ⟨ρ14,rfl⟩:=Zi e8
 clear e8
 refine ZF hm13 ?_
 have hlen:=hv.le
 refine Zd<|JLn (Pu.lss rfl rfl)<|Za<|Zg<|ZN rfl (fun h15=>?_) (fun h15=>?_)
 ·have h15n:j<l.length:=by omega
  have hsj:=hz _ (getElem_mem h15n)
  refine Zo<|Zg<|Zm<|Zg<|Ze ?_
  obtain ⟨b16,o16,cap16,row16,T16,fr16,cs16,hv16,hb16,hs16,hE16⟩:=hv.get j (by omega)
  refine JLn (Pu.idx j ZI Zu hv16 rfl rfl (by omega))<|JLr (Zn Zu rfl (ZcN hb16) hs16<|JLr (Zk (l:=pkT 0 0 zS nS nS) zeroValue51 rfl fun b17=>JLr (Zb 0 (vs:=cs16) (l:=cs16) Zu rfl rfl rfl rfl (Zy hE16) (Y5 hE16) (ZY (n:=36) rfl (Zy hE16))<|Za<|Zd<|JLr (Zn Zu rfl (ZcK 0 rfl) (Zx (Zy hE16))<|JLm v ?_))))
  obtain ⟨a18,cap18,hv18⟩:=hv.sl
  have hle18:=hv.le
  refine JLn (ZcM ZI hv18)<|Jc call97 rfl (fun hin=>Py _ _ _ _ _ (RT.mono (Hle.hu _ _) hE16)) rfl ?_
  rintro _ _ ⟨rfl,rfl⟩
  refine JAn rfl<|Zd<|JLM rfl<|JLn (Pu.neq rfl rfl)<|Za<|Zt rfl (fun h19=>?_) (fun h19=>?_)
  ·replace h19:=nt h19
   replace h19:=df h19
   refine Zd<|JLM rfl<|JAn rfl<|ZE (iv (Xv 0 ((l.length:Int)) (l[j]))) [] Sub.nil (?_)
   exact ⟨by rw [Ib hgl,OF h15n hinv h19],rfl⟩
  replace h19:=nf h19
  replace h19:=dt h19
  refine Zo<|Ze<|JLn (ZcP rfl rfl (by omega))<|JLM rfl<|Za<|⟨_,?_,(j+1),Zp rfl,Sub.nil,?_,?_,?_,rfl⟩
  ·omega
  ·omega
  ·exact Ia h15n hinv h19
  omega
 have h15n:l.length≤j:=by omega
 refine ZC _ rfl<|Zd<|JAn rfl<|ZE (iv 0) [] Sub.nil (?_)
 exact ⟨by rw [Ib hgl,M9 h15n hinv],rfl⟩
end
def OL (l:List Tm) (v:Value) (k:Zf):Prop:=∃ es k1 k2,Own 51 36 v es k1∧OTs l es k2∧k=k1++k2∧l.length≤1000000
theorem OL.mk {l:List Tm} {v:Value} {es:List (List Value)} {k1 k2:Zf} (h:Own 51 36 v es k1) (h2:OTs l es k2) (hl:l.length≤1000000):OL l v (k1++k2):=⟨es,k1,k2,h,h2,rfl,hl⟩
theorem OL.one {l:List Tm} {v:Value} {k:Zf} (h:OL l v k):v.oneCell'=true:=by obtain ⟨_,_,_,h,_⟩:=h;exact h.one
theorem OL.rd {l:List Tm} {v:Value} {k:Zf} {h:Heap} (o:OL l v k) (hk:Has k h):Hs.rdS RT 36 h v l:=by
  obtain ⟨es,k1,k2,h1,h2,rfl,hl⟩:=o
  exact h1.rdS (YH h2).symm (by omega) hk.left (LF (fun p _ cs c ho hh=>ho.rd hh) h2 hk.right)
theorem BQ {l:List Tm}:∀ {es:List (List Value)} {c:Zf} {j:Nat} (_:OTs l es c) (hj:j<l.length),∃ e,es[j]?=some e∧e.length=36∧okc e∧∀ h,Has c h→RT h e l[j]:=by
  intro es c j h hj
  obtain ⟨e,k,c',h1,h2,hp,_⟩:=OTs.pick h hj
  exact ⟨e,h1,h2.len,h2.ok,fun hh hc=>h2.rd fun b o hb=>hc b o (hp.symm.subset (mem_append.2 (.inl hb)))⟩
noncomputable def mkL (l:List Tm):List Tm:=l.map (Z8 (frI l) [])
theorem ZQ (l:List Tm):(mkL l).length=l.length:=length_map ..
theorem MB {l:List Tm} {j:Nat} (h:j<l.length):(mkL l).take (j+1)=(mkL l).take j++[Z8 (frI l) [] l[j]]:=by
  rw [take_succ_eq_append_getElem (by rw [ZQ];exact h)];simp [mkL]
theorem Xs {l:List Tm} {x:Int} (h0:0≤x) (h1:x<(l.length:Int)):(frI l).getD x.toNat 0=(firstN l x.toNat:Int):=by
  have h:x.toNat<l.length:=by omega
  rw [getD_eq_getElem?_getD,getElem?_eq_getElem (by rw [Yy];exact h),Option.getD_some,WA h]
def stO (P:Int→Bool) (c:List Int) (out:List Int):List Int:=c.foldl (fun out k=>if P k=true∧k∉out then out++[k] else out) out
def ordB (P:Int→Bool) (s:Int→List Int):Nat→Nat→List Int→List Int
  | 0,_,out=>out
  | f+1,a,out=>if a<out.length then ordB P s f (a+1) (stO P (s (out.getD a 0)) out) else out
def okO (n:Nat) (out:List Int):Prop:=out.Nodup∧∀ x∈out,0≤x∧x<(n:Int)
def prB (m:List Tm) (i k:Int):Bool:=rcB (cdL m) m.length i.toNat k.toNat&&rcB (cdL m) m.length k.toNat i.toNat
def sfI (m:List Tm) (x:Int):List Int:=sfR (atL m x.toNat)
def Y8 (m:List Tm) (i:Int):List Int:=ordB (prB m i) (sfI m) m.length 0 [i]
theorem okO.len {n:Nat} {out:List Int} (h:okO n out):out.length≤n:=by
  have h1:(out.map Int.toNat).Nodup:=by
    have key:∀ l:List Int,l.Nodup→(∀ x∈l,0≤x)→(l.map Int.toNat).Nodup:=by
      intro l
      induction l with
      | nil=>intro _ _;simp
      | cons y l ih=>
        intro hn hp
        rw [map_cons,nodup_cons]
        rw [nodup_cons] at hn
        refine ⟨fun hm=>?_,ih hn.2 fun x hx=>hp x (mem_cons_of_mem _ hx)⟩
        obtain ⟨z,hz,e⟩:=mem_map.1 hm
        have a:=hp z (mem_cons_of_mem _ hz)
        have b:=hp y mem_cons_self
        have:z=y:=by omega
        subst this;exact hn.1 hz
    exact key out h.1 fun x hx=>(h.2 x hx).1
  have h2:(out.map Int.toNat) ⊆ range n:=fun x hx=>by
    obtain ⟨y,hy,rfl⟩:=mem_map.1 hx
    have:=h.2 y hy
    exact mem_range.2 (by omega)
  have key:∀ (l m:List Nat),l.Nodup→l ⊆ m→l.length≤m.length:=by
    intro l
    induction l with
    | nil=>intro m _ _;simp
    | cons y l ih=>
      intro m hn hs
      rw [nodup_cons] at hn
      have hy:=hs mem_cons_self
      have:=ih (m.erase y) hn.2 fun x hx=>(List.mem_erase_of_ne (by rintro rfl;exact hn.1 hx)).2 (hs (mem_cons_of_mem _ hx))
      rw [List.length_erase_of_mem hy] at this
      have:=List.length_pos_of_mem hy
      rw [length_cons];omega
  have:=key _ _ h1 h2
  simpa using this
theorem okO.one {n:Nat} {i:Int} (h:0≤i) (h2:i<(n:Int)):okO n [i]:=⟨by simp,by simp;omega⟩
theorem okO.add {n:Nat} {out:List Int} {k:Int} (h:okO n out) (hk:k∉out) (h0:0≤k) (h1:k<(n:Int)):okO n (out++[k]):=by
  refine ⟨?_,fun x hx=>?_⟩
  · rw [nodup_append];exact ⟨h.1,by simp,fun a ha b hb=>by rw [mem_singleton] at hb;subst hb;exact fun e=>hk (e▸ha)⟩
  · rcases mem_append.1 hx with hx | hx
    · exact h.2 x hx
    · rw [mem_singleton] at hx;subst hx;exact ⟨h0,h1⟩
theorem WO {P:Int→Bool} {c out:List Int} {p:Nat} (h:p<c.length):stO P (c.take (p+1)) out=if P c[p]=true∧c[p]∉stO P (c.take p) out then stO P (c.take p) out++[c[p]] else stO P (c.take p) out:=by
  unfold stO;rw [take_succ_eq_append_getElem h,List.foldl_append];rfl
theorem WJ {P:Int→Bool} {s:Int→List Int} {f a:Nat} {out:List Int} (h:a<out.length):ordB P s (f+1) a out=ordB P s f (a+1) (stO P (s (out.getD a 0)) out):=by rw [ordB,if_pos h]
theorem X0 {P:Int→Bool} {s:Int→List Int} {f a:Nat} {out:List Int} (h:out.length≤a):ordB P s f a out=out:=by
  cases f with
  | zero=>rfl
  | succ f=>rw [ordB,if_neg (by omega)]
theorem S9 {n:Nat} {P:Int→Bool} {c:List Int} (hc:∀ x∈c,0≤x∧x<(n:Int)):∀ {out:List Int},okO n out→okO n (stO P c out)∧out<+:stO P c out:=by
  induction c with
  | nil=>intro out h;exact ⟨h,List.prefix_refl _⟩
  | cons x c ih=>
    intro out h
    have hx:=hc x mem_cons_self
    have ih:=fun {o}=>@ih (fun y hy=>hc y (mem_cons_of_mem _ hy)) o
    show okO n (stO P c (if P x=true∧x∉out then out++[x] else out))∧out<+:stO P c (if P x=true∧x∉out then out++[x] else out)
    by_cases q:P x=true∧x∉out
    · rw [if_pos q]
      have:=ih (h.add q.2 hx.1 hx.2)
      exact ⟨this.1,(List.prefix_append out [x]).trans this.2⟩
    · rw [if_neg q];exact ih h
theorem Qf {n:Nat} {P:Int→Bool} {s:Int→List Int} (hs:∀ x,∀ y∈s x,0≤y∧y<(n:Int)):∀ (f a:Nat) {out:List Int},okO n out→okO n (ordB P s f a out)∧out<+:ordB P s f a out
  | 0,_,out,h=>⟨h,List.prefix_refl _⟩
  | f +1,a,out,h=>by
    rw [ordB];split
    · have h1:=S9 (P:=P) (hs (out.getD a 0)) h
      have h2:=Qf (P:=P) hs f (a+1) h1.1
      exact ⟨h2.1,h1.2.trans h2.2⟩
    · exact ⟨h,List.prefix_refl _⟩
theorem okC.sfI {m:List Tm} (h:okC m) (x:Int):∀ y∈Hs.sfI m x,0≤y∧y<(m.length:Int):=h.at x.toNat
theorem Qe {m:List Tm} (h:okC m) {i:Int} (h0:0≤i) (h1:i<(m.length:Int)):okO m.length (Y8 m i):=(Qf h.sfI _ _ (okO.one h0 h1)).1
theorem VG {m:List Tm} (h:okC m) {i:Int} (h0:0≤i) (h1:i<(m.length:Int)):∃ t,Y8 m i=i::t:=by
  obtain ⟨r,hr⟩:=(Qf h.sfI (P:=prB m i) m.length 0 (okO.one h0 h1)).2
  exact ⟨r,hr.symm⟩
theorem Ub {l:List Int} {a:Nat} (h:a<l.length):l.getD a 0=l[a]:=by rw [getD_eq_getElem?_getD,getElem?_eq_getElem h];rfl
theorem O4 {m:List Tm} {x:Int} (h:x.toNat<m.length):sfI m x=sfR m[x.toNat]:=by unfold sfI;rw [YK h]
theorem Z9 {cd:List (List Nat)} {N:Nat} (h:∀ i j,j∈cdG cd i→j<N) {i j k:Nat} (a:rcB cd N i j=true) (b:rcB cd N j k=true):rcB cd N i k=true:=
  rcB_iff.2 (U6 (Nb h (rcB_iff.1 a)) (rcB_iff.1 a) (rcB_iff.1 b))
theorem XL {cd:List (List Nat)} {N i j:Nat} (h:j∈cdG cd i):rcB cd N i j=true:=rcB_iff.2 (GY (Nat.zero_le N) h)
theorem QS {cd:List (List Nat)} {N i j:Nat} (h:∀ i j,j∈cdG cd i→j<N) (a:rcB cd N i j=true):j<N:=Nb h (rcB_iff.1 a)
theorem XS {m:List Tm} (ok:okC m) (i j:Nat) (h:j∈cdG (cdL m) i):j<m.length:=by
  rcases Nat.lt_or_ge i m.length with hi | hi
  · rw [US hi] at h
    obtain ⟨x,hx,rfl⟩:=mem_map.1 h
    have:=ok _ (getElem_mem hi) x hx;omega
  · unfold cdG cdL at h
    rw [getD_eq_getElem?_getD,getElem?_eq_none (by simpa using hi)] at h;simp at h
theorem AF {m:List Tm} {x y:Int} (h:y∈sfI m x):y.toNat∈cdG (cdL m) x.toNat:=by
  unfold sfI at h
  rcases Nat.lt_or_ge x.toNat m.length with hi | hi
  · rw [US hi];rw [YK hi] at h;exact mem_map.2 ⟨y,h,rfl⟩
  · rw [Rz hi] at h;simp [dT,sfR,Yl,Yp] at h
theorem stO_mem {P:Int→Bool} {c:List Int}:∀ {out:List Int} {x:Int},x∈stO P c out↔x∈out∨(x∈c∧P x=true):=by
  induction c with
  | nil=>intro out x;simp [stO]
  | cons y c ih=>
    intro out x
    show x∈stO P c (if P y=true∧y∉out then out++[y] else out)↔_
    rw [ih]
    by_cases q:P y=true∧y∉out
    · rw [if_pos q];simp only [mem_append,mem_cons,not_mem_nil,or_false]
      constructor
      · rintro ((h | rfl) | h)
        · exact .inl h
        · exact .inr ⟨.inl rfl,q.1⟩
        · exact .inr ⟨.inr h.1,h.2⟩
      · rintro (h | ⟨rfl | h,hp⟩)
        · exact .inl (.inl h)
        · exact .inl (.inr rfl)
        · exact .inr ⟨h,hp⟩
    · rw [if_neg q];simp only [mem_cons]
      constructor
      · rintro (h | h)
        · exact .inl h
        · exact .inr ⟨.inr h.1,h.2⟩
      · rintro (h | ⟨rfl | h,hp⟩)
        · exact .inl h
        · by_cases z:x∈out
          · exact .inl z
          · exact absurd ⟨hp,z⟩ q
        · exact .inr ⟨h,hp⟩
theorem Mp {n:Nat} {P:Int→Bool} {s:Int→List Int} (hs:∀ x,∀ y∈s x,0≤y∧y<(n:Int)):∀ (f a:Nat) {out:List Int},okO n out→n≤f+a→(∀ b,b<a→b<out.length→∀ y∈s (out.getD b 0),P y=true→y∈out)→
    (∀ x∈ordB P s f a out,x∈out∨P x=true)∧(∀ x∈ordB P s f a out,∀ y∈s x,P y=true→y∈ordB P s f a out)
  | 0,a,out,h,hf,hi=>by
    have hl:=h.len
    refine ⟨fun x hx=>.inl hx,fun x hx y hy hp=>?_⟩
    obtain ⟨b,hb,rfl⟩:=List.getElem_of_mem (show x∈out from hx)
    exact hi b (by omega) hb y (by rw [Ub hb];exact hy) hp
  | f + 1,a,out,h,hf,hi=>by
    rw [ordB];split
    · rename_i ha
      have h1:=S9 (P:=P) (hs (out.getD a 0)) h
      have ih:=Mp (P:=P) hs f (a+1) h1.1 (by omega) (fun b hb hbl y hy hp=>by
        have hbo:b<out.length:=by omega
        have e:(stO P (s (out.getD a 0)) out).getD b 0=out.getD b 0:=by
          obtain ⟨r,hr⟩:=h1.2
          rw [← hr,getD_eq_getElem?_getD,List.getElem?_append_left hbo,← getD_eq_getElem?_getD]
        rw [e] at hy
        rw [stO_mem]
        by_cases c:b<a
        · exact .inl (hi b c hbo y hy hp)
        · obtain rfl:b=a:=by omega
          exact .inr ⟨hy,hp⟩)
      refine ⟨fun x hx=>?_,ih.2⟩
      rcases ih.1 x hx with q | q
      · rcases stO_mem.1 q with q | q
        · exact .inl q
        · exact .inr q.2
      · exact .inr q
    · rename_i ha
      refine ⟨fun x hx=>.inl hx,fun x hx y hy hp=>?_⟩
      obtain ⟨b,hb,rfl⟩:=List.getElem_of_mem hx
      exact hi b (by omega) hb y (by rw [Ub hb];exact hy) hp
theorem VF {m:List Tm} (ok:okC m) {i:Int} (h0:0≤i) (h1:i<(m.length:Int)) {x:Int} (hx0:0≤x):x∈Y8 m i↔x=i∨prB m i x=true:=by
  have inv:=Mp (P:=prB m i) ok.sfI m.length 0 (okO.one h0 h1) (by omega) (fun b hb=>absurd hb (by omega))
  have hl:=XS ok
  constructor
  · intro h
    rcases inv.1 x h with q | q
    · exact .inl (by simpa using q)
    · exact .inr q
  · intro h
    have hi:i∈Y8 m i:=by obtain ⟨t,e⟩:=VG ok h0 h1;rw [e];exact mem_cons_self
    rcases h with rfl | h
    · exact hi
    · unfold prB at h
      rw [Bool.and_eq_true] at h
      have key:∀ {a b:Nat},plt (fun i j=>j∈cdG (cdL m) i) m.length a b→rcB (cdL m) m.length a b=true∧((a:Int)∈Y8 m i→rcB (cdL m) m.length b i.toNat=true→(b:Int)∈Y8 m i):=by
        intro a b q
        refine XU (T:=fun a b=>rcB (cdL m) m.length a b=true∧((a:Int)∈Y8 m i→rcB (cdL m) m.length b i.toNat=true→(b:Int)∈Y8 m i)) (fun a b r=>⟨XL r,fun ha hb=>?_⟩) (fun a b c p q=>⟨Z9 hl p.1 q.1,fun ha hc=>q.2 (p.2 ha (Z9 hl q.1 hc)) hc⟩) q
        rcases inv.1 (a:Int) ha with z | z
        · have e:(a:Int)=i:=by simpa using z
          have ea:a=i.toNat:=by omega
          refine inv.2 _ ha (b:Int) ?_ (by unfold prB;rw [Bool.and_eq_true];exact ⟨by subst ea;exact XL r,hb⟩)
          have hal:a<m.length:=by omega
          rw [US hal] at r
          obtain ⟨y,hy,e2⟩:=mem_map.1 r
          have:=ok _ (getElem_mem hal) y hy
          have:y=(b:Int):=by omega
          subst this
          rw [O4 (by simpa using hal)];simpa using hy
        · unfold prB at z
          rw [Bool.and_eq_true] at z
          have hal:a<m.length:=by have:=QS hl z.1;simpa using this
          refine inv.2 _ ha (b:Int) ?_ (by unfold prB;rw [Bool.and_eq_true];exact ⟨Z9 hl z.1 (XL r),hb⟩)
          rw [US hal] at r
          obtain ⟨y,hy,e2⟩:=mem_map.1 r
          have:=ok _ (getElem_mem hal) y hy
          have:y=(b:Int):=by omega
          subst this
          rw [O4 (by simpa using hal)];simpa using hy
      have:=(key (rcB_iff.1 h.1)).2 (by rw [Int.toNat_of_nonneg h0];exact hi) h.2
      rwa [Int.toNat_of_nonneg hx0] at this
def byL (n:Nat) (o:List Int):List Int:=(range n).map fun k:Nat=>if (k:Int)∈o then (o.idxOf (k:Int):Int) else -1
def smL (m:List Tm) (o:List Int) (g:Nat→Sm):List Sm:=(range m.length).map fun k:Nat=>if (k:Int)∉o∧rcB (cdL m) m.length (o.getD 0 0).toNat k=true then g k else zS
def cdI (m:List Tm) (o:List Int) (g:Nat→Sm):It:=.mk 40 o.length ⟨#[]⟩ (o.map fun n=>itT (Z8 (byL m.length o) (smL m o g) (atL m n.toNat)))
def coI (m:List Tm):Nat→Nat→It
  | 0,_=>.mk 0 0 ⟨#[]⟩ []
  | f+1,i=>cdI m (Y8 m i) (fun k=>sha (Yf (coI m f k)))
def coX (m:List Tm) (i k:Nat):Bool:= !decide ((k:Int)∈Y8 m i)&&rcB (cdL m) m.length i k
def coE (m:List Tm):Nat→Nat→Bool
  | 0,_=>false
  | f+1,i=>(range m.length).any (fun k=>coX m i k&&coE m f k)||decide (65536<(Yf (coI m (f+1) i)).length)
def rkM (m:List Tm) (i:Nat):Nat:=(range m.length).countP fun k=>decide (k=i)||rcB (cdL m) m.length i k
theorem LQ (m:List Tm) (i:Nat):rkM m i≤m.length:=by
  have:=List.countP_le_length (p:=fun k=>decide (k=i)||rcB (cdL m) m.length i k) (l:=range m.length)
  rwa [length_range] at this
theorem WS {m:List Tm} (ok:okC m) {i k:Nat} (hi:i<m.length) (h:coX m i k=true):k<m.length∧rkM m k<rkM m i:=by
  unfold coX at h
  rw [Bool.and_eq_true,Bool.not_eq_true',decide_eq_false_iff_not] at h
  have hl:=XS ok
  refine ⟨QS hl h.2,KE (x:=i) (fun x _ hx=>?_) (mem_range.2 hi) (by simp) ?_⟩
  · rw [Bool.or_eq_true,decide_eq_true_iff] at hx ⊢
    rcases hx with rfl | hx
    · exact .inr h.2
    · exact .inr (Z9 hl h.2 hx)
  · rw [Bool.or_eq_false_iff]
    have hn:=h.1
    rw [VF ok (by omega) (by omega) (by omega)] at hn
    refine ⟨?_,?_⟩
    · simp only [decide_eq_false_iff_not];intro e;subst e;exact hn (.inl rfl)
    · cases e:rcB (cdL m) m.length k i with
      | false=>rfl
      | true=>exact absurd (.inr (by unfold prB;simp [h.2,e])) hn
theorem P4 {m:List Tm} (ok:okC m) {i:Nat} (hi:i<m.length) {g g':Nat→Sm} (h:∀ k,coX m i k=true→g k=g' k):smL m (Y8 m i) g=smL m (Y8 m i) g':=by
  unfold smL
  refine map_congr_left fun (k:Nat) _=>?_
  obtain ⟨t,e⟩:=VG ok (i:=(i:Int)) (by omega) (by omega)
  have e0:((Y8 m i).getD 0 0).toNat=i:=by rw [e];simp
  rw [e0]
  by_cases c:((k:Nat):Int)∉Y8 m i∧rcB (cdL m) m.length i k=true
  · rw [if_pos c,if_pos c];exact h k (by unfold coX;simp [c.1,c.2])
  · rw [if_neg c,if_neg c]
theorem TQ {m:List Tm} (ok:okC m):∀ (f f' i:Nat),i<m.length→rkM m i<f→rkM m i<f'→coI m f i=coI m f' i
  | 0,_,_,_,h,_=>absurd h (by omega)
  | _+1,0,_,_,_,h=>absurd h (by omega)
  | f +1,f'+1,i,hi,h,h'=>by
    have e:=P4 (g:=fun k=>sha (Yf (coI m f k))) (g':=fun k=>sha (Yf (coI m f' k))) ok hi fun k hk=>by
      have:=WS ok hi hk
      simp only [TQ ok f f' k this.1 (by omega) (by omega)]
    rw [coI,coI,cdI,cdI,e]
theorem Pr {m:List Tm} (ok:okC m):∀ (f f' i:Nat),i<m.length→rkM m i<f→rkM m i<f'→coE m f i=coE m f' i
  | 0,_,_,_,h,_=>absurd h (by omega)
  | _+1,0,_,_,_,h=>absurd h (by omega)
  | f +1,f'+1,i,hi,h,h'=>by
    rw [coE,coE,TQ ok (f+1) (f'+1) i hi h h']
    congr 1
    rw [Bool.eq_iff_iff,any_eq_true,any_eq_true]
    refine exists_congr fun k=>and_congr_right fun _=>?_
    cases c:coX m i k with
    | false=>simp
    | true=>
      have:=WS ok hi c
      rw [Pr ok f f' k this.1 (by omega) (by omega)]
def Ye (m:List Tm) (i:Nat):It:=coI m (m.length+1) i
def VO (m:List Tm) (i:Nat):Bool:=coE m (m.length+1) i
theorem SO {m:List Tm} (ok:okC m) {i:Nat} (hi:i<m.length):Ye m i=cdI m (Y8 m i) (fun k=>sha (Yf (Ye m k))):=by
  unfold Ye
  rw [coI,cdI,cdI,P4 ok hi fun k hk=>?_]
  have:=WS ok hi hk
  have:=LQ m i
  rw [TQ ok m.length (m.length+1) k (by omega) (by omega) (by omega)]
theorem SP {m:List Tm} (ok:okC m) {i:Nat} (hi:i<m.length):VO m i=((range m.length).any (fun k=>coX m i k&&VO m k)||decide (65536<(Yf (Ye m i)).length)):=by
  unfold VO Ye
  rw [coE]
  congr 1
  rw [Bool.eq_iff_iff,any_eq_true,any_eq_true]
  refine exists_congr fun k=>and_congr_right fun _=>?_
  cases c:coX m i k with
  | false=>simp
  | true=>
    have:=WS ok hi c
    have:=LQ m i
    rw [Pr ok m.length (m.length+1) k (by omega) (by omega) (by omega)]
section
variable {by':List Int} {s:List Sm}
mutual
theorem WI:∀ t:Tm,sizeT (Z8 by' s t)≤sizeT t∧Yj (Z8 by' s t)≤Yj t
  | .mk k n r kids cases=>by
    have h1:=UO kids
    have h2:=SN cases
    rw [Z8]
    split
    · split <;> (simp only [sizeT,sizeTs,sizeCs,Yj,Yi,Yo];omega)
    · have a:=QF kids
      have b:=QH cases
      simp only [sizeT,Yj];omega
theorem QF:∀ l:List Tm,sizeTs (ZZ by' s l)≤sizeTs l∧Yi (ZZ by' s l)≤Yi l
  | []=>by simp [ZZ]
  | t::l=>by
    have a:=WI t
    have b:=QF l
    simp only [ZZ,sizeTs,Yi];omega
theorem QH:∀ l:List (Pt×Tm),sizeCs (ZW by' s l)≤sizeCs l∧Yo (ZW by' s l)≤Yo l
  | []=>by simp [ZW]
  | (p,t)::l=>by
    have a:=WI t
    have b:=QH l
    simp only [ZW,sizeCs,Yo];omega
end
theorem QX (l:List (Pt×Tm)):YZ (ZW by' s l)=YZ l:=by
  induction l with
  | nil=>rfl
  | cons c l ih=>rw [ZW,YZ,YZ,ih]
theorem Xi {d m b k n:Int} {r:Sm} {kids:List Tm} {cases:List (Pt×Tm)} (h:ZV d m b (.mk k n r kids cases)=0):YF d m b k n r kids.length cases.length=0∧YZ cases=0∧Z0 d m b k 0 kids=0∧Yc d m b cases=0:=by
  rw [ZV] at h
  split at h
  · split at h
    · split at h
      · exact ⟨by assumption,by assumption,by assumption,h⟩
      · exact absurd h (by assumption)
    · exact absurd h (by assumption)
  · exact absurd h (by assumption)
theorem Sq {d m b k n:Int} {r:Sm} {kids:List Tm} {cases:List (Pt×Tm)} (h1:YF d m b k n r kids.length cases.length=0) (h2:YZ cases=0) (h3:Z0 d m b k 0 kids=0) (h4:Yc d m b cases=0):ZV d m b (.mk k n r kids cases)=0:=by
  rw [ZV,if_pos h1,if_pos h2,if_pos h3];exact h4
theorem Ct {d m m' b k n:Int} {r:Sm} {l lc:Nat} (hk:¬ k=7) (h:YF d m b k n r l lc=0):YF d m' b k n r l lc=0:=by
  unfold YF at h ⊢;simp only [hk,false_and,or_false] at h ⊢;exact h
theorem Ta {d m b n:Int} {r:Sm} {l lc:Nat} (h:YF d m b 7 n r l lc=0):r=zS∧l=0∧lc=0∧0≤n∧n<m:=by
  unfold YF Yx Ys loK hiK at h
  simp at h
  by_cases e:r=zS
  · simp [e] at h;exact ⟨e,by omega⟩
  · simp [e] at h
mutual
theorem Sp {d m m':Int} (hb:∀ x:Int,0≤x→x<m→by'.getD x.toNat 0<m'):∀ (b:Int) (t:Tm),ZV d m b t=0→ZV d m' b (Z8 by' s t)=0
  | b, .mk k n r kids cases,h=>by
    obtain ⟨h1,h2,h3,h4⟩:=Xi h
    rw [Z8]
    by_cases e:k=7
    · subst e
      rw [if_pos rfl]
      have q:=Ta h1
      have hx:=hb n q.2.2.2.1 q.2.2.2.2
      split
      · exact Sq (by unfold YF Yx Ys loK hiK;simp) rfl rfl rfl
      · generalize by'.getD n.toNat 0=y at *
        exact Sq (by unfold YF Yx Ys loK hiK;simp;omega) rfl rfl rfl
    · rw [if_neg e]
      exact Sq (by rw [Ob,Oc];exact Ct e h1) (by rw [QX];exact h2) (Oj hb b k 0 kids h3) (Ok hb b cases h4)
theorem Oj {d m m':Int} (hb:∀ x:Int,0≤x→x<m→by'.getD x.toNat 0<m'):∀ (b k:Int) (i:Nat) (l:List Tm),Z0 d m b k i l=0→Z0 d m' b k i (ZZ by' s l)=0
  | b,k,i,[],_=>by rw [ZZ,Z0]
  | b,k,i,t::l,h=>by
    rw [Z0] at h
    split at h
    · rename_i h0
      rw [ZZ,Z0,if_pos (Sp hb _ t h0)];exact Oj hb b k (i+1) l h
    · exact absurd h (by assumption)
theorem Ok {d m m':Int} (hb:∀ x:Int,0≤x→x<m→by'.getD x.toNat 0<m'):∀ (b:Int) (l:List (Pt×Tm)),Yc d m b l=0→Yc d m' b (ZW by' s l)=0
  | b,[],_=>by rw [ZW,Yc]
  | b,(p,t)::l,h=>by
    rw [Yc] at h
    split at h
    · rename_i h0
      rw [ZW,Yc,if_pos (Sp hb _ t h0)];exact Ok hb b l h
    · exact absurd h (by assumption)
end
mutual
theorem Nk {d m:Int}:∀ (b:Int) (t:Tm),ZV d m b t=0→∀ x∈sfR t,0≤x∧x<m
  | b,.mk k n r kids cases,h,x,hx=>by
    obtain ⟨h1,_,h3,h4⟩:=Xi h
    rw [sfR] at hx
    by_cases e:k=7
    · subst e
      rw [if_pos rfl,mem_singleton] at hx
      subst hx;exact (Ta h1).2.2.2
    · rw [if_neg e,mem_append] at hx
      rcases hx with hx | hx
      · exact Mv b k 0 kids h3 x hx
      · exact Mw b cases h4 x hx
theorem Mv {d m:Int}:∀ (b k:Int) (i:Nat) (l:List Tm),Z0 d m b k i l=0→∀ x∈Yl l,0≤x∧x<m
  | b,k,i,[],_,x,hx=>by simp [Yl] at hx
  | b,k,i,t::l,h,x,hx=>by
    rw [Z0] at h
    split at h
    · rename_i h0
      rw [Yl,mem_append] at hx
      rcases hx with hx | hx
      · exact Nk _ t h0 x hx
      · exact Mv b k (i+1) l h x hx
    · exact absurd h (by assumption)
theorem Mw {d m:Int}:∀ (b:Int) (l:List (Pt×Tm)),Yc d m b l=0→∀ x∈Yp l,0≤x∧x<m
  | b,[],_,x,hx=>by simp [Yp] at hx
  | b,(p,t)::l,h,x,hx=>by
    rw [Yc] at h
    split at h
    · rename_i h0
      rw [Yp,mem_append] at hx
      rcases hx with hx | hx
      · exact Nk _ t h0 x hx
      · exact Mw b l h x hx
    · exact absurd h (by assumption)
end
mutual
theorem O1:∀ t:Tm,(∀ x∈sfR t,0≤by'.getD x.toNat 0)→sfR (Z8 by' s t)=(sfR t).map fun x=>by'.getD x.toNat 0
  | .mk k n r kids cases,h=>by
    rw [Z8]
    by_cases e:k=7
    · rw [if_pos e,sfR,if_pos e] at *
      have:=h n (by simp)
      rw [if_neg (by omega),sfR,if_pos rfl];rfl
    · rw [if_neg e,sfR,if_neg e,sfR,if_neg e,map_append]
      rw [sfR,if_neg e] at h
      rw [Jf kids fun x hx=>h x (mem_append.2 (.inl hx)),Jg cases fun x hx=>h x (mem_append.2 (.inr hx))]
theorem Jf:∀ l:List Tm,(∀ x∈Yl l,0≤by'.getD x.toNat 0)→Yl (ZZ by' s l)=(Yl l).map fun x=>by'.getD x.toNat 0
  | [],_=>rfl
  | t::l,h=>by
    rw [Yl] at h
    rw [ZZ,Yl,Yl,map_append,O1 t fun x hx=>h x (mem_append.2 (.inl hx)),Jf l fun x hx=>h x (mem_append.2 (.inr hx))]
theorem Jg:∀ l:List (Pt×Tm),(∀ x∈Yp l,0≤by'.getD x.toNat 0)→Yp (ZW by' s l)=(Yp l).map fun x=>by'.getD x.toNat 0
  | [],_=>rfl
  | (p,t)::l,h=>by
    rw [Yp] at h
    rw [ZW,Yp,Yp,map_append,O1 t fun x hx=>h x (mem_append.2 (.inl hx)),Jg l fun x hx=>h x (mem_append.2 (.inr hx))]
end
end
structure okG (l:List Tm):Prop where
  lo:1≤l.length
  hi:l.length≤8
  ck:∀ t∈l,ZG 0 l.length t=0
theorem okG.ok {l:List Tm} (h:okG l):okC l:=fun t ht=>Nk 0 t (checkR_iff.1 (h.ck t ht)).2
theorem okG.sz {l:List Tm} (h:okG l) {t:Tm} (ht:t∈l):sizeT t≤300:=by
  have:=(checkR_iff.1 (h.ck t ht)).1
  apply Classical.byContradiction;intro q
  rw [(WW t).2 (.inl (by omega))] at this;cases this
theorem Pz {d m m':Int} {by':List Int} {s:List Sm} (hb:∀ x:Int,0≤x→x<m→by'.getD x.toNat 0<m') {t:Tm} (h:ZG d m t=0):ZG d m' (Z8 by' s t)=0:=by
  obtain ⟨h1,h2⟩:=checkR_iff.1 h
  refine checkR_iff.2 ⟨?_,Sp hb 0 t h2⟩
  have:=WI (by':=by') (s:=s) t
  cases e:Sv (Z8 by' s t) with
  | false=>rfl
  | true=>
    rw [WW] at e
    rw [(WW t).2 (by omega)] at h1;cases h1
theorem okG.mkL {l:List Tm} (h:okG l):okG (Hs.mkL l):=by
  refine ⟨by rw [ZQ];exact h.lo,by rw [ZQ];exact h.hi,fun t ht=>?_⟩
  obtain ⟨u,hu,rfl⟩:=mem_map.1 ht
  rw [ZQ]
  refine Pz (fun x h0 h1=>?_) (h.ck u hu)
  rw [Xs h0 h1]
  have:=Ya (l:=l) (i:=x.toNat) (by omega);omega
theorem FK {l:List Tm} {i:Nat} (h:i<l.length):atL (mkL l) i=Z8 (frI l) [] (atL l i):=by
  rw [YK (by rw [ZQ];exact h),YK h];simp [mkL]
theorem Pc {l:List Tm} (h:okG l) {i:Nat} (hi:i<l.length):sfR (atL (mkL l) i)=(sfR (atL l i)).map fun x=>(firstN l x.toNat:Int):=by
  have:=h.ok.at i
  rw [FK hi,O1 _ fun x hx=>by rw [Xs (this x hx).1 (this x hx).2];omega]
  exact map_congr_left fun x hx=>Xs (this x hx).1 (this x hx).2
theorem Xt {l:List Tm} (h:okC l) {i:Nat} (hi:i<l.length):firstN l (firstN l i)=firstN l i:=
  (Wc h (Ya hi) hi).2 (VS h (Y6 hi))
theorem FJ {l:List Tm} (h:okG l) {i j:Nat} (hj:j∈cdG (cdL (mkL l)) i):j<l.length∧firstN l j=j:=by
  have hlt:=XS h.mkL.ok i j hj
  rw [ZQ] at hlt
  refine ⟨hlt,?_⟩
  rcases Nat.lt_or_ge i l.length with hi | hi
  · rw [US (by rw [ZQ];exact hi),← YK] at hj
    unfold sfN at hj
    rw [Pc h hi] at hj
    obtain ⟨y,hy,rfl⟩:=mem_map.1 hj
    obtain ⟨x,hx,rfl⟩:=mem_map.1 hy
    have:=h.ok.at i x hx
    simp only [Int.toNat_natCast]
    exact Xt h.ok (by omega)
  · unfold cdG cdL at hj
    rw [getD_eq_getElem?_getD,getElem?_eq_none (by rw [length_map,ZQ];exact hi)] at hj;simp at hj
theorem QR {l:List Tm} (h:okG l) {N i j:Nat} (r:rcB (cdL (mkL l)) N i j=true):j<l.length∧firstN l j=j:=
  XU (T:=fun _ j=>j<l.length∧firstN l j=j) (fun _ _ q=>FJ h q) (fun _ _ _ _ q=>q) (rcB_iff.1 r)
def Pk (x:It):List Int:=if 65536<(Yf x).length then [] else Yf x
def X5 (x:It):Int:=if 65536<(Yf x).length then 11 else 0
theorem Bd {x:It} (h:(Yf x).length≤65536):Pk x=Yf x:=by unfold Pk;rw [if_neg (by omega)]
theorem Bf {x:It} (h:(Yf x).length≤65536):X5 x=0:=by unfold X5;rw [if_neg (by omega)]
theorem Be {x:It} (h:65536<(Yf x).length):Pk x=[]:=by unfold Pk;rw [if_pos h]
theorem Bg {x:It} (h:65536<(Yf x).length):X5 x=11:=by unfold X5;rw [if_pos h]
theorem Iy {T:TypeId} {a:Option Addr} {cap:Nat} {x:It} {k:Zf} (h:Own T 1 (.slice a (Yf x).length cap) (YU (Yf x)) k):
    ∃ u k',(if 65536<(Yf x).length then Value.tuple ⟨[.slice none 0 0,.int .i64 11]⟩ else .tuple ⟨[.slice a (Yf x).length cap,.int .i64 0]⟩)=.tuple ⟨[u,.int .i64 (X5 x)]⟩∧(k'=k∨k'=[])∧Own T 1 u (YU (Pk x)) k':=by
  by_cases c:65536<(Yf x).length
  · exact ⟨_,[],by rw [if_pos c,Bg c],.inr rfl,by rw [Be c];exact Own.nil⟩
  · exact ⟨_,k,by rw [if_neg c,Bf (by omega)],.inl rfl,by rw [Bd (by omega)];exact h⟩
theorem Ix {M:List Zf} {i:Nat} {k k':Zf} (hi:M[i]?=some k) (h:k'=k∨k'=[]):Sub (k'::M.eraseIdx i) M:=by
  rcases h with rfl | rfl
  · exact Sub.cons i hi Sub.refl
  · exact ZcL ⟨k,(Yt hi).trans perm_append_comm⟩
theorem Pg (l:List Int) (j:Nat) (x:Int):(Z2 l).set j [.int .i64 x]=Z2 (l.set j x):=by simp [Z2,List.map_set]
theorem NK (n:Nat) (o:List Int):(byL n o).length=n:=by simp [byL]
theorem Bz {n k:Nat} {o:List Int} (h:k<n):(byL n o)[k]'(by rw [NK];exact h)=if (k:Int)∈o then (o.idxOf (k:Int):Int) else -1:=by simp [byL]
theorem UT {n k:Nat} {o:List Int} (h:k<n):(byL n o).getD k 0=if (k:Int)∈o then (o.idxOf (k:Int):Int) else -1:=by
  rw [getD_eq_getElem?_getD,getElem?_eq_getElem (by rw [NK];exact h),Option.getD_some,Bz h]
theorem ZaL {n:Nat} {o:List Int} (ok:okO n o) (x:Int):(byL n o).getD x.toNat 0<max (n:Int) 1:=by
  rcases Nat.lt_or_ge x.toNat n with h | h
  · rw [UT h];split
    · rename_i hm
      have:=List.idxOf_lt_length_of_mem hm
      have:=ok.len;omega
    · omega
  · rw [getD_eq_getElem?_getD,getElem?_eq_none (by rw [NK];exact h)];simp;omega
theorem Lb {m:List Tm} (h:okG m) {o:List Int} (ok:okO m.length o) (s:List Sm) {n:Int} (h0:0≤n) (h1:n<(m.length:Int)):ZG 60 8 (Z8 (byL m.length o) s (atL m n.toNat))=0:=by
  have hm:=h.ck _ (XM (l:=m) (i:=n.toNat) (by omega))
  have hl:=h.lo
  have hh:=h.hi
  refine La (d:=0) (m:=8) (by omega) (by omega) (Pz (fun x _ _=>?_) hm)
  have:=ZaL ok x;omega
def cdK (m:List Tm) (o:List Int) (s:List Sm) (n:Int):It:=itT (Z8 (byL m.length o) s (atL m n.toNat))
theorem KK {m:List Tm} (h:okG m) {o:List Int} (ok:okO m.length o) (g:Nat→Sm):gdI (cdI m o g)∧szI (cdI m o g)≤4801∧dpI (cdI m o g)≤121:=by
  have hl:=ok.len
  have hh:=h.hi
  have key:∀ l:List Int,(∀ x∈l,0≤x∧x<(m.length:Int))→Y4 (l.map (cdK m o (smL m o g)))∧Xh (l.map (cdK m o (smL m o g)))≤600*l.length∧X6 (l.map (cdK m o (smL m o g)))≤120:=by
    intro l
    induction l with
    | nil=>intro _;simp [Y4,Xh,X6]
    | cons x l ih=>
      intro hx
      have a:=Mf (Lb h ok (smL m o g) (hx x (by simp)).1 (hx x (by simp)).2)
      have b:=ih fun y hy=>hx y (by simp [hy])
      simp only [map_cons,Y4,Xh,X6,length_cons]
      unfold cdK
      exact ⟨⟨a.1,b.1⟩,by have:=b.2.1;unfold cdK at this;omega,by have:=b.2.2;unfold cdK at this;omega⟩
  have k:=key o ok.2
  unfold cdI
  rw [gdI,szI,dpI]
  exact ⟨⟨by omega,by omega,by decide,k.1⟩,by have:=k.2.1;unfold cdK at this;omega,by have:=k.2.2;unfold cdK at this;omega⟩
theorem ER {m:List Tm} {o:List Int} {s:List Sm} {p:Nat} (h:p<o.length):(o.take (p+1)).map (cdK m o s)=(o.take p).map (cdK m o s)++[cdK m o s o[p]]:=by
  rw [take_succ_eq_append_getElem h,map_append];rfl
def coO (m:List Tm) (f i:Nat):List Int:=if coE m f i=true then [] else Yf (coI m f i)
def coR (m:List Tm) (f i:Nat):Int:=if coE m f i=true then 11 else 0
theorem EG {m:List Tm} {f i:Nat}:coI m (f+1) i=cdI m (Y8 m i) (fun k=>sha (Yf (coI m f k))):=by rw [coI]
theorem ZaA {m:List Tm} (h:okG m) {f i:Nat} (hi:i<m.length):gdI (coI m (f+1) i)∧szI (coI m (f+1) i)≤4801∧dpI (coI m (f+1) i)≤121:=by
  rw [EG];exact KK h (Qe h.ok (by omega) (by omega)) _
theorem If {l:List Tm} {es:List (List Value)} {c:Zf} {j:Nat} (h:OTs l es c) (hj:j<l.length):∃ e,es[j]?=some e∧e.length=36∧okc e∧∀ h,Has c h→RT h e (atL l j):=by
  rw [YK hj];exact BQ h hj
theorem Gz {l:List Sm} {j:Nat} (h:j<l.length):(sms l)[j]'(by rw [XJ];exact h)=sC (l.getD j zS):=by rw [DU l j h,CS h]
theorem Zay {m:List Tm} {f k:Nat} (h:coR m f k=0):coE m f k=false∧coO m f k=Yf (coI m f k):=by
  unfold coR at h
  cases e:coE m f k with
  | true=>rw [e] at h;simp at h
  | false=>exact ⟨rfl,by unfold coO;rw [e];exact if_neg (by simp)⟩
theorem Bp {m:List Tm} (h:okG m) {f k:Nat} (hk:k<m.length) (hr:rkM m k<f):(Yf (coI m f k)).length≤250000∧∀ x∈Yf (coI m f k),0≤x∧x≤255:=by
  cases f with
  | zero=>exact absurd hr (by omega)
  | succ f=>
    have g:=ZaA h (f:=f) hk
    have:=Qm _ g.1 (by omega)
    exact ⟨by omega,ZbZ _ g.1⟩
theorem nmk {l:List Tm} {i:Nat} (hi:i<l.length):(firstN l i:Int)<((mkL l).length:Int):=by rw [ZQ];have:=Ya hi;omega
noncomputable def cR (l:List Tm) (i:Nat):Int:=coR (mkL l) ((mkL l).length+1) (firstN l i)
noncomputable def cO (l:List Tm) (i:Nat):List Int:=coO (mkL l) ((mkL l).length+1) (firstN l i)
noncomputable def cB (l:List Tm) (i:Nat):List Int:=Yf (Ye (mkL l) (firstN l i))
theorem Al {l:List Tm} {i:Nat} (h:cR l i=0):cO l i=cB l i:=(Zay h).2
theorem VQ (l:List Tm) (i:Nat):cR l i=if VO (mkL l) (firstN l i)=true then 11 else 0:=rfl
theorem Am {l:List Tm} (h:okG l) {i:Nat} (hi:i<l.length):(cB l i).length≤250000∧∀ x∈cB l i,0≤x∧x≤255:=by
  have:=LQ (mkL l) (firstN l i)
  exact Bp h.mkL (f:=(mkL l).length+1) (by rw [ZQ];exact Ya hi) (by omega)
noncomputable def smG (l:List Tm):List Sm:=(range l.length).map fun i=>sha (cB l i)
noncomputable def erG (l:List Tm):Bool:=(range l.length).any fun i=> !decide (cR l i=0)
noncomputable def erR (l:List Tm):Int:=if erG l=true then 11 else 0
noncomputable def smO (l:List Tm):List Sm:=if erG l=true then [] else smG l
theorem We (l:List Tm):(smG l).length=l.length:=by simp [smG]
theorem GA {l:List Tm} {j:Nat} (h:j<l.length):(smG l).take (j+1)=(smG l).take j++[sha (cB l j)]:=by
  rw [take_succ_eq_append_getElem (by rw [We];exact h)];simp [smG]
theorem OR {l:List Tm} (h:∀ k,k<l.length→cR l k=0):erR l=0∧smO l=smG l∧erG l=false:=by
  have e:erG l=false:=List.any_eq_false.2 fun k hk=>by simp [h k (mem_range.1 hk)]
  unfold erR smO
  rw [e];exact ⟨rfl,rfl,rfl⟩
theorem Zaq {l:List Tm} (h:erR l=0):erG l=false∧smO l=smG l:=by
  cases e:erG l with
  | true=>unfold erR at h;rw [e] at h;simp at h
  | false=>unfold smO;rw [e];exact ⟨rfl,rfl⟩
noncomputable def opL (l:List Tm):List Tm:=l.map (Z8 (replicate l.length (-1)) (smG l))
theorem Qg (l:List Tm):(opL l).length=l.length:=by simp [opL]
theorem Fj {l:List Tm} {j:Nat} (h:j<l.length):(opL l).take (j+1)=(opL l).take j++[Z8 (replicate l.length (-1)) (smG l) l[j]]:=by
  rw [take_succ_eq_append_getElem (by rw [Qg];exact h)];simp [opL]
theorem OL.nil:OL [] (.slice none 0 0) []:=⟨[],[],[],Own.nil,OTs.nil,rfl,by simp⟩
section
variable {σ:Type} (F:σ→Tm→σ)
mutual
def ndT:σ→Tm→σ
  | s,.mk k n r kids cases=>ndC (ndL (F s (.mk k n r kids cases)) kids) cases
def ndL:σ→List Tm→σ
  | s,[]=>s
  | s,t::l=>ndL (ndT s t) l
def ndC:σ→List (Pt×Tm)→σ
  | s,[]=>s
  | s,c::l=>ndC (ndT s c.2) l
end
end
section
variable {σ:Type} {F:σ→Tm→σ} {wt:σ→Nat}
mutual
theorem Nh (hw:∀ s y,wt (F s y)≤wt s+1):∀ (s:σ) (t:Tm),wt (ndT F s t)≤wt s+sizeT t
  | s,.mk k n r kids cases=>by
    have a:=hw s (.mk k n r kids cases)
    have b:=Nj hw (F s (.mk k n r kids cases)) kids
    have c:=L8 hw (ndL F (F s (.mk k n r kids cases)) kids) cases
    rw [ndT,sizeT];omega
theorem Nj (hw:∀ s y,wt (F s y)≤wt s+1):∀ (s:σ) (l:List Tm),wt (ndL F s l)≤wt s+sizeTs l
  | s,[]=>by simp [ndL,sizeTs]
  | s,t::l=>by
    have a:=Nh hw s t
    have b:=Nj hw (ndT F s t) l
    rw [ndL,sizeTs];omega
theorem L8 (hw:∀ s y,wt (F s y)≤wt s+1):∀ (s:σ) (l:List (Pt×Tm)),wt (ndC F s l)≤wt s+sizeCs l
  | s,[]=>by simp [ndC,sizeCs]
  | s,(p,t)::l=>by
    have a:=Nh hw s t
    have b:=L8 hw (ndT F s t) l
    simp only [ndC,sizeCs];omega
end
theorem Fr {l:List Tm} {j:Nat} (h:j<l.length):∀ s,ndL F s (l.take (j+1))=ndT F (ndL F s (l.take j)) l[j]:=by
  induction l generalizing j with
  | nil=>exact absurd h (by simp)
  | cons t l ih=>
    intro s
    cases j with
    | zero=>simp [ndL]
    | succ j=>simp only [take_succ_cons,ndL,getElem_cons_succ];exact ih (by simpa using h) _
theorem Ft {l:List (Pt×Tm)} {j:Nat} (h:j<l.length):∀ s,ndC F s (l.take (j+1))=ndT F (ndC F s (l.take j)) l[j].2:=by
  induction l generalizing j with
  | nil=>exact absurd h (by simp)
  | cons t l ih=>
    intro s
    cases j with
    | zero=>simp [ndC]
    | succ j=>simp only [take_succ_cons,ndC,getElem_cons_succ];exact ih (by simpa using h) _
end
theorem T0 {l:List Tm} {j:Nat} (h:j<l.length):sizeTs (l.take j)+sizeT l[j]≤sizeTs l:=by
  induction l generalizing j with
  | nil=>exact absurd h (by simp)
  | cons t l ih=>
    cases j with
    | zero=>simp [sizeTs]
    | succ j=>simp only [take_succ_cons,sizeTs,getElem_cons_succ];have:=ih (by simpa using h);omega
theorem OY {l:List (Pt×Tm)} {j:Nat} (h:j<l.length):sizeCs (l.take j)+sizeT l[j].2≤sizeCs l:=by
  induction l generalizing j with
  | nil=>exact absurd h (by simp)
  | cons t l ih=>
    cases j with
    | zero=>simp [sizeCs];omega
    | succ j=>simp only [take_succ_cons,sizeCs,getElem_cons_succ];have:=ih (by simpa using h);omega
def sfF (s:List Int) (y:Tm):List Int:=if y.kind=7 then s++[y.num] else s
theorem GE (s:List Int) (y:Tm):(sfF s y).length≤s.length+1:=by unfold sfF;split <;> simp
mutual
theorem L7 {d m:Int}:∀ (b:Int) (t:Tm) (s:List Int),ZV d m b t=0→ndT sfF s t=s++sfR t
  | b,.mk k n r kids cases,s,h=>by
    obtain ⟨h1,_,h3,h4⟩:=Xi h
    rw [ndT,sfR,sfF]
    by_cases e:k=7
    · subst e
      have q:=Ta h1
      obtain rfl:=eq_nil_of_length_eq_zero q.2.1
      obtain rfl:=eq_nil_of_length_eq_zero q.2.2.1
      rw [show (Tm.mk 7 n r [] []).kind=7 from rfl,if_pos rfl,if_pos rfl];rfl
    · rw [show (Tm.mk k n r kids cases).kind=k from rfl,if_neg e,if_neg e,Fs b k 0 kids s h3,Fu b cases _ h4,append_assoc]
theorem Fs {d m:Int}:∀ (b k:Int) (i:Nat) (l:List Tm) (s:List Int),Z0 d m b k i l=0→ndL sfF s l=s++Yl l
  | b,k,i,[],s,_=>by simp [ndL,Yl]
  | b,k,i,t::l,s,h=>by
    rw [Z0] at h
    split at h
    · rename_i h0
      rw [ndL,Yl,L7 _ t s h0,Fs b k (i+1) l _ h,append_assoc]
    · exact absurd h (by assumption)
theorem Fu {d m:Int}:∀ (b:Int) (l:List (Pt×Tm)) (s:List Int),Yc d m b l=0→ndC sfF s l=s++Yp l
  | b,[],s,_=>by simp [ndC,Yp]
  | b,(p,t)::l,s,h=>by
    rw [Yc] at h
    split at h
    · rename_i h0
      rw [ndC,Yp,L7 _ t s h0,Fu b l _ h,append_assoc]
    · exact absurd h (by assumption)
end
def sfP (t:Tm):List Int:=ndT sfF [] t
theorem Qb (t:Tm):(sfP t).length≤sizeT t:=by
  have:=Nh (wt:=List.length) GE [] t
  simpa [sfP] using this
theorem O2 {d m:Int} {t:Tm} (h:ZG d m t=0):sfP t=sfR t:=by
  have:=L7 0 t [] (checkR_iff.1 h).2
  simpa [sfP] using this
section
variable (D:Int→Int→Sm→Int×Int×Sm)
mutual
def mpT:Tm→Tm
  | .mk k n r kids cases=>.mk (D k n r).1 (D k n r).2.1 (D k n r).2.2 (Rm kids) (Rn cases)
def Rm:List Tm→List Tm
  | []=>[]
  | t::l=>mpT t::Rm l
def Rn:List (Pt×Tm)→List (Pt×Tm)
  | []=>[]
  | c::l=>(c.1,mpT c.2)::Rn l
end
theorem Q9 (l:List Tm):Rm D l=l.map (mpT D):=by induction l with
  | nil=>rfl
  | cons t l ih=>rw [Rm,ih];rfl
theorem Pa (l:List (Pt×Tm)):Rn D l=l.map fun c=>(c.1,mpT D c.2):=by induction l with
  | nil=>rfl
  | cons t l ih=>rw [Rn,ih];rfl
theorem FH (l:List Tm):(Rm D l).length=l.length:=by rw [Q9,length_map]
theorem MA (l:List (Pt×Tm)):(Rn D l).length=l.length:=by rw [Pa,length_map]
theorem IZ (l:List Tm) (j:Nat) (h:j<l.length):Rm D (l.take (j+1))=Rm D (l.take j)++[mpT D l[j]]:=by
  rw [Q9,Q9,take_succ_eq_append_getElem h,map_append];rfl
theorem I0 (l:List (Pt×Tm)) (j:Nat) (h:j<l.length):Rn D (l.take (j+1))=Rn D (l.take j)++[((l[j]).1,mpT D (l[j]).2)]:=by
  rw [Pa,Pa,take_succ_eq_append_getElem h,map_append];rfl
end
section
variable (Q:Int→Int→Sm→Prop)
mutual
def RD:Tm→Prop
  | .mk k n r kids cases=>Q k n r∧Lr kids∧Ls cases
def Lr:List Tm→Prop
  | []=>True
  | t::l=>RD t∧Lr l
def Ls:List (Pt×Tm)→Prop
  | []=>True
  | c::l=>RD c.2∧Ls l
end
end
theorem HB {Q:Int→Int→Sm→Prop} {l:List Tm} (h:Lr Q l):∀ t∈l,RD Q t:=by
  induction l with
  | nil=>intro t ht;exact absurd ht (by simp)
  | cons x l ih=>
    intro t ht
    rcases mem_cons.1 ht with rfl | ht
    · exact h.1
    · exact ih h.2 t ht
theorem HC {Q:Int→Int→Sm→Prop} {l:List (Pt×Tm)} (h:Ls Q l):∀ c∈l,RD Q c.2:=by
  induction l with
  | nil=>intro t ht;exact absurd ht (by simp)
  | cons x l ih=>
    intro t ht
    rcases mem_cons.1 ht with rfl | ht
    · exact h.1
    · exact ih h.2 t ht
mutual
theorem Tl {Q:Int→Int→Sm→Prop} (hQ:∀ k n r,Q k n r):∀ t:Tm,RD Q t
  | .mk k n r kids cases=>⟨hQ _ _ _,PF hQ kids,PH hQ cases⟩
theorem PF {Q:Int→Int→Sm→Prop} (hQ:∀ k n r,Q k n r):∀ l:List Tm,Lr Q l
  | []=>trivial
  | t::l=>⟨Tl hQ t,PF hQ l⟩
theorem PH {Q:Int→Int→Sm→Prop} (hQ:∀ k n r,Q k n r):∀ l:List (Pt×Tm),Ls Q l
  | []=>trivial
  | t::l=>⟨Tl hQ t.2,PH hQ l⟩
end
def Vw (m:Int) (k n:Int) (_:Sm):Prop:=k=7→0≤n∧n<m
mutual
theorem RA {d m:Int}:∀ (b:Int) (t:Tm),ZV d m b t=0→RD (Vw m) t
  | b,.mk k n r kids cases,h=>by
    obtain ⟨h1,_,h3,h4⟩:=Xi h
    refine ⟨fun e=>?_,PG b k 0 kids h3,PI b cases h4⟩
    subst e;exact (Ta h1).2.2.2
theorem PG {d m:Int}:∀ (b k:Int) (i:Nat) (l:List Tm),Z0 d m b k i l=0→Lr (Vw m) l
  | b,k,i,[],_=>trivial
  | b,k,i,t::l,h=>by
    rw [Z0] at h
    split at h
    · rename_i h0;exact ⟨RA _ t h0,PG b k (i+1) l h⟩
    · exact absurd h (by assumption)
theorem PI {d m:Int}:∀ (b:Int) (l:List (Pt×Tm)),Yc d m b l=0→Ls (Vw m) l
  | b,[],_=>trivial
  | b,(p,t)::l,h=>by
    rw [Yc] at h
    split at h
    · rename_i h0;exact ⟨RA _ t h0,PI b l h⟩
    · exact absurd h (by assumption)
end
def Oo (D:Int→Int→Sm→Int×Int×Sm) (m:Int) (b:List Int) (s:List Sm):Prop:=
  (∀ k n r,k≠7→D k n r=(k,n,r))∧∀ n:Int,0≤n→n<m→D 7 n zS=if b.getD n.toNat 0<0 then (6,0,s.getD n.toNat zS) else (7,b.getD n.toNat 0,zS)
mutual
theorem Tb {D:Int→Int→Sm→Int×Int×Sm} {d m:Int} {b':List Int} {s:List Sm} (hD:Oo D m b' s):∀ (b:Int) (t:Tm),ZV d m b t=0→mpT D t=Z8 b' s t
  | b,.mk k n r kids cases,h=>by
    obtain ⟨h1,_,h3,h4⟩:=Xi h
    rw [mpT,Z8]
    by_cases e:k=7
    · subst e
      have q:=Ta h1
      obtain rfl:=eq_nil_of_length_eq_zero q.2.1
      obtain rfl:=eq_nil_of_length_eq_zero q.2.2.1
      obtain rfl:=q.1
      rw [if_pos rfl,hD.2 n q.2.2.2.1 q.2.2.2.2]
      split <;> rfl
    · rw [if_neg e,hD.1 k n r e,My hD b k 0 kids h3,Mz hD b cases h4]
theorem My {D:Int→Int→Sm→Int×Int×Sm} {d m:Int} {b':List Int} {s:List Sm} (hD:Oo D m b' s):∀ (b k:Int) (i:Nat) (l:List Tm),Z0 d m b k i l=0→Rm D l=ZZ b' s l
  | b,k,i,[],_=>rfl
  | b,k,i,t::l,h=>by
    rw [Z0] at h
    split at h
    · rename_i h0;rw [Rm,ZZ,Tb hD _ t h0,My hD b k (i+1) l h]
    · exact absurd h (by assumption)
theorem Mz {D:Int→Int→Sm→Int×Int×Sm} {d m:Int} {b':List Int} {s:List Sm} (hD:Oo D m b' s):∀ (b:Int) (l:List (Pt×Tm)),Yc d m b l=0→Rn D l=ZW b' s l
  | b,[],_=>rfl
  | b,(p,t)::l,h=>by
    rw [Yc] at h
    split at h
    · rename_i h0;rw [Rn,ZW,Tb hD _ t h0,Mz hD b l h]
    · exact absurd h (by assumption)
end
def nmD (f:Int→Int) (k n:Int) (r:Sm):Int×Int×Sm:=(k,if k=7 then f n else n,r)
theorem A3 {f:Int→Int} {m:Int} (hf:∀ n,0≤n→n<m→inI (f n)):∀ k n r,inI k→inI n→Vw m k n r→inI (nmD f k n r).1∧inI (nmD f k n r).2.1:=fun k n r hk hn hq=>by
  unfold nmD
  by_cases e:k=7
  · rw [if_pos e];exact ⟨hk,hf n (hq e).1 (hq e).2⟩
  · rw [if_neg e];exact ⟨hk,hn⟩
def blP (t:Tm):Tm:=mpT (nmD fun _=>0) t
theorem Ju {f:Int→Int} {m:Int} {b:List Int} (h:∀ n:Int,0≤n→n<m→b.getD n.toNat 0=f n∧0≤f n):Oo (nmD f) m b []:=⟨fun k n r hk=>by unfold nmD;rw [if_neg hk],fun n h0 h1=>by
  obtain ⟨e,e2⟩:=h n h0 h1
  unfold nmD;rw [if_pos rfl,e,if_neg (by omega)]⟩
theorem ZaQ {d:Int} {n:Nat} {t:Tm} (h:ZV d n 0 t=0):blP t=Z8 (replicate n 0) [] t:=
  Tb (Ju fun x h0 h1=>⟨by rw [getD_eq_getElem?_getD,getElem?_replicate];split <;> rfl,Int.le_refl 0⟩) 0 t h
def YQ (p:Nat→Bool) (n:Nat):Int:=if (range n).findIdx p<n then ((range n).findIdx p:Int) else -1
theorem Sz {p:Nat→Bool} {n j:Nat} (hj:j<n) (hp:p j=true) (hm:∀ i,i<j→p i=false):YQ p n=(j:Int):=by
  have e:(range n).findIdx p=j:=by
    rw [List.findIdx_eq (by simpa using hj)]
    refine ⟨by simpa using hp,fun k hk=>by simpa using hm k hk⟩
  unfold YQ;rw [e,if_pos hj]
theorem Wb {p:Nat→Bool} {n:Nat} (hm:∀ i,i<n→p i=false):YQ p n= -1:=by
  unfold YQ
  rw [if_neg]
  intro h
  have:=List.findIdx_getElem (p:=p) (xs:=range n) (w:=by simpa using h)
  rw [getElem_range,hm _ h] at this
  exact absurd this (by simp)
theorem Xe {p:Nat→Bool} {n i:Nat} (hi:i<n) (hp:p i=true):∃ k:Nat,YQ p n=(k:Int)∧k<n∧p k=true∧∀ m,m<k→p m=false:=by
  have h:(range n).findIdx p<(range n).length:=List.findIdx_lt_length.2 ⟨i,mem_range.2 hi,hp⟩
  have h2:(range n).findIdx p<n:=by simpa using h
  refine ⟨(range n).findIdx p,by unfold YQ;rw [if_pos h2],h2,?_,fun m hm=>?_⟩
  · have:=List.findIdx_getElem (p:=p) (xs:=range n) (w:=h)
    rwa [getElem_range] at this
  · have:=List.not_of_lt_findIdx hm
    simpa using this
theorem Kf {p q:Nat→Bool} {n:Nat} (h:∀ j,j<n→p j=q j):YQ p n=YQ q n:=by
  by_cases c:∃ i,i<n∧p i=true
  · obtain ⟨i,hi,hp⟩:=c
    obtain ⟨k,e,hk,hk2,hm⟩:=Xe hi hp
    rw [e,Sz hk (by rw [← h k hk];exact hk2) fun m hm2=>by rw [← h m (by omega)];exact hm m hm2]
  · have c1:∀ i,i<n→p i=false:=fun i hi=>by cases e:p i with
      | false=>rfl
      | true=>exact absurd ⟨i,hi,e⟩ c
    rw [Wb c1,Wb fun i hi=>by rw [← h i hi];exact c1 i hi]
theorem CN (p:Nat→Bool) (n:Nat): -1≤YQ p n∧YQ p n≤n:=by unfold YQ;split <;> omega
def fsB (p:Nat→Nat→Bool) (n:Nat):List Int:=(range n).map fun i=>YQ (p i) n
theorem Qk (p:Nat→Nat→Bool) (n:Nat):(fsB p n).length=n:=by simp [fsB]
theorem SC (p:Nat→Nat→Bool) {n i:Nat} (h:i<n):(fsB p n).getD i 0=YQ (p i) n:=by
  unfold fsB;rw [getD_eq_getElem?_getD,getElem?_eq_getElem (by simpa using h)];simp
theorem Ot {p q:Nat→Nat→Bool} {n:Nat} (h:∀ i,i<n→∀ j,j<n→p i j=q i j):fsB p n=fsB q n:=by
  unfold fsB
  apply map_congr_left
  intro i hi
  exact Kf (h i (mem_range.1 hi))
theorem MO (p:Nat→Nat→Bool) (n:Nat) {j:Nat} (h:j<n):(fsB p n).take (j+1)=(fsB p n).take j++[YQ (p j) n]:=by
  rw [take_succ_eq_append_getElem (by rw [Qk];exact h)]
  congr 2
  simp [fsB]
structure eqvB (p:Nat→Nat→Bool) (n:Nat):Prop where
  r:∀ i,i<n→p i i=true
  s:∀ i j,i<n→j<n→p i j=true→p j i=true
  t:∀ i j k,i<n→j<n→k<n→p i j=true→p j k=true→p i k=true
theorem eqvB.iff {p:Nat→Nat→Bool} {n:Nat} (h:eqvB p n) {i j:Nat} (hi:i<n) (hj:j<n):YQ (p i) n=YQ (p j) n↔p i j=true:=by
  obtain ⟨a,ea,la,pa,ma⟩:=Xe hi (h.r i hi)
  obtain ⟨b,eb,lb,pb,mb⟩:=Xe hj (h.r j hj)
  rw [ea,eb]
  constructor
  · intro e
    obtain rfl:a=b:=by omega
    exact h.t _ _ _ hi la hj pa (h.s _ _ hj la pb)
  · intro e
    have h1:¬ a<b:=fun hab=>by
      have:=mb a hab
      rw [h.t _ _ _ hj hi la (h.s _ _ hi hj e) pa] at this
      exact absurd this (by simp)
    have h2:¬ b<a:=fun hab=>by
      have:=ma b hab
      rw [h.t _ _ _ hi hj lb e pb] at this
      exact absurd this (by simp)
    omega
def Vs (l:List Int):Nat:=(l.map Int.toNat).sum
theorem K7 {n:Nat} {f:Nat→Int} (h:∀ i,i<n→f i≤n):∀ m,m≤n→Vs ((range m).map f)≤m*n
  | 0,_=>by simp [Vs]
  | m+1,hm=>by
    have:=K7 h m (by omega)
    unfold Vs at this ⊢
    rw [range_succ,map_append,map_append,List.sum_append]
    have h1:=h m (by omega)
    simp only [map_cons,map_nil,List.sum_cons,List.sum_nil]
    rw [Nat.add_mul];omega
theorem DO {f g:Nat→Int}:∀ n,(∀ i,i<n→0≤f i∧f i≤g i)→(∃ i,i<n∧f i≠g i)→Vs ((range n).map f)<Vs ((range n).map g):=by
  have le:∀ n,(∀ i,i<n→0≤f i∧f i≤g i)→Vs ((range n).map f)≤Vs ((range n).map g):=by
    intro n
    induction n with
    | zero=>intro _;simp [Vs]
    | succ n ih=>
      intro h
      have a:=ih fun i hi=>h i (by omega)
      have b:=h n (by omega)
      unfold Vs at a ⊢
      rw [range_succ]
      simp only [map_append,List.sum_append,map_cons,map_nil,List.sum_cons,List.sum_nil]
      omega
  intro n
  induction n with
  | zero=>rintro _ ⟨i,hi,_⟩;omega
  | succ n ih=>
    rintro h ⟨i,hi,hne⟩
    have b:=h n (by omega)
    have key:Vs ((range (n+1)).map f)=Vs ((range n).map f)+(f n).toNat∧Vs ((range (n+1)).map g)=Vs ((range n).map g)+(g n).toNat:=by
      unfold Vs;rw [range_succ];simp
    rw [key.1,key.2]
    by_cases c:i=n
    · subst c
      have:=le i fun i hi=>h i (by omega)
      omega
    · have:=ih (fun i hi=>h i (by omega)) ⟨i,by omega,hne⟩
      omega
theorem Ei {p q:Nat→Nat→Bool} {n:Nat} (hq:eqvB q n) (hp:∀ i,i<n→p i i=true) (h:∀ i j,i<n→j<n→q i j=true→p i j=true) (hne:fsB q n≠fsB p n):Vs (fsB p n)<Vs (fsB q n):=by
  have key:∀ i,i<n→0≤YQ (p i) n∧YQ (p i) n≤YQ (q i) n:=fun i hi=>by
    obtain ⟨a,ea,la,pa,ma⟩:=Xe hi (hp i hi)
    obtain ⟨b,eb,lb,pb,mb⟩:=Xe hi (hq.r i hi)
    rw [ea,eb]
    have:¬ b<a:=fun hab=>by
      have:=ma b hab
      rw [h i b hi lb pb] at this
      exact absurd this (by simp)
    omega
  refine DO n key ?_
  by_cases c:∃ i,i<n∧YQ (p i) n≠YQ (q i) n
  · exact c
  · refine absurd ?_ hne
    unfold fsB
    apply map_congr_left
    intro i hi
    by_cases d:YQ (p i) n=YQ (q i) n
    · exact d.symm
    · exact absurd ⟨i,mem_range.1 hi,d⟩ c
open Classical in
noncomputable def rnB (l:List Tm) (n i j:Nat):Bool:=decide (eqN (e0L l) (sL l) n i j)
noncomputable def rnI (l:List Tm) (n:Nat):List Int:=fsB (rnB l n) l.length
theorem V2 {l:List Tm} (ok:okC l) (n:Nat):eqvB (rnB l n) l.length where
  r i _:=by simpa [rnB] using SK (e0:=e0L l) (s:=sL l) (fun _=>rfl) n i
  s i j _ _ h:=by
    simp only [rnB,decide_eq_true_eq] at h ⊢
    exact SJ (e0:=e0L l) (s:=sL l) (fun _ _ e=>Eq.symm e) (fun _ _=>Wf ok) n h
  t i j k _ _ _ h h':=by
    simp only [rnB,decide_eq_true_eq] at h h' ⊢
    exact Ti (e0:=e0L l) (s:=sL l) (fun _ _ _ e f=>Eq.trans e f) (fun _ _=>Wf ok) n h h'
theorem D7 {l:List Tm} (ok:okC l) {n:Nat} (h:rnI l (n+1)=rnI l n):rnI l n=frI l:=by
  have st:∀ i j,i<l.length→j<l.length→eqN (e0L l) (sL l) n i j→eqN (e0L l) (sL l) (n+1) i j:=fun i j hi hj e=>by
    have a:YQ (rnB l n i) l.length=YQ (rnB l n j) l.length:=((V2 ok n).iff hi hj).2 (by simpa [rnB] using e)
    have g:∀ i,i<l.length→YQ (rnB l (n+1) i) l.length=YQ (rnB l n i) l.length:=fun i hi=>by rw [← SC _ hi,← SC _ hi];unfold rnI at h;rw [h]
    rw [← g i hi,← g j hj] at a
    have:=((V2 ok (n+1)).iff hi hj).1 a
    simpa [rnB] using this
  have key:=Kt (fun i hi x hx=>ok.lt i x hx) (fun _ _=>Wf ok) st
  unfold rnI frI fsB
  apply map_congr_left
  intro i hi
  have hi:=mem_range.1 hi
  obtain ⟨k,e,hk,hk2,hm⟩:=Xe hi ((V2 ok n).r i hi)
  rw [e]
  refine congrArg Int.ofNat (Tg hi (key i k hi hk (by simpa [rnB] using hk2)) fun a ha b=>?_).symm
  have:=hm a ha
  simp only [rnB,decide_eq_false_iff_not] at this
  exact this (b n)
theorem GQ {l:List Tm} (ok:okC l) {n:Nat} (h:rnI l (n+1)≠rnI l n):Vs (rnI l n)<Vs (rnI l (n+1)):=
  Ei (V2 ok (n+1)) (V2 ok n).r (fun i j _ _ e=>by simp only [rnB,decide_eq_true_eq] at e ⊢;exact e.1) h
theorem D6 (l:List Tm) (n:Nat):Vs (rnI l n)≤l.length*l.length:=K7 (fun i _=>(CN _ _).2) l.length (Nat.le_refl _)
theorem O9 (l:List Tm) (n:Nat):(rnI l n).length=l.length:=Qk _ _
theorem Na {l:List Tm} (ok:okC l) (n:Nat) {i:Nat} (h:i<l.length):0≤(rnI l n).getD i 0∧(rnI l n).getD i 0<l.length:=by
  unfold rnI;rw [SC _ h]
  obtain ⟨k,e,hk,_⟩:=Xe h ((V2 ok n).r i h)
  rw [e];omega
theorem Qc {l:List Tm} (ok:okC l) (n:Nat) {i j:Nat} (hi:i<l.length) (hj:j<l.length):(rnI l n).getD i 0=(rnI l n).getD j 0↔eqN (e0L l) (sL l) n i j:=by
  unfold rnI;rw [SC _ hi,SC _ hj,(V2 ok n).iff hi hj];simp [rnB]
def Uy (N:Int) (out:List Int) (s:List (Int×Int)×Int) (n:Int):List (Int×Int)×Int:=(PY s.1 (s.2,out.getD n.toNat 0+1),So N (PY s.1 (s.2,out.getD n.toNat 0+1)) s.2 (out.getD n.toNat 0+1))
def V8 (N:Int) (out:List Int) (s:List (Int×Int)×Int) (ns:List Int):List (Int×Int)×Int:=ns.foldl (Uy N out) s
theorem Ro (N:Int) (out:List Int) (s:List (Int×Int)×Int) {ns:List Int} {j:Nat} (h:j<ns.length):V8 N out s (ns.take (j+1))=Uy N out (V8 N out s (ns.take j)) ns[j]:=by
  unfold V8;rw [take_succ_eq_append_getElem h,List.foldl_append];rfl
theorem Dd (K:List (Int×Int)) (p:Int×Int):(PY K p).length≤K.length+1:=by unfold PY;split <;> simp
theorem MD (N:Int) (out:List Int) (ns:List Int):∀ s,(V8 N out s ns).1.length≤s.1.length+ns.length:=by
  induction ns with
  | nil=>intro s;simp [V8]
  | cons n ns ih=>intro s;have a:=ih (Uy N out s n);have b:=Dd s.1 (s.2,out.getD n.toNat 0+1);unfold V8 at a ⊢;rw [List.foldl_cons,length_cons];unfold Uy at a ⊢;simp only at a;omega
def clO (out:List Int) (ns:List Int):List Int:=(ns.map fun n=>out.getD n.toNat 0+1).reverse
theorem Cy (N:Int) (out:List Int) (ns:List Int):∀ (K0:List (Int×Int)) (o:Int),K0<+:(V8 N out (K0,o) ns).1∧(V8 N out (K0,o) ns).2=Tz N (V8 N out (K0,o) ns).1 o (clO out ns)∧inK N (V8 N out (K0,o) ns).1 o (clO out ns):=by
  have key:∀ j,j≤ns.length→∀ (K0:List (Int×Int)) (o:Int),K0<+:(V8 N out (K0,o) (ns.take j)).1∧(V8 N out (K0,o) (ns.take j)).2=Tz N (V8 N out (K0,o) (ns.take j)).1 o (clO out (ns.take j))∧inK N (V8 N out (K0,o) (ns.take j)).1 o (clO out (ns.take j)):=by
    intro j
    induction j with
    | zero=>intro _ K0 o;exact ⟨List.prefix_refl _,rfl,trivial⟩
    | succ j ih=>
      intro hj K0 o
      obtain ⟨h1,h2,h3⟩:=ih (by omega) K0 o
      have hc:clO out (ns.take (j+1))=(out.getD ns[j].toNat 0+1)::clO out (ns.take j):=by unfold clO;rw [take_succ_eq_append_getElem (by omega),map_append,List.reverse_append];rfl
      rw [Ro N out (K0,o) (by omega),hc]
      generalize hm:V8 N out (K0,o) (ns.take j)=m at h1 h2 h3
      obtain ⟨K,q⟩:=m
      simp only at h1 h2 h3
      obtain ⟨e1,e2⟩:=QK (Lt K (q,out.getD ns[j].toNat 0+1)) h3
      refine ⟨h1.trans (Lt _ _),?_,?_,e2⟩
      · show So N _ q _=So N _ (Tz N _ o _) _
        unfold Uy;simp only
        rw [e1,← h2]
      · show (Tz N _ o _,_)∈_
        unfold Uy;simp only
        rw [e1,← h2];exact Db _ _
  intro K0 o
  have:=key ns.length (Nat.le_refl _) K0 o
  rwa [List.take_length] at this
def W7 (N:Int) (out:List Int) (sf:Nat→List Int):Nat→List (Int×Int)×List Int
  | 0=>([],[])
  | i+1=>((V8 N out ((W7 N out sf i).1,out.getD i 0) (sf i)).1,(W7 N out sf i).2++[(V8 N out ((W7 N out sf i).1,out.getD i 0) (sf i)).2])
theorem VV (N:Int) (out:List Int) (sf:Nat→List Int):∀ i,(W7 N out sf i).2.length=i
  | 0=>rfl
  | i+1=>by rw [W7,length_append,VV N out sf i];rfl
theorem NP (N:Int) (out:List Int) (sf:Nat→List Int):∀ m i,i<m→(W7 N out sf m).2.getD i 0=Tz N (W7 N out sf m).1 (out.getD i 0) (clO out (sf i))∧inK N (W7 N out sf m).1 (out.getD i 0) (clO out (sf i))
  | 0,i,h=>absurd h (by omega)
  | m +1,i,h=>by
    obtain ⟨h1,h2,h3⟩:=Cy N out (sf m) (W7 N out sf m).1 (out.getD m 0)
    rw [W7]
    by_cases c:i=m
    · subst c
      refine ⟨?_,h3⟩
      rw [getD_eq_getElem?_getD,List.getElem?_append_right (by rw [VV];omega),VV]
      simpa using h2
    · obtain ⟨a,b⟩:=NP N out sf m i (by omega)
      obtain ⟨e1,e2⟩:=QK h1 b
      refine ⟨?_,e2⟩
      rw [getD_eq_getElem?_getD,List.getElem?_append_left (by rw [VV];omega),← getD_eq_getElem?_getD,a]
      exact e1.symm
theorem KR {l:List Tm} (ok:okC l) (n:Nat) {sf:Nat→List Int} (hsf:∀ i,i<l.length→sf i=sfR (atL l i)):
    fsB (fun i j=>decide ((W7 l.length (rnI l n) sf l.length).2.getD i 0=(W7 l.length (rnI l n) sf l.length).2.getD j 0)) l.length=rnI l (n+1):=by
  refine Ot fun i hi j hj=>?_
  obtain ⟨a1,a2⟩:=NP l.length (rnI l n) sf _ i hi
  obtain ⟨b1,b2⟩:=NP l.length (rnI l n) sf _ j hj
  have ri:=Na ok n hi
  have rj:=Na ok n hj
  unfold rnB
  rw [Bool.eq_iff_iff]
  simp only [decide_eq_true_eq]
  rw [a1,b1]
  have hl:eqN (e0L l) (sL l) n i j→(sL l i).length=(sL l j).length:=fun e=>Wf ok (Pj (Nat.zero_le n) e)
  have hs:∀ i,i<l.length→sL l i=(sf i).map Int.toNat:=fun i hi=>by rw [hsf i hi];rfl
  have hg:∀ (i:Nat) (ls:List Int) (k:Nat),k<ls.length→(ls.map Int.toNat).getD k 0=(ls.getD k 0).toNat:=fun i ls k hk=>by
    rw [getD_eq_getElem?_getD,getElem?_map,getD_eq_getElem?_getD,getElem?_eq_getElem hk];rfl
  have hc:∀ (ls ms:List Int),clO (rnI l n) ls=clO (rnI l n) ms↔ls.length=ms.length∧∀ k,k<ls.length→(rnI l n).getD (ls.getD k 0).toNat 0=(rnI l n).getD (ms.getD k 0).toNat 0:=fun ls ms=>by
    unfold clO
    rw [List.reverse_inj]
    constructor
    · intro e
      have el:=congrArg List.length e
      rw [length_map,length_map] at el
      refine ⟨el,fun k hk=>?_⟩
      have:=congrArg (fun x=>x[k]?) e
      simp only [getElem?_map,getElem?_eq_getElem hk,getElem?_eq_getElem (show k<ms.length by omega),Option.map_some,Option.some.injEq] at this
      rw [getD_eq_getElem?_getD (l:=ls),getElem?_eq_getElem hk,getD_eq_getElem?_getD (l:=ms),getElem?_eq_getElem (show k<ms.length by omega)]
      simp only [Option.getD_some];omega
    · rintro ⟨el,h⟩
      refine ext_getElem (by simpa using el) fun k h1 h2=>?_
      have hk:k<ls.length:=by simpa using h1
      have:=h k hk
      rw [getD_eq_getElem?_getD (l:=ls),getElem?_eq_getElem hk,getD_eq_getElem?_getD (l:=ms),getElem?_eq_getElem (show k<ms.length by omega)] at this
      simp only [Option.getD_some] at this
      rw [getElem_map,getElem_map,this]
  constructor
  · intro e
    obtain ⟨e1,e2⟩:=Mc ri.2 rj.2 a2 b2 e
    obtain ⟨e3,e4⟩:=(hc _ _).1 e2
    have e5:=(Qc ok n hi hj).1 e1
    refine ⟨e5,fun k hk=>?_⟩
    have hk1:k<(sf i).length:=by rw [hs i hi] at hk;simpa using hk
    have lt:∀ i,i<l.length→∀ k,k<(sf i).length→((sf i).getD k 0).toNat<l.length:=fun i hi k hk=>by
      have:=ok.at i ((sf i).getD k 0) (by rw [← hsf i hi,getD_eq_getElem?_getD,getElem?_eq_getElem hk];exact getElem_mem _)
      omega
    rw [hs i hi,hs j hj,hg i _ k hk1,hg j _ k (by omega)]
    exact (Qc ok n (lt i hi k hk1) (lt j hj k (by omega))).1 (e4 k hk1)
  · intro e
    have e1:=(Qc ok n hi hj).2 e.1
    have e3:(sf i).length=(sf j).length:=by have:=hl e.1;rw [hs i hi,hs j hj] at this;simpa using this
    have e2:clO (rnI l n) (sf i)=clO (rnI l n) (sf j):=(hc _ _).2 ⟨e3,fun k hk=>by
      have lt:∀ i,i<l.length→∀ k,k<(sf i).length→((sf i).getD k 0).toNat<l.length:=fun i hi k hk=>by
        have:=ok.at i ((sf i).getD k 0) (by rw [← hsf i hi,getD_eq_getElem?_getD,getElem?_eq_getElem hk];exact getElem_mem _)
        omega
      have:=e.2 k (by rw [hs i hi];simpa using hk)
      rw [hs i hi,hs j hj,hg i _ k hk,hg j _ k (by omega)] at this
      exact (Qc ok n (lt i hi k hk) (lt j hj k (by omega))).2 this⟩
    rw [e1,e2]
def RK (_:Heap) (cs:List Value) (p:Int×Int):Prop:=cs=[.int .i64 p.1,.int .i64 p.2]
theorem NV {h:Heap} {cs:List Value} {p:Int×Int} (q:RK h cs p):cs.length=2:=by unfold RK at q;subst q;rfl
theorem Zch {h:Heap} {cs:List Value} {p:Int×Int} (q:RK h cs p):okc cs:=by unfold RK at q;subst q;exact fun v hv=>by simp at hv;rcases hv with rfl | rfl <;> rfl
theorem RK.mono {h h':Heap} {cs:List Value} {p:Int×Int} (_:Hle h h') (q:RK h cs p):RK h' cs p:=q
theorem RKs.mono {h h':Heap} {v:Value} {l:List (Int×Int)} (hh:Hle h h') (q:Hs.rdS RK 2 h v l):Hs.rdS RK 2 h' v l:=rdS.mono q hh fun _ _ _ e=>e
def Uo (N:Int) (K:List (Int×Int)) (p:Int×Int):Int:=N+(K.idxOf p:Int)
theorem Fp {N:Int} {K:List (Int×Int)} {p:Int×Int} (h:p∉K):Uo N (K++[p]) p=N+(K.length:Int):=by
  unfold Uo;rw [List.idxOf_append,if_neg h];simp
theorem Fm {N:Int} {K:List (Int×Int)} {p:Int×Int}:∀ x∈K,Uo N (K++[p]) x=Uo N K x:=fun x hx=>by
  unfold Uo;rw [List.idxOf_append,if_pos hx]
theorem Is {N:Int} {out:List Int} {K:List (Int×Int)} {a n:Int} (h:(a,out.getD n.toNat 0+1)∈K):Uy N out (K,a) n=(K,Uo N K (a,out.getD n.toNat 0+1)):=by
  unfold Uy So Uo PY;simp only;rw [if_pos h]
theorem Iu {N:Int} {out:List Int} {K:List (Int×Int)} {a n:Int} (h:(a,out.getD n.toNat 0+1)∉K):Uy N out (K,a) n=(K++[(a,out.getD n.toNat 0+1)],N+(K.length:Int)):=by
  unfold Uy So PY;simp only;rw [if_neg h,List.idxOf_append,if_neg h];simp
def clE (ws:List Int) (n:Nat):List (List Value):=ws.map (fun w=>[Value.int .i64 w,Value.int .i64 0])++replicate (n-ws.length) [Value.int .i64 0,Value.int .i64 0]
theorem Qo {ws:List Int} {n:Nat} (h:ws.length≤n):(clE ws n).length=n:=by unfold clE;rw [length_append,length_map,length_replicate];omega
theorem Bt {ws:List Int} {n j:Nat} {w:Int} (hj:ws.length=j) (h:j<n):(clE ws n).set j [Value.int .i64 w,Value.int .i64 0]=clE (ws++[w]) n:=by
  subst hj
  unfold clE
  obtain ⟨d,hd⟩:∃ d,n-ws.length=d+1:=⟨n-ws.length-1,by omega⟩
  rw [List.set_append_right _ _ (by simp),length_map,Nat.sub_self,hd,List.replicate_succ,set_cons_zero,map_append,append_assoc,show n-(ws++[w]).length=d from by rw [length_append];simp;omega]
  rfl
theorem ZaF {T:TypeId} {ws:List Int} {n:Nat} {v:Value} {k:Zf} {h:Heap} (o:Own T 2 v (clE ws n) k) (hn:ws.length=n) (hb:n≤1000000) (hk:Has k h):Hs.rdS RK 2 h v (ws.map fun w=>(w,0)):=by
  subst hn
  refine o.rdS (by rw [Qo (Nat.le_refl _),length_map]) (by rw [length_map];omega) hk fun i h1 h2=>?_
  have h3:i<ws.length:=by simpa using h2
  have e:(clE ws ws.length)[i]?=some [.int .i64 ws[i],.int .i64 0]:=by
    unfold clE
    rw [List.getElem?_append_left (by simpa using h3),getElem?_map,getElem?_eq_getElem h3];rfl
  rw [getElem?_eq_getElem h1] at e
  unfold RK
  rw [Option.some.inj e,getElem_map]
theorem OJ (N:Int) (out:List Int) (sf:Nat→List Int) (B:Nat→Nat) (h0:∀ i,B i+(sf i).length≤B (i+1)):∀ i,(W7 N out sf i).1.length≤B i
  | 0=>by simp [W7]
  | i+1=>by
    have a:=OJ N out sf B h0 i
    have b:=MD N out (sf i) ((W7 N out sf i).1,out.getD i 0)
    have c:=h0 i
    rw [W7];simp only at b ⊢;omega
section
attribute [local irreducible] JL J CT wlo DT
theorem F9 (g:Nat) (fs cv:List Value) (hcall:∀ args w,(callFunc g args).run prog w=.ok (.enter g args) w) (yc:Nat→Zf→Prop) (l:List Tm) (v:Value) (ck:Zf) (H:Heap) (hl:Hs.rdS RT 36 H v l) (h0:yc 0 ck) (hg:∀ j (hj:j<l.length) k,yc j k→∀ a h,Hle H h→RT h a l[j]→CT prog g ⟨fs++[.agg ⟨a⟩]++cv⟩ [k] h (fun v N=>v=.bool false∧∃ k,N=[k]∧yc (j+1) k)):CT prog 68 ⟨[v,.func (.func g) ⟨fs⟩ ⟨cv⟩]⟩ [ck] H (fun v N=>v=iv (-1)∧∃ k,N=[k]∧yc l.length k):=by
 refine Zl func68 rfl rfl<|Zd<|JAn rfl<|Zg<|Zd<|JLm v ?_
 obtain ⟨a1,cap1,hv1⟩:=hl.sl
 have hle1:=hl.le
 refine JLn (ZcM ZI hv1)<|JLM rfl<|Za<|Zm<|ZD (fun k ρ M=>∃ (j:Nat) (ckl:Zf),Z7 ρ [(0,v),(1,.func (.func g) ⟨fs⟩ ⟨cv⟩),(4,iv 0),(7,iv ((l.length:Int))),(8,iv ((j:Int)))]=ρ∧Sub [ckl] M∧j≤l.length∧yc j ckl∧k=l.length-j) _ ⟨0,ck,Zp rfl,(Sk Sub.nil),Nat.zero_le _,h0,rfl⟩ ?_
 rintro _ ρ2 _ ⟨j,ckl,e3,hm8,hj,hckl,rfl⟩
 obtain ⟨ρ9,rfl⟩:=Zi e3
 clear e3
 refine ZF hm8<|Zd<|JLn (Pu.lss rfl rfl)<|Za<|Zg<|ZN rfl (fun h10=>?_) (fun h10=>?_)
 ·have h10n:j<l.length:=by omega
  have hlenl:=hl.le
  refine Zo<|Zg<|Zm<|Zd<|JLM rfl<|JAn rfl<|Zd<|JLM rfl<|JLm v<|JLM rfl ?_
  obtain ⟨b11,o11,cap11,row11,T11,fr11,cs11,hv11,hb11,hs11,hE11⟩:=hl.get j (by omega)
  refine JLn (Pu.idx j ZI Zu hv11 rfl rfl (by omega))<|JLr (Zn Zu rfl (ZcN hb11) hs11<|Zs 0 rfl hcall rfl rfl (fun hin=>hg _ h10n _ hckl _ _ (Hle.hu _ _) (RT.mono (Hle.hu _ _) hE11)) rfl ?_)
  rintro _ _ ⟨rfl,ck12,rfl,hck12⟩
  refine Za<|Zt (b:=false) rfl (fun h=>absurd h (by simp)) (fun _=>Zo<|Ze<|JLn (ZcP rfl rfl (by omega))<|JLM rfl<|Za<|⟨_,?_,(j+1),ck12,Zp rfl,(Sk Sub.nil),?_,?_,rfl⟩)
  ·omega
  ·omega
  exact hck12
 have h10n:l.length≤j:=by omega
 refine ZC _ rfl<|Zd<|JAn rfl<|ZE (iv (-1)) [ckl] (Sk Sub.nil) (?_)
 obtain rfl:j=l.length:=by omega
 exact ⟨rfl,_,rfl,hckl⟩
theorem PW (g:Nat) (fs cv:List Value) (hcall:∀ args w,(callFunc g args).run prog w=.ok (.enter g args) w) (yc:Nat→Zf→Prop) (l:List Tm) (v:Value) (ck:Zf) (H:Heap) (hl:Hs.rdS RT 36 H v l) (h0:yc 0 ck) (hg:∀ j (hj:j<l.length) k,yc j k→∀ a h,Hle H h→RT h a l[j]→CT prog g ⟨fs++[.agg ⟨a⟩]++cv⟩ [k] h (fun v N=>v=.bool false∧∃ k,N=[k]∧yc (j+1) k)):CT prog 26 ⟨[v,.func (.func g) ⟨fs⟩ ⟨cv⟩]⟩ [ck] H (fun v N=>v=.bool false∧∃ k,N=[k]∧yc l.length k):=by
 refine Zl func26 rfl rfl<|Zd<|JAn rfl<|Zd<|JLm v<|JLM rfl<|Zs 0 rfl call68 rfl rfl (fun hin=>F9 g fs cv hcall yc _ _ _ _ (RTs.mono (Hle.hu _ _) hl) h0 (fun j hj k hk a h hh ra=>hg j hj k hk a h (Hle.trans (Hle.hu _ _) hh) ra)) rfl ?_
 rintro _ _ ⟨rfl,ck1,rfl,hck1⟩
 refine JLq (.bool false) (show Pu _ _ _ (.bool (decide ((0:Int)≤ -1))) from Pu.geq rfl rfl)<|JAn rfl<|ZE (.bool false) [ck1] (Sk Sub.nil) (?_)
 exact ⟨rfl,_,rfl,hck1⟩
theorem Ee (g:Nat) (fs cv:List Value) (hcall:∀ args w,(callFunc g args).run prog w=.ok (.enter g args) w) (yc:Nat→Zf→Prop) (l:List (Pt×Tm)) (v:Value) (ck:Zf) (H:Heap) (hl:Hs.rdS RC 71 H v l) (h0:yc 0 ck) (hg:∀ j (hj:j<l.length) k,yc j k→∀ a h,Hle H h→RC h a l[j]→CT prog g ⟨fs++[.agg ⟨a⟩]++cv⟩ [k] h (fun v N=>v=.bool false∧∃ k,N=[k]∧yc (j+1) k)):CT prog 115 ⟨[v,.func (.func g) ⟨fs⟩ ⟨cv⟩]⟩ [ck] H (fun v N=>v=iv (-1)∧∃ k,N=[k]∧yc l.length k):=by
 refine Zl func115 rfl rfl<|Zd<|JAn rfl<|Zg<|Zd<|JLm v ?_
 obtain ⟨a1,cap1,hv1⟩:=hl.sl
 have hle1:=hl.le
 refine JLn (ZcM Xp hv1)<|JLM rfl<|Za<|Zm<|ZD (fun k ρ M=>∃ (j:Nat) (ckl:Zf),Z7 ρ [(0,v),(1,.func (.func g) ⟨fs⟩ ⟨cv⟩),(4,iv 0),(7,iv ((l.length:Int))),(8,iv ((j:Int)))]=ρ∧Sub [ckl] M∧j≤l.length∧yc j ckl∧k=l.length-j) _ ⟨0,ck,Zp rfl,(Sk Sub.nil),Nat.zero_le _,h0,rfl⟩ ?_
 rintro _ ρ2 _ ⟨j,ckl,e3,hm8,hj,hckl,rfl⟩
 obtain ⟨ρ9,rfl⟩:=Zi e3
 clear e3
 refine ZF hm8<|Zd<|JLn (Pu.lss rfl rfl)<|Za<|Zg<|ZN rfl (fun h10=>?_) (fun h10=>?_)
 ·have h10n:j<l.length:=by omega
  have hlenl:=hl.le
  refine Zo<|Zg<|Zm<|Zd<|JLM rfl<|JAn rfl<|Zd<|JLM rfl<|JLm v<|JLM rfl ?_
  obtain ⟨b11,o11,cap11,row11,T11,fr11,cs11,hv11,hb11,hs11,hE11⟩:=hl.get j (by omega)
  obtain ⟨ca11,cb11,rfl,hA11,hB11⟩:=hE11
  refine JLn (Pu.idx j Xp YD hv11 rfl rfl (by omega))<|JLr (Zn YD rfl (ZcN hb11) hs11<|Zs 0 rfl hcall rfl rfl (fun hin=>hg _ h10n _ hckl _ _ (Hle.hu _ _) (RC.mono (Hle.hu _ _) (LE hA11 hB11))) rfl ?_)
  rintro _ _ ⟨rfl,ck12,rfl,hck12⟩
  refine Za<|Zt (b:=false) rfl (fun h=>absurd h (by simp)) (fun _=>Zo<|Ze<|JLn (ZcP rfl rfl (by omega))<|JLM rfl<|Za<|⟨_,?_,(j+1),ck12,Zp rfl,(Sk Sub.nil),?_,?_,rfl⟩)
  ·omega
  ·omega
  exact hck12
 have h10n:l.length≤j:=by omega
 refine ZC _ rfl<|Zd<|JAn rfl<|ZE (iv (-1)) [ckl] (Sk Sub.nil) (?_)
 obtain rfl:j=l.length:=by omega
 exact ⟨rfl,_,rfl,hckl⟩
theorem PX (g:Nat) (fs cv:List Value) (hcall:∀ args w,(callFunc g args).run prog w=.ok (.enter g args) w) (yc:Nat→Zf→Prop) (l:List (Pt×Tm)) (v:Value) (ck:Zf) (H:Heap) (hl:Hs.rdS RC 71 H v l) (h0:yc 0 ck) (hg:∀ j (hj:j<l.length) k,yc j k→∀ a h,Hle H h→RC h a l[j]→CT prog g ⟨fs++[.agg ⟨a⟩]++cv⟩ [k] h (fun v N=>v=.bool false∧∃ k,N=[k]∧yc (j+1) k)):CT prog 72 ⟨[v,.func (.func g) ⟨fs⟩ ⟨cv⟩]⟩ [ck] H (fun v N=>v=.bool false∧∃ k,N=[k]∧yc l.length k):=by
 refine Zl func72 rfl rfl<|Zd<|JAn rfl<|Zd<|JLm v<|JLM rfl<|Zs 0 rfl call115 rfl rfl (fun hin=>Ee g fs cv hcall yc _ _ _ _ (RCs.mono (Hle.hu _ _) hl) h0 (fun j hj k hk a h hh ra=>hg j hj k hk a h (Hle.trans (Hle.hu _ _) hh) ra)) rfl ?_
 rintro _ _ ⟨rfl,ck1,rfl,hck1⟩
 refine JLq (.bool false) (show Pu _ _ _ (.bool (decide ((0:Int)≤ -1))) from Pu.geq rfl rfl)<|JAn rfl<|ZE (.bool false) [ck1] (Sk Sub.nil) (?_)
 exact ⟨rfl,_,rfl,hck1⟩
theorem C8:∀ {σ:Type} (F:σ→Tm→σ) (wt:σ→Nat) (yc:σ→Zf→Prop) (bY bW bH:Nat) (x:Tm) (s:σ) (ck:Zf) (a:List Value) (H:Heap),yc s ck→RT H a x→H bH=some (.cells ⟨[.func (.func 200) ⟨[]⟩ ⟨[pp bY 0,pp bW 0]⟩]⟩ 56 (0,0))→wt s+sizeT x≤1000000→(∀ (s:σ) (ck:Zf) (a:List Value) (h:Heap),yc s ck→Hle H h→RT h a x→wt s+sizeT x≤1000000→CT prog 200 ⟨[.agg ⟨a⟩,pp bY 0,pp bW 0]⟩ [ck] h (fun v N=>v=.bool true∧∃ k,N=[k]∧yc (ndT F s x) k))→CT prog 231 ⟨[.agg ⟨a⟩,pp bH 0]⟩ [ck] H (fun v N=>v=.bool false∧∃ k,N=[k]∧yc (ndT F s x) k):=by
 intro σ F wt yc bY bW bH x s ck a H hck ra hHB hz hg
 refine Zl func231 rfl rfl<|Zd<|JLr (Zr (l:=a) rfl rfl fun b1=>JAn rfl<|Zd<|JLr (Zc OQ rfl (ZcN hHB) rfl<|JLr (Zn Zu rfl (ZcK 0 rfl) (Zx (Zy ra))<|Zs 1 rfl call200 rfl rfl (fun hin=>hg _ _ _ _ hck (Hle.hu _ _) (RT.mono (Hle.hu _ _) ra) (by omega)) rfl ?_)))
 rintro _ _ ⟨rfl,ck2,rfl,hck2⟩
 refine JLq (.bool false) (show Pu _ _ _ (.bool (!true)) from Pu.not rfl)<|JAn rfl<|ZE (.bool false) [ck2] (Sk Sub.nil) (?_)
 exact ⟨rfl,_,rfl,hck2⟩
theorem Zan:∀ {σ:Type} (F:σ→Tm→σ) (wt:σ→Nat) (yc:σ→Zf→Prop) (hw:∀ s y,wt (F s y)≤wt s+1) (bY bW:Nat) (l:List Tm) (s:σ) (v:Value) (ck:Zf) (H:Heap),yc s ck→Hs.rdS RT 36 H v l→wt s+sizeTs l≤1000000→(∀ j (hj:j<l.length) (s:σ) (ck:Zf) (a:List Value) (h:Heap),yc s ck→Hle H h→RT h a l[j]→wt s+sizeT l[j]≤1000000→CT prog 200 ⟨[.agg ⟨a⟩,pp bY 0,pp bW 0]⟩ [ck] h (fun v N=>v=.bool true∧∃ k,N=[k]∧yc (ndT F s l[j]) k))→CT prog 201 ⟨[v,.func (.func 200) ⟨[]⟩ ⟨[pp bY 0,pp bW 0]⟩]⟩ [ck] H (fun v N=>v=.bool true∧∃ k,N=[k]∧yc (ndL F s l) k):=by
 intro σ F wt yc hw bY bW l s v ck H hck hv hz hg
 refine Zl func201 rfl rfl<|Zd<|JLr (Zr (l:=[.func (.func 200) ⟨[]⟩ ⟨[pp bY 0,pp bW 0]⟩]) rfl rfl fun b1=>JAn rfl<|Zd<|JLm v<|JLq (.func (.func 231) ⟨[]⟩ ⟨[pp b1 0]⟩) (Pu.makeFunc rfl rfl)<|Zs 1 rfl call26 rfl rfl (fun hin=>PW 231 [] [pp b1 0] call231 (fun j k=>yc (ndL F s (l.take j)) k) _ _ _ _ (RTs.mono (Hle.hu _ _) hv) (by simpa [ndL] using hck) (fun j hj k hk a h hh ra=>by rw [Fr hj];exact C8 F wt yc bY bW _ _ _ _ _ _ hk ra (hh _ _ (hin 0 _ rfl _ _ mem_cons_self)) (by have:=Nj hw s (l.take j);have:=T0 hj;omega) (fun s ck a h hc hh2 ra hz=>hg j hj s ck a h hc (Hle.trans (Hle.hu _ _) (Hle.trans hh hh2)) ra hz))) rfl ?_)
 rintro _ _ ⟨rfl,ck2,rfl,hck2⟩
 rw [List.take_length] at hck2
 refine JLq (.bool true) (show Pu _ _ _ (.bool (!false)) from Pu.not rfl)<|JAn rfl<|ZE (.bool true) [ck2] (Sk Sub.nil) (?_)
 exact ⟨rfl,_,rfl,hck2⟩
theorem Cs:∀ {σ:Type} (F:σ→Tm→σ) (wt:σ→Nat) (yc:σ→Zf→Prop) (bY bW:Nat) (c:Pt×Tm) (s:σ) (ck:Zf) (a:List Value) (H:Heap),yc s ck→RC H a c→H bW=some (.cells ⟨[.func (.func 200) ⟨[]⟩ ⟨[pp bY 0,pp bW 0]⟩]⟩ 56 (0,0))→wt s+sizeT c.2≤1000000→(∀ (s:σ) (ck:Zf) (a:List Value) (h:Heap),yc s ck→Hle H h→RT h a c.2→wt s+sizeT c.2≤1000000→CT prog 200 ⟨[.agg ⟨a⟩,pp bY 0,pp bW 0]⟩ [ck] h (fun v N=>v=.bool true∧∃ k,N=[k]∧yc (ndT F s c.2) k))→CT prog 203 ⟨[.agg ⟨a⟩,pp bW 0]⟩ [ck] H (fun v N=>v=.bool true∧∃ k,N=[k]∧yc (ndT F s c.2) k):=by
 intro σ F wt yc bY bW c s ck a H hck ⟨ca,cb,e1,ra1,ra2⟩ hHW hz hg
 subst e1
 refine Zl func203 rfl rfl<|Zd<|JLr (Zr (l:=ca++cb) rfl rfl fun b1=>JAn rfl<|Zd<|JLr (Zc OQ rfl (ZcN hHW) rfl<|JLq (pp b1 35) (WC rfl rfl)<|JLr (Zn Zu rfl (ZcK 0 rfl) (Vt (ZL ra1) (Zy ra2))<|Zs 1 rfl call200 rfl rfl (fun hin=>hg _ _ _ _ hck (Hle.hu _ _) (RT.mono (Hle.hu _ _) ra2) (by omega)) rfl ?_)))
 rintro _ _ ⟨rfl,ck2,rfl,hck2⟩
 refine JAn rfl<|ZE (.bool true) [ck2] (Sk Sub.nil) (?_)
 exact ⟨rfl,_,rfl,hck2⟩
theorem Ba:∀ {σ:Type} (F:σ→Tm→σ) (wt:σ→Nat) (yc:σ→Zf→Prop) (bY bW bH:Nat) (c:Pt×Tm) (s:σ) (ck:Zf) (a:List Value) (H:Heap),yc s ck→RC H a c→H bH=some (.cells ⟨[.func (.func 203) ⟨[]⟩ ⟨[pp bW 0]⟩]⟩ 123 (0,0))→H bW=some (.cells ⟨[.func (.func 200) ⟨[]⟩ ⟨[pp bY 0,pp bW 0]⟩]⟩ 56 (0,0))→wt s+sizeT c.2≤1000000→(∀ (s:σ) (ck:Zf) (a:List Value) (h:Heap),yc s ck→Hle H h→RT h a c.2→wt s+sizeT c.2≤1000000→CT prog 200 ⟨[.agg ⟨a⟩,pp bY 0,pp bW 0]⟩ [ck] h (fun v N=>v=.bool true∧∃ k,N=[k]∧yc (ndT F s c.2) k))→CT prog 232 ⟨[.agg ⟨a⟩,pp bH 0]⟩ [ck] H (fun v N=>v=.bool false∧∃ k,N=[k]∧yc (ndT F s c.2) k):=by
 intro σ F wt yc bY bW bH c s ck a H hck ⟨ca,cb,e1,ra1,ra2⟩ hHB hHW hz hg
 subst e1
 refine Zl func232 rfl rfl<|Zd<|JLr (Zr (l:=ca++cb) rfl rfl fun b1=>JAn rfl<|Zd<|JLr (Zc Za9 rfl (ZcN hHB) rfl<|JLr (Zn YD rfl (ZcK 0 rfl) (Zx (ZJ (ZL ra1) (Zy ra2)))<|Zs 1 rfl call203 rfl rfl (fun hin=>Cs F wt yc bY bW _ _ _ _ _ hck (RC.mono (Hle.hu _ _) (LE ra1 ra2)) (Hle.hu _ _ _ _ hHW) (by omega) (fun s ck a h hc hh ra hz=>hg s ck a h hc (Hle.trans (Hle.hu _ _) hh) ra hz)) rfl ?_)))
 rintro _ _ ⟨rfl,ck2,rfl,hck2⟩
 refine JLq (.bool false) (show Pu _ _ _ (.bool (!true)) from Pu.not rfl)<|JAn rfl<|ZE (.bool false) [ck2] (Sk Sub.nil) (?_)
 exact ⟨rfl,_,rfl,hck2⟩
theorem Zap:∀ {σ:Type} (F:σ→Tm→σ) (wt:σ→Nat) (yc:σ→Zf→Prop) (hw:∀ s y,wt (F s y)≤wt s+1) (bY bW:Nat) (l:List (Pt×Tm)) (s:σ) (v:Value) (ck:Zf) (H:Heap),yc s ck→Hs.rdS RC 71 H v l→wt s+sizeCs l≤1000000→H bW=some (.cells ⟨[.func (.func 200) ⟨[]⟩ ⟨[pp bY 0,pp bW 0]⟩]⟩ 56 (0,0))→(∀ j (hj:j<l.length) (s:σ) (ck:Zf) (a:List Value) (h:Heap),yc s ck→Hle H h→RT h a l[j].2→wt s+sizeT l[j].2≤1000000→CT prog 200 ⟨[.agg ⟨a⟩,pp bY 0,pp bW 0]⟩ [ck] h (fun v N=>v=.bool true∧∃ k,N=[k]∧yc (ndT F s l[j].2) k))→CT prog 202 ⟨[v,.func (.func 203) ⟨[]⟩ ⟨[pp bW 0]⟩]⟩ [ck] H (fun v N=>v=.bool true∧∃ k,N=[k]∧yc (ndC F s l) k):=by
 intro σ F wt yc hw bY bW l s v ck H hck hv hz hHW hg
 refine Zl func202 rfl rfl<|Zd<|JLr (Zr (l:=[.func (.func 203) ⟨[]⟩ ⟨[pp bW 0]⟩]) rfl rfl fun b1=>JAn rfl<|Zd<|JLm v<|JLq (.func (.func 232) ⟨[]⟩ ⟨[pp b1 0]⟩) (Pu.makeFunc rfl rfl)<|Zs 1 rfl call72 rfl rfl (fun hin=>PX 232 [] [pp b1 0] call232 (fun j k=>yc (ndC F s (l.take j)) k) _ _ _ _ (RCs.mono (Hle.hu _ _) hv) (by simpa [ndC] using hck) (fun j hj k hk a h hh ra=>by rw [Ft hj];exact Ba F wt yc bY bW _ _ _ _ _ _ hk ra (hh _ _ (hin 0 _ rfl _ _ mem_cons_self)) (hh _ _ (Hle.hu _ _ _ _ hHW)) (by have:=L8 hw s (l.take j);have:=OY hj;omega) (fun s ck a h hc hh2 ra hz=>hg j hj s ck a h hc (Hle.trans (Hle.hu _ _) (Hle.trans hh hh2)) ra hz))) rfl ?_)
 rintro _ _ ⟨rfl,ck2,rfl,hck2⟩
 rw [List.take_length] at hck2
 refine JLq (.bool true) (show Pu _ _ _ (.bool (!false)) from Pu.not rfl)<|JAn rfl<|ZE (.bool true) [ck2] (Sk Sub.nil) (?_)
 exact ⟨rfl,_,rfl,hck2⟩
set_option maxHeartbeats 2000000 in
theorem H1:∀ {σ:Type} (F:σ→Tm→σ) (wt:σ→Nat) (yc:σ→Zf→Prop) (hw:∀ s y,wt (F s y)≤wt s+1) (l:Nat) (bY bW:Nat) (t:Tm) (s:σ) (ck:Zf) (cs:List Value) (H:Heap),yc s ck→RT H cs t→wt s+sizeT t≤1000000→H bY=some (.cells ⟨[.func (.yield l) ⟨[]⟩ ⟨[]⟩]⟩ 56 (0,0))→H bW=some (.cells ⟨[.func (.func 200) ⟨[]⟩ ⟨[pp bY 0,pp bW 0]⟩]⟩ 56 (0,0))→(∀ (y:Tm) (s:σ) (ck:Zf) (a:List Value) (h:Heap),yc s ck→Hle H h→RT h a y→wt s+1≤1000000→YT prog l ⟨[.agg ⟨a⟩]⟩ [ck] h (fun v N=>v=.bool true∧∃ k,N=[k]∧yc (F s y) k))→CT prog 200 ⟨[.agg ⟨cs⟩,pp bY 0,pp bW 0]⟩ [ck] H (fun v N=>v=.bool true∧∃ k,N=[k]∧yc (ndT F s t) k):=by
 intro σ F wt yc hw l bY bW t
 induction t using Tm.ind with
 | h kind num ref kids cases ih ih'=>
 intro s ck cs H hck ht hz hHY hHW hy
 rw [sizeT] at hz
 obtain ⟨ks,cv,rfl,hk,hn,hks,hcv⟩:=RT_mk.1 ht
 refine Zl func200 rfl rfl<|Zd<|JLr (Zr (l:=pkT kind num ref ks cv) rfl rfl fun b1=>JAn rfl<|Zd<|JLr (Zc OQ rfl (ZcN hHY) rfl<|JLr (Zn Zu rfl (ZcK 0 rfl) (Z4 ..)<|Tn 1 rfl rfl rfl (fun hin=>hy _ _ _ _ _ hck (Hle.hu _ _) (RT_mk.2 ⟨_,_,rfl,hk,hn,RTs.mono (Hle.hu _ _) hks,RCs.mono (Hle.hu _ _) hcv⟩) (by omega)) rfl ?_)))
 rintro _ _ ⟨rfl,ck2,rfl,hck2⟩
 refine JLM rfl<|JLq (pp b1 34) (YS rfl rfl)<|JLr (Zc XE rfl (ZcK 1 rfl) (Xq ..)<|JLr (Zc OQ rfl (ZcN hHW) rfl<|Zs 0 rfl call201 rfl rfl (fun hin=>Zan F wt yc hw bY bW kids _ _ _ _ hck2 (RTs.mono (Hle.hu _ _) hks) (by have:=hw s (.mk kind num ref kids cases);omega) (fun j hj s ck a h hc hh ra hz=>ih _ (getElem_mem hj) s ck a h hc ra hz (hh _ _ (Hle.hu _ _ _ _ hHY)) (hh _ _ (Hle.hu _ _ _ _ hHW)) (fun y s ck a h' hc h2=>hy y s ck a h' hc (Hle.trans (Hle.hu _ _) (Hle.trans hh h2))))) rfl ?_))
 rintro _ _ ⟨rfl,ck3,rfl,hck3⟩
 refine JLq (.bool true) (ZcZ rfl rfl)<|JLM rfl<|JLq (pp b1 35) (Y0 rfl rfl)<|JLr (Zc WN rfl (ZcK 1 rfl) (XA ..)<|JLq (.func (.func 203) ⟨[]⟩ ⟨[pp bW 0]⟩) (Pu.makeFunc rfl rfl)<|Zs 0 rfl call202 rfl rfl (fun hin=>Zap F wt yc hw bY bW cases _ _ _ _ hck3 (RCs.mono (Hle.hu _ _) hcv) (by have:=hw s (.mk kind num ref kids cases);have:=Nj hw (F s (.mk kind num ref kids cases)) kids;omega) (Hle.hu _ _ _ _ hHW) (fun j hj s ck a h hc hh ra hz=>ih' _ (getElem_mem hj) s ck a h hc ra hz (hh _ _ (Hle.hu _ _ _ _ hHY)) (hh _ _ (Hle.hu _ _ _ _ hHW)) (fun y s ck a h' hc h2=>hy y s ck a h' hc (Hle.trans (Hle.hu _ _) (Hle.trans hh h2))))) rfl ?_)
 rintro _ _ ⟨rfl,ck4,rfl,hck4⟩
 refine JLq (.bool true) (ZcZ rfl rfl)<|JAn rfl<|ZE (.bool true) [ck4] (Sk Sub.nil) (?_)
 exact ⟨rfl,_,rfl,hck4⟩
theorem Og:∀ {σ:Type} (F:σ→Tm→σ) (wt:σ→Nat) (yc:σ→Zf→Prop) (hw:∀ s y,wt (F s y)≤wt s+1) (l bT:Nat) (t:Tm) (s:σ) (ck:Zf) (cs:List Value) (H:Heap),yc s ck→RT H cs t→wt s+sizeT t≤1000000→H bT=some (.cells ⟨cs⟩ 51 (0,0))→(∀ (y:Tm) (s:σ) (ck:Zf) (a:List Value) (h:Heap),yc s ck→Hle H h→RT h a y→wt s+1≤1000000→YT prog l ⟨[.agg ⟨a⟩]⟩ [ck] h (fun v N=>v=.bool true∧∃ k,N=[k]∧yc (F s y) k))→CT prog 199 ⟨[.func (.yield l) ⟨[]⟩ ⟨[]⟩,pp bT 0]⟩ [ck] H (fun _ N=>∃ k,N=[k]∧yc (ndT F s t) k):=by
 intro σ F wt yc hw l bT t s ck cs H hck ht hz hT hy
 refine Zl func199 rfl rfl<|Zd<|JLr (Zr (l:=[.func (.yield l) ⟨[]⟩ ⟨[]⟩]) rfl rfl fun b1=>Za<|Zd<|JLr (Zk (l:=[.nilFunc]) zeroValue56 rfl fun b2=>Za<|Zd<|JLq (.func (.func 200) ⟨[]⟩ ⟨[pp b1 0,pp b2 0]⟩) (Pu.makeFunc rfl rfl)<|JLr (Zb 0 (vs:=[.func (.func 200) ⟨[]⟩ ⟨[pp b1 0,pp b2 0]⟩]) (l:=[.func (.func 200) ⟨[]⟩ ⟨[pp b1 0,pp b2 0]⟩]) OQ rfl rfl rfl rfl rfl (Zh rfl Zq) rfl ?_)))
 refine Za<|Ze<|JLr (Zc OQ rfl (ZcK 0 rfl) rfl<|JLr (Zn Zu rfl (ZcN hT) (Zx (Zy ht))<|Zs 2 rfl call200 rfl rfl (fun hin=>H1 F wt yc hw l _ _ t _ _ _ _ hck (RT.mono (Hle.hu _ _) ht) hz (hin 1 _ rfl _ _ mem_cons_self) (hin 0 _ rfl _ _ mem_cons_self) (fun y s ck a h hc hh ra hz=>hy y s ck a h hc (Hle.trans (Hle.hu _ _) hh) ra hz)) rfl ?_))
 rintro _ _ ⟨rfl,ck3,rfl,hck3⟩
 refine Za<|⟨.tuple ⟨[]⟩,[ck3],Ret.none rfl,(Sk Sub.nil),?_⟩
 exact ⟨_,rfl,hck3⟩
theorem Mr (cs:List Value) (H:Heap) (hl:cs.length=36) (hc:okc cs):CT prog 169 ⟨[.agg ⟨cs⟩]⟩ [] H (fun v N=>∃ b,v=.func (.func 199) ⟨[]⟩ ⟨[pp b 0]⟩∧N=[(BX b cs 51)]):=by
 refine Zl func169 rfl rfl<|Zd<|JLr (Zr (l:=cs) rfl rfl fun b1=>JLa .nilFunc<|Za<|Zd<|JLq (.func (.func 199) ⟨[]⟩ ⟨[pp b1 0]⟩) (Pu.makeFunc rfl rfl)<|JAn rfl<|ZE (.func (.func 199) ⟨[]⟩ ⟨[pp b1 0]⟩) [(BX b1 cs 51)] (Sk Sub.nil) (?_))
 exact ⟨_,rfl,rfl⟩
set_option maxHeartbeats 1000000 in
theorem Rd (t:Tm) (cs:List Value) (H:Heap) (ht:RT H cs t) (hz:sizeT t≤400000):CT prog 121 ⟨[.agg ⟨cs⟩]⟩ [] H (fun r N=>∃ k,N=[k]∧Own 3 1 r (Z2 (sfP t)) k):=by
 refine Zl func121 rfl rfl<|Zd<|JLr (Zr (l:=cs) rfl rfl fun b1=>JAn rfl<|Zd<|JLr (Zk (l:=[nS]) zeroValue45 rfl fun b2=>Za<|Zg<|Zg<|Ze ?_))
 refine JLr (Zn Zu rfl (ZcK 1 rfl) (Zx (Zy ht))<|Jc call169 rfl (fun hin=>Mr _ _ (Zy ht) (Y5 ht)) rfl ?_)
 rintro _ _ ⟨bT3,rfl,rfl⟩
 refine Za<|Zm<|ZF (M':=[[],(BX bT3 cs 51),(BX b2 [nS] 45),(BX b1 cs 51)]) (ZcL Sub.refl)<|ZF (Sub.cons 2 rfl (Sk (Sk (Sk Sub.nil))))<|Qu (L:=[(BX bT3 cs 51),(BX b1 cs 51)]) (fun s:Value×Zf=>[(BX b2 [s.1] 45),s.2]) (fun _=>false) (nS,[]) (fun s=>Own 3 1 s.1 (Z2 (ndT sfF [] t)) s.2) rfl rfl call199 (List.Perm.of_eq (by simp)) ?_ ?_ ?_
 ·intro l yc hY hin
  refine CT.mono (Og sfF List.length (fun s k=>∃ p:Value×Zf,k=yc p∧Own 3 1 p.1 (Z2 s) p.2) GE l _ t [] _ _ _ ⟨_,rfl,(show Own 3 1 _ (Z2 []) [] from Own.nil)⟩ (RT.mono (Hle.hu _ _) ht) (by simp;omega) (hin 0 _ rfl _ _ mem_cons_self) ?_) (fun v N ⟨k,hk,p,e,ho⟩=>⟨p,by rw [hk,e],ho⟩)
  rintro y d _ a h ⟨s,rfl,hI⟩ hh hry hz0
  refine YT.mono (hY s [_] h (fun p2=>Own 3 1 p2.1 (Z2 (sfF d y)) p2.2) rfl rfl (RoundOk.mk ?_)) ?_
  obtain ⟨ksy,cvy,rfl,hky,hny,hksy,hcvy⟩:=NU hry
  ·show J _ _ _ _ [(BX b2 [s.1] 45),s.2] _
   refine Ze<|JLr (Zk (l:=pkT 0 0 zS nS nS) zeroValue51 rfl fun b4=>JLr (Zb 0 (vs:=pkT (y.kind) (y.num) (y.ref) ksy cvy) (l:=pkT (y.kind) (y.num) (y.ref) ksy cvy) Zu rfl rfl rfl rfl rfl (ZR hksy.one hcvy.one) (Yb ..)<|Za<|Zm<|Zd<|JLq (pp b4 0) (Yh rfl rfl)<|JLr (Zc ty3 rfl (ZcK 0 rfl) (YE ..)<|JLn (Pu.eql rfl rfl)<|Za<|ZN rfl (fun h5=>?_) (fun h5=>?_))))
   ·refine Ze<|JLr (Zc YL rfl (ZcK 1 rfl) rfl<|JLq (pp b4 1) (Y1 rfl rfl)<|JLr (Zc ty3 rfl (ZcK 0 rfl) (XV ..)<|JLr (Zj (vs:=[iv (y.num)]) [[iv (y.num)]] ZS el3 rfl rfl (al1 rfl) rfl (by decide) fun b6 k6 ho6 hk6=>?_)))
    have hlens7:∀ e∈([[iv (y.num)]]:List (List Value)),List.length e=1:=al1 rfl
    have hoks7:∀ e∈([[iv (y.num)]]:List (List Value)),okc e:=al1 (Zh rfl Zq)
    refine JLr (ZA (i:=3) (n:=1) (es':=[[iv (y.num)]]) ZS ZS (Or.inl rfl) el3 rfl rfl rfl hI (fun F w m=>Src.row (((ZcS 0 rfl (by rw [hk6];exact mem_cons_self))).heap m) (Zx (Zw hlens7))) rfl hlens7 hoks7 (by decide) (by rw [Zv];omega) fun v7 k7 ho7=>JLr (Zb 2 (vs:=[v7]) (l:=[v7]) YL rfl rfl rfl (ZH ho7.one) rfl (Zh ho7.one Zq) rfl<|Za ?_))
    exact ⟨(v7,k7),rfl,(Sd (Sd (Sk (Sk Sub.nil)))),(by have z:=ho7;rw [← Wa] at z;unfold sfF;rw [if_pos h5];exact z)⟩
   refine Zo ?_
   exact ⟨(s.1,s.2),rfl,(Sd (Sk (Sk Sub.nil))),(by unfold sfF;rw [if_neg h5];exact hI)⟩
  rintro v N ⟨s2,rfl,rfl,h2⟩;exact ⟨rfl,_,rfl,s2,rfl,h2⟩
 ·rintro s hI hp
  have hIF:=hI
  refine Zd<|JLr (Zc YL rfl (ZcK 0 rfl) rfl<|JLa (s.1)<|Za<|ZE s.1 [s.2] (Sd (Sk Sub.nil)) (?_))
  exact ⟨_,rfl,hIF⟩
 intro s _ hp;cases hp
set_option maxHeartbeats 2000000 in
theorem Td:∀ (D:Int→Int→Sm→Int×Int×Sm) (Q:Int→Int→Sm→Prop) (gr:Nat) (frs crs:List Value) (hcall:∀ args w,(callFunc gr args).run prog w=.ok (.enter gr args) w) (hDI:(∀ k n r,inI k→inI n→Q k n r→inI (D k n r).1∧inI (D k n r).2.1)) (t:Tm) (cs:List Value) (H:Heap),RT H cs t→sizeT t≤1000000→RD Q t→(∀ (y:Tm) (a:List Value) (h:Heap),Hle H h→RT h a y→Q y.kind y.num y.ref→CT prog gr ⟨frs++[.agg ⟨a⟩]++crs⟩ [] h (fun v N=>∃ kx cx,v=.agg ⟨pkT (D y.kind y.num y.ref).1 (D y.kind y.num y.ref).2.1 (D y.kind y.num y.ref).2.2 kx cx⟩∧N=[]∧kx.oneCell'=true∧cx.oneCell'=true))→CT prog 57 ⟨[.agg ⟨cs⟩,.func (.func gr) ⟨frs⟩ ⟨crs⟩]⟩ [] H (fun v N=>∃ cs k,v=.agg ⟨cs⟩∧N=[k]∧OT (mpT D t) cs k):=by
 intro D Q gr frs crs hcall hDI t
 induction t using Tm.ind with
 | h kind num ref kids cases ih ih'=>
 intro cs H ht hz hq hdo
 rw [sizeT] at hz
 have hlk:=XR kids
 have hlc:=WX cases
 obtain ⟨ks,cv,rfl,hk,hn,hks,hcv⟩:=RT_mk.1 ht
 rw [RD] at hq
 have hD1:=hDI _ _ _ hk hn hq.1
 refine Zl func57 rfl rfl<|Zd<|JLr (Zr (l:=pkT kind num ref ks cv) rfl rfl fun b1=>JLr (Zk (l:=pkT 0 0 zS nS nS) zeroValue51 rfl fun b2=>Za<|Zg<|ZM mixed #[0,1,0,4,3,31] 5 [some 11,some 12,some 13,some 14,some 5] [] [] rfl (by kernel_rfl) rfl (by kernel_rfl)<|Dq (pp b1 34) (fun _=>YS rfl rfl)<|Dl1 XE (ZcK 1 rfl) (Xq ..)<|Dq (pp b1 35) (fun _=>Y0 rfl rfl)<|Dl1 WN (ZcK 1 rfl) (XA ..)<|Dq ks (fun _=>Pu.assign rfl) ?_))
 refine ZX (M':=[(BX b2 (pkT 0 0 zS nS nS) 51),(BX b1 (pkT kind num ref ks cv) 51)]) rfl ?_
 show JL _ _ _ [_] _ _ _
 refine JLa cv<|Za<|Zd<|JLM rfl<|JLr (Zn Zu rfl (ZcK 1 rfl) (Z4 ..)<|Jc hcall rfl (fun hin=>hdo (.mk kind num ref kids cases) _ _ (Hle.hu _ _) (RT_mk.2 ⟨_,_,rfl,hk,hn,RTs.mono (Hle.hu _ _) hks,RCs.mono (Hle.hu _ _) hcv⟩) hq.1) rfl ?_)
 rintro _ _ ⟨kx,cx,rfl,rfl,hkx,hcx⟩
 refine JLr (Zb 1 (vs:=pkT ((D kind num ref).1) ((D kind num ref).2.1) ((D kind num ref).2.2) kx cx) (l:=pkT ((D kind num ref).1) ((D kind num ref).2.1) ((D kind num ref).2.2) kx cx) Zu rfl rfl rfl rfl rfl (ZR hkx hcx) (Yb ..)<|Za<|Zd<|JLm ks ?_)
 obtain ⟨a4,cap4,hv4⟩:=hks.sl
 have hle4:=hks.le
 refine JLn (ZcM ZI hv4)<|JLr (Uj (kids.length) ZI YM rfl rfl rfl rfl (by omega) (by omega) fun v5 k5 ho5=>JLq (pp b1 34) (YS rfl rfl)<|JLr (Zb 2 (vs:=[v5]) (l:=pkT ((D kind num ref).1) ((D kind num ref).2.1) ((D kind num ref).2.2) v5 cx) XE rfl rfl rfl (ZH ho5.one) rfl (Zh ho5.one Zq) (U8 ..)<|JLq (pp b1 35) (Y0 rfl rfl)<|JLr (Zb 2 (vs:=[nS]) (l:=pkT ((D kind num ref).1) ((D kind num ref).2.1) ((D kind num ref).2.2) v5 nS) WN rfl rfl rfl rfl rfl (Zh rfl Zq) (U7 ..)<|Za<|Zd<|JLq (pp b1 34) (YS rfl rfl)<|JLr (Zc XE rfl (ZcK 2 rfl) (Xq ..)<|JLm ks ?_))))
 obtain ⟨es6,he6,hH6,hl6,hok6,hsr6⟩:=FW (P:=prog) hks
 refine JLr (HI (i:=0) (n:=kids.length) (m:=kids.length) (es':=es6) ZI YM rfl rfl rfl ho5 (fun F w m=>hsr6 w _ m) he6 (by simp) hl6 hok6 rfl fun kc6 hc6=>Za<|Zg<|Zd<|JLm ks ?_)
 obtain ⟨a7,cap7,hv7⟩:=hks.sl
 have hle7:=hks.le
 refine JLn (ZcM ZI hv7)<|JLM rfl<|Za<|Zm<|ZD (fun k ρ M=>∃ (j:Nat) (es:List (List Value)) (k1 k2:Zf),Z7 ρ [(1,.func (.func gr) ⟨frs⟩ ⟨crs⟩),(2,pp b1 0),(4,pp b2 0),(6,cv),(27,ks),(28,iv ((kids.length:Int))),(29,iv ((j:Int)))]=ρ∧Sub [(BX b1 (pkT ((D kind num ref).1) ((D kind num ref).2.1) ((D kind num ref).2.2) v5 nS) 51),k1,k2,(BX b2 (pkT 0 0 zS nS nS) 51)] M∧j≤kids.length∧Own 51 36 v5 es k1∧Half H kids (Rm D (kids.take j)) j es k2∧k=kids.length-j) _ ⟨0,es6,kc6,[],Zp rfl,(Sub.cons 2 rfl (Sk (ZcL (Sk Sub.nil)))),Nat.zero_le _,hc6,hH6,rfl⟩ ?_
 rintro _ ρ8 _ ⟨j,es,k1,k2,e9,hm16,hj,ho,hH,rfl⟩
 obtain ⟨ρ17,rfl⟩:=Zi e9
 clear e9
 refine ZF hm16<|Zd<|JLn (Pu.lss rfl rfl)<|Za<|Zg<|ZN rfl (fun h18=>?_) (fun h18=>?_)
 ·have h18n:j<kids.length:=by omega
  have hz1:=YR _ (getElem_mem h18n)
  refine Zo<|Zg<|Zm<|Zd<|JLM rfl ?_
  obtain ⟨b19,o19,cap19,row19,T19,fr19,cs19,hv19,hb19,hs19,hE19⟩:=hks.get j (by omega)
  refine JLn (Pu.idx j ZI Zu hv19 rfl rfl (by omega))<|JLr (Zn Zu rfl (ZcN hb19) hs19<|JLr (Zk (l:=pkT 0 0 zS nS nS) zeroValue51 rfl fun b20=>JLA rfl<|JLr (Zb 0 (vs:=cs19) (l:=cs19) Zu rfl rfl rfl rfl (Zy hE19) (Y5 hE19) (ZY (n:=36) rfl (Zy hE19))<|Za<|ZM mixed #[0,1,0,0,0,24,63,127] 6 (sm 34 6) [] [(5,fun _ _ vw qw=>∃ cs k,vw=.agg ⟨cs⟩∧qw=[k]∧OT (mpT D (kids[j])) cs k)] rfl (by kernel_rfl) rfl (by kernel_rfl)<|Dq (pp b1 34) (fun _=>YS rfl rfl)<|Dl1 XE (ZcK 1 rfl) (Xq ..)<|DM (fun _=>rfl)<|Dl Zu (ZcK 0 rfl) (Zx (Zy hE19))<|DM (fun _=>rfl) ?_)))
  refine Dc rfl call57 (fun _=>rfl) (fun hin=>ih _ (getElem_mem h18n) _ _ (RT.mono (Hle.hu _ _) hE19) (by omega) (HB hq.2.1 _ (getElem_mem h18n)) (fun y a h hh ra hqy=>hdo y a h (Hle.trans (Hle.hu _ _) hh) ra hqy)) ?_
  rintro _ _ ⟨cs22,k22,rfl,rfl,hO22⟩
  refine ZX (M':=[k22,(BX b20 cs19 51),(BX b1 (pkT ((D kind num ref).1) ((D kind num ref).2.1) ((D kind num ref).2.2) v5 nS) 51),k1,k2,(BX b2 (pkT 0 0 zS nS nS) 51)]) rfl ?_
  show JL _ _ _ [_,_] _ _ _
  obtain ⟨b23,cap23,row23,e23,hv23,hm23,hs23,hE23⟩:=hH.at ho h18n
  refine JLn (Pu.idx j ZI Zu hv23 rfl rfl (by rw [hH.1];exact h18n))<|JLr (Y7 (i:=3) (j:=j) (b:=b23) Zu rfl ho ⟨_,_,hv23⟩ rfl (by rw [hH.1];exact h18n) rfl rfl hO22.len hO22.ok fun k24 ho24=>Za<|Ze<|JLn (ZcP rfl rfl (by omega))<|JLM rfl<|Za<|⟨_,?_,(j+1),(es.set j cs22),k24,(k2++k22),Zp rfl,(Sub.cons 2 rfl (Sub.cons 2 rfl (ZcO (Sub.cons 2 rfl (Sk (Sd (Sk Sub.nil))))))),?_,?_,?_,rfl⟩)
  ·omega
  ·omega
  ·exact ho24
  rw [IZ D kids j h18n];exact hH.step h18n hO22
 have h18n:kids.length≤j:=by omega
 refine ZC _ rfl<|Zg<|Zd<|JLm cv ?_
 obtain ⟨a25,cap25,hv25⟩:=hcv.sl
 have hle25:=hcv.le
 refine JLn (ZcM Xp hv25)<|JLM rfl<|Za<|Zm ?_
 have hjk:=h18n
 rw [take_of_length_le hjk] at hH
 refine ZD (fun k ρ M=>∃ (j:Nat) (w:Value) (es2:List (List Value)) (k3 k4:Zf),Z7 ρ [(1,.func (.func gr) ⟨frs⟩ ⟨crs⟩),(2,pp b1 0),(4,pp b2 0),(42,cv),(43,iv ((cases.length:Int))),(44,iv ((j:Int)))]=ρ∧Sub [(BX b1 (pkT ((D kind num ref).1) ((D kind num ref).2.1) ((D kind num ref).2.2) v5 w) 51),k3,k4,k1,k2,(BX b2 (pkT 0 0 zS nS nS) 51)] M∧j≤cases.length∧Own 117 71 w es2 k3∧OCs (Rn D (cases.take j)) es2 k4∧k=cases.length-j) _ ⟨0,nS,[],[],[],Zp rfl,(Sk (ZcL (ZcL (Sk (Sk (Sk Sub.nil)))))),Nat.zero_le _,Own.nil,OCs.nil,rfl⟩ ?_
 rintro _ ρ26 _ ⟨j,w,es2,k3,k4,e27,hm33,hj,how,hopw,rfl⟩
 obtain ⟨ρ34,rfl⟩:=Zi e27
 clear e27
 refine ZF hm33<|Zd<|JLn (Pu.lss rfl rfl)<|Za<|Zg<|ZN rfl (fun h35=>?_) (fun h35=>?_)
 ·have h35n:j<cases.length:=by omega
  have helw:=S3 hopw
  rw [MA,length_take] at helw
  have hz1:=WQ _ (getElem_mem h35n)
  refine Zo<|Zg<|Zm<|Zg<|Ze ?_
  obtain ⟨b36,o36,cap36,row36,T36,fr36,cs36,hv36,hb36,hs36,hE36⟩:=hcv.get j (by omega)
  obtain ⟨ca36,cb36,rfl,hA36,hB36⟩:=hE36
  refine JLn (Pu.idx j Xp YD hv36 rfl rfl (by omega))<|JLr (Zn YD rfl (ZcN hb36) hs36<|JLr (Zk (l:=(pkP 0 0 zS nS)++(pkT 0 0 zS nS nS)) zeroValue117 rfl fun b37=>JLr (Zb 0 (vs:=ca36++cb36) (l:=ca36++cb36) YD rfl rfl rfl rfl (ZJ (ZL hA36) (Zy hB36)) (YB (W3 hA36) (Y5 hB36)) (ZY (n:=71) rfl (ZJ (ZL hA36) (Zy hB36)))<|Za<|ZM mixed #[0,1,0,4,12,0,32,0,252,508,1020,2047,4095,8191] 11 (sm 48 11) [] [(4,fun _ _ vw qw=>∃ cs k,vw=.agg ⟨cs⟩∧qw=[k]∧OP (cases[j].1) cs k),(8,fun _ _ vw qw=>∃ cs k,vw=.agg ⟨cs⟩∧qw=[k]∧OT (mpT D (cases[j].2)) cs k),(10,fun r _ vw qw=>∃ b k,vw=.slice (some ⟨b,0,none⟩) 1 1∧qw=[k]∧Own 117 71 (.slice (some ⟨b,0,none⟩) 1 1) [((cel (r 4)))++((cel (r 8)))] k∧k=(BX b (flatten [((cel (r 4)))++((cel (r 8)))]) 117))] rfl (by kernel_rfl) rfl (by kernel_rfl)<|Dq (pp b1 35) (fun _=>Y0 rfl rfl)<|Dl1 WN (ZcK 1 rfl) (XA ..)<|Dq (pp b37 0) (fun _=>WD rfl rfl)<|Dl ZO (ZcK 0 rfl) (Va (ZL hA36)) ?_)))
  refine Dc rfl call108 (fun _=>rfl) (fun hin=>QZ _ _ _ (RP.mono (Hle.hu _ _) hA36) (by omega)) ?_
  rintro _ _ ⟨cs41,k41,rfl,rfl,hO41⟩
  refine Dq (pp b37 35) (fun _=>WC rfl rfl)<|Dl Zu (ZcK 0 rfl) (Vt (ZL hA36) (Zy hB36))<|DM (fun _=>rfl) ?_
  refine Dc rfl call57 (fun _=>rfl) (fun hin=>ih' _ (getElem_mem h35n) _ _ (RT.mono (Hle.hu _ _) hB36) (by omega) (HC hq.2.2 _ (getElem_mem h35n)) (fun y a h hh ra hqy=>hdo y a h (Hle.trans (Hle.hu _ _) hh) ra hqy)) ?_
  rintro _ _ ⟨cs42,k42,rfl,rfl,hO42⟩
  refine Dq (.agg ⟨cs41++cs42⟩) (fun _=>Pu.build (pv:=[(0,.agg ⟨cs41⟩),(1,.agg ⟨cs42⟩)]) (l:=cs41++cs42) rfl (W0 hO41.len hO42.len))<|Dr rfl (fun _=>Zj (vs:=[.agg ⟨cs41++cs42⟩]) [cs41++cs42] Xp SL rfl rfl (al1 (ZJ hO41.len hO42.len)) rfl (by decide) fun b k h1 h2=>⟨[k],by rw [Yd rfl];exact Sub.refl,b,k,rfl,rfl,h1,h2⟩) (fun _ _ ⟨b43,k43,e1,e2,ho43,hk43⟩=>?_);subst e1 e2
  refine ZX (M':=[k43,k42,k41,(BX b37 (ca36++cb36) 117),(BX b1 (pkT ((D kind num ref).1) ((D kind num ref).2.1) ((D kind num ref).2.2) v5 w) 51),k3,k4,k1,k2,(BX b2 (pkT 0 0 zS nS nS) 51)]) rfl ?_
  show JL _ _ _ [_,_,_] _ _ _
  have hlens44:∀ e∈([cs41++cs42]:List (List Value)),List.length e=71:=al1 (ZJ hO41.len hO42.len)
  have hoks44:∀ e∈([cs41++cs42]:List (List Value)),okc e:=al1 (YB hO41.ok hO42.ok)
  refine JLr (ZA (i:=5) (n:=1) (es':=[cs41++cs42]) Xp Xp (Or.inl rfl) SL rfl rfl rfl how (fun F w m=>Src.row (((ZcS 0 rfl (by rw [hk43];exact mem_cons_self))).heap m) (Zx (Zw hlens44))) rfl hlens44 hoks44 (by decide) (by omega) fun v44 k44 ho44=>JLq (pp b1 35) (Y0 rfl rfl)<|JLr (Zb 4 (vs:=[v44]) (l:=pkT ((D kind num ref).1) ((D kind num ref).2.1) ((D kind num ref).2.2) v5 v44) WN rfl rfl rfl (ZH ho44.one) rfl (Zh ho44.one Zq) (U7 ..)<|Za<|Ze<|JLn (ZcP rfl rfl (by omega))<|JLM rfl<|Za<|⟨_,?_,(j+1),v44,(es2++[cs41++cs42]),k44,(k4++(k41++k42)),Zp rfl,(Sd (Sub.cons 3 rfl (Sub.cons 3 rfl (ZcY (Sub.cons 3 rfl (Sub.cons 1 rfl (Sk (Sd (Sk (Sk (Sk Sub.nil))))))))))),?_,?_,?_,rfl⟩))
  ·omega
  ·omega
  ·exact ho44
  rw [I0 D cases j h35n];exact OCs.snoc hO41 hO42 hopw
 have h35n:cases.length≤j:=by omega
 refine ZC _ rfl<|Zd<|JLr (Zn Zu rfl (ZcK 0 rfl) (Z4 ..)<|JLr (Zb 5 (vs:=pkT ((D kind num ref).1) ((D kind num ref).2.1) ((D kind num ref).2.2) v5 w) (l:=pkT ((D kind num ref).1) ((D kind num ref).2.1) ((D kind num ref).2.2) v5 w) Zu rfl rfl rfl rfl rfl (ZR ho.one how.one) (Yb ..)<|Za<|Zz<|⟨.agg ⟨pkT ((D kind num ref).1) ((D kind num ref).2.1) ((D kind num ref).2.2) v5 w⟩,[k1++(k2++(k3++k4))],Ret.one rfl (RV.cell Zu rfl (ZcK 5 rfl) (Z4 ..)),(Zc3 (Sd (Sub.cons 2 rfl (Sub.cons 2 rfl (Sk (Sk Sub.nil)))))),?_⟩))
 rw [take_of_length_le h35n] at hopw
 exact ⟨_,_,rfl,rfl,by rw [mpT];exact OT_mk.2 ⟨_,w,es,es2,k1,k2,k3,k4,rfl,hD1.1,hD1.2,ho,hH.done hjk,how,hopw,rfl,by rw [FH];exact hks.le,by rw [MA];exact hcv.le⟩⟩
theorem LO (aS:_) (n cap:Nat) (H:Heap) (hn:n≤1000000):CT prog 154 ⟨[.slice aS n cap]⟩ [] H (fun v N=>v=(if 65536<n then .tuple ⟨[nS,iv 11]⟩ else .tuple ⟨[.slice aS n cap,iv 0]⟩)∧N=[]):=by
 refine Zl func154 rfl rfl<|Zd<|JLA rfl<|JAn rfl<|Zd<|JAn rfl<|Zg<|Zg<|Ze ?_
 refine JLM rfl<|JLn (ZcM YV rfl)<|JLn (Pu.gtr rfl rfl)<|Za<|ZN rfl (fun h1=>?_) (fun h1=>?_)
 ·refine Zd<|JLM rfl<|JLA rfl<|JAn rfl<|Zz<|⟨.tuple ⟨[nS,iv 11]⟩,[],ZcU rfl (RV.tmp rfl) (RV.tmp rfl),Sub.nil,?_⟩
  exact ⟨by rw [if_pos (by omega)],rfl⟩
 refine Zo<|Zd<|JLM rfl<|JLA rfl<|JAn rfl<|Zz<|⟨.tuple ⟨[.slice aS n cap,iv 0]⟩,[],ZcU rfl (RV.tmp rfl) (RV.tmp rfl),Sub.nil,?_⟩
 exact ⟨by rw [if_neg (by omega)],rfl⟩
theorem MZ (x:It) (cs:List Value) (H:Heap) (ht:RIt H cs x) (hg:gdI x) (hz:szI x≤5000) (hd:dpI x≤250):CT prog 106 ⟨[.agg ⟨cs⟩]⟩ [] H (fun r N=>∃ u k,r=.tuple ⟨[u,iv (X5 x)]⟩∧N=[k]∧Own 5 1 u (YU (Pk x)) k):=by
 have henc:=Qm x hg (by omega)
 refine Zl func106 rfl rfl<|Zd<|JLr (Zr (l:=cs) rfl rfl fun b1=>JLA rfl<|JAn rfl<|Zg<|Zd<|JLr (Zn XY rfl (ZcK 0 rfl) (Zx (SY ht))<|Jc call153 rfl (fun hin=>Hl _ _ _ (RIt.mono (Hle.hu _ _) ht) hg (by omega) (by omega)) rfl ?_))
 rintro _ _ ⟨rfl,rfl⟩
 refine JAn rfl<|Zd<|JLM rfl<|JLq (.bool false) (show Pu _ _ _ (.bool (!decide ((0:Int)=0))) from Pu.neq rfl rfl)<|Za<|Zt (b:=false) rfl (fun h=>absurd h (by simp)) (fun _=>Zo<|Zd<|JLr (Zn XY rfl (ZcK 0 rfl) (Zx (SY ht))<|Jc call155 rfl (fun hin=>Ky _ _ _ (RIt.mono (Hle.hu _ _) ht) hg (by omega)) rfl ?_))
 rintro v2 _ ⟨k2,rfl,ho2⟩
 obtain ⟨aS3,capS3,hvS3⟩:=ho2.sl
 rw [Yu] at hvS3
 subst hvS3
 refine Jc call154 rfl (fun hin=>LO _ (Yf x).length _ _ (by omega)) rfl ?_
 rintro _ _ ⟨rfl,rfl⟩
 obtain ⟨u3,kq3,hu3,hsub3,hq3⟩:=Iy (T:=5) ho2
 rw [hu3]
 refine ZB (Ix (i:=0) rfl hsub3)<|JLn (Pu.extract rfl rfl)<|JLn (Pu.extract rfl rfl)<|JLa u3<|JAn rfl<|Zz<|⟨.tuple ⟨[u3,iv (X5 x)]⟩,[kq3],ZcU rfl (RV.tmp rfl) (RV.tmp rfl),(Sk Sub.nil),?_⟩
 exact ⟨_,_,rfl,rfl,hq3⟩
theorem Cr:∀ (f:Int→Int) (m:Int) (gr:Nat) (frs crs:List Value) (hcall:∀ args w,(callFunc gr args).run prog w=.ok (.enter gr args) w) (bC:Nat) (t:Tm) (cs:List Value) (H:Heap),RT H cs t→Vw m t.kind t.num t.ref→H bC=some (.cells ⟨[.func (.func gr) ⟨frs⟩ ⟨crs⟩]⟩ 48 (0,0))→(∀ (n:Int) (h:Heap),Hle H h→0≤n→n<m→CT prog gr ⟨frs++[iv n]++crs⟩ [] h (fun v N=>v=iv (f n)∧N=[]))→CT prog 148 ⟨[.agg ⟨cs⟩,pp bC 0]⟩ [] H (fun v N=>∃ kx cx,v=.agg ⟨pkT (nmD f t.kind t.num t.ref).1 (nmD f t.kind t.num t.ref).2.1 (nmD f t.kind t.num t.ref).2.2 kx cx⟩∧N=[]∧kx.oneCell'=true∧cx.oneCell'=true):=by
 intro f m gr frs crs hcall bC t cs H ht hq hC hcl
 obtain ⟨kind,num,ref,kids,cases⟩:=t
 obtain ⟨ks,cv,rfl,hk,hn,hks,hcv⟩:=RT_mk.1 ht
 simp only [Tm.kind,Tm.num,Tm.ref] at hq ⊢
 refine Zl func148 rfl rfl<|Zd<|JLr (Zr (l:=pkT kind num ref ks cv) rfl rfl fun b1=>JLr (Zk (l:=pkT 0 0 zS nS nS) zeroValue51 rfl fun b2=>Za<|Zg<|Zd<|JLq (pp b1 0) (Yh rfl rfl)<|JLr (Zc ty3 rfl (ZcK 1 rfl) (YE ..)<|JLn (Pu.eql rfl rfl)<|Za ?_)))
 refine ZN rfl (fun h3=>?_) (fun h3=>?_)
 ·have h7:kind=7:=h3
  refine Ze<|JLr (Zc Zco rfl (ZcN hC) rfl<|JLq (pp b1 1) (Y1 rfl rfl)<|JLr (Zc ty3 rfl (ZcK 1 rfl) (XV ..)<|Jc hcall rfl (fun hin=>hcl _ _ (Hle.hu _ _) (hq h7).1 (hq h7).2) rfl ?_))
  rintro _ _ ⟨rfl,rfl⟩
  refine JLq (pp b1 1) (Y1 rfl rfl)<|JLr (Zb 1 (vs:=[iv (f num)]) (l:=pkT kind (f num) ref ks cv) ty3 rfl rfl rfl rfl rfl (Zh rfl Zq) (G0 ..)<|Za<|Zd<|JLr (Zn Zu rfl (ZcK 1 rfl) (Z4 ..)<|JLr (Zb 0 (vs:=pkT kind (f num) ref ks cv) (l:=pkT kind (f num) ref ks cv) Zu rfl rfl rfl rfl rfl (ZR hks.one hcv.one) (Yb ..)<|Za<|Zz<|⟨.agg ⟨pkT kind (f num) ref ks cv⟩,[],Ret.one rfl (RV.cell Zu rfl (ZcK 0 rfl) (Z4 ..)),Sub.nil,?_⟩)))
  have hD:nmD f kind num ref=(kind,f num,ref):=by unfold nmD;rw [if_pos h7]
  exact ⟨_,_,by rw [hD],rfl,hks.one,hcv.one⟩
 refine Zo<|Zd<|JLr (Zn Zu rfl (ZcK 1 rfl) (Z4 ..)<|JLr (Zb 0 (vs:=pkT kind num ref ks cv) (l:=pkT kind num ref ks cv) Zu rfl rfl rfl rfl rfl (ZR hks.one hcv.one) (Yb ..)<|Za<|Zz<|⟨.agg ⟨pkT kind num ref ks cv⟩,[],Ret.one rfl (RV.cell Zu rfl (ZcK 0 rfl) (Z4 ..)),Sub.nil,?_⟩))
 have hD:nmD f kind num ref=(kind,num,ref):=by unfold nmD;rw [if_neg h3]
 exact ⟨_,_,by rw [hD],rfl,hks.one,hcv.one⟩
theorem UF:∀ (f:Int→Int) (m:Int) (hf:∀ n,0≤n→n<m→inI (f n)) (gr:Nat) (frs crs:List Value) (hcall:∀ args w,(callFunc gr args).run prog w=.ok (.enter gr args) w) (t:Tm) (cs:List Value) (H:Heap),RT H cs t→sizeT t≤1000000→RD (Vw m) t→(∀ (n:Int) (h:Heap),Hle H h→0≤n→n<m→CT prog gr ⟨frs++[iv n]++crs⟩ [] h (fun v N=>v=iv (f n)∧N=[]))→CT prog 98 ⟨[.agg ⟨cs⟩,.func (.func gr) ⟨frs⟩ ⟨crs⟩]⟩ [] H (fun v N=>∃ cs k,v=.agg ⟨cs⟩∧N=[k]∧OT (mpT (nmD f) t) cs k):=by
 intro f m hf gr frs crs hcall t cs H ht hz hq hcl
 refine Zl func98 rfl rfl<|Zd<|JLr (Zr (l:=cs) rfl rfl fun b1=>JLr (Zr (l:=[.func (.func gr) ⟨frs⟩ ⟨crs⟩]) rfl rfl fun b2=>JLr (Zk (l:=pkT 0 0 zS nS nS) zeroValue51 rfl fun b3=>Za<|Zd<|JLr (Zn Zu rfl (ZcK 2 rfl) (Zx (Zy ht))<|JLq (.func (.func 148) ⟨[]⟩ ⟨[pp b2 0]⟩) (Pu.makeFunc rfl rfl)<|Jc call57 rfl (fun hin=>Td (nmD f) (Vw m) _ [] _ call148 (A3 hf) t _ _ (RT.mono (Hle.hu _ _) ht) hz hq (fun y a h hh ra hqy=>Cr f m gr frs crs hcall _ _ _ _ ra hqy (hh _ _ (hin 1 _ rfl _ _ mem_cons_self)) (fun n h2 h3=>hcl n h2 (Hle.trans (Hle.hu _ _) (Hle.trans hh h3))))) rfl ?_))))
 rintro _ _ ⟨cs4,k4,rfl,rfl,hO4⟩
 refine JLr (Zb 1 (vs:=cs4) (l:=cs4) Zu rfl rfl rfl rfl hO4.len hO4.ok (ZY (n:=36) rfl hO4.len)<|Za<|Zz<|⟨.agg ⟨cs4⟩,[k4],Ret.one rfl (RV.cell Zu rfl (ZcK 1 rfl) (Zx hO4.len)),(Sk Sub.nil),?_⟩)
 exact ⟨_,_,rfl,rfl,hO4⟩
theorem DB (n:Int) (H:Heap):CT prog 117 ⟨[iv n]⟩ [] H (fun v N=>v=iv 0∧N=[]):=by
 refine Zl func117 rfl rfl<|Zd<|JAn rfl<|Zd<|JAn rfl<|ZE (iv 0) [] Sub.nil (?_)
 exact ⟨rfl,rfl⟩
theorem Ln:∀ (m:Int) (t:Tm) (cs:List Value) (H:Heap),RT H cs t→sizeT t≤1000000→RD (Vw m) t→CT prog 116 ⟨[.agg ⟨cs⟩]⟩ [] H (fun v N=>∃ cs k,v=.agg ⟨cs⟩∧N=[k]∧OT (blP t) cs k):=by
 intro m t cs H ht hz hq
 refine Zl func116 rfl rfl<|Zd<|JLr (Zr (l:=cs) rfl rfl fun b1=>JLr (Zk (l:=pkT 0 0 zS nS nS) zeroValue51 rfl fun b2=>Za<|Zd<|JLr (Zn Zu rfl (ZcK 1 rfl) (Zx (Zy ht))<|Jc call98 rfl (fun hin=>UF (fun _=>(0:Int)) m (fun _ _ _=>by unfold inI;omega) _ [] [] call117 t _ _ (RT.mono (Hle.hu _ _) ht) hz hq (fun n h _ _ _=>DB n h)) rfl ?_)))
 rintro _ _ ⟨cs3,k3,rfl,rfl,hO3⟩
 refine JLr (Zb 1 (vs:=cs3) (l:=cs3) Zu rfl rfl rfl rfl hO3.len hO3.ok (ZY (n:=36) rfl hO3.len)<|Za<|Zz<|⟨.agg ⟨cs3⟩,[k3],Ret.one rfl (RV.cell Zu rfl (ZcK 1 rfl) (Zx hO3.len)),(Sk Sub.nil),?_⟩)
 exact ⟨_,_,rfl,rfl,hO3⟩
theorem HE:∀ (m:Int) (t u:Tm) (cs us:List Value) (bB:Nat) (H:Heap),RT H cs t→RT H us u→sizeT t≤1000000→sizeT u≤1000000→RD (Vw m) t→RD (Vw m) u→H bB=some (.cells ⟨[.func (.func 116) ⟨[]⟩ ⟨[]⟩]⟩ 52 (0,0))→CT prog 119 ⟨[.agg ⟨cs⟩,.agg ⟨us⟩,pp bB 0]⟩ [] H (fun v N=>v=.bool (decide (blP t=blP u))∧N=[]):=by
 intro m t u cs us bB H ht hu hz hzu hq hqu hB
 refine Zl func119 rfl rfl<|Zd<|JLr (Zr (l:=cs) rfl rfl fun b1=>JLr (Zr (l:=us) rfl rfl fun b2=>JAn rfl<|Zg<|ZM mixed #[0,0,3,0,0,31,63,127] 5 (sm 6 5) [] [(2,fun _ _ vw qw=>∃ cs k,vw=.agg ⟨cs⟩∧qw=[k]∧OT (blP t) cs k)] rfl (by kernel_rfl) rfl (by kernel_rfl)<|Dl1 LK (ZcN hB) rfl<|Dl Zu (ZcK 1 rfl) (Zx (Zy ht))<|Dc rfl call116 (fun _=>rfl) (fun hin=>Ln m _ _ _ (RT.mono (Hle.hu _ _) ht) (by assumption) (by assumption)) ?_))
 rintro _ _ ⟨cs4,k4,rfl,rfl,hO4⟩
 refine Dl1 LK (ZcN hB) rfl<|Dl Zu (ZcK 0 rfl) (Zx (Zy hu))<|ZX (M':=[k4,(BX b2 us 51),(BX b1 cs 51)]) rfl ?_
 show JL _ _ _ [_,_,_] _ _ _
 refine Jc call116 rfl (fun hin=>Ln m _ _ _ (RT.mono (Hle.hu _ _) hu) (by assumption) (by assumption)) rfl ?_
 rintro _ _ ⟨cs5,k5,rfl,rfl,hO5⟩
 refine Jc call120 rfl (fun hin=>GJ _ _ _ _ _ (hO4.rd (hin 1 _ rfl)) (hO5.rd (hin 0 _ rfl))) rfl ?_
 rintro _ _ ⟨rfl,rfl⟩
 refine JAn rfl<|ZE (.bool (decide (blP t=blP u))) [] Sub.nil (?_)
 exact ⟨rfl,rfl⟩
end
theorem LN {B:Nat} {l:List Tm} (h:∀ t∈l,sizeT t≤B):sizeTs l≤l.length*B:=by
  induction l with
  | nil=>simp [sizeTs]
  | cons t l ih=>
    have a:=h t mem_cons_self
    have b:=ih fun u hu=>h u (mem_cons_of_mem _ hu)
    rw [sizeTs,length_cons,Nat.add_mul];omega
theorem okG.szs {l:List Tm} (h:okG l):sizeTs l≤400000:=by
  have a:=LN (B:=300) fun t ht=>h.sz ht
  have b:=h.hi
  have:l.length*300≤8*300:=Nat.mul_le_mul_right _ b
  omega
theorem Sn {l:List Tm} (h:okG l) {i:Nat} (hi:i<l.length):RD (Vw l.length) l[i]:=RA 0 _ (checkR_iff.1 (h.ck _ (getElem_mem hi))).2
theorem E3 {l:List Tm} (h:okG l) {i:Nat} (hi:i<l.length):blP (atL l i)=YJ l.length (atL l i):=by
  unfold YJ;exact ZaQ (checkR_iff.1 (h.ck _ (XM hi))).2
theorem Hf {l:List Tm} (h:okG l):fsB (fun i j=>decide (blP (atL l i)=blP (atL l j))) l.length=rnI l 0:=Ot fun i hi j hj=>by
  unfold rnB;rw [Bool.eq_iff_iff];simp only [decide_eq_true_eq];rw [E3 h hi,E3 h hj];exact Iff.rfl
theorem ZaC {ws:List Int} {i j:Nat} (hi:i<(ws.map fun w=>(w,(0:Int))).length) (hj:j<(ws.map fun w=>(w,(0:Int))).length):decide ((ws.map fun w=>(w,(0:Int)))[i]=(ws.map fun w=>(w,(0:Int)))[j])=decide (ws.getD i 0=ws.getD j 0):=by
  rw [length_map] at hi hj
  rw [getElem_map,getElem_map,YO (z:=0) hi,YO (z:=0) hj,Bool.eq_iff_iff,decide_eq_true_eq,decide_eq_true_eq]
  exact ⟨fun e=>(Prod.mk.inj e).1,fun e=>by rw [e]⟩
theorem AE {l:List Tm} (h:okG l) {i:Nat} (hi:i<l.length):sfP (atL l i)=sfR (atL l i):=O2 (h.ck _ (XM hi))
theorem Zbk (l:List Tm) (i:Nat):sizeTs (l.take i)+(sfP (atL l i)).length≤sizeTs (l.take (i+1)):=by
  rcases Nat.lt_or_ge i l.length with hi | hi
  · have a:=Qb (atL l i)
    rw [YK hi] at a ⊢
    have key:∀ (l:List Tm) (i:Nat) (hi:i<l.length),sizeTs (l.take (i+1))=sizeTs (l.take i)+sizeT l[i]:=by
      intro l
      induction l with
      | nil=>intro i hi;exact absurd hi (by simp)
      | cons t l ih=>
        intro i hi
        cases i with
        | zero=>simp [sizeTs]
        | succ i=>simp only [take_succ_cons,sizeTs,getElem_cons_succ];have:=ih i (by simpa using hi);omega
    have:=key l i hi;omega
  · rw [Rz hi,take_of_length_le hi,take_of_length_le (by omega)]
    have:sfP dT=[]:=by rfl
    rw [this];simp
theorem AD {l:List Tm} (h:okG l) {i:Nat} (hi:i<l.length) {x:Int} (hx:x∈sfP l[i]):0≤x∧x<(l.length:Int):=by
  rw [O2 (h.ck _ (getElem_mem hi))] at hx
  exact h.ok _ (getElem_mem hi) x hx
theorem ZaX {N:Int} {out:List Int} {K:List (Int×Int)} {a n:Int} (h:(a,out.getD n.toNat 0+1)∈K):Uy N out (K,a) n=(K,if (a,out.getD n.toNat 0+1)∈K then Uo N K (a,out.getD n.toNat 0+1) else 0):=by
  rw [Is h,if_pos h]
theorem ZcJ {N:Int} {out:List Int} {l:List Tm} {j p:Nat} {K:List (Int×Int)} {ws:List Int} (hkw:W7 N out (fun i=>sfP (atL l i)) j=(K,ws)) (hj:j<l.length) (hlo:out.length=l.length) {m:List (Int×Int)×Int} (hm:m=V8 N out (K,out[j]) ((sfP l[j]).take p)) (hp:(sfP l[j]).length≤p):
    W7 N out (fun i=>sfP (atL l i)) (j+1)=(m.1,ws++[m.2]):=by
  subst hm
  rw [W7,hkw,take_of_length_le hp,YK hj,YO (z:=0) (show j<out.length by omega)]
theorem ZaY {l:List Tm} (h:okG l) {n j:Nat} {K:List (Int×Int)} {ws:List Int} (hkw:W7 (l.length:Int) (rnI l n) (fun i=>sfP (atL l i)) j=(K,ws)) (hj:j=l.length):
    fsB (fun i j=>decide (ws.getD i 0=ws.getD j 0)) (ws.map fun w=>(w,(0:Int))).length=rnI l (n+1):=by
  subst hj
  have e:ws=(W7 (l.length:Int) (rnI l n) (fun i=>sfP (atL l i)) l.length).2:=by rw [hkw]
  rw [length_map,e,VV,KR h.ok n fun i hi=>AE h hi]
def RII (h:Heap) (cs:List Value) (l:List Int):Prop:=∃ v,cs=[v]∧Hs.rdS RI 1 h v l
theorem RII.mono {h h':Heap} (hh:Hle h h') {cs:List Value} {l:List Int} (q:RII h cs l):RII h' cs l:=by obtain ⟨v,e,r⟩:=q;exact ⟨v,e,RIs.mono hh r⟩
theorem RIIs.mono {h h':Heap} (hh:Hle h h') {v:Value} {ll:List (List Int)} (q:Hs.rdS RII 1 h v ll):Hs.rdS RII 1 h' v ll:=rdS.mono q hh fun _ _ _ q=>RII.mono hh q
def OIIs:List (List Int)→List (List Value)→Zf→Prop
  | [],es,c=>es=[]∧c=[]
  | l::ll,es,c=>∃ u k es' k',es=[u]::es'∧Own 3 1 u (Z2 l) k∧OIIs ll es' k'∧c=k++k'∧l.length≤1000000
theorem S2 {ll:List (List Int)}:∀ {es:List (List Value)} {c:Zf},OIIs ll es c→es.length=ll.length:=by
  induction ll with
  | nil=>rintro es c ⟨rfl,_⟩;rfl
  | cons l ll ih=>rintro es c ⟨u,k,es',k',rfl,_,h,_⟩;rw [length_cons,length_cons,ih h]
theorem OIIs.snoc {ll:List (List Int)} {l:List Int} {u:Value} {k:Zf} (ho:Own 3 1 u (Z2 l) k) (hl:l.length≤1000000):∀ {es:List (List Value)} {c:Zf},OIIs ll es c→OIIs (ll++[l]) (es++[[u]]) (c++k):=by
  induction ll with
  | nil=>rintro es c ⟨rfl,rfl⟩;exact ⟨u,k,[],[],rfl,ho,⟨rfl,rfl⟩,by simp,hl⟩
  | cons m ll ih=>
    rintro es c ⟨u',k1,es',k',rfl,h1,h2,rfl,h3⟩
    exact ⟨u',k1,_,_,rfl,h1,ih h2,by simp,h3⟩
theorem OIIs.at {ll:List (List Int)}:∀ {es:List (List Value)} {c:Zf} {h:Heap},OIIs ll es c→Has c h→∀ i (h1:i<es.length) (h2:i<ll.length),RII h es[i] ll[i]:=by
  induction ll with
  | nil=>intro es c h _ _ i _ h2;exact absurd h2 (by simp)
  | cons l ll ih=>
    rintro es c h ⟨u,k,es',k',rfl,ho,h2,rfl,hl⟩ hk i i1 i2
    cases i with
    | zero=>exact ⟨u,rfl,Yr ho (Nat.le_trans hl (by decide)) hk.left⟩
    | succ i=>exact ih h2 hk.right i (by simpa using i1) (by simpa using i2)
def OII (ll:List (List Int)) (v:Value) (c:Zf):Prop:=∃ es k1 k2,Own 45 1 v es k1∧OIIs ll es k2∧c=k1++k2∧ll.length≤1000000
theorem OII.mk {ll:List (List Int)} {v:Value} {es:List (List Value)} {k1 k2:Zf} (h:Own 45 1 v es k1) (h2:OIIs ll es k2) (hl:ll.length≤1000000):OII ll v (k1++k2):=⟨es,k1,k2,h,h2,rfl,hl⟩
theorem OII.one {ll:List (List Int)} {v:Value} {k:Zf} (h:OII ll v k):v.oneCell'=true:=by obtain ⟨_,_,_,h,_⟩:=h;exact h.one
theorem OII.rd {ll:List (List Int)} {v:Value} {k:Zf} {h:Heap} (o:OII ll v k) (hk:Has k h):Hs.rdS RII 1 h v ll:=by
  obtain ⟨es,k1,k2,h1,h2,rfl,hl⟩:=o
  exact h1.rdS (S2 h2).symm (by omega) hk.left fun i a b=>h2.at hk.right i a b
def clP (t:Tm):List Int:=Lib.compact ((sfP t).mergeSort fun x y=>decide (x≤y))
theorem Bs {t:Tm} {x:Int}:x∈clP t↔x∈sfP t:=by unfold clP;rw [ED,List.mem_mergeSort]
theorem J6 (t:Tm):(clP t).length≤(sfP t).length:=by
  unfold clP
  have:=Lib.compact_length_le ((sfP t).mergeSort fun x y=>decide (x≤y))
  rwa [List.length_mergeSort] at this
def Xu (l:List Tm):List (List Int):=l.map clP
theorem Wo (l:List Tm):(Xu l).length=l.length:=length_map ..
theorem J5 {l:List Tm} {j:Nat} (h:j<l.length):(Xu l)[j]'(by rw [Wo];exact h)=clP l[j]:=by simp [Xu]
theorem Hk {l:List Tm} {j:Nat} (h:j<l.length):(Xu l).take (j+1)=(Xu l).take j++[clP l[j]]:=by
  rw [take_succ_eq_append_getElem (by rw [Wo];exact h),J5 h]
theorem Zcd {v:Value} (hv:v.oneCell'=true):∀ w,(Instr.build 91 ⟨[(1,v)]⟩).run prog w=.ok (.agg ⟨[.slice none 0 0,.slice none 0 0,v,.nilFunc]⟩) w:=by
  refine ZT zeroValue91 runUnderlying91 Zcs ?_
  cases v <;> first | (cases hv;done) | kernel_rfl
section
variable {n:Nat} {b:List Int} {s:List Sm}
mutual
theorem QP:∀ (t u:Tm),Z8 (replicate n 0) [] t=Z8 (replicate n 0) [] u→(∀ x∈sfR t,0≤x∧x<(n:Int))→(∀ x∈sfR u,0≤x∧x<(n:Int))→(∀ x:Int,0≤x→x<(n:Int)→0≤b.getD x.toNat 0)→(sfR t).map (fun x=>b.getD x.toNat 0)=(sfR u).map (fun x=>b.getD x.toNat 0)→Z8 b s t=Z8 b s u
  | .mk k m r kids cases,.mk k' m' r' kids' cases',e,ht,hu,hb,he=>by
    have hz:∀ x:Int,¬ (replicate n (0:Int)).getD x.toNat 0<0:=fun x=>by
      rw [getD_eq_getElem?_getD,getElem?_replicate];split <;> simp
    rw [Z8,Z8,if_neg (hz _),if_neg (hz _)] at e
    rw [sfR,sfR] at he
    by_cases c:k=7
    · rw [if_pos c] at e he
      by_cases c':k'=7
      · rw [if_pos c'] at he
        simp only [map_cons,map_nil,List.cons.injEq,and_true] at he
        have h1:=ht m (by rw [sfR,if_pos c];simp)
        have h2:=hb m h1.1 h1.2
        rw [Z8,Z8,if_pos c,if_pos c',he,if_neg (by omega),if_neg (by omega)]
      · rw [if_neg c'] at e
        injection e with e1;exact absurd e1.symm c'
    · rw [if_neg c] at e he
      by_cases c':k'=7
      · rw [if_pos c'] at e
        injection e with e1;exact absurd e1 c
      · rw [if_neg c'] at e he
        injection e with e1 e2 e3 e4 e5
        subst e1 e2 e3
        rw [map_append,map_append] at he
        have ht1:∀ x∈Yl kids,0≤x∧x<(n:Int):=fun x hx=>ht x (by rw [sfR,if_neg c];exact mem_append.2 (.inl hx))
        have ht2:∀ x∈Yp cases,0≤x∧x<(n:Int):=fun x hx=>ht x (by rw [sfR,if_neg c];exact mem_append.2 (.inr hx))
        have hu1:∀ x∈Yl kids',0≤x∧x<(n:Int):=fun x hx=>hu x (by rw [sfR,if_neg c];exact mem_append.2 (.inl hx))
        have hu2:∀ x∈Yp cases',0≤x∧x<(n:Int):=fun x hx=>hu x (by rw [sfR,if_neg c];exact mem_append.2 (.inr hx))
        have hl:(Yl kids).length=(Yl kids').length:=by rw [← T3 n kids ht1,← T3 n kids' hu1,e4]
        obtain ⟨h1,h2⟩:=List.append_inj he (by simpa using hl)
        rw [Z8,Z8,if_neg c,if_neg c,P9 kids kids' e4 ht1 hu1 hb h1,Oa cases cases' e5 ht2 hu2 hb h2]
theorem P9:∀ (t u:List Tm),ZZ (replicate n 0) [] t=ZZ (replicate n 0) [] u→(∀ x∈Yl t,0≤x∧x<(n:Int))→(∀ x∈Yl u,0≤x∧x<(n:Int))→(∀ x:Int,0≤x→x<(n:Int)→0≤b.getD x.toNat 0)→(Yl t).map (fun x=>b.getD x.toNat 0)=(Yl u).map (fun x=>b.getD x.toNat 0)→ZZ b s t=ZZ b s u
  | [],[],_,_,_,_,_=>rfl
  | [],u::us,e,_,_,_,_=>by simp [ZZ] at e
  | t::ts,[],e,_,_,_,_=>by simp [ZZ] at e
  | t::ts,u::us,e,ht,hu,hb,he=>by
    rw [ZZ,ZZ] at e
    injection e with e1 e2
    rw [Yl,Yl,map_append,map_append] at he
    rw [Yl] at ht hu
    have ht1:∀ x∈sfR t,0≤x∧x<(n:Int):=fun x hx=>ht x (mem_append.2 (.inl hx))
    have hu1:∀ x∈sfR u,0≤x∧x<(n:Int):=fun x hx=>hu x (mem_append.2 (.inl hx))
    have hl:(sfR t).length=(sfR u).length:=by rw [← Vb n t ht1,← Vb n u hu1];unfold YJ;rw [e1]
    obtain ⟨h1,h2⟩:=List.append_inj he (by simpa using hl)
    rw [ZZ,ZZ,QP t u e1 ht1 hu1 hb h1,P9 ts us e2 (fun x hx=>ht x (mem_append.2 (.inr hx))) (fun x hx=>hu x (mem_append.2 (.inr hx))) hb h2]
theorem Oa:∀ (t u:List (Pt×Tm)),ZW (replicate n 0) [] t=ZW (replicate n 0) [] u→(∀ x∈Yp t,0≤x∧x<(n:Int))→(∀ x∈Yp u,0≤x∧x<(n:Int))→(∀ x:Int,0≤x→x<(n:Int)→0≤b.getD x.toNat 0)→(Yp t).map (fun x=>b.getD x.toNat 0)=(Yp u).map (fun x=>b.getD x.toNat 0)→ZW b s t=ZW b s u
  | [],[],_,_,_,_,_=>rfl
  | [],u::us,e,_,_,_,_=>by simp [ZW] at e
  | t::ts,[],e,_,_,_,_=>by simp [ZW] at e
  | (p,t)::ts,(q,u)::us,e,ht,hu,hb,he=>by
    rw [ZW,ZW] at e
    injection e with e1 e2
    injection e1 with e0 e1
    simp only at e0 e1
    rw [Yp,Yp,map_append,map_append] at he
    rw [Yp] at ht hu
    have ht1:∀ x∈sfR t,0≤x∧x<(n:Int):=fun x hx=>ht x (mem_append.2 (.inl hx))
    have hu1:∀ x∈sfR u,0≤x∧x<(n:Int):=fun x hx=>hu x (mem_append.2 (.inl hx))
    have hl:(sfR t).length=(sfR u).length:=by rw [← Vb n t ht1,← Vb n u hu1];unfold YJ;rw [e1]
    obtain ⟨h1,h2⟩:=List.append_inj he (by simpa using hl)
    rw [ZW,ZW]
    simp only
    rw [e0,QP t u e1 ht1 hu1 hb h1,Oa ts us e2 (fun x hx=>ht x (mem_append.2 (.inr hx))) (fun x hx=>hu x (mem_append.2 (.inr hx))) hb h2]
end
end
theorem GG {α:Type} {l:List α} {x y:α}:(l++[x]).set l.length y=l++[y]:=by rw [List.set_append_right _ _ (Nat.le_refl _),Nat.sub_self];rfl
noncomputable def frF (l:List Tm) (n:Int):Int:=(frI l).getD n.toNat 0
theorem Rs {l:List Tm} {n:Int} (h0:0≤n) (h1:n<(l.length:Int)):0≤frF l n∧frF l n<(l.length:Int):=by
  unfold frF;rw [Xs h0 h1]
  have:=Ya (l:=l) (i:=n.toNat) (by omega)
  omega
theorem Af {l:List Tm} (h:okG l) {i:Nat} (hi:i<l.length) (hf:firstN l i<l.length):mpT (nmD (frF l)) l[firstN l i]=Z8 (frI l) [] l[i]:=by
  have hr:∀ t∈l,mpT (nmD (frF l)) t=Z8 (frI l) [] t:=fun t ht=>Tb (Ju fun x h0 h1=>⟨rfl,(Rs h0 h1).1⟩) 0 t (checkR_iff.1 (h.ck t ht)).2
  rw [hr _ (getElem_mem _)]
  have hb:=Y6 hi
  have e0:=Uf hb
  unfold e0L YJ at e0
  rw [YK hi,YK hf] at e0
  refine (QP _ _ e0 (h.ok _ (getElem_mem _)) (h.ok _ (getElem_mem _)) (fun x h0 h1=>(Rs h0 h1).1) ?_).symm
  have hl:=Wf h.ok (Uf hb)
  unfold sL at hl
  rw [O3,O3,YK hi,YK hf] at hl
  refine ext_getElem (by simpa using hl) fun k h1 h2=>?_
  rw [getElem_map,getElem_map]
  have k1:k<(sfR l[i]).length:=by simpa using h1
  have k2:k<(sfR l[firstN l i]).length:=by simpa using h2
  have a1:=h.ok _ (getElem_mem hi) _ (getElem_mem k1)
  have a2:=h.ok _ (getElem_mem hf) _ (getElem_mem k2)
  rw [Xs a1.1 a1.2,Xs a2.1 a2.2]
  have st:=SU hb (k:=k) (by unfold sL;rw [O3,YK hi];exact k1)
  have g:∀ (j:Nat) (hj:j<l.length) (kj:k<(sfR l[j]).length),(sL l j).getD k 0=((sfR l[j])[k]).toNat:=fun j hj kj=>by
    unfold sL sfN;rw [YK hj,getD_eq_getElem?_getD,getElem?_map,getElem?_eq_getElem kj];rfl
  rw [g i hi k1,g _ hf k2] at st
  exact congrArg Int.ofNat ((Wc h.ok (by omega) (by omega)).2 st)
def GO (l:List Tm) (vm vc vf:Value) (k:Zf):Prop:=∃ k1 k2 k3,OL (mkL l) vm k1∧OII (Xu (mkL l)) vc k2∧Own 3 1 vf (Z2 (frI l)) k3∧k=k1++(k2++k3)
structure GR (h:Heap) (l:List Tm) (vm vc vf:Value):Prop where
  m:Hs.rdS RT 36 h vm (mkL l)
  c:Hs.rdS RII 1 h vc (Xu (mkL l))
  f:Hs.rdS RI 1 h vf (frI l)
theorem GR.mono {h h':Heap} {l:List Tm} {vm vc vf:Value} (hh:Hle h h') (g:GR h l vm vc vf):GR h' l vm vc vf:=⟨RTs.mono hh g.m,RIIs.mono hh g.c,RIs.mono hh g.f⟩
theorem GO.rd {h:Heap} {l:List Tm} {vm vc vf:Value} {k:Zf} (g:GO l vm vc vf k) (hl:l.length≤8) (hk:Has k h):GR h l vm vc vf:=by
  obtain ⟨k1,k2,k3,h1,h2,h3,rfl⟩:=g
  exact ⟨h1.rd hk.left,h2.rd hk.right.left,Yr h3 (by rw [Yy];omega) hk.right.right⟩
theorem GO.one {l:List Tm} {vm vc vf:Value} {k:Zf} (g:GO l vm vc vf k):vm.oneCell'=true∧vc.oneCell'=true∧vf.oneCell'=true:=by
  obtain ⟨k1,k2,k3,h1,h2,h3,rfl⟩:=g
  exact ⟨h1.one,h2.one,h3.one⟩
section
def Xm:List Bool→Nat
  | []=>0
  | b::l=>(if b then 0 else 1)+Xm l
theorem S7 {l:List Bool}:∀ {k:Nat},k<l.length→l.getD k false=false→Xm (l.set k true)+1=Xm l:=by
  induction l with
  | nil=>intro k h;exact absurd h (by simp)
  | cons b l ih=>
    intro k h e
    cases k with
    | zero=>simp at e;subst e;simp [Xm];omega
    | succ k=>
      have:=ih (k:=k) (by simpa using h) (by simpa using e)
      simp only [set_cons_succ,Xm];omega
section
variable (c:Nat→List Int)
def wkF:Nat→Nat→List Bool→List Bool
  | 0,_,fl=>fl
  | f+1,n,fl=>(c n).foldl (fun fl k=>if fl.getD k.toNat false=true then fl else wkF f k.toNat (fl.set k.toNat true)) fl
def wkS (f:Nat) (ks:List Int) (fl:List Bool):List Bool:=ks.foldl (fun fl k=>if fl.getD k.toNat false=true then fl else wkF c f k.toNat (fl.set k.toNat true)) fl
end
variable {c:Nat→List Int}
theorem HW (f n:Nat) (fl:List Bool):wkF c (f+1) n fl=wkS c f (c n) fl:=rfl
theorem NZ (f:Nat) (x:Int) (ks:List Int) (fl:List Bool):wkS c f (x::ks) fl=wkS c f ks (if fl.getD x.toNat false=true then fl else wkF c f x.toNat (fl.set x.toNat true)):=rfl
theorem NY (f:Nat) (ks:List Int) (fl:List Bool) {j:Nat} (h:j<ks.length):wkS c f (ks.take (j+1)) fl=if (wkS c f (ks.take j) fl).getD (ks[j]).toNat false=true then wkS c f (ks.take j) fl else wkF c f (ks[j]).toNat ((wkS c f (ks.take j) fl).set (ks[j]).toNat true):=by
  unfold wkS;rw [take_succ_eq_append_getElem h,List.foldl_append];rfl
structure WkP (c:Nat→List Int) (src:Nat→Prop) (todo:List Int) (fl fl':List Bool):Prop where
  len:fl'.length=fl.length
  mono:∀ k,fl.getD k false=true→fl'.getD k false=true
  un:Xm fl'≤Xm fl
  snd:∀ k,fl'.getD k false=true→fl.getD k false=true∨src k
  all:∀ x∈todo,fl'.getD x.toNat false=true
  cl:∀ k,fl'.getD k false=true→fl.getD k false=false→∀ x∈c k,fl'.getD x.toNat false=true
theorem Vn {l:List Bool} {k:Nat} (h:k<l.length) (a:Nat):(l.set k true).getD a false=if a=k then true else l.getD a false:=by
  rw [getD_eq_getElem?_getD,List.getElem?_set]
  by_cases e:k=a
  · subst e;rw [if_pos rfl,if_pos rfl,if_pos h];rfl
  · rw [if_neg e,if_neg (fun x=>e x.symm),getD_eq_getElem?_getD]
theorem B1 {N :Nat} {R:Nat→Nat→Prop} (hc:∀ n,∀ x∈c n,0≤x∧x.toNat<N) (h1:∀ i,∀ x∈c i,R i x.toNat) (h2:∀ i j k,R i j→R j k→R i k):∀ (f:Nat),
    (∀ (n:Nat) (fl:List Bool),fl.length=N→Xm fl<f→WkP c (R n) (c n) fl (wkF c f n fl))∧
    (∀ (n:Nat) (ks:List Int) (fl:List Bool),(∀ x∈ks,x∈c n)→fl.length=N→Xm fl≤f→WkP c (R n) ks fl (wkS c f ks fl)):=by
  intro f
  induction f with
  | zero =>
    refine ⟨fun n fl _ h=>absurd h (by omega),fun n ks fl hks hl hu=>?_⟩
    have full:∀ (l:List Bool),Xm l≤0→∀ k,k<l.length→l.getD k false=true:=by
      intro l
      induction l with
      | nil=>intro _ k hk;exact absurd hk (by simp)
      | cons b l ih=>
        intro hu k hk
        unfold Xm at hu
        cases b with
        | false=>exact absurd hu (by simp)
        | true=>
          cases k with
          | zero=>rfl
          | succ k=>simpa using ih (by simpa using hu) k (by simpa using hk)
    have e:∀ (ks:List Int),(∀ x∈ks,x∈c n)→wkS c 0 ks fl=fl:=by
      intro ks
      induction ks with
      | nil=>intro _;rfl
      | cons x ks ih=>
        intro hks
        rw [NZ,if_pos (full fl hu _ (by rw [hl];exact (hc n x (hks x mem_cons_self)).2))]
        exact ih fun y hy=>hks y (mem_cons_of_mem _ hy)
    rw [e ks hks]
    exact ⟨rfl,fun _ h=>h,Nat.le_refl _,fun _ h=>.inl h,fun x hx=>full fl hu _ (by rw [hl];exact (hc n x (hks x hx)).2),fun k h h'=>by rw [h] at h';cases h'⟩
  | succ f ih =>
    have A:∀ (n:Nat) (fl:List Bool),fl.length=N→Xm fl<f+1→WkP c (R n) (c n) fl (wkF c (f+1) n fl):=fun n fl hl hu=>by
      rw [HW];exact ih.2 n (c n) fl (fun _ h=>h) hl (by omega)
    refine ⟨A,fun n ks=>?_⟩
    induction ks with
    | nil=>intro fl _ _ _;exact ⟨rfl,fun _ h=>h,Nat.le_refl _,fun _ h=>.inl h,fun x hx=>absurd hx (by simp),fun k h h'=>by rw [show wkS c (f+1) [] fl=fl from rfl,h'] at h;cases h⟩
    | cons x ks ihk=>
      intro fl hks hl hu
      have hx:=hc n x (hks x mem_cons_self)
      have hks':∀ y∈ks,y∈c n:=fun y hy=>hks y (mem_cons_of_mem _ hy)
      rw [NZ]
      by_cases e:fl.getD x.toNat false=true
      · rw [if_pos e]
        have r:=ihk fl hks' hl hu
        refine ⟨r.len,r.mono,r.un,r.snd,fun y hy=>?_,r.cl⟩
        rcases mem_cons.1 hy with rfl | hy
        · exact r.mono _ e
        · exact r.all y hy
      · rw [if_neg e]
        have e':fl.getD x.toNat false=false:=by simpa using e
        have hus:=S7 (by rw [hl];exact hx.2) e'
        have hg:=Vn (l:=fl) (k:=x.toNat) (by rw [hl];exact hx.2)
        have a:=A x.toNat (fl.set x.toNat true) (by rw [length_set];exact hl) (by omega)
        have r:=ihk (wkF c (f+1) x.toNat (fl.set x.toNat true)) hks' (by rw [a.len,length_set];exact hl) (by have:=a.un;omega)
        have ax:(wkF c (f+1) x.toNat (fl.set x.toNat true)).getD x.toNat false=true:=a.mono _ (by rw [hg,if_pos rfl])
        refine ⟨by rw [r.len,a.len,length_set],fun k hk=>r.mono k (a.mono k (by rw [hg];split;rfl;exact hk)),by have:=r.un;have:=a.un;omega,fun k hk=>?_,fun y hy=>?_,fun k hk hk' y hy=>?_⟩
        · rcases r.snd k hk with h | h
          · rcases a.snd k h with h | h
            · rw [hg] at h
              by_cases q:k=x.toNat
              · exact .inr (q▸h1 n x (hks x mem_cons_self))
              · rw [if_neg q] at h;exact .inl h
            · exact .inr (h2 _ _ _ (h1 n x (hks x mem_cons_self)) h)
          · exact .inr h
        · rcases mem_cons.1 hy with rfl | hy
          · exact r.mono _ ax
          · exact r.all y hy
        · by_cases q:(wkF c (f+1) x.toNat (fl.set x.toNat true)).getD k false=true
          · refine r.mono _ ?_
            by_cases q2:k=x.toNat
            · subst q2;exact a.all y hy
            · exact a.cl k q (by rw [hg,if_neg q2];exact hk') y hy
          · exact r.cl k hk (by simpa using q) y hy
def clG (m:List Tm) (i:Nat):List Int:=(Xu m).getD i []
theorem ZaE {m:List Tm} {i:Nat} (h:i<m.length):clG m i=clP m[i]:=by
  unfold clG Xu;rw [getD_eq_getElem?_getD,getElem?_map,getElem?_eq_getElem h];rfl
theorem ZaD {m:List Tm} {i:Nat} (h:m.length≤i):clG m i=[]:=by
  unfold clG Xu;rw [getD_eq_getElem?_getD,getElem?_map,getElem?_eq_none h];rfl
theorem Qn {m:List Tm} (h:okG m) {i:Nat} {x:Int}:x∈clG m i↔x∈sfR (atL m i):=by
  rcases Nat.lt_or_ge i m.length with hi | hi
  · rw [ZaE hi,Bs,YK hi,O2 (h.ck _ (getElem_mem hi))]
  · rw [ZaD hi,Rz hi];simp [dT,sfR,Yl,Yp]
theorem TR {m:List Tm} (h:okG m) {i:Nat} {x:Int} (hx:x∈clG m i):0≤x∧x<(m.length:Int):=h.ok.at i x ((Qn h).1 hx)
theorem Px {m:List Tm} (h:okG m) {i j:Nat}:j∈cdG (cdL m) i↔(j:Int)∈clG m i:=by
  rw [Qn h]
  have key:∀ t:Tm,(∀ x∈sfR t,0≤x)→(j∈sfN t↔(j:Int)∈sfR t):=fun t ht=>by
    unfold sfN
    rw [mem_map]
    constructor
    · rintro ⟨y,hy,rfl⟩
      have:=ht y hy
      rwa [Int.toNat_of_nonneg this]
    · intro hj;exact ⟨_,hj,by simp⟩
  rcases Nat.lt_or_ge i m.length with hi | hi
  · rw [US hi,YK hi]
    exact key _ fun x hx=>(h.ok _ (getElem_mem hi) x hx).1
  · have:cdG (cdL m) i=[]:=by unfold cdG cdL;rw [getD_eq_getElem?_getD,getElem?_map,getElem?_eq_none hi];rfl
    rw [this,Rz hi];simp [dT,sfR,Yl,Yp]
def rcF (m:List Tm) (n:Nat):List Bool:=(range 8).map fun k=>rcB (cdL m) m.length n k
theorem XK (m:List Tm) (n:Nat):(rcF m n).length=8:=by simp [rcF]
theorem U4 {m:List Tm} {n k:Nat} (h:k<8):(rcF m n).getD k false=rcB (cdL m) m.length n k:=by
  unfold rcF;rw [getD_eq_getElem?_getD,getElem?_map,List.getElem?_range h];rfl
theorem Qw {m:List Tm} (h:okG m) (n:Nat):wkF (clG m) 9 n (replicate 8 false)=rcF m n:=by
  have r:=(B1 (c:=clG m) (N:=8) (R:=fun i j=>rcB (cdL m) m.length i j=true) (fun n x hx=>by have:=TR h hx;have:=h.hi;omega)
    (fun i x hx=>XL ((Px h).2 (by have:=TR h hx;rwa [Int.toNat_of_nonneg this.1]))) (fun i j k a b=>Z9 (XS h.ok) a b) 9).1 n (replicate 8 false) (by simp) (by decide)
  have hl:=r.len
  rw [length_replicate] at hl
  have g:∀ k,k<8→(wkF (clG m) 9 n (replicate 8 false)).getD k false=(rcF m n).getD k false:=fun k hk=>by
    rw [U4 hk,Bool.eq_iff_iff]
    have hf:∀ a,(replicate 8 false).getD a false=false:=fun a=>by rw [getD_eq_getElem?_getD,getElem?_replicate];split <;> rfl
    constructor
    · intro e
      rcases r.snd k e with q | q
      · rw [hf] at q;cases q
      · exact q
    · intro e
      have:=XU (R:=fun i j=>j∈cdG (cdL m) i) (T:=fun i j=>(i=n∨(wkF (clG m) 9 n (replicate 8 false)).getD i false=true)→(wkF (clG m) 9 n (replicate 8 false)).getD j false=true)
        (fun i j hij hi=>by
          have hij:=(Px h).1 hij
          rcases hi with rfl | hi
          · simpa using r.all _ hij
          · simpa using r.cl i hi (hf i) _ hij) (fun i j k a b hi=>b (.inr (a hi))) (rcB_iff.1 e)
      exact this (.inl rfl)
  refine ext_getElem (by rw [hl,XK]) fun k h1 h2=>?_
  have hk:k<8:=by rw [hl] at h1;exact h1
  have:=g k hk
  rwa [getD_eq_getElem?_getD,getElem?_eq_getElem h1,getD_eq_getElem?_getD,getElem?_eq_getElem h2,Option.getD_some,Option.getD_some] at this
theorem DC {f n:Nat} {fl:List Bool} (h:0<f):wkF c f n fl=wkS c (f-1) (c n) fl:=by
  obtain ⟨f,rfl⟩:∃ g,f=g+1:=⟨f-1,by omega⟩
  rfl
theorem Au {m:List Tm} (h:okG m) (f:Nat):(∀ (n:Nat) (fl:List Bool),fl.length=8→Xm fl<f→WkP (clG m) (fun j=>rcB (cdL m) m.length n j=true) (clG m n) fl (wkF (clG m) f n fl))∧
    (∀ (n:Nat) (ks:List Int) (fl:List Bool),(∀ x∈ks,x∈clG m n)→fl.length=8→Xm fl≤f→WkP (clG m) (fun j=>rcB (cdL m) m.length n j=true) ks fl (wkS (clG m) f ks fl)):=
  B1 (c:=clG m) (N:=8) (R:=fun i j=>rcB (cdL m) m.length i j=true) (fun n x hx=>by have:=TR h hx;have:=h.hi;omega)
    (fun i x hx=>XL ((Px h).2 (by have:=TR h hx;rwa [Int.toNat_of_nonneg this.1]))) (fun i j k a b=>Z9 (XS h.ok) a b) f
theorem CP {m:List Tm} (h:okG m) {i:Nat} (hi:i<m.length):((Xu m)[i]'(by rw [Wo];exact hi)).length≤1000000:=by
  rw [J5 hi]
  have a:=J6 m[i]
  have b:=Qb m[i]
  have c:=h.sz (getElem_mem hi)
  omega
def tgB (m:List Tm) (a b:Nat):Bool:=decide (a=b)||(decide (rcF m a=rcF m b)&&(rcF m a).getD a false&&(rcF m a).getD b false)
noncomputable def ptTo (l:List Tm) (n j:Nat):List Int:=((range j).filter fun k=>decide (firstN l k=k)&&tgB (mkL l) n k).map Int.ofNat
noncomputable def ptI (l:List Tm) (n:Nat):List Int:=ptTo l n l.length
theorem U5 (l:List Tm) (n j:Nat):ptTo l n (j+1)=ptTo l n j++(if decide (firstN l j=j)&&tgB (mkL l) n j then [(j:Int)] else []):=by
  unfold ptTo
  rw [range_succ,filter_append,map_append,filter_cons]
  congr 1
  split <;> simp
theorem QU (l:List Tm) (n j:Nat):(ptTo l n j).length≤j:=by
  unfold ptTo
  rw [length_map]
  have:=length_filter_le (fun k=>decide (firstN l k=k)&&tgB (mkL l) n k) (range j)
  rwa [length_range] at this
theorem V4 {l:List Tm} {n:Nat} {x:Int}:x∈ptI l n↔0≤x∧x<(l.length:Int)∧firstN l x.toNat=x.toNat∧tgB (mkL l) n x.toNat=true:=by
  unfold ptI ptTo
  rw [mem_map]
  constructor
  · rintro ⟨k,hk,rfl⟩
    rw [mem_filter,mem_range] at hk
    simp only [Bool.and_eq_true,decide_eq_true_eq] at hk
    exact ⟨by simp,by simpa using hk.1,by simpa using hk.2.1,by simpa using hk.2.2⟩
  · rintro ⟨h0,h1,h2,h3⟩
    exact ⟨x.toNat,by rw [mem_filter,mem_range];exact ⟨by omega,by simp [h2,h3]⟩,by simp [Int.toNat_of_nonneg h0]⟩
end
theorem EZ (l:List Bool):okc (bls l):=fun v hv=>by
  unfold bls at hv
  obtain ⟨x,_,rfl⟩:=mem_map.1 hv
  rfl
theorem E0 {l:List Bool} {i:Nat} (h:i<l.length):(bls l)[i]?=some (.bool (l.getD i false)):=by
  have:=X2 h
  rwa [Nat.zero_add,Nat.mul_one] at this
theorem Ho {n:Nat} {xs ys:List Bool} (hx:xs.length=n) (hy:ys.length=n):((List.range' 0 n).all fun i=>xs.getD i false==ys.getD i false)=decide (xs=ys):=by
  rw [← List.range_eq_range',Bool.eq_iff_iff,all_eq_true,decide_eq_true_eq]
  constructor
  · intro h
    refine ext_getElem (by omega) fun i h1 h2=>?_
    have:=h i (mem_range.2 (by omega))
    rw [getD_eq_getElem?_getD,getElem?_eq_getElem h1,getD_eq_getElem?_getD,getElem?_eq_getElem h2] at this
    simpa using this
  · rintro rfl i _;simp
theorem R5 {P:Program} {T E:TypeId} {n:Nat} (d:Nat) (w:World) (hT:P.underlying T=some (.array n E)) (hE:P.underlying E=some .bool) (hsz:∀ w,(Go.sizeOf E).run P w=.ok 1 w) {xs ys:List Bool} (hx:xs.length=n) (hy:ys.length=n):
    (Op.equalIn (d+2) T (.agg ⟨bls xs⟩) (.agg ⟨bls ys⟩)).run P w=.ok (decide (xs=ys)) w:=by
  have Qd:∀ (l:List Bool) (i:Nat),i<l.length→(part E ⟨bls l⟩ (i*1)).run P w=.ok (.bool (l.getD i false)) w:=fun l i hi=>by
    have:=X2 hi
    rw [Nat.zero_add,Nat.mul_one] at this
    have e:(⟨bls l⟩:Array Value)[i]?=some (.bool (l.getD i false)):=by simpa using this
    simp only [part,isAgg,run_underlying hE,Sem.run_bind,Result.andThen_ok,Nat.mul_one]
    simp [e]
  have eq_at:∀ x y:Bool,(Op.equalIn (d+1) E (.bool x) (.bool y)).run P w=.ok (x==y) w:=fun x y=>Vx d w (fun _=>run_underlying hE _)
  rw [← Ho hx hy,Op.equalIn]
  simp only [Sem.run_bind,run_underlying hT,Result.andThen_ok,hsz,Std.Legacy.Range.forIn_eq_forIn_range',Std.Legacy.Range.size,Nat.sub_zero,Nat.add_sub_cancel,Nat.div_one]
  have small:∀ i∈List.range' 0 n 1,i<n:=fun i hi=>by have:=(List.mem_range'_1.1 hi).2;omega
  generalize List.range' 0 n 1=is at small ⊢
  induction is with
  | nil=>simp
  | cons i is ih=>
    have hi:=small i mem_cons_self
    simp only [List.forIn_cons,Sem.run_bind,Qd xs i (by omega),Qd ys i (by omega),eq_at,Result.andThen_ok,List.all_cons]
    by_cases q:xs.getD i false=ys.getD i false
    · rw [q]
      simp only [beq_self_eq_true,Bool.not_true,Bool.false_eq_true,if_false,Sem.run_pure,Result.andThen_ok,Bool.true_and]
      exact ih fun j hj=>small j (mem_cons_of_mem _ hj)
    · have:(xs.getD i false==ys.getD i false)=false:=by simpa using q
      rw [this];simp
theorem HL {P:Program} {e:Operand→Value} {d:Option Nat} {ot:TypeId} {pos:String} {af:Array Edge} {g:Option (Nat×Bool)} {T T' E:TypeId} {x y:Operand} {n:Nat} (hm:P.eqGuardType P.depth T=false) (hT:P.underlying T=some (.array n E)) (hE:P.underlying E=some .bool) (hsz:∀ w,(Go.sizeOf E).run P w=.ok 1 w)
    {xs ys:List Bool} (hx:e x=.agg ⟨bls xs⟩) (hy:e y=.agg ⟨bls ys⟩) (h1:xs.length=n) (h2:ys.length=n):Pu P e ⟨d,.binOp .eql T x y T',ot,pos,af,g⟩ (.bool (decide (xs=ys))):=fun w=>by
  have hg:=run_eqGuard_agg (P:=P) w .eql T x y ⟨bls xs⟩ ⟨bls ys⟩ hm
  simp only [execOp,hx,hy,Sem.run_bind]
  rw [hg,Result.andThen_ok,run_eql_struct,R5 9998 w hT hE hsz h1 h2]
  rfl
def ixI (l:List Int) (x:Int):Int:=if x∈l then (l.idxOf x:Int) else -1
theorem Zag {l:List Int} {x:Int} {j:Nat} (hj:j<l.length) (h:l[j]=x) (hm:∀ i,i<j→l.getD i 0≠x):ixI l x=(j:Int):=by
  have hx:x∈l:=h▸getElem_mem hj
  unfold ixI
  rw [if_pos hx]
  have h1:=List.idxOf_lt_length_of_mem hx
  have h2:l[l.idxOf x]=x:=List.getElem_idxOf h1
  have a:¬ l.idxOf x<j:=fun q=>hm _ q (by rw [YO h1];exact h2)
  have b:¬ j<l.idxOf x:=fun q=>by
    have:=List.not_of_lt_findIdx (p:=(· ==x)) (xs:=l) (i:=j) q
    simp [h] at this
  have:l.idxOf x=j:=by omega
  rw [this]
theorem F3 {l:List Int} {x:Int} (hm:∀ i,i<l.length→l.getD i 0≠x):x∉l:=fun h=>by
  obtain ⟨i,hi,e⟩:=List.getElem_of_mem h
  exact hm i hi (by rw [YO hi];exact e)
theorem F4 {l:List Int} {x:Int} (h:x∉l):ixI l x= -1:=by unfold ixI;rw [if_neg h]
theorem Nq {l:List Int} {x:Int}:decide (0≤ixI l x)=decide (x∈l):=by
  unfold ixI;split <;> rename_i h
  · simp [h]
  · simp [h]
theorem Ed {α:Type} (p:α→Bool) (l:List α) (z:α):(!decide (0≤YQ (fun j=> !p (l.getD j z)) l.length))=l.all p:=by
  cases h:l.all p with
  | true=>
    rw [Wb fun i hi=>by
      have:=all_eq_true.1 h l[i] (getElem_mem hi)
      rw [getD_eq_getElem?_getD,getElem?_eq_getElem hi];simpa using this]
    rfl
  | false=>
    have:∃ i,i<l.length∧(!p (l.getD i z))=true:=by
      rw [← Bool.not_eq_true,all_eq_true] at h
      by_cases c:∃ i,i<l.length∧(!p (l.getD i z))=true
      · exact c
      · refine absurd (fun x hx=>?_) h
        obtain ⟨i,hi,e⟩:=List.getElem_of_mem hx
        cases q:p x with
        | true=>rfl
        | false=>exact absurd ⟨i,hi,by rw [getD_eq_getElem?_getD,getElem?_eq_getElem hi];simp [e,q]⟩ c
    obtain ⟨i,hi,hp⟩:=this
    obtain ⟨k,e,_⟩:=Xe (p:=fun j=> !p (l.getD j z)) hi hp
    rw [e];simp
def Tp (tk:List Bool) (ks:List Int):List Bool:=ks.foldl (fun tk k=>tk.set k.toNat true) tk
theorem IC (tk:List Bool) (ks:List Int) {j:Nat} (h:j<ks.length):Tp tk (ks.take (j+1))=(Tp tk (ks.take j)).set (ks[j]).toNat true:=by
  unfold Tp;rw [take_succ_eq_append_getElem h,List.foldl_append];rfl
theorem QI (ks:List Int):∀ tk:List Bool,(Tp tk ks).length=tk.length:=by
  induction ks with
  | nil=>intro _;rfl
  | cons k ks ih=>intro tk;show (Tp (tk.set k.toNat true) ks).length=_;rw [ih,length_set]
theorem QJ (ks:List Int):∀ (tk:List Bool) (a:Nat),(∀ k∈ks,k.toNat<tk.length)→(Tp tk ks).getD a false=(tk.getD a false||decide (a∈ks.map Int.toNat)):=by
  induction ks with
  | nil=>intro tk a _;simp [Tp]
  | cons k ks ih=>
    intro tk a h
    show (Tp (tk.set k.toNat true) ks).getD a false=_
    rw [ih _ a (by intro x hx;rw [length_set];exact h x (mem_cons_of_mem _ hx)),Vn (h k mem_cons_self),map_cons]
    by_cases e:a=k.toNat
    · subst e;simp
    · rw [if_neg e];simp [e]
theorem Gb {l:List Bool}:∀ {m:List Bool},l.length=m.length→(∀ a,l.getD a false=true→m.getD a false=true)→Xm m≤Xm l:=by
  induction l with
  | nil=>intro m h _;have:m=[]:=eq_nil_of_length_eq_zero h.symm;subst this;exact Nat.le_refl _
  | cons b l ih=>
    intro m h hm
    cases m with
    | nil=>simp at h
    | cons c m=>
      have:=ih (m:=m) (by simpa using h) fun a ha=>by simpa using hm (a+1) (by simpa using ha)
      have h0:=hm 0
      simp only [List.getD_cons_zero] at h0
      unfold Xm
      cases b <;> cases c <;> simp at h0 ⊢ <;> omega
theorem Ga {l m:List Bool} {k:Nat} (h:l.length=m.length) (hm:∀ a,l.getD a false=true→m.getD a false=true) (hk:k<l.length) (h1:l.getD k false=false) (h2:m.getD k false=true):Xm m<Xm l:=by
  have a:=S7 hk h1
  have b:=Gb (l:=l.set k true) (m:=m) (by rw [length_set];exact h) fun x hx=>by
    rw [Vn hk] at hx
    by_cases e:x=k
    · subst e;exact h2
    · rw [if_neg e] at hx;exact hm x hx
  omega
noncomputable def pkB (l:List Tm) (tk:List Bool) (n:Nat):Bool:=(ptI l n).all fun k=>(clG (mkL l) k.toNat).all fun c=>tk.getD c.toNat false||decide (c∈ptI l n)
noncomputable def goodB (l:List Tm) (tk:List Bool) (n:Nat):Bool:=decide (firstN l n=n)&& !tk.getD n false&&pkB l tk n
noncomputable def stepP (l:List Tm) (s:List Bool×List (List Int)):List Bool×List (List Int):=
  if 0≤YQ (goodB l s.1) l.length then (Tp s.1 (ptI l (YQ (goodB l s.1) l.length).toNat),s.2++[ptI l (YQ (goodB l s.1) l.length).toNat]) else s
noncomputable def runP (l:List Tm):Nat→List Bool×List (List Int)
  | 0=>(replicate 8 false,[])
  | i+1=>stepP l (runP l i)
noncomputable def paL (l:List Tm):List (List Int):=(runP l 8).2
theorem Vu {l:List Tm} {s:List Bool×List (List Int)} {j:Nat} (hj:j<l.length) (h:goodB l s.1 j=true) (hm:∀ i,i<j→goodB l s.1 i=false):stepP l s=(Tp s.1 (ptI l j),s.2++[ptI l j]):=by
  unfold stepP;rw [Sz hj h hm,if_pos (by omega)];rfl
theorem Ux {l:List Tm} {s:List Bool×List (List Int)} (hm:∀ i,i<l.length→goodB l s.1 i=false):stepP l s=s:=by
  unfold stepP;rw [Wb hm,if_neg (by omega)]
theorem LU {l:List Tm} {n:Nat} (h:n<l.length) (hf:firstN l n=n):(n:Int)∈ptI l n:=by
  rw [V4];refine ⟨by omega,by omega,by simpa using hf,?_⟩
  unfold tgB;simp
theorem T6 {l:List Tm} {n:Nat} {x:Int} (h:x∈ptI l n):0≤x∧x<(l.length:Int):=by rw [V4] at h;exact ⟨h.1,h.2.1⟩
theorem Ir {l:List Tm} (s:List Bool×List (List Int)):(stepP l s).1.length=s.1.length:=by
  unfold stepP;split
  · exact QI _ _
  · rfl
theorem UD (l:List Tm):∀ i,(runP l i).1.length=8
  | 0=>by simp [runP]
  | i+1=>by rw [runP,Ir,UD l i]
theorem goodB_iff {l:List Tm} {tk:List Bool} {n:Nat}:goodB l tk n=true↔firstN l n=n∧tk.getD n false=false∧pkB l tk n=true:=by
  unfold goodB;simp only [Bool.and_eq_true,decide_eq_true_eq,Bool.not_eq_true'];exact ⟨fun h=>⟨h.1.1,h.1.2,h.2⟩,fun h=>⟨⟨h.1,h.2.1⟩,h.2.2⟩⟩
theorem QD {l:List Tm} (hl:l.length≤8) {s:List Bool×List (List Int)} (h8:s.1.length=8) {j:Nat} (hj:j<l.length) (h:goodB l s.1 j=true):Xm (Tp s.1 (ptI l j))<Xm s.1:=by
  have hg:=goodB_iff.1 h
  have hk:∀ k∈ptI l j,k.toNat<s.1.length:=fun k hk=>by have:=T6 hk;omega
  refine Ga (k:=j) (QI _ _).symm (fun a ha=>by rw [QJ _ _ _ hk,ha];rfl) (by omega) hg.2.1 ?_
  rw [QJ _ _ _ hk]
  have:j∈(ptI l j).map Int.toNat:=mem_map.2 ⟨_,LU hj hg.1,by simp⟩
  simp [this]
theorem Ji {l:List Tm} (hl:l.length≤8):∀ i,Xm (runP l i).1+i≤8∨stepP l (runP l i)=runP l i
  | 0=>.inl (by simp [runP];decide)
  | i + 1=>by
    by_cases c:∃ j,j<l.length∧goodB l (runP l i).1 j=true
    · obtain ⟨j0,hj0,hg0⟩:=c
      obtain ⟨j,e,hj,hg,hm⟩:=Xe hj0 hg0
      have hu:=QD hl (UD l i) hj hg
      have es:=Vu hj hg hm
      left
      rcases Ji hl i with h | h
      · rw [runP,es];simp only;omega
      · rw [es] at h
        have:=congrArg Prod.fst h
        simp only at this
        rw [this] at hu;omega
    · right
      have no:stepP l (runP l i)=runP l i:=Ux fun j hj=>by
        cases q:goodB l (runP l i).1 j with
        | false=>rfl
        | true=>exact absurd ⟨j,hj,q⟩ c
      rw [runP,no,no]
theorem Rf {l:List Tm} {i:Nat} (h:stepP l (runP l i)=runP l i):∀ m,i≤m→runP l m=runP l i:=by
  intro m hm
  induction m with
  | zero => obtain rfl:i=0:=by omega
            rfl
  | succ m ih=>
    rcases Nat.lt_or_ge i (m+1) with q | q
    · rw [runP,ih (by omega),h]
    · obtain rfl:i=m+1:=by omega
      rfl
theorem TC {l:List Tm} (hl:l.length≤8):stepP l (runP l 8)=runP l 8:=by
  rcases Ji hl 8 with h | h
  · refine Ux fun j hj=>?_
    cases q:goodB l (runP l 8).1 j with
    | false=>rfl
    | true=>have:=QD hl (UD l 8) hj q;omega
  · exact h
theorem G6 {l:List Tm} (hl:l.length≤8) {i:Nat} (h:stepP l (runP l i)=runP l i):paL l=(runP l i).2:=by
  unfold paL
  rcases Nat.le_total i 8 with q | q
  · rw [Rf h 8 q]
  · rw [Rf (TC hl) i q]
theorem Zbe {m:List Tm} {a b:Int} (ha:0≤a) (hb:0≤b):(decide (a=b)||((decide (rcF m a.toNat=rcF m b.toNat)&&(rcF m a.toNat).getD a.toNat false)&&(rcF m a.toNat).getD b.toNat false))=tgB m a.toNat b.toNat:=by
  unfold tgB
  have:decide (a=b)=decide (a.toNat=b.toNat):=by rw [Bool.eq_iff_iff,decide_eq_true_eq,decide_eq_true_eq];omega
  rw [this]
theorem GX {l:List Tm} {n j:Nat} (hj:j<l.length) (h1:(j:Int)=(frI l)[j]'(by rw [Yy];exact hj)) (h2:tgB (mkL l) n ((j:Int)).toNat=true):ptTo l n (j+1)=ptTo l n j++[(j:Int)]:=by
  rw [WA hj] at h1
  rw [U5,if_pos]
  rw [Bool.and_eq_true,decide_eq_true_eq]
  exact ⟨by omega,by simpa using h2⟩
theorem Ci {l:List Tm} {n j:Nat} (hj:j<l.length) (h:(decide ((j:Int)=(frI l)[j]'(by rw [Yy];exact hj))&&tgB (mkL l) n ((j:Int)).toNat)=false):ptTo l n (j+1)=ptTo l n j:=by
  simp only [WA hj] at h
  rw [U5,if_neg,append_nil]
  intro q
  rw [Bool.and_eq_true,decide_eq_true_eq] at q
  rw [Int.toNat_natCast,q.2,Bool.and_true,decide_eq_false_iff_not] at h
  exact h (by omega)
theorem I1 {l:List Tm} (h:okG l) {y x:Int} (hx:x∈sfI (mkL l) y):firstN l x.toNat=x.toNat:=by
  unfold sfI at hx
  rcases Nat.lt_or_ge y.toNat (mkL l).length with hy | hy
  · rw [YK hy] at hx
    rw [ZQ] at hy
    have e:(mkL l)[y.toNat]'(by rw [ZQ];exact hy)=Z8 (frI l) [] l[y.toNat]:=by simp [mkL]
    rw [e,O1 _ (fun z hz=>(Rs (h.ok _ (getElem_mem hy) z hz).1 (h.ok _ (getElem_mem hy) z hz).2).1)] at hx
    obtain ⟨z,hz,rfl⟩:=mem_map.1 hx
    have b:=h.ok _ (getElem_mem hy) z hz
    simp only [Xs b.1 b.2,Int.toNat_natCast]
    exact Xt h.ok (by omega)
  · rw [Rz hy] at hx;simp [dT,sfR,Yl,Yp] at hx
theorem K4 {l:List Tm} (h:okG l) {i x:Nat} (hi:i<l.length) (hx:x<l.length) (hne:x≠i):tgB (mkL l) i x=prB (mkL l) i x:=by
  have hm:=h.mkL
  have hl:=ZQ l
  have h8:=h.hi
  have ok:=XS hm.ok
  unfold tgB prB
  rw [decide_eq_false (fun e=>hne e.symm),Bool.false_or,U4 (by omega),U4 (by omega),Int.toNat_natCast,Int.toNat_natCast,Bool.eq_iff_iff]
  simp only [Bool.and_eq_true,decide_eq_true_eq]
  constructor
  · rintro ⟨⟨e,a⟩,b⟩
    refine ⟨b,?_⟩
    have:=congrArg (fun r=>r.getD i false) e
    simp only [U4 (m:=mkL l) (n:=i) (show i<8 by omega),U4 (m:=mkL l) (n:=x) (show i<8 by omega)] at this
    rw [← this];exact a
  · rintro ⟨a,b⟩
    refine ⟨⟨?_,Z9 ok a b⟩,a⟩
    unfold rcF
    apply map_congr_left
    intro k _
    rw [Bool.eq_iff_iff]
    exact ⟨fun q=>Z9 ok b q,fun q=>Z9 ok a q⟩
theorem Zbm {l:List Tm} (h:okG l) {i x y:Int} (hi0:0≤i) (hi:i<(l.length:Int)) (hx:x∈sfI (mkL l) y) (hne:x≠i):decide (x∈ptI l i.toNat)=prB (mkL l) i x:=by
  have b:=h.mkL.ok.at y.toNat x hx
  rw [ZQ] at b
  have e:=I1 h hx
  have t:=K4 h (i:=i.toNat) (x:=x.toNat) (by omega) (by omega) (by omega)
  have e2:prB (mkL l) i.toNat x.toNat=prB (mkL l) i x:=by unfold prB;simp [Int.toNat_of_nonneg hi0,Int.toNat_of_nonneg b.1]
  rw [Bool.eq_iff_iff,decide_eq_true_eq,V4,← e2,← t]
  exact ⟨fun q=>q.2.2.2,fun q=>⟨b.1,b.2,e,q⟩⟩
theorem Gu {P P':Int→Bool} {i:Int} {c:List Int} (h:∀ x∈c,x≠i→P x=P' x):∀ {out:List Int},i∈out→stO P c out=stO P' c out∧i∈stO P' c out:=by
  induction c with
  | nil=>intro out hi;exact ⟨rfl,hi⟩
  | cons x c ih=>
    intro out hi
    have ih:=fun {o}=>@ih (fun y hy=>h y (mem_cons_of_mem _ hy)) o
    show stO P c (if P x=true∧x∉out then out++[x] else out)=stO P' c (if P' x=true∧x∉out then out++[x] else out)∧i∈stO P' c (if P' x=true∧x∉out then out++[x] else out)
    have e:(if P x=true∧x∉out then out++[x] else out)=if P' x=true∧x∉out then out++[x] else out:=by
      by_cases q:x=i
      · subst q;rw [if_neg (fun a=>a.2 hi),if_neg (fun a=>a.2 hi)]
      · rw [h x mem_cons_self q]
    rw [e]
    exact ih (by split;exact mem_append.2 (.inl hi);exact hi)
theorem Od {P P':Int→Bool} {s:Int→List Int} {i:Int} (h:∀ y,∀ x∈s y,x≠i→P x=P' x):∀ (f a:Nat) {out:List Int},i∈out→ordB P s f a out=ordB P' s f a out
  | 0,_,_,_=>rfl
  | f+1,a,out,hi=>by
    have:=Gu (h (out.getD a 0)) hi
    rw [ordB,ordB,this.1,Od h f (a+1) this.2]
theorem Fc {l:List Tm} (h:okG l) {i:Int} (hi0:0≤i) (hi:i<(l.length:Int)):ordB (fun x=>decide (x∈ptI l i.toNat)) (sfI (mkL l)) (mkL l).length 0 [i]=Y8 (mkL l) i:=
  Od (fun y x hx hne=>Zbm h hi0 hi hx hne) _ _ (mem_singleton.2 rfl)
section
variable {b:List Int} {s s':List Sm}
mutual
theorem TD:∀ t:Tm,(∀ x∈sfR t,b.getD x.toNat 0<0→s.getD x.toNat zS=s'.getD x.toNat zS)→Z8 b s t=Z8 b s' t
  | .mk k n r kids cases,h=>by
    rw [Z8,Z8]
    by_cases c:k=7
    · rw [if_pos c,if_pos c]
      by_cases d:b.getD n.toNat 0<0
      · rw [if_pos d,if_pos d,h n (by rw [sfR,if_pos c];simp) d]
      · rw [if_neg d,if_neg d]
    · rw [if_neg c,if_neg c,RM kids fun x hx=>h x (by rw [sfR,if_neg c];exact mem_append.2 (.inl hx)),RN cases fun x hx=>h x (by rw [sfR,if_neg c];exact mem_append.2 (.inr hx))]
theorem RM:∀ l:List Tm,(∀ x∈Yl l,b.getD x.toNat 0<0→s.getD x.toNat zS=s'.getD x.toNat zS)→ZZ b s l=ZZ b s' l
  | [],_=>rfl
  | t::l,h=>by rw [ZZ,ZZ,TD t fun x hx=>h x (by rw [Yl];exact mem_append.2 (.inl hx)),RM l fun x hx=>h x (by rw [Yl];exact mem_append.2 (.inr hx))]
theorem RN:∀ l:List (Pt×Tm),(∀ x∈Yp l,b.getD x.toNat 0<0→s.getD x.toNat zS=s'.getD x.toNat zS)→ZW b s l=ZW b s' l
  | [],_=>rfl
  | (p,t)::l,h=>by rw [ZW,ZW];simp only;rw [TD t fun x hx=>h x (by rw [Yp];exact mem_append.2 (.inl hx)),RN l fun x hx=>h x (by rw [Yp];exact mem_append.2 (.inr hx))]
end
end
def Xy (o:List Int) (kf:Int→Sm) (n:Int):Int×Int×Sm:=if n∈o then (7,(o.idxOf n:Int),zS) else (6,0,kf n)
def TE (o:List Int) (kf:Int→Sm) (k n:Int) (r:Sm):Int×Int×Sm:=if k=7 then Xy o kf n else (k,n,r)
theorem GH {o:List Int} {kf:Int→Sm} (ho:o.length≤8) (n:Int):inI (Xy o kf n).1∧inI (Xy o kf n).2.1:=by
  unfold Xy
  have:=List.idxOf_le_length (a:=n) (l:=o)
  split <;> (unfold inI;constructor <;> simp only <;> omega)
theorem Ch {o:List Int} {kf:Int→Sm} (ho:o.length≤8) (Q:Int→Int→Sm→Prop):∀ k n r,inI k→inI n→Q k n r→inI (TE o kf k n r).1∧inI (TE o kf k n r).2.1:=fun k n r hk hn _=>by
  unfold TE
  split
  · exact GH ho n
  · exact ⟨hk,hn⟩
def smK (N:Nat) (kf:Int→Sm):List Sm:=(range N).map fun k:Nat=>kf k
theorem Jb {N k:Nat} {kf:Int→Sm} (h:k<N):(smK N kf).getD k zS=kf k:=by
  unfold smK;rw [getD_eq_getElem?_getD,getElem?_map,List.getElem?_range h];rfl
theorem OW {m:List Tm} {o:List Int} {g:Nat→Sm} {k:Nat} (h:k<m.length):(smL m o g).getD k zS=if (k:Int)∉o∧rcB (cdL m) m.length (o.getD 0 0).toNat k=true then g k else zS:=by
  unfold smL;rw [getD_eq_getElem?_getD,getElem?_map,List.getElem?_range h];rfl
theorem GV {N:Nat} {o:List Int} {kf:Int→Sm}:Oo (TE o kf) N (byL N o) (smK N kf):=⟨fun k n r hk=>by unfold TE;rw [if_neg hk],fun n h0 h1=>by
  have e:((n.toNat:Nat):Int)=n:=by omega
  unfold TE Xy
  rw [if_pos rfl,UT (k:=n.toNat) (by omega),e]
  by_cases c:n∈o
  · rw [if_pos c,if_pos c,if_neg (by omega)]
  · rw [if_neg c,if_neg c,if_pos (by omega),Jb (by omega),e]⟩
theorem Bo {l:List Tm} (h:okG l) {i0:Nat} (hi:i0<(mkL l).length) {o:List Int} (ho:o=Y8 (mkL l) i0) {kf:Int→Sm} {g:Nat→Sm} (hK:∀ k:Nat,coX (mkL l) i0 k=true→kf k=g k) {n:Int} (hn:n∈o) (hb:n.toNat<(mkL l).length):
    mpT (TE o kf) (mkL l)[n.toNat]=Z8 (byL (mkL l).length o) (smL (mkL l) o g) (atL (mkL l) n.toNat):=by
  have hm:=h.mkL
  have hcl:=XS hm.ok
  obtain ⟨ot,hot⟩:=VG hm.ok (i:=(i0:Int)) (by omega) (by omega)
  have h00:(o.getD 0 0).toNat=i0:=by rw [ho,hot];simp
  rw [Tb GV 0 _ (checkR_iff.1 (hm.ck _ (getElem_mem hb))).2,YK hb]
  refine TD _ fun x hx hneg=>?_
  have hxr:=hm.ok _ (getElem_mem hb) x hx
  have e:((x.toNat:Nat):Int)=x:=by omega
  rw [UT (k:=x.toNat) (by omega),e] at hneg
  have hxo:x∉o:=fun q=>by rw [if_pos q] at hneg;omega
  rw [Jb (by omega),OW (by omega),e,h00]
  have hc:x.toNat∈cdG (cdL (mkL l)) n.toNat:=by
    rw [US hb];unfold sfN;exact mem_map.2 ⟨x,hx,rfl⟩
  have hn0:0≤n:=by rw [ho] at hn;exact ((Qe hm.ok (by omega) (by omega)).2 n hn).1
  have hr:rcB (cdL (mkL l)) (mkL l).length i0 x.toNat=true:=by
    rw [ho,VF hm.ok (by omega) (by omega) hn0] at hn
    rcases hn with q | q
    · have q2:n.toNat=i0:=by omega
      rw [q2] at hc
      exact XL hc
    · unfold prB at q
      rw [Bool.and_eq_true] at q
      exact Z9 hcl (by simpa using q.1) (XL hc)
  rw [if_pos ⟨hxo,hr⟩]
  have:=hK x.toNat (by unfold coX;rw [e,← ho];simp [hxo,hr])
  rwa [e] at this
def kfV (K:List Int) (f:Int→Sm) (n:Int):Sm:=if n∈K then f n else zS
noncomputable def dgF (l:List Tm) (n:Int):Sm:=sha (Yf (Ye (mkL l) n.toNat))
def CI (l:List Tm) (K:List Int) (i0:Nat):Prop:=∀ k:Nat,coX (mkL l) i0 k=true→(k:Int)∈K
theorem CG {l:List Tm} {K:List Int} {i0:Nat} (h:CI l K i0):∀ k:Nat,coX (mkL l) i0 k=true→kfV K (dgF l) k=sha (Yf (Ye (mkL l) k)):=fun k hk=>by
  unfold kfV dgF;rw [if_pos (h k hk),Int.toNat_natCast]
mutual
def SG:Tm→List Tm→Tm×List Tm
  | .mk k n r kids cases,q=>if k=7 then (q.headD dT,q.tail) else (.mk k n r (UL kids q).1 (TM cases (UL kids q).2).1,(TM cases (UL kids q).2).2)
def UL:List Tm→List Tm→List Tm×List Tm
  | [],q=>([],q)
  | t::l,q=>((SG t q).1::(UL l (SG t q).2).1,(UL l (SG t q).2).2)
def TM:List (Pt×Tm)→List Tm→List (Pt×Tm)×List Tm
  | [],q=>([],q)
  | c::l,q=>((c.1,(SG c.2 q).1)::(TM l (SG c.2 q).2).1,(TM l (SG c.2 q).2).2)
end
def Sw (b:List Int) (s:List Sm) (n:Int):Tm:=if b.getD n.toNat 0<0 then .mk 6 0 (s.getD n.toNat zS) [] [] else .mk 7 (b.getD n.toNat 0) zS [] []
theorem Xw (N i:Nat):(replicate N (0:Int)).getD i 0=0:=by
  rw [getD_eq_getElem?_getD,getElem?_replicate];split <;> rfl
section
variable (N:Nat) (b:List Int) (s:List Sm)
mutual
theorem SF:∀ (t:Tm) (q:List Tm),SG (YJ N t) ((sfR t).map (Sw b s)++q)=(Z8 b s t,q)
  | .mk k n r kids cases,q=>by
    by_cases e:k=7
    · subst e
      have h:YJ N (.mk 7 n r kids cases)=.mk 7 0 zS [] []:=by unfold YJ;rw [Z8,if_pos rfl,Xw,if_neg (by omega)]
      rw [h,SG,if_pos rfl,sfR,if_pos rfl,Z8,if_pos rfl];simp [Sw]
    · have h:YJ N (.mk k n r kids cases)=.mk k n r (ZZ (replicate N 0) [] kids) (ZW (replicate N 0) [] cases):=by unfold YJ;rw [Z8,if_neg e]
      rw [h,SG,if_neg e,sfR,if_neg e,Z8,if_neg e,map_append,append_assoc,Ov kids,Ow cases]
theorem Ov:∀ (l:List Tm) (q:List Tm),UL (ZZ (replicate N 0) [] l) ((Yl l).map (Sw b s)++q)=(ZZ b s l,q)
  | [],q=>by simp [ZZ,Yl,UL]
  | t::l,q=>by
    have h:=SF t ((Yl l).map (Sw b s)++q)
    unfold YJ at h
    rw [ZZ,Yl,UL,map_append,append_assoc,h,Ov l q,ZZ]
theorem Ow:∀ (l:List (Pt×Tm)) (q:List Tm),TM (ZW (replicate N 0) [] l) ((Yp l).map (Sw b s)++q)=(ZW b s l,q)
  | [],q=>by simp [ZW,Yp,TM]
  | (p,t)::l,q=>by
    have h:=SF t ((Yp l).map (Sw b s)++q)
    unfold YJ at h
    rw [ZW,Yp,TM,map_append,append_assoc,h,Ow l q,ZW]
end
end
theorem AI {N N':Nat} {b b':List Int} {s s':List Sm} {t u:Tm} (h:YJ N t=YJ N' u) (hl:(sfR t).map (Sw b s)=(sfR u).map (Sw b' s')):Z8 b s t=Z8 b' s' u:=by
  have h1:=SF N b s t []
  rw [h,hl,SF N' b' s' u []] at h1
  exact (congrArg Prod.fst h1).symm
section
variable (n:Nat) {b:List Int} {s:List Sm}
mutual
theorem NM:∀ (t:Tm),(∀ x∈sfR t,0≤b.getD x.toNat 0)→YJ n (Z8 b s t)=YJ n t
  | .mk k m r kids cases,h=>by
    unfold YJ
    by_cases e:k=7
    · subst e
      rw [sfR,if_pos rfl] at h
      have:=h m (by simp)
      rw [Z8,if_pos rfl,if_neg (by omega),Z8,if_pos rfl,Z8,if_pos rfl,Xw,Xw,if_neg (by omega),if_neg (by omega)]
    · rw [sfR,if_neg e] at h
      have h1:=Lf kids fun x hx=>h x (mem_append.2 (.inl hx))
      have h2:=Lg cases fun x hx=>h x (mem_append.2 (.inr hx))
      rw [Z8,if_neg e,Z8,if_neg e,Z8,if_neg e,h1,h2]
theorem Lf:∀ (l:List Tm),(∀ x∈Yl l,0≤b.getD x.toNat 0)→ZZ (replicate n 0) [] (ZZ b s l)=ZZ (replicate n 0) [] l
  | [],_=>rfl
  | t::l,h=>by
    rw [Yl] at h
    have h1:=NM t fun x hx=>h x (mem_append.2 (.inl hx))
    unfold YJ at h1
    rw [ZZ,ZZ,ZZ,h1,Lf l fun x hx=>h x (mem_append.2 (.inr hx))]
theorem Lg:∀ (l:List (Pt×Tm)),(∀ x∈Yp l,0≤b.getD x.toNat 0)→ZW (replicate n 0) [] (ZW b s l)=ZW (replicate n 0) [] l
  | [],_=>rfl
  | (p,t)::l,h=>by
    rw [Yp] at h
    have h1:=NM t fun x hx=>h x (mem_append.2 (.inl hx))
    unfold YJ at h1
    rw [ZW,ZW,ZW,h1,Lg l fun x hx=>h x (mem_append.2 (.inr hx))]
end
end
inductive Fo {α β:Type} (R:α→β→Prop):List α→List β→Prop
  | nil:Fo R [] []
  | cons {a:α} {b:β} {l:List α} {m:List β}:R a b→Fo R l m→Fo R (a::l) (b::m)
theorem Fo.len {α β:Type} {R:α→β→Prop} {l:List α} {m:List β} (h:Fo R l m):l.length=m.length:=by
  induction h with
  | nil=>rfl
  | cons _ _ ih=>simp [ih]
theorem Fo.get {α β:Type} {R:α→β→Prop} {l:List α} {m:List β} (h:Fo R l m):∀ (k:Nat) (h1:k<l.length) (h2:k<m.length),R l[k] m[k]:=by
  induction h with
  | nil=>intro k h1;simp at h1
  | cons r _ ih=>
    intro k h1 h2
    cases k with
    | zero=>exact r
    | succ k=>exact ih k (by simpa using h1) (by simpa using h2)
theorem Fo.mk {α β:Type} {R:α→β→Prop}:∀ {l:List α} {m:List β},l.length=m.length→(∀ (k:Nat) (h1:k<l.length) (h2:k<m.length),R l[k] m[k])→Fo R l m
  | [],[],_,_=>.nil
  | [],_::_,h,_=>by simp at h
  | _::_,[],h,_=>by simp at h
  | a::l,b::m,h,g=>.cons (g 0 (by simp) (by simp)) (Fo.mk (by simpa using h) fun k h1 h2=>g (k+1) (by simpa using h1) (by simpa using h2))
theorem Fo.flip {α β:Type} {R:α→β→Prop} {l:List α} {m:List β} (h:Fo R l m):Fo (fun b a=>R a b) m l:=by
  induction h with
  | nil=>exact .nil
  | cons r _ ih=>exact .cons r ih
theorem Fo.imp {α β:Type} {R T:α→β→Prop} {l:List α} {m:List β} (h:Fo R l m) (i:∀ a b,R a b→T a b):Fo T l m:=by
  induction h with
  | nil=>exact .nil
  | cons r _ ih=>exact .cons (i _ _ r) ih
theorem Fo.app {α β:Type} {R:α→β→Prop} {l l':List α} {m m':List β} (h:Fo R l m) (h':Fo R l' m'):Fo R (l++l') (m++m'):=by
  induction h with
  | nil=>exact h'
  | cons r _ ih=>exact .cons r ih
theorem Fo.map_eq {α β γ:Type} {R:α→β→Prop} {f:α→γ} {g:β→γ} {l:List α} {m:List β} (h:Fo R l m) (e:∀ a b,a∈l→b∈m→R a b→f a=g b):l.map f=m.map g:=by
  induction h with
  | nil=>rfl
  | cons r _ ih=>rw [map_cons,map_cons,e _ _ (by simp) (by simp) r,ih fun a b ha hb=>e a b (by simp [ha]) (by simp [hb])]
def SI (S:Nat→Nat→Prop) (i j:Int):Prop:=∃ a x:Nat,i=(a:Int)∧j=(x:Int)∧S a x
structure Sb (m l:List Tm) (S:Nat→Nat→Prop):Prop where
  fn:∀ {a x y},S a x→S a y→x=y
  inj:∀ {a b x},S a x→S b x→a=b
  la:∀ {a x},S a x→a<m.length
  lx:∀ {a x},S a x→x<l.length
  bl:∀ {a x},S a x→YJ m.length (atL m a)=YJ l.length (atL l x)
  st:∀ {a x},S a x→Fo (SI S) (sfI m a) (sfI l x)
theorem Sb.flip {m l:List Tm} {S:Nat→Nat→Prop} (B:Sb m l S):Sb l m (fun x a=>S a x) where
  fn h k:=B.inj h k
  inj h k:=B.fn h k
  la h:=B.lx h
  lx h:=B.la h
  bl h:=(B.bl h).symm
  st h:=(B.st h).flip.imp fun _ _ ⟨a,x,e,e',q⟩=>⟨x,a,e',e,q⟩
section
variable {m l:List Tm} {S:Nat→Nat→Prop}
theorem Sb.eqI (B:Sb m l S) {i j i' j':Int} (h:SI S i j) (h':SI S i' j'):i=i'↔j=j':=by
  obtain ⟨a,x,rfl,rfl,q⟩:=h
  obtain ⟨b,y,rfl,rfl,q'⟩:=h'
  constructor
  · intro e
    have:a=b:=by omega
    subst this;rw [B.fn q q']
  · intro e
    have:x=y:=by omega
    subst this;rw [B.inj q q']
theorem Sb.mem (B:Sb m l S) {o o':List Int} (h:Fo (SI S) o o') {k k':Int} (hk:SI S k k'):k∈o↔k'∈o':=by
  induction h with
  | nil=>simp
  | cons r _ ih=>rw [mem_cons,mem_cons,ih,B.eqI hk r]
theorem Sb.idx (B:Sb m l S) {o o':List Int} (h:Fo (SI S) o o') {k k':Int} (hk:SI S k k'):o.idxOf k=o'.idxOf k':=by
  induction h with
  | nil=>rfl
  | @cons a b _ _ r _ ih=>
    rw [List.idxOf_cons,List.idxOf_cons,ih]
    have:=B.eqI r hk
    by_cases e:a=k
    · rw [show (a==k)=true by simpa using e,show (b==k')=true by simpa using this.1 e]
    · rw [show (a==k)=false by simpa using e,show (b==k')=false by simpa using fun q=>e (this.2 q)]
theorem Sb.stO (B:Sb m l S) {P P':Int→Bool} (hP:∀ i j,SI S i j→P i=P' j) {c c':List Int} (h:Fo (SI S) c c'):∀ {out out':List Int},Fo (SI S) out out'→Fo (SI S) (Hs.stO P c out) (Hs.stO P' c' out'):=by
  unfold Hs.stO
  induction h with
  | nil=>intro out out' ho;exact ho
  | @cons a b _ _ r _ ih=>
    intro out out' ho
    rw [List.foldl_cons,List.foldl_cons]
    refine ih ?_
    have h1:=hP _ _ r
    have h2:=B.mem ho r
    by_cases e:P a=true∧a∉out
    · rw [if_pos e,if_pos ⟨h1▸e.1,fun q=>e.2 (h2.2 q)⟩];exact ho.app (.cons r .nil)
    · rw [if_neg e,if_neg fun q=>e ⟨h1▸q.1,fun z=>q.2 (h2.1 z)⟩];exact ho
theorem Sb.ordB (B:Sb m l S) {P P':Int→Bool} {s s':Int→List Int} (hP:∀ i j,SI S i j→P i=P' j) (hs:∀ i j,SI S i j→Fo (SI S) (s i) (s' j)):∀ (f a:Nat) {out out':List Int},Fo (SI S) out out'→Fo (SI S) (Hs.ordB P s f a out) (Hs.ordB P' s' f a out')
  | 0,_,_,_,h=>h
  | f +1,a,out,out',h=>by
    have e:=h.len
    by_cases c:a<out.length
    · rw [WJ c,WJ (by omega)]
      refine Sb.ordB B hP hs f (a+1) (B.stO hP (hs _ _ ?_) h)
      rw [Ub c,Ub (by omega)]
      exact h.get a c (by omega)
    · rw [X0 (by omega),X0 (by omega)];exact h
theorem Rj {n:Nat} {P:Int→Bool} {s:Int→List Int} (hs:∀ x,∀ y∈s x,0≤y∧y<(n:Int)):∀ (f f' a:Nat) {out:List Int},okO n out→n≤f+a→n≤f'+a→Hs.ordB P s f a out=Hs.ordB P s f' a out
  | 0,f',a,out,h,h1,_=>by have:=h.len;rw [X0 (by omega),X0 (by omega)]
  | f +1,f',a,out,h,h1,h2=>by
    have hl:=h.len
    by_cases c:a<out.length
    · cases f' with
      | zero=>omega
      | succ f'=>rw [WJ c,WJ c];exact Rj hs f f' (a+1) (S9 (hs _) h).1 (by omega) (by omega)
    · rw [X0 (by omega),X0 (by omega)]
theorem Sb.reach (B:Sb m l S) (okl:okC l) {a b x:Nat} (h:rcB (cdL m) m.length a b=true) (hx:S a x):∃ y,S b y∧rcB (cdL l) l.length x y=true:=by
  refine XU (T:=fun i j=>∀ x,S i x→∃ y,S j y∧rcB (cdL l) l.length x y=true) (fun i j hij x hx=>?_) (fun i j k h1 h2 x hx=>?_) (rcB_iff.1 h) x hx
  · have hi:=B.la hx
    rw [US hi] at hij
    unfold sfN at hij
    obtain ⟨c,hc,rfl⟩:=mem_map.1 hij
    have hst:=B.st hx
    have hsf:sfI m (i:Int)=sfR m[i]:=by rw [O4 (by simpa using hi)];simp
    rw [hsf] at hst
    obtain ⟨k,hk,rfl⟩:=List.getElem_of_mem hc
    have hk2:k<(sfI l (x:Int)).length:=by rw [← hst.len];exact hk
    obtain ⟨a',y,e1,e2,q⟩:=hst.get k hk hk2
    refine ⟨y,by rw [e1];simpa using q,XL ?_⟩
    have:=AF (getElem_mem hk2)
    rw [e2] at this
    simpa using this
  · obtain ⟨y,hy,r⟩:=h1 x hx
    obtain ⟨z,hz,r'⟩:=h2 y hy
    exact ⟨z,hz,Z9 (XS okl) r r'⟩
theorem Sb.rc (B:Sb m l S) (okm:okC m) (okl:okC l) {a b x y:Nat} (hx:S a x) (hy:S b y):rcB (cdL m) m.length a b=rcB (cdL l) l.length x y:=by
  rw [Bool.eq_iff_iff]
  constructor
  · intro h
    obtain ⟨z,hz,r⟩:=B.reach okl h hx
    rw [B.fn hy hz];exact r
  · intro h
    obtain ⟨z,hz,r⟩:=B.flip.reach okm h hx
    rw [B.inj hy hz];exact r
theorem Sb.ord (B:Sb m l S) (okm:okC m) (okl:okC l) {a x:Nat} (hx:S a x):Fo (SI S) (Y8 m a) (Y8 l x):=by
  have h1:Y8 m a=Hs.ordB (prB m a) (sfI m) (m.length+l.length) 0 [(a:Int)]:=Rj okm.sfI _ _ _ (okO.one (by omega) (by have:=B.la hx;omega)) (by omega) (by omega)
  have h2:Y8 l x=Hs.ordB (prB l x) (sfI l) (m.length+l.length) 0 [(x:Int)]:=Rj okl.sfI _ _ _ (okO.one (by omega) (by have:=B.lx hx;omega)) (by omega) (by omega)
  rw [h1,h2]
  refine B.ordB (fun i j h=>?_) (fun i j h=>?_) _ _ (.cons ⟨a,x,rfl,rfl,hx⟩ .nil)
  · obtain ⟨b,y,rfl,rfl,q⟩:=h
    unfold prB
    simp only [Int.toNat_natCast]
    rw [B.rc okm okl hx q,B.rc okm okl q hx]
  · obtain ⟨b,y,rfl,rfl,q⟩:=h
    exact B.st q
theorem Sb.cd (B:Sb m l S) (okm:okC m) (okl:okC l) {a x:Nat} (hx:S a x) {g g':Nat→Sm} (hg:∀ k y,S k y→coX m a k=true→g k=g' y):cdI m (Y8 m a) g=cdI l (Y8 l x) g':=by
  have ho:=B.ord okm okl hx
  obtain ⟨t,e⟩:=VG okm (i:=(a:Int)) (by omega) (by have:=B.la hx;omega)
  obtain ⟨t',e'⟩:=VG okl (i:=(x:Int)) (by omega) (by have:=B.lx hx;omega)
  have e0:((Y8 m a).getD 0 0).toNat=a:=by rw [e];simp
  have e0':((Y8 l x).getD 0 0).toNat=x:=by rw [e'];simp
  unfold cdI
  rw [ho.len]
  congr 1
  refine ho.map_eq fun i j _ _ h=>?_
  obtain ⟨b,y,rfl,rfl,q⟩:=h
  refine congrArg itT (AI (N:=m.length) (N':=l.length) (by simpa using B.bl q) ?_)
  refine Fo.map_eq (B.st q) fun c d _ _ h=>?_
  obtain ⟨c,d,rfl,rfl,q⟩:=h
  have hc:=B.la q
  have hd:=B.lx q
  have hm:=B.mem ho ⟨c,d,rfl,rfl,q⟩
  unfold Sw
  simp only [Int.toNat_natCast]
  rw [UT hc,UT hd,OW hc,OW hd,e0,e0',B.idx ho ⟨c,d,rfl,rfl,q⟩,← B.rc okm okl hx q]
  by_cases w:(c:Int)∈Y8 m a
  · have w':=hm.1 w
    have hz:¬ (((Y8 l x).idxOf (d:Int):Nat):Int)<0:=by omega
    simp only [if_pos w,if_pos w',if_neg hz]
  · have w':¬ (d:Int)∈Y8 l x:=fun z=>w (hm.2 z)
    have hz:(-1:Int)<0:=by omega
    simp only [if_neg w,if_neg w',if_pos hz]
    by_cases r:rcB (cdL m) m.length a c=true
    · rw [if_pos ⟨w,r⟩,if_pos ⟨w',r⟩,hg c d q (by unfold coX;simp [w,r])]
    · have r1:¬ ((c:Int)∉Y8 m a∧rcB (cdL m) m.length a c=true):=fun z=>r z.2
      have r2:¬ ((d:Int)∉Y8 l x∧rcB (cdL m) m.length a c=true):=fun z=>r z.2
      rw [if_neg r1,if_neg r2]
theorem Sb.code (B:Sb m l S) (okm:okC m) (okl:okC l):∀ (r:Nat) {a x:Nat},rkM m a<r→S a x→Ye m a=Ye l x
  | 0,_,_,h,_=>absurd h (by omega)
  | r+1,a,x,h,hx=>by
    rw [SO okm (B.la hx),SO okl (B.lx hx)]
    refine B.cd okm okl hx fun k y q hk=>?_
    rw [Sb.code B okm okl r (by have:=(WS okm (B.la hx) hk).2;omega) q]
theorem Sb.err (B:Sb m l S) (okm:okC m) (okl:okC l):∀ (r:Nat) {a x:Nat},rkM m a<r→S a x→VO m a=VO l x
  | 0,_,_,h,_=>absurd h (by omega)
  | r +1,a,x,h,hx=>by
    have hX:∀ {k y},S k y→coX m a k=coX l x y:=fun {k y} q=>by
      unfold coX
      rw [B.rc okm okl hx q,decide_eq_decide.2 (B.mem (B.ord okm okl hx) ⟨k,y,rfl,rfl,q⟩)]
    rw [SP okm (B.la hx),SP okl (B.lx hx),B.code okm okl _ (Nat.lt_succ_self _) hx]
    congr 1
    rw [Bool.eq_iff_iff,any_eq_true,any_eq_true]
    constructor
    · rintro ⟨k,_,h1⟩
      rw [Bool.and_eq_true] at h1
      have h2:=h1.1
      unfold coX at h2
      rw [Bool.and_eq_true] at h2
      obtain ⟨y,q,_⟩:=B.reach okl h2.2 hx
      refine ⟨y,mem_range.2 (B.lx q),?_⟩
      rw [Bool.and_eq_true,← hX q,← Sb.err B okm okl r (by have:=(WS okm (B.la hx) h1.1).2;omega) q]
      exact h1
    · rintro ⟨y,_,h1⟩
      rw [Bool.and_eq_true] at h1
      have h2:=h1.1
      unfold coX at h2
      rw [Bool.and_eq_true] at h2
      obtain ⟨k,q,_⟩:=B.flip.reach okm h2.2 hx
      have h3:coX m a k=true:=by rw [hX q];exact h1.1
      refine ⟨k,mem_range.2 (B.la q),?_⟩
      rw [Bool.and_eq_true,Sb.err B okm okl r (by have:=(WS okm (B.la hx) h3).2;omega) q]
      exact ⟨h3,h1.2⟩
end
structure XB (m l:List Tm) (X:Nat→Nat→Prop):Prop where
  la:∀ {a x},X a x→a<m.length
  lx:∀ {a x},X a x→x<l.length
  bl:∀ {a x},X a x→YJ m.length (atL m a)=YJ l.length (atL l x)
  st:∀ {a x},X a x→Fo (SI X) (sfI m a) (sfI l x)
theorem XB.flip {m l:List Tm} {X:Nat→Nat→Prop} (B:XB m l X):XB l m (fun x a=>X a x) where
  la h:=B.lx h
  lx h:=B.la h
  bl h:=(B.bl h).symm
  st h:=(B.st h).flip.imp fun _ _ ⟨a,x,e,e',q⟩=>⟨x,a,e',e,q⟩
theorem Vc (m:List Tm) (a:Nat):sfI m (a:Int)=sfR (atL m a):=by unfold sfI;simp
theorem Jh {m:List Tm} {a k:Nat} (h:k<(sfR (atL m a)).length):(sL m a).getD k 0=((sfR (atL m a))[k]).toNat:=by
  unfold sL sfN
  rw [getD_eq_getElem?_getD,getElem?_map,getElem?_eq_getElem h];rfl
theorem ML {l:List Nat} {a:Nat} (h:a<l.length):l.getD a 0=l[a]:=by rw [getD_eq_getElem?_getD,getElem?_eq_getElem h];rfl
theorem Xc (m:List Tm) (a:Nat):(sL m a).length=(sfR (atL m a)).length:=by unfold sL sfN;rw [length_map]
section
variable {m l:List Tm} {X:Nat→Nat→Prop}
theorem XB.len (B:XB m l X) {a x:Nat} (h:X a x):(sL m a).length=(sL l x).length:=by
  have:=(B.st h).len
  rw [Vc,Vc] at this
  rw [Xc,Xc,this]
theorem XB.get (B:XB m l X) {a x k:Nat} (h:X a x) (hk:k<(sL m a).length):X ((sL m a).getD k 0) ((sL l x).getD k 0):=by
  have s:=B.st h
  rw [Vc,Vc] at s
  have e:=B.len h
  rw [Xc] at hk
  rw [Xc,Xc] at e
  obtain ⟨c,d,e1,e2,q⟩:=s.get k hk (by omega)
  rw [Jh hk,Jh (by omega),e1,e2]
  simpa using q
theorem XB.bis (B:XB m l X) (okm:okC m) {a b x y:Nat} (ha:X a x) (hb:X b y) (h:VT m a b):VT l x y:=by
  refine SV (e0:=e0L l) (s:=sL l) (R:=fun x y=>∃ a b,X a x∧X b y∧VT m a b) ?_ ?_ x y ⟨a,b,ha,hb,h⟩
  · rintro x y ⟨a,b,ha,hb,h⟩
    exact ((B.bl ha).symm.trans (Uf h)).trans (B.bl hb)
  · rintro x y ⟨a,b,ha,hb,h⟩ k hk
    have e1:=B.len ha
    have e2:=Wf okm (Uf h)
    exact ⟨_,_,B.get ha (by omega),B.get hb (by omega),SU h (by omega)⟩
def sbX (m l:List Tm) (X:Nat→Nat→Prop) (a x:Nat):Prop:=∃ a' x',X a' x'∧a=firstN m a'∧x=firstN l x'
theorem E2 {m:List Tm} (h:okG m) {a:Nat} (ha:a<m.length):YJ m.length (atL (mkL m) a)=YJ m.length (atL m a):=by
  rw [FK ha]
  exact NM _ _ fun x hx=>by
    have:=h.ok.at a x hx
    rw [Xs this.1 this.2];omega
theorem XB.fn (B:XB m l X) (hm:okG m) (hl:okG l) {a x y:Nat} (h:sbX m l X a x) (k:sbX m l X a y):x=y:=by
  obtain ⟨a',x',q,rfl,rfl⟩:=h
  obtain ⟨b',y',q',e,rfl⟩:=k
  exact (Wc hl.ok (B.lx q) (B.lx q')).2 (B.bis hm.ok q q' ((Wc hm.ok (B.la q) (B.la q')).1 e))
theorem XB.sb (B:XB m l X) (hm:okG m) (hl:okG l):Sb (mkL m) (mkL l) (sbX m l X) where
  fn h k:=B.fn hm hl h k
  inj h k:=by
    obtain ⟨a',x',q,e1,e2⟩:=h
    obtain ⟨b',y',q',e3,e4⟩:=k
    exact B.flip.fn hl hm ⟨x',a',q,e2,e1⟩ ⟨y',b',q',e4,e3⟩
  la h:=by
    obtain ⟨a',x',q,rfl,rfl⟩:=h
    rw [ZQ];exact Ya (B.la q)
  lx h:=by
    obtain ⟨a',x',q,rfl,rfl⟩:=h
    rw [ZQ];exact Ya (B.lx q)
  bl h:=by
    obtain ⟨a',x',q,rfl,rfl⟩:=h
    have ha:=B.la q
    have hx:=B.lx q
    rw [ZQ,ZQ,E2 hm (Ya ha),E2 hl (Ya hx)]
    have e1:YJ m.length (atL m a')=YJ m.length (atL m (firstN m a')):=Uf (Y6 ha)
    have e2:YJ l.length (atL l x')=YJ l.length (atL l (firstN l x')):=Uf (Y6 hx)
    rw [← e1,← e2];exact B.bl q
  st h:=by
    obtain ⟨a',x',q,rfl,rfl⟩:=h
    have ha:=B.la q
    have hx:=B.lx q
    rw [Vc,Vc,Pc hm (Ya ha),Pc hl (Ya hx)]
    have b1:=Y6 ha
    have b2:=Y6 hx
    have n1:=Wf hm.ok (Uf b1)
    have n2:=Wf hl.ok (Uf b2)
    have n3:=B.len q
    rw [Xc,Xc] at n1 n2 n3
    refine Fo.mk (by rw [length_map,length_map];omega) fun k h1 h2=>?_
    rw [length_map] at h1 h2
    rw [getElem_map,getElem_map,← Jh h1,← Jh h2]
    have hk:k<(sL m a').length:=by rw [Xc];omega
    have hk2:k<(sL l x').length:=by rw [Xc];omega
    have g:=B.get q hk
    refine ⟨_,_,rfl,rfl,_,_,g,?_,?_⟩
    · have c1:(sL m (firstN m a')).getD k 0<m.length:=hm.ok.lt _ _ (by rw [ML (by rw [Xc];exact h1)];exact getElem_mem _)
      exact (Wc hm.ok c1 (B.la g)).2 (VS hm.ok (SU b1 hk))
    · have c1:(sL l (firstN l x')).getD k 0<l.length:=hl.ok.lt _ _ (by rw [ML (by rw [Xc];exact h2)];exact getElem_mem _)
      exact (Wc hl.ok c1 (B.lx g)).2 (VS hl.ok (SU b2 hk2))
theorem XB.same (B:XB m l X) (hm:okG m) (hl:okG l) {a x:Nat} (h:X a x):cB m a=cB l x∧cR m a=cR l x:=by
  have q:sbX m l X (firstN m a) (firstN l x):=⟨a,x,h,rfl,rfl⟩
  have S:=B.sb hm hl
  unfold cB
  rw [VQ,VQ,S.code hm.mkL.ok hl.mkL.ok _ (Nat.lt_succ_self _) q,S.err hm.mkL.ok hl.mkL.ok _ (Nat.lt_succ_self _) q]
  exact ⟨rfl,rfl⟩
end
structure paI (l:List Tm) (s:List Bool×List (List Int)):Prop where
  tk:∀ a:Nat,s.1.getD a false=true↔(a:Int)∈s.2.flatten
  fst:∀ x∈s.2.flatten,0≤x∧x<(l.length:Int)∧firstN l x.toNat=x.toNat
  cls:∀ a:Nat,(a:Int)∈s.2.flatten→∀ k:Nat,rcB (cdL (mkL l)) (mkL l).length a k=true→(k:Int)∈s.2.flatten
  nd:s.2.flatten.Nodup
  cov:∀ (j:Nat) (hj:j<s.2.length),∀ n∈s.2[j],∀ k:Nat,coX (mkL l) n.toNat k=true→(k:Int)∈(s.2.take j).flatten
  pts:∀ p∈s.2,∃ j,j<l.length∧firstN l j=j∧p=ptI l j
theorem QT {l:List Tm} (h:okG l) {n:Nat} (hn:n<l.length) {x:Int} (hx:x∈ptI l n) (hne:x.toNat≠n):rcB (cdL (mkL l)) (mkL l).length n x.toNat=true∧rcB (cdL (mkL l)) (mkL l).length x.toNat n=true:=by
  rw [V4] at hx
  have:=hx.2.2.2
  rw [K4 h hn (by omega) hne] at this
  unfold prB at this
  rw [Bool.and_eq_true] at this
  simp only [Int.toNat_natCast] at this
  exact this
theorem G8 {l:List Tm} (h:okG l) {s:List Bool×List (List Int)} (h8:s.1.length=8) (I:paI l s) {j:Nat} (hj:j<l.length) (hg:goodB l s.1 j=true):paI l (Tp s.1 (ptI l j),s.2++[ptI l j]):=by
  have hm:=h.mkL
  have hml:=ZQ l
  have hl8:=h.hi
  have hcl:=XS hm.ok
  obtain ⟨hf,ht,hp⟩:=goodB_iff.1 hg
  have hk:∀ k∈ptI l j,k.toNat<s.1.length:=fun k hk=>by have:=T6 hk;omega
  have inI:∀ a:Nat,a∈(ptI l j).map Int.toNat↔(a:Int)∈ptI l j:=fun a=>by
    rw [mem_map]
    constructor
    · rintro ⟨x,hx,rfl⟩
      have:=T6 hx
      rwa [Int.toNat_of_nonneg this.1]
    · intro ha;exact ⟨_,ha,by simp⟩
  have hjt:((j:Nat):Int)∉s.2.flatten:=fun q=>by rw [(I.tk j).2 q] at ht;cases ht
  -- nothing of the part is taken
  have hdis:∀ x∈ptI l j,x∉s.2.flatten:=fun x hx q=>by
    by_cases e:x.toNat=j
    · have b:=T6 hx
      exact hjt (by rw [← e,Int.toNat_of_nonneg b.1];exact q)
    · have b:=T6 hx
      have r:=QT h hj hx e
      exact hjt (I.cls x.toNat (by rw [Int.toNat_of_nonneg b.1];exact q) j r.2)
  -- one call on
  have one:∀ a k:Nat,(a:Int)∈ptI l j→k∈cdG (cdL (mkL l)) a→(k:Int)∈ptI l j∨(k:Int)∈s.2.flatten:=fun a k ha hc=>by
    have q:=all_eq_true.1 hp _ ha
    have q2:=all_eq_true.1 q (k:Int) (by rw [Int.toNat_natCast];exact (Px hm).1 hc)
    rw [Bool.or_eq_true,Int.toNat_natCast,decide_eq_true_eq] at q2
    rcases q2 with q2 | q2
    · exact .inr ((I.tk k).1 q2)
    · exact .inl q2
  have all:∀ a k:Nat,(a:Int)∈ptI l j→rcB (cdL (mkL l)) (mkL l).length a k=true→(k:Int)∈ptI l j∨(k:Int)∈s.2.flatten:=fun a k ha hr=>by
    have:=XU (R:=fun i j=>j∈cdG (cdL (mkL l)) i) (T:=fun a k=>((a:Int)∈ptI l j∨(a:Int)∈s.2.flatten)→((k:Int)∈ptI l j∨(k:Int)∈s.2.flatten))
      (fun a k hc ha=>by
        rcases ha with ha | ha
        · exact one a k ha hc
        · exact .inr (I.cls a ha k (XL hc))) (fun a b c h1 h2 ha=>h2 (h1 ha)) (rcB_iff.1 hr)
    exact this (.inl ha)
  refine ⟨fun a=>?_,fun x hx=>?_,fun a ha k hr=>?_,?_,fun i hi n hn k hx=>?_,fun p hp=>?_⟩
  · rw [QJ _ _ _ hk,Bool.or_eq_true,decide_eq_true_eq,I.tk a,inI a,flatten_append,mem_append]
    simp
  · rw [flatten_append,mem_append] at hx
    rcases hx with hx | hx
    · exact I.fst x hx
    · have hx:x∈ptI l j:=by simpa using hx
      rw [V4] at hx;exact ⟨hx.1,hx.2.1,hx.2.2.1⟩
  · rw [flatten_append,mem_append] at ha ⊢
    rcases ha with ha | ha
    · exact .inl (I.cls a ha k hr)
    · rcases all a k (by simpa using ha) hr with q | q
      · exact .inr (by simpa using q)
      · exact .inl q
  · rw [flatten_append,nodup_append]
    refine ⟨I.nd,?_,fun x hx y hy e=>?_⟩
    · simp only [flatten_cons,flatten_nil,append_nil]
      have hnd:((range l.length).filter fun k=>decide (firstN l k=k)&&tgB (mkL l) j k).Nodup:=List.nodup_range.sublist List.filter_sublist
      unfold ptI ptTo
      have key:∀ L:List Nat,L.Nodup→(L.map Int.ofNat).Nodup:=by
        intro L
        induction L with
        | nil=>intro _;simp
        | cons a L ih=>
          intro hL
          rw [nodup_cons] at hL
          rw [map_cons,nodup_cons]
          refine ⟨fun q=>?_,ih hL.2⟩
          obtain ⟨b,hb,e⟩:=mem_map.1 q
          injection e with e
          exact hL.1 (e▸hb)
      exact key _ hnd
    · subst e
      exact hdis x (by simpa using hy) hx
  · by_cases c:i<s.2.length
    · have hn:n∈s.2[i]:=by rwa [getElem_append_left c] at hn
      rw [List.take_append_of_le_length (by omega)]
      exact I.cov i c n hn k hx
    · have ei:i=s.2.length:=by rw [length_append] at hi;simp at hi;omega
      subst ei
      have hn:n∈ptI l j:=by simpa using hn
      rw [List.take_left]
      have hnb:=T6 hn
      have en:((n.toNat:Nat):Int)=n:=by omega
      unfold coX at hx
      rw [Bool.and_eq_true,Bool.not_eq_true',decide_eq_false_iff_not] at hx
      have hkl:=QS hcl hx.2
      rcases all n.toNat k (by rw [en];exact hn) hx.2 with q | q
      · refine absurd ?_ hx.1
        rw [VF hm.ok (by omega) (by omega) (by omega)]
        by_cases e:k=n.toNat
        · left;omega
        · right
          have toj:∀ y:Nat,(y:Int)∈ptI l j→y≠j→rcB (cdL (mkL l)) (mkL l).length j y=true∧rcB (cdL (mkL l)) (mkL l).length y j=true:=fun y hy hne=>by
            have:=QT h hj hy (by simpa using hne)
            simpa using this
          unfold prB
          rw [Bool.and_eq_true]
          simp only [Int.toNat_natCast]
          refine ⟨hx.2,?_⟩
          by_cases ek:k=j
          · subst ek
            exact (toj n.toNat (by rw [en];exact hn) (fun q=>e q.symm)).1
          · have r1:=toj k q ek
            by_cases enj:n.toNat=j
            · rw [enj];exact r1.2
            · exact Z9 hcl r1.2 (toj n.toNat (by rw [en];exact hn) enj).1
      · exact q
  · rw [mem_append,mem_singleton] at hp
    rcases hp with hp | hp
    · exact I.pts p hp
    · exact ⟨j,hj,hf,hp⟩
theorem G7 (l:List Tm):paI l (replicate 8 false,[]):=by
  refine ⟨fun a=>?_,fun x hx=>by simp at hx,fun a ha=>by simp at ha,by simp,fun j hj=>by simp at hj,fun p hp=>by simp at hp⟩
  have:(replicate 8 false).getD a false=false:=by rw [getD_eq_getElem?_getD,getElem?_replicate];split <;> rfl
  rw [this];simp
theorem Js {l:List Tm} (h:okG l):∀ i,paI l (runP l i)
  | 0=>G7 l
  | i + 1=>by
    have I:=Js h i
    rw [runP]
    by_cases c:∃ j,j<l.length∧goodB l (runP l i).1 j=true
    · obtain ⟨j0,hj0,hg0⟩:=c
      obtain ⟨j,e,hj,hg,hm⟩:=Xe hj0 hg0
      rw [Vu hj hg hm]
      exact G8 h (UD l i) I hj hg
    · rw [Ux fun j hj=>by
        cases q:goodB l (runP l i).1 j with
        | false=>rfl
        | true=>exact absurd ⟨j,hj,q⟩ c]
      exact I
theorem RO {l:List Tm} (h:okG l):paI l ((runP l 8).1,paL l):=Js h 8
theorem Jr {l :List Tm} (h:okG l) {n:Nat} (hn:n<l.length) (hf:firstN l n=n):(n:Int)∈(paL l).flatten:=by
  have hm:=h.mkL
  have hml:=ZQ l
  have I:=RO h
  have hcl:=XS hm.ok
  have key:∀ r n:Nat,rkM (mkL l) n≤r→n<l.length→firstN l n=n→(n:Int)∈(paL l).flatten:=by
    intro r
    induction r with
    | zero=>
      intro n hr hn hf
      have:0<rkM (mkL l) n:=List.countP_pos_iff.2 ⟨n,mem_range.2 (by omega),by simp⟩
      omega
    | succ r ih=>
      intro n hr hn hf
      apply Classical.byContradiction
      intro hnot
      have ht:(runP l 8).1.getD n false=false:=by
        cases q:(runP l 8).1.getD n false with
        | false=>rfl
        | true=>exact absurd ((I.tk n).1 q) hnot
      have hg :goodB l (runP l 8).1 n=true:=by
        refine goodB_iff.2 ⟨hf,ht,all_eq_true.2 fun k hk=>all_eq_true.2 fun c hc=>?_⟩
        rw [Bool.or_eq_true,decide_eq_true_eq]
        have hcb:=TR hm hc
        have hcd:=(Px hm (j:=c.toNat)).2 (by rwa [Int.toNat_of_nonneg hcb.1])
        have hfc:=(QR h (N:=(mkL l).length) (XL hcd)).2
        have hkb:=T6 hk
        have hrc:rcB (cdL (mkL l)) (mkL l).length n c.toNat=true:=by
          by_cases e:k.toNat=n
          · rw [e] at hcd;exact XL hcd
          · exact Z9 hcl (QT h hn hk e).1 (XL hcd)
        by_cases hin:c∈ptI l n
        · exact .inr hin
        · left
          have hne:c.toNat≠n:=fun e=>hin (by have:=LU hn hf;rw [← e,Int.toNat_of_nonneg hcb.1] at this;rwa [← e])
          have hcx:coX (mkL l) n c.toNat=true:=by
            unfold coX
            rw [Bool.and_eq_true,Bool.not_eq_true',decide_eq_false_iff_not]
            refine ⟨fun q=>?_,hrc⟩
            rw [VF hm.ok (by omega) (by omega) (by omega)] at q
            rcases q with q | q
            · exact hne (by omega)
            · refine hin ?_
              rw [V4]
              refine ⟨hcb.1,by omega,hfc,?_⟩
              rw [K4 h hn (by omega) hne]
              exact q
          have:=WS hm.ok (by omega) hcx
          exact (I.tk c.toNat).2 (ih c.toNat (by omega) (by omega) hfc)
      have:=TC (l:=l) h.hi
      obtain ⟨j,e,hj,hgj,hmn⟩:=Xe hn hg
      rw [Vu hj hgj hmn] at this
      have:=congrArg (fun s=>s.2.length) this
      simp at this
  exact key _ n (Nat.le_refl _) hn hf
theorem ID {d m:Int} (t:Tm) (cs:List Value) (H:Heap) (ht:RT H cs t) (hc:ZG d m t=0):CT prog 121 ⟨[.agg ⟨cs⟩]⟩ [] H (fun r N=>∃ k,N=[k]∧Own 3 1 r (Z2 (sfR t)) k):=by
  have hz:sizeT t≤400000:=by
    have h:=(checkR_iff.1 hc).1
    apply Classical.byContradiction;intro q
    rw [(WW t).2 (.inl (by omega))] at h;cases h
  have z:=Rd t cs H ht hz
  rwa [O2 hc] at z
section
attribute [local irreducible] JL J CT wlo DT
set_option maxHeartbeats 2000000 in
theorem IH:∀ (l:List Tm) (hm:okG (mkL l)) (gb bP bO bW:Nat) (vm vc vf ff:Value) (f:Nat) (n:Int) (fl:List Bool) (H:Heap),0≤n→n<((mkL l).length:Int)→fl.length=8→Xm fl<f→H bP=some (.cells ⟨[pp gb 0]⟩ 86 (0,0))→H gb=some (.cells ⟨[vm,vc,vf,ff]⟩ 91 (0,0))→GR H l vm vc vf→H bW=some (.cells ⟨[.func (.func 101) ⟨[]⟩ ⟨[pp bP 0,pp bO 0,pp bW 0]⟩]⟩ 148 (0,0))→CT prog 101 ⟨[iv n,pp bP 0,pp bO 0,pp bW 0]⟩ [(BX bO (bls fl) 93)] H (fun _ N=>N=[(BX bO (bls (wkF (clG (mkL l)) f n.toNat fl)) 93)]):=by
 intro l hm gb bP bO bW vm vc vf ff f
 induction f using Nat.strongRecOn with
 | ind f ih=>
 intro n fl H h0 h1 hf0 hu hP hG hr hW
 have hcl:=Wo (mkL l)
 have hm8:=hm.hi
 have hcn:clG (mkL l) n.toNat=(Xu (mkL l))[n.toNat]:=YO (by omega)
 have hcz:((Xu (mkL l))[n.toNat]).length≤1000000:=CP hm (by omega)
 refine Zl func101 rfl rfl<|Zd<|JLr (Zc Qz rfl (ZcN hP) rfl<|JLq (pp gb 0) (Pu.nilCheck rfl)<|JLq (pp gb 0) (Vo rfl rfl)<|JLq (pp gb 1) (Kn rfl rfl)<|JLr (Zc DI rfl (ZcN hG) rfl<|JLM rfl ?_))
 obtain ⟨b1,o1,cap1,row1,T1,fr1,cs1,hv1,hb1,hs1,hE1⟩:=hr.c.get n.toNat (by omega)
 obtain ⟨vb1,rfl,hvb1⟩:=hE1
 refine JLq (pp b1 (o1+n.toNat*1)) (Pu.idx n.toNat RF YL hv1 rfl (by first | rfl | omega) (by omega))<|JLr (Zc YL rfl (ZcN hb1) (ZP hs1) ?_)
 obtain ⟨a2,cap2,hv2⟩:=hvb1.sl
 have hle2:=hvb1.le
 refine JLn (ZcM ZS hv2)<|JLM rfl<|Za<|Zm<|ZD (fun k ρ M=>∃ (j:Nat) (fj:List Bool),Z7 ρ [(2,pp bO 0),(3,pp bW 0),(14,vb1),(15,iv ((((Xu (mkL l))[n.toNat]).length:Int))),(16,iv ((j:Int)))]=ρ∧Sub [(BX bO (bls fj) 93)] M∧j≤((Xu (mkL l))[n.toNat]).length∧fj=wkS (clG (mkL l)) (f-1) (((Xu (mkL l))[n.toNat]).take j) fl∧k=((Xu (mkL l))[n.toNat]).length-j) _ ⟨0,fl,Zp rfl,(Sk Sub.nil),Nat.zero_le _,rfl,rfl⟩ ?_
 rintro _ ρ3 _ ⟨j,fj,e4,hm9,hj,hfj,rfl⟩
 obtain ⟨ρ10,rfl⟩:=Zi e4
 clear e4
 refine ZF hm9 ?_
 have hkP:=(Au hm (f-1)).2 n.toNat (((Xu (mkL l))[n.toNat]).take j) fl (fun x hx=>by have:=List.mem_of_mem_take hx;rwa [← hcn] at this) hf0 (by omega)
 rw [← hfj] at hkP
 have hf8:fj.length=8:=hkP.len.trans hf0
 have hun:=hkP.un
 refine Zd<|JLn (Pu.lss rfl rfl)<|Za<|Zg<|ZN rfl (fun h11=>?_) (fun h11=>?_)
 ·have h11n:j<((Xu (mkL l))[n.toNat]).length:=by omega
  have hxr:=TR hm (i:=n.toNat) (x:=((Xu (mkL l))[n.toNat])[j]) (by rw [hcn];exact getElem_mem h11n)
  refine Zo<|Zg<|Zm<|Zg<|Ze ?_
  obtain ⟨b12,o12,cap12,row12,T12,fr12,cs12,hv12,hb12,hs12,hE12⟩:=hvb1.get j (by omega)
  refine JLn (Pu.idx j ZS ty3 hv12 rfl rfl (by omega))<|JLr (Zc ty3 rfl (ZcN hb12) (ZP ((show cs12=[Value.int .i64 (((Xu (mkL l))[n.toNat])[j])] from hE12)▸hs12))<|JAn rfl<|Zd<|JLM rfl<|JLq (pp bO (0+(((Xu (mkL l))[n.toNat])[j]).toNat*1)) (ZcQ (((Xu (mkL l))[n.toNat])[j]).toNat LA ty4 rfl rfl (by first | rfl | omega) (by omega))<|JLr (Zc ty4 rfl (ZcK 0 rfl) (X2 (by have hbl:List.length fj=8:=hf8;omega))<|JLn (Pu.not rfl)<|Za<|Zt rfl (fun h13=>?_) (fun h13=>?_)))
  ·replace h13:=nt h13
   refine Zd<|JLM rfl<|JLq (pp bO (0+(((Xu (mkL l))[n.toNat])[j]).toNat*1)) (ZcQ (((Xu (mkL l))[n.toNat])[j]).toNat LA ty4 rfl rfl (by first | rfl | omega) (by omega))<|JLr (Zb 0 (vs:=[.bool true]) (l:=bls (fj.set (((Xu (mkL l))[n.toNat])[j]).toNat true)) ty4 rfl rfl rfl rfl rfl (Zh rfl Zq) (PB (by have hbl:List.length fj=8:=hf8;omega))<|Za<|Ze<|JLr (Zc Gf rfl (ZcN hW) rfl<|JLM rfl<|Zs 0 rfl call101 rfl rfl (fun hin=>ih (f-1) (by omega) _ _ _ (by omega) (by omega) (by rw [length_set];omega) (by have:=S7 (l:=fj) (k:=(((Xu (mkL l))[n.toNat])[j]).toNat) (by omega) (by simpa using h13);omega) (Hle.hu _ _ _ _ hP) (Hle.hu _ _ _ _ hG) (GR.mono (Hle.hu _ _) hr) (Hle.hu _ _ _ _ hW)) rfl ?_))
   rintro _ _ rfl
   refine Za<|Ze<|JLn (ZcP rfl rfl (by omega))<|JLM rfl<|Za<|⟨_,?_,(j+1),(wkF (clG (mkL l)) (f-1) (((Xu (mkL l))[n.toNat])[j]).toNat (fj.set (((Xu (mkL l))[n.toNat])[j]).toNat true)),Zp rfl,(Sk Sub.nil),?_,?_,rfl⟩
   ·omega
   ·omega
   rw [NY _ _ _ h11n,← hfj,if_neg (by simpa using h13)]
  replace h13:=nf h13
  refine Zo<|Ze<|JLn (ZcP rfl rfl (by omega))<|JLM rfl<|Za<|⟨_,?_,(j+1),fj,Zp rfl,(Sk Sub.nil),?_,?_,rfl⟩
  ·omega
  ·omega
  rw [NY _ _ _ h11n,← hfj,if_pos (by simpa using h13)]
 have h11n:((Xu (mkL l))[n.toNat]).length≤j:=by omega
 refine ZC _ rfl<|⟨.tuple ⟨[]⟩,[(BX bO (bls fj) 93)],Ret.none rfl,(Sk Sub.nil),?_⟩
 rw [take_of_length_le h11n] at hfj
 rw [DC (by omega),hcn,← hfj]
theorem WT (l:List Tm) (hm:okG (mkL l)) (gb:Nat) (vm vc vf ff:Value) (H:Heap) (hG:H gb=some (.cells ⟨[vm,vc,vf,ff]⟩ 91 (0,0))) (hr:GR H l vm vc vf) (hff:ff.oneCell'=true) (n:Int) (h0:0≤n) (h1:n<((mkL l).length:Int)):CT prog 51 ⟨[pp gb 0,iv n]⟩ [] H (fun v N=>v=.agg ⟨bls (rcF (mkL l) n.toNat)⟩∧N=[]):=by
 refine Zl func51 rfl rfl<|Zd<|JLr (Zr (l:=[pp gb 0]) rfl rfl fun b1=>JLr (Zk (l:=bls (replicate 8 false)) zeroValue93 rfl fun b2=>Za<|Zd<|JLr (Zk (l:=bls (replicate 8 false)) zeroValue93 rfl fun b3=>Za<|Zd<|JLr (Zk (l:=[.nilFunc]) zeroValue148 rfl fun b4=>?_))))
 refine Za<|Zd<|JLq (.func (.func 101) ⟨[]⟩ ⟨[pp b1 0,pp b3 0,pp b4 0]⟩) (Pu.makeFunc rfl rfl)<|JLr (Zb 0 (vs:=[.func (.func 101) ⟨[]⟩ ⟨[pp b1 0,pp b3 0,pp b4 0]⟩]) (l:=[.func (.func 101) ⟨[]⟩ ⟨[pp b1 0,pp b3 0,pp b4 0]⟩]) Gf rfl rfl rfl rfl rfl (Zh rfl Zq) rfl<|Za<|Zd<|JLr (Zc Gf rfl (ZcK 0 rfl) rfl<|JLM rfl<|Zs 1 rfl call101 rfl rfl (fun hin=>IH l hm gb _ _ _ vm vc vf ff 9 n (replicate 8 false) _ h0 h1 (length_replicate ..) (by decide) (hin 2 _ rfl _ _ mem_cons_self) (Hle.hu _ _ _ _ hG) (GR.mono (Hle.hu _ _) hr) (hin 0 _ rfl _ _ mem_cons_self)) rfl ?_))
 rintro _ _ rfl
 refine Za<|Zd<|JLr (Zn DG rfl (ZcK 0 rfl) (Zx ((Vi _).trans (by rw [Qw hm];exact XK ..)))<|JLr (Zb 2 (vs:=bls (wkF (clG (mkL l)) 9 n.toNat (replicate 8 false))) (l:=bls (wkF (clG (mkL l)) 9 n.toNat (replicate 8 false))) DG rfl rfl rfl rfl ((Vi _).trans (by rw [Qw hm];exact XK ..)) (EZ _) (ZY (n:=8) ((Vi _).trans (length_replicate ..)) ((Vi _).trans (by rw [Qw hm];exact XK ..)))<|Za<|Zz<|⟨.agg ⟨bls (wkF (clG (mkL l)) 9 n.toNat (replicate 8 false))⟩,[],Ret.one rfl (RV.cell DG rfl (ZcK 2 rfl) (Zx ((Vi _).trans (by rw [Qw hm];exact XK ..)))),Sub.nil,?_⟩))
 exact ⟨by rw [Qw hm],rfl⟩
theorem N1 (l:List Tm) (hm:okG (mkL l)) (gb:Nat) (vm vc vf ff:Value) (H:Heap) (hG:H gb=some (.cells ⟨[vm,vc,vf,ff]⟩ 91 (0,0))) (hr:GR H l vm vc vf) (hff:ff.oneCell'=true) (a b:Int) (h0:0≤a) (h1:a<((mkL l).length:Int)) (h2:0≤b) (h3:b<((mkL l).length:Int)):CT prog 172 ⟨[pp gb 0,iv a,iv b]⟩ [] H (fun v N=>v=.bool (tgB (mkL l) a.toNat b.toNat)∧N=[]):=by
 have hm8:=hm.hi
 refine Zl func172 rfl rfl<|Zd<|JAn rfl<|Zd<|JLM rfl<|JLM rfl<|JLn (Pu.eql rfl rfl)<|JLM rfl<|ZK 21 [11,12,13,14,15,16,17,18,19,20,21,22,23,24,25,26,27,28,29,30,31] [(31,cond (decide (a=b)) undef (.bool (((decide (rcF (mkL l) a.toNat=rcF (mkL l) b.toNat))&&((rcF (mkL l) a.toNat).getD a.toNat false))&&((rcF (mkL l) a.toNat).getD b.toNat false))))] ?_ fun f6=>?_
 ·cases h1:(decide (a=b)) with
  | false=>
   replace h1:=df h1
   refine JLM rfl<|JLM rfl<|Jc call51 rfl (fun hin=>WT l hm gb vm vc vf ff _ (Hle.hu _ _ _ _ hG) (GR.mono (Hle.hu _ _) hr) hff a (by omega) (by omega)) rfl ?_
   rintro _ _ ⟨rfl,rfl⟩
   refine JLM rfl<|JLM rfl<|Jc call51 rfl (fun hin=>WT l hm gb vm vc vf ff _ (Hle.hu _ _ _ _ hG) (GR.mono (Hle.hu _ _) hr) hff b (by omega) (by omega)) rfl ?_
   rintro _ _ ⟨rfl,rfl⟩
   refine JLq (.bool (decide (rcF (mkL l) a.toNat=rcF (mkL l) b.toNat))) (HL eqGuardType93 underlying93 underlying4 sizeOf4 rfl rfl (XK ..) (XK ..))<|JLM rfl<|ZK 5 [19,20,21,22,23] [(23,cond (decide (rcF (mkL l) a.toNat=rcF (mkL l) b.toNat)) (.bool ((rcF (mkL l) a.toNat).getD a.toNat false)) undef)] ?_ fun f3=>?_
   ·cases h2:(decide (rcF (mkL l) a.toNat=rcF (mkL l) b.toNat)) with
    | true=>
     replace h2:=dt h2
     refine JLM rfl<|JLM rfl<|Jc call51 rfl (fun hin=>WT l hm gb vm vc vf ff _ (Hle.hu _ _ _ _ hG) (GR.mono (Hle.hu _ _) hr) hff a (by omega) (by omega)) rfl ?_
     rintro _ _ ⟨rfl,rfl⟩
     refine JLM rfl<|JLq (.bool ((rcF (mkL l) a.toNat).getD a.toNat false)) (Zdb a.toNat LA ty4 rfl rfl (by first | rfl | omega) (by omega) (E0 (by have hbl:List.length (rcF (mkL l) a.toNat)=8:=(XK ..);omega))) ?_
     exact Za ⟨⟨rfl,trivial⟩,rfl⟩
    | false=>
     exact Z1 rfl ⟨rfl,trivial⟩
   refine JLn (ZcR rfl rfl rfl)<|JLM rfl<|ZK 5 [26,27,28,29,30] [(30,cond ((decide (rcF (mkL l) a.toNat=rcF (mkL l) b.toNat))&&((rcF (mkL l) a.toNat).getD a.toNat false)) (.bool ((rcF (mkL l) a.toNat).getD b.toNat false)) undef)] ?_ fun f5=>?_
   ·cases h4:((decide (rcF (mkL l) a.toNat=rcF (mkL l) b.toNat))&&((rcF (mkL l) a.toNat).getD a.toNat false)) with
    | true=>
     obtain ⟨h4a,h4b⟩:=Xx h4
     replace h4a:=dt h4a
     refine JLM rfl<|JLM rfl<|Jc call51 rfl (fun hin=>WT l hm gb vm vc vf ff _ (Hle.hu _ _ _ _ hG) (GR.mono (Hle.hu _ _) hr) hff a (by omega) (by omega)) rfl ?_
     rintro _ _ ⟨rfl,rfl⟩
     refine JLM rfl<|JLq (.bool ((rcF (mkL l) a.toNat).getD b.toNat false)) (Zdb b.toNat LA ty4 rfl rfl (by first | rfl | omega) (by omega) (E0 (by have hbl:List.length (rcF (mkL l) a.toNat)=8:=(XK ..);omega))) ?_
     exact Za ⟨⟨rfl,trivial⟩,rfl⟩
    | false=>
     exact Z1 rfl ⟨rfl,trivial⟩
   refine JLn (ZcR rfl rfl rfl) ?_
   exact Za ⟨⟨rfl,trivial⟩,rfl⟩
  | true=>
   exact Z1 rfl ⟨rfl,trivial⟩
 refine JLn (ZcT rfl rfl rfl)<|JAn rfl<|ZE (.bool ((decide (a=b))||(((decide (rcF (mkL l) a.toNat=rcF (mkL l) b.toNat))&&((rcF (mkL l) a.toNat).getD a.toNat false))&&((rcF (mkL l) a.toNat).getD b.toNat false)))) [] Sub.nil (?_)
 exact ⟨congrArg Value.bool (Zbe h0 h2 ..),rfl⟩
theorem Ea (g:Nat) (fs cv:List Value) (hcall:∀ args w,(callFunc g args).run prog w=.ok (.enter g args) w) (p:Nat→Bool) (l:List Tm) (v:Value) (H:Heap) (hl:Hs.rdS RT 36 H v l) (hg:∀ (j:Nat) (hj:j<l.length) (a:List Value) (h:Heap),Hle H h→RT h a l[j]→CT prog g ⟨fs++[.agg ⟨a⟩]++cv⟩ [] h (fun v N=>v=.bool (p j)∧N=[])):CT prog 68 ⟨[v,.func (.func g) ⟨fs⟩ ⟨cv⟩]⟩ [] H (fun v N=>v=iv (YQ p l.length)∧N=[]):=by
 refine Zl func68 rfl rfl<|Zd<|JAn rfl<|Zg<|Zd<|JLm v ?_
 obtain ⟨a1,cap1,hv1⟩:=hl.sl
 have hle1:=hl.le
 refine JLn (ZcM ZI hv1)<|JLM rfl<|Za<|Zm<|ZD (fun k ρ M=>∃ (j:Nat),Z7 ρ [(0,v),(1,.func (.func g) ⟨fs⟩ ⟨cv⟩),(4,iv 0),(7,iv ((l.length:Int))),(8,iv ((j:Int)))]=ρ∧Sub [] M∧j≤l.length∧(∀ i,i<j→p i=false)∧k=l.length-j) _ ⟨0,Zp rfl,Sub.nil,Nat.zero_le _,fun i hi=>absurd hi (by omega),rfl⟩ ?_
 rintro _ ρ2 _ ⟨j,e3,hm8,hj,hm,rfl⟩
 obtain ⟨ρ9,rfl⟩:=Zi e3
 clear e3
 refine ZF hm8<|Zd<|JLn (Pu.lss rfl rfl)<|Za<|Zg<|ZN rfl (fun h10=>?_) (fun h10=>?_)
 ·have h10n:j<l.length:=by omega
  have hlenl:=hl.le
  refine Zo<|Zg<|Zm<|Zd<|JLM rfl<|JAn rfl<|Zd<|JLM rfl<|JLm v<|JLM rfl ?_
  obtain ⟨b11,o11,cap11,row11,T11,fr11,cs11,hv11,hb11,hs11,hE11⟩:=hl.get j (by omega)
  refine JLn (Pu.idx j ZI Zu hv11 rfl rfl (by omega))<|JLr (Zn Zu rfl (ZcN hb11) hs11<|Jc hcall rfl (fun hin=>hg _ h10n _ _ (Hle.hu _ _) (RT.mono (Hle.hu _ _) hE11)) rfl ?_)
  rintro _ _ ⟨rfl,rfl⟩
  refine Za<|Zt rfl (fun h12=>?_) (fun h12=>?_)
  ·refine Zd<|JLM rfl<|JAn rfl<|ZE (iv ((j:Int))) [] Sub.nil (?_)
   exact ⟨by rw [Sz h10n (by simpa using h12) hm],rfl⟩
  refine Zo<|Ze<|JLn (ZcP rfl rfl (by omega))<|JLM rfl<|Za<|⟨_,?_,(j+1),Zp rfl,Sub.nil,?_,?_,rfl⟩
  ·omega
  ·omega
  intro i hi;by_cases h1:i<j;exact hm i h1;(obtain rfl:i=j:=by omega);simpa using h12
 have h10n:l.length≤j:=by omega
 refine ZC _ rfl<|Zd<|JAn rfl<|ZE (iv (-1)) [] Sub.nil (?_)
 exact ⟨by rw [Wb fun i hi=>hm i (by omega)],rfl⟩
theorem Eb (g:Nat) (fs cv:List Value) (hcall:∀ args w,(callFunc g args).run prog w=.ok (.enter g args) w) (p:Nat→Bool) (l:List (Int×Int)) (v:Value) (H:Heap) (hl:Hs.rdS RK 2 H v l) (hg:∀ (j:Nat) (hj:j<l.length) (a:List Value) (h:Heap),Hle H h→RK h a l[j]→CT prog g ⟨fs++[.agg ⟨a⟩]++cv⟩ [] h (fun v N=>v=.bool (p j)∧N=[])):CT prog 170 ⟨[v,.func (.func g) ⟨fs⟩ ⟨cv⟩]⟩ [] H (fun v N=>v=iv (YQ p l.length)∧N=[]):=by
 refine Zl func170 rfl rfl<|Zd<|JAn rfl<|Zg<|Zd<|JLm v ?_
 obtain ⟨a1,cap1,hv1⟩:=hl.sl
 have hle1:=hl.le
 refine JLn (ZcM ON hv1)<|JLM rfl<|Za<|Zm<|ZD (fun k ρ M=>∃ (j:Nat),Z7 ρ [(0,v),(1,.func (.func g) ⟨fs⟩ ⟨cv⟩),(4,iv 0),(7,iv ((l.length:Int))),(8,iv ((j:Int)))]=ρ∧Sub [] M∧j≤l.length∧(∀ i,i<j→p i=false)∧k=l.length-j) _ ⟨0,Zp rfl,Sub.nil,Nat.zero_le _,fun i hi=>absurd hi (by omega),rfl⟩ ?_
 rintro _ ρ2 _ ⟨j,e3,hm8,hj,hm,rfl⟩
 obtain ⟨ρ9,rfl⟩:=Zi e3
 clear e3
 refine ZF hm8<|Zd<|JLn (Pu.lss rfl rfl)<|Za<|Zg<|ZN rfl (fun h10=>?_) (fun h10=>?_)
 ·have h10n:j<l.length:=by omega
  have hlenl:=hl.le
  refine Zo<|Zg<|Zm<|Zd<|JLM rfl<|JAn rfl<|Zd<|JLM rfl<|JLm v<|JLM rfl ?_
  obtain ⟨b11,o11,cap11,row11,T11,fr11,cs11,hv11,hb11,hs11,hE11⟩:=hl.get j (by omega)
  refine JLn (Pu.idx j ON W9 hv11 rfl rfl (by omega))<|JLr (Zn W9 rfl (ZcN hb11) hs11<|Jc hcall rfl (fun hin=>hg _ h10n _ _ (Hle.hu _ _) (RK.mono (Hle.hu _ _) hE11)) rfl ?_)
  rintro _ _ ⟨rfl,rfl⟩
  refine Za<|Zt rfl (fun h12=>?_) (fun h12=>?_)
  ·refine Zd<|JLM rfl<|JAn rfl<|ZE (iv ((j:Int))) [] Sub.nil (?_)
   exact ⟨by rw [Sz h10n (by simpa using h12) hm],rfl⟩
  refine Zo<|Ze<|JLn (ZcP rfl rfl (by omega))<|JLM rfl<|Za<|⟨_,?_,(j+1),Zp rfl,Sub.nil,?_,?_,rfl⟩
  ·omega
  ·omega
  intro i hi;by_cases h1:i<j;exact hm i h1;(obtain rfl:i=j:=by omega);simpa using h12
 have h10n:l.length≤j:=by omega
 refine ZC _ rfl<|Zd<|JAn rfl<|ZE (iv (-1)) [] Sub.nil (?_)
 exact ⟨by rw [Wb fun i hi=>hm i (by omega)],rfl⟩
theorem Ec (g:Nat) (fs cv:List Value) (hcall:∀ args w,(callFunc g args).run prog w=.ok (.enter g args) w) (p:Nat→Bool) (l:List Int) (v:Value) (H:Heap) (hl:Hs.rdS RI 1 H v l) (hg:∀ (j:Nat) (hj:j<l.length) (h:Heap),Hle H h→CT prog g ⟨fs++[iv l[j]]++cv⟩ [] h (fun v N=>v=.bool (p j)∧N=[])):CT prog 204 ⟨[v,.func (.func g) ⟨fs⟩ ⟨cv⟩]⟩ [] H (fun v N=>v=iv (YQ p l.length)∧N=[]):=by
 refine Zl func204 rfl rfl<|Zd<|JAn rfl<|Zg<|Zd<|JLm v ?_
 obtain ⟨a1,cap1,hv1⟩:=hl.sl
 have hle1:=hl.le
 refine JLn (ZcM ZS hv1)<|JLM rfl<|Za<|Zm<|ZD (fun k ρ M=>∃ (j:Nat),Z7 ρ [(0,v),(1,.func (.func g) ⟨fs⟩ ⟨cv⟩),(4,iv 0),(7,iv ((l.length:Int))),(8,iv ((j:Int)))]=ρ∧Sub [] M∧j≤l.length∧(∀ i,i<j→p i=false)∧k=l.length-j) _ ⟨0,Zp rfl,Sub.nil,Nat.zero_le _,fun i hi=>absurd hi (by omega),rfl⟩ ?_
 rintro _ ρ2 _ ⟨j,e3,hm8,hj,hm,rfl⟩
 obtain ⟨ρ9,rfl⟩:=Zi e3
 clear e3
 refine ZF hm8<|Zd<|JLn (Pu.lss rfl rfl)<|Za<|Zg<|ZN rfl (fun h10=>?_) (fun h10=>?_)
 ·have h10n:j<l.length:=by omega
  have hlenl:=hl.le
  refine Zo<|Zg<|Zm<|Zd<|JLM rfl<|JAn rfl<|Zd<|JLM rfl<|JLm v<|JLM rfl ?_
  obtain ⟨b11,o11,cap11,row11,T11,fr11,cs11,hv11,hb11,hs11,hE11⟩:=hl.get j (by omega)
  refine JLn (Pu.idx j ZS ty3 hv11 rfl rfl (by omega))<|JLr (Zc ty3 rfl (ZcN hb11) (ZP ((show cs11=[Value.int .i64 (l[j])] from hE11)▸hs11))<|Jc hcall rfl (fun hin=>hg _ h10n _ (Hle.hu _ _)) rfl ?_)
  rintro _ _ ⟨rfl,rfl⟩
  refine Za<|Zt rfl (fun h12=>?_) (fun h12=>?_)
  ·refine Zd<|JLM rfl<|JAn rfl<|ZE (iv ((j:Int))) [] Sub.nil (?_)
   exact ⟨by rw [Sz h10n (by simpa using h12) hm],rfl⟩
  refine Zo<|Ze<|JLn (ZcP rfl rfl (by omega))<|JLM rfl<|Za<|⟨_,?_,(j+1),Zp rfl,Sub.nil,?_,?_,rfl⟩
  ·omega
  ·omega
  intro i hi;by_cases h1:i<j;exact hm i h1;(obtain rfl:i=j:=by omega);simpa using h12
 have h10n:l.length≤j:=by omega
 refine ZC _ rfl<|Zd<|JAn rfl<|ZE (iv (-1)) [] Sub.nil (?_)
 exact ⟨by rw [Wb fun i hi=>hm i (by omega)],rfl⟩
theorem Kl:∀ (g:Nat) (fs cv:List Value) (hcall:∀ args w,(callFunc g args).run prog w=.ok (.enter g args) w) (q:Bool) (x y:Tm) (a b:List Value) (bF bX:Nat) (H:Heap),RT H a x→RT H b y→H bF=some (.cells ⟨[.func (.func g) ⟨fs⟩ ⟨cv⟩]⟩ 105 (0,0))→H bX=some (.cells ⟨a⟩ 51 (0,0))→(∀ (a b:List Value) (h:Heap),Hle H h→RT h a x→RT h b y→CT prog g ⟨fs++[.agg ⟨a⟩,.agg ⟨b⟩]++cv⟩ [] h (fun v N=>v=.bool q∧N=[]))→CT prog 166 ⟨[.agg ⟨b⟩,pp bF 0,pp bX 0]⟩ [] H (fun v N=>v=.bool q∧N=[]):=by
 intro g fs cv hcall q x y a b bF bX H ha hb hF hX hg
 refine Zl func166 rfl rfl<|Zd<|JLr (Zr (l:=b) rfl rfl fun b1=>JAn rfl<|Zd<|JLr (Zc Zbb rfl (ZcN hF) rfl<|JLr (Zn Zu rfl (ZcN hX) (Zx (Zy ha))<|JLr (Zn Zu rfl (ZcK 0 rfl) (Zx (Zy hb))<|Jc hcall rfl (fun hin=>hg _ _ _ (Hle.hu _ _) (RT.mono (Hle.hu _ _) ha) (RT.mono (Hle.hu _ _) hb)) rfl ?_))))
 rintro _ _ ⟨rfl,rfl⟩
 refine JAn rfl<|ZE (.bool q) [] Sub.nil (?_)
 exact ⟨rfl,rfl⟩
set_option maxHeartbeats 1000000 in
theorem Ki (g:Nat) (fs cv:List Value) (hcall:∀ args w,(callFunc g args).run prog w=.ok (.enter g args) w) (p:Nat→Nat→Bool) (l:List Tm) (v:Value) (H:Heap) (hl:Hs.rdS RT 36 H v l) (hn:l.length≤1000000) (hg:∀ (i j:Nat) (hi:i<l.length) (hj:j<l.length) (a b:List Value) (h:Heap),Hle H h→RT h a l[i]→RT h b l[j]→CT prog g ⟨fs++[.agg ⟨a⟩,.agg ⟨b⟩]++cv⟩ [] h (fun v N=>v=.bool (p i j)∧N=[])):CT prog 118 ⟨[v,.func (.func g) ⟨fs⟩ ⟨cv⟩]⟩ [] H (fun r N=>∃ k,N=[k]∧Own 3 1 r (Z2 (fsB p l.length)) k):=by
 refine Zl func118 rfl rfl<|Zd<|JLr (Zr (l:=[.func (.func g) ⟨fs⟩ ⟨cv⟩]) rfl rfl fun b1=>JAn rfl<|Zd<|JAn rfl<|Zg<|Zg<|Ze ?_)
 refine JLm v ?_
 obtain ⟨a2,cap2,hv2⟩:=hl.sl
 have hle2:=hl.le
 refine JLn (ZcM ZI hv2)<|JLM rfl<|Za<|Zm<|ZD (fun k ρ M=>∃ (j:Nat) (y1:Value) (q1:Zf),Z7 ρ [(0,v),(3,pp b1 0),(4,nS),(5,y1),(8,v),(9,iv ((l.length:Int))),(10,iv ((j:Int)))]=ρ∧Sub [q1,(BX b1 [.func (.func g) ⟨fs⟩ ⟨cv⟩] 105)] M∧j≤l.length∧Own 3 1 y1 (Z2 ((fsB p l.length).take j)) q1∧k=l.length-j) _ ⟨0,nS,[],Zp rfl,(ZcL (Sk Sub.nil)),Nat.zero_le _,(show Own 3 1 _ (Z2 []) [] from Own.nil),rfl⟩ ?_
 rintro _ ρ3 _ ⟨j,y1,q1,e4,hm11,hj,how1,rfl⟩
 obtain ⟨ρ12,rfl⟩:=Zi e4
 clear e4
 refine ZF hm11 ?_
 have hlen:=hl.le
 refine Zd<|JLn (Pu.lss rfl rfl)<|Za<|Zg<|ZN rfl (fun h13=>?_) (fun h13=>?_)
 ·have h13n:j<l.length:=by omega
  refine Zo<|Zg<|Zm<|Zg<|Ze ?_
  obtain ⟨b14,o14,cap14,row14,T14,fr14,cs14,hv14,hb14,hs14,hE14⟩:=hl.get j (by omega)
  refine JLn (Pu.idx j ZI Zu hv14 rfl rfl (by omega))<|JLr (Zn Zu rfl (ZcN hb14) hs14<|JLr (Zk (l:=pkT 0 0 zS nS nS) zeroValue51 rfl fun b15=>JLr (Zb 0 (vs:=cs14) (l:=cs14) Zu rfl rfl rfl rfl (Zy hE14) (Y5 hE14) (ZY (n:=36) rfl (Zy hE14))<|Za<|Ze<|JLm y1<|JLm v<|JLq (.func (.func 166) ⟨[]⟩ ⟨[pp b1 0,pp b15 0]⟩) (Pu.makeFunc rfl rfl)<|Jc call68 rfl (fun hin=>Ea _ [] _ call166 (p j) l _ _ (RTs.mono (Hle.hu _ _) hl) (fun k hk b h hh rb=>Kl g fs cv hcall (p j k) _ _ _ _ _ _ _ (RT.mono hh (RT.mono (Hle.hu _ _) hE14)) rb (hh _ _ (hin 2 _ rfl _ _ mem_cons_self)) (hh _ _ (hin 0 _ rfl _ _ mem_cons_self)) (fun a b h2 h3 ra rb=>hg j k h13n hk a b h2 (Hle.trans (Hle.hu _ _) (Hle.trans hh h3)) ra rb))) rfl ?_)))
  rintro _ _ ⟨rfl,rfl⟩
  refine JLr (Zj (vs:=[iv (YQ (p j) l.length)]) [[iv (YQ (p j) l.length)]] ZS el3 rfl rfl (al1 rfl) rfl (by decide) fun b17 k17 ho17 hk17=>?_)
  have hlens18:∀ e∈([[iv (YQ (p j) l.length)]]:List (List Value)),List.length e=1:=al1 rfl
  have hoks18:∀ e∈([[iv (YQ (p j) l.length)]]:List (List Value)),okc e:=al1 (Zh rfl Zq)
  refine JLr (ZA (i:=2) (n:=1) (es':=[[iv (YQ (p j) l.length)]]) ZS ZS (Or.inl rfl) el3 rfl rfl rfl how1 (fun F w m=>Src.row (((ZcS 0 rfl (by rw [hk17];exact mem_cons_self))).heap m) (Zx (Zw hlens18))) rfl hlens18 hoks18 (by decide) (by rw [Zv,length_take];omega) fun v18 k18 ho18=>JLa v18<|Za<|Ze<|JLn (ZcP rfl rfl (by omega))<|JLM rfl<|Za<|⟨_,?_,(j+1),v18,k18,Zp rfl,(Sd (Sd (Sk (Sk Sub.nil)))),?_,?_,rfl⟩)
  ·omega
  ·omega
  rw [MO p l.length h13n,Ph];exact ho18
 have h13n:l.length≤j:=by omega
 refine ZC _ rfl<|Zd<|JLm y1<|JLa y1<|Za<|ZE y1 [q1] (Sk Sub.nil) (?_)
 rw [take_of_length_le (by rw [Qk];exact h13n)] at how1
 exact ⟨_,rfl,how1⟩
theorem Km:∀ (g:Nat) (fs cv:List Value) (hcall:∀ args w,(callFunc g args).run prog w=.ok (.enter g args) w) (q:Bool) (x y:(Int×Int)) (a b:List Value) (bF bX:Nat) (H:Heap),RK H a x→RK H b y→H bF=some (.cells ⟨[.func (.func g) ⟨fs⟩ ⟨cv⟩]⟩ 169 (0,0))→H bX=some (.cells ⟨a⟩ 166 (0,0))→(∀ (a b:List Value) (h:Heap),Hle H h→RK h a x→RK h b y→CT prog g ⟨fs++[.agg ⟨a⟩,.agg ⟨b⟩]++cv⟩ [] h (fun v N=>v=.bool q∧N=[]))→CT prog 171 ⟨[.agg ⟨b⟩,pp bF 0,pp bX 0]⟩ [] H (fun v N=>v=.bool q∧N=[]):=by
 intro g fs cv hcall q x y a b bF bX H ha hb hF hX hg
 refine Zl func171 rfl rfl<|Zd<|JLr (Zr (l:=b) rfl rfl fun b1=>JAn rfl<|Zd<|JLr (Zc Za8 rfl (ZcN hF) rfl<|JLr (Zn W9 rfl (ZcN hX) (Zx (NV ha))<|JLr (Zn W9 rfl (ZcK 0 rfl) (Zx (NV hb))<|Jc hcall rfl (fun hin=>hg _ _ _ (Hle.hu _ _) (RK.mono (Hle.hu _ _) ha) (RK.mono (Hle.hu _ _) hb)) rfl ?_))))
 rintro _ _ ⟨rfl,rfl⟩
 refine JAn rfl<|ZE (.bool q) [] Sub.nil (?_)
 exact ⟨rfl,rfl⟩
set_option maxHeartbeats 1000000 in
theorem Kj (g:Nat) (fs cv:List Value) (hcall:∀ args w,(callFunc g args).run prog w=.ok (.enter g args) w) (p:Nat→Nat→Bool) (l:List (Int×Int)) (v:Value) (H:Heap) (hl:Hs.rdS RK 2 H v l) (hn:l.length≤1000000) (hg:∀ (i j:Nat) (hi:i<l.length) (hj:j<l.length) (a b:List Value) (h:Heap),Hle H h→RK h a l[i]→RK h b l[j]→CT prog g ⟨fs++[.agg ⟨a⟩,.agg ⟨b⟩]++cv⟩ [] h (fun v N=>v=.bool (p i j)∧N=[])):CT prog 122 ⟨[v,.func (.func g) ⟨fs⟩ ⟨cv⟩]⟩ [] H (fun r N=>∃ k,N=[k]∧Own 3 1 r (Z2 (fsB p l.length)) k):=by
 refine Zl func122 rfl rfl<|Zd<|JLr (Zr (l:=[.func (.func g) ⟨fs⟩ ⟨cv⟩]) rfl rfl fun b1=>JAn rfl<|Zd<|JAn rfl<|Zg<|Zg<|Ze ?_)
 refine JLm v ?_
 obtain ⟨a2,cap2,hv2⟩:=hl.sl
 have hle2:=hl.le
 refine JLn (ZcM ON hv2)<|JLM rfl<|Za<|Zm<|ZD (fun k ρ M=>∃ (j:Nat) (y1:Value) (q1:Zf),Z7 ρ [(0,v),(3,pp b1 0),(4,nS),(5,y1),(8,v),(9,iv ((l.length:Int))),(10,iv ((j:Int)))]=ρ∧Sub [q1,(BX b1 [.func (.func g) ⟨fs⟩ ⟨cv⟩] 169)] M∧j≤l.length∧Own 3 1 y1 (Z2 ((fsB p l.length).take j)) q1∧k=l.length-j) _ ⟨0,nS,[],Zp rfl,(ZcL (Sk Sub.nil)),Nat.zero_le _,(show Own 3 1 _ (Z2 []) [] from Own.nil),rfl⟩ ?_
 rintro _ ρ3 _ ⟨j,y1,q1,e4,hm11,hj,how1,rfl⟩
 obtain ⟨ρ12,rfl⟩:=Zi e4
 clear e4
 refine ZF hm11 ?_
 have hlen:=hl.le
 refine Zd<|JLn (Pu.lss rfl rfl)<|Za<|Zg<|ZN rfl (fun h13=>?_) (fun h13=>?_)
 ·have h13n:j<l.length:=by omega
  refine Zo<|Zg<|Zm<|Zg<|Ze ?_
  obtain ⟨b14,o14,cap14,row14,T14,fr14,cs14,hv14,hb14,hs14,hE14⟩:=hl.get j (by omega)
  refine JLn (Pu.idx j ON W9 hv14 rfl rfl (by omega))<|JLr (Zn W9 rfl (ZcN hb14) hs14<|JLr (Zk (l:=[iv 0,iv 0]) zeroValue166 rfl fun b15=>JLr (Zb 0 (vs:=cs14) (l:=cs14) W9 rfl rfl rfl rfl (NV hE14) (Zch hE14) (ZY (n:=2) rfl (NV hE14))<|Za<|Ze<|JLm y1<|JLm v<|JLq (.func (.func 171) ⟨[]⟩ ⟨[pp b1 0,pp b15 0]⟩) (Pu.makeFunc rfl rfl)<|Jc call170 rfl (fun hin=>Eb _ [] _ call171 (p j) l _ _ (RKs.mono (Hle.hu _ _) hl) (fun k hk b h hh rb=>Km g fs cv hcall (p j k) _ _ _ _ _ _ _ (RK.mono hh (RK.mono (Hle.hu _ _) hE14)) rb (hh _ _ (hin 2 _ rfl _ _ mem_cons_self)) (hh _ _ (hin 0 _ rfl _ _ mem_cons_self)) (fun a b h2 h3 ra rb=>hg j k h13n hk a b h2 (Hle.trans (Hle.hu _ _) (Hle.trans hh h3)) ra rb))) rfl ?_)))
  rintro _ _ ⟨rfl,rfl⟩
  refine JLr (Zj (vs:=[iv (YQ (p j) l.length)]) [[iv (YQ (p j) l.length)]] ZS el3 rfl rfl (al1 rfl) rfl (by decide) fun b17 k17 ho17 hk17=>?_)
  have hlens18:∀ e∈([[iv (YQ (p j) l.length)]]:List (List Value)),List.length e=1:=al1 rfl
  have hoks18:∀ e∈([[iv (YQ (p j) l.length)]]:List (List Value)),okc e:=al1 (Zh rfl Zq)
  refine JLr (ZA (i:=2) (n:=1) (es':=[[iv (YQ (p j) l.length)]]) ZS ZS (Or.inl rfl) el3 rfl rfl rfl how1 (fun F w m=>Src.row (((ZcS 0 rfl (by rw [hk17];exact mem_cons_self))).heap m) (Zx (Zw hlens18))) rfl hlens18 hoks18 (by decide) (by rw [Zv,length_take];omega) fun v18 k18 ho18=>JLa v18<|Za<|Ze<|JLn (ZcP rfl rfl (by omega))<|JLM rfl<|Za<|⟨_,?_,(j+1),v18,k18,Zp rfl,(Sd (Sd (Sk (Sk Sub.nil)))),?_,?_,rfl⟩)
  ·omega
  ·omega
  rw [MO p l.length h13n,Ph];exact ho18
 have h13n:l.length≤j:=by omega
 refine ZC _ rfl<|Zd<|JLm y1<|JLa y1<|Za<|ZE y1 [q1] (Sk Sub.nil) (?_)
 rw [take_of_length_le (by rw [Qk];exact h13n)] at how1
 exact ⟨_,rfl,how1⟩
set_option maxHeartbeats 1000000 in
theorem Jo (l:List Tm) (hm:okG (mkL l)) (gb:Nat) (vm vc vf ff:Value) (H:Heap) (hG:H gb=some (.cells ⟨[vm,vc,vf,ff]⟩ 91 (0,0))) (hr:GR H l vm vc vf) (hff:ff.oneCell'=true) (n:Int) (h0:0≤n) (h1:n<(l.length:Int)):CT prog 124 ⟨[pp gb 0,iv n]⟩ [] H (fun r N=>∃ k,N=[k]∧Own 3 1 r (Z2 (ptI l n.toNat)) k):=by
 have hfl:=Yy l
 have hml:=ZQ l
 have hm8:=hm.hi
 refine Zl func124 rfl rfl<|Zd<|JAn rfl<|Zd<|JAn rfl<|Zg<|Zd<|JLM rfl ?_
 refine JLq (pp gb 0) (Pu.nilCheck rfl)<|JLq (pp gb 2) (UM rfl rfl)<|JLr (Zc YL rfl (ZcN hG) rfl ?_)
 obtain ⟨a1,cap1,hv1⟩:=hr.f.sl
 have hle1:=hr.f.le
 refine JLn (ZcM ZS hv1)<|JLM rfl<|Za<|Zm<|ZD (fun k ρ M=>∃ (j:Nat) (y1:Value) (q1:Zf),Z7 ρ [(0,pp gb 0),(1,iv n),(4,nS),(5,y1),(11,vf),(12,iv (((frI l).length:Int))),(13,iv ((j:Int)))]=ρ∧Sub [q1] M∧j≤(frI l).length∧Own 3 1 y1 (Z2 (ptTo l n.toNat j)) q1∧k=(frI l).length-j) _ ⟨0,nS,[],Zp rfl,(ZcL Sub.nil),Nat.zero_le _,(show Own 3 1 _ (Z2 []) [] from Own.nil),rfl⟩ ?_
 rintro _ ρ2 _ ⟨j,y1,q1,e3,hm10,hj,how1,rfl⟩
 obtain ⟨ρ11,rfl⟩:=Zi e3
 clear e3
 refine ZF hm10 ?_
 have hpl:=QU l n.toNat j
 refine Zd<|JLn (Pu.lss rfl rfl)<|Za<|Zg<|ZN rfl (fun h12=>?_) (fun h12=>?_)
 ·have h12n:j<(frI l).length:=by omega
  refine Zo<|Zg<|Zm<|Zd<|JLM rfl ?_
  obtain ⟨b13,o13,cap13,row13,T13,fr13,cs13,hv13,hb13,hs13,hE13⟩:=hr.f.get j (by omega)
  refine JLn (Pu.idx j ZS ty3 hv13 rfl rfl (by omega))<|JLr (Zc ty3 rfl (ZcN hb13) (ZP ((show cs13=[Value.int .i64 ((frI l)[j])] from hE13)▸hs13))<|JLA rfl<|JAn rfl<|Zd<|JLM rfl<|JLM rfl<|JLn (Pu.eql rfl rfl)<|JLM rfl<|ZK 4 [22,23,24,25] [(25,cond (decide ((j:Int)=(frI l)[j])) (.bool (tgB (mkL l) n.toNat ((j:Int)).toNat)) undef)] ?_ fun f15=>?_)
  ·cases h14:(decide ((j:Int)=(frI l)[j])) with
   | true=>
    replace h14:=dt h14
    refine JLM rfl<|JLM rfl<|JLM rfl<|Jc call172 rfl (fun hin=>N1 l hm gb vm vc vf ff _ (Hle.hu _ _ _ _ hG) (GR.mono (Hle.hu _ _) hr) hff n ((j:Int)) (by omega) (by omega) (by omega) (by omega)) rfl ?_
    rintro _ _ ⟨rfl,rfl⟩
    exact Za ⟨⟨rfl,trivial⟩,rfl⟩
   | false=>
    exact Z1 rfl ⟨rfl,trivial⟩
  refine JLn (ZcR rfl rfl rfl)<|Za<|Zt rfl (fun h16=>?_) (fun h16=>?_)
  ·obtain ⟨h16a,h16b⟩:=Xx h16
   replace h16a:=dt h16a
   refine Ze<|JLm y1<|JLM rfl<|JLr (Zj (vs:=[iv ((j:Int))]) [[iv ((j:Int))]] ZS el3 rfl rfl (al1 rfl) rfl (by decide) fun b17 k17 ho17 hk17=>?_)
   have hlens18:∀ e∈([[iv ((j:Int))]]:List (List Value)),List.length e=1:=al1 rfl
   have hoks18:∀ e∈([[iv ((j:Int))]]:List (List Value)),okc e:=al1 (Zh rfl Zq)
   refine JLr (ZA (i:=1) (n:=1) (es':=[[iv ((j:Int))]]) ZS ZS (Or.inl rfl) el3 rfl rfl rfl how1 (fun F w m=>Src.row (((ZcS 0 rfl (by rw [hk17];exact mem_cons_self))).heap m) (Zx (Zw hlens18))) rfl hlens18 hoks18 (by decide) (by rw [Zv];omega) fun v18 k18 ho18=>JLa v18<|Za<|Ze<|JLn (ZcP rfl rfl (by omega))<|JLM rfl<|Za<|⟨_,?_,(j+1),v18,k18,Zp rfl,(Sd (Sk Sub.nil)),?_,?_,rfl⟩)
   ·omega
   ·omega
   have z:=ho18;rw [GX (show j<l.length by omega) (by simp_all) (by simp_all),Ph];exact z
  refine Zo<|Ze<|JLn (ZcP rfl rfl (by omega))<|JLM rfl<|Za<|⟨_,?_,(j+1),y1,q1,Zp rfl,(Sk Sub.nil),?_,?_,rfl⟩
  ·omega
  ·omega
  have z:=how1;rw [Ci (show j<l.length by omega) (by simp_all)];exact z
 have h12n:(frI l).length≤j:=by omega
 refine ZC _ rfl<|Zd<|JLm y1<|JLa y1<|Za<|ZE y1 [q1] (Sk Sub.nil) (?_)
 have z:=how1
 obtain rfl:j=l.length:=by omega
 exact ⟨_,rfl,z⟩
theorem Rp (l:List Int) (x:Int) (v:Value) (H:Heap) (hl:Hs.rdS RI 1 H v l):CT prog 102 ⟨[v,iv x]⟩ [] H (fun v N=>v=iv (ixI l x)∧N=[]):=by
 refine Zl func102 rfl rfl<|Zd<|JAn rfl<|Zg<|Zd<|JLm v ?_
 obtain ⟨a1,cap1,hv1⟩:=hl.sl
 have hle1:=hl.le
 refine JLn (ZcM ZS hv1)<|JLM rfl<|Za<|Zm<|ZD (fun k ρ M=>∃ (j:Nat),Z7 ρ [(0,v),(1,iv x),(4,iv 0),(7,iv ((l.length:Int))),(8,iv ((j:Int)))]=ρ∧Sub [] M∧j≤l.length∧(∀ i,i<j→l.getD i 0≠x)∧k=l.length-j) _ ⟨0,Zp rfl,Sub.nil,Nat.zero_le _,fun i hi=>absurd hi (by omega),rfl⟩ ?_
 rintro _ ρ2 _ ⟨j,e3,hm8,hj,hm,rfl⟩
 obtain ⟨ρ9,rfl⟩:=Zi e3
 clear e3
 refine ZF hm8<|Zd<|JLn (Pu.lss rfl rfl)<|Za<|Zg<|ZN rfl (fun h10=>?_) (fun h10=>?_)
 ·have h10n:j<l.length:=by omega
  have hlenl:=hl.le
  refine Zo<|Zg<|Zm<|Zd<|JLM rfl<|JAn rfl<|Zd<|JLM rfl<|JLm v<|JLM rfl ?_
  obtain ⟨b11,o11,cap11,row11,T11,fr11,cs11,hv11,hb11,hs11,hE11⟩:=hl.get j (by omega)
  refine JLn (Pu.idx j ZS ty3 hv11 rfl rfl (by omega))<|JLr (Zc ty3 rfl (ZcN hb11) (ZP ((show cs11=[Value.int .i64 (l[j])] from hE11)▸hs11))<|JLn (Pu.eql rfl rfl)<|Za<|ZN rfl (fun h12=>?_) (fun h12=>?_))
  ·refine Zd<|JLM rfl<|JAn rfl<|ZE (iv ((j:Int))) [] Sub.nil (?_)
   exact ⟨by rw [Zag h10n h12.symm hm],rfl⟩
  refine Zo<|Ze<|JLn (ZcP rfl rfl (by omega))<|JLM rfl<|Za<|⟨_,?_,(j+1),Zp rfl,Sub.nil,?_,?_,rfl⟩
  ·omega
  ·omega
  intro i hi;by_cases h1:i<j;exact hm i h1;(obtain rfl:i=j:=by omega);rw [YO h10n];exact fun e=>h12 e.symm
 have h10n:l.length≤j:=by omega
 refine ZC _ rfl<|Zd<|JAn rfl<|ZE (iv (-1)) [] Sub.nil (?_)
 exact ⟨by rw [F4 (F3 fun i hi=>hm i (by omega))],rfl⟩
theorem Wn (l:List Int) (x:Int) (v:Value) (H:Heap) (hl:Hs.rdS RI 1 H v l):CT prog 54 ⟨[v,iv x]⟩ [] H (fun v N=>v=.bool (decide (x∈l))∧N=[]):=by
 refine Zl func54 rfl rfl<|Zd<|JAn rfl<|Zd<|JLm v<|JLM rfl<|Jc call102 rfl (fun hin=>Rp _ _ _ _ (RIs.mono (Hle.hu _ _) hl)) rfl ?_
 rintro _ _ ⟨rfl,rfl⟩
 refine JLn (Pu.geq rfl rfl)<|JAn rfl<|ZE (.bool (decide (0≤ixI l x))) [] Sub.nil (?_)
 exact ⟨congrArg Value.bool Nq,rfl⟩
theorem C9 (g:Nat) (fs cv:List Value) (hcall:∀ args w,(callFunc g args).run prog w=.ok (.enter g args) w) (p:Bool) (x:Int) (bH:Nat) (H:Heap) (hH:H bH=some (.cells ⟨[.func (.func g) ⟨fs⟩ ⟨cv⟩]⟩ 111 (0,0))) (hg:∀ (h:Heap),Hle H h→CT prog g ⟨fs++[iv x]++cv⟩ [] h (fun v N=>v=.bool p∧N=[])):CT prog 174 ⟨[iv x,pp bH 0]⟩ [] H (fun v N=>v=.bool (!p)∧N=[]):=by
 refine Zl func174 rfl rfl<|Zd<|JAn rfl<|Zd<|JLr (Zc Zba rfl (ZcN hH) rfl<|JLM rfl<|Jc hcall rfl (fun hin=>hg _ (Hle.hu _ _)) rfl ?_)
 rintro _ _ ⟨rfl,rfl⟩
 refine JLn (Pu.not rfl)<|JAn rfl<|ZE (.bool (!(p))) [] Sub.nil (?_)
 exact ⟨rfl,rfl⟩
theorem Hj (g:Nat) (fs cv:List Value) (hcall:∀ args w,(callFunc g args).run prog w=.ok (.enter g args) w) (p:Nat→Bool) (l:List Int) (v:Value) (H:Heap) (hl:Hs.rdS RI 1 H v l) (hg:∀ (j:Nat) (hj:j<l.length) (h:Heap),Hle H h→CT prog g ⟨fs++[iv l[j]]++cv⟩ [] h (fun v N=>v=.bool (p j)∧N=[])):CT prog 173 ⟨[v,.func (.func g) ⟨fs⟩ ⟨cv⟩]⟩ [] H (fun v N=>v=.bool (decide (0≤YQ p l.length))∧N=[]):=by
 refine Zl func173 rfl rfl<|Zd<|JAn rfl<|Zd<|JLm v<|JLM rfl<|Jc call204 rfl (fun hin=>Ec g fs cv hcall p l _ _ (RIs.mono (Hle.hu _ _) hl) (fun j hj h hh=>hg j hj h (Hle.trans (Hle.hu _ _) hh))) rfl ?_
 rintro _ _ ⟨rfl,rfl⟩
 refine JLn (Pu.geq rfl rfl)<|JAn rfl<|ZE (.bool (decide (0≤YQ p l.length))) [] Sub.nil (?_)
 exact ⟨rfl,rfl⟩
theorem Zao (g:Nat) (fs cv:List Value) (hcall:∀ args w,(callFunc g args).run prog w=.ok (.enter g args) w) (p:Nat→Bool) (l:List Int) (v:Value) (H:Heap) (hl:Hs.rdS RI 1 H v l) (hg:∀ (j:Nat) (hj:j<l.length) (h:Heap),Hle H h→CT prog g ⟨fs++[iv l[j]]++cv⟩ [] h (fun v N=>v=.bool (p j)∧N=[])):CT prog 125 ⟨[v,.func (.func g) ⟨fs⟩ ⟨cv⟩]⟩ [] H (fun v N=>v=.bool (!decide (0≤YQ (fun j=> !p j) l.length))∧N=[]):=by
 refine Zl func125 rfl rfl<|Zd<|JLr (Zr (l:=[.func (.func g) ⟨fs⟩ ⟨cv⟩]) rfl rfl fun b1=>JAn rfl<|Zd<|JLm v<|JLq (.func (.func 174) ⟨[]⟩ ⟨[pp b1 0]⟩) (Pu.makeFunc rfl rfl)<|Jc call173 rfl (fun hin=>Hj 174 [] [pp b1 0] call174 (fun j=> !p j) l _ _ (RIs.mono (Hle.hu _ _) hl) (fun j hj h hh=>C9 g fs cv hcall (p j) _ _ h (hh _ _ (hin 0 _ rfl _ _ mem_cons_self)) (fun h2 h3=>hg j hj h2 (Hle.trans (Hle.hu _ _) (Hle.trans hh h3))))) rfl ?_)
 rintro _ _ ⟨rfl,rfl⟩
 refine JLn (Pu.not rfl)<|JAn rfl<|ZE (.bool (!(decide (0≤YQ (fun j=> !p j) l.length)))) [] Sub.nil (?_)
 exact ⟨rfl,rfl⟩
end
theorem Hi (g:Nat) (fs cv:List Value) (hcall:∀ args w,(callFunc g args).run prog w=.ok (.enter g args) w) (q:Int→Bool) (l:List Int) (v:Value) (H:Heap) (hl:Hs.rdS RI 1 H v l)
    (hg:∀ (j:Nat) (hj:j<l.length) (h:Heap),Hle H h→CT prog g ⟨fs++[.int .i64 l[j]]++cv⟩ [] h (fun v N=>v=.bool (q l[j])∧N=[])):CT prog 125 ⟨[v,.func (.func g) ⟨fs⟩ ⟨cv⟩]⟩ [] H (fun v N=>v=.bool (l.all q)∧N=[]):=
  CT.mono (Zao g fs cv hcall (fun j=>q (l.getD j 0)) l v H hl (fun j hj h hh=>by rw [YO hj];exact hg j hj h hh)) fun v N e=>by rw [Ed q l 0] at e;exact e
noncomputable def clOK (l:List Tm) (tk:List Bool) (n:Nat) (k:Int):Bool:=(clG (mkL l) k.toNat).all fun c=>tk.getD c.toNat false||decide (c∈ptI l n)
theorem AR {l:List Tm} {tk:List Bool} {n p:Nat} (hp:p<(ptI l n).length) (h:clOK l tk n (ptI l n)[p]=false):goodB l tk n=false:=by
  cases q:goodB l tk n with
  | false=>rfl
  | true=>
    have:=all_eq_true.1 (goodB_iff.1 q).2.2 _ (getElem_mem hp)
    unfold clOK at h
    rw [this] at h;cases h
theorem Ck {l:List Tm} {tk:List Bool} {n p:Nat} (h:∀ k∈(ptI l n).take p,clOK l tk n k=true) (hp:(ptI l n).length≤p):pkB l tk n=true:=by
  rw [take_of_length_le hp] at h
  exact all_eq_true.2 h
theorem CU {l:List Tm} {tk:List Bool} {j:Nat} (hj:j<l.length) (h:((!decide ((j:Int)=(frI l)[j]'(by rw [Yy];exact hj)))||tk.getD j false)=true):goodB l tk j=false:=by
  cases q:goodB l tk j with
  | false=>rfl
  | true=>
    have g:=goodB_iff.1 q
    rw [WA hj,g.1,g.2.1] at h;simp at h
theorem Aj {l:List Tm} {tk:List Bool} {j:Nat} (hj:j<l.length) (h:((!decide ((j:Int)=(frI l)[j]'(by rw [Yy];exact hj)))||tk.getD j false)=false):firstN l j=j∧tk.getD j false=false:=by
  rw [WA hj,Bool.or_eq_false_iff] at h
  simp at h
  exact ⟨by omega,by simpa using h.2⟩
theorem IN (l:List Tm) (n:Nat):(ptI l n).length≤l.length:=QU l n l.length
theorem D1 {l:List Tm} {i:Nat} {tk:List Bool} {ll:List (List Int)} (h:runP l i=(tk,ll)):tk.length=8:=by have:=UD l i;rw [h] at this;exact this
theorem QM {l : List Tm} (hl:l.length≤8):∀ i,(runP l i).2.length≤8:=by
  have key : ∀ i, (runP l i).2.length≤i:=by
    intro i
    induction i with
    | zero=>simp [runP]
    | succ i ih => rw [runP];unfold stepP;split
                   · rw [length_append];simp;omega
                   · omega
  intro i
  rcases Nat.le_total i 8 with q | q
  · have:=key i;omega
  · rw [Rf (TC hl) i q];exact key 8
noncomputable def knW (l:List Tm) (W:List Int→Bool) (j:Nat):List Int:=(((paL l).take j).filter W).flatten
noncomputable def knE (l:List Tm) (W:List Int→Bool):Bool:=(knW l W (paL l).length).any fun n=> !decide (X5 (Ye (mkL l) n.toNat)=0)
def okW (l:List Tm) (W:List Int→Bool):Prop:=∀ p∈paL l,W p=true→∀ n∈p,∀ k:Nat,coX (mkL l) n.toNat k=true→∀ p'∈paL l,(k:Int)∈p'→W p'=true
theorem ME {l:List Tm} {W:List Int→Bool} {j:Nat} (h:j<(paL l).length):knW l W (j+1)=knW l W j++if W (paL l)[j]=true then (paL l)[j] else []:=by
  unfold knW
  rw [take_succ_eq_append_getElem h,filter_append,flatten_append,filter_cons]
  congr 1
  split <;> simp
theorem Zac {l:List Tm} {W:List Int→Bool} {j:Nat} {K:List Int} (h:j<(paL l).length) (hK:K=knW l W j) (hW:W (paL l)[j]=false):K=knW l W (j+1):=by rw [ME h,hW,hK];simp
theorem CD {l:List Tm} {W:List Int→Bool} {j q:Nat} {K K2:List Int} (h:j<(paL l).length) (hK:K=knW l W j) (hW:W (paL l)[j]=true) (hK2:K2=K++((paL l)[j]).take q) (hq:((paL l)[j]).length≤q):K2=knW l W (j+1):=by
  rw [ME h,if_pos hW,← hK,hK2,take_of_length_le hq]
theorem CE {l:List Tm} {W:List Int→Bool} {j:Nat} {x:Int} (hx:x∈knW l W j):x∈((paL l).take j).flatten:=by
  unfold knW at hx
  obtain ⟨p,hp,hxp⟩:=mem_flatten.1 hx
  exact mem_flatten.2 ⟨p,(mem_filter.1 hp).1,hxp⟩
theorem LX {l:List Tm} (h:okG l) {j q:Nat} (hj:j<(paL l).length) (hq:q<((paL l)[j]).length):0≤((paL l)[j])[q]∧((paL l)[j])[q]<(l.length:Int)∧firstN l (((paL l)[j])[q]).toNat=(((paL l)[j])[q]).toNat:=
  (RO h).fst _ (mem_flatten.2 ⟨_,getElem_mem hj,getElem_mem hq⟩)
theorem Zaa {l:List Tm} (h:okG l) {W:List Int→Bool} {j q:Nat} {K K2:List Int} (hj:j<(paL l).length) (hK:K=knW l W j) (hK2:K2=K++((paL l)[j]).take q) (hq:q<((paL l)[j]).length):((paL l)[j])[q]∉K2:=by
  have nd:=(RO h).nd
  simp only at nd
  intro hx
  rw [hK2,hK,mem_append] at hx
  have e:paL l=(paL l).take j++((paL l)[j]::(paL l).drop (j+1)):=by rw [← drop_eq_getElem_cons hj,take_append_drop]
  rw [e,flatten_append,flatten_cons,nodup_append] at nd
  rcases hx with hx | hx
  · exact nd.2.2 _ (CE hx) _ (mem_append.2 (.inl (getElem_mem hq))) rfl
  · have nd2:=nd.2.1
    rw [nodup_append] at nd2
    have nd3:=nd2.1
    have e2:(paL l)[j]=((paL l)[j]).take q++(((paL l)[j])[q]::((paL l)[j]).drop (q+1)):=by rw [← drop_eq_getElem_cons hq,take_append_drop]
    rw [e2,nodup_append] at nd3
    exact nd3.2.2 _ hx _ mem_cons_self rfl
theorem Zab {l:List Tm} (h:okG l) {W:List Int→Bool} (hW:okW l W) {j q:Nat} {K K2:List Int} (hj:j<(paL l).length) (hK:K=knW l W j) (hK2:K2=K++((paL l)[j]).take q) (hq:q<((paL l)[j]).length) (hw:W (paL l)[j]=true):CI l K2 (firstN l (((paL l)[j])[q]).toNat):=fun k hk=>by
  rw [(LX h hj hq).2.2] at hk
  have:=(RO h).cov j hj _ (getElem_mem hq) k hk
  simp only at this
  obtain ⟨p,hp,hkp⟩:=mem_flatten.1 this
  rw [hK2,hK,mem_append]
  left
  unfold knW
  exact mem_flatten.2 ⟨p,mem_filter.2 ⟨hp,hW _ (getElem_mem hj) hw _ (getElem_mem hq) k hk p (List.mem_of_mem_take hp) hkp⟩,hkp⟩
theorem KB (x:It):X5 x=0∨X5 x=11:=by unfold X5;split <;> simp
theorem Er {x:It} (h:X5 x=0):Pk x=Yf x:=by
  unfold X5 at h;unfold Pk
  split at h
  · cases h
  · rename_i c;rw [if_neg c]
theorem CF {l:List Tm} (h:okG l) {W:List Int→Bool} {j q:Nat} (hj:j<(paL l).length) (hq:q<((paL l)[j]).length) (hw:W (paL l)[j]=true) (he:¬ X5 (Ye (mkL l) (firstN l (((paL l)[j])[q]).toNat))=0):knE l W=true∧X5 (Ye (mkL l) (firstN l (((paL l)[j])[q]).toNat))=11:=by
  refine ⟨?_,(KB _).resolve_left he⟩
  rw [(LX h hj hq).2.2] at he
  unfold knE
  rw [any_eq_true]
  refine ⟨((paL l)[j])[q],?_,by simpa using he⟩
  unfold knW
  rw [List.take_length]
  exact mem_flatten.2 ⟨_,mem_filter.2 ⟨getElem_mem hj,hw⟩,getElem_mem hq⟩
theorem FV {l:List Tm} {W:List Int→Bool} {j:Nat} {K:List Int} (hj:(paL l).length≤j) (hK:K=knW l W j) (he:∀ n∈K,X5 (Ye (mkL l) n.toNat)=0):knE l W=false∧K=knW l W (paL l).length:=by
  have e:K=knW l W (paL l).length:=by rw [hK];unfold knW;rw [take_of_length_le hj,List.take_length]
  refine ⟨?_,e⟩
  unfold knE
  rw [← Bool.not_eq_true,any_eq_true]
  rintro ⟨n,hn,q⟩
  rw [← e] at hn
  rw [he n hn] at q;simp at q
theorem EF {l:List Tm} (h:okG l) {i:Nat} (hi:i<l.length):(Yf (Ye (mkL l) (firstN l i))).length≤250000∧∀ x∈Yf (Ye (mkL l) (firstN l i)),0≤x∧x≤255:=Am h hi
theorem OII.sl {ll:List (List Int)} {v:Value} {k:Zf} (o:OII ll v k):∃ a cap,v=.slice a ll.length cap:=by
  obtain ⟨es,k1,k2,h1,h2,rfl,hl⟩:=o
  obtain ⟨a,cap,e⟩:=h1.sl
  rw [S2 h2] at e
  exact ⟨a,cap,e⟩
theorem AX {l:List Tm} (h:okG l):(paL l).length≤8:=QM h.hi 8
def A5 (l:List Tm) (a b:Nat):Prop:=rcB (cdL (mkL l)) (mkL l).length a b=true∧rcB (cdL (mkL l)) (mkL l).length b a=true
theorem Jq {l:List Tm} (h:okG l) {p:List Int} (hp:p∈paL l) {x y:Int} (hx:x∈p) (hy:y∈p):x.toNat=y.toNat∨A5 l x.toNat y.toNat:=by
  have hcl:=XS h.mkL.ok
  obtain ⟨j,hj,hf,rfl⟩:=(RO h).pts p hp
  by_cases ex:x.toNat=j
  · by_cases ey:y.toNat=j
    · exact .inl (by omega)
    · have:=QT h hj hy ey
      rw [ex];exact .inr this
  · have rx:=QT h hj hx ex
    by_cases ey:y.toNat=j
    · rw [ey];exact .inr ⟨rx.2,rx.1⟩
    · have ry:=QT h hj hy ey
      exact .inr ⟨Z9 hcl rx.2 ry.1,Z9 hcl ry.2 rx.1⟩
theorem ZbD {l:List Tm} (h:okG l) {p:List Int} (hp:p∈paL l) {x:Int} (hx:x∈p) {y:Nat} (hy:y<l.length) (hf:firstN l y=y) (hm:x.toNat=y∨A5 l x.toNat y):(y:Int)∈p:=by
  have hcl:=XS h.mkL.ok
  have hml:=ZQ l
  obtain ⟨j,hj,hfj,rfl⟩:=(RO h).pts p hp
  rw [V4]
  refine ⟨by omega,by omega,by simpa using hf,?_⟩
  rw [Int.toNat_natCast]
  by_cases e:y=j
  · subst e;unfold tgB;simp
  · have g:A5 l j y:=by
      by_cases ex:x.toNat=j
      · rcases hm with q | q
        · omega
        · rw [ex] at q;exact q
      · have rx:=QT h hj hx ex
        rcases hm with q | q
        · rw [q] at rx;exact rx
        · exact ⟨Z9 hcl rx.1 q.1,Z9 hcl q.2 rx.2⟩
    rw [K4 h hj hy e]
    unfold prB
    simp only [Int.toNat_natCast]
    rw [g.1,g.2];rfl
theorem B8 {l:List Tm} (h:okG l) {p:List Int} (hp:p∈paL l):0<p.length:=by
  obtain ⟨j,hj,hf,rfl⟩:=(RO h).pts p hp
  exact List.length_pos_of_mem (LU hj hf)
theorem Sh {l:List Tm} (h:okG l) {p:List Int} (hp:p∈paL l) {x:Int} (hx:x∈p):0≤x∧x<(l.length:Int)∧firstN l x.toNat=x.toNat:=(RO h).fst x (mem_flatten.2 ⟨p,hp,hx⟩)
theorem Tj {l:List Tm} (h:okG l) {i k:Nat} (hi:i<l.length):coX (mkL l) i k=true↔rcB (cdL (mkL l)) (mkL l).length i k=true∧k≠i∧¬ rcB (cdL (mkL l)) (mkL l).length k i=true:=by
  have hm:=h.mkL
  have hml:=ZQ l
  have hcl:=XS hm.ok
  unfold coX
  rw [Bool.and_eq_true,Bool.not_eq_true',decide_eq_false_iff_not]
  constructor
  · rintro ⟨a,b⟩
    have hk:=QS hcl b
    rw [VF hm.ok (by omega) (by omega) (by omega)] at a
    refine ⟨b,fun e=>a (.inl (by omega)),fun q=>a (.inr ?_)⟩
    unfold prB;simp only [Int.toNat_natCast];rw [b,q];rfl
  · rintro ⟨b,ne,nr⟩
    refine ⟨fun q=>?_,b⟩
    rw [VF hm.ok (by omega) (by omega) (by omega)] at q
    rcases q with q | q
    · exact ne (by omega)
    · unfold prB at q
      simp only [Int.toNat_natCast,Bool.and_eq_true] at q
      exact nr q.2
theorem OD {l:List Tm} (h:okG l) {i k k':Nat} (hi:i<l.length) (a:coX (mkL l) i k=true) (b:coX (mkL l) k k'=true):coX (mkL l) i k'=true:=by
  have hml:=ZQ l
  have hcl:=XS h.mkL.ok
  have a1:=(Tj h hi).1 a
  have hk:k<l.length:=by have:=QS hcl a1.1;omega
  have b1:=(Tj h hk).1 b
  refine (Tj h hi).2 ⟨Z9 hcl a1.1 b1.1,fun e=>?_,fun q=>?_⟩
  · subst e;exact a1.2.2 b1.1
  · exact b1.2.2 (Z9 hcl q a1.1)
noncomputable def wC (l:List Tm) (i0:Nat) (p:List Int):Bool:=(rcF (mkL l) i0).getD (p.getD 0 0).toNat false&& !decide ((i0:Int)∈p)
theorem Qx {l:List Tm} (h:okG l) {i0:Nat} (hi:i0<l.length) (hf:firstN l i0=i0) {p:List Int} (hp:p∈paL l) {x:Int} (hx:x∈p):wC l i0 p=true↔coX (mkL l) i0 x.toNat=true:=by
  have hml:=ZQ l
  have h8:=h.hi
  have hcl:=XS h.mkL.ok
  have hn:=B8 h hp
  have h0:p.getD 0 0∈p:=by rw [YO hn];exact getElem_mem hn
  have b0:=Sh h hp h0
  have bx:=Sh h hp hx
  have sm:=Jq h hp h0 hx
  rw [Tj h hi]
  unfold wC
  rw [Bool.and_eq_true,Bool.not_eq_true',decide_eq_false_iff_not,U4 (by omega)]
  constructor
  · rintro ⟨a,b⟩
    have r:rcB (cdL (mkL l)) (mkL l).length i0 x.toNat=true:=by
      rcases sm with q | q
      · rw [← q];exact a
      · exact Z9 hcl a q.1
    refine ⟨r,fun e=>b ?_,fun q=>b ?_⟩
    · rw [← e,Int.toNat_of_nonneg bx.1];exact hx
    · exact ZbD h hp hx hi hf (.inr ⟨q,r⟩)
  · rintro ⟨r,ne,nr⟩
    refine ⟨?_,fun q=>?_⟩
    · rcases sm with q | q
      · rw [q];exact r
      · exact Z9 hcl r q.2
    · rcases Jq h hp q hx with e | e
      · simp at e;exact ne e.symm
      · simp only [Int.toNat_natCast] at e;exact nr e.2
theorem ZaZ {l:List Tm} (h:okG l) {i0:Nat} (hi:i0<l.length) (hf:firstN l i0=i0):okW l (wC l i0):=fun p hp hw n hn k hk p' hp' hkp=>by
  have hx:=(Qx h hi hf hp hn).1 hw
  have:=(Qx h hi hf hp' hkp).2
  rw [Int.toNat_natCast] at this
  exact this (OD h hi hx hk)
theorem Qj {l:List Tm} (h:okG l) {W:List Int→Bool} {x:Int}:x∈knW l W (paL l).length↔∃ p∈paL l,W p=true∧x∈p:=by
  unfold knW
  rw [List.take_length,mem_flatten]
  constructor
  · rintro ⟨p,hp,hx⟩;exact ⟨p,(mem_filter.1 hp).1,(mem_filter.1 hp).2,hx⟩
  · rintro ⟨p,hp,hw,hx⟩;exact ⟨p,mem_filter.2 ⟨hp,hw⟩,hx⟩
theorem H3 {l:List Tm} (h:okG l) {i0:Nat} (hi:i0<l.length) (hf:firstN l i0=i0) {k:Nat}:(k:Int)∈knW l (wC l i0) (paL l).length↔coX (mkL l) i0 k=true:=by
  rw [Qj h]
  constructor
  · rintro ⟨p,hp,hw,hx⟩
    have:=(Qx h hi hf hp hx).1 hw
    simpa using this
  · intro hk
    have r:=((Tj h hi).1 hk).1
    have hfk:=QR h r
    obtain ⟨p,hp,hx⟩:=mem_flatten.1 (Jr h hfk.1 hfk.2)
    refine ⟨p,hp,(Qx h hi hf hp hx).2 ?_,hx⟩
    simpa using hk
theorem Aw {l:List Tm} (h:okG l) {i0:Nat} (hi:i0<l.length) (hf:firstN l i0=i0):CI l (knW l (wC l i0) (paL l).length) i0:=fun k hk=>(H3 h hi hf).2 hk
def PT (l:List Tm) (n:Nat):Prop:=¬ X5 (Ye (mkL l) n)=0
theorem Ru {l:List Tm} (h:okG l):∀ (r i:Nat),rkM (mkL l) i≤r→i<l.length→(VO (mkL l) i=true↔PT l i∨∃ k,coX (mkL l) i k=true∧PT l k):=by
  have hml:=ZQ l
  have ok:=h.mkL.ok
  have tl:∀ n,decide (65536<(Yf (Ye (mkL l) n)).length)=true↔PT l n:=fun n=>by
    unfold PT X5;rw [decide_eq_true_eq];split
    · simp [*]
    · simp [*]
  intro r
  induction r with
  | zero=>
    intro i hr hi
    have:0<rkM (mkL l) i:=List.countP_pos_iff.2 ⟨i,mem_range.2 (by omega),by simp⟩
    omega
  | succ r ih=>
    intro i hr hi
    rw [SP ok (by omega),Bool.or_eq_true,tl,any_eq_true]
    constructor
    · rintro (⟨k,hk,q⟩ | q)
      · rw [Bool.and_eq_true] at q
        have lt:=WS ok (by omega) q.1
        rcases (ih k (by omega) (by omega)).1 q.2 with t | ⟨k',hk',t⟩
        · exact .inr ⟨k,q.1,t⟩
        · exact .inr ⟨k',OD h hi q.1 hk',t⟩
      · exact .inl q
    · rintro (q | ⟨k,hk,t⟩)
      · exact .inr q
      · left
        have lt:=WS ok (by omega) hk
        exact ⟨k,mem_range.2 lt.1,by rw [Bool.and_eq_true];exact ⟨hk,(ih k (by omega) (by omega)).2 (.inl t)⟩⟩
theorem JC {l:List Tm} (h:okG l) {W:List Int→Bool}:knE l W=true↔∃ n:Int,n∈knW l W (paL l).length∧PT l n.toNat:=by
  unfold knE PT
  rw [any_eq_true]
  exact exists_congr fun n=>and_congr_right fun _=>by simp
theorem OC {l:List Tm} (h:okG l) {i:Nat} (hi:i<l.length):cR l i=(if knE l (wC l (firstN l i))=true then 11 else X5 (Ye (mkL l) (firstN l i)))∧cO l i=(if knE l (wC l (firstN l i))=true then [] else Pk (Ye (mkL l) (firstN l i))):=by
  have hf:=Xt h.ok hi
  have hl:=Ya hi
  have key:=Ru h _ (firstN l i) (Nat.le_refl _) hl
  have kn:knE l (wC l (firstN l i))=true↔∃ k,coX (mkL l) (firstN l i) k=true∧PT l k:=by
    rw [JC h]
    constructor
    · rintro ⟨n,hn,t⟩
      obtain ⟨p,hp,hw,hx⟩:=(Qj h).1 hn
      exact ⟨n.toNat,(Qx h hl hf hp hx).1 hw,t⟩
    · rintro ⟨k,hk,t⟩
      exact ⟨k,(H3 h hl hf).2 hk,by simpa using t⟩
  have co:coO (mkL l) ((mkL l).length+1) (firstN l i)=if VO (mkL l) (firstN l i)=true then [] else Yf (Ye (mkL l) (firstN l i)):=rfl
  rw [VQ]
  unfold cO
  rw [co]
  by_cases c:knE l (wC l (firstN l i))=true
  · have e:VO (mkL l) (firstN l i)=true:=key.2 (.inr (kn.1 c))
    rw [if_pos c,if_pos c,if_pos e,if_pos e];exact ⟨rfl,rfl⟩
  · rw [if_neg c,if_neg c]
    by_cases t:PT l (firstN l i)
    · have e:VO (mkL l) (firstN l i)=true:=key.2 (.inl t)
      rw [if_pos e,if_pos e]
      unfold PT at t
      unfold X5 at t ⊢;unfold Pk
      split at t
      · rename_i q;rw [if_pos q,if_pos q];exact ⟨rfl,rfl⟩
      · exact absurd rfl t
    · have e:¬ VO (mkL l) (firstN l i)=true:=fun q=>(key.1 q).elim t fun q=>c (kn.2 q)
      rw [if_neg e,if_neg e]
      unfold PT at t
      have t:X5 (Ye (mkL l) (firstN l i))=0:=Classical.not_not.1 t
      rw [Er t];exact ⟨t.symm,rfl⟩
def wA (_:List Int):Bool:=true
theorem Za0 (l:List Tm):okW l wA:=fun _ _ _ _ _ _ _ _ _ _=>rfl
theorem LI {l:List Tm} (h:okG l) {n:Nat} (hn:n<l.length) (hf:firstN l n=n):(n:Int)∈knW l wA (paL l).length:=by
  obtain ⟨p,hp,hx⟩:=mem_flatten.1 (Jr h hn hf)
  exact (Qj h).2 ⟨p,hp,rfl,hx⟩
theorem U3 {l:List Tm} (h:okG l):knE l wA=erG l:=by
  rw [Bool.eq_iff_iff,JC h]
  unfold erG
  rw [any_eq_true]
  constructor
  · rintro ⟨n,hn,t⟩
    obtain ⟨p,hp,_,hx⟩:=(Qj h).1 hn
    have b:=Sh h hp hx
    refine ⟨n.toNat,mem_range.2 (by omega),?_⟩
    rw [VQ,b.2.2,if_pos ((Ru h _ n.toNat (Nat.le_refl _) (by omega)).2 (.inl t))];rfl
  · rintro ⟨i,hi,q⟩
    have hi:=mem_range.1 hi
    have hl:=Ya hi
    have hf:=Xt h.ok hi
    rw [VQ] at q
    by_cases e:VO (mkL l) (firstN l i)=true
    · rcases (Ru h _ (firstN l i) (Nat.le_refl _) hl).1 e with t | ⟨k,hk,t⟩
      · exact ⟨_,LI h hl hf,by simpa using t⟩
      · have hfk:=QR h ((Tj h hl).1 hk).1
        exact ⟨_,LI h hfk.1 hfk.2,by simpa using t⟩
    · rw [if_neg e] at q;simp at q
theorem ZaJ (l:List Tm):YI (Xv 0) l=YI (ZG 0) l:=by
  have:Xv 0=ZG 0:=by funext m t;exact SS 0 m t
  rw [this]
theorem EP {f:Tm→Int} {l:List Tm} (h:Wd f l=0):∀ t∈l,f t=0:=by
  induction l with
  | nil=>intro t ht;exact absurd ht (by simp)
  | cons x l ih=>
    rw [Wd] at h
    split at h
    · rename_i c
      intro t ht
      rcases mem_cons.1 ht with rfl | ht
      · exact c
      · exact ih h t ht
    · rename_i c;exact absurd h c
theorem J9 {f:Tm→Int} {l:List Tm} (h:∀ t∈l,f t=0):Wd f l=0:=by
  induction l with
  | nil=>rfl
  | cons x l ih=>rw [Wd,if_pos (h x mem_cons_self)];exact ih fun t ht=>h t (mem_cons_of_mem _ ht)
theorem V6 {l:List Tm} (h:YI (ZG 0) l=0):okG l:=by
  unfold YI at h
  split at h
  · cases h
  · rename_i c
    exact ⟨by omega,by omega,EP h⟩
theorem Co {l:List Tm} (h:okG l):YI (ZG 0) l=0:=by
  unfold YI
  rw [if_neg (by have:=h.lo;have:=h.hi;omega)]
  exact J9 h.ck
noncomputable def kCe (l:List Tm) (i:Int):Int:=if YI (ZG 0) l=0 then (if i<0∨(l.length:Int)≤i then 1 else cR l i.toNat) else YI (ZG 0) l
noncomputable def kCb (l:List Tm) (i:Int):List Int:=if YI (ZG 0) l=0 then (if i<0∨(l.length:Int)≤i then [] else cO l i.toNat) else []
theorem F2 {l:List Tm} {i:Int} (h:¬ YI (ZG 0) l=0):kCe l i=YI (ZG 0) l∧kCb l i=[]:=by unfold kCe kCb;rw [if_neg h,if_neg h];exact ⟨rfl,rfl⟩
theorem F1 {l:List Tm} {i:Int} (h:YI (ZG 0) l=0) (hi:i<0∨(l.length:Int)≤i):kCe l i=1∧kCb l i=[]:=by unfold kCe kCb;rw [if_pos h,if_pos h,if_pos hi,if_pos hi];exact ⟨rfl,rfl⟩
theorem JE {l:List Tm} {i:Int} (h:YI (ZG 0) l=0) (hi:¬ (i<0∨(l.length:Int)≤i)):kCe l i=cR l i.toNat∧kCb l i=cO l i.toNat:=by unfold kCe kCb;rw [if_pos h,if_pos h,if_neg hi,if_neg hi];exact ⟨rfl,rfl⟩
noncomputable def kSe (l:List Tm):Int:=if YI (ZG 0) l=0 then erR l else YI (ZG 0) l
noncomputable def kSs (l:List Tm):List Sm:=if YI (ZG 0) l=0 then smO l else []
theorem F0 {l:List Tm} (h:¬ YI (ZG 0) l=0):kSe l=YI (ZG 0) l∧kSs l=[]:=by unfold kSe kSs;rw [if_neg h,if_neg h];exact ⟨rfl,rfl⟩
theorem On {l:List Tm} (h:YI (ZG 0) l=0):kSe l=erR l∧kSs l=smO l:=by unfold kSe kSs;rw [if_pos h,if_pos h];exact ⟨rfl,rfl⟩
noncomputable def kOl (l:List Tm):List Tm:=if kSe l=0 then opL l else []
theorem Ah {l:List Tm} (h:kSe l=0):okG l∧kSs l=smG l:=by
  by_cases c:YI (ZG 0) l=0
  · have:=On c
    rw [this.1] at h
    exact ⟨V6 c,this.2.trans (Zaq h).2⟩
  · have:=F0 c
    rw [this.1] at h;exact absurd h c
theorem DL {l:List Tm} (h:okG l):(if knE l wA=true then (11:Int) else 0)=erR l:=by rw [U3 h];rfl
def TF (s:List Sm) (k n:Int) (r:Sm):Int×Int×Sm:=if k=7 then (6,0,s.getD n.toNat zS) else (k,n,r)
theorem Cl (s:List Sm) (Q:Int→Int→Sm→Prop):∀ k n r,inI k→inI n→Q k n r→inI (TF s k n r).1∧inI (TF s k n r).2.1:=fun k n r hk hn _=>by
  unfold TF;split
  · unfold inI;simp
  · exact ⟨hk,hn⟩
theorem Fg {N:Nat} {s:List Sm}:Oo (TF s) N (replicate N (-1)) s:=⟨fun k n r hk=>by unfold TF;rw [if_neg hk],fun n h0 h1=>by
  unfold TF
  have e:(replicate N (-1:Int)).getD n.toNat 0= -1:=by rw [getD_eq_getElem?_getD,getElem?_replicate,if_pos (by omega)];rfl
  rw [if_pos rfl,e,if_pos (by decide)]⟩
theorem A1 {l:List Tm} (h:okG l) {j:Nat} (hj:j<l.length):mpT (TF (smG l)) l[j]=Z8 (replicate l.length (-1)) (smG l) l[j]:=Tb Fg 0 _ (checkR_iff.1 (h.ck _ (getElem_mem hj))).2
theorem Zbi {l:List Tm} (h:okG l) {j:Nat} (hj:j<l.length) {K:List Int} (hK:K=knW l wA (paL l).length):(frI l)[j]'(by rw [Yy];exact hj)∈K∧dgF l ((frI l)[j]'(by rw [Yy];exact hj))=sha (cB l j):=by
  rw [WA hj,hK]
  exact ⟨LI h (Ya hj) (Xt h.ok hj),rfl⟩
def RKn (h:Heap) (cs:List Value) (x:Sm×Tm):Prop:=∃ cb,cs=sC x.1++cb∧RT h cb x.2
theorem RKn.mono {h h':Heap} (hh:Hle h h') {cs:List Value} {x:Sm×Tm} (q:RKn h cs x):RKn h' cs x:=by obtain ⟨cb,e,r⟩:=q;exact ⟨cb,e,RT.mono hh r⟩
theorem RKns.mono {h h':Heap} (hh:Hle h h') {v:Value} {l:List (Sm×Tm)} (q:Hs.rdS RKn 68 h v l):Hs.rdS RKn 68 h' v l:=rdS.mono q hh fun _ _ _ q=>RKn.mono hh q
def idF (K:List Sm) (s:Sm):Int:=(K.idxOf s:Int)
def dfF (K:List Sm) (s:List Int) (y:Tm):List Int:=if y.ref∈K∧y.kind=6 then s++[idF K y.ref] else s
theorem Ez (K:List Sm) (s:List Int) (y:Tm):(dfF K s y).length≤s.length+1:=by unfold dfF;split <;> simp
def dfL (K:List Sm) (t:Tm):List Int:=ndT (dfF K) [] t
theorem Bk (K:List Sm) (t:Tm):(dfL K t).length≤sizeT t:=by
  have:=Nh (wt:=List.length) (Ez K) [] t
  simpa [dfL] using this
section
variable {σ:Type} {F:σ→Tm→σ} {I:σ→Prop}
mutual
theorem Ni (h:∀ s y,I s→I (F s y)):∀ (s:σ) (t:Tm),I s→I (ndT F s t)
  | s,.mk k n r kids cases,hs=>by rw [ndT];exact Jw h _ cases (Jv h _ kids (h _ _ hs))
theorem Jv (h:∀ s y,I s→I (F s y)):∀ (s:σ) (l:List Tm),I s→I (ndL F s l)
  | s,[],hs=>hs
  | s,t::l,hs=>by rw [ndL];exact Jv h _ l (Ni h _ t hs)
theorem Jw (h:∀ s y,I s→I (F s y)):∀ (s:σ) (l:List (Pt×Tm)),I s→I (ndC F s l)
  | s,[],hs=>hs
  | s,c::l,hs=>by rw [ndC];exact Jw h _ l (Ni h _ c.2 hs)
end
end
theorem Zau (K:List Sm) (t:Tm):∀ x∈dfL K t,0≤x∧x<(K.length:Int):=
  Ni (F :=dfF K) (I:=fun s=>∀ x∈s,0≤x∧x<(K.length:Int)) (fun s y hs x hx=>by
    unfold dfF at hx
    split at hx
    · rename_i c
      rcases mem_append.1 hx with hx | hx
      · exact hs x hx
      · rw [mem_singleton] at hx;subst hx
        have:=List.idxOf_lt_length_of_mem c.1
        unfold idF;omega
    · exact hs x hx) [] t (fun x hx=>absurd hx (by simp))
def rqB (s:Int→List Int) (x:Int):Nat→Nat→List Int→List Int
  | 0,_,t=>t
  | f+1,a,t=>if a<t.length+1 then rqB s x f (a+1) (stO (fun _=>true) (s ((x::t).getD a 0)) t) else t
theorem GN {s:Int→List Int} {x:Int} {f a:Nat} {t:List Int} (h:a<t.length+1):rqB s x (f+1) a t=rqB s x f (a+1) (stO (fun _=>true) (s ((x::t).getD a 0)) t):=by rw [rqB,if_pos h]
theorem D2 {s:Int→List Int} {x:Int} {f a:Nat} {t:List Int} (h:t.length+1≤a):rqB s x f a t=t:=by
  cases f with
  | zero=>rfl
  | succ f=>rw [rqB,if_neg (by omega)]
def kSm (l:List (Sm×Tm)):List Sm:=l.map (·.1)
theorem Sx (l:List (Sm×Tm)):(kSm l).length=l.length:=length_map ..
def dfA (l:List (Sm×Tm)) (x:Int):List Int:=dfL (kSm l) ((l.map (·.2)).getD x.toNat dT)
theorem EA {l:List (Sm×Tm)} {x:Int} (h:x.toNat<l.length):dfA l x=dfL (kSm l) l[x.toNat].2:=by
  unfold dfA;rw [getD_eq_getElem?_getD,getElem?_map,getElem?_eq_getElem h];rfl
theorem Pn (l:List (Sm×Tm)) (x:Int):∀ y∈dfA l x,0≤y∧y<(l.length:Int):=fun y hy=>by have:=Zau (kSm l) _ y hy;rwa [Sx] at this
def rqL (l:List (Sm×Tm)) (x:Int):List Int:=rqB (dfA l) x (l.length+1) 0 []
def flL (n:Nat) (t:List Int):List Bool:=(range n).map fun k:Nat=>decide ((k:Int)∈t)
theorem Te (n:Nat) (t:List Int):(flL n t).length=n:=by simp [flL]
theorem CY {n k:Nat} {t:List Int} (h:k<n):(flL n t).getD k false=decide ((k:Int)∈t):=by
  unfold flL;rw [getD_eq_getElem?_getD,getElem?_map,List.getElem?_range h];rfl
theorem CX (n:Nat):replicate n false=flL n []:=by
  apply ext_getElem (by simp [flL]);intro i h1 h2;simp [flL]
theorem CZ {n:Nat} {t:List Int} {x:Int} (h0:0≤x):(flL n t).set x.toNat true=flL n (t++[x]):=by
  refine ext_getElem (by rw [length_set,Te,Te]) fun i h1 h2=>?_
  rw [List.getElem_set]
  unfold flL
  simp only [getElem_map,getElem_range,mem_append,mem_singleton]
  by_cases e:x.toNat=i
  · rw [if_pos e]
    have:((i:Nat):Int)=x:=by omega
    simp [this]
  · rw [if_neg e]
    have:¬ ((i:Nat):Int)=x:=by omega
    simp [this]
theorem UR (l:List Tm) (v:Value) (H:Heap) (hv:Hs.rdS RT 36 H v l) (hz:∀ t∈l,sizeT t≤400000):CT prog 49 ⟨[v]⟩ [] H (fun r N=>r=.int .i64 (YI (ZG 0) l)∧N=[]):=by
  have z:=Bw l v H hv hz
  rwa [ZaJ] at z
theorem OII.nil:OII [] (.slice none 0 0) []:=⟨[],[],[],Own.nil,⟨rfl,rfl⟩,rfl,by simp⟩
section
attribute [local irreducible] JL J CT wlo DT
theorem GI (l:List Tm) (o K:List Int) (n:Int) (b8 b5 r:Nat) (vo:Value) (H:Heap) (h8:H b8=some (.cells ⟨[vo]⟩ 45 (0,0))) (ho:Hs.rdS RI 1 H vo o) (h5:H b5=some (.cells ⟨[.map (some r)]⟩ 95 (0,0))) (hR:H r=some (gmO iV smV K (dgF l))):CT prog 103 ⟨[iv n,pp b8 0,pp b5 0]⟩ [] H (fun v N=>∃ kx cx,v=.agg ⟨pkT (Xy o (kfV K (dgF l)) n).1 (Xy o (kfV K (dgF l)) n).2.1 (Xy o (kfV K (dgF l)) n).2.2 kx cx⟩∧N=[]∧kx.oneCell'=true∧cx.oneCell'=true):=by
 refine Zl func103 rfl rfl<|Zd<|JLr (Zk (l:=pkT 0 0 zS nS nS) zeroValue51 rfl fun b1=>Za<|Zg<|Zd<|JLr (Zc YL rfl (ZcN h8) rfl<|JLM rfl<|Jc call102 rfl (fun hin=>Rp _ _ _ _ (RIs.mono (Hle.hu _ _) ho)) rfl ?_))
 rintro _ _ ⟨rfl,rfl⟩
 refine JAn rfl<|Zd<|JLM rfl<|JLn (Pu.geq rfl rfl)<|Za<|ZN rfl (fun h2=>?_) (fun h2=>?_)
 ·refine Zd<|JLM rfl<|JLq (.agg ⟨pkT 7 (ixI o n) zS nS nS⟩) (Pu.build (pv:=[(0,iv 7),(1,iv (ixI o n))]) (l:=pkT 7 (ixI o n) zS nS nS) rfl (WL _ _))<|JLr (Zb 0 (vs:=pkT 7 (ixI o n) zS nS nS) (l:=pkT 7 (ixI o n) zS nS nS) Zu rfl rfl rfl rfl rfl (ZR rfl rfl) (Yb ..)<|Za<|Zz<|⟨.agg ⟨pkT 7 (ixI o n) zS nS nS⟩,[],Ret.one rfl (RV.cell Zu rfl (ZcK 0 rfl) (Z4 ..)),Sub.nil,?_⟩)
  have hno:n∈o:=by by_cases q:n∈o;exact q;(rw [F4 q] at h2;omega)
  have hD:Xy o (kfV K (dgF l)) n=(7,ixI o n,zS):=by unfold Xy ixI;rw [if_pos hno,if_pos hno]
  exact ⟨_,_,by (rw [hD];try rfl),rfl,rfl,rfl⟩
 refine Zo<|Zd<|JLr (Zc Zcm rfl (ZcN h5) rfl<|JLM rfl<|JLr (PN (kV:=iV) (vV:=smV) (K:=K) (f:=dgF l) (k:=n) zS (Zad underlying3) underlying95 zeroValue38 rfl rfl hR<|JLq (.agg ⟨pkT 6 0 (if n∈K then (dgF l) n else zS) nS nS⟩) (Pu.build (pv:=[(0,iv 6),(2,.agg ⟨sC (if n∈K then (dgF l) n else zS)⟩)]) (l:=pkT 6 0 (if n∈K then (dgF l) n else zS) nS nS) rfl (Rx _ _))<|JLr (Zb 0 (vs:=pkT 6 0 (if n∈K then (dgF l) n else zS) nS nS) (l:=pkT 6 0 (if n∈K then (dgF l) n else zS) nS nS) Zu rfl rfl rfl rfl rfl (ZR rfl rfl) (Yb ..)<|Za<|Zz<|⟨.agg ⟨pkT 6 0 (if n∈K then (dgF l) n else zS) nS nS⟩,[],Ret.one rfl (RV.cell Zu rfl (ZcK 0 rfl) (Z4 ..)),Sub.nil,?_⟩)))
 have hno:n∉o:=fun q=>by unfold ixI at h2;rw [if_pos q] at h2;omega
 have hD:Xy o (kfV K (dgF l)) n=(6,0,kfV K (dgF l) n):=by unfold Xy;rw [if_neg hno]
 exact ⟨_,_,by (rw [hD];try rfl),rfl,rfl,rfl⟩
theorem Cg:∀ (l:List Tm) (o K:List Int) (gb b8 b5 r:Nat) (vm vc vf vo:Value) (hvm:vm.oneCell'=true) (hvc:vc.oneCell'=true) (hvf:vf.oneCell'=true) (t:Tm) (cs:List Value) (H:Heap) (ht:RT H cs t) (hG:H gb=some (.cells ⟨[vm,vc,vf,.func (.func 103) ⟨[]⟩ ⟨[pp b8 0,pp b5 0]⟩]⟩ 91 (0,0))) (h8:H b8=some (.cells ⟨[vo]⟩ 45 (0,0))) (ho:Hs.rdS RI 1 H vo o) (h5:H b5=some (.cells ⟨[.map (some r)]⟩ 95 (0,0))) (hR:H r=some (gmO iV smV K (dgF l))),CT prog 104 ⟨[pp gb 0,.agg ⟨cs⟩]⟩ [] H (fun v N=>∃ kx cx,v=.agg ⟨pkT (TE o (kfV K (dgF l)) t.kind t.num t.ref).1 (TE o (kfV K (dgF l)) t.kind t.num t.ref).2.1 (TE o (kfV K (dgF l)) t.kind t.num t.ref).2.2 kx cx⟩∧N=[]∧kx.oneCell'=true∧cx.oneCell'=true):=by
 intro l o K gb b8 b5 r vm vc vf vo hvm hvc hvf t cs H ht hG h8 ho h5 hR
 obtain ⟨kind,num,ref,kids,cases⟩:=t
 obtain ⟨ks,cv,rfl,hk,hn,hks,hcv⟩:=RT_mk.1 ht
 simp only [Tm.kind,Tm.num,Tm.ref]
 refine Zl func104 rfl rfl<|Zd<|JLr (Zr (l:=pkT kind num ref ks cv) rfl rfl fun b1=>JLr (Zk (l:=pkT 0 0 zS nS nS) zeroValue51 rfl fun b2=>Za<|Zg<|Zd<|JLq (pp b1 0) (Yh rfl rfl)<|JLr (Zc ty3 rfl (ZcK 1 rfl) (YE ..)<|JLn (Pu.eql rfl rfl)<|Za ?_)))
 refine ZN rfl (fun h3=>?_) (fun h3=>?_)
 ·refine Zg<|ZM mixed #[0,1,3,7,0,16,63,127] 6 (sm 8 6) [] [] rfl (by kernel_rfl) rfl (by kernel_rfl)<|DM (fun _=>rfl)<|Dq (pp gb 0) (fun _=>Pu.nilCheck rfl)<|Dq (pp gb 3) (fun _=>Em rfl rfl)<|Dl1 Ay (ZcN hG) rfl<|Dq (pp b1 1) (fun _=>Y1 rfl rfl)<|Dl1 ty3 (ZcK 1 rfl) (XV ..)<|ZX (M':=[(BX b2 (pkT 0 0 zS nS nS) 51),(BX b1 (pkT kind num ref ks cv) 51)]) rfl ?_
  show JL _ _ _ [_,_] _ _ _
  refine Jc call103 rfl (fun hin=>GI l o K num _ _ r _ _ (Hle.hu _ _ _ _ h8) (RIs.mono (Hle.hu _ _) ho) (Hle.hu _ _ _ _ h5) (Hle.hu _ _ _ _ hR)) rfl ?_
  rintro _ _ ⟨kx,cx,rfl,rfl,hkx,hcx⟩
  refine JLr (Zb 0 (vs:=pkT ((Xy o (kfV K (dgF l)) num).1) ((Xy o (kfV K (dgF l)) num).2.1) ((Xy o (kfV K (dgF l)) num).2.2) kx cx) (l:=pkT ((Xy o (kfV K (dgF l)) num).1) ((Xy o (kfV K (dgF l)) num).2.1) ((Xy o (kfV K (dgF l)) num).2.2) kx cx) Zu rfl rfl rfl rfl rfl (ZR hkx hcx) (Yb ..)<|Za<|Zz<|⟨.agg ⟨pkT ((Xy o (kfV K (dgF l)) num).1) ((Xy o (kfV K (dgF l)) num).2.1) ((Xy o (kfV K (dgF l)) num).2.2) kx cx⟩,[],Ret.one rfl (RV.cell Zu rfl (ZcK 0 rfl) (Z4 ..)),Sub.nil,?_⟩)
  have hD:TE o (kfV K (dgF l)) kind num ref=Xy o (kfV K (dgF l)) num:=by unfold TE;rw [if_pos h3]
  exact ⟨_,_,by rw [hD],rfl,hkx,hcx⟩
 refine Zo<|Zd<|JLr (Zn Zu rfl (ZcK 1 rfl) (Z4 ..)<|JLr (Zb 0 (vs:=pkT kind num ref ks cv) (l:=pkT kind num ref ks cv) Zu rfl rfl rfl rfl rfl (ZR hks.one hcv.one) (Yb ..)<|Za<|Zz<|⟨.agg ⟨pkT kind num ref ks cv⟩,[],Ret.one rfl (RV.cell Zu rfl (ZcK 0 rfl) (Z4 ..)),Sub.nil,?_⟩))
 have hD:TE o (kfV K (dgF l)) kind num ref=(kind,num,ref):=by unfold TE;rw [if_neg h3]
 exact ⟨_,_,by rw [hD],rfl,hks.one,hcv.one⟩
end
theorem I7 (t:Tm) (cs:List Value) (H:Heap) (ht:RT H cs t) (hck:ZG 60 8 t=0):CT prog 105 ⟨[.agg ⟨cs⟩]⟩ [] H (fun r N=>∃ cs k,r=.tuple ⟨[.agg ⟨cs⟩,.int .i64 0]⟩∧N=[k]∧OIt (itT t) cs k):=by
  have z:=I8 t cs H ht
  simp only [hck,if_true] at z
  exact z
end Go.Proofs.YtjdjmjgleadcfaaGreatDoor.Hs
