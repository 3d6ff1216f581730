import Derived.Test.YtjdjmjgleadcfaaGreatDoorCodezd
import Derived.Shelf.Small.Bits
import Derived.Shelf.Small.Wraps
import Derived.Shelf.Strconv.Itoa0
import Derived.Shelf.Sort.Plain
import Derived.Shelf.Slices.Turned
import Derived.Shelf.Slices.Equal
import Derived.Ground.Names2Prog
import Derived.Shelf.Slices.CompactI
import Derived.Shelf.Slices.SearchI
import Derived.Shelf.Slices.Cells
import Derived.Shelf.Slices.In.SortNone
import Derived.Shelf.Slices.Empties2
import Derived.Sort.OwnSortedInts
set_option linter.unusedVariables false
set_option linter.unusedSimpArgs false
set_option maxRecDepth 100000
open Go.Proofs.Tryz
open List (getElem_mem replicate mem_cons_self mem_cons not_mem_nil append_assoc take_of_length_le range length_append getD_eq_getElem?_getD getElem?_eq_getElem mem_append length_take take_succ_eq_append_getElem length_cons length_map length_set flatten_cons mem_map mem_range map_append length_drop flatten map_cons length_replicate append_nil take_succ_cons cons_append eq_nil_of_length_eq_zero getElem?_map ext_getElem perm_append_comm mem_cons_of_mem getElem_map drop_eq_getElem_cons mem_singleton nil_append getElem?_eq_none nodup_cons map_congr_left take_append_drop drop_eq_nil_of_le getElem?_replicate getElem_range map_nil getElem_cons_succ any_eq_true nodup_append range_succ length_range set_cons_zero)
namespace Go.Proofs
section
open Go.Shelf
def Zc8:Go.Shelf.Ren:=⟨fun | 189=>149 | 125=>191 | 257=>190 | 128=>227 | 129=>228 | 294=>218 | 295=>219 | 296=>220 | 297=>221 | 298=>222 | 299=>223 | 216=>224 | 300=>225 | 301=>226 | 328=>237 | 329=>238 | 330=>239 | 331=>240 | 332=>241 | 215=>242 | 343=>245 | n=>n,fun | 28=>45 | 3=>3 | 46=>159 | 0=>0 | 51=>137 | 53=>107 | 4=>4 | 183=>258 | 182=>257 | 131=>167 | 5=>5 | 9=>9 | 218=>269 | 222=>273 | 228=>275 | 229=>180 | n=>n,fun | n=>n⟩
theorem Zc1:Go.Proofs.Lays.n189 prog Zc8:={
  mixed:=by kernel_rfl
  f125:=func191.trans (congrArg some (by kernel_rfl))
  f128:=func227.trans (congrArg some (by kernel_rfl))
  f129:=func228.trans (congrArg some (by kernel_rfl))
  f189:=func149.trans (congrArg some (by kernel_rfl))
  f215:=func242.trans (congrArg some (by kernel_rfl))
  f216:=func224.trans (congrArg some (by kernel_rfl))
  f257:=func190.trans (congrArg some (by kernel_rfl))
  f294:=func218.trans (congrArg some (by kernel_rfl))
  f295:=func219.trans (congrArg some (by kernel_rfl))
  f296:=func220.trans (congrArg some (by kernel_rfl))
  f297:=func221.trans (congrArg some (by kernel_rfl))
  f298:=func222.trans (congrArg some (by kernel_rfl))
  f299:=func223.trans (congrArg some (by kernel_rfl))
  f300:=func225.trans (congrArg some (by kernel_rfl))
  f301:=func226.trans (congrArg some (by kernel_rfl))
  f328:=func237.trans (congrArg some (by kernel_rfl))
  f329:=func238.trans (congrArg some (by kernel_rfl))
  f330:=func239.trans (congrArg some (by kernel_rfl))
  f331:=func240.trans (congrArg some (by kernel_rfl))
  f332:=func241.trans (congrArg some (by kernel_rfl))
  f343:=func245.trans (congrArg some (by kernel_rfl))
  t0:=underlying0
  a0:=isAgg0
  z0:=sizeOf0
  v0:=zeroValue0
  t3:=underlying3
  a3:=isAgg3
  z3:=sizeOf3
  v3:=zeroValue3
  t4:=underlying4
  a4:=isAgg4
  z4:=sizeOf4
  v4:=zeroValue4
  t5:=underlying5
  a5:=isAgg5
  z5:=sizeOf5
  v5:=zeroValue5
  t9:=underlying9
  a9:=isAgg9
  z9:=sizeOf9
  v9:=zeroValue9
  t28:=underlying45
  a28:=isAgg45
  z28:=sizeOf45
  v28:=zeroValue45
  t46:=underlying159
  a46:=isAgg159
  z46:=sizeOf159
  v46:=zeroValue159
  t51:=underlying137
  a51:=isAgg137
  z51:=sizeOf137
  v51:=zeroValue137
  t53:=underlying107
  a53:=isAgg107
  z53:=sizeOf107
  v53:=zeroValue107
  t131:=underlying167
  a131:=isAgg167
  z131:=sizeOf167
  v131:=zeroValue167
  t182:=underlying257
  a182:=isAgg257
  z182:=sizeOf257
  v182:=zeroValue257
  t183:=underlying258
  a183:=isAgg258
  z183:=sizeOf258
  v183:=zeroValue258
  t218:=underlying269
  a218:=isAgg269
  z218:=sizeOf269
  v218:=zeroValue269
  t222:=underlying273
  a222:=isAgg273
  z222:=sizeOf273
  v222:=zeroValue273
  t228:=underlying275
  a228:=isAgg275
  z228:=sizeOf275
  v228:=zeroValue275
  t229:=underlying180
  a229:=isAgg180
  z229:=sizeOf180
  v229:=zeroValue180}
open Go.Sort Go.RowKit in
theorem slices_Sort_int (blk off cap:Nat) (zs:List Int) (w:World) (hH:Holds (Value.int .i64) w blk off zs.toArray) (hblk:blk<w.heap.size) (hsz:zs.length<4611686018427387904):
    Calls prog 149 #[.slice (some ⟨blk,off,none⟩) zs.length cap] w fun e w'=>
      e=.returned (.tuple #[])∧∃ n os,w'=grow (putRow (Value.int .i64) (Sort.ahead w n) blk off (zs.mergeSort fun x y=>decide (x≤y)).toArray) os:=Any.slices_Sort_int Zc1 blk off cap zs w hH hblk hsz
def Zc2:Go.Shelf.Ren:=⟨fun | 20=>150 | n=>n,fun | 22=>45 | 3=>3 | 4=>4 | 0=>0 | n=>n,fun | n=>n⟩
theorem Zc0:Go.Proofs.Lays2.n20 prog Zc2:={
  mixed:=by kernel_rfl
  f20:=func150.trans (congrArg some (by kernel_rfl))
  t0:=underlying0
  a0:=isAgg0
  z0:=sizeOf0
  v0:=zeroValue0
  t3:=underlying3
  a3:=isAgg3
  z3:=sizeOf3
  v3:=zeroValue3
  t4:=underlying4
  a4:=isAgg4
  z4:=sizeOf4
  v4:=zeroValue4
  t22:=underlying45
  a22:=isAgg45
  z22:=sizeOf45
  v22:=zeroValue45
  i3:=by kernel_rfl}
open Go.RowKit Go.Lib Go.Sort in
theorem slices_Compact_int (blk off cap:Nat) (zs:List Int) (w:World) (hH:Holds (Value.int .i64) w blk off zs.toArray) (hsz:zs.length≤9223372036854775807) (hcap:zs.length≤cap):
    Calls prog 150 #[.slice (some ⟨blk,off,none⟩) zs.length cap] w fun e w'=>e=.returned (.slice (some ⟨blk,off,none⟩) (Lib.compact zs).length cap)∧∃ q,w'=putRow (Value.int .i64) (Sort.ahead w q) blk off (Lib.compact zs++replicate (zs.length-(Lib.compact zs).length) 0).toArray:=Any.slices_Compact_int Zc0 blk off cap zs w hH hsz hcap
open Go.RowKit Go.Lib Go.Sort in
theorem slices_Compact_int_empty (a:Option Addr) (cap:Nat) (w:World):
    Calls prog 150 #[.slice a 0 cap] w fun e w'=>e=.returned (.slice a 0 cap)∧w'=w:=Any.slices_Compact_int_empty Zc0 a cap w
open Go.RowKit Go.Sort in
theorem slices_Sort_int_none (p:Option Addr) (cap:Nat) (w:World):
    Calls prog 149 #[.slice p 0 cap] w fun e w'=>e=.returned (.tuple #[])∧w'=w:=Any.slices_Sort_int_none Zc1 p cap w
end
end Go.Proofs
namespace Go.Proofs.YtjdjmjgleadcfaaGreatDoor.Hs
section
open Go Go.Proofs Go.Sort Go.RowKit Go.MapKept
theorem Zdg {w w':World} {L:Zi} {H:Heap} {b:Nat} {o o':Obj} (m:Mem w ((b,o)::L) H)
    (hb:w'.heap[b]?=some o') (hne:∀ k,k<w.heap.size→k≠b→w'.heap[k]?=w.heap[k]?) (hr:Still w w'):Mem w' ((b,o')::L) H:=by
  have hnd:=m.nd
  rw [map_cons,nodup_cons] at hnd
  have lt:∀ {k:Nat} {x:Obj},w.heap[k]?=some x→k<w.heap.size:=fun h=>(Array.getElem?_eq_some_iff.1 h).1
  refine ⟨by rw [map_cons,nodup_cons];exact hnd,?_,?_,?_,hr.rest m.rest⟩
  · intro k x hk
    rcases mem_cons.1 hk with e | hk
    · cases e;exact hb
    · have h1:=m.own k x (mem_cons.2 (.inr hk))
      rw [hne k (lt h1) (fun e=>hnd.1 (mem_map.2 ⟨(k,x),hk,e⟩))];exact h1
  · intro k x hk
    rcases mem_cons.1 hk with e | hk
    · cases e;exact m.sep b o (mem_cons.2 (.inl rfl))
    · exact m.sep k x (mem_cons.2 (.inr hk))
  · intro k x hk
    have h1:=m.imm k x hk
    rw [hne k (lt h1) (fun e=>by subst e;rw [m.sep k o (mem_cons.2 (.inl rfl))] at hk;cases hk)];exact h1
theorem Ud (l:List Int):(Z2 l).flatten=l.map (Value.int .i64):=by
  induction l with
  | nil=>rfl
  | cons x l ih=>rw [show Z2 (x::l)=[.int .i64 x]::Z2 l from rfl,flatten_cons,ih];rfl
theorem Js {T:TypeId} {b n cap:Nat} {cur:List Value} {ts:List Int} (hc:cur.length=cap) (hts:ts.length≤cap) (hn:n≤ts.length) {us:List Int} (hus:us=ts.take n):
    Own T 1 (.slice (some ⟨b,0,none⟩) n cap) (Z2 us) [(b,.cells (putCells (Value.int .i64) 0 ts.toArray ⟨cur⟩) T (0,0))]:=by
  subst hus
  have e:=take_putCellsI ⟨cur⟩ ts (by simpa [hc] using hts)
  have hl:(ts.take n).length=n:=by rw [length_take];omega
  have hsz:(putCells (Value.int .i64) 0 ts.toArray ⟨cur⟩).size=cap:=by simp [putCells,hc]
  have e2:(putCells (Value.int .i64) 0 ts.toArray ⟨cur⟩).toList.take n=(ts.take n).map (Value.int .i64):=by
    rw [List.map_take,← e,List.take_take,Nat.min_eq_left hn]
  refine ⟨fun x hx=>RM _ x hx,.inr ⟨b,cap,(putCells (Value.int .i64) 0 ts.toArray ⟨cur⟩).toList.drop n,by rw [Zt,hl],?_,?_,by rw [Zt,hl];omega⟩⟩
  · rw [Ud,← e2,take_append_drop]
  · rw [length_drop,Array.length_toList,hsz,Zt,hl,Nat.mul_one]
theorem GA (l:List Int) (v:Value) (k:Zi) (H:Heap) (ho:Own 3 1 v (Z2 l) k) (hl:l.length≤1000000):
    CT prog 149 ⟨[v]⟩ [k] H (fun r N=>r=.tuple ⟨[]⟩∧∃ k',N=[k']∧Own 3 1 v (Z2 (l.mergeSort fun x y=>decide (x≤y))) k'):=fun F w m=>by
  rw [callsIn_wide]
  obtain ⟨h1,⟨rfl,he,rfl⟩ | ⟨b,cap,spare,rfl,rfl,hsp,hcap⟩⟩:=ho
  · have:l=[]:=by cases l with
      | nil=>rfl
      | cons x l=>cases he
    subst this
    refine (slices_Sort_int_none none 0 w).mono ?_
    rintro e w' ⟨rfl,rfl⟩
    exact ⟨_,[[]],rfl,m,rfl,[],rfl,by simpa [Z2] using (Own.nil:Own 3 1 (.slice none 0 0) [] [])⟩
  · rw [Zt] at hsp hcap ⊢
    have hb:=m.own b _ (by simp:(b,Obj.cells ⟨(Z2 l).flatten++spare⟩ 3 (0,0))∈_)
    have hcl:((Z2 l).flatten++spare).length=cap:=by rw [length_append,Ud,length_map,hsp];omega
    have ht:((⟨(Z2 l).flatten++spare⟩:Array Value)).toList.take l.length=l.map (Value.int .i64):=by
      show ((Z2 l).flatten++spare).take l.length=_
      rw [Ud,List.take_append_of_le_length (by simp),take_of_length_le (by simp)]
    refine (slices_Sort_int b 0 cap l w (holds_of_blockI hb ht) (Array.getElem?_eq_some_iff.1 hb).1 (by omega)).mono ?_
    rintro e w' ⟨rfl,n,os,rfl⟩
    have hg:=grownBy_sortedI (w:=w) (g:=b) (n:=n) (os:=os) (l.mergeSort fun x y=>decide (x≤y)).toArray
    have hm:Mem (grow (putRow (Value.int .i64) (Sort.ahead w n) b 0 (l.mergeSort fun x y=>decide (x≤y)).toArray) os) ((b,.cells (putCells (Value.int .i64) 0 (l.mergeSort fun x y=>decide (x≤y)).toArray ⟨(Z2 l).flatten++spare⟩) 3 (0,0))::F) H:=by
      refine Zdg (w:=w) (o:=.cells ⟨(Z2 l).flatten++spare⟩ 3 (0,0)) (by simpa using m) (heap_sortedI _ hb) ?_ ⟨rfl,rfl,rfl,Nat.le_add_right _ _⟩
      intro k hk hne
      exact hg.block k hk (fun e=>hne (Option.some.inj e))
    refine ⟨_,[[(b,.cells (putCells (Value.int .i64) 0 (l.mergeSort fun x y=>decide (x≤y)).toArray ⟨(Z2 l).flatten++spare⟩) 3 (0,0))]],rfl,by simpa using hm,rfl,_,rfl,?_⟩
    have:=Js (T:=3) (b:=b) (n:=l.length) (cap:=cap) (cur:=(Z2 l).flatten++spare) (ts:=l.mergeSort fun x y=>decide (x≤y)) hcl (by simp;omega) (by simp) (us:=l.mergeSort fun x y=>decide (x≤y)) (by rw [take_of_length_le (by simp)])
    exact this
theorem Lp (l:List Int) (v:Value) (k:Zi) (H:Heap) (ho:Own 3 1 v (Z2 l) k) (hl:l.length≤1000000):
    CT prog 150 ⟨[v]⟩ [k] H (fun r N=>∃ k',N=[k']∧Own 3 1 r (Z2 (Lib.compact l)) k'):=fun F w m=>by
  rw [callsIn_wide]
  obtain ⟨h1,⟨rfl,he,rfl⟩ | ⟨b,cap,spare,rfl,rfl,hsp,hcap⟩⟩:=ho
  · have:l=[]:=by cases l with
      | nil=>rfl
      | cons x l=>cases he
    subst this
    refine (slices_Compact_int_empty none 0 w).mono ?_
    rintro e w' ⟨rfl,rfl⟩
    exact ⟨_,[[]],rfl,m,[],rfl,Own.nil⟩
  · rw [Zt] at hsp hcap ⊢
    have hb:=m.own b _ (by simp:(b,Obj.cells ⟨(Z2 l).flatten++spare⟩ 3 (0,0))∈_)
    have hcl:((Z2 l).flatten++spare).length=cap:=by rw [length_append,Ud,length_map,hsp];omega
    have ht:((⟨(Z2 l).flatten++spare⟩:Array Value)).toList.take l.length=l.map (Value.int .i64):=by
      show ((Z2 l).flatten++spare).take l.length=_
      rw [Ud,List.take_append_of_le_length (by simp),take_of_length_le (by simp)]
    have hcle:=Lib.compact_length_le l
    refine (slices_Compact_int b 0 cap l w (holds_of_blockI hb ht) (by omega) hcap).mono ?_
    rintro e w' ⟨rfl,n,rfl⟩
    obtain ⟨ts,hts⟩:∃ ts,ts=Lib.compact l++replicate (l.length-(Lib.compact l).length) 0:=⟨_,rfl⟩
    have htl:ts.length=l.length:=by rw [hts];simp;omega
    rw [← hts]
    have hg:=grownBy_sortedI (w:=w) (g:=b) (n:=n) (os:=#[]) ts.toArray
    have e0:∀ w:World,grow w #[]=w:=by intro w;simp [grow]
    rw [e0] at hg
    have hb':=heap_sortedI (n:=n) (os:=#[]) ts.toArray hb
    rw [e0] at hb'
    have hm:Mem (putRow (Value.int .i64) (Sort.ahead w n) b 0 ts.toArray) ((b,.cells (putCells (Value.int .i64) 0 ts.toArray ⟨(Z2 l).flatten++spare⟩) 3 (0,0))::F) H:=by
      refine Zdg (w:=w) (o:=.cells ⟨(Z2 l).flatten++spare⟩ 3 (0,0)) (by simpa using m) hb' ?_ ⟨rfl,rfl,rfl,Nat.le_add_right _ _⟩
      intro k hk hne
      exact hg.block k hk (fun e=>hne (Option.some.inj e))
    refine ⟨_,[[(b,.cells (putCells (Value.int .i64) 0 ts.toArray ⟨(Z2 l).flatten++spare⟩) 3 (0,0))]],rfl,by simpa using hm,_,rfl,?_⟩
    exact Js (T:=3) (b:=b) (n:=(Lib.compact l).length) (cap:=cap) (cur:=(Z2 l).flatten++spare) (ts:=ts) hcl (by omega) (by omega) (us:=Lib.compact l) (by rw [hts,List.take_left])
section
variable {c:Cx} {H:Heap} {ρ:Nat→Value} {M:List Zi} {K:Value→List Zi→Prop} {d:Option Nat} {ot:TypeId} {pos:String} {af:Array Edge} {g:Option (Nat×Bool)} {x y:Operand}
end
theorem MK {P:Program} {H:Heap} {T:TypeId} {v:Value} {l:List Int} {k:Zi} {M:List Zi} {i:Nat} (o:Own T 1 v (Z2 l) k) (hi:M[i]?=some k):∀ F w,Mem w (M.flatten++F) H→Src P 1 w v l.length (Z2 l).flatten:=by
  intro F w m
  rcases o.2 with ⟨e,e2,e3⟩ | ⟨b,cap,sp,e,e2,e3,e4⟩
  · have:l=[]:=by have:=Zt l;rw [e2] at this;exact eq_nil_of_length_eq_zero this.symm
    subst this
    rw [e];exact Src.nil
  · subst e
    have hb:w.heap[b]?=some (.cells ⟨(Z2 l).flatten++sp⟩ T (0,0)):=(ZcD (M:=M) (H:=H) i hi (by rw [e2];simp)).heap m
    have:=Src.row (P:=P) (cap:=cap) (n:=l.length) hb (by have:=QX (sp:=sp) o.1;rwa [Zt] at this)
    rwa [Zt]
theorem Td (a b:List Int):Z2 (a++b)=Z2 a++Z2 b:=by unfold Z2;rw [map_append]
end
mutual
def sfR:Tm→List Int
  | .mk k n _ kids cases=>if k=7 then [n] else Y0 kids++Y4 cases
def Y0:List Tm→List Int
  | []=>[]
  | t::l=>sfR t++Y0 l
def Y4:List (Pt×Tm)→List Int
  | []=>[]
  | c::l=>sfR c.2++Y4 l
end
theorem IG {l:List Tm} {j:Nat} (h:j<l.length):Y0 (l.take (j+1))=Y0 (l.take j)++sfR l[j]:=by
  induction l generalizing j with
  | nil=>exact absurd h (by simp)
  | cons t l ih=>
    cases j with
    | zero=>simp [Y0]
    | succ j=>simp only [take_succ_cons,Y0,getElem_cons_succ];rw [ih (by simpa using h),append_assoc]
theorem IH {l:List (Pt×Tm)} {j:Nat} (h:j<l.length):Y4 (l.take (j+1))=Y4 (l.take j)++sfR l[j].2:=by
  induction l generalizing j with
  | nil=>exact absurd h (by simp)
  | cons t l ih=>
    cases j with
    | zero=>simp [Y4]
    | succ j=>simp only [take_succ_cons,Y4,getElem_cons_succ];rw [ih (by simpa using h),append_assoc]
mutual
theorem VF:∀ t:Tm,(sfR t).length≤sizeT t
  | .mk k n r kids cases=>by
    rw [sfR,sizeT]
    split
    · simp;omega
    · rw [length_append];have:=Ss kids;have:=Q5 cases;omega
theorem Ss:∀ l:List Tm,(Y0 l).length≤ZL l
  | []=>by simp [Y0,ZL]
  | t::l=>by rw [Y0,ZL,length_append];have:=VF t;have:=Ss l;omega
theorem Q5:∀ l:List (Pt×Tm),(Y4 l).length≤ZX l
  | []=>by simp [Y4,ZX]
  | c::l=>by rw [Y4,ZX,length_append];have:=VF c.2;have:=Q5 l;omega
end
theorem U3 (l:List Tm) (j:Nat):ZL (l.take j)≤ZL l:=by
  induction l generalizing j with
  | nil=>simp
  | cons t l ih=>
    cases j with
    | zero=>simp [ZL]
    | succ j=>simp only [take_succ_cons,ZL];have:=ih j;omega
theorem Mz (l:List (Pt×Tm)) (j:Nat):ZX (l.take j)≤ZX l:=by
  induction l generalizing j with
  | nil=>simp
  | cons t l ih=>
    cases j with
    | zero=>simp [ZX]
    | succ j=>simp only [take_succ_cons,ZX];have:=ih j;omega
mutual
def Yy (by':List Int) (sums:List Sm):Tm→Tm
  | .mk k n r kids cases=>if k=7 then (if by'.getD n.toNat 0<0 then .mk 6 0 (sums.getD n.toNat zS) [] [] else .mk 7 (by'.getD n.toNat 0) zS [] []) else .mk k n r (YF by' sums kids) (YC by' sums cases)
def YF (by':List Int) (sums:List Sm):List Tm→List Tm
  | []=>[]
  | t::l=>Yy by' sums t::YF by' sums l
def YC (by':List Int) (sums:List Sm):List (Pt×Tm)→List (Pt×Tm)
  | []=>[]
  | c::l=>(c.1,Yy by' sums c.2)::YC by' sums l
end
theorem Rw (b:List Int) (s:List Sm) (l:List Tm):YF b s l=l.map (Yy b s):=by induction l with
  | nil=>rfl
  | cons t l ih=>rw [YF,ih];rfl
theorem Rx (b:List Int) (s:List Sm) (l:List (Pt×Tm)):YC b s l=l.map fun c=>(c.1,Yy b s c.2):=by induction l with
  | nil=>rfl
  | cons t l ih=>rw [YC,ih];rfl
theorem OJ (b:List Int) (s:List Sm) (l:List Tm):(YF b s l).length=l.length:=by rw [Rw,length_map]
theorem OK (b:List Int) (s:List Sm) (l:List (Pt×Tm)):(YC b s l).length=l.length:=by rw [Rx,length_map]
theorem LY (b:List Int) (s:List Sm) (l:List Tm) (j:Nat) (h:j<l.length):YF b s (l.take (j+1))=YF b s (l.take j)++[Yy b s l[j]]:=by
  rw [Rw,Rw,take_succ_eq_append_getElem h,map_append];rfl
theorem LZ (b:List Int) (s:List Sm) (l:List (Pt×Tm)) (j:Nat) (h:j<l.length):YC b s (l.take (j+1))=YC b s (l.take j)++[((l[j]).1,Yy b s (l[j]).2)]:=by
  rw [Rx,Rx,take_succ_eq_append_getElem h,map_append];rfl
def Q9 (b:List Int) (s:List Sm) (l:List Int):Prop:=∀ n∈l,0≤n∧n<b.length∧(b.getD n.toNat 0<0→n<s.length)∧inI (b.getD n.toNat 0)
theorem GE {l:List Tm} {j:Nat} (h:j<l.length) {n:Int} (hn:n∈sfR l[j]):n∈Y0 l:=by
  induction l generalizing j with
  | nil=>exact absurd h (by simp)
  | cons t l ih=>
    rw [Y0]
    cases j with
    | zero=>exact mem_append.2 (.inl hn)
    | succ j=>exact mem_append.2 (.inr (ih (by simpa using h) (by simpa using hn)))
theorem GF {l:List (Pt×Tm)} {j:Nat} (h:j<l.length) {n:Int} (hn:n∈sfR l[j].2):n∈Y4 l:=by
  induction l generalizing j with
  | nil=>exact absurd h (by simp)
  | cons t l ih=>
    rw [Y4]
    cases j with
    | zero=>exact mem_append.2 (.inl hn)
    | succ j=>exact mem_append.2 (.inr (ih (by simpa using h) (by simpa using hn)))
def Wq (f:Tm→Int):List Tm→Int
  | []=>0
  | t::l=>if f t=0 then Wq f l else f t
def Z7 (f:Int→Tm→Int) (l:List Tm):Int:=if l.length<1∨8<l.length then 2 else Wq (f l.length) l
theorem N9 {f:Tm→Int} {l:List Tm} {j:Nat} (h:j<l.length) (hi:Wq f (l.drop j)=Wq f l) (h0:f l[j]=0):Wq f (l.drop (j+1))=Wq f l:=by
  rw [drop_eq_getElem_cons h,Wq,if_pos h0] at hi;exact hi
theorem R0 {f:Tm→Int} {l:List Tm} {j:Nat} (h:j<l.length) (hi:Wq f (l.drop j)=Wq f l) (h0:¬ f l[j]=0):Wq f l=f l[j]:=by
  rw [drop_eq_getElem_cons h,Wq,if_neg h0] at hi;exact hi.symm
theorem PW {f:Tm→Int} {l:List Tm} {j:Nat} (h:l.length≤j) (hi:Wq f (l.drop j)=Wq f l):Wq f l=0:=by
  rw [drop_eq_nil_of_le h,Wq] at hi;exact hi.symm
theorem Ls {f:Int→Tm→Int} {l:List Tm} (h:l.length<1∨8<l.length):Z7 f l=2:=by rw [Z7,if_pos h]
theorem QM {f:Int→Tm→Int} {l:List Tm} (h:¬ (l.length<1∨8<l.length)):Z7 f l=Wq (f l.length) l:=by rw [Z7,if_neg h]
section
section
variable (e0:Nat→Nat→Prop) (s:Nat→List Nat)
def eqN:Nat→Nat→Nat→Prop
  | 0,i,j=>e0 i j
  | n+1,i,j=>eqN n i j∧∀ k,k<(s i).length→eqN n ((s i).getD k 0) ((s j).getD k 0)
def bis (i j:Nat):Prop:=∀ n,eqN e0 s n i j
end
variable {e0:Nat→Nat→Prop} {s:Nat→List Nat}
theorem PH {m n i j:Nat} (h:m≤n) (q:eqN e0 s n i j):eqN e0 s m i j:=by
  induction n with
  | zero => obtain rfl:m=0:=by omega
            exact q
  | succ n ih=>
    rcases Nat.lt_or_ge m (n+1) with h1 | h1
    · exact ih (by omega) q.1
    · obtain rfl:m=n+1:=by omega
      exact q
theorem SY (hr:∀ i,e0 i i):∀ n i,eqN e0 s n i i
  | 0,i=>hr i
  | n+1,i=>⟨SY hr n i,fun _ _=>SY hr n _⟩
theorem N5 (hl:∀ i j,e0 i j→(s i).length=(s j).length) {n i j:Nat} (q:eqN e0 s n i j):(s i).length=(s j).length:=hl _ _ (PH (Nat.zero_le n) q)
theorem SX (hs:∀ i j,e0 i j→e0 j i) (hl:∀ i j,e0 i j→(s i).length=(s j).length):∀ n {i j:Nat},eqN e0 s n i j→eqN e0 s n j i
  | 0,_,_,q=>hs _ _ q
  | n+1,_,_,q=>⟨SX hs hl n q.1,fun k hk=>SX hs hl n (q.2 k (by rw [N5 hl q.1];exact hk))⟩
theorem TE (ht:∀ i j k,e0 i j→e0 j k→e0 i k) (hl:∀ i j,e0 i j→(s i).length=(s j).length):∀ n {i j k:Nat},eqN e0 s n i j→eqN e0 s n j k→eqN e0 s n i k
  | 0,_,_,_,q,r=>ht _ _ _ q r
  | n+1,_,_,_,q,r=>⟨TE ht hl n q.1 r.1,fun k hk=>TE ht hl n (q.2 k hk) (r.2 k (by rw [← N5 hl q.1];exact hk))⟩
theorem Kv {N n:Nat} (hb:∀ i,i<N→∀ x∈s i,x<N) (hl:∀ i j,e0 i j→(s i).length=(s j).length) (h:∀ i j,i<N→j<N→eqN e0 s n i j→eqN e0 s (n+1) i j):
    ∀ i j,i<N→j<N→eqN e0 s n i j→bis e0 s i j:=by
  have key:∀ m i j,i<N→j<N→eqN e0 s n i j→eqN e0 s (n+m) i j:=by
    intro m
    induction m with
    | zero=>intro i j _ _ q;exact q
    | succ m ih=>
      intro i j hi hj q
      have q1:=h i j hi hj q
      refine ⟨ih i j hi hj q,fun k hk=>ih _ _ ?_ ?_ (q1.2 k hk)⟩
      · exact hb i hi _ (by rw [getD_eq_getElem?_getD,getElem?_eq_getElem hk];exact getElem_mem _)
      · have hk2:k<(s j).length:=by rw [← N5 hl q];exact hk
        exact hb j hj _ (by rw [getD_eq_getElem?_getD,getElem?_eq_getElem hk2];exact getElem_mem _)
  intro i j hi hj q m
  exact PH (by omega) (key m i j hi hj q)
theorem Rb {R:Nat→Nat→Prop} (h0:∀ i j,R i j→e0 i j) (h1:∀ i j,R i j→∀ k,k<(s i).length→R ((s i).getD k 0) ((s j).getD k 0)):∀ i j,R i j→bis e0 s i j:=by
  intro i j r n
  induction n generalizing i j with
  | zero=>exact h0 i j r
  | succ n ih=>exact ⟨ih i j r,fun k hk=>ih _ _ (h1 i j r k hk)⟩
theorem LC {i j:Nat} (h:bis e0 s i j) {k:Nat} (hk:k<(s i).length):bis e0 s ((s i).getD k 0) ((s j).getD k 0):=fun n=>(h (n+1)).2 k hk
theorem Me {i j:Nat} (h:bis e0 s i j):e0 i j:=h 0
end
def SH (N:Int) (K:List (Int×Int)) (o c:Int):Int:=N+K.idxOf (o,c)
theorem Fs {N:Int} {K:List (Int×Int)} {o c o' c':Int} (h:(o,c)∈K) (h':(o',c')∈K) (e:SH N K o c=SH N K o' c'):o=o'∧c=c':=by
  unfold SH at e
  have e1:K.idxOf (o,c)=K.idxOf (o',c'):=by omega
  have h1:=List.idxOf_lt_length_of_mem h
  have h2:=List.idxOf_lt_length_of_mem h'
  have g1:K[K.idxOf (o,c)]=(o,c):=List.getElem_idxOf h1
  have g2:K[K.idxOf (o',c')]=(o',c'):=List.getElem_idxOf h2
  have:(o,c)=(o',c'):=by rw [← g1,← g2];congr 1
  injection this with a b
  exact ⟨a,b⟩
def TV (N:Int) (K:List (Int×Int)) (a:Int):List Int→Int
  | []=>a
  | c::l=>SH N K (TV N K a l) c
def inK (N:Int) (K:List (Int×Int)) (a:Int):List Int→Prop
  | []=>True
  | c::l=>(TV N K a l,c)∈K∧inK N K a l
theorem MC {N:Int} {K:List (Int×Int)} {a b:Int} (ha:a<N) (hb:b<N):∀ {l m:List Int},inK N K a l→inK N K b m→TV N K a l=TV N K b m→a=b∧l=m
  | [],[],_,_,e=>⟨e,rfl⟩
  | [],c::m,_,_,e=>by simp only [TV,SH] at e;omega
  | c::l,[],_,_,e=>by simp only [TV,SH] at e;omega
  | c::l,c'::m,h,h',e=>by
    obtain ⟨e1,e2⟩:=Fs h.1 h'.1 e
    obtain ⟨e3,e4⟩:=MC ha hb h.2 h'.2 e1
    exact ⟨e3,by rw [e2,e4]⟩
def Ot (K:List (Int×Int)) (p:Int×Int):List (Int×Int):=if p∈K then K else K++[p]
theorem Df (K:List (Int×Int)) (p:Int×Int):p∈Ot K p:=by
  unfold Ot;split
  · assumption
  · simp
theorem LF (K:List (Int×Int)) (p:Int×Int):K<+:Ot K p:=by
  unfold Ot;split
  · exact List.prefix_refl _
  · exact List.prefix_append _ _
theorem Fr {N:Int} {K K':List (Int×Int)} (h:K<+:K') {o c:Int} (hm:(o,c)∈K):SH N K' o c=SH N K o c:=by
  obtain ⟨r,rfl⟩:=h
  unfold SH
  rw [List.idxOf_append,if_pos hm]
theorem Q8 {N:Int} {K K':List (Int×Int)} (h:K<+:K') {a:Int}:∀ {l:List Int},inK N K a l→TV N K' a l=TV N K a l∧inK N K' a l
  | [],_=>⟨rfl,trivial⟩
  | c::l,q=>by
    obtain ⟨e,i⟩:=Q8 h q.2
    refine ⟨by rw [TV,TV,e,Fr h q.1],by rw [e];exact h.subset q.1,i⟩
def plt (R:Nat→Nat→Prop):Nat→Nat→Nat→Prop
  | 0,i,j=>R i j
  | k+1,i,j=>plt R k i j∨(plt R k i k∧plt R k k j)
theorem G6 {R:Nat→Nat→Prop} {k m i j:Nat} (h:k≤m) (q:plt R k i j):plt R m i j:=by
  induction m with
  | zero => obtain rfl:k=0:=by omega
            exact q
  | succ m ih=>
    rcases Nat.lt_or_ge k (m+1) with h1 | h1
    · exact .inl (ih (by omega))
    · obtain rfl:k=m+1:=by omega
      exact q
theorem Ts {R:Nat→Nat→Prop}:∀ {k m i j:Nat},m<k→plt R k i m→plt R k m j→plt R k i j
  | 0,_,_,_,h,_,_=>absurd h (by omega)
  | k +1,m,i,j,h,q,r=>by
    rcases Nat.lt_or_ge m k with hm | hm
    · rcases q with q | ⟨q1,q2⟩ <;> rcases r with r | ⟨r1,r2⟩
      · exact .inl (Ts hm q r)
      · exact .inr ⟨Ts hm q r1,r2⟩
      · exact .inr ⟨q1,Ts hm q2 r⟩
      · exact .inr ⟨q1,r2⟩
    · obtain rfl:m=k:=by omega
      have a:plt R m i m:=q.elim id (·.1)
      have b:plt R m m j:=r.elim id (·.2)
      exact .inr ⟨a,b⟩
theorem WC {R T:Nat→Nat→Prop} (h:∀ i j,R i j→T i j) (ht:∀ i j k,T i j→T j k→T i k):∀ {k i j:Nat},plt R k i j→T i j
  | 0,_,_,q=>h _ _ q
  | _+1,_,_,q=>q.elim (WC h ht) fun q=>ht _ _ _ (WC h ht q.1) (WC h ht q.2)
theorem NJ {R:Nat→Nat→Prop} {N:Nat} (h:∀ i j,R i j→j<N):∀ {k i j:Nat},plt R k i j→j<N
  | 0,_,_,q=>h _ _ q
  | _+1,_,_,q=>q.elim (NJ h) fun q=>NJ h q.2
def YN (rs:List (List Bool)) (i j:Nat):Bool:=(rs.getD i []).getD j false
def Vv (rs:List (List Bool)) (i j:Nat) (v:Bool):List (List Bool):=rs.set i ((rs.getD i []).set j v)
def okM (N:Nat) (rs:List (List Bool)):Prop:=rs.length=N∧∀ i,i<N→(rs.getD i []).length=N
theorem okM.set {N:Nat} {rs:List (List Bool)} (h:okM N rs) {i j:Nat} {v:Bool} (_hi:i<N):okM N (Vv rs i j v):=by
  refine ⟨by rw [Vv,length_set];exact h.1,fun a ha=>?_⟩
  unfold Vv
  by_cases e:i=a
  · subst e
    rw [getD_eq_getElem?_getD,List.getElem?_set_self (by rw [h.1];exact ha),Option.getD_some,length_set]
    exact h.2 i ha
  · rw [getD_eq_getElem?_getD,List.getElem?_set_ne e,← getD_eq_getElem?_getD]
    exact h.2 a ha
def sfN (t:Tm):List Nat:=(sfR t).map Int.toNat
def cdL (l:List Tm):List (List Nat):=l.map sfN
def cdG (cd:List (List Nat)) (i:Nat):List Nat:=cd.getD i []
def rcB (cd:List (List Nat)):Nat→Nat→Nat→Bool
  | 0,i,j=>decide (j∈cdG cd i)
  | k+1,i,j=>rcB cd k i j||(rcB cd k i k&&rcB cd k k j)
theorem rcB_iff {cd:List (List Nat)} {k i j:Nat}:rcB cd k i j=true↔plt (fun i j=>j∈cdG cd i) k i j:=by
  induction k generalizing i j with
  | zero=>simp [rcB,plt]
  | succ k ih=>simp [rcB,plt,ih]
theorem Ci (cd:List (List Nat)) (k q:Nat):rcB cd (k+1) k q=rcB cd k k q:=by
  simp only [rcB];cases rcB cd k k q <;> simp
theorem Cj (cd:List (List Nat)) (k a:Nat):rcB cd (k+1) a k=rcB cd k a k:=by
  simp only [rcB];cases rcB cd k a k <;> simp
theorem Ti {l:List Tm} {i:Nat} (h:i<l.length):cdG (cdL l) i=sfN l[i]:=by
  unfold cdG cdL;rw [getD_eq_getElem?_getD,getElem?_map,getElem?_eq_getElem h];rfl
theorem GG {t:Tm} {p:Nat} (h:p<(sfR t).length):(sfN t).take (p+1)=(sfN t).take p++[(sfR t)[p].toNat]:=by
  unfold sfN;rw [take_succ_eq_append_getElem (by simpa using h),getElem_map]
theorem Qx (t:Tm):(sfN t).length=(sfR t).length:=length_map ..
structure MxP (bs:List (Option Nat)) (rs:List (List Bool)) (n j:Nat) (f:Nat→Nat→Bool):Prop where
  bl:bs.length=n
  rl:rs.length=n
  row:∀ a,a<j→∃ q,bs[a]?=some (some q)
  non:∀ a,j≤a→a<n→bs[a]?=some none
  len:∀ a,a<j→(rs.getD a []).length=n
  got:∀ a,a<j→∀ q,q<n→YN rs a q=f a q
theorem MxP.hl {bs:List (Option Nat)} {rs:List (List Bool)} {n j:Nat} {f:Nat→Nat→Bool} (h:MxP bs rs n j f):bs.length=rs.length:=h.bl.trans h.rl.symm
theorem MxP.same {bs:List (Option Nat)} {rs:List (List Bool)} {n j:Nat} {f f':Nat→Nat→Bool} (h:MxP bs rs n j f) (hf:∀ a,a<j→∀ q,q<n→f a q=f' a q):MxP bs rs n j f':=
  ⟨h.bl,h.rl,h.row,h.non,h.len,fun a ha q hq=>(h.got a ha q hq).trans (hf a ha q hq)⟩
theorem Zdj (n:Nat) (f:Nat→Nat→Bool):MxP (replicate n none) (replicate n []) n 0 f:=
  ⟨by simp,by simp,fun a ha=>absurd ha (by omega),fun a _ ha=>by simp [ha],fun a ha=>absurd ha (by omega),fun a ha=>absurd ha (by omega)⟩
theorem MxP.fill {bs:List (Option Nat)} {rs:List (List Bool)} {n j b:Nat} {f f':Nat→Nat→Bool} (h:MxP bs rs n j f) (hj:j<n) (h0:∀ q,q<n→f' j q=false) (h1:∀ a,a<j→∀ q,q<n→f a q=f' a q):
    MxP (bs.set j (some b)) (rs.set j (replicate n false)) n (j+1) f':=by
  have hbl:=h.bl
  have hrl:=h.rl
  have e1:∀ a,a≠j→(rs.set j (replicate n false)).getD a []=rs.getD a []:=fun a ha=>by
    rw [getD_eq_getElem?_getD,List.getElem?_set_ne (by omega),← getD_eq_getElem?_getD]
  have e2:(rs.set j (replicate n false)).getD j []=replicate n false:=by
    rw [getD_eq_getElem?_getD,List.getElem?_set_self (by omega),Option.getD_some]
  refine ⟨by simpa using h.bl,by simpa using h.rl,fun a ha=>?_,fun a ha hn=>?_,fun a ha=>?_,fun a ha q hq=>?_⟩
  · by_cases e:a=j
    · subst e;exact ⟨b,by rw [List.getElem?_set_self (by omega)]⟩
    · obtain ⟨q,hq⟩:=h.row a (by omega)
      exact ⟨q,by rw [List.getElem?_set_ne (by omega)];exact hq⟩
  · rw [List.getElem?_set_ne (by omega)];exact h.non a (by omega) hn
  · by_cases e:a=j
    · subst e;rw [e2];simp
    · rw [e1 a e];exact h.len a (by omega)
  · by_cases e:a=j
    · subst e;unfold YN;rw [e2,h0 q hq];simp [hq]
    · unfold YN;rw [e1 a e,← h1 a (by omega) q hq];exact h.got a (by omega) q hq
theorem MxP.set {bs:List (Option Nat)} {rs:List (List Bool)} {n j a q:Nat} {v:Bool} {f f':Nat→Nat→Bool} (h:MxP bs rs n j f) (hj:j≤n) (ha:a<j) (hq:q<n) (hf:∀ a',a'<j→∀ q',q'<n→f' a' q'=if a'=a∧q'=q then v else f a' q'):
    MxP bs (Vv rs a q v) n j f':=by
  have hrl:=h.rl
  have e1:∀ a',a'≠a→(Vv rs a q v).getD a' []=rs.getD a' []:=fun a' h'=>by
    unfold Vv;rw [getD_eq_getElem?_getD,List.getElem?_set_ne (by omega),← getD_eq_getElem?_getD]
  have e2:(Vv rs a q v).getD a []=(rs.getD a []).set q v:=by
    unfold Vv;rw [getD_eq_getElem?_getD,List.getElem?_set_self (by omega),Option.getD_some]
  refine ⟨h.bl,by unfold Vv;simpa using h.rl,h.row,h.non,fun b hb=>?_,fun b hb p hp=>?_⟩
  · by_cases e:b=a
    · subst e;rw [e2,length_set];exact h.len b hb
    · rw [e1 b e];exact h.len b hb
  · rw [hf b hb p hp]
    by_cases e:b=a
    · subst e
      unfold YN;rw [e2]
      have hl:=h.len b hb
      by_cases e3:p=q
      · subst e3;rw [if_pos ⟨rfl,rfl⟩,getD_eq_getElem?_getD,List.getElem?_set_self (by omega),Option.getD_some]
      · rw [if_neg (by intro z;exact e3 z.2),getD_eq_getElem?_getD,List.getElem?_set_ne (by omega),← getD_eq_getElem?_getD];exact h.got b hb p hp
    · rw [if_neg (by intro z;exact e z.1)];unfold YN;rw [e1 b e];exact h.got b hb p hp
theorem MxP.self {bs:List (Option Nat)} {rs:List (List Bool)} {n:Nat} {f:Nat→Nat→Bool} (h:MxP bs rs n n f):MxP bs rs n n (YN rs):=h.same fun a ha q hq=>(h.got a ha q hq).symm
theorem MxP.setS {bs:List (Option Nat)} {rs:List (List Bool)} {n a q:Nat} {v:Bool} {f:Nat→Nat→Bool} (h:MxP bs rs n n f) (ha:a<n) (hq:q<n):MxP bs (Vv rs a q v) n n (YN (Vv rs a q v)):=
  (h.set (f':=fun a' q'=>if a'=a∧q'=q then v else f a' q') (Nat.le_refl n) ha hq (fun _ _ _ _=>rfl)).self
def rcI (cd:List (List Nat)) (j p:Nat) (a q:Nat):Bool:=if a<j then decide (q∈cdG cd a) else decide (q∈(cdG cd a).take p)
theorem Ch {l:List Tm} {j p:Nat} (hj:j<l.length) (hp:(sfR l[j]).length≤p):∀ a,a<j+1→∀ q,rcI (cdL l) j p a q=rcI (cdL l) (j+1) 0 a q:=fun a ha q=>by
  unfold rcI
  by_cases e:a<j
  · rw [if_pos e,if_pos ha]
  · obtain rfl:a=j:=by omega
    rw [if_neg e,if_pos ha,Ti hj,take_of_length_le (by rw [Qx];exact hp)]
theorem G0 {l:List Tm} {j:Nat}:∀ a,a<j→∀ q,q<l.length→rcI (cdL l) j 0 a q=rcB (cdL l) 0 a q:=fun a ha q _=>by
  unfold rcI;rw [if_pos ha];rfl
theorem GZ {l:List Tm} {j p:Nat} (hj:j<l.length) (hp:p<(sfR l[j]).length):∀ a,a<j+1→∀ q,q<l.length→rcI (cdL l) j (p+1) a q=if a=j∧q=(sfR l[j])[p].toNat then true else rcI (cdL l) j p a q:=fun a ha q _=>by
  unfold rcI
  by_cases e:a<j
  · rw [if_pos e,if_neg (by omega),if_pos e]
  · obtain rfl:a=j:=by omega
    rw [if_neg e,if_neg e,Ti hj,GG hp]
    by_cases c:q=(sfR l[a])[p].toNat
    · subst c;simp
    · rw [if_neg (by intro z;exact c z.2)];simp [c]
theorem MxP.full {bs:List (Option Nat)} {rs:List (List Bool)} {n j:Nat} {f f':Nat→Nat→Bool} (h:MxP bs rs n j f) (hj:j=n) (hf:∀ a,a<j→∀ q,q<n→f a q=f' a q):MxP bs rs n n f':=by
  subst hj;exact h.same hf
def rcK (cd:List (List Nat)) (k i j:Nat) (a q:Nat):Bool:=if a<i∨(a=i∧q<j) then rcB cd (k+1) a q else rcB cd k a q
theorem AL (cd:List (List Nat)) (k i j a:Nat):rcK cd k i j a k=rcB cd k a k:=by
  unfold rcK;split
  · exact Cj cd k a
  · rfl
theorem AK (cd:List (List Nat)) (k i j q:Nat):rcK cd k i j k q=rcB cd k k q:=by
  unfold rcK;split
  · exact Ci cd k q
  · rfl
theorem MxP.rc {bs:List (Option Nat)} {rs:List (List Bool)} {n k i j:Nat} {v:Bool} {cd:List (List Nat)} (h:MxP bs rs n n (rcK cd k i j)) (hk:k<n) (hi:i<n) (hj:j<n) (hv:v=(YN rs i j||(YN rs i k&&YN rs k j))):
    MxP bs (Vv rs i j v) n n (rcK cd k i (j+1)):=by
  refine h.set (Nat.le_refl n) hi hj fun a ha q hq=>?_
  rw [h.got i hi j hj,h.got i hi k hk,h.got k hk j hj,AL,AK] at hv
  have e0:rcK cd k i j i j=rcB cd k i j:=by unfold rcK;rw [if_neg (by omega)]
  rw [e0] at hv
  by_cases e:a=i∧q=j
  · obtain ⟨rfl,rfl⟩:=e
    rw [if_pos ⟨rfl,rfl⟩,hv];unfold rcK;rw [if_pos (by omega)];rfl
  · rw [if_neg e];unfold rcK
    by_cases c:a<i∨(a=i∧q<j)
    · rw [if_pos c,if_pos (by omega)]
    · rw [if_neg c,if_neg (by omega)]
theorem Ce {cd:List (List Nat)} {k i j n:Nat} (h:n≤j):∀ a,a<n→∀ q,q<n→rcK cd k i j a q=rcK cd k (i+1) 0 a q:=fun a ha q hq=>by
  unfold rcK
  by_cases c:a<i∨(a=i∧q<j)
  · rw [if_pos c,if_pos (by omega)]
  · rw [if_neg c,if_neg (by omega)]
theorem Cf {cd:List (List Nat)} {k i n:Nat} (h:n≤i):∀ a,a<n→∀ q,q<n→rcK cd k i 0 a q=rcB cd (k+1) a q:=fun a ha q hq=>by
  unfold rcK;rw [if_pos (by omega)]
theorem Cg {cd:List (List Nat)} {k n:Nat}:∀ a,a<n→∀ q,q<n→rcB cd k a q=rcK cd k 0 0 a q:=fun a ha q hq=>by
  unfold rcK;rw [if_neg (by omega)]
theorem PD (n:Nat):replicate n (Value.int .i64 0).cells.toList=Z2 (replicate n 0):=by unfold Z2;rw [List.map_replicate];rfl
def dT:Tm:=.mk 0 0 zS [] []
def Vx (n:Nat) (t:Tm):Tm:=Yy (replicate n 0) [] t
def atL (l:List Tm) (i:Nat):Tm:=l.getD i dT
def e0L (l:List Tm) (i j:Nat):Prop:=Vx l.length (atL l i)=Vx l.length (atL l j)
def sL (l:List Tm) (i:Nat):List Nat:=sfN (atL l i)
def UM (l:List Tm) (i j:Nat):Prop:=bis (e0L l) (sL l) i j
theorem Y9 {l:List Tm} {i:Nat} (h:i<l.length):atL l i=l[i]:=by
  unfold atL;rw [getD_eq_getElem?_getD,getElem?_eq_getElem h];rfl
mutual
theorem VE (n:Nat):∀ (t:Tm),(∀ x∈sfR t,0≤x∧x<(n:Int))→(sfR (Vx n t)).length=(sfR t).length
  | .mk k m r kids cases,h=>by
    unfold Vx;rw [Yy]
    by_cases e:k=7
    · rw [if_pos e]
      have hm:m.toNat<n:=by have:=h m (by rw [sfR,if_pos e];simp);omega
      rw [if_neg (by rw [getD_eq_getElem?_getD,getElem?_replicate,if_pos hm];simp),sfR,sfR,if_pos rfl,if_pos e];rfl
    · rw [if_neg e,sfR,sfR,if_neg e,if_neg e,length_append,length_append,Sr n kids (fun x hx=>h x (by rw [sfR,if_neg e];exact mem_append.2 (.inl hx))),MA n cases (fun x hx=>h x (by rw [sfR,if_neg e];exact mem_append.2 (.inr hx)))]
theorem Sr (n:Nat):∀ (l:List Tm),(∀ x∈Y0 l,0≤x∧x<(n:Int))→(Y0 (YF (replicate n 0) [] l)).length=(Y0 l).length
  | [],_=>by simp [YF]
  | t::l,h=>by
    rw [YF,Y0,Y0,length_append,length_append,Sr n l (fun x hx=>h x (by rw [Y0];exact mem_append.2 (.inr hx)))]
    have:=VE n t (fun x hx=>h x (by rw [Y0];exact mem_append.2 (.inl hx)))
    unfold Vx at this;rw [this]
theorem MA (n:Nat):∀ (l:List (Pt×Tm)),(∀ x∈Y4 l,0≤x∧x<(n:Int))→(Y4 (YC (replicate n 0) [] l)).length=(Y4 l).length
  | [],_=>by simp [YC]
  | c::l,h=>by
    rw [YC,Y4,Y4,length_append,length_append,MA n l (fun x hx=>h x (by rw [Y4];exact mem_append.2 (.inr hx)))]
    have:=VE n c.2 (fun x hx=>h x (by rw [Y4];exact mem_append.2 (.inl hx)))
    unfold Vx at this;rw [this]
end
def okC (l:List Tm):Prop:=∀ t∈l,∀ x∈sfR t,0≤x∧x<(l.length:Int)
theorem Rd {l:List Tm} {i:Nat} (h:i<l.length):atL l i∈l:=by rw [Y9 h];exact getElem_mem h
theorem P4 {l:List Tm} {i:Nat} (h:l.length≤i):atL l i=dT:=by
  unfold atL;rw [getD_eq_getElem?_getD,getElem?_eq_none h];rfl
theorem okC.at {l:List Tm} (h:okC l) (i:Nat):∀ x∈sfR (atL l i),0≤x∧x<(l.length:Int):=by
  rcases Nat.lt_or_ge i l.length with hi | hi
  · exact h _ (Rd hi)
  · rw [P4 hi];intro x hx;simp [dT,sfR,Y0,Y4] at hx
theorem okC.lt {l:List Tm} (h:okC l) (i:Nat):∀ x∈sL l i,x<l.length:=by
  intro x hx
  obtain ⟨y,hy,rfl⟩:=mem_map.1 hx
  have:=h.at i y hy;omega
theorem WO {l:List Tm} (h:okC l) {i j:Nat} (e:e0L l i j):(sL l i).length=(sL l j).length:=by
  have a:=VE l.length (atL l i) (h.at i)
  have b:=VE l.length (atL l j) (h.at j)
  unfold e0L at e
  rw [e] at a
  unfold sL sfN;rw [length_map,length_map];omega
theorem TI (l:List Tm) (i:Nat):UM l i i:=fun n=>SY (e0:=e0L l) (s:=sL l) (fun _=>rfl) n i
theorem R3 {l:List Tm} (h:okC l) {i j:Nat} (b:UM l i j):UM l j i:=fun n=>SX (e0:=e0L l) (s:=sL l) (fun _ _ e=>Eq.symm e) (fun _ _=>WO h) n (b n)
theorem Sh {l:List Tm} (h:okC l) {i j k:Nat} (b:UM l i j) (c:UM l j k):UM l i k:=fun n=>TE (e0:=e0L l) (s:=sL l) (fun _ _ _ e f=>Eq.trans e f) (fun _ _=>WO h) n (b n) (c n)
open Classical in
noncomputable def firstN (l:List Tm) (i:Nat):Nat:=(range l.length).findIdx (fun j=>decide (UM l i j))
theorem YJ {l:List Tm} {i:Nat} (h:i<l.length):firstN l i<l.length:=by
  have:=List.findIdx_lt_length (p:=fun j=>@decide (UM l i j) (Classical.propDecidable _)) (xs:=range l.length)
  rw [length_range] at this
  exact this.2 ⟨i,mem_range.2 h,by simpa using TI l i⟩
theorem WK {l:List Tm} {i:Nat} (h:i<l.length):UM l i (firstN l i):=by
  have hl:firstN l i<(range l.length).length:=by rw [length_range];exact YJ h
  have key:∀ (p:Nat→Bool) (xs:List Nat) (k:Nat),xs.findIdx p=k→k<xs.length→p (xs.getD k 0)=true:=by
    intro p xs k e hk
    subst e
    rw [getD_eq_getElem?_getD,getElem?_eq_getElem hk]
    exact List.findIdx_getElem
  have:=key _ _ _ (show (range l.length).findIdx (fun j=>@decide (UM l i j) (Classical.propDecidable _))=firstN l i from rfl) hl
  rw [getD_eq_getElem?_getD,getElem?_eq_getElem hl,getElem_range] at this
  simpa using this
theorem T8 {l:List Tm} {i j:Nat} (h:i<l.length) (b:UM l i j):firstN l i≤j:=by
  rcases Nat.lt_or_ge j (firstN l i) with hj | hj
  · have hl:=YJ h
    have:=@List.not_of_lt_findIdx _ (fun j=>@decide (UM l i j) (Classical.propDecidable _)) (range l.length) j hj
    simp only [getElem_range,decide_eq_false_iff_not] at this
    exact absurd b this
  · exact hj
theorem TC {l:List Tm} {i:Nat} (h:i<l.length):firstN l i≤i:=T8 h (TI l i)
theorem Uh {l:List Tm} {i j:Nat} (h:i<l.length) (b:UM l i j) (m:∀ a,a<j→¬ UM l i a):firstN l i=j:=by
  have h1:=T8 h b
  rcases Nat.lt_or_ge (firstN l i) j with h2 | h2
  · exact absurd (WK h) (m _ h2)
  · omega
theorem PE {l:List Tm} (ok:okC l) {i j:Nat} (hi:i<l.length) (hj:j<l.length):firstN l i=firstN l j↔UM l i j:=by
  constructor
  · intro e
    have a:=WK hi
    have b:=WK hj
    rw [e] at a
    exact Sh ok a (R3 ok b)
  · intro b
    apply Uh hi
    · exact Sh ok b (WK hj)
    · intro a ha c
      have:=T8 hj (Sh ok (R3 ok b) c)
      omega
noncomputable def frI (l:List Tm):List Int:=(range l.length).map fun i=>(firstN l i:Int)
theorem Yw (l:List Tm):(frI l).length=l.length:=by simp [frI]
theorem XU {l:List Tm} {i:Nat} (h:i<l.length):(frI l)[i]'(by rw [Yw];exact h)=(firstN l i:Int):=by simp [frI]
def apI (l:List Tm) (rs:List (List Bool)):Prop:=(∀ a,a<l.length→∀ q,q<l.length→YN rs a q=true→¬ UM l a q)∧∀ a,a<l.length→∀ q,q<l.length→YN rs a q=false→e0L l a q
def Db (l:List Tm) (rs:List (List Bool)) (a q:Nat):Prop:=YN rs a q=false→∀ p,p<(sL l a).length→YN rs ((sL l a).getD p 0) ((sL l q).getD p 0)=false
noncomputable def apN (l:List Tm) (a q:Nat):Bool:= !decide (Vx l.length (atL l a)=Vx l.length (atL l q))
noncomputable def apA (l:List Tm) (j p a q:Nat):Bool:=if a<j∨(a=j∧q<p) then apN l a q else false
theorem BJ {l:List Tm} {bs:List (Option Nat)} {rs:List (List Bool)} {j n:Nat} (hj:l.length≤j) (hn:n=l.length) (h:MxP bs rs n n (apA l j 0)):apI l rs:=by
  subst hn
  refine ⟨fun a ha q hq e b=>?_,fun a ha q hq e=>?_⟩
  · rw [h.got a ha q hq] at e;unfold apA apN at e;rw [if_pos (by omega)] at e
    have:=Me b;unfold e0L at this;simp [this] at e
  · rw [h.got a ha q hq] at e;unfold apA apN at e;rw [if_pos (by omega)] at e
    simpa [e0L] using e
theorem apF {l:List Tm} (ok:okC l) {rs:List (List Bool)} (h:apI l rs) (hc:∀ a,a<l.length→∀ q,q<l.length→Db l rs a q) {a q:Nat} (ha:a<l.length) (hq:q<l.length):YN rs a q=true↔¬ UM l a q:=by
  refine ⟨h.1 a ha q hq,fun nb=>?_⟩
  cases e:YN rs a q with
  | true=>rfl
  | false=>
    refine absurd (Rb (R:=fun i j=>i<l.length∧j<l.length∧YN rs i j=false) (fun i j r=>h.2 i r.1 j r.2.1 r.2.2) (fun i j r k hk=>?_) a q ⟨ha,hq,e⟩) nb
    have hl:=WO ok (h.2 i r.1 j r.2.1 r.2.2)
    refine ⟨?_,?_,hc i r.1 j r.2.1 r.2.2 k hk⟩
    · exact ok.lt i _ (by rw [getD_eq_getElem?_getD,getElem?_eq_getElem hk];exact getElem_mem _)
    · have hk2:k<(sL l j).length:=by omega
      exact ok.lt j _ (by rw [getD_eq_getElem?_getD,getElem?_eq_getElem hk2];exact getElem_mem _)
theorem Dd {l:List Tm} {j p:Nat} (hj:j<l.length) (hp:p<l.length):∀ a,a<j+1→∀ q,q<l.length→apA l j (p+1) a q=if a=j∧q=p then !decide (Yy (replicate l.length 0) [] l[j]=Yy (replicate l.length 0) [] l[p]) else apA l j p a q:=fun a ha q _=>by
  unfold apA
  by_cases c:a=j∧q=p
  · obtain ⟨rfl,rfl⟩:=c
    rw [if_pos (by omega),if_pos ⟨rfl,rfl⟩];unfold apN;rw [Y9 hj,Y9 hp];rfl
  · rw [if_neg c]
    by_cases c2:a<j∨(a=j∧q<p)
    · rw [if_pos c2,if_pos (by omega)]
    · rw [if_neg c2,if_neg (by omega)]
theorem BK {l:List Tm} {j p:Nat} (hp:l.length≤p):∀ a,a<j+1→∀ q,q<l.length→apA l j p a q=apA l (j+1) 0 a q:=fun a ha q hq=>by
  unfold apA;rw [if_pos (by omega),if_pos (by omega)]
theorem Su {l:List Tm} (ok:okC l) (s:List Sm) {t:Tm} (h:t∈l):Q9 (replicate l.length 0) s (sfR t):=fun n hn=>by
  have:=ok t h n hn
  have e:(replicate l.length (0:Int)).getD n.toNat 0=0:=by rw [getD_eq_getElem?_getD,getElem?_replicate];split <;> rfl
  exact ⟨this.1,by simpa using this.2,fun h2=>by rw [e] at h2;omega,by rw [e];unfold inI;omega⟩
theorem U4 {l:List Tm} {i j:Nat} (hi:i<l.length) (hj:j<(sfR l[i]).length):(sL l i).getD j 0=((sfR l[i])[j]).toNat:=by
  unfold sL sfN;rw [Y9 hi,getD_eq_getElem?_getD,getElem?_map,getElem?_eq_getElem hj];rfl
theorem Ru {l:List Tm} {i:Nat} (hi:i<l.length):(sL l i).length=(sfR l[i]).length:=by unfold sL sfN;rw [Y9 hi,length_map]
theorem Eh {l:List Tm} {i f:Nat} (hi:i<l.length) (e:firstN l i=f):(frI l).take (i+1)=(frI l).take i++[(f:Int)]:=by
  rw [take_succ_eq_append_getElem (by rw [Yw];exact hi),XU hi,e]
def N8 (n:Nat) (rs:List (List Bool)):Nat:=(range (n*n)).countP fun x=> !YN rs (x / n) (x % n)
theorem PR {α:Type} {p q:α→Bool} {l:List α} (h:∀ x∈l,p x=true→q x=true) {x:α} (hx:x∈l) (h1:q x=true) (h2:p x=false):l.countP p<l.countP q:=by
  induction l with
  | nil=>cases hx
  | cons y l ih=>
    have hm:=List.countP_mono_left (p:=p) (q:=q) (l:=l) (fun z hz=>h z (mem_cons_of_mem _ hz))
    rw [List.countP_cons,List.countP_cons]
    rcases mem_cons.1 hx with rfl | hx
    · rw [h1,h2];simp;omega
    · have:=ih (fun z hz=>h z (mem_cons_of_mem _ hz)) hx
      have h3:=h y mem_cons_self
      cases hp:p y <;> cases hq:q y <;> simp [hp,hq] at h3 ⊢ <;> omega
theorem Bj {n:Nat} {bs:List (Option Nat)} {rs:List (List Bool)} {f:Nat→Nat→Bool} (h:MxP bs rs n n f) {i j:Nat} (hi:i<n) (hj:j<n):N8 n (Vv rs i j true)≤N8 n rs∧(YN rs i j=false→N8 n (Vv rs i j true)<N8 n rs):=by
  have hg:=(h.set (f':=fun a q=>if a=i∧q=j then true else f a q) (v:=true) (Nat.le_refl n) hi hj (fun _ _ _ _=>rfl)).got
  have key:∀ x∈range (n*n),(!YN (Vv rs i j true) (x / n) (x % n))=true→(!YN rs (x / n) (x % n))=true:=by
    intro x hx
    have hx:=mem_range.1 hx
    have h1:x / n<n:=Nat.div_lt_of_lt_mul hx
    have h2:x % n<n:=Nat.mod_lt _ (by omega)
    rw [hg _ h1 _ h2,h.got _ h1 _ h2]
    split
    · simp
    · exact id
  refine ⟨List.countP_mono_left key,fun e=>?_⟩
  have hd:(i*n+j) / n=i:=by rw [Nat.mul_comm,Nat.mul_add_div (by omega),Nat.div_eq_of_lt hj,Nat.add_zero]
  have hm:(i*n+j) % n=j:=by rw [Nat.mul_comm,Nat.mul_add_mod,Nat.mod_eq_of_lt hj]
  refine PR key (x:=i*n+j) (mem_range.2 ?_) ?_ ?_
  · have:i*n+n≤n*n:=by rw [← Nat.succ_mul];exact Nat.mul_le_mul_right n hi
    omega
  · simp only [hd,hm,e];rfl
  · simp only [hd,hm,hg i hi j hj];simp
structure apR (l:List Tm) (rs0 rs:List (List Bool)) (more:Bool) (i k:Nat):Prop where
  inv:apI l rs
  le:N8 l.length rs≤N8 l.length rs0
  lt:more=true→N8 l.length rs<N8 l.length rs0
  not:more=false→rs=rs0∧∀ a,a<l.length→∀ q,q<l.length→(a<i∨(a=i∧q<k))→Db l rs a q
structure apJ (l:List Tm) (rs0 rs:List (List Bool)) (more:Bool) (i k j:Nat):Prop extends apR l rs0 rs more i k where
  e0:e0L l i k
  mo:YN rs i k=true→more=true
  so:more=false→∀ p,p<j→YN rs ((sL l i).getD p 0) ((sL l k).getD p 0)=false
theorem apR.beg {l:List Tm} {rs:List (List Bool)} (h:apI l rs):apR l rs rs false 0 0:=⟨h,Nat.le_refl _,Bool.noConfusion,fun _=>⟨rfl,fun a _ q _ e=>by omega⟩⟩
theorem apR.row {l:List Tm} {rs0 rs:List (List Bool)} {more:Bool} {i k:Nat} (h:apR l rs0 rs more i k) (hk:l.length≤k):apR l rs0 rs more (i+1) 0:=
  ⟨h.inv,h.le,h.lt,fun e=>⟨(h.not e).1,fun a ha q hq c=>(h.not e).2 a ha q hq (by omega)⟩⟩
theorem apR.skip {l:List Tm} {rs0 rs:List (List Bool)} {more:Bool} {i k:Nat} (h:apR l rs0 rs more i k) (e:YN rs i k=true):apR l rs0 rs more i (k+1):=
  ⟨h.inv,h.le,h.lt,fun m=>⟨(h.not m).1,fun a ha q hq c=>by
    by_cases c2:a<i∨(a=i∧q<k)
    · exact (h.not m).2 a ha q hq c2
    · obtain ⟨rfl,rfl⟩:a=i∧q=k:=by omega
      intro e2;rw [e] at e2;cases e2⟩⟩
theorem apJ.beg {l:List Tm} {rs0 rs:List (List Bool)} {more:Bool} {i k:Nat} (h:apR l rs0 rs more i k) (hi:i<l.length) (hk:k<l.length) (e:YN rs i k=false):apJ l rs0 rs more i k 0:=
  {h with e0:=h.inv.2 i hi k hk e,mo:=fun e2=>(by rw [e] at e2;cases e2),so:=fun _ p hp=>absurd hp (by omega)}
theorem apJ.fin {l:List Tm} {rs0 rs:List (List Bool)} {more:Bool} {i k j:Nat} (h:apJ l rs0 rs more i k j) (hj:(sL l i).length≤j):apR l rs0 rs more i (k+1):=
  ⟨h.inv,h.le,h.lt,fun m=>⟨(h.not m).1,fun a ha q hq c=>by
    by_cases c2:a<i∨(a=i∧q<k)
    · exact (h.not m).2 a ha q hq c2
    · obtain ⟨rfl,rfl⟩:a=i∧q=k:=by omega
      intro _ p hp;exact h.so m p (by omega)⟩⟩
theorem apJ.no {l:List Tm} {rs0 rs:List (List Bool)} {more:Bool} {i k j:Nat} (h:apJ l rs0 rs more i k j) (e:YN rs ((sL l i).getD j 0) ((sL l k).getD j 0)=false):apJ l rs0 rs more i k (j+1):=
  {h with so:=fun m p hp=>(Nat.lt_or_ge p j).elim (h.so m p) fun c=>(show p=j by omega)▸e}
theorem apJ.yes {l:List Tm} {rs0 rs:List (List Bool)} {more:Bool} {bs:List (Option Nat)} {f:Nat→Nat→Bool} {i k j:Nat} (ok:okC l) (h:apJ l rs0 rs more i k j) (hm:MxP bs rs l.length l.length f) (hi:i<l.length) (hk:k<l.length) (hj:j<(sL l i).length)
    (e:YN rs ((sL l i).getD j 0) ((sL l k).getD j 0)=true):apJ l rs0 (Vv rs i k true) true i k (j+1):=by
  have hg:=(hm.set (f':=fun a q=>if a=i∧q=k then true else f a q) (v:=true) (Nat.le_refl _) hi hk (fun _ _ _ _=>rfl)).got
  have hc:=Bj hm hi hk
  have nb:¬ UM l i k:=by
    intro b
    have b2:=LC b hj
    have hl:=WO ok h.e0
    refine h.inv.1 _ (ok.lt i _ ?_) _ (ok.lt k _ ?_) e b2
    · rw [getD_eq_getElem?_getD,getElem?_eq_getElem hj];exact getElem_mem _
    · rw [getD_eq_getElem?_getD,getElem?_eq_getElem (by omega)];exact getElem_mem _
  refine {inv:=⟨fun a ha q hq e2=>?_,fun a ha q hq e2=>?_⟩,le:=Nat.le_trans hc.1 h.le,lt:=fun _=>?_,not:=Bool.noConfusion,e0:=h.e0,mo:=fun _=>rfl,so:=Bool.noConfusion}
  · rw [hg a ha q hq] at e2
    split at e2
    · rename_i c;obtain ⟨rfl,rfl⟩:=c;exact nb
    · rw [← hm.got a ha q hq] at e2;exact h.inv.1 a ha q hq e2
  · rw [hg a ha q hq] at e2
    split at e2
    · cases e2
    · rw [← hm.got a ha q hq] at e2;exact h.inv.2 a ha q hq e2
  · cases c:YN rs i k with
    | false=>exact Nat.lt_of_lt_of_le (hc.2 c) h.le
    | true=>exact Nat.lt_of_le_of_lt hc.1 (h.lt (h.mo c))
theorem apR.cl {l:List Tm} {rs0 rs:List (List Bool)} {more:Bool} {i:Nat} (h:apR l rs0 rs more i 0) (hi:l.length≤i) (m:more=false):∀ a,a<l.length→∀ q,q<l.length→Db l rs a q:=fun a ha q hq=>(h.not m).2 a ha q hq (by omega)
theorem E9 {l:List Tm} (ok:okC l) {rs:List (List Bool)} (h:apI l rs) (hc:∀ a,a<l.length→∀ q,q<l.length→Db l rs a q) {i f:Nat} (hi:i<l.length) (hf:f≤i) (ht:∀ a,a<f→YN rs i a=true) (e:YN rs i f=false):firstN l i=f:=by
  apply Uh hi
  · apply Classical.byContradiction
    intro nb
    rw [(apF ok h hc hi (by omega)).2 nb] at e;cases e
  · intro a ha;exact (apF ok h hc hi (by omega)).1 (ht a ha)
theorem BI {l:List Tm} {rs:List (List Bool)} (h:apI l rs) {i:Nat} (hi:i<l.length):YN rs i i=false:=by
  cases e:YN rs i i with
  | false=>rfl
  | true=>exact absurd (TI l i) (h.1 i hi i hi e)
theorem Mc (n:Nat):(replicate n [Value.bool false]).flatten=bls (replicate n false):=by
  induction n with
  | zero=>rfl
  | succ n ih=>rw [List.replicate_succ,flatten_cons,ih,List.replicate_succ];rfl
theorem FC (Tb:TypeId) (n m:Nat):mxR Tb (replicate n none) (replicate m [])=[]:=by
  induction n generalizing m with
  | zero=>cases m <;> rfl
  | succ n ih=>
    cases m with
    | zero=>rfl
    | succ m=>simp only [List.replicate_succ,mxR];exact ih m
theorem XH {n i q:Nat} {bs:List (Option Nat)} (h:bs[i]?=some (some q)):(bs.map (mxV n))[0+i*1]?=some (.slice (some ⟨q,0,none⟩) n n):=by
  rw [Nat.zero_add,Nat.mul_one,getElem?_map,h];rfl
section
variable {c:Cx} {H:Heap} {ρ:Nat→Value} {M:List Zi} {K:Value→List Zi→Prop} {d:Option Nat} {ot:TypeId} {pos:String} {af:Array Edge} {g:Option (Nat×Bool)} {x y:Operand}
theorem Qm {T el Tb:TypeId} {k k':IntKind} (n:Nat) {a b:Int} (hT:∀ w,(underlying T).run c.P w=.ok (.slice el) w) (hel:El c.P el 1 24 (.slice none 0 0))
    (hx:ev c.n ρ x=.int k a) (hy:ev c.n ρ y=.int k' b) (ha:a=n) (hb:b=n) (hbig:n≤1000000)
    (h:∀ b,K (.slice (some ⟨b,0,none⟩) n n) (mxC el Tb n b (replicate n none) (replicate n [])::M)):
    Runs c H ⟨d,.makeSlice T x y,ot,pos,af,g⟩ ρ M K:=
  Uq n hT hel hx hy ha hb (by omega) (by omega) fun b k _ hk=>by
    have e:k=mxC el Tb n b (replicate n none) (replicate n []):=by
      rw [hk];unfold mxC;rw [FC]
      have:(replicate n (Value.slice none 0 0).cells.toList).flatten=(replicate n none).map (mxV n):=by
        rw [List.map_replicate]
        have:∀ m,(replicate m [Value.slice none 0 0]).flatten=replicate m (Value.slice none 0 0):=fun m=>by
          induction m with
          | zero=>rfl
          | succ m ih=>rw [List.replicate_succ,flatten_cons,ih,List.replicate_succ];rfl
        exact this n
      rw [this]
    rw [e];exact h b
theorem Qn {T Tr Tb:TypeId} {n b i q:Nat} {r:List Bool} {bs:List (Option Nat)} {rs:List (List Bool)} (a:Nat) (ty:Ty c.P T false 1) (hi:M[a]?=some (mxC Tr Tb n b bs rs)) (hl:bs.length=rs.length) (hq:bs[i]?=some none)
    (hx:ev c.n ρ x=.pointer (some ⟨b,0+i*1,none⟩)) (hy:ev c.n ρ y=.slice (some ⟨q,0,none⟩) n n) (h:K undef (M.set a (mxC Tr Tb n b (bs.set i (some q)) (rs.set i r)))):
    Runs c H ⟨d,.store T x y,ot,pos,af,g⟩ ρ ([(q,.cells ⟨bls r⟩ Tb (0,0))]::M) K:=fun F w m=>by
  have hil:i<bs.length:=(List.getElem?_eq_some_iff.1 hq).1
  have hs:spl (bs.map (mxV n)) (0+i*1) [.slice (some ⟨q,0,none⟩) n n]=some ((bs.set i (some q)).map (mxV n)):=by
    rw [Nat.zero_add,Nat.mul_one,WZ (by simp;omega),List.map_set,List.set_eq_take_append_cons_drop,if_pos (by simpa using hil)];rfl
  obtain ⟨v,w',M',he,hm,rfl,rfl⟩:=Vt (d:=d) (ot:=ot) (pos:=pos) (af:=af) (g:=g) (K:=fun v N=>v=undef∧N=[(q,.cells ⟨bls r⟩ Tb (0,0))]::M.set a ((b,.cells ⟨(bs.set i (some q)).map (mxV n)⟩ Tr (0,0))::mxR Tb bs rs)) (M:=[(q,.cells ⟨bls r⟩ Tb (0,0))]::M) (i:=a+1) (k₁:=[]) (k₂:=mxR Tb bs rs) ty hx hy rfl rfl (Zg rfl Zq) (show ([(q,Obj.cells ⟨bls r⟩ Tb (0,0))]::M)[a+1]?=_ from hi) hs ⟨rfl,rfl⟩ F w m
  refine ⟨undef,w',_,he,hm.perm (List.Perm.append_right F ?_),h⟩
  have p1:=Wc (k':=(b,Obj.cells ⟨(bs.set i (some q)).map (mxV n)⟩ Tr (0,0))::mxR Tb bs rs) hi
  have p2:=Wc (k':=mxC Tr Tb n b (bs.set i (some q)) (rs.set i r)) hi
  have p3:=FD (Tb:=Tb) (q:=q) (r:=r) hl hq
  rw [flatten_cons]
  refine (List.Perm.append_left _ p1).trans (List.Perm.trans ?_ p2.symm)
  unfold mxC
  simp only [cons_append,nil_append]
  refine (List.Perm.swap _ _ _).trans (List.Perm.cons _ ?_)
  exact (List.Perm.append_right _ p3).symm
end
section
attribute [local irreducible] JL J CT wlo DT
theorem EQ (l:List Tm) (v:Value) (H:Heap) (hv:Hs.rdS RT 36 H v l) (hz:∀ t∈l,sizeT t≤400000):CT prog 8 ⟨[v]⟩ [] H (fun r N=>r=iv (Z7 (Zx 0) l)∧N=[]):=by
 have hlen:=hv.le
 refine Zl func8 rfl rfl<|Zc<|JAn rfl<|Zf<|Zc<|JLm v ?_
 obtain ⟨a1,cap1,hv1⟩:=hv.sl
 have hle1:=hv.le
 refine JLn (Zcv ZQ hv1)<|JLn (Pu.lss rfl rfl)<|JLM rfl<|ZA 3 [9,10,11] [(11,cond (decide ((l.length:Int)<1)) undef (.bool (decide (8<(l.length:Int)))))] ?_ fun f4=>?_
 ·cases h2:(decide ((l.length:Int)<1)) with
  | false=>
   replace h2:=df h2
   refine JLm v ?_
   obtain ⟨a3,cap3,hv3⟩:=hv.sl
   have hle3:=hv.le
   refine JLn (Zcv ZQ hv3)<|JLn (Pu.gtr rfl rfl) ?_
   exact Za ⟨⟨rfl,trivial⟩,rfl⟩
  | true=>
   exact ZJ rfl ⟨rfl,trivial⟩
 refine JLn (ZcC rfl rfl rfl)<|Za<|Zs rfl (fun h5=>?_) (fun h5=>?_)
 ·refine Zc<|JAn rfl<|ZC (iv 2) [] Sub.nil (?_)
  exact ⟨by rw [Ls (by have z:=h5;simp at z;omega)],rfl⟩
 obtain ⟨h5a,h5b⟩:=orF h5
 replace h5a:=df h5a
 replace h5b:=df h5b
 refine Zk<|Zf<|Zc<|JAn rfl<|Zh<|Zv (fun k ρ M=>∃ (j:Nat),ZR ρ [(0,v),(2,iv 0),(3,iv ((j:Int)))]=ρ∧Sub [] M∧j≤l.length∧Wq (Zx 0 l.length) (l.drop j)=Wq (Zx 0 l.length) l∧¬ (l.length<1∨8<l.length)∧k=l.length-j) _ ⟨0,Zj rfl,Sub.nil,Nat.zero_le _,rfl,(by omega),rfl⟩ ?_
 rintro _ ρ6 _ ⟨j,e7,hm10,hj,hinv,hgl,rfl⟩
 obtain ⟨ρ11,rfl⟩:=Zo e7
 clear e7
 refine ZD hm10 ?_
 have hlen:=hv.le
 refine Zf<|Zc<|JLM rfl<|JLm v ?_
 obtain ⟨a12,cap12,hv12⟩:=hv.sl
 have hle12:=hv.le
 refine JLn (Zcv ZQ hv12)<|JLn (Pu.lss rfl rfl)<|Za<|ZF rfl (fun h13=>?_) (fun h13=>?_)
 ·have h13n:j<l.length:=by omega
  have hsj:=hz _ (getElem_mem h13n)
  refine Zk<|Zf<|Zh<|Zc<|JLm v<|JLM rfl ?_
  obtain ⟨b14,o14,cap14,row14,T14,fr14,cs14,hv14,hb14,hs14,hE14⟩:=hv.get j (by omega)
  refine JLn (Zcw j ZQ Zy hv14 rfl rfl (by omega))<|JLr (Zn Zy rfl (Zcx hb14) hs14<|JLm v ?_)
  obtain ⟨a15,cap15,hv15⟩:=hv.sl
  have hle15:=hv.le
  refine JLn (Zcv ZQ hv15)<|Jc call41 rfl (fun hin=>Hr _ _ _ _ _ (RT.mono (Hle.hu _ _) hE14) (by omega)) rfl ?_
  rintro _ _ ⟨rfl,rfl⟩
  refine JAn rfl<|Zc<|JLM rfl<|JLn (Pu.neq rfl rfl)<|Za<|Zs rfl (fun h16=>?_) (fun h16=>?_)
  ·replace h16:=nt h16
   replace h16:=df h16
   refine Zc<|JLM rfl<|JAn rfl<|ZC (iv (Zx 0 ((l.length:Int)) (l[j]))) [] Sub.nil (?_)
   exact ⟨by rw [QM hgl,R0 h13n hinv h16],rfl⟩
  replace h16:=nf h16
  replace h16:=dt h16
  refine Zk<|Zd<|JLM rfl<|JLn (Zcy rfl rfl (by omega))<|JAn rfl<|⟨_,?_,(j+1),Zj rfl,Sub.nil,?_,?_,?_,rfl⟩
  ·omega
  ·omega
  ·exact N9 h13n hinv h16
  omega
 have h13n:l.length≤j:=by omega
 refine Zu _ rfl<|Zc<|JAn rfl<|ZC (iv 0) [] Sub.nil (?_)
 exact ⟨by rw [QM hgl,PW h13n hinv],rfl⟩
theorem Br (l:List Tm) (v:Value) (H:Heap) (hv:Hs.rdS RT 36 H v l) (hz:∀ t∈l,sizeT t≤400000):CT prog 49 ⟨[v]⟩ [] H (fun r N=>r=iv (Z7 (XR 0) l)∧N=[]):=by
 have hlen:=hv.le
 refine Zl func49 rfl rfl<|Zc<|JAn rfl<|Zf<|Zc<|JLm v ?_
 obtain ⟨a1,cap1,hv1⟩:=hv.sl
 have hle1:=hv.le
 refine JLn (Zcv ZQ hv1)<|JLn (Pu.lss rfl rfl)<|JLM rfl<|ZA 3 [10,11,12] [(12,cond (decide ((l.length:Int)<1)) undef (.bool (decide (8<(l.length:Int)))))] ?_ fun f4=>?_
 ·cases h2:(decide ((l.length:Int)<1)) with
  | false=>
   replace h2:=df h2
   refine JLm v ?_
   obtain ⟨a3,cap3,hv3⟩:=hv.sl
   have hle3:=hv.le
   refine JLn (Zcv ZQ hv3)<|JLn (Pu.gtr rfl rfl) ?_
   exact Za ⟨⟨rfl,trivial⟩,rfl⟩
  | true=>
   exact ZJ rfl ⟨rfl,trivial⟩
 refine JLn (ZcC rfl rfl rfl)<|Za<|Zs rfl (fun h5=>?_) (fun h5=>?_)
 ·refine Zc<|JAn rfl<|ZC (iv 2) [] Sub.nil (?_)
  exact ⟨by rw [Ls (by have z:=h5;simp at z;omega)],rfl⟩
 obtain ⟨h5a,h5b⟩:=orF h5
 replace h5a:=df h5a
 replace h5b:=df h5b
 refine Zk<|Zf<|Zc<|JLm v ?_
 obtain ⟨a6,cap6,hv6⟩:=hv.sl
 have hle6:=hv.le
 refine JLn (Zcv ZQ hv6)<|JLM rfl<|Za<|Zh<|Zv (fun k ρ M=>∃ (j:Nat),ZR ρ [(0,v),(2,iv 0),(14,v),(15,iv ((l.length:Int))),(16,iv ((j:Int)))]=ρ∧Sub [] M∧j≤l.length∧Wq (XR 0 l.length) (l.drop j)=Wq (XR 0 l.length) l∧¬ (l.length<1∨8<l.length)∧k=l.length-j) _ ⟨0,Zj rfl,Sub.nil,Nat.zero_le _,rfl,(by omega),rfl⟩ ?_
 rintro _ ρ7 _ ⟨j,e8,hm13,hj,hinv,hgl,rfl⟩
 obtain ⟨ρ14,rfl⟩:=Zo e8
 clear e8
 refine ZD hm13 ?_
 have hlen:=hv.le
 refine Zc<|JLn (Pu.lss rfl rfl)<|Za<|Zf<|ZF rfl (fun h15=>?_) (fun h15=>?_)
 ·have h15n:j<l.length:=by omega
  have hsj:=hz _ (getElem_mem h15n)
  refine Zk<|Zf<|Zh<|Zf<|Zd ?_
  obtain ⟨b16,o16,cap16,row16,T16,fr16,cs16,hv16,hb16,hs16,hE16⟩:=hv.get j (by omega)
  refine JLn (Zcw j ZQ Zy hv16 rfl rfl (by omega))<|JLr (Zn Zy rfl (Zcx hb16) hs16<|JLr (Zp (l:=pkT 0 0 zS nS nS) zeroValue51 rfl fun b17=>JLr (Ze 0 (vs:=cs16) (l:=cs16) Zy rfl rfl rfl rfl (ZB hE16) (XA hE16) (Yb (n:=36) rfl (ZB hE16))<|Za<|Zc<|JLr (Zn Zy rfl (Zcu 0 rfl) (ZE (ZB hE16))<|JLm v ?_))))
  obtain ⟨a18,cap18,hv18⟩:=hv.sl
  have hle18:=hv.le
  refine JLn (Zcv ZQ hv18)<|Jc call97 rfl (fun hin=>PX _ _ _ _ _ (RT.mono (Hle.hu _ _) hE16)) rfl ?_
  rintro _ _ ⟨rfl,rfl⟩
  refine JAn rfl<|Zc<|JLM rfl<|JLn (Pu.neq rfl rfl)<|Za<|Zs rfl (fun h19=>?_) (fun h19=>?_)
  ·replace h19:=nt h19
   replace h19:=df h19
   refine Zc<|JLM rfl<|JAn rfl<|ZC (iv (XR 0 ((l.length:Int)) (l[j]))) [] Sub.nil (?_)
   exact ⟨by rw [QM hgl,R0 h15n hinv h19],rfl⟩
  replace h19:=nf h19
  replace h19:=dt h19
  refine Zk<|Zd<|JLn (Zcy rfl rfl (by omega))<|JLM rfl<|Za<|⟨_,?_,(j+1),Zj rfl,Sub.nil,?_,?_,?_,rfl⟩
  ·omega
  ·omega
  ·exact N9 h15n hinv h19
  omega
 have h15n:l.length≤j:=by omega
 refine Zu _ rfl<|Zc<|JAn rfl<|ZC (iv 0) [] Sub.nil (?_)
 exact ⟨by rw [QM hgl,PW h15n hinv],rfl⟩
set_option maxHeartbeats 2000000 in
theorem St:∀ (t:Tm) (cs:List Value) (H:Heap),RT H cs t→sizeT t≤1000000→CT prog 88 ⟨[.agg ⟨cs⟩]⟩ [] H (fun r N=>∃ k,N=[k]∧Own 3 1 r (Z2 (sfR t)) k):=by
 intro t
 induction t using Tm.ind with
 | h kind num ref kids cases ih ih'=>
 intro cs H ht hz
 obtain ⟨ks,cv,rfl,hk,hn,hks,hcv⟩:=RT_mk.1 ht
 rw [sizeT] at hz
 refine Zl func88 rfl rfl<|Zc<|JLr (Zr (l:=pkT kind num ref ks cv) rfl rfl fun b1=>JAn rfl<|Zf<|Zc<|JLq (pp b1 0) (Z1 rfl rfl)<|JLr (Zb ty3 rfl (Zcu 0 rfl) (Yf ..)<|JLn (Pu.eql rfl rfl)<|Za ?_))
 refine ZF rfl (fun h2=>?_) (fun h2=>?_)
 ·refine Zc<|JLq (pp b1 1) (Yj rfl rfl)<|JLr (Zb ty3 rfl (Zcu 0 rfl) (YP ..)<|JLr (Zm (vs:=[iv num]) [[iv num]] ZV el3 rfl rfl (al1 rfl) rfl (by decide) fun b3 k3 ho3 hk3=>JAn rfl<|ZC (.slice (some ⟨b3,0,none⟩) 1 1) [k3] (Sk Sub.nil) (?_)))
  exact ⟨_,rfl,by rw [sfR,if_pos h2];exact ho3⟩
 refine Zk<|Zf ?_
 have hk7:¬ kind=7:=h2
 refine Zd<|JAn rfl<|Zf<|Zc<|JAn rfl<|Zh<|Zv (fun k ρ M=>∃ (j:Nat) (y1:Value) (q1:Zi),ZR ρ [(1,pp b1 0),(2,nS),(3,y1),(4,iv ((j:Int)))]=ρ∧Sub [q1,(BX b1 (pkT kind num ref ks cv) 51)] M∧j≤kids.length∧Own 3 1 y1 (Z2 (Y0 (kids.take j))) q1∧k=kids.length-j) _ ⟨0,nS,[],Zj rfl,(Zcz (Sk Sub.nil)),Nat.zero_le _,(show Own 3 1 _ (Z2 []) [] from Own.nil),rfl⟩ ?_
 rintro _ ρ4 _ ⟨j,y1,q1,e5,hm9,hj,how1,rfl⟩
 obtain ⟨ρ10,rfl⟩:=Zo e5
 clear e5
 refine ZD hm9 ?_
 have hlen:=hks.le
 refine Zf<|Zc<|JLM rfl<|JLq (pp b1 34) (Yd rfl rfl)<|JLr (Zb YZ rfl (Zcu 1 rfl) (Yh ..) ?_)
 obtain ⟨a11,cap11,hv11⟩:=hks.sl
 have hle11:=hks.le
 refine JLn (Zcv ZQ hv11)<|JLn (Pu.lss rfl rfl)<|Za<|ZF rfl (fun h12=>?_) (fun h12=>?_)
 ·have h12n:j<kids.length:=by omega
  have hs1:=Ym _ (getElem_mem h12n)
  have hs2:=VF kids[j]
  have hs3:=Ss (kids.take j)
  have hs4:=U3 kids j
  refine Zk<|Zf<|Zh<|Zd<|JLm y1<|JLq (pp b1 34) (Yd rfl rfl)<|JLr (Zb YZ rfl (Zcu 1 rfl) (Yh ..)<|JLM rfl ?_)
  obtain ⟨b13,o13,cap13,row13,T13,fr13,cs13,hv13,hb13,hs13,hE13⟩:=hks.get j (by omega)
  refine JLn (Zcw j ZQ Zy hv13 rfl rfl (by omega))<|JLr (Zn Zy rfl (Zcx hb13) hs13<|Jc call88 rfl (fun hin=>ih _ (getElem_mem h12n) _ _ (RT.mono (Hle.hu _ _) hE13) (by omega)) rfl ?_)
  rintro v14 _ ⟨k14,rfl,ho14⟩
  refine JLr (Zz (i:=1) (n:=(sfR (kids[j])).length) (es':=Z2 (sfR (kids[j]))) ZV ZV (Or.inl rfl) el3 rfl rfl rfl how1 (MK (i:=0) ho14 rfl) (Zt _) (RM _) (JF _) (by decide) (by rw [Zt];first | omega | (rw [length_append];omega)) fun v15 k15 ho15=>?_)
  rw [← Td] at ho15
  refine JLa v15<|Za<|Zd<|JLM rfl<|JLn (Zcy rfl rfl (by omega))<|JAn rfl<|⟨_,?_,(j+1),v15,k15,Zj rfl,(Sd (Sk (Sk Sub.nil))),?_,?_,rfl⟩
  ·omega
  ·omega
  rw [IG h12n];exact ho15
 have h12n:kids.length≤j:=by omega
 refine Zu _ rfl<|Zf<|Zc<|JAn rfl<|Zh<|Zv (fun k ρ M=>∃ (j:Nat) (y2:Value) (q2:Zi),ZR ρ [(1,pp b1 0),(2,nS),(3,y2),(5,iv ((j:Int)))]=ρ∧Sub [q2,(BX b1 (pkT kind num ref ks cv) 51)] M∧j≤cases.length∧Own 3 1 y2 (Z2 (Y0 kids++Y4 (cases.take j))) q2∧k=cases.length-j) _ ⟨0,y1,q1,Zj rfl,(Sk (Sk Sub.nil)),Nat.zero_le _,(by have z:=how1;rw [take_of_length_le h12n] at z;rw [List.take_zero,Y4,append_nil];exact z),rfl⟩ ?_
 rintro _ ρ16 _ ⟨j,y2,q2,e17,hm21,hj,how2,rfl⟩
 obtain ⟨ρ22,rfl⟩:=Zo e17
 clear e17
 refine ZD hm21 ?_
 have hlen:=hcv.le
 refine Zf<|Zc<|JLM rfl<|JLq (pp b1 35) (ZY rfl rfl)<|JLr (Zb YL rfl (Zcu 1 rfl) (Z3 ..) ?_)
 obtain ⟨a23,cap23,hv23⟩:=hcv.sl
 have hle23:=hcv.le
 refine JLn (Zcv Yz hv23)<|JLn (Pu.lss rfl rfl)<|Za<|ZF rfl (fun h24=>?_) (fun h24=>?_)
 ·have h24n:j<cases.length:=by omega
  have hs1:=Y1 _ (getElem_mem h24n)
  have hs2:=VF cases[j].2
  have hs3:=Ss kids
  have hs4:=U3 kids j
  have hs5:=Q5 (cases.take j)
  have hs6:=Mz cases j
  refine Zk<|Zf<|Zh<|Zd<|JLm y2<|JLq (pp b1 35) (ZY rfl rfl)<|JLr (Zb YL rfl (Zcu 1 rfl) (Z3 ..)<|JLM rfl ?_)
  obtain ⟨b25,o25,cap25,row25,T25,fr25,cs25,hv25,hb25,hs25,hE25⟩:=hcv.get j (by omega)
  obtain ⟨ca25,cb25,rfl,hA25,hB25⟩:=hE25
  refine JLn (Zcw j Yz Yg hv25 rfl rfl (by omega))<|JLq (pp b25 (o25+j*71+35)) (YV rfl rfl)<|JLr (Zn Zy rfl (Zcx hb25) (XS hs25 (XK (ZN hA25) (ZB hB25)))<|Jc call88 rfl (fun hin=>ih' _ (getElem_mem h24n) _ _ (RT.mono (Hle.hu _ _) hB25) (by omega)) rfl ?_)
  rintro v26 _ ⟨k26,rfl,ho26⟩
  refine JLr (Zz (i:=1) (n:=(sfR (cases[j].2)).length) (es':=Z2 (sfR (cases[j].2))) ZV ZV (Or.inl rfl) el3 rfl rfl rfl how2 (MK (i:=0) ho26 rfl) (Zt _) (RM _) (JF _) (by decide) (by rw [Zt];first | omega | (rw [length_append];omega)) fun v27 k27 ho27=>?_)
  rw [← Td] at ho27
  refine JLa v27<|Za<|Zd<|JLM rfl<|JLn (Zcy rfl rfl (by omega))<|JAn rfl<|⟨_,?_,(j+1),v27,k27,Zj rfl,(Sd (Sk (Sk Sub.nil))),?_,?_,rfl⟩
  ·omega
  ·omega
  rw [IH h24n];rw [← append_assoc];exact ho27
 have h24n:cases.length≤j:=by omega
 refine Zu _ rfl<|Zc<|JLm y2<|JLa y2<|Za<|ZC y2 [q2] (Sk Sub.nil) (?_)
 rw [take_of_length_le h24n] at how2
 exact ⟨_,rfl,by rw [sfR,if_neg hk7];exact how2⟩
set_option maxHeartbeats 2000000 in
theorem OM (l:List Tm) (v:Value) (H:Heap) (hv:Hs.rdS RT 36 H v l) (hn8:l.length≤8) (hz:∀ t∈l,sizeT t≤400000) (hs:∀ t∈l,∀ x∈sfR t,0≤x∧x<(l.length:Int)):CT prog 44 ⟨[v]⟩ [] H (fun r N=>∃ b bs rs,r=.slice (some ⟨b,0,none⟩) l.length l.length∧N=[mxC 78 4 l.length b bs rs]∧MxP bs rs l.length l.length (rcB (cdL l) l.length)):=by
 have hlen:=hv.le
 refine Zl func44 rfl rfl<|Zc<|JAn rfl<|Zc<|JLm v ?_
 obtain ⟨a1,cap1,hv1⟩:=hv.sl
 have hle1:=hv.le
 refine JLn (Zcv ZQ hv1)<|JAn rfl<|Zc<|JLM rfl<|JLr (Qm (Tb:=4) l.length Vz ZbP rfl rfl rfl rfl (by omega) fun b2=>JAn rfl<|Zf<|Zc<|JLA rfl ?_)
 refine Za<|Zh<|Zv (fun k ρ M=>∃ (j:Nat) (bs3:List (Option Nat)) (rs3:List (List Bool)),ZR ρ [(0,v),(2,nS),(3,iv ((l.length:Int))),(4,.slice (some ⟨b2,0,none⟩) l.length l.length),(5,iv ((j:Int)))]=ρ∧Sub [mxC 78 4 l.length b2 bs3 rs3] M∧j≤l.length∧MxP bs3 rs3 l.length j (rcI (cdL l) j 0)∧k=l.length-j) _ ⟨0,(replicate l.length none),(replicate l.length []),Zj rfl,(Sk Sub.nil),Nat.zero_le _,(Zdj _ _),rfl⟩ ?_
 rintro _ ρ4 _ ⟨j,bs3,rs3,e5,hm10,hj,hmx3,rfl⟩
 obtain ⟨ρ11,rfl⟩:=Zo e5
 clear e5
 refine ZD hm10<|Zf<|Zc<|JLM rfl<|JLM rfl<|JLn (Pu.lss rfl rfl)<|Za<|ZF rfl (fun h12=>?_) (fun h12=>?_)
 ·have h12n:j<l.length:=by omega
  have hjl:=h12n
  have hzj:=hz _ (getElem_mem h12n)
  have hsl:=VF l[j]
  refine Zk<|Zf<|Zh<|Zc<|JLM rfl<|JLM rfl<|JLM rfl<|JLr (Uq (l.length) W4 el4 rfl rfl (by omega) (by omega) (by omega) (by omega) fun b13 k13 _ hk13=>?_)
  obtain rfl:k13=(BX b13 (bls (replicate (l.length) false)) 4):=hk13.trans (congrArg (fun y=>[(b13,Obj.cells ⟨y⟩ 4 (0,0))]) (Mc _))
  refine JLn (Zcw j Vz XB rfl rfl rfl (by omega))<|JLr (Qn 0 XB rfl hmx3.hl (hmx3.non j (by omega) (by omega)) rfl rfl<|Za<|Zc<|JLm v<|JLM rfl ?_)
  obtain ⟨b14,o14,cap14,row14,T14,fr14,cs14,hv14,hb14,hs14,hE14⟩:=hv.get j (by omega)
  refine JLn (Zcw j ZQ Zy hv14 rfl rfl (by omega))<|JLr (Zn Zy rfl (Zcx hb14) hs14<|Jc call88 rfl (fun hin=>St _ _ _ (RT.mono (Hle.hu _ _) hE14) (by omega)) rfl ?_)
  rintro v15 _ ⟨k15,rfl,ho15⟩
  refine JLa v15<|Za<|Zc<|JAn rfl<|Zh<|Zv (fun k ρ M=>∃ (p:Nat) (bs16:List (Option Nat)) (rs16:List (List Bool)),ZR ρ [(0,v),(2,nS),(3,iv ((l.length:Int))),(4,.slice (some ⟨b2,0,none⟩) l.length l.length),(5,iv ((j:Int))),(6,v15),(7,iv ((p:Int)))]=ρ∧Sub [mxC 78 4 l.length b2 bs16 rs16,k15] M∧p≤(sfR l[j]).length∧MxP bs16 rs16 l.length (j+1) (rcI (cdL l) j p)∧j<l.length∧k=(sfR l[j]).length-p) _ ⟨0,(List.set bs3 j (some b13)),(List.set rs3 j (replicate (l.length) false)),Zj rfl,(Sub.cons 1 rfl (Sk Sub.nil)),Nat.zero_le _,(hmx3.fill hjl (fun q hq=>by simp [rcI]) (fun a ha q hq=>by simp [rcI,ha])),hjl,rfl⟩ ?_
  rintro _ ρ17 _ ⟨p,bs16,rs16,e18,hm25,hp,hmx16,hjl,rfl⟩
  obtain ⟨ρ26,rfl⟩:=Zo e18
  clear e18
  refine ZD hm25<|Zf<|Zc<|JLM rfl<|JLm v15 ?_
  obtain ⟨a27,cap27,hv27⟩:=ho15.sl
  rw [Zt] at hv27
  refine JLn (Zcv ZV hv27)<|JLn (Pu.lss rfl rfl)<|Za<|ZF rfl (fun h28=>?_) (fun h28=>?_)
  ·have h28n:p<(sfR (l[j])).length:=by omega
   refine Zk<|Zf<|Zh ?_
   have hpl:p<(sfR l[j]).length:=by omega
   have hpx:=hs _ (getElem_mem hjl) _ (getElem_mem hpl)
   refine ZI mixed #[0,0,3,7,0,0,48,112,255,511] 8 (sm 36 8) [] [] rfl (by kernel_rfl) rfl (by kernel_rfl)<|DM (fun _=>rfl)<|DM (fun _=>rfl) ?_
   refine Dn (fun _=>Zcw j Vz XB rfl rfl rfl (by omega)) ?_
   obtain ⟨q31,hq31⟩:=hmx16.row j (by omega)
   have hr31:=hmx16.len j (by omega)
   refine Dl1 XB (ZcD 0 rfl mem_cons_self) (XH hq31)<|Dm v15<|DM (fun _=>rfl) ?_
   obtain ⟨b32,cap32,row32,hv32,hm32,hs32⟩:=ho15.at (j:=p) (by rw [Zt];first | assumption | omega)
   rw [Z9 _ _ (by omega)] at hs32
   refine Dn (fun _=>Zcw p ZV ty3 hv32 rfl rfl (by rw [Zt];first | assumption | omega))<|Dl1 ty3 (ZcD 1 rfl hm32) (ZT hs32)<|ZM (M':=[mxC 78 4 l.length b2 bs16 rs16,k15]) rfl ?_
   show JL _ _ _ [_,_] _ _ _
   refine JLq (pp q31 (0+((sfR (l[j]))[p]).toNat*1)) (Zcw ((sfR (l[j]))[p]).toNat W4 ty4 rfl rfl (by omega) (by omega))<|JLr (XW 0 ty4 rfl hmx16.hl hq31 (by rw [hr31];omega) rfl rfl<|Za<|Zd<|JLM rfl<|JLn (Zcy rfl rfl (by omega))<|JAn rfl<|⟨_,?_,(p+1),bs16,(Vv rs16 j ((sfR (l[j]))[p]).toNat true),Zj rfl,(Sk (Sk Sub.nil)),?_,?_,?_,rfl⟩)
   ·omega
   ·omega
   ·exact hmx16.set (by omega) (by omega) (by omega) (GZ hjl (by omega))
   exact hjl
  have h28n:(sfR (l[j])).length≤p:=by omega
  refine Zu _ rfl<|Zd<|JLM rfl<|JLn (Zcy rfl rfl (by omega))<|JAn rfl<|⟨_,?_,(j+1),bs16,rs16,Zj rfl,(Sk Sub.nil),?_,?_,rfl⟩
  ·omega
  ·omega
  exact hmx16.same (fun a ha q hq=>Ch hjl (by omega) a ha q)
 have h12n:l.length≤j:=by omega
 refine Zu _ rfl<|Zf<|Zc<|JAn rfl<|Zh<|Zv (fun k ρ M=>∃ (kk:Nat) (bs33:List (Option Nat)) (rs33:List (List Bool)),ZR ρ [(2,nS),(3,iv ((l.length:Int))),(4,.slice (some ⟨b2,0,none⟩) l.length l.length),(8,iv ((kk:Int)))]=ρ∧Sub [mxC 78 4 l.length b2 bs33 rs33] M∧kk≤l.length∧MxP bs33 rs33 l.length (l.length) (rcB (cdL l) kk)∧k=l.length-kk) _ ⟨0,bs3,rs3,Zj rfl,(Sk Sub.nil),Nat.zero_le _,(hmx3.full (by omega) G0),rfl⟩ ?_
 rintro _ ρ34 _ ⟨kk,bs33,rs33,e35,hm39,hkk,hmx33,rfl⟩
 obtain ⟨ρ40,rfl⟩:=Zo e35
 clear e35
 refine ZD hm39<|Zf<|Zc<|JLM rfl<|JLM rfl<|JLn (Pu.lss rfl rfl)<|Za<|ZF rfl (fun h41=>?_) (fun h41=>?_)
 ·have h41n:kk<l.length:=by omega
  refine Zk<|Zf<|Zh<|Zc<|JAn rfl<|Zh<|Zv (fun k ρ M=>∃ (i:Nat) (bs42:List (Option Nat)) (rs42:List (List Bool)),ZR ρ [(2,nS),(3,iv ((l.length:Int))),(4,.slice (some ⟨b2,0,none⟩) l.length l.length),(8,iv ((kk:Int))),(9,iv ((i:Int)))]=ρ∧Sub [mxC 78 4 l.length b2 bs42 rs42] M∧i≤l.length∧MxP bs42 rs42 l.length (l.length) (rcK (cdL l) kk i 0)∧kk<l.length∧k=l.length-i) _ ⟨0,bs33,rs33,Zj rfl,(Sk Sub.nil),Nat.zero_le _,(hmx33.same Cg),(by omega),rfl⟩ ?_
  rintro _ ρ43 _ ⟨i,bs42,rs42,e44,hm49,hi,hmx42,hk2,rfl⟩
  obtain ⟨ρ50,rfl⟩:=Zo e44
  clear e44
  refine ZD hm49<|Zf<|Zc<|JLM rfl<|JLM rfl<|JLn (Pu.lss rfl rfl)<|Za<|ZF rfl (fun h51=>?_) (fun h51=>?_)
  ·have h51n:i<l.length:=by omega
   refine Zk<|Zf<|Zh<|Zc<|JAn rfl<|Zh<|Zv (fun k ρ M=>∃ (j:Nat) (bs52:List (Option Nat)) (rs52:List (List Bool)),ZR ρ [(2,nS),(3,iv ((l.length:Int))),(4,.slice (some ⟨b2,0,none⟩) l.length l.length),(8,iv ((kk:Int))),(9,iv ((i:Int))),(10,iv ((j:Int)))]=ρ∧Sub [mxC 78 4 l.length b2 bs52 rs52] M∧j≤l.length∧MxP bs52 rs52 l.length (l.length) (rcK (cdL l) kk i j)∧kk<l.length∧i<l.length∧k=l.length-j) _ ⟨0,bs42,rs42,Zj rfl,(Sk Sub.nil),Nat.zero_le _,hmx42,(by omega),(by omega),rfl⟩ ?_
   rintro _ ρ53 _ ⟨j,bs52,rs52,e54,hm60,hj,hmx52,hk2,hi2,rfl⟩
   obtain ⟨ρ61,rfl⟩:=Zo e54
   clear e54
   refine ZD hm60<|Zf<|Zc<|JLM rfl<|JLM rfl<|JLn (Pu.lss rfl rfl)<|Za<|ZF rfl (fun h62=>?_) (fun h62=>?_)
   ·have h62n:j<l.length:=by omega
    refine Zk<|Zf<|Zh ?_
    cases h63:(YN rs52 i j) with
    | true=>
     refine ZI mixed #[0,0,3,7,0,0,0,96,224,0,992,2016,4064,8160,8160,32736,65504,8160,262112,524256,1048544,2097120,2097120,8388576,16777184,2097120,67108832,134217696,268435424,536870880,1073741823,2147483647] 30 (sm 60 30) [] [] rfl (by kernel_rfl) rfl (by kernel_rfl)<|DM (fun _=>rfl)<|DM (fun _=>rfl) ?_
     refine Dn (fun _=>Zcw i Vz XB rfl rfl rfl (by omega)) ?_
     obtain ⟨q66,hq66⟩:=hmx52.row i (by omega)
     have hr66:=hmx52.len i (by omega)
     refine Dl1 XB (ZcD 0 rfl mem_cons_self) (XH hq66)<|DM (fun _=>rfl)<|DM (fun _=>rfl)<|DM (fun _=>rfl) ?_
     refine Dn (fun _=>Zcw i Vz XB rfl rfl rfl (by omega)) ?_
     obtain ⟨q67,hq67⟩:=hmx52.row i (by omega)
     have hr67:=hmx52.len i (by omega)
     refine Dl1 XB (ZcD 0 rfl mem_cons_self) (XH hq67)<|DM (fun _=>rfl) ?_
     refine Dn (fun _=>Zcw j W4 ty4 rfl rfl rfl (by omega)) ?_
     refine Dl1 ty4 (ZcD 0 rfl (X6 hmx52.hl hq67)) ((YA (by rw [hr67];omega)).trans (congrArg (fun b=>some (Value.bool b)) h63))<|DM (fun _=>rfl)<|Yc rfl (fun _=>rfl)<|Yc rfl (fun _=>rfl)<|Yc rfl (fun _=>rfl)<|Yc rfl (fun _=>rfl)<|Yc rfl (fun _=>rfl)<|Yc rfl (fun _=>rfl)<|Yc rfl (fun _=>rfl)<|Yc rfl (fun _=>rfl)<|Yc rfl (fun _=>rfl)<|Yc rfl (fun _=>rfl)<|Yc rfl (fun _=>rfl) ?_
     refine Yc rfl (fun _=>rfl)<|Yc rfl (fun _=>rfl)<|Yc rfl (fun _=>rfl)<|Yc rfl (fun _=>rfl)<|Yc rfl (fun _=>rfl)<|Dq (.bool true) (fun _=>ZcI rfl rfl)<|ZM (M':=[mxC 78 4 l.length b2 bs52 rs52]) rfl ?_
     show JL _ _ _ [_,_] _ _ _
     refine JLn (Zcw j W4 ty4 rfl rfl rfl (by omega))<|JLr (XW 0 ty4 rfl hmx52.hl hq66 (by rw [hr66];omega) rfl rfl<|Za<|Zd<|JLM rfl<|JLn (Zcy rfl rfl (by omega))<|JAn rfl<|⟨_,?_,(j+1),bs52,(Vv rs52 i j true),Zj rfl,(Sk Sub.nil),?_,?_,?_,?_,rfl⟩)
     ·omega
     ·omega
     ·exact hmx52.rc (by omega) (by omega) (by omega) (by simp [*])
     ·omega
     omega
    | false=>
     cases h68:(YN rs52 i kk) with
     | true=>
      refine ZI mixed #[0,0,3,7,0,0,0,96,224,0,992,2016,4064,8160,8160,32736,65504,8160,262112,524256,1048544,2097120,2097120,8388576,16777184,2097120,67108832,134217696,268435424,536870880,1073741823,2147483647] 30 (sm 60 30) [] [] rfl (by kernel_rfl) rfl (by kernel_rfl)<|DM (fun _=>rfl)<|DM (fun _=>rfl) ?_
      refine Dn (fun _=>Zcw i Vz XB rfl rfl rfl (by omega)) ?_
      obtain ⟨q73,hq73⟩:=hmx52.row i (by omega)
      have hr73:=hmx52.len i (by omega)
      refine Dl1 XB (ZcD 0 rfl mem_cons_self) (XH hq73)<|DM (fun _=>rfl)<|DM (fun _=>rfl)<|DM (fun _=>rfl) ?_
      refine Dn (fun _=>Zcw i Vz XB rfl rfl rfl (by omega)) ?_
      obtain ⟨q74,hq74⟩:=hmx52.row i (by omega)
      have hr74:=hmx52.len i (by omega)
      refine Dl1 XB (ZcD 0 rfl mem_cons_self) (XH hq74)<|DM (fun _=>rfl) ?_
      refine Dn (fun _=>Zcw j W4 ty4 rfl rfl rfl (by omega)) ?_
      refine Dl1 ty4 (ZcD 0 rfl (X6 hmx52.hl hq74)) ((YA (by rw [hr74];omega)).trans (congrArg (fun b=>some (Value.bool b)) h63))<|DM (fun _=>rfl)<|DM (fun _=>rfl)<|DM (fun _=>rfl) ?_
      refine Dn (fun _=>Zcw i Vz XB rfl rfl rfl (by omega)) ?_
      obtain ⟨q75,hq75⟩:=hmx52.row i (by omega)
      have hr75:=hmx52.len i (by omega)
      refine Dl1 XB (ZcD 0 rfl mem_cons_self) (XH hq75)<|DM (fun _=>rfl) ?_
      refine Dn (fun _=>Zcw kk W4 ty4 rfl rfl rfl (by omega)) ?_
      refine Dl1 ty4 (ZcD 0 rfl (X6 hmx52.hl hq75)) ((YA (by rw [hr75];omega)).trans (congrArg (fun b=>some (Value.bool b)) h68))<|DM (fun _=>rfl)<|DM (fun _=>rfl)<|DM (fun _=>rfl) ?_
      refine Dn (fun _=>Zcw kk Vz XB rfl rfl rfl (by omega)) ?_
      obtain ⟨q76,hq76⟩:=hmx52.row kk (by omega)
      have hr76:=hmx52.len kk (by omega)
      refine Dl1 XB (ZcD 0 rfl mem_cons_self) (XH hq76)<|DM (fun _=>rfl) ?_
      refine Dn (fun _=>Zcw j W4 ty4 rfl rfl rfl (by omega)) ?_
      refine ZZ rfl (fun _=>rfl) ty4 (fun _=>rfl) (ZcD 0 rfl (X6 hmx52.hl hq76)) (YA (by rw [hr76];omega))<|Dq (.bool (YN rs52 kk j)) (fun _=>ZcI rfl rfl)<|Dq (.bool (YN rs52 kk j)) (fun _=>ZcH rfl rfl)<|ZM (M':=[mxC 78 4 l.length b2 bs52 rs52]) rfl ?_
      show JL _ _ _ [_,_] _ _ _
      refine JLn (Zcw j W4 ty4 rfl rfl rfl (by omega))<|JLr (XW 0 ty4 rfl hmx52.hl hq73 (by rw [hr73];omega) rfl rfl<|Za<|Zd<|JLM rfl<|JLn (Zcy rfl rfl (by omega))<|JAn rfl<|⟨_,?_,(j+1),bs52,(Vv rs52 i j (YN rs52 kk j)),Zj rfl,(Sk Sub.nil),?_,?_,?_,?_,rfl⟩)
      ·omega
      ·omega
      ·exact hmx52.rc (by omega) (by omega) (by omega) (by simp [*])
      ·omega
      omega
     | false=>
      refine ZI mixed #[0,0,3,7,0,0,0,96,224,0,992,2016,4064,8160,8160,32736,65504,8160,262112,524256,1048544,2097120,2097120,8388576,16777184,2097120,67108832,134217696,268435424,536870880,1073741823,2147483647] 30 (sm 60 30) [] [] rfl (by kernel_rfl) rfl (by kernel_rfl)<|DM (fun _=>rfl)<|DM (fun _=>rfl) ?_
      refine Dn (fun _=>Zcw i Vz XB rfl rfl rfl (by omega)) ?_
      obtain ⟨q80,hq80⟩:=hmx52.row i (by omega)
      have hr80:=hmx52.len i (by omega)
      refine Dl1 XB (ZcD 0 rfl mem_cons_self) (XH hq80)<|DM (fun _=>rfl)<|DM (fun _=>rfl)<|DM (fun _=>rfl) ?_
      refine Dn (fun _=>Zcw i Vz XB rfl rfl rfl (by omega)) ?_
      obtain ⟨q81,hq81⟩:=hmx52.row i (by omega)
      have hr81:=hmx52.len i (by omega)
      refine Dl1 XB (ZcD 0 rfl mem_cons_self) (XH hq81)<|DM (fun _=>rfl) ?_
      refine Dn (fun _=>Zcw j W4 ty4 rfl rfl rfl (by omega)) ?_
      refine Dl1 ty4 (ZcD 0 rfl (X6 hmx52.hl hq81)) ((YA (by rw [hr81];omega)).trans (congrArg (fun b=>some (Value.bool b)) h63))<|DM (fun _=>rfl)<|DM (fun _=>rfl)<|DM (fun _=>rfl) ?_
      refine Dn (fun _=>Zcw i Vz XB rfl rfl rfl (by omega)) ?_
      obtain ⟨q82,hq82⟩:=hmx52.row i (by omega)
      have hr82:=hmx52.len i (by omega)
      refine Dl1 XB (ZcD 0 rfl mem_cons_self) (XH hq82)<|DM (fun _=>rfl) ?_
      refine Dn (fun _=>Zcw kk W4 ty4 rfl rfl rfl (by omega)) ?_
      refine Dl1 ty4 (ZcD 0 rfl (X6 hmx52.hl hq82)) ((YA (by rw [hr82];omega)).trans (congrArg (fun b=>some (Value.bool b)) h68))<|DM (fun _=>rfl)<|Yc rfl (fun _=>rfl)<|Yc rfl (fun _=>rfl)<|Yc rfl (fun _=>rfl)<|Yc rfl (fun _=>rfl)<|Yc rfl (fun _=>rfl)<|Yc rfl (fun _=>rfl)<|Yc rfl (fun _=>rfl)<|Dq (.bool false) (fun _=>ZcH rfl rfl)<|Dq (.bool false) (fun _=>ZcH rfl rfl)<|ZM (M':=[mxC 78 4 l.length b2 bs52 rs52]) rfl ?_
      show JL _ _ _ [_,_] _ _ _
      refine JLn (Zcw j W4 ty4 rfl rfl rfl (by omega))<|JLr (XW 0 ty4 rfl hmx52.hl hq80 (by rw [hr80];omega) rfl rfl<|Za<|Zd<|JLM rfl<|JLn (Zcy rfl rfl (by omega))<|JAn rfl<|⟨_,?_,(j+1),bs52,(Vv rs52 i j false),Zj rfl,(Sk Sub.nil),?_,?_,?_,?_,rfl⟩)
      ·omega
      ·omega
      ·exact hmx52.rc (by omega) (by omega) (by omega) (by simp [*])
      ·omega
      omega
   have h62n:l.length≤j:=by omega
   refine Zu _ rfl<|Zd<|JLM rfl<|JLn (Zcy rfl rfl (by omega))<|JAn rfl<|⟨_,?_,(i+1),bs52,rs52,Zj rfl,(Sk Sub.nil),?_,?_,?_,rfl⟩
   ·omega
   ·omega
   ·exact hmx52.same (Ce (by omega))
   omega
  have h51n:l.length≤i:=by omega
  refine Zu _ rfl<|Zd<|JLM rfl<|JLn (Zcy rfl rfl (by omega))<|JAn rfl<|⟨_,?_,(kk+1),bs42,rs42,Zj rfl,(Sk Sub.nil),?_,?_,rfl⟩
  ·omega
  ·omega
  exact hmx42.same (Cf (by omega))
 have h41n:l.length≤kk:=by omega
 refine Zu _ rfl<|Zc<|JLM rfl<|JAn rfl<|ZC (.slice (some ⟨b2,0,none⟩) l.length l.length) [mxC 78 4 l.length b2 bs33 rs33] (Sk Sub.nil) (?_)
 exact ⟨_,_,_,rfl,rfl,hmx33.same (fun a ha q hq=>by congr 1;omega)⟩
theorem Hg (l:List Tm) (v:Value) (H:Heap) (hv:Hs.rdS RT 36 H v l):CT prog 5 ⟨[v]⟩ [] H (fun r N=>r=.bool (decide (10<l.length)||(YM (fun x (u:Unit)=>((cnT stG 0 x 0).1,u)) l ()).1)∧N=[]):=by
 refine Zl func5 rfl rfl<|Zc<|JAn rfl<|Zc<|JLm v ?_
 obtain ⟨a1,cap1,hv1⟩:=hv.sl
 have hle1:=hv.le
 refine JLn (Zcv ZQ hv1)<|JLn (Pu.gtr rfl rfl)<|JLM rfl ?_
 cases h2:(decide (10<(l.length:Int))) with
 | true=>
  replace h2:=dt h2
  iterate 2 refine Xs rfl ?_
  refine JLq (.bool true) (ZcI rfl rfl)<|JAn rfl<|ZC (.bool true) [] Sub.nil (?_)
  exact ⟨by simp only [Value.bool.injEq];try simp_all;try omega,rfl⟩
 | false=>
  replace h2:=df h2
  refine JLm v<|XI (M':=[[]]) (Zcz Sub.refl)<|ZG 0 rfl call26 rfl rfl (fun hin=>UJ 27 [] [] call27 (fun _:Unit=>[]) (fun _=>True) (fun x (u:Unit)=>((cnT stG 0 x 0).1,u)) _ _ _ (RTs.mono (Hle.hu _ _) hv) () trivial (fun _ _ _ _ _=>trivial) (fun x _ _ _ a h _ hr=>(B1 (Eb x a h hr)).mono fun v N ⟨N2,⟨e1,e2⟩,e3⟩=>⟨e1,by rw [e3,e2];rfl⟩)) rfl ?_
  rintro _ _ ⟨rfl,rfl⟩
  refine XI (M':=[]) (Sub.flat Sub.refl (by simp))<|JLq (.bool ((YM (fun x (u:Unit)=>((cnT stG 0 x 0).1,u)) l ()).1)) (ZcH rfl rfl)<|JAn rfl<|ZC (.bool ((YM (fun x (u:Unit)=>((cnT stG 0 x 0).1,u)) l ()).1)) [] Sub.nil (?_)
  exact ⟨by simp only [Value.bool.injEq];try simp_all;try omega,rfl⟩
end
def OL (l:List Tm) (v:Value) (k:Zi):Prop:=∃ es k1 k2,Own 51 36 v es k1∧OTs l es k2∧k=k1++k2∧l.length≤1000000
theorem OL.mk {l:List Tm} {v:Value} {es:List (List Value)} {k1 k2:Zi} (h:Own 51 36 v es k1) (h2:OTs l es k2) (hl:l.length≤1000000):OL l v (k1++k2):=⟨es,k1,k2,h,h2,rfl,hl⟩
theorem OL.one {l:List Tm} {v:Value} {k:Zi} (h:OL l v k):v.oneCell'=true:=by obtain ⟨_,_,_,h,_⟩:=h;exact h.one
theorem OL.rd {l:List Tm} {v:Value} {k:Zi} {h:Heap} (o:OL l v k) (hk:Has k h):Hs.rdS RT 36 h v l:=by
  obtain ⟨es,k1,k2,h1,h2,rfl,hl⟩:=o
  exact h1.rdS (Xr h2).symm (by omega) hk.left (LN (fun p _ cs c ho hh=>ho.rd hh) h2 hk.right)
theorem BQ {l:List Tm}:∀ {es:List (List Value)} {c:Zi} {j:Nat} (_:OTs l es c) (hj:j<l.length),∃ e,es[j]?=some e∧e.length=36∧okc e∧∀ h,Has c h→RT h e l[j]:=by
  intro es c j h hj
  obtain ⟨e,k,c',h1,h2,hp,_⟩:=OTs.pick h hj
  exact ⟨e,h1,h2.len,h2.ok,fun hh hc=>h2.rd fun b o hb=>hc b o (hp.symm.subset (mem_append.2 (.inl hb)))⟩
noncomputable def mkL (l:List Tm):List Tm:=l.map (Yy (frI l) [])
theorem Z0 (l:List Tm):(mkL l).length=l.length:=length_map ..
theorem Pz {l:List Tm} {j:Nat} (h:j<l.length):(mkL l).take (j+1)=(mkL l).take j++[Yy (frI l) [] l[j]]:=by
  rw [take_succ_eq_append_getElem (by rw [Z0];exact h)];simp [mkL]
theorem XO {l:List Tm} {x:Int} (h0:0≤x) (h1:x<(l.length:Int)):(frI l).getD x.toNat 0=(firstN l x.toNat:Int):=by
  have h:x.toNat<l.length:=by omega
  rw [getD_eq_getElem?_getD,getElem?_eq_getElem (by rw [Yw];exact h),Option.getD_some,XU h]
theorem IL {l:List Tm} (ok:okC l) (hn:l.length≤8) (s:List Sm) {t:Tm} (h:t∈l):Q9 (frI l) s (sfR t):=fun n hn'=>by
  have:=ok t h n hn'
  have e:=XO this.1 this.2
  have hf:=YJ (l:=l) (i:=n.toNat) (by omega)
  exact ⟨this.1,by rw [Yw];exact this.2,fun h2=>by rw [e] at h2;omega,by rw [e];unfold inI;omega⟩
def stO (P:Int→Bool) (c:List Int) (out:List Int):List Int:=c.foldl (fun out k=>if P k=true∧k∉out then out++[k] else out) out
def W6 (P:Int→Bool) (s:Int→List Int):Nat→Nat→List Int→List Int
  | 0,_,out=>out
  | f+1,a,out=>if a<out.length then W6 P s f (a+1) (stO P (s (out.getD a 0)) out) else out
def okO (n:Nat) (out:List Int):Prop:=out.Nodup∧∀ x∈out,0≤x∧x<(n:Int)
def prB (m:List Tm) (i k:Int):Bool:=rcB (cdL m) m.length i.toNat k.toNat&&rcB (cdL m) m.length k.toNat i.toNat
def sfI (m:List Tm) (x:Int):List Int:=sfR (atL m x.toNat)
def Wd (m:List Tm) (i:Int):List Int:=W6 (prB m i) (sfI m) m.length 0 [i]
theorem okO.len {n:Nat} {out:List Int} (h:okO n out):out.length≤n:=by
  have h1:(out.map Int.toNat).Nodup:=by
    have key:∀ l:List Int,l.Nodup→(∀ x∈l,0≤x)→(l.map Int.toNat).Nodup:=by
      intro l
      induction l with
      | nil=>intro _ _;simp
      | cons y l ih=>
        intro hn hp
        rw [map_cons,nodup_cons]
        rw [nodup_cons] at hn
        refine ⟨fun hm=>?_,ih hn.2 fun x hx=>hp x (mem_cons_of_mem _ hx)⟩
        obtain ⟨z,hz,e⟩:=mem_map.1 hm
        have a:=hp z (mem_cons_of_mem _ hz)
        have b:=hp y mem_cons_self
        have:z=y:=by omega
        subst this;exact hn.1 hz
    exact key out h.1 fun x hx=>(h.2 x hx).1
  have h2:(out.map Int.toNat) ⊆ range n:=fun x hx=>by
    obtain ⟨y,hy,rfl⟩:=mem_map.1 hx
    have:=h.2 y hy
    exact mem_range.2 (by omega)
  have key:∀ (l m:List Nat),l.Nodup→l ⊆ m→l.length≤m.length:=by
    intro l
    induction l with
    | nil=>intro m _ _;simp
    | cons y l ih=>
      intro m hn hs
      rw [nodup_cons] at hn
      have hy:=hs mem_cons_self
      have:=ih (m.erase y) hn.2 fun x hx=>(List.mem_erase_of_ne (by rintro rfl;exact hn.1 hx)).2 (hs (mem_cons_of_mem _ hx))
      rw [List.length_erase_of_mem hy] at this
      have:=List.length_pos_of_mem hy
      rw [length_cons];omega
  have:=key _ _ h1 h2
  simpa using this
theorem okO.one {n:Nat} {i:Int} (h:0≤i) (h2:i<(n:Int)):okO n [i]:=⟨by simp,by simp;omega⟩
theorem okO.add {n:Nat} {out:List Int} {k:Int} (h:okO n out) (hk:k∉out) (h0:0≤k) (h1:k<(n:Int)):okO n (out++[k]):=by
  refine ⟨?_,fun x hx=>?_⟩
  · rw [nodup_append];exact ⟨h.1,by simp,fun a ha b hb=>by rw [mem_singleton] at hb;subst hb;exact fun e=>hk (e▸ha)⟩
  · rcases mem_append.1 hx with hx | hx
    · exact h.2 x hx
    · rw [mem_singleton] at hx;subst hx;exact ⟨h0,h1⟩
theorem Wg {P:Int→Bool} {c out:List Int} {p:Nat} (h:p<c.length):stO P (c.take (p+1)) out=if P c[p]=true∧c[p]∉stO P (c.take p) out then stO P (c.take p) out++[c[p]] else stO P (c.take p) out:=by
  unfold stO;rw [take_succ_eq_append_getElem h,List.foldl_append];rfl
theorem RE {P:Int→Bool} {s:Int→List Int} {f a:Nat} {out:List Int} (h:a<out.length):W6 P s (f+1) a out=W6 P s f (a+1) (stO P (s (out.getD a 0)) out):=by rw [W6,if_pos h]
theorem SE {P:Int→Bool} {s:Int→List Int} {f a:Nat} {out:List Int} (h:out.length≤a):W6 P s f a out=out:=by
  cases f with
  | zero=>rfl
  | succ f=>rw [W6,if_neg (by omega)]
theorem Ro {n:Nat} {P:Int→Bool} {c:List Int} (hc:∀ x∈c,0≤x∧x<(n:Int)):∀ {out:List Int},okO n out→okO n (stO P c out)∧out<+:stO P c out:=by
  induction c with
  | nil=>intro out h;exact ⟨h,List.prefix_refl _⟩
  | cons x c ih=>
    intro out h
    have hx:=hc x mem_cons_self
    have ih:=fun {o}=>@ih (fun y hy=>hc y (mem_cons_of_mem _ hy)) o
    show okO n (stO P c (if P x=true∧x∉out then out++[x] else out))∧out<+:stO P c (if P x=true∧x∉out then out++[x] else out)
    by_cases q:P x=true∧x∉out
    · rw [if_pos q]
      have:=ih (h.add q.2 hx.1 hx.2)
      exact ⟨this.1,(List.prefix_append out [x]).trans this.2⟩
    · rw [if_neg q];exact ih h
theorem QC {n:Nat} {P:Int→Bool} {s:Int→List Int} (hs:∀ x,∀ y∈s x,0≤y∧y<(n:Int)):∀ (f a:Nat) {out:List Int},okO n out→okO n (W6 P s f a out)∧out<+:W6 P s f a out
  | 0,_,out,h=>⟨h,List.prefix_refl _⟩
  | f +1,a,out,h=>by
    rw [W6];split
    · have h1:=Ro (P:=P) (hs (out.getD a 0)) h
      have h2:=QC (P:=P) hs f (a+1) h1.1
      exact ⟨h2.1,h1.2.trans h2.2⟩
    · exact ⟨h,List.prefix_refl _⟩
theorem okC.sfI {m:List Tm} (h:okC m) (x:Int):∀ y∈Hs.sfI m x,0≤y∧y<(m.length:Int):=h.at x.toNat
theorem QB {m:List Tm} (h:okC m) {i:Int} (h0:0≤i) (h1:i<(m.length:Int)):okO m.length (Wd m i):=(QC h.sfI _ _ (okO.one h0 h1)).1
theorem Tt {m:List Tm} (h:okC m) {i:Int} (h0:0≤i) (h1:i<(m.length:Int)):∃ t,Wd m i=i::t:=by
  obtain ⟨r,hr⟩:=(QC h.sfI (P:=prB m i) m.length 0 (okO.one h0 h1)).2
  exact ⟨r,hr.symm⟩
theorem Tz {l:List Int} {a:Nat} (h:a<l.length):l.getD a 0=l[a]:=by rw [getD_eq_getElem?_getD,getElem?_eq_getElem h];rfl
theorem Nz {m:List Tm} {x:Int} (h:x.toNat<m.length):sfI m x=sfR m[x.toNat]:=by unfold sfI;rw [Y9 h]
theorem AY {m:List Tm} {i x:Int} {out:List Int} {a b:Bool} (h:a=rcB (cdL m) m.length i.toNat x.toNat) (h2:b=rcB (cdL m) m.length x.toNat i.toNat):((!a)||(!b))=(!prB m i x||decide (x∈out.take 0)):=by
  unfold prB;rw [h,h2];cases rcB (cdL m) m.length i.toNat x.toNat <;> cases rcB (cdL m) m.length x.toNat i.toNat <;> simp
theorem Zbp {P:Bool} {x:Int} {out:List Int} {n:Nat} {th:Bool} (h:th=(!P||decide (x∈out.take n))) (hn:n<out.length):((th)||(decide (out[n]=x)))=(!P||decide (x∈out.take (n+1))):=by
  subst h
  rw [take_succ_eq_append_getElem hn,Bool.or_assoc];congr 1
  rw [Bool.eq_iff_iff,Bool.or_eq_true,decide_eq_true_iff,decide_eq_true_iff,decide_eq_true_iff,mem_append,mem_singleton]
  exact or_congr Iff.rfl eq_comm
theorem Ab {P:Bool} {x:Int} {out:List Int} {n:Nat} {th:Bool} (h:th=(!P||decide (x∈out.take n))) (hn:out.length≤n) (e:th=false):P=true∧x∉out:=by
  subst e;rw [take_of_length_le hn] at h
  cases P with
  | false=>cases h
  | true=>exact ⟨rfl,by simpa using h.symm⟩
theorem AW {P:Bool} {x:Int} {out:List Int} {n:Nat} {th:Bool} (h:th=(!P||decide (x∈out.take n))) (hn:out.length≤n) (e:th=true):¬ (P=true∧x∉out):=by
  subst e;rw [take_of_length_le hn] at h
  rintro ⟨rfl,q⟩
  simp [q] at h
section
attribute [local irreducible] JL J CT wlo DT
set_option maxHeartbeats 4000000 in
theorem Sv:∀ (b:List Int) (s:List Sm) (t:Tm) (cs:List Value) (vb vs:Value) (H:Heap),RT H cs t→Hs.rdS RI 1 H vb b→Hs.rdS RSm 32 H vs s→sizeT t≤1000000→Q9 b s (sfR t)→CT prog 47 ⟨[.agg ⟨cs⟩,vb,vs]⟩ [] H (fun r N=>∃ cs k,r=.agg ⟨cs⟩∧N=[k]∧OT (Yy b s t) cs k):=by
 intro b s t
 induction t using Tm.ind with
 | h kind num ref kids cases ih ih'=>
 intro cs vb vs H ht hb hs hz hso
 have hz0:=hz
 rw [sizeT] at hz
 obtain ⟨ks,cv,rfl,hk,hn,hks,hcv⟩:=RT_mk.1 ht
 have hblen:=hb.le
 have hslen:=hs.le
 refine Zl func47 rfl rfl<|Zc<|JLr (Zr (l:=pkT kind num ref ks cv) rfl rfl fun b1=>JLr (Zp (l:=pkT 0 0 zS nS nS) zeroValue51 rfl fun b2=>Za<|Zf<|Zc<|JLq (pp b1 0) (Z1 rfl rfl)<|JLr (Zb ty3 rfl (Zcu 1 rfl) (Yf ..)<|JLn (Pu.eql rfl rfl)<|Za ?_)))
 refine ZF rfl (fun h3=>?_) (fun h3=>?_)
 ·refine Zf<|Zf ?_
  have hk7:kind=7:=h3
  have hs0:=hso num (by rw [sfR,if_pos hk7];simp)
  have hnl:num.toNat<b.length:=by omega
  have hbn:b.getD num.toNat 0=b[num.toNat]:=by rw [List.getD,getElem?_eq_getElem hnl];rfl
  refine Zd<|JLm vb<|JLq (pp b1 1) (Yj rfl rfl)<|JLr (Zb ty3 rfl (Zcu 1 rfl) (YP ..) ?_)
  obtain ⟨b4,o4,cap4,row4,T4,fr4,cs4,hv4,hb4,hs4,hE4⟩:=hb.get num.toNat (by omega)
  refine JLq (pp b4 (o4+num.toNat*1)) (Zcw num.toNat ZV ty3 hv4 rfl (by first | rfl | omega) (by omega))<|JLr (Zb ty3 rfl (Zcx hb4) (ZT ((show cs4=[Value.int .i64 (b[num.toNat])] from hE4)▸hs4))<|JLn (Pu.lss rfl rfl)<|Za<|ZF rfl (fun h5=>?_) (fun h5=>?_))
  ·refine Zf ?_
   have hsn:=hs0.2.2.1 (by rw [hbn];exact h5)
   refine Zd<|JLm vs<|JLq (pp b1 1) (Yj rfl rfl)<|JLr (Zb ty3 rfl (Zcu 1 rfl) (YP ..) ?_)
   obtain ⟨b6,o6,cap6,row6,T6,fr6,hv6,hb6,hs6⟩:=RSms.at hs num.toNat (by omega)
   refine JLq (pp b6 (o6+num.toNat*32)) (Zcw num.toNat Wt Yq hv6 rfl (by first | rfl | omega) (by omega))<|JLr (Zn Yq rfl (Zcx hb6) hs6<|JLq (.agg ⟨pkT 6 0 (s.getD num.toNat zS) nS nS⟩) (Pu.build (pv:=[(0,iv 6),(2,.agg ⟨sC (s.getD num.toNat zS)⟩)]) (l:=pkT 6 0 (s.getD num.toNat zS) nS nS) rfl (R2 _ _))<|JLr (Ze 0 (vs:=pkT 6 0 (s.getD num.toNat zS) nS nS) (l:=pkT 6 0 (s.getD num.toNat zS) nS nS) Zy rfl rfl rfl rfl rfl (Ys rfl rfl) (Xo ..)<|Za<|ZH<|⟨.agg ⟨pkT 6 0 (s.getD num.toNat zS) nS nS⟩,[[]],Ret.one rfl (RV.cell Zy rfl (Zcu 0 rfl) (YH ..)),(Zcz Sub.nil),?_⟩))
   exact ⟨_,_,rfl,rfl,by rw [Yy,if_pos hk7,if_pos (by rw [hbn];assumption)];exact Rg (by unfold inI;omega) (by unfold inI;omega)⟩
  refine Zk<|Zc<|JLm vb<|JLq (pp b1 1) (Yj rfl rfl)<|JLr (Zb ty3 rfl (Zcu 1 rfl) (YP ..) ?_)
  obtain ⟨b7,o7,cap7,row7,T7,fr7,cs7,hv7,hb7,hs7,hE7⟩:=hb.get num.toNat (by omega)
  refine JLq (pp b7 (o7+num.toNat*1)) (Zcw num.toNat ZV ty3 hv7 rfl (by first | rfl | omega) (by omega))<|JLr (Zb ty3 rfl (Zcx hb7) (ZT ((show cs7=[Value.int .i64 (b[num.toNat])] from hE7)▸hs7))<|JLq (.agg ⟨pkT 7 (b[num.toNat]) zS nS nS⟩) (Pu.build (pv:=[(0,iv 7),(1,iv (b[num.toNat]))]) (l:=pkT 7 (b[num.toNat]) zS nS nS) rfl (Vc _ _))<|JLr (Ze 0 (vs:=pkT 7 (b[num.toNat]) zS nS nS) (l:=pkT 7 (b[num.toNat]) zS nS nS) Zy rfl rfl rfl rfl rfl (Ys rfl rfl) (Xo ..)<|Za<|ZH<|⟨.agg ⟨pkT 7 (b[num.toNat]) zS nS nS⟩,[[]],Ret.one rfl (RV.cell Zy rfl (Zcu 0 rfl) (YH ..)),(Zcz Sub.nil),?_⟩))
  exact ⟨_,_,rfl,rfl,by rw [Yy,if_pos hk7,if_neg (by rw [hbn];assumption),hbn];exact Rg (by unfold inI;omega) (hbn▸hs0.2.2.2)⟩
 refine Zk<|Zf ?_
 have hk7:¬ kind=7:=h3
 refine Zd<|JLr (Zn Zy rfl (Zcu 1 rfl) (YH ..)<|Jc call95 rfl (fun hin=>Cq _ _ _ (RT_mk.2 ⟨_,_,rfl,hk,hn,RTs.mono (Hle.hu _ _) hks,RCs.mono (Hle.hu _ _) hcv⟩) hz0) rfl ?_)
 rintro _ _ ⟨cs8,k8,rfl,rfl,hO8⟩
 refine JLr (Zp (l:=pkT 0 0 zS nS nS) zeroValue51 rfl fun b9=>JLr (Ze 0 (vs:=cs8) (l:=cs8) Zy rfl rfl rfl rfl hO8.len hO8.ok (Yb (n:=36) rfl hO8.len)<|Za<|Zf<|Zf ?_))
 obtain ⟨ks2,cv2,es,es',k1,k2,k3,k4,rfl,hk2,hn2,ho1,ho2,ho3,ho4,rfl,hlK,hlC⟩:=OT_mk.1 hO8
 refine ZD (M':=[(BX b9 (pkT kind num ref ks2 cv2) 51),k1,k2,k3,k4,(BX b2 (pkT 0 0 zS nS nS) 51),(BX b1 (pkT kind num ref ks cv) 51)]) (Sub.flat Sub.refl (by simp))<|Zd<|JAn rfl<|Zh<|Zv (fun k ρ M=>∃ (j:Nat) (es5:List (List Value)) (k5 ca5 c05:Zi),ZR ρ [(1,vb),(2,vs),(3,pp b1 0),(6,pp b2 0),(7,pp b9 0),(8,iv ((j:Int)))]=ρ∧Sub [(BX b9 (pkT kind num ref ks2 cv2) 51),k5,ca5,c05,k3,k4,(BX b2 (pkT 0 0 zS nS nS) 51),(BX b1 (pkT kind num ref ks cv) 51)] M∧j≤kids.length∧Own 51 36 ks2 es5 k5∧es5.length=kids.length∧OTs (YF b s (kids.take j)) (es5.take j) ca5∧OTs (kids.drop j) (es5.drop j) c05∧k=kids.length-j) _ ⟨0,es,k1,[],k2,Zj rfl,(Sk (Sk (Zcz (Sk (Sk (Sk (Sk (Sk Sub.nil)))))))),Nat.zero_le _,ho1,Xr ho2,(by simpa [YF] using OTs.nil),(by simpa using ho2),rfl⟩ ?_
 rintro _ ρ10 _ ⟨j,es5,k5,ca5,c05,e11,hm17,hj,ho5,hl5,hd5,hr5,rfl⟩
 obtain ⟨ρ18,rfl⟩:=Zo e11
 clear e11
 refine ZD hm17 ?_
 have hlen:=hks.le
 refine Zf<|Zc<|JLM rfl<|JLq (pp b1 34) (Yd rfl rfl)<|JLr (Zb YZ rfl (Zcu 7 rfl) (Yh ..) ?_)
 obtain ⟨a19,cap19,hv19⟩:=hks.sl
 have hle19:=hks.le
 refine JLn (Zcv ZQ hv19)<|JLn (Pu.lss rfl rfl)<|Za<|ZF rfl (fun h20=>?_) (fun h20=>?_)
 ·have h20n:j<kids.length:=by omega
  have hs1:=Ym _ (getElem_mem h20n)
  obtain ⟨e5,kc5,c5,hE5,hO5,rfl,hR5⟩:=OTs.take hr5 h20n
  refine ZD (M':=[(BX b9 (pkT kind num ref ks2 cv2) 51),k5,ca5,kc5,c5,k3,k4,(BX b2 (pkT 0 0 zS nS nS) 51),(BX b1 (pkT kind num ref ks cv) 51)]) (Sub.flat Sub.refl (by simp))<|Zk<|Zf<|Zh<|ZI mixed #[0,1,0,0,8,0,56,120,0,0,1016,2047,4095] 11 (sm 40 11) [] [(10,fun _ _ vw qw=>∃ cs k,vw=.agg ⟨cs⟩∧qw=[k]∧OT (Yy b s (kids[j])) cs k)] rfl (by kernel_rfl) rfl (by kernel_rfl)<|Dq (pp b9 34) (fun _=>Yd rfl rfl)<|Dl1 YZ (Zcu 0 rfl) (Yh ..)<|DM (fun _=>rfl)<|Dq (pp b1 34) (fun _=>Yd rfl rfl)<|Dl1 YZ (Zcu 8 rfl) (Yh ..)<|DM (fun _=>rfl) ?_
  obtain ⟨b23,o23,cap23,row23,T23,fr23,cs23,hv23,hb23,hs23,hE23⟩:=hks.get j (by omega)
  refine Dn (fun _=>Zcw j ZQ Zy hv23 rfl rfl (by omega))<|Dl Zy (Zcx hb23) hs23<|Dm vb<|Dm vs ?_
  refine Dc rfl call47 (fun _=>rfl) (fun hin=>ih _ (getElem_mem h20n) _ _ _ _ (RT.mono (Hle.hu _ _) hE23) (RIs.mono (Hle.hu _ _) hb) (RSms.mono (Hle.hu _ _) hs) (by omega) (fun n hq=>hso n (by rw [sfR,if_neg hk7];exact mem_append.2 (.inl (GE h20n hq))))) ?_
  rintro _ _ ⟨cs24,k24,rfl,rfl,hO24⟩
  refine ZM (M':=[k24,(BX b9 (pkT kind num ref ks2 cv2) 51),k5,ca5,kc5,c5,k3,k4,(BX b2 (pkT 0 0 zS nS nS) 51),(BX b1 (pkT kind num ref ks cv) 51)]) rfl ?_
  show JL _ _ _ [_,_] _ _ _
  obtain ⟨b25,cap25,row25,hv25,hm25,hs25⟩:=ho5.at' hE5
  refine JLn (Zcw j ZQ Zy hv25 rfl rfl (by rw [hl5];exact h20n))<|JLr (Yu (i:=2) (j:=j) (b:=b25) Zy rfl ho5 ⟨_,_,hv25⟩ rfl (by rw [hl5];exact h20n) rfl rfl hO24.len hO24.ok fun k26 ho26=>Za<|Zd<|JLM rfl<|JLn (Zcy rfl rfl (by omega))<|JAn rfl<|⟨_,?_,(j+1),(es5.set j cs24),k26,(ca5++k24),c5,Zj rfl,(Sub.cons 1 rfl (Sub.cons 1 rfl (ZcF (Sub.cons 1 rfl (Sk (Sd (Sk (Sk (Sk (Sk (Sk Sub.nil))))))))))),?_,?_,?_,?_,?_,rfl⟩)
  ·omega
  ·omega
  ·exact ho26
  ·rw [length_set];exact hl5
  ·rw [LY b s kids j h20n,Mt hE5];exact OTs.snoc hO24 hd5
  exact hR5 _
 have h20n:kids.length≤j:=by omega
 refine Zu _ rfl<|Zf<|Zc<|JAn rfl<|Zh ?_
 rw [take_of_length_le h20n,take_of_length_le (by rw [hl5];exact h20n)] at hd5
 refine Zv (fun k ρ M=>∃ (j:Nat) (es7:List (List Value)) (k7 ca7 c07:Zi),ZR ρ [(1,vb),(2,vs),(3,pp b1 0),(6,pp b2 0),(7,pp b9 0),(9,iv ((j:Int)))]=ρ∧Sub [(BX b9 (pkT kind num ref ks2 cv2) 51),k7,ca7,c07,k5,ca5,c05,(BX b2 (pkT 0 0 zS nS nS) 51),(BX b1 (pkT kind num ref ks cv) 51)] M∧j≤cases.length∧Own 117 71 cv2 es7 k7∧es7.length=cases.length∧OCs (YC b s (cases.take j)) (es7.take j) ca7∧OCs (cases.drop j) (es7.drop j) c07∧k=cases.length-j) _ ⟨0,es',k3,[],k4,Zj rfl,(Sk (Sub.cons 3 rfl (Zcz (Sub.cons 3 rfl (Sk (Sk (Sk (Sk (Sk Sub.nil))))))))),Nat.zero_le _,ho3,UQ ho4,(by simpa [YC] using OCs.nil),(by simpa using ho4),rfl⟩ ?_
 rintro _ ρ27 _ ⟨j,es7,k7,ca7,c07,e28,hm34,hj,ho7,hl7,hd7,hr7,rfl⟩
 obtain ⟨ρ35,rfl⟩:=Zo e28
 clear e28
 refine ZD hm34 ?_
 have hlen:=hcv.le
 refine Zf<|Zc<|JLM rfl<|JLq (pp b1 35) (ZY rfl rfl)<|JLr (Zb YL rfl (Zcu 8 rfl) (Z3 ..) ?_)
 obtain ⟨a36,cap36,hv36⟩:=hcv.sl
 have hle36:=hcv.le
 refine JLn (Zcv Yz hv36)<|JLn (Pu.lss rfl rfl)<|Za<|ZF rfl (fun h37=>?_) (fun h37=>?_)
 ·have h37n:j<cases.length:=by omega
  have hs1:=Y1 _ (getElem_mem h37n)
  obtain ⟨ea7,eb7,ka7,kb7,c7,hE7,hA7,hB7,rfl,hR7⟩:=Zdq hr7 h37n
  refine ZD (M':=[(BX b9 (pkT kind num ref ks2 cv2) 51),k7,ca7,ka7,kb7,c7,k5,ca5,c05,(BX b2 (pkT 0 0 zS nS nS) 51),(BX b1 (pkT kind num ref ks cv) 51)]) (Sub.flat Sub.refl (by simp))<|Zk<|Zf<|Zh<|ZI mixed #[0,1,0,0,8,0,56,120,248,0,0,2040,4095,8191,16383] 12 (sm 59 12) [] [(11,fun _ _ vw qw=>∃ cs k,vw=.agg ⟨cs⟩∧qw=[k]∧OT (Yy b s (cases[j].2)) cs k)] rfl (by kernel_rfl) rfl (by kernel_rfl)<|Dq (pp b9 35) (fun _=>ZY rfl rfl)<|Dl1 YL (Zcu 0 rfl) (Z3 ..)<|DM (fun _=>rfl)<|Dq (pp b1 35) (fun _=>ZY rfl rfl)<|Dl1 YL (Zcu 10 rfl) (Z3 ..)<|DM (fun _=>rfl) ?_
  obtain ⟨b40,o40,cap40,row40,T40,fr40,cs40,hv40,hb40,hs40,hE40⟩:=hcv.get j (by omega)
  obtain ⟨ca40,cb40,rfl,hA40,hB40⟩:=hE40
  refine Dn (fun _=>Zcw j Yz Yg hv40 rfl rfl (by omega))<|Dq (pp b40 (o40+j*71+35)) (fun _=>YV rfl rfl)<|Dl Zy (Zcx hb40) (XS hs40 (XK (ZN hA40) (ZB hB40)))<|Dm vb<|Dm vs ?_
  refine Dc rfl call47 (fun _=>rfl) (fun hin=>ih' _ (getElem_mem h37n) _ _ _ _ (RT.mono (Hle.hu _ _) hB40) (RIs.mono (Hle.hu _ _) hb) (RSms.mono (Hle.hu _ _) hs) (by omega) (fun n hq=>hso n (by rw [sfR,if_neg hk7];exact mem_append.2 (.inr (GF h37n hq))))) ?_
  rintro _ _ ⟨cs41,k41,rfl,rfl,hO41⟩
  refine ZM (M':=[k41,(BX b9 (pkT kind num ref ks2 cv2) 51),k7,ca7,ka7,kb7,c7,k5,ca5,c05,(BX b2 (pkT 0 0 zS nS nS) 51),(BX b1 (pkT kind num ref ks cv) 51)]) rfl ?_
  show JL _ _ _ [_,_,_] _ _ _
  obtain ⟨b42,cap42,row42,hv42,hm42,hs42⟩:=ho7.at' hE7
  refine JLn (Zcw j Yz Yg hv42 rfl rfl (by rw [hl7];exact h37n))<|JLq (pp b42 (0+j*71+35)) (YV rfl rfl)<|JLr (Oc (i:=2) (j:=j) (b:=b42) (e:=ea7++eb7) (e2:=ea7++cs41) Zy rfl ho7 ⟨_,_,hv42⟩ rfl hE7 rfl rfl hO41.len hO41.ok (OA (n:=35) (i:=0) hA7.len (Yb (n:=36) hB7.len hO41.len)) (ZW hA7.len hO41.len) fun k43 ho43=>Za<|Zd<|JLM rfl<|JLn (Zcy rfl rfl (by omega))<|JAn rfl<|⟨_,?_,(j+1),(es7.set j (ea7++cs41)),k43,(ca7++(ka7++k41)),c7,Zj rfl,(Sub.cons 1 rfl (Sub.cons 1 rfl (ZcT (Sub.cons 1 rfl (Sub.cons 1 rfl (Sk (Sd (Sk (Sk (Sk (Sk (Sk (Sk Sub.nil))))))))))))),?_,?_,?_,?_,?_,rfl⟩)
  ·omega
  ·omega
  ·exact ho43
  ·rw [length_set];exact hl7
  ·rw [LZ b s cases j h37n,Mt hE7];exact OCs.snoc hA7 hO41 hd7
  exact hR7 _
 have h37n:cases.length≤j:=by omega
 refine Zu _ rfl<|Zc<|JLr (Zn Zy rfl (Zcu 0 rfl) (YH ..)<|JLr (Ze 7 (vs:=pkT kind num ref ks2 cv2) (l:=pkT kind num ref ks2 cv2) Zy rfl rfl rfl rfl rfl (Ys ho5.one ho7.one) (Xo ..)<|Za<|ZH<|⟨.agg ⟨pkT kind num ref ks2 cv2⟩,[k5++(ca5++(k7++ca7))],Ret.one rfl (RV.cell Zy rfl (Zcu 7 rfl) (YH ..)),(ZcQ (Sd (Sub.cons 3 rfl (Sub.cons 3 rfl (Sk (Sk Sub.nil)))))),?_⟩))
 rw [take_of_length_le h37n,take_of_length_le (by rw [hl7];exact h37n)] at hd7
 rw [Yy,if_neg hk7]
 exact ⟨_,_,rfl,rfl,OT_mk.2 ⟨_,_,_,_,_,_,_,_,rfl,hk2,hn2,ho5,hd5,ho7,hd7,rfl,by rw [OJ];exact hlK,by rw [OK];exact hlC⟩⟩
set_option maxHeartbeats 4000000 in
theorem HE (l:List Tm) (v:Value) (H:Heap) (hv:Hs.rdS RT 36 H v l) (hn8:l.length≤8) (hz:∀ t∈l,sizeT t≤400000) (hs:∀ t∈l,∀ x∈sfR t,0≤x∧x<(l.length:Int)):CT prog 87 ⟨[v]⟩ [] H (fun r N=>∃ k,N=[k]∧Own 3 1 r (Z2 (frI l)) k):=by
 have hlen:=hv.le
 refine Zl func87 rfl rfl<|Zc<|JAn rfl<|Zc<|JLm v ?_
 obtain ⟨a1,cap1,hv1⟩:=hv.sl
 have hle1:=hv.le
 refine JLn (Zcv ZQ hv1)<|JAn rfl<|Zc<|JLM rfl<|JLr (WM (l.length) ZV el3 rfl rfl rfl rfl (by omega) (by omega) fun v2 k2 ho2=>?_)
 rw [PD] at ho2
 refine JLa v2<|Za<|Zc<|JLM rfl<|JLr (Qm (Tb:=4) l.length Vz ZbP rfl rfl rfl rfl (by omega) fun b3=>JAn rfl<|Zf<|Zc<|JLA rfl<|Za ?_)
 refine Zh<|Zv (fun k ρ M=>∃ (j:Nat) (bs4:List (Option Nat)) (rs4:List (List Bool)),ZR ρ [(0,v),(2,nS),(3,iv ((l.length:Int))),(4,v2),(5,.slice (some ⟨b3,0,none⟩) l.length l.length),(6,iv ((j:Int)))]=ρ∧Sub [mxC 78 4 l.length b3 bs4 rs4,k2] M∧j≤l.length∧MxP bs4 rs4 l.length j (apA l j 0)∧k=l.length-j) _ ⟨0,(replicate l.length none),(replicate l.length []),Zj rfl,(Sk (Sk Sub.nil)),Nat.zero_le _,(Zdj _ _),rfl⟩ ?_
 rintro _ ρ5 _ ⟨j,bs4,rs4,e6,hm12,hj,hmx4,rfl⟩
 obtain ⟨ρ13,rfl⟩:=Zo e6
 clear e6
 refine ZD hm12<|Zf<|Zc<|JLM rfl<|JLM rfl<|JLn (Pu.lss rfl rfl)<|Za<|ZF rfl (fun h14=>?_) (fun h14=>?_)
 ·have h14n:j<l.length:=by omega
  have hjl:=h14n
  refine Zk<|Zf<|Zh<|Zc<|JLM rfl<|JLM rfl<|JLM rfl<|JLr (Uq (l.length) W4 el4 rfl rfl (by omega) (by omega) (by omega) (by omega) fun b15 k15 _ hk15=>?_)
  obtain rfl:k15=(BX b15 (bls (replicate (l.length) false)) 4):=hk15.trans (congrArg (fun y=>[(b15,Obj.cells ⟨y⟩ 4 (0,0))]) (Mc _))
  refine JLn (Zcw j Vz XB rfl rfl rfl (by omega))<|JLr (Qn 0 XB rfl hmx4.hl (hmx4.non j (by omega) (by omega)) rfl rfl<|Za<|Zc<|JAn rfl<|Zh<|Zv (fun k ρ M=>∃ (p:Nat) (bs16:List (Option Nat)) (rs16:List (List Bool)),ZR ρ [(0,v),(2,nS),(3,iv ((l.length:Int))),(4,v2),(5,.slice (some ⟨b3,0,none⟩) l.length l.length),(6,iv ((j:Int))),(7,iv ((p:Int)))]=ρ∧Sub [mxC 78 4 l.length b3 bs16 rs16,k2] M∧p≤l.length∧MxP bs16 rs16 l.length (j+1) (apA l j p)∧j<l.length∧k=l.length-p) _ ⟨0,(List.set bs4 j (some b15)),(List.set rs4 j (replicate (l.length) false)),Zj rfl,(Sk (Sk Sub.nil)),Nat.zero_le _,(hmx4.fill hjl (fun q hq=>by simp [apA]) (fun a ha q hq=>by simp [apA,ha])),hjl,rfl⟩ ?_)
  rintro _ ρ17 _ ⟨p,bs16,rs16,e18,hm25,hp,hmx16,hjl,rfl⟩
  obtain ⟨ρ26,rfl⟩:=Zo e18
  clear e18
  refine ZD hm25<|Zf<|Zc<|JLM rfl<|JLM rfl<|JLn (Pu.lss rfl rfl)<|Za<|ZF rfl (fun h27=>?_) (fun h27=>?_)
  ·have h27n:p<l.length:=by omega
   have hpl:=h27n
   refine Zk<|Zf<|Zh<|ZI mixed #[0,0,3,7,0,0,0,96,224,0,992,0,0,6144,14336,0,65504,131040,262112,524287,1048575] 19 (sm 38 19) [] [(10,fun _ _ vw qw=>∃ cs k,vw=.agg ⟨cs⟩∧qw=[k]∧OT (Yy (replicate l.length 0) [] (l[j])) cs k),(16,fun _ _ vw qw=>∃ cs k,vw=.agg ⟨cs⟩∧qw=[k]∧OT (Yy (replicate l.length 0) [] (l[p])) cs k),(17,fun _ _ vw qw=>vw=.bool (decide ((Yy (replicate l.length 0) [] (l[j]))=(Yy (replicate l.length 0) [] (l[p]))))∧qw=[])] rfl (by kernel_rfl) rfl (by kernel_rfl)<|DM (fun _=>rfl)<|DM (fun _=>rfl) ?_
   refine Dn (fun _=>Zcw j Vz XB rfl rfl rfl (by omega)) ?_
   obtain ⟨q33,hq33⟩:=hmx16.row j (by omega)
   have hr33:=hmx16.len j (by omega)
   refine Dl1 XB (ZcD 0 rfl mem_cons_self) (XH hq33)<|DM (fun _=>rfl)<|Dm v<|DM (fun _=>rfl) ?_
   obtain ⟨b34,o34,cap34,row34,T34,fr34,cs34,hv34,hb34,hs34,hE34⟩:=hv.get j (by first | assumption | omega | decide | simp)
   refine Dn (fun _=>Zcw j ZQ Zy hv34 rfl rfl (by first | assumption | omega | decide | simp))<|Dl Zy (Zcx hb34) hs34<|Dm v2 ?_
   refine Dc rfl call47 (fun _=>rfl) (fun hin=>Sv (replicate l.length 0) [] _ _ _ _ _ (RT.mono (Hle.hu _ _) hE34) (Yn ho2 (by simp;omega) (hin 1 _ rfl)) Hs.rdS.nil (by have:=hz _ (getElem_mem hjl);omega) (Su hs [] (getElem_mem hjl))) ?_
   rintro _ _ ⟨cs35,k35,rfl,rfl,hO35⟩
   refine Dm v<|DM (fun _=>rfl) ?_
   obtain ⟨b36,o36,cap36,row36,T36,fr36,cs36,hv36,hb36,hs36,hE36⟩:=hv.get p (by first | assumption | omega | decide | simp)
   refine Dn (fun _=>Zcw p ZQ Zy hv36 rfl rfl (by first | assumption | omega | decide | simp))<|Dl Zy (Zcx hb36) hs36<|Dm v2 ?_
   refine Dc rfl call47 (fun _=>rfl) (fun hin=>Sv (replicate l.length 0) [] _ _ _ _ _ (RT.mono (Hle.hu _ _) hE36) (Yn ho2 (by simp;omega) (hin 2 _ rfl)) Hs.rdS.nil (by have:=hz _ (getElem_mem hpl);omega) (Su hs [] (getElem_mem hpl))) ?_
   rintro _ _ ⟨cs37,k37,rfl,rfl,hO37⟩
   refine Dc rfl call140 (fun _=>rfl) (fun hin=>GN _ _ _ _ _ (hO35.rd (hin 1 _ rfl)) (hO37.rd (hin 0 _ rfl))) ?_
   rintro _ _ ⟨rfl,rfl⟩
   refine Dn (fun _=>Pu.not rfl)<|ZM (M':=[k37,k35,mxC 78 4 l.length b3 bs16 rs16,k2]) rfl ?_
   show JL _ _ _ [_,_] _ _ _
   refine JLn (Zcw p W4 ty4 rfl rfl rfl (by omega))<|JLr (XW 2 ty4 rfl hmx16.hl hq33 (by rw [hr33];omega) rfl rfl<|Za<|Zd<|JLM rfl<|JLn (Zcy rfl rfl (by omega))<|JAn rfl<|⟨_,?_,(p+1),bs16,(Vv rs16 j p (!(decide ((Yy (replicate l.length 0) [] (l[j]))=(Yy (replicate l.length 0) [] (l[p])))))),Zj rfl,(Sd (Sd (Sk (Sk Sub.nil)))),?_,?_,?_,rfl⟩)
   ·omega
   ·omega
   ·exact hmx16.set (by omega) (by omega) hpl (Dd hjl hpl)
   exact hjl
  have h27n:l.length≤p:=by omega
  refine Zu _ rfl<|Zd<|JLM rfl<|JLn (Zcy rfl rfl (by omega))<|JAn rfl<|⟨_,?_,(j+1),bs16,rs16,Zj rfl,(Sk (Sk Sub.nil)),?_,?_,rfl⟩
  ·omega
  ·omega
  exact hmx16.same (BK (by omega))
 have h14n:l.length≤j:=by omega
 refine Zu _ rfl<|Zf<|Zc<|JAn rfl<|Zh<|Zv (fun k ρ M=>∃ (moreA:Bool) (bsA:List (Option Nat)) (rsA:List (List Bool)),ZR ρ [(0,v),(2,nS),(3,iv ((l.length:Int))),(5,.slice (some ⟨b3,0,none⟩) l.length l.length),(8,.bool moreA)]=ρ∧Sub [mxC 78 4 l.length b3 bsA rsA,k2] M∧MxP bsA rsA l.length l.length (YN rsA)∧apI l rsA∧(moreA=false→∀ a,a<l.length→∀ q,q<l.length→Db l rsA a q)∧k=(if moreA then N8 l.length rsA+1 else 0)) _ ⟨true,bs4,rs4,Zj rfl,(Sk (Sk Sub.nil)),(hmx4.full (by omega) (fun _ _ _ _=>rfl)).self,(BJ (by omega) rfl (hmx4.full (by omega) (fun _ _ _ _=>rfl))),(fun h=>Bool.noConfusion h),rfl⟩ ?_
 rintro _ ρ38 _ ⟨moreA,bsA,rsA,e39,hm44,hmxA,hapA,hclA,rfl⟩
 obtain ⟨ρ45,rfl⟩:=Zo e39
 clear e39
 refine ZD hm44<|Zf<|Zc<|JLM rfl<|Za<|Zs rfl (fun h46=>?_) (fun h46=>?_)
 ·refine Zk<|Zh<|Zc<|JAn rfl<|Zc<|JAn rfl<|Zh<|Zv (fun k ρ M=>∃ (i:Nat) (moreB:Bool) (bsB:List (Option Nat)) (rsB:List (List Bool)),ZR ρ [(0,v),(2,nS),(3,iv ((l.length:Int))),(5,.slice (some ⟨b3,0,none⟩) l.length l.length),(8,.bool moreB),(9,iv ((i:Int)))]=ρ∧Sub [mxC 78 4 l.length b3 bsB rsB,k2] M∧MxP bsB rsB l.length l.length (YN rsB)∧i≤l.length∧moreA=true∧apR l rsA rsB moreB i 0∧k=l.length-i) _ ⟨0,false,bsA,rsA,Zj rfl,(Sk (Sk Sub.nil)),hmxA.self,Nat.zero_le _,h46,(apR.beg hapA),rfl⟩ ?_
  rintro _ ρ47 _ ⟨i,moreB,bsB,rsB,e48,hm54,hmxB,hi,hmore,hrB,rfl⟩
  obtain ⟨ρ55,rfl⟩:=Zo e48
  clear e48
  refine ZD hm54<|Zf<|Zc<|JLM rfl<|JLM rfl<|JLn (Pu.lss rfl rfl)<|Za<|ZF rfl (fun h56=>?_) (fun h56=>?_)
  ·have h56n:i<l.length:=by omega
   have hil:=h56n
   refine Zk<|Zf<|Zh<|Zc<|JAn rfl<|Zh<|Zv (fun k ρ M=>∃ (q:Nat) (moreC:Bool) (bsC:List (Option Nat)) (rsC:List (List Bool)),ZR ρ [(0,v),(2,nS),(3,iv ((l.length:Int))),(5,.slice (some ⟨b3,0,none⟩) l.length l.length),(8,.bool moreC),(9,iv ((i:Int))),(10,iv ((q:Int)))]=ρ∧Sub [mxC 78 4 l.length b3 bsC rsC,k2] M∧MxP bsC rsC l.length l.length (YN rsC)∧q≤l.length∧i<l.length∧apR l rsA rsC moreC i q∧k=l.length-q) _ ⟨0,moreB,bsB,rsB,Zj rfl,(Sk (Sk Sub.nil)),hmxB.self,Nat.zero_le _,hil,hrB,rfl⟩ ?_
   rintro _ ρ57 _ ⟨q,moreC,bsC,rsC,e58,hm65,hmxC,hq,hil,hrC,rfl⟩
   obtain ⟨ρ66,rfl⟩:=Zo e58
   clear e58
   refine ZD hm65<|Zf<|Zc<|JLM rfl<|JLM rfl<|JLn (Pu.lss rfl rfl)<|Za<|ZF rfl (fun h67=>?_) (fun h67=>?_)
   ·have h67n:q<l.length:=by omega
    have hql:=h67n
    refine Zk<|Zf<|Zh<|Zf<|Zc<|JLM rfl<|JLM rfl<|JLn (Zcw i Vz XB rfl rfl rfl (by omega)) ?_
    obtain ⟨q68,hq68⟩:=hmxC.row i (by omega)
    have hr68:=hmxC.len i (by omega)
    refine JLr (Zb XB rfl (ZcD 0 rfl mem_cons_self) (XH hq68)<|JLM rfl<|JLn (Zcw q W4 ty4 rfl rfl rfl (by omega))<|JLr (Zb ty4 rfl (ZcD 0 rfl (X6 hmxC.hl hq68)) (YA (by rw [hr68];omega))<|Za<|Zs (b:=YN rsC i q) rfl (fun h69=>?_) (fun h69=>?_)))
    ·refine Zu _ rfl<|Zd<|JLM rfl<|JLn (Zcy rfl rfl (by omega))<|JAn rfl<|⟨_,?_,(q+1),moreC,bsC,rsC,Zj rfl,(Sk (Sk Sub.nil)),?_,?_,?_,?_,rfl⟩
     ·omega
     ·exact hmxC.self
     ·omega
     ·exact hil
     first | exact hrC.skip h69 | exact hrD.toapR.skip (by assumption) | exact hrD.fin (by rw [Ru hil];omega)
    refine Zk<|Zf ?_
    have hzi:=hz _ (getElem_mem hil)
    have hzq:=hz _ (getElem_mem hql)
    refine ZI mixed #[0,0,3,7,15,0,0,96,224,511,1023,2047] 9 (sm 76 9) [] [(4,fun _ _ vw qw=>∃ k,qw=[k]∧Own 3 1 vw (Z2 (sfR (l[i]))) k)] rfl (by kernel_rfl) rfl (by kernel_rfl)<|Dm v<|DM (fun _=>rfl) ?_
    obtain ⟨b73,o73,cap73,row73,T73,fr73,cs73,hv73,hb73,hs73,hE73⟩:=hv.get i (by first | assumption | omega | decide | simp)
    refine Dn (fun _=>Zcw i ZQ Zy hv73 rfl rfl (by first | assumption | omega | decide | simp))<|Dl Zy (Zcx hb73) hs73 ?_
    refine Dc rfl call88 (fun _=>rfl) (fun hin=>St _ _ _ (RT.mono (Hle.hu _ _) hE73) (by omega)) ?_
    rintro v74 _ ⟨k74,rfl,ho74⟩
    refine Dm v<|DM (fun _=>rfl) ?_
    obtain ⟨b75,o75,cap75,row75,T75,fr75,cs75,hv75,hb75,hs75,hE75⟩:=hv.get q (by first | assumption | omega | decide | simp)
    refine Dn (fun _=>Zcw q ZQ Zy hv75 rfl rfl (by first | assumption | omega | decide | simp))<|Dl Zy (Zcx hb75) hs75<|ZM (M':=[k74,mxC 78 4 l.length b3 bsC rsC,k2]) rfl ?_
    show JL _ _ _ [_,_,_] _ _ _
    refine Jc call88 rfl (fun hin=>St _ _ _ (RT.mono (Hle.hu _ _) hE75) (by omega)) rfl ?_
    rintro v76 _ ⟨k76,rfl,ho76⟩
    refine JLa v74<|JLa v76<|Za<|Zc<|JAn rfl<|Zh<|Zv (fun k ρ M=>∃ (p:Nat) (moreD:Bool) (bsD:List (Option Nat)) (rsD:List (List Bool)),ZR ρ [(0,v),(2,nS),(3,iv ((l.length:Int))),(5,.slice (some ⟨b3,0,none⟩) l.length l.length),(8,.bool moreD),(9,iv ((i:Int))),(10,iv ((q:Int))),(11,v74),(12,v76),(13,iv ((p:Int)))]=ρ∧Sub [mxC 78 4 l.length b3 bsD rsD,k76,k74,k2] M∧MxP bsD rsD l.length l.length (YN rsD)∧p≤(sfR l[i]).length∧i<l.length∧q<l.length∧(sfR l[i]).length=(sfR l[q]).length∧apJ l rsA rsD moreD i q p∧k=(sfR l[i]).length-p) _ ⟨0,moreC,bsC,rsC,Zj rfl,(Sub.cons 2 rfl (Sk (Sk (Sk Sub.nil)))),hmxC.self,Nat.zero_le _,hil,hql,(by have z:=WO hs (hrC.inv.2 i hil q hql h69);rw [Ru hil,Ru hql] at z;exact z),(apJ.beg hrC hil hql h69),rfl⟩ ?_
    rintro _ ρ77 _ ⟨p,moreD,bsD,rsD,e78,hm88,hmxD,hp,hil,hql,hsl,hrD,rfl⟩
    obtain ⟨ρ89,rfl⟩:=Zo e78
    clear e78
    refine ZD hm88<|Zf<|Zc<|JLM rfl<|JLm v74 ?_
    obtain ⟨a90,cap90,hv90⟩:=ho74.sl
    rw [Zt] at hv90
    refine JLn (Zcv ZV hv90)<|JLn (Pu.lss rfl rfl)<|Za<|ZF rfl (fun h91=>?_) (fun h91=>?_)
    ·have h91n:p<(sfR (l[i])).length:=by omega
     have hzi:=hz _ (getElem_mem hil)
     have hsz:=VF l[i]
     have hpl:=h91n
     have hpl2:p<(sfR l[q]).length:=by omega
     have hpx:=hs _ (getElem_mem hil) _ (getElem_mem hpl)
     have hpy:=hs _ (getElem_mem hql) _ (getElem_mem hpl2)
     refine Zk<|Zf<|Zh<|Zf<|ZI mixed #[0,0,0,6,14,31,63,0,0,384,896,2047,4095] 11 (sm 92 11) [] [] rfl (by kernel_rfl) rfl (by kernel_rfl)<|DM (fun _=>rfl)<|Dm v74<|DM (fun _=>rfl) ?_
     obtain ⟨b95,cap95,row95,hv95,hm95,hs95⟩:=ho74.at (j:=p) (by rw [Zt];first | assumption | omega)
     rw [Z9 _ _ (by first | assumption | omega)] at hs95
     refine Dn (fun _=>Zcw p ZV ty3 hv95 rfl rfl (by rw [Zt];first | assumption | omega))<|Dl1 ty3 (ZcD 2 rfl hm95) (ZT hs95) ?_
     refine Dq (pp b3 (0+((sfR (l[i]))[p]).toNat*1)) (fun _=>Zcw ((sfR (l[i]))[p]).toNat Vz XB rfl rfl (by omega) (by omega)) ?_
     obtain ⟨q96,hq96⟩:=hmxD.row ((sfR (l[i]))[p]).toNat (by omega)
     have hr96:=hmxD.len ((sfR (l[i]))[p]).toNat (by omega)
     refine Dl1 XB (ZcD 0 rfl mem_cons_self) (XH hq96)<|Dm v76<|DM (fun _=>rfl) ?_
     obtain ⟨b97,cap97,row97,hv97,hm97,hs97⟩:=ho76.at (j:=p) (by rw [Zt];first | assumption | omega)
     rw [Z9 _ _ (by first | assumption | omega)] at hs97
     refine Dn (fun _=>Zcw p ZV ty3 hv97 rfl rfl (by rw [Zt];first | assumption | omega))<|Dl1 ty3 (ZcD 1 rfl hm97) (ZT hs97)<|ZM (M':=[mxC 78 4 l.length b3 bsD rsD,k76,k74,k2]) rfl ?_
     show JL _ _ _ [_,_] _ _ _
     refine JLq (pp q96 (0+((sfR (l[q]))[p]).toNat*1)) (Zcw ((sfR (l[q]))[p]).toNat W4 ty4 rfl rfl (by omega) (by omega))<|JLr (Zb ty4 rfl (ZcD 0 rfl (X6 hmxD.hl hq96)) (YA (by rw [hr96];omega))<|Za<|Zs (b:=YN rsD ((sfR (l[i]))[p]).toNat ((sfR (l[q]))[p]).toNat) rfl (fun h98=>?_) (fun h98=>?_))
     ·refine Zd<|JLM rfl<|JLM rfl<|JLn (Zcw i Vz XB rfl rfl rfl (by omega)) ?_
      obtain ⟨q99,hq99⟩:=hmxD.row i (by omega)
      have hr99:=hmxD.len i (by omega)
      refine JLr (Zb XB rfl (ZcD 0 rfl mem_cons_self) (XH hq99)<|JLM rfl<|JLn (Zcw q W4 ty4 rfl rfl rfl (by omega))<|JLr (XW 0 ty4 rfl hmxD.hl hq99 (by rw [hr99];omega) rfl rfl<|JAn rfl<|Zd<|JLM rfl<|JLn (Zcy rfl rfl (by omega))<|JAn rfl<|⟨_,?_,(p+1),true,bsD,(Vv rsD i q true),Zj rfl,(Sk (Sk (Sk (Sk Sub.nil)))),?_,?_,?_,?_,?_,?_,rfl⟩))
      ·omega
      ·exact (hmxD.setS (by omega) (by omega))
      ·omega
      ·exact hil
      ·exact hql
      ·exact hsl
      first | exact hrD.yes hs hmxD hil hql (by rw [Ru hil];omega) (by rw [U4 hil hpl,U4 hql hpl2];exact h98) | exact hrD.no (by rw [U4 hil hpl,U4 hql hpl2];exact h98)
     refine Zk<|Zd<|JLM rfl<|JLn (Zcy rfl rfl (by omega))<|JAn rfl<|⟨_,?_,(p+1),moreD,bsD,rsD,Zj rfl,(Sk (Sk (Sk (Sk Sub.nil)))),?_,?_,?_,?_,?_,?_,rfl⟩
     ·omega
     ·exact hmxD.self
     ·omega
     ·exact hil
     ·exact hql
     ·exact hsl
     first | exact hrD.yes hs hmxD hil hql (by rw [Ru hil];omega) (by rw [U4 hil hpl,U4 hql hpl2];exact h98) | exact hrD.no (by rw [U4 hil hpl,U4 hql hpl2];exact h98)
    have h91n:(sfR (l[i])).length≤p:=by omega
    refine Zu _ rfl<|Zd<|JLM rfl<|JLn (Zcy rfl rfl (by omega))<|JAn rfl<|⟨_,?_,(q+1),moreD,bsD,rsD,Zj rfl,(Sk (Sd (Sd (Sk Sub.nil)))),?_,?_,?_,?_,rfl⟩
    ·omega
    ·exact hmxD.self
    ·omega
    ·exact hil
    first | exact hrC.skip h91 | exact hrD.toapR.skip (by assumption) | exact hrD.fin (by rw [Ru hil];omega)
   have h67n:l.length≤q:=by omega
   refine Zu _ rfl<|Zd<|JLM rfl<|JLn (Zcy rfl rfl (by omega))<|JAn rfl<|⟨_,?_,(i+1),moreC,bsC,rsC,Zj rfl,(Sk (Sk Sub.nil)),?_,?_,?_,?_,rfl⟩
   ·omega
   ·exact hmxC.self
   ·omega
   ·exact hmore
   exact hrC.row (by omega)
  have h56n:l.length≤i:=by omega
  refine Zu _ rfl<|⟨_,?_,moreB,bsB,rsB,Zj rfl,(Sk (Sk Sub.nil)),?_,?_,?_,rfl⟩
  ·rw [if_pos hmore];split;(have:=hrB.lt (by assumption);omega);omega
  ·exact hmxB.self
  ·exact hrB.inv
  exact hrB.cl (by omega)
 refine Zu _ rfl<|Zc<|JAn rfl<|Zf<|Zc<|JAn rfl<|Zh<|Zv (fun k ρ M=>∃ (i:Nat) (y7:Value) (q7:Zi),ZR ρ [(2,nS),(3,iv ((l.length:Int))),(5,.slice (some ⟨b3,0,none⟩) l.length l.length),(14,y7),(15,iv ((i:Int)))]=ρ∧Sub [q7,mxC 78 4 l.length b3 bsA rsA] M∧i≤l.length∧Own 3 1 y7 (Z2 ((frI l).take i)) q7∧k=l.length-i) _ ⟨0,nS,[],Zj rfl,(Zcz (Sk Sub.nil)),Nat.zero_le _,(show Own 3 1 _ (Z2 []) [] from Own.nil),rfl⟩ ?_
 rintro _ ρ100 _ ⟨i,y7,q7,e101,hm106,hi,how7,rfl⟩
 obtain ⟨ρ107,rfl⟩:=Zo e101
 clear e101
 refine ZD hm106 ?_
 have hcl:=hclA (by simpa using h46)
 refine Zf<|Zc<|JLM rfl<|JLM rfl<|JLn (Pu.lss rfl rfl)<|Za<|ZF rfl (fun h108=>?_) (fun h108=>?_)
 ·have h108n:i<l.length:=by omega
  have hil:=h108n
  refine Zk<|Zf<|Zh<|Zc<|JAn rfl<|Zf<|Zh<|Zv (fun k ρ M=>∃ (f:Nat),ZR ρ [(2,nS),(3,iv ((l.length:Int))),(5,.slice (some ⟨b3,0,none⟩) l.length l.length),(14,y7),(15,iv ((i:Int))),(16,iv ((f:Int)))]=ρ∧Sub [q7,mxC 78 4 l.length b3 bsA rsA] M∧i<l.length∧f≤i∧(∀ a,a<f→YN rsA i a=true)∧k=l.length-f) _ ⟨0,Zj rfl,(Sk (Sk Sub.nil)),(by omega),Nat.zero_le _,(fun a ha=>absurd ha (by omega)),rfl⟩ ?_
  rintro _ ρ109 _ ⟨f,e110,hm116,hi2,hfi,hft,rfl⟩
  obtain ⟨ρ117,rfl⟩:=Zo e110
  clear e110
  refine ZD hm116<|Zf<|Zc<|JLM rfl<|JLM rfl<|JLn (Zcw i Vz XB rfl rfl rfl (by omega)) ?_
  obtain ⟨q118,hq118⟩:=hmxA.row i (by omega)
  have hr118:=hmxA.len i (by omega)
  refine JLr (Zb XB rfl (ZcD 1 rfl mem_cons_self) (XH hq118)<|JLM rfl<|JLn (Zcw f W4 ty4 rfl rfl rfl (by omega))<|JLr (Zb ty4 rfl (ZcD 1 rfl (X6 hmxA.hl hq118)) (YA (by rw [hr118];omega))<|Za<|Zs (b:=YN rsA i f) rfl (fun h119=>?_) (fun h119=>?_)))
  ·refine Zk<|Zh<|Zd<|JLM rfl<|JLn (Zcy rfl rfl (by omega))<|JAn rfl<|⟨_,?_,(f+1),Zj rfl,(Sk (Sk Sub.nil)),?_,?_,?_,rfl⟩
   ·omega
   ·omega
   ·have hne:f≠i:=by intro q;subst q;have z:=BI hapA hi2;rw [h119] at z;cases z
    omega
   exact fun a ha=>(Nat.lt_or_ge a f).elim (hft a) fun z=>(show a=f by omega)▸h119
  refine Zu _ rfl<|Zd<|JLm y7<|JLM rfl<|JLr (Zm (vs:=[iv ((f:Int))]) [[iv ((f:Int))]] ZV el3 rfl rfl (al1 rfl) rfl (by decide) fun b120 k120 ho120 hk120=>?_)
  have hlens121:∀ e∈([[iv ((f:Int))]]:List (List Value)),List.length e=1:=al1 rfl
  have hoks121:∀ e∈([[iv ((f:Int))]]:List (List Value)),okc e:=al1 (Zg rfl Zq)
  refine JLr (Zz (i:=1) (n:=1) (es':=[[iv ((f:Int))]]) ZV ZV (Or.inl rfl) el3 rfl rfl rfl how7 (fun F w m=>Src.row (((ZcD 0 rfl (by rw [hk120];exact mem_cons_self))).heap m) (ZE (Zw hlens121))) rfl hlens121 hoks121 (by decide) (by rw [Zt,length_take];omega) fun v121 k121 ho121=>JLa v121<|Za<|Zd<|JLM rfl<|JLn (Zcy rfl rfl (by omega))<|JAn rfl<|⟨_,?_,(i+1),v121,k121,Zj rfl,(Sd (Sk (Sk Sub.nil))),?_,?_,rfl⟩)
  ·omega
  ·omega
  rw [Eh (by omega) (E9 hs hapA hcl (by omega) hfi hft h119)];rw [WI];exact ho121
 have h108n:l.length≤i:=by omega
 refine Zu _ rfl<|Zc<|JLm y7<|JLa y7<|Za<|ZC y7 [q7] (Sk Sub.nil) (?_)
 have z:=how7;rw [take_of_length_le (by rw [Yw];omega)] at z
 exact ⟨_,rfl,z⟩
set_option maxHeartbeats 2000000 in
theorem FK (l:List Tm) (v:Value) (H:Heap) (hv:Hs.rdS RT 36 H v l) (hn8:l.length≤8) (hz:∀ t∈l,sizeT t≤400000) (hs:∀ t∈l,∀ x∈sfR t,0≤x∧x<(l.length:Int)):CT prog 42 ⟨[v]⟩ [] H (fun r N=>∃ v1 v2 k1 k2,r=.tuple ⟨[v1,v2]⟩∧N=[k1,k2]∧OL (mkL l) v1 k1∧Own 3 1 v2 (Z2 (frI l)) k2):=by
 have hlen:=hv.le
 refine Zl func42 rfl rfl<|Zc<|JLA rfl<|JAn rfl<|Zc<|JLm v<|Jc call87 rfl (fun hin=>HE _ _ _ (RTs.mono (Hle.hu _ _) hv) hn8 hz hs) rfl ?_
 rintro v1 _ ⟨k1,rfl,ho1⟩
 refine JLa v1<|Za<|Zc<|JAn rfl<|Zf<|Zc<|JAn rfl<|Zh<|Zv (fun k ρ M=>∃ (j:Nat) (y2:Value) (es2:List (List Value)) (qr2 qt2:Zi),ZR ρ [(0,v),(2,nS),(3,nS),(4,v1),(5,y2),(6,iv ((j:Int)))]=ρ∧Sub [qr2,qt2,k1] M∧j≤l.length∧Own 51 36 y2 es2 qr2∧OTs ((mkL l).take j) es2 qt2∧k=l.length-j) _ ⟨0,nS,[],[],[],Zj rfl,(Zcz (Zcz (Sk Sub.nil))),Nat.zero_le _,Own.nil,(by simpa using OTs.nil),rfl⟩ ?_
 rintro _ ρ3 _ ⟨j,y2,es2,qr2,qt2,e4,hm10,hj,ho2,ht2,rfl⟩
 obtain ⟨ρ11,rfl⟩:=Zo e4
 clear e4
 refine ZD hm10 ?_
 have hel2:=Xr ht2
 rw [length_take] at hel2
 refine Zf<|Zc<|JLM rfl<|JLm v ?_
 obtain ⟨a12,cap12,hv12⟩:=hv.sl
 have hle12:=hv.le
 refine JLn (Zcv ZQ hv12)<|JLn (Pu.lss rfl rfl)<|Za<|ZF rfl (fun h13=>?_) (fun h13=>?_)
 ·have h13n:j<l.length:=by omega
  refine Zk<|Zf<|Zh<|Zd<|JLm y2<|JLm v<|JLM rfl ?_
  obtain ⟨b14,o14,cap14,row14,T14,fr14,cs14,hv14,hb14,hs14,hE14⟩:=hv.get j (by omega)
  refine JLn (Zcw j ZQ Zy hv14 rfl rfl (by omega))<|JLr (Zn Zy rfl (Zcx hb14) hs14<|JLm v1<|Jc call47 rfl (fun hin=>Sv (frI l) [] _ _ _ _ _ (RT.mono (Hle.hu _ _) hE14) (Yn ho1 (by rw [Yw];omega) (hin 2 _ rfl)) Hs.rdS.nil (by have:=hz _ (getElem_mem h13n);omega) (IL hs hn8 [] (getElem_mem h13n))) rfl ?_)
  rintro _ _ ⟨cs15,k15,rfl,rfl,hO15⟩
  refine JLr (Zm (vs:=[.agg ⟨cs15⟩]) [cs15] ZQ Wo rfl rfl (al1 hO15.len) rfl (by decide) fun b16 k16 ho16 hk16=>?_)
  have hlens17:∀ e∈([cs15]:List (List Value)),List.length e=36:=al1 hO15.len
  have hoks17:∀ e∈([cs15]:List (List Value)),okc e:=al1 hO15.ok
  refine JLr (Zz (i:=2) (n:=1) (es':=[cs15]) ZQ ZQ (Or.inl rfl) Wo rfl rfl rfl ho2 (fun F w m=>Src.row (((ZcD 0 rfl (by rw [hk16];exact mem_cons_self))).heap m) (ZE (Zw hlens17))) rfl hlens17 hoks17 (by decide) (by omega) fun v17 k17 ho17=>JLa v17<|Za<|Zd<|JLM rfl<|JLn (Zcy rfl rfl (by omega))<|JAn rfl<|⟨_,?_,(j+1),v17,(es2++[cs15]),k17,(qt2++k15),Zj rfl,(Sd (Sub.cons 1 rfl (ZcF (Sub.cons 1 rfl (Sk (Sk Sub.nil)))))),?_,?_,?_,rfl⟩)
  ·omega
  ·omega
  ·exact ho17
  rw [Pz h13n];exact OTs.snoc hO15 ht2
 have h13n:l.length≤j:=by omega
 refine Zu _ rfl<|Zc<|JLm y2<|JLm v1<|JLa y2<|JLa v1<|Za<|ZH<|⟨.tuple ⟨[y2,v1]⟩,[qr2++qt2,k1],ZcE rfl (RV.tmp rfl) (RV.tmp rfl),(ZcF (Sk (Sk (Sk Sub.nil)))),?_⟩
 have z:=ht2;rw [take_of_length_le (by rw [Z0];omega)] at z
 exact ⟨_,_,_,_,rfl,rfl,OL.mk ho2 z (by rw [Z0];omega),ho1⟩
set_option maxHeartbeats 4000000 in
theorem I0 (l:List Tm) (i:Int) (v:Value) (H:Heap) (hv:Hs.rdS RT 36 H v l) (hn8:l.length≤8) (hz:∀ t∈l,sizeT t≤400000) (hs:∀ t∈l,∀ x∈sfR t,0≤x∧x<(l.length:Int)) (hi0:0≤i) (hi1:i<(l.length:Int)):CT prog 43 ⟨[v,iv i]⟩ [] H (fun r N=>∃ k,N=[k]∧Own 3 1 r (Z2 (Wd l i)) k):=by
 have hlen:=hv.le
 refine Zl func43 rfl rfl<|Zc<|JAn rfl<|Zc<|JLm v<|Jc call44 rfl (fun hin=>OM _ _ _ (RTs.mono (Hle.hu _ _) hv) hn8 hz hs) rfl ?_
 rintro _ _ ⟨b1,bs1,rs1,rfl,rfl,hM1⟩
 refine JAn rfl<|Zc<|JLM rfl<|JLr (Zm (vs:=[iv i]) [[iv i]] ZV el3 rfl rfl (al1 rfl) rfl (by decide) fun b2 k2 ho2 hk2=>JAn rfl<|Zf<|Zc<|JLA rfl<|Za ?_)
 refine Zh<|Zv (fun k ρ M=>∃ (a:Nat) (out:List Int) (y1:Value) (q1:Zi),ZR ρ [(0,v),(1,iv i),(4,nS),(5,.slice (some ⟨b1,0,none⟩) l.length l.length),(6,y1),(7,iv ((a:Int)))]=ρ∧Sub [q1,mxC 78 4 l.length b1 bs1 rs1] M∧okO l.length out∧a≤out.length∧Own 3 1 y1 (Z2 out) q1∧W6 (prB l i) (sfI l) (l.length-a) a out=Wd l i∧k=l.length-a) _ ⟨0,[i],(.slice (some ⟨b2,0,none⟩) 1 1),k2,Zj rfl,(Sk (Sk Sub.nil)),(okO.one hi0 hi1),Nat.zero_le _,ho2,rfl,rfl⟩ ?_
 rintro _ ρ3 _ ⟨a,out,y1,q1,e4,hm10,hok,ha,how1,hinv,rfl⟩
 obtain ⟨ρ11,rfl⟩:=Zo e4
 clear e4
 refine ZD hm10 ?_
 have holen:=hok.len
 refine Zf<|Zc<|JLM rfl<|JLm y1 ?_
 obtain ⟨a12,cap12,hv12⟩:=how1.sl
 rw [Zt] at hv12
 refine JLn (Zcv ZV hv12)<|JLn (Pu.lss rfl rfl)<|Za<|ZF rfl (fun h13=>?_) (fun h13=>?_)
 ·have h13n:a<out.length:=by omega
  have hal:=h13n
  have hax:=hok.2 _ (getElem_mem h13n)
  refine Zk<|Zf<|Zh<|Zc<|JLm v<|JLm y1<|JLM rfl ?_
  obtain ⟨b14,cap14,row14,hv14,hm14,hs14⟩:=how1.at (j:=a) (by rw [Zt];first | assumption | omega)
  rw [Z9 _ _ (by omega)] at hs14
  refine JLn (Zcw a ZV ty3 hv14 rfl rfl (by rw [Zt];first | assumption | omega))<|JLr (Zb ty3 rfl (ZcD 0 rfl hm14) (ZT hs14) ?_)
  obtain ⟨b15,o15,cap15,row15,T15,fr15,cs15,hv15,hb15,hs15,hE15⟩:=hv.get (out[a]).toNat (by omega)
  refine JLq (pp b15 (o15+(out[a]).toNat*36)) (Zcw (out[a]).toNat ZQ Zy hv15 rfl (by first | rfl | omega) (by omega))<|JLr (Zn Zy rfl (Zcx hb15) hs15<|Jc call88 rfl (fun hin=>St _ _ _ (RT.mono (Hle.hu _ _) hE15) (by have:=hz _ (getElem_mem (show (out[a]).toNat<l.length by omega));omega)) rfl ?_)
  rintro v16 _ ⟨k16,rfl,ho16⟩
  refine JLa v16<|Za<|Zc<|JAn rfl<|Zh<|Zv (fun k ρ M=>∃ (p:Nat) (out2:List Int) (y2:Value) (q2:Zi),ZR ρ [(0,v),(1,iv i),(4,nS),(5,.slice (some ⟨b1,0,none⟩) l.length l.length),(6,y2),(7,iv ((a:Int))),(8,v16),(9,iv ((p:Int)))]=ρ∧Sub [q2,k16,mxC 78 4 l.length b1 bs1 rs1] M∧p≤(sfR l[(out[a]).toNat]).length∧okO l.length out2∧Own 3 1 y2 (Z2 out2) q2∧out2=stO (prB l i) ((sfR l[(out[a]).toNat]).take p) out∧k=(sfR l[(out[a]).toNat]).length-p) _ ⟨0,out,y1,q1,Zj rfl,(Sub.cons 1 rfl (Sk (Sk Sub.nil))),Nat.zero_le _,hok,how1,rfl,rfl⟩ ?_
  rintro _ ρ17 _ ⟨p,out2,y2,q2,e18,hm26,hp,hok2,how2,hst2,rfl⟩
  obtain ⟨ρ27,rfl⟩:=Zo e18
  clear e18
  refine ZD hm26 ?_
  have ho2len:=hok2.len
  have hzi:=hz _ (getElem_mem (show (out[a]).toNat<l.length by omega))
  have hsz:=VF l[(out[a]).toNat]
  refine Zf<|Zc<|JLM rfl<|JLm v16 ?_
  obtain ⟨a28,cap28,hv28⟩:=ho16.sl
  rw [Zt] at hv28
  refine JLn (Zcv ZV hv28)<|JLn (Pu.lss rfl rfl)<|Za<|ZF rfl (fun h29=>?_) (fun h29=>?_)
  ·have h29n:p<(sfR (l[(out[a]).toNat])).length:=by omega
   have hpl:=h29n
   have hpx:=hs _ (getElem_mem (show (out[a]).toNat<l.length by omega)) _ (getElem_mem h29n)
   refine Zk<|Zf<|Zh<|Zc<|JLm v16<|JLM rfl ?_
   obtain ⟨b30,cap30,row30,hv30,hm30,hs30⟩:=ho16.at (j:=p) (by rw [Zt];first | assumption | omega)
   rw [Z9 _ _ (by omega)] at hs30
   refine JLn (Zcw p ZV ty3 hv30 rfl rfl (by rw [Zt];first | assumption | omega))<|JLr (Zb ty3 rfl (ZcD 1 rfl hm30) (ZT hs30)<|JAn rfl<|Zc<|JLM rfl<|JLM rfl<|JLq (pp b1 (0+i.toNat*1)) (Zcw i.toNat Vz XB rfl rfl (by omega) (by omega)) ?_)
   obtain ⟨q31,hq31⟩:=hM1.row i.toNat (by omega)
   have hr31:=hM1.len i.toNat (by omega)
   refine JLr (Zb XB rfl (ZcD 2 rfl mem_cons_self) (XH hq31)<|JLM rfl<|JLq (pp q31 (0+((sfR (l[(out[a]).toNat]))[p]).toNat*1)) (Zcw ((sfR (l[(out[a]).toNat]))[p]).toNat W4 ty4 rfl rfl (by omega) (by omega))<|JLr (Zb ty4 rfl (ZcD 2 rfl (X6 hM1.hl hq31)) (YA (by rw [hr31];omega))<|JLq (.bool (!(YN rs1 i.toNat ((sfR (l[(out[a]).toNat]))[p]).toNat))) (Pu.not rfl)<|JLM rfl<|ZA 8 [50,51,52,53,54,55,56,57] [(57,cond (!(YN rs1 i.toNat ((sfR (l[(out[a]).toNat]))[p]).toNat)) undef (.bool (!(YN rs1 ((sfR (l[(out[a]).toNat]))[p]).toNat i.toNat))))] ?_ fun f34=>?_))
   ·cases h32:(!(YN rs1 i.toNat ((sfR (l[(out[a]).toNat]))[p]).toNat)) with
    | false=>
     replace h32:=nf h32
     refine JLM rfl<|JLM rfl<|JLq (pp b1 (0+((sfR (l[(out[a]).toNat]))[p]).toNat*1)) (Zcw ((sfR (l[(out[a]).toNat]))[p]).toNat Vz XB rfl rfl (by omega) (by omega)) ?_
     obtain ⟨q33,hq33⟩:=hM1.row ((sfR (l[(out[a]).toNat]))[p]).toNat (by omega)
     have hr33:=hM1.len ((sfR (l[(out[a]).toNat]))[p]).toNat (by omega)
     refine JLr (Zb XB rfl (ZcD 2 rfl mem_cons_self) (XH hq33)<|JLM rfl<|JLq (pp q33 (0+i.toNat*1)) (Zcw i.toNat W4 ty4 rfl rfl (by omega) (by omega))<|JLr (Zb ty4 rfl (ZcD 2 rfl (X6 hM1.hl hq33)) (YA (by rw [hr33];omega))<|JLq (.bool (!(YN rs1 ((sfR (l[(out[a]).toNat]))[p]).toNat i.toNat))) (Pu.not rfl) ?_))
     exact Za ⟨⟨rfl,trivial⟩,rfl⟩
    | true=>
     exact ZJ rfl ⟨rfl,trivial⟩
   refine JLq (.bool ((!(YN rs1 i.toNat ((sfR (l[(out[a]).toNat]))[p]).toNat))||(!(YN rs1 ((sfR (l[(out[a]).toNat]))[p]).toNat i.toNat)))) (ZcC rfl rfl rfl)<|JAn rfl<|Zf<|Zc<|JAn rfl<|Zh<|Zv (fun k ρ M=>∃ (n:Nat) (th:Bool),ZR ρ [(0,v),(1,iv i),(4,nS),(5,.slice (some ⟨b1,0,none⟩) l.length l.length),(6,y2),(7,iv ((a:Int))),(8,v16),(9,iv ((p:Int))),(10,iv ((sfR (l[(out[a]).toNat]))[p])),(11,.bool th),(12,iv ((n:Int)))]=ρ∧Sub [q2,k16,mxC 78 4 l.length b1 bs1 rs1] M∧n≤out2.length∧th=(!prB l i ((sfR (l[(out[a]).toNat]))[p])||decide ((sfR (l[(out[a]).toNat]))[p]∈out2.take n))∧p<(sfR l[(out[a]).toNat]).length∧k=out2.length-n) _ ⟨0,((!(YN rs1 i.toNat ((sfR (l[(out[a]).toNat]))[p]).toNat))||(!(YN rs1 ((sfR (l[(out[a]).toNat]))[p]).toNat i.toNat))),Zj rfl,(Sk (Sk (Sk Sub.nil))),Nat.zero_le _,(AY (hM1.got i.toNat (by omega) _ (by omega)) (hM1.got _ (by omega) i.toNat (by omega))),hpl,rfl⟩ ?_
   rintro _ ρ35 _ ⟨n,th,e36,hm47,hn,hth2,hpl2,rfl⟩
   obtain ⟨ρ48,rfl⟩:=Zo e36
   clear e36
   refine ZD hm47<|Zf<|Zc<|JLM rfl<|JLm y2 ?_
   obtain ⟨a49,cap49,hv49⟩:=how2.sl
   rw [Zt] at hv49
   refine JLn (Zcv ZV hv49)<|JLn (Pu.lss rfl rfl)<|Za<|ZF rfl (fun h50=>?_) (fun h50=>?_)
   ·have h50n:n<out2.length:=by omega
    refine Zk<|Zf<|Zh<|Zd<|JLM rfl<|JLM rfl<|ZA 6 [67,68,69,70,71,72] [(72,cond th undef (.bool (decide (out2[n]=(sfR (l[(out[a]).toNat]))[p]))))] ?_ fun f53=>?_
    ·cases h51:th with
     | false=>
      refine JLm y2<|JLM rfl ?_
      obtain ⟨b52,cap52,row52,hv52,hm52,hs52⟩:=how2.at (j:=n) (by rw [Zt];first | assumption | omega)
      rw [Z9 _ _ (by omega)] at hs52
      refine JLn (Zcw n ZV ty3 hv52 rfl rfl (by rw [Zt];first | assumption | omega))<|JLr (Zb ty3 rfl (ZcD 0 rfl hm52) (ZT hs52)<|JLM rfl<|JLn (Pu.eql rfl rfl) ?_)
      exact Za ⟨⟨rfl,trivial⟩,rfl⟩
     | true=>
      exact ZJ rfl ⟨rfl,trivial⟩
    refine JLn (ZcC rfl rfl rfl)<|JAn rfl<|Zd<|JLM rfl<|JLn (Zcy rfl rfl (by omega))<|JAn rfl<|⟨_,?_,(n+1),(th||(decide (out2[n]=(sfR (l[(out[a]).toNat]))[p]))),Zj rfl,(Sk (Sk (Sk Sub.nil))),?_,?_,?_,rfl⟩
    ·omega
    ·omega
    ·exact Zbp hth2 h50n
    exact hpl2
   have h50n:out2.length≤n:=by omega
   refine Zu _ rfl<|Zc<|JLM rfl<|JLn (Pu.not rfl)<|Za<|Zs rfl (fun h54=>?_) (fun h54=>?_)
   ·replace h54:=nt h54
    refine Zd<|JLm y2<|JLM rfl<|JLr (Zm (vs:=[iv ((sfR (l[(out[a]).toNat]))[p])]) [[iv ((sfR (l[(out[a]).toNat]))[p])]] ZV el3 rfl rfl (al1 rfl) rfl (by decide) fun b55 k55 ho55 hk55=>?_)
    have hlens56:∀ e∈([[iv ((sfR (l[(out[a]).toNat]))[p])]]:List (List Value)),List.length e=1:=al1 rfl
    have hoks56:∀ e∈([[iv ((sfR (l[(out[a]).toNat]))[p])]]:List (List Value)),okc e:=al1 (Zg rfl Zq)
    refine JLr (Zz (i:=1) (n:=1) (es':=[[iv ((sfR (l[(out[a]).toNat]))[p])]]) ZV ZV (Or.inl rfl) el3 rfl rfl rfl how2 (fun F w m=>Src.row (((ZcD 0 rfl (by rw [hk55];exact mem_cons_self))).heap m) (ZE (Zw hlens56))) rfl hlens56 hoks56 (by decide) (by rw [Zt];omega) fun v56 k56 ho56=>JLa v56<|Za<|Zd<|JLM rfl<|JLn (Zcy rfl rfl (by omega))<|JAn rfl<|⟨_,?_,(p+1),(out2++[(sfR (l[(out[a]).toNat]))[p]]),v56,k56,Zj rfl,(Sd (Sk (Sk (Sk Sub.nil)))),?_,?_,?_,?_,rfl⟩)
    ·omega
    ·omega
    ·exact hok2.add (Ab hth2 h50n h54).2 hpx.1 hpx.2
    ·rw [WI];exact ho56
    rw [Wg hpl,← hst2,if_pos (Ab hth2 h50n h54)]
   replace h54:=nf h54
   refine Zk<|Zd<|JLM rfl<|JLn (Zcy rfl rfl (by omega))<|JAn rfl<|⟨_,?_,(p+1),out2,y2,q2,Zj rfl,(Sk (Sk (Sk Sub.nil))),?_,?_,?_,?_,rfl⟩
   ·omega
   ·omega
   ·exact hok2
   ·exact how2
   rw [Wg hpl,← hst2,if_neg (AW hth2 h50n h54)]
  have h29n:(sfR (l[(out[a]).toNat])).length≤p:=by omega
  refine Zu _ rfl<|Zd<|JLM rfl<|JLn (Zcy rfl rfl (by omega))<|JAn rfl<|⟨_,?_,(a+1),out2,y2,q2,Zj rfl,(Sk (Sd (Sk Sub.nil))),?_,?_,?_,?_,rfl⟩
  ·omega
  ·exact hok2
  ·have:=(Ro (P:=prB l i) (hs _ (getElem_mem (show (out[a]).toNat<l.length by omega))) hok).2.length_le;rw [hst2,take_of_length_le (by omega)];omega
  ·exact how2
  rw [show l.length-a=(l.length-(a+1))+1 by omega,RE hal,Tz hal,Nz (by omega)] at hinv;rw [hst2,take_of_length_le (by omega)];exact hinv
 have h13n:out.length≤a:=by omega
 refine Zu _ rfl<|Zc<|JLm y1<|JLa y1<|Za<|ZC y1 [q1] (Sk Sub.nil) (?_)
 rw [SE (by omega)] at hinv
 exact ⟨_,rfl,by rw [← hinv];exact how1⟩
end
theorem Yp {cd:List (List Nat)} {N:Nat} (h:∀ i j,j∈cdG cd i→j<N) {i j k:Nat} (a:rcB cd N i j=true) (b:rcB cd N j k=true):rcB cd N i k=true:=
  rcB_iff.2 (Ts (NJ h (rcB_iff.1 a)) (rcB_iff.1 a) (rcB_iff.1 b))
theorem Wh {cd:List (List Nat)} {N i j:Nat} (h:j∈cdG cd i):rcB cd N i j=true:=rcB_iff.2 (G6 (Nat.zero_le N) h)
theorem Ph {cd:List (List Nat)} {N i j:Nat} (h:∀ i j,j∈cdG cd i→j<N) (a:rcB cd N i j=true):j<N:=NJ h (rcB_iff.1 a)
theorem Wr {m:List Tm} (ok:okC m) (i j:Nat) (h:j∈cdG (cdL m) i):j<m.length:=by
  rcases Nat.lt_or_ge i m.length with hi | hi
  · rw [Ti hi] at h
    obtain ⟨x,hx,rfl⟩:=mem_map.1 h
    have:=ok _ (getElem_mem hi) x hx;omega
  · unfold cdG cdL at h
    rw [getD_eq_getElem?_getD,getElem?_eq_none (by simpa using hi)] at h;simp at h
theorem stO_mem {P:Int→Bool} {c:List Int}:∀ {out:List Int} {x:Int},x∈stO P c out↔x∈out∨(x∈c∧P x=true):=by
  induction c with
  | nil=>intro out x;simp [stO]
  | cons y c ih=>
    intro out x
    show x∈stO P c (if P y=true∧y∉out then out++[y] else out)↔_
    rw [ih]
    by_cases q:P y=true∧y∉out
    · rw [if_pos q];simp only [mem_append,mem_cons,not_mem_nil,or_false]
      constructor
      · rintro ((h | rfl) | h)
        · exact .inl h
        · exact .inr ⟨.inl rfl,q.1⟩
        · exact .inr ⟨.inr h.1,h.2⟩
      · rintro (h | ⟨rfl | h,hp⟩)
        · exact .inl (.inl h)
        · exact .inl (.inr rfl)
        · exact .inr ⟨h,hp⟩
    · rw [if_neg q];simp only [mem_cons]
      constructor
      · rintro (h | h)
        · exact .inl h
        · exact .inr ⟨.inr h.1,h.2⟩
      · rintro (h | ⟨rfl | h,hp⟩)
        · exact .inl h
        · by_cases z:x∈out
          · exact .inl z
          · exact absurd ⟨hp,z⟩ q
        · exact .inr ⟨h,hp⟩
theorem MN {n:Nat} {P:Int→Bool} {s:Int→List Int} (hs:∀ x,∀ y∈s x,0≤y∧y<(n:Int)):∀ (f a:Nat) {out:List Int},okO n out→n≤f+a→(∀ b,b<a→b<out.length→∀ y∈s (out.getD b 0),P y=true→y∈out)→
    (∀ x∈W6 P s f a out,x∈out∨P x=true)∧(∀ x∈W6 P s f a out,∀ y∈s x,P y=true→y∈W6 P s f a out)
  | 0,a,out,h,hf,hi=>by
    have hl:=h.len
    refine ⟨fun x hx=>.inl hx,fun x hx y hy hp=>?_⟩
    obtain ⟨b,hb,rfl⟩:=List.getElem_of_mem (show x∈out from hx)
    exact hi b (by omega) hb y (by rw [Tz hb];exact hy) hp
  | f + 1,a,out,h,hf,hi=>by
    rw [W6];split
    · rename_i ha
      have h1:=Ro (P:=P) (hs (out.getD a 0)) h
      have ih:=MN (P:=P) hs f (a+1) h1.1 (by omega) (fun b hb hbl y hy hp=>by
        have hbo:b<out.length:=by omega
        have e:(stO P (s (out.getD a 0)) out).getD b 0=out.getD b 0:=by
          obtain ⟨r,hr⟩:=h1.2
          rw [← hr,getD_eq_getElem?_getD,List.getElem?_append_left hbo,← getD_eq_getElem?_getD]
        rw [e] at hy
        rw [stO_mem]
        by_cases c:b<a
        · exact .inl (hi b c hbo y hy hp)
        · obtain rfl:b=a:=by omega
          exact .inr ⟨hy,hp⟩)
      refine ⟨fun x hx=>?_,ih.2⟩
      rcases ih.1 x hx with q | q
      · rcases stO_mem.1 q with q | q
        · exact .inl q
        · exact .inr q.2
      · exact .inr q
    · rename_i ha
      refine ⟨fun x hx=>.inl hx,fun x hx y hy hp=>?_⟩
      obtain ⟨b,hb,rfl⟩:=List.getElem_of_mem hx
      exact hi b (by omega) hb y (by rw [Tz hb];exact hy) hp
theorem Ua {m:List Tm} (ok:okC m) {i:Int} (h0:0≤i) (h1:i<(m.length:Int)) {x:Int} (hx0:0≤x):x∈Wd m i↔x=i∨prB m i x=true:=by
  have inv:=MN (P:=prB m i) ok.sfI m.length 0 (okO.one h0 h1) (by omega) (fun b hb=>absurd hb (by omega))
  have hl:=Wr ok
  constructor
  · intro h
    rcases inv.1 x h with q | q
    · exact .inl (by simpa using q)
    · exact .inr q
  · intro h
    have hi:i∈Wd m i:=by obtain ⟨t,e⟩:=Tt ok h0 h1;rw [e];exact mem_cons_self
    rcases h with rfl | h
    · exact hi
    · unfold prB at h
      rw [Bool.and_eq_true] at h
      have key:∀ {a b:Nat},plt (fun i j=>j∈cdG (cdL m) i) m.length a b→rcB (cdL m) m.length a b=true∧((a:Int)∈Wd m i→rcB (cdL m) m.length b i.toNat=true→(b:Int)∈Wd m i):=by
        intro a b q
        refine WC (T:=fun a b=>rcB (cdL m) m.length a b=true∧((a:Int)∈Wd m i→rcB (cdL m) m.length b i.toNat=true→(b:Int)∈Wd m i)) (fun a b r=>⟨Wh r,fun ha hb=>?_⟩) (fun a b c p q=>⟨Yp hl p.1 q.1,fun ha hc=>q.2 (p.2 ha (Yp hl q.1 hc)) hc⟩) q
        rcases inv.1 (a:Int) ha with z | z
        · have e:(a:Int)=i:=by simpa using z
          have ea:a=i.toNat:=by omega
          refine inv.2 _ ha (b:Int) ?_ (by unfold prB;rw [Bool.and_eq_true];exact ⟨by subst ea;exact Wh r,hb⟩)
          have hal:a<m.length:=by omega
          rw [Ti hal] at r
          obtain ⟨y,hy,e2⟩:=mem_map.1 r
          have:=ok _ (getElem_mem hal) y hy
          have:y=(b:Int):=by omega
          subst this
          rw [Nz (by simpa using hal)];simpa using hy
        · unfold prB at z
          rw [Bool.and_eq_true] at z
          have hal:a<m.length:=by have:=Ph hl z.1;simpa using this
          refine inv.2 _ ha (b:Int) ?_ (by unfold prB;rw [Bool.and_eq_true];exact ⟨Yp hl z.1 (Wh r),hb⟩)
          rw [Ti hal] at r
          obtain ⟨y,hy,e2⟩:=mem_map.1 r
          have:=ok _ (getElem_mem hal) y hy
          have:y=(b:Int):=by omega
          subst this
          rw [Nz (by simpa using hal)];simpa using hy
      have:=(key (rcB_iff.1 h.1)).2 (by rw [Int.toNat_of_nonneg h0];exact hi) h.2
      rwa [Int.toNat_of_nonneg hx0] at this
def byL (n:Nat) (o:List Int):List Int:=(range n).map fun k:Nat=>if (k:Int)∈o then (o.idxOf (k:Int):Int) else -1
def smL (m:List Tm) (o:List Int) (g:Nat→Sm):List Sm:=(range m.length).map fun k:Nat=>if (k:Int)∉o∧rcB (cdL m) m.length (o.getD 0 0).toNat k=true then g k else zS
def cdI (m:List Tm) (o:List Int) (g:Nat→Sm):It:=.mk 40 o.length ⟨#[]⟩ (o.map fun n=>itT (Yy (byL m.length o) (smL m o g) (atL m n.toNat)))
def coI (m:List Tm):Nat→Nat→It
  | 0,_=>.mk 0 0 ⟨#[]⟩ []
  | f+1,i=>cdI m (Wd m i) (fun k=>sha (Ya (coI m f k)))
def coX (m:List Tm) (i k:Nat):Bool:= !decide ((k:Int)∈Wd m i)&&rcB (cdL m) m.length i k
def coE (m:List Tm):Nat→Nat→Bool
  | 0,_=>false
  | f+1,i=>(range m.length).any (fun k=>coX m i k&&coE m f k)||decide (65536<(Ya (coI m (f+1) i)).length)
def rkM (m:List Tm) (i:Nat):Nat:=(range m.length).countP fun k=>decide (k=i)||rcB (cdL m) m.length i k
theorem NH (m:List Tm) (i:Nat):rkM m i≤m.length:=by
  have:=List.countP_le_length (p:=fun k=>decide (k=i)||rcB (cdL m) m.length i k) (l:=range m.length)
  rwa [length_range] at this
theorem U9 {m:List Tm} (ok:okC m) {i k:Nat} (hi:i<m.length) (h:coX m i k=true):k<m.length∧rkM m k<rkM m i:=by
  unfold coX at h
  rw [Bool.and_eq_true,Bool.not_eq_true',decide_eq_false_iff_not] at h
  have hl:=Wr ok
  refine ⟨Ph hl h.2,PR (x:=i) (fun x _ hx=>?_) (mem_range.2 hi) (by simp) ?_⟩
  · rw [Bool.or_eq_true,decide_eq_true_iff] at hx ⊢
    rcases hx with rfl | hx
    · exact .inr h.2
    · exact .inr (Yp hl h.2 hx)
  · rw [Bool.or_eq_false_iff]
    have hn:=h.1
    rw [Ua ok (by omega) (by omega) (by omega)] at hn
    refine ⟨?_,?_⟩
    · simp only [decide_eq_false_iff_not];intro e;subst e;exact hn (.inl rfl)
    · cases e:rcB (cdL m) m.length k i with
      | false=>rfl
      | true=>exact absurd (.inr (by unfold prB;simp [h.2,e])) hn
theorem OD {m:List Tm} (ok:okC m) {i:Nat} (hi:i<m.length) {g g':Nat→Sm} (h:∀ k,coX m i k=true→g k=g' k):smL m (Wd m i) g=smL m (Wd m i) g':=by
  unfold smL
  refine map_congr_left fun (k:Nat) _=>?_
  obtain ⟨t,e⟩:=Tt ok (i:=(i:Int)) (by omega) (by omega)
  have e0:((Wd m i).getD 0 0).toNat=i:=by rw [e];simp
  rw [e0]
  by_cases c:((k:Nat):Int)∉Wd m i∧rcB (cdL m) m.length i k=true
  · rw [if_pos c,if_pos c];exact h k (by unfold coX;simp [c.1,c.2])
  · rw [if_neg c,if_neg c]
theorem Sf {m:List Tm} (ok:okC m):∀ (f f' i:Nat),i<m.length→rkM m i<f→rkM m i<f'→coI m f i=coI m f' i
  | 0,_,_,_,h,_=>absurd h (by omega)
  | _+1,0,_,_,_,h=>absurd h (by omega)
  | f +1,f'+1,i,hi,h,h'=>by
    have e:=OD (g:=fun k=>sha (Ya (coI m f k))) (g':=fun k=>sha (Ya (coI m f' k))) ok hi fun k hk=>by
      have:=U9 ok hi hk
      simp only [Sf ok f f' k this.1 (by omega) (by omega)]
    rw [coI,coI,cdI,cdI,e]
theorem PS {m:List Tm} (ok:okC m):∀ (f f' i:Nat),i<m.length→rkM m i<f→rkM m i<f'→coE m f i=coE m f' i
  | 0,_,_,_,h,_=>absurd h (by omega)
  | _+1,0,_,_,_,h=>absurd h (by omega)
  | f +1,f'+1,i,hi,h,h'=>by
    rw [coE,coE,Sf ok (f+1) (f'+1) i hi h h']
    congr 1
    rw [Bool.eq_iff_iff,any_eq_true,any_eq_true]
    refine exists_congr fun k=>and_congr_right fun _=>?_
    cases c:coX m i k with
    | false=>simp
    | true=>
      have:=U9 ok hi c
      rw [PS ok f f' k this.1 (by omega) (by omega)]
def YD (m:List Tm) (i:Nat):It:=coI m (m.length+1) i
def TQ (m:List Tm) (i:Nat):Bool:=coE m (m.length+1) i
theorem EF {m:List Tm} (ok:okC m) {i:Nat} (hi:i<m.length):YD m i=cdI m (Wd m i) (fun k=>sha (Ya (YD m k))):=by
  unfold YD
  rw [coI,cdI,cdI,OD ok hi fun k hk=>?_]
  have:=U9 ok hi hk
  have:=NH m i
  rw [Sf ok m.length (m.length+1) k (by omega) (by omega) (by omega)]
theorem EH {m:List Tm} (ok:okC m) {i:Nat} (hi:i<m.length):TQ m i=((range m.length).any (fun k=>coX m i k&&TQ m k)||decide (65536<(Ya (YD m i)).length)):=by
  unfold TQ YD
  rw [coE]
  congr 1
  rw [Bool.eq_iff_iff,any_eq_true,any_eq_true]
  refine exists_congr fun k=>and_congr_right fun _=>?_
  cases c:coX m i k with
  | false=>simp
  | true=>
    have:=U9 ok hi c
    have:=NH m i
    rw [PS ok m.length (m.length+1) k (by omega) (by omega) (by omega)]
section
variable {by':List Int} {s:List Sm}
mutual
theorem Rq:∀ t:Tm,sizeT (Yy by' s t)≤sizeT t∧UI (Yy by' s t)≤UI t
  | .mk k n r kids cases=>by
    have h1:=Tg kids
    have h2:=S0 cases
    rw [Yy]
    split
    · split <;> (simp only [sizeT,ZL,ZX,UI,Wp,WA];omega)
    · have a:=Q0 kids
      have b:=Q4 cases
      simp only [sizeT,UI];omega
theorem Q0:∀ l:List Tm,ZL (YF by' s l)≤ZL l∧Wp (YF by' s l)≤Wp l
  | []=>by simp [YF]
  | t::l=>by
    have a:=Rq t
    have b:=Q0 l
    simp only [YF,ZL,Wp];omega
theorem Q4:∀ l:List (Pt×Tm),ZX (YC by' s l)≤ZX l∧WA (YC by' s l)≤WA l
  | []=>by simp [YC]
  | (p,t)::l=>by
    have a:=Rq t
    have b:=Q4 l
    simp only [YC,ZX,WA];omega
end
theorem L2 (l:List (Pt×Tm)):XD (YC by' s l)=XD l:=by
  induction l with
  | nil=>rfl
  | cons c l ih=>rw [YC,XD,XD,ih]
theorem Vl {d m b k n:Int} {r:Sm} {kids:List Tm} {cases:List (Pt×Tm)} (h:Y6 d m b (.mk k n r kids cases)=0):Xb d m b k n r kids.length cases.length=0∧XD cases=0∧YQ d m b k 0 kids=0∧YX d m b cases=0:=by
  rw [Y6] at h
  split at h
  · split at h
    · split at h
      · exact ⟨by assumption,by assumption,by assumption,h⟩
      · exact absurd h (by assumption)
    · exact absurd h (by assumption)
  · exact absurd h (by assumption)
theorem NT {d m b k n:Int} {r:Sm} {kids:List Tm} {cases:List (Pt×Tm)} (h1:Xb d m b k n r kids.length cases.length=0) (h2:XD cases=0) (h3:YQ d m b k 0 kids=0) (h4:YX d m b cases=0):Y6 d m b (.mk k n r kids cases)=0:=by
  rw [Y6,if_pos h1,if_pos h2,if_pos h3];exact h4
theorem Cy {d m m' b k n:Int} {r:Sm} {l lc:Nat} (hk:¬ k=7) (h:Xb d m b k n r l lc=0):Xb d m' b k n r l lc=0:=by
  unfold Xb at h ⊢;simp only [hk,false_and,or_false] at h ⊢;exact h
theorem SJ {d m b n:Int} {r:Sm} {l lc:Nat} (h:Xb d m b 7 n r l lc=0):r=zS∧l=0∧lc=0∧0≤n∧n<m:=by
  unfold Xb Xj Y8 loK hiK at h
  simp at h
  by_cases e:r=zS
  · simp [e] at h;exact ⟨e,by omega⟩
  · simp [e] at h
mutual
theorem Pv {d m m':Int} (hb:∀ x:Int,0≤x→x<m→by'.getD x.toNat 0<m'):∀ (b:Int) (t:Tm),Y6 d m b t=0→Y6 d m' b (Yy by' s t)=0
  | b, .mk k n r kids cases,h=>by
    obtain ⟨h1,h2,h3,h4⟩:=Vl h
    rw [Yy]
    by_cases e:k=7
    · subst e
      rw [if_pos rfl]
      have q:=SJ h1
      have hx:=hb n q.2.2.2.1 q.2.2.2.2
      split
      · exact NT (by unfold Xb Xj Y8 loK hiK;simp) rfl rfl rfl
      · generalize by'.getD n.toNat 0=y at *
        exact NT (by unfold Xb Xj Y8 loK hiK;simp;omega) rfl rfl rfl
    · rw [if_neg e]
      exact NT (by rw [OJ,OK];exact Cy e h1) (by rw [L2];exact h2) (OU hb b k 0 kids h3) (OV hb b cases h4)
theorem OU {d m m':Int} (hb:∀ x:Int,0≤x→x<m→by'.getD x.toNat 0<m'):∀ (b k:Int) (i:Nat) (l:List Tm),YQ d m b k i l=0→YQ d m' b k i (YF by' s l)=0
  | b,k,i,[],_=>by rw [YF,YQ]
  | b,k,i,t::l,h=>by
    rw [YQ] at h
    split at h
    · rename_i h0
      rw [YF,YQ,if_pos (Pv hb _ t h0)];exact OU hb b k (i+1) l h
    · exact absurd h (by assumption)
theorem OV {d m m':Int} (hb:∀ x:Int,0≤x→x<m→by'.getD x.toNat 0<m'):∀ (b:Int) (l:List (Pt×Tm)),YX d m b l=0→YX d m' b (YC by' s l)=0
  | b,[],_=>by rw [YC,YX]
  | b,(p,t)::l,h=>by
    rw [YX] at h
    split at h
    · rename_i h0
      rw [YC,YX,if_pos (Pv hb _ t h0)];exact OV hb b l h
    · exact absurd h (by assumption)
end
mutual
theorem NS {d m:Int}:∀ (b:Int) (t:Tm),Y6 d m b t=0→∀ x∈sfR t,0≤x∧x<m
  | b,.mk k n r kids cases,h,x,hx=>by
    obtain ⟨h1,_,h3,h4⟩:=Vl h
    rw [sfR] at hx
    by_cases e:k=7
    · subst e
      rw [if_pos rfl,mem_singleton] at hx
      subst hx;exact (SJ h1).2.2.2
    · rw [if_neg e,mem_append] at hx
      rcases hx with hx | hx
      · exact MS b k 0 kids h3 x hx
      · exact MT b cases h4 x hx
theorem MS {d m:Int}:∀ (b k:Int) (i:Nat) (l:List Tm),YQ d m b k i l=0→∀ x∈Y0 l,0≤x∧x<m
  | b,k,i,[],_,x,hx=>by simp [Y0] at hx
  | b,k,i,t::l,h,x,hx=>by
    rw [YQ] at h
    split at h
    · rename_i h0
      rw [Y0,mem_append] at hx
      rcases hx with hx | hx
      · exact NS _ t h0 x hx
      · exact MS b k (i+1) l h x hx
    · exact absurd h (by assumption)
theorem MT {d m:Int}:∀ (b:Int) (l:List (Pt×Tm)),YX d m b l=0→∀ x∈Y4 l,0≤x∧x<m
  | b,[],_,x,hx=>by simp [Y4] at hx
  | b,(p,t)::l,h,x,hx=>by
    rw [YX] at h
    split at h
    · rename_i h0
      rw [Y4,mem_append] at hx
      rcases hx with hx | hx
      · exact NS _ t h0 x hx
      · exact MT b l h x hx
    · exact absurd h (by assumption)
end
mutual
theorem Nx:∀ t:Tm,(∀ x∈sfR t,0≤by'.getD x.toNat 0)→sfR (Yy by' s t)=(sfR t).map fun x=>by'.getD x.toNat 0
  | .mk k n r kids cases,h=>by
    rw [Yy]
    by_cases e:k=7
    · rw [if_pos e,sfR,if_pos e] at *
      have:=h n (by simp)
      rw [if_neg (by omega),sfR,if_pos rfl];rfl
    · rw [if_neg e,sfR,if_neg e,sfR,if_neg e,map_append]
      rw [sfR,if_neg e] at h
      rw [Jf kids fun x hx=>h x (mem_append.2 (.inl hx)),Jg cases fun x hx=>h x (mem_append.2 (.inr hx))]
theorem Jf:∀ l:List Tm,(∀ x∈Y0 l,0≤by'.getD x.toNat 0)→Y0 (YF by' s l)=(Y0 l).map fun x=>by'.getD x.toNat 0
  | [],_=>rfl
  | t::l,h=>by
    rw [Y0] at h
    rw [YF,Y0,Y0,map_append,Nx t fun x hx=>h x (mem_append.2 (.inl hx)),Jf l fun x hx=>h x (mem_append.2 (.inr hx))]
theorem Jg:∀ l:List (Pt×Tm),(∀ x∈Y4 l,0≤by'.getD x.toNat 0)→Y4 (YC by' s l)=(Y4 l).map fun x=>by'.getD x.toNat 0
  | [],_=>rfl
  | (p,t)::l,h=>by
    rw [Y4] at h
    rw [YC,Y4,Y4,map_append,Nx t fun x hx=>h x (mem_append.2 (.inl hx)),Jg l fun x hx=>h x (mem_append.2 (.inr hx))]
end
end
structure okG (l:List Tm):Prop where
  lo:1≤l.length
  hi:l.length≤8
  ck:∀ t∈l,Zx 0 l.length t=0
theorem okG.ok {l:List Tm} (h:okG l):okC l:=fun t ht=>NS 0 t (checkR_iff.1 (h.ck t ht)).2
theorem okG.sz {l:List Tm} (h:okG l) {t:Tm} (ht:t∈l):sizeT t≤300:=by
  have:=(checkR_iff.1 (h.ck t ht)).1
  apply Classical.byContradiction;intro q
  rw [(Ub t).2 (.inl (by omega))] at this;cases this
theorem PY {d m m':Int} {by':List Int} {s:List Sm} (hb:∀ x:Int,0≤x→x<m→by'.getD x.toNat 0<m') {t:Tm} (h:Zx d m t=0):Zx d m' (Yy by' s t)=0:=by
  obtain ⟨h1,h2⟩:=checkR_iff.1 h
  refine checkR_iff.2 ⟨?_,Pv hb 0 t h2⟩
  have:=Rq (by':=by') (s:=s) t
  cases e:SM (Yy by' s t) with
  | false=>rfl
  | true=>
    rw [Ub] at e
    rw [(Ub t).2 (by omega)] at h1;cases h1
theorem okG.mkL {l:List Tm} (h:okG l):okG (Hs.mkL l):=by
  refine ⟨by rw [Z0];exact h.lo,by rw [Z0];exact h.hi,fun t ht=>?_⟩
  obtain ⟨u,hu,rfl⟩:=mem_map.1 ht
  rw [Z0]
  refine PY (fun x h0 h1=>?_) (h.ck u hu)
  rw [XO h0 h1]
  have:=YJ (l:=l) (i:=x.toNat) (by omega);omega
theorem A5 {l:List Tm} {i:Nat} (h:i<l.length):atL (mkL l) i=Yy (frI l) [] (atL l i):=by
  rw [Y9 (by rw [Z0];exact h),Y9 h];simp [mkL]
theorem FI {l:List Tm} (h:okG l) {i:Nat} (hi:i<l.length):sfR (atL (mkL l) i)=(sfR (atL l i)).map fun x=>(firstN l x.toNat:Int):=by
  have:=h.ok.at i
  rw [A5 hi,Nx _ fun x hx=>by rw [XO (this x hx).1 (this x hx).2];omega]
  exact map_congr_left fun x hx=>XO (this x hx).1 (this x hx).2
theorem XP {l:List Tm} (h:okC l) {i:Nat} (hi:i<l.length):firstN l (firstN l i)=firstN l i:=
  (PE h (YJ hi) hi).2 (R3 h (WK hi))
theorem FH {l:List Tm} (h:okG l) {i j:Nat} (hj:j∈cdG (cdL (mkL l)) i):j<l.length∧firstN l j=j:=by
  have hlt:=Wr h.mkL.ok i j hj
  rw [Z0] at hlt
  refine ⟨hlt,?_⟩
  rcases Nat.lt_or_ge i l.length with hi | hi
  · rw [Ti (by rw [Z0];exact hi),← Y9] at hj
    unfold sfN at hj
    rw [FI h hi] at hj
    obtain ⟨y,hy,rfl⟩:=mem_map.1 hj
    obtain ⟨x,hx,rfl⟩:=mem_map.1 hy
    have:=h.ok.at i x hx
    simp only [Int.toNat_natCast]
    exact XP h.ok (by omega)
  · unfold cdG cdL at hj
    rw [getD_eq_getElem?_getD,getElem?_eq_none (by rw [length_map,Z0];exact hi)] at hj;simp at hj
theorem Sw {l:List Tm} (h:okG l) {N i j:Nat} (r:rcB (cdL (mkL l)) N i j=true):j<l.length∧firstN l j=j:=
  WC (T:=fun _ j=>j<l.length∧firstN l j=j) (fun _ _ q=>FH h q) (fun _ _ _ _ q=>q) (rcB_iff.1 r)
def Sb (x:It):List Int:=if 65536<(Ya x).length then [] else Ya x
def XV (x:It):Int:=if 65536<(Ya x).length then 11 else 0
theorem JY {x:It} (h:(Ya x).length≤65536):Sb x=Ya x:=by unfold Sb;rw [if_neg (by omega)]
theorem J0 {x:It} (h:(Ya x).length≤65536):XV x=0:=by unfold XV;rw [if_neg (by omega)]
theorem JZ {x:It} (h:65536<(Ya x).length):Sb x=[]:=by unfold Sb;rw [if_pos h]
theorem J1 {x:It} (h:65536<(Ya x).length):XV x=11:=by unfold XV;rw [if_pos h]
theorem IF {T:TypeId} {a:Option Addr} {cap:Nat} {x:It} {k:Zi} (h:Own T 1 (.slice a (Ya x).length cap) (Yk (Ya x)) k):
    ∃ u k',(if 65536<(Ya x).length then Value.tuple ⟨[.slice none 0 0,.int .i64 11]⟩ else .tuple ⟨[.slice a (Ya x).length cap,.int .i64 0]⟩)=.tuple ⟨[u,.int .i64 (XV x)]⟩∧(k'=k∨k'=[])∧Own T 1 u (Yk (Sb x)) k':=by
  by_cases c:65536<(Ya x).length
  · exact ⟨_,[],by rw [if_pos c,J1 c],.inr rfl,by rw [JZ c];exact Own.nil⟩
  · exact ⟨_,k,by rw [if_neg c,J0 (by omega)],.inl rfl,by rw [JY (by omega)];exact h⟩
theorem IE {M:List Zi} {i:Nat} {k k':Zi} (hi:M[i]?=some k) (h:k'=k∨k'=[]):Sub (k'::M.eraseIdx i) M:=by
  rcases h with rfl | rfl
  · exact Sub.cons i hi Sub.refl
  · exact Zcz ⟨k,(YI hi).trans perm_append_comm⟩
theorem PC (l:List Int) (j:Nat) (x:Int):(Z2 l).set j [.int .i64 x]=Z2 (l.set j x):=by simp [Z2,List.map_set]
theorem DU (l:List Sm) (j:Nat) (r:Sm):(sms l).set j (sC r)=sms (l.set j r):=by simp [sms,List.map_set]
theorem DV (n:Nat) {z:Value} (h:z.cells.toList=sC zS):replicate n z.cells.toList=sms (replicate n zS):=by rw [h];simp [sms]
def byI (n j:Nat):List Int:=(range n).map fun a:Nat=>if a<j then -1 else 0
theorem Ig (n:Nat):replicate n 0=byI n 0:=by
  apply ext_getElem (by simp [byI])
  intro i h1 h2;simp [byI]
theorem If (n j:Nat):(byI n j).length=n:=by simp [byI]
theorem Lv {n j:Nat}:(byI n j).set j (-1)=byI n (j+1):=by
  apply ext_getElem (by simp [byI])
  intro i h1 h2
  simp only [byI,List.getElem_set,getElem_map,getElem_range]
  by_cases e:j=i
  · subst e;simp
  · rw [if_neg e];congr 1;simp;omega
def byJ (n:Nat) (o:List Int) (p:Nat):List Int:=(range n).map fun a:Nat=>if (a:Int)∈o.take p then (o.idxOf (a:Int):Int) else -1
theorem Bu (n:Nat) (o:List Int) (p:Nat):(byJ n o p).length=n:=by simp [byJ]
theorem Bw {n j:Nat} (o:List Int) (h:n≤j):byI n j=byJ n o 0:=by
  apply ext_getElem (by simp [byI,byJ])
  intro i h1 h2
  have:i<n:=by simpa [byI] using h1
  simp [byI,byJ];omega
theorem E2 {n p:Nat} {o:List Int} (ok:okO n o) (h:p<o.length):(byJ n o p).set (o[p]).toNat (p:Int)=byJ n o (p+1):=by
  apply ext_getElem (by simp [byJ])
  intro i h1 h2
  have hi:i<n:=by simpa [byJ] using h2
  have hp:=ok.2 _ (getElem_mem h)
  simp only [byJ,List.getElem_set,getElem_map,getElem_range]
  rw [take_succ_eq_append_getElem h]
  by_cases e:(o[p]).toNat=i
  · subst e
    rw [if_pos rfl,Int.toNat_of_nonneg hp.1,if_pos (mem_append.2 (.inr (mem_singleton.2 rfl)))]
    have:o.idxOf o[p]=p:=List.Nodup.idxOf_getElem ok.1 p h
    rw [this]
  · rw [if_neg e]
    have:(i:Int)≠o[p]:=by omega
    congr 1
    rw [mem_append,mem_singleton,eq_iff_iff]
    exact ⟨.inl,fun z=>z.resolve_right this⟩
theorem Bv {n p:Nat} {o:List Int} (h:o.length≤p):byJ n o p=byL n o:=by unfold byJ byL;rw [take_of_length_le h]
theorem VL (n:Nat) (o:List Int):(byL n o).length=n:=by simp [byL]
theorem Mb {n k:Nat} {o:List Int} (h:k<n):(byL n o)[k]'(by rw [VL];exact h)=if (k:Int)∈o then (o.idxOf (k:Int):Int) else -1:=by simp [byL]
theorem S9 {n k:Nat} {o:List Int} (h:k<n):(byL n o).getD k 0=if (k:Int)∈o then (o.idxOf (k:Int):Int) else -1:=by
  rw [getD_eq_getElem?_getD,getElem?_eq_getElem (by rw [VL];exact h),Option.getD_some,Mb h]
theorem E0 {n:Nat} {o:List Int} (ok:okO n o) (x:Int):(byL n o).getD x.toNat 0<max (n:Int) 1:=by
  rcases Nat.lt_or_ge x.toNat n with h | h
  · rw [S9 h];split
    · rename_i hm
      have:=List.idxOf_lt_length_of_mem hm
      have:=ok.len;omega
    · omega
  · rw [getD_eq_getElem?_getD,getElem?_eq_none (by rw [VL];exact h)];simp;omega
def smJ (m:List Tm) (o:List Int) (g:Nat→Sm) (p:Nat):List Sm:=(range m.length).map fun k:Nat=>if k<p∧((k:Int)∉o∧rcB (cdL m) m.length (o.getD 0 0).toNat k=true) then g k else zS
theorem DY (m:List Tm) (o:List Int) (g:Nat→Sm) (p:Nat):(smJ m o g p).length=m.length:=by simp [smJ]
theorem D0 (m:List Tm) (o:List Int) (g:Nat→Sm) {n:Nat} (h:n=m.length):replicate n zS=smJ m o g 0:=by
  subst h
  apply ext_getElem (by simp [smJ])
  intro i h1 h2;simp [smJ]
theorem GB {m:List Tm} {o:List Int} {g:Nat→Sm} {p:Nat} {s:Sm} (hc:(p:Int)∉o∧rcB (cdL m) m.length (o.getD 0 0).toNat p=true) (hs:s=g p):(smJ m o g p).set p s=smJ m o g (p+1):=by
  subst hs
  apply ext_getElem (by simp [smJ])
  intro i h1 h2
  simp only [smJ,List.getElem_set,getElem_map,getElem_range]
  by_cases e:p=i
  · subst e;rw [if_pos rfl,if_pos ⟨by omega,hc⟩]
  · rw [if_neg e];congr 1;simp only [eq_iff_iff];constructor
    · rintro ⟨a,b⟩;exact ⟨by omega,b⟩
    · rintro ⟨a,b⟩;exact ⟨by omega,b⟩
theorem GC {m:List Tm} {o:List Int} {g:Nat→Sm} {p:Nat} (hc:¬ ((p:Int)∉o∧rcB (cdL m) m.length (o.getD 0 0).toNat p=true)):smJ m o g p=smJ m o g (p+1):=by
  apply map_congr_left
  intro k _
  congr 1;simp only [eq_iff_iff];constructor
  · rintro ⟨a,b⟩;exact ⟨by omega,b⟩
  · rintro ⟨a,b⟩
    refine ⟨?_,b⟩
    rcases Nat.lt_or_ge k p with h | h
    · exact h
    · obtain rfl:k=p:=by omega
      exact absurd b hc
theorem DZ {m:List Tm} {o:List Int} {g:Nat→Sm} {p:Nat} (h:m.length≤p):smJ m o g p=smL m o g:=by
  apply map_congr_left
  intro k hk
  have:=mem_range.1 hk
  congr 1;simp only [eq_iff_iff];constructor
  · exact fun z=>z.2
  · exact fun z=>⟨by omega,z⟩
theorem Ja (m:List Tm) (o:List Int) (g:Nat→Sm):(smL m o g).length=m.length:=by simp [smL]
theorem PZ {m:List Tm} (h:okG m) {o:List Int} (ok:okO m.length o) (s:List Sm) {n:Int} (h0:0≤n) (h1:n<(m.length:Int)):Zx 60 8 (Yy (byL m.length o) s (atL m n.toNat))=0:=by
  have hm:=h.ck _ (Rd (l:=m) (i:=n.toNat) (by omega))
  have hl:=h.lo
  have hh:=h.hi
  refine Lt (d:=0) (m:=8) (by omega) (by omega) (PY (fun x _ _=>?_) hm)
  have:=E0 ok x;omega
theorem IM {m:List Tm} (h:okG m) {o:List Int} (ok:okO m.length o) {s:List Sm} (hs:s.length=m.length) (n:Int):Q9 (byL m.length o) s (sfR (atL m n.toNat)):=fun x hx=>by
  have hx:=h.ok.at n.toNat x hx
  have:=E0 ok x
  have hh:=h.hi
  refine ⟨hx.1,by rw [VL];exact hx.2,fun _=>by omega,?_⟩
  generalize hy:(byL m.length o).getD x.toNat 0=y at *
  have h2: -1≤y:=by rw [← hy,S9 (by omega)];split <;> omega
  unfold inI;omega
def cdK (m:List Tm) (o:List Int) (s:List Sm) (n:Int):It:=itT (Yy (byL m.length o) s (atL m n.toNat))
theorem KH {m:List Tm} (h:okG m) {o:List Int} (ok:okO m.length o) (g:Nat→Sm):gdI (cdI m o g)∧szI (cdI m o g)≤4801∧dpI (cdI m o g)≤121:=by
  have hl:=ok.len
  have hh:=h.hi
  have key:∀ l:List Int,(∀ x∈l,0≤x∧x<(m.length:Int))→Xk (l.map (cdK m o (smL m o g)))∧Xu (l.map (cdK m o (smL m o g)))≤600*l.length∧Wx (l.map (cdK m o (smL m o g)))≤120:=by
    intro l
    induction l with
    | nil=>intro _;simp [Xk,Xu,Wx]
    | cons x l ih=>
      intro hx
      have a:=Pd (PZ h ok (smL m o g) (hx x (by simp)).1 (hx x (by simp)).2)
      have b:=ih fun y hy=>hx y (by simp [hy])
      simp only [map_cons,Xk,Xu,Wx,length_cons]
      unfold cdK
      exact ⟨⟨a.1,b.1⟩,by have:=b.2.1;unfold cdK at this;omega,by have:=b.2.2;unfold cdK at this;omega⟩
  have k:=key o ok.2
  unfold cdI
  rw [gdI,szI,dpI]
  exact ⟨⟨by omega,by omega,by decide,k.1⟩,by have:=k.2.1;unfold cdK at this;omega,by have:=k.2.2;unfold cdK at this;omega⟩
theorem Lu {m:List Tm} {o:List Int} {s:List Sm} {p:Nat} (h:p<o.length):(o.take (p+1)).map (cdK m o s)=(o.take p).map (cdK m o s)++[cdK m o s o[p]]:=by
  rw [take_succ_eq_append_getElem h,map_append];rfl
def coO (m:List Tm) (f i:Nat):List Int:=if coE m f i=true then [] else Ya (coI m f i)
def coR (m:List Tm) (f i:Nat):Int:=if coE m f i=true then 11 else 0
theorem Lq {m:List Tm} {f i:Nat}:coI m (f+1) i=cdI m (Wd m i) (fun k=>sha (Ya (coI m f k))):=by rw [coI]
theorem Zas {m:List Tm} (h:okG m) {f i:Nat} (hi:i<m.length):gdI (coI m (f+1) i)∧szI (coI m (f+1) i)≤4801∧dpI (coI m (f+1) i)≤121:=by
  rw [Lq];exact KH h (QB h.ok (by omega) (by omega)) _
theorem BR {l:List Tm} {es:List (List Value)} {c:Zi} {j:Nat} (h:OTs l es c) (hj:j<l.length):∃ e,es[j]?=some e∧e.length=36∧okc e∧∀ h,Has c h→RT h e (atL l j):=by
  rw [Y9 hj];exact BQ h hj
theorem AC {l:List Sm} {j:Nat} (h:j<l.length):(sms l)[j]'(by rw [WN];exact h)=sC (l.getD j zS):=by rw [DW l j h,CR h]
theorem ZbW {m:List Tm} {o:List Int} {i k:Nat} (hk:k<m.length) (ho:o=Wd m i) (h0:o.getD 0 0=(i:Int)) (ha:(byL m.length o)[k]'(by rw [VL];exact hk)<0) (hr:rcB (cdL m) m.length (o.getD 0 0).toNat k=true):
    coX m i k=true∧((k:Int)∉o∧rcB (cdL m) m.length (o.getD 0 0).toNat k=true):=by
  rw [Mb hk] at ha
  have hn:(k:Int)∉o:=by intro q;rw [if_pos q] at ha;omega
  have hr2:=hr
  rw [h0,Int.toNat_natCast] at hr2
  refine ⟨?_,hn,hr⟩
  unfold coX;rw [← ho];simp [hn,hr2]
theorem Ic {m:List Tm} {o:List Int} {i k:Nat} {b:Bool} (hk:k<m.length) (ho:o=Wd m i) (h0:o.getD 0 0=(i:Int)) (hb:b=rcB (cdL m) m.length (o.getD 0 0).toNat k) (h:((decide ((byL m.length o)[k]'(by rw [VL];exact hk)<0))&&b)=false):
    ¬ ((k:Int)∉o∧rcB (cdL m) m.length (o.getD 0 0).toNat k=true)∧coX m i k=false:=by
  have hq:¬ ((k:Int)∉o∧rcB (cdL m) m.length (o.getD 0 0).toNat k=true):=by
    rintro ⟨a,c⟩
    rw [hb,c,Mb hk,if_neg a] at h;simp at h
  refine ⟨hq,?_⟩
  rw [h0,Int.toNat_natCast,ho] at hq
  unfold coX
  by_cases a:(k:Int)∈Wd m i
  · simp [a]
  · cases c:rcB (cdL m) m.length i k with
    | false=>simp
    | true=>exact absurd ⟨a,c⟩ hq
theorem Bi {m:List Tm} {f i k:Nat} (hk:k<m.length) (hx:coX m i k=true) (he:¬ coR m f k=0):coR m (f+1) i=coR m f k∧coO m (f+1) i=[]:=by
  have h1:coE m f k=true:=by
    cases e:coE m f k with
    | true=>rfl
    | false=>unfold coR at he;rw [e] at he;simp at he
  have h2:coE m (f+1) i=true:=by
    rw [coE,Bool.or_eq_true]
    exact .inl (any_eq_true.2 ⟨k,mem_range.2 hk,by rw [hx,h1];rfl⟩)
  unfold coR coO
  rw [h1,h2];exact ⟨rfl,if_pos rfl⟩
theorem EI {m:List Tm} {f k:Nat} (h:coR m f k=0):coE m f k=false∧coO m f k=Ya (coI m f k):=by
  unfold coR at h
  cases e:coE m f k with
  | true=>rw [e] at h;simp at h
  | false=>exact ⟨rfl,by unfold coO;rw [e];exact if_neg (by simp)⟩
theorem J6 {m:List Tm} (h:okG m) {f k:Nat} (hk:k<m.length) (hr:rkM m k<f):(Ya (coI m f k)).length≤250000∧∀ x∈Ya (coI m f k),0≤x∧x≤255:=by
  cases f with
  | zero=>exact absurd hr (by omega)
  | succ f=>
    have g:=Zas h (f:=f) hk
    have:=QJ _ g.1 (by omega)
    exact ⟨by omega,ZbO _ g.1⟩
theorem Bh {m:List Tm} {f i:Nat} {o:List Int} (ho:o=Wd m i) (hn:∀ k,k<m.length→coX m i k=true→coE m f k=false):
    XV (cdI m o (fun k=>sha (Ya (coI m f k))))=coR m (f+1) i∧Sb (cdI m o (fun k=>sha (Ya (coI m f k))))=coO m (f+1) i:=by
  subst ho
  rw [← Lq]
  have ha:(range m.length).any (fun k=>coX m i k&&coE m f k)=false:=by
    rw [List.any_eq_false]
    intro k hk
    have:=hn k (mem_range.1 hk)
    cases e:coX m i k with
    | false=>simp
    | true=>simp [this e]
  have he:coE m (f+1) i=decide (65536<(Ya (coI m (f+1) i)).length):=by rw [coE,ha,Bool.false_or]
  unfold coR coO XV Sb
  rw [he]
  by_cases c:65536<(Ya (coI m (f+1) i)).length <;> simp [c]
theorem nmk {l:List Tm} {i:Nat} (hi:i<l.length):(firstN l i:Int)<((mkL l).length:Int):=by rw [Z0];have:=YJ hi;omega
noncomputable def cR (l:List Tm) (i:Nat):Int:=coR (mkL l) ((mkL l).length+1) (firstN l i)
noncomputable def cO (l:List Tm) (i:Nat):List Int:=coO (mkL l) ((mkL l).length+1) (firstN l i)
noncomputable def cB (l:List Tm) (i:Nat):List Int:=Ya (YD (mkL l) (firstN l i))
theorem EY {l:List Tm} {i:Nat} (h:cR l i=0):cO l i=cB l i:=(EI h).2
theorem Tj (l:List Tm) (i:Nat):cR l i=if TQ (mkL l) (firstN l i)=true then 11 else 0:=rfl
theorem EZ {l:List Tm} (h:okG l) {i:Nat} (hi:i<l.length):(cB l i).length≤250000∧∀ x∈cB l i,0≤x∧x≤255:=by
  have:=NH (mkL l) (firstN l i)
  exact J6 h.mkL (f:=(mkL l).length+1) (by rw [Z0];exact YJ hi) (by omega)
noncomputable def smG (l:List Tm):List Sm:=(range l.length).map fun i=>sha (cB l i)
noncomputable def erG (l:List Tm):Bool:=(range l.length).any fun i=> !decide (cR l i=0)
noncomputable def erR (l:List Tm):Int:=if erG l=true then 11 else 0
noncomputable def smO (l:List Tm):List Sm:=if erG l=true then [] else smG l
theorem VD (l:List Tm):(smG l).length=l.length:=by simp [smG]
theorem My {l:List Tm} {j:Nat} (h:j<l.length):(smG l).take (j+1)=(smG l).take j++[sha (cB l j)]:=by
  rw [take_succ_eq_append_getElem (by rw [VD];exact h)];simp [smG]
theorem Gs {l:List Tm} {j:Nat} (hj:j<l.length) (h:¬ cR l j=0):erR l=cR l j∧smO l=[]:=by
  have e:erG l=true:=any_eq_true.2 ⟨j,mem_range.2 hj,by simp [h]⟩
  unfold erR smO
  rw [e,if_pos rfl,if_pos rfl]
  refine ⟨?_,rfl⟩
  rw [Tj] at h ⊢
  split at h
  · rename_i c;rw [if_pos c]
  · exact absurd rfl h
theorem Nr {l:List Tm} (h:∀ k,k<l.length→cR l k=0):erR l=0∧smO l=smG l∧erG l=false:=by
  have e:erG l=false:=List.any_eq_false.2 fun k hk=>by simp [h k (mem_range.1 hk)]
  unfold erR smO
  rw [e];exact ⟨rfl,rfl,rfl⟩
theorem Ep {l:List Tm} (h:erR l=0):erG l=false∧smO l=smG l:=by
  cases e:erG l with
  | true=>unfold erR at h;rw [e] at h;simp at h
  | false=>unfold smO;rw [e];exact ⟨rfl,rfl⟩
theorem Zam {l:List Tm} (h:¬ erR l=0):erG l=true:=by
  cases e:erG l with
  | true=>rfl
  | false=>unfold erR at h;rw [e] at h;exact absurd rfl h
noncomputable def opL (l:List Tm):List Tm:=l.map (Yy (replicate l.length (-1)) (smG l))
noncomputable def opO (l:List Tm):List Tm:=if erG l=true then [] else opL l
theorem Tv (l:List Tm):(opL l).length=l.length:=by simp [opL]
theorem MO {l:List Tm} {j:Nat} (h:j<l.length):(opL l).take (j+1)=(opL l).take j++[Yy (replicate l.length (-1)) (smG l) l[j]]:=by
  rw [take_succ_eq_append_getElem (by rw [Tv];exact h)];simp [opL]
theorem Bx {n j:Nat} (h:n≤j):byI n j=replicate n (-1):=by
  apply ext_getElem (by simp [byI])
  intro i h1 h2
  have:i<n:=by simpa [byI] using h1
  simp [byI];omega
theorem LW {l:List Tm} (ok:okC l) {s:List Sm} (hs:s.length=l.length) {t:Tm} (h:t∈l):Q9 (replicate l.length (-1)) s (sfR t):=fun n hn=>by
  have:=ok t h n hn
  have e:(replicate l.length (-1:Int)).getD n.toNat 0= -1:=by rw [getD_eq_getElem?_getD,getElem?_replicate,if_pos (by omega)];rfl
  exact ⟨this.1,by simpa using this.2,fun _=>by omega,by rw [e];unfold inI;omega⟩
theorem OL.nil:OL [] (.slice none 0 0) []:=⟨[],[],[],Own.nil,OTs.nil,rfl,by simp⟩
section
variable {σ:Type} (F:σ→Tm→σ)
mutual
def ndT:σ→Tm→σ
  | s,.mk k n r kids cases=>ndC (ndL (F s (.mk k n r kids cases)) kids) cases
def ndL:σ→List Tm→σ
  | s,[]=>s
  | s,t::l=>ndL (ndT s t) l
def ndC:σ→List (Pt×Tm)→σ
  | s,[]=>s
  | s,c::l=>ndC (ndT s c.2) l
end
end
section
variable {σ:Type} {F:σ→Tm→σ} {wt:σ→Nat}
mutual
theorem NP (hw:∀ s y,wt (F s y)≤wt s+1):∀ (s:σ) (t:Tm),wt (ndT F s t)≤wt s+sizeT t
  | s,.mk k n r kids cases=>by
    have a:=hw s (.mk k n r kids cases)
    have b:=NR hw (F s (.mk k n r kids cases)) kids
    have c:=Kb hw (ndL F (F s (.mk k n r kids cases)) kids) cases
    rw [ndT,sizeT];omega
theorem NR (hw:∀ s y,wt (F s y)≤wt s+1):∀ (s:σ) (l:List Tm),wt (ndL F s l)≤wt s+ZL l
  | s,[]=>by simp [ndL,ZL]
  | s,t::l=>by
    have a:=NP hw s t
    have b:=NR hw (ndT F s t) l
    rw [ndL,ZL];omega
theorem Kb (hw:∀ s y,wt (F s y)≤wt s+1):∀ (s:σ) (l:List (Pt×Tm)),wt (ndC F s l)≤wt s+ZX l
  | s,[]=>by simp [ndC,ZX]
  | s,(p,t)::l=>by
    have a:=NP hw s t
    have b:=Kb hw (ndT F s t) l
    simp only [ndC,ZX];omega
end
theorem Fx {l:List Tm} {j:Nat} (h:j<l.length):∀ s,ndL F s (l.take (j+1))=ndT F (ndL F s (l.take j)) l[j]:=by
  induction l generalizing j with
  | nil=>exact absurd h (by simp)
  | cons t l ih=>
    intro s
    cases j with
    | zero=>simp [ndL]
    | succ j=>simp only [take_succ_cons,ndL,getElem_cons_succ];exact ih (by simpa using h) _
theorem Fz {l:List (Pt×Tm)} {j:Nat} (h:j<l.length):∀ s,ndC F s (l.take (j+1))=ndT F (ndC F s (l.take j)) l[j].2:=by
  induction l generalizing j with
  | nil=>exact absurd h (by simp)
  | cons t l ih=>
    intro s
    cases j with
    | zero=>simp [ndC]
    | succ j=>simp only [take_succ_cons,ndC,getElem_cons_succ];exact ih (by simpa using h) _
end
theorem Sq {l:List Tm} {j:Nat} (h:j<l.length):ZL (l.take j)+sizeT l[j]≤ZL l:=by
  induction l generalizing j with
  | nil=>exact absurd h (by simp)
  | cons t l ih=>
    cases j with
    | zero=>simp [ZL]
    | succ j=>simp only [take_succ_cons,ZL,getElem_cons_succ];have:=ih (by simpa using h);omega
theorem Nu {l:List (Pt×Tm)} {j:Nat} (h:j<l.length):ZX (l.take j)+sizeT l[j].2≤ZX l:=by
  induction l generalizing j with
  | nil=>exact absurd h (by simp)
  | cons t l ih=>
    cases j with
    | zero=>simp [ZX];omega
    | succ j=>simp only [take_succ_cons,ZX,getElem_cons_succ];have:=ih (by simpa using h);omega
def sfF (s:List Int) (y:Tm):List Int:=if y.kind=7 then s++[y.num] else s
theorem GH (s:List Int) (y:Tm):(sfF s y).length≤s.length+1:=by unfold sfF;split <;> simp
mutual
theorem Ka {d m:Int}:∀ (b:Int) (t:Tm) (s:List Int),Y6 d m b t=0→ndT sfF s t=s++sfR t
  | b,.mk k n r kids cases,s,h=>by
    obtain ⟨h1,_,h3,h4⟩:=Vl h
    rw [ndT,sfR,sfF]
    by_cases e:k=7
    · subst e
      have q:=SJ h1
      obtain rfl:=eq_nil_of_length_eq_zero q.2.1
      obtain rfl:=eq_nil_of_length_eq_zero q.2.2.1
      rw [show (Tm.mk 7 n r [] []).kind=7 from rfl,if_pos rfl,if_pos rfl];rfl
    · rw [show (Tm.mk k n r kids cases).kind=k from rfl,if_neg e,if_neg e,Fy b k 0 kids s h3,FB b cases _ h4,append_assoc]
theorem Fy {d m:Int}:∀ (b k:Int) (i:Nat) (l:List Tm) (s:List Int),YQ d m b k i l=0→ndL sfF s l=s++Y0 l
  | b,k,i,[],s,_=>by simp [ndL,Y0]
  | b,k,i,t::l,s,h=>by
    rw [YQ] at h
    split at h
    · rename_i h0
      rw [ndL,Y0,Ka _ t s h0,Fy b k (i+1) l _ h,append_assoc]
    · exact absurd h (by assumption)
theorem FB {d m:Int}:∀ (b:Int) (l:List (Pt×Tm)) (s:List Int),YX d m b l=0→ndC sfF s l=s++Y4 l
  | b,[],s,_=>by simp [ndC,Y4]
  | b,(p,t)::l,s,h=>by
    rw [YX] at h
    split at h
    · rename_i h0
      rw [ndC,Y4,Ka _ t s h0,FB b l _ h,append_assoc]
    · exact absurd h (by assumption)
end
def sfP (t:Tm):List Int:=ndT sfF [] t
theorem Qw (t:Tm):(sfP t).length≤sizeT t:=by
  have:=NP (wt:=List.length) GH [] t
  simpa [sfP] using this
theorem Ny {d m:Int} {t:Tm} (h:Zx d m t=0):sfP t=sfR t:=by
  have:=Ka 0 t [] (checkR_iff.1 h).2
  simpa [sfP] using this
section
variable (D:Int→Int→Sm→Int×Int×Sm)
mutual
def mpT:Tm→Tm
  | .mk k n r kids cases=>.mk (D k n r).1 (D k n r).2.1 (D k n r).2.2 (RH kids) (RJ cases)
def RH:List Tm→List Tm
  | []=>[]
  | t::l=>mpT t::RH l
def RJ:List (Pt×Tm)→List (Pt×Tm)
  | []=>[]
  | c::l=>(c.1,mpT c.2)::RJ l
end
theorem Pw (l:List Tm):RH D l=l.map (mpT D):=by induction l with
  | nil=>rfl
  | cons t l ih=>rw [RH,ih];rfl
theorem Px (l:List (Pt×Tm)):RJ D l=l.map fun c=>(c.1,mpT D c.2):=by induction l with
  | nil=>rfl
  | cons t l ih=>rw [RJ,ih];rfl
theorem FE (l:List Tm):(RH D l).length=l.length:=by rw [Pw,length_map]
theorem MX (l:List (Pt×Tm)):(RJ D l).length=l.length:=by rw [Px,length_map]
theorem I2 (l:List Tm) (j:Nat) (h:j<l.length):RH D (l.take (j+1))=RH D (l.take j)++[mpT D l[j]]:=by
  rw [Pw,Pw,take_succ_eq_append_getElem h,map_append];rfl
theorem I3 (l:List (Pt×Tm)) (j:Nat) (h:j<l.length):RJ D (l.take (j+1))=RJ D (l.take j)++[((l[j]).1,mpT D (l[j]).2)]:=by
  rw [Px,Px,take_succ_eq_append_getElem h,map_append];rfl
end
section
variable (Q:Int→Int→Sm→Prop)
mutual
def R5:Tm→Prop
  | .mk k n r kids cases=>Q k n r∧LD kids∧LE cases
def LD:List Tm→Prop
  | []=>True
  | t::l=>R5 t∧LD l
def LE:List (Pt×Tm)→Prop
  | []=>True
  | c::l=>R5 c.2∧LE l
end
end
theorem HC {Q:Int→Int→Sm→Prop} {l:List Tm} (h:LD Q l):∀ t∈l,R5 Q t:=by
  induction l with
  | nil=>intro t ht;exact absurd ht (by simp)
  | cons x l ih=>
    intro t ht
    rcases mem_cons.1 ht with rfl | ht
    · exact h.1
    · exact ih h.2 t ht
theorem HD {Q:Int→Int→Sm→Prop} {l:List (Pt×Tm)} (h:LE Q l):∀ c∈l,R5 Q c.2:=by
  induction l with
  | nil=>intro t ht;exact absurd ht (by simp)
  | cons x l ih=>
    intro t ht
    rcases mem_cons.1 ht with rfl | ht
    · exact h.1
    · exact ih h.2 t ht
mutual
theorem TJ {Q:Int→Int→Sm→Prop} (hQ:∀ k n r,Q k n r):∀ t:Tm,R5 Q t
  | .mk k n r kids cases=>⟨hQ _ _ _,P5 hQ kids,P7 hQ cases⟩
theorem P5 {Q:Int→Int→Sm→Prop} (hQ:∀ k n r,Q k n r):∀ l:List Tm,LD Q l
  | []=>trivial
  | t::l=>⟨TJ hQ t,P5 hQ l⟩
theorem P7 {Q:Int→Int→Sm→Prop} (hQ:∀ k n r,Q k n r):∀ l:List (Pt×Tm),LE Q l
  | []=>trivial
  | t::l=>⟨TJ hQ t.2,P7 hQ l⟩
end
def V3 (m:Int) (k n:Int) (_:Sm):Prop:=k=7→0≤n∧n<m
mutual
theorem R4 {d m:Int}:∀ (b:Int) (t:Tm),Y6 d m b t=0→R5 (V3 m) t
  | b,.mk k n r kids cases,h=>by
    obtain ⟨h1,_,h3,h4⟩:=Vl h
    refine ⟨fun e=>?_,P6 b k 0 kids h3,P8 b cases h4⟩
    subst e;exact (SJ h1).2.2.2
theorem P6 {d m:Int}:∀ (b k:Int) (i:Nat) (l:List Tm),YQ d m b k i l=0→LD (V3 m) l
  | b,k,i,[],_=>trivial
  | b,k,i,t::l,h=>by
    rw [YQ] at h
    split at h
    · rename_i h0;exact ⟨R4 _ t h0,P6 b k (i+1) l h⟩
    · exact absurd h (by assumption)
theorem P8 {d m:Int}:∀ (b:Int) (l:List (Pt×Tm)),YX d m b l=0→LE (V3 m) l
  | b,[],_=>trivial
  | b,(p,t)::l,h=>by
    rw [YX] at h
    split at h
    · rename_i h0;exact ⟨R4 _ t h0,P8 b l h⟩
    · exact absurd h (by assumption)
end
def O2 (D:Int→Int→Sm→Int×Int×Sm) (m:Int) (b:List Int) (s:List Sm):Prop:=
  (∀ k n r,k≠7→D k n r=(k,n,r))∧∀ n:Int,0≤n→n<m→D 7 n zS=if b.getD n.toNat 0<0 then (6,0,s.getD n.toNat zS) else (7,b.getD n.toNat 0,zS)
mutual
theorem Tw {D:Int→Int→Sm→Int×Int×Sm} {d m:Int} {b':List Int} {s:List Sm} (hD:O2 D m b' s):∀ (b:Int) (t:Tm),Y6 d m b t=0→mpT D t=Yy b' s t
  | b,.mk k n r kids cases,h=>by
    obtain ⟨h1,_,h3,h4⟩:=Vl h
    rw [mpT,Yy]
    by_cases e:k=7
    · subst e
      have q:=SJ h1
      obtain rfl:=eq_nil_of_length_eq_zero q.2.1
      obtain rfl:=eq_nil_of_length_eq_zero q.2.2.1
      obtain rfl:=q.1
      rw [if_pos rfl,hD.2 n q.2.2.2.1 q.2.2.2.2]
      split <;> rfl
    · rw [if_neg e,hD.1 k n r e,MV hD b k 0 kids h3,MW hD b cases h4]
theorem MV {D:Int→Int→Sm→Int×Int×Sm} {d m:Int} {b':List Int} {s:List Sm} (hD:O2 D m b' s):∀ (b k:Int) (i:Nat) (l:List Tm),YQ d m b k i l=0→RH D l=YF b' s l
  | b,k,i,[],_=>rfl
  | b,k,i,t::l,h=>by
    rw [YQ] at h
    split at h
    · rename_i h0;rw [RH,YF,Tw hD _ t h0,MV hD b k (i+1) l h]
    · exact absurd h (by assumption)
theorem MW {D:Int→Int→Sm→Int×Int×Sm} {d m:Int} {b':List Int} {s:List Sm} (hD:O2 D m b' s):∀ (b:Int) (l:List (Pt×Tm)),YX d m b l=0→RJ D l=YC b' s l
  | b,[],_=>rfl
  | b,(p,t)::l,h=>by
    rw [YX] at h
    split at h
    · rename_i h0;rw [RJ,YC,Tw hD _ t h0,MW hD b l h]
    · exact absurd h (by assumption)
end
def nmD (f:Int→Int) (k n:Int) (r:Sm):Int×Int×Sm:=(k,if k=7 then f n else n,r)
theorem A2 {f:Int→Int} {m:Int} (hf:∀ n,0≤n→n<m→inI (f n)):∀ k n r,inI k→inI n→V3 m k n r→inI (nmD f k n r).1∧inI (nmD f k n r).2.1:=fun k n r hk hn hq=>by
  unfold nmD
  by_cases e:k=7
  · rw [if_pos e];exact ⟨hk,hf n (hq e).1 (hq e).2⟩
  · rw [if_neg e];exact ⟨hk,hn⟩
def blP (t:Tm):Tm:=mpT (nmD fun _=>0) t
theorem Jt {f:Int→Int} {m:Int} {b:List Int} (h:∀ n:Int,0≤n→n<m→b.getD n.toNat 0=f n∧0≤f n):O2 (nmD f) m b []:=⟨fun k n r hk=>by unfold nmD;rw [if_neg hk],fun n h0 h1=>by
  obtain ⟨e,e2⟩:=h n h0 h1
  unfold nmD;rw [if_pos rfl,e,if_neg (by omega)]⟩
theorem ZaH {d:Int} {n:Nat} {t:Tm} (h:Y6 d n 0 t=0):blP t=Yy (replicate n 0) [] t:=
  Tw (Jt fun x h0 h1=>⟨by rw [getD_eq_getElem?_getD,getElem?_replicate];split <;> rfl,Int.le_refl 0⟩) 0 t h
def Xd (p:Nat→Bool) (n:Nat):Int:=if (range n).findIdx p<n then ((range n).findIdx p:Int) else -1
theorem SR {p:Nat→Bool} {n j:Nat} (hj:j<n) (hp:p j=true) (hm:∀ i,i<j→p i=false):Xd p n=(j:Int):=by
  have e:(range n).findIdx p=j:=by
    rw [List.findIdx_eq (by simpa using hj)]
    refine ⟨by simpa using hp,fun k hk=>by simpa using hm k hk⟩
  unfold Xd;rw [e,if_pos hj]
theorem WJ {p:Nat→Bool} {n:Nat} (hm:∀ i,i<n→p i=false):Xd p n= -1:=by
  unfold Xd
  rw [if_neg]
  intro h
  have:=List.findIdx_getElem (p:=p) (xs:=range n) (w:=by simpa using h)
  rw [getElem_range,hm _ h] at this
  exact absurd this (by simp)
theorem Xw {p:Nat→Bool} {n i:Nat} (hi:i<n) (hp:p i=true):∃ k:Nat,Xd p n=(k:Int)∧k<n∧p k=true∧∀ m,m<k→p m=false:=by
  have h:(range n).findIdx p<(range n).length:=List.findIdx_lt_length.2 ⟨i,mem_range.2 hi,hp⟩
  have h2:(range n).findIdx p<n:=by simpa using h
  refine ⟨(range n).findIdx p,by unfold Xd;rw [if_pos h2],h2,?_,fun m hm=>?_⟩
  · have:=List.findIdx_getElem (p:=p) (xs:=range n) (w:=h)
    rwa [getElem_range] at this
  · have:=List.not_of_lt_findIdx hm
    simpa using this
theorem Ki {p q:Nat→Bool} {n:Nat} (h:∀ j,j<n→p j=q j):Xd p n=Xd q n:=by
  by_cases c:∃ i,i<n∧p i=true
  · obtain ⟨i,hi,hp⟩:=c
    obtain ⟨k,e,hk,hk2,hm⟩:=Xw hi hp
    rw [e,SR hk (by rw [← h k hk];exact hk2) fun m hm2=>by rw [← h m (by omega)];exact hm m hm2]
  · have c1:∀ i,i<n→p i=false:=fun i hi=>by cases e:p i with
      | false=>rfl
      | true=>exact absurd ⟨i,hi,e⟩ c
    rw [WJ c1,WJ fun i hi=>by rw [← h i hi];exact c1 i hi]
theorem CM (p:Nat→Bool) (n:Nat): -1≤Xd p n∧Xd p n≤n:=by unfold Xd;split <;> omega
def fsB (p:Nat→Nat→Bool) (n:Nat):List Int:=(range n).map fun i=>Xd (p i) n
theorem QH (p:Nat→Nat→Bool) (n:Nat):(fsB p n).length=n:=by simp [fsB]
theorem SV (p:Nat→Nat→Bool) {n i:Nat} (h:i<n):(fsB p n).getD i 0=Xd (p i) n:=by
  unfold fsB;rw [getD_eq_getElem?_getD,getElem?_eq_getElem (by simpa using h)];simp
theorem O5 {p q:Nat→Nat→Bool} {n:Nat} (h:∀ i,i<n→∀ j,j<n→p i j=q i j):fsB p n=fsB q n:=by
  unfold fsB
  apply map_congr_left
  intro i hi
  exact Ki (h i (mem_range.1 hi))
theorem La (p:Nat→Nat→Bool) (n:Nat) {j:Nat} (h:j<n):(fsB p n).take (j+1)=(fsB p n).take j++[Xd (p j) n]:=by
  rw [take_succ_eq_append_getElem (by rw [QH];exact h)]
  congr 2
  simp [fsB]
structure eqvB (p:Nat→Nat→Bool) (n:Nat):Prop where
  r:∀ i,i<n→p i i=true
  s:∀ i j,i<n→j<n→p i j=true→p j i=true
  t:∀ i j k,i<n→j<n→k<n→p i j=true→p j k=true→p i k=true
theorem eqvB.iff {p:Nat→Nat→Bool} {n:Nat} (h:eqvB p n) {i j:Nat} (hi:i<n) (hj:j<n):Xd (p i) n=Xd (p j) n↔p i j=true:=by
  obtain ⟨a,ea,la,pa,ma⟩:=Xw hi (h.r i hi)
  obtain ⟨b,eb,lb,pb,mb⟩:=Xw hj (h.r j hj)
  rw [ea,eb]
  constructor
  · intro e
    obtain rfl:a=b:=by omega
    exact h.t _ _ _ hi la hj pa (h.s _ _ hj la pb)
  · intro e
    have h1:¬ a<b:=fun hab=>by
      have:=mb a hab
      rw [h.t _ _ _ hj hi la (h.s _ _ hi hj e) pa] at this
      exact absurd this (by simp)
    have h2:¬ b<a:=fun hab=>by
      have:=ma b hab
      rw [h.t _ _ _ hi hj lb e pb] at this
      exact absurd this (by simp)
    omega
def V0 (l:List Int):Nat:=(l.map Int.toNat).sum
theorem K6 {n:Nat} {f:Nat→Int} (h:∀ i,i<n→f i≤n):∀ m,m≤n→V0 ((range m).map f)≤m*n
  | 0,_=>by simp [V0]
  | m+1,hm=>by
    have:=K6 h m (by omega)
    unfold V0 at this ⊢
    rw [range_succ,map_append,map_append,List.sum_append]
    have h1:=h m (by omega)
    simp only [map_cons,map_nil,List.sum_cons,List.sum_nil]
    rw [Nat.add_mul];omega
theorem DO {f g:Nat→Int}:∀ n,(∀ i,i<n→0≤f i∧f i≤g i)→(∃ i,i<n∧f i≠g i)→V0 ((range n).map f)<V0 ((range n).map g):=by
  have le:∀ n,(∀ i,i<n→0≤f i∧f i≤g i)→V0 ((range n).map f)≤V0 ((range n).map g):=by
    intro n
    induction n with
    | zero=>intro _;simp [V0]
    | succ n ih=>
      intro h
      have a:=ih fun i hi=>h i (by omega)
      have b:=h n (by omega)
      unfold V0 at a ⊢
      rw [range_succ]
      simp only [map_append,List.sum_append,map_cons,map_nil,List.sum_cons,List.sum_nil]
      omega
  intro n
  induction n with
  | zero=>rintro _ ⟨i,hi,_⟩;omega
  | succ n ih=>
    rintro h ⟨i,hi,hne⟩
    have b:=h n (by omega)
    have key:V0 ((range (n+1)).map f)=V0 ((range n).map f)+(f n).toNat∧V0 ((range (n+1)).map g)=V0 ((range n).map g)+(g n).toNat:=by
      unfold V0;rw [range_succ];simp
    rw [key.1,key.2]
    by_cases c:i=n
    · subst c
      have:=le i fun i hi=>h i (by omega)
      omega
    · have:=ih (fun i hi=>h i (by omega)) ⟨i,by omega,hne⟩
      omega
theorem Ef {p q:Nat→Nat→Bool} {n:Nat} (hq:eqvB q n) (hp:∀ i,i<n→p i i=true) (h:∀ i j,i<n→j<n→q i j=true→p i j=true) (hne:fsB q n≠fsB p n):V0 (fsB p n)<V0 (fsB q n):=by
  have key:∀ i,i<n→0≤Xd (p i) n∧Xd (p i) n≤Xd (q i) n:=fun i hi=>by
    obtain ⟨a,ea,la,pa,ma⟩:=Xw hi (hp i hi)
    obtain ⟨b,eb,lb,pb,mb⟩:=Xw hi (hq.r i hi)
    rw [ea,eb]
    have:¬ b<a:=fun hab=>by
      have:=ma b hab
      rw [h i b hi lb pb] at this
      exact absurd this (by simp)
    omega
  refine DO n key ?_
  by_cases c:∃ i,i<n∧Xd (p i) n≠Xd (q i) n
  · exact c
  · refine absurd ?_ hne
    unfold fsB
    apply map_congr_left
    intro i hi
    by_cases d:Xd (p i) n=Xd (q i) n
    · exact d.symm
    · exact absurd ⟨i,mem_range.1 hi,d⟩ c
open Classical in
noncomputable def rnB (l:List Tm) (n i j:Nat):Bool:=decide (eqN (e0L l) (sL l) n i j)
noncomputable def rnI (l:List Tm) (n:Nat):List Int:=fsB (rnB l n) l.length
theorem Ux {l:List Tm} (ok:okC l) (n:Nat):eqvB (rnB l n) l.length where
  r i _:=by simpa [rnB] using SY (e0:=e0L l) (s:=sL l) (fun _=>rfl) n i
  s i j _ _ h:=by
    simp only [rnB,decide_eq_true_eq] at h ⊢
    exact SX (e0:=e0L l) (s:=sL l) (fun _ _ e=>Eq.symm e) (fun _ _=>WO ok) n h
  t i j k _ _ _ h h':=by
    simp only [rnB,decide_eq_true_eq] at h h' ⊢
    exact TE (e0:=e0L l) (s:=sL l) (fun _ _ _ e f=>Eq.trans e f) (fun _ _=>WO ok) n h h'
theorem D8 {l:List Tm} (ok:okC l) {n:Nat} (h:rnI l (n+1)=rnI l n):rnI l n=frI l:=by
  have st:∀ i j,i<l.length→j<l.length→eqN (e0L l) (sL l) n i j→eqN (e0L l) (sL l) (n+1) i j:=fun i j hi hj e=>by
    have a:Xd (rnB l n i) l.length=Xd (rnB l n j) l.length:=((Ux ok n).iff hi hj).2 (by simpa [rnB] using e)
    have g:∀ i,i<l.length→Xd (rnB l (n+1) i) l.length=Xd (rnB l n i) l.length:=fun i hi=>by rw [← SV _ hi,← SV _ hi];unfold rnI at h;rw [h]
    rw [← g i hi,← g j hj] at a
    have:=((Ux ok (n+1)).iff hi hj).1 a
    simpa [rnB] using this
  have key:=Kv (fun i hi x hx=>ok.lt i x hx) (fun _ _=>WO ok) st
  unfold rnI frI fsB
  apply map_congr_left
  intro i hi
  have hi:=mem_range.1 hi
  obtain ⟨k,e,hk,hk2,hm⟩:=Xw hi ((Ux ok n).r i hi)
  rw [e]
  refine congrArg Int.ofNat (Uh hi (key i k hi hk (by simpa [rnB] using hk2)) fun a ha b=>?_).symm
  have:=hm a ha
  simp only [rnB,decide_eq_false_iff_not] at this
  exact this (b n)
theorem GV {l:List Tm} (ok:okC l) {n:Nat} (h:rnI l (n+1)≠rnI l n):V0 (rnI l n)<V0 (rnI l (n+1)):=
  Ef (Ux ok (n+1)) (Ux ok n).r (fun i j _ _ e=>by simp only [rnB,decide_eq_true_eq] at e ⊢;exact e.1) h
theorem D7 (l:List Tm) (n:Nat):V0 (rnI l n)≤l.length*l.length:=K6 (fun i _=>(CM _ _).2) l.length (Nat.le_refl _)
theorem NF (l:List Tm) (n:Nat):(rnI l n).length=l.length:=QH _ _
theorem NG {l:List Tm} (ok:okC l) (n:Nat) {i:Nat} (h:i<l.length):0≤(rnI l n).getD i 0∧(rnI l n).getD i 0<l.length:=by
  unfold rnI;rw [SV _ h]
  obtain ⟨k,e,hk,_⟩:=Xw h ((Ux ok n).r i h)
  rw [e];omega
theorem Qy {l:List Tm} (ok:okC l) (n:Nat) {i j:Nat} (hi:i<l.length) (hj:j<l.length):(rnI l n).getD i 0=(rnI l n).getD j 0↔eqN (e0L l) (sL l) n i j:=by
  unfold rnI;rw [SV _ hi,SV _ hj,(Ux ok n).iff hi hj];simp [rnB]
def U2 (N:Int) (out:List Int) (s:List (Int×Int)×Int) (n:Int):List (Int×Int)×Int:=(Ot s.1 (s.2,out.getD n.toNat 0+1),SH N (Ot s.1 (s.2,out.getD n.toNat 0+1)) s.2 (out.getD n.toNat 0+1))
def UB (N:Int) (out:List Int) (s:List (Int×Int)×Int) (ns:List Int):List (Int×Int)×Int:=ns.foldl (U2 N out) s
theorem RL (N:Int) (out:List Int) (s:List (Int×Int)×Int) {ns:List Int} {j:Nat} (h:j<ns.length):UB N out s (ns.take (j+1))=U2 N out (UB N out s (ns.take j)) ns[j]:=by
  unfold UB;rw [take_succ_eq_append_getElem h,List.foldl_append];rfl
theorem Dg (K:List (Int×Int)) (p:Int×Int):(Ot K p).length≤K.length+1:=by unfold Ot;split <;> simp
theorem MZ (N:Int) (out:List Int) (ns:List Int):∀ s,(UB N out s ns).1.length≤s.1.length+ns.length:=by
  induction ns with
  | nil=>intro s;simp [UB]
  | cons n ns ih=>intro s;have a:=ih (U2 N out s n);have b:=Dg s.1 (s.2,out.getD n.toNat 0+1);unfold UB at a ⊢;rw [List.foldl_cons,length_cons];unfold U2 at a ⊢;simp only at a;omega
def clO (out:List Int) (ns:List Int):List Int:=(ns.map fun n=>out.getD n.toNat 0+1).reverse
theorem CA (N:Int) (out:List Int) (ns:List Int):∀ (K0:List (Int×Int)) (o:Int),K0<+:(UB N out (K0,o) ns).1∧(UB N out (K0,o) ns).2=TV N (UB N out (K0,o) ns).1 o (clO out ns)∧inK N (UB N out (K0,o) ns).1 o (clO out ns):=by
  have key:∀ j,j≤ns.length→∀ (K0:List (Int×Int)) (o:Int),K0<+:(UB N out (K0,o) (ns.take j)).1∧(UB N out (K0,o) (ns.take j)).2=TV N (UB N out (K0,o) (ns.take j)).1 o (clO out (ns.take j))∧inK N (UB N out (K0,o) (ns.take j)).1 o (clO out (ns.take j)):=by
    intro j
    induction j with
    | zero=>intro _ K0 o;exact ⟨List.prefix_refl _,rfl,trivial⟩
    | succ j ih=>
      intro hj K0 o
      obtain ⟨h1,h2,h3⟩:=ih (by omega) K0 o
      have hc:clO out (ns.take (j+1))=(out.getD ns[j].toNat 0+1)::clO out (ns.take j):=by unfold clO;rw [take_succ_eq_append_getElem (by omega),map_append,List.reverse_append];rfl
      rw [RL N out (K0,o) (by omega),hc]
      generalize hm:UB N out (K0,o) (ns.take j)=m at h1 h2 h3
      obtain ⟨K,q⟩:=m
      simp only at h1 h2 h3
      obtain ⟨e1,e2⟩:=Q8 (LF K (q,out.getD ns[j].toNat 0+1)) h3
      refine ⟨h1.trans (LF _ _),?_,?_,e2⟩
      · show SH N _ q _=SH N _ (TV N _ o _) _
        unfold U2;simp only
        rw [e1,← h2]
      · show (TV N _ o _,_)∈_
        unfold U2;simp only
        rw [e1,← h2];exact Df _ _
  intro K0 o
  have:=key ns.length (Nat.le_refl _) K0 o
  rwa [List.take_length] at this
def Vy (N:Int) (out:List Int) (sf:Nat→List Int):Nat→List (Int×Int)×List Int
  | 0=>([],[])
  | i+1=>((UB N out ((Vy N out sf i).1,out.getD i 0) (sf i)).1,(Vy N out sf i).2++[(UB N out ((Vy N out sf i).1,out.getD i 0) (sf i)).2])
theorem Uo (N:Int) (out:List Int) (sf:Nat→List Int):∀ i,(Vy N out sf i).2.length=i
  | 0=>rfl
  | i+1=>by rw [Vy,length_append,Uo N out sf i];rfl
theorem Mh (N:Int) (out:List Int) (sf:Nat→List Int):∀ m i,i<m→(Vy N out sf m).2.getD i 0=TV N (Vy N out sf m).1 (out.getD i 0) (clO out (sf i))∧inK N (Vy N out sf m).1 (out.getD i 0) (clO out (sf i))
  | 0,i,h=>absurd h (by omega)
  | m +1,i,h=>by
    obtain ⟨h1,h2,h3⟩:=CA N out (sf m) (Vy N out sf m).1 (out.getD m 0)
    rw [Vy]
    by_cases c:i=m
    · subst c
      refine ⟨?_,h3⟩
      rw [getD_eq_getElem?_getD,List.getElem?_append_right (by rw [Uo];omega),Uo]
      simpa using h2
    · obtain ⟨a,b⟩:=Mh N out sf m i (by omega)
      obtain ⟨e1,e2⟩:=Q8 h1 b
      refine ⟨?_,e2⟩
      rw [getD_eq_getElem?_getD,List.getElem?_append_left (by rw [Uo];omega),← getD_eq_getElem?_getD,a]
      exact e1.symm
theorem KP {l:List Tm} (ok:okC l) (n:Nat) {sf:Nat→List Int} (hsf:∀ i,i<l.length→sf i=sfR (atL l i)):
    fsB (fun i j=>decide ((Vy l.length (rnI l n) sf l.length).2.getD i 0=(Vy l.length (rnI l n) sf l.length).2.getD j 0)) l.length=rnI l (n+1):=by
  refine O5 fun i hi j hj=>?_
  obtain ⟨a1,a2⟩:=Mh l.length (rnI l n) sf _ i hi
  obtain ⟨b1,b2⟩:=Mh l.length (rnI l n) sf _ j hj
  have ri:=NG ok n hi
  have rj:=NG ok n hj
  unfold rnB
  rw [Bool.eq_iff_iff]
  simp only [decide_eq_true_eq]
  rw [a1,b1]
  have hl:eqN (e0L l) (sL l) n i j→(sL l i).length=(sL l j).length:=fun e=>WO ok (PH (Nat.zero_le n) e)
  have hs:∀ i,i<l.length→sL l i=(sf i).map Int.toNat:=fun i hi=>by rw [hsf i hi];rfl
  have hg:∀ (i:Nat) (ls:List Int) (k:Nat),k<ls.length→(ls.map Int.toNat).getD k 0=(ls.getD k 0).toNat:=fun i ls k hk=>by
    rw [getD_eq_getElem?_getD,getElem?_map,getD_eq_getElem?_getD,getElem?_eq_getElem hk];rfl
  have hc:∀ (ls ms:List Int),clO (rnI l n) ls=clO (rnI l n) ms↔ls.length=ms.length∧∀ k,k<ls.length→(rnI l n).getD (ls.getD k 0).toNat 0=(rnI l n).getD (ms.getD k 0).toNat 0:=fun ls ms=>by
    unfold clO
    rw [List.reverse_inj]
    constructor
    · intro e
      have el:=congrArg List.length e
      rw [length_map,length_map] at el
      refine ⟨el,fun k hk=>?_⟩
      have:=congrArg (fun x=>x[k]?) e
      simp only [getElem?_map,getElem?_eq_getElem hk,getElem?_eq_getElem (show k<ms.length by omega),Option.map_some,Option.some.injEq] at this
      rw [getD_eq_getElem?_getD (l:=ls),getElem?_eq_getElem hk,getD_eq_getElem?_getD (l:=ms),getElem?_eq_getElem (show k<ms.length by omega)]
      simp only [Option.getD_some];omega
    · rintro ⟨el,h⟩
      refine ext_getElem (by simpa using el) fun k h1 h2=>?_
      have hk:k<ls.length:=by simpa using h1
      have:=h k hk
      rw [getD_eq_getElem?_getD (l:=ls),getElem?_eq_getElem hk,getD_eq_getElem?_getD (l:=ms),getElem?_eq_getElem (show k<ms.length by omega)] at this
      simp only [Option.getD_some] at this
      rw [getElem_map,getElem_map,this]
  constructor
  · intro e
    obtain ⟨e1,e2⟩:=MC ri.2 rj.2 a2 b2 e
    obtain ⟨e3,e4⟩:=(hc _ _).1 e2
    have e5:=(Qy ok n hi hj).1 e1
    refine ⟨e5,fun k hk=>?_⟩
    have hk1:k<(sf i).length:=by rw [hs i hi] at hk;simpa using hk
    have lt:∀ i,i<l.length→∀ k,k<(sf i).length→((sf i).getD k 0).toNat<l.length:=fun i hi k hk=>by
      have:=ok.at i ((sf i).getD k 0) (by rw [← hsf i hi,getD_eq_getElem?_getD,getElem?_eq_getElem hk];exact getElem_mem _)
      omega
    rw [hs i hi,hs j hj,hg i _ k hk1,hg j _ k (by omega)]
    exact (Qy ok n (lt i hi k hk1) (lt j hj k (by omega))).1 (e4 k hk1)
  · intro e
    have e1:=(Qy ok n hi hj).2 e.1
    have e3:(sf i).length=(sf j).length:=by have:=hl e.1;rw [hs i hi,hs j hj] at this;simpa using this
    have e2:clO (rnI l n) (sf i)=clO (rnI l n) (sf j):=(hc _ _).2 ⟨e3,fun k hk=>by
      have lt:∀ i,i<l.length→∀ k,k<(sf i).length→((sf i).getD k 0).toNat<l.length:=fun i hi k hk=>by
        have:=ok.at i ((sf i).getD k 0) (by rw [← hsf i hi,getD_eq_getElem?_getD,getElem?_eq_getElem hk];exact getElem_mem _)
        omega
      have:=e.2 k (by rw [hs i hi];simpa using hk)
      rw [hs i hi,hs j hj,hg i _ k hk,hg j _ k (by omega)] at this
      exact (Qy ok n (lt i hi k hk) (lt j hj k (by omega))).2 this⟩
    rw [e1,e2]
def RK (_:Heap) (cs:List Value) (p:Int×Int):Prop:=cs=[.int .i64 p.1,.int .i64 p.2]
theorem Mn {h:Heap} {cs:List Value} {p:Int×Int} (q:RK h cs p):cs.length=2:=by unfold RK at q;subst q;rfl
theorem Zb5 {h:Heap} {cs:List Value} {p:Int×Int} (q:RK h cs p):okc cs:=by unfold RK at q;subst q;exact fun v hv=>by simp at hv;rcases hv with rfl | rfl <;> rfl
theorem RK.mono {h h':Heap} {cs:List Value} {p:Int×Int} (_:Hle h h') (q:RK h cs p):RK h' cs p:=q
theorem RKs.mono {h h':Heap} {v:Value} {l:List (Int×Int)} (hh:Hle h h') (q:Hs.rdS RK 2 h v l):Hs.rdS RK 2 h' v l:=rdS.mono q hh fun _ _ _ e=>e
def UU (N:Int) (K:List (Int×Int)) (p:Int×Int):Int:=N+(K.idxOf p:Int)
theorem Fu {N:Int} {K:List (Int×Int)} {p:Int×Int} (h:p∉K):UU N (K++[p]) p=N+(K.length:Int):=by
  unfold UU;rw [List.idxOf_append,if_neg h];simp
theorem Ft {N:Int} {K:List (Int×Int)} {p:Int×Int}:∀ x∈K,UU N (K++[p]) x=UU N K x:=fun x hx=>by
  unfold UU;rw [List.idxOf_append,if_pos hx]
theorem IA {N:Int} {out:List Int} {K:List (Int×Int)} {a n:Int} (h:(a,out.getD n.toNat 0+1)∈K):U2 N out (K,a) n=(K,UU N K (a,out.getD n.toNat 0+1)):=by
  unfold U2 SH UU Ot;simp only;rw [if_pos h]
theorem IB {N:Int} {out:List Int} {K:List (Int×Int)} {a n:Int} (h:(a,out.getD n.toNat 0+1)∉K):U2 N out (K,a) n=(K++[(a,out.getD n.toNat 0+1)],N+(K.length:Int)):=by
  unfold U2 SH Ot;simp only;rw [if_neg h,List.idxOf_append,if_neg h];simp
def clE (ws:List Int) (n:Nat):List (List Value):=ws.map (fun w=>[Value.int .i64 w,Value.int .i64 0])++replicate (n-ws.length) [Value.int .i64 0,Value.int .i64 0]
theorem QL {ws:List Int} {n:Nat} (h:ws.length≤n):(clE ws n).length=n:=by unfold clE;rw [length_append,length_map,length_replicate];omega
theorem Bn {ws:List Int} {n j:Nat} {w:Int} (hj:ws.length=j) (h:j<n):(clE ws n).set j [Value.int .i64 w,Value.int .i64 0]=clE (ws++[w]) n:=by
  subst hj
  unfold clE
  obtain ⟨d,hd⟩:∃ d,n-ws.length=d+1:=⟨n-ws.length-1,by omega⟩
  rw [List.set_append_right _ _ (by simp),length_map,Nat.sub_self,hd,List.replicate_succ,set_cons_zero,map_append,append_assoc,show n-(ws++[w]).length=d from by rw [length_append];simp;omega]
  rfl
theorem Zax {T:TypeId} {ws:List Int} {n:Nat} {v:Value} {k:Zi} {h:Heap} (o:Own T 2 v (clE ws n) k) (hn:ws.length=n) (hb:n≤1000000) (hk:Has k h):Hs.rdS RK 2 h v (ws.map fun w=>(w,0)):=by
  subst hn
  refine o.rdS (by rw [QL (Nat.le_refl _),length_map]) (by rw [length_map];omega) hk fun i h1 h2=>?_
  have h3:i<ws.length:=by simpa using h2
  have e:(clE ws ws.length)[i]?=some [.int .i64 ws[i],.int .i64 0]:=by
    unfold clE
    rw [List.getElem?_append_left (by simpa using h3),getElem?_map,getElem?_eq_getElem h3];rfl
  rw [getElem?_eq_getElem h1] at e
  unfold RK
  rw [Option.some.inj e,getElem_map]
theorem Nk (N:Int) (out:List Int) (sf:Nat→List Int) (B:Nat→Nat) (h0:∀ i,B i+(sf i).length≤B (i+1)):∀ i,(Vy N out sf i).1.length≤B i
  | 0=>by simp [Vy]
  | i+1=>by
    have a:=Nk N out sf B h0 i
    have b:=MZ N out (sf i) ((Vy N out sf i).1,out.getD i 0)
    have c:=h0 i
    rw [Vy];simp only at b ⊢;omega
section
attribute [local irreducible] JL J CT wlo DT
theorem F5 (g:Nat) (fs cv:List Value) (hcall:∀ args w,(callFunc g args).run prog w=.ok (.enter g args) w) (yc:Nat→Zi→Prop) (l:List Tm) (v:Value) (ck:Zi) (H:Heap) (hl:Hs.rdS RT 36 H v l) (h0:yc 0 ck) (hg:∀ j (hj:j<l.length) k,yc j k→∀ a h,Hle H h→RT h a l[j]→CT prog g ⟨fs++[.agg ⟨a⟩]++cv⟩ [k] h (fun v N=>v=.bool false∧∃ k,N=[k]∧yc (j+1) k)):CT prog 68 ⟨[v,.func (.func g) ⟨fs⟩ ⟨cv⟩]⟩ [ck] H (fun v N=>v=iv (-1)∧∃ k,N=[k]∧yc l.length k):=by
 refine Zl func68 rfl rfl<|Zc<|JAn rfl<|Zf<|Zc<|JLm v ?_
 obtain ⟨a1,cap1,hv1⟩:=hl.sl
 have hle1:=hl.le
 refine JLn (Zcv ZQ hv1)<|JLM rfl<|Za<|Zh<|Zv (fun k ρ M=>∃ (j:Nat) (ckl:Zi),ZR ρ [(0,v),(1,.func (.func g) ⟨fs⟩ ⟨cv⟩),(4,iv 0),(7,iv ((l.length:Int))),(8,iv ((j:Int)))]=ρ∧Sub [ckl] M∧j≤l.length∧yc j ckl∧k=l.length-j) _ ⟨0,ck,Zj rfl,(Sk Sub.nil),Nat.zero_le _,h0,rfl⟩ ?_
 rintro _ ρ2 _ ⟨j,ckl,e3,hm8,hj,hckl,rfl⟩
 obtain ⟨ρ9,rfl⟩:=Zo e3
 clear e3
 refine ZD hm8<|Zc<|JLn (Pu.lss rfl rfl)<|Za<|Zf<|ZF rfl (fun h10=>?_) (fun h10=>?_)
 ·have h10n:j<l.length:=by omega
  have hlenl:=hl.le
  refine Zk<|Zf<|Zh<|Zc<|JLM rfl<|JAn rfl<|Zc<|JLM rfl<|JLm v<|JLM rfl ?_
  obtain ⟨b11,o11,cap11,row11,T11,fr11,cs11,hv11,hb11,hs11,hE11⟩:=hl.get j (by omega)
  refine JLn (Zcw j ZQ Zy hv11 rfl rfl (by omega))<|JLr (Zn Zy rfl (Zcx hb11) hs11<|ZG 0 rfl hcall rfl rfl (fun hin=>hg _ h10n _ hckl _ _ (Hle.hu _ _) (RT.mono (Hle.hu _ _) hE11)) rfl ?_)
  rintro _ _ ⟨rfl,ck12,rfl,hck12⟩
  refine Za<|Zs (b:=false) rfl (fun h=>absurd h (by simp)) (fun _=>Zk<|Zd<|JLn (Zcy rfl rfl (by omega))<|JLM rfl<|Za<|⟨_,?_,(j+1),ck12,Zj rfl,(Sk Sub.nil),?_,?_,rfl⟩)
  ·omega
  ·omega
  exact hck12
 have h10n:l.length≤j:=by omega
 refine Zu _ rfl<|Zc<|JAn rfl<|ZC (iv (-1)) [ckl] (Sk Sub.nil) (?_)
 obtain rfl:j=l.length:=by omega
 exact ⟨rfl,_,rfl,hckl⟩
theorem Oo (g:Nat) (fs cv:List Value) (hcall:∀ args w,(callFunc g args).run prog w=.ok (.enter g args) w) (yc:Nat→Zi→Prop) (l:List Tm) (v:Value) (ck:Zi) (H:Heap) (hl:Hs.rdS RT 36 H v l) (h0:yc 0 ck) (hg:∀ j (hj:j<l.length) k,yc j k→∀ a h,Hle H h→RT h a l[j]→CT prog g ⟨fs++[.agg ⟨a⟩]++cv⟩ [k] h (fun v N=>v=.bool false∧∃ k,N=[k]∧yc (j+1) k)):CT prog 26 ⟨[v,.func (.func g) ⟨fs⟩ ⟨cv⟩]⟩ [ck] H (fun v N=>v=.bool false∧∃ k,N=[k]∧yc l.length k):=by
 refine Zl func26 rfl rfl<|Zc<|JAn rfl<|Zc<|JLm v<|JLM rfl<|ZG 0 rfl call68 rfl rfl (fun hin=>F5 g fs cv hcall yc _ _ _ _ (RTs.mono (Hle.hu _ _) hl) h0 (fun j hj k hk a h hh ra=>hg j hj k hk a h (Hle.trans (Hle.hu _ _) hh) ra)) rfl ?_
 rintro _ _ ⟨rfl,ck1,rfl,hck1⟩
 refine JLq (.bool false) (show Pu _ _ _ (.bool (decide ((0:Int)≤ -1))) from Pu.geq rfl rfl)<|JAn rfl<|ZC (.bool false) [ck1] (Sk Sub.nil) (?_)
 exact ⟨rfl,_,rfl,hck1⟩
theorem Ea (g:Nat) (fs cv:List Value) (hcall:∀ args w,(callFunc g args).run prog w=.ok (.enter g args) w) (yc:Nat→Zi→Prop) (l:List (Pt×Tm)) (v:Value) (ck:Zi) (H:Heap) (hl:Hs.rdS RC 71 H v l) (h0:yc 0 ck) (hg:∀ j (hj:j<l.length) k,yc j k→∀ a h,Hle H h→RC h a l[j]→CT prog g ⟨fs++[.agg ⟨a⟩]++cv⟩ [k] h (fun v N=>v=.bool false∧∃ k,N=[k]∧yc (j+1) k)):CT prog 115 ⟨[v,.func (.func g) ⟨fs⟩ ⟨cv⟩]⟩ [ck] H (fun v N=>v=iv (-1)∧∃ k,N=[k]∧yc l.length k):=by
 refine Zl func115 rfl rfl<|Zc<|JAn rfl<|Zf<|Zc<|JLm v ?_
 obtain ⟨a1,cap1,hv1⟩:=hl.sl
 have hle1:=hl.le
 refine JLn (Zcv Yz hv1)<|JLM rfl<|Za<|Zh<|Zv (fun k ρ M=>∃ (j:Nat) (ckl:Zi),ZR ρ [(0,v),(1,.func (.func g) ⟨fs⟩ ⟨cv⟩),(4,iv 0),(7,iv ((l.length:Int))),(8,iv ((j:Int)))]=ρ∧Sub [ckl] M∧j≤l.length∧yc j ckl∧k=l.length-j) _ ⟨0,ck,Zj rfl,(Sk Sub.nil),Nat.zero_le _,h0,rfl⟩ ?_
 rintro _ ρ2 _ ⟨j,ckl,e3,hm8,hj,hckl,rfl⟩
 obtain ⟨ρ9,rfl⟩:=Zo e3
 clear e3
 refine ZD hm8<|Zc<|JLn (Pu.lss rfl rfl)<|Za<|Zf<|ZF rfl (fun h10=>?_) (fun h10=>?_)
 ·have h10n:j<l.length:=by omega
  have hlenl:=hl.le
  refine Zk<|Zf<|Zh<|Zc<|JLM rfl<|JAn rfl<|Zc<|JLM rfl<|JLm v<|JLM rfl ?_
  obtain ⟨b11,o11,cap11,row11,T11,fr11,cs11,hv11,hb11,hs11,hE11⟩:=hl.get j (by omega)
  obtain ⟨ca11,cb11,rfl,hA11,hB11⟩:=hE11
  refine JLn (Zcw j Yz Yg hv11 rfl rfl (by omega))<|JLr (Zn Yg rfl (Zcx hb11) hs11<|ZG 0 rfl hcall rfl rfl (fun hin=>hg _ h10n _ hckl _ _ (Hle.hu _ _) (RC.mono (Hle.hu _ _) (LL hA11 hB11))) rfl ?_)
  rintro _ _ ⟨rfl,ck12,rfl,hck12⟩
  refine Za<|Zs (b:=false) rfl (fun h=>absurd h (by simp)) (fun _=>Zk<|Zd<|JLn (Zcy rfl rfl (by omega))<|JLM rfl<|Za<|⟨_,?_,(j+1),ck12,Zj rfl,(Sk Sub.nil),?_,?_,rfl⟩)
  ·omega
  ·omega
  exact hck12
 have h10n:l.length≤j:=by omega
 refine Zu _ rfl<|Zc<|JAn rfl<|ZC (iv (-1)) [ckl] (Sk Sub.nil) (?_)
 obtain rfl:j=l.length:=by omega
 exact ⟨rfl,_,rfl,hckl⟩
theorem Oq (g:Nat) (fs cv:List Value) (hcall:∀ args w,(callFunc g args).run prog w=.ok (.enter g args) w) (yc:Nat→Zi→Prop) (l:List (Pt×Tm)) (v:Value) (ck:Zi) (H:Heap) (hl:Hs.rdS RC 71 H v l) (h0:yc 0 ck) (hg:∀ j (hj:j<l.length) k,yc j k→∀ a h,Hle H h→RC h a l[j]→CT prog g ⟨fs++[.agg ⟨a⟩]++cv⟩ [k] h (fun v N=>v=.bool false∧∃ k,N=[k]∧yc (j+1) k)):CT prog 72 ⟨[v,.func (.func g) ⟨fs⟩ ⟨cv⟩]⟩ [ck] H (fun v N=>v=.bool false∧∃ k,N=[k]∧yc l.length k):=by
 refine Zl func72 rfl rfl<|Zc<|JAn rfl<|Zc<|JLm v<|JLM rfl<|ZG 0 rfl call115 rfl rfl (fun hin=>Ea g fs cv hcall yc _ _ _ _ (RCs.mono (Hle.hu _ _) hl) h0 (fun j hj k hk a h hh ra=>hg j hj k hk a h (Hle.trans (Hle.hu _ _) hh) ra)) rfl ?_
 rintro _ _ ⟨rfl,ck1,rfl,hck1⟩
 refine JLq (.bool false) (show Pu _ _ _ (.bool (decide ((0:Int)≤ -1))) from Pu.geq rfl rfl)<|JAn rfl<|ZC (.bool false) [ck1] (Sk Sub.nil) (?_)
 exact ⟨rfl,_,rfl,hck1⟩
theorem C6:∀ {σ:Type} (F:σ→Tm→σ) (wt:σ→Nat) (yc:σ→Zi→Prop) (bY bW bH:Nat) (x:Tm) (s:σ) (ck:Zi) (a:List Value) (H:Heap),yc s ck→RT H a x→H bH=some (.cells ⟨[.func (.func 200) ⟨[]⟩ ⟨[pp bY 0,pp bW 0]⟩]⟩ 56 (0,0))→wt s+sizeT x≤1000000→(∀ (s:σ) (ck:Zi) (a:List Value) (h:Heap),yc s ck→Hle H h→RT h a x→wt s+sizeT x≤1000000→CT prog 200 ⟨[.agg ⟨a⟩,pp bY 0,pp bW 0]⟩ [ck] h (fun v N=>v=.bool true∧∃ k,N=[k]∧yc (ndT F s x) k))→CT prog 231 ⟨[.agg ⟨a⟩,pp bH 0]⟩ [ck] H (fun v N=>v=.bool false∧∃ k,N=[k]∧yc (ndT F s x) k):=by
 intro σ F wt yc bY bW bH x s ck a H hck ra hHB hz hg
 refine Zl func231 rfl rfl<|Zc<|JLr (Zr (l:=a) rfl rfl fun b1=>JAn rfl<|Zc<|JLr (Zb Rm rfl (Zcx hHB) rfl<|JLr (Zn Zy rfl (Zcu 0 rfl) (ZE (ZB ra))<|ZG 1 rfl call200 rfl rfl (fun hin=>hg _ _ _ _ hck (Hle.hu _ _) (RT.mono (Hle.hu _ _) ra) (by omega)) rfl ?_)))
 rintro _ _ ⟨rfl,ck2,rfl,hck2⟩
 refine JLq (.bool false) (show Pu _ _ _ (.bool (!true)) from Pu.not rfl)<|JAn rfl<|ZC (.bool false) [ck2] (Sk Sub.nil) (?_)
 exact ⟨rfl,_,rfl,hck2⟩
theorem Zaj:∀ {σ:Type} (F:σ→Tm→σ) (wt:σ→Nat) (yc:σ→Zi→Prop) (hw:∀ s y,wt (F s y)≤wt s+1) (bY bW:Nat) (l:List Tm) (s:σ) (v:Value) (ck:Zi) (H:Heap),yc s ck→Hs.rdS RT 36 H v l→wt s+ZL l≤1000000→(∀ j (hj:j<l.length) (s:σ) (ck:Zi) (a:List Value) (h:Heap),yc s ck→Hle H h→RT h a l[j]→wt s+sizeT l[j]≤1000000→CT prog 200 ⟨[.agg ⟨a⟩,pp bY 0,pp bW 0]⟩ [ck] h (fun v N=>v=.bool true∧∃ k,N=[k]∧yc (ndT F s l[j]) k))→CT prog 201 ⟨[v,.func (.func 200) ⟨[]⟩ ⟨[pp bY 0,pp bW 0]⟩]⟩ [ck] H (fun v N=>v=.bool true∧∃ k,N=[k]∧yc (ndL F s l) k):=by
 intro σ F wt yc hw bY bW l s v ck H hck hv hz hg
 refine Zl func201 rfl rfl<|Zc<|JLr (Zr (l:=[.func (.func 200) ⟨[]⟩ ⟨[pp bY 0,pp bW 0]⟩]) rfl rfl fun b1=>JAn rfl<|Zc<|JLm v<|JLq (.func (.func 231) ⟨[]⟩ ⟨[pp b1 0]⟩) (Pu.makeFunc rfl rfl)<|ZG 1 rfl call26 rfl rfl (fun hin=>Oo 231 [] [pp b1 0] call231 (fun j k=>yc (ndL F s (l.take j)) k) _ _ _ _ (RTs.mono (Hle.hu _ _) hv) (by simpa [ndL] using hck) (fun j hj k hk a h hh ra=>by rw [Fx hj];exact C6 F wt yc bY bW _ _ _ _ _ _ hk ra (hh _ _ (hin 0 _ rfl _ _ mem_cons_self)) (by have:=NR hw s (l.take j);have:=Sq hj;omega) (fun s ck a h hc hh2 ra hz=>hg j hj s ck a h hc (Hle.trans (Hle.hu _ _) (Hle.trans hh hh2)) ra hz))) rfl ?_)
 rintro _ _ ⟨rfl,ck2,rfl,hck2⟩
 rw [List.take_length] at hck2
 refine JLq (.bool true) (show Pu _ _ _ (.bool (!false)) from Pu.not rfl)<|JAn rfl<|ZC (.bool true) [ck2] (Sk Sub.nil) (?_)
 exact ⟨rfl,_,rfl,hck2⟩
theorem Cw:∀ {σ:Type} (F:σ→Tm→σ) (wt:σ→Nat) (yc:σ→Zi→Prop) (bY bW:Nat) (c:Pt×Tm) (s:σ) (ck:Zi) (a:List Value) (H:Heap),yc s ck→RC H a c→H bW=some (.cells ⟨[.func (.func 200) ⟨[]⟩ ⟨[pp bY 0,pp bW 0]⟩]⟩ 56 (0,0))→wt s+sizeT c.2≤1000000→(∀ (s:σ) (ck:Zi) (a:List Value) (h:Heap),yc s ck→Hle H h→RT h a c.2→wt s+sizeT c.2≤1000000→CT prog 200 ⟨[.agg ⟨a⟩,pp bY 0,pp bW 0]⟩ [ck] h (fun v N=>v=.bool true∧∃ k,N=[k]∧yc (ndT F s c.2) k))→CT prog 203 ⟨[.agg ⟨a⟩,pp bW 0]⟩ [ck] H (fun v N=>v=.bool true∧∃ k,N=[k]∧yc (ndT F s c.2) k):=by
 intro σ F wt yc bY bW c s ck a H hck ⟨ca,cb,e1,ra1,ra2⟩ hHW hz hg
 subst e1
 refine Zl func203 rfl rfl<|Zc<|JLr (Zr (l:=ca++cb) rfl rfl fun b1=>JAn rfl<|Zc<|JLr (Zb Rm rfl (Zcx hHW) rfl<|JLq (pp b1 35) (YV rfl rfl)<|JLr (Zn Zy rfl (Zcu 0 rfl) (XK (ZN ra1) (ZB ra2))<|ZG 1 rfl call200 rfl rfl (fun hin=>hg _ _ _ _ hck (Hle.hu _ _) (RT.mono (Hle.hu _ _) ra2) (by omega)) rfl ?_)))
 rintro _ _ ⟨rfl,ck2,rfl,hck2⟩
 refine JAn rfl<|ZC (.bool true) [ck2] (Sk Sub.nil) (?_)
 exact ⟨rfl,_,rfl,hck2⟩
theorem C8:∀ {σ:Type} (F:σ→Tm→σ) (wt:σ→Nat) (yc:σ→Zi→Prop) (bY bW bH:Nat) (c:Pt×Tm) (s:σ) (ck:Zi) (a:List Value) (H:Heap),yc s ck→RC H a c→H bH=some (.cells ⟨[.func (.func 203) ⟨[]⟩ ⟨[pp bW 0]⟩]⟩ 123 (0,0))→H bW=some (.cells ⟨[.func (.func 200) ⟨[]⟩ ⟨[pp bY 0,pp bW 0]⟩]⟩ 56 (0,0))→wt s+sizeT c.2≤1000000→(∀ (s:σ) (ck:Zi) (a:List Value) (h:Heap),yc s ck→Hle H h→RT h a c.2→wt s+sizeT c.2≤1000000→CT prog 200 ⟨[.agg ⟨a⟩,pp bY 0,pp bW 0]⟩ [ck] h (fun v N=>v=.bool true∧∃ k,N=[k]∧yc (ndT F s c.2) k))→CT prog 232 ⟨[.agg ⟨a⟩,pp bH 0]⟩ [ck] H (fun v N=>v=.bool false∧∃ k,N=[k]∧yc (ndT F s c.2) k):=by
 intro σ F wt yc bY bW bH c s ck a H hck ⟨ca,cb,e1,ra1,ra2⟩ hHB hHW hz hg
 subst e1
 refine Zl func232 rfl rfl<|Zc<|JLr (Zr (l:=ca++cb) rfl rfl fun b1=>JAn rfl<|Zc<|JLr (Zb Za1 rfl (Zcx hHB) rfl<|JLr (Zn Yg rfl (Zcu 0 rfl) (ZE (ZW (ZN ra1) (ZB ra2)))<|ZG 1 rfl call203 rfl rfl (fun hin=>Cw F wt yc bY bW _ _ _ _ _ hck (RC.mono (Hle.hu _ _) (LL ra1 ra2)) (Hle.hu _ _ _ _ hHW) (by omega) (fun s ck a h hc hh ra hz=>hg s ck a h hc (Hle.trans (Hle.hu _ _) hh) ra hz)) rfl ?_)))
 rintro _ _ ⟨rfl,ck2,rfl,hck2⟩
 refine JLq (.bool false) (show Pu _ _ _ (.bool (!true)) from Pu.not rfl)<|JAn rfl<|ZC (.bool false) [ck2] (Sk Sub.nil) (?_)
 exact ⟨rfl,_,rfl,hck2⟩
theorem Zal:∀ {σ:Type} (F:σ→Tm→σ) (wt:σ→Nat) (yc:σ→Zi→Prop) (hw:∀ s y,wt (F s y)≤wt s+1) (bY bW:Nat) (l:List (Pt×Tm)) (s:σ) (v:Value) (ck:Zi) (H:Heap),yc s ck→Hs.rdS RC 71 H v l→wt s+ZX l≤1000000→H bW=some (.cells ⟨[.func (.func 200) ⟨[]⟩ ⟨[pp bY 0,pp bW 0]⟩]⟩ 56 (0,0))→(∀ j (hj:j<l.length) (s:σ) (ck:Zi) (a:List Value) (h:Heap),yc s ck→Hle H h→RT h a l[j].2→wt s+sizeT l[j].2≤1000000→CT prog 200 ⟨[.agg ⟨a⟩,pp bY 0,pp bW 0]⟩ [ck] h (fun v N=>v=.bool true∧∃ k,N=[k]∧yc (ndT F s l[j].2) k))→CT prog 202 ⟨[v,.func (.func 203) ⟨[]⟩ ⟨[pp bW 0]⟩]⟩ [ck] H (fun v N=>v=.bool true∧∃ k,N=[k]∧yc (ndC F s l) k):=by
 intro σ F wt yc hw bY bW l s v ck H hck hv hz hHW hg
 refine Zl func202 rfl rfl<|Zc<|JLr (Zr (l:=[.func (.func 203) ⟨[]⟩ ⟨[pp bW 0]⟩]) rfl rfl fun b1=>JAn rfl<|Zc<|JLm v<|JLq (.func (.func 232) ⟨[]⟩ ⟨[pp b1 0]⟩) (Pu.makeFunc rfl rfl)<|ZG 1 rfl call72 rfl rfl (fun hin=>Oq 232 [] [pp b1 0] call232 (fun j k=>yc (ndC F s (l.take j)) k) _ _ _ _ (RCs.mono (Hle.hu _ _) hv) (by simpa [ndC] using hck) (fun j hj k hk a h hh ra=>by rw [Fz hj];exact C8 F wt yc bY bW _ _ _ _ _ _ hk ra (hh _ _ (hin 0 _ rfl _ _ mem_cons_self)) (hh _ _ (Hle.hu _ _ _ _ hHW)) (by have:=Kb hw s (l.take j);have:=Nu hj;omega) (fun s ck a h hc hh2 ra hz=>hg j hj s ck a h hc (Hle.trans (Hle.hu _ _) (Hle.trans hh hh2)) ra hz))) rfl ?_)
 rintro _ _ ⟨rfl,ck2,rfl,hck2⟩
 rw [List.take_length] at hck2
 refine JLq (.bool true) (show Pu _ _ _ (.bool (!false)) from Pu.not rfl)<|JAn rfl<|ZC (.bool true) [ck2] (Sk Sub.nil) (?_)
 exact ⟨rfl,_,rfl,hck2⟩
set_option maxHeartbeats 2000000 in
theorem H1:∀ {σ:Type} (F:σ→Tm→σ) (wt:σ→Nat) (yc:σ→Zi→Prop) (hw:∀ s y,wt (F s y)≤wt s+1) (l:Nat) (bY bW:Nat) (t:Tm) (s:σ) (ck:Zi) (cs:List Value) (H:Heap),yc s ck→RT H cs t→wt s+sizeT t≤1000000→H bY=some (.cells ⟨[.func (.yield l) ⟨[]⟩ ⟨[]⟩]⟩ 56 (0,0))→H bW=some (.cells ⟨[.func (.func 200) ⟨[]⟩ ⟨[pp bY 0,pp bW 0]⟩]⟩ 56 (0,0))→(∀ (y:Tm) (s:σ) (ck:Zi) (a:List Value) (h:Heap),yc s ck→Hle H h→RT h a y→wt s+1≤1000000→YT prog l ⟨[.agg ⟨a⟩]⟩ [ck] h (fun v N=>v=.bool true∧∃ k,N=[k]∧yc (F s y) k))→CT prog 200 ⟨[.agg ⟨cs⟩,pp bY 0,pp bW 0]⟩ [ck] H (fun v N=>v=.bool true∧∃ k,N=[k]∧yc (ndT F s t) k):=by
 intro σ F wt yc hw l bY bW t
 induction t using Tm.ind with
 | h kind num ref kids cases ih ih'=>
 intro s ck cs H hck ht hz hHY hHW hy
 rw [sizeT] at hz
 obtain ⟨ks,cv,rfl,hk,hn,hks,hcv⟩:=RT_mk.1 ht
 refine Zl func200 rfl rfl<|Zc<|JLr (Zr (l:=pkT kind num ref ks cv) rfl rfl fun b1=>JAn rfl<|Zc<|JLr (Zb Rm rfl (Zcx hHY) rfl<|JLr (Zn Zy rfl (Zcu 0 rfl) (YH ..)<|TL 1 rfl rfl rfl (fun hin=>hy _ _ _ _ _ hck (Hle.hu _ _) (RT_mk.2 ⟨_,_,rfl,hk,hn,RTs.mono (Hle.hu _ _) hks,RCs.mono (Hle.hu _ _) hcv⟩) (by omega)) rfl ?_)))
 rintro _ _ ⟨rfl,ck2,rfl,hck2⟩
 refine JLM rfl<|JLq (pp b1 34) (Yd rfl rfl)<|JLr (Zb YZ rfl (Zcu 1 rfl) (Yh ..)<|JLr (Zb Rm rfl (Zcx hHW) rfl<|ZG 0 rfl call201 rfl rfl (fun hin=>Zaj F wt yc hw bY bW kids _ _ _ _ hck2 (RTs.mono (Hle.hu _ _) hks) (by have:=hw s (.mk kind num ref kids cases);omega) (fun j hj s ck a h hc hh ra hz=>ih _ (getElem_mem hj) s ck a h hc ra hz (hh _ _ (Hle.hu _ _ _ _ hHY)) (hh _ _ (Hle.hu _ _ _ _ hHW)) (fun y s ck a h' hc h2=>hy y s ck a h' hc (Hle.trans (Hle.hu _ _) (Hle.trans hh h2))))) rfl ?_))
 rintro _ _ ⟨rfl,ck3,rfl,hck3⟩
 refine JLq (.bool true) (ZcI rfl rfl)<|JLM rfl<|JLq (pp b1 35) (ZY rfl rfl)<|JLr (Zb YL rfl (Zcu 1 rfl) (Z3 ..)<|JLq (.func (.func 203) ⟨[]⟩ ⟨[pp bW 0]⟩) (Pu.makeFunc rfl rfl)<|ZG 0 rfl call202 rfl rfl (fun hin=>Zal F wt yc hw bY bW cases _ _ _ _ hck3 (RCs.mono (Hle.hu _ _) hcv) (by have:=hw s (.mk kind num ref kids cases);have:=NR hw (F s (.mk kind num ref kids cases)) kids;omega) (Hle.hu _ _ _ _ hHW) (fun j hj s ck a h hc hh ra hz=>ih' _ (getElem_mem hj) s ck a h hc ra hz (hh _ _ (Hle.hu _ _ _ _ hHY)) (hh _ _ (Hle.hu _ _ _ _ hHW)) (fun y s ck a h' hc h2=>hy y s ck a h' hc (Hle.trans (Hle.hu _ _) (Hle.trans hh h2))))) rfl ?_)
 rintro _ _ ⟨rfl,ck4,rfl,hck4⟩
 refine JLq (.bool true) (ZcI rfl rfl)<|JAn rfl<|ZC (.bool true) [ck4] (Sk Sub.nil) (?_)
 exact ⟨rfl,_,rfl,hck4⟩
theorem OR:∀ {σ:Type} (F:σ→Tm→σ) (wt:σ→Nat) (yc:σ→Zi→Prop) (hw:∀ s y,wt (F s y)≤wt s+1) (l bT:Nat) (t:Tm) (s:σ) (ck:Zi) (cs:List Value) (H:Heap),yc s ck→RT H cs t→wt s+sizeT t≤1000000→H bT=some (.cells ⟨cs⟩ 51 (0,0))→(∀ (y:Tm) (s:σ) (ck:Zi) (a:List Value) (h:Heap),yc s ck→Hle H h→RT h a y→wt s+1≤1000000→YT prog l ⟨[.agg ⟨a⟩]⟩ [ck] h (fun v N=>v=.bool true∧∃ k,N=[k]∧yc (F s y) k))→CT prog 199 ⟨[.func (.yield l) ⟨[]⟩ ⟨[]⟩,pp bT 0]⟩ [ck] H (fun _ N=>∃ k,N=[k]∧yc (ndT F s t) k):=by
 intro σ F wt yc hw l bT t s ck cs H hck ht hz hT hy
 refine Zl func199 rfl rfl<|Zc<|JLr (Zr (l:=[.func (.yield l) ⟨[]⟩ ⟨[]⟩]) rfl rfl fun b1=>Za<|Zc<|JLr (Zp (l:=[.nilFunc]) zeroValue56 rfl fun b2=>Za<|Zc<|JLq (.func (.func 200) ⟨[]⟩ ⟨[pp b1 0,pp b2 0]⟩) (Pu.makeFunc rfl rfl)<|JLr (Ze 0 (vs:=[.func (.func 200) ⟨[]⟩ ⟨[pp b1 0,pp b2 0]⟩]) (l:=[.func (.func 200) ⟨[]⟩ ⟨[pp b1 0,pp b2 0]⟩]) Rm rfl rfl rfl rfl rfl (Zg rfl Zq) rfl ?_)))
 refine Za<|Zd<|JLr (Zb Rm rfl (Zcu 0 rfl) rfl<|JLr (Zn Zy rfl (Zcx hT) (ZE (ZB ht))<|ZG 2 rfl call200 rfl rfl (fun hin=>H1 F wt yc hw l _ _ t _ _ _ _ hck (RT.mono (Hle.hu _ _) ht) hz (hin 1 _ rfl _ _ mem_cons_self) (hin 0 _ rfl _ _ mem_cons_self) (fun y s ck a h hc hh ra hz=>hy y s ck a h hc (Hle.trans (Hle.hu _ _) hh) ra hz)) rfl ?_))
 rintro _ _ ⟨rfl,ck3,rfl,hck3⟩
 refine Za<|⟨.tuple ⟨[]⟩,[ck3],Ret.none rfl,(Sk Sub.nil),?_⟩
 exact ⟨_,rfl,hck3⟩
theorem MP (cs:List Value) (H:Heap) (hl:cs.length=36) (hc:okc cs):CT prog 169 ⟨[.agg ⟨cs⟩]⟩ [] H (fun v N=>∃ b,v=.func (.func 199) ⟨[]⟩ ⟨[pp b 0]⟩∧N=[(BX b cs 51)]):=by
 refine Zl func169 rfl rfl<|Zc<|JLr (Zr (l:=cs) rfl rfl fun b1=>JLa .nilFunc<|Za<|Zc<|JLq (.func (.func 199) ⟨[]⟩ ⟨[pp b1 0]⟩) (Pu.makeFunc rfl rfl)<|JAn rfl<|ZC (.func (.func 199) ⟨[]⟩ ⟨[pp b1 0]⟩) [(BX b1 cs 51)] (Sk Sub.nil) (?_))
 exact ⟨_,rfl,rfl⟩
set_option maxHeartbeats 1000000 in
theorem Rs (t:Tm) (cs:List Value) (H:Heap) (ht:RT H cs t) (hz:sizeT t≤400000):CT prog 121 ⟨[.agg ⟨cs⟩]⟩ [] H (fun r N=>∃ k,N=[k]∧Own 3 1 r (Z2 (sfP t)) k):=by
 refine Zl func121 rfl rfl<|Zc<|JLr (Zr (l:=cs) rfl rfl fun b1=>JAn rfl<|Zc<|JLr (Zp (l:=[nS]) zeroValue45 rfl fun b2=>Za<|Zf<|Zf<|Zd ?_))
 refine JLr (Zn Zy rfl (Zcu 1 rfl) (ZE (ZB ht))<|Jc call169 rfl (fun hin=>MP _ _ (ZB ht) (XA ht)) rfl ?_)
 rintro _ _ ⟨bT3,rfl,rfl⟩
 refine Za<|Zh<|ZD (M':=[[],(BX bT3 cs 51),(BX b2 [nS] 45),(BX b1 cs 51)]) (Zcz Sub.refl)<|ZD (Sub.cons 2 rfl (Sk (Sk (Sk Sub.nil))))<|QQ (L:=[(BX bT3 cs 51),(BX b1 cs 51)]) (fun s:Value×Zi=>[(BX b2 [s.1] 45),s.2]) (fun _=>false) (nS,[]) (fun s=>Own 3 1 s.1 (Z2 (ndT sfF [] t)) s.2) rfl rfl call199 (List.Perm.of_eq (by simp)) ?_ ?_ ?_
 ·intro l yc hY hin
  refine CT.mono (OR sfF List.length (fun s k=>∃ p:Value×Zi,k=yc p∧Own 3 1 p.1 (Z2 s) p.2) GH l _ t [] _ _ _ ⟨_,rfl,(show Own 3 1 _ (Z2 []) [] from Own.nil)⟩ (RT.mono (Hle.hu _ _) ht) (by simp;omega) (hin 0 _ rfl _ _ mem_cons_self) ?_) (fun v N ⟨k,hk,p,e,ho⟩=>⟨p,by rw [hk,e],ho⟩)
  rintro y d _ a h ⟨s,rfl,hI⟩ hh hry hz0
  refine YT.mono (hY s [_] h (fun p2=>Own 3 1 p2.1 (Z2 (sfF d y)) p2.2) rfl rfl (RoundOk.mk ?_)) ?_
  obtain ⟨ksy,cvy,rfl,hky,hny,hksy,hcvy⟩:=Rf hry
  ·show J _ _ _ _ [(BX b2 [s.1] 45),s.2] _
   refine Zd<|JLr (Zp (l:=pkT 0 0 zS nS nS) zeroValue51 rfl fun b4=>JLr (Ze 0 (vs:=pkT (y.kind) (y.num) (y.ref) ksy cvy) (l:=pkT (y.kind) (y.num) (y.ref) ksy cvy) Zy rfl rfl rfl rfl rfl (Ys hksy.one hcvy.one) (Xo ..)<|Za<|Zh<|Zc<|JLq (pp b4 0) (Z1 rfl rfl)<|JLr (Zb ty3 rfl (Zcu 0 rfl) (Yf ..)<|JLn (Pu.eql rfl rfl)<|Za<|ZF rfl (fun h5=>?_) (fun h5=>?_))))
   ·refine Zd<|JLr (Zb Xm rfl (Zcu 1 rfl) rfl<|JLq (pp b4 1) (Yj rfl rfl)<|JLr (Zb ty3 rfl (Zcu 0 rfl) (YP ..)<|JLr (Zm (vs:=[iv (y.num)]) [[iv (y.num)]] ZV el3 rfl rfl (al1 rfl) rfl (by decide) fun b6 k6 ho6 hk6=>?_)))
    have hlens7:∀ e∈([[iv (y.num)]]:List (List Value)),List.length e=1:=al1 rfl
    have hoks7:∀ e∈([[iv (y.num)]]:List (List Value)),okc e:=al1 (Zg rfl Zq)
    refine JLr (Zz (i:=3) (n:=1) (es':=[[iv (y.num)]]) ZV ZV (Or.inl rfl) el3 rfl rfl rfl hI (fun F w m=>Src.row (((ZcD 0 rfl (by rw [hk6];exact mem_cons_self))).heap m) (ZE (Zw hlens7))) rfl hlens7 hoks7 (by decide) (by rw [Zt];omega) fun v7 k7 ho7=>JLr (Ze 2 (vs:=[v7]) (l:=[v7]) Xm rfl rfl rfl (ZS ho7.one) rfl (Zg ho7.one Zq) rfl<|Za ?_))
    exact ⟨(v7,k7),rfl,(Sd (Sd (Sk (Sk Sub.nil)))),(by have z:=ho7;rw [← WI] at z;unfold sfF;rw [if_pos h5];exact z)⟩
   refine Zk ?_
   exact ⟨(s.1,s.2),rfl,(Sd (Sk (Sk Sub.nil))),(by unfold sfF;rw [if_neg h5];exact hI)⟩
  rintro v N ⟨s2,rfl,rfl,h2⟩;exact ⟨rfl,_,rfl,s2,rfl,h2⟩
 ·rintro s hI hp
  have hIF:=hI
  refine Zc<|JLr (Zb Xm rfl (Zcu 0 rfl) rfl<|JLa (s.1)<|Za<|ZC s.1 [s.2] (Sd (Sk Sub.nil)) (?_))
  exact ⟨_,rfl,hIF⟩
 intro s _ hp;cases hp
set_option maxHeartbeats 2000000 in
theorem Tx:∀ (D:Int→Int→Sm→Int×Int×Sm) (Q:Int→Int→Sm→Prop) (gr:Nat) (frs crs:List Value) (hcall:∀ args w,(callFunc gr args).run prog w=.ok (.enter gr args) w) (hDI:(∀ k n r,inI k→inI n→Q k n r→inI (D k n r).1∧inI (D k n r).2.1)) (t:Tm) (cs:List Value) (H:Heap),RT H cs t→sizeT t≤1000000→R5 Q t→(∀ (y:Tm) (a:List Value) (h:Heap),Hle H h→RT h a y→Q y.kind y.num y.ref→CT prog gr ⟨frs++[.agg ⟨a⟩]++crs⟩ [] h (fun v N=>∃ kx cx,v=.agg ⟨pkT (D y.kind y.num y.ref).1 (D y.kind y.num y.ref).2.1 (D y.kind y.num y.ref).2.2 kx cx⟩∧N=[]∧kx.oneCell'=true∧cx.oneCell'=true))→CT prog 57 ⟨[.agg ⟨cs⟩,.func (.func gr) ⟨frs⟩ ⟨crs⟩]⟩ [] H (fun v N=>∃ cs k,v=.agg ⟨cs⟩∧N=[k]∧OT (mpT D t) cs k):=by
 intro D Q gr frs crs hcall hDI t
 induction t using Tm.ind with
 | h kind num ref kids cases ih ih'=>
 intro cs H ht hz hq hdo
 rw [sizeT] at hz
 have hlk:=XN kids
 have hlc:=WG cases
 obtain ⟨ks,cv,rfl,hk,hn,hks,hcv⟩:=RT_mk.1 ht
 rw [R5] at hq
 have hD1:=hDI _ _ _ hk hn hq.1
 refine Zl func57 rfl rfl<|Zc<|JLr (Zr (l:=pkT kind num ref ks cv) rfl rfl fun b1=>JLr (Zp (l:=pkT 0 0 zS nS nS) zeroValue51 rfl fun b2=>Za<|Zf<|ZI mixed #[0,1,0,4,3,31] 5 [some 11,some 12,some 13,some 14,some 5] [] [] rfl (by kernel_rfl) rfl (by kernel_rfl)<|Dq (pp b1 34) (fun _=>Yd rfl rfl)<|Dl1 YZ (Zcu 1 rfl) (Yh ..)<|Dq (pp b1 35) (fun _=>ZY rfl rfl)<|Dl1 YL (Zcu 1 rfl) (Z3 ..)<|Dq ks (fun _=>Pu.assign rfl) ?_))
 refine ZM (M':=[(BX b2 (pkT 0 0 zS nS nS) 51),(BX b1 (pkT kind num ref ks cv) 51)]) rfl ?_
 show JL _ _ _ [_] _ _ _
 refine JLa cv<|Za<|Zc<|JLM rfl<|JLr (Zn Zy rfl (Zcu 1 rfl) (YH ..)<|Jc hcall rfl (fun hin=>hdo (.mk kind num ref kids cases) _ _ (Hle.hu _ _) (RT_mk.2 ⟨_,_,rfl,hk,hn,RTs.mono (Hle.hu _ _) hks,RCs.mono (Hle.hu _ _) hcv⟩) hq.1) rfl ?_)
 rintro _ _ ⟨kx,cx,rfl,rfl,hkx,hcx⟩
 refine JLr (Ze 1 (vs:=pkT ((D kind num ref).1) ((D kind num ref).2.1) ((D kind num ref).2.2) kx cx) (l:=pkT ((D kind num ref).1) ((D kind num ref).2.1) ((D kind num ref).2.2) kx cx) Zy rfl rfl rfl rfl rfl (Ys hkx hcx) (Xo ..)<|Za<|Zc<|JLm ks ?_)
 obtain ⟨a4,cap4,hv4⟩:=hks.sl
 have hle4:=hks.le
 refine JLn (Zcv ZQ hv4)<|JLr (WM (kids.length) ZQ Wo rfl rfl rfl rfl (by omega) (by omega) fun v5 k5 ho5=>JLq (pp b1 34) (Yd rfl rfl)<|JLr (Ze 2 (vs:=[v5]) (l:=pkT ((D kind num ref).1) ((D kind num ref).2.1) ((D kind num ref).2.2) v5 cx) YZ rfl rfl rfl (ZS ho5.one) rfl (Zg ho5.one Zq) (Qz ..)<|JLq (pp b1 35) (ZY rfl rfl)<|JLr (Ze 2 (vs:=[nS]) (l:=pkT ((D kind num ref).1) ((D kind num ref).2.1) ((D kind num ref).2.2) v5 nS) YL rfl rfl rfl rfl rfl (Zg rfl Zq) (Sy ..)<|Za<|Zc<|JLq (pp b1 34) (Yd rfl rfl)<|JLr (Zb YZ rfl (Zcu 2 rfl) (Yh ..)<|JLm ks ?_))))
 obtain ⟨es6,he6,hH6,hl6,hok6,hsr6⟩:=FW (P:=prog) hks
 refine JLr (HK (i:=0) (n:=kids.length) (m:=kids.length) (es':=es6) ZQ Wo rfl rfl rfl ho5 (fun F w m=>hsr6 w _ m) he6 (by simp) hl6 hok6 rfl fun kc6 hc6=>Za<|Zf<|Zc<|JLm ks ?_)
 obtain ⟨a7,cap7,hv7⟩:=hks.sl
 have hle7:=hks.le
 refine JLn (Zcv ZQ hv7)<|JLM rfl<|Za<|Zh<|Zv (fun k ρ M=>∃ (j:Nat) (es:List (List Value)) (k1 k2:Zi),ZR ρ [(1,.func (.func gr) ⟨frs⟩ ⟨crs⟩),(2,pp b1 0),(4,pp b2 0),(6,cv),(27,ks),(28,iv ((kids.length:Int))),(29,iv ((j:Int)))]=ρ∧Sub [(BX b1 (pkT ((D kind num ref).1) ((D kind num ref).2.1) ((D kind num ref).2.2) v5 nS) 51),k1,k2,(BX b2 (pkT 0 0 zS nS nS) 51)] M∧j≤kids.length∧Own 51 36 v5 es k1∧Half H kids (RH D (kids.take j)) j es k2∧k=kids.length-j) _ ⟨0,es6,kc6,[],Zj rfl,(Sub.cons 2 rfl (Sk (Zcz (Sk Sub.nil)))),Nat.zero_le _,hc6,hH6,rfl⟩ ?_
 rintro _ ρ8 _ ⟨j,es,k1,k2,e9,hm16,hj,ho,hH,rfl⟩
 obtain ⟨ρ17,rfl⟩:=Zo e9
 clear e9
 refine ZD hm16<|Zc<|JLn (Pu.lss rfl rfl)<|Za<|Zf<|ZF rfl (fun h18=>?_) (fun h18=>?_)
 ·have h18n:j<kids.length:=by omega
  have hz1:=Ym _ (getElem_mem h18n)
  refine Zk<|Zf<|Zh<|Zc<|JLM rfl ?_
  obtain ⟨b19,o19,cap19,row19,T19,fr19,cs19,hv19,hb19,hs19,hE19⟩:=hks.get j (by omega)
  refine JLn (Zcw j ZQ Zy hv19 rfl rfl (by omega))<|JLr (Zn Zy rfl (Zcx hb19) hs19<|JLr (Zp (l:=pkT 0 0 zS nS nS) zeroValue51 rfl fun b20=>JLA rfl<|JLr (Ze 0 (vs:=cs19) (l:=cs19) Zy rfl rfl rfl rfl (ZB hE19) (XA hE19) (Yb (n:=36) rfl (ZB hE19))<|Za<|ZI mixed #[0,1,0,0,0,24,63,127] 6 (sm 34 6) [] [(5,fun _ _ vw qw=>∃ cs k,vw=.agg ⟨cs⟩∧qw=[k]∧OT (mpT D (kids[j])) cs k)] rfl (by kernel_rfl) rfl (by kernel_rfl)<|Dq (pp b1 34) (fun _=>Yd rfl rfl)<|Dl1 YZ (Zcu 1 rfl) (Yh ..)<|DM (fun _=>rfl)<|Dl Zy (Zcu 0 rfl) (ZE (ZB hE19))<|DM (fun _=>rfl) ?_)))
  refine Dc rfl call57 (fun _=>rfl) (fun hin=>ih _ (getElem_mem h18n) _ _ (RT.mono (Hle.hu _ _) hE19) (by omega) (HC hq.2.1 _ (getElem_mem h18n)) (fun y a h hh ra hqy=>hdo y a h (Hle.trans (Hle.hu _ _) hh) ra hqy)) ?_
  rintro _ _ ⟨cs22,k22,rfl,rfl,hO22⟩
  refine ZM (M':=[k22,(BX b20 cs19 51),(BX b1 (pkT ((D kind num ref).1) ((D kind num ref).2.1) ((D kind num ref).2.2) v5 nS) 51),k1,k2,(BX b2 (pkT 0 0 zS nS nS) 51)]) rfl ?_
  show JL _ _ _ [_,_] _ _ _
  obtain ⟨b23,cap23,row23,e23,hv23,hm23,hs23,hE23⟩:=hH.at ho h18n
  refine JLn (Zcw j ZQ Zy hv23 rfl rfl (by rw [hH.1];exact h18n))<|JLr (Yu (i:=3) (j:=j) (b:=b23) Zy rfl ho ⟨_,_,hv23⟩ rfl (by rw [hH.1];exact h18n) rfl rfl hO22.len hO22.ok fun k24 ho24=>Za<|Zd<|JLn (Zcy rfl rfl (by omega))<|JLM rfl<|Za<|⟨_,?_,(j+1),(es.set j cs22),k24,(k2++k22),Zj rfl,(Sub.cons 2 rfl (Sub.cons 2 rfl (ZcF (Sub.cons 2 rfl (Sk (Sd (Sk Sub.nil))))))),?_,?_,?_,rfl⟩)
  ·omega
  ·omega
  ·exact ho24
  rw [I2 D kids j h18n];exact hH.step h18n hO22
 have h18n:kids.length≤j:=by omega
 refine Zu _ rfl<|Zf<|Zc<|JLm cv ?_
 obtain ⟨a25,cap25,hv25⟩:=hcv.sl
 have hle25:=hcv.le
 refine JLn (Zcv Yz hv25)<|JLM rfl<|Za<|Zh ?_
 have hjk:=h18n
 rw [take_of_length_le hjk] at hH
 refine Zv (fun k ρ M=>∃ (j:Nat) (w:Value) (es2:List (List Value)) (k3 k4:Zi),ZR ρ [(1,.func (.func gr) ⟨frs⟩ ⟨crs⟩),(2,pp b1 0),(4,pp b2 0),(42,cv),(43,iv ((cases.length:Int))),(44,iv ((j:Int)))]=ρ∧Sub [(BX b1 (pkT ((D kind num ref).1) ((D kind num ref).2.1) ((D kind num ref).2.2) v5 w) 51),k3,k4,k1,k2,(BX b2 (pkT 0 0 zS nS nS) 51)] M∧j≤cases.length∧Own 117 71 w es2 k3∧OCs (RJ D (cases.take j)) es2 k4∧k=cases.length-j) _ ⟨0,nS,[],[],[],Zj rfl,(Sk (Zcz (Zcz (Sk (Sk (Sk Sub.nil)))))),Nat.zero_le _,Own.nil,OCs.nil,rfl⟩ ?_
 rintro _ ρ26 _ ⟨j,w,es2,k3,k4,e27,hm33,hj,how,hopw,rfl⟩
 obtain ⟨ρ34,rfl⟩:=Zo e27
 clear e27
 refine ZD hm33<|Zc<|JLn (Pu.lss rfl rfl)<|Za<|Zf<|ZF rfl (fun h35=>?_) (fun h35=>?_)
 ·have h35n:j<cases.length:=by omega
  have helw:=UQ hopw
  rw [MX,length_take] at helw
  have hz1:=Y1 _ (getElem_mem h35n)
  refine Zk<|Zf<|Zh<|Zf<|Zd ?_
  obtain ⟨b36,o36,cap36,row36,T36,fr36,cs36,hv36,hb36,hs36,hE36⟩:=hcv.get j (by omega)
  obtain ⟨ca36,cb36,rfl,hA36,hB36⟩:=hE36
  refine JLn (Zcw j Yz Yg hv36 rfl rfl (by omega))<|JLr (Zn Yg rfl (Zcx hb36) hs36<|JLr (Zp (l:=(pkP 0 0 zS nS)++(pkT 0 0 zS nS nS)) zeroValue117 rfl fun b37=>JLr (Ze 0 (vs:=ca36++cb36) (l:=ca36++cb36) Yg rfl rfl rfl rfl (ZW (ZN hA36) (ZB hB36)) (Y5 (Ur hA36) (XA hB36)) (Yb (n:=71) rfl (ZW (ZN hA36) (ZB hB36)))<|Za<|ZI mixed #[0,1,0,4,12,0,32,0,252,508,1020,2047,4095,8191] 11 (sm 48 11) [] [(4,fun _ _ vw qw=>∃ cs k,vw=.agg ⟨cs⟩∧qw=[k]∧OP (cases[j].1) cs k),(8,fun _ _ vw qw=>∃ cs k,vw=.agg ⟨cs⟩∧qw=[k]∧OT (mpT D (cases[j].2)) cs k),(10,fun r _ vw qw=>∃ b k,vw=.slice (some ⟨b,0,none⟩) 1 1∧qw=[k]∧Own 117 71 (.slice (some ⟨b,0,none⟩) 1 1) [((cel (r 4)))++((cel (r 8)))] k∧k=(BX b (flatten [((cel (r 4)))++((cel (r 8)))]) 117))] rfl (by kernel_rfl) rfl (by kernel_rfl)<|Dq (pp b1 35) (fun _=>ZY rfl rfl)<|Dl1 YL (Zcu 1 rfl) (Z3 ..)<|Dq (pp b37 0) (fun _=>YO rfl rfl)<|Dl ZU (Zcu 0 rfl) (XE (ZN hA36)) ?_)))
  refine Dc rfl call108 (fun _=>rfl) (fun hin=>Po _ _ _ (RP.mono (Hle.hu _ _) hA36) (by omega)) ?_
  rintro _ _ ⟨cs41,k41,rfl,rfl,hO41⟩
  refine Dq (pp b37 35) (fun _=>YV rfl rfl)<|Dl Zy (Zcu 0 rfl) (XK (ZN hA36) (ZB hB36))<|DM (fun _=>rfl) ?_
  refine Dc rfl call57 (fun _=>rfl) (fun hin=>ih' _ (getElem_mem h35n) _ _ (RT.mono (Hle.hu _ _) hB36) (by omega) (HD hq.2.2 _ (getElem_mem h35n)) (fun y a h hh ra hqy=>hdo y a h (Hle.trans (Hle.hu _ _) hh) ra hqy)) ?_
  rintro _ _ ⟨cs42,k42,rfl,rfl,hO42⟩
  refine Dq (.agg ⟨cs41++cs42⟩) (fun _=>Pu.build (pv:=[(0,.agg ⟨cs41⟩),(1,.agg ⟨cs42⟩)]) (l:=cs41++cs42) rfl (UL hO41.len hO42.len))<|Dr rfl (fun _=>Zm (vs:=[.agg ⟨cs41++cs42⟩]) [cs41++cs42] Yz PO rfl rfl (al1 (ZW hO41.len hO42.len)) rfl (by decide) fun b k h1 h2=>⟨[k],by rw [Z4 rfl];exact Sub.refl,b,k,rfl,rfl,h1,h2⟩) (fun _ _ ⟨b43,k43,e1,e2,ho43,hk43⟩=>?_);subst e1 e2
  refine ZM (M':=[k43,k42,k41,(BX b37 (ca36++cb36) 117),(BX b1 (pkT ((D kind num ref).1) ((D kind num ref).2.1) ((D kind num ref).2.2) v5 w) 51),k3,k4,k1,k2,(BX b2 (pkT 0 0 zS nS nS) 51)]) rfl ?_
  show JL _ _ _ [_,_,_] _ _ _
  have hlens44:∀ e∈([cs41++cs42]:List (List Value)),List.length e=71:=al1 (ZW hO41.len hO42.len)
  have hoks44:∀ e∈([cs41++cs42]:List (List Value)),okc e:=al1 (Y5 hO41.ok hO42.ok)
  refine JLr (Zz (i:=5) (n:=1) (es':=[cs41++cs42]) Yz Yz (Or.inl rfl) PO rfl rfl rfl how (fun F w m=>Src.row (((ZcD 0 rfl (by rw [hk43];exact mem_cons_self))).heap m) (ZE (Zw hlens44))) rfl hlens44 hoks44 (by decide) (by omega) fun v44 k44 ho44=>JLq (pp b1 35) (ZY rfl rfl)<|JLr (Ze 4 (vs:=[v44]) (l:=pkT ((D kind num ref).1) ((D kind num ref).2.1) ((D kind num ref).2.2) v5 v44) YL rfl rfl rfl (ZS ho44.one) rfl (Zg ho44.one Zq) (Sy ..)<|Za<|Zd<|JLn (Zcy rfl rfl (by omega))<|JLM rfl<|Za<|⟨_,?_,(j+1),v44,(es2++[cs41++cs42]),k44,(k4++(k41++k42)),Zj rfl,(Sd (Sub.cons 3 rfl (Sub.cons 3 rfl (ZcT (Sub.cons 3 rfl (Sub.cons 1 rfl (Sk (Sd (Sk (Sk (Sk Sub.nil))))))))))),?_,?_,?_,rfl⟩))
  ·omega
  ·omega
  ·exact ho44
  rw [I3 D cases j h35n];exact OCs.snoc hO41 hO42 hopw
 have h35n:cases.length≤j:=by omega
 refine Zu _ rfl<|Zc<|JLr (Zn Zy rfl (Zcu 0 rfl) (YH ..)<|JLr (Ze 5 (vs:=pkT ((D kind num ref).1) ((D kind num ref).2.1) ((D kind num ref).2.2) v5 w) (l:=pkT ((D kind num ref).1) ((D kind num ref).2.1) ((D kind num ref).2.2) v5 w) Zy rfl rfl rfl rfl rfl (Ys ho.one how.one) (Xo ..)<|Za<|ZH<|⟨.agg ⟨pkT ((D kind num ref).1) ((D kind num ref).2.1) ((D kind num ref).2.2) v5 w⟩,[k1++(k2++(k3++k4))],Ret.one rfl (RV.cell Zy rfl (Zcu 5 rfl) (YH ..)),(ZcQ (Sd (Sub.cons 2 rfl (Sub.cons 2 rfl (Sk (Sk Sub.nil)))))),?_⟩))
 rw [take_of_length_le h35n] at hopw
 exact ⟨_,_,rfl,rfl,by rw [mpT];exact OT_mk.2 ⟨_,w,es,es2,k1,k2,k3,k4,rfl,hD1.1,hD1.2,ho,hH.done hjk,how,hopw,rfl,by rw [FE];exact hks.le,by rw [MX];exact hcv.le⟩⟩
theorem LV (aS:_) (n cap:Nat) (H:Heap) (hn:n≤1000000):CT prog 154 ⟨[.slice aS n cap]⟩ [] H (fun v N=>v=(if 65536<n then .tuple ⟨[nS,iv 11]⟩ else .tuple ⟨[.slice aS n cap,iv 0]⟩)∧N=[]):=by
 refine Zl func154 rfl rfl<|Zc<|JLA rfl<|JAn rfl<|Zc<|JAn rfl<|Zf<|Zf<|Zd ?_
 refine JLM rfl<|JLn (Zcv Yl rfl)<|JLn (Pu.gtr rfl rfl)<|Za<|ZF rfl (fun h1=>?_) (fun h1=>?_)
 ·refine Zc<|JLM rfl<|JLA rfl<|JAn rfl<|ZH<|⟨.tuple ⟨[nS,iv 11]⟩,[],ZcE rfl (RV.tmp rfl) (RV.tmp rfl),Sub.nil,?_⟩
  exact ⟨by rw [if_pos (by omega)],rfl⟩
 refine Zk<|Zc<|JLM rfl<|JLA rfl<|JAn rfl<|ZH<|⟨.tuple ⟨[.slice aS n cap,iv 0]⟩,[],ZcE rfl (RV.tmp rfl) (RV.tmp rfl),Sub.nil,?_⟩
 exact ⟨by rw [if_neg (by omega)],rfl⟩
theorem Lk (x:It) (cs:List Value) (H:Heap) (ht:RIt H cs x) (hg:gdI x) (hz:szI x≤5000) (hd:dpI x≤250):CT prog 106 ⟨[.agg ⟨cs⟩]⟩ [] H (fun r N=>∃ u k,r=.tuple ⟨[u,iv (XV x)]⟩∧N=[k]∧Own 5 1 u (Yk (Sb x)) k):=by
 have henc:=QJ x hg (by omega)
 refine Zl func106 rfl rfl<|Zc<|JLr (Zr (l:=cs) rfl rfl fun b1=>JLA rfl<|JAn rfl<|Zf<|Zc<|JLr (Zn Y3 rfl (Zcu 0 rfl) (ZE (VO ht))<|Jc call153 rfl (fun hin=>Hp _ _ _ (RIt.mono (Hle.hu _ _) ht) hg (by omega) (by omega)) rfl ?_))
 rintro _ _ ⟨rfl,rfl⟩
 refine JAn rfl<|Zc<|JLM rfl<|JLq (.bool false) (show Pu _ _ _ (.bool (!decide ((0:Int)=0))) from Pu.neq rfl rfl)<|Za<|Zs (b:=false) rfl (fun h=>absurd h (by simp)) (fun _=>Zk<|Zc<|JLr (Zn Y3 rfl (Zcu 0 rfl) (ZE (VO ht))<|Jc call155 rfl (fun hin=>Kx _ _ _ (RIt.mono (Hle.hu _ _) ht) hg (by omega)) rfl ?_))
 rintro v2 _ ⟨k2,rfl,ho2⟩
 obtain ⟨aS3,capS3,hvS3⟩:=ho2.sl
 rw [Z8] at hvS3
 subst hvS3
 refine Jc call154 rfl (fun hin=>LV _ (Ya x).length _ _ (by omega)) rfl ?_
 rintro _ _ ⟨rfl,rfl⟩
 obtain ⟨u3,kq3,hu3,hsub3,hq3⟩:=IF (T:=5) ho2
 rw [hu3]
 refine XI (IE (i:=0) rfl hsub3)<|JLn (Pu.extract rfl rfl)<|JLn (Pu.extract rfl rfl)<|JLa u3<|JAn rfl<|ZH<|⟨.tuple ⟨[u3,iv (XV x)]⟩,[kq3],ZcE rfl (RV.tmp rfl) (RV.tmp rfl),(Sk Sub.nil),?_⟩
 exact ⟨_,_,rfl,rfl,hq3⟩
theorem Cv:∀ (f:Int→Int) (m:Int) (gr:Nat) (frs crs:List Value) (hcall:∀ args w,(callFunc gr args).run prog w=.ok (.enter gr args) w) (bC:Nat) (t:Tm) (cs:List Value) (H:Heap),RT H cs t→V3 m t.kind t.num t.ref→H bC=some (.cells ⟨[.func (.func gr) ⟨frs⟩ ⟨crs⟩]⟩ 48 (0,0))→(∀ (n:Int) (h:Heap),Hle H h→0≤n→n<m→CT prog gr ⟨frs++[iv n]++crs⟩ [] h (fun v N=>v=iv (f n)∧N=[]))→CT prog 148 ⟨[.agg ⟨cs⟩,pp bC 0]⟩ [] H (fun v N=>∃ kx cx,v=.agg ⟨pkT (nmD f t.kind t.num t.ref).1 (nmD f t.kind t.num t.ref).2.1 (nmD f t.kind t.num t.ref).2.2 kx cx⟩∧N=[]∧kx.oneCell'=true∧cx.oneCell'=true):=by
 intro f m gr frs crs hcall bC t cs H ht hq hC hcl
 obtain ⟨kind,num,ref,kids,cases⟩:=t
 obtain ⟨ks,cv,rfl,hk,hn,hks,hcv⟩:=RT_mk.1 ht
 simp only [Tm.kind,Tm.num,Tm.ref] at hq ⊢
 refine Zl func148 rfl rfl<|Zc<|JLr (Zr (l:=pkT kind num ref ks cv) rfl rfl fun b1=>JLr (Zp (l:=pkT 0 0 zS nS nS) zeroValue51 rfl fun b2=>Za<|Zf<|Zc<|JLq (pp b1 0) (Z1 rfl rfl)<|JLr (Zb ty3 rfl (Zcu 1 rfl) (Yf ..)<|JLn (Pu.eql rfl rfl)<|Za ?_)))
 refine ZF rfl (fun h3=>?_) (fun h3=>?_)
 ·have h7:kind=7:=h3
  refine Zd<|JLr (Zb Zca rfl (Zcx hC) rfl<|JLq (pp b1 1) (Yj rfl rfl)<|JLr (Zb ty3 rfl (Zcu 1 rfl) (YP ..)<|Jc hcall rfl (fun hin=>hcl _ _ (Hle.hu _ _) (hq h7).1 (hq h7).2) rfl ?_))
  rintro _ _ ⟨rfl,rfl⟩
  refine JLq (pp b1 1) (Yj rfl rfl)<|JLr (Ze 1 (vs:=[iv (f num)]) (l:=pkT kind (f num) ref ks cv) ty3 rfl rfl rfl rfl rfl (Zg rfl Zq) (AN ..)<|Za<|Zc<|JLr (Zn Zy rfl (Zcu 1 rfl) (YH ..)<|JLr (Ze 0 (vs:=pkT kind (f num) ref ks cv) (l:=pkT kind (f num) ref ks cv) Zy rfl rfl rfl rfl rfl (Ys hks.one hcv.one) (Xo ..)<|Za<|ZH<|⟨.agg ⟨pkT kind (f num) ref ks cv⟩,[],Ret.one rfl (RV.cell Zy rfl (Zcu 0 rfl) (YH ..)),Sub.nil,?_⟩)))
  have hD:nmD f kind num ref=(kind,f num,ref):=by unfold nmD;rw [if_pos h7]
  exact ⟨_,_,by rw [hD],rfl,hks.one,hcv.one⟩
 refine Zk<|Zc<|JLr (Zn Zy rfl (Zcu 1 rfl) (YH ..)<|JLr (Ze 0 (vs:=pkT kind num ref ks cv) (l:=pkT kind num ref ks cv) Zy rfl rfl rfl rfl rfl (Ys hks.one hcv.one) (Xo ..)<|Za<|ZH<|⟨.agg ⟨pkT kind num ref ks cv⟩,[],Ret.one rfl (RV.cell Zy rfl (Zcu 0 rfl) (YH ..)),Sub.nil,?_⟩))
 have hD:nmD f kind num ref=(kind,num,ref):=by unfold nmD;rw [if_neg h3]
 exact ⟨_,_,by rw [hD],rfl,hks.one,hcv.one⟩
theorem Ta:∀ (f:Int→Int) (m:Int) (hf:∀ n,0≤n→n<m→inI (f n)) (gr:Nat) (frs crs:List Value) (hcall:∀ args w,(callFunc gr args).run prog w=.ok (.enter gr args) w) (t:Tm) (cs:List Value) (H:Heap),RT H cs t→sizeT t≤1000000→R5 (V3 m) t→(∀ (n:Int) (h:Heap),Hle H h→0≤n→n<m→CT prog gr ⟨frs++[iv n]++crs⟩ [] h (fun v N=>v=iv (f n)∧N=[]))→CT prog 98 ⟨[.agg ⟨cs⟩,.func (.func gr) ⟨frs⟩ ⟨crs⟩]⟩ [] H (fun v N=>∃ cs k,v=.agg ⟨cs⟩∧N=[k]∧OT (mpT (nmD f) t) cs k):=by
 intro f m hf gr frs crs hcall t cs H ht hz hq hcl
 refine Zl func98 rfl rfl<|Zc<|JLr (Zr (l:=cs) rfl rfl fun b1=>JLr (Zr (l:=[.func (.func gr) ⟨frs⟩ ⟨crs⟩]) rfl rfl fun b2=>JLr (Zp (l:=pkT 0 0 zS nS nS) zeroValue51 rfl fun b3=>Za<|Zc<|JLr (Zn Zy rfl (Zcu 2 rfl) (ZE (ZB ht))<|JLq (.func (.func 148) ⟨[]⟩ ⟨[pp b2 0]⟩) (Pu.makeFunc rfl rfl)<|Jc call57 rfl (fun hin=>Tx (nmD f) (V3 m) _ [] _ call148 (A2 hf) t _ _ (RT.mono (Hle.hu _ _) ht) hz hq (fun y a h hh ra hqy=>Cv f m gr frs crs hcall _ _ _ _ ra hqy (hh _ _ (hin 1 _ rfl _ _ mem_cons_self)) (fun n h2 h3=>hcl n h2 (Hle.trans (Hle.hu _ _) (Hle.trans hh h3))))) rfl ?_))))
 rintro _ _ ⟨cs4,k4,rfl,rfl,hO4⟩
 refine JLr (Ze 1 (vs:=cs4) (l:=cs4) Zy rfl rfl rfl rfl hO4.len hO4.ok (Yb (n:=36) rfl hO4.len)<|Za<|ZH<|⟨.agg ⟨cs4⟩,[k4],Ret.one rfl (RV.cell Zy rfl (Zcu 1 rfl) (ZE hO4.len)),(Sk Sub.nil),?_⟩)
 exact ⟨_,_,rfl,rfl,hO4⟩
theorem DA (n:Int) (H:Heap):CT prog 117 ⟨[iv n]⟩ [] H (fun v N=>v=iv 0∧N=[]):=by
 refine Zl func117 rfl rfl<|Zc<|JAn rfl<|Zc<|JAn rfl<|ZC (iv 0) [] Sub.nil (?_)
 exact ⟨rfl,rfl⟩
theorem LB:∀ (m:Int) (t:Tm) (cs:List Value) (H:Heap),RT H cs t→sizeT t≤1000000→R5 (V3 m) t→CT prog 116 ⟨[.agg ⟨cs⟩]⟩ [] H (fun v N=>∃ cs k,v=.agg ⟨cs⟩∧N=[k]∧OT (blP t) cs k):=by
 intro m t cs H ht hz hq
 refine Zl func116 rfl rfl<|Zc<|JLr (Zr (l:=cs) rfl rfl fun b1=>JLr (Zp (l:=pkT 0 0 zS nS nS) zeroValue51 rfl fun b2=>Za<|Zc<|JLr (Zn Zy rfl (Zcu 1 rfl) (ZE (ZB ht))<|Jc call98 rfl (fun hin=>Ta (fun _=>(0:Int)) m (fun _ _ _=>by unfold inI;omega) _ [] [] call117 t _ _ (RT.mono (Hle.hu _ _) ht) hz hq (fun n h _ _ _=>DA n h)) rfl ?_)))
 rintro _ _ ⟨cs3,k3,rfl,rfl,hO3⟩
 refine JLr (Ze 1 (vs:=cs3) (l:=cs3) Zy rfl rfl rfl rfl hO3.len hO3.ok (Yb (n:=36) rfl hO3.len)<|Za<|ZH<|⟨.agg ⟨cs3⟩,[k3],Ret.one rfl (RV.cell Zy rfl (Zcu 1 rfl) (ZE hO3.len)),(Sk Sub.nil),?_⟩)
 exact ⟨_,_,rfl,rfl,hO3⟩
theorem HG:∀ (m:Int) (t u:Tm) (cs us:List Value) (bB:Nat) (H:Heap),RT H cs t→RT H us u→sizeT t≤1000000→sizeT u≤1000000→R5 (V3 m) t→R5 (V3 m) u→H bB=some (.cells ⟨[.func (.func 116) ⟨[]⟩ ⟨[]⟩]⟩ 52 (0,0))→CT prog 119 ⟨[.agg ⟨cs⟩,.agg ⟨us⟩,pp bB 0]⟩ [] H (fun v N=>v=.bool (decide (blP t=blP u))∧N=[]):=by
 intro m t u cs us bB H ht hu hz hzu hq hqu hB
 refine Zl func119 rfl rfl<|Zc<|JLr (Zr (l:=cs) rfl rfl fun b1=>JLr (Zr (l:=us) rfl rfl fun b2=>JAn rfl<|Zf<|ZI mixed #[0,0,3,0,0,31,63,127] 5 (sm 6 5) [] [(2,fun _ _ vw qw=>∃ cs k,vw=.agg ⟨cs⟩∧qw=[k]∧OT (blP t) cs k)] rfl (by kernel_rfl) rfl (by kernel_rfl)<|Dl1 Ax (Zcx hB) rfl<|Dl Zy (Zcu 1 rfl) (ZE (ZB ht))<|Dc rfl call116 (fun _=>rfl) (fun hin=>LB m _ _ _ (RT.mono (Hle.hu _ _) ht) (by assumption) (by assumption)) ?_))
 rintro _ _ ⟨cs4,k4,rfl,rfl,hO4⟩
 refine Dl1 Ax (Zcx hB) rfl<|Dl Zy (Zcu 0 rfl) (ZE (ZB hu))<|ZM (M':=[k4,(BX b2 us 51),(BX b1 cs 51)]) rfl ?_
 show JL _ _ _ [_,_,_] _ _ _
 refine Jc call116 rfl (fun hin=>LB m _ _ _ (RT.mono (Hle.hu _ _) hu) (by assumption) (by assumption)) rfl ?_
 rintro _ _ ⟨cs5,k5,rfl,rfl,hO5⟩
 refine Jc call120 rfl (fun hin=>GP _ _ _ _ _ (hO4.rd (hin 1 _ rfl)) (hO5.rd (hin 0 _ rfl))) rfl ?_
 rintro _ _ ⟨rfl,rfl⟩
 refine JAn rfl<|ZC (.bool (decide (blP t=blP u))) [] Sub.nil (?_)
 exact ⟨rfl,rfl⟩
theorem KG (x:It) (cs:List Value) (H:Heap) (ht:RIt H cs x) (hg:gdI x) (hz:szI x≤5000) (hd:dpI x≤250):CT prog 143 ⟨[.agg ⟨cs⟩]⟩ [] H (fun v N=>v=iv 0∧N=[]):=by
 refine Zl func143 rfl rfl<|Zc<|JLr (Zr (l:=cs) rfl rfl fun b1=>JAn rfl<|Zc<|JLr (Zn Y3 rfl (Zcu 0 rfl) (ZE (VO ht))<|Jc call182 rfl (fun hin=>KF _ _ _ _ _ (RIt.mono (Hle.hu _ _) ht) hg (by omega) (by omega) (by omega) (by omega)) rfl ?_))
 rintro _ _ ⟨rfl,rfl⟩
 refine JLM rfl<|JLn (Pu.extract rfl rfl)<|JLn (Pu.extract rfl rfl)<|JLA rfl<|JAn rfl<|Zc<|JLM rfl<|JAn rfl<|ZC (iv 0) [] Sub.nil (?_)
 exact ⟨rfl,rfl⟩
set_option maxHeartbeats 2000000 in
theorem I8 (x:It) (v:Value) (H:Heap) (hv:Hs.rdS RIt 4 H v [x]) (hg:gdI x) (hz:szI x≤5000) (hd:dpI x≤250):CT prog 96 ⟨[v]⟩ [] H (fun r N=>∃ u k,r=.tuple ⟨[u,iv (XV x)]⟩∧N=[k]∧Own 5 1 u (Yk (Sb x)) k):=by
 have henc:=QJ x hg (by omega)
 refine Zl func96 rfl rfl<|Zc<|JLA rfl<|JAn rfl<|Zf<|Zc<|JLm v ?_
 obtain ⟨a1,cap1,hv1⟩:=hv.sl
 have hle1:=hv.le
 refine JLn (Zcv Xl hv1)<|JLM rfl<|Za<|Zh<|Og 2<|W9<|Zc<|JLq (.bool true) (show Pu _ _ _ (.bool (decide ((0:Int)<1))) from Pu.lss rfl rfl)<|Za<|Zf<|Zs (b:=true) rfl (fun _=>?_) (fun h=>absurd h (by simp))
 refine Zk<|Zf<|Zh<|Zc<|JLM rfl<|JAn rfl<|Zc<|JLm v<|JLM rfl ?_
 obtain ⟨b2,o2,cap2,row2,T2,fr2,cs2,hv2,hb2,hs2,hE2⟩:=hv.get 0 (by first | assumption | omega | decide | simp)
 obtain ⟨ki2,rfl,hik2,hin2,hks2⟩:=Ut hE2
 refine JLn (Zcw 0 Xl Y3 hv2 rfl rfl (by first | assumption | omega | decide | simp))<|JLr (Zn Y3 rfl (Zcx hb2) hs2<|Jc call143 rfl (fun hin=>KG _ _ _ (RIt.mono (Hle.hu _ _) (Us hik2 hin2 hks2)) hg hz hd) rfl ?_)
 rintro _ _ ⟨rfl,rfl⟩
 refine JAn rfl<|Zc<|JLM rfl<|JLq (.bool false) (show Pu _ _ _ (.bool (!decide ((0:Int)=0))) from Pu.neq rfl rfl)<|Za<|Zs (b:=false) rfl (fun h=>absurd h (by simp)) (fun _=>Zk<|Zd<|JLq (iv 1) (ZcO rfl rfl rfl)<|JLM rfl<|Za ?_)
 refine W9<|Zc<|JLq (.bool false) (show Pu _ _ _ (.bool (decide ((1:Int)<1))) from Pu.lss rfl rfl)<|Za<|Zf<|Zs (b:=false) rfl (fun h=>absurd h (by simp)) (fun _=>Zu _ rfl<|Zc<|JAn rfl<|Zf ?_)
 refine Zc<|JLm v ?_
 obtain ⟨a3,cap3,hv3⟩:=hv.sl
 have hle3:=hv.le
 refine JLn (Zcv Xl hv3)<|JLM rfl<|Za<|Zh<|Og 2<|W9<|Zc<|JLq (.bool true) (show Pu _ _ _ (.bool (decide ((0:Int)<1))) from Pu.lss rfl rfl)<|Za<|Zf<|Zs (b:=true) rfl (fun _=>?_) (fun h=>absurd h (by simp))
 refine Zk<|Zf<|Zh<|Zc<|JLM rfl<|JAn rfl<|Zc<|JLM rfl<|JLm v<|JLM rfl ?_
 obtain ⟨b4,o4,cap4,row4,T4,fr4,cs4,hv4,hb4,hs4,hE4⟩:=hv.get 0 (by first | assumption | omega | decide | simp)
 obtain ⟨ki4,rfl,hik4,hin4,hks4⟩:=Ut hE4
 refine JLn (Zcw 0 Xl Y3 hv4 rfl rfl (by first | assumption | omega | decide | simp))<|JLr (Zn Y3 rfl (Zcx hb4) hs4<|XI (M':=[[]]) (Zcz Sub.refl)<|ZG 0 rfl call144 rfl rfl (fun hin=>LR _ [] _ _ _ _ (RIt.mono (Hle.hu _ _) (Us hik4 hin4 hks4)) (show Own 5 1 _ (Yk []) [] from Own.nil) hg (by simp;omega)) rfl ?_)
 rintro v5 _ ⟨k5,rfl,ho5⟩
 refine JLa v5<|Za<|Zc<|JLm v5 ?_
 obtain ⟨a6,cap6,hv6⟩:=ho5.sl
 rw [Z8] at hv6
 refine JLn (Zcv Yl hv6)<|JLn (Pu.gtr rfl rfl)<|Za<|ZF rfl (fun h7=>?_) (fun h7=>?_)
 ·refine Zc<|JLA rfl<|JAn rfl<|ZH<|⟨.tuple ⟨[nS,iv 11]⟩,[[]],ZcE rfl (RV.tmp rfl) (RV.tmp rfl),(Zcz Sub.nil),?_⟩
  exact ⟨_,_,by rw [J1 (by have z:=h7;simp at z;omega)],rfl,by rw [JZ (by have z:=h7;simp at z;omega)];exact Own.nil⟩
 refine Zk<|Zd<|JLq (iv 1) (ZcO rfl rfl rfl)<|JLM rfl<|Za<|W9<|Zc<|JLq (.bool false) (show Pu _ _ _ (.bool (decide ((1:Int)<1))) from Pu.lss rfl rfl)<|Za<|Zf<|Zs (b:=false) rfl (fun h=>absurd h (by simp)) (fun _=>Zu _ rfl ?_)
 refine Zc<|JLm v5<|JLa v5<|JAn rfl<|ZH<|⟨.tuple ⟨[v5,iv 0]⟩,[k5],ZcE rfl (RV.tmp rfl) (RV.tmp rfl),(Sk Sub.nil),?_⟩
 have hle:(Ya x).length≤65536:=by have z:=h7;simp at z;omega
 exact ⟨_,_,by rw [J0 hle],rfl,by rw [JY hle];exact ho5⟩
theorem Ll (x:It) (cs:List Value) (H:Heap) (ht:RIt H cs x) (hg:gdI x) (hz:szI x≤5000) (hd:dpI x≤250):CT prog 48 ⟨[.agg ⟨cs⟩]⟩ [] H (fun r N=>∃ u k,r=.tuple ⟨[u,iv (XV x)]⟩∧N=[k]∧Own 5 1 u (Yk (Sb x)) k):=by
 refine Zl func48 rfl rfl<|Zc<|JLr (Zr (l:=cs) rfl rfl fun b1=>JLA rfl<|JAn rfl<|Zc<|JLr (Zn Y3 rfl (Zcu 0 rfl) (ZE (VO ht))<|JLr (Zm (vs:=[.agg ⟨cs⟩]) [cs] Xl UH rfl rfl (al1 (VO ht)) rfl (by decide) fun b2 k2 ho2 hk2=>Jc call96 rfl (fun hin=>I8 x _ _ (Zdr ho2 (hin 0 _ rfl) (RIt.mono (Hle.hu _ _) ht)) hg hz hd) rfl ?_)))
 rintro _ _ ⟨u3,k3,rfl,rfl,ho3⟩
 refine JLn (Pu.extract rfl rfl)<|JLn (Pu.extract rfl rfl)<|JLa u3<|JAn rfl<|ZH<|⟨.tuple ⟨[u3,iv (XV x)]⟩,[k3],ZcE rfl (RV.tmp rfl) (RV.tmp rfl),(Sk Sub.nil),?_⟩
 exact ⟨_,_,rfl,rfl,ho3⟩
set_option maxHeartbeats 8000000 in
theorem EE:∀ (l:List Tm) (_:okG l) (f i:Nat),i<l.length→rkM (mkL l) (firstN l i)<f→∀ (v:Value) (H:Heap),Hs.rdS RT 36 H v l→CT prog 9 ⟨[v,iv (i:Int)]⟩ [] H (fun r N=>∃ u k,r=.tuple ⟨[u,iv (coR (mkL l) f (firstN l i))]⟩∧N=[k]∧Own 5 1 u (Yk (coO (mkL l) f (firstN l i))) k):=by
 intro l hG f
 have hn8:=hG.hi
 have hs:=hG.ok
 have hz:∀ t∈l,sizeT t≤400000:=fun t ht=>by have:=hG.sz ht;omega
 have hzm:∀ t∈mkL l,sizeT t≤400000:=fun t ht=>by have:=hG.mkL.sz ht;omega
 induction f with
 | zero=>intro i _ h;exact absurd h (by omega)
 | succ f ih=>
 intro i hi hrf v H hv
 have hlen:=hv.le
 have hfl:=YJ hi
 have hfil:i<(frI l).length:=by rw [Yw];exact hi
 refine Zl func9 rfl rfl<|Zc<|JLA rfl<|JAn rfl<|Zc<|JLm v<|Jc call42 rfl (fun hin=>FK _ _ _ (RTs.mono (Hle.hu _ _) hv) hn8 hz hs) rfl ?_
 rintro _ _ ⟨v1,w1,k1,q1,rfl,rfl,hO1,ho1⟩
 refine JLM rfl<|JLn (Pu.extract rfl rfl)<|JLn (Pu.extract rfl rfl)<|JLa v1<|JLa w1<|Za<|Zc<|JLm v1<|JLm w1<|JLM rfl ?_
 obtain ⟨b2,cap2,row2,hv2,hm2,hs2⟩:=ho1.at (j:=i) (by rw [Zt];first | assumption | omega)
 rw [Z9 _ _ (by first | assumption | omega)] at hs2
 refine JLn (Zcw i ZV ty3 hv2 rfl rfl (by rw [Zt];first | assumption | omega))<|JLr (Zb ty3 rfl (ZcD 1 rfl hm2) (ZT hs2)<|Jc call43 rfl (fun hin=>I0 _ _ _ _ (hO1.rd (hin 0 _ rfl)) (by rw [Z0];omega) hzm hG.mkL.ok (by rw [XU hi];omega) (by rw [XU hi];exact nmk hi)) rfl ?_)
 rintro v3 _ ⟨k3,rfl,ho3⟩
 rw [XU hi] at ho3
 obtain ⟨o,ho⟩:∃ o,o=Wd (mkL l) (firstN l i):=⟨_,rfl⟩
 rw [← ho] at ho3
 have hok:okO (mkL l).length o:=by rw [ho];exact QB hG.mkL.ok (by omega) (nmk hi)
 have hol:=hok.len
 obtain ⟨ot,hot⟩:=Tt hG.mkL.ok (i:=(firstN l i:Int)) (by omega) (nmk hi)
 rw [← ho] at hot
 have ho1:0<o.length:=by rw [hot];simp
 have ho00:o.getD 0 0=(firstN l i:Int):=by rw [hot];rfl
 have hml:=Z0 l
 have hok2:okO l.length o:=by rw [← hml];exact hok
 refine JLa v3<|Za<|Zc<|JLm v ?_
 obtain ⟨a4,cap4,hv4⟩:=hv.sl
 have hle4:=hv.le
 refine JLn (Zcv ZQ hv4)<|JLr (WM (l.length) ZV el3 rfl rfl rfl rfl (by omega) (by omega) fun v5 k5 ho5=>?_)
 rw [PD] at ho5
 refine JLa v5<|Za<|Zc<|JLm v ?_
 obtain ⟨a6,cap6,hv6⟩:=hv.sl
 have hle6:=hv.le
 refine JLn (Zcv ZQ hv6)<|JLr (WM (l.length) Wt Hk rfl rfl rfl rfl (by omega) (by omega) fun v7 k7 ho7=>?_)
 rw [DV _ rfl] at ho7
 refine JLa v7<|Za<|Zf<|Zc<|JAn rfl<|Zh<|Zv (fun k ρ M=>∃ (j:Nat) (y8_9:Value) (q8_9:Zi),ZR ρ [(0,v),(4,nS),(5,iv 0),(6,v1),(8,v3),(9,y8_9),(10,v7),(11,iv ((j:Int)))]=ρ∧Sub [q8_9,k7,k3,k1,q1] M∧j≤l.length∧Own 3 1 y8_9 (Z2 (byI l.length j)) q8_9∧k=l.length-j) _ ⟨0,v5,k5,Zj rfl,(Sub.cons 1 rfl (Sk (Sk (Sk (Sk Sub.nil))))),Nat.zero_le _,(by have z:=ho5;rw [Ig] at z;exact z),rfl⟩ ?_
 rintro _ ρ9 _ ⟨j,y8_9,q8_9,e10,hm18,hj,ho8_9,rfl⟩
 obtain ⟨ρ19,rfl⟩:=Zo e10
 clear e10
 refine ZD hm18<|Zf<|Zc<|JLM rfl<|JLm v ?_
 obtain ⟨a20,cap20,hv20⟩:=hv.sl
 have hle20:=hv.le
 refine JLn (Zcv ZQ hv20)<|JLn (Pu.lss rfl rfl)<|Za<|ZF rfl (fun h21=>?_) (fun h21=>?_)
 ·have h21n:j<l.length:=by omega
  have hjb:j<(byI l.length j).length:=by rw [If];exact h21n
  refine Zk<|Zf<|Zh<|Zd<|JLm y8_9<|JLM rfl ?_
  obtain ⟨b22,cap22,row22,hv22,hm22,hs22⟩:=ho8_9.at (j:=j) (by rw [Zt];first | assumption | omega)
  rw [Z9 _ _ (by first | assumption | omega)] at hs22
  refine JLn (Zcw j ZV ty3 hv22 rfl rfl (by rw [Zt];first | assumption | omega))<|JLr (Yu (i:=0) (j:=j) (b:=b22) (e':=[iv (-1)]) ty3 rfl ho8_9 ⟨_,_,hv22⟩ rfl (by rw [Zt];first | assumption | omega) rfl rfl rfl (Zg rfl Zq) fun k23 ho23=>?_)
  rw [PC] at ho23
  refine Za<|Zd<|JLM rfl<|JLn (Zcy rfl rfl (by omega))<|JAn rfl<|⟨_,?_,(j+1),y8_9,k23,Zj rfl,(Sk (Sk (Sk (Sk (Sk Sub.nil))))),?_,?_,rfl⟩
  ·omega
  ·omega
  rw [← Lv];exact ho23
 have h21n:l.length≤j:=by omega
 refine Zu _ rfl<|Zf<|Zc<|JAn rfl<|Zh<|Zv (fun k ρ M=>∃ (p:Nat) (y24_9:Value) (q24_9:Zi),ZR ρ [(0,v),(4,nS),(5,iv 0),(6,v1),(8,v3),(9,y24_9),(10,v7),(12,iv ((p:Int)))]=ρ∧Sub [q24_9,k7,k3,k1,q1] M∧p≤o.length∧Own 3 1 y24_9 (Z2 (byJ l.length o p)) q24_9∧k=o.length-p) _ ⟨0,y8_9,q8_9,Zj rfl,(Sk (Sk (Sk (Sk (Sk Sub.nil))))),Nat.zero_le _,(by have z:=ho8_9;rw [Bw o (show l.length≤j by omega)] at z;exact z),rfl⟩ ?_
 rintro _ ρ25 _ ⟨p,y24_9,q24_9,e26,hm34,hp,ho24_9,rfl⟩
 obtain ⟨ρ35,rfl⟩:=Zo e26
 clear e26
 refine ZD hm34<|Zf<|Zc<|JLM rfl<|JLm v3 ?_
 obtain ⟨a36,cap36,hv36⟩:=ho3.sl
 rw [Zt] at hv36
 refine JLn (Zcv ZV hv36)<|JLn (Pu.lss rfl rfl)<|Za<|ZF rfl (fun h37=>?_) (fun h37=>?_)
 ·have h37n:p<o.length:=by omega
  have hop:=hok.2 _ (getElem_mem h37n)
  have hjb:(o[p]).toNat<(byJ l.length o p).length:=by rw [Bu];omega
  refine Zk<|Zf<|Zh<|Zd<|JLm y24_9<|JLm v3<|JLM rfl ?_
  obtain ⟨b38,cap38,row38,hv38,hm38,hs38⟩:=ho3.at (j:=p) (by rw [Zt];first | assumption | omega)
  rw [Z9 _ _ (by first | assumption | omega)] at hs38
  refine JLn (Zcw p ZV ty3 hv38 rfl rfl (by rw [Zt];first | assumption | omega))<|JLr (Zb ty3 rfl (ZcD 2 rfl hm38) (ZT hs38)<|JLM rfl ?_)
  obtain ⟨b39,cap39,row39,hv39,hm39,hs39⟩:=ho24_9.at (j:=(o[p]).toNat) (by rw [Zt];first | assumption | omega)
  rw [Z9 _ _ (by first | assumption | omega)] at hs39
  rw [← (show (byJ l.length o p).getD ((o[p]).toNat) 0=(byJ l.length o p)[(o[p]).toNat] from Xf (by omega))] at hs39
  refine JLq (pp b39 (0+(o[p]).toNat*1)) (Zcw (o[p]).toNat ZV ty3 hv39 rfl (by first | rfl | omega) (by rw [Zt];first | assumption | omega))<|JLr (Yu (i:=0) (j:=((o[p]).toNat)) (b:=b39) (e':=[iv ((p:Int))]) ty3 rfl ho24_9 ⟨_,_,hv39⟩ rfl (by rw [Zt];first | assumption | omega) rfl rfl rfl (Zg rfl Zq) fun k40 ho40=>?_)
  rw [PC] at ho40
  refine Za<|Zd<|JLM rfl<|JLn (Zcy rfl rfl (by omega))<|JAn rfl<|⟨_,?_,(p+1),y24_9,k40,Zj rfl,(Sk (Sk (Sk (Sk (Sk Sub.nil))))),?_,?_,rfl⟩
  ·omega
  ·omega
  rw [← E2 hok2 h37n];exact ho40
 have h37n:o.length≤p:=by omega
 refine Zu _ rfl<|Zc<|JLm v1<|Jc call44 rfl (fun hin=>OM _ _ _ (hO1.rd (hin 3 _ rfl)) (by rw [Z0];omega) hzm hG.mkL.ok) rfl ?_
 rintro _ _ ⟨b41,bs41,rs41,rfl,rfl,hM41⟩
 refine JAn rfl<|Zf<|Zc<|JAn rfl<|Zh ?_
 rw [Bv (by omega),← Z0 l] at ho24_9
 refine Zv (fun k ρ M=>∃ (kk:Nat) (y42_10:Value) (q42_10:Zi),ZR ρ [(0,v),(4,nS),(5,iv 0),(6,v1),(8,v3),(9,y24_9),(10,y42_10),(13,.slice (some ⟨b41,0,none⟩) (mkL l).length (mkL l).length),(14,iv ((kk:Int)))]=ρ∧Sub [q42_10,mxC 78 4 (mkL l).length b41 bs41 rs41,q24_9,k3,k1,q1] M∧kk≤l.length∧Own 38 32 y42_10 (sms (smJ (mkL l) o (fun k=>sha (Ya (coI (mkL l) f k))) kk)) q42_10∧(∀ k,k<kk→coX (mkL l) (firstN l i) k=true→coE (mkL l) f k=false)∧k=l.length-kk) _ ⟨0,v7,k7,Zj rfl,(Sub.cons 2 rfl (Sk (Sk (Sk (Sk (Sk Sub.nil)))))),Nat.zero_le _,(by have z:=ho7;rw [D0 (mkL l) o (fun k=>sha (Ya (coI (mkL l) f k))) hml.symm] at z;exact z),(fun k hk=>absurd hk (by omega)),rfl⟩ ?_
 rintro _ ρ43 _ ⟨kk,y42_10,q42_10,e44,hm53,hkk,ho42_10,hnoe,rfl⟩
 obtain ⟨ρ54,rfl⟩:=Zo e44
 clear e44
 refine ZD hm53<|Zf<|Zc<|JLM rfl<|JLm v ?_
 obtain ⟨a55,cap55,hv55⟩:=hv.sl
 have hle55:=hv.le
 refine JLn (Zcv ZQ hv55)<|JLn (Pu.lss rfl rfl)<|Za<|ZF rfl (fun h56=>?_) (fun h56=>?_)
 ·have h56n:kk<l.length:=by omega
  have hkl:=h56n
  have hkb:kk<(byL (mkL l).length o).length:=by rw [VL];omega
  have hks:=DY (mkL l) o (fun k=>sha (Ya (coI (mkL l) f k))) kk
  refine Zk<|Zf<|Zh<|Zc<|JLm y24_9<|JLM rfl ?_
  obtain ⟨b57,cap57,row57,hv57,hm57,hs57⟩:=ho24_9.at (j:=kk) (by rw [Zt];first | assumption | omega)
  rw [Z9 _ _ (by first | assumption | omega)] at hs57
  refine JLn (Zcw kk ZV ty3 hv57 rfl rfl (by rw [Zt];first | assumption | omega))<|JLr (Zb ty3 rfl (ZcD 2 rfl hm57) (ZT hs57)<|JLn (Pu.lss rfl rfl)<|JLM rfl<|ZA 9 [72,73,74,75,76,77,78,79,80] [(80,cond (decide ((byL (mkL l).length o)[kk]<0)) (.bool (YN rs41 ((o.getD 0 0)).toNat kk)) undef)] ?_ fun f61=>?_)
  ·cases h58:(decide ((byL (mkL l).length o)[kk]<0)) with
   | true=>
    replace h58:=dt h58
    refine JLM rfl<|JLm v3 ?_
    obtain ⟨b59,cap59,row59,hv59,hm59,hs59⟩:=ho3.at (j:=0) (by rw [Zt];first | assumption | omega)
    rw [Z9 _ _ (by first | assumption | omega)] at hs59
    rw [← (show o.getD 0 0=o[0] from Xf (by omega))] at hs59
    refine JLq (pp b59 (0+0*1)) (Zcw 0 ZV ty3 hv59 rfl (by first | rfl | omega) (by rw [Zt];first | assumption | omega))<|JLr (Zb ty3 rfl (ZcD 3 rfl hm59) (ZT hs59)<|JLq (pp b41 (0+((o.getD 0 0)).toNat*1)) (Zcw ((o.getD 0 0)).toNat Vz XB rfl rfl (by omega) (by omega)) ?_)
    obtain ⟨q60,hq60⟩:=hM41.row ((o.getD 0 0)).toNat (by omega)
    have hr60:=hM41.len ((o.getD 0 0)).toNat (by omega)
    refine JLr (Zb XB rfl (ZcD 1 rfl mem_cons_self) (XH hq60)<|JLM rfl<|JLn (Zcw kk W4 ty4 rfl rfl rfl (by omega))<|JLr (Zb ty4 rfl (ZcD 1 rfl (X6 hM41.hl hq60)) (YA (by rw [hr60];omega)) ?_))
    exact Za ⟨⟨rfl,trivial⟩,rfl⟩
   | false=>
    exact ZJ rfl ⟨rfl,trivial⟩
  refine JLq (.bool ((decide ((byL (mkL l).length o)[kk]<0))&&(YN rs41 ((o.getD 0 0)).toNat kk))) (ZcA rfl rfl rfl)<|Za<|Zs (b:=(decide ((byL (mkL l).length o)[kk]<0))&&(YN rs41 ((o.getD 0 0)).toNat kk)) rfl (fun h62=>?_) (fun h62=>?_)
  ·obtain ⟨h62a,h62b⟩:=Xa h62
   replace h62a:=dt h62a
   refine Zf ?_
   have hcx:=ZbW (by omega) ho ho00 h62a (by rw [← hM41.got _ (by omega) _ (by omega)];exact h62b)
   refine Zd<|JLm v<|JLM rfl ?_
   have hrk:=U9 hG.mkL.ok (by rw [Z0];exact hfl) hcx.1
   have hkf:=(Sw hG (by have z:=hcx.1;unfold coX at z;rw [Bool.and_eq_true] at z;exact z.2)).2
   have ih2:=ih kk hkl (by rw [hkf];omega)
   rw [hkf] at ih2
   refine Jc call9 rfl (fun hin=>ih2 _ _ (RTs.mono (Hle.hu _ _) hv)) rfl ?_
   rintro _ _ ⟨u63,k63,rfl,rfl,ho63⟩
   refine JLM rfl<|JLn (Pu.extract rfl rfl)<|JLn (Pu.extract rfl rfl)<|JLa u63<|JAn rfl<|Zf<|Zc<|JLM rfl<|JLn (Pu.neq rfl rfl)<|Za<|Zs rfl (fun h64=>?_) (fun h64=>?_)
   ·replace h64:=nt h64
    replace h64:=df h64
    refine Zc<|JLM rfl<|JLA rfl<|JAn rfl<|ZH<|⟨.tuple ⟨[nS,iv (coR (mkL l) f kk)]⟩,[[]],ZcE rfl (RV.tmp rfl) (RV.tmp rfl),(Zcz Sub.nil),?_⟩
    have hcr:=Bi (by omega) hcx.1 h64
    exact ⟨_,_,by rw [hcr.1],rfl,by rw [hcr.2];exact Own.nil⟩
   replace h64:=nf h64
   replace h64:=dt h64
   refine Zk ?_
   have hce:=EI (by omega:coR (mkL l) f kk=0)
   rw [hce.2] at ho63
   obtain ⟨hlB,hbB⟩:=J6 hG.mkL (f:=f) (k:=kk) (by omega) (by omega)
   refine Zd<|JLm y42_10<|JLM rfl<|JLm u63<|Jc call45 rfl (fun hin=>Je _ _ _ (VI ho63 (by omega) (hin 0 _ rfl)) hbB (by omega)) rfl ?_
   rintro _ _ ⟨rfl,rfl⟩
   obtain ⟨b65,cap65,row65,hv65,hm65,hs65⟩:=ho42_10.at (j:=kk) (by rw [WN];first | assumption | omega)
   rw [AC (by first | assumption | omega)] at hs65
   refine JLn (Zcw kk Wt Yq hv65 rfl rfl (by rw [WN];first | assumption | omega))<|JLr (Yu (i:=1) (j:=kk) (b:=b65) (e':=sC (sha (Ya (coI (mkL l) f kk)))) Yq rfl ho42_10 ⟨_,_,hv65⟩ rfl (by rw [WN];first | assumption | omega) rfl rfl rfl (VG _) fun k66 ho66=>?_)
   rw [DU] at ho66
   refine Za<|Zd<|JLM rfl<|JLn (Zcy rfl rfl (by omega))<|JAn rfl<|⟨_,?_,(kk+1),y42_10,k66,Zj rfl,(Sd (Sk (Sk (Sk (Sk (Sk (Sk Sub.nil))))))),?_,?_,?_,rfl⟩
   ·omega
   ·omega
   ·rw [← GB hcx.2 rfl];exact ho66
   exact fun k hk hx=>(Nat.lt_or_ge k kk).elim (fun z=>hnoe k z hx) fun z=>(show kk=k by omega)▸hce.1
  refine Zk<|Zd<|JLM rfl<|JLn (Zcy rfl rfl (by omega))<|JAn rfl<|⟨_,?_,(kk+1),y42_10,q42_10,Zj rfl,(Sk (Sk (Sk (Sk (Sk (Sk Sub.nil)))))),?_,?_,?_,rfl⟩
  ·omega
  ·omega
  ·rw [← GC (Ic (by omega) ho ho00 (hM41.got _ (by omega) _ (by omega)) h62).1];exact ho42_10
  exact fun k hk hx=>(Nat.lt_or_ge k kk).elim (fun z=>hnoe k z hx) fun z=>absurd hx (by rw [show k=kk by omega,(Ic (by omega) ho ho00 (hM41.got _ (by omega) _ (by omega)) h62).2];decide)
 have h56n:l.length≤kk:=by omega
 refine Zu _ rfl<|Zf ?_
 rw [DZ (by omega)] at ho42_10
 obtain ⟨esM,kM1,kM2,hM1,hM2,rfl,hMl⟩:=hO1
 refine ZD (M':=[q42_10,mxC 78 4 (mkL l).length b41 bs41 rs41,q24_9,k3,kM1,kM2,q1]) (Sub.flat Sub.refl (by simp))<|Zd<|JLm v3 ?_
 obtain ⟨a67,cap67,hv67⟩:=ho3.sl
 rw [Zt] at hv67
 refine JLn (Zcv ZV hv67)<|JLq (.agg ⟨[iv 40,iv ((o.length:Int)),.string (⟨#[]⟩),nS]⟩) (Pu.build (pv:=[(0,iv 40),(1,iv ((o.length:Int)))]) (l:=[iv 40,iv ((o.length:Int)),.string (⟨#[]⟩),nS]) rfl (TH _ _))<|JLr (Zp (l:=[iv 0,iv 0,.string (⟨#[]⟩),nS]) zeroValue82 rfl fun b68=>JLr (Ze 0 (vs:=[iv 40,iv ((o.length:Int)),.string (⟨#[]⟩),nS]) (l:=[iv 40,iv ((o.length:Int)),.string (⟨#[]⟩),nS]) Y3 rfl rfl rfl rfl rfl (Zg rfl (Zg rfl (Zg rfl (Zg rfl Zq)))) rfl<|Za<|Zf<|Zc<|JAn rfl<|Zh<|Zv (fun k ρ M=>∃ (j:Nat) (y1y:Value) (es1s:List (List Value)) (q1a q1b:Zi),ZR ρ [(4,nS),(5,iv 0),(6,v1),(8,v3),(9,y24_9),(10,y42_10),(17,pp b68 0),(18,iv ((j:Int)))]=ρ∧Sub [(BX b68 [iv 40,iv ((o.length:Int)),.string (⟨#[]⟩),y1y] 82),q1a,q1b,q42_10,mxC 78 4 (mkL l).length b41 bs41 rs41,q24_9,k3,kM1,kM2,q1] M∧j≤o.length∧Own 82 4 y1y es1s q1a∧OIts ((o.take j).map (cdK (mkL l) o (smL (mkL l) o (fun k=>sha (Ya (coI (mkL l) f k)))))) es1s q1b∧k=o.length-j) _ ⟨0,nS,[],[],[],Zj rfl,(Sk (Zcz (Zcz (Sk (Sk (Sk (Sk (Sk (Sk (Sk Sub.nil)))))))))),Nat.zero_le _,Own.nil,(by simpa [WH,Wk] using OIts.nil),rfl⟩ ?_))
 rintro _ ρ69 _ ⟨j,y1y,es1s,q1a,q1b,e70,hm78,hj,how1w,hop1p,rfl⟩
 obtain ⟨ρ79,rfl⟩:=Zo e70
 clear e70
 refine ZD hm78<|Zf<|Zc<|JLM rfl<|JLm v3 ?_
 obtain ⟨a80,cap80,hv80⟩:=ho3.sl
 rw [Zt] at hv80
 refine JLn (Zcv ZV hv80)<|JLn (Pu.lss rfl rfl)<|Za<|ZF rfl (fun h81=>?_) (fun h81=>?_)
 ·have h81n:j<o.length:=by omega
  have hjo:=h81n
  have hel:=Wv hop1p
  rw [length_map,length_take] at hel
  have hop:=hok.2 _ (getElem_mem h81n)
  have hrt:=PZ hG.mkL hok (smL (mkL l) o (fun k=>sha (Ya (coI (mkL l) f k)))) hop.1 hop.2
  have hsz:=(R1 hrt).1
  have hgd:=(Pd hrt).1
  refine Zk<|Zf<|Zh<|ZI mixed #[0,1,0,0,0,24,56,124,252,0,0,2044,4092,8188,16383,32767,65535] 14 (sm 105 14) [] [(11,fun _ _ vw qw=>∃ cs k,vw=.agg ⟨cs⟩∧qw=[k]∧OT (Yy (byL (mkL l).length o) (smL (mkL l) o (fun k=>sha (Ya (coI (mkL l) f k)))) (atL (mkL l) (o[j]).toNat)) cs k),(12,fun _ _ vw qw=>∃ cs k,vw=.agg ⟨cs⟩∧qw=[k]∧OIt (itT (Yy (byL (mkL l).length o) (smL (mkL l) o (fun k=>sha (Ya (coI (mkL l) f k)))) (atL (mkL l) (o[j]).toNat))) cs k),(13,fun r _ vw qw=>∃ b k,vw=.slice (some ⟨b,0,none⟩) 1 1∧qw=[k]∧Own 82 4 (.slice (some ⟨b,0,none⟩) 1 1) [(cel (r 12))] k∧k=(BX b (flatten [(cel (r 12))]) 82))] rfl (by kernel_rfl) rfl (by kernel_rfl)<|Dq (pp b68 3) (fun _=>YS rfl rfl)<|Dl1 Ww (Zcu 0 rfl) rfl<|Dm v1<|Dm v3<|DM (fun _=>rfl) ?_
  obtain ⟨b87,cap87,row87,hv87,hm87,hs87⟩:=ho3.at (j:=j) (by rw [Zt];first | assumption | omega)
  rw [Z9 _ _ (by first | assumption | omega)] at hs87
  refine Dn (fun _=>Zcw j ZV ty3 hv87 rfl rfl (by rw [Zt];first | assumption | omega))<|Dl1 ty3 (ZcD 6 rfl hm87) (ZT hs87) ?_
  obtain ⟨e88,hE88,hL88,hK88,hR88⟩:=BR hM2 (j:=(o[j]).toNat) (by omega);obtain ⟨b88,cap88,row88,hv88,hm88,hs88⟩:=hM1.at' hE88
  refine Dq (pp b88 (0+(o[j]).toNat*36)) (fun _=>Zcw (o[j]).toNat ZQ Zy hv88 rfl (by first | rfl | omega) (by have:=Xr hM2;omega))<|Dl Zy (ZcD 7 rfl hm88) hs88<|Dm y24_9<|Dm y42_10 ?_
  refine Dc rfl call47 (fun _=>rfl) (fun hin=>Sv (byL (mkL l).length o) (smL (mkL l) o (fun k=>sha (Ya (coI (mkL l) f k)))) _ _ _ _ _ (hR88 _ (hin 8 _ rfl)) (Yn ho24_9 (by rw [VL];omega) (hin 5 _ rfl)) (Wi ho42_10 (by rw [Ja];omega) (hin 3 _ rfl)) (by have:=hG.mkL.sz (Rd (l:=mkL l) (i:=(o[j]).toNat) (by omega));omega) (IM hG.mkL hok (Ja ..) _)) ?_
  rintro _ _ ⟨cs89,k89,rfl,rfl,hO89⟩
  refine Dc rfl call46 (fun _=>rfl) (fun hin=>Iw _ _ _ (hO89.rd (hin 0 _ rfl)) (by omega) hgd) ?_
  rintro _ _ ⟨cs90,k90,rfl,rfl,hO90⟩
  refine Dr rfl (fun _=>Zm (vs:=[.agg ⟨cs90⟩]) [cs90] Xl UH rfl rfl (al1 hO90.len) rfl (by decide) fun b k h1 h2=>⟨[k],by rw [Z4 rfl];exact Sub.refl,b,k,rfl,rfl,h1,h2⟩) (fun _ _ ⟨b91,k91,e1,e2,ho91,hk91⟩=>?_);subst e1 e2
  refine ZM (M':=[k91,k90,k89,(BX b68 [iv 40,iv ((o.length:Int)),.string (⟨#[]⟩),y1y] 82),q1a,q1b,q42_10,mxC 78 4 (mkL l).length b41 bs41 rs41,q24_9,k3,kM1,kM2,q1]) rfl ?_
  show JL _ _ _ [_,_,_] _ _ _
  have hlens92:∀ e∈([cs90]:List (List Value)),List.length e=4:=al1 hO90.len
  have hoks92:∀ e∈([cs90]:List (List Value)),okc e:=al1 hO90.ok
  refine JLr (Zz (i:=4) (n:=1) (es':=[cs90]) Xl Xl (Or.inl rfl) UH rfl rfl rfl how1w (fun F w m=>Src.row (((ZcD 0 rfl (by rw [hk91];exact mem_cons_self))).heap m) (ZE (Zw hlens92))) rfl hlens92 hoks92 (by decide) (by omega) fun v92 k92 ho92=>JLq (pp b68 3) (YS rfl rfl)<|JLr (Ze 3 (vs:=[v92]) (l:=[iv 40,iv ((o.length:Int)),.string (⟨#[]⟩),v92]) Ww rfl rfl rfl (ZS ho92.one) rfl (Zg ho92.one Zq) rfl<|Za<|Zd<|JLM rfl<|JLn (Zcy rfl rfl (by omega))<|JAn rfl<|⟨_,?_,(j+1),v92,(es1s++[cs90]),k92,(q1b++k90),Zj rfl,(Sd (Sub.cons 2 rfl (Sub.cons 2 rfl (ZcF (Sub.cons 2 rfl (Sk (Sd (Sk (Sk (Sk (Sk (Sk (Sk (Sk Sub.nil)))))))))))))),?_,?_,?_,rfl⟩))
  ·omega
  ·omega
  ·exact ho92
  rw [Lu h81n];exact OIts.snoc hO90 hop1p
 have h81n:o.length≤j:=by omega
 refine Zu _ rfl<|Zf ?_
 rw [take_of_length_le h81n] at hop1p
 have hOI:OIt (cdI (mkL l) o (fun k=>sha (Ya (coI (mkL l) f k)))) [iv 40,iv ((o.length:Int)),.string (⟨#[]⟩),y1y] (q1a++q1b):=OIt_mk.2 ⟨_,_,_,_,rfl,by unfold inI;omega,by unfold inI;omega,how1w,hop1p,rfl,by rw [length_map];omega⟩
 have hgc:=KH hG.mkL hok (fun k=>sha (Ya (coI (mkL l) f k)))
 refine Zd<|JLr (Zn Y3 rfl (Zcu 0 rfl) rfl<|Jc call48 rfl (fun hin=>Ll _ _ _ (hOI.rd (ZcX (hin 1 _ rfl) (hin 2 _ rfl))) hgc.1 (by omega) (by omega)) rfl ?_)
 rintro _ _ ⟨u93,k93,rfl,rfl,ho93⟩
 refine JLn (Pu.extract rfl rfl)<|JLn (Pu.extract rfl rfl)<|JLa u93<|JAn rfl<|ZH<|⟨.tuple ⟨[u93,iv (XV (cdI (mkL l) o (fun k=>sha (Ya (coI (mkL l) f k)))))]⟩,[k93],ZcE rfl (RV.tmp rfl) (RV.tmp rfl),(Sk Sub.nil),?_⟩
 have hcf:=Bh ho (fun k hk hx=>hnoe k (by omega) hx)
 exact ⟨_,_,by rw [← hcf.1],rfl,by rw [← hcf.2];exact ho93⟩
theorem Nb {l:List Tm} (hG:okG l) {i:Nat} (hi:i<l.length) (v:Value) (H:Heap) (hv:Hs.rdS RT 36 H v l):CT prog 9 ⟨[v,iv (i:Int)]⟩ [] H (fun r N=>∃ u k,r=.tuple ⟨[u,iv (cR l i)]⟩∧N=[k]∧Own 5 1 u (Yk (cO l i)) k):=
 EE l hG _ i hi (Nat.lt_succ_of_le (NH _ _)) v H hv
set_option maxHeartbeats 1000000 in
theorem Mv (l:List Tm) (hG:okG l) (v:Value) (H:Heap) (hv:Hs.rdS RT 36 H v l):CT prog 10 ⟨[v]⟩ [] H (fun r N=>∃ u k,r=.tuple ⟨[u,iv (erR l)]⟩∧N=[k]∧Own 38 32 u (sms (smO l)) k):=by
 have hn8:=hG.hi
 have hs:=hG.ok
 have hz:∀ t∈l,sizeT t≤400000:=fun t ht=>by have:=hG.sz ht;omega
 have hzm:∀ t∈mkL l,sizeT t≤400000:=fun t ht=>by have:=hG.mkL.sz ht;omega
 have hlen:=hv.le
 refine Zl func10 rfl rfl<|Zc<|JLA rfl<|JAn rfl<|Zc<|JAn rfl<|Zf<|Zf<|Zd ?_
 refine JAn rfl<|Zh<|Zv (fun k ρ M=>∃ (j:Nat) (y1:Value) (q1:Zi),ZR ρ [(0,v),(2,nS),(3,iv 0),(4,y1),(5,iv ((j:Int)))]=ρ∧Sub [q1] M∧j≤l.length∧Own 38 32 y1 (sms ((smG l).take j)) q1∧(∀ k,k<j→cR l k=0)∧k=l.length-j) _ ⟨0,nS,[],Zj rfl,(Zcz Sub.nil),Nat.zero_le _,(show Own 38 32 _ (sms []) [] from Own.nil),(fun k hk=>absurd hk (by omega)),rfl⟩ ?_
 rintro _ ρ1 _ ⟨j,y1,q1,e2,hm7,hj,how1,hnoe,rfl⟩
 obtain ⟨ρ8,rfl⟩:=Zo e2
 clear e2
 refine ZD hm7<|Zf<|Zc<|JLM rfl<|JLm v ?_
 obtain ⟨a9,cap9,hv9⟩:=hv.sl
 have hle9:=hv.le
 refine JLn (Zcv ZQ hv9)<|JLn (Pu.lss rfl rfl)<|Za<|ZF rfl (fun h10=>?_) (fun h10=>?_)
 ·have h10n:j<l.length:=by omega
  refine Zk<|Zf<|Zh<|Zc<|JLm v<|JLM rfl<|Jc call9 rfl (fun hin=>Nb hG h10n _ _ (RTs.mono (Hle.hu _ _) hv)) rfl ?_
  rintro _ _ ⟨u11,k11,rfl,rfl,ho11⟩
  refine JLM rfl<|JLn (Pu.extract rfl rfl)<|JLn (Pu.extract rfl rfl)<|JLa u11<|JAn rfl<|Zf<|Zc<|JLM rfl<|JLn (Pu.neq rfl rfl)<|Za<|Zs rfl (fun h12=>?_) (fun h12=>?_)
  ·replace h12:=nt h12
   replace h12:=df h12
   refine Zc<|JLM rfl<|JLA rfl<|JAn rfl<|ZH<|⟨.tuple ⟨[nS,iv (cR l j)]⟩,[[]],ZcE rfl (RV.tmp rfl) (RV.tmp rfl),(Zcz Sub.nil),?_⟩
   have hcr:=Gs h10n h12
   exact ⟨_,_,by rw [hcr.1],rfl,by rw [hcr.2];exact Own.nil⟩
  replace h12:=nf h12
  replace h12:=dt h12
  refine Zk ?_
  have hce:cR l j=0:=by omega
  rw [EY hce] at ho11
  obtain ⟨hlB,hbB⟩:=EZ hG h10n
  refine Zd<|JLm y1<|JLm u11<|Jc call45 rfl (fun hin=>Je _ _ _ (VI ho11 (by omega) (hin 0 _ rfl)) hbB (by omega)) rfl ?_
  rintro _ _ ⟨rfl,rfl⟩
  refine JLr (Zm (vs:=[.agg ⟨sC (sha (cB l j))⟩]) [sC (sha (cB l j))] Wt Hk rfl rfl (al1 rfl) rfl (by decide) fun b13 k13 ho13 hk13=>?_)
  have hlens14:∀ e∈([sC (sha (cB l j))]:List (List Value)),List.length e=32:=al1 rfl
  have hoks14:∀ e∈([sC (sha (cB l j))]:List (List Value)),okc e:=al1 (VG _)
  refine JLr (Zz (i:=2) (n:=1) (es':=[sC (sha (cB l j))]) Wt Wt (Or.inl rfl) Hk rfl rfl rfl how1 (fun F w m=>Src.row (((ZcD 0 rfl (by rw [hk13];exact mem_cons_self))).heap m) (ZE (Zw hlens14))) rfl hlens14 hoks14 (by decide) (by rw [WN,length_take];omega) fun v14 k14 ho14=>?_)
  rw [← Mx] at ho14
  refine JLa v14<|Za<|Zd<|JLM rfl<|JLn (Zcy rfl rfl (by omega))<|JAn rfl<|⟨_,?_,(j+1),v14,k14,Zj rfl,(Sd (Sd (Sk Sub.nil))),?_,?_,?_,rfl⟩
  ·omega
  ·omega
  ·rw [My h10n];exact ho14
  exact fun k hk=>(Nat.lt_or_ge k j).elim (hnoe k) fun z=>(show j=k by omega)▸hce
 have h10n:l.length≤j:=by omega
 refine Zu _ rfl<|Zc<|JLm y1<|JLa y1<|JAn rfl<|ZH<|⟨.tuple ⟨[y1,iv 0]⟩,[q1],ZcE rfl (RV.tmp rfl) (RV.tmp rfl),(Sk Sub.nil),?_⟩
 have hcf:=Nr (fun k hk=>hnoe k (by omega))
 have z:=how1;rw [take_of_length_le (by rw [VD];omega)] at z
 exact ⟨_,_,by rw [hcf.1],rfl,by rw [hcf.2.1];exact z⟩
set_option maxHeartbeats 2000000 in
theorem Fo (l:List Tm) (hG:okG l) (v:Value) (H:Heap) (hv:Hs.rdS RT 36 H v l):CT prog 11 ⟨[v]⟩ [] H (fun r N=>∃ u k,r=.tuple ⟨[u,iv (erR l)]⟩∧N=[k]∧OL (opO l) u k):=by
 have hn8:=hG.hi
 have hs:=hG.ok
 have hz:∀ t∈l,sizeT t≤400000:=fun t ht=>by have:=hG.sz ht;omega
 have hzm:∀ t∈mkL l,sizeT t≤400000:=fun t ht=>by have:=hG.mkL.sz ht;omega
 have hlen:=hv.le
 refine Zl func11 rfl rfl<|Zc<|JLA rfl<|JAn rfl<|Zc<|JLm v<|Jc call10 rfl (fun hin=>Mv _ hG _ _ (RTs.mono (Hle.hu _ _) hv)) rfl ?_
 rintro _ _ ⟨u1,k1,rfl,rfl,ho1⟩
 refine JLM rfl<|JLn (Pu.extract rfl rfl)<|JLn (Pu.extract rfl rfl)<|JLa u1<|JAn rfl<|Zf<|Zc<|JLM rfl<|JLn (Pu.neq rfl rfl)<|Za<|Zs rfl (fun h2=>?_) (fun h2=>?_)
 ·replace h2:=nt h2
  replace h2:=df h2
  refine Zc<|JLM rfl<|JLA rfl<|JAn rfl<|ZH<|⟨.tuple ⟨[nS,iv (erR l)]⟩,[[]],ZcE rfl (RV.tmp rfl) (RV.tmp rfl),(Zcz Sub.nil),?_⟩
  have hen:=Zam h2
  exact ⟨_,_,rfl,rfl,by unfold opO;rw [hen];exact OL.nil⟩
 replace h2:=nf h2
 replace h2:=dt h2
 refine Zk<|Zf ?_
 have hse:=Ep (by omega:erR l=0)
 rw [hse.2] at ho1
 refine Zd<|JLm v ?_
 obtain ⟨a3,cap3,hv3⟩:=hv.sl
 have hle3:=hv.le
 refine JLn (Zcv ZQ hv3)<|JLr (WM (l.length) ZV el3 rfl rfl rfl rfl (by omega) (by omega) fun v4 k4 ho4=>?_)
 rw [PD] at ho4
 refine JLa v4<|Za<|Zf<|Zc<|JAn rfl<|Zh<|Zv (fun k ρ M=>∃ (j:Nat) (y5_6:Value) (q5_6:Zi),ZR ρ [(0,v),(2,nS),(3,iv 0),(4,u1),(6,y5_6),(7,iv ((j:Int)))]=ρ∧Sub [q5_6,k1] M∧j≤l.length∧Own 3 1 y5_6 (Z2 (byI l.length j)) q5_6∧k=l.length-j) _ ⟨0,v4,k4,Zj rfl,(Sk (Sk Sub.nil)),Nat.zero_le _,(by have z:=ho4;rw [Ig] at z;exact z),rfl⟩ ?_
 rintro _ ρ6 _ ⟨j,y5_6,q5_6,e7,hm13,hj,ho5_6,rfl⟩
 obtain ⟨ρ14,rfl⟩:=Zo e7
 clear e7
 refine ZD hm13<|Zf<|Zc<|JLM rfl<|JLm v ?_
 obtain ⟨a15,cap15,hv15⟩:=hv.sl
 have hle15:=hv.le
 refine JLn (Zcv ZQ hv15)<|JLn (Pu.lss rfl rfl)<|Za<|ZF rfl (fun h16=>?_) (fun h16=>?_)
 ·have h16n:j<l.length:=by omega
  have hjb:j<(byI l.length j).length:=by rw [If];exact h16n
  refine Zk<|Zf<|Zh<|Zd<|JLm y5_6<|JLM rfl ?_
  obtain ⟨b17,cap17,row17,hv17,hm17,hs17⟩:=ho5_6.at (j:=j) (by rw [Zt];first | assumption | omega)
  rw [Z9 _ _ (by omega)] at hs17
  refine JLn (Zcw j ZV ty3 hv17 rfl rfl (by rw [Zt];first | assumption | omega))<|JLr (Yu (i:=0) (j:=j) (b:=b17) (e':=[iv (-1)]) ty3 rfl ho5_6 ⟨_,_,hv17⟩ rfl (by rw [Zt];first | assumption | omega) rfl rfl rfl (Zg rfl Zq) fun k18 ho18=>?_)
  rw [PC] at ho18
  refine Za<|Zd<|JLM rfl<|JLn (Zcy rfl rfl (by omega))<|JAn rfl<|⟨_,?_,(j+1),y5_6,k18,Zj rfl,(Sk (Sk Sub.nil)),?_,?_,rfl⟩
  ·omega
  ·omega
  rw [← Lv];exact ho18
 have h16n:l.length≤j:=by omega
 refine Zu _ rfl<|Zc<|JAn rfl<|Zf<|Zc<|JAn rfl<|Zh ?_
 rw [Bx (by omega)] at ho5_6
 refine Zv (fun k ρ M=>∃ (j:Nat) (y19:Value) (es19:List (List Value)) (qr19 qt19:Zi),ZR ρ [(0,v),(2,nS),(3,iv 0),(4,u1),(6,y5_6),(8,y19),(9,iv ((j:Int)))]=ρ∧Sub [qr19,qt19,q5_6,k1] M∧j≤l.length∧Own 51 36 y19 es19 qr19∧OTs ((opL l).take j) es19 qt19∧k=l.length-j) _ ⟨0,nS,[],[],[],Zj rfl,(Zcz (Zcz (Sk (Sk Sub.nil)))),Nat.zero_le _,Own.nil,(by simpa using OTs.nil),rfl⟩ ?_
 rintro _ ρ20 _ ⟨j,y19,es19,qr19,qt19,e21,hm28,hj,ho19,ht19,rfl⟩
 obtain ⟨ρ29,rfl⟩:=Zo e21
 clear e21
 refine ZD hm28 ?_
 have hel19:=Xr ht19
 rw [length_take] at hel19
 refine Zf<|Zc<|JLM rfl<|JLm v ?_
 obtain ⟨a30,cap30,hv30⟩:=hv.sl
 have hle30:=hv.le
 refine JLn (Zcv ZQ hv30)<|JLn (Pu.lss rfl rfl)<|Za<|ZF rfl (fun h31=>?_) (fun h31=>?_)
 ·have h31n:j<l.length:=by omega
  refine Zk<|Zf<|Zh<|Zd<|JLm y19<|JLm v<|JLM rfl ?_
  obtain ⟨b32,o32,cap32,row32,T32,fr32,cs32,hv32,hb32,hs32,hE32⟩:=hv.get j (by omega)
  refine JLn (Zcw j ZQ Zy hv32 rfl rfl (by omega))<|JLr (Zn Zy rfl (Zcx hb32) hs32<|JLm y5_6<|JLm u1<|Jc call47 rfl (fun hin=>Sv (replicate l.length (-1)) (smG l) _ _ _ _ _ (RT.mono (Hle.hu _ _) hE32) (Yn ho5_6 (by simp;omega) (hin 2 _ rfl)) (Wi ho1 (by rw [VD];omega) (hin 3 _ rfl)) (by have:=hz _ (getElem_mem h31n);omega) (LW hs (VD l) (getElem_mem h31n))) rfl ?_)
  rintro _ _ ⟨cs33,k33,rfl,rfl,hO33⟩
  refine JLr (Zm (vs:=[.agg ⟨cs33⟩]) [cs33] ZQ Wo rfl rfl (al1 hO33.len) rfl (by decide) fun b34 k34 ho34 hk34=>?_)
  have hlens35:∀ e∈([cs33]:List (List Value)),List.length e=36:=al1 hO33.len
  have hoks35:∀ e∈([cs33]:List (List Value)),okc e:=al1 hO33.ok
  refine JLr (Zz (i:=2) (n:=1) (es':=[cs33]) ZQ ZQ (Or.inl rfl) Wo rfl rfl rfl ho19 (fun F w m=>Src.row (((ZcD 0 rfl (by rw [hk34];exact mem_cons_self))).heap m) (ZE (Zw hlens35))) rfl hlens35 hoks35 (by decide) (by omega) fun v35 k35 ho35=>JLa v35<|Za<|Zd<|JLM rfl<|JLn (Zcy rfl rfl (by omega))<|JAn rfl<|⟨_,?_,(j+1),v35,(es19++[cs33]),k35,(qt19++k33),Zj rfl,(Sd (Sub.cons 1 rfl (ZcF (Sub.cons 1 rfl (Sk (Sk (Sk Sub.nil))))))),?_,?_,?_,rfl⟩)
  ·omega
  ·omega
  ·exact ho35
  rw [MO h31n];exact OTs.snoc hO33 ht19
 have h31n:l.length≤j:=by omega
 refine Zu _ rfl<|Zc<|JLm y19<|JLa y19<|JAn rfl<|ZH<|⟨.tuple ⟨[y19,iv 0]⟩,[qr19++qt19],ZcE rfl (RV.tmp rfl) (RV.tmp rfl),(ZcF (Sk (Sk Sub.nil))),?_⟩
 have z:=ht19;rw [take_of_length_le (by rw [Tv];omega)] at z
 exact ⟨_,_,by rw [show erR l=0 by omega],rfl,by unfold opO;rw [hse.1,if_neg Bool.false_ne_true];exact OL.mk ho19 z (by rw [Tv];omega)⟩
end
theorem LU {B:Nat} {l:List Tm} (h:∀ t∈l,sizeT t≤B):ZL l≤l.length*B:=by
  induction l with
  | nil=>simp [ZL]
  | cons t l ih=>
    have a:=h t mem_cons_self
    have b:=ih fun u hu=>h u (mem_cons_of_mem _ hu)
    rw [ZL,length_cons,Nat.add_mul];omega
theorem okG.szs {l:List Tm} (h:okG l):ZL l≤400000:=by
  have a:=LU (B:=300) fun t ht=>h.sz ht
  have b:=h.hi
  have:l.length*300≤8*300:=Nat.mul_le_mul_right _ b
  omega
theorem SG {l:List Tm} (h:okG l) {i:Nat} (hi:i<l.length):R5 (V3 l.length) l[i]:=R4 0 _ (checkR_iff.1 (h.ck _ (getElem_mem hi))).2
theorem E5 {l:List Tm} (h:okG l) {i:Nat} (hi:i<l.length):blP (atL l i)=Vx l.length (atL l i):=by
  unfold Vx;exact ZaH (checkR_iff.1 (h.ck _ (Rd hi))).2
theorem Hh {l:List Tm} (h:okG l):fsB (fun i j=>decide (blP (atL l i)=blP (atL l j))) l.length=rnI l 0:=O5 fun i hi j hj=>by
  unfold rnB;rw [Bool.eq_iff_iff];simp only [decide_eq_true_eq];rw [E5 h hi,E5 h hj];exact Iff.rfl
theorem Zau {ws:List Int} {i j:Nat} (hi:i<(ws.map fun w=>(w,(0:Int))).length) (hj:j<(ws.map fun w=>(w,(0:Int))).length):decide ((ws.map fun w=>(w,(0:Int)))[i]=(ws.map fun w=>(w,(0:Int)))[j])=decide (ws.getD i 0=ws.getD j 0):=by
  rw [length_map] at hi hj
  rw [getElem_map,getElem_map,Xf (z:=0) hi,Xf (z:=0) hj,Bool.eq_iff_iff,decide_eq_true_eq,decide_eq_true_eq]
  exact ⟨fun e=>(Prod.mk.inj e).1,fun e=>by rw [e]⟩
theorem AE {l:List Tm} (h:okG l) {i:Nat} (hi:i<l.length):sfP (atL l i)=sfR (atL l i):=Ny (h.ck _ (Rd hi))
theorem Zbb (l:List Tm) (i:Nat):ZL (l.take i)+(sfP (atL l i)).length≤ZL (l.take (i+1)):=by
  rcases Nat.lt_or_ge i l.length with hi | hi
  · have a:=Qw (atL l i)
    rw [Y9 hi] at a ⊢
    have key:∀ (l:List Tm) (i:Nat) (hi:i<l.length),ZL (l.take (i+1))=ZL (l.take i)+sizeT l[i]:=by
      intro l
      induction l with
      | nil=>intro i hi;exact absurd hi (by simp)
      | cons t l ih=>
        intro i hi
        cases i with
        | zero=>simp [ZL]
        | succ i=>simp only [take_succ_cons,ZL,getElem_cons_succ];have:=ih i (by simpa using hi);omega
    have:=key l i hi;omega
  · rw [P4 hi,take_of_length_le hi,take_of_length_le (by omega)]
    have:sfP dT=[]:=by rfl
    rw [this];simp
theorem AD {l:List Tm} (h:okG l) {i:Nat} (hi:i<l.length) {x:Int} (hx:x∈sfP l[i]):0≤x∧x<(l.length:Int):=by
  rw [Ny (h.ck _ (getElem_mem hi))] at hx
  exact h.ok _ (getElem_mem hi) x hx
theorem ZaN {N:Int} {out:List Int} {K:List (Int×Int)} {a n:Int} (h:(a,out.getD n.toNat 0+1)∈K):U2 N out (K,a) n=(K,if (a,out.getD n.toNat 0+1)∈K then UU N K (a,out.getD n.toNat 0+1) else 0):=by
  rw [IA h,if_pos h]
theorem Zct {N:Int} {out:List Int} {l:List Tm} {j p:Nat} {K:List (Int×Int)} {ws:List Int} (hkw:Vy N out (fun i=>sfP (atL l i)) j=(K,ws)) (hj:j<l.length) (hlo:out.length=l.length) {m:List (Int×Int)×Int} (hm:m=UB N out (K,out[j]) ((sfP l[j]).take p)) (hp:(sfP l[j]).length≤p):
    Vy N out (fun i=>sfP (atL l i)) (j+1)=(m.1,ws++[m.2]):=by
  subst hm
  rw [Vy,hkw,take_of_length_le hp,Y9 hj,Xf (z:=0) (show j<out.length by omega)]
theorem ZaO {l:List Tm} (h:okG l) {n j:Nat} {K:List (Int×Int)} {ws:List Int} (hkw:Vy (l.length:Int) (rnI l n) (fun i=>sfP (atL l i)) j=(K,ws)) (hj:j=l.length):
    fsB (fun i j=>decide (ws.getD i 0=ws.getD j 0)) (ws.map fun w=>(w,(0:Int))).length=rnI l (n+1):=by
  subst hj
  have e:ws=(Vy (l.length:Int) (rnI l n) (fun i=>sfP (atL l i)) l.length).2:=by rw [hkw]
  rw [length_map,e,Uo,KP h.ok n fun i hi=>AE h hi]
def RII (h:Heap) (cs:List Value) (l:List Int):Prop:=∃ v,cs=[v]∧Hs.rdS RI 1 h v l
theorem RII.mono {h h':Heap} (hh:Hle h h') {cs:List Value} {l:List Int} (q:RII h cs l):RII h' cs l:=by obtain ⟨v,e,r⟩:=q;exact ⟨v,e,RIs.mono hh r⟩
theorem RIIs.mono {h h':Heap} (hh:Hle h h') {v:Value} {ll:List (List Int)} (q:Hs.rdS RII 1 h v ll):Hs.rdS RII 1 h' v ll:=rdS.mono q hh fun _ _ _ q=>RII.mono hh q
def OIIs:List (List Int)→List (List Value)→Zi→Prop
  | [],es,c=>es=[]∧c=[]
  | l::ll,es,c=>∃ u k es' k',es=[u]::es'∧Own 3 1 u (Z2 l) k∧OIIs ll es' k'∧c=k++k'∧l.length≤1000000
theorem Ri {ll:List (List Int)}:∀ {es:List (List Value)} {c:Zi},OIIs ll es c→es.length=ll.length:=by
  induction ll with
  | nil=>rintro es c ⟨rfl,_⟩;rfl
  | cons l ll ih=>rintro es c ⟨u,k,es',k',rfl,_,h,_⟩;rw [length_cons,length_cons,ih h]
theorem OIIs.snoc {ll:List (List Int)} {l:List Int} {u:Value} {k:Zi} (ho:Own 3 1 u (Z2 l) k) (hl:l.length≤1000000):∀ {es:List (List Value)} {c:Zi},OIIs ll es c→OIIs (ll++[l]) (es++[[u]]) (c++k):=by
  induction ll with
  | nil=>rintro es c ⟨rfl,rfl⟩;exact ⟨u,k,[],[],rfl,ho,⟨rfl,rfl⟩,by simp,hl⟩
  | cons m ll ih=>
    rintro es c ⟨u',k1,es',k',rfl,h1,h2,rfl,h3⟩
    exact ⟨u',k1,_,_,rfl,h1,ih h2,by simp,h3⟩
theorem OIIs.at {ll:List (List Int)}:∀ {es:List (List Value)} {c:Zi} {h:Heap},OIIs ll es c→Has c h→∀ i (h1:i<es.length) (h2:i<ll.length),RII h es[i] ll[i]:=by
  induction ll with
  | nil=>intro es c h _ _ i _ h2;exact absurd h2 (by simp)
  | cons l ll ih=>
    rintro es c h ⟨u,k,es',k',rfl,ho,h2,rfl,hl⟩ hk i i1 i2
    cases i with
    | zero=>exact ⟨u,rfl,Yn ho (Nat.le_trans hl (by decide)) hk.left⟩
    | succ i=>exact ih h2 hk.right i (by simpa using i1) (by simpa using i2)
def OII (ll:List (List Int)) (v:Value) (c:Zi):Prop:=∃ es k1 k2,Own 45 1 v es k1∧OIIs ll es k2∧c=k1++k2∧ll.length≤1000000
theorem OII.mk {ll:List (List Int)} {v:Value} {es:List (List Value)} {k1 k2:Zi} (h:Own 45 1 v es k1) (h2:OIIs ll es k2) (hl:ll.length≤1000000):OII ll v (k1++k2):=⟨es,k1,k2,h,h2,rfl,hl⟩
theorem OII.one {ll:List (List Int)} {v:Value} {k:Zi} (h:OII ll v k):v.oneCell'=true:=by obtain ⟨_,_,_,h,_⟩:=h;exact h.one
theorem OII.rd {ll:List (List Int)} {v:Value} {k:Zi} {h:Heap} (o:OII ll v k) (hk:Has k h):Hs.rdS RII 1 h v ll:=by
  obtain ⟨es,k1,k2,h1,h2,rfl,hl⟩:=o
  exact h1.rdS (Ri h2).symm (by omega) hk.left fun i a b=>h2.at hk.right i a b
def clP (t:Tm):List Int:=Lib.compact ((sfP t).mergeSort fun x y=>decide (x≤y))
theorem Bm {t:Tm} {x:Int}:x∈clP t↔x∈sfP t:=by unfold clP;rw [EC,List.mem_mergeSort]
theorem J9 (t:Tm):(clP t).length≤(sfP t).length:=by
  unfold clP
  have:=Lib.compact_length_le ((sfP t).mergeSort fun x y=>decide (x≤y))
  rwa [List.length_mergeSort] at this
def XQ (l:List Tm):List (List Int):=l.map clP
theorem WX (l:List Tm):(XQ l).length=l.length:=length_map ..
theorem J8 {l:List Tm} {j:Nat} (h:j<l.length):(XQ l)[j]'(by rw [WX];exact h)=clP l[j]:=by simp [XQ]
theorem Ho {l:List Tm} {j:Nat} (h:j<l.length):(XQ l).take (j+1)=(XQ l).take j++[clP l[j]]:=by
  rw [take_succ_eq_append_getElem (by rw [WX];exact h),J8 h]
theorem ZbZ {v:Value} (hv:v.oneCell'=true):∀ w,(Instr.build 91 ⟨[(1,v)]⟩).run prog w=.ok (.agg ⟨[.slice none 0 0,.slice none 0 0,v,.nilFunc]⟩) w:=by
  refine Z6 zeroValue91 runUnderlying91 Zcc ?_
  cases v <;> first | (cases hv;done) | kernel_rfl
section
variable {n:Nat} {b:List Int} {s:List Sm}
mutual
theorem Pf:∀ (t u:Tm),Yy (replicate n 0) [] t=Yy (replicate n 0) [] u→(∀ x∈sfR t,0≤x∧x<(n:Int))→(∀ x∈sfR u,0≤x∧x<(n:Int))→(∀ x:Int,0≤x→x<(n:Int)→0≤b.getD x.toNat 0)→(sfR t).map (fun x=>b.getD x.toNat 0)=(sfR u).map (fun x=>b.getD x.toNat 0)→Yy b s t=Yy b s u
  | .mk k m r kids cases,.mk k' m' r' kids' cases',e,ht,hu,hb,he=>by
    have hz:∀ x:Int,¬ (replicate n (0:Int)).getD x.toNat 0<0:=fun x=>by
      rw [getD_eq_getElem?_getD,getElem?_replicate];split <;> simp
    rw [Yy,Yy,if_neg (hz _),if_neg (hz _)] at e
    rw [sfR,sfR] at he
    by_cases c:k=7
    · rw [if_pos c] at e he
      by_cases c':k'=7
      · rw [if_pos c'] at he
        simp only [map_cons,map_nil,List.cons.injEq,and_true] at he
        have h1:=ht m (by rw [sfR,if_pos c];simp)
        have h2:=hb m h1.1 h1.2
        rw [Yy,Yy,if_pos c,if_pos c',he,if_neg (by omega),if_neg (by omega)]
      · rw [if_neg c'] at e
        injection e with e1;exact absurd e1.symm c'
    · rw [if_neg c] at e he
      by_cases c':k'=7
      · rw [if_pos c'] at e
        injection e with e1;exact absurd e1 c
      · rw [if_neg c'] at e he
        injection e with e1 e2 e3 e4 e5
        subst e1 e2 e3
        rw [map_append,map_append] at he
        have ht1:∀ x∈Y0 kids,0≤x∧x<(n:Int):=fun x hx=>ht x (by rw [sfR,if_neg c];exact mem_append.2 (.inl hx))
        have ht2:∀ x∈Y4 cases,0≤x∧x<(n:Int):=fun x hx=>ht x (by rw [sfR,if_neg c];exact mem_append.2 (.inr hx))
        have hu1:∀ x∈Y0 kids',0≤x∧x<(n:Int):=fun x hx=>hu x (by rw [sfR,if_neg c];exact mem_append.2 (.inl hx))
        have hu2:∀ x∈Y4 cases',0≤x∧x<(n:Int):=fun x hx=>hu x (by rw [sfR,if_neg c];exact mem_append.2 (.inr hx))
        have hl:(Y0 kids).length=(Y0 kids').length:=by rw [← Sr n kids ht1,← Sr n kids' hu1,e4]
        obtain ⟨h1,h2⟩:=List.append_inj he (by simpa using hl)
        rw [Yy,Yy,if_neg c,if_neg c,OH kids kids' e4 ht1 hu1 hb h1,OI cases cases' e5 ht2 hu2 hb h2]
theorem OH:∀ (t u:List Tm),YF (replicate n 0) [] t=YF (replicate n 0) [] u→(∀ x∈Y0 t,0≤x∧x<(n:Int))→(∀ x∈Y0 u,0≤x∧x<(n:Int))→(∀ x:Int,0≤x→x<(n:Int)→0≤b.getD x.toNat 0)→(Y0 t).map (fun x=>b.getD x.toNat 0)=(Y0 u).map (fun x=>b.getD x.toNat 0)→YF b s t=YF b s u
  | [],[],_,_,_,_,_=>rfl
  | [],u::us,e,_,_,_,_=>by simp [YF] at e
  | t::ts,[],e,_,_,_,_=>by simp [YF] at e
  | t::ts,u::us,e,ht,hu,hb,he=>by
    rw [YF,YF] at e
    injection e with e1 e2
    rw [Y0,Y0,map_append,map_append] at he
    rw [Y0] at ht hu
    have ht1:∀ x∈sfR t,0≤x∧x<(n:Int):=fun x hx=>ht x (mem_append.2 (.inl hx))
    have hu1:∀ x∈sfR u,0≤x∧x<(n:Int):=fun x hx=>hu x (mem_append.2 (.inl hx))
    have hl:(sfR t).length=(sfR u).length:=by rw [← VE n t ht1,← VE n u hu1];unfold Vx;rw [e1]
    obtain ⟨h1,h2⟩:=List.append_inj he (by simpa using hl)
    rw [YF,YF,Pf t u e1 ht1 hu1 hb h1,OH ts us e2 (fun x hx=>ht x (mem_append.2 (.inr hx))) (fun x hx=>hu x (mem_append.2 (.inr hx))) hb h2]
theorem OI:∀ (t u:List (Pt×Tm)),YC (replicate n 0) [] t=YC (replicate n 0) [] u→(∀ x∈Y4 t,0≤x∧x<(n:Int))→(∀ x∈Y4 u,0≤x∧x<(n:Int))→(∀ x:Int,0≤x→x<(n:Int)→0≤b.getD x.toNat 0)→(Y4 t).map (fun x=>b.getD x.toNat 0)=(Y4 u).map (fun x=>b.getD x.toNat 0)→YC b s t=YC b s u
  | [],[],_,_,_,_,_=>rfl
  | [],u::us,e,_,_,_,_=>by simp [YC] at e
  | t::ts,[],e,_,_,_,_=>by simp [YC] at e
  | (p,t)::ts,(q,u)::us,e,ht,hu,hb,he=>by
    rw [YC,YC] at e
    injection e with e1 e2
    injection e1 with e0 e1
    simp only at e0 e1
    rw [Y4,Y4,map_append,map_append] at he
    rw [Y4] at ht hu
    have ht1:∀ x∈sfR t,0≤x∧x<(n:Int):=fun x hx=>ht x (mem_append.2 (.inl hx))
    have hu1:∀ x∈sfR u,0≤x∧x<(n:Int):=fun x hx=>hu x (mem_append.2 (.inl hx))
    have hl:(sfR t).length=(sfR u).length:=by rw [← VE n t ht1,← VE n u hu1];unfold Vx;rw [e1]
    obtain ⟨h1,h2⟩:=List.append_inj he (by simpa using hl)
    rw [YC,YC]
    simp only
    rw [e0,Pf t u e1 ht1 hu1 hb h1,OI ts us e2 (fun x hx=>ht x (mem_append.2 (.inr hx))) (fun x hx=>hu x (mem_append.2 (.inr hx))) hb h2]
end
end
theorem GJ {α:Type} {l:List α} {x y:α}:(l++[x]).set l.length y=l++[y]:=by rw [List.set_append_right _ _ (Nat.le_refl _),Nat.sub_self];rfl
noncomputable def frF (l:List Tm) (n:Int):Int:=(frI l).getD n.toNat 0
theorem RQ {l:List Tm} {n:Int} (h0:0≤n) (h1:n<(l.length:Int)):0≤frF l n∧frF l n<(l.length:Int):=by
  unfold frF;rw [XO h0 h1]
  have:=YJ (l:=l) (i:=n.toNat) (by omega)
  omega
theorem Ah {l:List Tm} (h:okG l) {i:Nat} (hi:i<l.length) (hf:firstN l i<l.length):mpT (nmD (frF l)) l[firstN l i]=Yy (frI l) [] l[i]:=by
  have hr:∀ t∈l,mpT (nmD (frF l)) t=Yy (frI l) [] t:=fun t ht=>Tw (Jt fun x h0 h1=>⟨rfl,(RQ h0 h1).1⟩) 0 t (checkR_iff.1 (h.ck t ht)).2
  rw [hr _ (getElem_mem _)]
  have hb:=WK hi
  have e0:=Me hb
  unfold e0L Vx at e0
  rw [Y9 hi,Y9 hf] at e0
  refine (Pf _ _ e0 (h.ok _ (getElem_mem _)) (h.ok _ (getElem_mem _)) (fun x h0 h1=>(RQ h0 h1).1) ?_).symm
  have hl:=WO h.ok (Me hb)
  unfold sL at hl
  rw [Qx,Qx,Y9 hi,Y9 hf] at hl
  refine ext_getElem (by simpa using hl) fun k h1 h2=>?_
  rw [getElem_map,getElem_map]
  have k1:k<(sfR l[i]).length:=by simpa using h1
  have k2:k<(sfR l[firstN l i]).length:=by simpa using h2
  have a1:=h.ok _ (getElem_mem hi) _ (getElem_mem k1)
  have a2:=h.ok _ (getElem_mem hf) _ (getElem_mem k2)
  rw [XO a1.1 a1.2,XO a2.1 a2.2]
  have st:=LC hb (k:=k) (by unfold sL;rw [Qx,Y9 hi];exact k1)
  have g:∀ (j:Nat) (hj:j<l.length) (kj:k<(sfR l[j]).length),(sL l j).getD k 0=((sfR l[j])[k]).toNat:=fun j hj kj=>by
    unfold sL sfN;rw [Y9 hj,getD_eq_getElem?_getD,getElem?_map,getElem?_eq_getElem kj];rfl
  rw [g i hi k1,g _ hf k2] at st
  exact congrArg Int.ofNat ((PE h.ok (by omega) (by omega)).2 st)
def GO (l:List Tm) (vm vc vf:Value) (k:Zi):Prop:=∃ k1 k2 k3,OL (mkL l) vm k1∧OII (XQ (mkL l)) vc k2∧Own 3 1 vf (Z2 (frI l)) k3∧k=k1++(k2++k3)
structure GR (h:Heap) (l:List Tm) (vm vc vf:Value):Prop where
  m:Hs.rdS RT 36 h vm (mkL l)
  c:Hs.rdS RII 1 h vc (XQ (mkL l))
  f:Hs.rdS RI 1 h vf (frI l)
theorem GR.mono {h h':Heap} {l:List Tm} {vm vc vf:Value} (hh:Hle h h') (g:GR h l vm vc vf):GR h' l vm vc vf:=⟨RTs.mono hh g.m,RIIs.mono hh g.c,RIs.mono hh g.f⟩
theorem GO.rd {h:Heap} {l:List Tm} {vm vc vf:Value} {k:Zi} (g:GO l vm vc vf k) (hl:l.length≤8) (hk:Has k h):GR h l vm vc vf:=by
  obtain ⟨k1,k2,k3,h1,h2,h3,rfl⟩:=g
  exact ⟨h1.rd hk.left,h2.rd hk.right.left,Yn h3 (by rw [Yw];omega) hk.right.right⟩
theorem GO.one {l:List Tm} {vm vc vf:Value} {k:Zi} (g:GO l vm vc vf k):vm.oneCell'=true∧vc.oneCell'=true∧vf.oneCell'=true:=by
  obtain ⟨k1,k2,k3,h1,h2,h3,rfl⟩:=g
  exact ⟨h1.one,h2.one,h3.one⟩
end Go.Proofs.YtjdjmjgleadcfaaGreatDoor.Hs
