import Derived.Test.YtjdjmjgleadcfaaGreatDoorCodezb
import Derived.Laws.BytesArg
import Derived.Laws.StructEq
import Derived.Test.YtjdjmjgleadcfaaGreatDoorRows
import Derived.ChangeSame
import Derived.JoinedOf
import Derived.ChangeCalls
import Derived.Laws.IdiomStrings
set_option linter.unusedVariables false
set_option linter.unusedSimpArgs false
set_option maxRecDepth 100000
open Go.Proofs.Tryz
open List (getElem_mem replicate mem_cons_self mem_cons append_assoc take_of_length_le range length_append getD_eq_getElem?_getD getElem?_eq_getElem mem_append length_take take_succ_eq_append_getElem length_cons length_map length_set flatten_cons mem_map map_append length_drop flatten map_cons length_replicate flatten_append append_nil take_succ_cons cons_append eq_nil_of_length_eq_zero mem_flatten getElem?_map getElem?_cons_zero getElem_map drop_eq_getElem_cons mem_singleton nil_append getElem?_eq_none flatten_nil map_congr_left take_append_drop getElem?_replicate map_nil getElem?_drop getElem?_take getElem?_cons_succ mem_of_getElem?)
namespace Go.Proofs.YtjdjmjgleadcfaaGreatDoor.Hs
theorem ZcJ {P:Program} {e:Operand→Value} {o:Oper} {b c:Bool} (h:Pu P e o (.bool b)) (q:b=c):Pu P e o (.bool c):=q▸h
def byR (H:Heap) (v:Value) (l:List Int):Prop:=∃ a cap,v=.slice a l.length cap∧l.length≤cap∧Hs.rdS RB 1 H v l
theorem byR.rd {H:Heap} {v:Value} {l:List Int} (h:byR H v l):Hs.rdS RB 1 H v l:=by obtain ⟨_,_,_,_,h⟩:=h;exact h
theorem byR.one {H:Heap} {v:Value} {l:List Int} (h:byR H v l):v.oneCell'=true:=h.rd.one
theorem byR.mono {H H':Heap} {v:Value} {l:List Int} (hh:Hle H H') (h:byR H v l):byR H' v l:=by obtain ⟨a,cap,e,h1,h⟩:=h;exact ⟨a,cap,e,h1,RBs.mono hh h⟩
theorem byR.cut {h:Heap} {a:Option Addr} {N cap:Nat} {l:List Int} (r:byR h (.slice a N cap) l) (n m:Nat) (hnm:n+m≤l.length):Hs.rdS RB 1 h (.slice (if cap=n then a else a.map (·.add (n*1))) m (cap-n)) ((l.drop n).take m):=by
  obtain ⟨a',c',e,h1,a2,c2,e2,h2,h0⟩:=r
  cases e;cases e2
  have hl:((l.drop n).take m).length=m:=by rw [length_take,length_drop];omega
  refine ⟨_,_,by rw [hl],by rw [hl];omega,?_⟩
  by_cases hz:m=0
  · exact .inl (by rw [hl];exact hz)
  rcases h0 with h0 | ⟨b,o,row,T,fr,e1,e2,e3⟩
  · omega
  · right
    have hc:¬ cap=n:=by omega
    refine ⟨b,o+n*1,row,T,fr,by rw [if_neg hc,e1];simp [Addr.add],e2,rows.mk fun i hi=>?_⟩
    rw [hl] at hi
    obtain ⟨cs,h2,h3⟩:=e3.get (n+i) (by omega)
    exact ⟨cs,by rw [← h2];congr 1;omega,by rw [List.getElem_take,List.getElem_drop];exact h3⟩
section
variable {c:Cx} {H:Heap} {ρ:Nat→Value} {M:List Zi} {K:Value→List Zi→Prop} {d:Option Nat} {ot:TypeId} {pos:String} {af:Array Edge} {g:Option (Nat×Bool)} {x y z:Operand}
theorem OG {P:Program} {H:Heap} {L:Zi} {w:World} {T T' el:TypeId} {v:Value} {l:List Int} (mm:Mem w L H) (hr:Hs.rdS RB 1 H v l) (hT:∀ w,(underlying T).run P w=.ok (.slice el) w) (hel:∀ w,(underlying el).run P w=.ok (.int .u8) w) (hT':∀ w,(underlying T').run P w=.ok .string w):
    (convert T T' v).run P w=.ok (.string (KI l)) w:=by
  obtain ⟨a,cap,rfl,hn,h0⟩:=hr
  have e1:(convert T T' (.slice a l.length cap)).run P w=(Conv.bytesToString (.slice a l.length cap)).run P w:=by
    simp [convert,hT,hT',hel]
  rw [e1]
  cases a with
  | none=>
    rcases h0 with h0 | ⟨b,o,row,T2,fr,e2,_⟩
    · have:l=[]:=eq_nil_of_length_eq_zero h0
      subst this
      simp [Conv.bytesToString,KI]
      rfl
    · cases e2
  | some a =>
    have hl :(loadCells a l.length).run P w=.ok (l.map (Value.int .u8)).toArray w:=by
      have :=run_loadCells_list (P:=P) w a (l.map (Value.int .u8)) (fun j u hj=>by
        have hjl:j<l.length:=by
          rcases Nat.lt_or_ge j l.length with h | h
          · exact h
          · simp [getElem?_eq_none (show (l.map (Value.int .u8)).length≤j by simpa using h)] at hj
        rcases h0 with h0 | ⟨b,o,row,T2,fr,e2,hb,hrow⟩
        · omega
        · cases e2
          obtain ⟨cs,q1,q2⟩:=hrow.get j hjl
          obtain ⟨q3,q4⟩:=Wf q1
          rw [Vr,cell_of_row w b (o+j) _ _ _ (mm.imm _ _ hb)]
          simp [getElem?_eq_getElem hjl] at hj
          have q5:row[o+j]?=some (.int .u8 l[j]):=by
            have e:=q4.symm.trans q2
            have:((row.drop (o+j*1)).take 1)[0]?=some (.int .u8 l[j]):=by rw [e];rfl
            rw [getElem?_take,if_pos (by omega),getElem?_drop] at this
            simpa using this
          rw [← hj]
          simpa using q5)
      simpa using this
    rw [run_bytesToString w a l.length cap l hl,foldl_push_bytes]
    simp [KI]
end
section
variable {c:Cx} {H:Heap} {l:List Oper} {b:Array Nat} {k:Nat} {ds:List (Option Nat)} {cs:List (Nat×Nat)} {P:List (Nat×Wu)} {ρ₀:Nat→Value} {M₀:List Zi} {Q:Post} {m:Nat} {os:List Oper} {r:Nat→Value} {N:Nat→List Zi}
  {d:Option Nat} {x:Operand} {ot:TypeId} {pos:String} {af:Array Edge} {g:Option (Nat×Bool)}
end
mutual
def szI:It→Nat
  | .mk _ _ _ kids=>1+Xu kids
def Xu:List It→Nat
  | []=>0
  | x::l=>szI x+Xu l
end
theorem DK (x:It):1≤szI x:=by cases x;rw [szI];omega
theorem Oy {l:List It} {j:Nat} (h:j<l.length):Xu (l.drop j)=szI l[j]+Xu (l.drop (j+1)):=by rw [YU h,Xu]
theorem Mu {l:List It}:∀ {x:It},x∈l→szI x≤Xu l:=by
  induction l with
  | nil=>intro x hx;cases hx
  | cons y l ih=>
    intro x hx
    rw [Xu]
    rcases mem_cons.1 hx with rfl | hx
    · omega
    · have:=ih hx;omega
theorem Gq (l:List It):l.length≤Xu l:=by
  induction l with
  | nil=>simp
  | cons x l ih=>rw [Xu,length_cons];have:=DK x;omega
mutual
def dpI:It→Int
  | .mk _ _ _ kids=>1+Wx kids
def Wx:List It→Int
  | []=>0
  | x::l=>max (dpI x) (Wx l)
end
theorem N6 (l:List It):0≤Wx l:=by
  induction l with
  | nil=>rw [Wx];omega
  | cons x l ih=>rw [Wx];omega
theorem AA (p:Pt):(szI (itP p):Int)=sizeP p∧dpI (itP p)=SZ p:=by
  induction p using Pt.ind with
  | h k n r kids ih=>
    rw [itP,szI,dpI,sizeP,SZ]
    have hK:∀ l:List Pt,(∀ x∈l,(szI (itP x):Int)=sizeP x∧dpI (itP x)=SZ x)→(Xu (WH l):Int)=Yv l∧Wx (WH l)=WV l:=by
      intro l
      induction l with
      | nil=>intro _;rw [WH,Xu,Wx,Yv,WV];simp
      | cons x l ihl=>
        intro hl
        have h1:=hl x (by simp)
        have h2:=ihl (fun y hy=>hl y (by simp [hy]))
        rw [WH,Xu,Wx,Yv,WV]
        omega
    have:=hK kids ih
    omega
theorem Gr (a b:List It):Xu (a++b)=Xu a+Xu b:=by
  induction a with
  | nil=>rw [Xu];simp
  | cons x a ih=>rw [cons_append,Xu,Xu,ih];omega
theorem Ew (a b:List It):Wx (a++b)=max (Wx a) (Wx b):=by
  induction a with
  | nil=>rw [Wx];have:=N6 b;simp only [nil_append];omega
  | cons x a ih=>rw [cons_append,Wx,Wx,ih];omega
theorem Az (t:Tm):(szI (itT t):Int)≤2*sizeT t∧dpI (itT t)≤2*UI t:=by
  induction t using Tm.ind with
  | h k n r kids cases ih ih'=>
    rw [itT,szI,dpI,sizeT,UI,Gr,Ew]
    have hK:∀ l:List Tm,(∀ x∈l,(szI (itT x):Int)≤2*sizeT x∧dpI (itT x)≤2*UI x)→(Xu (Wk l):Int)≤2*ZL l∧Wx (Wk l)≤2*Wp l:=by
      intro l
      induction l with
      | nil=>intro _;rw [Wk,Xu,Wx,ZL,Wp];simp
      | cons x l ihl=>
        intro hl
        have h1:=hl x (by simp)
        have h2:=ihl (fun y hy=>hl y (by simp [hy]))
        rw [Wk,Xu,Wx,ZL,Wp]
        omega
    have hC:∀ l:List (Pt×Tm),(∀ c∈l,(szI (itT c.2):Int)≤2*sizeT c.2∧dpI (itT c.2)≤2*UI c.2)→(Xu (Vo l):Int)≤2*ZX l∧Wx (Vo l)≤2*WA l+1:=by
      intro l
      induction l with
      | nil=>intro _;rw [Vo,Xu,Wx,ZX,WA];simp
      | cons c l ihl=>
        intro hl
        obtain ⟨p,x⟩:=c
        have h1:=hl (p,x) (by simp)
        have h2:=ihl (fun y hy=>hl y (by simp [hy]))
        have h3:=AA p
        have h4:=Bd p
        have h5:=Rr p
        simp only at h1
        rw [Vo,Xu,Wx,ZX,WA,szI,dpI,Xu,Xu,Xu,Wx,Wx,Wx]
        omega
    have h1:=hK kids ih
    have h2:=hC cases ih'
    have h3:=Tg kids
    omega
section
open Go Go.MapKept
theorem GS {P:Program} {w:World} {α:Type} (f:α→Sem Unit):∀ (l:List α),(∀ x∈l,(f x).run P w=.ok () w)→(forIn l PUnit.unit (fun x _=>do f x;pure (ForInStep.yield PUnit.unit)):Sem PUnit).run P w=.ok PUnit.unit w:=by
  intro l
  induction l with
  | nil=>intro _;simp
  | cons x l ih=>
    intro h
    have h1:=h x (by simp)
    have h2:=ih (fun y hy=>h y (by simp [hy]))
    simp only [List.forIn_cons,Sem.run_bind,h1,Result.andThen,Sem.run_pure]
    exact h2
theorem NE (em:Bool) (n:Nat) (r:Sm) (w:World):(Instr.checkKey em (n+2) 38 (.agg ⟨sC r⟩)).run prog w=.ok () w:=by
  rw [Instr.checkKey]
  simp only [Sem.run_bind,run_underlying underlying38,Result.andThen]
  simp only [Std.Legacy.Range.forIn_eq_forIn_range',Std.Legacy.Range.size,Nat.sub_zero,Nat.add_sub_cancel,Nat.div_one]
  have:=GS (P:=prog) (w:=w) (fun i=>(do Instr.checkKey em (n+1) 5 (← part 5 ⟨sC r⟩ (i*(← Go.sizeOf 5))):Sem Unit)) (List.range' 0 32) (fun i hi=>by
    have hi:i<32:=by have:=List.mem_range'_1.1 hi;omega
    have hp:(part 5 ⟨sC r⟩ (i*1)).run prog w=.ok (.int .u8 (r[i].toNat:Int)) w:=by
      have:=VQ r i hi
      have e:(⟨sC r⟩:Array Value)[i]?=some (.int .u8 (r[i].toNat:Int)):=by simpa using this
      simp [part,isAgg5,e]
    simp only [Sem.run_bind,sizeOf5,Result.andThen,hp]
    rw [Instr.checkKey]
    simp [run_underlying underlying5,Result.andThen])
  simp at this ⊢
  rw [this]
structure KeyOK (P:Program) (kt:TypeId) {α:Type} (kV:α→Value):Prop where
  inj:∀ {a b},kV a=kV b→a=b
  chk:∀ em h w,(Instr.checkKey em 10000 kt (kV h)).run P w=.ok () w
  fnd:∀ h (es:List MapEntry) w,(∀ e∈es,∃ x,e.key=kV x)→((∀ e∈es,e.key≠kV h)∧(Instr.findKey kt (kV h) es).run P w=.ok none w)∨∃ j e,(Instr.findKey kt (kV h) es).run P w=.ok (some (j,e.val)) w∧es[j]?=some e∧e.key=kV h
section
variable {α β:Type} (kV:α→Value) (vV:β→Value)
def gmE (K:List α) (f:α→β):List MapEntry:=K.zipIdx.map fun p=>{key:=kV p.1,val:=vV (f p.1),born:=p.2}
def gmO (K:List α) (f:α→β):Obj:=.map ⟨gmE kV vV K f⟩ K.length
def gmC (r:Nat) (K:List α) (f:α→β):Zi:=[(r,gmO kV vV K f)]
end
section
variable {α β:Type} {kV:α→Value} {vV:β→Value}
theorem JH (K:List α) (f:α→β):∀ e∈gmE kV vV K f,∃ x∈K,e.key=kV x∧e.val=vV (f x):=by
  intro e he
  obtain ⟨p,hp,rfl⟩:=mem_map.1 he
  exact ⟨p.1,(List.mem_zipIdx' hp).2▸getElem_mem _,rfl,rfl⟩
theorem CQ {K:List α} {f:α→β} {h:α} (hm:h∈K):∃ e∈gmE kV vV K f,e.key=kV h:=by
  obtain ⟨i,hi,rfl⟩:=List.getElem_of_mem hm
  exact ⟨_,mem_map.2 ⟨(K[i],i),List.mk_mem_zipIdx_iff_getElem?.2 (by simp [hi]),rfl⟩,rfl⟩
theorem JG {P:Program} {kt:TypeId} (ok:KeyOK P kt kV) (K:List α) (f:α→β) (k:α) (w:World):(k∉K∧(Instr.findKey kt (kV k) (gmE kV vV K f)).run P w=.ok none w)∨
    (k∈K∧∃ j,(Instr.findKey kt (kV k) (gmE kV vV K f)).run P w=.ok (some (j,vV (f k))) w):=by
  rcases ok.fnd k (gmE kV vV K f) w (fun e he=>(JH K f e he).elim fun x hx=>⟨x,hx.2.1⟩) with ⟨h1,h2⟩ | ⟨j,e,h1,h2,h3⟩
  · refine .inl ⟨fun hm=>?_,h2⟩
    obtain ⟨e,he,hk⟩:=CQ (kV:=kV) (vV:=vV) (f:=f) hm
    exact h1 e he hk
  · obtain ⟨x,hx,hk,hv⟩:=JH K f e (mem_of_getElem? h2)
    obtain rfl:x=k:=ok.inj (hk.symm.trans h3)
    exact .inr ⟨hx,j,by rw [h1,hv]⟩
theorem Ec (K:List α) (f g:α→β) (k:α) (hg:∀ x∈K,g x=f x):gmE kV vV (K++[k]) g=gmE kV vV K f++[{key:=kV k,val:=vV (g k),born:=K.length}]:=by
  unfold gmE
  rw [List.zipIdx_append,map_append]
  congr 1
  · apply map_congr_left
    intro p hp
    rw [hg p.1 ((List.mem_zipIdx' hp).2▸getElem_mem _)]
  · simp
end
section
variable {c:Cx} {H:Heap} {ρ:Nat→Value} {M:List Zi} {Kk:Value→List Zi→Prop} {d:Option Nat} {ot:TypeId} {pos:String} {af:Array Edge} {g:Option (Nat×Bool)} {x y z:Operand}
variable {α β:Type} {kV:α→Value} {vV:β→Value} {kt et T:TypeId}
theorem Si (kV:α→Value) (vV:β→Value) (f:α→β) (h:∀ r,Kk (.map (some r)) (gmC kV vV r [] f::M)):Runs c H ⟨d,.makeMap T none,ot,pos,af,g⟩ ρ M Kk:=fun F w m=>by
  refine ⟨.map (some w.heap.size),{w with heap:=w.heap.push (.map #[] 0)},[(w.heap.size,.map #[] 0)]::M,.inl ?_,m.push (w':={w with heap:=w.heap.push (.map #[] 0)}) rfl,h _⟩
  simp [execOp,Instr.makeMap,Result.andThen]
theorem UP {i r:Nat} {K:List α} {f f':α→β} {k:α} (ok:KeyOK c.P kt kV) (hm:c.P.underlying T=some (.map kt et)) (hx:ev c.n ρ x=.map (some r)) (hy:ev c.n ρ y=kV k) (hz:ev c.n ρ z=vV (f' k))
    (hi:M[i]?=some (gmC kV vV r K f)) (hk:k∉K) (hf:∀ x∈K,f' x=f x) (h:Kk undef (M.set i (gmC kV vV r (K++[k]) f'))):Runs c H ⟨d,.mapUpdate T x y z,ot,pos,af,g⟩ ρ M Kk:=fun F w m=>by
  have hb:w.heap[r]?=some (.map ⟨gmE kV vV K f⟩ K.length):=(m.perm ((YI hi).append_right F)).own r _ (mem_cons_self ..)
  rcases JG (vV:=vV) ok K f k w with ⟨h0,h1⟩ | ⟨h0,_⟩
  · refine ⟨undef,_,_,.inr ⟨?_,rfl⟩,m.put (o':=gmO kV vV (K++[k]) f') hi,h⟩
    simp [execOp,Instr.mapUpdate,hx,hy,hz,run_underlying hm,MapKept.run_getObj_map hb,ok.chk,h1,MapKept.run_setObj_map _ hb,Result.andThen,gmO,Ec K f f' k hf]
  · exact absurd h0 hk
theorem Jz {K:List α} {f:α→β} {k:α} {w:World} {r clk:Nat} {b:Bool} {z0:β} [Decidable (k∈K)] (ok:KeyOK c.P kt kV) (hm:c.P.underlying T=some (.map kt et)) (hzv:∀ w,(zeroValue et).run c.P w=.ok (vV z0) w) (hx:ev c.n ρ x=.map (some r)) (hy:ev c.n ρ y=kV k)
    (hb:w.heap[r]?=some (.map ⟨gmE kV vV K f⟩ clk)):(execOp (ev c.n ρ) ⟨d,.lookup T x y b,ot,pos,af,g⟩).run c.P w=.ok (.value (if b then .tuple ⟨[vV (if k∈K then f k else z0),.bool (decide (k∈K))]⟩ else vV (if k∈K then f k else z0))) w:=by
  rcases JG (vV:=vV) ok K f k w with ⟨h0,h1⟩ | ⟨h0,j,h1⟩
  · cases b <;> simp [execOp,Instr.lookup,hx,hy,run_underlying hm,MapKept.run_getObj_map hb,ok.chk,h1,hzv,Result.andThen,h0]
  · cases b <;> simp [execOp,Instr.lookup,hx,hy,run_underlying hm,MapKept.run_getObj_map hb,ok.chk,h1,Result.andThen,h0]
theorem TR {i r:Nat} {K:List α} {f:α→β} {k:α} [Decidable (k∈K)] (z0:β) (ok:KeyOK c.P kt kV) (hm:c.P.underlying T=some (.map kt et)) (hzv:∀ w,(zeroValue et).run c.P w=.ok (vV z0) w) (hx:ev c.n ρ x=.map (some r)) (hy:ev c.n ρ y=kV k)
    (hi:M[i]?=some (gmC kV vV r K f)) (h:Kk (.tuple ⟨[vV (if k∈K then f k else z0),.bool (decide (k∈K))]⟩) M):Runs c H ⟨d,.lookup T x y true,ot,pos,af,g⟩ ρ M Kk:=fun F w m=>by
  have hb:w.heap[r]?=some (.map ⟨gmE kV vV K f⟩ K.length):=(m.perm ((YI hi).append_right F)).own r _ (mem_cons_self ..)
  exact ⟨_,_,_,.inl (Jz ok hm hzv hx hy hb),m,h⟩
theorem Ou {i r:Nat} {K:List α} {f:α→β} {k:α} [Decidable (k∈K)] (z0:β) (ok:KeyOK c.P kt kV) (hm:c.P.underlying T=some (.map kt et)) (hzv:∀ w,(zeroValue et).run c.P w=.ok (vV z0) w) (hx:ev c.n ρ x=.map (some r)) (hy:ev c.n ρ y=kV k)
    (hi:M[i]?=some (gmC kV vV r K f)) (h:Kk (vV (if k∈K then f k else z0)) M):Runs c H ⟨d,.lookup T x y false,ot,pos,af,g⟩ ρ M Kk:=fun F w m=>by
  have hb:w.heap[r]?=some (.map ⟨gmE kV vV K f⟩ K.length):=(m.perm ((YI hi).append_right F)).own r _ (mem_cons_self ..)
  exact ⟨_,_,_,.inl (Jz ok hm hzv hx hy hb),m,h⟩
theorem Tn {r:Nat} {K:List α} {f:α→β} {k:α} [Decidable (k∈K)] (z0:β) (ok:KeyOK c.P kt kV) (hm:c.P.underlying T=some (.map kt et)) (hzv:∀ w,(zeroValue et).run c.P w=.ok (vV z0) w) (hx:ev c.n ρ x=.map (some r)) (hy:ev c.n ρ y=kV k)
    (hr:H r=some (gmO kV vV K f)) (h:Kk (.tuple ⟨[vV (if k∈K then f k else z0),.bool (decide (k∈K))]⟩) M):Runs c H ⟨d,.lookup T x y true,ot,pos,af,g⟩ ρ M Kk:=fun F w m=>by
  have hb:w.heap[r]?=some (.map ⟨gmE kV vV K f⟩ K.length):=m.imm r _ hr
  exact ⟨_,_,_,.inl (Jz ok hm hzv hx hy hb),m,h⟩
theorem Od {r:Nat} {K:List α} {f:α→β} {k:α} [Decidable (k∈K)] (z0:β) (ok:KeyOK c.P kt kV) (hm:c.P.underlying T=some (.map kt et)) (hzv:∀ w,(zeroValue et).run c.P w=.ok (vV z0) w) (hx:ev c.n ρ x=.map (some r)) (hy:ev c.n ρ y=kV k)
    (hr:H r=some (gmO kV vV K f)) (h:Kk (vV (if k∈K then f k else z0)) M):Runs c H ⟨d,.lookup T x y false,ot,pos,af,g⟩ ρ M Kk:=fun F w m=>by
  have hb:w.heap[r]?=some (.map ⟨gmE kV vV K f⟩ K.length):=m.imm r _ hr
  exact ⟨_,_,_,.inl (Jz ok hm hzv hx hy hb),m,h⟩
theorem HJ {i r:Nat} {K:List α} {f:α→β} {kt et:TypeId} (hm:∀ w,(underlying T).run c.P w=.ok (.map kt et) w) (hx:ev c.n ρ x=.map (some r))
    (hi:M[i]?=some (gmC kV vV r K f)) (h:Kk (.int .i64 (K.length:Int)) M):Runs c H ⟨d,.call {callee:=.builtin .len,args:=#[x],argTypes:=#[T]},ot,pos,af,g⟩ ρ M Kk:=fun F w m=>by
  have hb:w.heap[r]?=some (.map ⟨gmE kV vV K f⟩ K.length):=(m.perm ((YI hi).append_right F)).own r _ (mem_cons_self ..)
  refine ⟨_,_,_,.inl ?_,m,h⟩
  have hl:(gmE kV vV K f).length=K.length:=by simp [gmE]
  simp [execOp,resolve,invoke,builtin,Builtin.len_,hm,hx,goInt,MapKept.run_getObj_map hb,hl]
end
theorem Zdb {P:Program} {kt:TypeId} {td:TypeDesc} {α:Type} [DecidableEq α] {kV:α→Value} (inj:∀ {a b},kV a=kV b→a=b) (chk:∀ em h w,(Instr.checkKey em 10000 kt (kV h)).run P w=.ok () w)
    (heq:∀ a b w,(Op.equal kt (kV a) (kV b)).run P w=.ok (decide (a=b)) w) (hu:P.underlying kt=some td) (hs:∀ a b,Instr.sameNow td (kV a) (kV b)=none):KeyOK P kt kV:=by
  refine ⟨inj,chk,fun h es w hk=>?_⟩
  have key:∀ (es:List MapEntry) (i:Nat),(∀ e∈es,∃ x,e.key=kV x)→((∀ e∈es,e.key≠kV h)∧(Instr.findAsking kt (kV h) es i).run P w=.ok none w)∨∃ j e,(Instr.findAsking kt (kV h) es i).run P w=.ok (some (i+j,e.val)) w∧es[j]?=some e∧e.key=kV h:=by
    intro es
    induction es with
    | nil=>intro i _;exact .inl ⟨by simp,by simp [Instr.findAsking]⟩
    | cons e es ih=>
      intro i hk
      obtain ⟨x,hx⟩:=hk e (by simp)
      by_cases hxh:h=x
      · subst hxh
        refine .inr ⟨0,e,?_,rfl,hx⟩
        simp [Instr.findAsking,hx,heq,Result.andThen]
      · have hr:(Instr.findAsking kt (kV h) (e::es) i).run P w=(Instr.findAsking kt (kV h) es (i+1)).run P w:=by
          simp [Instr.findAsking,hx,heq,Result.andThen,hxh]
        rcases ih (i+1) (fun e he=>hk e (by simp [he])) with ⟨h1,h2⟩ | ⟨j,e',h1,h2,h3⟩
        · refine .inl ⟨fun e' he'=>?_,by rw [hr];exact h2⟩
          rcases mem_cons.1 he' with rfl | he'
          · rw [hx];intro q;exact hxh (inj q).symm
          · exact h1 e' he'
        · refine .inr ⟨j+1,e',?_,h2,h3⟩
          rw [hr,h1];congr 3;omega
  cases es with
  | nil=>exact .inl ⟨by simp,by simp [Instr.findKey,Instr.findNow,run_underlying hu,Result.andThen]⟩
  | cons e es=>
    have hr:(Instr.findKey kt (kV h) (e::es)).run P w=(Instr.findAsking kt (kV h) (e::es) 0).run P w:=by
      obtain ⟨x,hx⟩:=hk e (by simp)
      simp [Instr.findKey,Instr.findNow,run_underlying hu,Result.andThen,hx,hs]
    rw [hr]
    have:=key (e::es) 0 hk
    simpa only [Nat.zero_add] using this
def iV (n:Int):Value:=.int .i64 n
def smV (s:Sm):Value:=.agg ⟨sC s⟩
def clL (p:Int×Int):List Value:=[.int .i64 p.1,.int .i64 p.2]
def clV (p:Int×Int):Value:=.agg ⟨clL p⟩
theorem Zaa {P:Program} {kt:TypeId} (hd:P.underlying kt=some (.int .i64)):KeyOK P kt iV:=by
  refine ⟨fun h=>by unfold iV at h;injection h,fun em h w=>?_,fun h es w hk=>?_⟩
  · show (Instr.checkKey em (9999+1) kt (.int .i64 h)).run P w=_
    rw [Instr.checkKey];simp [run_underlying hd,Result.andThen]
  · rcases findNow_spec (d:=.int .i64) (k:=.int .i64 h) rfl es 0 (fun x hx=>by obtain ⟨y,hy⟩:=hk x hx;rw [hy];rfl) with ⟨h1,h2⟩ | ⟨j,e,h1,h2,h3⟩
    · exact .inl ⟨h2,run_findKey hd h1⟩
    · refine .inr ⟨j,e,?_,h2,h3⟩
      rw [Nat.zero_add] at h1
      exact run_findKey hd h1
theorem CG:KeyOK prog 38 smV:=by
  refine Zdb (fun h=>by unfold smV at h;injection h with h;injection h with h;exact AF h) (fun em h w=>NE em 9998 h w) (fun a b w=>?_) underlying38 (fun _ _=>rfl)
  unfold Op.equal
  have e1:=run_equalIn_bytes (P:=prog) w 9998 38 5 32 underlying38 underlying5 sizeOf5 a.toList b.toList (by simp) (by simp)
  rw [← U5,← U5] at e1
  have e2:(Op.equalIn 10000 38 (.agg ⟨sC a⟩) (.agg ⟨sC b⟩)).run prog w=.ok (a.toList==b.toList) w:=e1
  have hd2:(a.toList==b.toList)=decide (a=b):=by rw [Bool.eq_iff_iff];simp
  rw [hd2] at e2
  exact e2
theorem MF (a b:Int×Int) (w:World):(Op.equal 166 (clV a) (clV b)).run prog w=.ok (decide (a=b)) w:=by
  unfold Op.equal
  have hq:Op.maxDepth=9999+1:=rfl
  rw [hq]
  unfold clV
  rw [run_equalIn_struct w 9999 166 ⟨clL a⟩ ⟨clL b⟩ (by kernel_rfl) (by kernel_rfl)]
  have hf:(Program.fieldsOf prog 166).toList.map (fun f=>(f.name,f.type,f.offset))=[("own",3,0),("called",3,1)]:=by kernel_rfl
  generalize (Program.fieldsOf prog 166).toList=fl at hf
  obtain ⟨f1,f2,rfl⟩:∃ f1 f2,fl=[f1,f2]:=by
    rcases fl with _ | ⟨f1,_ | ⟨f2,_ | ⟨f3,fl⟩⟩⟩
    · simp at hf
    · simp at hf
    · exact ⟨f1,f2,rfl⟩
    · simp at hf
  · simp only [map_cons,map_nil,List.cons.injEq,Prod.mk.injEq] at hf
    obtain ⟨⟨n1,t1,o1⟩,⟨n2,t2,o2⟩,_⟩:=hf
    have p0:∀ h:Int×Int,(part 3 ⟨clL h⟩ 0).run prog w=.ok (.int .i64 h.1) w:=fun h=>by simp [part,isAgg3,clL]
    have p1:∀ h:Int×Int,(part 3 ⟨clL h⟩ 1).run prog w=.ok (.int .i64 h.2) w:=fun h=>by simp [part,isAgg3,clL]
    have e0:∀ x y:Int,(Op.equalIn 9999 3 (.int .i64 x) (.int .i64 y)).run prog w=.ok (x==y) w:=fun x y=>run_equalIn_int w 9998 3 .i64 .i64 _ _ underlying3
    obtain ⟨a1,a2⟩:=a
    obtain ⟨b1,b2⟩:=b
    simp only [Op.eqFields,n1,n2,t1,t2,o1,o2]
    by_cases h1:a1=b1
    · subst h1
      by_cases h2:a2=b2
      · subst h2;simp [p0,p1,e0,Result.andThen]
      · have:(a2==b2)=false:=by simpa using h2
        simp [p0,p1,e0,Result.andThen,h2,this]
    · have:(a1==b1)=false:=by simpa using h1
      simp [p0,e0,Result.andThen,this,h1]
theorem ZbE:KeyOK prog 166 clV:=by
  refine Zdb (fun {a b} h=>by unfold clV clL at h;injection h with h;injection h with h;injection h with h1 h;injection h with h2 h;injection h1 with _ h1;injection h2 with _ h2;exact Prod.ext h1 h2) (fun em h w=>?_) MF underlying166 (fun _ _=>rfl)
  show (Instr.checkKey em (9999+1) 166 (.agg ⟨clL h⟩)).run prog w=_
  have p0:(part 3 ⟨clL h⟩ 0).run prog w=.ok (.int .i64 h.1) w:=by simp [part,isAgg3,clL]
  have p1:(part 3 ⟨clL h⟩ 1).run prog w=.ok (.int .i64 h.2) w:=by simp [part,isAgg3,clL]
  have c0:∀ x:Int,(Instr.checkKey em 9999 3 (.int .i64 x)).run prog w=.ok () w:=fun x=>by
    show (Instr.checkKey em (9998+1) 3 (.int .i64 x)).run prog w=_
    rw [Instr.checkKey];simp [run_underlying underlying3,Result.andThen]
  rw [Instr.checkKey]
  simp [runUnderlying166,Result.andThen,p0,p1,c0]
theorem Lz (k:Int):∀ w,(Instr.build 166 ⟨[(0,.int .i64 k)]⟩).run prog w=.ok (.agg ⟨[.int .i64 k,.int .i64 0]⟩) w:=Z6 zeroValue166 runUnderlying166 Zbm (by kernel_rfl)
theorem Zcr {e:Operand→Value} {d:Option Nat} {ot:TypeId} {pos:String} {af:Array Edge} {g:Option (Nat×Bool)} {T':TypeId} {x y:Operand} {a b:Int×Int} (hx:e x=clV a) (hy:e y=clV b):Pu prog e ⟨d,.binOp .eql 166 x y T',ot,pos,af,g⟩ (.bool (decide (a=b))):=fun w=>by
  have h:=MF a b w
  have hg:=run_eqGuard_agg (P:=prog) w .eql 166 x y ⟨clL a⟩ ⟨clL b⟩ eqGuardType166
  unfold clV at hx hy h
  unfold Op.equal at h
  have hq:Op.maxDepth=10000:=rfl
  rw [hq] at h
  simp only [execOp,hx,hy,Sem.run_bind,hg,Result.andThen_ok]
  rw [run_eql_struct,h];rfl
end
def xr (a b:Int):Int:=IntKind.u64.wrap ((BitVec.ofInt IntKind.u64.bits a ^^^ BitVec.ofInt IntKind.u64.bits b).toNat:Int)
section
variable {P:Program} {e:Operand→Value} {d:Option Nat} {ot:TypeId} {pos:String} {af:Array Edge} {g:Option (Nat×Bool)} {T T':TypeId} {x y z:Operand} {k:IntKind} {a b:Int} {ats:Array TypeId}
theorem Pu.xor (hx:e x=.int .u64 a) (hy:e y=.int .u64 b):Pu P e ⟨d,.binOp .xor T x y T',ot,pos,af,g⟩ (.int .u64 (xr a b)):=fun w=>by
  simp only [execOp,hx,hy,eqGuard,binOp,Op.intBits];simp [xr]
theorem Pu.shr {k':IntKind} (hx:e x=.int k a) (hy:e y=.int k' 40) (hk:min 40 k.bits=40):Pu P e ⟨d,.binOp .shr T x y T',ot,pos,af,g⟩ (.int k (a.fdiv 1099511627776)):=fun w=>by
  have h40:(40:Int).toNat=40:=rfl
  have hp:(2:Int) ^ 40=1099511627776:=by decide
  simp only [execOp,hx,hy,eqGuard,binOp,Op.shift,h40,hk,hp];simp
theorem Pu.neg {v:Int} (hx:e x=.int k a) (hv:k.wrap (0-a)=v):Pu P e ⟨d,.unOp .neg T x,ot,pos,af,g⟩ (.int k v):=fun w=>by
  subst hv
  simp only [execOp,hx,Op.unary,Op.intArith];simp
end
def bytesR (H:Heap) (v:Value) (l:List Int):Prop:=∃ a cap,v=.slice a l.length cap∧l.length≤cap∧Hs.rdS RB 1 H v l
theorem bytesR.mono {h h':Heap} (hh:Hle h h') {v:Value} {l:List Int} (q:bytesR h v l):bytesR h' v l:=by
  obtain ⟨a,cap,e,h1,h2⟩:=q
  exact ⟨a,cap,e,h1,RBs.mono hh h2⟩
section
variable {c:Cx} {H:Heap} {ρ:Nat→Value} {M:List Zi} {K:Value→List Zi→Prop} {d:Option Nat} {ot:TypeId} {pos:String} {af:Array Edge} {g:Option (Nat×Bool)} {x y:Operand}
end
section
attribute [local irreducible] JL J CT wlo DT
theorem Hn (v:Value) (l:List Int) (H:Heap) (hl:Hs.rdS RB 1 H v l) (hz:l.length≤1000000):CT prog 62 ⟨[v]⟩ [] H (fun r N=>∃ k,N=[k]∧Own 5 1 r (Yk l) k):=by
 refine Zl func62 rfl rfl<|Zc<|JAn rfl<|Zf<|Zc<|JLm v ?_
 obtain ⟨a1,cap1,hv1⟩:=hl.sl
 have hle1:=hl.le
 refine JLq (.bool (a1.isNone)) (Zdp Yl hv1 rfl)<|Za<|Zs rfl (fun h2=>?_) (fun h2=>?_)
 ·refine Zc<|JAn rfl<|ZC nS [[]] (Zcz Sub.nil) (?_)
  obtain rfl:l=[]:=D9 hl hv1 h2
  exact ⟨_,rfl,Own.nil⟩
 refine Zk<|Zc<|JLr (Zm (vs:=[]) [] Yl el5 rfl rfl (by intro e he;cases he) rfl (by decide) fun b3 k3 ho3 hk3=>JLm v<|JLr (Zz (i:=0) (n:=l.length) (es':=Yk l) Yl Yl (Or.inl rfl) el5 rfl rfl rfl ho3 (fun F w m=>P1 hl w _ m) (Z8 _) (Um _) (S8 _) (by decide) (by simp;omega) fun v4 k4 ho4=>JLa v4<|Za<|ZC v4 [k4] (Sk Sub.nil) (?_)))
 exact ⟨_,rfl,ho4⟩
theorem MD:∀ (p q:Pt) (cs ds:List Value) (H:Heap),RP H cs p→RP H ds q→CT prog 168 ⟨[.agg ⟨cs⟩,.agg ⟨ds⟩]⟩ [] H (fun v N=>v=.bool (decide (p=q))∧N=[]):=by
 intro p
 induction p using Pt.ind with
 | h kind num ref kids ih=>
 intro q cs ds H hp hq
 obtain ⟨ks,rfl,hk,hn,hks⟩:=RP_mk.1 hp
 obtain ⟨ksq,rfl,hkq,hnq,hksq⟩:=Mm hq
 refine Zl func168 rfl rfl<|Zc<|JLr (Zr (l:=pkP kind num ref ks) rfl rfl fun b1=>JLr (Zr (l:=pkP (q.kind) (q.num) (q.ref) ksq) rfl rfl fun b2=>JAn rfl<|Zc<|JLq (pp b1 0) (Yr rfl rfl)<|JLr (Zb ty3 rfl (Zcu 1 rfl) (Xp ..)<|JLq (pp b1 1) (Xg rfl rfl)<|JLr (Zb ty3 rfl (Zcu 1 rfl) (Wy ..) ?_))))
 refine JLq (pp b1 2) (X7 rfl rfl)<|JLr (Zn Yq rfl (Zcu 1 rfl) (US ..)<|JLq (.agg ⟨([iv kind,iv num])++(sC ref)⟩) (Pu.build (pv:=[(0,iv kind),(1,iv num),(2,.agg ⟨sC ref⟩)]) (l:=([iv kind,iv num])++(sC ref)) rfl (ZbY _ _ _))<|JLq (pp b2 0) (Yr rfl rfl)<|JLr (Zb ty3 rfl (Zcu 0 rfl) (Xp ..)<|JLq (pp b2 1) (Xg rfl rfl)<|JLr (Zb ty3 rfl (Zcu 0 rfl) (Wy ..)<|JLq (pp b2 2) (X7 rfl rfl)<|JLr (Zn Yq rfl (Zcu 0 rfl) (US ..)<|JLq (.agg ⟨([iv (q.kind),iv (q.num)])++(sC (q.ref))⟩) (Pu.build (pv:=[(0,iv (q.kind)),(1,iv (q.num)),(2,.agg ⟨sC (q.ref)⟩)]) (l:=([iv (q.kind),iv (q.num)])++(sC (q.ref))) rfl (ZbY _ _ _))<|JLq (.bool ((decide (kind=q.kind))&&((decide (num=q.num))&&(decide (ref=q.ref))))) (eqK rfl rfl)<|JLM rfl<|ZA 5 [21,22,23,24,25] [(25,cond ((decide (kind=q.kind))&&((decide (num=q.num))&&(decide (ref=q.ref)))) (.bool (decide (kids=(q.kids)))) undef)] ?_ fun f4=>?_))))
 ·cases h3:((decide (kind=q.kind))&&((decide (num=q.num))&&(decide (ref=q.ref)))) with
  | true=>
   obtain ⟨h3a,h3b⟩:=Xa h3
   replace h3a:=dt h3a
   obtain ⟨h3ba,h3bb⟩:=Xa h3b
   replace h3ba:=dt h3ba
   replace h3bb:=dt h3bb
   refine JLq (pp b1 34) (Z5 rfl rfl)<|JLr (Zb YB rfl (Zcu 1 rfl) (Yo ..)<|JLq (pp b2 34) (Z5 rfl rfl)<|JLr (Zb YB rfl (Zcu 0 rfl) (Yo ..)<|Jc call156 rfl (fun hin=>PJ 168 [] [] (fun _ _=>rfl) _ _ _ _ _ (RPs.mono (Hle.hu _ _) hks) (RPs.mono (Hle.hu _ _) hksq) (fun x hx y hy a b h hh ra rb=>ih x hx y a b h ra rb)) rfl ?_))
   rintro _ _ ⟨rfl,rfl⟩
   exact Za ⟨⟨rfl,trivial⟩,rfl⟩
  | false=>
   exact ZJ rfl ⟨rfl,trivial⟩
 refine JLn (ZcA rfl rfl rfl)<|JAn rfl<|ZC (.bool (((decide (kind=q.kind))&&((decide (num=q.num))&&(decide (ref=q.ref))))&&(decide (kids=(q.kids))))) [] Sub.nil (?_)
 exact ⟨congrArg Value.bool (Zcp ..),rfl⟩
theorem NB:∀ (c d:Pt×Tm) (a b:List Value) (H:Heap),RC H a c→RC H b d→(∀ h a b,Hle H h→RT h a c.2→RT h b d.2→CT prog 120 ⟨[.agg ⟨a⟩,.agg ⟨b⟩]⟩ [] h (fun v N=>v=.bool (decide (c.2=d.2))∧N=[]))→CT prog 167 ⟨[.agg ⟨a⟩,.agg ⟨b⟩]⟩ [] H (fun v N=>v=.bool (decide (c=d))∧N=[]):=by
 intro c d a b H ⟨ca,cb,e1,ra1,ra2⟩ ⟨da,db,e2,rb1,rb2⟩ hg
 subst e1 e2
 refine Zl func167 rfl rfl<|Zc<|JLr (Zr (l:=ca++cb) rfl rfl fun b1=>JLr (Zr (l:=da++db) rfl rfl fun b2=>JAn rfl<|Zc<|JLq (pp b1 0) (YO rfl rfl)<|JLr (Zn ZU rfl (Zcu 1 rfl) (XE (ZN ra1))<|JLq (pp b2 0) (YO rfl rfl)<|JLr (Zn ZU rfl (Zcu 0 rfl) (XE (ZN rb1)) ?_))))
 refine Jc call168 rfl (fun hin=>MD _ _ _ _ _ (RP.mono (Hle.hu _ _) ra1) (RP.mono (Hle.hu _ _) rb1)) rfl ?_
 rintro _ _ ⟨rfl,rfl⟩
 refine JLM rfl<|ZA 5 [11,12,13,14,15] [(15,cond (decide ((c.1)=(d.1))) (.bool (decide ((c.2)=(d.2)))) undef)] ?_ fun f4=>?_
 ·cases h3:(decide ((c.1)=(d.1))) with
  | true=>
   replace h3:=dt h3
   refine JLq (pp b1 35) (YV rfl rfl)<|JLr (Zn Zy rfl (Zcu 1 rfl) (XK (ZN ra1) (ZB ra2))<|JLq (pp b2 35) (YV rfl rfl)<|JLr (Zn Zy rfl (Zcu 0 rfl) (XK (ZN rb1) (ZB rb2))<|Jc call120 rfl (fun hin=>hg _ _ _ (Hle.hu _ _) (RT.mono (Hle.hu _ _) ra2) (RT.mono (Hle.hu _ _) rb2)) rfl ?_))
   rintro _ _ ⟨rfl,rfl⟩
   exact Za ⟨⟨rfl,trivial⟩,rfl⟩
  | false=>
   exact ZJ rfl ⟨rfl,trivial⟩
 refine JLn (ZcA rfl rfl rfl)<|JAn rfl<|ZC (.bool ((decide ((c.1)=(d.1)))&&(decide ((c.2)=(d.2))))) [] Sub.nil (?_)
 exact ⟨by obtain ⟨c1,c2⟩:=c;obtain ⟨d1,d2⟩:=d;refine congrArg Value.bool ?_;rw [Bool.eq_iff_iff];simp,rfl⟩
theorem GP:∀ (t u:Tm) (cs ds:List Value) (H:Heap),RT H cs t→RT H ds u→CT prog 120 ⟨[.agg ⟨cs⟩,.agg ⟨ds⟩]⟩ [] H (fun v N=>v=.bool (decide (t=u))∧N=[]):=by
 intro t
 induction t using Tm.ind with
 | h kind num ref kids cases ih ih'=>
 intro u cs ds H ht hu
 obtain ⟨ks,cv,rfl,hk,hn,hks,hcv⟩:=RT_mk.1 ht
 obtain ⟨ksu,cvu,rfl,hku,hnu,hksu,hcvu⟩:=Rf hu
 refine Zl func120 rfl rfl<|Zc<|JLr (Zr (l:=pkT kind num ref ks cv) rfl rfl fun b1=>JLr (Zr (l:=pkT (u.kind) (u.num) (u.ref) ksu cvu) rfl rfl fun b2=>JAn rfl<|Zc<|JLq (pp b1 0) (Z1 rfl rfl)<|JLr (Zb ty3 rfl (Zcu 1 rfl) (Yf ..)<|JLq (pp b2 0) (Z1 rfl rfl)<|JLr (Zb ty3 rfl (Zcu 0 rfl) (Yf ..) ?_))))
 refine JLn (Pu.eql rfl rfl)<|JLM rfl<|ZA 5 [11,12,13,14,15] [(15,cond (decide (kind=u.kind)) (.bool (decide (num=u.num))) undef)] ?_ fun f4=>?_
 ·cases h3:(decide (kind=u.kind)) with
  | true=>
   replace h3:=dt h3
   refine JLq (pp b1 1) (Yj rfl rfl)<|JLr (Zb ty3 rfl (Zcu 1 rfl) (YP ..)<|JLq (pp b2 1) (Yj rfl rfl)<|JLr (Zb ty3 rfl (Zcu 0 rfl) (YP ..)<|JLn (Pu.eql rfl rfl) ?_))
   exact Za ⟨⟨rfl,trivial⟩,rfl⟩
  | false=>
   exact ZJ rfl ⟨rfl,trivial⟩
 refine JLn (ZcA rfl rfl rfl)<|JLM rfl<|ZA 5 [18,19,20,21,22] [(22,cond ((decide (kind=u.kind))&&(decide (num=u.num))) (.bool (decide (ref=u.ref))) undef)] ?_ fun f6=>?_
 ·cases h5:((decide (kind=u.kind))&&(decide (num=u.num))) with
  | true=>
   obtain ⟨h5a,h5b⟩:=Xa h5
   replace h5a:=dt h5a
   replace h5b:=dt h5b
   refine JLq (pp b1 2) (WL rfl rfl)<|JLr (Zn Yq rfl (Zcu 1 rfl) (V5 ..)<|JLq (pp b2 2) (WL rfl rfl)<|JLr (Zn Yq rfl (Zcu 0 rfl) (V5 ..)<|JLn (eqS rfl rfl) ?_))
   exact Za ⟨⟨rfl,trivial⟩,rfl⟩
  | false=>
   exact ZJ rfl ⟨rfl,trivial⟩
 refine JLn (ZcA rfl rfl rfl)<|JLM rfl<|ZA 5 [25,26,27,28,29] [(29,cond (((decide (kind=u.kind))&&(decide (num=u.num)))&&(decide (ref=u.ref))) (.bool (decide (kids=(u.kids)))) undef)] ?_ fun f8=>?_
 ·cases h7:(((decide (kind=u.kind))&&(decide (num=u.num)))&&(decide (ref=u.ref))) with
  | true=>
   obtain ⟨h7a,h7b⟩:=Xa h7
   obtain ⟨h7aa,h7ab⟩:=Xa h7a
   replace h7aa:=dt h7aa
   replace h7ab:=dt h7ab
   replace h7b:=dt h7b
   refine JLq (pp b1 34) (Yd rfl rfl)<|JLr (Zb YZ rfl (Zcu 1 rfl) (Yh ..)<|JLq (pp b2 34) (Yd rfl rfl)<|JLr (Zb YZ rfl (Zcu 0 rfl) (Yh ..)<|Jc call60 rfl (fun hin=>PI 120 [] [] (fun _ _=>rfl) _ _ _ _ _ (RTs.mono (Hle.hu _ _) hks) (RTs.mono (Hle.hu _ _) hksu) (fun x hx y hy a b h hh ra rb=>ih x hx y a b h ra rb)) rfl ?_))
   rintro _ _ ⟨rfl,rfl⟩
   exact Za ⟨⟨rfl,trivial⟩,rfl⟩
  | false=>
   exact ZJ rfl ⟨rfl,trivial⟩
 refine JLn (ZcA rfl rfl rfl)<|JLM rfl<|ZA 5 [32,33,34,35,36] [(36,cond ((((decide (kind=u.kind))&&(decide (num=u.num)))&&(decide (ref=u.ref)))&&(decide (kids=(u.kids)))) (.bool (decide (cases=(u.cases)))) undef)] ?_ fun f10=>?_
 ·cases h9:((((decide (kind=u.kind))&&(decide (num=u.num)))&&(decide (ref=u.ref)))&&(decide (kids=(u.kids)))) with
  | true=>
   obtain ⟨h9a,h9b⟩:=Xa h9
   obtain ⟨h9aa,h9ab⟩:=Xa h9a
   obtain ⟨h9aaa,h9aab⟩:=Xa h9aa
   replace h9aaa:=dt h9aaa
   replace h9aab:=dt h9aab
   replace h9ab:=dt h9ab
   replace h9b:=dt h9b
   refine JLq (pp b1 35) (ZY rfl rfl)<|JLr (Zb YL rfl (Zcu 1 rfl) (Z3 ..)<|JLq (pp b2 35) (ZY rfl rfl)<|JLr (Zb YL rfl (Zcu 0 rfl) (Z3 ..)<|Jc call110 rfl (fun hin=>PK 167 [] [] (fun _ _=>rfl) _ _ _ _ _ (RCs.mono (Hle.hu _ _) hcv) (RCs.mono (Hle.hu _ _) hcvu) (fun x hx y hy a b h hh ra rb=>NB x y a b h ra rb (fun h' a' b' _ r1 r2=>ih' x hx y.2 a' b' h' r1 r2))) rfl ?_))
   rintro _ _ ⟨rfl,rfl⟩
   exact Za ⟨⟨rfl,trivial⟩,rfl⟩
  | false=>
   exact ZJ rfl ⟨rfl,trivial⟩
 refine JLn (ZcA rfl rfl rfl)<|JAn rfl<|ZC (.bool (((((decide (kind=u.kind))&&(decide (num=u.num)))&&(decide (ref=u.ref)))&&(decide (kids=(u.kids))))&&(decide (cases=(u.cases))))) [] Sub.nil (?_)
 exact ⟨congrArg Value.bool (ZbL ..),rfl⟩
theorem Cq:∀ (t:Tm) (cs:List Value) (H:Heap),RT H cs t→sizeT t≤1000000→CT prog 95 ⟨[.agg ⟨cs⟩]⟩ [] H (fun v N=>∃ cs k,v=.agg ⟨cs⟩∧N=[k]∧OT t cs k):=by
 intro t
 induction t using Tm.ind with
 | h kind num ref kids cases ih ih'=>
 intro cs H ht hz
 rw [sizeT] at hz
 have hlk:=XN kids
 have hlc:=WG cases
 obtain ⟨ks,cv,rfl,hk,hn,hks,hcv⟩:=RT_mk.1 ht
 refine Zl func95 rfl rfl<|Zc<|JLr (Zr (l:=pkT kind num ref ks cv) rfl rfl fun b1=>JLr (Zp (l:=pkT 0 0 zS nS nS) zeroValue51 rfl fun b2=>Za<|Zc<|JLq (pp b1 0) (Z1 rfl rfl)<|JLr (Zb ty3 rfl (Zcu 1 rfl) (Yf ..)<|JLq (pp b1 1) (Yj rfl rfl)<|JLr (Zb ty3 rfl (Zcu 1 rfl) (YP ..)<|JLq (pp b1 2) (WL rfl rfl) ?_))))
 refine JLr (Zn Yq rfl (Zcu 1 rfl) (V5 ..)<|JLq (.agg ⟨pkT kind num ref nS nS⟩) (Pu.build (pv:=[(0,iv kind),(1,iv num),(2,.agg ⟨sC ref⟩)]) (l:=pkT kind num ref nS nS) rfl (Ly _ _ _))<|JLr (Zp (l:=pkT 0 0 zS nS nS) zeroValue51 rfl fun b3=>JLr (Ze 0 (vs:=pkT kind num ref nS nS) (l:=pkT kind num ref nS nS) Zy rfl rfl rfl rfl rfl (Ys rfl rfl) (Xo ..)<|Za<|Zf<|Zc<|JAn rfl<|Zh<|Zv (fun k ρ M=>∃ (j:Nat) (v:Value) (es:List (List Value)) (k1 k2:Zi),ZR ρ [(1,pp b1 0),(2,pp b2 0),(3,pp b3 0),(4,iv ((j:Int)))]=ρ∧Sub [(BX b3 (pkT kind num ref v nS) 51),k1,k2,(BX b2 (pkT 0 0 zS nS nS) 51),(BX b1 (pkT kind num ref ks cv) 51)] M∧j≤kids.length∧Own 51 36 v es k1∧OTs ((kids.take j)) es k2∧k=kids.length-j) _ ⟨0,nS,[],[],[],Zj rfl,(Sk (Zcz (Zcz (Sk (Sk Sub.nil))))),Nat.zero_le _,Own.nil,OTs.nil,rfl⟩ ?_)))
 rintro _ ρ4 _ ⟨j,v,es,k1,k2,e5,hm9,hj,hov,hopv,rfl⟩
 obtain ⟨ρ10,rfl⟩:=Zo e5
 clear e5
 refine ZD hm9 ?_
 have hlen:=hks.le
 refine Zf<|Zc<|JLM rfl<|JLq (pp b1 34) (Yd rfl rfl)<|JLr (Zb YZ rfl (Zcu 4 rfl) (Yh ..) ?_)
 obtain ⟨a11,cap11,hv11⟩:=hks.sl
 have hle11:=hks.le
 refine JLn (Zcv ZQ hv11)<|JLn (Pu.lss rfl rfl)<|Za<|ZF rfl (fun h12=>?_) (fun h12=>?_)
 ·have h12n:j<kids.length:=by omega
  have helv:=Xr hopv
  rw [length_take] at helv
  have hs1:=Ym _ (getElem_mem h12n)
  refine Zk<|Zf<|Zh<|ZI mixed #[0,1,0,4,0,28,60,124,252,511,1023,2047] 9 (sm 20 9) [] [(7,fun _ _ vw qw=>∃ cs k,vw=.agg ⟨cs⟩∧qw=[k]∧OT (kids[j]) cs k),(8,fun r _ vw qw=>∃ b k,vw=.slice (some ⟨b,0,none⟩) 1 1∧qw=[k]∧Own 51 36 (.slice (some ⟨b,0,none⟩) 1 1) [(cel (r 7))] k∧k=(BX b (flatten [(cel (r 7))]) 51))] rfl (by kernel_rfl) rfl (by kernel_rfl)<|Dq (pp b3 34) (fun _=>Yd rfl rfl)<|Dl1 YZ (Zcu 0 rfl) (Yh ..)<|Dq (pp b1 34) (fun _=>Yd rfl rfl)<|Dl1 YZ (Zcu 4 rfl) (Yh ..)<|DM (fun _=>rfl) ?_
  obtain ⟨b16,o16,cap16,row16,T16,fr16,cs16,hv16,hb16,hs16,hE16⟩:=hks.get j (by omega)
  refine Dn (fun _=>Zcw j ZQ Zy hv16 rfl rfl (by omega))<|Dl Zy (Zcx hb16) hs16 ?_
  refine Dc rfl call95 (fun _=>rfl) (fun hin=>ih _ (getElem_mem h12n) _ _ (RT.mono (Hle.hu _ _) hE16) (by omega)) ?_
  rintro _ _ ⟨cs17,k17,rfl,rfl,hO17⟩
  refine Dr rfl (fun _=>Zm (vs:=[.agg ⟨cs17⟩]) [cs17] ZQ Wo rfl rfl (al1 hO17.len) rfl (by decide) fun b k h1 h2=>⟨[k],by rw [Z4 rfl];exact Sub.refl,b,k,rfl,rfl,h1,h2⟩) (fun _ _ ⟨b18,k18,e1,e2,ho18,hk18⟩=>?_);subst e1 e2
  refine ZM (M':=[k18,k17,(BX b3 (pkT kind num ref v nS) 51),k1,k2,(BX b2 (pkT 0 0 zS nS nS) 51),(BX b1 (pkT kind num ref ks cv) 51)]) rfl ?_
  show JL _ _ _ [_,_,_] _ _ _
  have hlens19:∀ e∈([cs17]:List (List Value)),List.length e=36:=al1 hO17.len
  have hoks19:∀ e∈([cs17]:List (List Value)),okc e:=al1 hO17.ok
  refine JLr (Zz (i:=3) (n:=1) (es':=[cs17]) ZQ ZQ (Or.inl rfl) Wo rfl rfl rfl hov (fun F w m=>Src.row (((ZcD 0 rfl (by rw [hk18];exact mem_cons_self))).heap m) (ZE (Zw hlens19))) rfl hlens19 hoks19 (by decide) (by omega) fun v19 k19 ho19=>JLq (pp b3 34) (Yd rfl rfl)<|JLr (Ze 2 (vs:=[v19]) (l:=pkT kind num ref v19 nS) YZ rfl rfl rfl (ZS ho19.one) rfl (Zg ho19.one Zq) (Qz ..)<|Za<|Zd<|JLM rfl<|JLn (Zcy rfl rfl (by omega))<|JAn rfl<|⟨_,?_,(j+1),v19,(es++[cs17]),k19,(k2++k17),Zj rfl,(Sd (Sub.cons 1 rfl (Sub.cons 1 rfl (ZcF (Sub.cons 1 rfl (Sk (Sk (Sk Sub.nil)))))))),?_,?_,?_,rfl⟩))
  ·omega
  ·omega
  ·assumption
  rw [take_succ_eq_append_getElem h12n];exact OTs.snoc hO17 hopv
 have h12n:kids.length≤j:=by omega
 refine Zu _ rfl<|Zf<|Zc<|JAn rfl<|Zh ?_
 rw [take_of_length_le h12n] at hopv
 refine Zv (fun k ρ M=>∃ (j:Nat) (w:Value) (es2:List (List Value)) (k3 k4:Zi),ZR ρ [(1,pp b1 0),(2,pp b2 0),(3,pp b3 0),(5,iv ((j:Int)))]=ρ∧Sub [(BX b3 (pkT kind num ref v w) 51),k3,k4,k1,k2,(BX b2 (pkT 0 0 zS nS nS) 51),(BX b1 (pkT kind num ref ks cv) 51)] M∧j≤cases.length∧Own 117 71 w es2 k3∧OCs ((cases.take j)) es2 k4∧k=cases.length-j) _ ⟨0,nS,[],[],[],Zj rfl,(Sk (Zcz (Zcz (Sk (Sk (Sk (Sk Sub.nil))))))),Nat.zero_le _,Own.nil,OCs.nil,rfl⟩ ?_
 rintro _ ρ20 _ ⟨j,w,es2,k3,k4,e21,hm25,hj,how,hopw,rfl⟩
 obtain ⟨ρ26,rfl⟩:=Zo e21
 clear e21
 refine ZD hm25 ?_
 have hlen:=hcv.le
 refine Zf<|Zc<|JLM rfl<|JLq (pp b1 35) (ZY rfl rfl)<|JLr (Zb YL rfl (Zcu 6 rfl) (Z3 ..) ?_)
 obtain ⟨a27,cap27,hv27⟩:=hcv.sl
 have hle27:=hcv.le
 refine JLn (Zcv Yz hv27)<|JLn (Pu.lss rfl rfl)<|Za<|ZF rfl (fun h28=>?_) (fun h28=>?_)
 ·have h28n:j<cases.length:=by omega
  have helw:=UQ hopw
  rw [length_take] at helw
  have hs1:=Y1 _ (getElem_mem h28n)
  refine Zk<|Zf<|Zh<|ZI mixed #[0,1,0,4,0,28,60,124,252,0,512,0,3584,7680,15872,32764,65532,131068,262143,524287,1048575] 18 (sm 38 18) [] [(8,fun _ _ vw qw=>∃ cs k,vw=.agg ⟨cs⟩∧qw=[k]∧OP (cases[j].1) cs k),(15,fun _ _ vw qw=>∃ cs k,vw=.agg ⟨cs⟩∧qw=[k]∧OT (cases[j].2) cs k),(17,fun r _ vw qw=>∃ b k,vw=.slice (some ⟨b,0,none⟩) 1 1∧qw=[k]∧Own 117 71 (.slice (some ⟨b,0,none⟩) 1 1) [((cel (r 8)))++((cel (r 15)))] k∧k=(BX b (flatten [((cel (r 8)))++((cel (r 15)))]) 117))] rfl (by kernel_rfl) rfl (by kernel_rfl)<|Dq (pp b3 35) (fun _=>ZY rfl rfl)<|Dl1 YL (Zcu 0 rfl) (Z3 ..)<|Dq (pp b1 35) (fun _=>ZY rfl rfl)<|Dl1 YL (Zcu 6 rfl) (Z3 ..)<|DM (fun _=>rfl) ?_
  obtain ⟨b34,o34,cap34,row34,T34,fr34,cs34,hv34,hb34,hs34,hE34⟩:=hcv.get j (by omega)
  obtain ⟨ca34,cb34,rfl,hA34,hB34⟩:=hE34
  refine Dn (fun _=>Zcw j Yz Yg hv34 rfl rfl (by omega))<|Dq (pp b34 (o34+j*71)) (fun _=>YO rfl rfl)<|Dl ZU (Zcx hb34) (We hs34 (XE (ZN hA34))) ?_
  refine Dc rfl call142 (fun _=>rfl) (fun hin=>Pn _ _ _ (RP.mono (Hle.hu _ _) hA34) (by omega)) ?_
  rintro _ _ ⟨cs35,k35,rfl,rfl,hO35⟩
  refine Dq (pp b1 35) (fun _=>ZY rfl rfl)<|Dl1 YL (Zcu 6 rfl) (Z3 ..)<|DM (fun _=>rfl) ?_
  obtain ⟨b36,o36,cap36,row36,T36,fr36,cs36,hv36,hb36,hs36,hE36⟩:=hcv.get j (by omega)
  obtain ⟨ca36,cb36,rfl,hA36,hB36⟩:=hE36
  refine Dn (fun _=>Zcw j Yz Yg hv36 rfl rfl (by omega))<|Dq (pp b36 (o36+j*71+35)) (fun _=>YV rfl rfl)<|Dl Zy (Zcx hb36) (XS hs36 (XK (ZN hA36) (ZB hB36))) ?_
  refine Dc rfl call95 (fun _=>rfl) (fun hin=>ih' _ (getElem_mem h28n) _ _ (RT.mono (Hle.hu _ _) hB36) (by omega)) ?_
  rintro _ _ ⟨cs37,k37,rfl,rfl,hO37⟩
  refine Dq (.agg ⟨cs35++cs37⟩) (fun _=>Pu.build (pv:=[(0,.agg ⟨cs35⟩),(1,.agg ⟨cs37⟩)]) (l:=cs35++cs37) rfl (UL hO35.len hO37.len))<|Dr rfl (fun _=>Zm (vs:=[.agg ⟨cs35++cs37⟩]) [cs35++cs37] Yz PO rfl rfl (al1 (ZW hO35.len hO37.len)) rfl (by decide) fun b k h1 h2=>⟨[k],by rw [Z4 rfl];exact Sub.refl,b,k,rfl,rfl,h1,h2⟩) (fun _ _ ⟨b38,k38,e1,e2,ho38,hk38⟩=>?_);subst e1 e2
  refine ZM (M':=[k38,k37,k35,(BX b3 (pkT kind num ref v w) 51),k3,k4,k1,k2,(BX b2 (pkT 0 0 zS nS nS) 51),(BX b1 (pkT kind num ref ks cv) 51)]) rfl ?_
  show JL _ _ _ [_,_,_] _ _ _
  have hlens39:∀ e∈([cs35++cs37]:List (List Value)),List.length e=71:=al1 (ZW hO35.len hO37.len)
  have hoks39:∀ e∈([cs35++cs37]:List (List Value)),okc e:=al1 (Y5 hO35.ok hO37.ok)
  refine JLr (Zz (i:=4) (n:=1) (es':=[cs35++cs37]) Yz Yz (Or.inl rfl) PO rfl rfl rfl how (fun F w m=>Src.row (((ZcD 0 rfl (by rw [hk38];exact mem_cons_self))).heap m) (ZE (Zw hlens39))) rfl hlens39 hoks39 (by decide) (by omega) fun v39 k39 ho39=>JLq (pp b3 35) (ZY rfl rfl)<|JLr (Ze 3 (vs:=[v39]) (l:=pkT kind num ref v v39) YL rfl rfl rfl (ZS ho39.one) rfl (Zg ho39.one Zq) (Sy ..)<|Za<|Zd<|JLM rfl<|JLn (Zcy rfl rfl (by omega))<|JAn rfl<|⟨_,?_,(j+1),v39,(es2++[cs35++cs37]),k39,(k4++(k35++k37)),Zj rfl,(Sd (Sub.cons 2 rfl (Sub.cons 2 rfl (ZcT (Sub.cons 2 rfl (Sub.cons 1 rfl (Sk (Sk (Sk (Sk (Sk Sub.nil))))))))))),?_,?_,?_,rfl⟩))
  ·omega
  ·omega
  ·assumption
  rw [take_succ_eq_append_getElem h28n];exact OCs.snoc hO35 hO37 hopw
 have h28n:cases.length≤j:=by omega
 refine Zu _ rfl<|Zc<|JLr (Zn Zy rfl (Zcu 0 rfl) (YH ..)<|JLr (Ze 5 (vs:=pkT kind num ref v w) (l:=pkT kind num ref v w) Zy rfl rfl rfl rfl rfl (Ys hov.one how.one) (Xo ..)<|Za<|ZH<|⟨.agg ⟨pkT kind num ref v w⟩,[k1++(k2++(k3++k4))],Ret.one rfl (RV.cell Zy rfl (Zcu 5 rfl) (YH ..)),(ZcQ (Sd (Sub.cons 2 rfl (Sub.cons 2 rfl (Sk (Sk Sub.nil)))))),?_⟩))
 rw [take_of_length_le h28n] at hopw
 exact ⟨_,_,rfl,rfl,OT_mk.2 ⟨v,w,es,es2,k1,k2,k3,k4,rfl,hk,hn,hov,hopv,how,hopw,rfl,hks.le,hcv.le⟩⟩
theorem Qa:∀ (p q:Pt) (cs ds:List Value) (H:Heap),RP H cs p→RP H ds q→CT prog 179 ⟨[.agg ⟨cs⟩,.agg ⟨ds⟩]⟩ [] H (fun v N=>v=.bool (decide (p=q))∧N=[]):=by
 intro p
 induction p using Pt.ind with
 | h kind num ref kids ih=>
 intro q cs ds H hp hq
 obtain ⟨ks,rfl,hk,hn,hks⟩:=RP_mk.1 hp
 obtain ⟨ksq,rfl,hkq,hnq,hksq⟩:=Mm hq
 refine Zl func179 rfl rfl<|Zc<|JLr (Zr (l:=pkP kind num ref ks) rfl rfl fun b1=>JLr (Zr (l:=pkP (q.kind) (q.num) (q.ref) ksq) rfl rfl fun b2=>JAn rfl<|Zf<|Zc<|JLq (pp b1 0) (Yr rfl rfl)<|JLr (Zb ty3 rfl (Zcu 1 rfl) (Xp ..)<|JLq (pp b2 0) (Yr rfl rfl) ?_)))
 refine JLr (Zb ty3 rfl (Zcu 0 rfl) (Xp ..)<|JLn (Pu.neq rfl rfl)<|JLM rfl<|ZA 5 [12,13,14,15,16] [(16,cond (!decide (kind=q.kind)) undef (.bool (!decide (num=q.num))))] ?_ fun f4=>?_)
 ·cases h3:(!decide (kind=q.kind)) with
  | false=>
   replace h3:=nf h3
   replace h3:=dt h3
   refine JLq (pp b1 1) (Xg rfl rfl)<|JLr (Zb ty3 rfl (Zcu 1 rfl) (Wy ..)<|JLq (pp b2 1) (Xg rfl rfl)<|JLr (Zb ty3 rfl (Zcu 0 rfl) (Wy ..)<|JLn (Pu.neq rfl rfl) ?_))
   exact Za ⟨⟨rfl,trivial⟩,rfl⟩
  | true=>
   exact ZJ rfl ⟨rfl,trivial⟩
 refine JLn (ZcC rfl rfl rfl)<|JLM rfl<|ZA 5 [19,20,21,22,23] [(23,cond ((!decide (kind=q.kind))||(!decide (num=q.num))) undef (.bool (!decide (ref=q.ref))))] ?_ fun f6=>?_
 ·cases h5:((!decide (kind=q.kind))||(!decide (num=q.num))) with
  | false=>
   obtain ⟨h5a,h5b⟩:=orF h5
   replace h5a:=nf h5a
   replace h5a:=dt h5a
   replace h5b:=nf h5b
   replace h5b:=dt h5b
   refine JLq (pp b1 2) (X7 rfl rfl)<|JLr (Zn Yq rfl (Zcu 1 rfl) (US ..)<|JLq (pp b2 2) (X7 rfl rfl)<|JLr (Zn Yq rfl (Zcu 0 rfl) (US ..)<|JLn (neqS rfl rfl) ?_))
   exact Za ⟨⟨rfl,trivial⟩,rfl⟩
  | true=>
   exact ZJ rfl ⟨rfl,trivial⟩
 refine JLn (ZcC rfl rfl rfl)<|JLM rfl<|ZA 7 [26,27,28,29,30,31,32] [(32,cond (((!decide (kind=q.kind))||(!decide (num=q.num)))||(!decide (ref=q.ref))) undef (.bool (!decide ((kids.length:Int)=((q.kids).length:Int)))))] ?_ fun f10=>?_
 ·cases h7:(((!decide (kind=q.kind))||(!decide (num=q.num)))||(!decide (ref=q.ref))) with
  | false=>
   obtain ⟨h7a,h7b⟩:=orF h7
   obtain ⟨h7aa,h7ab⟩:=orF h7a
   replace h7aa:=nf h7aa
   replace h7aa:=dt h7aa
   replace h7ab:=nf h7ab
   replace h7ab:=dt h7ab
   replace h7b:=nf h7b
   replace h7b:=dt h7b
   refine JLq (pp b1 34) (Z5 rfl rfl)<|JLr (Zb YB rfl (Zcu 1 rfl) (Yo ..) ?_)
   obtain ⟨a8,cap8,hv8⟩:=hks.sl
   have hle8:=hks.le
   refine JLn (Zcv Yt hv8)<|JLq (pp b2 34) (Z5 rfl rfl)<|JLr (Zb YB rfl (Zcu 0 rfl) (Yo ..) ?_)
   obtain ⟨a9,cap9,hv9⟩:=hksq.sl
   have hle9:=hksq.le
   refine JLn (Zcv Yt hv9)<|JLn (Pu.neq rfl rfl) ?_
   exact Za ⟨⟨rfl,trivial⟩,rfl⟩
  | true=>
   exact ZJ rfl ⟨rfl,trivial⟩
 refine JLn (ZcC rfl rfl rfl)<|Za<|Zs rfl (fun h11=>?_) (fun h11=>?_)
 ·refine Zc<|JAn rfl<|ZC (.bool false) [] Sub.nil (?_)
  exact ⟨by rw [decide_eq_false];intro e;cases q;simp_all [Pt.kind,Pt.num,Pt.ref,Pt.kids],rfl⟩
 obtain ⟨h11a,h11b⟩:=orF h11
 obtain ⟨h11aa,h11ab⟩:=orF h11a
 obtain ⟨h11aaa,h11aab⟩:=orF h11aa
 replace h11aaa:=nf h11aaa
 replace h11aaa:=dt h11aaa
 replace h11aab:=nf h11aab
 replace h11aab:=dt h11aab
 replace h11ab:=nf h11ab
 replace h11ab:=dt h11ab
 replace h11b:=nf h11b
 replace h11b:=dt h11b
 refine Zk<|Zf<|Zc<|JAn rfl<|Zh<|Zv (fun k ρ M=>∃ (j:Nat),ZR ρ [(2,pp b1 0),(3,pp b2 0),(4,.bool false),(5,iv ((j:Int)))]=ρ∧Sub [(BX b2 (pkP (q.kind) (q.num) (q.ref) ksq) 115),(BX b1 (pkP kind num ref ks) 115)] M∧j≤kids.length∧kind=q.kind∧num=q.num∧ref=q.ref∧kids.length=q.kids.length∧kids.take j=q.kids.take j∧k=kids.length-j) _ ⟨0,Zj rfl,(Sk (Sk Sub.nil)),Nat.zero_le _,(by simp_all),(by simp_all),(by simp_all),(by simp_all;try omega),rfl,rfl⟩ ?_
 rintro _ ρ12 _ ⟨j,e13,hm17,hj,hek,hen,her,hlq,htake,rfl⟩
 obtain ⟨ρ18,rfl⟩:=Zo e13
 clear e13
 refine ZD hm17 ?_
 have hlen:=hks.le
 refine Zf<|Zc<|JLM rfl<|JLq (pp b1 34) (Z5 rfl rfl)<|JLr (Zb YB rfl (Zcu 1 rfl) (Yo ..) ?_)
 obtain ⟨a19,cap19,hv19⟩:=hks.sl
 have hle19:=hks.le
 refine JLn (Zcv Yt hv19)<|JLn (Pu.lss rfl rfl)<|Za<|ZF rfl (fun h20=>?_) (fun h20=>?_)
 ·have h20n:j<kids.length:=by omega
  have hltm:j<q.kids.length:=by omega
  refine Zk<|Zf<|Zh<|Zf<|ZI mixed #[0,1,0,7,15,0,32,0,224,480,1023,2047] 10 (sm 41 10) [] [] rfl (by kernel_rfl) rfl (by kernel_rfl)<|Dq (pp b1 34) (fun _=>Z5 rfl rfl)<|Dl1 YB (Zcu 1 rfl) (Yo ..)<|DM (fun _=>rfl) ?_
  obtain ⟨b23,o23,cap23,row23,T23,fr23,cs23,hv23,hb23,hs23,hE23⟩:=hks.get j (by omega)
  refine Dn (fun _=>Zcw j Yt ZU hv23 rfl rfl (by omega))<|Dl ZU (Zcx hb23) hs23<|Dq (pp b2 34) (fun _=>Z5 rfl rfl)<|Dl1 YB (Zcu 0 rfl) (Yo ..)<|DM (fun _=>rfl) ?_
  obtain ⟨b24,o24,cap24,row24,T24,fr24,cs24,hv24,hb24,hs24,hE24⟩:=hksq.get j (by omega)
  refine Dn (fun _=>Zcw j Yt ZU hv24 rfl rfl (by omega))<|Dl ZU (Zcx hb24) hs24<|ZM (M':=[(BX b2 (pkP (q.kind) (q.num) (q.ref) ksq) 115),(BX b1 (pkP kind num ref ks) 115)]) rfl ?_
  show JL _ _ _ [_,_] _ _ _
  refine Jc call179 rfl (fun hin=>ih _ (getElem_mem h20n) _ _ _ _ (RP.mono (Hle.hu _ _) hE23) (RP.mono (Hle.hu _ _) hE24)) rfl ?_
  rintro _ _ ⟨rfl,rfl⟩
  refine JLn (Pu.not rfl)<|Za<|Zs rfl (fun h25=>?_) (fun h25=>?_)
  ·replace h25:=nt h25
   replace h25:=df h25
   refine Zc<|JAn rfl<|ZC (.bool false) [] Sub.nil (?_)
   exact ⟨by rw [decide_eq_false];intro e;subst e;exact h25 rfl,rfl⟩
  replace h25:=nf h25
  replace h25:=dt h25
  refine Zk<|Zd<|JLM rfl<|JLn (Zcy rfl rfl (by omega))<|JAn rfl<|⟨_,?_,(j+1),Zj rfl,(Sk (Sk Sub.nil)),?_,?_,?_,?_,?_,?_,rfl⟩
  ·omega
  ·omega
  ·assumption
  ·assumption
  ·assumption
  ·assumption
  rw [take_succ_eq_append_getElem h20n,take_succ_eq_append_getElem hltm,htake,h25]
 have h20n:kids.length≤j:=by omega
 refine Zu _ rfl<|Zc<|JAn rfl<|ZC (.bool true) [] Sub.nil (?_)
 have e1:kids=q.kids:=by have e:=htake;rw [take_of_length_le h20n,take_of_length_le (by omega)] at e;exact e
 exact ⟨by rw [decide_eq_true];cases q;simp_all [Pt.kind,Pt.num,Pt.ref,Pt.kids],rfl⟩
theorem GN:∀ (t u:Tm) (cs ds:List Value) (H:Heap),RT H cs t→RT H ds u→CT prog 140 ⟨[.agg ⟨cs⟩,.agg ⟨ds⟩]⟩ [] H (fun v N=>v=.bool (decide (t=u))∧N=[]):=by
 intro t
 induction t using Tm.ind with
 | h kind num ref kids cases ih ih'=>
 intro u cs ds H ht hu
 obtain ⟨ks,cv,rfl,hk,hn,hks,hcv⟩:=RT_mk.1 ht
 obtain ⟨ksu,cvu,rfl,hku,hnu,hksu,hcvu⟩:=Rf hu
 refine Zl func140 rfl rfl<|Zc<|JLr (Zr (l:=pkT kind num ref ks cv) rfl rfl fun b1=>JLr (Zr (l:=pkT (u.kind) (u.num) (u.ref) ksu cvu) rfl rfl fun b2=>JAn rfl<|Zf<|Zc<|JLq (pp b1 0) (Z1 rfl rfl)<|JLr (Zb ty3 rfl (Zcu 1 rfl) (Yf ..)<|JLq (pp b2 0) (Z1 rfl rfl) ?_)))
 refine JLr (Zb ty3 rfl (Zcu 0 rfl) (Yf ..)<|JLn (Pu.neq rfl rfl)<|JLM rfl<|ZA 5 [13,14,15,16,17] [(17,cond (!decide (kind=u.kind)) undef (.bool (!decide (num=u.num))))] ?_ fun f4=>?_)
 ·cases h3:(!decide (kind=u.kind)) with
  | false=>
   replace h3:=nf h3
   replace h3:=dt h3
   refine JLq (pp b1 1) (Yj rfl rfl)<|JLr (Zb ty3 rfl (Zcu 1 rfl) (YP ..)<|JLq (pp b2 1) (Yj rfl rfl)<|JLr (Zb ty3 rfl (Zcu 0 rfl) (YP ..)<|JLn (Pu.neq rfl rfl) ?_))
   exact Za ⟨⟨rfl,trivial⟩,rfl⟩
  | true=>
   exact ZJ rfl ⟨rfl,trivial⟩
 refine JLn (ZcC rfl rfl rfl)<|JLM rfl<|ZA 5 [20,21,22,23,24] [(24,cond ((!decide (kind=u.kind))||(!decide (num=u.num))) undef (.bool (!decide (ref=u.ref))))] ?_ fun f6=>?_
 ·cases h5:((!decide (kind=u.kind))||(!decide (num=u.num))) with
  | false=>
   obtain ⟨h5a,h5b⟩:=orF h5
   replace h5a:=nf h5a
   replace h5a:=dt h5a
   replace h5b:=nf h5b
   replace h5b:=dt h5b
   refine JLq (pp b1 2) (WL rfl rfl)<|JLr (Zn Yq rfl (Zcu 1 rfl) (V5 ..)<|JLq (pp b2 2) (WL rfl rfl)<|JLr (Zn Yq rfl (Zcu 0 rfl) (V5 ..)<|JLn (neqS rfl rfl) ?_))
   exact Za ⟨⟨rfl,trivial⟩,rfl⟩
  | true=>
   exact ZJ rfl ⟨rfl,trivial⟩
 refine JLn (ZcC rfl rfl rfl)<|JLM rfl<|ZA 7 [27,28,29,30,31,32,33] [(33,cond (((!decide (kind=u.kind))||(!decide (num=u.num)))||(!decide (ref=u.ref))) undef (.bool (!decide ((kids.length:Int)=((u.kids).length:Int)))))] ?_ fun f10=>?_
 ·cases h7:(((!decide (kind=u.kind))||(!decide (num=u.num)))||(!decide (ref=u.ref))) with
  | false=>
   obtain ⟨h7a,h7b⟩:=orF h7
   obtain ⟨h7aa,h7ab⟩:=orF h7a
   replace h7aa:=nf h7aa
   replace h7aa:=dt h7aa
   replace h7ab:=nf h7ab
   replace h7ab:=dt h7ab
   replace h7b:=nf h7b
   replace h7b:=dt h7b
   refine JLq (pp b1 34) (Yd rfl rfl)<|JLr (Zb YZ rfl (Zcu 1 rfl) (Yh ..) ?_)
   obtain ⟨a8,cap8,hv8⟩:=hks.sl
   have hle8:=hks.le
   refine JLn (Zcv ZQ hv8)<|JLq (pp b2 34) (Yd rfl rfl)<|JLr (Zb YZ rfl (Zcu 0 rfl) (Yh ..) ?_)
   obtain ⟨a9,cap9,hv9⟩:=hksu.sl
   have hle9:=hksu.le
   refine JLn (Zcv ZQ hv9)<|JLn (Pu.neq rfl rfl) ?_
   exact Za ⟨⟨rfl,trivial⟩,rfl⟩
  | true=>
   exact ZJ rfl ⟨rfl,trivial⟩
 refine JLn (ZcC rfl rfl rfl)<|JLM rfl<|ZA 7 [36,37,38,39,40,41,42] [(42,cond ((((!decide (kind=u.kind))||(!decide (num=u.num)))||(!decide (ref=u.ref)))||(!decide ((kids.length:Int)=((u.kids).length:Int)))) undef (.bool (!decide ((cases.length:Int)=((u.cases).length:Int)))))] ?_ fun f14=>?_
 ·cases h11:((((!decide (kind=u.kind))||(!decide (num=u.num)))||(!decide (ref=u.ref)))||(!decide ((kids.length:Int)=((u.kids).length:Int)))) with
  | false=>
   obtain ⟨h11a,h11b⟩:=orF h11
   obtain ⟨h11aa,h11ab⟩:=orF h11a
   obtain ⟨h11aaa,h11aab⟩:=orF h11aa
   replace h11aaa:=nf h11aaa
   replace h11aaa:=dt h11aaa
   replace h11aab:=nf h11aab
   replace h11aab:=dt h11aab
   replace h11ab:=nf h11ab
   replace h11ab:=dt h11ab
   replace h11b:=nf h11b
   replace h11b:=dt h11b
   refine JLq (pp b1 35) (ZY rfl rfl)<|JLr (Zb YL rfl (Zcu 1 rfl) (Z3 ..) ?_)
   obtain ⟨a12,cap12,hv12⟩:=hcv.sl
   have hle12:=hcv.le
   refine JLn (Zcv Yz hv12)<|JLq (pp b2 35) (ZY rfl rfl)<|JLr (Zb YL rfl (Zcu 0 rfl) (Z3 ..) ?_)
   obtain ⟨a13,cap13,hv13⟩:=hcvu.sl
   have hle13:=hcvu.le
   refine JLn (Zcv Yz hv13)<|JLn (Pu.neq rfl rfl) ?_
   exact Za ⟨⟨rfl,trivial⟩,rfl⟩
  | true=>
   exact ZJ rfl ⟨rfl,trivial⟩
 refine JLn (ZcC rfl rfl rfl)<|Za<|Zs rfl (fun h15=>?_) (fun h15=>?_)
 ·refine Zc<|JAn rfl<|ZC (.bool false) [] Sub.nil (?_)
  exact ⟨by rw [decide_eq_false];intro e;cases u;simp_all [Tm.kind,Tm.num,Tm.ref,Tm.kids,Tm.cases],rfl⟩
 obtain ⟨h15a,h15b⟩:=orF h15
 obtain ⟨h15aa,h15ab⟩:=orF h15a
 obtain ⟨h15aaa,h15aab⟩:=orF h15aa
 obtain ⟨h15aaaa,h15aaab⟩:=orF h15aaa
 replace h15aaaa:=nf h15aaaa
 replace h15aaaa:=dt h15aaaa
 replace h15aaab:=nf h15aaab
 replace h15aaab:=dt h15aaab
 replace h15aab:=nf h15aab
 replace h15aab:=dt h15aab
 replace h15ab:=nf h15ab
 replace h15ab:=dt h15ab
 replace h15b:=nf h15b
 replace h15b:=dt h15b
 refine Zk<|Zf<|Zc<|JAn rfl<|Zh<|Zv (fun k ρ M=>∃ (j:Nat),ZR ρ [(2,pp b1 0),(3,pp b2 0),(4,.bool false),(5,iv ((j:Int)))]=ρ∧Sub [(BX b2 (pkT (u.kind) (u.num) (u.ref) ksu cvu) 51),(BX b1 (pkT kind num ref ks cv) 51)] M∧j≤kids.length∧kind=u.kind∧num=u.num∧ref=u.ref∧kids.length=u.kids.length∧cases.length=u.cases.length∧kids.take j=u.kids.take j∧k=kids.length-j) _ ⟨0,Zj rfl,(Sk (Sk Sub.nil)),Nat.zero_le _,(by simp_all),(by simp_all),(by simp_all),(by simp_all;try omega),(by simp_all;try omega),rfl,rfl⟩ ?_
 rintro _ ρ16 _ ⟨j,e17,hm21,hj,hek,hen,her,hlq,hlcq,htake,rfl⟩
 obtain ⟨ρ22,rfl⟩:=Zo e17
 clear e17
 refine ZD hm21 ?_
 have hlen:=hks.le
 refine Zf<|Zc<|JLM rfl<|JLq (pp b1 34) (Yd rfl rfl)<|JLr (Zb YZ rfl (Zcu 1 rfl) (Yh ..) ?_)
 obtain ⟨a23,cap23,hv23⟩:=hks.sl
 have hle23:=hks.le
 refine JLn (Zcv ZQ hv23)<|JLn (Pu.lss rfl rfl)<|Za<|ZF rfl (fun h24=>?_) (fun h24=>?_)
 ·have h24n:j<kids.length:=by omega
  have hltm:j<u.kids.length:=by omega
  refine Zk<|Zf<|Zh<|Zf<|ZI mixed #[0,1,0,7,15,0,32,0,224,480,1023,2047] 10 (sm 51 10) [] [] rfl (by kernel_rfl) rfl (by kernel_rfl)<|Dq (pp b1 34) (fun _=>Yd rfl rfl)<|Dl1 YZ (Zcu 1 rfl) (Yh ..)<|DM (fun _=>rfl) ?_
  obtain ⟨b27,o27,cap27,row27,T27,fr27,cs27,hv27,hb27,hs27,hE27⟩:=hks.get j (by omega)
  refine Dn (fun _=>Zcw j ZQ Zy hv27 rfl rfl (by omega))<|Dl Zy (Zcx hb27) hs27<|Dq (pp b2 34) (fun _=>Yd rfl rfl)<|Dl1 YZ (Zcu 0 rfl) (Yh ..)<|DM (fun _=>rfl) ?_
  obtain ⟨b28,o28,cap28,row28,T28,fr28,cs28,hv28,hb28,hs28,hE28⟩:=hksu.get j (by omega)
  refine Dn (fun _=>Zcw j ZQ Zy hv28 rfl rfl (by omega))<|Dl Zy (Zcx hb28) hs28<|ZM (M':=[(BX b2 (pkT (u.kind) (u.num) (u.ref) ksu cvu) 51),(BX b1 (pkT kind num ref ks cv) 51)]) rfl ?_
  show JL _ _ _ [_,_] _ _ _
  refine Jc call140 rfl (fun hin=>ih _ (getElem_mem h24n) _ _ _ _ (RT.mono (Hle.hu _ _) hE27) (RT.mono (Hle.hu _ _) hE28)) rfl ?_
  rintro _ _ ⟨rfl,rfl⟩
  refine JLn (Pu.not rfl)<|Za<|Zs rfl (fun h29=>?_) (fun h29=>?_)
  ·replace h29:=nt h29
   replace h29:=df h29
   refine Zc<|JAn rfl<|ZC (.bool false) [] Sub.nil (?_)
   exact ⟨by rw [decide_eq_false];intro e;subst e;exact h29 rfl,rfl⟩
  replace h29:=nf h29
  replace h29:=dt h29
  refine Zk<|Zd<|JLM rfl<|JLn (Zcy rfl rfl (by omega))<|JAn rfl<|⟨_,?_,(j+1),Zj rfl,(Sk (Sk Sub.nil)),?_,?_,?_,?_,?_,?_,?_,rfl⟩
  ·omega
  ·omega
  ·assumption
  ·assumption
  ·assumption
  ·assumption
  ·assumption
  rw [take_succ_eq_append_getElem h24n,take_succ_eq_append_getElem hltm,htake,h29]
 have h24n:kids.length≤j:=by omega
 refine Zu _ rfl<|Zf<|Zc<|JAn rfl<|Zh<|Zv (fun k ρ M=>∃ (j:Nat),ZR ρ [(2,pp b1 0),(3,pp b2 0),(4,.bool false),(6,iv ((j:Int)))]=ρ∧Sub [(BX b2 (pkT (u.kind) (u.num) (u.ref) ksu cvu) 51),(BX b1 (pkT kind num ref ks cv) 51)] M∧j≤cases.length∧kind=u.kind∧num=u.num∧ref=u.ref∧kids=u.kids∧cases.length=u.cases.length∧cases.take j=u.cases.take j∧k=cases.length-j) _ ⟨0,Zj rfl,(Sk (Sk Sub.nil)),Nat.zero_le _,(by assumption),(by assumption),(by assumption),(by have e:=htake;rw [take_of_length_le h24n,take_of_length_le (by omega)] at e;exact e),(by omega),rfl,rfl⟩ ?_
 rintro _ ρ30 _ ⟨j,e31,hm35,hj,hek,hen,her,hkk,hlc,htakec,rfl⟩
 obtain ⟨ρ36,rfl⟩:=Zo e31
 clear e31
 refine ZD hm35 ?_
 have hlen:=hcv.le
 refine Zf<|Zc<|JLM rfl<|JLq (pp b1 35) (ZY rfl rfl)<|JLr (Zb YL rfl (Zcu 1 rfl) (Z3 ..) ?_)
 obtain ⟨a37,cap37,hv37⟩:=hcv.sl
 have hle37:=hcv.le
 refine JLn (Zcv Yz hv37)<|JLn (Pu.lss rfl rfl)<|Za<|ZF rfl (fun h38=>?_) (fun h38=>?_)
 ·have h38n:j<cases.length:=by omega
  have hltc:j<u.cases.length:=by omega
  refine Zk<|Zf<|Zh<|Zf ?_
  cases h39:(decide (cases[j].1=u.cases[j].1)) with
  | true=>
   replace h39:=dt h39
   refine ZI mixed #[0,1,0,7,15,31,0,64,0,448,960,1984,4095,8191,16383,32767,65535,32767,262143,524287,1048575,32767,2129919,32767,14712831,31490047,65044479,134217727,268435455,536870911] 27 (sm 70 27) [] [(12,fun _ _ vw qw=>vw=.bool true∧qw=[])] rfl (by kernel_rfl) rfl (by kernel_rfl)<|Dq (pp b1 35) (fun _=>ZY rfl rfl)<|Dl1 YL (Zcu 1 rfl) (Z3 ..)<|DM (fun _=>rfl) ?_
   obtain ⟨b44,o44,cap44,row44,T44,fr44,cs44,hv44,hb44,hs44,hE44⟩:=hcv.get j (by omega)
   obtain ⟨ca44,cb44,rfl,hA44,hB44⟩:=hE44
   refine Dn (fun _=>Zcw j Yz Yg hv44 rfl rfl (by omega))<|Dq (pp b44 (o44+j*71)) (fun _=>YO rfl rfl)<|Dl ZU (Zcx hb44) (We hs44 (XE (ZN hA44)))<|Dq (pp b2 35) (fun _=>ZY rfl rfl)<|Dl1 YL (Zcu 0 rfl) (Z3 ..)<|DM (fun _=>rfl) ?_
   obtain ⟨b45,o45,cap45,row45,T45,fr45,cs45,hv45,hb45,hs45,hE45⟩:=hcvu.get j (by omega)
   obtain ⟨ca45,cb45,rfl,hA45,hB45⟩:=hE45
   refine Dn (fun _=>Zcw j Yz Yg hv45 rfl rfl (by omega))<|Dq (pp b45 (o45+j*71)) (fun _=>YO rfl rfl)<|Dl ZU (Zcx hb45) (We hs45 (XE (ZN hA45)))<|Dc rfl call179 (fun _=>rfl) (fun hin=>VX (r:=true) (Qa _ _ _ _ _ (RP.mono (Hle.hu _ _) hA44) (RP.mono (Hle.hu _ _) hA45)) (decide_eq_true h39)) ?_
   rintro _ _ ⟨rfl,rfl⟩
   refine Dq (.bool false) (fun _=>show Pu _ _ _ (.bool (!true)) from Pu.not rfl)<|DM (fun _=>rfl)<|Dq (pp b1 35) (fun _=>ZY rfl rfl)<|Dl1 YL (Zcu 1 rfl) (Z3 ..)<|DM (fun _=>rfl) ?_
   obtain ⟨b46,o46,cap46,row46,T46,fr46,cs46,hv46,hb46,hs46,hE46⟩:=hcv.get j (by omega)
   obtain ⟨ca46,cb46,rfl,hA46,hB46⟩:=hE46
   refine Dn (fun _=>Zcw j Yz Yg hv46 rfl rfl (by omega))<|Dq (pp b46 (o46+j*71+35)) (fun _=>YV rfl rfl)<|Dl Zy (Zcx hb46) (XS hs46 (XK (ZN hA46) (ZB hB46)))<|Dq (pp b2 35) (fun _=>ZY rfl rfl)<|Dl1 YL (Zcu 0 rfl) (Z3 ..)<|DM (fun _=>rfl) ?_
   obtain ⟨b47,o47,cap47,row47,T47,fr47,cs47,hv47,hb47,hs47,hE47⟩:=hcvu.get j (by omega)
   obtain ⟨ca47,cb47,rfl,hA47,hB47⟩:=hE47
   refine Dn (fun _=>Zcw j Yz Yg hv47 rfl rfl (by omega))<|Dq (pp b47 (o47+j*71+35)) (fun _=>YV rfl rfl)<|Dl Zy (Zcx hb47) (XS hs47 (XK (ZN hA47) (ZB hB47)))<|ZM (M':=[(BX b2 (pkT (u.kind) (u.num) (u.ref) ksu cvu) 51),(BX b1 (pkT kind num ref ks cv) 51)]) rfl ?_
   show JL _ _ _ [_,_,_] _ _ _
   refine Jc call140 rfl (fun hin=>ih' _ (getElem_mem h38n) _ _ _ _ (RT.mono (Hle.hu _ _) hB46) (RT.mono (Hle.hu _ _) hB47)) rfl ?_
   rintro _ _ ⟨rfl,rfl⟩
   refine JLn (Pu.not rfl)<|JLq (.bool (!(decide ((cases[j].2)=((u.cases)[j].2))))) (ZcH rfl rfl)<|Za<|Zs rfl (fun h48=>?_) (fun h48=>?_)
   ·replace h48:=nt h48
    replace h48:=df h48
    refine Zc<|JAn rfl<|ZC (.bool false) [] Sub.nil (?_)
    exact ⟨by rw [decide_eq_false];intro e;subst e;exact h48 rfl,rfl⟩
   replace h48:=nf h48
   replace h48:=dt h48
   refine Zk<|Zd<|JLM rfl<|JLn (Zcy rfl rfl (by omega))<|JAn rfl<|⟨_,?_,(j+1),Zj rfl,(Sk (Sk Sub.nil)),?_,?_,?_,?_,?_,?_,?_,rfl⟩
   ·omega
   ·omega
   ·assumption
   ·assumption
   ·assumption
   ·assumption
   ·assumption
   rw [take_succ_eq_append_getElem h38n,take_succ_eq_append_getElem hltc,htakec,Prod.ext h39 h48]
  | false=>
   replace h39:=df h39
   refine ZI mixed #[0,1,0,7,15,31,0,64,0,448,960,1984,4095,8191,16383,32767,65535,32767,262143,524287,1048575,32767,2129919,32767,14712831,31490047,65044479,134217727,268435455,536870911] 27 (sm 70 27) [] [(12,fun _ _ vw qw=>vw=.bool false∧qw=[])] rfl (by kernel_rfl) rfl (by kernel_rfl)<|Dq (pp b1 35) (fun _=>ZY rfl rfl)<|Dl1 YL (Zcu 1 rfl) (Z3 ..)<|DM (fun _=>rfl) ?_
   obtain ⟨b51,o51,cap51,row51,T51,fr51,cs51,hv51,hb51,hs51,hE51⟩:=hcv.get j (by omega)
   obtain ⟨ca51,cb51,rfl,hA51,hB51⟩:=hE51
   refine Dn (fun _=>Zcw j Yz Yg hv51 rfl rfl (by omega))<|Dq (pp b51 (o51+j*71)) (fun _=>YO rfl rfl)<|Dl ZU (Zcx hb51) (We hs51 (XE (ZN hA51)))<|Dq (pp b2 35) (fun _=>ZY rfl rfl)<|Dl1 YL (Zcu 0 rfl) (Z3 ..)<|DM (fun _=>rfl) ?_
   obtain ⟨b52,o52,cap52,row52,T52,fr52,cs52,hv52,hb52,hs52,hE52⟩:=hcvu.get j (by omega)
   obtain ⟨ca52,cb52,rfl,hA52,hB52⟩:=hE52
   refine Dn (fun _=>Zcw j Yz Yg hv52 rfl rfl (by omega))<|Dq (pp b52 (o52+j*71)) (fun _=>YO rfl rfl)<|Dl ZU (Zcx hb52) (We hs52 (XE (ZN hA52)))<|Dc rfl call179 (fun _=>rfl) (fun hin=>VX (r:=false) (Qa _ _ _ _ _ (RP.mono (Hle.hu _ _) hA51) (RP.mono (Hle.hu _ _) hA52)) (decide_eq_false h39)) ?_
   rintro _ _ ⟨rfl,rfl⟩
   refine Dq (.bool true) (fun _=>show Pu _ _ _ (.bool (!false)) from Pu.not rfl)<|DM (fun _=>rfl)<|Yc rfl (fun _=>rfl)<|Yc rfl (fun _=>rfl)<|Yc rfl (fun _=>rfl)<|Yc rfl (fun _=>rfl)<|Yc rfl (fun _=>rfl)<|Yc rfl (fun _=>rfl)<|Yc rfl (fun _=>rfl)<|Yc rfl (fun _=>rfl)<|Yc rfl (fun _=>rfl)<|Yc rfl (fun _=>rfl)<|Yc rfl (fun _=>rfl) ?_
   refine Yc rfl (fun _=>rfl)<|ZM (M':=[(BX b2 (pkT (u.kind) (u.num) (u.ref) ksu cvu) 51),(BX b1 (pkT kind num ref ks cv) 51)]) rfl ?_
   show JL _ _ _ [_,_,_] _ _ _
   iterate 2 refine Xs rfl ?_
   refine JLq (.bool true) (ZcI rfl rfl)<|Za<|Zs (b:=true) rfl (fun _=>?_) (fun h=>absurd h (by simp))
   refine Zc<|JAn rfl<|ZC (.bool false) [] Sub.nil (?_)
   exact ⟨by rw [decide_eq_false];intro e;subst e;exact h39 rfl,rfl⟩
 have h38n:cases.length≤j:=by omega
 refine Zu _ rfl<|Zc<|JAn rfl<|ZC (.bool true) [] Sub.nil (?_)
 have e2:cases=u.cases:=by have e:=htakec;rw [take_of_length_le h38n,take_of_length_le (by omega)] at e;exact e
 exact ⟨by rw [decide_eq_true];cases u;simp_all [Tm.kind,Tm.num,Tm.ref,Tm.kids,Tm.cases],rfl⟩
end
theorem GQ {r:Sm} {j:Nat} {x:Int} (hj:j<32) (hx:0≤x∧x≤255):spl (sC r) (0+j*1) [.int .u8 x]=some (sC (r.setIfInBounds j (UInt8.ofNat x.toNat))):=by
  rw [WZ (by rw [VP];simp;omega)]
  congr 1
  apply List.ext_getElem?
  intro i
  have e0:0+j*1=j:=by omega
  rw [e0]
  by_cases hi:i<32
  · rw [VQ _ i hi]
    by_cases hij:i<j
    · rw [List.getElem?_append_left (by rw [length_take,VP];omega),getElem?_take,if_pos hij,VQ _ i hi]
      rw [Vector.getElem_setIfInBounds_ne hi (by omega)]
    · rw [List.getElem?_append_right (by rw [length_take,VP];omega),length_take,VP,Nat.min_eq_left (by omega)]
      by_cases he:i=j
      · subst he
        rw [Nat.sub_self]
        have e1:(r.setIfInBounds i (UInt8.ofNat x.toNat))[i]=UInt8.ofNat x.toNat:=by simp
        rw [e1]
        simp only [List.singleton_append,getElem?_cons_zero,Option.some.injEq,Value.int.injEq,true_and]
        rw [UInt8.toNat_ofNat']
        omega
      · obtain ⟨q,hq⟩:∃ q,i-j=q+1:=⟨i-j-1,by omega⟩
        rw [hq]
        simp only [List.singleton_append,getElem?_cons_succ,length_cons,List.length_nil]
        rw [getElem?_drop,show j+(0+1)+q=i from by omega,VQ _ i hi,Vector.getElem_setIfInBounds_ne hi (by omega)]
  · rw [getElem?_eq_none (by simp;rw [VP];omega),getElem?_eq_none (by rw [VP];omega)]
section
variable {P:Program} {e:Operand→Value} {d:Option Nat} {T:TypeId} {ot:TypeId} {pos:String} {af:Array Edge} {g:Option (Nat×Bool)} {x y:Operand}
theorem Zdh {n b:Nat} {elem:TypeId} (hT:∀ w,(underlying T).run P w=.ok (.array n elem) w) (hsz:∀ w,(sizeOf elem).run P w=.ok 1 w) (hx:e x=.pointer (some ⟨b,0,none⟩)):Pu P e ⟨d,.slice T x none none none,ot,pos,af,g⟩ (.slice (some ⟨b,0,none⟩) n n):=fun w=>by
  simp [execOp,Instr.sliceAt,Instr.sliceBounds,Instr.sureAddr,hx,hT,hsz,Result.andThen,Addr.add]
end
section
variable {c:Cx} {H:Heap} {ρ:Nat→Value} {M:List Zi} {K:Value→List Zi→Prop} {d:Option Nat} {ot:TypeId} {pos:String} {af:Array Edge} {g:Option (Nat×Bool)} {x y:Operand}
end
theorem Ih (s:ByteArray):KI (sB s)=s:=by
  unfold KI sB
  rw [List.map_map]
  apply ByteArray.ext
  apply Array.ext'
  simp only
  have:((fun n:Int=>UInt8.ofNat n.toNat) ∘ fun b:UInt8=>(b.toNat:Int))=id:=by funext b;simp
  rw [this]
  simp
theorem Hu {l:List Int} {j:Nat} (h:j<l.length):Yk (l.take j)++[[.int .u8 l[j]]]=Yk (l.take (j+1)):=by
  unfold Yk
  rw [take_succ_eq_append_getElem h,map_append]
  rfl
theorem P2 (a b:List Int):Yk (a++b)=Yk a++Yk b:=by unfold Yk;rw [map_append]
theorem X3 (a:List Int) (x:Int):Yk a++[[.int .u8 x]]=Yk (a++[x]):=by unfold Yk;rw [map_append];rfl
theorem Jh {r:Sm} {l:List Int} (hl:l=sB (txS r)) {j:Nat} (h:j<l.length):(sC r)[0+j*1]?=some (.int .u8 l[j]):=by
  subst hl
  rw [Vg,UY] at h
  rw [show 0+j*1=j from by omega,VQ r j h]
  have:(sB (txS r))[j]'(by rw [Vg,UY];exact h)=((r[j]).toNat:Int):=by simp [sB,txS]
  rw [this]
theorem ZbI {M:List Zi} {F:Zi} {H:Heap} {w:World} (mm:Mem w (M.flatten++F) H) {i:Nat} {k:Zi} (hi:M[i]?=some k):Has k (hu M.flatten H):=fun b o hb=>by
  have hmem:(b,o)∈M.flatten:=mem_flatten.2 ⟨k,mem_of_getElem? hi,hb⟩
  rw [Xx,mm.left.sep b o hmem];exact Xc mm.left.nd hmem
section
variable {c:Cx} {H:Heap} {ρ:Nat→Value} {M:List Zi} {K:Value→List Zi→Prop} {d:Option Nat} {ot:TypeId} {pos:String} {af:Array Edge} {g:Option (Nat×Bool)} {x y z:Operand}
theorem Tl {T T' el E:TypeId} {v:Value} {l:List Int} {k:Zi} (i:Nat) (hi:M[i]?=some k) (ho:Own E 1 v (Yk l) k) (hn:l.length≤9223372036854775807) (hT:∀ w,(underlying T).run c.P w=.ok (.slice el) w) (hel:∀ w,(underlying el).run c.P w=.ok (.int .u8) w) (hT':∀ w,(underlying T').run c.P w=.ok .string w) (hx:ev c.n ρ x=v)
    (h:K (.string (KI l)) M):Runs c H ⟨d,.convert T T' x,ot,pos,af,g⟩ ρ M K:=fun F w mm=>by
  refine ⟨_,w,M,.inl ?_,mm,h⟩
  simp only [execOp,hx]
  simp [OG mm.hu (WR ho hn (ZbI mm hi)) hT hel hT']
theorem LH {T T' el E:TypeId} {r:Sm} {b:Nat} (i:Nat) (hi:M[i]?=some [(b,.cells ⟨sC r⟩ E (0,0))]) (hT:∀ w,(underlying T).run c.P w=.ok (.slice el) w) (hel:∀ w,(underlying el).run c.P w=.ok (.int .u8) w) (hT':∀ w,(underlying T').run c.P w=.ok .string w) (hx:ev c.n ρ x=.slice (some ⟨b,0,none⟩) 32 32)
    (h:K (.string (txS r)) M):Runs c H ⟨d,.convert T T' x,ot,pos,af,g⟩ ρ M K:=fun F w mm=>by
  refine ⟨_,w,M,.inl ?_,mm,h⟩
  have hb:hu M.flatten H b=some (.cells ⟨sC r⟩ E (0,0)):=ZbI mm hi b _ (by simp)
  have hlen:(sB (txS r)).length=32:=by rw [Vg,UY]
  have hr:Hs.rdS RB 1 (hu M.flatten H) (.slice (some ⟨b,0,none⟩) 32 32) (sB (txS r)):=by
    refine ⟨some ⟨b,0,none⟩,32,by rw [hlen],by rw [hlen];omega,.inr ⟨b,0,sC r,E,(0,0),rfl,hb,rows.mk fun i hi=>⟨[.int .u8 (sB (txS r))[i]],?_,rfl⟩⟩⟩
    have h1:=Jh (r:=r) rfl hi
    obtain ⟨h2,h3⟩:=List.getElem?_eq_some_iff.1 h1
    rw [WY (by omega)]
    congr 1
    rw [drop_eq_getElem_cons h2,take_succ_cons,List.take_zero,h3]
  have:=OG mm.hu hr hT hel hT'
  rw [Ih] at this
  simp only [execOp,hx]
  simp [this]
end
section
variable {k m d n:Int} {t:ByteArray} {kids:List It} {w:Bool}
theorem Zai (k:Int):fR k=Y8 k:=by
  unfold fR Y8
  rw [Bool.eq_iff_iff]
  simp
  omega
end
section
variable {x:It}
end
def Y2 (n:Nat):List Int:=if n<128 then [(n:Int)] else ((n % 128+128:Nat):Int)::Y2 (n / 128)
theorem SI {n:Nat} (h:n<128):Y2 n=[(n:Int)]:=by rw [Y2,if_pos h]
theorem QD {n:Nat} (h:¬ n<128):Y2 n=((n % 128+128:Nat):Int)::Y2 (n / 128):=by rw [Y2,if_neg h]
theorem Fv (k:Nat):∀ n:Nat,n<128 ^ (k+1)→1≤(Y2 n).length∧(Y2 n).length≤k+1:=by
  induction k with
  | zero=>intro n h;rw [SI (by simpa using h)];simp
  | succ k ih=>
    intro n h
    by_cases hn:n<128
    · rw [SI hn];simp
    · rw [QD hn,length_cons]
      have h2:n / 128<128 ^ (k+1):=by
        rw [Nat.pow_succ] at h
        exact Nat.div_lt_of_lt_mul (by rw [Nat.mul_comm];exact h)
      have:=ih (n / 128) h2
      omega
theorem WD {n:Nat} (h:n≤1099511627776):1≤(Y2 n).length∧(Y2 n).length≤6:=Fv 5 n (by omega)
theorem L6:∀ (n:Nat),∀ x∈Y2 n,0≤x∧x≤255:=by
  intro n
  induction n using Nat.strongRecOn with
  | _ n ih=>
    intro x hx
    by_cases hn:n<128
    · rw [SI hn] at hx;simp only [mem_singleton] at hx;omega
    · rw [QD hn] at hx
      rcases mem_cons.1 hx with rfl | hx
      · omega
      · exact ih (n / 128) (by omega) x hx
def txE (t:ByteArray):List Int:=if t=⟨#[]⟩ then [] else Y2 t.size++sB t
def hdE (k:Int) (t:ByteArray) (m:Nat):Int:=k+(if t=⟨#[]⟩ then 0 else 64)+(if m=0 then 0 else 128)
mutual
def Ya:It→List Int
  | .mk k n t kids=>hdE k t kids.length::(Y2 n.toNat++(txE t++(if kids.length=0 then [] else Y2 kids.length++YY kids)))
def YY:List It→List Int
  | []=>[]
  | x::l=>Ya x++YY l
end
theorem Se {l:List It} {j:Nat} (h:j<l.length):YY (l.take (j+1))=YY (l.take j)++Ya l[j]:=by
  induction l generalizing j with
  | nil=>simp at h
  | cons x l ih=>
    cases j with
    | zero=>simp [YY]
    | succ j=>
      rw [take_succ_cons,take_succ_cons,YY,YY,ih (by simpa using h),append_assoc]
      rfl
theorem Ky (l:List It) (j:Nat):(YY (l.take j)).length≤(YY l).length:=by
  induction l generalizing j with
  | nil=>simp [YY]
  | cons x l ih=>
    cases j with
    | zero=>simp [YY]
    | succ j=>rw [take_succ_cons,YY,YY,length_append,length_append];have:=ih j;omega
theorem Qh {l:List It} {j:Nat} (h:j<l.length):(YY (l.take j)).length+(Ya l[j]).length≤(YY l).length:=by
  have h1:=Ky l (j+1)
  rw [Se h,length_append] at h1
  exact h1
mutual
def gdI:It→Prop
  | .mk k n t kids=>(1≤k∧k≤63)∧(0≤n∧n≤1099511627776)∧t.size≤32∧Xk kids
def Xk:List It→Prop
  | []=>True
  | x::l=>gdI x∧Xk l
end
theorem SS {l:List It} (h:Xk l):∀ x∈l,gdI x:=by
  induction l with
  | nil=>intro x hx;cases hx
  | cons y l ih=>
    rw [Xk] at h
    intro x hx
    rcases mem_cons.1 hx with rfl | hx
    · exact h.1
    · exact ih h.2 x hx
theorem Ee {a b:List It} (ha:Xk a) (hb:Xk b):Xk (a++b):=by
  induction a with
  | nil=>exact hb
  | cons x a ih=>rw [Xk] at ha;rw [cons_append,Xk];exact ⟨ha.1,ih ha.2⟩
theorem Nq {t:ByteArray} (h:t.size≤32):(txE t).length≤38:=by
  unfold txE
  split
  · simp
  · rw [length_append,Vg];have:=WD (n:=t.size) (by omega);omega
theorem QJ (x:It):gdI x→szI x≤1000000→2≤(Ya x).length∧(Ya x).length≤51*szI x:=by
  induction x using It.ind with
  | h k n t kids ih=>
    intro h hz
    rw [gdI] at h
    rw [Ya,szI]
    rw [szI] at hz
    have hK:∀ l:List It,(∀ x∈l,gdI x→szI x≤1000000→2≤(Ya x).length∧(Ya x).length≤51*szI x)→Xk l→Xu l≤1000000→(YY l).length≤51*Xu l:=by
      intro l
      induction l with
      | nil=>intro _ _ _;rw [YY];simp
      | cons x l ihl=>
        intro hl hg hz
        rw [Xk] at hg
        rw [Xu] at hz ⊢
        rw [YY,length_append]
        have h1:=hl x (by simp) hg.1 (by omega)
        have h2:=ihl (fun y hy=>hl y (by simp [hy])) hg.2 (by omega)
        omega
    have h1:=hK kids ih h.2.2.2 (by omega)
    have h2:=WD (n:=n.toNat) (by omega)
    have h3:=Nq h.2.2.1
    have h5:=Gq kids
    rw [length_cons,length_append,length_append]
    split
    · simp;omega
    · have h4:=WD (n:=kids.length) (by omega)
      rw [length_append];omega
theorem Et (x:It):1≤(Ya x).length:=by cases x;rw [Ya];simp
theorem PM {l:List It} (_:Xk l):l.length≤(YY l).length:=by
  induction l with
  | nil=>simp
  | cons x l ih=>
    rename_i h
    rw [Xk] at h
    rw [YY,length_append,length_cons]
    have:=Et x
    have:=ih h.2
    omega
theorem Mr (b:Prop) [Decidable b] (r:Sm):(if b then txS r else (⟨#[]⟩:ByteArray)).size≤32:=by
  split
  · rw [UY];omega
  · exact Nat.zero_le _
theorem Zbd (p:Pt):Wz p=0→gdI (itP p):=by
  induction p using Pt.ind with
  | h k n r kids ih=>
    intro h
    rw [Wz] at h
    split at h
    · rename_i hh
      have hK:∀ (l:List Pt),(∀ x∈l,Wz x=0→gdI (itP x))→VT l=0→Xk (WH l):=by
        intro l
        induction l with
        | nil=>intro _ _;rw [WH,Xk];trivial
        | cons x l ihl=>
          intro hl h
          rw [VT] at h
          split at h
          · rename_i hx
            rw [WH,Xk]
            exact ⟨hl x (by simp) hx,ihl (fun y hy=>hl y (by simp [hy])) h⟩
          · rename_i hx;exact absurd h hx
      rw [itP,gdI]
      unfold Vj at hh
      split at hh
      · cases hh
      · split at hh
        · cases hh
        · split at hh
          · cases hh
          · split at hh
            · cases hh
            · rename_i q1 q2 q3 q4
              refine ⟨by omega,by omega,Mr _ r,hK kids ih h⟩
    · rename_i hh;exact absurd h hh
theorem Za4 {D M : Int} (hM:M≤1000000) (t:Tm):∀ b:Int,Y6 D M b t=0→vOK t→gdI (itT t):=by
  induction t using Tm.ind with
  | h k n r kids cases ih ih'=>
    intro b h hv
    obtain ⟨h1,h2,h3,h4⟩:=nErr_iff.1 h
    rw [vOK] at hv
    obtain ⟨v1,v2,v3⟩:=hv
    have hK:∀ (l:List Tm) (i:Nat),(∀ x∈l,∀ b:Int,Y6 D M b x=0→vOK x→gdI (itT x))→YQ D M b k i l=0→H7 l→Xk (Wk l):=by
      intro l
      induction l with
      | nil=>intro i _ _ _;rw [Wk,Xk];trivial
      | cons x l ihl=>
        intro i hl h hv
        rw [YQ] at h
        rw [H7] at hv
        split at h
        · rename_i hx
          rw [Wk,Xk]
          exact ⟨hl x (by simp) _ hx hv.1,ihl (i+1) (fun y hy=>hl y (by simp [hy])) h hv.2⟩
        · rename_i hx;exact absurd h hx
    have hC :∀ (l:List (Pt×Tm)),(∀ c∈l,∀ b:Int,Y6 D M b c.2=0→vOK c.2→gdI (itT c.2))→XD l=0→YX D M b l=0→H8 l→Xk (Vo l):=by
      intro l
      induction l with
      | nil=>intro _ _ _ _;rw [Vo,Xk];trivial
      | cons c l ihl=>
        intro hl hp h hv
        obtain ⟨p,x⟩:=c
        rw [YX] at h
        rw [XD] at hp
        rw [H8] at hv
        split at hp
        · rename_i hpx
          split at h
          · rename_i hx
            rw [Vo,Xk,gdI,Xk,Xk,Xk]
            refine ⟨⟨by omega,by omega,by decide,Zbd p hpx,hl (p,x) (by simp) _ hx hv.1,trivial⟩,ihl (fun y hy=>hl y (by simp [hy])) hp h hv.2⟩
          · rename_i hx;exact absurd h hx
        · rename_i hpx;exact absurd hp hpx
    rw [itT,gdI]
    unfold Xb at h1
    split at h1
    · cases h1
    · split at h1
      · cases h1
      · split at h1
        · cases h1
        · split at h1
          · cases h1
          · split at h1
            · cases h1
            · rename_i q1 q2 q3 q4 q5
              have hn:0≤n∧n≤1099511627776:=by
                by_cases hb:Xj k=true
                · have hk:k=1∨k=2∨k=7∨k=8∨k=10∨k=11:=by
                    unfold Xj at hb;simp at hb;omega
                  rcases hk with rfl | rfl | rfl | rfl | rfl | rfl
                  · have:=v1 rfl;omega
                  · omega
                  · omega
                  · omega
                  · omega
                  · omega
                · have:n=0:=Classical.byContradiction fun z=>q2 (.inl (.inl ⟨by simpa using hb,z⟩))
                  omega
              refine ⟨by omega,hn,Mr _ r,Ee (hK kids 0 ih h3 v2) (hC cases ih' h2 h4 v3)⟩
theorem Pd {t:Tm} (h:Zx 60 8 t=0):gdI (itT t)∧szI (itT t)≤600∧dpI (itT t)≤120∧(Ya (itT t)).length≤31000:=by
  obtain ⟨h1,h2⟩:=checkR_iff.1 h
  have h3:¬ (300<sizeT t∨60<UI t):=fun z=>by rw [(Ub t).2 z] at h1;cases h1
  have h4:=Az t
  have h5:=Za4 (by omega) t 0 h2 (R1 h).2.1
  have h6:=QJ _ h5 (by omega)
  exact ⟨h5,by omega,by omega,by omega⟩
theorem TH (k n:Int):∀ w,(Instr.build 82 ⟨[(0,.int .i64 k),(1,.int .i64 n)]⟩).run prog w=.ok (.agg ⟨[.int .i64 k,.int .i64 n,.string ⟨#[]⟩,.slice none 0 0]⟩) w:=Z6 zeroValue82 runUnderlying82 Cn (by kernel_rfl)
theorem Qi (k n:Int) (t:ByteArray):∀ w,(Instr.build 82 ⟨[(0,.int .i64 k),(1,.int .i64 n),(2,.string t)]⟩).run prog w=.ok (.agg ⟨[.int .i64 k,.int .i64 n,.string t,.slice none 0 0]⟩) w:=Z6 zeroValue82 runUnderlying82 Cn (by kernel_rfl)
theorem Nf (k:Int) (a:Option Addr) (n c:Nat):∀ w,(Instr.build 82 ⟨[(0,.int .i64 k),(3,.slice a n c)]⟩).run prog w=.ok (.agg ⟨[.int .i64 k,.int .i64 0,.string ⟨#[]⟩,.slice a n c]⟩) w:=Z6 zeroValue82 runUnderlying82 Cn (by kernel_rfl)
theorem O0 {l:List Pt} {j:Nat} (h:j<l.length):WH (l.take (j+1))=WH (l.take j)++[itP l[j]]:=by
  induction l generalizing j with
  | nil=>simp at h
  | cons x l ih=>
    cases j with
    | zero=>simp [WH]
    | succ j=>rw [take_succ_cons,take_succ_cons,WH,WH,ih (by simpa using h)];rfl
theorem OZ {l:List Tm} {j:Nat} (h:j<l.length):Wk (l.take (j+1))=Wk (l.take j)++[itT l[j]]:=by
  induction l generalizing j with
  | nil=>simp at h
  | cons x l ih=>
    cases j with
    | zero=>simp [Wk]
    | succ j=>rw [take_succ_cons,take_succ_cons,Wk,Wk,ih (by simpa using h)];rfl
theorem O1 {l:List (Pt×Tm)} {j:Nat} (h:j<l.length):Vo (l.take (j+1))=Vo (l.take j)++[.mk 20 0 ⟨#[]⟩ [itP l[j].1,itT l[j].2]]:=by
  induction l generalizing j with
  | nil=>simp at h
  | cons x l ih=>
    obtain ⟨p,t⟩:=x
    cases j with
    | zero=>simp [Vo]
    | succ j=>rw [take_succ_cons,take_succ_cons,Vo,Vo,ih (by simpa using h)];rfl
theorem SP (l:List Pt):(WH l).length=l.length:=by
  induction l with
  | nil=>rw [WH];rfl
  | cons x l ih=>rw [WH,length_cons,ih,length_cons]
theorem Uc (l:List Tm):(Wk l).length=l.length:=by
  induction l with
  | nil=>rw [Wk];rfl
  | cons x l ih=>rw [Wk,length_cons,ih,length_cons]
theorem SQ (l:List (Pt×Tm)):(Vo l).length=l.length:=by
  induction l with
  | nil=>rw [Vo];rfl
  | cons x l ih=>obtain ⟨p,t⟩:=x;rw [Vo,length_cons,ih,length_cons]
theorem M5 {l:List Pt} (h:Xk (WH l)) {j:Nat} (hj:j<l.length):gdI (itP l[j]):=by
  induction l generalizing j with
  | nil=>simp at hj
  | cons x l ih=>
    rw [WH,Xk] at h
    cases j with
    | zero=>exact h.1
    | succ j=>exact ih h.2 (by simpa using hj)
theorem O4 {a b:List It} (h:Xk (a++b)):Xk a∧Xk b:=by
  induction a with
  | nil=>exact ⟨by rw [Xk];trivial,h⟩
  | cons x a ih=>rw [cons_append,Xk] at h;rw [Xk];have:=ih h.2;exact ⟨⟨h.1,this.1⟩,this.2⟩
theorem M4 {l:List Tm} (h:Xk (Wk l)) {j:Nat} (hj:j<l.length):gdI (itT l[j]):=by
  induction l generalizing j with
  | nil=>simp at hj
  | cons x l ih=>
    rw [Wk,Xk] at h
    cases j with
    | zero=>exact h.1
    | succ j=>exact ih h.2 (by simpa using hj)
theorem M6 {l:List (Pt×Tm)} (h:Xk (Vo l)) {j:Nat} (hj:j<l.length):gdI (itP l[j].1)∧gdI (itT l[j].2):=by
  induction l generalizing j with
  | nil=>simp at hj
  | cons x l ih=>
    obtain ⟨p,t⟩:=x
    rw [Vo,Xk,gdI,Xk,Xk] at h
    cases j with
    | zero=>exact ⟨h.1.2.2.2.1,h.1.2.2.2.2.1⟩
    | succ j=>exact ih h.2 (by simpa using hj)
theorem LO {a b:It} {v:Value} {c1 c2:List Value} {kr k1 k2:Zi} (ho:Own 82 4 v [c1,c2] kr) (h1:OIt a c1 k1) (h2:OIt b c2 k2):OIt (.mk 20 0 ⟨#[]⟩ [a,b]) (pkI 20 0 ⟨#[]⟩ v) (kr++(k1++k2)):=by
  refine OIt_mk.2 ⟨v,[c1,c2],kr,k1++k2,rfl,by unfold inI;omega,by unfold inI;omega,ho,?_,rfl,by simp⟩
  have:=OIts.snoc h2 (OIts.snoc h1 OIts.nil)
  simpa using this
theorem Lm {l:List It}:∀ {x:It},x∈l→dpI x≤Wx l:=by
  induction l with
  | nil=>intro x hx;cases hx
  | cons y l ih=>
    intro x hx
    rw [Wx]
    rcases mem_cons.1 hx with rfl | hx
    · omega
    · have:=ih hx;omega
theorem Zdr {T:TypeId} {v:Value} {e:List Value} {k:Zi} {h:Heap} {x:It} (o:Own T 4 v [e] k) (hk:Has k h) (hx:RIt h e x):Hs.rdS RIt 4 h v [x]:=
  o.rdS rfl (by simp) hk fun i h1 _=>by
    have:i=0:=by simpa using h1
    subst this;exact hx
theorem DI (b:Bool) (s:ByteArray):cond b s (⟨#[]⟩:ByteArray)=if b=true then s else ⟨#[]⟩:=by cases b <;> rfl
theorem Ay (p:Prop) [Decidable p] (s:ByteArray):cond (decide p) s (⟨#[]⟩:ByteArray)=if p then s else ⟨#[]⟩:=by by_cases h:p <;> simp [h]
section
variable {l q:List Int}
end
theorem ZbO (x:It):gdI x→∀ y∈Ya x,0≤y∧y≤255:=by
  induction x using It.ind with
  | h k n t kids ih=>
    intro h
    rw [gdI] at h
    have hK:∀ l:List It,(∀ x∈l,gdI x→∀ y∈Ya x,0≤y∧y≤255)→Xk l→∀ y∈YY l,0≤y∧y≤255:=by
      intro l
      induction l with
      | nil=>intro _ _ y hy;rw [YY] at hy;cases hy
      | cons x l ihl=>
        intro hl hg y hy
        rw [Xk] at hg
        rw [YY] at hy
        rcases mem_append.1 hy with hy | hy
        · exact hl x (by simp) hg.1 y hy
        · exact ihl (fun z hz=>hl z (by simp [hz])) hg.2 y hy
    intro y hy
    rw [Ya] at hy
    rcases mem_cons.1 hy with rfl | hy
    · unfold hdE
      split <;> split <;> omega
    · rcases mem_append.1 hy with hy | hy
      · exact L6 _ y hy
      · rcases mem_append.1 hy with hy | hy
        · unfold txE at hy
          split at hy
          · cases hy
          · rcases mem_append.1 hy with hy | hy
            · exact L6 _ y hy
            · unfold sB at hy
              obtain ⟨b,_,rfl⟩:=mem_map.1 hy
              have:=b.toNat_lt
              omega
        · split at hy
          · cases hy
          · rcases mem_append.1 hy with hy | hy
            · exact L6 _ y hy
            · exact hK kids ih h.2.2.2 y hy
section
attribute [local irreducible] JL J CT wlo DT
theorem K3 (s:Sm) (H:Heap):CT prog 93 ⟨[.agg ⟨sC s⟩]⟩ [] H (fun r N=>r=.string (txS s)∧N=[]):=by
 obtain ⟨l,hls⟩:∃ l,l=sB (txS s):=⟨_,rfl⟩
 have hsz:l.length=32:=by rw [hls,Vg,UY]
 refine Zl func93 rfl rfl<|Zc<|JLr (Zr (l:=sC s) rfl rfl fun b1=>JAn rfl<|Zc<|JAn rfl<|Zf<|Zf<|Zd ?_)
 refine JAn rfl<|Zh<|Zv (fun k ρ M=>∃ (j:Nat) (y:Value) (q1:Zi),ZR ρ [(1,pp b1 0),(2,.string (⟨#[]⟩)),(3,y),(4,iv ((j:Int)))]=ρ∧Sub [q1,(BX b1 (sC s) 38)] M∧j≤32∧Own 5 1 y (Yk (l.take j)) q1∧k=32-j) _ ⟨0,nS,[],Zj rfl,(Zcz (Sk Sub.nil)),(by decide),(by simpa [Yk] using Own.nil),rfl⟩ ?_
 rintro _ ρ2 _ ⟨j,y,q1,e3,hm7,hj,hown,rfl⟩
 obtain ⟨ρ8,rfl⟩:=Zo e3
 clear e3
 refine ZD hm7<|Zf<|Zc<|JLM rfl<|JLn (Pu.lss rfl rfl)<|Za<|ZF rfl (fun h9=>?_) (fun h9=>?_)
 ·have h9n:j<32:=by omega
  refine Zk<|Zf<|Zh ?_
  have hjl:j<l.length:=by omega
  refine Zd<|JLm y<|JLM rfl<|JLq (pp b1 (0+j*1)) (ZcB j BP ty5 rfl rfl rfl (by omega))<|JLr (Zb ty5 rfl (Zcu 1 rfl) (Jh hls hjl)<|JLr (Zm (vs:=[.int .u8 (l[j])]) [[.int .u8 (l[j])]] Yl el5 rfl rfl (al1 rfl) rfl (by decide) fun b10 k10 ho10 hk10=>?_))
  have hlens11:∀ e∈([[.int .u8 (l[j])]]:List (List Value)),List.length e=1:=al1 rfl
  have hoks11:∀ e∈([[.int .u8 (l[j])]]:List (List Value)),okc e:=al1 (Zg rfl Zq)
  refine JLr (Zz (i:=1) (n:=1) (es':=[[.int .u8 (l[j])]]) Yl Yl (Or.inl rfl) el5 rfl rfl rfl hown (fun F w m=>Src.row (((ZcD 0 rfl (by rw [hk10];exact mem_cons_self))).heap m) (ZE (Zw hlens11))) rfl hlens11 hoks11 (by decide) (by rw [Z8];simp;omega) fun v11 k11 ho11=>JLa v11<|Za<|Zd<|JLM rfl<|JLn (Zcy rfl rfl (by omega))<|JAn rfl<|⟨_,?_,(j+1),v11,k11,Zj rfl,(Sd (Sk (Sk Sub.nil))),?_,?_,rfl⟩)
  ·omega
  ·omega
  have z:=ho11;rw [Hu hjl] at z;exact z
 have h9n:32≤j:=by omega
 refine Zu _ rfl<|Zc<|JLm y<|JLr (Tl 0 rfl hown (by simp;omega) Yl Ru5 Ru9 rfl<|JAn rfl<|ZC (.string (KI (l.take j))) [] Sub.nil (?_))
 obtain rfl:j=32:=by omega
 exact ⟨by rw [take_of_length_le (by omega),hls,Ih],rfl⟩
theorem Pg (has:Bool) (s:Sm) (H:Heap):CT prog 192 ⟨[.bool has,.agg ⟨sC s⟩]⟩ [] H (fun r N=>r=.string (cond has (txS s) ⟨#[]⟩)∧N=[]):=by
 refine Zl func192 rfl rfl<|Zc<|JLr (Zr (l:=sC s) rfl rfl fun b1=>JAn rfl<|Zf<|Zc<|JLM rfl<|JLn (Pu.not rfl)<|Za<|Zs rfl (fun h2=>?_) (fun h2=>?_))
 ·replace h2:=nt h2
  refine Zc<|JAn rfl<|ZC (.string (⟨#[]⟩)) [] Sub.nil (?_)
  exact ⟨by rw [h2];rfl,rfl⟩
 replace h2:=nf h2
 refine Zk<|Zc<|JLq (.slice (some ⟨b1,0,none⟩) 32 32) (Zdh BP sizeOf5 rfl)<|JLr (LH 0 rfl Yl Ru5 Ru9 rfl<|JAn rfl<|ZC (.string (txS s)) [] Sub.nil (?_))
 exact ⟨by rw [h2];rfl,rfl⟩
set_option maxHeartbeats 2000000 in
theorem Fh:∀ (p:Pt) (cs:List Value) (H:Heap),RP H cs p→sizeP p≤1000000→gdI (itP p)→CT prog 194 ⟨[.agg ⟨cs⟩]⟩ [] H (fun r N=>∃ cs k,r=.agg ⟨cs⟩∧N=[k]∧OIt (itP p) cs k):=by
 intro p
 induction p using Pt.ind with
 | h kind num ref kids ih=>
 intro cs H hp hz hg
 obtain ⟨ks,rfl,hk,hn,hks⟩:=RP_mk.1 hp
 rw [sizeP] at hz
 rw [itP,gdI] at hg
 have hle:=hks.le
 have hkl:=Vm kids
 refine Zl func194 rfl rfl<|Zc<|JLr (Zr (l:=pkP kind num ref ks) rfl rfl fun b1=>JLr (Zp (l:=[iv 0,iv 0,.string (⟨#[]⟩),nS]) zeroValue82 rfl fun b2=>Za<|Zf<|ZI mixed #[0,1,3,0,8,0,32,96,0,256,992,2047,0,8191] 13 [some 6,some 7,some 8,some 9,some 10,some 11,some 12,some 13,some 14,some 15,some 16,some 17,some 3] [] [(10,fun _ _ vw qw=>vw=.string (cond (decide (kind=3)) (txS ref) ⟨#[]⟩)∧qw=[]),(12,L9 82 ([iv 0,iv 0,.string (⟨#[]⟩),nS]))] rfl (by kernel_rfl) rfl (by kernel_rfl)<|Dq (pp b1 0) (fun _=>Yr rfl rfl)<|Dl1 ty3 (Zcu 1 rfl) (Xp ..) ?_))
 refine Dn (fun _=>ZcG rfl rfl (by first | omega | (constructor <;> omega)))<|Dq (pp b1 1) (fun _=>Xg rfl rfl)<|Dl1 ty3 (Zcu 1 rfl) (Wy ..)<|Dq (pp b1 0) (fun _=>Yr rfl rfl)<|Dl1 ty3 (Zcu 1 rfl) (Xp ..)<|Dn (fun _=>Pu.eql rfl rfl)<|Dq (pp b1 2) (fun _=>X7 rfl rfl)<|Dl Yq (Zcu 1 rfl) (US ..)<|Dc rfl call192 (fun _=>rfl) (fun hin=>Pg _ _ _) ?_
 rintro _ _ ⟨rfl,rfl⟩
 refine Dq (.agg ⟨[iv (30+kind),iv num,.string (cond (decide (kind=3)) (txS ref) ⟨#[]⟩),nS]⟩) (fun _=>Pu.build (pv:=[(0,iv (30+kind)),(1,iv num),(2,.string (cond (decide (kind=3)) (txS ref) ⟨#[]⟩))]) (l:=[iv (30+kind),iv num,.string (cond (decide (kind=3)) (txS ref) ⟨#[]⟩),nS]) rfl (Qi _ _ _))<|Da zeroValue82 rfl fun b4=>ZM (M':=[(BX b4 [iv 0,iv 0,.string (⟨#[]⟩),nS] 82),(BX b2 [iv 0,iv 0,.string (⟨#[]⟩),nS] 82),(BX b1 (pkP kind num ref ks) 115)]) rfl ?_
 show JL _ _ _ [_] _ _ _
 refine JLr (Ze 0 (vs:=[iv (30+kind),iv num,.string (cond (decide (kind=3)) (txS ref) ⟨#[]⟩),nS]) (l:=[iv (30+kind),iv num,.string (cond (decide (kind=3)) (txS ref) ⟨#[]⟩),nS]) Y3 rfl rfl rfl rfl rfl (Zg rfl (Zg rfl (Zg rfl (Zg rfl Zq)))) rfl<|Za<|Zf<|Zc<|JLq (pp b1 34) (Z5 rfl rfl)<|JLr (Zb YB rfl (Zcu 2 rfl) (Yo ..) ?_))
 obtain ⟨a5,cap5,hv5⟩:=hks.sl
 have hle5:=hks.le
 refine JLn (Zcv Yt hv5)<|JLM rfl<|Za<|Zh<|Zv (fun k ρ M=>∃ (j:Nat) (y1y:Value) (es1s:List (List Value)) (q1a q1b:Zi),ZR ρ [(2,pp b2 0),(3,pp b4 0),(19,ks),(20,iv ((kids.length:Int))),(21,iv ((j:Int)))]=ρ∧Sub [(BX b4 [iv (30+kind),iv num,.string (cond (decide (kind=3)) (txS ref) ⟨#[]⟩),y1y] 82),q1a,q1b,(BX b2 [iv 0,iv 0,.string (⟨#[]⟩),nS] 82),(BX b1 (pkP kind num ref ks) 115)] M∧j≤kids.length∧Own 82 4 y1y es1s q1a∧OIts (WH (kids.take j)) es1s q1b∧k=kids.length-j) _ ⟨0,nS,[],[],[],Zj rfl,(Sk (Zcz (Zcz (Sk (Sk Sub.nil))))),Nat.zero_le _,Own.nil,(by simpa [WH,Wk] using OIts.nil),rfl⟩ ?_
 rintro _ ρ6 _ ⟨j,y1y,es1s,q1a,q1b,e7,hm12,hj,how1w,hop1p,rfl⟩
 obtain ⟨ρ13,rfl⟩:=Zo e7
 clear e7
 refine ZD hm12<|Zc<|JLn (Pu.lss rfl rfl)<|Za<|Zf<|ZF rfl (fun h14=>?_) (fun h14=>?_)
 ·have h14n:j<kids.length:=by omega
  have hs1:=X8 _ (getElem_mem h14n)
  have hel:=Wv hop1p
  have hgj:=M5 hg.2.2.2 h14n
  rw [SP,length_take,Nat.min_eq_left (by omega)] at hel
  refine Zk<|Zf<|Zh<|Zf<|Zd ?_
  obtain ⟨b15,o15,cap15,row15,T15,fr15,cs15,hv15,hb15,hs15,hE15⟩:=hks.get j (by omega)
  refine JLn (Zcw j Yt ZU hv15 rfl rfl (by omega))<|JLr (Zn ZU rfl (Zcx hb15) hs15<|JLr (Zp (l:=pkP 0 0 zS nS) zeroValue115 rfl fun b16=>JLr (Ze 0 (vs:=cs15) (l:=cs15) ZU rfl rfl rfl rfl (ZN hE15) (Ur hE15) (Yb (n:=35) rfl (ZN hE15))<|Za<|ZI mixed #[0,1,0,4,12,31,63,127] 5 (sm 25 5) [] [(3,fun _ _ vw qw=>∃ cs k,vw=.agg ⟨cs⟩∧qw=[k]∧OIt (itP (kids[j])) cs k),(4,fun r _ vw qw=>∃ b k,vw=.slice (some ⟨b,0,none⟩) 1 1∧qw=[k]∧Own 82 4 (.slice (some ⟨b,0,none⟩) 1 1) [(cel (r 3))] k∧k=(BX b (flatten [(cel (r 3))]) 82))] rfl (by kernel_rfl) rfl (by kernel_rfl)<|Dq (pp b4 3) (fun _=>YS rfl rfl)<|Dl1 Ww (Zcu 1 rfl) rfl<|Dl ZU (Zcu 0 rfl) (ZE (ZN hE15)) ?_)))
  refine Dc rfl call194 (fun _=>rfl) (fun hin=>ih _ (getElem_mem h14n) _ _ (RP.mono (Hle.hu _ _) hE15) (by omega) hgj) ?_
  rintro _ _ ⟨cs19,k19,rfl,rfl,hO19⟩
  refine Dr rfl (fun _=>Zm (vs:=[.agg ⟨cs19⟩]) [cs19] Xl UH rfl rfl (al1 hO19.len) rfl (by decide) fun b k h1 h2=>⟨[k],by rw [Z4 rfl];exact Sub.refl,b,k,rfl,rfl,h1,h2⟩) (fun _ _ ⟨b20,k20,e1,e2,ho20,hk20⟩=>?_);subst e1 e2
  refine ZM (M':=[k20,k19,(BX b16 cs15 115),(BX b4 [iv (30+kind),iv num,.string (cond (decide (kind=3)) (txS ref) ⟨#[]⟩),y1y] 82),q1a,q1b,(BX b2 [iv 0,iv 0,.string (⟨#[]⟩),nS] 82),(BX b1 (pkP kind num ref ks) 115)]) rfl ?_
  show JL _ _ _ [_,_,_] _ _ _
  have hlens21:∀ e∈([cs19]:List (List Value)),List.length e=4:=al1 hO19.len
  have hoks21:∀ e∈([cs19]:List (List Value)),okc e:=al1 hO19.ok
  refine JLr (Zz (i:=4) (n:=1) (es':=[cs19]) Xl Xl (Or.inl rfl) UH rfl rfl rfl how1w (fun F w m=>Src.row (((ZcD 0 rfl (by rw [hk20];exact mem_cons_self))).heap m) (ZE (Zw hlens21))) rfl hlens21 hoks21 (by decide) (by omega) fun v21 k21 ho21=>JLq (pp b4 3) (YS rfl rfl)<|JLr (Ze 3 (vs:=[v21]) (l:=[iv (30+kind),iv num,.string (cond (decide (kind=3)) (txS ref) ⟨#[]⟩),v21]) Ww rfl rfl rfl (ZS ho21.one) rfl (Zg ho21.one Zq) rfl<|Za<|Zd<|JLn (Zcy rfl rfl (by omega))<|JLM rfl<|Za<|⟨_,?_,(j+1),v21,(es1s++[cs19]),k21,(q1b++k19),Zj rfl,(Sd (Sub.cons 2 rfl (Sub.cons 2 rfl (ZcF (Sub.cons 2 rfl (Sk (Sd (Sk (Sk Sub.nil))))))))),?_,?_,?_,rfl⟩))
  ·omega
  ·omega
  ·exact ho21
  rw [O0 h14n];exact OIts.snoc hO19 hop1p
 have h14n:kids.length≤j:=by omega
 refine Zu _ rfl<|Zc<|JLr (Zn Y3 rfl (Zcu 0 rfl) rfl<|JLr (Ze 3 (vs:=[iv (30+kind),iv num,.string (cond (decide (kind=3)) (txS ref) ⟨#[]⟩),y1y]) (l:=[iv (30+kind),iv num,.string (cond (decide (kind=3)) (txS ref) ⟨#[]⟩),y1y]) Y3 rfl rfl rfl rfl rfl (Zg rfl (Zg rfl (Zg rfl (Zg how1w.one Zq)))) rfl<|Za<|ZH<|⟨.agg ⟨[iv (30+kind),iv num,.string (cond (decide (kind=3)) (txS ref) ⟨#[]⟩),y1y]⟩,[q1a++q1b],Ret.one rfl (RV.cell Y3 rfl (Zcu 3 rfl) rfl),(ZcF (Sd (Sk (Sk Sub.nil)))),?_⟩))
 rw [take_of_length_le h14n] at hop1p
 exact ⟨_,_,rfl,rfl,by rw [itP];(first | rw [← Ay] | skip);exact OIt_mk.2 ⟨_,_,_,_,rfl,by unfold inI;omega,hn,how1w,hop1p,rfl,by rw [SP];omega⟩⟩
set_option maxHeartbeats 4000000 in
theorem Gn:∀ (t:Tm) (cs:List Value) (H:Heap),RT H cs t→sizeT t≤1000000→gdI (itT t)→CT prog 152 ⟨[.agg ⟨cs⟩]⟩ [] H (fun r N=>∃ cs k,r=.agg ⟨cs⟩∧N=[k]∧OIt (itT t) cs k):=by
 intro t
 induction t using Tm.ind with
 | h kind num ref kids cases ih ih'=>
 intro cs H hp hz hg
 obtain ⟨ks,cv,rfl,hk,hn,hks,hcv⟩:=RT_mk.1 hp
 rw [sizeT] at hz
 rw [itT,gdI] at hg
 obtain ⟨hg1,hg2⟩:=O4 hg.2.2.2
 have hle:=hks.le
 have hle2:=hcv.le
 have hkl:=XN kids
 have hcl:=WG cases
 refine Zl func152 rfl rfl<|Zc<|JLr (Zr (l:=pkT kind num ref ks cv) rfl rfl fun b1=>JLr (Zp (l:=[iv 0,iv 0,.string (⟨#[]⟩),nS]) zeroValue82 rfl fun b2=>Za<|Zf<|ZI mixed #[0,1,0,4,0,16,48,112,0,256,1008,2047,0,8191] 13 [some 8,some 9,some 10,some 11,some 12,some 13,some 14,some 15,some 16,some 17,some 18,some 19,some 3] [] [(6,fun _ _ vw qw=>vw=.agg ⟨[.bool (fN kind),.bool (fR kind),.bool (fC kind)]⟩∧qw=[]),(10,fun _ _ vw qw=>vw=.string (cond (fR kind) (txS ref) ⟨#[]⟩)∧qw=[]),(12,L9 82 ([iv 0,iv 0,.string (⟨#[]⟩),nS]))] rfl (by kernel_rfl) rfl (by kernel_rfl)<|Dq (pp b1 0) (fun _=>Z1 rfl rfl)<|Dl1 ty3 (Zcu 1 rfl) (Yf ..)<|Dq (pp b1 1) (fun _=>Yj rfl rfl)<|Dl1 ty3 (Zcu 1 rfl) (YP ..)<|Dq (pp b1 0) (fun _=>Z1 rfl rfl) ?_))
 refine Dl1 ty3 (Zcu 1 rfl) (Yf ..)<|Dc rfl call193 (fun _=>rfl) (fun hin=>O7 _ _) ?_
 rintro _ _ ⟨rfl,rfl⟩
 refine Dq (.bool (fR kind)) (fun _=>Zds 1 X4 ty4 rfl rfl rfl (by decide) rfl)<|Dq (pp b1 2) (fun _=>WL rfl rfl)<|Dl Yq (Zcu 1 rfl) (V5 ..)<|Dc rfl call192 (fun _=>rfl) (fun hin=>Pg _ _ _) ?_
 rintro _ _ ⟨rfl,rfl⟩
 refine Dq (.agg ⟨[iv kind,iv num,.string (cond (fR kind) (txS ref) ⟨#[]⟩),nS]⟩) (fun _=>Pu.build (pv:=[(0,iv kind),(1,iv num),(2,.string (cond (fR kind) (txS ref) ⟨#[]⟩))]) (l:=[iv kind,iv num,.string (cond (fR kind) (txS ref) ⟨#[]⟩),nS]) rfl (Qi _ _ _))<|Da zeroValue82 rfl fun b4=>ZM (M':=[(BX b4 [iv 0,iv 0,.string (⟨#[]⟩),nS] 82),(BX b2 [iv 0,iv 0,.string (⟨#[]⟩),nS] 82),(BX b1 (pkT kind num ref ks cv) 51)]) rfl ?_
 show JL _ _ _ [_] _ _ _
 refine JLr (Ze 0 (vs:=[iv kind,iv num,.string (cond (fR kind) (txS ref) ⟨#[]⟩),nS]) (l:=[iv kind,iv num,.string (cond (fR kind) (txS ref) ⟨#[]⟩),nS]) Y3 rfl rfl rfl rfl rfl (Zg rfl (Zg rfl (Zg rfl (Zg rfl Zq)))) rfl<|Za<|Zf<|Zc<|JLq (pp b1 34) (Yd rfl rfl)<|JLr (Zb YZ rfl (Zcu 2 rfl) (Yh ..) ?_))
 obtain ⟨a5,cap5,hv5⟩:=hks.sl
 have hle5:=hks.le
 refine JLn (Zcv ZQ hv5)<|JLM rfl<|Za<|Zh<|Zv (fun k ρ M=>∃ (j:Nat) (y1y:Value) (es1s:List (List Value)) (q1a q1b:Zi),ZR ρ [(1,pp b1 0),(2,pp b2 0),(3,pp b4 0),(21,ks),(22,iv ((kids.length:Int))),(23,iv ((j:Int)))]=ρ∧Sub [(BX b4 [iv kind,iv num,.string (cond (fR kind) (txS ref) ⟨#[]⟩),y1y] 82),q1a,q1b,(BX b2 [iv 0,iv 0,.string (⟨#[]⟩),nS] 82),(BX b1 (pkT kind num ref ks cv) 51)] M∧j≤kids.length∧Own 82 4 y1y es1s q1a∧OIts (Wk (kids.take j)) es1s q1b∧k=kids.length-j) _ ⟨0,nS,[],[],[],Zj rfl,(Sk (Zcz (Zcz (Sk (Sk Sub.nil))))),Nat.zero_le _,Own.nil,(by simpa [WH,Wk] using OIts.nil),rfl⟩ ?_
 rintro _ ρ6 _ ⟨j,y1y,es1s,q1a,q1b,e7,hm13,hj,how1w,hop1p,rfl⟩
 obtain ⟨ρ14,rfl⟩:=Zo e7
 clear e7
 refine ZD hm13<|Zc<|JLn (Pu.lss rfl rfl)<|Za<|Zf<|ZF rfl (fun h15=>?_) (fun h15=>?_)
 ·have h15n:j<kids.length:=by omega
  have hs1:=Ym _ (getElem_mem h15n)
  have hel:=Wv hop1p
  have hgj:=M4 hg1 h15n
  rw [Uc,length_take,Nat.min_eq_left (by omega)] at hel
  refine Zk<|Zf<|Zh<|Zf<|Zd ?_
  obtain ⟨b16,o16,cap16,row16,T16,fr16,cs16,hv16,hb16,hs16,hE16⟩:=hks.get j (by omega)
  refine JLn (Zcw j ZQ Zy hv16 rfl rfl (by omega))<|JLr (Zn Zy rfl (Zcx hb16) hs16<|JLr (Zp (l:=pkT 0 0 zS nS nS) zeroValue51 rfl fun b17=>JLr (Ze 0 (vs:=cs16) (l:=cs16) Zy rfl rfl rfl rfl (ZB hE16) (XA hE16) (Yb (n:=36) rfl (ZB hE16))<|Za<|ZI mixed #[0,1,0,4,12,31,63,127] 5 (sm 27 5) [] [(3,fun _ _ vw qw=>∃ cs k,vw=.agg ⟨cs⟩∧qw=[k]∧OIt (itT (kids[j])) cs k),(4,fun r _ vw qw=>∃ b k,vw=.slice (some ⟨b,0,none⟩) 1 1∧qw=[k]∧Own 82 4 (.slice (some ⟨b,0,none⟩) 1 1) [(cel (r 3))] k∧k=(BX b (flatten [(cel (r 3))]) 82))] rfl (by kernel_rfl) rfl (by kernel_rfl)<|Dq (pp b4 3) (fun _=>YS rfl rfl)<|Dl1 Ww (Zcu 1 rfl) rfl<|Dl Zy (Zcu 0 rfl) (ZE (ZB hE16)) ?_)))
  refine Dc rfl call152 (fun _=>rfl) (fun hin=>ih _ (getElem_mem h15n) _ _ (RT.mono (Hle.hu _ _) hE16) (by omega) hgj) ?_
  rintro _ _ ⟨cs20,k20,rfl,rfl,hO20⟩
  refine Dr rfl (fun _=>Zm (vs:=[.agg ⟨cs20⟩]) [cs20] Xl UH rfl rfl (al1 hO20.len) rfl (by decide) fun b k h1 h2=>⟨[k],by rw [Z4 rfl];exact Sub.refl,b,k,rfl,rfl,h1,h2⟩) (fun _ _ ⟨b21,k21,e1,e2,ho21,hk21⟩=>?_);subst e1 e2
  refine ZM (M':=[k21,k20,(BX b17 cs16 51),(BX b4 [iv kind,iv num,.string (cond (fR kind) (txS ref) ⟨#[]⟩),y1y] 82),q1a,q1b,(BX b2 [iv 0,iv 0,.string (⟨#[]⟩),nS] 82),(BX b1 (pkT kind num ref ks cv) 51)]) rfl ?_
  show JL _ _ _ [_,_,_] _ _ _
  have hlens22:∀ e∈([cs20]:List (List Value)),List.length e=4:=al1 hO20.len
  have hoks22:∀ e∈([cs20]:List (List Value)),okc e:=al1 hO20.ok
  refine JLr (Zz (i:=4) (n:=1) (es':=[cs20]) Xl Xl (Or.inl rfl) UH rfl rfl rfl how1w (fun F w m=>Src.row (((ZcD 0 rfl (by rw [hk21];exact mem_cons_self))).heap m) (ZE (Zw hlens22))) rfl hlens22 hoks22 (by decide) (by omega) fun v22 k22 ho22=>JLq (pp b4 3) (YS rfl rfl)<|JLr (Ze 3 (vs:=[v22]) (l:=[iv kind,iv num,.string (cond (fR kind) (txS ref) ⟨#[]⟩),v22]) Ww rfl rfl rfl (ZS ho22.one) rfl (Zg ho22.one Zq) rfl<|Za<|Zd<|JLn (Zcy rfl rfl (by omega))<|JLM rfl<|Za<|⟨_,?_,(j+1),v22,(es1s++[cs20]),k22,(q1b++k20),Zj rfl,(Sd (Sub.cons 2 rfl (Sub.cons 2 rfl (ZcF (Sub.cons 2 rfl (Sk (Sd (Sk (Sk Sub.nil))))))))),?_,?_,?_,rfl⟩))
  ·omega
  ·omega
  ·exact ho22
  rw [OZ h15n];exact OIts.snoc hO20 hop1p
 have h15n:kids.length≤j:=by omega
 refine Zu _ rfl<|Zf<|Zc<|JLq (pp b1 35) (ZY rfl rfl)<|JLr (Zb YL rfl (Zcu 4 rfl) (Z3 ..) ?_)
 obtain ⟨a23,cap23,hv23⟩:=hcv.sl
 have hle23:=hcv.le
 refine JLn (Zcv Yz hv23)<|JLM rfl<|Za<|Zh<|Zv (fun k ρ M=>∃ (j:Nat) (y2y:Value) (es2s:List (List Value)) (q2a q2b:Zi),ZR ρ [(2,pp b2 0),(3,pp b4 0),(36,cv),(37,iv ((cases.length:Int))),(38,iv ((j:Int)))]=ρ∧Sub [(BX b4 [iv kind,iv num,.string (cond (fR kind) (txS ref) ⟨#[]⟩),y2y] 82),q2a,q2b,(BX b2 [iv 0,iv 0,.string (⟨#[]⟩),nS] 82),(BX b1 (pkT kind num ref ks cv) 51)] M∧j≤cases.length∧Own 82 4 y2y es2s q2a∧OIts (Wk kids++Vo (cases.take j)) es2s q2b∧k=cases.length-j) _ ⟨0,y1y,es1s,q1a,q1b,Zj rfl,(Sk (Sk (Sk (Sk (Sk Sub.nil))))),Nat.zero_le _,how1w,(by rw [take_of_length_le h15n] at hop1p;simpa [Vo] using hop1p),rfl⟩ ?_
 rintro _ ρ24 _ ⟨j,y2y,es2s,q2a,q2b,e25,hm30,hj,how2w,hop2p,rfl⟩
 obtain ⟨ρ31,rfl⟩:=Zo e25
 clear e25
 refine ZD hm30<|Zc<|JLn (Pu.lss rfl rfl)<|Za<|Zf<|ZF rfl (fun h32=>?_) (fun h32=>?_)
 ·have h32n:j<cases.length:=by omega
  have hs1:=Y1 _ (getElem_mem h32n)
  have hel:=Wv hop2p
  have hgj:=M6 hg2 h32n
  rw [length_append,Uc,SQ,length_take,Nat.min_eq_left (by omega)] at hel
  refine Zk<|Zf<|Zh<|Zf<|Zd ?_
  obtain ⟨b33,o33,cap33,row33,T33,fr33,cs33,hv33,hb33,hs33,hE33⟩:=hcv.get j (by omega)
  obtain ⟨ca33,cb33,rfl,hA33,hB33⟩:=hE33
  refine JLn (Zcw j Yz Yg hv33 rfl rfl (by omega))<|JLr (Zn Yg rfl (Zcx hb33) hs33<|JLr (Zp (l:=(pkP 0 0 zS nS)++(pkT 0 0 zS nS nS)) zeroValue117 rfl fun b34=>JLr (Ze 0 (vs:=ca33++cb33) (l:=ca33++cb33) Yg rfl rfl rfl rfl (ZW (ZN hA33) (ZB hB33)) (Y5 (Ur hA33) (XA hB33)) (Yb (n:=71) rfl (ZW (ZN hA33) (ZB hB33)))<|Za<|ZI mixed #[0,1,0,4,12,0,32,124,252,508,1020,2047,4095,8191] 11 (sm 42 11) [] [(4,fun _ _ vw qw=>∃ cs k,vw=.agg ⟨cs⟩∧qw=[k]∧OIt (itP (cases[j].1)) cs k),(7,fun _ _ vw qw=>∃ cs k,vw=.agg ⟨cs⟩∧qw=[k]∧OIt (itT (cases[j].2)) cs k),(8,fun r _ vw qw=>∃ b k,vw=.slice (some ⟨b,0,none⟩) 2 2∧qw=[k]∧Own 82 4 (.slice (some ⟨b,0,none⟩) 2 2) [(cel (r 4)),(cel (r 7))] k∧k=(BX b (flatten [(cel (r 4)),(cel (r 7))]) 82)),(10,fun r _ vw qw=>∃ b k,vw=.slice (some ⟨b,0,none⟩) 1 1∧qw=[k]∧Own 82 4 (.slice (some ⟨b,0,none⟩) 1 1) [[iv 20,iv 0,.string (⟨#[]⟩),.slice (some ⟨(D1 (r 8)),0,none⟩) 2 2]] k∧k=(BX b (flatten [[iv 20,iv 0,.string (⟨#[]⟩),.slice (some ⟨(D1 (r 8)),0,none⟩) 2 2]]) 82))] rfl (by kernel_rfl) rfl (by kernel_rfl)<|Dq (pp b4 3) (fun _=>YS rfl rfl)<|Dl1 Ww (Zcu 1 rfl) rfl<|Dq (pp b34 0) (fun _=>YO rfl rfl)<|Dl ZU (Zcu 0 rfl) (XE (ZN hA33)) ?_)))
  refine Dc rfl call194 (fun _=>rfl) (fun hin=>Fh _ _ _ (RP.mono (Hle.hu _ _) hA33) (by omega) hgj.1) ?_
  rintro _ _ ⟨cs39,k39,rfl,rfl,hO39⟩
  refine Dq (pp b34 35) (fun _=>YV rfl rfl)<|Dl Zy (Zcu 0 rfl) (XK (ZN hA33) (ZB hB33)) ?_
  refine Dc rfl call152 (fun _=>rfl) (fun hin=>ih' _ (getElem_mem h32n) _ _ (RT.mono (Hle.hu _ _) hB33) (by omega) hgj.2) ?_
  rintro _ _ ⟨cs40,k40,rfl,rfl,hO40⟩
  refine Dr rfl (fun _=>Zm (vs:=[.agg ⟨cs39⟩,.agg ⟨cs40⟩]) [cs39,cs40] Xl UH rfl rfl (alc hO39.len (al1 hO40.len)) rfl (by decide) fun b k h1 h2=>⟨[k],by rw [Z4 rfl];exact Sub.refl,b,k,rfl,rfl,h1,h2⟩) (fun _ _ ⟨b41,k41,e1,e2,ho41,hk41⟩=>?_);subst e1 e2
  refine Dq (.agg ⟨[iv 20,iv 0,.string (⟨#[]⟩),.slice (some ⟨b41,0,none⟩) 2 2]⟩) (fun _=>Pu.build (pv:=[(0,iv 20),(3,.slice (some ⟨b41,0,none⟩) 2 2)]) (l:=[iv 20,iv 0,.string (⟨#[]⟩),.slice (some ⟨b41,0,none⟩) 2 2]) rfl (Nf _ _ _ _))<|Dr rfl (fun _=>Zm (vs:=[.agg ⟨[iv 20,iv 0,.string (⟨#[]⟩),.slice (some ⟨b41,0,none⟩) 2 2]⟩]) [[iv 20,iv 0,.string (⟨#[]⟩),.slice (some ⟨b41,0,none⟩) 2 2]] Xl UH rfl rfl (al1 rfl) rfl (by decide) fun b k h1 h2=>⟨[k],by rw [Z4 rfl];exact Sub.refl,b,k,rfl,rfl,h1,h2⟩) (fun _ _ ⟨b42,k42,e1,e2,ho42,hk42⟩=>?_);subst e1 e2
  refine ZM (M':=[k42,k41,k40,k39,(BX b34 (ca33++cb33) 117),(BX b4 [iv kind,iv num,.string (cond (fR kind) (txS ref) ⟨#[]⟩),y2y] 82),q2a,q2b,(BX b2 [iv 0,iv 0,.string (⟨#[]⟩),nS] 82),(BX b1 (pkT kind num ref ks cv) 51)]) rfl ?_
  show JL _ _ _ [_,_,_] _ _ _
  have hlens43:∀ e∈([[iv 20,iv 0,.string (⟨#[]⟩),.slice (some ⟨b41,0,none⟩) 2 2]]:List (List Value)),List.length e=4:=al1 rfl
  have hoks43:∀ e∈([[iv 20,iv 0,.string (⟨#[]⟩),.slice (some ⟨b41,0,none⟩) 2 2]]:List (List Value)),okc e:=al1 (Zg rfl (Zg rfl (Zg rfl (Zg rfl Zq))))
  refine JLr (Zz (i:=6) (n:=1) (es':=[[iv 20,iv 0,.string (⟨#[]⟩),.slice (some ⟨b41,0,none⟩) 2 2]]) Xl Xl (Or.inl rfl) UH rfl rfl rfl how2w (fun F w m=>Src.row (((ZcD 0 rfl (by rw [hk42];exact mem_cons_self))).heap m) (ZE (Zw hlens43))) rfl hlens43 hoks43 (by decide) (by omega) fun v43 k43 ho43=>JLq (pp b4 3) (YS rfl rfl)<|JLr (Ze 5 (vs:=[v43]) (l:=[iv kind,iv num,.string (cond (fR kind) (txS ref) ⟨#[]⟩),v43]) Ww rfl rfl rfl (ZS ho43.one) rfl (Zg ho43.one Zq) rfl<|Za<|Zd<|JLn (Zcy rfl rfl (by omega))<|JLM rfl<|Za<|⟨_,?_,(j+1),v43,(es2s++[[iv 20,iv 0,.string (⟨#[]⟩),.slice (some ⟨b41,0,none⟩) 2 2]]),k43,(q2b++(k41++(k39++k40))),Zj rfl,(Sd (Sub.cons 4 rfl (Sub.cons 4 rfl (ZcQ (Sub.cons 4 rfl (Sk (Sub.cons 1 rfl (Sk (Sd (Sk (Sk Sub.nil))))))))))),?_,?_,?_,rfl⟩))
  ·omega
  ·omega
  ·exact ho43
  rw [O1 h32n,← append_assoc];exact OIts.snoc (LO ho41 hO39 hO40) hop2p
 have h32n:cases.length≤j:=by omega
 refine Zu _ rfl<|Zc<|JLr (Zn Y3 rfl (Zcu 0 rfl) rfl<|JLr (Ze 3 (vs:=[iv kind,iv num,.string (cond (fR kind) (txS ref) ⟨#[]⟩),y2y]) (l:=[iv kind,iv num,.string (cond (fR kind) (txS ref) ⟨#[]⟩),y2y]) Y3 rfl rfl rfl rfl rfl (Zg rfl (Zg rfl (Zg rfl (Zg how2w.one Zq)))) rfl<|Za<|ZH<|⟨.agg ⟨[iv kind,iv num,.string (cond (fR kind) (txS ref) ⟨#[]⟩),y2y]⟩,[q2a++q2b],Ret.one rfl (RV.cell Y3 rfl (Zcu 3 rfl) rfl),(ZcF (Sd (Sk (Sk Sub.nil)))),?_⟩))
 rw [take_of_length_le h32n] at hop2p
 exact ⟨_,_,rfl,rfl,by rw [itT,← Zai,← DI];exact OIt_mk.2 ⟨_,_,_,_,rfl,hk,hn,how2w,hop2p,rfl,by rw [length_append,Uc,SQ];omega⟩⟩
theorem F4 (t:Tm) (cs:List Value) (H:Heap) (ht:RT H cs t):CT prog 105 ⟨[.agg ⟨cs⟩]⟩ [] H (fun r N=>∃ cs k,r=.tuple ⟨[.agg ⟨cs⟩,iv (W0 [t])]⟩∧N=[k]∧OIt (if W0 [t]=0 then itT t else zI) cs k):=by
 refine Zl func105 rfl rfl<|Zc<|JLr (Zr (l:=cs) rfl rfl fun b1=>JLr (Zp (l:=[iv 0,iv 0,.string (⟨#[]⟩),nS]) zeroValue82 rfl fun b2=>JAn rfl<|Zf<|Zc<|JLr (Zn Zy rfl (Zcu 1 rfl) (ZE (ZB ht))<|JLr (Zm (vs:=[.agg ⟨cs⟩]) [cs] ZQ Wo rfl rfl (al1 (ZB ht)) rfl (by decide) fun b3 k3 ho3 hk3=>Jc call151 rfl (fun hin=>GX _ _ _ (Zdu ho3 (hin 0 _ rfl) (RT.mono (Hle.hu _ _) ht))) rfl ?_))))
 rintro _ _ ⟨rfl,rfl⟩
 refine JAn rfl<|Zc<|JLM rfl<|JLn (Pu.neq rfl rfl)<|Za<|Zs rfl (fun h4=>?_) (fun h4=>?_)
 ·replace h4:=nt h4
  replace h4:=df h4
  refine Zc<|JLq (.agg ⟨[iv 0,iv 0,.string (⟨#[]⟩),nS]⟩) (Pu.build (pv:=[]) (l:=[iv 0,iv 0,.string (⟨#[]⟩),nS]) rfl ZaF)<|JLM rfl<|JLr (Ze 1 (vs:=[iv 0,iv 0,.string (⟨#[]⟩),nS]) (l:=[iv 0,iv 0,.string (⟨#[]⟩),nS]) Y3 rfl rfl rfl rfl rfl (Zg rfl (Zg rfl (Zg rfl (Zg rfl Zq)))) rfl<|JAn rfl<|ZH<|⟨.tuple ⟨[.agg ⟨[iv 0,iv 0,.string (⟨#[]⟩),nS]⟩,iv (W0 [t])]⟩,[[]],ZcE rfl (RV.cell Y3 rfl (Zcu 1 rfl) rfl) (RV.tmp rfl),(Zcz Sub.nil),?_⟩)
  exact ⟨_,_,rfl,rfl,by rw [if_neg (by omega)];exact Ds⟩
 replace h4:=nf h4
 replace h4:=dt h4
 refine Zk<|Zf ?_
 have hr0:W0 [t]=0:=by omega
 have hck:Zx 60 8 t=0:=by rw [← Pe];exact hr0
 have hsz:=(R1 hck).1
 refine Zd<|JLr (Zn Zy rfl (Zcu 2 rfl) (ZE (ZB ht))<|Jc call152 rfl (fun hin=>Gn _ _ _ (RT.mono (Hle.hu _ _) ht) (by omega) (Pd hck).1) rfl ?_)
 rintro _ _ ⟨cs5,k5,rfl,rfl,hO5⟩
 refine JLr (Ze 2 (vs:=cs5) (l:=cs5) Y3 rfl rfl rfl rfl hO5.len hO5.ok (Yb (n:=4) rfl hO5.len)<|JAn rfl<|ZH<|⟨.tuple ⟨[.agg ⟨cs5⟩,iv 0]⟩,[k5],ZcE rfl (RV.cell Y3 rfl (Zcu 2 rfl) (ZE hO5.len)) (RV.tmp rfl),(Sk Sub.nil),?_⟩)
 exact ⟨_,_,by rw [hr0],rfl,by rw [if_pos hr0];exact hO5⟩
set_option maxHeartbeats 2000000 in
theorem IX:∀ (p:Pt) (cs:List Value) (H:Heap),RP H cs p→sizeP p≤1000000→gdI (itP p)→CT prog 94 ⟨[.agg ⟨cs⟩]⟩ [] H (fun r N=>∃ cs k,r=.agg ⟨cs⟩∧N=[k]∧OIt (itP p) cs k):=by
 intro p
 induction p using Pt.ind with
 | h kind num ref kids ih=>
 intro cs H hp hz hg
 obtain ⟨ks,rfl,hk,hn,hks⟩:=RP_mk.1 hp
 rw [sizeP] at hz
 rw [itP,gdI] at hg
 have hle:=hks.le
 have hkl:=Vm kids
 refine Zl func94 rfl rfl<|Zc<|JLr (Zr (l:=pkP kind num ref ks) rfl rfl fun b1=>JLr (Zp (l:=[iv 0,iv 0,.string (⟨#[]⟩),nS]) zeroValue82 rfl fun b2=>Za<|Zc<|JLq (pp b1 0) (Yr rfl rfl)<|JLr (Zb ty3 rfl (Zcu 1 rfl) (Xp ..)<|JLn (ZcG rfl rfl (by first | omega | (constructor <;> omega)))<|JLq (pp b1 1) (Xg rfl rfl)<|JLr (Zb ty3 rfl (Zcu 1 rfl) (Wy ..) ?_))))
 refine JLq (.agg ⟨[iv (30+kind),iv num,.string (⟨#[]⟩),nS]⟩) (Pu.build (pv:=[(0,iv (30+kind)),(1,iv num)]) (l:=[iv (30+kind),iv num,.string (⟨#[]⟩),nS]) rfl (TH _ _))<|JLr (Zp (l:=[iv 0,iv 0,.string (⟨#[]⟩),nS]) zeroValue82 rfl fun b3=>JLr (Ze 0 (vs:=[iv (30+kind),iv num,.string (⟨#[]⟩),nS]) (l:=[iv (30+kind),iv num,.string (⟨#[]⟩),nS]) Y3 rfl rfl rfl rfl rfl (Zg rfl (Zg rfl (Zg rfl (Zg rfl Zq)))) rfl<|Za<|Zf<|Zc<|JLq (pp b1 0) (Yr rfl rfl)<|JLr (Zb ty3 rfl (Zcu 2 rfl) (Xp ..)<|JLn (Pu.eql rfl rfl)<|Za<|UR (N:=fun ρ M=>∃ (tx:ByteArray),(tx=if kind=3 then txS ref else ⟨#[]⟩)∧ρ 1=pp b1 0∧ρ 2=pp b2 0∧ρ 3=pp b3 0∧M=[(BX b3 [iv (30+kind),iv num,.string tx,nS] 82),(BX b2 [iv 0,iv 0,.string (⟨#[]⟩),nS] 82),(BX b1 (pkP kind num ref ks) 115)]) ?_ ?_)))
 ·refine ZF rfl (fun h4=>?_) (fun h4=>?_)
  ·refine Zd<|JLq (pp b1 2) (X7 rfl rfl)<|JLr (Zn Yq rfl (Zcu 2 rfl) (US ..)<|Jc call93 rfl (fun hin=>K3 _ _) rfl ?_)
   rintro _ _ ⟨rfl,rfl⟩
   refine JLq (pp b3 2) (Vp rfl rfl)<|JLr (Ze 0 (vs:=[.string (txS ref)]) (l:=[iv (30+kind),iv num,.string (txS ref),nS]) ty9 rfl rfl rfl rfl rfl (Zg rfl Zq) rfl<|Za ?_)
   exact ⟨(txS ref),(if_pos h4).symm,rfl,rfl,rfl,rfl⟩
  refine Zk ?_
  exact ⟨(⟨#[]⟩),(if_neg h4).symm,rfl,rfl,rfl,rfl⟩
 rintro ρ5 _ ⟨tx,htx,e6,e7,e8,rfl⟩
 obtain ⟨ρ9,rfl⟩:=Zo (uc e6 (uc e7 (uc e8 un)))
 clear e6 e7 e8
 refine Zf<|Zc<|JAn rfl<|Zh<|Zv (fun k ρ M=>∃ (j:Nat) (y1y:Value) (es1s:List (List Value)) (q1a q1b:Zi),ZR ρ [(1,pp b1 0),(2,pp b2 0),(3,pp b3 0),(4,iv ((j:Int)))]=ρ∧Sub [(BX b3 [iv (30+kind),iv num,.string tx,y1y] 82),q1a,q1b,(BX b2 [iv 0,iv 0,.string (⟨#[]⟩),nS] 82),(BX b1 (pkP kind num ref ks) 115)] M∧j≤kids.length∧Own 82 4 y1y es1s q1a∧OIts (WH (kids.take j)) es1s q1b∧k=kids.length-j) _ ⟨0,nS,[],[],[],Zj rfl,(Sk (Zcz (Zcz (Sk (Sk Sub.nil))))),Nat.zero_le _,Own.nil,(by simpa [WH,Wk] using OIts.nil),rfl⟩ ?_
 rintro _ ρ10 _ ⟨j,y1y,es1s,q1a,q1b,e11,hm15,hj,how1w,hop1p,rfl⟩
 obtain ⟨ρ16,rfl⟩:=Zo e11
 clear e11
 refine ZD hm15<|Zf<|Zc<|JLM rfl<|JLq (pp b1 34) (Z5 rfl rfl)<|JLr (Zb YB rfl (Zcu 4 rfl) (Yo ..) ?_)
 obtain ⟨a17,cap17,hv17⟩:=hks.sl
 have hle17:=hks.le
 refine JLn (Zcv Yt hv17)<|JLn (Pu.lss rfl rfl)<|Za<|ZF rfl (fun h18=>?_) (fun h18=>?_)
 ·have h18n:j<kids.length:=by omega
  have hs1:=X8 _ (getElem_mem h18n)
  have hel:=Wv hop1p
  have hgj:=M5 hg.2.2.2 h18n
  rw [SP,length_take,Nat.min_eq_left (by omega)] at hel
  refine Zk<|Zf<|Zh<|ZI mixed #[0,1,0,4,0,28,60,124,252,511,1023,2047] 9 (sm 25 9) [] [(7,fun _ _ vw qw=>∃ cs k,vw=.agg ⟨cs⟩∧qw=[k]∧OIt (itP (kids[j])) cs k),(8,fun r _ vw qw=>∃ b k,vw=.slice (some ⟨b,0,none⟩) 1 1∧qw=[k]∧Own 82 4 (.slice (some ⟨b,0,none⟩) 1 1) [(cel (r 7))] k∧k=(BX b (flatten [(cel (r 7))]) 82))] rfl (by kernel_rfl) rfl (by kernel_rfl)<|Dq (pp b3 3) (fun _=>YS rfl rfl)<|Dl1 Ww (Zcu 0 rfl) rfl<|Dq (pp b1 34) (fun _=>Z5 rfl rfl)<|Dl1 YB (Zcu 4 rfl) (Yo ..)<|DM (fun _=>rfl) ?_
  obtain ⟨b22,o22,cap22,row22,T22,fr22,cs22,hv22,hb22,hs22,hE22⟩:=hks.get j (by omega)
  refine Dn (fun _=>Zcw j Yt ZU hv22 rfl rfl (by omega))<|Dl ZU (Zcx hb22) hs22 ?_
  refine Dc rfl call94 (fun _=>rfl) (fun hin=>ih _ (getElem_mem h18n) _ _ (RP.mono (Hle.hu _ _) hE22) (by omega) hgj) ?_
  rintro _ _ ⟨cs23,k23,rfl,rfl,hO23⟩
  refine Dr rfl (fun _=>Zm (vs:=[.agg ⟨cs23⟩]) [cs23] Xl UH rfl rfl (al1 hO23.len) rfl (by decide) fun b k h1 h2=>⟨[k],by rw [Z4 rfl];exact Sub.refl,b,k,rfl,rfl,h1,h2⟩) (fun _ _ ⟨b24,k24,e1,e2,ho24,hk24⟩=>?_);subst e1 e2
  refine ZM (M':=[k24,k23,(BX b3 [iv (30+kind),iv num,.string tx,y1y] 82),q1a,q1b,(BX b2 [iv 0,iv 0,.string (⟨#[]⟩),nS] 82),(BX b1 (pkP kind num ref ks) 115)]) rfl ?_
  show JL _ _ _ [_,_,_] _ _ _
  have hlens25:∀ e∈([cs23]:List (List Value)),List.length e=4:=al1 hO23.len
  have hoks25:∀ e∈([cs23]:List (List Value)),okc e:=al1 hO23.ok
  refine JLr (Zz (i:=3) (n:=1) (es':=[cs23]) Xl Xl (Or.inl rfl) UH rfl rfl rfl how1w (fun F w m=>Src.row (((ZcD 0 rfl (by rw [hk24];exact mem_cons_self))).heap m) (ZE (Zw hlens25))) rfl hlens25 hoks25 (by decide) (by omega) fun v25 k25 ho25=>JLq (pp b3 3) (YS rfl rfl)<|JLr (Ze 2 (vs:=[v25]) (l:=[iv (30+kind),iv num,.string tx,v25]) Ww rfl rfl rfl (ZS ho25.one) rfl (Zg ho25.one Zq) rfl<|Za<|Zd<|JLM rfl<|JLn (Zcy rfl rfl (by omega))<|JAn rfl<|⟨_,?_,(j+1),v25,(es1s++[cs23]),k25,(q1b++k23),Zj rfl,(Sd (Sub.cons 1 rfl (Sub.cons 1 rfl (ZcF (Sub.cons 1 rfl (Sk (Sk (Sk Sub.nil)))))))),?_,?_,?_,rfl⟩))
  ·omega
  ·omega
  ·exact ho25
  rw [O0 h18n];exact OIts.snoc hO23 hop1p
 have h18n:kids.length≤j:=by omega
 refine Zu _ rfl<|Zc<|JLr (Zn Y3 rfl (Zcu 0 rfl) rfl<|JLr (Ze 3 (vs:=[iv (30+kind),iv num,.string tx,y1y]) (l:=[iv (30+kind),iv num,.string tx,y1y]) Y3 rfl rfl rfl rfl rfl (Zg rfl (Zg rfl (Zg rfl (Zg how1w.one Zq)))) rfl<|Za<|ZH<|⟨.agg ⟨[iv (30+kind),iv num,.string tx,y1y]⟩,[q1a++q1b],Ret.one rfl (RV.cell Y3 rfl (Zcu 3 rfl) rfl),(ZcF (Sd (Sk (Sk Sub.nil)))),?_⟩))
 rw [take_of_length_le h18n] at hop1p
 exact ⟨_,_,rfl,rfl,by rw [itP,← htx];exact OIt_mk.2 ⟨_,_,_,_,rfl,by unfold inI;omega,hn,how1w,hop1p,rfl,by rw [SP];omega⟩⟩
set_option maxHeartbeats 4000000 in
theorem Iw:∀ (t:Tm) (cs:List Value) (H:Heap),RT H cs t→sizeT t≤1000000→gdI (itT t)→CT prog 46 ⟨[.agg ⟨cs⟩]⟩ [] H (fun r N=>∃ cs k,r=.agg ⟨cs⟩∧N=[k]∧OIt (itT t) cs k):=by
 intro t
 induction t using Tm.ind with
 | h kind num ref kids cases ih ih'=>
 intro cs H hp hz hg
 obtain ⟨ks,cv,rfl,hk,hn,hks,hcv⟩:=RT_mk.1 hp
 rw [sizeT] at hz
 rw [itT,gdI] at hg
 obtain ⟨hg1,hg2⟩:=O4 hg.2.2.2
 have hle:=hks.le
 have hle2:=hcv.le
 have hkl:=XN kids
 have hcl:=WG cases
 refine Zl func46 rfl rfl<|Zc<|JLr (Zr (l:=pkT kind num ref ks cv) rfl rfl fun b1=>JLr (Zp (l:=[iv 0,iv 0,.string (⟨#[]⟩),nS]) zeroValue82 rfl fun b2=>Za<|Zc<|JLq (pp b1 0) (Z1 rfl rfl)<|JLr (Zb ty3 rfl (Zcu 1 rfl) (Yf ..)<|JLq (pp b1 1) (Yj rfl rfl)<|JLr (Zb ty3 rfl (Zcu 1 rfl) (YP ..)<|JLq (.agg ⟨[iv kind,iv num,.string (⟨#[]⟩),nS]⟩) (Pu.build (pv:=[(0,iv kind),(1,iv num)]) (l:=[iv kind,iv num,.string (⟨#[]⟩),nS]) rfl (TH _ _)) ?_))))
 refine JLr (Zp (l:=[iv 0,iv 0,.string (⟨#[]⟩),nS]) zeroValue82 rfl fun b3=>JLr (Ze 0 (vs:=[iv kind,iv num,.string (⟨#[]⟩),nS]) (l:=[iv kind,iv num,.string (⟨#[]⟩),nS]) Y3 rfl rfl rfl rfl rfl (Zg rfl (Zg rfl (Zg rfl (Zg rfl Zq)))) rfl<|Za<|Zf<|Zc<|JLq (pp b1 0) (Z1 rfl rfl)<|JLr (Zb ty3 rfl (Zcu 2 rfl) (Yf ..)<|Jc call92 rfl (fun hin=>O3 _ _) rfl ?_)))
 rintro _ _ ⟨rfl,rfl⟩
 refine Za<|UR (N:=fun ρ M=>∃ (tx:ByteArray),(tx=if Y8 kind=true then txS ref else ⟨#[]⟩)∧ρ 1=pp b1 0∧ρ 2=pp b2 0∧ρ 3=pp b3 0∧M=[(BX b3 [iv kind,iv num,.string tx,nS] 82),(BX b2 [iv 0,iv 0,.string (⟨#[]⟩),nS] 82),(BX b1 (pkT kind num ref ks cv) 51)]) ?_ ?_
 ·refine Zs rfl (fun h4=>?_) (fun h4=>?_)
  ·refine Zd<|JLq (pp b1 2) (WL rfl rfl)<|JLr (Zn Yq rfl (Zcu 2 rfl) (V5 ..)<|Jc call93 rfl (fun hin=>K3 _ _) rfl ?_)
   rintro _ _ ⟨rfl,rfl⟩
   refine JLq (pp b3 2) (Vp rfl rfl)<|JLr (Ze 0 (vs:=[.string (txS ref)]) (l:=[iv kind,iv num,.string (txS ref),nS]) ty9 rfl rfl rfl rfl rfl (Zg rfl Zq) rfl<|Za ?_)
   exact ⟨(txS ref),(if_pos h4).symm,rfl,rfl,rfl,rfl⟩
  refine Zk ?_
  exact ⟨(⟨#[]⟩),(if_neg (show ¬ Y8 kind=true by rw [h4];decide)).symm,rfl,rfl,rfl,rfl⟩
 rintro ρ5 _ ⟨tx,htx,e6,e7,e8,rfl⟩
 obtain ⟨ρ9,rfl⟩:=Zo (uc e6 (uc e7 (uc e8 un)))
 clear e6 e7 e8
 refine Zf<|Zc<|JAn rfl<|Zh<|Zv (fun k ρ M=>∃ (j:Nat) (y1y:Value) (es1s:List (List Value)) (q1a q1b:Zi),ZR ρ [(1,pp b1 0),(2,pp b2 0),(3,pp b3 0),(4,iv ((j:Int)))]=ρ∧Sub [(BX b3 [iv kind,iv num,.string tx,y1y] 82),q1a,q1b,(BX b2 [iv 0,iv 0,.string (⟨#[]⟩),nS] 82),(BX b1 (pkT kind num ref ks cv) 51)] M∧j≤kids.length∧Own 82 4 y1y es1s q1a∧OIts (Wk (kids.take j)) es1s q1b∧k=kids.length-j) _ ⟨0,nS,[],[],[],Zj rfl,(Sk (Zcz (Zcz (Sk (Sk Sub.nil))))),Nat.zero_le _,Own.nil,(by simpa [WH,Wk] using OIts.nil),rfl⟩ ?_
 rintro _ ρ10 _ ⟨j,y1y,es1s,q1a,q1b,e11,hm15,hj,how1w,hop1p,rfl⟩
 obtain ⟨ρ16,rfl⟩:=Zo e11
 clear e11
 refine ZD hm15<|Zf<|Zc<|JLM rfl<|JLq (pp b1 34) (Yd rfl rfl)<|JLr (Zb YZ rfl (Zcu 4 rfl) (Yh ..) ?_)
 obtain ⟨a17,cap17,hv17⟩:=hks.sl
 have hle17:=hks.le
 refine JLn (Zcv ZQ hv17)<|JLn (Pu.lss rfl rfl)<|Za<|ZF rfl (fun h18=>?_) (fun h18=>?_)
 ·have h18n:j<kids.length:=by omega
  have hs1:=Ym _ (getElem_mem h18n)
  have hel:=Wv hop1p
  have hgj:=M4 hg1 h18n
  rw [Uc,length_take,Nat.min_eq_left (by omega)] at hel
  refine Zk<|Zf<|Zh<|ZI mixed #[0,1,0,4,0,28,60,124,252,511,1023,2047] 9 (sm 25 9) [] [(7,fun _ _ vw qw=>∃ cs k,vw=.agg ⟨cs⟩∧qw=[k]∧OIt (itT (kids[j])) cs k),(8,fun r _ vw qw=>∃ b k,vw=.slice (some ⟨b,0,none⟩) 1 1∧qw=[k]∧Own 82 4 (.slice (some ⟨b,0,none⟩) 1 1) [(cel (r 7))] k∧k=(BX b (flatten [(cel (r 7))]) 82))] rfl (by kernel_rfl) rfl (by kernel_rfl)<|Dq (pp b3 3) (fun _=>YS rfl rfl)<|Dl1 Ww (Zcu 0 rfl) rfl<|Dq (pp b1 34) (fun _=>Yd rfl rfl)<|Dl1 YZ (Zcu 4 rfl) (Yh ..)<|DM (fun _=>rfl) ?_
  obtain ⟨b22,o22,cap22,row22,T22,fr22,cs22,hv22,hb22,hs22,hE22⟩:=hks.get j (by omega)
  refine Dn (fun _=>Zcw j ZQ Zy hv22 rfl rfl (by omega))<|Dl Zy (Zcx hb22) hs22 ?_
  refine Dc rfl call46 (fun _=>rfl) (fun hin=>ih _ (getElem_mem h18n) _ _ (RT.mono (Hle.hu _ _) hE22) (by omega) hgj) ?_
  rintro _ _ ⟨cs23,k23,rfl,rfl,hO23⟩
  refine Dr rfl (fun _=>Zm (vs:=[.agg ⟨cs23⟩]) [cs23] Xl UH rfl rfl (al1 hO23.len) rfl (by decide) fun b k h1 h2=>⟨[k],by rw [Z4 rfl];exact Sub.refl,b,k,rfl,rfl,h1,h2⟩) (fun _ _ ⟨b24,k24,e1,e2,ho24,hk24⟩=>?_);subst e1 e2
  refine ZM (M':=[k24,k23,(BX b3 [iv kind,iv num,.string tx,y1y] 82),q1a,q1b,(BX b2 [iv 0,iv 0,.string (⟨#[]⟩),nS] 82),(BX b1 (pkT kind num ref ks cv) 51)]) rfl ?_
  show JL _ _ _ [_,_,_] _ _ _
  have hlens25:∀ e∈([cs23]:List (List Value)),List.length e=4:=al1 hO23.len
  have hoks25:∀ e∈([cs23]:List (List Value)),okc e:=al1 hO23.ok
  refine JLr (Zz (i:=3) (n:=1) (es':=[cs23]) Xl Xl (Or.inl rfl) UH rfl rfl rfl how1w (fun F w m=>Src.row (((ZcD 0 rfl (by rw [hk24];exact mem_cons_self))).heap m) (ZE (Zw hlens25))) rfl hlens25 hoks25 (by decide) (by omega) fun v25 k25 ho25=>JLq (pp b3 3) (YS rfl rfl)<|JLr (Ze 2 (vs:=[v25]) (l:=[iv kind,iv num,.string tx,v25]) Ww rfl rfl rfl (ZS ho25.one) rfl (Zg ho25.one Zq) rfl<|Za<|Zd<|JLM rfl<|JLn (Zcy rfl rfl (by omega))<|JAn rfl<|⟨_,?_,(j+1),v25,(es1s++[cs23]),k25,(q1b++k23),Zj rfl,(Sd (Sub.cons 1 rfl (Sub.cons 1 rfl (ZcF (Sub.cons 1 rfl (Sk (Sk (Sk Sub.nil)))))))),?_,?_,?_,rfl⟩))
  ·omega
  ·omega
  ·exact ho25
  rw [OZ h18n];exact OIts.snoc hO23 hop1p
 have h18n:kids.length≤j:=by omega
 refine Zu _ rfl<|Zf<|Zc<|JAn rfl<|Zh<|Zv (fun k ρ M=>∃ (j:Nat) (y2y:Value) (es2s:List (List Value)) (q2a q2b:Zi),ZR ρ [(1,pp b1 0),(2,pp b2 0),(3,pp b3 0),(5,iv ((j:Int)))]=ρ∧Sub [(BX b3 [iv kind,iv num,.string tx,y2y] 82),q2a,q2b,(BX b2 [iv 0,iv 0,.string (⟨#[]⟩),nS] 82),(BX b1 (pkT kind num ref ks cv) 51)] M∧j≤cases.length∧Own 82 4 y2y es2s q2a∧OIts (Wk kids++Vo (cases.take j)) es2s q2b∧k=cases.length-j) _ ⟨0,y1y,es1s,q1a,q1b,Zj rfl,(Sk (Sk (Sk (Sk (Sk Sub.nil))))),Nat.zero_le _,how1w,(by rw [take_of_length_le h18n] at hop1p;simpa [Vo] using hop1p),rfl⟩ ?_
 rintro _ ρ26 _ ⟨j,y2y,es2s,q2a,q2b,e27,hm31,hj,how2w,hop2p,rfl⟩
 obtain ⟨ρ32,rfl⟩:=Zo e27
 clear e27
 refine ZD hm31<|Zf<|Zc<|JLM rfl<|JLq (pp b1 35) (ZY rfl rfl)<|JLr (Zb YL rfl (Zcu 4 rfl) (Z3 ..) ?_)
 obtain ⟨a33,cap33,hv33⟩:=hcv.sl
 have hle33:=hcv.le
 refine JLn (Zcv Yz hv33)<|JLn (Pu.lss rfl rfl)<|Za<|ZF rfl (fun h34=>?_) (fun h34=>?_)
 ·have h34n:j<cases.length:=by omega
  have hs1:=Y1 _ (getElem_mem h34n)
  have hel:=Wv hop2p
  have hgj:=M6 hg2 h34n
  rw [length_append,Uc,SQ,length_take,Nat.min_eq_left (by omega)] at hel
  refine Zk<|Zf<|Zh<|ZI mixed #[0,1,0,4,0,28,60,124,252,0,512,0,3584,7680,15872,32764,65532,131068,262140,524287,1048575,2097151] 19 (sm 43 19) [] [(8,fun _ _ vw qw=>∃ cs k,vw=.agg ⟨cs⟩∧qw=[k]∧OIt (itP (cases[j].1)) cs k),(15,fun _ _ vw qw=>∃ cs k,vw=.agg ⟨cs⟩∧qw=[k]∧OIt (itT (cases[j].2)) cs k),(16,fun r _ vw qw=>∃ b k,vw=.slice (some ⟨b,0,none⟩) 2 2∧qw=[k]∧Own 82 4 (.slice (some ⟨b,0,none⟩) 2 2) [(cel (r 8)),(cel (r 15))] k∧k=(BX b (flatten [(cel (r 8)),(cel (r 15))]) 82)),(18,fun r _ vw qw=>∃ b k,vw=.slice (some ⟨b,0,none⟩) 1 1∧qw=[k]∧Own 82 4 (.slice (some ⟨b,0,none⟩) 1 1) [[iv 20,iv 0,.string (⟨#[]⟩),.slice (some ⟨(D1 (r 16)),0,none⟩) 2 2]] k∧k=(BX b (flatten [[iv 20,iv 0,.string (⟨#[]⟩),.slice (some ⟨(D1 (r 16)),0,none⟩) 2 2]]) 82))] rfl (by kernel_rfl) rfl (by kernel_rfl)<|Dq (pp b3 3) (fun _=>YS rfl rfl)<|Dl1 Ww (Zcu 0 rfl) rfl<|Dq (pp b1 35) (fun _=>ZY rfl rfl)<|Dl1 YL (Zcu 4 rfl) (Z3 ..)<|DM (fun _=>rfl) ?_
  obtain ⟨b41,o41,cap41,row41,T41,fr41,cs41,hv41,hb41,hs41,hE41⟩:=hcv.get j (by omega)
  obtain ⟨ca41,cb41,rfl,hA41,hB41⟩:=hE41
  refine Dn (fun _=>Zcw j Yz Yg hv41 rfl rfl (by omega))<|Dq (pp b41 (o41+j*71)) (fun _=>YO rfl rfl)<|Dl ZU (Zcx hb41) (We hs41 (XE (ZN hA41))) ?_
  refine Dc rfl call94 (fun _=>rfl) (fun hin=>IX _ _ _ (RP.mono (Hle.hu _ _) hA41) (by omega) hgj.1) ?_
  rintro _ _ ⟨cs42,k42,rfl,rfl,hO42⟩
  refine Dq (pp b1 35) (fun _=>ZY rfl rfl)<|Dl1 YL (Zcu 4 rfl) (Z3 ..)<|DM (fun _=>rfl) ?_
  obtain ⟨b43,o43,cap43,row43,T43,fr43,cs43,hv43,hb43,hs43,hE43⟩:=hcv.get j (by omega)
  obtain ⟨ca43,cb43,rfl,hA43,hB43⟩:=hE43
  refine Dn (fun _=>Zcw j Yz Yg hv43 rfl rfl (by omega))<|Dq (pp b43 (o43+j*71+35)) (fun _=>YV rfl rfl)<|Dl Zy (Zcx hb43) (XS hs43 (XK (ZN hA43) (ZB hB43))) ?_
  refine Dc rfl call46 (fun _=>rfl) (fun hin=>ih' _ (getElem_mem h34n) _ _ (RT.mono (Hle.hu _ _) hB43) (by omega) hgj.2) ?_
  rintro _ _ ⟨cs44,k44,rfl,rfl,hO44⟩
  refine Dr rfl (fun _=>Zm (vs:=[.agg ⟨cs42⟩,.agg ⟨cs44⟩]) [cs42,cs44] Xl UH rfl rfl (alc hO42.len (al1 hO44.len)) rfl (by decide) fun b k h1 h2=>⟨[k],by rw [Z4 rfl];exact Sub.refl,b,k,rfl,rfl,h1,h2⟩) (fun _ _ ⟨b45,k45,e1,e2,ho45,hk45⟩=>?_);subst e1 e2
  refine Dq (.agg ⟨[iv 20,iv 0,.string (⟨#[]⟩),.slice (some ⟨b45,0,none⟩) 2 2]⟩) (fun _=>Pu.build (pv:=[(0,iv 20),(3,.slice (some ⟨b45,0,none⟩) 2 2)]) (l:=[iv 20,iv 0,.string (⟨#[]⟩),.slice (some ⟨b45,0,none⟩) 2 2]) rfl (Nf _ _ _ _))<|Dr rfl (fun _=>Zm (vs:=[.agg ⟨[iv 20,iv 0,.string (⟨#[]⟩),.slice (some ⟨b45,0,none⟩) 2 2]⟩]) [[iv 20,iv 0,.string (⟨#[]⟩),.slice (some ⟨b45,0,none⟩) 2 2]] Xl UH rfl rfl (al1 rfl) rfl (by decide) fun b k h1 h2=>⟨[k],by rw [Z4 rfl];exact Sub.refl,b,k,rfl,rfl,h1,h2⟩) (fun _ _ ⟨b46,k46,e1,e2,ho46,hk46⟩=>?_);subst e1 e2
  refine ZM (M':=[k46,k45,k44,k42,(BX b3 [iv kind,iv num,.string tx,y2y] 82),q2a,q2b,(BX b2 [iv 0,iv 0,.string (⟨#[]⟩),nS] 82),(BX b1 (pkT kind num ref ks cv) 51)]) rfl ?_
  show JL _ _ _ [_,_,_] _ _ _
  have hlens47:∀ e∈([[iv 20,iv 0,.string (⟨#[]⟩),.slice (some ⟨b45,0,none⟩) 2 2]]:List (List Value)),List.length e=4:=al1 rfl
  have hoks47:∀ e∈([[iv 20,iv 0,.string (⟨#[]⟩),.slice (some ⟨b45,0,none⟩) 2 2]]:List (List Value)),okc e:=al1 (Zg rfl (Zg rfl (Zg rfl (Zg rfl Zq))))
  refine JLr (Zz (i:=5) (n:=1) (es':=[[iv 20,iv 0,.string (⟨#[]⟩),.slice (some ⟨b45,0,none⟩) 2 2]]) Xl Xl (Or.inl rfl) UH rfl rfl rfl how2w (fun F w m=>Src.row (((ZcD 0 rfl (by rw [hk46];exact mem_cons_self))).heap m) (ZE (Zw hlens47))) rfl hlens47 hoks47 (by decide) (by omega) fun v47 k47 ho47=>JLq (pp b3 3) (YS rfl rfl)<|JLr (Ze 4 (vs:=[v47]) (l:=[iv kind,iv num,.string tx,v47]) Ww rfl rfl rfl (ZS ho47.one) rfl (Zg ho47.one Zq) rfl<|Za<|Zd<|JLM rfl<|JLn (Zcy rfl rfl (by omega))<|JAn rfl<|⟨_,?_,(j+1),v47,(es2s++[[iv 20,iv 0,.string (⟨#[]⟩),.slice (some ⟨b45,0,none⟩) 2 2]]),k47,(q2b++(k45++(k42++k44))),Zj rfl,(Sd (Sub.cons 3 rfl (Sub.cons 3 rfl (ZcQ (Sub.cons 3 rfl (Sk (Sub.cons 1 rfl (Sk (Sk (Sk Sub.nil)))))))))),?_,?_,?_,rfl⟩))
  ·omega
  ·omega
  ·exact ho47
  rw [O1 h34n,← append_assoc];exact OIts.snoc (LO ho45 hO42 hO44) hop2p
 have h34n:cases.length≤j:=by omega
 refine Zu _ rfl<|Zc<|JLr (Zn Y3 rfl (Zcu 0 rfl) rfl<|JLr (Ze 3 (vs:=[iv kind,iv num,.string tx,y2y]) (l:=[iv kind,iv num,.string tx,y2y]) Y3 rfl rfl rfl rfl rfl (Zg rfl (Zg rfl (Zg rfl (Zg how2w.one Zq)))) rfl<|Za<|ZH<|⟨.agg ⟨[iv kind,iv num,.string tx,y2y]⟩,[q2a++q2b],Ret.one rfl (RV.cell Y3 rfl (Zcu 3 rfl) rfl),(ZcF (Sd (Sk (Sk Sub.nil)))),?_⟩))
 rw [take_of_length_le h34n] at hop2p
 exact ⟨_,_,rfl,rfl,by rw [itT,← htx];exact OIt_mk.2 ⟨_,_,_,_,rfl,hk,hn,how2w,hop2p,rfl,by rw [length_append,Uc,SQ];omega⟩⟩
end
end Go.Proofs.YtjdjmjgleadcfaaGreatDoor.Hs
namespace Go.Proofs.YtjdjmjgleadcfaaGreatDoor
section
open Go Go.ChangeShapes Go.WideShapes
theorem Bt:ownKnob prog.godebug=none:=by kernel_rfl
theorem EV:Kids prog (· <prog.types.size):=kids_rows (by kernel_rfl) (by kernel_rfl)
theorem EW:∀ t e,t<prog.types.size→prog.underlying t=some (.slice e)→0<prog.cellsOf e:=slices_full_of prog (by kernel_rfl)
section
variable {H:Type} {enc:TypeId×Value→H} {P:Program} {w w':World} {base:Nat} {sp:Nat→Bool} {held:Bool}
theorem U0:∀ {ts:List TypeId} {vs:List Value} {ds:List (DataW H)} {ps:List MemPlace},DataW.TrodAll enc P w base sp held ts vs ds ps→(∀ p∈ps,w.sameAt w' p)→DataW.TrodAll enc P w' base sp held ts vs ds ps
  | [],[],[],_,h,_=>h
  | _::_,_::_,_::_,_,⟨p,q,⟨n,h1⟩,h2,e⟩,hs=>
    ⟨p,q,⟨n,DataW.trod_carry n _ _ _ h1 (fun x hx=>hs x (by rw [e];exact List.mem_append_left _ hx))⟩,U0 h2 (fun x hx=>hs x (by rw [e];exact List.mem_append_right _ hx)),e⟩
theorem FR {f:Func} {s:ChangeSpec} {apart:Bool} {args:Array Value} {ds gs:List (DataW H)} {before:List MemPlace} (K:Kids P (· <P.types.size)) (hz:∀ t e,t<P.types.size→P.underlying t=some (.slice e)→0<P.cellsOf e)
    (hW:DataW.Whole enc P f.params.toList s.vars apart w args.toList ds gs before) (hv:s.vars=[]) (hp:∀ t∈f.params.toList,t<P.types.size) {tb:TypeId} (ht:f.resultTypes=#[tb]) (hb:P.underlying tb=some .bool)
    (hres:∀ l:List (DataW H),l.length=f.params.size→(s.fn H l).results=[.lit (.bool true)]) (hargs:∀ l:List (DataW H),l.length=f.params.size→(s.fn H l).args=l) (hvars:∀ l:List (DataW H),l.length=f.params.size→(s.fn H l).vars=[])
    (hh:∀ b,b<w.heap.size→w'.heap[b]?=w.heap[b]?) (ho:w'.os=w.os) (hout:w'.output=w.output):s.post enc P f apart true false false w args (.bool true) w':=by
  have hlt:=hW.lt
  have hW2:=hW
  obtain ⟨p,q,hA,hV,rfl,hfz,hnd⟩:=hW
  rw [hv] at hV
  obtain ⟨rfl,rfl⟩:gs=[]∧q=[]:=by
    cases gs with
    | nil=>exact ⟨rfl,hV⟩
    | cons g gs=>exact hV.elim
  have hlen:ds.length=f.params.size:=by have:=(trodAll_length hA).2;simpa using this
  have hsame:∀ x∈p,w.sameAt w' x:=fun x hx=>by
    have hb:=hlt x (by simpa using hx)
    cases x with
    | cell b off=>
      show w'.cell? ⟨b,off,none⟩=w.cell? ⟨b,off,none⟩
      have hb:b<w.heap.size:=hb
      unfold World.cell?
      simp only [hh b hb]
    | map b=>exact hh b hb
  refine ⟨ds,[],p++[],[],p,[],hW2,?_,?_,?_,?_,fun h=>by cases h⟩
  · rw [append_nil,hres ds hlen,ht]
    exact trodAll_mk1 ⟨1,by simp [DataW.trod,hb,Value.cells]⟩
  · rw [append_nil,hargs ds hlen]
    refine U0 (DataW.TrodAll.respare K hz hp hA fun x hx=>?_) hsame
    simpa using hlt x (by simpa using hx)
  · rw [append_nil,hvars ds hlen,hv];rfl
  · refine ⟨ho,hout,fun i hi=>?_⟩
    rw [hh i hi]
    cases h:w.heap[i]? with
    | none=>rfl
    | some o=>cases o <;> simp
end
def T5 (W:World):Hs.Heap:=⟨fun b=>W.heap[b]?,W.os,W.output,W.tape,W.drawn⟩
theorem FQ (W:World):Hs.Mem W ([].flatten++[]) (T5 W):=⟨by simp,fun b o h=>by simp at h,fun b o h=>by simp at h,fun _ _ h=>h,rfl,rfl,rfl,Nat.le_refl _⟩
theorem I7 {P:Program} {f:FuncId} {args:Array Value} {W:World} (h:Hs.CT P f args [] (T5 W) (fun v N=>v=.bool true∧N=[])):
    Calls P f args W fun e W'=>e=.returned (.bool true)∧(∀ b,b<W.heap.size→W'.heap[b]?=W.heap[b]?)∧W'.os=W.os∧W'.output=W.output:=by
  refine callsIn_wide.1 ((h [] W (FQ W)).mono ?_)
  rintro e W' ⟨v,M',rfl,hm,rfl,rfl⟩
  refine ⟨rfl,fun b hb=>?_,hm.rest.1,hm.rest.2.1⟩
  rw [Array.getElem?_eq_getElem hb]
  exact hm.imm b _ (Array.getElem?_eq_getElem hb)
end
end Go.Proofs.YtjdjmjgleadcfaaGreatDoor
namespace Go.Proofs.YtjdjmjgleadcfaaGreatDoor.Hs
theorem w8b {n:Int} (h:0≤n∧n<256):IntKind.u8.wrap n=n:=by
  have e:IntKind.u8.wrap n=n % 256:=rfl
  rw [e];omega
theorem Zb4 {m:Nat} (h:m≤4611686018427387904):IntKind.i64.wrap ((BitVec.ofInt IntKind.i64.bits (m:Int) &&& BitVec.ofInt IntKind.i64.bits 127).toNat:Int)=((m % 128:Nat):Int):=by
  rw [show (127:Int)=((127:Nat):Int) from rfl,show IntKind.i64.bits=64 from rfl,BitVec.ofInt_natCast,BitVec.ofInt_natCast,BitVec.toNat_and,BitVec.toNat_ofNat,BitVec.toNat_ofNat,Nat.mod_eq_of_lt (by omega),Nat.mod_eq_of_lt (by omega)]
  have h2:=Nat.and_two_pow_sub_one_eq_mod m 7
  rw [show (2:Nat) ^ 7-1=127 from rfl,show (2:Nat) ^ 7=128 from rfl] at h2
  rw [h2]
  exact w64 (by omega)
theorem Zce {x:Nat} (h:x<128):IntKind.i64.wrap ((BitVec.ofInt IntKind.i64.bits (x:Int) ||| BitVec.ofInt IntKind.i64.bits 128).toNat:Int)=((x+128:Nat):Int):=by
  have:=AZ (n:=(x:Int)) (x:=1) (i:=7) (by omega) (by omega) (by simp;omega) (by simp;omega)
  rw [show (1:Int)*2 ^ 7=128 from rfl] at this
  rw [this];omega
section
variable {P:Program} {e:Operand→Value} {d:Option Nat} {T:TypeId} {T':TypeId} {ot:TypeId} {pos:String} {af:Array Edge} {g:Option (Nat×Bool)} {x y:Operand}
theorem Zc6 {k k':IntKind} {a b v:Int} (hx:e x=.int k a) (hy:e y=.int k' b) (h0:0≤b) (hv:a.fdiv (2 ^ (min b.toNat k.bits))=v):Pu P e ⟨d,.binOp .shr T x y T',ot,pos,af,g⟩ (.int k v):=fun w=>by
  simp only [execOp,hx,hy,eqGuard,binOp,Op.shift];simp [hv,show ¬ b<0 from by omega]
theorem Zba (m:Nat):(m:Int).fdiv (2 ^ (min (7:Int).toNat IntKind.i64.bits))=((m / 128:Nat):Int):=by
  rw [show min (7:Int).toNat IntKind.i64.bits=7 from rfl,show ((2:Int) ^ 7)=((128:Nat):Int) from rfl]
  exact (Int.ofNat_fdiv m 128).symm
theorem Zc9 {el:TypeId} (hT:∀ w,(underlying T).run P w=.ok (.slice el) w) (hx:e x=.slice none 0 0):Pu P e ⟨d,.call {callee:=.builtin .cap,args:=#[x],argTypes:=#[T]},ot,pos,af,g⟩ (.int .i64 0):=fun w=>by
  simp [execOp,resolve,invoke,builtin,hx,Builtin.cap_,hT,goInt]
theorem Zc7 {el:TypeId} {a:Option Addr} {n cap:Nat} {k:IntKind} (hT:∀ w,(underlying T).run P w=.ok (.slice el) w) (hsz:∀ w,(sizeOf el).run P w=.ok 1 w) (hx:e x=.slice a n cap) (hy:e y=.int k 0):
    Pu P e ⟨d,.slice T x none (some y) none,ot,pos,af,g⟩ (.slice a 0 cap):=fun w=>by
  have ea:(if cap=0 then a else a.map (·.add (0*1)))=a:=by
    cases a with
    | none=>simp
    | some a=>simp [Addr.add]
  simp [execOp,Instr.sliceAt,Instr.slice,Instr.sliceBounds,Instr.sliceBound,asIntOf,hx,hy,hT,hsz,Result.andThen]
  cases a with
  | none=>simp
  | some a=>simp [Addr.add]
end
def RBB (h:Heap) (cs:List Value) (l:List Int):Prop:=∃ v,cs=[v]∧Hs.rdS RB 1 h v l
theorem RBBs.mono {h h':Heap} (hh:Hle h h') {v:Value} {ll:List (List Int)} (q:Hs.rdS RBB 1 h v ll):Hs.rdS RBB 1 h' v ll:=rdS.mono q hh fun _ _ _ ⟨v,e,r⟩=>⟨v,e,RBs.mono hh r⟩
theorem DP {P:Program} {w:World} (s:ByteArray):Src P 1 w (.string s) s.size (Yk (sB s)).flatten:=by
  have e:(Yk (sB s)).flatten=(sB s).map (fun n=>Value.int .u8 n):=by
    unfold Yk
    generalize sB s=l
    induction l with
    | nil=>rfl
    | cons x l ih=>simp only [map_cons,flatten_cons,ih];rfl
  rw [e]
  refine ⟨by simp [Builtin.lenOf],fun m hm=>?_,by rw [length_map,Vg];omega⟩
  have e2:List.take m (List.map (fun b=>Value.int IntKind.u8 ↑b.toNat) s.data.toList)=((sB s).map (fun n=>Value.int .u8 n)).take m:=by
    unfold sB
    rw [List.map_map]
    rfl
  simp only [Builtin.firstCells,Sem.run_pure]
  congr 1
  apply Array.ext'
  simp only [Nat.mul_one]
  rw [← e2]
  simp
theorem Own.rdBB {T:TypeId} {v:Value} {es:List (List Value)} {k:Zi} {h:Heap} {ll:List (List Int)} (o:Own T 1 v es k) (hk:Has k h) (hl:ll.length=es.length) (hn:ll.length≤9223372036854775807) (hr:∀ i (h1:i<es.length) (h2:i<ll.length),RBB h es[i] ll[i]):Hs.rdS RBB 1 h v ll:=
  o.rdS hl hn hk hr
theorem Zda {T:TypeId} {v a b:Value} {k:Zi} {h:Heap} {l m:List Int} (o:Own T 1 v [[a],[b]] k) (hk:Has k h) (h1:Hs.rdS RB 1 h a l) (h2:Hs.rdS RB 1 h b m):Hs.rdS RBB 1 h v [l,m]:=
  o.rdBB hk rfl (by simp) fun i hi _=>by
    have:i=0∨i=1:=by simp at hi;omega
    rcases this with rfl | rfl
    · exact ⟨a,rfl,h1⟩
    · exact ⟨b,rfl,h2⟩
theorem Zdo {T:TypeId} {v a b c d:Value} {k:Zi} {h:Heap} {l m n p:List Int} (o:Own T 1 v [[a],[b],[c],[d]] k) (hk:Has k h) (h1:Hs.rdS RB 1 h a l) (h2:Hs.rdS RB 1 h b m) (h3:Hs.rdS RB 1 h c n) (h4:Hs.rdS RB 1 h d p):Hs.rdS RBB 1 h v [l,m,n,p]:=
  o.rdBB hk rfl (by simp) fun i hi _=>by
    have:i=0∨i=1∨i=2∨i=3:=by simp at hi;omega
    rcases this with rfl | rfl | rfl | rfl
    · exact ⟨a,rfl,h1⟩
    · exact ⟨b,rfl,h2⟩
    · exact ⟨c,rfl,h3⟩
    · exact ⟨d,rfl,h4⟩
theorem RR {ll:List (List Int)} {j:Nat} (h:j<ll.length):(ll.take (j+1)).flatten=(ll.take j).flatten++ll[j]:=by
  rw [take_succ_eq_append_getElem h,flatten_append];simp
theorem JS {ll:List (List Int)} {j:Nat} (h:j<ll.length):(ll.take j).flatten.length+ll[j].length≤ll.flatten.length:=by
  rw [← length_append,← RR h]
  have:ll.flatten=(ll.take (j+1)).flatten++(ll.drop (j+1)).flatten:=by rw [← flatten_append,take_append_drop]
  rw [this,length_append];omega
theorem Fj {P:Program} {H:Heap} {T:TypeId} {v:Value} {l:List Int} {k:Zi} {M:List Zi} {i:Nat} (o:Own T 1 v (Yk l) k) (hi:M[i]?=some k):∀ F w,Mem w (M.flatten++F) H→Src P 1 w v l.length (Yk l).flatten:=by
  intro F w m
  rcases o.2 with ⟨e,e2,e3⟩ | ⟨b,cap,sp,e,e2,e3,e4⟩
  · have:l=[]:=by have:=Z8 l;rw [e2] at this;exact eq_nil_of_length_eq_zero this.symm
    subst this
    rw [e];exact Src.nil
  · subst e
    have hb:w.heap[b]?=some (.cells ⟨(Yk l).flatten++sp⟩ T (0,0)):=(ZcD (M:=M) (H:=H) i hi (by rw [e2];simp)).heap m
    have:=Src.row (P:=P) (cap:=cap) (n:=l.length) hb (by have:=QX (sp:=sp) o.1;rwa [Z8] at this)
    rwa [Z8]
section
variable {c:Cx} {H:Heap} {ρ:Nat→Value} {M:List Zi} {K:Value→List Zi→Prop} {d:Option Nat} {ot:TypeId} {pos:String} {af:Array Edge} {g:Option (Nat×Bool)} {x y:Operand}
theorem Mj {T T' el:TypeId} {s:ByteArray} (hs:c.P.underlying T=some .string) (hd:c.P.underlying T'=some (.slice el)) (he:c.P.underlying el=some (.int .u8)) (hn:s.size≤9223372036854775807) (hx:ev c.n ρ x=.string s)
    (h:∀ v k,v.oneCell'=true→(∀ h,Has k h→Hs.rdS RB 1 h v (sB s))→K v (k::M)):Runs c H ⟨d,.convert T T' x,ot,pos,af,g⟩ ρ M K:=fun F w m=>by
  have hr:=run_bytes_of_string w T T' el s hs hd he
  refine ⟨_,w.drew.alloc (.cells (bytesRow s (grownCap w s.size 0 el)) el ((bytesRow s (grownCap w s.size 0 el)).size,(bytesRow s (grownCap w s.size 0 el)).size+1)),_,.inl ?_,?_,h (.slice (some ⟨w.heap.size,0,none⟩) s.size (grownCap w s.size 0 el)) [(w.heap.size,.cells (bytesRow s (grownCap w s.size 0 el)) el ((bytesRow s (grownCap w s.size 0 el)).size,(bytesRow s (grownCap w s.size 0 el)).size+1))] rfl ?_⟩
  · simp only [execOp,hx]
    simp only [Sem.run_bind,hr,Result.andThen_ok,Sem.run_pure]
  · exact m.push (w':=w.drew.alloc _) rfl
  · intro h hk
    have hb:=hk w.heap.size _ (mem_singleton.2 rfl)
    refine ⟨some ⟨w.heap.size,0,none⟩,grownCap w s.size 0 el,by rw [Vg],by rw [Vg];exact hn,.inr ⟨w.heap.size,0,(bytesRow s (grownCap w s.size 0 el)).toList,el,_,rfl,hb,rows.mk fun i hi=>⟨[.int .u8 (sB s)[i]],?_,rfl⟩⟩⟩
    have hl:i<s.data.toList.length:=by rw [Vg] at hi;exact hi
    have e:(bytesRow s (grownCap w s.size 0 el)).toList=(sB s).map (fun n=>Value.int .u8 n)++replicate (grownCap w s.size 0 el-s.size) (.int .u8 0):=by
      unfold bytesRow sB
      simp [List.map_map]
    rw [e,show 0+i*1=i from by omega,WY (by rw [length_append,length_map];omega)]
    congr 1
    rw [List.drop_append_of_le_length (by rw [length_map];omega),drop_eq_getElem_cons (by rw [length_map];exact hi),cons_append,take_succ_cons,List.take_zero,getElem_map]
theorem Mk {T T₂ el:TypeId} {by_ n:Nat} {z:Value} {kd:IntKind} (hT:∀ w,(underlying T).run c.P w=.ok (.slice el) w) (hT₂:∀ w,(underlying T₂).run c.P w=.ok (.int kd) w) (hel:El c.P el 1 by_ z)
    (hx:ev c.n ρ x=.slice none 0 0) (hy:ev c.n ρ y=.int .i64 (n:Int)) (h0:0<n) (hb1:0<by_) (hb:n*by_≤140737488355328)
    (h:∀ b cap (Z:List Value),Z.length=cap→n≤cap→K (.slice (some ⟨b,0,none⟩) n cap) ([(b,.cells ⟨Z⟩ el (0,0))]::M)):
    Runs c H ⟨d,.call {callee:=.builtin .append,args:=#[x,y],argTypes:=#[T,T₂]},ot,pos,af,g⟩ ρ M K:=fun F w m=>by
  obtain ⟨ti,hti,hti1,hti2,hti3⟩:=hel.info
  have hnb:n≤140737488355328:=by
    have:n*1≤n*by_:=Nat.mul_le_mul_left _ hb1
    omega
  have hfit:=growslice_fits (need:=n) (old:=0) (bytes:=by_) h0 hb
  have h3:¬ (Builtin.nextslicecap n 0*by_>2 ^ 48):=by omega
  have h2:by_≠0:=by omega
  have w1:IntKind.i64.wrap (n:Int)=n:=w64 (by omega)
  have n1:¬ ((n:Int)<0):=by omega
  have n2:¬ ((n:Int)*(by_:Int)>2 ^ 48):=by
    have:((n*by_:Nat):Int)≤140737488355328:=by omega
    rw [Int.natCast_mul] at this
    rw [show (2:Int) ^ 48=281474976710656 from rfl];omega
  have n3:¬ (n≤0):=by omega
  have n4:n≠0:=by omega
  have n5:¬ ((n:Int)>IntKind.i64.max):=by
    have:IntKind.i64.max=9223372036854775807:=by decide
    omega
  let newCap:=grownCap w n 0 el
  have hcap:n≤newCap:=by simp only [newCap,grownCap,Question.cut];omega
  have hzz:∀ m,(Builtin.zeroCells z.cells m).size=m:=fun m=>by rw [UV,hel.zsz];omega
  have hrun:(execOp (ev c.n ρ) ⟨d,.call {callee:=.builtin .append,args:=#[x,y],argTypes:=#[T,T₂]},ot,pos,af,g⟩).run c.P w=
      .ok (.value (.slice (some ⟨w.heap.size,0,none⟩) n newCap)) (w.drew.alloc (.cells (#[]++Builtin.zeroCells z.cells n++Builtin.zeroCells z.cells (newCap-n)) el)):=by
    simp only [execOp,resolve,invoke,builtin,List.map_toArray,map_cons,map_nil,hx,hy,Sem.run_bind,Sem.run_pure,Result.andThen_ok,Builtin.append_]
    simp only [List.getElem?_toArray,getElem?_cons_zero,getElem?_cons_succ,Sem.run_bind,hT,hT₂,hel.size,Result.andThen_ok,Sem.run_pure,if_true,asInt,asIntOf,w1,n1,if_false,hti,hti2,Nat.zero_add,Bool.not_true,Bool.false_eq_true,Nat.mul_one,Builtin.firstCells,Sem.run_ite,n2,Int.toNat_natCast,n3,n5,h2,or_false,and_true,h3,run_choose,Question.forced,run_askRoom,n4,hel.zero,newRow,run_newObj]
    rfl
  refine ⟨_,_,[(w.heap.size,.cells (#[]++Builtin.zeroCells z.cells n++Builtin.zeroCells z.cells (newCap-n)) el (0,0))]::M,.inl hrun,m.push (w':=w.drew.alloc _) rfl,?_⟩
  have:=h w.heap.size newCap ((#[]++Builtin.zeroCells z.cells n++Builtin.zeroCells z.cells (newCap-n)):Array Value).toList (by simp [hzz];omega) hcap
  exact this
end
abbrev W32:=BitVec 32
abbrev uv (x:W32):Value:=.int .u32 (x.toNat:Int)
theorem ZaV {n:Int} (h:0≤n∧n<4294967296):IntKind.u32.wrap n=n:=by
  have e:IntKind.u32.wrap n=n % 4294967296:=rfl
  rw [e];omega
theorem ZaU (n:Nat):IntKind.u32.wrap (n:Int)=((n % 4294967296:Nat):Int):=by
  have e:IntKind.u32.wrap (n:Int)=(n:Int) % 4294967296:=rfl
  rw [e];omega
theorem Zbr (x:W32):BitVec.ofInt 32 (x.toNat:Int)=x:=by
  rw [BitVec.ofInt_natCast];simp
theorem L5 (x:W32):BitVec.ofInt IntKind.u32.bits (x.toNat:Int)=x:=Zbr x
theorem DC (x:W32):IntKind.u32.wrap (x.toNat:Int)=(x.toNat:Int):=ZaV ⟨by omega,by have:=x.isLt;omega⟩
def wd (n:Int):W32:=BitVec.ofInt 32 n
theorem As {n:Int} (h:0≤n∧n≤255):((wd n).toNat:Int)=n:=by
  obtain ⟨m,rfl⟩:=Int.eq_ofNat_of_zero_le h.1
  rw [wd,BitVec.ofInt_natCast,BitVec.toNat_ofNat];omega
def lo8 (x:W32):Int:=((x.toNat % 256:Nat):Int)
theorem Ai (x:W32):0≤lo8 x∧lo8 x≤255:=by unfold lo8;omega
section
variable {P:Program} {e:Operand→Value} {d:Option Nat} {T:TypeId} {T':TypeId} {ot:TypeId} {pos:String} {af:Array Edge} {g:Option (Nat×Bool)} {x y:Operand} {a b:W32}
theorem ZcN (hx:e x=uv a) (hy:e y=uv b):Pu P e ⟨d,.binOp .add T x y T',ot,pos,af,g⟩ (uv (a+b)):=
  ZcO hx hy (by rw [← Int.natCast_add,ZaU,BitVec.toNat_add])
theorem ZcR (hx:e x=uv a) (hy:e y=uv b):Pu P e ⟨d,.binOp .and T x y T',ot,pos,af,g⟩ (uv (a &&& b)):=
  Pu.bits hx hy (by rw [L5,L5];exact DC _)
theorem ZcZ (hx:e x=uv a) (hy:e y=uv b):Pu P e ⟨d,.binOp .or T x y T',ot,pos,af,g⟩ (uv (a ||| b)):=
  Zdn hx hy (by rw [L5,L5];exact DC _)
theorem ZcL (hx:e x=uv a) (hy:e y=uv b):Pu P e ⟨d,.binOp .xor T x y T',ot,pos,af,g⟩ (uv (a ^^^ b)):=fun w=>by
  have h:IntKind.u32.wrap ((BitVec.ofInt IntKind.u32.bits (a.toNat:Int) ^^^ BitVec.ofInt IntKind.u32.bits (b.toNat:Int)).toNat:Int)=((a ^^^ b).toNat:Int):=by rw [L5,L5];exact DC _
  rw [uv,← h]
  simp only [execOp,hx,hy,eqGuard,binOp,Op.intBits];simp
theorem Zdi (hx:e x=uv a):Pu P e ⟨d,.unOp .xor T x,ot,pos,af,g⟩ (uv (~~~ a)):=fun w=>by
  have h:IntKind.u32.wrap ((BitVec.ofInt IntKind.u32.bits 4294967295 ^^^ BitVec.ofInt IntKind.u32.bits (a.toNat:Int)).toNat:Int)=((~~~ a).toNat:Int):=by
    rw [L5,← BitVec.allOnes_xor];exact DC (BitVec.allOnes 32 ^^^ a)
  rw [uv,← h]
  simp only [execOp,hx,Op.unary,Op.intBits];simp [show IntKind.u32.signed=false from rfl,show IntKind.u32.max=4294967295 from rfl]
theorem Zc5 {k:IntKind} {i:Int} (n:Nat) (hx:e x=uv a) (hy:e y=.int k i) (hi:i=(n:Int)) (hn:n≤32):Pu P e ⟨d,.binOp .shl T x y T',ot,pos,af,g⟩ (uv (a <<< n)):=
  Zdv hx hy (by omega) (by
    subst hi
    rw [Int.toNat_natCast,show min n IntKind.u32.bits=n from Nat.min_eq_left hn,BitVec.toNat_shiftLeft,Nat.shiftLeft_eq,← ZaU]
    simp)
theorem ZcV {k:IntKind} {i:Int} (n:Nat) (hx:e x=uv a) (hy:e y=.int k i) (hi:i=(n:Int)) (hn:n≤32):Pu P e ⟨d,.binOp .shr T x y T',ot,pos,af,g⟩ (uv (a >>> n)):=
  Zc6 hx hy (by omega) (by
    subst hi
    rw [Int.toNat_natCast,show min n IntKind.u32.bits=n from Nat.min_eq_left hn,BitVec.toNat_ushiftRight,Nat.shiftRight_eq_div_pow,show ((2:Int) ^ n)=((2 ^ n:Nat):Int) from by simp]
    exact (Int.ofNat_fdiv _ _).symm)
theorem Zde {n:Int} {t:TypeDesc} (hs:∀ w,(underlying T).run P w=.ok t w) (hT:∀ w,(underlying T').run P w=.ok (.int .u32) w) (hx:e x=.int .u8 n) (h:0≤n∧n≤255):Pu P e ⟨d,.convert T T' x,ot,pos,af,g⟩ (uv (wd n)):=
  ZcM hs hT hx (by rw [As h];exact ZaV (by omega))
theorem Zdf {t:TypeDesc} (hs:∀ w,(underlying T).run P w=.ok t w) (hT:∀ w,(underlying T').run P w=.ok (.int .u8) w) (hx:e x=uv a):Pu P e ⟨d,.convert T T' x,ot,pos,af,g⟩ (.int .u8 (lo8 a)):=
  ZcM hs hT hx (by
    have e:IntKind.u8.wrap (a.toNat:Int)=(a.toNat:Int) % 256:=rfl
    rw [e,lo8];omega)
theorem ZcW {n:Nat} {elem:TypeId} {l:List Value} {v:Value} {k:IntKind} {i:Int} (j:Nat) (hT:∀ w,(underlying T).run P w=.ok (.array n elem) w) (ty:Ty P elem false 1) (hx:e x=.agg ⟨l⟩) (hy:e y=.int k i) (hi:i=(j:Int)) (hj:j<n)
    (hv:l[j]?=some v):Pu P e ⟨d,.index T x y,ot,pos,af,g⟩ v:=fun w=>by
  subst hi
  simp [execOp,Instr.index,asIntOf,hT,hx,hy,part,ty.ag,ty.sz,hj,hv]
end
def uC (l:List W32):List Value:=l.map uv
theorem ZO (l:List W32):(uC l).length=l.length:=by simp [uC]
theorem Ve (l:List W32):okc (uC l):=fun v hv=>by
  unfold uC at hv
  obtain ⟨x,_,rfl⟩:=mem_map.1 hv
  rfl
theorem Xe {l:List W32} {i:Nat} (h:i<l.length):(uC l)[i]?=some (uv (l.getD i 0)):=by
  unfold uC;simp [h]
theorem XF {l:List W32} {i:Nat} (h:i<l.length):(uC l)[0+i*1]?=some (uv (l.getD i 0)):=by
  rw [Nat.zero_add,Nat.mul_one];exact Xe h
theorem Np {l:List W32} {i:Nat} {x:W32} (h:i<l.length):spl (uC l) i [uv x]=some (uC (l.set i x)):=by
  rw [WZ (by rw [ZO];simp;omega)]
  congr 1
  unfold uC
  rw [List.map_set,List.set_eq_take_append_cons_drop,if_pos (by simpa using h)]
  simp
theorem Rl {l:List W32} {i:Nat} {x:W32} (h:i<l.length):spl (uC l) (0+i*1) [uv x]=some (uC (l.set i x)):=by
  rw [Nat.zero_add,Nat.mul_one];exact Np h
def RU (_:Heap) (cs:List Value) (x:W32):Prop:=cs=[uv x]
theorem RUs.mono {h h':Heap} (hh:Hle h h') {v:Value} {l:List W32} (q:Hs.rdS RU 1 h v l):Hs.rdS RU 1 h' v l:=rdS.mono q hh fun _ _ _ e=>e
theorem Pm {T:TypeId} {v:Value} {l:List W32} {k:Zi} {h:Heap} (o:Own T 1 v (l.map fun x=>[uv x]) k) (hl:l.length≤1000) (hk:Has k h):Hs.rdS RU 1 h v l:=
  o.rdS (by simp) (by omega) hk fun i h1 h2=>by simp [RU]
theorem VI {T:TypeId} {v:Value} {l:List Int} {k:Zi} {h:Heap} (o:Own T 1 v (Yk l) k) (hn:l.length≤9223372036854775807) (hk:Has k h):byR h v l:=by
  have hr:=WR o hn hk
  rcases o.2 with ⟨e,e2,e3⟩ | ⟨b,cap,sp,e,e2,e3,e4⟩
  · have:l=[]:=eq_nil_of_length_eq_zero (by rw [← Z8 l,e2];rfl)
    refine ⟨none,0,by rw [e,this];rfl,by rw [this];simp,hr⟩
  · exact ⟨_,cap,by rw [e,Z8],by rw [Z8] at e4;exact e4,hr⟩
theorem byR.part {h:Heap} {a:Option Addr} {N cap:Nat} {l:List Int} (r:byR h (.slice a N cap) l) (n m:Nat) (hnm:n+m≤l.length):byR h (.slice (if cap=n then a else a.map (·.add (n*1))) m (cap-n)) ((l.drop n).take m):=by
  obtain ⟨a',c',e,h1,_⟩:=id r
  cases e
  have hl:((l.drop n).take m).length=m:=by rw [length_take,length_drop];omega
  exact ⟨_,_,by rw [hl],by rw [hl];omega,r.cut n m hnm⟩
section
variable {c:Cx} {H:Heap} {ρ:Nat→Value} {M:List Zi} {K:Value→List Zi→Prop} {d:Option Nat} {ot:TypeId} {pos:String} {af:Array Edge} {g:Option (Nat×Bool)} {x y z:Operand}
theorem HI {T el:TypeId} {k k':IntKind} {v:Value} {l:List Int} {i j:Int} (n m:Nat) (hT:∀ w,(underlying T).run c.P w=.ok (.slice el) w) (hsz:∀ w,(sizeOf el).run c.P w=.ok 1 w) (hp:byR H v l) (hx:ev c.n ρ x=v) (hy:ev c.n ρ y=.int k i) (hz:ev c.n ρ z=.int k' j)
    (hi:i=(n:Int)) (hj:j=(n:Int)+(m:Int)) (hn:n+m≤l.length) (h:∀ u,(∀ h',byR h' v l→byR h' u ((l.drop n).take m))→K u M):Runs c H ⟨d,.slice T x (some y) (some z) none,ot,pos,af,g⟩ ρ M K:=fun F w mm=>by
  subst hi
  obtain ⟨q,hq⟩:∃ q,q=n+m:=⟨_,rfl⟩
  have hj:j=(q:Int):=by omega
  subst hj
  obtain ⟨a,cap,rfl,h1,h2⟩:=hp
  refine ⟨_,w,M,.inl ?_,mm,h (.slice (if cap=n then a else a.map (·.add (n*1))) m (cap-n)) (fun _ q=>q.part n m hn)⟩
  have h3:q≤cap:=by omega
  have h4:n≤q:=by omega
  have h6:q-n=m:=by omega
  simp [execOp,Instr.sliceAt,Instr.slice,Instr.sliceBounds,Instr.sliceBound,asIntOf,hx,hy,hz,hT,hsz,Result.andThen,h3,h4,h6]
theorem Ql {T el:TypeId} {k':IntKind} {v:Value} {l:List Int} {j:Int} (m:Nat) (hT:∀ w,(underlying T).run c.P w=.ok (.slice el) w) (hsz:∀ w,(sizeOf el).run c.P w=.ok 1 w) (hp:byR H v l) (hx:ev c.n ρ x=v) (hz:ev c.n ρ z=.int k' j)
    (hj:j=(m:Int)) (hn:m≤l.length) (h:∀ u,(∀ h',byR h' v l→byR h' u (l.take m))→K u M):Runs c H ⟨d,.slice T x none (some z) none,ot,pos,af,g⟩ ρ M K:=fun F w mm=>by
  subst hj
  obtain ⟨a,cap,rfl,h1,h2⟩:=hp
  have hq:∀ h',byR h' (.slice a l.length cap) l→byR h' (.slice (if cap=0 then a else a.map (·.add (0*1))) m (cap-0)) (l.take m):=fun h' q=>by
    have:=q.part 0 m (by omega)
    rwa [List.drop_zero] at this
  refine ⟨_,w,M,.inl ?_,mm,h (.slice (if cap=0 then a else a.map (·.add (0*1))) m (cap-0)) hq⟩
  have h3:m≤cap:=by omega
  simp [execOp,Instr.sliceAt,Instr.slice,Instr.sliceBounds,Instr.sliceBound,asIntOf,hx,hz,hT,hsz,Result.andThen,h3]
theorem Qk {T el:TypeId} {k:IntKind} {v:Value} {l:List Int} {i:Int} (n:Nat) (hT:∀ w,(underlying T).run c.P w=.ok (.slice el) w) (hsz:∀ w,(sizeOf el).run c.P w=.ok 1 w) (hp:byR H v l) (hx:ev c.n ρ x=v) (hy:ev c.n ρ y=.int k i)
    (hi:i=(n:Int)) (hn:n≤l.length) (h:∀ u,(∀ h',byR h' v l→byR h' u (l.drop n))→K u M):Runs c H ⟨d,.slice T x (some y) none none,ot,pos,af,g⟩ ρ M K:=fun F w mm=>by
  subst hi
  obtain ⟨a,cap,rfl,h1,h2⟩:=hp
  have hq:∀ h',byR h' (.slice a l.length cap) l→byR h' (.slice (if cap=n then a else a.map (·.add (n*1))) (l.length-n) (cap-n)) (l.drop n):=fun h' q=>by
    have:=q.part n (l.length-n) (by omega)
    rwa [take_of_length_le (by rw [length_drop];omega)] at this
  refine ⟨_,w,M,.inl ?_,mm,h (.slice (if cap=n then a else a.map (·.add (n*1))) (l.length-n) (cap-n)) hq⟩
  simp [execOp,Instr.sliceAt,Instr.slice,Instr.sliceBounds,Instr.sliceBound,asIntOf,hx,hy,hT,hsz,Result.andThen,hn]
end
def Xh (l:List W32):W32:=l.foldl (· +·) 0
theorem Ix {l:List W32} {j:Nat} (h:j<l.length):Xh (l.take (j+1))=Xh (l.take j)+l[j]:=by
  unfold Xh
  rw [List.take_add_one,getElem?_eq_getElem h,List.foldl_append];rfl
theorem K5 (a b:W32):Xh [a,b]=a+b:=by simp [Xh]
theorem B5 (a b c:W32):Xh [a,b,c]=a+b+c:=by simp [Xh]
theorem Za6 (a b c d:W32):Xh [a,b,c,d]=a+b+c+d:=by simp [Xh]
theorem GU {n:Nat} (h:1≤n∧n≤31):IntKind.u64.wrap (-(n:Int))=18446744073709551616-(n:Int):=by
  have e:IntKind.u64.wrap (-(n:Int))=(-(n:Int)) % 18446744073709551616:=rfl
  rw [e];omega
theorem D6 {n:Nat} (h:1≤n∧n≤31):IntKind.u64.wrap ((BitVec.ofInt IntKind.u64.bits (18446744073709551616-(n:Int)) &&& BitVec.ofInt IntKind.u64.bits 31).toNat:Int)=((32-n:Nat):Int):=by
  have hd:∀ m:Fin 32,1≤m.1→IntKind.u64.wrap ((BitVec.ofInt IntKind.u64.bits (18446744073709551616-(m.1:Int)) &&& BitVec.ofInt IntKind.u64.bits 31).toNat:Int)=((32-m.1:Nat):Int):=by decide+kernel
  exact hd ⟨n,by omega⟩ h.1
theorem D5 {n:Nat} (h:1≤n∧n≤31):IntKind.u64.wrap (32-((32-n:Nat):Int))=(n:Int):=by
  have e:IntKind.u64.wrap (32-((32-n:Nat):Int))=(32-((32-n:Nat):Int)) % 18446744073709551616:=rfl
  rw [e];omega
def ZP (x:W32) (n:Nat):W32:=x <<< (32-n) ||| x >>> n
theorem AG (x:W32) (n:Nat):x >>> n ||| x <<< (32-n)=ZP x n:=BitVec.or_comm _ _
def Y7 (a b c:Nat) (lost:Bool) (w:W32):W32:=ZP w a ^^^ ZP w b ^^^ cond lost (w >>> c) (ZP w c)
def wk (bl:List Int) (i:Nat):Nat→W32
  | 0=>0
  | k+1=>wk bl i k <<< 8 ||| wd (bl.getD (4*i+k) 0)
def sp0 (bl:List Int):Nat→List W32
  | 0=>replicate 64 0
  | i+1=>(sp0 bl i).set i (wk bl i 4)
def spx (u:List W32) (i:Nat):W32:=u.getD (i-16) 0+u.getD (i-7) 0+Y7 7 18 3 true (u.getD (i-15) 0)+Y7 17 19 10 true (u.getD (i-2) 0)
def sp1 (w:List W32):Nat→List W32
  | 0=>w
  | i+1=>(sp1 w i).set (i+16) (spx (sp1 w i) (i+16))
def spr (bl:List Int):List W32:=sp1 (sp0 bl 16) 48
theorem Nt (bl:List Int) (i:Nat):(sp0 bl i).length=64:=by
  induction i with
  | zero=>rfl
  | succ i ih=>rw [sp0,length_set,ih]
theorem DS {w:List W32} (h:w.length=64) (i:Nat):(sp1 w i).length=64:=by
  induction i with
  | zero=>exact h
  | succ i ih=>rw [sp1,length_set,ih]
theorem Ns (bl:List Int):(spr bl).length=64:=DS (Nt bl 16) 48
theorem M7 {l:List W32} {i j:Nat} {x:W32} (h:i≠j):(l.set i x).getD j 0=l.getD j 0:=by
  simp [List.getD,h]
theorem M8 {l:List W32} {i:Nat} {x:W32} (h:i<l.length):(l.set i x).getD i 0=x:=by
  simp [List.getD,h]
theorem Za7 (bl:List Int) {i j:Nat} (h:i≤j):(sp0 bl i).getD j 0=0:=by
  induction i with
  | zero=>rw [sp0];simp only [List.getD,getElem?_replicate];split <;> rfl
  | succ i ih=>rw [sp0,M7 (by omega)];exact ih (by omega)
theorem GI {l:List W32} {i:Nat} (h:i<l.length):l.set i (l.getD i 0)=l:=by
  simp [List.getD,getElem?_eq_getElem h]
theorem II {l:List W32} {i:Nat} {x y:W32}:(l.set i x).set i y=l.set i y:=by simp
theorem OC (bl:List Int) {i:Nat} (h:i<64):(sp0 bl i).set i (wk bl i 0)=sp0 bl i:=by
  have:=GI (l:=sp0 bl i) (i:=i) (by rw [Nt];exact h)
  rw [Za7 bl (Nat.le_refl i)] at this
  exact this
theorem K9 {bl:List Int} {i k:Nat} {u:List W32} {x:Int} (hu:u=(sp0 bl i).set i (wk bl i k)) (hi:i<64) (hx:x=bl.getD (4*i+k) 0):u.set i (u.getD i 0 <<< 8 ||| wd x)=(sp0 bl i).set i (wk bl i (k+1)):=by
  subst hu hx
  rw [M8 (by rw [Nt];exact hi),II];rfl
theorem Zb1 {bl:List Int} {n:Nat} (h:n<bl.length):bl[n]=bl.getD n 0:=by
  rw [List.getD,getElem?_eq_getElem h];rfl
theorem QA {bl:List Int} {i k:Nat} (h:k<((bl.drop (4*i)).take 4).length):((bl.drop (4*i)).take 4)[k]=bl.getD (4*i+k) 0:=by
  rw [length_take,length_drop] at h
  rw [List.getElem_take,List.getElem_drop,List.getD,getElem?_eq_getElem (by omega)];rfl
def chW (v:List W32):W32:=(v.getD 4 0 &&& v.getD 5 0) ^^^ (~~~(v.getD 4 0) &&& v.getD 6 0)
def maW (v:List W32):W32:=(v.getD 0 0 &&& v.getD 1 0) ^^^ (v.getD 0 0 &&& v.getD 2 0) ^^^ (v.getD 1 0 &&& v.getD 2 0)
def fiW (v:List W32):W32:=v.getD 7 0+Y7 6 11 25 false (v.getD 4 0)+chW v
def seW (v:List W32):W32:=Y7 2 13 22 false (v.getD 0 0)+maW v
def rnd (v:List W32) (k w:W32):List W32:=[fiW v+k+w+seW v,v.getD 0 0,v.getD 1 0,v.getD 2 0,v.getD 3 0+(fiW v+k+w),v.getD 4 0,v.getD 5 0,v.getD 6 0]
def kW:List W32:=[0x428a2f98,0x71374491,0xb5c0fbcf,0xe9b5dba5,0x3956c25b,0x59f111f1,0x923f82a4,0xab1c5ed5,
  0xd807aa98,0x12835b01,0x243185be,0x550c7dc3,0x72be5d74,0x80deb1fe,0x9bdc06a7,0xc19bf174,
  0xe49b69c1,0xefbe4786,0x0fc19dc6,0x240ca1cc,0x2de92c6f,0x4a7484aa,0x5cb0a9dc,0x76f988da,
  0x983e5152,0xa831c66d,0xb00327c8,0xbf597fc7,0xc6e00bf3,0xd5a79147,0x06ca6351,0x14292967,
  0x27b70a85,0x2e1b2138,0x4d2c6dfc,0x53380d13,0x650a7354,0x766a0abb,0x81c2c92e,0x92722c85,
  0xa2bfe8a1,0xa81a664b,0xc24b8b70,0xc76c51a3,0xd192e819,0xd6990624,0xf40e3585,0x106aa070,
  0x19a4c116,0x1e376c08,0x2748774c,0x34b0bcb5,0x391c0cb3,0x4ed8aa4a,0x5b9cca4f,0x682e6ff3,
  0x748f82ee,0x78a5636f,0x84c87814,0x8cc70208,0x90befffa,0xa4506ceb,0xbef9a3f7,0xc67178f2]
def beW:List W32:=[0x6a09e667,0xbb67ae85,0x3c6ef372,0xa54ff53a,0x510e527f,0x9b05688c,0x1f83d9ab,0x5be0cd19]
def rds (h w:List W32):Nat→List W32
  | 0=>h
  | i+1=>rnd (rds h w i) (kW.getD i 0) (w.getD i 0)
theorem NI {h w:List W32} (hl:h.length=8) (i:Nat):(rds h w i).length=8:=by
  cases i with
  | zero=>exact hl
  | succ i=>rfl
def adW (v o:List W32):Nat→List W32
  | 0=>v
  | i+1=>(adW v o i).set i ((adW v o i).getD i 0+o.getD i 0)
theorem BN {v o:List W32} (h:v.length=8) (i:Nat):(adW v o i).length=8:=by
  induction i with
  | zero=>exact h
  | succ i ih=>rw [adW,length_set,ih]
def tkn (h:List W32) (bl:List Int):List W32:=adW (rds h (spr bl) 64) h 8
theorem VC {h:List W32} (hl:h.length=8) (bl:List Int):(tkn h bl).length=8:=BN (NI hl 64) 8
theorem Kf {l:List W32} (h:l.length=8):∃ a b c d e f g i,l=[a,b,c,d,e,f,g,i]:=by
  match l,h with
  | [a,b,c,d,e,f,g,i],_=>exact ⟨a,b,c,d,e,f,g,i,rfl⟩
theorem Mi {v o:List W32} (hv:v.length=8) (ho:o.length=8):adW v o 8=(range 8).map fun i=>v.getD i 0+o.getD i 0:=by
  obtain ⟨a,b,c,d,e,f,g,i,rfl⟩:=Kf hv
  obtain ⟨a',b',c',d',e',f',g',i',rfl⟩:=Kf ho
  simp [adW,range,List.range.loop,List.set]
theorem Dh {v o:List W32} (hv:v.length=8) (ho:o.length=8):adW o v 8=adW v o 8:=by
  rw [Mi hv ho,Mi ho hv]
  exact map_congr_left fun i _=>BitVec.add_comm _ _
theorem Uv {v:List W32} (h:v.length=8):(v.take 1++v.take 7).length=8:=by
  rw [length_append,length_take,length_take,h];rfl
theorem AH {v:List W32} (hv:v.length=8) (p q k w:W32) (hp:p=fiW v+k+w) (hq:q=seW v):
    ((v.take 1++v.take 7).set 4 ((v.take 1++v.take 7).getD 4 0+p)).set 0 (p+q)=rnd v k w:=by
  subst hp hq
  obtain ⟨a,b,c,d,e,f,g,i,rfl⟩:=Kf hv
  simp [rnd,List.set]
theorem ZbV (e f g:W32):(e &&& f) ||| (~~~e &&& g)=(e &&& f) ^^^ (~~~e &&& g):=by
  apply BitVec.eq_of_getLsbD_eq
  intro i hi
  simp only [BitVec.getLsbD_or,BitVec.getLsbD_and,BitVec.getLsbD_xor,BitVec.getLsbD_not,hi,decide_true,Bool.true_and]
  cases e.getLsbD i <;> cases f.getLsbD i <;> cases g.getLsbD i <;> rfl
theorem ZbC (a b c:W32):(a &&& b) ||| (a &&& c) ||| (b &&& c)=(a &&& b) ^^^ (a &&& c) ^^^ (b &&& c):=by
  apply BitVec.eq_of_getLsbD_eq
  intro i hi
  simp only [BitVec.getLsbD_or,BitVec.getLsbD_and,BitVec.getLsbD_xor]
  cases a.getLsbD i <;> cases b.getLsbD i <;> cases c.getLsbD i <;> rfl
def Yi (h:List W32) (b:List Int):List W32×List Int:=
  if 64≤b.length then Yi (tkn h (b.take 64)) (b.drop 64) else (h,b)
termination_by b.length
decreasing_by rw [length_drop];omega
theorem VN {h:List W32} {b:List Int} (hl:64≤b.length):Yi h b=Yi (tkn h (b.take 64)) (b.drop 64):=by
  rw [Yi,if_pos hl]
theorem UN {h:List W32} {b:List Int} (hl:¬ 64≤b.length):Yi h b=(h,b):=by
  rw [Yi,if_neg hl]
theorem Xz {b:List Int}:∀ {h:List W32},h.length=8→(Yi h b).1.length=8∧(Yi h b).2.length<64:=by
  induction hn:b.length using Nat.strongRecOn generalizing b with
  | ind n ih=>
    intro h hl
    by_cases h64:64≤b.length
    · rw [VN h64]
      exact ih _ (by rw [length_drop];omega) rfl (VC hl _)
    · rw [UN h64];exact ⟨hl,by simp only;omega⟩
theorem KO {b:List Int}:∀ {h:List W32},(∀ x∈b,0≤x∧x≤255)→(Yi h b).2.length≤b.length∧∀ x∈(Yi h b).2,0≤x∧x≤255:=by
  induction hn:b.length using Nat.strongRecOn generalizing b with
  | ind n ih=>
    intro h hb
    by_cases h64:64≤b.length
    · rw [VN h64]
      have:=ih _ (by rw [length_drop];omega) rfl (b:=b.drop 64) (h:=tkn h (b.take 64)) (fun x hx=>hb x (List.mem_of_mem_drop hx))
      rw [length_drop] at this
      exact ⟨by omega,this.2⟩
    · rw [UN h64];exact ⟨by simp only;omega,hb⟩
def zN (r:Nat):Nat:=(119-r % 64) % 64
def lnB (n:Nat):Nat→List Int
  | 0=>[]
  | i+1=>lnB n i++[((8*n / 2 ^ (56-8*i) % 256:Nat):Int)]
def VR (r n:Nat):List Int:=128::(replicate (zN r) 0++lnB n 8)
theorem G9 (l:List Int) (z:Nat):l++128::replicate z 0++[0]=l++128::replicate (z+1) 0:=by
  rw [append_assoc,cons_append,List.replicate_succ']
theorem Cp (l:List Int) (z:Nat):(l++128::replicate z 0).length=l.length+1+z:=by
  rw [length_append,length_cons,length_replicate];omega
theorem IW (z:Nat):(128::replicate z 0:List Int)++[0]=128::replicate (z+1) 0:=by
  rw [cons_append,List.replicate_succ']
theorem JA (n i:Nat):(lnB n i).length=i:=by
  induction i with
  | zero=>rfl
  | succ i ih=>rw [lnB,length_append,ih];rfl
theorem FP (l:List Int) (z n i:Nat):l++128::(replicate z 0++lnB n i)++[((8*n / 2 ^ (56-8*i) % 256:Nat):Int)]=l++128::(replicate z 0++lnB n (i+1)):=by
  rw [append_assoc,cons_append,append_assoc];rfl
theorem I6 (z n i:Nat):128::(replicate z 0++lnB n i)++[((8*n / 2 ^ (56-8*i) % 256:Nat):Int)]=128::(replicate z 0++lnB n (i+1)):=by
  rw [cons_append,append_assoc];rfl
theorem KS (r:Nat):zN r<64:=Nat.mod_lt _ (by decide)
theorem ZbD (n i:Nat):∀ x∈lnB n i,0≤x∧x≤255:=by
  induction i with
  | zero=>intro x hx;cases hx
  | succ i ih=>
    intro x hx
    rw [lnB] at hx
    rcases mem_append.1 hx with hx | hx
    · exact ih x hx
    · rw [mem_singleton] at hx;subst hx;omega
theorem Fa (r n:Nat):∀ x∈VR r n,0≤x∧x≤255:=by
  intro x hx
  rw [VR] at hx
  rcases mem_cons.1 hx with hx | hx
  · subst hx;decide
  · rcases mem_append.1 hx with hx | hx
    · have:=(List.mem_replicate.1 hx).2;subst this;decide
    · exact ZbD _ _ x hx
theorem E8 {l m:List Int} (hl:∀ x∈l,0≤x∧x≤255) (hm:∀ x∈m,0≤x∧x≤255):∀ x∈l++m,0≤x∧x≤255:=fun x hx=>(mem_append.1 hx).elim (hl x) (hm x)
theorem ZaS {n:Nat} (h:n≤1000000000):IntKind.u64.wrap ((n:Int)*8)=((8*n:Nat):Int):=by
  have e:IntKind.u64.wrap ((n:Int)*8)=((n:Int)*8) % 18446744073709551616:=rfl
  rw [e];omega
theorem ZaR {n:Nat} (h:n≤1000000000):IntKind.u64.wrap (8*(n:Int))=((8*n:Nat):Int):=by rw [Int.mul_comm];exact ZaS h
theorem ZaT {n:Nat} (h:n≤1000000000):IntKind.u64.wrap (n:Int)=(n:Int):=by
  have e:IntKind.u64.wrap (n:Int)=(n:Int) % 18446744073709551616:=rfl
  rw [e];omega
theorem Za9 {m q:Nat} {i:Int} (hi:i=(q:Int)) (h:q≤64):((m:Nat):Int).fdiv (2 ^ (min i.toNat IntKind.u64.bits))=((m / 2 ^ q:Nat):Int):=by
  subst hi
  rw [Int.toNat_natCast,show min q IntKind.u64.bits=q from Nat.min_eq_left h,show ((2:Int) ^ q)=((2 ^ q:Nat):Int) from by simp]
  exact (Int.ofNat_fdiv _ _).symm
theorem w8n (m:Nat):IntKind.u8.wrap ((m:Nat):Int)=((m % 256:Nat):Int):=by
  have e:IntKind.u8.wrap (m:Int)=(m:Int) % 256:=rfl
  rw [e];omega
def NK (h:List W32):Nat→Sm
  | 0=>zS
  | i+1=>(NK h i).setIfInBounds i (UInt8.ofNat (lo8 (h.getD (i / 4) 0 >>> (24-i % 4*8))).toNat)
@[irreducible] def endS (h:List W32) (l:List Int) (n:Nat):Sm:=NK (Yi h (l++VR l.length n)).1 32
@[irreducible] def sha (b:List Int):Sm:=endS (Yi beW b).1 (Yi beW b).2 b.length
theorem PL (h:List W32) (l:List Int) (n:Nat):endS h l n=NK (Yi h (l++VR l.length n)).1 32:=by
  delta endS;exact Eq.refl _
theorem Nw (b:List Int):sha b=endS (Yi beW b).1 (Yi beW b).2 b.length:=by
  delta sha;exact Eq.refl _
section
variable {P:Program} {e:Operand→Value} {d:Option Nat} {T:TypeId} {ot:TypeId} {pos:String} {af:Array Edge} {g:Option (Nat×Bool)} {x y:Operand}
theorem Zdc {n b q:Nat} {i:Int} {k:IntKind} {elem:TypeId} (hT:∀ w,(underlying T).run P w=.ok (.array n elem) w) (hsz:∀ w,(sizeOf elem).run P w=.ok 1 w) (hx:e x=.pointer (some ⟨b,0,none⟩)) (hy:e y=.int k i) (hi:i=(q:Int)) (hq:q<n):Pu P e ⟨d,.slice T x (some y) none none,ot,pos,af,g⟩ (.slice (some ⟨b,q,none⟩) (n-q) (n-q)):=fun w=>by
  subst hi
  have h1:q≤n:=by omega
  have h2:¬ n=q:=by omega
  simp [execOp,Instr.sliceAt,Instr.sliceBounds,Instr.sliceBound,asIntOf,Instr.sureAddr,hx,hy,hT,hsz,Result.andThen,Addr.add,h1,h2]
  exact fun h=>h.symm
theorem Zdd {n b q:Nat} {i:Int} {k:IntKind} {elem:TypeId} (hT:∀ w,(underlying T).run P w=.ok (.array n elem) w) (hsz:∀ w,(sizeOf elem).run P w=.ok 1 w) (hx:e x=.pointer (some ⟨b,0,none⟩)) (hy:e y=.int k i) (hi:i=(q:Int)) (hq:q≤n):Pu P e ⟨d,.slice T x none (some y) none,ot,pos,af,g⟩ (.slice (some ⟨b,0,none⟩) q n):=fun w=>by
  subst hi
  simp [execOp,Instr.sliceAt,Instr.sliceBounds,Instr.sliceBound,asIntOf,Instr.sureAddr,hx,hy,hT,hsz,Result.andThen,Addr.add,hq]
end
section
variable {c:Cx} {H:Heap} {ρ:Nat→Value} {M:List Zi} {K:Value→List Zi→Prop} {d:Option Nat} {ot:TypeId} {pos:String} {af:Array Edge} {g:Option (Nat×Bool)} {x y:Operand}
theorem LJ {T T₂ el T':TypeId} {b i:Nat} {v:List W32} (hl:v.length=8) (hT:∀ w,(underlying T).run c.P w=.ok (.slice el) w) (hsz:∀ w,(sizeOf el).run c.P w=.ok 1 w)
    (hx:ev c.n ρ x=.slice (some ⟨b,1,none⟩) 7 7) (hy:ev c.n ρ y=.slice (some ⟨b,0,none⟩) 7 8) (hi:M[i]?=some [(b,.cells ⟨uC v⟩ T' (0,0))])
    (h:K (.int .i64 7) (M.set i [(b,.cells ⟨uC (v.take 1++v.take 7)⟩ T' (0,0))])):
    Runs c H ⟨d,.call {callee:=.builtin .copy,args:=#[x,y],argTypes:=#[T,T₂]},ot,pos,af,g⟩ ρ M K:=fun F w mm=>by
  have hb:w.heap[b]?=some (.cells ⟨uC v⟩ T' (0,0)):=(ZcD (M:=M) (H:=H) i hi (by simp)).heap mm
  have hsub:sub (uC v) 0 (7*1)=some (uC (v.take 7)):=by
    rw [WY (by rw [ZO,hl];decide)]
    congr 1
    rw [List.drop_zero];unfold uC;rw [List.map_take]
  obtain ⟨hlen,hfc,hsl⟩:=Src.row (P:=c.P) (sz:=1) (n:=7) (cap:=8) hb hsub
  have hfc:=hfc 7 (Nat.le_refl _)
  rw [take_of_length_le (by rw [hsl];exact Nat.le_refl _)] at hfc
  have hspl:spl (uC v) 1 (uC (v.take 7))=some (uC (v.take 1++v.take 7)):=by
    obtain ⟨a,b,c,d,e,f,g,i,rfl⟩:=Kf hl
    rfl
  obtain ⟨hle,hre⟩:=WP hspl
  have hst:=run_storeCells_at c.P b 1 T' (uC (v.take 7)) 0 ⟨uC v⟩ w hb (by simpa using hle) (Ve _)
  have hst':(storeCells ⟨b,1,none⟩ (uC (v.take 7))).run c.P w=.ok () (w.setRow b ⟨uC (v.take 1++v.take 7)⟩):=by
    rw [hre];simpa [append_assoc] using hst
  refine ⟨.int .i64 7,_,_,.inl ?_,mm.write (k₁:=[]) (k₂:=[]) hi rfl,h⟩
  have hlen2:(Builtin.lenOf (.slice (some ⟨b,1,none⟩) 7 7)).run c.P w=.ok 7 w:=by simp [Builtin.lenOf]
  simp [execOp,resolve,invoke,builtin,hx,hy,Builtin.copy_,hT,hlen,hsz,hfc,hst',goInt]
end
section
set_option maxRecDepth 1000000
def rN (x n:Nat):Nat:=Nat.lor (Nat.mod (Nat.shiftLeft x (Nat.sub 32 n)) 4294967296) (Nat.shiftRight x n)
def adN (x y:Nat):Nat:=Nat.mod (Nat.add x y) 4294967296
def Zbs (x:Nat):Nat:=Nat.sub 4294967295 x
def mxN (a b c x:Nat):Nat:=Nat.xor (Nat.xor (rN x a) (rN x b)) (rN x c)
def mlN (a b c x:Nat):Nat:=Nat.xor (Nat.xor (rN x a) (rN x b)) (Nat.shiftRight x c)
def chN (e f g:Nat):Nat:=Nat.xor (Nat.land e f) (Nat.land (Zbs e) g)
def maN (a b c:Nat):Nat:=Nat.xor (Nat.xor (Nat.land a b) (Nat.land a c)) (Nat.land b c)
def wkN (bl:List Int) (i:Nat):Nat→Nat
  | 0=>0
  | k+1=>Nat.lor (Nat.mod (Nat.shiftLeft (wkN bl i k) 8) 4294967296) (Int.toNat (Int.emod (bl.getD (4*i+k) 0) 4294967296))
def Gz (bl:List Int):Nat→List Nat
  | 0=>replicate 64 0
  | i+1=>(Gz bl i).set i (wkN bl i 4)
def AB (u:List Nat) (i:Nat):Nat:=adN (adN (adN (u.getD (i-16) 0) (u.getD (i-7) 0)) (mlN 7 18 3 (u.getD (i-15) 0))) (mlN 17 19 10 (u.getD (i-2) 0))
def Gy (w:List Nat):Nat→List Nat
  | 0=>w
  | i+1=>(Gy w i).set (i+16) (AB (Gy w i) (i+16))
def DQ (bl:List Int):List Nat:=Gy (Gz bl 16) 48
def rdN:List Nat→List Nat→Nat→Nat→Nat→Nat→Nat→Nat→Nat→Nat→List Nat
  | k::ks,w::ws,a,b,c,d,e,f,g,h=>
    rdN ks ws (adN (adN (adN (adN (adN h (mxN 6 11 25 e)) (chN e f g)) k) w) (adN (mxN 2 13 22 a) (maN a b c))) a b c (adN d (adN (adN (adN (adN h (mxN 6 11 25 e)) (chN e f g)) k) w)) e f g
  | _,_,a,b,c,d,e,f,g,h=>[a,b,c,d,e,f,g,h]
def kN:List Nat:=kW.map BitVec.toNat
def ad8 (v o:List Nat):List Nat:=(range 8).map fun i=>adN (v.getD i 0) (o.getD i 0)
def tkN (h:List Nat) (bl:List Int):List Nat:=ad8 (rdN kN (DQ bl) (h.getD 0 0) (h.getD 1 0) (h.getD 2 0) (h.getD 3 0) (h.getD 4 0) (h.getD 5 0) (h.getD 6 0) (h.getD 7 0)) h
def Re:Nat→List Nat→List Int→List Nat
  | 0,h,_=>h
  | n+1,h,b=>Re n (tkN h (b.take 64)) (b.drop 64)
def beN:List Nat:=beW.map BitVec.toNat
end
def X1 (l:List W32):List Nat:=l.map BitVec.toNat
theorem Vk (l:List W32) (i:Nat):(X1 l).getD i 0=(l.getD i 0).toNat:=by
  unfold X1
  rw [getD_eq_getElem?_getD,getD_eq_getElem?_getD,getElem?_map]
  cases l[i]? <;> rfl
theorem MQ (l:List W32) (i:Nat) (x:W32):X1 (l.set i x)=(X1 l).set i x.toNat:=by unfold X1;rw [List.map_set]
theorem Tc (x y:W32):(x+y).toNat=adN x.toNat y.toNat:=by rw [BitVec.toNat_add];rfl
theorem Pr (x y:W32):(x ^^^ y).toNat=Nat.xor x.toNat y.toNat:=by rw [BitVec.toNat_xor];rfl
theorem MR (x y:W32):(x &&& y).toNat=Nat.land x.toNat y.toNat:=by rw [BitVec.toNat_and];rfl
theorem Zby (x y:W32):(x ||| y).toNat=Nat.lor x.toNat y.toNat:=by rw [BitVec.toNat_or];rfl
theorem Zbz (x:W32):(~~~x).toNat=Zbs x.toNat:=by rw [BitVec.toNat_not];rfl
theorem Jw (x:W32) (n:Nat):(x >>> n).toNat=Nat.shiftRight x.toNat n:=by rw [BitVec.toNat_ushiftRight];rfl
theorem Ae (x:W32) (n:Nat):(x <<< n).toNat=Nat.mod (Nat.shiftLeft x.toNat n) 4294967296:=by rw [BitVec.toNat_shiftLeft];rfl
theorem Ps (x:W32) (n:Nat):(ZP x n).toNat=rN x.toNat n:=by unfold ZP rN;rw [Zby,Ae,Jw];rfl
theorem ZbA (a b c:Nat) (x:W32):(Y7 a b c false x).toNat=mxN a b c x.toNat:=by unfold Y7 mxN;rw [Pr,Pr,Ps,Ps,cond_false,Ps]
theorem ZbB (a b c:Nat) (x:W32):(Y7 a b c true x).toNat=mlN a b c x.toNat:=by unfold Y7 mlN;rw [Pr,Pr,Ps,Ps,cond_true,Jw]
theorem Zcf (x:Int):(wd x).toNat=Int.toNat (Int.emod x 4294967296):=by unfold wd;rw [BitVec.toNat_ofInt];rfl
theorem Zbu (bl:List Int) (i:Nat):∀ k,(wk bl i k).toNat=wkN bl i k
  | 0=>rfl
  | k+1=>by rw [wk,wkN,Zby,Ae,Zbu bl i k,Zcf]
theorem Ad (bl:List Int):∀ i,X1 (sp0 bl i)=Gz bl i
  | 0=>by unfold sp0 Gz X1;rw [List.map_replicate];rfl
  | i+1=>by rw [sp0,Gz,MQ,Ad bl i,Zbu]
theorem Zbv (u:List W32) (i:Nat):(spx u i).toNat=AB (X1 u) i:=by
  unfold spx AB
  rw [Tc,Tc,Tc,ZbB,ZbB,Vk,Vk,Vk,Vk]
theorem Ac (w:List W32):∀ i,X1 (sp1 w i)=Gy (X1 w) i
  | 0=>rfl
  | i+1=>by rw [sp1,Gy,MQ,Zbv,Ac w i]
theorem Zbw (bl:List Int):X1 (spr bl)=DQ bl:=by unfold spr DQ;rw [Ac,Ad]
def rdF:List W32→List W32→List W32→List W32
  | k::ks,w::ws,v=>rdF ks ws (rnd v k w)
  | _,_,v=>v
theorem MI:∀ (ks ws:List W32) (k w:W32) (v:List W32),ks.length=ws.length→rdF (ks++[k]) (ws++[w]) v=rnd (rdF ks ws v) k w
  | [],[],_,_,_,_=>rfl
  | [],_::_,_,_,_,h=>by simp at h
  | _::_,[],_,_,_,h=>by simp at h
  | a::ks,b::ws,k,w,v,h=>by
    show rdF (ks++[k]) (ws++[w]) (rnd v a b)=_
    rw [MI ks ws k w _ (by simpa using h)];rfl
theorem B8 (h w:List W32) (hw:w.length=64):∀ n,n≤64→rds h w n=rdF (kW.take n) (w.take n) h
  | 0,_=>rfl
  | n+1,hn=>by
    have hk:n<kW.length:=by show n<64;omega
    rw [rds,B8 h w hw n (by omega),take_succ_eq_append_getElem hk,take_succ_eq_append_getElem (show n<w.length by omega),MI _ _ _ _ _ (by rw [length_take,length_take,hw];show min n 64=_;rfl)]
    congr 1
    · rw [getD_eq_getElem?_getD,getElem?_eq_getElem hk];rfl
    · rw [getD_eq_getElem?_getD,getElem?_eq_getElem (show n<w.length by omega)];rfl
theorem Zbx (a b c d e f g h k w:W32):rnd [a,b,c,d,e,f,g,h] k w=[h+Y7 6 11 25 false e+((e &&& f) ^^^ (~~~e &&& g))+k+w+(Y7 2 13 22 false a+((a &&& b) ^^^ (a &&& c) ^^^ (b &&& c))),a,b,c,d+(h+Y7 6 11 25 false e+((e &&& f) ^^^ (~~~e &&& g))+k+w),e,f,g]:=rfl
theorem Af:∀ (ks ws:List W32) (a b c d e f g h:W32),X1 (rdF ks ws [a,b,c,d,e,f,g,h])=rdN (X1 ks) (X1 ws) a.toNat b.toNat c.toNat d.toNat e.toNat f.toNat g.toNat h.toNat
  | [],_,_,_,_,_,_,_,_,_=>rfl
  | _::_,[],_,_,_,_,_,_,_,_=>rfl
  | k ::ks,w::ws,a,b,c,d,e,f,g,h=>by
    have e1:(h+Y7 6 11 25 false e+((e &&& f) ^^^ (~~~e &&& g))+k+w).toNat=adN (adN (adN (adN h.toNat (mxN 6 11 25 e.toNat)) (chN e.toNat f.toNat g.toNat)) k.toNat) w.toNat:=by
      rw [Tc,Tc,Tc,Tc,ZbA,Pr,MR,MR,Zbz];rfl
    have e2:(Y7 2 13 22 false a+((a &&& b) ^^^ (a &&& c) ^^^ (b &&& c))).toNat=adN (mxN 2 13 22 a.toNat) (maN a.toNat b.toNat c.toNat):=by
      rw [Tc,ZbA,Pr,Pr,MR,MR,MR];rfl
    show X1 (rdF ks ws (rnd [a,b,c,d,e,f,g,h] k w))=rdN (k.toNat::X1 ks) (w.toNat::X1 ws) _ _ _ _ _ _ _ _
    rw [Zbx,Af,rdN,Tc _ (Y7 2 13 22 false a+_),Tc d,e1,e2]
theorem Zcg {h:List W32} (hl:h.length=8) (bl:List Int):X1 (tkn h bl)=tkN (X1 h) bl:=by
  have hr:=NI hl (w:=spr bl) 64
  have e1:X1 (rds h (spr bl) 64)=rdN kN (DQ bl) ((X1 h).getD 0 0) ((X1 h).getD 1 0) ((X1 h).getD 2 0) ((X1 h).getD 3 0) ((X1 h).getD 4 0) ((X1 h).getD 5 0) ((X1 h).getD 6 0) ((X1 h).getD 7 0):=by
    rw [B8 h (spr bl) (Ns bl) 64 (Nat.le_refl _),take_of_length_le (show kW.length≤64 by decide),take_of_length_le (by rw [Ns];decide)]
    obtain ⟨a,b,c,d,e,f,g,i,rfl⟩:=Kf hl
    rw [Af,Zbw];rfl
  unfold tkn tkN
  rw [Mi hr hl,← e1]
  unfold ad8 X1
  rw [List.map_map]
  refine map_congr_left fun i _=>?_
  have a:=Vk (rds h (spr bl) 64) i
  have b:=Vk h i
  unfold X1 at a b
  rw [a,b]
  exact Tc _ _
theorem Ag:∀ (n:Nat) {h:List W32} {b:List Int},h.length=8→b.length=64*n→X1 (Yi h b).1=Re n (X1 h) b
  | 0,h,b,hl,hb=>by rw [UN (by omega)];rfl
  | n+1,h,b,hl,hb=>by
    rw [VN (by omega),Ag n (VC hl _) (by rw [length_drop];omega),Zcg hl];rfl
theorem De {p:List Int}:∀ {b:List Int} {h:List W32},Yi (Yi h b).1 ((Yi h b).2++p)=Yi h (b++p):=by
  intro b
  induction hn:b.length using Nat.strongRecOn generalizing b with
  | ind n ih=>
    intro h
    by_cases h64:64≤b.length
    · rw [VN h64,ih _ (by rw [length_drop];omega) rfl,VN (h:=h) (b:=b++p) (by rw [length_append];omega),List.take_append_of_le_length h64,List.drop_append_of_le_length h64]
    · rw [UN h64]
theorem HB:∀ {b:List Int} {h:List W32},(Yi h b).2.length=b.length % 64:=by
  intro b
  induction hn:b.length using Nat.strongRecOn generalizing b with
  | ind n ih=>
    intro h
    by_cases h64:64≤b.length
    · rw [VN h64,ih _ (by rw [length_drop];omega) rfl,length_drop];omega
    · rw [UN h64];simp only;omega
theorem Fb (r n:Nat):VR (r % 64) n=VR r n:=by unfold VR zN;rw [Nat.mod_mod]
theorem Pp (h:List W32):∀ (n i:Nat) (hi:i<32),i<n→n≤32→(NK h n)[i]=UInt8.ofNat (lo8 (h.getD (i / 4) 0 >>> (24-i % 4*8))).toNat
  | 0,i,_,h0,_=>absurd h0 (by omega)
  | n+1,i,hi,h0,hn=>by
    rw [NK]
    simp only [Vector.getElem_setIfInBounds]
    by_cases e:n=i
    · subst e;simp
    · rw [if_neg e];exact Pp h n i hi (by omega) (by omega)
theorem Nv {b:List Int} (n:Nat) (hn:(b++VR b.length b.length).length=64*n):(sha b)[0]=UInt8.ofNat (Nat.shiftRight ((Re n beN (b++VR b.length b.length)).getD 0 0) 24 % 256)∧(sha b)[1]=UInt8.ofNat (Nat.shiftRight ((Re n beN (b++VR b.length b.length)).getD 0 0) 16 % 256):=by
  have e:((Re n beN (b++VR b.length b.length)).getD 0 0)=((Yi beW (b++VR b.length b.length)).1.getD 0 0).toNat:=by
    rw [← Vk,Ag n (h:=beW) rfl hn];rfl
  rw [Nw,PL,HB,Fb,De,e]
  constructor
  · rw [Pp _ 32 0 (by decide) (by decide) (by decide)]
    unfold lo8
    rw [Int.toNat_natCast,Jw]
  · rw [Pp _ 32 1 (by decide) (by decide) (by decide)]
    unfold lo8
    rw [Int.toNat_natCast,Jw]
section
attribute [local irreducible] JL J CT wlo DT
theorem Ir (cs:List Value) (H:Heap) (hl:cs.length=4):CT prog 195 ⟨[.agg ⟨cs⟩]⟩ [] H (fun v N=>∃ b,v=.func (.func 229) ⟨[]⟩ ⟨[pp b 0]⟩∧N=[(BX b cs 82)]):=by
 refine Zl func195 rfl rfl<|Zc<|JLr (Zr (l:=cs) rfl rfl fun b1=>JLa .nilFunc<|Za<|Zc<|JLq (.func (.func 229) ⟨[]⟩ ⟨[pp b1 0]⟩) (Pu.makeFunc rfl rfl)<|JAn rfl<|ZC (.func (.func 229) ⟨[]⟩ ⟨[pp b1 0]⟩) [(BX b1 cs 82)] (Sk Sub.nil) (?_))
 exact ⟨_,rfl,rfl⟩
set_option maxHeartbeats 2000000 in
theorem H0:∀ (l:Nat) (yc:Int→Zi) (bY bW:Nat) (x:It) (lv n:Int) (cs:List Value) (H:Heap),RIt H cs x→gdI x→1≤lv→lv+dpI x≤251→0≤n→n+szI x≤5000→H bY=some (.cells ⟨[.func (.yield l) ⟨[]⟩ ⟨[]⟩]⟩ 265 (0,0))→H bW=some (.cells ⟨[.func (.func 230) ⟨[]⟩ ⟨[pp bY 0,pp bW 0]⟩]⟩ 265 (0,0))→(∀ (y:It) (lv n:Int) (a:List Value) (h:Heap),gdI y→1≤lv→lv≤250→0≤n→n+1≤5000→Hle H h→RIt h a y→YT prog l ⟨[iv lv,.agg ⟨a⟩]⟩ [yc n] h (fun v N=>v=.bool true∧N=[yc (n+1)]))→CT prog 230 ⟨[iv lv,.agg ⟨cs⟩,pp bY 0,pp bW 0]⟩ [yc n] H (fun v N=>v=.bool true∧N=[yc (n+szI x)]):=by
 intro l yc bY bW x
 induction x using It.ind with
 | h kd nm tx kids ih=>
 intro lv n cs H ht hgd hl0 hlv hn0 hnz hHY hHW hy
 obtain ⟨kv,rfl,hk,hm,hks⟩:=RIt_mk.1 ht
 have hg:=hgd
 rw [gdI] at hg
 rw [szI] at hnz
 rw [dpI] at hlv
 have hle:=hks.le
 have hdn:=N6 kids
 refine Zl func230 rfl rfl<|Zc<|JLr (Zr (l:=[iv kd,iv nm,.string tx,kv]) rfl rfl fun b1=>JAn rfl<|Zf<|Zc<|JLr (Zb KW rfl (Zcx hHY) rfl<|JLM rfl<|JLr (Zn Y3 rfl (Zcu 0 rfl) rfl<|TL 1 rfl rfl rfl (fun hin=>hy _ _ _ _ _ hgd (by omega) (by omega) (by omega) (by omega) (Hle.hu _ _) (RIt.mono (Hle.hu _ _) (RIt_mk.2 ⟨kv,rfl,hk,hm,hks⟩))) rfl ?_)))
 rintro _ _ ⟨rfl,rfl⟩
 refine JLq (.bool false) (show Pu _ _ _ (.bool (!true)) from Pu.not rfl)<|Za<|Zs (b:=false) rfl (fun h=>absurd h (by simp)) (fun _=>Zk<|Zf<|Zc<|JLq (pp b1 3) (YS rfl rfl)<|JLr (Zb Ww rfl (Zcu 1 rfl) rfl ?_))
 obtain ⟨a2,cap2,hv2⟩:=hks.sl
 have hle2:=hks.le
 refine JLn (Zcv Xl hv2)<|JLM rfl<|Za<|Zh<|Zv (fun k ρ M=>∃ (j:Nat) (nn:Int),ZR ρ [(0,iv lv),(3,pp bW 0),(6,.bool false),(15,kv),(16,iv ((kids.length:Int))),(17,iv ((j:Int)))]=ρ∧Sub [yc nn] M∧j≤kids.length∧nn+Xu (kids.drop j)=n+1+Xu kids∧0≤nn∧k=kids.length-j) _ ⟨0,n+1,Zj rfl,(Sk Sub.nil),Nat.zero_le _,(by simp),(by omega),rfl⟩ ?_
 rintro _ ρ3 _ ⟨j,nn,e4,hm10,hj,hnn,hn1,rfl⟩
 obtain ⟨ρ11,rfl⟩:=Zo e4
 clear e4
 refine ZD hm10 ?_
 have hlen:=hks.le
 refine Zc<|JLn (Pu.lss rfl rfl)<|Za<|Zf<|ZF rfl (fun h12=>?_) (fun h12=>?_)
 ·have h12n:j<kids.length:=by omega
  have hs1:=Mu (getElem_mem h12n)
  have hs2:=Oy h12n
  have hd1:=Lm (getElem_mem h12n)
  have hgj:=SS hg.2.2.2 _ (getElem_mem h12n)
  refine Zk<|Zf<|Zh<|Zf<|Zd ?_
  obtain ⟨b13,o13,cap13,row13,T13,fr13,cs13,hv13,hb13,hs13,hE13⟩:=hks.get j (by omega)
  obtain ⟨ki13,rfl,hik13,hin13,hks13⟩:=Ut hE13
  refine JLn (Zcw j Xl Y3 hv13 rfl rfl (by omega))<|JLr (Zn Y3 rfl (Zcx hb13) hs13<|JLr (Zp (l:=[iv 0,iv 0,.string (⟨#[]⟩),nS]) zeroValue82 rfl fun b14=>JLr (Ze 0 (vs:=[iv ((kids[j]).kind),iv ((kids[j]).num),.string ((kids[j]).text),ki13]) (l:=[iv ((kids[j]).kind),iv ((kids[j]).num),.string ((kids[j]).text),ki13]) Y3 rfl rfl rfl rfl rfl (Zg rfl (Zg rfl (Zg rfl (Zg hks13.one Zq)))) rfl<|Za<|Zc<|JLr (Zb KW rfl (Zcx hHW) rfl<|JLM rfl<|JLn (ZcG rfl rfl (by first | omega | (constructor <;> omega)))<|JLr (Zn Y3 rfl (Zcu 0 rfl) rfl<|ZG 1 rfl call230 rfl rfl (fun hin=>ih _ (getElem_mem h12n) _ _ _ _ (RIt.mono (Hle.hu _ _) (Us hik13 hin13 hks13)) hgj (by omega) (by omega) (by omega) (by omega) (Hle.hu _ _ _ _ hHY) (Hle.hu _ _ _ _ hHW) (fun y lv n a h k1 k1b k2 k3 k4 hh=>hy y lv n a h k1 k1b k2 k3 k4 (Hle.trans (Hle.hu _ _) hh))) rfl ?_)))))
  rintro _ _ ⟨rfl,rfl⟩
  refine JLq (.bool false) (show Pu _ _ _ (.bool (!true)) from Pu.not rfl)<|Za<|Zs (b:=false) rfl (fun h=>absurd h (by simp)) (fun _=>Zk<|Zd<|JLn (Zcy rfl rfl (by omega))<|JLM rfl<|Za<|⟨_,?_,(j+1),(nn+(szI (kids[j]):Int)),Zj rfl,(Sk Sub.nil),?_,?_,?_,rfl⟩)
  ·omega
  ·omega
  ·omega
  omega
 have h12n:kids.length≤j:=by omega
 refine Zu _ rfl<|Zc<|JAn rfl<|ZC (.bool true) [yc nn] (Sk Sub.nil) (?_)
 rw [WU h12n,Xu] at hnn
 exact ⟨rfl,by rw [szI,show (n+((1+Xu kids:Nat):Int))=nn from by omega]⟩
theorem LS (l:Nat) (yc:Int→Zi) (x:It) (cs:List Value) (H:Heap) (bT:Nat) (hx:RIt H cs x) (hT:H bT=some (.cells ⟨cs⟩ 82 (0,0))) (hg:gdI x) (hd:dpI x≤250) (hz:szI x≤5000) (hy:∀ (y:It) (lv n:Int) (a:List Value) (h:Heap),gdI y→1≤lv→lv≤250→0≤n→n+1≤5000→Hle H h→RIt h a y→YT prog l ⟨[iv lv,.agg ⟨a⟩]⟩ [yc n] h (fun v N=>v=.bool true∧N=[yc (n+1)])):CT prog 229 ⟨[.func (.yield l) ⟨[]⟩ ⟨[]⟩,pp bT 0]⟩ [yc 0] H (fun _ N=>N=[yc (szI x)]):=by
 refine Zl func229 rfl rfl<|Zc<|JLr (Zr (l:=[.func (.yield l) ⟨[]⟩ ⟨[]⟩]) rfl rfl fun b1=>Za<|Zc<|JLr (Zp (l:=[.nilFunc]) zeroValue265 rfl fun b2=>Za<|Zc<|JLq (.func (.func 230) ⟨[]⟩ ⟨[pp b1 0,pp b2 0]⟩) (Pu.makeFunc rfl rfl)<|JLr (Ze 0 (vs:=[.func (.func 230) ⟨[]⟩ ⟨[pp b1 0,pp b2 0]⟩]) (l:=[.func (.func 230) ⟨[]⟩ ⟨[pp b1 0,pp b2 0]⟩]) KW rfl rfl rfl rfl rfl (Zg rfl Zq) rfl ?_)))
 refine Za<|Zd<|JLr (Zb KW rfl (Zcu 0 rfl) rfl<|JLr (Zn Y3 rfl (Zcx hT) (ZE (VO hx))<|ZG 2 rfl call230 rfl rfl (fun hin=>H0 l yc _ _ _ _ _ _ _ (RIt.mono (Hle.hu _ _) hx) hg (by decide) (by omega) (by decide) (by omega) (hin 1 _ rfl _ _ mem_cons_self) (hin 0 _ rfl _ _ mem_cons_self) (fun y lv n a h k1 k1b k2 k3 k4 hh=>hy y lv n a h k1 k1b k2 k3 k4 (Hle.trans (Hle.hu _ _) hh))) rfl ?_))
 rintro _ _ ⟨rfl,rfl⟩
 refine Za<|⟨.tuple ⟨[]⟩,[yc (0+(szI x:Int))],Ret.none rfl,(Sk Sub.nil),?_⟩
 show _=_;rw [Int.zero_add]
theorem NM (n:Nat) (H:Heap) (hn:n≤1099511627776):CT prog 197 ⟨[iv ((n:Int))]⟩ [] H (fun r N=>∃ k,N=[k]∧Own 5 1 r (Yk (Y2 n)) k):=by
 obtain ⟨l,hl0⟩:∃ l:List Int,l=[]:=⟨_,rfl⟩
 refine Zl func197 rfl rfl<|Zc<|JAn rfl<|Zc<|JAn rfl<|Zf<|Zh<|Zv (fun k ρ M=>∃ (m:Nat) (p:List Int) (y:Value) (q1:Zi),ZR ρ [(0,iv ((m:Int))),(2,nS),(3,y)]=ρ∧Sub [q1] M∧Own 5 1 y (Yk p) q1∧p++Y2 m=l++Y2 n∧m≤n∧k=2*m+1) _ ⟨n,[],nS,[],Zj rfl,(Zcz Sub.nil),(by simpa [Yk] using Own.nil),(by rw [hl0]),(Nat.le_refl _),rfl⟩ ?_
 rintro _ ρ1 _ ⟨m,p,y,q1,e2,hm5,hown,hinv,hmn,rfl⟩
 obtain ⟨ρ6,rfl⟩:=Zo e2
 clear e2
 refine ZD hm5<|Zf<|Zc<|JLM rfl<|JLn (Pu.gtr rfl rfl)<|Za<|ZF rfl (fun h7=>?_) (fun h7=>?_)
 ·refine Zk<|Zf<|Zh ?_
  have hpl:p.length+(Y2 m).length=(Y2 n).length:=by rw [← length_append,hinv,hl0];rfl
  have hn6:=WD (n:=n) (by omega)
  refine Zd<|JLm y<|JLM rfl<|JLq (iv (((m % 128:Nat):Int))) (Pu.bits rfl rfl (Zb4 (by omega)))<|JLq (iv (((m % 128+128:Nat):Int))) (Zdn rfl rfl (Zce (by omega)))<|JLq (.int .u8 (((m % 128+128:Nat):Int))) (ZcM Ru3 Ru5 rfl (w8b (by omega)))<|JLr (Zm (vs:=[.int .u8 (((m % 128+128:Nat):Int))]) [[.int .u8 (((m % 128+128:Nat):Int))]] Yl el5 rfl rfl (al1 rfl) rfl (by decide) fun b8 k8 ho8 hk8=>?_)
  have hlens9:∀ e∈([[.int .u8 (((m % 128+128:Nat):Int))]]:List (List Value)),List.length e=1:=al1 rfl
  have hoks9:∀ e∈([[.int .u8 (((m % 128+128:Nat):Int))]]:List (List Value)),okc e:=al1 (Zg rfl Zq)
  refine JLr (Zz (i:=1) (n:=1) (es':=[[.int .u8 (((m % 128+128:Nat):Int))]]) Yl Yl (Or.inl rfl) el5 rfl rfl rfl hown (fun F w m=>Src.row (((ZcD 0 rfl (by rw [hk8];exact mem_cons_self))).heap m) (ZE (Zw hlens9))) rfl hlens9 hoks9 (by decide) (by rw [Z8];simp;omega) fun v9 k9 ho9=>?_)
  rw [X3] at ho9
  refine JLa v9<|Za<|Zd<|JLM rfl<|JLq (iv (((m / 128:Nat):Int))) (Zc6 rfl rfl (by decide) (Zba m))<|JAn rfl<|⟨_,?_,(m / 128),(p++[((m % 128+128:Nat):Int)]),v9,k9,Zj rfl,(Sd (Sk Sub.nil)),?_,?_,?_,rfl⟩
  ·omega
  ·simpa using ho9
  ·rw [QD (by omega)] at hinv;rw [← hinv];simp
  omega
 refine Zu _ rfl<|Zf ?_
 have hpl:p.length+(Y2 m).length=(Y2 n).length:=by rw [← length_append,hinv,hl0];rfl
 have hn6:=WD (n:=n) (by omega)
 refine Zd<|JLm y<|JLM rfl<|JLq (.int .u8 ((m:Int))) (ZcM Ru3 Ru5 rfl (w8b (by omega)))<|JLr (Zm (vs:=[.int .u8 ((m:Int))]) [[.int .u8 ((m:Int))]] Yl el5 rfl rfl (al1 rfl) rfl (by decide) fun b10 k10 ho10 hk10=>?_)
 have hlens11:∀ e∈([[.int .u8 ((m:Int))]]:List (List Value)),List.length e=1:=al1 rfl
 have hoks11:∀ e∈([[.int .u8 ((m:Int))]]:List (List Value)),okc e:=al1 (Zg rfl Zq)
 refine JLr (Zz (i:=1) (n:=1) (es':=[[.int .u8 ((m:Int))]]) Yl Yl (Or.inl rfl) el5 rfl rfl rfl hown (fun F w m=>Src.row (((ZcD 0 rfl (by rw [hk10];exact mem_cons_self))).heap m) (ZE (Zw hlens11))) rfl hlens11 hoks11 (by decide) (by rw [Z8];simp;omega) fun v11 k11 ho11=>?_)
 rw [X3] at ho11
 refine JLa v11<|Za<|ZC v11 [k11] (Sd (Sk Sub.nil)) (?_)
 rw [SI (by omega)] at hinv
 exact ⟨_,rfl,by rw [show Y2 n=l++Y2 n by rw [hl0];rfl,← hinv];exact ho11⟩
theorem CP (n:Nat) (H:Heap) (hn:n≤1000000):CT prog 205 ⟨[nS,iv ((n:Int))]⟩ [] H (fun r N=>∃ k,N=[k]∧Own 5 1 r [] k):=by
 refine Zl func205 rfl rfl<|Zc<|JAn rfl<|Zf<|Zc<|JLM rfl<|JLn (Pu.lss rfl rfl)<|Za<|ZF rfl (fun h1=>?_) (fun h1=>?_)
 ·have h1n:n<0:=by omega
  exfalso;first | omega | (have z:=h1;simp at z;omega)
 have h1n:0≤n:=by omega
 refine Zk<|Zf<|Zc<|JLM rfl<|JLM rfl<|JLq (iv 0) (Zc9 Yl rfl)<|JLM rfl<|JLn (Zcv Yl rfl)<|JLq (iv 0) (ZcS rfl rfl rfl)<|JLq (iv ((n:Int))) (ZcS rfl rfl ((congrArg IntKind.i64.wrap (Int.sub_zero _)).trans (w64 (by omega))))<|JLA rfl<|Za ?_
 refine Zc<|JLM rfl<|JLn (Pu.gtr rfl rfl)<|Za<|ZF rfl (fun h2=>?_) (fun h2=>?_)
 ·refine Zd<|JLM rfl<|JLM rfl<|JLq (iv 0) (Zc9 Yl rfl)<|JLq nS (Zc7 Yl sizeOf5 rfl rfl)<|JLM rfl<|JLr (Mk (n:=n) Yl Ru3 el5 rfl rfl (by omega) (by decide) (by omega) fun bZ capZ Z hZ hcZ=>JLM rfl<|JLn (Zcv Yl rfl)<|JLq (.slice (some ⟨bZ,0,none⟩) 0 capZ) (Zc7 Yl sizeOf5 rfl rfl)<|JAn rfl<|Zf ?_)
  refine Zd<|JLM rfl<|JAn rfl<|ZC (.slice (some ⟨bZ,0,none⟩) 0 capZ) [(BX bZ Z 5)] (Sk Sub.nil) (?_)
  exact ⟨_,rfl,by simp,.inr ⟨_,_,_,rfl,rfl,by simp;exact hZ,Nat.zero_le _⟩⟩
 refine Zk<|Zc<|JLM rfl<|JAn rfl<|ZC nS [[]] (Zcz Sub.nil) (?_)
 exact ⟨_,rfl,Own.nil⟩
set_option maxHeartbeats 2000000 in
theorem O9 (ll:List (List Int)) (v:Value) (H:Heap) (hv:Hs.rdS RBB 1 H v ll) (hz:ll.flatten.length≤1000000):CT prog 175 ⟨[v]⟩ [] H (fun r N=>∃ k,N=[k]∧Own 5 1 r (Yk ll.flatten) k):=by
 refine Zl func175 rfl rfl<|Zc<|JAn rfl<|Zc<|JAn rfl<|Zf<|Zc<|JLm v ?_
 obtain ⟨a1,cap1,hv1⟩:=hv.sl
 have hle1:=hv.le
 refine JLn (Zcv Of hv1)<|JLM rfl<|Za<|Zh<|Zv (fun k ρ M=>∃ (j:Nat) (s:Int),ZR ρ [(0,v),(2,nS),(3,iv s),(9,v),(10,iv ((ll.length:Int))),(11,iv ((j:Int)))]=ρ∧Sub [] M∧j≤ll.length∧s=((ll.take j).flatten.length:Int)∧k=ll.length-j) _ ⟨0,0,Zj rfl,Sub.nil,Nat.zero_le _,(by simp),rfl⟩ ?_
 rintro _ ρ2 _ ⟨j,s,e3,hm9,hj,hs,rfl⟩
 obtain ⟨ρ10,rfl⟩:=Zo e3
 clear e3
 refine ZD hm9<|Zc<|JLn (Pu.lss rfl rfl)<|Za<|Zf<|ZF rfl (fun h11=>?_) (fun h11=>?_)
 ·have h11n:j<ll.length:=by omega
  have hfl:=JS h11n
  have hlenl:=hv.le
  refine Zk<|Zf<|Zh<|Zf<|Zd ?_
  obtain ⟨b12,o12,cap12,row12,T12,fr12,cs12,hv12,hb12,hs12,hE12⟩:=hv.get j (by omega)
  obtain ⟨vb12,rfl,hvb12⟩:=hE12
  refine JLn (Zcw j Of Sn hv12 rfl rfl (by omega))<|JLr (Zb Sn rfl (Zcx hb12) (ZT hs12)<|JLa vb12<|Za<|Zc<|JLM rfl<|JLm vb12 ?_)
  obtain ⟨a13,cap13,hv13⟩:=hvb12.sl
  have hle13:=hvb12.le
  refine JLn (Zcv Yl hv13)<|JLn (ZcG rfl rfl (by first | omega | (constructor <;> omega)))<|JAn rfl<|Zc<|JLM rfl<|JLn (Pu.lss rfl rfl)<|Za<|ZF rfl (fun h14=>?_) (fun h14=>?_)
  ·exfalso;first | omega | (have z:=h14;simp at z;omega)
  refine Zk<|Zd<|JLn (Zcy rfl rfl (by omega))<|JLM rfl<|Za<|⟨_,?_,(j+1),(s+(((ll[j]).length:Int))),Zj rfl,Sub.nil,?_,?_,rfl⟩
  ·omega
  ·omega
  rw [RR h11n,length_append];omega
 have h11n:ll.length≤j:=by omega
 refine Zu _ rfl<|Zf ?_
 rw [take_of_length_le h11n] at hs
 obtain ⟨sn,rfl⟩:∃ sn:Nat,s=(sn:Int):=⟨_,hs⟩
 refine Zd<|JLM rfl<|Jc call205 rfl (fun hin=>CP sn _ (by omega)) rfl ?_
 rintro v15 _ ⟨k15,rfl,ho15⟩
 refine JLa v15<|Za<|Zf<|Zc<|JLm v ?_
 obtain ⟨a16,cap16,hv16⟩:=hv.sl
 have hle16:=hv.le
 refine JLn (Zcv Of hv16)<|JLM rfl<|Za<|Zh<|Zv (fun k ρ M=>∃ (j:Nat) (y:Value) (q1:Zi),ZR ρ [(2,nS),(6,y),(25,v),(26,iv ((ll.length:Int))),(27,iv ((j:Int)))]=ρ∧Sub [q1] M∧j≤ll.length∧Own 5 1 y (Yk ((ll.take j).flatten)) q1∧k=ll.length-j) _ ⟨0,v15,k15,Zj rfl,(Sk Sub.nil),Nat.zero_le _,(by simpa using (show Own 5 1 v15 (Yk []) k15 from ho15)),rfl⟩ ?_
 rintro _ ρ17 _ ⟨j,y,q1,e18,hm23,hj,hown,rfl⟩
 obtain ⟨ρ24,rfl⟩:=Zo e18
 clear e18
 refine ZD hm23<|Zc<|JLn (Pu.lss rfl rfl)<|Za<|Zf<|ZF rfl (fun h25=>?_) (fun h25=>?_)
 ·have h25n:j<ll.length:=by omega
  have hfl:=JS h25n
  refine Zk<|Zf<|Zh<|Zf<|Zd ?_
  obtain ⟨b26,o26,cap26,row26,T26,fr26,cs26,hv26,hb26,hs26,hE26⟩:=hv.get j (by omega)
  obtain ⟨vb26,rfl,hvb26⟩:=hE26
  refine JLn (Zcw j Of Sn hv26 rfl rfl (by omega))<|JLr (Zb Sn rfl (Zcx hb26) (ZT hs26)<|JLa vb26<|Za<|Zd<|JLm y<|JLm vb26<|JLr (Zz (i:=0) (n:=(ll[j]).length) (es':=Yk (ll[j])) Yl Yl (Or.inl rfl) el5 rfl rfl rfl hown (fun F w m=>P1 hvb26 w _ m) (Z8 _) (Um _) (S8 _) (by decide) (by rw [Z8];simp at *;omega) fun v27 k27 ho27=>?_))
  rw [← P2] at ho27
  refine JLa v27<|Za<|Zd<|JLn (Zcy rfl rfl (by omega))<|JLM rfl<|Za<|⟨_,?_,(j+1),v27,k27,Zj rfl,(Sk Sub.nil),?_,?_,rfl⟩
  ·omega
  ·omega
  rw [RR h25n];exact ho27
 have h25n:ll.length≤j:=by omega
 refine Zu _ rfl<|Zc<|JLm y<|JLa y<|Za<|ZC y [q1] (Sk Sub.nil) (?_)
 rw [take_of_length_le h25n] at hown
 exact ⟨_,rfl,hown⟩
theorem M3 (ll:List (List Int)) (v:Value) (H:Heap) (hv:Hs.rdS RBB 1 H v ll) (hz:ll.flatten.length≤1000000):CT prog 196 ⟨[v]⟩ [] H (fun r N=>∃ k,N=[k]∧Own 5 1 r (Yk ll.flatten) k):=by
 refine Zl func196 rfl rfl<|Zc<|JAn rfl<|Zc<|JLm v<|Jc call175 rfl (fun hin=>O9 _ _ _ (RBBs.mono (Hle.hu _ _) hv) hz) rfl ?_
 rintro v1 _ ⟨k1,rfl,ho1⟩
 refine JLa v1<|Za<|ZC v1 [k1] (Sk Sub.nil) (?_)
 exact ⟨_,rfl,ho1⟩
set_option maxHeartbeats 4000000 in
theorem Kx:∀ (x:It) (cs:List Value) (H:Heap),RIt H cs x→gdI x→(Ya x).length≤1000000→CT prog 155 ⟨[.agg ⟨cs⟩]⟩ [] H (fun r N=>∃ k,N=[k]∧Own 5 1 r (Yk (Ya x)) k):=by
 intro x
 induction x using It.ind with
 | h kd nm tx kids ih=>
 intro cs H ht hg hz
 obtain ⟨kv,rfl,hk,hm,hks⟩:=RIt_mk.1 ht
 rw [gdI] at hg
 obtain ⟨nn,rfl⟩:=Int.eq_ofNat_of_zero_le hg.2.1.1
 have hle:=hks.le
 have hn6:=WD (n:=nn) (by omega)
 have hs6:=WD (n:=tx.size) (by omega)
 have htl:=Nq hg.2.2.1
 have hsl:=Vg tx
 have hekl:=PM hg.2.2.2
 have hP:1+(Y2 nn).length+(txE tx).length+(if kids.length=0 then [] else Y2 kids.length++YY kids).length≤1000000:=by rw [Ya] at hz;simp only [length_cons,length_append,Int.toNat_natCast] at hz;omega
 have hP2:(YY kids).length≤1000000:=by
  by_cases h0:kids.length=0
  ·obtain rfl:=eq_nil_of_length_eq_zero h0;simp [YY]
  ·rw [if_neg h0,length_append] at hP;omega
 have hk6:=WD (n:=kids.length) (by omega)
 refine Zl func155 rfl rfl<|Zc<|JLr (Zr (l:=[iv kd,iv ((nn:Int)),.string tx,kv]) rfl rfl fun b1=>JAn rfl<|Zc<|JLq (pp b1 0) (RX rfl rfl)<|JLr (Zb ty3 rfl (Zcu 0 rfl) rfl<|JLq (.int .u8 kd) (ZcM Ru3 Ru5 rfl (w8b (by omega)))<|JLA rfl<|Za ?_))
 refine Zc<|JLA rfl<|JAn rfl<|Zf<|Zc<|JLq (pp b1 2) (Vp rfl rfl)<|JLr (Zb ty9 rfl (Zcu 0 rfl) rfl<|JLn (Zc3 rfl rfl)<|Za<|UR (N:=fun ρ M=>∃ (w1:Int) (y4:Value) (q4c:Zi),(w1=kd+(if tx=⟨#[]⟩ then 0 else 64))∧(Own 5 1 y4 (Yk (txE tx)) q4c)∧ρ 1=pp b1 0∧ρ 2=nS∧ρ 3=.int .u8 w1∧ρ 4=y4∧ρ 5=nS∧Sub [q4c,(BX b1 [iv kd,iv ((nn:Int)),.string tx,kv] 82)] M) ?_ ?_)
 ·refine Zs rfl (fun h2=>?_) (fun h2=>?_)
  ·replace h2:=nt h2
   replace h2:=df h2
   refine Zc<|JLM rfl<|JLq (.int .u8 (kd+64)) (ZcO rfl rfl (w8b (by omega)))<|JAn rfl<|ZI mixed #[0,1,3,7,0,16,48,127,255,511] 7 (sm 16 7) [] [(3,fun _ _ vw qw=>∃ k,qw=[k]∧Own 5 1 vw (Yk (Y2 (tx.size))) k),(6,fun _ _ vw qw=>∃ k,qw=[k]∧vw.oneCell'=true∧∀ h,Has k h→Hs.rdS RB 1 h vw (sB tx))] rfl (by kernel_rfl) rfl (by kernel_rfl)<|Dq (pp b1 2) (fun _=>Vp rfl rfl)<|Dl1 ty9 (Zcu 0 rfl) rfl<|Dn (fun _=>Zc4 Ru9 rfl) ?_
   refine Dc rfl call197 (fun _=>rfl) (fun hin=>NM (tx.size) _ (by omega)) ?_
   rintro v5 _ ⟨k5,rfl,ho5⟩
   refine Dq (pp b1 2) (fun _=>Vp rfl rfl)<|Dl1 ty9 (Zcu 0 rfl) rfl ?_
   refine Dr rfl (fun _=>Mj underlying9 underlying28 underlying5 (by omega) rfl fun v k h1 h2=>⟨[k],by rw [Z4 rfl];exact Sub.refl,k,rfl,h1,h2⟩) ?_;rintro v6 _ ⟨k6,rfl,hc6,hr6⟩
   refine ZM (M':=[k6,k5,(BX b1 [iv kd,iv ((nn:Int)),.string tx,kv] 82)]) rfl ?_
   show JL _ _ _ [_,_,_] _ _ _
   refine JLr (Zm (vs:=[v5,v6]) [[v5],[v6]] Of Zao rfl (congr (congrArg List.cons (ZS ho5.one)) (congr (congrArg List.cons (ZS hc6)) rfl)) (alc rfl (al1 rfl)) rfl (by decide) fun b7 k7 ho7 hk7=>Jc call196 rfl (fun hin=>M3 [Y2 (tx.size),sB tx] _ _ (Zda ho7 (hin 0 _ rfl) (WR ho5 (by first | omega | (simp only [length_append];omega)) (hin 2 _ rfl)) (hr6 _ (hin 1 _ rfl))) (by simp only [flatten_cons,flatten_nil,length_append,length_cons,List.length_nil];omega)) rfl ?_)
   rintro v8 _ ⟨k8,rfl,ho8⟩
   refine JLa v8<|Za ?_
   exact ⟨(kd+64),v8,k8,(by rw [if_neg h2]),(by have z:=ho8;unfold txE;rw [if_neg h2];simpa using z),rfl,rfl,rfl,rfl,rfl,(Sk (Sd (Sd (Sd (Sk Sub.nil)))))⟩
  replace h2:=nf h2
  replace h2:=dt h2
  refine Zk ?_
  exact ⟨kd,nS,[],(by rw [if_pos (by have z:=h2;simpa using z)];omega),(by unfold txE;rw [if_pos (by have z:=h2;simpa using z)];exact Own.nil),rfl,rfl,rfl,rfl,rfl,(Zcz (Sk Sub.nil))⟩
 rintro ρ9 _ ⟨w1,y4,q4c,h_w1,how4,e10,e11,e12,e13,e14,hm15⟩
 obtain ⟨ρ16,rfl⟩:=Zo (uc e10 (uc e11 (uc e12 (uc e13 (uc e14 un)))))
 clear e10 e11 e12 e13 e14
 refine ZD hm15<|Zf<|Zc<|JLq (pp b1 3) (YS rfl rfl)<|JLr (Zb Ww rfl (Zcu 1 rfl) rfl ?_)
 obtain ⟨a17,cap17,hv17⟩:=hks.sl
 have hle17:=hks.le
 refine JLn (Zcv Xl hv17)<|JLn (Pu.gtr rfl rfl)<|Za<|UR (N:=fun ρ M=>∃ (w2:Int) (y5:Value) (q5c:Zi),(w2=hdE kd tx kids.length)∧(Own 5 1 y5 (Yk (if kids.length=0 then [] else Y2 kids.length++YY kids)) q5c)∧ρ 1=pp b1 0∧ρ 2=nS∧ρ 3=.int .u8 w2∧ρ 4=y4∧ρ 5=y5∧Sub [q5c,q4c,(BX b1 [iv kd,iv ((nn:Int)),.string tx,kv] 82)] M) ?_ ?_
 ·refine ZF rfl (fun h18=>?_) (fun h18=>?_)
  ·refine Zc<|JLM rfl<|JLq (.int .u8 (w1+128)) (ZcO rfl rfl (w8b (by omega)))<|JAn rfl<|Zc<|JLq (pp b1 3) (YS rfl rfl)<|JLr (Zb Ww rfl (Zcu 1 rfl) rfl ?_)
   obtain ⟨a19,cap19,hv19⟩:=hks.sl
   have hle19:=hks.le
   refine JLn (Zcv Xl hv19)<|Jc call197 rfl (fun hin=>NM (kids.length) _ (by omega)) rfl ?_
   rintro v20 _ ⟨k20,rfl,ho20⟩
   refine JLa v20<|Za<|Zc<|JLq (pp b1 3) (YS rfl rfl)<|JLr (Zb Ww rfl (Zcu 2 rfl) rfl ?_)
   obtain ⟨a21,cap21,hv21⟩:=hks.sl
   have hle21:=hks.le
   refine JLn (Zcv Xl hv21)<|JLM rfl<|Za<|Zh<|Zv (fun k ρ M=>∃ (j:Nat) (y:Value) (q1:Zi),ZR ρ [(1,pp b1 0),(2,nS),(3,.int .u8 (w1+128)),(4,y4),(5,y),(36,kv),(37,iv ((kids.length:Int))),(38,iv ((j:Int)))]=ρ∧Sub [q1,q4c,(BX b1 [iv kd,iv ((nn:Int)),.string tx,kv] 82)] M∧j≤kids.length∧Own 5 1 y (Yk (Y2 kids.length++YY (kids.take j))) q1∧k=kids.length-j) _ ⟨0,v20,k20,Zj rfl,(Sk (Sk (Sk Sub.nil))),Nat.zero_le _,(by have z:=ho20;simpa [YY] using z),rfl⟩ ?_
   rintro _ ρ22 _ ⟨j,y,q1,e23,hm31,hj,hown,rfl⟩
   obtain ⟨ρ32,rfl⟩:=Zo e23
   clear e23
   refine ZD hm31<|Zc<|JLn (Pu.lss rfl rfl)<|Za<|Zf<|ZF rfl (fun h33=>?_) (fun h33=>?_)
   ·have h33n:j<kids.length:=by omega
    have hs1:=Qh h33n
    have hgj:=SS hg.2.2.2 _ (getElem_mem h33n)
    refine Zk<|Zf<|Zh<|Zf<|Zd ?_
    obtain ⟨b34,o34,cap34,row34,T34,fr34,cs34,hv34,hb34,hs34,hE34⟩:=hks.get j (by omega)
    obtain ⟨ki34,rfl,hik34,hin34,hks34⟩:=Ut hE34
    refine JLn (Zcw j Xl Y3 hv34 rfl rfl (by omega))<|JLr (Zn Y3 rfl (Zcx hb34) hs34<|JLr (Zp (l:=[iv 0,iv 0,.string (⟨#[]⟩),nS]) zeroValue82 rfl fun b35=>JLr (Ze 0 (vs:=[iv ((kids[j]).kind),iv ((kids[j]).num),.string ((kids[j]).text),ki34]) (l:=[iv ((kids[j]).kind),iv ((kids[j]).num),.string ((kids[j]).text),ki34]) Y3 rfl rfl rfl rfl rfl (Zg rfl (Zg rfl (Zg rfl (Zg hks34.one Zq)))) rfl<|Za<|Zd<|JLm y<|JLr (Zn Y3 rfl (Zcu 0 rfl) rfl<|Jc call155 rfl (fun hin=>ih _ (getElem_mem h33n) _ _ (RIt.mono (Hle.hu _ _) (Us hik34 hin34 hks34)) hgj (by omega)) rfl ?_))))
    rintro v36 _ ⟨k36,rfl,ho36⟩
    refine JLr (Zz (i:=2) (n:=(Ya (kids[j])).length) (es':=Yk (Ya (kids[j]))) Yl Yl (Or.inl rfl) el5 rfl rfl rfl hown (Fj (i:=0) ho36 rfl) (Z8 _) (Um _) (S8 _) (by decide) (by rw [Z8];simp only [length_append];omega) fun v37 k37 ho37=>?_)
    rw [← P2] at ho37
    refine JLa v37<|Za<|Zd<|JLn (Zcy rfl rfl (by omega))<|JLM rfl<|Za<|⟨_,?_,(j+1),v37,k37,Zj rfl,(Sd (Sd (Sk (Sk (Sk Sub.nil))))),?_,?_,rfl⟩
    ·omega
    ·omega
    rw [Se h33n,← append_assoc];exact ho37
   have h33n:kids.length≤j:=by omega
   refine Zu _ rfl ?_
   exact ⟨(w1+128),y,q1,(by unfold hdE;rw [h_w1,if_neg (show ¬ kids.length=0 by omega)]),(by have z:=hown;rw [if_neg (show ¬ kids.length=0 by omega)];rw [take_of_length_le h33n] at z;exact z),rfl,rfl,rfl,rfl,rfl,(Sk (Sk (Sk Sub.nil)))⟩
  refine Zk ?_
  exact ⟨w1,nS,[],(by unfold hdE;rw [h_w1,if_pos (show kids.length=0 by omega),Int.add_zero]),(by rw [if_pos (show kids.length=0 by omega)];exact Own.nil),rfl,rfl,rfl,rfl,rfl,(Zcz (Sk (Sk Sub.nil)))⟩
 rintro ρ38 _ ⟨w2,y5,q5c,h_w2,how5,e39,e40,e41,e42,e43,hm44⟩
 obtain ⟨ρ45,rfl⟩:=Zo (uc e39 (uc e40 (uc e41 (uc e42 (uc e43 un)))))
 clear e39 e40 e41 e42 e43
 refine ZD hm44<|Zf ?_
 have hw2:0≤w2∧w2<256:=by rw [h_w2];unfold hdE;split <;> split <;> omega
 refine Zd<|JLM rfl<|JLr (Zm (vs:=[.int .u8 w2]) [[.int .u8 w2]] Yl el5 rfl rfl (al1 rfl) rfl (by decide) fun b46 k46 ho46 hk46=>JLq (pp b1 1) (RW rfl rfl)<|JLr (Zb ty3 rfl (Zcu 3 rfl) rfl<|Jc call197 rfl (fun hin=>NM nn _ (by omega)) rfl ?_))
 rintro v47 _ ⟨k47,rfl,ho47⟩
 refine JLm y4<|JLm y5<|JLr (Zm (vs:=[.slice (some ⟨b46,0,none⟩) 1 1,v47,y4,y5]) [[.slice (some ⟨b46,0,none⟩) 1 1],[v47],[y4],[y5]] Of Zao rfl (congr (congrArg List.cons rfl) (congr (congrArg List.cons (ZS ho47.one)) (congr (congrArg List.cons (ZS how4.one)) (congr (congrArg List.cons (ZS how5.one)) rfl)))) (alc rfl (alc rfl (alc rfl (al1 rfl)))) rfl (by decide) fun b48 k48 ho48 hk48=>Jc call196 rfl (fun hin=>M3 [[w2],Y2 nn,txE tx,if kids.length=0 then [] else Y2 kids.length++YY kids] _ _ (Zdo ho48 (hin 0 _ rfl) (WR (l:=[w2]) ho46 (by simp) (hin 2 _ rfl)) (WR ho47 (by first | omega | (simp only [length_append];omega)) (hin 1 _ rfl)) (WR how4 (by first | omega | (simp only [length_append];omega)) (hin 4 _ rfl)) (WR how5 (by first | omega | (simp only [length_append];omega)) (hin 3 _ rfl))) (by simp only [flatten_cons,flatten_nil,length_append,length_cons,List.length_nil];omega)) rfl ?_)
 rintro v49 _ ⟨k49,rfl,ho49⟩
 refine JLa v49<|Za<|ZC v49 [k49] (Sk Sub.nil) (?_)
 exact ⟨_,rfl,by have z:=ho49;rw [Ya,← h_w2];simpa using z⟩
set_option maxHeartbeats 2000000 in
theorem Hp (x:It) (cs:List Value) (H:Heap) (ht:RIt H cs x) (hg:gdI x) (hz:szI x≤5000) (hd:dpI x≤250):CT prog 153 ⟨[.agg ⟨cs⟩]⟩ [] H (fun v N=>v=iv 0∧N=[]):=by
 refine Zl func153 rfl rfl<|Zc<|JLr (Zr (l:=cs) rfl rfl fun b1=>JLr (Zp (l:=[iv 0]) zeroValue26 rfl fun b2=>Za<|Zc<|JLr (Zp (l:=[iv 0]) zeroValue3 rfl fun b3=>JLr (Ze 0 (vs:=[iv 0]) (l:=[iv 0]) ty3 rfl rfl rfl rfl rfl (Zg rfl Zq) rfl<|Za<|Zf<|Zf ?_))))
 refine Zd<|JLr (Zn Y3 rfl (Zcu 2 rfl) (ZE (VO ht))<|Jc call195 rfl (fun hin=>Ir _ _ (VO ht)) rfl ?_)
 rintro _ _ ⟨bT4,rfl,rfl⟩
 refine Za<|Zh<|QQ (L:=[(BX bT4 cs 82),(BX b2 [iv 0] 26),(BX b1 cs 82)]) (fun e:Int=>[(BX b3 [iv e] 3)]) (fun _=>false) 0 (fun e=>e=(szI x:Int)) rfl rfl call229 (UD (i:=1) rfl) ?_ ?_ ?_
 ·intro l yc hY hin
  refine CT.mono (LS l yc x _ _ bT4 (RIt.mono (Hle.hu _ _) ht) (hin 0 _ rfl _ _ mem_cons_self) hg hd hz ?_) (fun v N hN=>⟨_,hN,rfl⟩)
  intro y lv n a h hgy hl0 hlv hn0 hn1 hh hry
  obtain ⟨kd,nm,tx,kids⟩:=y
  obtain ⟨kv,rfl,hk,hm,hks⟩:=RIt_mk.1 hry
  rw [gdI] at hgy
  refine YT.mono (hY n [_,_] h (fun e'=>e'=n+1) rfl rfl (RoundOk.mk ?_)) ?_
  ·show J _ _ _ _ [(BX b3 [iv n] 3)] _
   refine Zc<|JAn rfl<|Zd<|JLr (Zp (l:=[iv 0,iv 0,.string (⟨#[]⟩),nS]) zeroValue82 rfl fun b5=>JLr (Ze 0 (vs:=[iv kd,iv nm,.string tx,kv]) (l:=[iv kd,iv nm,.string tx,kv]) Y3 rfl rfl rfl rfl rfl (Zg rfl (Zg rfl (Zg rfl (Zg hks.one Zq)))) rfl<|Za<|Zh<|Zf<|Zh<|Zf<|Zd ?_))
   refine JLM rfl<|JLn (Pu.gtr rfl rfl)<|JAn rfl<|ZF rfl (fun h6=>?_) (fun h6=>?_)
   ·exfalso;first | omega | (have z:=h6;simp at z;omega)
   refine Zc<|JLr (Zb ty3 rfl (Zcu 1 rfl) rfl<|JLn (Pu.eql rfl rfl)<|JAn rfl<|ZF rfl (fun h7=>?_) (fun h7=>?_))
   ·exfalso;first | omega | (have z:=h7;simp at z;omega)
   refine Zc<|JLq (pp b5 0) (RX rfl rfl)<|JLr (Zb ty3 rfl (Zcu 0 rfl) rfl<|JLn (Pu.lss rfl rfl)<|JLM rfl<|ZA 3 [21,22,23] [(23,cond (decide (kd<1)) undef (.bool (decide (63<kd))))] ?_ fun f9=>?_)
   ·cases h8:(decide (kd<1)) with
    | false=>
     replace h8:=df h8
     refine JLq (pp b5 0) (RX rfl rfl)<|JLr (Zb ty3 rfl (Zcu 0 rfl) rfl<|JLn (Pu.gtr rfl rfl) ?_)
     exact Za ⟨⟨rfl,trivial⟩,rfl⟩
    | true=>
     exact ZJ rfl ⟨rfl,trivial⟩
   refine JLn (ZcC rfl rfl rfl)<|JLM rfl<|ZA 3 [26,27,28] [(28,cond ((decide (kd<1))||(decide (63<kd))) undef (.bool (decide (nm<0))))] ?_ fun f11=>?_
   ·cases h10:((decide (kd<1))||(decide (63<kd))) with
    | false=>
     obtain ⟨h10a,h10b⟩:=orF h10
     replace h10a:=df h10a
     replace h10b:=df h10b
     refine JLq (pp b5 1) (RW rfl rfl)<|JLr (Zb ty3 rfl (Zcu 0 rfl) rfl<|JLn (Pu.lss rfl rfl) ?_)
     exact Za ⟨⟨rfl,trivial⟩,rfl⟩
    | true=>
     exact ZJ rfl ⟨rfl,trivial⟩
   refine JLn (ZcC rfl rfl rfl)<|JLM rfl<|ZA 3 [31,32,33] [(33,cond (((decide (kd<1))||(decide (63<kd)))||(decide (nm<0))) undef (.bool (decide (1099511627776<nm))))] ?_ fun f13=>?_
   ·cases h12:(((decide (kd<1))||(decide (63<kd)))||(decide (nm<0))) with
    | false=>
     obtain ⟨h12a,h12b⟩:=orF h12
     obtain ⟨h12aa,h12ab⟩:=orF h12a
     replace h12aa:=df h12aa
     replace h12ab:=df h12ab
     replace h12b:=df h12b
     refine JLq (pp b5 1) (RW rfl rfl)<|JLr (Zb ty3 rfl (Zcu 0 rfl) rfl<|JLn (Pu.gtr rfl rfl) ?_)
     exact Za ⟨⟨rfl,trivial⟩,rfl⟩
    | true=>
     exact ZJ rfl ⟨rfl,trivial⟩
   refine JLn (ZcC rfl rfl rfl)<|JAn rfl<|Zs rfl (fun h14=>?_) (fun h14=>?_)
   ·exfalso;first | omega | (have z:=h14;simp at z;omega)
   obtain ⟨h14a,h14b⟩:=orF h14
   obtain ⟨h14aa,h14ab⟩:=orF h14a
   obtain ⟨h14aaa,h14aab⟩:=orF h14aa
   replace h14aaa:=df h14aaa
   replace h14aab:=df h14aab
   replace h14ab:=df h14ab
   replace h14b:=df h14b
   refine Zc<|JLq (pp b5 2) (Vp rfl rfl)<|JLr (Zb ty9 rfl (Zcu 0 rfl) rfl<|JLn (Zc4 Ru9 rfl)<|JLn (Pu.gtr rfl rfl)<|JAn rfl<|ZF rfl (fun h15=>?_) (fun h15=>?_))
   ·exfalso;first | omega | (have z:=h15;simp at z;omega)
   refine Zk<|Zd<|JLr (Zb ty3 rfl (Zcu 1 rfl) rfl<|JLn (ZcG rfl rfl (by first | omega | (constructor <;> omega)))<|JLr (Ze 1 (vs:=[iv (n+1)]) (l:=[iv (n+1)]) ty3 rfl rfl rfl rfl rfl (Zg rfl Zq) rfl<|Za ?_))
   exact ⟨n+1,rfl,(Sd (Sk Sub.nil)),rfl⟩
  rintro v N ⟨e',rfl,rfl,rfl⟩;exact ⟨rfl,rfl⟩
 ·rintro ef hef hp
  refine Zc<|JLr (Ze 2 (vs:=[iv 0]) (l:=[iv 0]) Ol rfl rfl rfl rfl rfl (Zg rfl Zq) rfl<|Za<|ZH<|⟨iv 0,[],Ret.one rfl (ZcY Ol rfl (Zcu 2 rfl) rfl),Sub.nil,?_⟩)
  exact ⟨rfl,rfl⟩
 rintro ef hef hp;cases hp
theorem Ha (t:Tm) (cs:List Value) (H:Heap) (ht:RT H cs t):CT prog 105 ⟨[.agg ⟨cs⟩]⟩ [] H (fun r N=>∃ cs k,r=.tuple ⟨[.agg ⟨cs⟩,iv (Zx 60 8 t)]⟩∧N=[k]∧OIt (if Zx 60 8 t=0 then itT t else zI) cs k):=by have z:=F4 t cs H ht;rw [Pe] at z;exact z
end
theorem Am (a b c d e f g h:Int):∀ w,(Instr.build 138 ⟨[(0,.int .u32 a),(1,.int .u32 b),(2,.int .u32 c),(3,.int .u32 d),(4,.int .u32 e),(5,.int .u32 f),(6,.int .u32 g),(7,.int .u32 h)]⟩).run prog w=.ok (.agg ⟨[.int .u32 a,.int .u32 b,.int .u32 c,.int .u32 d,.int .u32 e,.int .u32 f,.int .u32 g,.int .u32 h]⟩) w:=
  Vh zeroValue138 runUnderlying138 sizeOf137 (by kernel_rfl)
theorem ZbX (a b c d e f g h:W32):∀ w,(Instr.build 138 ⟨[(0,uv a),(1,uv b),(2,uv c),(3,uv d),(4,uv e),(5,uv f),(6,uv g),(7,uv h)]⟩).run prog w=.ok (.agg ⟨uC [a,b,c,d,e,f,g,h]⟩) w:=
  Am _ _ _ _ _ _ _ _
theorem Zb3:uC beW=[.int .u32 1779033703,.int .u32 3144134277,.int .u32 1013904242,.int .u32 2773480762,.int .u32 1359893119,.int .u32 2600822924,.int .u32 528734635,.int .u32 1541459225]:=by kernel_rfl
theorem Zb0:∀ w,(Instr.build 138 ⟨[(0,.int .u32 1779033703),(1,.int .u32 3144134277),(2,.int .u32 1013904242),(3,.int .u32 2773480762),(4,.int .u32 1359893119),(5,.int .u32 2600822924),(6,.int .u32 528734635),(7,.int .u32 1541459225)]⟩).run prog w=.ok (.agg ⟨uC beW⟩) w:=by
  rw [Zb3];exact Am 1779033703 3144134277 1013904242 2773480762 1359893119 2600822924 528734635 1541459225
theorem Zck:uC kW=[.int .u32 1116352408,.int .u32 1899447441,.int .u32 3049323471,.int .u32 3921009573,.int .u32 961987163,.int .u32 1508970993,.int .u32 2453635748,.int .u32 2870763221,.int .u32 3624381080,.int .u32 310598401,.int .u32 607225278,.int .u32 1426881987,.int .u32 1925078388,.int .u32 2162078206,.int .u32 2614888103,.int .u32 3248222580,.int .u32 3835390401,.int .u32 4022224774,.int .u32 264347078,.int .u32 604807628,.int .u32 770255983,.int .u32 1249150122,.int .u32 1555081692,.int .u32 1996064986,.int .u32 2554220882,.int .u32 2821834349,.int .u32 2952996808,.int .u32 3210313671,.int .u32 3336571891,.int .u32 3584528711,.int .u32 113926993,.int .u32 338241895,.int .u32 666307205,.int .u32 773529912,.int .u32 1294757372,.int .u32 1396182291,.int .u32 1695183700,.int .u32 1986661051,.int .u32 2177026350,.int .u32 2456956037,.int .u32 2730485921,.int .u32 2820302411,.int .u32 3259730800,.int .u32 3345764771,.int .u32 3516065817,.int .u32 3600352804,.int .u32 4094571909,.int .u32 275423344,.int .u32 430227734,.int .u32 506948616,.int .u32 659060556,.int .u32 883997877,.int .u32 958139571,.int .u32 1322822218,.int .u32 1537002063,.int .u32 1747873779,.int .u32 1955562222,.int .u32 2024104815,.int .u32 2227730452,.int .u32 2361852424,.int .u32 2428436474,.int .u32 2756734187,.int .u32 3204031479,.int .u32 3329325298]:=by kernel_rfl
theorem ZaE:∀ w,(Instr.build 219 ⟨[(0,.int .u32 1116352408),(1,.int .u32 1899447441),(2,.int .u32 3049323471),(3,.int .u32 3921009573),(4,.int .u32 961987163),(5,.int .u32 1508970993),(6,.int .u32 2453635748),(7,.int .u32 2870763221),(8,.int .u32 3624381080),(9,.int .u32 310598401),(10,.int .u32 607225278),(11,.int .u32 1426881987),(12,.int .u32 1925078388),(13,.int .u32 2162078206),(14,.int .u32 2614888103),(15,.int .u32 3248222580),(16,.int .u32 3835390401),(17,.int .u32 4022224774),(18,.int .u32 264347078),(19,.int .u32 604807628),(20,.int .u32 770255983),(21,.int .u32 1249150122),(22,.int .u32 1555081692),(23,.int .u32 1996064986),(24,.int .u32 2554220882),(25,.int .u32 2821834349),(26,.int .u32 2952996808),(27,.int .u32 3210313671),(28,.int .u32 3336571891),(29,.int .u32 3584528711),(30,.int .u32 113926993),(31,.int .u32 338241895),(32,.int .u32 666307205),(33,.int .u32 773529912),(34,.int .u32 1294757372),(35,.int .u32 1396182291),(36,.int .u32 1695183700),(37,.int .u32 1986661051),(38,.int .u32 2177026350),(39,.int .u32 2456956037),(40,.int .u32 2730485921),(41,.int .u32 2820302411),(42,.int .u32 3259730800),(43,.int .u32 3345764771),(44,.int .u32 3516065817),(45,.int .u32 3600352804),(46,.int .u32 4094571909),(47,.int .u32 275423344),(48,.int .u32 430227734),(49,.int .u32 506948616),(50,.int .u32 659060556),(51,.int .u32 883997877),(52,.int .u32 958139571),(53,.int .u32 1322822218),(54,.int .u32 1537002063),(55,.int .u32 1747873779),(56,.int .u32 1955562222),(57,.int .u32 2024104815),(58,.int .u32 2227730452),(59,.int .u32 2361852424),(60,.int .u32 2428436474),(61,.int .u32 2756734187),(62,.int .u32 3204031479),(63,.int .u32 3329325298)]⟩).run prog w=.ok (.agg ⟨uC kW⟩) w:=by
  rw [Zck]
  exact Vh zeroValue219 runUnderlying219 sizeOf137 (by kernel_rfl)
theorem BC (a b c d e f g h:Int):∀ w,(Instr.build 174 ⟨[(0,.agg ⟨[.int .u32 a,.int .u32 b,.int .u32 c,.int .u32 d,.int .u32 e,.int .u32 f,.int .u32 g,.int .u32 h]⟩)]⟩).run prog w=.ok (.agg ⟨[.int .u32 a,.int .u32 b,.int .u32 c,.int .u32 d,.int .u32 e,.int .u32 f,.int .u32 g,.int .u32 h,.slice none 0 0,.int .i64 0]⟩) w:=
  Z6 zeroValue174 runUnderlying174 Zbl (by kernel_rfl)
theorem ZaD {h:List W32} (hl:h.length=8):∀ w,(Instr.build 174 ⟨[(0,.agg ⟨uC h⟩)]⟩).run prog w=.ok (.agg ⟨uC h++[.slice none 0 0,.int .i64 0]⟩) w:=by
  obtain ⟨a,b,c,d,e,f,g,i,rfl⟩:=Kf hl
  exact BC _ _ _ _ _ _ _ _
theorem BB (a b c d e f g h:Int) (v:Option Addr) (n k:Nat) (m:Int):∀ w,(Instr.build 177 ⟨[(0,.agg ⟨[.int .u32 a,.int .u32 b,.int .u32 c,.int .u32 d,.int .u32 e,.int .u32 f,.int .u32 g,.int .u32 h,.slice v n k,.int .i64 m]⟩)]⟩).run prog w=.ok (.agg ⟨[.int .u32 a,.int .u32 b,.int .u32 c,.int .u32 d,.int .u32 e,.int .u32 f,.int .u32 g,.int .u32 h,.slice v n k,.int .i64 m]⟩) w:=
  Z6 zeroValue177 runUnderlying177 Zbk (by kernel_rfl)
theorem ZaC {h:List W32} (hl:h.length=8) (v:Option Addr) (n c:Nat) (m:Int):∀ w,(Instr.build 177 ⟨[(0,.agg ⟨uC h++[.slice v n c,.int .i64 m]⟩)]⟩).run prog w=.ok (.agg ⟨uC h++[.slice v n c,.int .i64 m]⟩) w:=by
  obtain ⟨a,b,c,d,e,f,g,i,rfl⟩:=Kf hl
  exact BB _ _ _ _ _ _ _ _ _ _ _ _
theorem Zdk {x:Nat×Obj} {k:Zi} {R M:List Zi} (h:Sub ((x::k)::R) M):Sub ([x]::k::R) M:=h.flat (by simp)
theorem Zdw {x:Nat×Obj} {k:Zi} {R M:List Zi} (h:Sub ([x]::k::R) M):Sub ((x::k)::R) M:=h.flat (by simp)
def GK (h:Heap):Prop:=(∃ T fr,h 1=some (.cells ⟨uC kW⟩ T fr))∧∃ T fr,h 0=some (.cells ⟨uC beW⟩ T fr)
theorem GK.mono {h h':Heap} (hh:Hle h h') (g:GK h):GK h':=by
  obtain ⟨⟨T,fr,h1⟩,T',fr',h2⟩:=g
  exact ⟨⟨T,fr,hh _ _ h1⟩,T',fr',hh _ _ h2⟩
section
attribute [local irreducible] JL J CT wlo DT
theorem D4 (x:W32) (n:Nat) (H:Heap) (hn:1≤n∧n≤31):CT prog 244 ⟨[.int .u32 (x.toNat:Int),iv (-(n:Int))]⟩ [] H (fun r N=>r=uv (ZP x n)∧N=[]):=by
 refine Zl func244 rfl rfl<|Zc<|JAn rfl<|Zc<|JLM rfl<|JLq (.int .u64 (18446744073709551616-(n:Int))) (ZcM Ru3 runUnderlying159 rfl (GU hn))<|JLq (.int .u64 (((32-n:Nat):Int))) (Pu.bits rfl rfl (D6 hn))<|JAn rfl<|Zf ?_
 refine Zd<|JLM rfl<|JLM rfl<|JLq (.int .u32 ((x <<< (32-n)).toNat:Int)) (Zc5 (32-n) rfl rfl rfl (by omega))<|JLM rfl<|JLM rfl<|JLq (.int .u64 ((n:Int))) (ZcS rfl rfl (D5 hn))<|JLq (.int .u32 ((x >>> n).toNat:Int)) (ZcV n rfl rfl rfl (by omega))<|JLq (.int .u32 (((x <<< (32-n)) ||| (x >>> n)).toNat:Int)) (ZcZ rfl rfl)<|JAn rfl<|ZC (.int .u32 (((x <<< (32-n)) ||| (x >>> n)).toNat:Int)) [] Sub.nil (?_)
 exact ⟨rfl,rfl⟩
theorem UZ (n:Nat) (w:W32) (bw:Nat) (H:Heap) (hbw:H bw=some (.cells ⟨[uv w]⟩ 137 (0,0))) (hn:1≤n∧n≤31):CT prog 243 ⟨[iv ((n:Int)),pp bw 0]⟩ [] H (fun r N=>r=uv (ZP w n)∧N=[]):=by
 refine Zl func243 rfl rfl<|Zc<|JAn rfl<|Zc<|JLr (Zb ZK rfl (Zcx hbw) rfl<|JLM rfl<|JLq (iv (-((n:Int)))) (Pu.neg rfl ((w64 (n:=0-((n:Int))) (by omega)).trans (by omega)))<|Jc call244 rfl (fun hin=>D4 _ n _ (by omega)) rfl ?_)
 rintro _ _ ⟨rfl,rfl⟩
 refine JAn rfl<|ZC (.int .u32 ((ZP w n).toNat:Int)) [] Sub.nil (?_)
 exact ⟨rfl,rfl⟩
theorem NL (a b c:Nat) (lost:Bool) (w:W32) (H:Heap) (ha:1≤a∧a≤31) (hb:1≤b∧b≤31) (hc:1≤c∧c≤31):CT prog 234 ⟨[.agg ⟨[iv ((a:Int)),iv ((b:Int)),iv ((c:Int)),.bool lost]⟩,.int .u32 (w.toNat:Int)]⟩ [] H (fun r N=>r=uv (Y7 a b c lost w)∧N=[]):=by
 refine Zl func234 rfl rfl<|Zc<|JLr (Zr (l:=[iv ((a:Int)),iv ((b:Int)),iv ((c:Int)),.bool lost]) rfl rfl fun b1=>JLr (Zr (l:=[.int .u32 (w.toNat:Int)]) rfl rfl fun b2=>JAn rfl<|Zc<|JLq (.func (.func 243) ⟨[]⟩ ⟨[pp b2 0]⟩) (Pu.makeFunc rfl rfl)<|JAn rfl<|Zf ?_))
 refine Zd<|JLM rfl<|JLq (pp b1 2) (JU rfl rfl)<|JLr (Zb ty3 rfl (Zcu 1 rfl) rfl<|Jc call243 rfl (fun hin=>UZ c _ _ _ (hin 0 _ rfl _ _ mem_cons_self) (by omega)) rfl ?_)
 rintro _ _ ⟨rfl,rfl⟩
 refine JAn rfl<|Zf<|Zc<|JLq (pp b1 3) (CY rfl rfl)<|JLr (Zb ty4 rfl (Zcu 1 rfl) rfl<|Za<|Zs rfl (fun h3=>?_) (fun h3=>?_))
 ·refine Zd<|JLr (Zb ZK rfl (Zcu 0 rfl) rfl<|JLq (pp b1 2) (JU rfl rfl)<|JLr (Zb ty3 rfl (Zcu 1 rfl) rfl<|JLq (.int .u32 ((w >>> c).toNat:Int)) (ZcV c rfl rfl rfl (by omega))<|JAn rfl<|Zf<|ZI mixed #[0,0,2,7,0,0,32,127,255,0,1023,2047] 10 (sm 18 10) [] [(3,fun _ _ vw qw=>vw=.int .u32 ((ZP w a).toNat:Int)∧qw=[]),(7,fun _ _ vw qw=>vw=.int .u32 ((ZP w b).toNat:Int)∧qw=[])] rfl (by kernel_rfl) rfl (by kernel_rfl)<|DM (fun _=>rfl)<|Dq (pp b1 0) (fun _=>JW rfl rfl)<|Dl1 ty3 (Zcu 1 rfl) rfl ?_))
  refine Dc rfl call243 (fun _=>rfl) (fun hin=>UZ a _ _ _ (hin 0 _ rfl _ _ mem_cons_self) (by omega)) ?_
  rintro _ _ ⟨rfl,rfl⟩
  refine DM (fun _=>rfl)<|Dq (pp b1 1) (fun _=>JV rfl rfl)<|Dl1 ty3 (Zcu 1 rfl) rfl ?_
  refine Dc rfl call243 (fun _=>rfl) (fun hin=>UZ b _ _ _ (hin 0 _ rfl _ _ mem_cons_self) (by omega)) ?_
  rintro _ _ ⟨rfl,rfl⟩
  refine Dq (.int .u32 (((ZP w a) ^^^ (ZP w b)).toNat:Int)) (fun _=>ZcL rfl rfl)<|DM (fun _=>rfl)<|ZM (M':=[(BX b2 [.int .u32 (w.toNat:Int)] 137),(BX b1 [iv ((a:Int)),iv ((b:Int)),iv ((c:Int)),.bool lost] 267)]) rfl ?_
  show JL _ _ _ [_,_] _ _ _
  refine JLq (.int .u32 ((((ZP w a) ^^^ (ZP w b)) ^^^ (w >>> c)).toNat:Int)) (ZcL rfl rfl)<|JAn rfl<|ZC (.int .u32 ((((ZP w a) ^^^ (ZP w b)) ^^^ (w >>> c)).toNat:Int)) [] Sub.nil (?_)
  exact ⟨by rw [h3];rfl,rfl⟩
 refine Zk<|Zf<|ZI mixed #[0,0,2,7,0,0,32,127,255,0,1023,2047] 10 (sm 18 10) [] [(3,fun _ _ vw qw=>vw=.int .u32 ((ZP w a).toNat:Int)∧qw=[]),(7,fun _ _ vw qw=>vw=.int .u32 ((ZP w b).toNat:Int)∧qw=[])] rfl (by kernel_rfl) rfl (by kernel_rfl)<|DM (fun _=>rfl)<|Dq (pp b1 0) (fun _=>JW rfl rfl)<|Dl1 ty3 (Zcu 1 rfl) rfl ?_
 refine Dc rfl call243 (fun _=>rfl) (fun hin=>UZ a _ _ _ (hin 0 _ rfl _ _ mem_cons_self) (by omega)) ?_
 rintro _ _ ⟨rfl,rfl⟩
 refine DM (fun _=>rfl)<|Dq (pp b1 1) (fun _=>JV rfl rfl)<|Dl1 ty3 (Zcu 1 rfl) rfl ?_
 refine Dc rfl call243 (fun _=>rfl) (fun hin=>UZ b _ _ _ (hin 0 _ rfl _ _ mem_cons_self) (by omega)) ?_
 rintro _ _ ⟨rfl,rfl⟩
 refine Dq (.int .u32 (((ZP w a) ^^^ (ZP w b)).toNat:Int)) (fun _=>ZcL rfl rfl)<|DM (fun _=>rfl)<|ZM (M':=[(BX b2 [.int .u32 (w.toNat:Int)] 137),(BX b1 [iv ((a:Int)),iv ((b:Int)),iv ((c:Int)),.bool lost] 267)]) rfl ?_
 show JL _ _ _ [_,_] _ _ _
 refine JLq (.int .u32 ((((ZP w a) ^^^ (ZP w b)) ^^^ (ZP w c)).toNat:Int)) (ZcL rfl rfl)<|JAn rfl<|ZC (.int .u32 ((((ZP w a) ^^^ (ZP w b)) ^^^ (ZP w c)).toNat:Int)) [] Sub.nil (?_)
 exact ⟨by rw [h3];rfl,rfl⟩
theorem Vs (l:List W32) (v:Value) (H:Heap) (hv:Hs.rdS RU 1 H v l):CT prog 209 ⟨[v]⟩ [] H (fun r N=>r=uv (Xh l)∧N=[]):=by
 have hlen:=hv.le
 refine Zl func209 rfl rfl<|Zc<|JAn rfl<|Zc<|JAn rfl<|Zf<|Zc<|JLm v ?_
 obtain ⟨a1,cap1,hv1⟩:=hv.sl
 have hle1:=hv.le
 refine JLn (Zcv TS hv1)<|JLM rfl<|Za<|Zh<|Zv (fun k ρ M=>∃ (j:Nat) (s:W32),ZR ρ [(2,.int .u32 0),(3,.int .u32 (s.toNat:Int)),(6,v),(7,iv ((l.length:Int))),(8,iv ((j:Int)))]=ρ∧Sub [] M∧j≤l.length∧s=Xh (l.take j)∧k=l.length-j) _ ⟨0,0,Zj rfl,Sub.nil,Nat.zero_le _,rfl,rfl⟩ ?_
 rintro _ ρ2 _ ⟨j,s,e3,hm8,hj,hs,rfl⟩
 obtain ⟨ρ9,rfl⟩:=Zo e3
 clear e3
 refine ZD hm8<|Zc<|JLn (Pu.lss rfl rfl)<|Za<|Zf<|ZF rfl (fun h10=>?_) (fun h10=>?_)
 ·have h10n:j<l.length:=by omega
  refine Zk<|Zf<|Zh<|Zf<|Zd ?_
  obtain ⟨b11,o11,cap11,row11,T11,fr11,cs11,hv11,hb11,hs11,hE11⟩:=hv.get j (by omega)
  refine JLn (Zcw j TS ZK hv11 rfl rfl (by omega))<|JLr (Zb ZK rfl (Zcx hb11) (ZT ((show cs11=[Value.int .u32 ((l[j]).toNat:Int)] from hE11)▸hs11))<|JAn rfl<|Zd<|JLM rfl<|JLM rfl<|JLq (.int .u32 ((s+(l[j])).toNat:Int)) (ZcN rfl rfl)<|JAn rfl<|Zd<|JLn (Zcy rfl rfl (by omega))<|JLM rfl ?_)
  refine Za<|⟨_,?_,(j+1),(s+(l[j])),Zj rfl,Sub.nil,?_,?_,rfl⟩
  ·omega
  ·omega
  rw [Ix h10n,hs]
 have h10n:l.length≤j:=by omega
 refine Zu _ rfl<|Zc<|JLM rfl<|JAn rfl<|ZC (.int .u32 (s.toNat:Int)) [] Sub.nil (?_)
 exact ⟨by rw [hs,take_of_length_le h10n],rfl⟩
theorem AJ (v:List W32) (H:Heap) (hv:v.length=8):CT prog 233 ⟨[.agg ⟨uC v⟩]⟩ [] H (fun r N=>r=uv (fiW v)∧N=[]):=by
 refine Zl func233 rfl rfl<|Zc<|JLr (Zr (l:=uC v) rfl rfl fun b1=>JAn rfl<|Zf<|ZI mixed #[0,1,0,0,8,28,0,64,0,256,960,0,2048,6144,0,16384,63488,131008,262143,524287,1048575] 18 (sm 3 18) [] [(5,fun _ _ vw qw=>vw=.int .u32 ((Y7 6 11 25 false (v.getD 4 0)).toNat:Int)∧qw=[])] rfl (by kernel_rfl) rfl (by kernel_rfl)<|Dq (pp b1 7) (fun _=>ZcB 7 YG ZK rfl rfl (by decide) (by decide)) ?_)
 refine ZZ rfl (fun _=>rfl) ZK (fun _=>rfl) (Zcu 0 rfl) (Xe (by have hbl:List.length v=8:=hv;rw [hbl];omega))<|Dq (.agg ⟨[iv 6,iv 11,iv 25,.bool false]⟩) (fun _=>Pu.build (pv:=[(0,iv 6),(1,iv 11),(2,iv 25),(3,.bool false)]) (l:=[iv 6,iv 11,iv 25,.bool false]) rfl (Ws _ _ _ _))<|Dq (pp b1 4) (fun _=>ZcB 4 YG ZK rfl rfl (by decide) (by decide)) ?_
 refine ZZ rfl (fun _=>rfl) ZK (fun _=>rfl) (Zcu 0 rfl) (Xe (by have hbl:List.length v=8:=hv;rw [hbl];omega))<|Dc rfl call234 (fun _=>rfl) (fun hin=>NL 6 11 25 false _ _ (by decide) (by decide) (by decide)) ?_
 rintro _ _ ⟨rfl,rfl⟩
 refine Dq (pp b1 4) (fun _=>ZcB 4 YG ZK rfl rfl (by decide) (by decide)) ?_
 refine ZZ rfl (fun _=>rfl) ZK (fun _=>rfl) (Zcu 0 rfl) (Xe (by have hbl:List.length v=8:=hv;rw [hbl];omega))<|Dq (pp b1 5) (fun _=>ZcB 5 YG ZK rfl rfl (by decide) (by decide)) ?_
 refine ZZ rfl (fun _=>rfl) ZK (fun _=>rfl) (Zcu 0 rfl) (Xe (by have hbl:List.length v=8:=hv;rw [hbl];omega))<|Dq (.int .u32 (((v.getD 4 0) &&& (v.getD 5 0)).toNat:Int)) (fun _=>ZcR rfl rfl)<|Dq (pp b1 4) (fun _=>ZcB 4 YG ZK rfl rfl (by decide) (by decide)) ?_
 refine ZZ rfl (fun _=>rfl) ZK (fun _=>rfl) (Zcu 0 rfl) (Xe (by have hbl:List.length v=8:=hv;rw [hbl];omega))<|Dq (.int .u32 ((~~~(v.getD 4 0)).toNat:Int)) (fun _=>Zdi rfl)<|Dq (pp b1 6) (fun _=>ZcB 6 YG ZK rfl rfl (by decide) (by decide)) ?_
 refine ZZ rfl (fun _=>rfl) ZK (fun _=>rfl) (Zcu 0 rfl) (Xe (by have hbl:List.length v=8:=hv;rw [hbl];omega))<|Dq (.int .u32 (((~~~(v.getD 4 0)) &&& (v.getD 6 0)).toNat:Int)) (fun _=>ZcR rfl rfl)<|Dq (.int .u32 ((((v.getD 4 0) &&& (v.getD 5 0)) ^^^ ((~~~(v.getD 4 0)) &&& (v.getD 6 0))).toNat:Int)) (fun _=>ZcL rfl rfl)<|ZM (M':=[(BX b1 (uC v) 138)]) rfl ?_
 show JL _ _ _ [_,_,_] _ _ _
 refine JLr (Zm (vs:=[.int .u32 ((v.getD 7 0).toNat:Int),.int .u32 ((Y7 6 11 25 false (v.getD 4 0)).toNat:Int),.int .u32 ((((v.getD 4 0) &&& (v.getD 5 0)) ^^^ ((~~~(v.getD 4 0)) &&& (v.getD 6 0))).toNat:Int)]) [[.int .u32 ((v.getD 7 0).toNat:Int)],[.int .u32 ((Y7 6 11 25 false (v.getD 4 0)).toNat:Int)],[.int .u32 ((((v.getD 4 0) &&& (v.getD 5 0)) ^^^ ((~~~(v.getD 4 0)) &&& (v.getD 6 0))).toNat:Int)]] TS PN rfl rfl (alc rfl (alc rfl (al1 rfl))) rfl (by decide) fun b2 k2 ho2 hk2=>Jc call209 rfl (fun hin=>Vs [v.getD 7 0,Y7 6 11 25 false (v.getD 4 0),((v.getD 4 0) &&& (v.getD 5 0)) ^^^ ((~~~(v.getD 4 0)) &&& (v.getD 6 0))] _ _ (Pm (l:=[v.getD 7 0,Y7 6 11 25 false (v.getD 4 0),((v.getD 4 0) &&& (v.getD 5 0)) ^^^ ((~~~(v.getD 4 0)) &&& (v.getD 6 0))]) ho2 (by simp) (hin 0 _ rfl))) rfl ?_)
 rintro _ _ ⟨rfl,rfl⟩
 refine JAn rfl<|ZC (.int .u32 ((Xh [v.getD 7 0,Y7 6 11 25 false (v.getD 4 0),((v.getD 4 0) &&& (v.getD 5 0)) ^^^ ((~~~(v.getD 4 0)) &&& (v.getD 6 0))]).toNat:Int)) [] Sub.nil (?_)
 exact ⟨by rw [B5];rfl,rfl⟩
theorem AI (v:List W32) (H:Heap) (hv:v.length=8):CT prog 235 ⟨[.agg ⟨uC v⟩]⟩ [] H (fun r N=>r=uv (seW v)∧N=[]):=by
 refine Zl func235 rfl rfl<|Zc<|JLr (Zr (l:=uC v) rfl rfl fun b1=>JAn rfl<|Zf<|ZI mixed #[0,0,2,7,0,16,0,64,240,0,512,0,2048,7680,16368,0,32768,0,131072,491520,1048560,2097151,4194303,8388607] 21 (sm 3 21) [] [(3,fun _ _ vw qw=>vw=.int .u32 ((Y7 2 13 22 false (v.getD 0 0)).toNat:Int)∧qw=[])] rfl (by kernel_rfl) rfl (by kernel_rfl)<|Dq (.agg ⟨[iv 2,iv 13,iv 22,.bool false]⟩) (fun _=>Pu.build (pv:=[(0,iv 2),(1,iv 13),(2,iv 22),(3,.bool false)]) (l:=[iv 2,iv 13,iv 22,.bool false]) rfl (Ws _ _ _ _))<|Dq (pp b1 0) (fun _=>ZcB 0 YG ZK rfl rfl (by decide) (by decide)) ?_)
 refine ZZ rfl (fun _=>rfl) ZK (fun _=>rfl) (Zcu 0 rfl) (Xe (by have hbl:List.length v=8:=hv;rw [hbl];omega))<|Dc rfl call234 (fun _=>rfl) (fun hin=>NL 2 13 22 false _ _ (by decide) (by decide) (by decide)) ?_
 rintro _ _ ⟨rfl,rfl⟩
 refine Dq (pp b1 0) (fun _=>ZcB 0 YG ZK rfl rfl (by decide) (by decide)) ?_
 refine ZZ rfl (fun _=>rfl) ZK (fun _=>rfl) (Zcu 0 rfl) (Xe (by have hbl:List.length v=8:=hv;rw [hbl];omega))<|Dq (pp b1 1) (fun _=>ZcB 1 YG ZK rfl rfl (by decide) (by decide)) ?_
 refine ZZ rfl (fun _=>rfl) ZK (fun _=>rfl) (Zcu 0 rfl) (Xe (by have hbl:List.length v=8:=hv;rw [hbl];omega))<|Dq (.int .u32 (((v.getD 0 0) &&& (v.getD 1 0)).toNat:Int)) (fun _=>ZcR rfl rfl)<|Dq (pp b1 0) (fun _=>ZcB 0 YG ZK rfl rfl (by decide) (by decide)) ?_
 refine ZZ rfl (fun _=>rfl) ZK (fun _=>rfl) (Zcu 0 rfl) (Xe (by have hbl:List.length v=8:=hv;rw [hbl];omega))<|Dq (pp b1 2) (fun _=>ZcB 2 YG ZK rfl rfl (by decide) (by decide)) ?_
 refine ZZ rfl (fun _=>rfl) ZK (fun _=>rfl) (Zcu 0 rfl) (Xe (by have hbl:List.length v=8:=hv;rw [hbl];omega))<|Dq (.int .u32 (((v.getD 0 0) &&& (v.getD 2 0)).toNat:Int)) (fun _=>ZcR rfl rfl)<|Dq (.int .u32 ((((v.getD 0 0) &&& (v.getD 1 0)) ^^^ ((v.getD 0 0) &&& (v.getD 2 0))).toNat:Int)) (fun _=>ZcL rfl rfl)<|Dq (pp b1 1) (fun _=>ZcB 1 YG ZK rfl rfl (by decide) (by decide)) ?_
 refine ZZ rfl (fun _=>rfl) ZK (fun _=>rfl) (Zcu 0 rfl) (Xe (by have hbl:List.length v=8:=hv;rw [hbl];omega))<|Dq (pp b1 2) (fun _=>ZcB 2 YG ZK rfl rfl (by decide) (by decide)) ?_
 refine ZZ rfl (fun _=>rfl) ZK (fun _=>rfl) (Zcu 0 rfl) (Xe (by have hbl:List.length v=8:=hv;rw [hbl];omega))<|Dq (.int .u32 (((v.getD 1 0) &&& (v.getD 2 0)).toNat:Int)) (fun _=>ZcR rfl rfl)<|Dq (.int .u32 (((((v.getD 0 0) &&& (v.getD 1 0)) ^^^ ((v.getD 0 0) &&& (v.getD 2 0))) ^^^ ((v.getD 1 0) &&& (v.getD 2 0))).toNat:Int)) (fun _=>ZcL rfl rfl)<|ZM (M':=[(BX b1 (uC v) 138)]) rfl ?_
 show JL _ _ _ [_,_,_] _ _ _
 refine JLr (Zm (vs:=[.int .u32 ((Y7 2 13 22 false (v.getD 0 0)).toNat:Int),.int .u32 (((((v.getD 0 0) &&& (v.getD 1 0)) ^^^ ((v.getD 0 0) &&& (v.getD 2 0))) ^^^ ((v.getD 1 0) &&& (v.getD 2 0))).toNat:Int)]) [[.int .u32 ((Y7 2 13 22 false (v.getD 0 0)).toNat:Int)],[.int .u32 (((((v.getD 0 0) &&& (v.getD 1 0)) ^^^ ((v.getD 0 0) &&& (v.getD 2 0))) ^^^ ((v.getD 1 0) &&& (v.getD 2 0))).toNat:Int)]] TS PN rfl rfl (alc rfl (al1 rfl)) rfl (by decide) fun b2 k2 ho2 hk2=>Jc call209 rfl (fun hin=>Vs [Y7 2 13 22 false (v.getD 0 0),(((v.getD 0 0) &&& (v.getD 1 0)) ^^^ ((v.getD 0 0) &&& (v.getD 2 0))) ^^^ ((v.getD 1 0) &&& (v.getD 2 0))] _ _ (Pm (l:=[Y7 2 13 22 false (v.getD 0 0),(((v.getD 0 0) &&& (v.getD 1 0)) ^^^ ((v.getD 0 0) &&& (v.getD 2 0))) ^^^ ((v.getD 1 0) &&& (v.getD 2 0))]) ho2 (by simp) (hin 0 _ rfl))) rfl ?_)
 rintro _ _ ⟨rfl,rfl⟩
 refine JAn rfl<|ZC (.int .u32 ((Xh [Y7 2 13 22 false (v.getD 0 0),(((v.getD 0 0) &&& (v.getD 1 0)) ^^^ ((v.getD 0 0) &&& (v.getD 2 0))) ^^^ ((v.getD 1 0) &&& (v.getD 2 0))]).toNat:Int)) [] Sub.nil (?_)
 exact ⟨by rw [K5];rfl,rfl⟩
theorem IN (H:Heap):CT prog 207 ⟨[]⟩ [] H (fun r N=>r=.agg ⟨[.func (.func 233) ⟨[]⟩ ⟨[]⟩,.func (.func 235) ⟨[]⟩ ⟨[]⟩]⟩∧N=[]):=by
 refine Zl func207 rfl rfl<|Zc<|JLr (Zp (l:=[.nilFunc,.nilFunc]) zeroValue249 rfl fun b1=>Za<|Zc<|JLq (.agg ⟨[.func (.func 233) ⟨[]⟩ ⟨[]⟩,.func (.func 235) ⟨[]⟩ ⟨[]⟩]⟩) (Pu.build (pv:=[(0,.func (.func 233) ⟨[]⟩ ⟨[]⟩),(1,.func (.func 235) ⟨[]⟩ ⟨[]⟩)]) (l:=[.func (.func 233) ⟨[]⟩ ⟨[]⟩,.func (.func 235) ⟨[]⟩ ⟨[]⟩]) rfl (KL _ _ _ _ _ _))<|JLr (Ze 0 (vs:=[.func (.func 233) ⟨[]⟩ ⟨[]⟩,.func (.func 235) ⟨[]⟩ ⟨[]⟩]) (l:=[.func (.func 233) ⟨[]⟩ ⟨[]⟩,.func (.func 235) ⟨[]⟩ ⟨[]⟩]) Gc rfl rfl rfl rfl rfl (Zg rfl (Zg rfl Zq)) rfl<|Za<|ZH<|⟨.agg ⟨[.func (.func 233) ⟨[]⟩ ⟨[]⟩,.func (.func 235) ⟨[]⟩ ⟨[]⟩]⟩,[],Ret.one rfl (RV.cell Gc rfl (Zcu 0 rfl) rfl),Sub.nil,?_⟩))
 exact ⟨rfl,rfl⟩
set_option maxHeartbeats 2000000 in
theorem IC (bl:List Int) (v:Value) (H:Heap) (hv:byR H v bl) (hbl:bl.length=64) (hby:∀ x∈bl,0≤x∧x≤255):CT prog 208 ⟨[v]⟩ [] H (fun r N=>r=.agg ⟨uC (spr bl)⟩∧N=[]):=by
 refine Zl func208 rfl rfl<|Zc<|JLr (Zp (l:=uC (replicate 64 0)) zeroValue219 rfl fun b1=>Za<|Zf<|Zc<|JLM rfl<|Za<|Zh<|Zv (fun k ρ M=>∃ (j:Nat) (u:List W32),ZR ρ [(0,v),(2,pp b1 0),(9,iv ((j:Int)))]=ρ∧Sub [(BX b1 (uC u) 219)] M∧j≤16∧u.length=64∧u=sp0 bl j∧k=16-j) _ ⟨0,replicate 64 0,Zj rfl,(Sk Sub.nil),Nat.zero_le _,(length_replicate ..),rfl,rfl⟩ ?_)
 rintro _ ρ2 _ ⟨j,u,e3,hm6,hj,hul,hu,rfl⟩
 obtain ⟨ρ7,rfl⟩:=Zo e3
 clear e3
 refine ZD hm6<|Zc<|JLn (Pu.lss rfl rfl)<|Za<|Zf<|ZF rfl (fun h8=>?_) (fun h8=>?_)
 ·have h8n:j<16:=by omega
  refine Zk<|Zf<|Zh<|Zc<|JLM rfl<|JAn rfl<|Zc<|JLm v<|JLM rfl<|JLq (iv (((4*j:Nat):Int))) (ZcP rfl rfl ((w64 (by omega)).trans (by omega))) ?_
  refine JLM rfl<|JLq (iv (((4*j:Nat):Int))) (ZcP rfl rfl ((w64 (by omega)).trans (by omega)))<|JLn (ZcG rfl rfl (by first | omega | (constructor <;> omega)))<|JLr (HI (4*j) 4 Yl sizeOf5 hv rfl rfl rfl rfl (by omega) (by omega) fun u9 hu9=>?_)
  have h9:=hu9 _ hv
  obtain ⟨a10,cap10,hv10⟩:=h9.rd.sl
  have hle10:=h9.rd.le
  refine JLn (Zcv Yl hv10)<|JLM rfl<|Za<|Zh<|Zv (fun k ρ M=>∃ (i:Nat) (u2:List W32),ZR ρ [(0,v),(2,pp b1 0),(3,iv ((j:Int))),(9,iv ((j:Int))),(18,u9),(19,iv ((((bl.drop (4*j)).take 4).length:Int))),(20,iv ((i:Int)))]=ρ∧Sub [(BX b1 (uC u2) 219)] M∧i≤4∧u2.length=64∧u2=(sp0 bl j).set j (wk bl j i)∧k=4-i) _ ⟨0,u,Zj rfl,(Sk Sub.nil),Nat.zero_le _,hul,(by rw [hu];exact (OC bl (by omega)).symm),rfl⟩ ?_
  rintro _ ρ11 _ ⟨i,u2,e12,hm19,hi,hu2l,hu2,rfl⟩
  obtain ⟨ρ20,rfl⟩:=Zo e12
  clear e12
  refine ZD hm19 ?_
  have hdl:((bl.drop (4*j)).take 4).length=4:=by rw [length_take,length_drop];omega
  refine Zc<|JLn (Pu.lss rfl rfl)<|Za<|Zf<|ZF rfl (fun h21=>?_) (fun h21=>?_)
  ·have h21n:i<((bl.drop (4*j)).take 4).length:=by omega
   refine Zk<|Zf<|Zh<|Zf<|Zd ?_
   obtain ⟨b22,o22,cap22,row22,T22,fr22,cs22,hv22,hb22,hs22,hE22⟩:=h9.rd.get i (by omega)
   refine JLn (Zcw i Yl ty5 hv22 rfl rfl (by omega))<|JLr (Zb ty5 rfl (Zcx hb22) (ZT ((show cs22=[Value.int .u8 (((bl.drop (4*j)).take 4)[i])] from hE22)▸hs22))<|JAn rfl<|Zd<|JLM rfl<|JLM rfl<|JLq (pp b1 (0+j*1)) (ZcB j WB ZK rfl rfl rfl (by omega))<|JLr (Zb ZK rfl (Zcu 0 rfl) (XF (by have hbl:List.length u2=64:=hu2l;rw [hbl];omega))<|JLq (.int .u32 (((u2.getD j 0) <<< 8).toNat:Int)) (Zc5 8 rfl rfl rfl (by omega))<|JLM rfl<|JLq (.int .u32 ((wd (((bl.drop (4*j)).take 4)[i])).toNat:Int)) (Zde Ru5 Ik rfl (by exact hby _ (List.mem_of_mem_drop (List.mem_of_mem_take (getElem_mem _)))))<|JLq (.int .u32 ((((u2.getD j 0) <<< 8) ||| (wd (((bl.drop (4*j)).take 4)[i]))).toNat:Int)) (ZcZ rfl rfl) ?_))
   refine JLq (pp b1 (0+j*1)) (ZcB j WB ZK rfl rfl rfl (by omega))<|JLr (Ze 0 (vs:=[.int .u32 ((((u2.getD j 0) <<< 8) ||| (wd (((bl.drop (4*j)).take 4)[i]))).toNat:Int)]) (l:=uC (u2.set j (((u2.getD j 0) <<< 8) ||| (wd (((bl.drop (4*j)).take 4)[i]))))) ZK rfl rfl rfl rfl rfl (Zg rfl Zq) (Rl (by have hbl:List.length u2=64:=hu2l;rw [hbl];omega))<|Za<|Zd<|JLn (Zcy rfl rfl (by omega))<|JLM rfl<|Za<|⟨_,?_,(i+1),(u2.set j (((u2.getD j 0) <<< 8) ||| (wd (((bl.drop (4*j)).take 4)[i])))),Zj rfl,(Sk Sub.nil),?_,?_,?_,rfl⟩)
   ·omega
   ·omega
   ·exact ((length_set ..).trans hu2l)
   exact K9 hu2 (by omega) (QA (by omega))
  have h21n:((bl.drop (4*j)).take 4).length≤i:=by omega
  refine Zu _ rfl<|Zd<|JLn (Zcy rfl rfl (by omega))<|JLM rfl<|Za<|⟨_,?_,(j+1),u2,Zj rfl,(Sk Sub.nil),?_,?_,?_,rfl⟩
  ·omega
  ·omega
  ·exact hu2l
  rw [hu2,sp0,show i=4 by omega]
 have h8n:16≤j:=by omega
 refine Zu _ rfl<|Zc<|JLq (.agg ⟨[iv 7,iv 18,iv 3,.bool true]⟩) (Pu.build (pv:=[(0,iv 7),(1,iv 18),(2,iv 3),(3,.bool true)]) (l:=[iv 7,iv 18,iv 3,.bool true]) rfl (Ws _ _ _ _))<|JLq (.agg ⟨[iv 17,iv 19,iv 10,.bool true]⟩) (Pu.build (pv:=[(0,iv 17),(1,iv 19),(2,iv 10),(3,.bool true)]) (l:=[iv 17,iv 19,iv 10,.bool true]) rfl (Ws _ _ _ _))<|JLr (Zp (l:=[iv 0,iv 0,iv 0,.bool false]) zeroValue267 rfl fun b23=>JLr (Zp (l:=[iv 0,iv 0,iv 0,.bool false]) zeroValue267 rfl fun b24=>JLr (Ze 1 (vs:=[iv 7,iv 18,iv 3,.bool true]) (l:=[iv 7,iv 18,iv 3,.bool true]) KV rfl rfl rfl rfl rfl (Zg rfl (Zg rfl (Zg rfl (Zg rfl Zq)))) rfl<|JLr (Ze 0 (vs:=[iv 17,iv 19,iv 10,.bool true]) (l:=[iv 17,iv 19,iv 10,.bool true]) KV rfl rfl rfl rfl rfl (Zg rfl (Zg rfl (Zg rfl (Zg rfl Zq)))) rfl<|Za<|Zf<|Zf<|Zd ?_))))
 refine JAn rfl<|Zh<|Zv (fun k ρ M=>∃ (j3:Nat) (u3:List W32),ρ 2=pp b1 0∧ρ 6=pp b23 0∧ρ 7=pp b24 0∧ρ 8=iv (((j3+16:Nat):Int))∧Sub [(BX b1 (uC u3) 219),(BX b24 [iv 17,iv 19,iv 10,.bool true] 267),(BX b23 [iv 7,iv 18,iv 3,.bool true] 267)] M∧j3≤48∧u3.length=64∧u3=sp1 (sp0 bl 16) j3∧k=48-j3) _ ⟨0,u,rfl,rfl,rfl,rfl,(Sub.cons 2 rfl (Sk (Sk Sub.nil))),Nat.zero_le _,hul,(by rw [hu,show j=16 by omega];rfl),rfl⟩ ?_
 rintro _ ρ25 _ ⟨j3,u3,e26,e27,e28,e29,hm30,hj3,hu3l,hu3,rfl⟩
 obtain ⟨ρ31,rfl⟩:=Zo (uc e26 (uc e27 (uc e28 (uc e29 un))))
 clear e26 e27 e28 e29
 refine ZD hm30<|Zf<|Zc<|JLM rfl<|JLn (Pu.lss rfl rfl)<|Za<|ZF rfl (fun h32=>?_) (fun h32=>?_)
 ·refine Zk<|Zf<|Zh<|ZI mixed #[0,0,2,6,14,0,32,96,224,0,0,1024,3072,7168,15872,0,0,65536,196608,458752,1048064,2097150,4194302,8388607,16777215] 23 (sm 41 23) [] [(14,fun _ _ vw qw=>vw=.int .u32 ((Y7 7 18 3 true (u3.getD (j3+16-15) 0)).toNat:Int)∧qw=[]),(20,fun _ _ vw qw=>vw=.int .u32 ((Y7 17 19 10 true (u3.getD (j3+16-2) 0)).toNat:Int)∧qw=[]),(21,fun _ _ vw qw=>∃ b k,vw=.slice (some ⟨b,0,none⟩) 4 4∧qw=[k]∧Own 137 1 (.slice (some ⟨b,0,none⟩) 4 4) [[.int .u32 ((u3.getD (j3+16-16) 0).toNat:Int)],[.int .u32 ((u3.getD (j3+16-7) 0).toNat:Int)],[.int .u32 ((Y7 7 18 3 true (u3.getD (j3+16-15) 0)).toNat:Int)],[.int .u32 ((Y7 17 19 10 true (u3.getD (j3+16-2) 0)).toNat:Int)]] k∧k=(BX b (flatten [[.int .u32 ((u3.getD (j3+16-16) 0).toNat:Int)],[.int .u32 ((u3.getD (j3+16-7) 0).toNat:Int)],[.int .u32 ((Y7 7 18 3 true (u3.getD (j3+16-15) 0)).toNat:Int)],[.int .u32 ((Y7 17 19 10 true (u3.getD (j3+16-2) 0)).toNat:Int)]]) 137)),(22,fun _ _ vw qw=>vw=.int .u32 ((Xh [u3.getD (j3+16-16) 0,u3.getD (j3+16-7) 0,Y7 7 18 3 true (u3.getD (j3+16-15) 0),Y7 17 19 10 true (u3.getD (j3+16-2) 0)]).toNat:Int)∧qw=[])] rfl (by kernel_rfl) rfl (by kernel_rfl)<|DM (fun _=>rfl)<|DM (fun _=>rfl) ?_
  refine Dn (fun _=>ZcK rfl rfl (by first | omega | (constructor <;> omega))) ?_
  refine Dq (pp b1 (0+(j3+16-16)*1)) (fun _=>ZcB (j3+16-16) WB ZK rfl rfl (by omega) (by omega)) ?_
  refine ZZ rfl (fun _=>rfl) ZK (fun _=>rfl) (Zcu 0 rfl) (XF (by have hbl:List.length u3=64:=hu3l;rw [hbl];omega))<|DM (fun _=>rfl) ?_
  refine Dn (fun _=>ZcK rfl rfl (by first | omega | (constructor <;> omega))) ?_
  refine Dq (pp b1 (0+(j3+16-7)*1)) (fun _=>ZcB (j3+16-7) WB ZK rfl rfl (by omega) (by omega)) ?_
  refine ZZ rfl (fun _=>rfl) ZK (fun _=>rfl) (Zcu 0 rfl) (XF (by have hbl:List.length u3=64:=hu3l;rw [hbl];omega))<|Dl KV (Zcu 2 rfl) rfl<|DM (fun _=>rfl) ?_
  refine Dn (fun _=>ZcK rfl rfl (by first | omega | (constructor <;> omega))) ?_
  refine Dq (pp b1 (0+(j3+16-15)*1)) (fun _=>ZcB (j3+16-15) WB ZK rfl rfl (by omega) (by omega)) ?_
  refine ZZ rfl (fun _=>rfl) ZK (fun _=>rfl) (Zcu 0 rfl) (XF (by have hbl:List.length u3=64:=hu3l;rw [hbl];omega))<|Dc rfl call234 (fun _=>rfl) (fun hin=>NL 7 18 3 true _ _ (by decide) (by decide) (by decide)) ?_
  rintro _ _ ⟨rfl,rfl⟩
  refine Dl KV (Zcu 1 rfl) rfl<|DM (fun _=>rfl) ?_
  refine Dn (fun _=>ZcK rfl rfl (by first | omega | (constructor <;> omega))) ?_
  refine Dq (pp b1 (0+(j3+16-2)*1)) (fun _=>ZcB (j3+16-2) WB ZK rfl rfl (by omega) (by omega)) ?_
  refine ZZ rfl (fun _=>rfl) ZK (fun _=>rfl) (Zcu 0 rfl) (XF (by have hbl:List.length u3=64:=hu3l;rw [hbl];omega))<|Dc rfl call234 (fun _=>rfl) (fun hin=>NL 17 19 10 true _ _ (by decide) (by decide) (by decide)) ?_
  rintro _ _ ⟨rfl,rfl⟩
  refine Dr rfl (fun _=>Zm (vs:=[.int .u32 ((u3.getD (j3+16-16) 0).toNat:Int),.int .u32 ((u3.getD (j3+16-7) 0).toNat:Int),.int .u32 ((Y7 7 18 3 true (u3.getD (j3+16-15) 0)).toNat:Int),.int .u32 ((Y7 17 19 10 true (u3.getD (j3+16-2) 0)).toNat:Int)]) [[.int .u32 ((u3.getD (j3+16-16) 0).toNat:Int)],[.int .u32 ((u3.getD (j3+16-7) 0).toNat:Int)],[.int .u32 ((Y7 7 18 3 true (u3.getD (j3+16-15) 0)).toNat:Int)],[.int .u32 ((Y7 17 19 10 true (u3.getD (j3+16-2) 0)).toNat:Int)]] TS PN rfl rfl (alc rfl (alc rfl (alc rfl (al1 rfl)))) rfl (by decide) fun b k h1 h2=>⟨[k],by rw [Z4 rfl];exact Sub.refl,b,k,rfl,rfl,h1,h2⟩) (fun _ _ ⟨b34,k34,e1,e2,ho34,hk34⟩=>?_);subst e1 e2
  refine Dc rfl call209 (fun _=>rfl) (fun hin=>Vs [u3.getD (j3+16-16) 0,u3.getD (j3+16-7) 0,Y7 7 18 3 true (u3.getD (j3+16-15) 0),Y7 17 19 10 true (u3.getD (j3+16-2) 0)] _ _ (Pm (l:=[u3.getD (j3+16-16) 0,u3.getD (j3+16-7) 0,Y7 7 18 3 true (u3.getD (j3+16-15) 0),Y7 17 19 10 true (u3.getD (j3+16-2) 0)]) ho34 (by simp) (hin 0 _ rfl))) ?_
  rintro _ _ ⟨rfl,rfl⟩
  refine ZM (M':=[k34,(BX b1 (uC u3) 219),(BX b24 [iv 17,iv 19,iv 10,.bool true] 267),(BX b23 [iv 7,iv 18,iv 3,.bool true] 267)]) rfl ?_
  show JL _ _ _ [_,_] _ _ _
  refine JLq (pp b1 (0+(j3+16)*1)) (ZcB (j3+16) WB ZK rfl rfl rfl (by omega))<|JLr (Ze 1 (vs:=[.int .u32 ((Xh [u3.getD (j3+16-16) 0,u3.getD (j3+16-7) 0,Y7 7 18 3 true (u3.getD (j3+16-15) 0),Y7 17 19 10 true (u3.getD (j3+16-2) 0)]).toNat:Int)]) (l:=uC (u3.set (j3+16) (Xh [u3.getD (j3+16-16) 0,u3.getD (j3+16-7) 0,Y7 7 18 3 true (u3.getD (j3+16-15) 0),Y7 17 19 10 true (u3.getD (j3+16-2) 0)]))) ZK rfl rfl rfl rfl rfl (Zg rfl Zq) (Rl (by have hbl:List.length u3=64:=hu3l;rw [hbl];omega))<|Za<|Zd<|JLM rfl<|JLn (ZcG rfl rfl (by first | omega | (constructor <;> omega)))<|JAn rfl<|⟨_,?_,(j3+1),(u3.set (j3+16) (Xh [u3.getD (j3+16-16) 0,u3.getD (j3+16-7) 0,Y7 7 18 3 true (u3.getD (j3+16-15) 0),Y7 17 19 10 true (u3.getD (j3+16-2) 0)])),rfl,rfl,rfl,(congrArg (Value.int .i64) (by omega)),(Sd (Sk (Sk (Sk Sub.nil)))),?_,?_,?_,rfl⟩)
  ·omega
  ·omega
  ·exact ((length_set ..).trans hu3l)
  rw [sp1,spx,Za6,hu3]
 refine Zu _ rfl<|Zc<|JLr (Zn Gd rfl (Zcu 0 rfl) (ZE ((ZO _).trans hu3l))<|JLr (Ze 0 (vs:=uC u3) (l:=uC u3) Gd rfl rfl rfl rfl ((ZO _).trans hu3l) (Ve _) (Yb (n:=64) ((ZO _).trans hu3l) ((ZO _).trans hu3l))<|Za<|ZH<|⟨.agg ⟨uC u3⟩,[],Ret.one rfl (RV.cell Gd rfl (Zcu 0 rfl) (ZE ((ZO _).trans hu3l))),Sub.nil,?_⟩))
 obtain rfl:j3=48:=by omega
 exact ⟨by rw [hu3];rfl,rfl⟩
theorem XZ (x:W32) (n:Nat) (H:Heap) (hn:1≤n∧n≤31):CT prog 180 ⟨[.int .u32 (x.toNat:Int),iv ((n:Int))]⟩ [] H (fun r N=>r=uv (ZP x n)∧N=[]):=by
 refine Zl func180 rfl rfl<|Zc<|JAn rfl<|Zf<|ZI mixed #[0,0,3,0,0,16,56,127,255] 7 (sm 5 7) [] [] rfl (by kernel_rfl) rfl (by kernel_rfl)<|DM (fun _=>rfl)<|DM (fun _=>rfl) ?_
 refine Dq (.int .u32 ((x >>> n).toNat:Int)) (fun _=>ZcV n rfl rfl rfl (by omega))<|DM (fun _=>rfl)<|DM (fun _=>rfl) ?_
 refine Dn (fun _=>ZcK rfl rfl (by first | omega | (constructor <;> omega))) ?_
 refine Dq (.int .u32 ((x <<< (32-n)).toNat:Int)) (fun _=>Zc5 (32-n) rfl rfl (by omega) (by omega))<|ZM (M':=[]) rfl ?_
 show JL _ _ _ [_,_] _ _ _
 refine JLq (.int .u32 (((x >>> n) ||| (x <<< (32-n))).toNat:Int)) (ZcZ rfl rfl)<|JAn rfl<|ZC (.int .u32 (((x >>> n) ||| (x <<< (32-n))).toNat:Int)) [] Sub.nil (?_)
 exact ⟨congrArg uv (AG x n),rfl⟩
set_option maxHeartbeats 400000 in
theorem EA (i:Nat) (H:Heap) (hi:i<64):CT prog 181 ⟨[iv ((i:Int))]⟩ [] H (fun r N=>r=uv (kW.getD i 0)∧N=[]):=by
 refine Zl func181 rfl rfl<|Zc<|JAn rfl<|Zc<|JLq (.agg ⟨uC kW⟩) (Pu.build (l:=uC kW) (by kernel_rfl) ZaE)<|JLM rfl<|JLq (.int .u32 ((kW.getD i 0).toNat:Int)) (ZcW i WB ZK rfl rfl rfl (by omega) (Xe (by have hbl:List.length kW=64:=rfl;rw [hbl];omega)))<|JAn rfl<|ZH ?_
 refine ⟨.int .u32 ((kW.getD i 0).toNat:Int),[],Ret.one rfl (RV.tmp rfl),Sub.nil,?_⟩
 exact ⟨rfl,rfl⟩
set_option maxHeartbeats 4000000 in
theorem Iv (h:List W32) (bl:List Int) (v:Value) (H:Heap) (hl:h.length=8) (hv:byR H v bl) (hbl:bl.length=64) (hby:∀ x∈bl,0≤x∧x≤255):CT prog 141 ⟨[.agg ⟨uC h⟩,v]⟩ [] H (fun r N=>r=.agg ⟨uC (tkn h bl)⟩∧N=[]):=by
 refine Zl func141 rfl rfl<|Zc<|JLr (Zr (l:=uC h) rfl rfl fun b1=>JLr (Zp (l:=uC (replicate 8 0)) zeroValue138 rfl fun b2=>Za<|Zc<|JLr (Zp (l:=uC (replicate 64 0)) zeroValue219 rfl fun b3=>Za<|Zf<|Zf<|Zd ?_)))
 refine JAn rfl<|Zh<|Zv (fun k ρ M=>∃ (j:Nat) (u:List W32),ZR ρ [(1,v),(2,pp b1 0),(4,pp b2 0),(5,pp b3 0),(6,iv ((j:Int)))]=ρ∧Sub [(BX b3 (uC u) 219),(BX b2 (uC (replicate 8 0)) 138),(BX b1 (uC h) 138)] M∧j≤16∧u.length=64∧u=sp0 bl j∧k=16-j) _ ⟨0,replicate 64 0,Zj rfl,(Sk (Sk (Sk Sub.nil))),Nat.zero_le _,(length_replicate ..),rfl,rfl⟩ ?_
 rintro _ ρ4 _ ⟨j,u,e5,hm10,hj,hul,hu,rfl⟩
 obtain ⟨ρ11,rfl⟩:=Zo e5
 clear e5
 refine ZD hm10<|Zf<|Zc<|JLM rfl<|JLn (Pu.lss rfl rfl)<|Za<|ZF rfl (fun h12=>?_) (fun h12=>?_)
 ·have h12n:j<16:=by omega
  refine Zk<|Zf<|Zh<|Zc<|JAn rfl<|Zh<|Zv (fun k ρ M=>∃ (i:Nat) (u2:List W32),ZR ρ [(1,v),(2,pp b1 0),(4,pp b2 0),(5,pp b3 0),(6,iv ((j:Int))),(7,iv ((i:Int)))]=ρ∧Sub [(BX b3 (uC u2) 219),(BX b2 (uC (replicate 8 0)) 138),(BX b1 (uC h) 138)] M∧i≤4∧u2.length=64∧u2=(sp0 bl j).set j (wk bl j i)∧k=4-i) _ ⟨0,u,Zj rfl,(Sk (Sk (Sk Sub.nil))),Nat.zero_le _,hul,(by rw [hu];exact (OC bl (by omega)).symm),rfl⟩ ?_
  rintro _ ρ13 _ ⟨i,u2,e14,hm20,hi,hu2l,hu2,rfl⟩
  obtain ⟨ρ21,rfl⟩:=Zo e14
  clear e14
  refine ZD hm20<|Zf<|Zc<|JLM rfl<|JLn (Pu.lss rfl rfl)<|Za<|ZF rfl (fun h22=>?_) (fun h22=>?_)
  ·have h22n:i<4:=by omega
   refine Zk<|Zf<|Zh<|ZI mixed #[0,0,2,6,14,0,0,64,0,448,992,2016,4064,8190,16383,32767] 14 (sm 30 14) [] [] rfl (by kernel_rfl) rfl (by kernel_rfl)<|DM (fun _=>rfl)<|DM (fun _=>rfl) ?_
   refine Dq (pp b3 (0+j*1)) (fun _=>ZcB j WB ZK rfl rfl rfl (by omega)) ?_
   refine ZZ rfl (fun _=>rfl) ZK (fun _=>rfl) (Zcu 0 rfl) (XF (by have hbl:List.length u2=64:=hu2l;rw [hbl];omega)) ?_
   refine Dq (.int .u32 (((u2.getD j 0) <<< 8).toNat:Int)) (fun _=>Zc5 8 rfl rfl rfl (by omega))<|Dm v<|DM (fun _=>rfl) ?_
   refine Dq (iv (((4*j:Nat):Int))) (fun _=>ZcP rfl rfl ((w64 (by omega)).trans (by omega)))<|DM (fun _=>rfl) ?_
   refine Dn (fun _=>ZcG rfl rfl (by first | omega | (constructor <;> omega))) ?_
   obtain ⟨b24,o24,cap24,row24,T24,fr24,cs24,hv24,hb24,hs24,hE24⟩:=hv.rd.get (4*j+i) (by omega)
   refine Dq (pp b24 (o24+(4*j+i)*1)) (fun _=>Zcw (4*j+i) Yl ty5 hv24 rfl (by first | rfl | omega) (by omega))<|Dl1 ty5 (Zcx hb24) (ZT ((show cs24=[Value.int .u8 (bl[(4*j+i)])] from hE24)▸hs24))<|Dq (.int .u32 ((wd (bl[(4*j+i)])).toNat:Int)) (fun _=>Zde Ru5 Ik rfl (by exact hby _ (getElem_mem _)))<|Dq (.int .u32 ((((u2.getD j 0) <<< 8) ||| (wd (bl[(4*j+i)]))).toNat:Int)) (fun _=>ZcZ rfl rfl)<|ZM (M':=[(BX b3 (uC u2) 219),(BX b2 (uC (replicate 8 0)) 138),(BX b1 (uC h) 138)]) rfl ?_
   show JL _ _ _ [_,_] _ _ _
   refine JLq (pp b3 (0+j*1)) (ZcB j WB ZK rfl rfl rfl (by omega))<|JLr (Ze 0 (vs:=[.int .u32 ((((u2.getD j 0) <<< 8) ||| (wd (bl[(4*j+i)]))).toNat:Int)]) (l:=uC (u2.set j (((u2.getD j 0) <<< 8) ||| (wd (bl[(4*j+i)]))))) ZK rfl rfl rfl rfl rfl (Zg rfl Zq) (Rl (by have hbl:List.length u2=64:=hu2l;rw [hbl];omega))<|Za<|Zd<|JLM rfl<|JLn (Zcy rfl rfl (by omega))<|JAn rfl<|⟨_,?_,(i+1),(u2.set j (((u2.getD j 0) <<< 8) ||| (wd (bl[(4*j+i)])))),Zj rfl,(Sk (Sk (Sk Sub.nil))),?_,?_,?_,rfl⟩)
   ·omega
   ·omega
   ·exact ((length_set ..).trans hu2l)
   exact K9 hu2 (by omega) (Zb1 (by omega))
  have h22n:4≤i:=by omega
  refine Zu _ rfl<|Zd<|JLM rfl<|JLn (Zcy rfl rfl (by omega))<|JAn rfl<|⟨_,?_,(j+1),u2,Zj rfl,(Sk (Sk (Sk Sub.nil))),?_,?_,?_,rfl⟩
  ·omega
  ·omega
  ·exact hu2l
  rw [hu2,sp0,show i=4 by omega]
 have h12n:16≤j:=by omega
 refine Zu _ rfl<|Zf<|Zc<|JAn rfl<|Zh<|Zv (fun k ρ M=>∃ (j3:Nat) (u3:List W32),ρ 2=pp b1 0∧ρ 4=pp b2 0∧ρ 5=pp b3 0∧ρ 8=iv (((j3+16:Nat):Int))∧Sub [(BX b3 (uC u3) 219),(BX b2 (uC (replicate 8 0)) 138),(BX b1 (uC h) 138)] M∧j3≤48∧u3.length=64∧u3=sp1 (sp0 bl 16) j3∧k=48-j3) _ ⟨0,u,rfl,rfl,rfl,rfl,(Sk (Sk (Sk Sub.nil))),Nat.zero_le _,hul,(by rw [hu,show j=16 by omega];rfl),rfl⟩ ?_
 rintro _ ρ25 _ ⟨j3,u3,e26,e27,e28,e29,hm30,hj3,hu3l,hu3,rfl⟩
 obtain ⟨ρ31,rfl⟩:=Zo (uc e26 (uc e27 (uc e28 (uc e29 un))))
 clear e26 e27 e28 e29
 refine ZD hm30<|Zf<|Zc<|JLM rfl<|JLn (Pu.lss rfl rfl)<|Za<|ZF rfl (fun h32=>?_) (fun h32=>?_)
 ·refine Zk<|Zf<|Zh<|Zf<|ZI mixed #[0,1,3,7,0,16,48,112,15,511] 9 [some 49,some 50,some 51,some 52,some 53,some 54,some 55,some 56,some 9] [] [] rfl (by kernel_rfl) rfl (by kernel_rfl)<|DM (fun _=>rfl) ?_
  refine Dn (fun _=>ZcK rfl rfl (by first | omega | (constructor <;> omega))) ?_
  refine Dq (pp b3 (0+(j3+16-15)*1)) (fun _=>ZcB (j3+16-15) WB ZK rfl rfl (by omega) (by omega)) ?_
  refine ZZ rfl (fun _=>rfl) ZK (fun _=>rfl) (Zcu 0 rfl) (XF (by have hbl:List.length u3=64:=hu3l;rw [hbl];omega))<|DM (fun _=>rfl) ?_
  refine Dn (fun _=>ZcK rfl rfl (by first | omega | (constructor <;> omega))) ?_
  refine Dq (pp b3 (0+(j3+16-2)*1)) (fun _=>ZcB (j3+16-2) WB ZK rfl rfl (by omega) (by omega)) ?_
  refine ZZ rfl (fun _=>rfl) ZK (fun _=>rfl) (Zcu 0 rfl) (XF (by have hbl:List.length u3=64:=hu3l;rw [hbl];omega))<|Dq (.int .u32 ((u3.getD (j3+16-15) 0).toNat:Int)) (fun _=>Pu.assign rfl)<|ZM (M':=[(BX b3 (uC u3) 219),(BX b2 (uC (replicate 8 0)) 138),(BX b1 (uC h) 138)]) rfl ?_
  show JL _ _ _ [_] _ _ _
  refine JAn rfl<|ZI mixed #[0,0,2,6,14,0,32,96,224,510,0,1024,0,7168,15360,0,32768,130048,262142,0,539648,0,3685376,7879680,0,16777216,66599936,134217726,268435455,536870911] 28 (sm 57 28) [] [(11,fun _ _ vw qw=>vw=.int .u32 ((ZP (u3.getD (j3+16-15) 0) 7).toNat:Int)∧qw=[]),(13,fun _ _ vw qw=>vw=.int .u32 ((ZP (u3.getD (j3+16-15) 0) 18).toNat:Int)∧qw=[]),(20,fun _ _ vw qw=>vw=.int .u32 ((ZP (u3.getD (j3+16-2) 0) 17).toNat:Int)∧qw=[]),(22,fun _ _ vw qw=>vw=.int .u32 ((ZP (u3.getD (j3+16-2) 0) 19).toNat:Int)∧qw=[])] rfl (by kernel_rfl) rfl (by kernel_rfl)<|DM (fun _=>rfl)<|DM (fun _=>rfl) ?_
  refine Dn (fun _=>ZcK rfl rfl (by first | omega | (constructor <;> omega))) ?_
  refine Dq (pp b3 (0+(j3+16-16)*1)) (fun _=>ZcB (j3+16-16) WB ZK rfl rfl (by omega) (by omega)) ?_
  refine ZZ rfl (fun _=>rfl) ZK (fun _=>rfl) (Zcu 0 rfl) (XF (by have hbl:List.length u3=64:=hu3l;rw [hbl];omega))<|DM (fun _=>rfl) ?_
  refine Dn (fun _=>ZcK rfl rfl (by first | omega | (constructor <;> omega))) ?_
  refine Dq (pp b3 (0+(j3+16-7)*1)) (fun _=>ZcB (j3+16-7) WB ZK rfl rfl (by omega) (by omega)) ?_
  refine ZZ rfl (fun _=>rfl) ZK (fun _=>rfl) (Zcu 0 rfl) (XF (by have hbl:List.length u3=64:=hu3l;rw [hbl];omega))<|Dq (.int .u32 (((u3.getD (j3+16-16) 0)+(u3.getD (j3+16-7) 0)).toNat:Int)) (fun _=>ZcN rfl rfl)<|DM (fun _=>rfl) ?_
  refine Dc rfl call180 (fun _=>rfl) (fun hin=>XZ _ 7 _ (by omega)) ?_
  rintro _ _ ⟨rfl,rfl⟩
  refine DM (fun _=>rfl) ?_
  refine Dc rfl call180 (fun _=>rfl) (fun hin=>XZ _ 18 _ (by omega)) ?_
  rintro _ _ ⟨rfl,rfl⟩
  refine Dq (.int .u32 (((ZP (u3.getD (j3+16-15) 0) 7) ^^^ (ZP (u3.getD (j3+16-15) 0) 18)).toNat:Int)) (fun _=>ZcL rfl rfl)<|DM (fun _=>rfl) ?_
  refine Dq (.int .u32 (((u3.getD (j3+16-15) 0) >>> 3).toNat:Int)) (fun _=>ZcV 3 rfl rfl rfl (by omega))<|Dq (.int .u32 ((((ZP (u3.getD (j3+16-15) 0) 7) ^^^ (ZP (u3.getD (j3+16-15) 0) 18)) ^^^ ((u3.getD (j3+16-15) 0) >>> 3)).toNat:Int)) (fun _=>ZcL rfl rfl)<|Dq (.int .u32 ((((u3.getD (j3+16-16) 0)+(u3.getD (j3+16-7) 0))+(((ZP (u3.getD (j3+16-15) 0) 7) ^^^ (ZP (u3.getD (j3+16-15) 0) 18)) ^^^ ((u3.getD (j3+16-15) 0) >>> 3))).toNat:Int)) (fun _=>ZcN rfl rfl)<|DM (fun _=>rfl) ?_
  refine Dc rfl call180 (fun _=>rfl) (fun hin=>XZ _ 17 _ (by omega)) ?_
  rintro _ _ ⟨rfl,rfl⟩
  refine DM (fun _=>rfl) ?_
  refine Dc rfl call180 (fun _=>rfl) (fun hin=>XZ _ 19 _ (by omega)) ?_
  rintro _ _ ⟨rfl,rfl⟩
  refine Dq (.int .u32 (((ZP (u3.getD (j3+16-2) 0) 17) ^^^ (ZP (u3.getD (j3+16-2) 0) 19)).toNat:Int)) (fun _=>ZcL rfl rfl)<|DM (fun _=>rfl) ?_
  refine Dq (.int .u32 (((u3.getD (j3+16-2) 0) >>> 10).toNat:Int)) (fun _=>ZcV 10 rfl rfl rfl (by omega))<|Dq (.int .u32 ((((ZP (u3.getD (j3+16-2) 0) 17) ^^^ (ZP (u3.getD (j3+16-2) 0) 19)) ^^^ ((u3.getD (j3+16-2) 0) >>> 10)).toNat:Int)) (fun _=>ZcL rfl rfl)<|Dq (.int .u32 (((((u3.getD (j3+16-16) 0)+(u3.getD (j3+16-7) 0))+(((ZP (u3.getD (j3+16-15) 0) 7) ^^^ (ZP (u3.getD (j3+16-15) 0) 18)) ^^^ ((u3.getD (j3+16-15) 0) >>> 3)))+(((ZP (u3.getD (j3+16-2) 0) 17) ^^^ (ZP (u3.getD (j3+16-2) 0) 19)) ^^^ ((u3.getD (j3+16-2) 0) >>> 10))).toNat:Int)) (fun _=>ZcN rfl rfl)<|ZM (M':=[(BX b3 (uC u3) 219),(BX b2 (uC (replicate 8 0)) 138),(BX b1 (uC h) 138)]) rfl ?_
  show JL _ _ _ [_,_] _ _ _
  refine JLq (pp b3 (0+(j3+16)*1)) (ZcB (j3+16) WB ZK rfl rfl rfl (by omega))<|JLr (Ze 0 (vs:=[.int .u32 (((((u3.getD (j3+16-16) 0)+(u3.getD (j3+16-7) 0))+(((ZP (u3.getD (j3+16-15) 0) 7) ^^^ (ZP (u3.getD (j3+16-15) 0) 18)) ^^^ ((u3.getD (j3+16-15) 0) >>> 3)))+(((ZP (u3.getD (j3+16-2) 0) 17) ^^^ (ZP (u3.getD (j3+16-2) 0) 19)) ^^^ ((u3.getD (j3+16-2) 0) >>> 10))).toNat:Int)]) (l:=uC (u3.set (j3+16) ((((u3.getD (j3+16-16) 0)+(u3.getD (j3+16-7) 0))+(((ZP (u3.getD (j3+16-15) 0) 7) ^^^ (ZP (u3.getD (j3+16-15) 0) 18)) ^^^ ((u3.getD (j3+16-15) 0) >>> 3)))+(((ZP (u3.getD (j3+16-2) 0) 17) ^^^ (ZP (u3.getD (j3+16-2) 0) 19)) ^^^ ((u3.getD (j3+16-2) 0) >>> 10))))) ZK rfl rfl rfl rfl rfl (Zg rfl Zq) (Rl (by have hbl:List.length u3=64:=hu3l;rw [hbl];omega))<|Za<|Zd<|JLM rfl<|JLn (ZcG rfl rfl (by first | omega | (constructor <;> omega)))<|JAn rfl<|⟨_,?_,(j3+1),(u3.set (j3+16) ((((u3.getD (j3+16-16) 0)+(u3.getD (j3+16-7) 0))+(((ZP (u3.getD (j3+16-15) 0) 7) ^^^ (ZP (u3.getD (j3+16-15) 0) 18)) ^^^ ((u3.getD (j3+16-15) 0) >>> 3)))+(((ZP (u3.getD (j3+16-2) 0) 17) ^^^ (ZP (u3.getD (j3+16-2) 0) 19)) ^^^ ((u3.getD (j3+16-2) 0) >>> 10)))),rfl,rfl,rfl,(congrArg (Value.int .i64) (by omega)),(Sk (Sk (Sk Sub.nil))),?_,?_,?_,rfl⟩)
  ·omega
  ·omega
  ·exact ((length_set ..).trans hu3l)
  rw [sp1,spx,hu3];rfl
 refine Zu _ rfl<|Zc<|JLr (Zn Xn rfl (Zcu 2 rfl) (ZE ((ZO _).trans hl))<|JLr (Zp (l:=uC (replicate 8 0)) zeroValue138 rfl fun b33=>JLr (Ze 0 (vs:=uC h) (l:=uC h) Xn rfl rfl rfl rfl ((ZO _).trans hl) (Ve _) (Yb (n:=8) ((ZO _).trans (length_replicate ..)) ((ZO _).trans hl))<|Za<|Zf<|Zc<|JAn rfl<|Zh ?_)))
 refine Zv (fun k ρ M=>∃ (j4:Nat) (u4:List W32),ZR ρ [(2,pp b1 0),(4,pp b2 0),(5,pp b3 0),(11,pp b33 0),(12,iv ((j4:Int)))]=ρ∧Sub [(BX b33 (uC u4) 138),(BX b3 (uC u3) 219),(BX b2 (uC (replicate 8 0)) 138),(BX b1 (uC h) 138)] M∧j4≤64∧u4.length=8∧u4=rds h (spr bl) j4∧k=64-j4) _ ⟨0,h,Zj rfl,(Sk (Sk (Sk (Sk Sub.nil)))),Nat.zero_le _,hl,rfl,rfl⟩ ?_
 rintro _ ρ34 _ ⟨j4,u4,e35,hm40,hj4,hu4l,hu4,rfl⟩
 obtain ⟨ρ41,rfl⟩:=Zo e35
 clear e35
 refine ZD hm40<|Zf<|Zc<|JLM rfl<|JLn (Pu.lss rfl rfl)<|Za<|ZF rfl (fun h42=>?_) (fun h42=>?_)
 ·have h42n:j4<64:=by omega
  refine Zk<|Zf<|Zh<|Zf<|ZI mixed #[0,1,0,4,0,16,0,64,0,256,0,1024,3,4111,12351,28927,62463,131071] 17 [some 91,some 92,some 93,some 94,some 95,some 96,some 97,some 98,some 99,some 100,some 101,some 102,some 13,some 14,some 15,some 16,some 17] [] [] rfl (by kernel_rfl) rfl (by kernel_rfl)<|Dq (pp b33 0) (fun _=>ZcB 0 YG ZK rfl rfl (by decide) (by decide)) ?_
  refine ZZ rfl (fun _=>rfl) ZK (fun _=>rfl) (Zcu 0 rfl) (Xe (by have hbl:List.length u4=8:=hu4l;rw [hbl];omega))<|Dq (pp b33 1) (fun _=>ZcB 1 YG ZK rfl rfl (by decide) (by decide)) ?_
  refine ZZ rfl (fun _=>rfl) ZK (fun _=>rfl) (Zcu 0 rfl) (Xe (by have hbl:List.length u4=8:=hu4l;rw [hbl];omega))<|Dq (pp b33 2) (fun _=>ZcB 2 YG ZK rfl rfl (by decide) (by decide)) ?_
  refine ZZ rfl (fun _=>rfl) ZK (fun _=>rfl) (Zcu 0 rfl) (Xe (by have hbl:List.length u4=8:=hu4l;rw [hbl];omega))<|Dq (pp b33 4) (fun _=>ZcB 4 YG ZK rfl rfl (by decide) (by decide)) ?_
  refine ZZ rfl (fun _=>rfl) ZK (fun _=>rfl) (Zcu 0 rfl) (Xe (by have hbl:List.length u4=8:=hu4l;rw [hbl];omega))<|Dq (pp b33 5) (fun _=>ZcB 5 YG ZK rfl rfl (by decide) (by decide)) ?_
  refine ZZ rfl (fun _=>rfl) ZK (fun _=>rfl) (Zcu 0 rfl) (Xe (by have hbl:List.length u4=8:=hu4l;rw [hbl];omega))<|Dq (pp b33 6) (fun _=>ZcB 6 YG ZK rfl rfl (by decide) (by decide)) ?_
  refine ZZ rfl (fun _=>rfl) ZK (fun _=>rfl) (Zcu 0 rfl) (Xe (by have hbl:List.length u4=8:=hu4l;rw [hbl];omega))<|Dq (.int .u32 ((u4.getD 0 0).toNat:Int)) (fun _=>Pu.assign rfl)<|Dq (.int .u32 ((u4.getD 1 0).toNat:Int)) (fun _=>Pu.assign rfl)<|Dq (.int .u32 ((u4.getD 2 0).toNat:Int)) (fun _=>Pu.assign rfl)<|Dq (.int .u32 ((u4.getD 4 0).toNat:Int)) (fun _=>Pu.assign rfl)<|Dq (.int .u32 ((u4.getD 5 0).toNat:Int)) (fun _=>Pu.assign rfl)<|ZM (M':=[(BX b33 (uC u4) 138),(BX b3 (uC u3) 219),(BX b2 (uC (replicate 8 0)) 138),(BX b1 (uC h) 138)]) rfl ?_
  show JL _ _ _ [_] _ _ _
  refine JAn rfl<|Zf<|ZI mixed #[0,1,0,4,0,28,60,0,188,508,1023,0,0,6144,0,16384,0,114688,260096,524287,0,1049020,4194303,0,8388608,25165824,67108863,134217727] 26 (sm 103 26) [] [(3,fun _ _ vw qw=>vw=.int .u32 ((ZP (u4.getD 4 0) 6).toNat:Int)∧qw=[]),(5,fun _ _ vw qw=>vw=.int .u32 ((ZP (u4.getD 4 0) 11).toNat:Int)∧qw=[]),(8,fun _ _ vw qw=>vw=.int .u32 ((ZP (u4.getD 4 0) 25).toNat:Int)∧qw=[]),(21,fun _ _ vw qw=>vw=.int .u32 ((kW.getD j4 0).toNat:Int)∧qw=[])] rfl (by kernel_rfl) rfl (by kernel_rfl)<|Dq (pp b33 7) (fun _=>ZcB 7 YG ZK rfl rfl (by decide) (by decide)) ?_
  refine ZZ rfl (fun _=>rfl) ZK (fun _=>rfl) (Zcu 0 rfl) (Xe (by have hbl:List.length u4=8:=hu4l;rw [hbl];omega))<|DM (fun _=>rfl) ?_
  refine Dc rfl call180 (fun _=>rfl) (fun hin=>XZ _ 6 _ (by omega)) ?_
  rintro _ _ ⟨rfl,rfl⟩
  refine DM (fun _=>rfl) ?_
  refine Dc rfl call180 (fun _=>rfl) (fun hin=>XZ _ 11 _ (by omega)) ?_
  rintro _ _ ⟨rfl,rfl⟩
  refine Dq (.int .u32 (((ZP (u4.getD 4 0) 6) ^^^ (ZP (u4.getD 4 0) 11)).toNat:Int)) (fun _=>ZcL rfl rfl)<|DM (fun _=>rfl) ?_
  refine Dc rfl call180 (fun _=>rfl) (fun hin=>XZ _ 25 _ (by omega)) ?_
  rintro _ _ ⟨rfl,rfl⟩
  refine Dq (.int .u32 ((((ZP (u4.getD 4 0) 6) ^^^ (ZP (u4.getD 4 0) 11)) ^^^ (ZP (u4.getD 4 0) 25)).toNat:Int)) (fun _=>ZcL rfl rfl)<|Dq (.int .u32 (((u4.getD 7 0)+(((ZP (u4.getD 4 0) 6) ^^^ (ZP (u4.getD 4 0) 11)) ^^^ (ZP (u4.getD 4 0) 25))).toNat:Int)) (fun _=>ZcN rfl rfl)<|DM (fun _=>rfl)<|DM (fun _=>rfl)<|Dq (.int .u32 (((u4.getD 4 0) &&& (u4.getD 5 0)).toNat:Int)) (fun _=>ZcR rfl rfl)<|DM (fun _=>rfl)<|Dq (.int .u32 ((~~~(u4.getD 4 0)).toNat:Int)) (fun _=>Zdi rfl)<|DM (fun _=>rfl)<|Dq (.int .u32 (((~~~(u4.getD 4 0)) &&& (u4.getD 6 0)).toNat:Int)) (fun _=>ZcR rfl rfl)<|Dq (.int .u32 ((((u4.getD 4 0) &&& (u4.getD 5 0)) ||| ((~~~(u4.getD 4 0)) &&& (u4.getD 6 0))).toNat:Int)) (fun _=>ZcZ rfl rfl)<|Dq (.int .u32 ((((u4.getD 7 0)+(((ZP (u4.getD 4 0) 6) ^^^ (ZP (u4.getD 4 0) 11)) ^^^ (ZP (u4.getD 4 0) 25)))+(((u4.getD 4 0) &&& (u4.getD 5 0)) ||| ((~~~(u4.getD 4 0)) &&& (u4.getD 6 0)))).toNat:Int)) (fun _=>ZcN rfl rfl)<|DM (fun _=>rfl) ?_
  refine Dc rfl call181 (fun _=>rfl) (fun hin=>EA j4 _ (by omega)) ?_
  rintro _ _ ⟨rfl,rfl⟩
  refine Dq (.int .u32 (((((u4.getD 7 0)+(((ZP (u4.getD 4 0) 6) ^^^ (ZP (u4.getD 4 0) 11)) ^^^ (ZP (u4.getD 4 0) 25)))+(((u4.getD 4 0) &&& (u4.getD 5 0)) ||| ((~~~(u4.getD 4 0)) &&& (u4.getD 6 0))))+(kW.getD j4 0)).toNat:Int)) (fun _=>ZcN rfl rfl)<|DM (fun _=>rfl) ?_
  refine Dq (pp b3 (0+j4*1)) (fun _=>ZcB j4 WB ZK rfl rfl rfl (by omega)) ?_
  refine ZZ rfl (fun _=>rfl) ZK (fun _=>rfl) (Zcu 1 rfl) (XF (by have hbl:List.length u3=64:=hu3l;rw [hbl];omega))<|ZM (M':=[(BX b33 (uC u4) 138),(BX b3 (uC u3) 219),(BX b2 (uC (replicate 8 0)) 138),(BX b1 (uC h) 138)]) rfl ?_
  show JL _ _ _ [_,_] _ _ _
  refine JLq (.int .u32 ((((((u4.getD 7 0)+(((ZP (u4.getD 4 0) 6) ^^^ (ZP (u4.getD 4 0) 11)) ^^^ (ZP (u4.getD 4 0) 25)))+(((u4.getD 4 0) &&& (u4.getD 5 0)) ||| ((~~~(u4.getD 4 0)) &&& (u4.getD 6 0))))+(kW.getD j4 0))+(u3.getD j4 0)).toNat:Int)) (ZcN rfl rfl)<|JAn rfl<|Zc<|JLM rfl<|Jc call180 rfl (fun hin=>XZ _ 2 _ (by omega)) rfl ?_
  rintro _ _ ⟨rfl,rfl⟩
  refine JLM rfl<|Jc call180 rfl (fun hin=>XZ _ 13 _ (by omega)) rfl ?_
  rintro _ _ ⟨rfl,rfl⟩
  refine JLq (.int .u32 (((ZP (u4.getD 0 0) 2) ^^^ (ZP (u4.getD 0 0) 13)).toNat:Int)) (ZcL rfl rfl)<|JLM rfl<|Jc call180 rfl (fun hin=>XZ _ 22 _ (by omega)) rfl ?_
  rintro _ _ ⟨rfl,rfl⟩
  refine JLq (.int .u32 ((((ZP (u4.getD 0 0) 2) ^^^ (ZP (u4.getD 0 0) 13)) ^^^ (ZP (u4.getD 0 0) 22)).toNat:Int)) (ZcL rfl rfl)<|JLM rfl<|JLM rfl<|JLq (.int .u32 (((u4.getD 0 0) &&& (u4.getD 1 0)).toNat:Int)) (ZcR rfl rfl)<|JLM rfl<|JLM rfl<|JLq (.int .u32 (((u4.getD 0 0) &&& (u4.getD 2 0)).toNat:Int)) (ZcR rfl rfl)<|JLq (.int .u32 ((((u4.getD 0 0) &&& (u4.getD 1 0)) ||| ((u4.getD 0 0) &&& (u4.getD 2 0))).toNat:Int)) (ZcZ rfl rfl)<|JLM rfl<|JLM rfl<|JLq (.int .u32 (((u4.getD 1 0) &&& (u4.getD 2 0)).toNat:Int)) (ZcR rfl rfl)<|JLq (.int .u32 (((((u4.getD 0 0) &&& (u4.getD 1 0)) ||| ((u4.getD 0 0) &&& (u4.getD 2 0))) ||| ((u4.getD 1 0) &&& (u4.getD 2 0))).toNat:Int)) (ZcZ rfl rfl)<|JLq (.int .u32 (((((ZP (u4.getD 0 0) 2) ^^^ (ZP (u4.getD 0 0) 13)) ^^^ (ZP (u4.getD 0 0) 22))+((((u4.getD 0 0) &&& (u4.getD 1 0)) ||| ((u4.getD 0 0) &&& (u4.getD 2 0))) ||| ((u4.getD 1 0) &&& (u4.getD 2 0)))).toNat:Int)) (ZcN rfl rfl) ?_
  refine JAn rfl<|Zd<|JLM rfl<|JLM rfl<|JLq (.int .u32 (((((((u4.getD 7 0)+(((ZP (u4.getD 4 0) 6) ^^^ (ZP (u4.getD 4 0) 11)) ^^^ (ZP (u4.getD 4 0) 25)))+(((u4.getD 4 0) &&& (u4.getD 5 0)) ||| ((~~~(u4.getD 4 0)) &&& (u4.getD 6 0))))+(kW.getD j4 0))+(u3.getD j4 0))+((((ZP (u4.getD 0 0) 2) ^^^ (ZP (u4.getD 0 0) 13)) ^^^ (ZP (u4.getD 0 0) 22))+((((u4.getD 0 0) &&& (u4.getD 1 0)) ||| ((u4.getD 0 0) &&& (u4.getD 2 0))) ||| ((u4.getD 1 0) &&& (u4.getD 2 0))))).toNat:Int)) (ZcN rfl rfl)<|JLq (pp b33 0) (ZcB 0 YG ZK rfl rfl (by decide) (by decide))<|JLr (Zb ZK rfl (Zcu 0 rfl) (Xe (by have hbl:List.length u4=8:=hu4l;rw [hbl];omega))<|JLq (pp b33 1) (ZcB 1 YG ZK rfl rfl (by decide) (by decide))<|JLr (Zb ZK rfl (Zcu 0 rfl) (Xe (by have hbl:List.length u4=8:=hu4l;rw [hbl];omega))<|JLq (pp b33 2) (ZcB 2 YG ZK rfl rfl (by decide) (by decide))<|JLr (Zb ZK rfl (Zcu 0 rfl) (Xe (by have hbl:List.length u4=8:=hu4l;rw [hbl];omega))<|JLq (pp b33 3) (ZcB 3 YG ZK rfl rfl (by decide) (by decide)) ?_)))
  refine JLr (Zb ZK rfl (Zcu 0 rfl) (Xe (by have hbl:List.length u4=8:=hu4l;rw [hbl];omega))<|JLM rfl<|JLq (.int .u32 (((u4.getD 3 0)+(((((u4.getD 7 0)+(((ZP (u4.getD 4 0) 6) ^^^ (ZP (u4.getD 4 0) 11)) ^^^ (ZP (u4.getD 4 0) 25)))+(((u4.getD 4 0) &&& (u4.getD 5 0)) ||| ((~~~(u4.getD 4 0)) &&& (u4.getD 6 0))))+(kW.getD j4 0))+(u3.getD j4 0))).toNat:Int)) (ZcN rfl rfl)<|JLq (pp b33 4) (ZcB 4 YG ZK rfl rfl (by decide) (by decide))<|JLr (Zb ZK rfl (Zcu 0 rfl) (Xe (by have hbl:List.length u4=8:=hu4l;rw [hbl];omega))<|JLq (pp b33 5) (ZcB 5 YG ZK rfl rfl (by decide) (by decide))<|JLr (Zb ZK rfl (Zcu 0 rfl) (Xe (by have hbl:List.length u4=8:=hu4l;rw [hbl];omega))<|JLq (pp b33 6) (ZcB 6 YG ZK rfl rfl (by decide) (by decide))<|JLr (Zb ZK rfl (Zcu 0 rfl) (Xe (by have hbl:List.length u4=8:=hu4l;rw [hbl];omega))<|JLq (.agg ⟨uC ([(((((u4.getD 7 0)+(((ZP (u4.getD 4 0) 6) ^^^ (ZP (u4.getD 4 0) 11)) ^^^ (ZP (u4.getD 4 0) 25)))+(((u4.getD 4 0) &&& (u4.getD 5 0)) ||| ((~~~(u4.getD 4 0)) &&& (u4.getD 6 0))))+(kW.getD j4 0))+(u3.getD j4 0))+((((ZP (u4.getD 0 0) 2) ^^^ (ZP (u4.getD 0 0) 13)) ^^^ (ZP (u4.getD 0 0) 22))+((((u4.getD 0 0) &&& (u4.getD 1 0)) ||| ((u4.getD 0 0) &&& (u4.getD 2 0))) ||| ((u4.getD 1 0) &&& (u4.getD 2 0)))),u4.getD 0 0,u4.getD 1 0,u4.getD 2 0,(u4.getD 3 0)+(((((u4.getD 7 0)+(((ZP (u4.getD 4 0) 6) ^^^ (ZP (u4.getD 4 0) 11)) ^^^ (ZP (u4.getD 4 0) 25)))+(((u4.getD 4 0) &&& (u4.getD 5 0)) ||| ((~~~(u4.getD 4 0)) &&& (u4.getD 6 0))))+(kW.getD j4 0))+(u3.getD j4 0)),u4.getD 4 0,u4.getD 5 0,u4.getD 6 0])⟩) (Pu.build (pv:=[(0,.int .u32 (((((((u4.getD 7 0)+(((ZP (u4.getD 4 0) 6) ^^^ (ZP (u4.getD 4 0) 11)) ^^^ (ZP (u4.getD 4 0) 25)))+(((u4.getD 4 0) &&& (u4.getD 5 0)) ||| ((~~~(u4.getD 4 0)) &&& (u4.getD 6 0))))+(kW.getD j4 0))+(u3.getD j4 0))+((((ZP (u4.getD 0 0) 2) ^^^ (ZP (u4.getD 0 0) 13)) ^^^ (ZP (u4.getD 0 0) 22))+((((u4.getD 0 0) &&& (u4.getD 1 0)) ||| ((u4.getD 0 0) &&& (u4.getD 2 0))) ||| ((u4.getD 1 0) &&& (u4.getD 2 0))))).toNat:Int)),(1,.int .u32 ((u4.getD 0 0).toNat:Int)),(2,.int .u32 ((u4.getD 1 0).toNat:Int)),(3,.int .u32 ((u4.getD 2 0).toNat:Int)),(4,.int .u32 (((u4.getD 3 0)+(((((u4.getD 7 0)+(((ZP (u4.getD 4 0) 6) ^^^ (ZP (u4.getD 4 0) 11)) ^^^ (ZP (u4.getD 4 0) 25)))+(((u4.getD 4 0) &&& (u4.getD 5 0)) ||| ((~~~(u4.getD 4 0)) &&& (u4.getD 6 0))))+(kW.getD j4 0))+(u3.getD j4 0))).toNat:Int)),(5,.int .u32 ((u4.getD 4 0).toNat:Int)),(6,.int .u32 ((u4.getD 5 0).toNat:Int)),(7,.int .u32 ((u4.getD 6 0).toNat:Int))]) (l:=uC [(((((u4.getD 7 0)+(((ZP (u4.getD 4 0) 6) ^^^ (ZP (u4.getD 4 0) 11)) ^^^ (ZP (u4.getD 4 0) 25)))+(((u4.getD 4 0) &&& (u4.getD 5 0)) ||| ((~~~(u4.getD 4 0)) &&& (u4.getD 6 0))))+(kW.getD j4 0))+(u3.getD j4 0))+((((ZP (u4.getD 0 0) 2) ^^^ (ZP (u4.getD 0 0) 13)) ^^^ (ZP (u4.getD 0 0) 22))+((((u4.getD 0 0) &&& (u4.getD 1 0)) ||| ((u4.getD 0 0) &&& (u4.getD 2 0))) ||| ((u4.getD 1 0) &&& (u4.getD 2 0)))),u4.getD 0 0,u4.getD 1 0,u4.getD 2 0,(u4.getD 3 0)+(((((u4.getD 7 0)+(((ZP (u4.getD 4 0) 6) ^^^ (ZP (u4.getD 4 0) 11)) ^^^ (ZP (u4.getD 4 0) 25)))+(((u4.getD 4 0) &&& (u4.getD 5 0)) ||| ((~~~(u4.getD 4 0)) &&& (u4.getD 6 0))))+(kW.getD j4 0))+(u3.getD j4 0)),u4.getD 4 0,u4.getD 5 0,u4.getD 6 0]) rfl (ZbX _ _ _ _ _ _ _ _))<|JLr (Ze 0 (vs:=uC ([(((((u4.getD 7 0)+(((ZP (u4.getD 4 0) 6) ^^^ (ZP (u4.getD 4 0) 11)) ^^^ (ZP (u4.getD 4 0) 25)))+(((u4.getD 4 0) &&& (u4.getD 5 0)) ||| ((~~~(u4.getD 4 0)) &&& (u4.getD 6 0))))+(kW.getD j4 0))+(u3.getD j4 0))+((((ZP (u4.getD 0 0) 2) ^^^ (ZP (u4.getD 0 0) 13)) ^^^ (ZP (u4.getD 0 0) 22))+((((u4.getD 0 0) &&& (u4.getD 1 0)) ||| ((u4.getD 0 0) &&& (u4.getD 2 0))) ||| ((u4.getD 1 0) &&& (u4.getD 2 0)))),u4.getD 0 0,u4.getD 1 0,u4.getD 2 0,(u4.getD 3 0)+(((((u4.getD 7 0)+(((ZP (u4.getD 4 0) 6) ^^^ (ZP (u4.getD 4 0) 11)) ^^^ (ZP (u4.getD 4 0) 25)))+(((u4.getD 4 0) &&& (u4.getD 5 0)) ||| ((~~~(u4.getD 4 0)) &&& (u4.getD 6 0))))+(kW.getD j4 0))+(u3.getD j4 0)),u4.getD 4 0,u4.getD 5 0,u4.getD 6 0])) (l:=uC ([(((((u4.getD 7 0)+(((ZP (u4.getD 4 0) 6) ^^^ (ZP (u4.getD 4 0) 11)) ^^^ (ZP (u4.getD 4 0) 25)))+(((u4.getD 4 0) &&& (u4.getD 5 0)) ||| ((~~~(u4.getD 4 0)) &&& (u4.getD 6 0))))+(kW.getD j4 0))+(u3.getD j4 0))+((((ZP (u4.getD 0 0) 2) ^^^ (ZP (u4.getD 0 0) 13)) ^^^ (ZP (u4.getD 0 0) 22))+((((u4.getD 0 0) &&& (u4.getD 1 0)) ||| ((u4.getD 0 0) &&& (u4.getD 2 0))) ||| ((u4.getD 1 0) &&& (u4.getD 2 0)))),u4.getD 0 0,u4.getD 1 0,u4.getD 2 0,(u4.getD 3 0)+(((((u4.getD 7 0)+(((ZP (u4.getD 4 0) 6) ^^^ (ZP (u4.getD 4 0) 11)) ^^^ (ZP (u4.getD 4 0) 25)))+(((u4.getD 4 0) &&& (u4.getD 5 0)) ||| ((~~~(u4.getD 4 0)) &&& (u4.getD 6 0))))+(kW.getD j4 0))+(u3.getD j4 0)),u4.getD 4 0,u4.getD 5 0,u4.getD 6 0])) Xn rfl rfl rfl rfl ((ZO _).trans rfl) (Ve _) (Yb (n:=8) ((ZO _).trans hu4l) ((ZO _).trans rfl))<|Za<|Zd ?_)))))
  refine JLM rfl<|JLn (Zcy rfl rfl (by omega))<|JAn rfl<|⟨_,?_,(j4+1),([(((((u4.getD 7 0)+(((ZP (u4.getD 4 0) 6) ^^^ (ZP (u4.getD 4 0) 11)) ^^^ (ZP (u4.getD 4 0) 25)))+(((u4.getD 4 0) &&& (u4.getD 5 0)) ||| ((~~~(u4.getD 4 0)) &&& (u4.getD 6 0))))+(kW.getD j4 0))+(u3.getD j4 0))+((((ZP (u4.getD 0 0) 2) ^^^ (ZP (u4.getD 0 0) 13)) ^^^ (ZP (u4.getD 0 0) 22))+((((u4.getD 0 0) &&& (u4.getD 1 0)) ||| ((u4.getD 0 0) &&& (u4.getD 2 0))) ||| ((u4.getD 1 0) &&& (u4.getD 2 0)))),u4.getD 0 0,u4.getD 1 0,u4.getD 2 0,(u4.getD 3 0)+(((((u4.getD 7 0)+(((ZP (u4.getD 4 0) 6) ^^^ (ZP (u4.getD 4 0) 11)) ^^^ (ZP (u4.getD 4 0) 25)))+(((u4.getD 4 0) &&& (u4.getD 5 0)) ||| ((~~~(u4.getD 4 0)) &&& (u4.getD 6 0))))+(kW.getD j4 0))+(u3.getD j4 0)),u4.getD 4 0,u4.getD 5 0,u4.getD 6 0]),Zj rfl,(Sk (Sk (Sk (Sk Sub.nil)))),?_,?_,?_,rfl⟩
  ·omega
  ·omega
  ·exact rfl
  rw [rds,← hu4,show (spr bl)=u3 by rw [hu3,show j3=48 by omega];rfl,rnd,fiW,seW,chW,maW,← ZbV,← ZbC];rfl
 have h42n:64≤j4:=by omega
 refine Zu _ rfl<|Zf<|Zc<|JAn rfl<|Zh<|Zv (fun k ρ M=>∃ (j5:Nat) (u5:List W32),ZR ρ [(2,pp b1 0),(4,pp b2 0),(11,pp b33 0),(21,iv ((j5:Int)))]=ρ∧Sub [(BX b1 (uC u5) 138),(BX b33 (uC u4) 138),(BX b3 (uC u3) 219),(BX b2 (uC (replicate 8 0)) 138)] M∧j5≤8∧u5.length=8∧u5=adW h (rds h (spr bl) 64) j5∧k=8-j5) _ ⟨0,h,Zj rfl,(Sub.cons 3 rfl (Sk (Sk (Sk Sub.nil)))),Nat.zero_le _,hl,rfl,rfl⟩ ?_
 rintro _ ρ43 _ ⟨j5,u5,e44,hm48,hj5,hu5l,hu5,rfl⟩
 obtain ⟨ρ49,rfl⟩:=Zo e44
 clear e44
 refine ZD hm48<|Zf<|Zc<|JLM rfl<|JLn (Pu.lss rfl rfl)<|Za<|ZF rfl (fun h50=>?_) (fun h50=>?_)
 ·have h50n:j5<8:=by omega
  refine Zk<|Zf<|Zh<|ZI mixed #[0,1,3,0,8,24,63,127,255] 6 (sm 174 6) [] [] rfl (by kernel_rfl) rfl (by kernel_rfl)<|DM (fun _=>rfl) ?_
  refine Dq (pp b1 (0+j5*1)) (fun _=>ZcB j5 YG ZK rfl rfl rfl (by omega)) ?_
  refine ZZ rfl (fun _=>rfl) ZK (fun _=>rfl) (Zcu 0 rfl) (XF (by have hbl:List.length u5=8:=hu5l;rw [hbl];omega))<|DM (fun _=>rfl) ?_
  refine Dq (pp b33 (0+j5*1)) (fun _=>ZcB j5 YG ZK rfl rfl rfl (by omega)) ?_
  refine ZZ rfl (fun _=>rfl) ZK (fun _=>rfl) (Zcu 1 rfl) (XF (by have hbl:List.length u4=8:=hu4l;rw [hbl];omega))<|ZM (M':=[(BX b1 (uC u5) 138),(BX b33 (uC u4) 138),(BX b3 (uC u3) 219),(BX b2 (uC (replicate 8 0)) 138)]) rfl ?_
  show JL _ _ _ [_,_,_] _ _ _
  refine JLq (.int .u32 (((u5.getD j5 0)+(u4.getD j5 0)).toNat:Int)) (ZcN rfl rfl)<|JLq (pp b1 (0+j5*1)) (ZcB j5 YG ZK rfl rfl rfl (by omega))<|JLr (Ze 0 (vs:=[.int .u32 (((u5.getD j5 0)+(u4.getD j5 0)).toNat:Int)]) (l:=uC (u5.set j5 ((u5.getD j5 0)+(u4.getD j5 0)))) ZK rfl rfl rfl rfl rfl (Zg rfl Zq) (Rl (by have hbl:List.length u5=8:=hu5l;rw [hbl];omega))<|Za<|Zd<|JLM rfl<|JLn (Zcy rfl rfl (by omega))<|JAn rfl<|⟨_,?_,(j5+1),(u5.set j5 ((u5.getD j5 0)+(u4.getD j5 0))),Zj rfl,(Sk (Sk (Sk (Sk Sub.nil)))),?_,?_,?_,rfl⟩)
  ·omega
  ·omega
  ·exact ((length_set ..).trans hu5l)
  rw [adW,hu5,hu4,show j4=64 by omega]
 have h50n:8≤j5:=by omega
 refine Zu _ rfl<|Zc<|JLr (Zn Xn rfl (Zcu 0 rfl) (ZE ((ZO _).trans hu5l))<|JLr (Ze 3 (vs:=uC u5) (l:=uC u5) Xn rfl rfl rfl rfl ((ZO _).trans hu5l) (Ve _) (Yb (n:=8) ((ZO _).trans (length_replicate ..)) ((ZO _).trans hu5l))<|Za<|ZH<|⟨.agg ⟨uC u5⟩,[],Ret.one rfl (RV.cell Xn rfl (Zcu 3 rfl) (ZE ((ZO _).trans hu5l))),Sub.nil,?_⟩))
 obtain rfl:j5=8:=by omega
 exact ⟨by rw [hu5,Dh (NI hl 64) hl];rfl,rfl⟩
theorem Ei (H:Heap):CT prog 90 ⟨[]⟩ [] H (fun r N=>r=.agg ⟨uC beW⟩∧N=[]):=by
 refine Zl func90 rfl rfl<|Zc<|JLr (Zp (l:=uC (replicate 8 0)) zeroValue138 rfl fun b1=>Za<|Zc<|JLq (.agg ⟨uC beW⟩) (Pu.build (l:=uC beW) (by kernel_rfl) Zb0)<|JLr (Ze 0 (vs:=uC beW) (l:=uC beW) Xn rfl rfl rfl rfl ((ZO _).trans rfl) (Ve _) (Yb (n:=8) ((ZO _).trans (length_replicate ..)) ((ZO _).trans rfl))<|Za<|ZH<|⟨.agg ⟨uC beW⟩,[],Ret.one rfl (RV.cell Xn rfl (Zcu 0 rfl) (ZE ((ZO _).trans rfl))),Sub.nil,?_⟩))
 exact ⟨rfl,rfl⟩
set_option maxHeartbeats 2000000 in
theorem Ij (h:List W32) (l:List Int) (v:Value) (H:Heap) (hl:h.length=8) (hv:byR H v l) (hby:∀ x∈l,0≤x∧x≤255):CT prog 89 ⟨[.agg ⟨uC h⟩,v]⟩ [] H (fun r N=>∃ u,r=.tuple ⟨[.agg ⟨uC (Yi h l).1⟩,u]⟩∧N=[]∧∀ h',byR h' v l→byR h' u (Yi h l).2):=by
 refine Zl func89 rfl rfl<|Zc<|JLr (Zr (l:=uC h) rfl rfl fun b1=>JLr (Zp (l:=uC (replicate 8 0)) zeroValue138 rfl fun b2=>JAn rfl<|Zf<|Zh<|Zv (fun k ρ M=>∃ (h1:List W32) (v1:Value) (l1:List Int),ZR ρ [(1,v1),(2,pp b1 0),(4,pp b2 0),(5,nS)]=ρ∧Sub [(BX b1 (uC h1) 138),(BX b2 (uC (replicate 8 0)) 138)] M∧h1.length=8∧(∀ h',byR h' v l→byR h' v1 l1)∧Yi h1 l1=Yi h l∧(∀ x∈l1,0≤x∧x≤255)∧l1.length≤l.length∧k=l1.length) _ ⟨h,v,l,Zj rfl,(Sub.cons 1 rfl (Sk Sub.nil)),hl,fun _ q=>q,rfl,hby,Nat.le_refl _,rfl⟩ ?_))
 rintro _ ρ3 _ ⟨h1,v1,l1,e4,hm8,hh1,hq1,hw1,hbl1,hn1,rfl⟩
 obtain ⟨ρ9,rfl⟩:=Zo e4
 clear e4
 refine ZD hm8 ?_
 have hv1:=hq1 _ hv
 refine Zf<|Zc<|JLm v1 ?_
 obtain ⟨a10,cap10,hv10⟩:=hv1.rd.sl
 have hle10:=hv1.rd.le
 refine JLn (Zcv Yl hv10)<|JLn (Pu.geq rfl rfl)<|Za<|ZF rfl (fun h11=>?_) (fun h11=>?_)
 ·refine Zk<|Zh<|Zf<|ZI mixed #[0,0,2,7,15] 3 (sm 9 3) [] [(2,fun _ _ vw qw=>qw=[]∧∀ h,byR h v1 l1→byR h vw (l1.take 64))] rfl (by kernel_rfl) rfl (by kernel_rfl)<|Dl Xn (Zcu 0 rfl) (ZE ((ZO _).trans hh1))<|Dm v1 ?_
  refine Dr rfl (fun _=>Ql 64 Yl sizeOf5 hv1 rfl rfl rfl (by omega) fun u h1=>⟨[],by rw [Z4 rfl];exact Sub.refl,rfl,h1⟩) ?_;rintro u13 _ ⟨rfl,hu13⟩
  have h13:=hu13 _ hv1
  refine ZM (M':=[(BX b1 (uC h1) 138),(BX b2 (uC (replicate 8 0)) 138)]) rfl ?_
  show JL _ _ _ [_,_] _ _ _
  refine Jc call141 rfl (fun hin=>Iv _ _ _ _ hh1 (byR.mono (Hle.hu _ _) h13) (by rw [length_take];omega) (fun x hx=>hbl1 x (List.mem_of_mem_take hx))) rfl ?_
  rintro _ _ ⟨rfl,rfl⟩
  refine JLr (Ze 0 (vs:=uC (tkn h1 (l1.take 64))) (l:=uC (tkn h1 (l1.take 64))) Xn rfl rfl rfl rfl ((ZO _).trans (VC hh1 _)) (Ve _) (Yb (n:=8) ((ZO _).trans hh1) ((ZO _).trans (VC hh1 _)))<|Za<|Zd<|JLm v1<|JLr (Qk 64 Yl sizeOf5 hv1 rfl rfl rfl (by omega) fun u14 hu14=>?_))
  have h14:=hu14 _ hv1
  refine JLa u14<|Za<|⟨_,?_,(tkn h1 (l1.take 64)),u14,(l1.drop 64),Zj rfl,(Sk (Sk Sub.nil)),?_,?_,?_,?_,?_,rfl⟩
  ·rw [length_drop];omega
  ·exact (VC hh1 _)
  ·exact fun h' q=>hu14 h' (hq1 h' q)
  ·rw [← VN (by omega),hw1]
  ·exact fun x hx=>hbl1 x (List.mem_of_mem_drop hx)
  rw [length_drop];omega
 refine Zu _ rfl<|Zc<|JLr (Zn Xn rfl (Zcu 0 rfl) (ZE ((ZO _).trans hh1))<|JLm v1<|JLr (Ze 1 (vs:=uC h1) (l:=uC h1) Xn rfl rfl rfl rfl ((ZO _).trans hh1) (Ve _) (Yb (n:=8) ((ZO _).trans (length_replicate ..)) ((ZO _).trans hh1))<|JLa v1<|Za<|ZH<|⟨.tuple ⟨[.agg ⟨uC h1⟩,v1]⟩,[],ZcE rfl (RV.cell Xn rfl (Zcu 1 rfl) (ZE ((ZO _).trans hh1))) (RV.tmp rfl),Sub.nil,?_⟩))
 have e:=hw1
 rw [UN (by omega)] at e
 exact ⟨_,by rw [← e],rfl,by rw [← e];exact hq1⟩
set_option maxHeartbeats 4000000 in
theorem Er (h:List W32) (l:List Int) (v:Value) (n:Nat) (H:Heap) (hl:h.length=8) (hv:byR H v l) (hby:∀ x∈l,0≤x∧x≤255) (hlz:l.length<64) (hn:n≤1000000000):CT prog 91 ⟨[.agg ⟨uC h⟩,v,iv ((n:Int))]⟩ [] H (fun r N=>r=.agg ⟨sC (endS h l n)⟩∧N=[]):=by
 refine Zl func91 rfl rfl<|Zc<|JLr (Zr (l:=uC h) rfl rfl fun b1=>JLr (Zp (l:=sC zS) zeroValue38 rfl fun b2=>Za<|Zc<|JLr (Zm (vs:=[]) [] Yl el5 rfl rfl (by intro e he;cases he) rfl (by decide) fun b3 k3 ho3 hk3=>JLm v<|JLr (Zz (i:=0) (n:=l.length) (es':=Yk l) Yl Yl (Or.inl rfl) el5 rfl rfl rfl ho3 (fun F w m=>P1 hv.rd w _ m) (Z8 _) (Um _) (S8 _) (by decide) (by simp;omega) fun v4 k4 ho4=>?_))))
 rw [nil_append] at ho4
 refine JLa v4<|Za<|Zc<|JLm v4<|JLr (Zm (vs:=[.int .u8 128]) [[.int .u8 128]] Yl el5 rfl rfl (al1 rfl) rfl (by decide) fun b5 k5 ho5 hk5=>?_)
 have hlens6:∀ e∈([[.int .u8 128]]:List (List Value)),List.length e=1:=al1 rfl
 have hoks6:∀ e∈([[.int .u8 128]]:List (List Value)),okc e:=al1 (Zg rfl Zq)
 refine JLr (Zz (i:=1) (n:=1) (es':=[[.int .u8 128]]) Yl Yl (Or.inl rfl) el5 rfl rfl rfl ho4 (fun F w m=>Src.row (((ZcD 0 rfl (by rw [hk5];exact mem_cons_self))).heap m) (ZE (Zw hlens6))) rfl hlens6 hoks6 (by decide) (by rw [Z8];omega) fun v6 k6 ho6=>?_)
 rw [X3] at ho6
 refine JLa v6<|Za<|Zf<|Zh<|Zv (fun k ρ M=>∃ (z:Nat) (yz:Value) (qz:Zi),ZR ρ [(2,iv ((n:Int))),(3,pp b1 0),(6,pp b2 0),(7,yz)]=ρ∧Sub [qz,(BX b2 (sC zS) 38),(BX b1 (uC h) 138)] M∧Own 5 1 yz (Yk (l++128::replicate z 0)) qz∧z≤zN l.length∧k=zN l.length-z) _ ⟨0,v6,k6,Zj rfl,(Sd (Sk (Sk (Sk Sub.nil)))),ho6,Nat.zero_le _,rfl⟩ ?_
 rintro _ ρ7 _ ⟨z,yz,qz,e8,hm12,hownz,hz,rfl⟩
 obtain ⟨ρ13,rfl⟩:=Zo e8
 clear e8
 refine ZD hm12 ?_
 have hpl:=Cp l z
 have hzl:=KS l.length
 refine Zf<|Zc<|JLm yz ?_
 obtain ⟨a14,cap14,hv14⟩:=hownz.sl
 rw [Z8] at hv14
 refine JLn (Zcv Yl hv14)<|JLq (iv ((((l++128::replicate z 0).length:Int)) % 64)) (Pu.rem rfl rfl (by decide) (Int.tmod_eq_emod_of_nonneg (by omega)))<|JLn (Pu.neq rfl rfl)<|Za<|Zs rfl (fun h15=>?_) (fun h15=>?_)
 ·replace h15:=nt h15
  replace h15:=df h15
  refine Zk<|Zh<|Zd<|JLm yz<|JLr (Zm (vs:=[.int .u8 0]) [[.int .u8 0]] Yl el5 rfl rfl (al1 rfl) rfl (by decide) fun b16 k16 ho16 hk16=>?_)
  have hlens17:∀ e∈([[.int .u8 0]]:List (List Value)),List.length e=1:=al1 rfl
  have hoks17:∀ e∈([[.int .u8 0]]:List (List Value)),okc e:=al1 (Zg rfl Zq)
  refine JLr (Zz (i:=1) (n:=1) (es':=[[.int .u8 0]]) Yl Yl (Or.inl rfl) el5 rfl rfl rfl hownz (fun F w m=>Src.row (((ZcD 0 rfl (by rw [hk16];exact mem_cons_self))).heap m) (ZE (Zw hlens17))) rfl hlens17 hoks17 (by decide) (by rw [Z8];omega) fun v17 k17 ho17=>?_)
  rw [X3] at ho17
  refine JLa v17<|Za<|⟨_,?_,(z+1),v17,k17,Zj rfl,(Sd (Sk (Sk (Sk Sub.nil)))),?_,?_,rfl⟩
  ·have hz2:z+1≤zN l.length:=(by unfold zN at hz ⊢;omega);omega
  ·rw [← G9];exact ho17
  have hz2:z+1≤zN l.length:=(by unfold zN at hz ⊢;omega);exact hz2
 replace h15:=nf h15
 replace h15:=dt h15
 refine Zu _ rfl<|Zf<|Zc<|JAn rfl<|Zh<|Zv (fun k ρ M=>∃ (i:Nat) (yi:Value) (qi:Zi),ρ 2=iv ((n:Int))∧ρ 3=pp b1 0∧ρ 6=pp b2 0∧ρ 7=yi∧ρ 8=iv (7-(i:Int))∧Sub [qi,(BX b2 (sC zS) 38),(BX b1 (uC h) 138)] M∧Own 5 1 yi (Yk (l++128::(replicate (zN l.length) 0++lnB n i))) qi∧i≤8∧k=8-i) _ ⟨0,yz,qz,rfl,rfl,rfl,rfl,rfl,(Sk (Sk (Sk Sub.nil))),(by have hze:z=zN l.length:=(by unfold zN at hz ⊢;omega);rw [lnB,append_nil,← hze];exact hownz),Nat.zero_le _,rfl⟩ ?_
 rintro _ ρ18 _ ⟨i,yi,qi,e19,e20,e21,e22,e23,hm24,howni,hi,rfl⟩
 obtain ⟨ρ25,rfl⟩:=Zo (uc e19 (uc e20 (uc e21 (uc e22 (uc e23 un)))))
 clear e19 e20 e21 e22 e23
 refine ZD hm24 ?_
 have hln:=JA n i
 have hzl:=KS l.length
 have hrl:(l++128::(replicate (zN l.length) 0++lnB n i)).length=l.length+1+zN l.length+i:=by rw [length_append,length_cons,length_append,length_replicate,hln];omega
 refine Zf<|Zc<|JLM rfl<|JLn (Pu.geq rfl rfl)<|Za<|ZF rfl (fun h26=>?_) (fun h26=>?_)
 ·refine Zk<|Zf<|Zh<|Zd<|JLm yi<|JLM rfl<|JLq (.int .u64 ((n:Int))) (ZcM Ru3 Il rfl (ZaT (by omega)))<|JLq (.int .u64 (((8*n:Nat):Int))) (ZcP rfl rfl (ZaS (by omega)))<|JLM rfl<|JLq (iv (((56-8*i:Nat):Int))) (ZcP rfl rfl ((w64 (by omega)).trans (by omega)))<|JLq (.int .u64 (((8*n / 2 ^ (56-8*i):Nat):Int))) (Zc6 rfl rfl (by omega) (Za9 (by omega) (by omega)))<|JLq (.int .u8 (((8*n / 2 ^ (56-8*i) % 256:Nat):Int))) (ZcM Il Ru5 rfl (w8n _))<|JLr (Zm (vs:=[.int .u8 (((8*n / 2 ^ (56-8*i) % 256:Nat):Int))]) [[.int .u8 (((8*n / 2 ^ (56-8*i) % 256:Nat):Int))]] Yl el5 rfl rfl (al1 rfl) rfl (by decide) fun b27 k27 ho27 hk27=>?_)
  have hlens28:∀ e∈([[.int .u8 (((8*n / 2 ^ (56-8*i) % 256:Nat):Int))]]:List (List Value)),List.length e=1:=al1 rfl
  have hoks28:∀ e∈([[.int .u8 (((8*n / 2 ^ (56-8*i) % 256:Nat):Int))]]:List (List Value)),okc e:=al1 (Zg rfl Zq)
  refine JLr (Zz (i:=1) (n:=1) (es':=[[.int .u8 (((8*n / 2 ^ (56-8*i) % 256:Nat):Int))]]) Yl Yl (Or.inl rfl) el5 rfl rfl rfl howni (fun F w m=>Src.row (((ZcD 0 rfl (by rw [hk27];exact mem_cons_self))).heap m) (ZE (Zw hlens28))) rfl hlens28 hoks28 (by decide) (by rw [Z8];omega) fun v28 k28 ho28=>?_)
  rw [X3] at ho28
  refine JLa v28<|Za<|Zd<|JLM rfl<|JLn (ZcK rfl rfl (by first | omega | (constructor <;> omega)))<|JAn rfl<|⟨_,?_,(i+1),v28,k28,rfl,rfl,rfl,rfl,(congrArg (Value.int .i64) (by omega)),(Sd (Sk (Sk (Sk Sub.nil)))),?_,?_,rfl⟩
  ·omega
  ·rw [← FP];exact ho28
  omega
 refine Zu _ rfl<|Zc<|JLr (Zn Xn rfl (Zcu 2 rfl) (ZE ((ZO _).trans hl))<|JLm yi<|Jc call89 rfl (fun hin=>Ij _ _ _ _ hl (VI howni (by omega) (hin 0 _ rfl)) (E8 hby (by have:=Fa l.length n;rw [VR,show 8=i by omega] at this;exact this))) rfl ?_)
 rintro _ _ ⟨u29,rfl,rfl,hu29⟩
 refine JLM rfl<|JLn (Pu.extract rfl rfl)<|JLn (Pu.extract rfl rfl)<|JLr (Ze 2 (vs:=uC ((Yi h (l++128::(replicate (zN l.length) 0++lnB n i))).1)) (l:=uC ((Yi h (l++128::(replicate (zN l.length) 0++lnB n i))).1)) Xn rfl rfl rfl rfl ((ZO _).trans (Xz hl).1) (Ve _) (Yb (n:=8) ((ZO _).trans hl) ((ZO _).trans (Xz hl).1))<|Za<|Zc<|JLr (Zp (l:=sC zS) zeroValue38 rfl fun b30=>Za<|Zf<|Zc<|JLA rfl ?_))
 refine Za<|Zh<|Zv (fun k ρ M=>∃ (i3:Nat) (s:Sm),ZR ρ [(3,pp b1 0),(6,pp b2 0),(9,pp b30 0),(10,iv ((i3:Int)))]=ρ∧Sub [(BX b30 (sC s) 38),qi,(BX b2 (sC zS) 38),(BX b1 (uC ((Yi h (l++128::(replicate (zN l.length) 0++lnB n i))).1)) 138)] M∧i3≤32∧s=NK ((Yi h (l++128::(replicate (zN l.length) 0++lnB n i))).1) i3∧k=32-i3) _ ⟨0,zS,Zj rfl,(Sk (Sk (Sk (Sk Sub.nil)))),Nat.zero_le _,rfl,rfl⟩ ?_
 rintro _ ρ31 _ ⟨i3,s,e32,hm36,hi3,hs,rfl⟩
 obtain ⟨ρ37,rfl⟩:=Zo e32
 clear e32
 refine ZD hm36<|Zf<|Zc<|JLM rfl<|JLn (Pu.lss rfl rfl)<|Za<|ZF rfl (fun h38=>?_) (fun h38=>?_)
 ·have h38n:i3<32:=by omega
  refine Zk<|Zf<|Zh<|Zd<|JLM rfl<|JLM rfl<|JLq (iv (((i3 / 4:Nat):Int))) (Pu.quo rfl rfl (by decide) ((congrArg IntKind.i64.wrap (show Int.tdiv (i3:Int) 4=((i3 / 4:Nat):Int) from rfl)).trans (w64 (by omega))))<|JLq (pp b1 (0+(i3 / 4)*1)) (ZcB (i3 / 4) YG ZK rfl rfl rfl (by omega))<|JLr (Zb ZK rfl (Zcu 3 rfl) (XF (by have hbl:List.length ((Yi h (l++128::(replicate (zN l.length) 0++lnB n i))).1)=8:=(Xz hl).1;rw [hbl];omega))<|JLM rfl<|JLq (iv (((i3 % 4:Nat):Int))) (Pu.rem rfl rfl (by decide) (show Int.tmod (i3:Int) 4=((i3 % 4:Nat):Int) from rfl))<|JLq (iv (((i3 % 4*8:Nat):Int))) (ZcP rfl rfl ((w64 (by omega)).trans (by omega)))<|JLq (iv (((24-i3 % 4*8:Nat):Int))) (ZcS rfl rfl ((w64 (by omega)).trans (by omega))) ?_)
  refine JLq (.int .u32 (((((Yi h (l++128::(replicate (zN l.length) 0++lnB n i))).1).getD (i3 / 4) 0) >>> (24-i3 % 4*8)).toNat:Int)) (ZcV (24-i3 % 4*8) rfl rfl rfl (by omega)) ?_
  have hlo39:=Ai ((((Yi h (l++128::(replicate (zN l.length) 0++lnB n i))).1).getD (i3 / 4) 0) >>> (24-i3 % 4*8))
  refine JLq (.int .u8 (lo8 ((((Yi h (l++128::(replicate (zN l.length) 0++lnB n i))).1).getD (i3 / 4) 0) >>> (24-i3 % 4*8)))) (Zdf Ik Ru5 rfl)<|JLq (pp b30 (0+i3*1)) (ZcB i3 BP ty5 rfl rfl rfl (by omega))<|JLr (Ze 0 (vs:=[.int .u8 (lo8 ((((Yi h (l++128::(replicate (zN l.length) 0++lnB n i))).1).getD (i3 / 4) 0) >>> (24-i3 % 4*8)))]) (l:=sC (Vector.setIfInBounds s i3 (UInt8.ofNat (lo8 ((((Yi h (l++128::(replicate (zN l.length) 0++lnB n i))).1).getD (i3 / 4) 0) >>> (24-i3 % 4*8))).toNat))) ty5 rfl rfl rfl rfl rfl (Zg rfl Zq) (GQ (by omega) (by omega))<|Za<|Zd<|JLM rfl<|JLn (Zcy rfl rfl (by omega))<|JAn rfl<|⟨_,?_,(i3+1),(Vector.setIfInBounds s i3 (UInt8.ofNat (lo8 ((((Yi h (l++128::(replicate (zN l.length) 0++lnB n i))).1).getD (i3 / 4) 0) >>> (24-i3 % 4*8))).toNat)),Zj rfl,(Sk (Sk (Sk (Sk Sub.nil)))),?_,?_,rfl⟩)
  ·omega
  ·omega
  rw [NK,hs]
 have h38n:32≤i3:=by omega
 refine Zu _ rfl<|Zc<|JLr (Zn Yq rfl (Zcu 0 rfl) (ZE rfl)<|JLr (Ze 2 (vs:=sC s) (l:=sC s) Yq rfl rfl rfl rfl rfl (VG _) (Yb rfl rfl)<|Za<|ZH<|⟨.agg ⟨sC s⟩,[],Ret.one rfl (RV.cell Yq rfl (Zcu 2 rfl) (ZE rfl)),Sub.nil,?_⟩))
 obtain rfl:i3=32:=by omega
 obtain rfl:i=8:=by omega
 exact ⟨by rw [hs,PL];rfl,rfl⟩
set_option maxHeartbeats 1000000 in
theorem Je (l:List Int) (v:Value) (H:Heap) (hv:byR H v l) (hby:∀ x∈l,0≤x∧x≤255) (hz:l.length≤1000000000):CT prog 45 ⟨[v]⟩ [] H (fun r N=>r=.agg ⟨sC (sha l)⟩∧N=[]):=by
 have hby2:=(KO hby (h:=beW)).2
 refine Zl func45 rfl rfl<|Zc<|JLr (Zp (l:=sC zS) zeroValue38 rfl fun b1=>Za<|Zc<|Jc call90 rfl (fun hin=>Ei _) rfl ?_)
 rintro _ _ ⟨rfl,rfl⟩
 refine JLm v<|Jc call89 rfl (fun hin=>Ij _ _ _ _ rfl (byR.mono (Hle.hu _ _) hv) hby) rfl ?_
 rintro _ _ ⟨u2,rfl,rfl,hu2⟩
 have h2:=hu2 _ hv
 refine JLM rfl<|JLn (Pu.extract rfl rfl)<|JLn (Pu.extract rfl rfl)<|JLr (Zp (l:=uC (replicate 8 0)) zeroValue138 rfl fun b3=>JLr (Ze 0 (vs:=uC ((Yi beW l).1)) (l:=uC ((Yi beW l).1)) Xn rfl rfl rfl rfl ((ZO _).trans (Xz rfl).1) (Ve _) (Yb (n:=8) ((ZO _).trans (length_replicate ..)) ((ZO _).trans (Xz rfl).1))<|JLa u2<|Za<|Zc<|JLr (Zn Xn rfl (Zcu 0 rfl) (ZE ((ZO _).trans (Xz rfl).1))<|JLm u2<|JLm v ?_)))
 obtain ⟨a4,cap4,hv4⟩:=hv.rd.sl
 have hle4:=hv.rd.le
 refine JLn (Zcv Yl hv4)<|Jc call91 rfl (fun hin=>Er _ _ _ _ _ (Xz rfl).1 (byR.mono (Hle.hu _ _) h2) hby2 (Xz rfl).2 (by omega)) rfl ?_
 rintro _ _ ⟨rfl,rfl⟩
 refine JLr (Ze 1 (vs:=sC (endS ((Yi beW l).1) ((Yi beW l).2) (l.length))) (l:=sC (endS ((Yi beW l).1) ((Yi beW l).2) (l.length))) Yq rfl rfl rfl rfl rfl (VG _) (Yb rfl rfl)<|Za<|ZH<|⟨.agg ⟨sC (endS ((Yi beW l).1) ((Yi beW l).2) (l.length))⟩,[],Ret.one rfl (RV.cell Yq rfl (Zcu 1 rfl) (ZE rfl)),Sub.nil,?_⟩)
 exact ⟨by rw [Nw],rfl⟩
theorem A3 (H:Heap) (hG:GK H):CT prog 130 ⟨[]⟩ [] H (fun r N=>r=.agg ⟨(uC beW)++([nS,iv 0]:List Value)⟩∧N=[]):=by
 obtain ⟨_,TB,frB,hgB⟩:=hG
 refine Zl func130 rfl rfl<|Zc<|JLr (Zp (l:=(uC (replicate 8 0))++([nS,iv 0]:List Value)) zeroValue174 rfl fun b1=>Za<|Zc<|JLr (Zn Xn rfl (Zcx hgB) (ZE ((ZO _).trans rfl))<|JLq (.agg ⟨(uC beW)++([nS,iv 0]:List Value)⟩) (Pu.build (pv:=[(0,.agg ⟨uC beW⟩)]) (l:=(uC beW)++([nS,iv 0]:List Value)) rfl (ZaD rfl))<|JLr (Ze 0 (vs:=(uC beW)++([nS,iv 0]:List Value)) (l:=(uC beW)++([nS,iv 0]:List Value)) Ge rfl rfl rfl rfl (ZW ((ZO _).trans rfl) rfl) (Y5 (Ve _) (Zg rfl (Zg rfl Zq))) (Yb (n:=10) (ZW ((ZO _).trans (length_replicate ..)) rfl) (ZW ((ZO _).trans rfl) rfl))<|Za<|ZH<|⟨.agg ⟨(uC beW)++([nS,iv 0]:List Value)⟩,[],Ret.one rfl (RV.cell Ge rfl (Zcu 0 rfl) (ZE (ZW ((ZO _).trans rfl) rfl))),Sub.nil,?_⟩)))
 exact ⟨rfl,rfl⟩
theorem Hy (bw:Nat) (H:Heap):CT prog 176 ⟨[pp bw 0]⟩ [] H (fun r N=>∃ b,r=.func (.func 206) ⟨[]⟩ ⟨[pp b 0]⟩∧N=[(BX b [pp bw 0] 213)]):=by
 refine Zl func176 rfl rfl<|Zc<|JLr (Zr (l:=[pp bw 0]) rfl rfl fun b1=>JLa .nilFunc<|Za<|Zc<|JLq (.func (.func 206) ⟨[]⟩ ⟨[pp b1 0]⟩) (Pu.makeFunc rfl rfl)<|JAn rfl<|ZC (.func (.func 206) ⟨[]⟩ ⟨[pp b1 0]⟩) [(BX b1 [pp bw 0] 213)] (Sk Sub.nil) (?_))
 exact ⟨_,rfl,rfl⟩
set_option maxHeartbeats 2000000 in
theorem KJ (h:List W32) (l:List Int) (v:Value) (bw bp:Nat) (m:Int) (lc:Nat) (rc:Nat×Obj) (H:Heap) (hbp:H bp=some (.cells ⟨[pp bw 0]⟩ 213 (0,0))) (hl:h.length=8) (hv:byR H v l) (hby:∀ x∈l,0≤x∧x≤255) (hY:∀ (h1:List W32) (v1 v2:Value) (bl:List Int) (Hx:Heap),Hle H Hx→h1.length=8→byR Hx v2 bl→bl.length=64→(∀ x∈bl,0≤x∧x≤255)→YT prog lc ⟨[v2]⟩ [rc::(BX bw (uC h1++[v1,iv m]) 177)] Hx (fun r N=>r=.bool true∧N=[rc::(BX bw (uC (tkn h1 bl)++[v1,iv m]) 177)])):CT prog 206 ⟨[.func (.yield lc) ⟨[]⟩ ⟨[]⟩,pp bp 0]⟩ [(rc::(BX bw (uC h++[v,iv m]) 177))] H (fun _ N=>∃ u,N=[rc::(BX bw (uC ((Yi h l).1)++[u,iv m]) 177)]∧∀ h',byR h' v l→byR h' u (Yi h l).2):=by
 refine Zl func206 rfl rfl<|ZD (M':=[[rc],(BX bw ((uC h)++([v,iv m]:List Value)) 177)]) (Zdk Sub.refl)<|Zh<|Zv (fun k ρ M=>∃ (h1:List W32) (v1:Value) (l1:List Int),ZR ρ [(0,.func (.yield lc) ⟨[]⟩ ⟨[]⟩),(1,pp bp 0)]=ρ∧Sub [[rc],(BX bw ((uC h1)++([v1,iv m]:List Value)) 177)] M∧h1.length=8∧(∀ h',byR h' v l→byR h' v1 l1)∧Yi h1 l1=Yi h l∧(∀ x∈l1,0≤x∧x≤255)∧l1.length≤l.length∧k=l1.length) _ ⟨h,v,l,Zj rfl,(Sk (Sk Sub.nil)),hl,fun _ q=>q,rfl,hby,Nat.le_refl _,rfl⟩ ?_
 rintro _ ρ1 _ ⟨h1,v1,l1,e2,hm4,hh1,hq1,hw1,hbl1,hn1,rfl⟩
 obtain ⟨ρ5,rfl⟩:=Zo e2
 clear e2
 refine ZD hm4 ?_
 have hv1:=hq1 _ hv
 refine Zf<|Zc<|JLr (Zb UX rfl (Zcx hbp) rfl<|JLq (pp bw 0) (Pu.nilCheck rfl)<|JLq (pp bw 0) (XL rfl rfl)<|JLq (pp bw 8) (W8 rfl rfl)<|JLr (Zb Sn rfl (Zcu 1 rfl) (Qe (n:=8) (i:=0) ((ZO _).trans hh1) rfl) ?_))
 obtain ⟨a6,cap6,hv6⟩:=hv1.rd.sl
 have hle6:=hv1.rd.le
 refine JLn (Zcv Yl hv6)<|JLn (Pu.geq rfl rfl)<|Za<|ZF rfl (fun h7=>?_) (fun h7=>?_)
 ·refine Zk<|Zh<|Zc<|JLr (Zb UX rfl (Zcx hbp) rfl<|JLq (pp bw 0) (Pu.nilCheck rfl)<|JLq (pp bw 0) (XL rfl rfl)<|JLq (pp bw 8) (W8 rfl rfl)<|JLr (Zb Sn rfl (Zcu 1 rfl) (Qe (n:=8) (i:=0) ((ZO _).trans hh1) rfl)<|JLr (Ql 64 Yl sizeOf5 hv1 rfl rfl rfl (by omega) fun u8 hu8=>?_)))
  have h8:=hu8 _ hv1
  refine JLa u8<|Za<|Zf<|ZI mixed #[0,0,2,6,14,30,62,127,255,511,1023] 7 (sm 17 7) [] [(6,fun _ _ vw qw=>qw=[]∧∀ h,byR h v1 l1→byR h vw (l1.drop 64))] rfl (by kernel_rfl) rfl (by kernel_rfl)<|Dl1 UX (Zcx hbp) rfl<|Dl1 UX (Zcx hbp) rfl<|Dq (pp bw 0) (fun _=>Pu.nilCheck rfl)<|Dq (pp bw 0) (fun _=>XL rfl rfl)<|Dq (pp bw 8) (fun _=>W8 rfl rfl)<|Dl1 Sn (Zcu 1 rfl) (Qe (n:=8) (i:=0) ((ZO _).trans hh1) rfl) ?_
  refine Dr rfl (fun _=>Qk 64 Yl sizeOf5 hv1 rfl rfl rfl (by omega) fun u h1=>⟨[],by rw [Z4 rfl];exact Sub.refl,rfl,h1⟩) ?_;rintro u10 _ ⟨rfl,hu10⟩
  have h10:=hu10 _ hv1
  refine ZM (M':=[[rc],(BX bw ((uC h1)++([v1,iv m]:List Value)) 177)]) rfl ?_
  show JL _ _ _ [_,_,_,_] _ _ _
  refine JLq (pp bw 0) (Pu.nilCheck rfl)<|JLq (pp bw 0) (XL rfl rfl)<|JLq (pp bw 8) (W8 rfl rfl)<|JLr (Ze 1 (vs:=[u10]) (l:=(uC h1)++([u10,iv m]:List Value)) Sn rfl rfl rfl (ZS h10.one) rfl (Zg h10.one Zq) (OA (n:=8) (i:=0) ((ZO _).trans hh1) rfl)<|Za<|Zc<|JLM rfl<|JLm u8<|HR (rc::(BX bw ((uC h1)++([u10,iv m]:List Value)) 177)) [] rfl rfl (List.Perm.refl _) (fun hin=>hY _ u10 u8 (l1.take 64) _ (Hle.hu _ _) hh1 (byR.mono (Hle.hu _ _) h8) (by rw [length_take];omega) (fun x hx=>hbl1 x (List.mem_of_mem_take hx))) rfl ?_)
  rintro _ _ ⟨rfl,rfl⟩
  refine XI (M':=[[rc],(BX bw ((uC (tkn h1 (l1.take 64)))++([u10,iv m]:List Value)) 177)]) (Zdk Sub.refl)<|JLq (.bool false) (show Pu _ _ _ (.bool (!true)) from Pu.not rfl)<|Za<|Zs (b:=false) rfl (fun h=>absurd h (by simp)) (fun _=>Zk<|⟨_,?_,(tkn h1 (l1.take 64)),u10,(l1.drop 64),Zj rfl,(Sk (Sk Sub.nil)),?_,?_,?_,?_,?_,rfl⟩)
  ·rw [length_drop];omega
  ·exact (VC hh1 _)
  ·exact fun h' q=>hu10 h' (hq1 h' q)
  ·rw [← VN (by omega),hw1]
  ·exact fun x hx=>hbl1 x (List.mem_of_mem_drop hx)
  rw [length_drop];omega
 refine Zu _ rfl<|⟨.tuple ⟨[]⟩,[rc::(BX bw ((uC h1)++([v1,iv m]:List Value)) 177)],Ret.none rfl,Zdw ((Sk (Sk Sub.nil))),?_⟩
 have e:=hw1
 rw [UN (by omega)] at e
 exact ⟨v1,by rw [← e],by rw [← e];exact hq1⟩
end
end Go.Proofs.YtjdjmjgleadcfaaGreatDoor.Hs
