import Derived.RangeFuncLeaves
import Derived.Laws.Sem
import Derived.Laws.CopyRow
import Derived.Laws.Cells
import Derived.Laws.Rows
import Derived.IntWalk
import Derived.Laws.Closers25
import Derived.Laws.Append
import Derived.Laws.MakeOwn
import Derived.KernelRfl
import Derived.Stop.BytesEq
import Derived.MapKept
set_option linter.unusedVariables false
set_option linter.unusedSimpArgs false
set_option maxRecDepth 100000
open List (replicate mem_cons_self mem_cons append_assoc take_of_length_le range length_append getElem?_eq_getElem mem_append length_take length_cons length_map length_set flatten_cons mem_map mem_range map_append length_drop map_cons flatten_append append_nil take_succ_cons cons_append all_eq_true eq_nil_of_length_eq_zero mem_flatten getElem?_map ext_getElem perm_append_comm mem_cons_of_mem getElem?_cons_zero getElem_map drop_eq_getElem_cons mem_singleton nil_append nodup_cons drop_drop flatten_nil mem_filter map_congr_left take_append_drop drop_eq_nil_of_le getElem_range map_nil getElem?_drop getElem?_take getElem?_cons_succ getElem_cons_succ any_eq_true nodup_append mem_of_getElem? set_cons_succ filter_append filter_cons length_filter_le)
namespace Go.Proofs.YtjdjmjgleadcfaaGreatDoor.Hs
structure Heap where
  f:Nat→Option Obj
  os:Os
  out:Array (Nat×ByteArray)
  tape:Nat→Question→Nat
  d0:Nat
instance:CoeFun Heap (fun _=>Nat→Option Obj):=⟨Heap.f⟩
abbrev Zf:=List (Nat×Obj)
def Still (w w':World):Prop:=w'.os=w.os∧w'.output=w.output∧w'.tape=w.tape∧w.drawn≤w'.drawn
structure Mem (w:World) (L:Zf) (H:Heap):Prop where
  nd:(L.map (·.1)).Nodup
  own:∀ b o,(b,o)∈L→w.heap[b]?=some o
  sep:∀ b o,(b,o)∈L→H b=none
  imm:∀ b o,H b=some o→w.heap[b]?=some o
  rest:w.os=H.os∧w.output=H.out∧w.tape=H.tape∧H.d0≤w.drawn
theorem Still.rest {w w':World} {H:Heap} (h:Still w w') (r:w.os=H.os∧w.output=H.out∧w.tape=H.tape∧H.d0≤w.drawn):w'.os=H.os∧w'.output=H.out∧w'.tape=H.tape∧H.d0≤w'.drawn:=
  ⟨h.1.trans r.1,h.2.1.trans r.2.1,h.2.2.1.trans r.2.2.1,Nat.le_trans r.2.2.2 h.2.2.2⟩
theorem Mem.congr {w w':World} {L:Zf} {H:Heap} (m:Mem w L H) (h:w'.heap=w.heap) (hr:Still w w':=by first | exact ⟨rfl,rfl,rfl,Nat.le_refl _⟩ | exact ⟨rfl,rfl,rfl,Nat.le_succ _⟩ | exact ⟨rfl,rfl,rfl,Nat.le_add_right _ _⟩):Mem w' L H:=
  ⟨m.nd,fun b o hb=>by rw [h];exact m.own b o hb,m.sep,fun b o hb=>by rw [h];exact m.imm b o hb,hr.rest m.rest⟩
theorem Mem.perm {w:World} {L L':Zf} {H:Heap} (m:Mem w L H) (h:L.Perm L'):Mem w L' H:=
  ⟨(h.map _).nodup_iff.1 m.nd,fun b o hb=>m.own b o (h.mem_iff.2 hb),fun b o hb=>m.sep b o (h.mem_iff.2 hb),m.imm,m.rest⟩
theorem Mem.left {w:World} {L L':Zf} {H:Heap} (m:Mem w (L++L') H):Mem w L H:=
  ⟨by have:=m.nd;rw [map_append] at this;exact (nodup_append.1 this).1,
   fun b o hb=>m.own b o (mem_append.2 (.inl hb)),fun b o hb=>m.sep b o (mem_append.2 (.inl hb)),m.imm,m.rest⟩
theorem Mem.sub {w:World} {L L' R:Zf} {H:Heap} (m:Mem w L H) (h:L.Perm (L'++R)):Mem w L' H:=(m.perm h).left
theorem Mem.lt {w:World} {L:Zf} {H:Heap} (m:Mem w L H) {b:Nat} {o:Obj} (h:(b,o)∈L):b<w.heap.size:=
  (Array.getElem?_eq_some_iff.1 (m.own b o h)).1
theorem Mem.push {w w':World} {L:Zf} {H:Heap} {o:Obj} (m:Mem w L H) (h:w'.heap=w.heap.push o) (hr:Still w w':=by first | exact ⟨rfl,rfl,rfl,Nat.le_refl _⟩ | exact ⟨rfl,rfl,rfl,Nat.le_succ _⟩ | exact ⟨rfl,rfl,rfl,Nat.le_add_right _ _⟩):Mem w' ((w.heap.size,o)::L) H:=by
  have old:∀ {b:Nat} {x:Obj},w.heap[b]?=some x→w'.heap[b]?=some x:=fun {b x} hb=>by
    have hlt:=(Array.getElem?_eq_some_iff.1 hb).1
    rw [h,Array.getElem?_push_lt hlt,← hb,Array.getElem?_eq_getElem hlt]
  have new:w'.heap[w.heap.size]?=some o:=by rw [h];simp
  refine ⟨?_,?_,?_,fun b x hb=>old (m.imm b x hb),hr.rest m.rest⟩
  · rw [map_cons,nodup_cons]
    refine ⟨fun hm=>?_,m.nd⟩
    obtain ⟨p,hp,hpe⟩:=mem_map.1 hm
    have:=m.lt (b:=p.1) (o:=p.2) hp
    omega
  · intro b x hb
    rcases mem_cons.1 hb with e | hb
    · cases e;exact new
    · exact old (m.own b x hb)
  · intro b x hb
    rcases mem_cons.1 hb with e | hb
    · cases e
      cases hH:H w.heap.size with
      | none=>rfl
      | some y=>have:=(Array.getElem?_eq_some_iff.1 (m.imm _ _ hH)).1;omega
    · exact m.sep b x hb
theorem Mem.set {w w':World} {L:Zf} {H:Heap} {b:Nat} {o o':Obj} (m:Mem w ((b,o)::L) H)
    (hb:w'.heap[b]?=some o') (hne:∀ k,k≠b→w'.heap[k]?=w.heap[k]?) (hr:Still w w':=by first | exact ⟨rfl,rfl,rfl,Nat.le_refl _⟩ | exact ⟨rfl,rfl,rfl,Nat.le_succ _⟩ | exact ⟨rfl,rfl,rfl,Nat.le_add_right _ _⟩):Mem w' ((b,o')::L) H:=by
  have hnd:=m.nd
  rw [map_cons,nodup_cons] at hnd
  refine ⟨by rw [map_cons,nodup_cons];exact hnd,?_,?_,?_,hr.rest m.rest⟩
  · intro k x hk
    rcases mem_cons.1 hk with e | hk
    · cases e;exact hb
    · rw [hne k (fun e=>hnd.1 (mem_map.2 ⟨(k,x),hk,e⟩))];exact m.own k x (mem_cons.2 (.inr hk))
  · intro k x hk
    rcases mem_cons.1 hk with e | hk
    · cases e;exact m.sep b o (mem_cons.2 (.inl rfl))
    · exact m.sep k x (mem_cons.2 (.inr hk))
  · intro k x hk
    rw [hne k (fun e=>by subst e;rw [m.sep k o (mem_cons.2 (.inl rfl))] at hk;cases hk)];exact m.imm k x hk
def hu (L:Zf) (H:Heap):Heap:=⟨fun b=>match H b with
  | some o=>some o
  | none=>L.lookup b,H.os,H.out,H.tape,H.d0⟩
theorem Xf (L:Zf) (H:Heap) (b:Nat):hu L H b=(match H b with | some o=>some o | none=>L.lookup b):=rfl
theorem Ts {L:Zf} {b:Nat} {o:Obj} (h:L.lookup b=some o):(b,o)∈L:=by
  induction L with
  | nil=>cases h
  | cons p L ih=>
    obtain ⟨k,x⟩:=p
    rw [List.lookup_cons] at h
    by_cases e:(b==k)=true
    · rw [e] at h;cases h;have:=beq_iff_eq.1 e;subst this;exact mem_cons.2 (.inl rfl)
    · rw [Bool.not_eq_true] at e;rw [e] at h;exact mem_cons.2 (.inr (ih h))
theorem YP {L:Zf} {b:Nat} {o:Obj} (hn:(L.map (·.1)).Nodup) (h:(b,o)∈L):L.lookup b=some o:=by
  induction L with
  | nil=>cases h
  | cons p L ih=>
    obtain ⟨k,x⟩:=p
    rw [map_cons,nodup_cons] at hn
    rw [List.lookup_cons]
    by_cases e:b=k
    · subst e
      simp only [beq_self_eq_true]
      rcases mem_cons.1 h with e' | h
      · cases e';rfl
      · exact absurd (mem_map.2 ⟨(b,o),h,rfl⟩) hn.1
    · rw [beq_eq_false_iff_ne.2 e]
      rcases mem_cons.1 h with e' | h
      · cases e';exact absurd rfl e
      · exact ih hn.2 h
theorem Mem.hu {w:World} {L F:Zf} {H:Heap} (m:Mem w (L++F) H):Mem w F (hu L H):=by
  have hnd:=m.nd
  rw [map_append,nodup_append] at hnd
  refine ⟨hnd.2.1,fun b o h=>m.own b o (mem_append.2 (.inr h)),fun b o h=>?_,fun b o h=>?_,m.rest⟩
  · rw [Xf,m.sep b o (mem_append.2 (.inr h))]
    show L.lookup b=none
    cases hl:L.lookup b with
    | none=>rfl
    | some x=>exact absurd rfl (hnd.2.2 b (mem_map.2 ⟨(b,x),Ts hl,rfl⟩) b (mem_map.2 ⟨(b,o),h,rfl⟩))
  · rw [Xf] at h
    cases hH:H b with
    | some x=>rw [hH] at h;cases h;exact m.imm b o hH
    | none=>rw [hH] at h;exact m.own b o (mem_append.2 (.inl (Ts h)))
theorem Zc5 {w:World} {L N F:Zf} {H:Heap} (hn:(L.map (·.1)).Nodup) (hs:∀ b o,(b,o)∈L→H b=none) (m:Mem w (N++F) (Hs.hu L H)):Mem w (N++(L++F)) H:=by
  have hLw:∀ b o,(b,o)∈L→Hs.hu L H b=some o:=fun b o h=>by rw [Xf,hs b o h];exact YP hn h
  have hnL:∀ b o,(b,o)∈N++F→∀ x,(b,x)∉L:=fun b o h x hx=>by
    have h1:=m.sep b o h
    rw [hLw b x hx] at h1
    cases h1
  have hp:(N++(L++F)).Perm (L++(N++F)):=by
    rw [← append_assoc,← append_assoc]
    exact List.Perm.append_right F perm_append_comm
  refine Mem.perm ?_ hp.symm
  refine ⟨?_,?_,?_,?_,m.rest⟩
  · rw [map_append,nodup_append]
    refine ⟨hn,m.nd,fun a ha b hb e=>?_⟩
    obtain ⟨p,hp1,hp2⟩:=mem_map.1 ha
    obtain ⟨q,hq1,hq2⟩:=mem_map.1 hb
    subst e
    refine hnL q.1 q.2 hq1 p.2 ?_
    have:q.1=p.1:=hq2.trans hp2.symm
    rw [this];exact hp1
  · intro b o h
    rcases mem_append.1 h with h | h
    · exact m.imm b o (hLw b o h)
    · exact m.own b o h
  · intro b o h
    rcases mem_append.1 h with h | h
    · exact hs b o h
    · have h1:=m.sep b o h
      rw [Xf] at h1
      cases hH:H b with
      | none=>rfl
      | some x=>rw [hH] at h1;cases h1
  · intro b o h
    exact m.imm b o (by rw [Xf,h])
def Hle (h h':Heap):Prop:=∀ b o,h b=some o→h' b=some o
theorem Hle.refl (h:Heap):Hle h h:=fun _ _ x=>x
theorem Hle.trans {a b c:Heap} (h:Hle a b) (k:Hle b c):Hle a c:=fun x o hx=>k x o (h x o hx)
theorem Hle.hu (L:Zf) (H:Heap):Hle H (Hs.hu L H):=fun b o h=>by rw [Xf,h]
def upd (ρ:Nat→Value) (d:Nat) (v:Value):Nat→Value:=fun i=>cond (Nat.beq i d) v (ρ i)
def Xj (ρ:Nat→Value):Option Nat→Value→(Nat→Value)
  | some d,v=>upd ρ d v
  | none,_=>ρ
def act (n:Nat) (D:List Deferred) (ρ:Nat→Value):Act:={tmps:=Array.ofFn (fun i:Fin n=>ρ i),defers:=D}
def ev (n:Nat) (ρ:Nat→Value):Operand→Value
  | .tmp t=>cond (Nat.blt t n) (ρ t) undef
  | .const v=>v
  | .global g=>.pointer (some ⟨g,0,none⟩)
  | .func f=>.func (.func f) #[] #[]
theorem Qq (n:Nat) (D:List Deferred) (ρ:Nat→Value) (t:Nat):(act n D ρ).tmps[t]?=if t<n then some (ρ t) else none:=by
  simp only [act,Array.getElem?_ofFn]
  split <;> rfl
theorem PK (n:Nat) (D:List Deferred) (ρ:Nat→Value) (x:Operand):(act n D ρ).eval x=ev n ρ x:=by
  cases x with
  | tmp t=>
    simp only [Act.eval,ev,Array.getD_eq_getD_getElem?,Qq]
    by_cases h:t<n
    · rw [if_pos h,show Nat.blt t n=true from by simpa [Nat.blt_eq] using h];rfl
    · rw [if_neg h,show Nat.blt t n=false from by rw [← Bool.not_eq_true,Nat.blt_eq];exact h];rfl
  | const v=>rfl
  | «global» g=>rfl
  | func f=>rfl
theorem WM (n:Nat) (D:List Deferred) (ρ:Nat→Value):(act n D ρ).eval=ev n ρ:=funext (PK n D ρ)
theorem Ur (ρ:Nat→Value) (d:Nat) (v:Value):upd ρ d v d=v:=by simp [upd]
theorem Us (ρ:Nat→Value) {d i:Nat} (v:Value) (h:i≠d):upd ρ d v i=ρ i:=by
  unfold upd;rw [show Nat.beq i d=false from by rw [← Bool.not_eq_true,Nat.beq_eq];exact h];rfl
theorem Uh (n:Nat) (D:List Deferred) (ρ:Nat→Value) (d:Option Nat) (v:Value):(act n D ρ).put d v=act n D (Xj ρ d v):=by
  cases d with
  | none=>rfl
  | some d=>
    simp only [Act.put,Xj,act,Act.mk.injEq,and_true]
    apply Array.ext
    · simp
    · intro i h1 h2
      simp only [Array.size_ofFn] at h2
      simp only [Array.getElem_ofFn]
      rw [Array.getElem_setIfInBounds (by simpa using h1)]
      by_cases e:d=i
      · subst e;rw [if_pos rfl,Ur]
      · rw [if_neg e,Us _ _ (Ne.symm e),Array.getElem_ofFn]
def wnt (ops:Array Oper) (n:Nat) (ρ:Nat→Value) (o:Oper):Bool:=
  match o.guard with
  | none=>true
  | some (j,want)=>
    match (ops[j]?).bind (·.dst) with
    | none=>false
    | some d=>match cond (Nat.blt d n) (ρ d) undef with
      | .bool b=>b==want
      | _=>false
theorem Vq (ops:Array Oper) (n:Nat) (D:List Deferred) (ρ:Nat→Value) (o:Oper):
    Region.wanted o (yielded ops (act n D ρ).tmps)=wnt ops n ρ o:=by
  unfold Region.wanted wnt
  cases o.guard with
  | none=>rfl
  | some p=>
    obtain ⟨j,want⟩:=p
    simp only [yielded]
    cases (ops[j]?).bind (·.dst) with
    | none=>simp
    | some d=>
      simp only [Option.bind_some,Qq]
      by_cases h:d<n
      · rw [if_pos h,show Nat.blt d n=true from by simpa [Nat.blt_eq] using h]
        simp only [cond_true]
        cases ρ d <;> simp
      · rw [if_neg h,show Nat.blt d n=false from by rw [← Bool.not_eq_true,Nat.blt_eq];exact h]
        simp [undef]
structure Cx where
  P:Program
  r:Option Nat
  n:Nat
def Fw (r:Option Nat):Fence:={fn:=fun _=>True,depth:=none,alive:=false,round:=r}
abbrev Y2:=(Nat→Value)→List Zf→Prop
structure Post where
  N:Y2
  R:Y2
  E:List (Nat×Y2)
def Post.at (Q:Post):Exit→Y2
  | .normal=>Q.N
  | .ret=>Q.R
  | .exit i=>fun ρ M=>∃ X,Q.E.lookup i=some X∧X ρ M
  | _=>fun _ _=>False
def XW (rs:List Nat):List Deferred:=rs.map fun r=>{target:=.collected r,args:=#[]}
def dfb (rs:List Nat):Zf:=rs.map fun r=>(r,.deferred (some []))
def X9 (c:Cx) (H:Heap) (F:Zf) (Q:Post):Exit→Act→World→Prop:=
  fun e a w=>∃ rs ρ M,a=act c.n (XW rs) ρ∧Mem w (M.flatten++(dfb rs++F)) H∧Q.at e ρ M
def J (c:Cx) (H:Heap) (code:Code) (ρ:Nat→Value) (M:List Zf) (Q:Post):Prop:=
  ∀ F rs w,Mem w (M.flatten++(dfb rs++F)) H→code.wpIn (Fw c.r) 0 c.P (X9 c H F Q) (act c.n (XW rs) ρ) w
def wlo (c:Cx) (ops:Array Oper) (Q:Exit→Act→World→Prop):List Oper→Act→World→Prop
  | [],a,w=>Q .normal a w
  | o::rest,a,w=>if Region.wanted o (yielded ops a.tmps) then o.wpIn (Fw c.r) 0 c.P a w (wlo c ops Q rest) Q else wlo c ops Q rest (a.put o.dst undef) w
theorem KU (c:Cx) (ops:Array Oper) (Q:Exit→Act→World→Prop) (l:List Oper):∀ k,(∀ j,l[j]?=ops[k+j]?)→
    ∀ a w,wlo c ops Q l a w→wpOpsIn (Fw c.r) 0 c.P ops Q (List.range' k l.length) a w:=by
  induction l with
  | nil=>intro k _ a w h;simpa [wpOpsIn,wlo] using h
  | cons o l ih=>
    intro k hk a w h
    have h0:ops[k]?=some o:=by simpa using (hk 0).symm
    have ih':=ih (k+1) (fun j=>by have:=hk (j+1);simpa [Nat.add_assoc,Nat.add_comm 1 j] using this)
    simp only [length_cons,List.range'_succ,wpOpsIn,h0]
    unfold wlo at h
    split at h
    · rename_i hw
      rw [if_pos hw]
      refine ⟨h.1,?_⟩
      have h2:=h.2
      revert h2
      generalize (o.semAt (Fw c.r).round a.eval).run c.P w=res
      intro h2
      cases res with
      | ok x w'=>
        cases x with
        | value v=>exact ih' _ _ h2
        | skip=>exact ih' _ _ h2
        | defer d=>exact ih' _ _ h2
        | enter f args=>
          refine ⟨h2.1,h2.2.mono fun e w'' hq=>?_⟩
          cases e with
          | returned v=>exact ih' _ _ hq
          | panicked ch=>exact hq
          | outgrown=>exact hq
        | row r args=>exact ⟨h2.1,h2.2.mono fun v w'' hq=>ih' _ _ hq⟩
        | round l f tmps as body=>
          refine ⟨h2.1,h2.2.mono fun e w'' hq=>?_⟩
          cases e with
          | returned v=>exact ih' _ _ hq
          | panicked ch=>exact hq
          | outgrown=>exact hq
        | _=>exact h2.elim
      | halt x w'=>cases x <;> exact h2
    · rename_i hw
      rw [if_neg hw]
      exact ⟨fun _ _=>trivial,ih' _ _ h⟩
def JL (c:Cx) (H:Heap) (ops:Array Oper) (l:List Oper) (ρ:Nat→Value) (M:List Zf) (Q:Post):Prop:=
  ∀ F rs w,Mem w (M.flatten++(dfb rs++F)) H→wlo c ops (X9 c H F Q) l (act c.n (XW rs) ρ) w
section
variable {c:Cx} {H:Heap} {ρ:Nat→Value} {M:List Zf} {Q:Post}
theorem Ze {id:Nat} {l:List Oper} (h:JL c H l.toArray l ρ M Q):J c H (.region id l.toArray false) ρ M Q:=fun F rs w m=>by
  refine wpIn_region ?_
  have:=KU c l.toArray (X9 c H F Q) l 0 (fun j=>by simp) _ _ (h F rs w m)
  rw [List.range_eq_range',List.size_toArray]
  exact this
theorem Za {ops:Array Oper} (h:Q.N ρ M):JL c H ops [] ρ M Q:=fun _ rs _ m=>⟨rs,ρ,M,rfl,m,h⟩
theorem Dy {code:Code} {Q':Post} (h:J c H code ρ M Q) (hq:∀ e ρ M,Q.at e ρ M→Q'.at e ρ M):J c H code ρ M Q':=fun F rs w m=>
  wpIn_mono (h F rs w m) fun _ _ _ ⟨rs',ρ',M',ha,hm,hx⟩=>⟨rs',ρ',M',ha,hm,hq _ _ _ hx⟩
theorem Zg {x y:Code} {N R:Y2} {E:List (Nat×Y2)} (h:J c H x ρ M ⟨fun ρ M=>J c H y ρ M ⟨N,R,E⟩,R,E⟩):J c H (.seq x y) ρ M ⟨N,R,E⟩:=fun F rs w m=>
  wpIn_seq (wpIn_mono (h F rs w m) fun e a w' ⟨rs',ρ',M',ha,hm,hx⟩=>by
    cases e with
    | normal=>subst ha;exact hx F rs' w' hm
    | _=>exact ⟨rs',ρ',M',ha,hm,hx⟩)
theorem Zo {N R:Y2} {E:List (Nat×Y2)} (h:N ρ M):J c H .skip ρ M ⟨N,R,E⟩:=fun _ rs _ m=>wpIn_skip ⟨rs,ρ,M,rfl,m,h⟩
theorem BU {l:Nat} {N R:Y2} {E:List (Nat×Y2)} (h:N ρ M):J c H (.label l) ρ M ⟨N,R,E⟩:=fun _ rs _ m=>wpIn_label ⟨rs,ρ,M,rfl,m,h⟩
theorem Zz {N R:Y2} {E:List (Nat×Y2)} (h:R ρ M):J c H .ret ρ M ⟨N,R,E⟩:=fun _ rs _ m=>wpIn_ret ⟨rs,ρ,M,rfl,m,h⟩
theorem ZC {id:Nat} {N R:Y2} {E:List (Nat×Y2)} (X:Y2) (hX:E.lookup id=some X) (h:X ρ M):J c H (.exit id) ρ M ⟨N,R,E⟩:=fun _ rs _ m=>
  wpIn_exit ⟨rs,ρ,M,rfl,m,X,hX,h⟩
theorem Zt {x:Operand} {y z:Code} {b:Bool} (hb:ev c.n ρ x=.bool b) (ht:b=true→J c H y ρ M Q) (hf:b=false→J c H z ρ M Q):
    J c H (.cond x y z) ρ M Q:=fun F rs w m=>by
  refine wpIn_cond (t:=b) ((PK _ _ _ _).trans hb) ?_
  cases b with
  | true=>exact ht rfl F rs w m
  | false=>exact hf rfl F rs w m
theorem Zm {id:Nat} {body:Code} {N R:Y2} {E:List (Nat×Y2)} (h:J c H body ρ M ⟨N,R,(id,N)::E⟩):J c H (.block id body) ρ M ⟨N,R,E⟩:=fun F rs w m=>
  wpIn_block (wpIn_mono (h F rs w m) fun e a w' ⟨rs',ρ',M',ha,hm,hx⟩=>by
    cases e with
    | exit i=>
      obtain ⟨X,hX,hx⟩:=hx
      simp only [Exit.inBlock]
      rw [List.lookup_cons] at hX
      by_cases e:i=id
      · subst e;rw [beq_self_eq_true] at hX;cases hX;rw [if_pos rfl];exact ⟨rs',ρ',M',ha,hm,hx⟩
      · rw [beq_eq_false_iff_ne.2 e] at hX;rw [if_neg e];exact ⟨rs',ρ',M',ha,hm,X,hX,hx⟩
    | _=>exact ⟨rs',ρ',M',ha,hm,hx⟩)
theorem ZD {body:Code} {N R:Y2} {E:List (Nat×Y2)} (I:Nat→Y2) (k₀:Nat) (h₀:I k₀ ρ M)
    (h:∀ k ρ M,I k ρ M→J c H body ρ M ⟨fun ρ' M'=>∃ k',k'<k∧I k' ρ' M',R,E⟩):J c H (.loop body) ρ M ⟨N,R,E⟩:=fun F rs w m=>by
  intro b k cs hro hb hr
  have key:∀ j rs ρ M w,I j ρ M→Mem w (M.flatten++(dfb rs++F)) H→
      ∃ e a' w',X9 c H F ⟨N,R,E⟩ e a' w'∧ArrivesIn (Machine.fenced c.P (Fw c.r)) c.P (lone (b.atR (act c.n (XW rs) ρ) (.code body::.inLoop body::k)) cs w) b k cs e a' w':=by
    intro j
    induction j using Nat.strongRecOn with
    | _ j ih=>
      intro rs ρ M w hI hm
      obtain ⟨e,a₁,w₁,⟨rs₁,ρ₁,M₁,ha,hm₁,hq⟩,harr⟩:=h j ρ M hI F rs w hm b (.inLoop body::k) cs hro hb hr
      cases e with
      | normal=>
        subst ha
        obtain ⟨j',hlt,hI'⟩:=hq
        obtain ⟨e₂,a₂,w₂,hq₂,harr₂⟩:=ih j' hlt rs₁ ρ₁ M₁ w₁ hI' hm₁
        exact ⟨e₂,a₂,w₂,hq₂,.of_steps (StepsIn.trans harr (.one (fenced_calm hb hr rfl) stepR_inLoop)) harr₂⟩
      | exit id=>exact ⟨.exit id,a₁,w₁,⟨rs₁,ρ₁,M₁,ha,hm₁,hq⟩,.pass (x:=.inLoop body) rfl (fun _ _=>.inl (by simp)) harr⟩
      | goto l=>exact hq.elim
      | ret=>exact ⟨.ret,a₁,w₁,⟨rs₁,ρ₁,M₁,ha,hm₁,hq⟩,.pass (x:=.inLoop body) rfl (fun _ _=>.inl (by simp)) harr⟩
      | panic ch=>exact hq.elim
      | outgrown=>exact hq.elim
  obtain ⟨e,a',w',hq,harr⟩:=key k₀ rs ρ M w h₀ m
  exact ⟨e,a',w',hq,.of_steps (.one (fenced_calm hb hr rfl) stepR_loop) harr⟩
end
def CT (P:Program) (f:FuncId) (args:Array Value) (M:List Zf) (H:Heap) (post:Value→List Zf→Prop):Prop:=
  ∀ F w,Mem w (M.flatten++F) H→CallsIn Fence.wide 0 P f args w fun e w'=>∃ v M',e=.returned v∧Mem w' (M'.flatten++F) H∧post v M'
theorem CT.mono {P:Program} {f:FuncId} {args:Array Value} {M:List Zf} {H:Heap} {post post':Value→List Zf→Prop} (h:CT P f args M H post)
    (hp:∀ v M,post v M→post' v M):CT P f args M H post':=fun F w m=>
  (h F w m).mono fun _ _ ⟨v,M',he,hm,hq⟩=>⟨v,M',he,hm,hp _ _ hq⟩
section
variable {c:Cx} {H:Heap} {ρ:Nat→Value} {M:List Zf} {Q:Post} {ops:Array Oper} {rest:List Oper} {o:Oper}
def Runs (c:Cx) (H:Heap) (o:Oper) (ρ:Nat→Value) (M:List Zf) (K:Value→List Zf→Prop):Prop:=
  ∀ F w,Mem w (M.flatten++F) H→∃ v w' M',((execOp (ev c.n ρ) o).run c.P w=.ok (.value v) w'∨((execOp (ev c.n ρ) o).run c.P w=.ok .skip w'∧v=undef))∧
    Mem w' (M'.flatten++F) H∧K v M'
theorem WR {o:Oper} {r:Option Nat} {e:Operand→Value} (h:∀ c,o.op≠.defer c):o.semAt r e=execOp e o:=Oper.semAt_eq r e o h
theorem Of {P:Program} {o:Oper} {e:Operand→Value} {w:World} {x:Next} {w':World} (h:(execOp e o).run P w=.ok x w') (hx:∀ d,x≠.defer d):∀ c,o.op≠.defer c:=by
  intro c hc
  simp only [execOp,hc,Sem.run_bind] at h
  revert h
  generalize (resolve e c o.type).run P w=res
  intro h
  cases res with
  | ok d w₁=>
    simp only [Result.andThen_ok] at h
    cases h
    exact hx _ rfl
  | halt a b=>cases h
theorem WG (hg:wnt ops c.n ρ o=false) (h:JL c H ops rest (Xj ρ o.dst undef) M Q):JL c H ops (o::rest) ρ M Q:=fun F rs w m=>by
  unfold wlo
  rw [Vq,hg,Uh]
  exact h F rs w m
theorem NX (hg:wnt ops c.n ρ o=true) (h:Runs c H o ρ M fun v M'=>JL c H ops rest (Xj ρ o.dst v) M' Q):JL c H ops (o::rest) ρ M Q:=fun F rs w m=>by
  unfold wlo
  rw [Vq,hg,if_pos rfl]
  obtain ⟨v,w',M',hr,hm,hk⟩:=h (dfb rs++F) w m
  refine ⟨fun _ _=>trivial,?_⟩
  rw [WM]
  rcases hr with hr | ⟨hr,rfl⟩
  · rw [WR (Of hr (by simp)),hr]
    show wlo c ops (X9 c H F Q) rest ((act c.n (XW rs) ρ).put o.dst v) w'
    rw [Uh];exact hk F rs w' hm
  · rw [WR (Of hr (by simp)),hr]
    show wlo c ops (X9 c H F Q) rest ((act c.n (XW rs) ρ).put o.dst undef) w'
    rw [Uh];exact hk F rs w' hm
def Pu (P:Program) (e:Operand→Value) (o:Oper) (v:Value):Prop:=∀ w,(execOp e o).run P w=.ok (.value v) w
theorem Zdt {v:Value} {K:Value→List Zf→Prop} (hp:Pu c.P (ev c.n ρ) o v) (h:K v M):Runs c H o ρ M K:=fun _ w m=>⟨v,w,M,.inl (hp w),m,h⟩
theorem To {v:Value} (hg:wnt ops c.n ρ o=true) (hp:Pu c.P (ev c.n ρ) o v) (h:JL c H ops rest (Xj ρ o.dst v) M Q):JL c H ops (o::rest) ρ M Q:=
  NX hg (Zdt hp h)
def At (M:List Zf) (H:Heap) (b:Nat) (o:Obj):Prop:=(∃ k∈M,(b,o)∈k)∨H b=some o
theorem At.heap {F:Zf} {w:World} {b:Nat} {x:Obj} (h:At M H b x) (m:Mem w (M.flatten++F) H):w.heap[b]?=some x:=by
  rcases h with ⟨k,hk,hb⟩ | h
  · exact m.own b x (mem_append.2 (.inl (mem_flatten.2 ⟨k,hk,hb⟩)))
  · exact m.imm b x h
theorem ZcN {b:Nat} {x:Obj} (h:H b=some x):At M H b x:=.inr h
theorem ZcS {b:Nat} {x:Obj} (i:Nat) {k:Zf} (hi:M[i]?=some k) (h:(b,x)∈k):At M H b x:=.inl ⟨k,mem_of_getElem? hi,h⟩
theorem ZcK {b:Nat} {x:Obj} (i:Nat) (hi:M[i]?=some [(b,x)]):At M H b x:=ZcS i hi (by simp)
theorem At.h {b:Nat} {x:Obj} {h:Heap} (hle:∀ b o,h b=some o→At M H b o) (hb:h b=some x):At M H b x:=hle _ _ hb
structure Ty (P:Program) (T:TypeId) (ag:Bool) (sz:Nat):Prop where
  ag:∀ w,(isAgg T).run P w=.ok ag w
  sz:∀ w,(sizeOf T).run P w=.ok sz w
theorem W1 (b o i:Nat):(⟨b,o,none⟩:Addr).add i=⟨b,o+i,none⟩:=by unfold Addr.add;split <;> simp_all
def sub (l:List Value) (o n:Nat):Option (List Value):=cond (Nat.ble (o+n) l.length) (some ((l.drop o).take n)) none
def spl (l:List Value) (o:Nat) (vs:List Value):Option (List Value):=cond (Nat.ble (o+vs.length) l.length) (some (l.take o++(vs++l.drop (o+vs.length)))) none
def okc (l:List Value):Prop:=∀ v∈l,v.oneCell'=true
theorem Wg {l:List Value} {o n:Nat} {r:List Value} (h:sub l o n=some r):o+n≤l.length∧r=(l.drop o).take n:=by
  unfold sub at h
  cases hb:Nat.ble (o+n) l.length with
  | true=>rw [hb] at h;exact ⟨Nat.le_of_ble_eq_true hb,by cases h;rfl⟩
  | false=>rw [hb] at h;cases h
theorem Wp {l:List Value} {o n:Nat} (h:o+n≤l.length):sub l o n=some ((l.drop o).take n):=by
  unfold sub;rw [Nat.ble_eq_true_of_le h];rfl
theorem WP {l:List Value} {o:Nat} {vs r:List Value} (h:spl l o vs=some r):o+vs.length≤l.length∧r=l.take o++(vs++l.drop (o+vs.length)):=by
  unfold spl at h
  cases hb:Nat.ble (o+vs.length) l.length with
  | true=>rw [hb] at h;exact ⟨Nat.le_of_ble_eq_true hb,by cases h;rfl⟩
  | false=>rw [hb] at h;cases h
theorem Vj {l:List Value} {o:Nat} {vs:List Value} (h:o+vs.length≤l.length):spl l o vs=some (l.take o++(vs++l.drop (o+vs.length))):=by
  unfold spl;rw [Nat.ble_eq_true_of_le h];rfl
theorem UC {P:Program} {w:World} {b o sz:Nat} {l r:List Value} {T T':TypeId} {fr:Nat×Nat} (ty:Ty P T true sz) (hb:w.heap[b]?=some (.cells ⟨l⟩ T' fr)) (hr:sub l o sz=some r):
    (loadVar T ⟨b,o,none⟩).run P w=.ok (.agg ⟨r⟩) w:=by
  obtain ⟨hle,rfl⟩:=Wg hr
  have hl:=run_loadCells_list (P:=P) w ⟨b,o,none⟩ ((l.drop o).take sz) (fun j v hv=>by
    rw [W1,cell_of_row w b (o+j) _ _ _ hb]
    rw [getElem?_take] at hv
    split at hv
    · simpa using hv
    · cases hv)
  have hlen:((l.drop o).take sz).length=sz:=by simp;omega
  rw [hlen] at hl
  simp [loadVar,ty.ag,ty.sz,hl]
theorem UB {P:Program} {w:World} {b o sz:Nat} {l:List Value} {v:Value} {T T':TypeId} {fr:Nat×Nat} (ty:Ty P T false sz) (hb:w.heap[b]?=some (.cells ⟨l⟩ T' fr)) (hr:l[o]?=some v):
    (loadVar T ⟨b,o,none⟩).run P w=.ok v w:=by
  have:w.cell? ⟨b,o,none⟩=some v:=by rw [cell_of_row w b o _ _ _ hb];simpa using hr
  simp [loadVar,ty.ag,this]
theorem Zn {d:Option Nat} {T:TypeId} {x:Operand} {ot:TypeId} {pos:String} {af:Array Edge} {g:Option (Nat×Bool)} {b f sz:Nat} {l r:List Value} {T':TypeId} {fr:Nat×Nat}
    {K:Value→List Zf→Prop} (ty:Ty c.P T true sz) (hx:ev c.n ρ x=.pointer (some ⟨b,f,none⟩)) (ha:At M H b (.cells ⟨l⟩ T' fr)) (hr:sub l f sz=some r) (h:K (.agg ⟨r⟩) M):
    Runs c H ⟨d,.load T x,ot,pos,af,g⟩ ρ M K:=fun F w m=>
  ⟨.agg ⟨r⟩,w,M,.inl (by simp [execOp,Instr.loadAt,hx,Instr.sureAddr,UC ty (ha.heap m) hr]),m,h⟩
theorem Zc {d:Option Nat} {T:TypeId} {x:Operand} {ot:TypeId} {pos:String} {af:Array Edge} {g:Option (Nat×Bool)} {b f sz:Nat} {l:List Value} {v:Value} {T':TypeId} {fr:Nat×Nat}
    {K:Value→List Zf→Prop} (ty:Ty c.P T false sz) (hx:ev c.n ρ x=.pointer (some ⟨b,f,none⟩)) (ha:At M H b (.cells ⟨l⟩ T' fr)) (hr:l[f]?=some v) (h:K v M):
    Runs c H ⟨d,.load T x,ot,pos,af,g⟩ ρ M K:=fun F w m=>
  ⟨v,w,M,.inl (by simp [execOp,Instr.loadAt,hx,Instr.sureAddr,UB ty (ha.heap m) hr]),m,h⟩
theorem Ly {ob:Obj} {K:Value→List Zf→Prop}
    (hr:∀ w,∃ w',(execOp (ev c.n ρ) o).run c.P w=.ok (.value (.pointer (some ⟨w.heap.size,0,none⟩))) w'∧w'.heap=w.heap.push ob∧Still w w')
    (h:∀ b,K (.pointer (some ⟨b,0,none⟩)) ([(b,ob)]::M)):Runs c H o ρ M K:=fun F w m=>by
  obtain ⟨w',hr,hh,ho⟩:=hr w
  exact ⟨_,w',[(w.heap.size,ob)]::M,.inl hr,m.push hh ho,h _⟩
theorem Zk {d:Option Nat} {T:TypeId} {ot:TypeId} {pos:String} {af:Array Edge} {g:Option (Nat×Bool)} {z:Value} {l:List Value}
    {K:Value→List Zf→Prop} (hz:∀ w,(zeroValue T).run c.P w=.ok z w) (hl:z.cells=⟨l⟩) (h:∀ b,K (.pointer (some ⟨b,0,none⟩)) ([(b,.cells ⟨l⟩ T (0,0))]::M)):
    Runs c H ⟨d,.alloc T,ot,pos,af,g⟩ ρ M K:=
  Ly (fun w=>⟨w.alloc (.cells ⟨l⟩ T),by simp [execOp,Instr.alloc,hz,newVar,newRow,hl],rfl,rfl,rfl,rfl,Nat.le_refl _⟩) h
theorem Zr {d:Option Nat} {T:TypeId} {x:Operand} {ot:TypeId} {pos:String} {af:Array Edge} {g:Option (Nat×Bool)} {z:Value} {l:List Value}
    {K:Value→List Zf→Prop} (hx:ev c.n ρ x=z) (hl:z.cells=⟨l⟩) (h:∀ b,K (.pointer (some ⟨b,0,none⟩)) ([(b,.cells ⟨l⟩ T (0,0))]::M)):
    Runs c H ⟨d,.box T x,ot,pos,af,g⟩ ρ M K:=
  Ly (fun w=>⟨w.alloc (.cells ⟨l⟩ T),by simp [execOp,Instr.box,newVar,newRow,hx,hl],rfl,rfl,rfl,rfl,Nat.le_refl _⟩) h
theorem Yt {M:List Zf} {i:Nat} {k:Zf} (hi:M[i]?=some k):M.flatten.Perm (k++(M.eraseIdx i).flatten):=by
  induction M generalizing i with
  | nil=>cases hi
  | cons a M ih=>
    cases i with
    | zero=>cases hi;exact List.Perm.refl _
    | succ i=>
      simp only [List.eraseIdx_cons_succ,flatten_cons]
      refine ((ih (by simpa using hi)).append_left a).trans ?_
      rw [← append_assoc,← append_assoc]
      exact List.perm_append_comm.append_right _
theorem Vg {M:List Zf} {i:Nat} {k k':Zf} (hi:M[i]?=some k):(M.set i k').flatten.Perm (k'++(M.eraseIdx i).flatten):=by
  have hlt:=(List.getElem?_eq_some_iff.1 hi).1
  have:=Yt (M:=M.set i k') (i:=i) (k:=k') (by simp [hlt])
  rwa [show (M.set i k').eraseIdx i=M.eraseIdx i from by
    apply List.ext_getElem?
    intro j
    simp only [List.getElem?_eraseIdx,List.getElem?_set]
    split
    · rw [if_neg (by omega)]
    · rw [if_neg (by omega)]] at this
theorem O5 (w:World) (b:Nat) (old l:Array Value) (T:TypeId) (h:w.heap[b]?=some (.cells old T (0,0))):
    (w.setRow b l).heap[b]?=some (.cells l T (0,0))∧∀ k,k≠b→(w.setRow b l).heap[k]?=w.heap[k]?:=by
  refine ⟨setRow_heap w b old l T (0,0) h,fun k hk=>?_⟩
  simp only [World.setRow,Array.getElem?_modify]
  rw [if_neg (Ne.symm hk)]
theorem Mem.write {F:Zf} {w:World} {i b:Nat} {k k₁ k₂:Zf} {old l:List Value} {T:TypeId} (m:Mem w (M.flatten++F) H)
    (hi:M[i]?=some k) (hk:k=k₁++(b,.cells ⟨old⟩ T (0,0))::k₂):
    Mem (w.setRow b ⟨l⟩) ((M.set i (k₁++(b,.cells ⟨l⟩ T (0,0))::k₂)).flatten++F) H:=by
  subst hk
  have p1:(M.flatten++F).Perm ((b,.cells ⟨old⟩ T (0,0))::(k₁++k₂++(M.eraseIdx i).flatten++F)):=by
    refine ((Yt hi).append_right F).trans ?_
    rw [append_assoc,append_assoc,append_assoc,append_assoc]
    exact List.perm_middle
  have p2:((M.set i (k₁++(b,.cells ⟨l⟩ T (0,0))::k₂)).flatten++F).Perm ((b,.cells ⟨l⟩ T (0,0))::(k₁++k₂++(M.eraseIdx i).flatten++F)):=by
    refine ((Vg hi).append_right F).trans ?_
    rw [append_assoc,append_assoc,append_assoc,append_assoc]
    exact List.perm_middle
  have m1:=m.perm p1
  have hb:=m1.own b _ (mem_cons.2 (.inl rfl))
  obtain ⟨h1,h2⟩:=O5 w b ⟨old⟩ ⟨l⟩ T hb
  exact (m1.set h1 h2).perm p2.symm
theorem O7 {P:Program} {w:World} {b f sz:Nat} {old vs l:List Value} {v:Value} {ag:Bool} {T T':TypeId} (ty:Ty P T ag sz) (hb:w.heap[b]?=some (.cells ⟨old⟩ T' (0,0)))
    (hv:v.cells=⟨vs⟩) (hn:vs.length=sz) (hok:okc vs) (hl:spl old f vs=some l):(storeVar T ⟨b,f,none⟩ v).run P w=.ok () (w.setRow b ⟨l⟩):=by
  obtain ⟨hle,rfl⟩:=WP hl
  have hst:=run_storeCells_at P b f T' vs 0 ⟨old⟩ w hb (by simpa using hle) hok
  simp only [Nat.add_zero,append_assoc] at hst
  unfold storeVar
  simp only [Sem.run_bind,ty.sz,Result.andThen_ok,hv,List.size_toArray,hn,ne_eq,not_true_eq_false,if_false,hst]
theorem PM {d:Option Nat} {T:TypeId} {x y:Operand} {ot:TypeId} {pos:String} {af:Array Edge} {g:Option (Nat×Bool)} {i b f sz:Nat} {ag:Bool} {old vs l:List Value} {v:Value} {T':TypeId}
    {k₁ k₂:Zf} {K:Value→List Zf→Prop} (ty:Ty c.P T ag sz) (hx:ev c.n ρ x=.pointer (some ⟨b,f,none⟩)) (hy:ev c.n ρ y=v) (hv:v.cells=⟨vs⟩) (hn:vs.length=sz) (hok:okc vs)
    (hi:M[i]?=some (k₁++(b,.cells ⟨old⟩ T' (0,0))::k₂)) (hl:spl old f vs=some l) (h:K undef (M.set i (k₁++(b,.cells ⟨l⟩ T' (0,0))::k₂))):
    Runs c H ⟨d,.store T x y,ot,pos,af,g⟩ ρ M K:=fun F w m=>by
  have hb:w.heap[b]?=some (.cells ⟨old⟩ T' (0,0)):=(ZcS (M:=M) (H:=H) i hi (by simp)).heap m
  refine ⟨undef,w.setRow b ⟨l⟩,_,.inr ⟨?_,rfl⟩,m.write hi rfl,h⟩
  simp [execOp,Instr.storeAt,hx,hy,Instr.sureAddr,O7 ty hb hv hn hok hl]
theorem Zb {d:Option Nat} {T:TypeId} {x y:Operand} {ot:TypeId} {pos:String} {af:Array Edge} {g:Option (Nat×Bool)} {b f sz:Nat} {ag:Bool} {old vs l:List Value} {v:Value} {T':TypeId}
    {K:Value→List Zf→Prop} (i:Nat) (ty:Ty c.P T ag sz) (hx:ev c.n ρ x=.pointer (some ⟨b,f,none⟩)) (hi:M[i]?=some [(b,.cells ⟨old⟩ T' (0,0))])
    (hy:ev c.n ρ y=v) (hv:v.cells=⟨vs⟩) (hn:vs.length=sz) (hok:okc vs) (hl:spl old f vs=some l) (h:K undef (M.set i [(b,.cells ⟨l⟩ T' (0,0))])):
    Runs c H ⟨d,.store T x y,ot,pos,af,g⟩ ρ M K:=
  PM (k₁:=[]) (k₂:=[]) ty hx hy hv hn hok hi hl h
def Has (k:Zf) (h:Heap):Prop:=∀ b o,(b,o)∈k→h b=some o
theorem PP {d:Option Nat} {cl:Call} {ot:TypeId} {pos:String} {af:Array Edge} {g:Option (Nat×Bool)} {f:FuncId} {args:Array Value} {post:Value→List Zf→Prop}
    (hg:wnt ops c.n ρ ⟨d,.call cl,ot,pos,af,g⟩=true) (he:∀ w,(execOp (ev c.n ρ) ⟨d,.call cl,ot,pos,af,g⟩).run c.P w=.ok (.enter f args) w)
    {M₁ M₂:List Zf} (hM:M.flatten.Perm (M₁.flatten++M₂.flatten))
    (hc:(∀ (i:Nat) k,M₂[i]?=some k→Has k (hu M₂.flatten H))→CT c.P f args M₁ (hu M₂.flatten H) post)
    (h:∀ v N,post v N→JL c H ops rest (Xj ρ d v) (N++M₂) Q):JL c H ops (⟨d,.call cl,ot,pos,af,g⟩::rest) ρ M Q:=fun F rs w m=>by
  unfold wlo
  rw [Vq,hg,if_pos rfl]
  refine ⟨fun _ _=>trivial,?_⟩
  rw [WM,WR (by simp),he w]
  refine ⟨fun h=>by simp [Fw] at h,?_⟩
  have m1:Mem w (M₂.flatten++(M₁.flatten++(dfb rs++F))) H:=by
    refine m.perm ((hM.append_right (dfb rs++F)).trans ?_)
    rw [← append_assoc M₂.flatten]
    exact List.perm_append_comm.append_right (dfb rs++F)
  have m2:Mem w (M₁.flatten++(dfb rs++F)) (hu M₂.flatten H):=m1.hu
  have hnd:(M₂.flatten.map (·.1)).Nodup:=m1.left.nd
  have hsep:∀ b o,(b,o)∈M₂.flatten→H b=none:=m1.left.sep
  have hkh:∀ (i:Nat) k,M₂[i]?=some k→Has k (hu M₂.flatten H):=fun i k hk b o hb=>by
    have hmem:(b,o)∈M₂.flatten:=mem_flatten.2 ⟨k,mem_of_getElem? hk,hb⟩
    rw [Xf,hsep b o hmem];exact YP hnd hmem
  refine (hc hkh (dfb rs++F) w m2).mono fun e w' ⟨v,N,he',hm',hp⟩=>?_
  subst he'
  have m3:Mem w' ((N++M₂).flatten++(dfb rs++F)) H:=by
    have m4:Mem w' (N.flatten++(M₂.flatten++(dfb rs++F))) H:=Zc5 hnd hsep (Mem.perm hm' (by exact List.Perm.refl _))
    rw [flatten_append,append_assoc];exact m4
  show wlo c ops (X9 c H F Q) rest ((act c.n (XW rs) ρ).put d v) w'
  rw [Uh]
  exact h v N hp F rs w' m3
end
def frz (k:Zf) (Q:Post):Post:=⟨fun ρ M=>Q.N ρ (k::M),fun ρ M=>Q.R ρ (k::M),Q.E.map fun p=>(p.1,fun ρ M=>p.2 ρ (k::M))⟩
theorem Zal {k:Zf} {Q:Post} {e:Exit} {ρ:Nat→Value} {M:List Zf} (h:(frz k Q).at e ρ M):Q.at e ρ (k::M):=by
  cases e with
  | normal=>exact h
  | ret=>exact h
  | exit i=>
    obtain ⟨X,hX,hx⟩:=h
    have key:∀ (E:List (Nat×Y2)),(E.map fun p=>(p.1,fun ρ M=>p.2 ρ (k::M))).lookup i=some X→∃ Y,E.lookup i=some Y∧X=fun ρ M=>Y ρ (k::M):=by
      intro E
      induction E with
      | nil=>intro h;cases h
      | cons p E ih=>
        intro h
        rw [map_cons,List.lookup_cons] at h
        rw [List.lookup_cons]
        by_cases c:(i==p.1)=true
        · rw [c] at h ⊢;cases h;exact ⟨p.2,rfl,rfl⟩
        · have c:(i==p.1)=false:=by simpa using c
          rw [c] at h ⊢;exact ih h
    obtain ⟨Y,hY,rfl⟩:=key Q.E hX
    exact ⟨Y,hY,hx⟩
  | _=>exact h.elim
theorem U2 {c:Cx} {H:Heap} {code:Code} {ρ:Nat→Value} {M:List Zf} {Q:Post} {i:Nat} {k:Zf} (hi:M[i]?=some k) (h:∀ H2,Hle H H2→Has k H2→J c H2 code ρ (M.eraseIdx i) (frz k Q)):J c H code ρ M Q:=fun F rs w m=>by
  have p:(M.flatten++(dfb rs++F)).Perm (k++((M.eraseIdx i).flatten++(dfb rs++F))):=by
    have:=(Yt hi).append_right (dfb rs++F)
    rwa [append_assoc] at this
  have m1:=m.perm p
  have hnd:=m1.nd
  rw [map_append,nodup_append] at hnd
  have hk:Has k (hu k H):=fun b o hb=>by rw [Xf,m1.sep b o (mem_append.2 (.inl hb))];exact YP hnd.1 hb
  refine wpIn_mono (h (hu k H) (Hle.hu k H) hk F rs w m1.hu) fun e a w' ⟨rs',ρ',M',ha,hm,hx⟩=>⟨rs',ρ',k::M',ha,?_,Zal hx⟩
  have m2:=Zc5 (L:=k) (N:=[]) (F:=M'.flatten++(dfb rs'++F)) hnd.1 (fun b o hb=>m1.sep b o (mem_append.2 (.inl hb))) hm
  exact m2.perm (List.Perm.of_eq (by simp))
section
variable {P:Program} {e:Operand→Value} {d:Option Nat} {ot:TypeId} {pos:String} {af:Array Edge} {g:Option (Nat×Bool)} {T T':TypeId} {x y z:Operand}
theorem Pu.move {v:Value} (hx:e x=v):Pu P e ⟨d,.move x,ot,pos,af,g⟩ v:=fun w=>by simp [execOp,hx]
theorem Pu.assign {v:Value} (hx:e x=v):Pu P e ⟨d,.assign x,ot,pos,af,g⟩ v:=fun w=>by simp [execOp,hx]
theorem Pu.nilCheck {a:Addr} (hx:e x=.pointer (some a)):Pu P e ⟨d,.nilCheck x,ot,pos,af,g⟩ (.pointer (some a)):=fun w=>by simp [execOp,hx]
theorem Pu.pick {b:Bool} {v v':Value} (hc:e z=.bool b) (hx:e x=v) (hy:e y=v'):Pu P e ⟨d,.pick z x y,ot,pos,af,g⟩ (cond b v v'):=fun w=>by
  cases b <;> simp [execOp,hc,hx,hy,asBool]
theorem Pu.not {b:Bool} (hx:e x=.bool b):Pu P e ⟨d,.unOp .not T x,ot,pos,af,g⟩ (.bool !b):=fun w=>by simp [execOp,hx,Op.unary]
theorem Pu.extract {vs:List Value} {i:Nat} {v:Value} (hx:e x=.tuple ⟨vs⟩) (hv:vs[i]?=some v):Pu P e ⟨d,.extract x i,ot,pos,af,g⟩ v:=fun w=>by
  have hv':(⟨vs⟩:Array Value)[i]?=some v:=by simpa using hv
  simp only [execOp,hx,Instr.extract,hv'];rfl
theorem Pu.makeFunc {fn:Fn} {fs cs:List Operand} {fv cv:List Value} (hf:fs.map e=fv) (hc:cs.map e=cv):Pu P e ⟨d,.makeFunc fn fs.toArray cs.toArray,ot,pos,af,g⟩ (.func fn ⟨fv⟩ ⟨cv⟩):=fun w=>by
  subst hf hc
  simp [execOp,Instr.makeFunc]
section Z2
variable {k:IntKind} {a b:Int}
theorem Pu.eql (hx:e x=.int k a) (hy:e y=.int k b):Pu P e ⟨d,.binOp .eql T x y T',ot,pos,af,g⟩ (.bool (decide (a=b))):=fun w=>by
  simp only [execOp,hx,hy,eqGuard,binOp,Op.intCmp];simp;rfl
theorem Pu.neq (hx:e x=.int k a) (hy:e y=.int k b):Pu P e ⟨d,.binOp .neq T x y T',ot,pos,af,g⟩ (.bool (!decide (a=b))):=fun w=>by
  simp only [execOp,hx,hy,eqGuard,binOp,Op.intCmp];simp;rfl
theorem Pu.lss (hx:e x=.int k a) (hy:e y=.int k b):Pu P e ⟨d,.binOp .lss T x y T',ot,pos,af,g⟩ (.bool (decide (a<b))):=fun w=>by
  simp only [execOp,hx,hy,eqGuard,binOp,Op.intCmp];simp
theorem Pu.leq (hx:e x=.int k a) (hy:e y=.int k b):Pu P e ⟨d,.binOp .leq T x y T',ot,pos,af,g⟩ (.bool (decide (a≤b))):=fun w=>by
  simp only [execOp,hx,hy,eqGuard,binOp,Op.intCmp];simp
theorem Pu.gtr (hx:e x=.int k a) (hy:e y=.int k b):Pu P e ⟨d,.binOp .gtr T x y T',ot,pos,af,g⟩ (.bool (decide (b<a))):=fun w=>by
  simp only [execOp,hx,hy,eqGuard,binOp,Op.intCmp];simp
theorem Pu.geq (hx:e x=.int k a) (hy:e y=.int k b):Pu P e ⟨d,.binOp .geq T x y T',ot,pos,af,g⟩ (.bool (decide (b≤a))):=fun w=>by
  simp only [execOp,hx,hy,eqGuard,binOp,Op.intCmp];simp
theorem Zc1 {v:Int} (hx:e x=.int k a) (hy:e y=.int k b) (hv:k.wrap (a+b)=v):Pu P e ⟨d,.binOp .add T x y T',ot,pos,af,g⟩ (.int k v):=fun w=>by
  simp only [execOp,hx,hy,eqGuard,binOp,Op.intArith];simp [hv]
theorem Zc7 {v:Int} (hx:e x=.int k a) (hy:e y=.int k b) (hv:k.wrap (a-b)=v):Pu P e ⟨d,.binOp .sub T x y T',ot,pos,af,g⟩ (.int k v):=fun w=>by
  simp only [execOp,hx,hy,eqGuard,binOp,Op.intArith];simp [hv]
theorem Zc4 {v:Int} (hx:e x=.int k a) (hy:e y=.int k b) (hv:k.wrap (a*b)=v):Pu P e ⟨d,.binOp .mul T x y T',ot,pos,af,g⟩ (.int k v):=fun w=>by
  simp only [execOp,hx,hy,eqGuard,binOp,Op.intArith];simp [hv]
theorem Pu.quo {v:Int} (hx:e x=.int k a) (hy:e y=.int k b) (h0:b≠0) (hv:k.wrap (a.tdiv b)=v):Pu P e ⟨d,.binOp .quo T x y T',ot,pos,af,g⟩ (.int k v):=fun w=>by
  simp only [execOp,hx,hy,eqGuard,binOp,Op.intDiv];simp [hv,h0]
theorem Pu.rem {v:Int} (hx:e x=.int k a) (hy:e y=.int k b) (h0:b≠0) (hv:a.tmod b=v):Pu P e ⟨d,.binOp .rem T x y T',ot,pos,af,g⟩ (.int k v):=fun w=>by
  simp only [execOp,hx,hy,eqGuard,binOp,Op.intDiv];simp [hv,h0]
theorem Zc0 {v:Int} {k':IntKind} {t:TypeDesc} (hs:∀ w,(underlying T).run P w=.ok t w) (hT:∀ w,(underlying T').run P w=.ok (.int k') w) (hx:e x=.int k a) (hv:k'.wrap a=v):Pu P e ⟨d,.convert T T' x,ot,pos,af,g⟩ (.int k' v):=fun w=>by
  simp [execOp,convert,hs,hT,hx,Conv.intToInt,hv]
end Z2
theorem w64 {n:Int} (h: -9223372036854775808≤n∧n≤9223372036854775807):IntKind.i64.wrap n=n:=IntWalk.i64_in n h
theorem ZcV {a b:Int} (hx:e x=.int .i64 a) (hy:e y=.int .i64 b) (hv: -9223372036854775808≤a+b∧a+b≤9223372036854775807):Pu P e ⟨d,.binOp .add T x y T',ot,pos,af,g⟩ (.int .i64 (a+b)):=Zc1 hx hy (w64 hv)
theorem Zc2 {a b:Int} (hx:e x=.int .i64 a) (hy:e y=.int .i64 b) (hv: -9223372036854775808≤a-b∧a-b≤9223372036854775807):Pu P e ⟨d,.binOp .sub T x y T',ot,pos,af,g⟩ (.int .i64 (a-b)):=Zc7 hx hy (w64 hv)
theorem ZcP {j:Nat} (hx:e x=.int .i64 (j:Int)) (hy:e y=.int .i64 1) (hv:j<9223372036854775807):Pu P e ⟨d,.binOp .add T x y T',ot,pos,af,g⟩ (.int .i64 ((j+1:Nat):Int)):=Zc1 hx hy (w64 (by omega))
theorem Vx {a b:Bool} (n:Nat) (w:World) (hT:∀ w,(underlying T).run P w=.ok .bool w):(Op.equalIn (n+1) T (.bool a) (.bool b)).run P w=.ok (a==b) w:=by
  simp [Op.equalIn,hT]
theorem Hn (a b:ByteArray):(a.toList==b.toList)=decide (a=b):=by
  have h:a.toList=b.toList↔a=b:=by
    rw [ByteArray.toList_eq,ByteArray.toList_eq]
    constructor
    · intro h;exact ByteArray.ext (Array.ext' h)
    · intro h;rw [h]
  rw [Bool.eq_iff_iff];simp [h]
theorem ZdB {a b:ByteArray} (hx:e x=.string a) (hy:e y=.string b):Pu P e ⟨d,.binOp .neq T x y T',ot,pos,af,g⟩ (.bool (!decide (a=b))):=fun w=>by
  simp only [execOp,hx,hy,eqGuard,binOp,Op.stringOp,Hn];simp
theorem ZcM {el:TypeId} {a:Option Addr} {n k:Nat} (hT:∀ w,(underlying T).run P w=.ok (.slice el) w) (hx:e x=.slice a n k):
    Pu P e ⟨d,.call {callee:=.builtin .len,args:=#[x],argTypes:=#[T]},ot,pos,af,g⟩ (.int .i64 (n:Int)):=fun w=>by
  simp [execOp,resolve,invoke,builtin,Builtin.len_,hT,hx,goInt]
theorem Zdp {s:ByteArray} (hT:∀ w,(underlying T).run P w=.ok .string w) (hx:e x=.string s):
    Pu P e ⟨d,.call {callee:=.builtin .len,args:=#[x],argTypes:=#[T]},ot,pos,af,g⟩ (.int .i64 (s.size:Int)):=fun w=>by
  simp [execOp,resolve,invoke,builtin,Builtin.len_,hT,hx,goInt]
theorem Pu.fieldAddr {s b f f' sz:Nat} {i:Nat} {fs:Array Field} {fl:Field} {ag:Bool} (hT:∀ w,(underlying s).run P w=.ok (.struct fs) w) (hf:fs[i]?=some fl) (ty:Ty P fl.type ag (sz+1))
    (hx:e x=.pointer (some ⟨b,f,none⟩)) (ho:f+fl.offset=f'):Pu P e ⟨d,.fieldAddr s x i,ot,pos,af,g⟩ (.pointer (some ⟨b,f',none⟩)):=fun w=>by
  subst ho
  simp [execOp,Instr.fieldAt,hT,hf,hx,Instr.sureAddr,fieldPlace,ty.sz,W1]
theorem Pu.idx {el:TypeId} {sz b o n cap:Nat} {ag:Bool} {i:Int} (j:Nat) (hT:∀ w,(underlying T).run P w=.ok (.slice el) w) (ty:Ty P el ag sz)
    (hx:e x=.slice (some ⟨b,o,none⟩) n cap) {k:IntKind} (hy:e y=.int k i) (hj:i=(j:Int)) (hlt:j<n):
    Pu P e ⟨d,.indexAddr T x y,ot,pos,af,g⟩ (.pointer (some ⟨b,o+j*sz,none⟩)):=fun w=>by
  subst hj
  have h1:(j:Int)<n:=by omega
  simp [execOp,Instr.indexAt,hx,hy,asIntOf,hT,ty.sz,W1,hlt]
theorem ZcQ {el:TypeId} {sz b o n:Nat} {ag:Bool} {i:Int} (j:Nat) (hT:∀ w,(underlying T).run P w=.ok (.array n el) w) (ty:Ty P el ag sz)
    (hx:e x=.pointer (some ⟨b,o,none⟩)) {k:IntKind} (hy:e y=.int k i) (hj:i=(j:Int)) (hlt:j<n):
    Pu P e ⟨d,.indexAddr T x y,ot,pos,af,g⟩ (.pointer (some ⟨b,o+j*sz,none⟩)):=fun w=>by
  subst hj
  have h1:(j:Int)<n:=by omega
  simp [execOp,Instr.indexAt,hx,hy,asIntOf,hT,ty.sz,W1,hlt,Instr.sureAddr]
theorem Pu.idxS {s:ByteArray} {c:UInt8} {i:Int} (j:Nat) (hT:∀ w,(underlying T).run P w=.ok .string w) (hx:e x=.string s) {k:IntKind} (hy:e y=.int k i) (hj:i=(j:Int)) (hc:s[j]?=some c):
    Pu P e ⟨d,.index T x y,ot,pos,af,g⟩ (.int .u8 (c.toNat:Int)):=fun w=>by
  subst hj
  simp [execOp,Instr.index,hx,hy,asIntOf,hT,hc]
theorem ZdC {el:TypeId} {n:Nat} {l:List Value} {v:Value} {i:Int} (j:Nat) (hT:∀ w,(underlying T).run P w=.ok (.array n el) w) (ty:Ty P el false 1)
    (hx:e x=.agg ⟨l⟩) {k:IntKind} (hy:e y=.int k i) (hj:i=(j:Int)) (hlt:j<n) (hv:l[j]?=some v):
    Pu P e ⟨d,.index T x y,ot,pos,af,g⟩ v:=fun w=>by
  subst hj
  have h1:(j:Int)<n:=by omega
  simp [execOp,Instr.index,hx,hy,asIntOf,hT,hlt,part,ty.ag,ty.sz,hv]
theorem Pu.build {t:TypeId} {ps:List (Nat×Operand)} {pv:List (Nat×Value)} {l:List Value} (hp:ps.map (fun q=>(q.1,e q.2))=pv)
    (hb:∀ w,(Instr.build t ⟨pv⟩).run P w=.ok (.agg ⟨l⟩) w):Pu P e ⟨d,.build t ps.toArray,ot,pos,af,g⟩ (.agg ⟨l⟩):=fun w=>by
  subst hp
  have:=hb w
  simp only [execOp,List.map_toArray]
  simp [this]
end
def ini:List Value→Nat→Value
  | [],_=>undef
  | v::_,0=>v
  | _::l,i+1=>ini l i
theorem CK (l:List Value) (i:Nat):ini l i=l.getD i undef:=by
  induction l generalizing i with
  | nil=>simp [ini]
  | cons v l ih=>cases i with
    | zero=>simp [ini]
    | succ i=>rw [ini,ih];simp
theorem BO (l:List Value) (n:Nat) (h:l.length≤n):({tmps:=(⟨l⟩:Array Value)++Array.replicate (n-(⟨l⟩:Array Value).size) undef,defers:=[]}:Act)=act n [] (ini l):=by
  simp only [act,Act.mk.injEq,and_true]
  apply Array.ext
  · simp;omega
  · intro i h1 h2
    simp only [Array.getElem_ofFn]
    rw [CK]
    by_cases hi:i<l.length
    · rw [Array.getElem_append_left (by simpa using hi)];simp [List.getD,hi]
    · rw [Array.getElem_append_right (by simpa using hi)];simp [List.getD,hi]
section
variable {c:Cx} {H:Heap} {ρ:Nat→Value} {M:List Zf} {Q:Post} {ops:Array Oper} {rest:List Oper}
def Mh (tmps:Array Value):ResultVar→Sem Value
  | .tmp t=>pure (tmps.getD t undef)
  | .cell a t=>do loadVar t (← asAddr (tmps.getD a undef))
theorem V3 (fn:Func) (tmps:Array Value):results fn tmps=(do let vs ← fn.results.mapM (Mh tmps);pure (if h:vs.size=1 then vs[0] else .tuple vs)):=by
  unfold results
  congr 1
def RV (c:Cx) (H:Heap) (M:List Zf) (ρ:Nat→Value) (r:ResultVar) (v:Value):Prop:=∀ F w,Mem w (M.flatten++F) H→(Mh (act c.n [] ρ).tmps r).run c.P w=.ok v w
def Ret (fn:Func) (c:Cx) (H:Heap) (ρ:Nat→Value) (M:List Zf) (v:Value):Prop:=∀ F w,Mem w (M.flatten++F) H→(results fn (act c.n [] ρ).tmps).run c.P w=.ok v w
theorem PJ (n:Nat) (D:List Deferred) (ρ:Nat→Value) (t:Nat):(act n D ρ).tmps.getD t undef=ev n ρ (.tmp t):=PK n D ρ (.tmp t)
theorem RV.tmp {t:Nat} {v:Value} (h:ev c.n ρ (.tmp t)=v):RV c H M ρ (.tmp t) v:=fun F w _=>by
  simp only [Mh,PJ,h];rfl
theorem RV.cell {a T b f sz:Nat} {l r:List Value} {T':TypeId} {fr:Nat×Nat} (ty:Ty c.P T true sz) (hx:ev c.n ρ (.tmp a)=.pointer (some ⟨b,f,none⟩)) (ha:At M H b (.cells ⟨l⟩ T' fr)) (hr:sub l f sz=some r):
    RV c H M ρ (.cell a T) (.agg ⟨r⟩):=fun F w m=>by
  simp only [Mh,PJ,hx]
  simp [asAddr,UC ty (ha.heap m) hr]
theorem Zc8 {a T b f sz:Nat} {l:List Value} {v:Value} {T':TypeId} {fr:Nat×Nat} (ty:Ty c.P T false sz) (hx:ev c.n ρ (.tmp a)=.pointer (some ⟨b,f,none⟩)) (ha:At M H b (.cells ⟨l⟩ T' fr)) (hr:l[f]?=some v):
    RV c H M ρ (.cell a T) v:=fun F w m=>by
  simp only [Mh,PJ,hx]
  simp [asAddr,UB ty (ha.heap m) hr]
theorem Ret.none {fn:Func} (hf:fn.results=#[]):Ret fn c H ρ M (.tuple #[]):=fun F w m=>by simp [results,hf]
theorem Ret.one {fn:Func} {r:ResultVar} {v:Value} (hf:fn.results=#[r]) (h:RV c H M ρ r v):Ret fn c H ρ M v:=fun F w m=>by
  have h1:=h F w m
  rw [V3,hf]
  simp [h1]
theorem ZcU {fn:Func} {r s:ResultVar} {v u:Value} (hf:fn.results=#[r,s]) (h:RV c H M ρ r v) (k:RV c H M ρ s u):Ret fn c H ρ M (.tuple #[v,u]):=fun F w m=>by
  have h1:=h F w m
  have h2:=k F w m
  rw [V3,hf]
  simp [h1,h2]
def Sub (M' M:List Zf):Prop:=∃ R,M.flatten.Perm (M'.flatten++R)
theorem Sub.nil:Sub [] M:=⟨M.flatten,List.Perm.refl _⟩
theorem Sub.refl:Sub M M:=⟨[],by rw [append_nil]⟩
theorem Sub.cons (i:Nat) {k:Zf} {M':List Zf} (hi:M[i]?=some k) (h:Sub M' (M.eraseIdx i)):Sub (k::M') M:=by
  obtain ⟨R,hR⟩:=h
  refine ⟨R,(Yt hi).trans ?_⟩
  rw [flatten_cons,append_assoc]
  exact hR.append_left k
theorem Sk {a:Zf} {M':List Zf} (h:Sub M' M):Sub (a::M') (a::M):=by
  obtain ⟨R,hR⟩:=h
  exact ⟨R,by simpa using hR.append_left a⟩
theorem Se {a b:Zf} {M':List Zf} (e:a=b) (h:Sub M' M):Sub (b::M') (a::M):=e▸Sk h
theorem Sd {a:Zf} {M':List Zf} (h:Sub M' M):Sub M' (a::M):=by
  obtain ⟨R,hR⟩:=h
  refine ⟨a++R,?_⟩
  rw [flatten_cons]
  exact (hR.append_left a).trans (by rw [← append_assoc,← append_assoc];exact List.perm_append_comm.append_right R)
theorem Sub.flat {M' M'':List Zf} (h:Sub M' M) (e:M''.flatten=M'.flatten):Sub M'' M:=by obtain ⟨R,hR⟩:=h;exact ⟨R,by rw [e];exact hR⟩
theorem Sub.perm {M' M'':List Zf} (h:Sub M' M) (e:M'.flatten.Perm M''.flatten):Sub M'' M:=by obtain ⟨R,hR⟩:=h;exact ⟨R,hR.trans (e.append_right R)⟩
theorem Sub.mem {M':List Zf} (h:Sub M' M) {F:Zf} {w:World} (m:Mem w (M.flatten++F) H):Mem w (M'.flatten++F) H:=by
  obtain ⟨R,hR⟩:=h
  refine Mem.sub (R:=R) m ((hR.append_right F).trans ?_)
  rw [append_assoc,append_assoc]
  exact List.perm_append_comm.append_left _
theorem ZF {code:Code} {M':List Zf} (h:Sub M' M) (k:J c H code ρ M' Q):J c H code ρ M Q:=fun F rs w m=>k F rs w (h.mem m)
theorem ZB {l:List Oper} {M':List Zf} (h:Sub M' M) (k:JL c H ops l ρ M' Q):JL c H ops l ρ M Q:=fun F rs w m=>k F rs w (h.mem m)
def BW (fn:Func) (c:Cx) (H:Heap) (post:Value→List Zf→Prop):Y2:=fun ρ M=>∃ v M',Ret fn c H ρ M v∧Sub M' M∧post v M'
def plain (o:Obj):Bool:=match o with | .cells ..=>false | _=>true
theorem Wh {P:Program} {w:World} {r:Nat} {o:Obj} (ho:plain o=true) (h:w.heap[r]?=some o):(getObj r).run P w=.ok o w:=by
  cases o <;> first | (cases ho;done) | simp [getObj,Sem.run,h]
theorem Vd {P:Program} {w:World} {r:Nat} {o o':Obj} (ho:plain o=true) (h:w.heap[r]?=some o):(setObj r o').run P w=.ok () {w with heap:=w.heap.setIfInBounds r o'}:=by
  cases o <;> first | (cases ho;done) | simp [setObj,Sem.run,h]
theorem Gk {P:Program} {r:Nat} {w:World} {L:Zf} {H:Heap} (m:Mem w ((r,.deferred (some []))::L) H):∃ w',(Instr.takeDeferred r).run P w=.ok [] w'∧Mem w' L H:=by
  have hb:=m.own r _ (mem_cons.2 (.inl rfl))
  have hlt:r<w.heap.size:=(Array.getElem?_eq_some_iff.1 hb).1
  refine ⟨{w with heap:=w.heap.setIfInBounds r (.deferred none)},?_,?_⟩
  · simp only [Instr.takeDeferred,Sem.run_bind,Wh rfl hb,Result.andThen_ok,Vd rfl hb,Sem.run_pure]
  · refine Mem.sub (R:=[(r,Obj.deferred none)]) (Mem.set m (w':={w with heap:=w.heap.setIfInBounds r (.deferred none)}) (o':=.deferred none) (by simp [hlt]) (fun k hk=>?_)) ?_
    · simp [Ne.symm hk]
    · exact perm_append_comm (l₁:=[(r,Obj.deferred none)])
theorem Nn {P:Program} {fn:Func} {tmps:Array Value} {R:Ending→World→Prop} {F:Fence} {n:Nat} (L:Zf) (H:Heap) (hR:∀ w,Mem w L H→∃ v,(results fn tmps).run P w=.ok v w∧R (.returned v) w):
    ∀ rs w,Mem w (dfb rs++L) H→LeavesInM F n P fn tmps R (XW rs) .returning w:=by
  intro rs
  induction rs with
  | nil=>intro w m;exact hR w m
  | cons r rs ih=>
    intro w m
    obtain ⟨w',h1,h2⟩:=Gk (P:=P) (L:=dfb rs++L) m
    exact ⟨by simp,.inl ⟨r,w',rfl,h1,ih w' h2⟩⟩
theorem Zl {P:Program} {f:FuncId} {fn:Func} {code:Code} {args:List Value} {M:List Zf} {post:Value→List Zf→Prop} (hf:P.funcs[f]?=some fn) (hb:fn.body=some code)
    (hn:Nat.ble args.length fn.ntmps=true) (h:J ⟨P,none,fn.ntmps⟩ H code (ini args) M ⟨BW fn ⟨P,none,fn.ntmps⟩ H post,BW fn ⟨P,none,fn.ntmps⟩ H post,[]⟩):
    CT P f ⟨args⟩ M H post:=fun F w m=>by
  refine callsIn_of_wp_marks hf hb trivial ?_
  rw [BO args fn.ntmps (Nat.le_of_ble_eq_true hn)]
  refine wpIn_mono (h F [] w m) ?_
  rintro e a w' ⟨rs,ρ',M',ha,hm,hq⟩
  have key:BW fn ⟨P,none,fn.ntmps⟩ H post ρ' M'→LeavesInM Fence.wide 0 P fn (act fn.ntmps (XW rs) ρ').tmps (fun e w'=>∃ v M',e=.returned v∧Mem w' (M'.flatten++F) H∧post v M') (XW rs) .returning w':=by
    rintro ⟨v,M'',hr,hs,hp⟩
    refine Nn (M'.flatten++F) H (fun w'' hm''=>⟨v,hr F w'' hm'',v,M'',rfl,hs.mem hm'',hp⟩) rs w' (hm.perm ?_)
    rw [← append_assoc,← append_assoc]
    exact List.perm_append_comm.append_right F
  cases e with
  | normal=>subst ha;exact key hq
  | ret=>subst ha;exact key hq
  | exit i=>obtain ⟨X,hX,_⟩:=hq;cases hX
  | goto l=>exact hq.elim
  | panic ch=>exact hq.elim
  | outgrown=>exact hq.elim
theorem TP {P:Program} {e:Operand→Value} {d:Option Nat} {ot:TypeId} {pos:String} {af:Array Edge} {g:Option (Nat×Bool)} {x:Operand} {as:List Operand} {ats:Array TypeId} {f:FuncId} {fv vs cv:List Value}
    (hx:e x=.func (.func f) ⟨fv⟩ ⟨cv⟩) (ha:as.map e=vs) (hc:∀ args w,(callFunc f args).run P w=.ok (.enter f args) w):
    ∀ w,(execOp e ⟨d,.call {callee:=.value x,args:=as.toArray,argTypes:=ats},ot,pos,af,g⟩).run P w=.ok (.enter f ⟨fv++vs++cv⟩) w:=fun w=>by
  subst ha
  simp [execOp,resolve,hx,Deferred.ofValue,invoke,hc]
theorem Ih {d:Option Nat} {ot:TypeId} {pos:String} {af:Array Edge} {g:Option (Nat×Bool)} {x:Operand} {as:List Operand} {ats:Array TypeId} {f:FuncId} {fv vs cv:List Value} {post:Value→List Zf→Prop}
    (hg:wnt ops c.n ρ ⟨d,.call {callee:=.value x,args:=as.toArray,argTypes:=ats},ot,pos,af,g⟩=true)
    (hcall:∀ args w,(callFunc f args).run c.P w=.ok (.enter f args) w)
    (hx:ev c.n ρ x=.func (.func f) ⟨fv⟩ ⟨cv⟩)
    (hc:(∀ (i:Nat) k,M[i]?=some k→Has k (hu M.flatten H))→CT c.P f ⟨fv++vs++cv⟩ [] (hu M.flatten H) post)
    (ha:as.map (ev c.n ρ)=vs)
    (h:∀ v N,post v N→JL c H ops rest (Xj ρ d v) (N++M) Q):
    JL c H ops (⟨d,.call {callee:=.value x,args:=as.toArray,argTypes:=ats},ot,pos,af,g⟩::rest) ρ M Q:=
  PP (M₁:=[]) (M₂:=M) hg (TP hx ha hcall) (List.Perm.refl _) hc h
theorem Zs {d:Option Nat} {ot:TypeId} {pos:String} {af:Array Edge} {g:Option (Nat×Bool)} {x:Operand} {as:List Operand} {ats:Array TypeId} {f:FuncId} {fv vs cv:List Value} {post:Value→List Zf→Prop}
    (i:Nat) {k:Zf} (hg:wnt ops c.n ρ ⟨d,.call {callee:=.value x,args:=as.toArray,argTypes:=ats},ot,pos,af,g⟩=true)
    (hcall:∀ args w,(callFunc f args).run c.P w=.ok (.enter f args) w)
    (hx:ev c.n ρ x=.func (.func f) ⟨fv⟩ ⟨cv⟩) (hi:M[i]?=some k)
    (hc:(∀ (j:Nat) k,(M.eraseIdx i)[j]?=some k→Has k (hu (M.eraseIdx i).flatten H))→CT c.P f ⟨fv++vs++cv⟩ [k] (hu (M.eraseIdx i).flatten H) post)
    (ha:as.map (ev c.n ρ)=vs)
    (h:∀ v N,post v N→JL c H ops rest (Xj ρ d v) (N++M.eraseIdx i) Q):
    JL c H ops (⟨d,.call {callee:=.value x,args:=as.toArray,argTypes:=ats},ot,pos,af,g⟩::rest) ρ M Q:=
  PP (M₁:=[k]) (M₂:=M.eraseIdx i) hg (TP hx ha hcall) (by simpa using Yt hi) hc h
end
abbrev nS:Value:=.slice none 0 0
abbrev pp (b o:Nat):Value:=.pointer (some ⟨b,o,none⟩)
abbrev iv (n:Int):Value:=.int .i64 n
abbrev BX (b:Nat) (l:List Value) (T:TypeId):Zf:=[(b,.cells ⟨l⟩ T (0,0))]
theorem Sub.s3 {a b c:Zf} {R M:List Zf} (h:Sub ((a++(b++c))::R) M):Sub (a::b::c::R) M:=h.flat (by simp)
section
variable {c:Cx} {H:Heap} {ops:Array Oper} {rest:List Oper} {ρ:Nat→Value} {M:List Zf} {Q:Post}
theorem JLq {o:Oper} (v:Value) (hp:Pu c.P (ev c.n ρ) o v) (h:JL c H ops rest (Xj ρ o.dst v) M Q) (hg:wnt ops c.n ρ o=true:=by exact rfl):JL c H ops (o::rest) ρ M Q:=To hg hp h
theorem JLm {d:Option Nat} {x:Operand} {ot:TypeId} {pos:String} {af:Array Edge} {g:Option (Nat×Bool)} (v:Value) (h:JL c H ops rest (Xj ρ d v) M Q) (hx:ev c.n ρ x=v:=by exact rfl) (hg:wnt ops c.n ρ ⟨d,.move x,ot,pos,af,g⟩=true:=by exact rfl):JL c H ops (⟨d,.move x,ot,pos,af,g⟩::rest) ρ M Q:=To hg (Pu.move hx) h
theorem JLa {d:Option Nat} {x:Operand} {ot:TypeId} {pos:String} {af:Array Edge} {g:Option (Nat×Bool)} (v:Value) (h:JL c H ops rest (Xj ρ d v) M Q) (hx:ev c.n ρ x=v:=by exact rfl) (hg:wnt ops c.n ρ ⟨d,.assign x,ot,pos,af,g⟩=true:=by exact rfl):JL c H ops (⟨d,.assign x,ot,pos,af,g⟩::rest) ρ M Q:=To hg (Pu.assign hx) h
theorem JLr {o:Oper} (h:Runs c H o ρ M fun v M'=>JL c H ops rest (Xj ρ o.dst v) M' Q) (hg:wnt ops c.n ρ o=true:=by exact rfl):JL c H ops (o::rest) ρ M Q:=NX hg h
end
def Un (dd:List Nat) (ρ ρ':Nat→Value):Prop:=∀ i,dd.any (Nat.beq i)=false→ρ' i=ρ i
theorem Un.refl {dd:List Nat} {ρ:Nat→Value}:Un dd ρ ρ:=fun _ _=>rfl
theorem Un.u {dd:List Nat} {ρ ρ':Nat→Value} {d:Nat} {v:Value} (h:Un dd ρ ρ') (hd:dd.any (Nat.beq d)=true):Un dd ρ (upd ρ' d v):=fun i hi=>by
  rw [Us _ _ (fun e=>by rw [e,hd] at hi;cases hi)]
  exact h i hi
def hold:List (Nat×Value)→(Nat→Value)→Prop
  | [],_=>True
  | (d,x)::es,ρ=>ρ d=x∧hold es ρ
def DF:List (Nat×Value)→(Nat→Value)→(Nat→Value)
  | [],ρ=>ρ
  | (d,x)::es,ρ=>upd (DF es ρ) d x
def Zaf (dd:List Nat) (f ρ:Nat→Value):Nat→Value:=fun i=>cond (dd.any (Nat.beq i)) (f i) (ρ i)
theorem Il {es:List (Nat×Value)} {ρ':Nat→Value} (h:hold es ρ'):DF es ρ'=ρ':=by
  induction es with
  | nil=>rfl
  | cons e es ih=>
    obtain ⟨d,x⟩:=e
    funext i
    show upd (DF es ρ') d x i=ρ' i
    rw [ih h.2]
    by_cases e:i=d
    · subst e;rw [Ur];exact h.1.symm
    · exact Us _ _ e
theorem CJ {dd:List Nat} {ρ ρ':Nat→Value} (h:Un dd ρ ρ'):Zaf dd ρ' ρ=ρ':=by
  funext i
  unfold Zaf
  cases e:dd.any (Nat.beq i) with
  | true=>rfl
  | false=>exact (h i e).symm
section
variable {c:Cx} {H:Heap} {ops:Array Oper} {ρ:Nat→Value} {M:List Zf} {Q:Post}
theorem W8 {Q1 Q2:Exit→Act→World→Prop} (h':∀ e a w,Q1 e a w→Q2 e a w):∀ {l:List Oper} {a:Act} {w:World},wlo c ops Q1 l a w→wlo c ops Q2 l a w
  | [],_,_,h=>h' _ _ _ h
  | o :: l,a,w,h=>by
    unfold wlo at h ⊢
    split at h
    · rename_i hw
      rw [if_pos hw]
      refine ⟨h.1,?_⟩
      have h2:=h.2
      revert h2
      generalize (o.semAt (Fw c.r).round a.eval).run c.P w=res
      intro h2
      cases res with
      | ok x w'=>
        cases x with
        | value v=>exact W8 h' h2
        | skip=>exact W8 h' h2
        | defer d=>exact W8 h' h2
        | enter f args=>
          refine ⟨h2.1,h2.2.mono fun e w'' hq=>?_⟩
          cases e with
          | returned v=>exact W8 h' hq
          | panicked ch=>exact h' _ _ _ hq
          | outgrown=>obtain ⟨a',w3,hq⟩:=hq;exact ⟨a',w3,h' _ _ _ hq⟩
        | row r args=>exact ⟨h2.1,h2.2.mono fun v w'' hq=>W8 h' hq⟩
        | round lp f tmps as body=>
          refine ⟨h2.1,h2.2.mono fun e w'' hq=>?_⟩
          cases e with
          | returned v=>exact W8 h' hq
          | panicked ch=>exact h' _ _ _ hq
          | outgrown=>obtain ⟨a',w3,hq⟩:=hq;exact ⟨a',w3,h' _ _ _ hq⟩
        | _=>exact h2
      | halt x w'=>
        cases x with
        | panic v=>exact h' _ _ _ h2
        | _=>exact h2
    · rename_i hw
      rw [if_neg hw]
      exact W8 h' h
theorem HU {F:Zf} {K:Y2} {R:Exit→Act→Prop} {l1 l2:List Oper} {Q2:Exit→Act→World→Prop} (hfin:∀ a w,(X9 c H F ⟨K,fun _ _=>False,[]⟩ .normal a w∧R .normal a)→wlo c ops Q2 l2 a w):∀ {a:Act} {w:World},wlo c ops (fun e a w=>X9 c H F ⟨K,fun _ _=>False,[]⟩ e a w∧R e a) l1 a w→wlo c ops Q2 (l1++l2) a w:=by
  induction l1 with
  | nil=>exact fun h=>hfin _ _ h
  | cons o l1 ih=>
    intro a w h
    rw [cons_append]
    unfold wlo at h ⊢
    split at h
    · rename_i hw
      rw [if_pos hw]
      refine ⟨h.1,?_⟩
      have h2:=h.2
      revert h2
      generalize (o.semAt (Fw c.r).round a.eval).run c.P w=res
      intro h2
      cases res with
      | ok x w'=>
        cases x with
        | value v=>exact ih h2
        | skip=>exact ih h2
        | defer d=>exact ih h2
        | enter f args=>
          refine ⟨h2.1,h2.2.mono fun e w'' hq=>?_⟩
          cases e with
          | returned v=>exact ih hq
          | panicked ch=>obtain ⟨⟨_,_,_,_,_,hx⟩,_⟩:=hq;exact hx.elim
          | outgrown=>obtain ⟨_,_,⟨_,_,_,_,_,hx⟩,_⟩:=hq;exact hx.elim
        | row r args=>exact ⟨h2.1,h2.2.mono fun v w'' hq=>ih hq⟩
        | round lp f tmps as body=>
          refine ⟨h2.1,h2.2.mono fun e w'' hq=>?_⟩
          cases e with
          | returned v=>exact ih hq
          | panicked ch=>obtain ⟨⟨_,_,_,_,_,hx⟩,_⟩:=hq;exact hx.elim
          | outgrown=>obtain ⟨_,_,⟨_,_,_,_,_,hx⟩,_⟩:=hq;exact hx.elim
        | _=>exact h2.elim
      | halt x w'=>
        cases x with
        | panic v=>obtain ⟨⟨_,_,_,_,_,hx⟩,_⟩:=h2;exact hx.elim
        | _=>exact h2
    · rename_i hw
      rw [if_neg hw]
      exact ih h
def AgA (dd:List Nat) (a a':Act):Prop:=∀ i,dd.any (Nat.beq i)=false→a'.tmps[i]?=a.tmps[i]?
theorem AgA.put {dd:List Nat} {a:Act} {d:Option Nat} {v:Value} (hd:∀ x,d=some x→dd.any (Nat.beq x)=true):AgA dd a (a.put d v):=fun i hi=>by
  cases d with
  | none=>rfl
  | some x=>
    have hne:x≠i:=fun e=>by rw [← e,hd x rfl] at hi;cases hi
    simp only [Act.put]
    rw [Array.getElem?_setIfInBounds_ne hne]
theorem AgA.trans {dd:List Nat} {a a' a'':Act} (h:AgA dd a a') (k:AgA dd a' a''):AgA dd a a'':=fun i hi=>(k i hi).trans (h i hi)
theorem HV {F:Zf} {K:Y2} {dd:List Nat}:∀ {l:List Oper} {a:Act} {w:World},l.all (fun o=>match o.dst with | some d=>dd.any (Nat.beq d) | none=>true)=true→wlo c ops (X9 c H F ⟨K,fun _ _=>False,[]⟩) l a w→
    wlo c ops (fun e a' w'=>X9 c H F ⟨K,fun _ _=>False,[]⟩ e a' w'∧(e=.normal→AgA dd a a')) l a w
  | [],a,w,_,h=>⟨h,fun _ _ _=>rfl⟩
  | o :: l,a,w,hd,h=>by
    rw [List.all_cons,Bool.and_eq_true] at hd
    obtain ⟨hd1,hd2⟩:=hd
    have hput:∀ (a':Act) (v:Value),a'.tmps=a.tmps→AgA dd a (a'.put o.dst v):=fun a' v e i hi=>by
      have:=AgA.put (dd:=dd) (a:=a') (d:=o.dst) (v:=v) (fun x hx=>by rw [hx] at hd1;exact hd1) i hi
      rw [this,e]
    have next:∀ {a':Act} {w':World},AgA dd a a'→wlo c ops (X9 c H F ⟨K,fun _ _=>False,[]⟩) l a' w'→wlo c ops (fun e a' w'=>X9 c H F ⟨K,fun _ _=>False,[]⟩ e a' w'∧(e=.normal→AgA dd a a')) l a' w':=fun {a'} {w'} hag h'=>by
      have h2:=HV (dd:=dd) hd2 h'
      exact W8 (fun e a'' w'' hq=>⟨hq.1,fun he=>hag.trans (hq.2 he)⟩) h2
    unfold wlo at h ⊢
    split at h
    · rename_i hw
      rw [if_pos hw]
      refine ⟨h.1,?_⟩
      have h2:=h.2
      revert h2
      generalize (o.semAt (Fw c.r).round a.eval).run c.P w=res
      intro h2
      cases res with
      | ok x w'=>
        cases x with
        | value v=>exact next (hput a v rfl) h2
        | skip=>exact next (hput a undef rfl) h2
        | defer d=>exact next (hput _ undef rfl) h2
        | enter f args=>
          refine ⟨h2.1,h2.2.mono fun e w'' hq=>?_⟩
          cases e with
          | returned v=>exact next (hput a v rfl) hq
          | panicked ch=>obtain ⟨_,_,_,_,_,hx⟩:=hq;exact hx.elim
          | outgrown=>obtain ⟨_,_,_,_,_,_,_,hx⟩:=hq;exact hx.elim
        | row r args=>exact ⟨h2.1,h2.2.mono fun v w'' hq=>next (hput a v rfl) hq⟩
        | round lp f tmps as body=>
          refine ⟨h2.1,h2.2.mono fun e w'' hq=>?_⟩
          cases e with
          | returned v=>exact next (hput a v rfl) hq
          | panicked ch=>obtain ⟨_,_,_,_,_,hx⟩:=hq;exact hx.elim
          | outgrown=>obtain ⟨_,_,_,_,_,_,_,hx⟩:=hq;exact hx.elim
        | _=>exact h2.elim
      | halt x w'=>
        cases x with
        | panic v=>obtain ⟨_,_,_,_,_,hx⟩:=h2;exact hx.elim
        | _=>exact h2
    · rename_i hw
      rw [if_neg hw]
      exact next (hput a undef rfl) h
theorem Kg {es:List (Nat×Value)} {ρ ρ':Nat→Value} (h:∀ e∈es,ρ e.1=ρ' e.1) (hh:hold es ρ):hold es ρ':=by
  induction es with
  | nil=>trivial
  | cons e es ih=>exact ⟨(h e mem_cons_self).symm.trans hh.1,ih (fun x hx=>h x (mem_cons_of_mem _ hx)) hh.2⟩
theorem ZK {l:List Oper} (n:Nat) (dd:List Nat) (es:List (Nat×Value)) (h1:JL c H ops (l.take n) ρ M ⟨fun ρ' M'=>hold es ρ'∧M'=M,fun _ _=>False,[]⟩)
    (h2:∀ f,JL c H ops (l.drop n) (DF es (Zaf dd f ρ)) M Q) (hd:((l.take n).all (fun o=>match o.dst with | some d=>dd.any (Nat.beq d) | none=>true)&&es.all (fun e=>Nat.blt e.1 c.n))=true:=by kernel_rfl):JL c H ops l ρ M Q:=fun F rs w m=>by
  rw [Bool.and_eq_true] at hd
  have :=HU (K:=fun ρ' M'=>hold es ρ'∧M'=M) (R:=fun e a'=>e=.normal→AgA dd (act c.n (XW rs) ρ) a') (l2:=l.drop n) (Q2:=X9 c H F Q) (fun a w ⟨⟨rs',ρ',M',ha,hm,hh,hM⟩,hag⟩=>by
    have hag:=hag rfl
    subst hM
    let ρ2:Nat→Value:=fun i=>if i<c.n then ρ' i else ρ i
    have hact:a=act c.n (XW rs') ρ2:=by
      rw [ha]
      simp only [act,Act.mk.injEq,and_true]
      congr 1
      funext i
      simp only [ρ2,i.2,if_true]
    have hu:Un dd ρ ρ2:=fun i hi=>by
      by_cases hn:i<c.n
      · have:=hag i hi
        rw [hact,Qq,Qq,if_pos hn,if_pos hn] at this
        exact Option.some.inj this
      · simp only [ρ2,if_neg hn]
    have hh2:hold es ρ2:=Kg (fun e he=>by
      have:=all_eq_true.1 hd.2 e he
      rw [Nat.blt_eq] at this
      simp only [ρ2,if_pos this]) hh
    have:=h2 ρ2 F rs' w hm
    rw [CJ hu,Il hh2] at this
    rw [hact]
    exact this) (HV (dd:=dd) hd.1 (h1 F rs w m))
  rwa [take_append_drop] at this
def GB (ops:Array Oper) (n:Nat):List Oper→(Nat→Value)→Bool
  | [],_=>true
  | o::l,ρ=> !(wnt ops n ρ o)&&GB ops n l (Xj ρ o.dst undef)
def B5:List Oper→(Nat→Value)→(Nat→Value)
  | [],ρ=>ρ
  | o::l,ρ=>B5 l (Xj ρ o.dst undef)
theorem Z1 {l:List Oper} {es:List (Nat×Value)} (h:GB ops c.n l ρ=true) (hh:hold es (B5 l ρ)):JL c H ops l ρ M ⟨fun ρ' M'=>hold es ρ'∧M'=M,fun _ _=>False,[]⟩:=by
  induction l generalizing ρ with
  | nil=>exact Za ⟨hh,rfl⟩
  | cons o l ih=>
    unfold GB at h
    rw [Bool.and_eq_true,Bool.not_eq_true'] at h
    exact WG h.1 (ih h.2 hh)
end
section
variable {P:Program} {e:Operand→Value} {d:Option Nat} {ot:TypeId} {pos:String} {af:Array Edge} {g:Option (Nat×Bool)} {x y z:Operand}
theorem ZcR {a b:Bool} (hz:e z=.bool a) (hx:e x=cond a (.bool b) undef) (hy:e y=.bool false):Pu P e ⟨d,.pick z x y,ot,pos,af,g⟩ (.bool (a&&b)):=by
  have:=Pu.pick (P:=P) (d:=d) (ot:=ot) (pos:=pos) (af:=af) (g:=g) hz hx hy
  cases a <;> exact this
theorem ZcT {a b:Bool} (hz:e z=.bool a) (hx:e x=.bool true) (hy:e y=cond a undef (.bool b)):Pu P e ⟨d,.pick z x y,ot,pos,af,g⟩ (.bool (a||b)):=by
  have:=Pu.pick (P:=P) (d:=d) (ot:=ot) (pos:=pos) (af:=af) (g:=g) hz hx hy
  cases a <;> exact this
end
def vf:Value→Option Value
  | .int k n=>some (.int k n)
  | .bool b=>some (.bool b)
  | .string s=>some (.string s)
  | .pointer p=>some (.pointer p)
  | .slice a n c=>some (.slice a n c)
  | .map m=>some (.map m)
  | .func f a b=>some (.func f a b)
  | .nilFunc=>some .nilFunc
  | .agg c=>some (.agg c)
  | .tuple c=>some (.tuple c)
  | _=>none
theorem H5 {x v:Value} (h:vf x=some v):x=v:=by
  unfold vf at h
  split at h <;> first | exact Option.some.inj h | cases h
section
variable {c:Cx} {H:Heap} {ops:Array Oper} {rest:List Oper} {ρ:Nat→Value} {M:List Zf} {Q:Post} {d:Option Nat} {x:Operand} {ot:TypeId} {pos:String} {af:Array Edge} {g:Option (Nat×Bool)}
theorem JLn {o:Oper} {v:Value} (hp:Pu c.P (ev c.n ρ) o v) (h:JL c H ops rest (Xj ρ o.dst v) M Q) (hg:wnt ops c.n ρ o=true:=by exact rfl):JL c H ops (o::rest) ρ M Q:=To hg hp h
theorem JLM {v:Value} (hx:vf (ev c.n ρ x)=some v) (h:JL c H ops rest (Xj ρ d v) M Q) (hg:wnt ops c.n ρ ⟨d,.move x,ot,pos,af,g⟩=true:=by exact rfl):JL c H ops (⟨d,.move x,ot,pos,af,g⟩::rest) ρ M Q:=To hg (Pu.move (H5 hx)) h
theorem JLA {v:Value} (hx:vf (ev c.n ρ x)=some v) (h:JL c H ops rest (Xj ρ d v) M Q) (hg:wnt ops c.n ρ ⟨d,.assign x,ot,pos,af,g⟩=true:=by exact rfl):JL c H ops (⟨d,.assign x,ot,pos,af,g⟩::rest) ρ M Q:=To hg (Pu.assign (H5 hx)) h
theorem Jc {as:List Operand} {ats:Array TypeId} {f:FuncId} {fv vs cv:List Value} {post:Value→List Zf→Prop} (hcall:∀ args w,(callFunc f args).run c.P w=.ok (.enter f args) w)
    (hx:ev c.n ρ x=.func (.func f) ⟨fv⟩ ⟨cv⟩) (hc:(∀ (i:Nat) k,M[i]?=some k→Has k (hu M.flatten H))→CT c.P f ⟨fv++vs++cv⟩ [] (hu M.flatten H) post) (ha:as.map (ev c.n ρ)=vs) (h:∀ v N,post v N→JL c H ops rest (Xj ρ d v) (N++M) Q)
    (hg:wnt ops c.n ρ ⟨d,.call {callee:=.value x,args:=as.toArray,argTypes:=ats},ot,pos,af,g⟩=true:=by exact rfl):
    JL c H ops (⟨d,.call {callee:=.value x,args:=as.toArray,argTypes:=ats},ot,pos,af,g⟩::rest) ρ M Q:=Ih hg hcall hx hc ha h
end
section
variable {P:Program} {e:Operand→Value} {d:Option Nat} {T:TypeId} {T':TypeId} {ot:TypeId} {pos:String} {af:Array Edge} {g:Option (Nat×Bool)} {x y:Operand}
theorem Pu.bits {k:IntKind} {a b v:Int} (hx:e x=.int k a) (hy:e y=.int k b) (hv:k.wrap ((BitVec.ofInt k.bits a &&& BitVec.ofInt k.bits b).toNat:Int)=v):Pu P e ⟨d,.binOp .and T x y T',ot,pos,af,g⟩ (.int k v):=fun w=>by
  subst hv;simp only [execOp,hx,hy,eqGuard,binOp,Op.intBits];simp
theorem Zdv {k:IntKind} {a b v:Int} (hx:e x=.int k a) (hy:e y=.int k b) (hv:k.wrap ((BitVec.ofInt k.bits a ||| BitVec.ofInt k.bits b).toNat:Int)=v):Pu P e ⟨d,.binOp .or T x y T',ot,pos,af,g⟩ (.int k v):=fun w=>by
  subst hv;simp only [execOp,hx,hy,eqGuard,binOp,Op.intBits];simp
theorem ZdE {k k':IntKind} {a b v:Int} (hx:e x=.int k a) (hy:e y=.int k' b) (h0:0≤b) (hv:k.wrap (a*2 ^ (min b.toNat k.bits))=v):Pu P e ⟨d,.binOp .shl T x y T',ot,pos,af,g⟩ (.int k v):=fun w=>by
  simp only [execOp,hx,hy,eqGuard,binOp,Op.shift];simp [hv,show ¬ b<0 from by omega]
end
theorem A0 {n x:Int} {i:Nat} (hn:0≤n) (hx:0≤x) (hu:n<2 ^ i) (hm:n+x*2 ^ i≤4611686018427387904):IntKind.i64.wrap ((BitVec.ofInt IntKind.i64.bits n ||| BitVec.ofInt IntKind.i64.bits (x*2 ^ i)).toNat:Int)=n+x*2 ^ i:=by
  obtain ⟨n,rfl⟩:=Int.eq_ofNat_of_zero_le hn
  obtain ⟨x,rfl⟩:=Int.eq_ofNat_of_zero_le hx
  have e2:((x:Int)*2 ^ i)=((x*2 ^ i:Nat):Int):=by simp
  have h1:n<2 ^ i:=by
    have:((n:Nat):Int)<((2 ^ i:Nat):Int):=by simpa using hu
    omega
  rw [e2] at hm ⊢
  have h3:n+x*2 ^ i≤4611686018427387904:=by omega
  have h4:=Nat.shiftLeft_add_eq_or_of_lt h1 x
  rw [Nat.shiftLeft_eq] at h4
  rw [show IntKind.i64.bits=64 from rfl,BitVec.ofInt_natCast,BitVec.ofInt_natCast,BitVec.toNat_or,BitVec.toNat_ofNat,BitVec.toNat_ofNat,Nat.mod_eq_of_lt (by omega),Nat.mod_eq_of_lt (by omega),Nat.or_comm,← h4]
  rw [IntWalk.i64_in _ (by omega)]
  omega
def sB (s:ByteArray):List Int:=s.data.toList.map (fun b=>(b.toNat:Int))
theorem UA (s:ByteArray):(sB s).length=s.size:=by unfold sB;rw [length_map];rfl
section
variable {P:Program} {e:Operand→Value} {d:Option Nat} {T:TypeId} {T':TypeId} {ot:TypeId} {pos:String} {af:Array Edge} {g:Option (Nat×Bool)} {x y:Operand}
end
def rdSl (h:Heap) (n:Nat) (v:Value) (R:List Value→Nat→Prop):Prop:=
  ∃ a cap,v=.slice a n cap∧n≤9223372036854775807∧(n=0∨∃ b o row T fr,a=some ⟨b,o,none⟩∧h b=some (.cells ⟨row⟩ T fr)∧R row o)
def rows {α:Type} (E:List Value→α→Prop) (sz:Nat) (row:List Value) (o:Nat):List α→Prop
  | []=>True
  | x::l=>(∃ cs,sub row o sz=some cs∧E cs x)∧rows E sz row (o+sz) l
def rdS {α:Type} (E:Heap→List Value→α→Prop) (sz:Nat) (h:Heap) (v:Value) (l:List α):Prop:=rdSl h l.length v fun row o=>rows (E h) sz row o l
theorem rows.get {α:Type} {E:List Value→α→Prop} {sz:Nat} {row:List Value} {l:List α}:∀ {o:Nat},rows E sz row o l→∀ i (hi:i<l.length),∃ cs,sub row (o+i*sz) sz=some cs∧E cs l[i]:=by
  induction l with
  | nil=>intro o _ i hi;exact absurd hi (by simp)
  | cons x l ih=>
    intro o h i hi
    cases i with
    | zero=>simpa using h.1
    | succ i=>
      obtain ⟨cs,h1,h2⟩:=ih h.2 i (by simpa using hi)
      refine ⟨cs,?_,by simpa using h2⟩
      rw [show o+(i+1)*sz=o+sz+i*sz from by rw [Nat.succ_mul];omega];exact h1
theorem rows.mk {α:Type} {E:List Value→α→Prop} {sz:Nat} {row:List Value} {l:List α}:∀ {o:Nat},(∀ i (hi:i<l.length),∃ cs,sub row (o+i*sz) sz=some cs∧E cs l[i])→rows E sz row o l:=by
  induction l with
  | nil=>intro o _;exact trivial
  | cons x l ih=>
    intro o h
    refine ⟨by have:=h 0 (by simp);rwa [Nat.zero_mul,Nat.add_zero] at this,ih fun i hi=>?_⟩
    obtain ⟨cs,h1,h2⟩:=h (i+1) (by simpa using hi)
    refine ⟨cs,?_,by simpa using h2⟩
    rw [show o+sz+i*sz=o+(i+1)*sz from by rw [Nat.succ_mul];omega];exact h1
theorem rows.imp {α β:Type} {E:List Value→α→Prop} {E':List Value→β→Prop} {f:α→β} {sz:Nat} {row:List Value} {l:List α}:∀ {o:Nat},(∀ x∈l,∀ cs,E cs x→E' cs (f x))→rows E sz row o l→rows E' sz row o (l.map f):=by
  induction l with
  | nil=>intro o _ _;exact trivial
  | cons x l ih=>
    intro o h ⟨⟨cs,h1,h2⟩,h3⟩
    exact ⟨⟨cs,h1,h x (by simp) cs h2⟩,ih (fun y hy=>h y (by simp [hy])) h3⟩
theorem rows.mono {α:Type} {E E':List Value→α→Prop} {sz:Nat} {row:List Value} {l:List α} {o:Nat} (h:∀ x∈l,∀ cs,E cs x→E' cs x) (r:rows E sz row o l):rows E' sz row o l:=by
  have:=rows.imp (f:=id) h r
  rwa [List.map_id] at this
theorem rdSl.mono {h h':Heap} {n:Nat} {v:Value} {R R':List Value→Nat→Prop} (r:rdSl h n v R) (hh:Hle h h') (hR:∀ row o,R row o→R' row o):rdSl h' n v R':=by
  obtain ⟨a,cap,e,hn,x⟩:=r
  refine ⟨a,cap,e,hn,x.imp id ?_⟩
  rintro ⟨b,o,row,T,fr,e1,e2,e3⟩
  exact ⟨b,o,row,T,fr,e1,hh _ _ e2,hR _ _ e3⟩
theorem rdSl.sl {h:Heap} {n:Nat} {v:Value} {R:List Value→Nat→Prop} (r:rdSl h n v R):∃ a cap,v=.slice a n cap:=by obtain ⟨a,cap,e,_⟩:=r;exact ⟨a,cap,e⟩
theorem rdSl.le {h:Heap} {n:Nat} {v:Value} {R:List Value→Nat→Prop} (r:rdSl h n v R):n≤9223372036854775807:=by obtain ⟨a,cap,_,e,_⟩:=r;exact e
theorem rdSl.one {h:Heap} {n:Nat} {v:Value} {R:List Value→Nat→Prop} (r:rdSl h n v R):v.oneCell'=true:=by obtain ⟨a,cap,e,_⟩:=r;subst e;rfl
theorem rdSl.nil (h:Heap) {R:List Value→Nat→Prop}:rdSl h 0 (.slice none 0 0) R:=⟨none,0,rfl,by decide,.inl rfl⟩
section
variable {α:Type} {E:Heap→List Value→α→Prop} {sz:Nat} {h:Heap} {v:Value} {l:List α}
theorem rdS.nil:rdS E sz h (.slice none 0 0) []:=rdSl.nil h
theorem rdS.le (r:rdS E sz h v l):l.length≤9223372036854775807:=rdSl.le r
theorem rdS.one (r:rdS E sz h v l):v.oneCell'=true:=rdSl.one r
theorem rdS.get (r:rdS E sz h v l) (i:Nat) (hi:i<l.length):∃ b o cap row T fr cs,v=.slice (some ⟨b,o,none⟩) l.length cap∧h b=some (.cells ⟨row⟩ T fr)∧sub row (o+i*sz) sz=some cs∧E h cs l[i]:=by
  obtain ⟨a,cap,e,hn,x⟩:=r
  rcases x with x | ⟨b,o,row,T,fr,e1,e2,e3⟩
  · omega
  · obtain ⟨cs,h1,h2⟩:=e3.get i hi
    exact ⟨b,o,cap,row,T,fr,cs,by rw [e,e1],e2,h1,h2⟩
theorem rdS.sl (r:rdS E sz h v l):∃ a cap,v=.slice a l.length cap:=rdSl.sl r
theorem rdS.mono {h':Heap} (r:rdS E sz h v l) (hh:Hle h h') (hE:∀ x∈l,∀ cs,E h cs x→E h' cs x):rdS E sz h' v l:=rdSl.mono r hh fun _ _ q=>q.mono hE
theorem rdS.mk' {b o cap:Nat} {row:List Value} {T:TypeId} {fr:Nat×Nat} (hn:l.length≤9223372036854775807) (hb:h b=some (.cells ⟨row⟩ T fr)) (hr:rows (E h) sz row o l):rdS E sz h (.slice (some ⟨b,o,none⟩) l.length cap) l:=
  ⟨_,cap,rfl,hn,.inr ⟨b,o,row,T,fr,rfl,hb,hr⟩⟩
theorem rdS.imp {β:Type} {E':Heap→List Value→β→Prop} {f:α→β} (r:rdS E sz h v l) (hE:∀ x∈l,∀ cs,E h cs x→E' h cs (f x)):rdS E' sz h v (l.map f):=by
  unfold rdS;rw [length_map]
  exact rdSl.mono r (Hle.refl h) fun _ _ q=>q.imp hE
end
def Own (T:TypeId) (sz:Nat) (v:Value) (es:List (List Value)) (k:Zf):Prop:=
  (∀ e∈es,e.length=sz)∧((v=.slice none 0 0∧es=[]∧k=[])∨
    ∃ b cap spare,v=.slice (some ⟨b,0,none⟩) es.length cap∧k=[(b,.cells ⟨es.flatten++spare⟩ T (0,0))]∧spare.length=(cap-es.length)*sz∧es.length≤cap)
theorem Own.nil {T:TypeId} {sz:Nat}:Own T sz (.slice none 0 0) [] []:=⟨by simp,.inl ⟨rfl,rfl,rfl⟩⟩
theorem Own.one {T:TypeId} {sz:Nat} {v:Value} {es:List (List Value)} {k:Zf} (h:Own T sz v es k):v.oneCell'=true:=by
  rcases h.2 with ⟨e,_⟩ | ⟨b,cap,sp,e,_⟩ <;> subst e <;> rfl
theorem Own.sl {T:TypeId} {sz:Nat} {v:Value} {es:List (List Value)} {k:Zf} (h:Own T sz v es k):∃ a cap,v=.slice a es.length cap:=by
  rcases h.2 with ⟨e,e2,_⟩ | ⟨b,cap,sp,e,_⟩
  · subst e e2;exact ⟨none,0,rfl⟩
  · exact ⟨_,cap,e⟩
theorem Zw {sz:Nat} {es:List (List Value)} (h:∀ e∈es,e.length=sz):es.flatten.length=es.length*sz:=by
  induction es with
  | nil=>simp
  | cons e es ih=>simp only [flatten_cons,length_append,length_cons,h e (by simp),ih (fun x hx=>h x (by simp [hx])),Nat.succ_mul];omega
theorem K8 {sz:Nat} {es:List (List Value)} {sp:List Value} (h:∀ e∈es,e.length=sz) (i:Nat) (hi:i<es.length):Hs.sub (es.flatten++sp) (i*sz) sz=some es[i]:=by
  induction es generalizing i with
  | nil=>exact absurd hi (by simp)
  | cons e es ih=>
    have he:=h e (by simp)
    cases i with
    | zero=>
      rw [Wp (by simp [he])]
      simp [flatten_cons,append_assoc,← he]
    | succ i=>
      have hi':i<es.length:=by simpa using hi
      have:=ih (fun x hx=>h x (by simp [hx])) i hi'
      obtain ⟨h1,h2⟩:=Wg this
      have e1:(i+1)*sz=e.length+i*sz:=by rw [Nat.succ_mul,he];omega
      rw [e1,Wp (by simp only [flatten_cons,append_assoc,length_append] at h1 ⊢;omega)]
      simp only [flatten_cons,append_assoc,getElem_cons_succ]
      rw [h2,List.drop_append]
      simp [drop_eq_nil_of_le (Nat.le_add_right e.length (i*sz))]
theorem N2 {sz:Nat} {es:List (List Value)} {sp:List Value} (h:∀ e∈es,e.length=sz):Hs.sub (es.flatten++sp) 0 (es.length*sz)=some es.flatten:=by
  have hl:=Zw h
  rw [Wp (by rw [length_append];omega)]
  rw [← hl];simp
theorem Own.rdS {α:Type} {E:Heap→List Value→α→Prop} {T:TypeId} {sz:Nat} {v:Value} {es:List (List Value)} {k:Zf} {h:Heap} {l:List α} (o:Own T sz v es k) (hl:l.length=es.length)
    (hn:l.length≤9223372036854775807) (hk:∀ b x,(b,x)∈k→h b=some x) (hE:∀ i (h1:i<es.length) (h2:i<l.length),E h es[i] l[i]):Hs.rdS E sz h v l:=by
  rcases o.2 with ⟨e,e2,e3⟩ | ⟨b,cap,sp,e,e2,e3,e4⟩
  · subst e2
    have:l=[]:=by simpa using hl
    subst this
    rw [e];exact Hs.rdS.nil
  · subst e
    rw [← hl]
    refine Hs.rdS.mk' hn (hk b (.cells ⟨es.flatten++sp⟩ T (0,0)) (by rw [e2];simp)) (rows.mk fun i hi=>?_)
    refine ⟨es[i],?_,hE i (by omega) hi⟩
    rw [Nat.zero_add];exact K8 o.1 i (by omega)
section
variable {c:Cx} {H:Heap} {ρ:Nat→Value} {M:List Zf} {K:Value→List Zf→Prop} {d:Option Nat} {ot:TypeId} {pos:String} {af:Array Edge} {g:Option (Nat×Bool)} {x y:Operand}
structure El (P:Program) (T:TypeId) (sz by_:Nat) (z:Value):Prop where
  info:∃ i,(∀ w,(typeInfo T).run P w=.ok i w)∧i.size=sz∧i.bytes=by_∧i.zero=some z
  zsz:z.cells.size=sz
theorem El.size {P:Program} {T:TypeId} {sz by_:Nat} {z:Value} (h:El P T sz by_ z) (w:World):(sizeOf T).run P w=.ok sz w:=by
  obtain ⟨i,h1,h2,_⟩:=h.info
  simp [sizeOf,h1,h2]
theorem El.zero {P:Program} {T:TypeId} {sz by_:Nat} {z:Value} (h:El P T sz by_ z) (w:World):(zeroValue T).run P w=.ok z w:=by
  obtain ⟨i,h1,_,_,h2⟩:=h.info
  simp [zeroValue,h1,h2]
def Src (P:Program) (sz:Nat) (w:World) (v:Value) (n:Nat) (l:List Value):Prop:=
  (Builtin.lenOf v).run P w=.ok n w∧(∀ m,m≤n→(Builtin.firstCells sz m v).run P w=.ok ⟨l.take (m*sz)⟩ w)∧l.length=n*sz
theorem Src.row {P:Program} {sz:Nat} {w:World} {b o n cap:Nat} {row l:List Value} {T:TypeId} {fr:Nat×Nat} (hb:w.heap[b]?=some (.cells ⟨row⟩ T fr)) (hl:sub row o (n*sz)=some l):Src P sz w (.slice (some ⟨b,o,none⟩) n cap) n l:=by
  obtain ⟨hle,rfl⟩:=Wg hl
  refine ⟨by simp [Builtin.lenOf],fun m hm=>?_,by simp;omega⟩
  have hms:m*sz≤n*sz:=Nat.mul_le_mul_right _ hm
  have:=run_firstCells_some (P:=P) w sz m ⟨b,o,none⟩ n cap (((row.drop o).take (n*sz)).take (m*sz)) (by simp;omega) (fun j v hv=>by
    rw [W1,cell_of_row w b (o+j) _ _ _ hb]
    rw [List.take_take,Nat.min_eq_left hms,getElem?_take] at hv
    split at hv
    · simpa using hv
    · cases hv)
  exact this
theorem Src.nil {P:Program} {sz:Nat} {w:World} {cap:Nat}:Src P sz w (.slice none 0 cap) 0 []:=
  ⟨by simp [Builtin.lenOf], fun m hm => by have:m=0:=by omega
                                           subst this;simp [Builtin.firstCells],by simp⟩
theorem Up (z:Array Value) (n:Nat):(Builtin.zeroCells z n).size=n*z.size:=by simp [Builtin.zeroCells]
theorem ZA {T T₂ el:TypeId} {tx:TypeDesc} {sz by_ n i:Nat} {z v u:Value} {es es':List (List Value)} {k:Zf} (hT:∀ w,(underlying T).run c.P w=.ok (.slice el) w)
    (hT₂:∀ w,(underlying T₂).run c.P w=.ok tx w) (htx:tx=.slice el∨tx=.string) (hel:El c.P el sz by_ z)
    (hx:ev c.n ρ x=v) (hy:ev c.n ρ y=u) (hi:M[i]?=some k) (ho:Own el sz v es k) (hs:∀ F w,Mem w (M.flatten++F) H→Src c.P sz w u n es'.flatten) (hn:es'.length=n)
    (hl:∀ e∈es',e.length=sz) (hok:∀ e∈es',okc e) (hb1:0<by_) (hb:(es.length+n)*by_≤140737488355328)
    (h:∀ v' k',Own el sz v' (es++es') k'→K v' (M.set i k')):
    Runs c H ⟨d,.call {callee:=.builtin .append,args:=#[x,y],argTypes:=#[T,T₂]},ot,pos,af,g⟩ ρ M K:=by
  intro F w m
  subst hn
  obtain ⟨hlen,hfc,hsl⟩:=hs F w m
  have hfc:=hfc es'.length (Nat.le_refl _)
  rw [take_of_length_le (by omega)] at hfc
  have hok':okc es'.flatten:=fun a ha=>by obtain ⟨e,he,hea⟩:=mem_flatten.1 ha;exact hok e he a hea
  obtain ⟨ti,hti,hti1,hti2,hti3⟩:=hel.info
  have hall:∀ e∈es++es',e.length=sz:=fun e he=>(mem_append.1 he).elim (ho.1 e) (hl e)
  have hlt:=(List.getElem?_eq_some_iff.1 hi).1
  have hbig:es.length+es'.length≤140737488355328:=by
    have:(es.length+es'.length)*1≤(es.length+es'.length)*by_:=Nat.mul_le_mul_left _ hb1
    omega
  -- the growing case, whatever the old row
  have grow:∀ (a:Option Addr) (cap:Nat),v=.slice a es.length cap→cap<es.length+es'.length→(∀ w₂:World,w₂.heap=w.heap→(Builtin.firstCells sz es.length v).run c.P w₂=.ok ⟨es.flatten⟩ w₂)→
      ∃ v' w' M',((execOp (ev c.n ρ) ⟨d,.call {callee:=.builtin .append,args:=#[x,y],argTypes:=#[T,T₂]},ot,pos,af,g⟩).run c.P w=.ok (.value v') w'∨((execOp (ev c.n ρ) ⟨d,.call {callee:=.builtin .append,args:=#[x,y],argTypes:=#[T,T₂]},ot,pos,af,g⟩).run c.P w=.ok .skip w'∧v'=undef))∧
        Mem w' (M'.flatten++F) H∧K v' M':=by
    intro a cap hv hlt' hold
    have hfit:=growslice_fits (need:=es.length+es'.length) (old:=cap) (bytes:=by_) hlt' hb
    have h1:¬ (es.length+es'.length≤cap):=by omega
    have h3:¬ (Builtin.nextslicecap (es.length+es'.length) cap*by_>281474976710656):=by omega
    have h2:by_≠0:=by omega
    let newCap:=grownCap w (es.length+es'.length) cap el
    have hcap:es.length+es'.length≤newCap:=by simp only [newCap,grownCap,Question.cut];omega
    have hcells:(⟨es.flatten⟩:Array Value)++⟨es'.flatten⟩++Builtin.zeroCells z.cells (newCap-(es.length+es'.length))=⟨(es++es').flatten++(Builtin.zeroCells z.cells (newCap-(es.length+es'.length))).toList⟩:=by
      apply Array.ext';simp
    have hrun:(execOp (ev c.n ρ) ⟨d,.call {callee:=.builtin .append,args:=#[x,y],argTypes:=#[T,T₂]},ot,pos,af,g⟩).run c.P w=
        .ok (.value (.slice (some ⟨w.heap.size,0,none⟩) (es.length+es'.length) newCap)) (w.drew.alloc (.cells ⟨(es++es').flatten++(Builtin.zeroCells z.cells (newCap-(es.length+es'.length))).toList⟩ el)):=by
      rw [← hcells]
      subst hv
      simp only [execOp,resolve,invoke,builtin,List.map_toArray,map_cons,map_nil,hx,hy,Sem.run_bind,Sem.run_pure,Result.andThen_ok,Builtin.append_]
      simp only [List.getElem?_toArray,getElem?_cons_zero,getElem?_cons_succ,Sem.run_bind,hT,hT₂,hel.size,Result.andThen_ok]
      rcases htx with rfl | rfl <;>
        (simp only [Sem.run_pure,Result.andThen_ok,hlen,Bool.false_eq_true,if_false,h1,Sem.run_bind,hti,hti2,h2,or_self,and_false,Sem.run_ite,h3,run_choose,Question.forced,run_askRoom,Bool.not_false,if_true]
         have hd1:=hold {heap:=w.heap,tape:=w.tape,drawn:=w.drawn+1,os:=w.os,output:=w.output} rfl
         have hd2:=(hs F {heap:=w.heap,tape:=w.tape,drawn:=w.drawn+1,os:=w.os,output:=w.output} (m.congr rfl)).2.1 es'.length (Nat.le_refl _)
         rw [take_of_length_le (by omega)] at hd2
         simp only [hd1,Result.andThen_ok,hd2,hel.zero,newRow,Sem.run_bind,run_newObj,Sem.run_pure]
         rfl)
    refine ⟨_,_,M.set i [(w.heap.size,.cells ⟨(es++es').flatten++(Builtin.zeroCells z.cells (newCap-(es.length+es'.length))).toList⟩ el (0,0))],.inl hrun,?_,h _ _ ⟨hall,.inr ⟨w.heap.size,newCap,_,by rw [length_append],rfl,?_,by rw [length_append];exact hcap⟩⟩⟩
    · have m1:Mem (w.drew.alloc (.cells ⟨(es++es').flatten++(Builtin.zeroCells z.cells (newCap-(es.length+es'.length))).toList⟩ el)) ((w.heap.size,.cells ⟨(es++es').flatten++(Builtin.zeroCells z.cells (newCap-(es.length+es'.length))).toList⟩ el (0,0))::(M.flatten++F)) H:=
        m.push (w':=w.drew.alloc _) rfl
      refine Mem.sub (R:=k) m1 ?_
      have p1:=Yt hi
      have p2:=Vg (k':=[(w.heap.size,Obj.cells ⟨(es++es').flatten++(Builtin.zeroCells z.cells (newCap-(es.length+es'.length))).toList⟩ el (0,0))]) hi
      refine (((p1.append_right F).cons _).trans ?_).trans ((p2.append_right F).append_right k).symm
      simp only [append_assoc,cons_append,nil_append]
      refine List.Perm.cons _ ?_
      rw [← append_assoc (M.eraseIdx i).flatten]
      exact perm_append_comm
    · have:=Up z.cells (newCap-(es.length+es'.length))
      rw [hel.zsz] at this
      rw [length_append,Array.length_toList];exact this
  rcases ho.2 with ⟨e1,e2,e3⟩ | ⟨b,cap,sp,e1,e2,e3,e4⟩
  · subst e1 e2 e3
    by_cases h0:es'.length=0
    · have he0:es'=[]:=by simpa using h0
      subst he0
      refine ⟨.slice none 0 0,w,M,.inl ?_,m,?_⟩
      · simp only [List.length_nil] at hlen hfc
        simp only [execOp,resolve,invoke,builtin,List.map_toArray,map_cons,map_nil,hx,hy,Sem.run_bind,Sem.run_pure,Result.andThen_ok,Builtin.append_]
        simp only [List.getElem?_toArray,getElem?_cons_zero,getElem?_cons_succ,Sem.run_bind,hT,hT₂,hel.size,Result.andThen_ok]
        rcases htx with rfl | rfl <;>
          simp [Sem.run_pure,Result.andThen_ok,hlen,hfc]
      · have:=h (.slice none 0 0) [] Own.nil
        rwa [show M.set i []=M from by
          apply List.ext_getElem?
          intro j
          rw [List.getElem?_set]
          split
          · rename_i e;subst e;rw [hi]
          · rfl] at this
    · exact grow none 0 rfl (by simp;omega) (fun _ _=>by simp [Builtin.firstCells])
  · subst e1
    by_cases hfits:es.length+es'.length≤cap
    · have hb':w.heap[b]?=some (.cells ⟨es.flatten++sp⟩ el (0,0)):=(ZcS (M:=M) (H:=H) i hi (by rw [e2];simp)).heap m
      have hfl:=Zw ho.1
      have hfl':=Zw hl
      have hspl:spl (es.flatten++sp) (es.length*sz) es'.flatten=some ((es++es').flatten++sp.drop (es'.length*sz)):=by
        rw [Vj]
        · rw [← hfl,← hfl',flatten_append,List.take_left',← append_assoc,← drop_drop,List.drop_left']
          · rfl
          · rfl
        · have hm:es'.length*sz≤(cap-es.length)*sz:=Nat.mul_le_mul_right _ (by omega)
          rw [length_append,hfl,hfl',e3];omega
      obtain ⟨hle,hre⟩:=WP hspl
      have hst:=run_storeCells_at c.P b (es.length*sz) el es'.flatten 0 ⟨es.flatten++sp⟩ w hb' (by simpa using hle) hok'
      simp only [Nat.add_zero,append_assoc] at hst
      have hst':(storeCells ⟨b,es.length*sz,none⟩ es'.flatten).run c.P w=.ok () (w.setRow b ⟨(es++es').flatten++sp.drop (es'.length*sz)⟩):=by
        rw [hre]
        simpa [append_assoc] using hst
      refine ⟨.slice (some ⟨b,0,none⟩) (es.length+es'.length) cap,_,_,.inl ?_,m.write (k₁:=[]) (k₂:=[]) hi e2,h _ _ ⟨hall,.inr ⟨b,cap,sp.drop (es'.length*sz),by rw [length_append],rfl,?_,by rw [length_append];exact hfits⟩⟩⟩
      · simp only [execOp,resolve,invoke,builtin,List.map_toArray,map_cons,map_nil,hx,hy,Sem.run_bind,Sem.run_pure,Result.andThen_ok,Builtin.append_]
        simp only [List.getElem?_toArray,getElem?_cons_zero,getElem?_cons_succ,Sem.run_bind,hT,hT₂,hel.size,Result.andThen_ok]
        have hadd:(⟨b,0,none⟩:Addr).add (es.length*sz)=⟨b,es.length*sz,none⟩:=by rw [W1];simp
        rcases htx with rfl | rfl <;>
          (simp only [Sem.run_pure,Result.andThen_ok,hlen,Bool.false_eq_true,if_false,hfits,if_true,Bool.not_false,Sem.run_bind,hfc,hadd,hst'])
      · rw [length_drop,e3,length_append]
        rw [← Nat.sub_mul];congr 1;omega
    · refine grow _ cap rfl (by omega) fun w₂ hw₂=>?_
      have hb':w₂.heap[b]?=some (.cells ⟨es.flatten++sp⟩ el (0,0)):=by rw [hw₂];exact (ZcS (M:=M) (H:=H) i hi (by rw [e2];simp)).heap m
      have:=(Src.row (P:=c.P) (cap:=cap) hb' (N2 (sp:=sp) ho.1)).2.1 es.length (Nat.le_refl _)
      rwa [take_of_length_le (by rw [Zw ho.1];exact Nat.le_refl _)] at this
end
theorem IM (zl:List Value) (n:Nat):(range (n*zl.length)).map (fun i=>(⟨zl⟩:Array Value)[i % zl.length]!)=(replicate n zl).flatten:=by
  induction n with
  | zero=>simp
  | succ n ih=>
    rw [Nat.succ_mul,List.range_add,map_append,ih,List.replicate_succ',flatten_append]
    congr 1
    simp only [List.map_map,flatten_cons,flatten_nil,append_nil]
    apply ext_getElem
    · simp
    · intro i h1 h2
      have hi:i<zl.length:=h2
      simp only [getElem_map,getElem_range,Function.comp,Nat.mul_add_mod_self_right]
      rw [Nat.mod_eq_of_lt hi]
      simp [hi]
theorem Nl (z:Array Value) (n:Nat):((Array.range (n*z.size)).map (z[· % z.size]!))=⟨(replicate n z.toList).flatten⟩:=by
  apply Array.ext'
  rw [Array.toList_map,Array.toList_range]
  have:=IM z.toList n
  simpa using this
section
variable {c:Cx} {H:Heap} {ρ:Nat→Value} {M:List Zf} {K:Value→List Zf→Prop} {d:Option Nat} {ot:TypeId} {pos:String} {af:Array Edge} {g:Option (Nat×Bool)} {x y:Operand}
theorem OM {T el:TypeId} {sz by_:Nat} {z:Value} {k k':IntKind} (n:Nat) {a b:Int} (hT:∀ w,(underlying T).run c.P w=.ok (.slice el) w) (hel:El c.P el sz by_ z)
    (hx:ev c.n ρ x=.int k a) (hy:ev c.n ρ y=.int k' b) (ha:a=n) (hb:b=n) (hbig:n*by_≤281474976710656) (hbig':n≤140737488355328)
    (h:∀ b k,Own el sz (.slice (some ⟨b,0,none⟩) n n) (replicate n z.cells.toList) k→k=[(b,.cells ⟨(replicate n z.cells.toList).flatten⟩ el (0,0))]→K (.slice (some ⟨b,0,none⟩) n n) (k::M)):
    Runs c H ⟨d,.makeSlice T x y,ot,pos,af,g⟩ ρ M K:=fun F w m=>by
  subst ha hb
  obtain ⟨ti,hti,hti1,hti2,hti3⟩:=hel.info
  have w1:IntKind.i64.wrap (n:Int)=n:=w64 (by omega)
  have hzs:z.cells.toList.length=sz:=by have:=hel.zsz;simpa using this
  have hcells:(if n*sz=0 then (#[]:Array Value) else (Array.range (n*sz)).map (z.cells[· % z.cells.size]!))=⟨(replicate n z.cells.toList).flatten⟩:=by
    have h1:=Nl z.cells n
    rw [hel.zsz] at h1 ⊢
    split
    · rename_i h0
      apply Array.ext'
      have h2:((replicate n z.cells.toList).flatten).length=n*sz:=by
        rw [Zw (sz:=sz) (fun e he=>by rw [List.eq_of_mem_replicate he];exact hzs)];simp
      have h3:((replicate n z.cells.toList).flatten)=[]:=eq_nil_of_length_eq_zero (by omega)
      rw [h3]
    · exact h1
  have hrun:(execOp (ev c.n ρ) ⟨d,.makeSlice T x y,ot,pos,af,g⟩).run c.P w=.ok (.value (.slice (some ⟨w.heap.size,0,none⟩) n n)) {w with heap:=w.heap.push (.cells ⟨(replicate n z.cells.toList).flatten⟩ el)}:=by
    have n1:¬ ((n:Int)<0):=by omega
    have n2:¬ (281474976710656<(by_:Int)*(n:Int)):=by
      have:((by_*n:Nat):Int)≤281474976710656:=by rw [Nat.mul_comm];omega
      rw [Int.natCast_mul] at this;omega
    by_cases h0:n*sz=0
    · rw [if_pos h0] at hcells
      rw [← hcells]
      simp [execOp,Instr.makeSlice,hx,hy,hT,asInt,asIntOf,hti,hti2,hel.size,w1,n1,n2,h0,newRow,Array.range_zero']
    · rw [if_neg h0] at hcells
      rw [← hcells]
      simp [execOp,Instr.makeSlice,hx,hy,hT,asInt,asIntOf,hti,hti2,hel.size,hel.zero,w1,n1,n2,h0,newRow]
  refine ⟨_,_,[(w.heap.size,.cells ⟨(replicate n z.cells.toList).flatten⟩ el (0,0))]::M,.inl hrun,m.push (w':={w with heap:=w.heap.push (.cells ⟨(replicate n z.cells.toList).flatten⟩ el)}) rfl,h _ _ ?_ rfl⟩
  refine ⟨fun e he=>by rw [List.eq_of_mem_replicate he];exact hzs,.inr ⟨w.heap.size,n,[],by simp,by simp,by simp,by simp⟩⟩
theorem Ou (vs:List Value):∀ (cs:Array Value) (off k:Nat),off+k+vs.length≤cs.size→
    (vs.zipIdx k).foldl (fun cs (p:Value×Nat)=>cs.setIfInBounds (off+p.2) p.1) cs=⟨cs.toList.take (off+k)++(vs++cs.toList.drop (off+k+vs.length))⟩:=by
  induction vs with
  | nil=>intro cs off k h;simp
  | cons v vs ih=>
    intro cs off k h
    simp only [length_cons] at h
    rw [List.zipIdx_cons,List.foldl_cons,ih _ _ _ (by simp;omega)]
    congr 1
    simp only [Array.toList_setIfInBounds]
    have hlen:cs.toList.length=cs.size:=by simp
    apply List.ext_getElem?
    intro j
    simp only [List.getElem?_append,getElem?_take,getElem?_drop,List.getElem?_set,length_take,length_set,length_cons,List.getElem?_cons]
    have e1:min (off+(k+1)) cs.toList.length=off+k+1:=by omega
    have e2:min (off+k) cs.toList.length=off+k:=by omega
    rw [e1,e2]
    by_cases hj:j<off+k
    · have h1:j<off+k+1:=by omega
      have h2:j<off+(k+1):=by omega
      simp [hj,h1,h2,show ¬ (off+k=j) from by omega]
    · by_cases hj2:j=off+k
      · subst hj2
        have h2:off+k<off+(k+1):=by omega
        have h3:off+k<cs.toList.length:=by omega
        simp [h2]
        omega
      · have h1:¬ j<off+k+1:=by omega
        have h4:¬ (j-(off+k)=0):=by omega
        simp only [h1,if_false,hj,h4]
        by_cases h5:j-(off+k+1)<vs.length
        · have h6:j-(off+k)<vs.length+1:=by omega
          simp [h5,h6,show j-(off+k)-1=j-(off+k+1) from by omega]
        · have h6:¬ j-(off+k)<vs.length+1:=by omega
          simp only [h5,h6,if_false]
          rw [if_neg (by omega)]
          congr 1
          omega
theorem Ek (sz:Nat) (vs:List Value):∀ (es:List (List Value)) (k:Nat) (pre rest:List Value),vs.map Value.cells=es.map (fun e=>(⟨e⟩:Array Value))→(∀ e∈es,e.length=sz)→pre.length=k*sz→es.length*sz≤rest.length→
    Instr.fill (fun i=>some (i*sz,sz)) ⟨pre++rest⟩ ((vs.zipIdx k).map fun p=>(p.2,p.1))=some ⟨pre++es.flatten++rest.drop (es.length*sz)⟩:=by
  induction vs with
  | nil=>
    intro es k pre rest h1 _ _ _
    cases es with
    | nil=>simp [Instr.fill]
    | cons e es=>simp at h1
  | cons v vs ih=>
    intro es k pre rest h1 h2 h3 h4
    cases es with
    | nil=>simp at h1
    | cons e es=>
      simp only [map_cons,List.cons.injEq] at h1
      obtain ⟨hv,h1⟩:=h1
      have he:=h2 e (by simp)
      simp only [length_cons,Nat.succ_mul] at h4
      have hsz:v.cells.size=sz:=by rw [hv];simpa using he
      simp only [List.zipIdx_cons,map_cons,Instr.fill]
      rw [hsz]
      have hc:(decide (sz≠sz)||decide (k*sz+sz>(⟨pre++rest⟩:Array Value).size))=false:=by
        simp [h3];omega
      rw [hc]
      simp only [Bool.false_eq_true,if_false]
      have hf:=Ou v.cells.toList ⟨pre++rest⟩ (k*sz) 0 (by simp [hv,he,h3];omega)
      have hz:v.cells.zipIdx.foldl (fun (cs:Array Value) (p:Value×Nat)=>cs.setIfInBounds (k*sz+p.2) p.1) (⟨pre++rest⟩:Array Value)=⟨(pre++e)++rest.drop sz⟩:=by
        rw [← Array.foldl_toList,Array.toList_zipIdx,hf]
        simp only [Nat.add_zero,hv,he,← h3]
        congr 1
        simp [← he]
      refine Eq.trans (congrArg (fun q=>Instr.fill (fun i=>some (i*sz,sz)) q _) hz) ?_
      rw [ih es (k+1) (pre++e) (rest.drop sz) h1 (fun x hx=>h2 x (by simp [hx])) (by rw [length_append,h3,he,Nat.succ_mul]) (by rw [length_drop];omega)]
      simp only [flatten_cons,append_assoc,drop_drop,length_cons,Nat.succ_mul,Nat.add_comm]
theorem Zj {T el:TypeId} {sz by_:Nat} {z:Value} {ps:List (Nat×Operand)} {vs:List Value} (es:List (List Value)) {n:Nat} (hT:∀ w,(underlying T).run c.P w=.ok (.slice el) w) (hel:El c.P el sz by_ z)
    (hp:ps.map (fun q=>(q.1,ev c.n ρ q.2))=(vs.zipIdx 0).map fun p=>(p.2,p.1)) (hv:vs.map Value.cells=es.map (fun e=>(⟨e⟩:Array Value))) (hl:∀ e∈es,e.length=sz) (hn:es.length=n) (hbig:n*sz≤16777216)
    (h:∀ b k,Own el sz (.slice (some ⟨b,0,none⟩) n n) es k→k=[(b,.cells ⟨es.flatten⟩ el (0,0))]→K (.slice (some ⟨b,0,none⟩) n n) (k::M)):
    Runs c H ⟨d,.buildSlice T n ps.toArray,ot,pos,af,g⟩ ρ M K:=fun F w m=>by
  subst hn
  have hzs:z.cells.toList.length=sz:=by have:=hel.zsz;simpa using this
  have hfl:es.flatten.length=es.length*sz:=Zw hl
  have hrun:(execOp (ev c.n ρ) ⟨d,.buildSlice T es.length ps.toArray,ot,pos,af,g⟩).run c.P w=.ok (.value (.slice (some ⟨w.heap.size,0,none⟩) es.length es.length)) {w with heap:=w.heap.push (.cells ⟨es.flatten⟩ el)}:=by
    have hb:¬ (es.length*sz>2 ^ 24):=by omega
    have hparts:(List.map (fun q=>(q.1,ev c.n ρ q.2)) ps)=(vs.zipIdx 0).map fun p=>(p.2,p.1):=hp
    have hfill:∀ zs:Array Value,Instr.fill (fun i=>some (i*sz,sz)) ((Array.range (es.length*sz)).map (zs[· % zs.size]!)) ((vs.zipIdx 0).map fun p=>(p.2,p.1))=some ⟨es.flatten⟩:=by
      intro zs
      have:=Ek sz vs es 0 [] ((Array.range (es.length*sz)).map (zs[· % zs.size]!)).toList hv hl (by simp) (by simp)
      simp only [nil_append] at this
      have hd:List.drop (es.length*sz) ((Array.range (es.length*sz)).map (zs[· % zs.size]!)).toList=[]:=drop_eq_nil_of_le (by simp)
      rw [hd,append_nil] at this
      exact this
    simp only [execOp,Instr.buildSlice,List.map_toArray,hparts,Sem.run_bind,hT,Result.andThen_ok,hel.size,hb,if_false,Sem.run_ite]
    by_cases h0:es.length*sz=0
    · simp only [h0,if_true,Sem.run_pure,Result.andThen_ok]
      have:=hfill #[]
      rw [h0] at this
      simp only [this,Sem.run_pure,Result.andThen_ok,newRow,Sem.run_bind,run_newObj]
    · simp only [h0,if_false,Sem.run_bind,hel.zero,Sem.run_pure,Result.andThen_ok,hfill,newRow,run_newObj]
  refine ⟨_,_,[(w.heap.size,.cells ⟨es.flatten⟩ el (0,0))]::M,.inl hrun,m.push (w':={w with heap:=w.heap.push (.cells ⟨es.flatten⟩ el)}) rfl,h _ _ ?_ rfl⟩
  exact ⟨hl,.inr ⟨w.heap.size,es.length,[],rfl,by simp,by simp,Nat.le_refl _⟩⟩
theorem MT {sz:Nat} {es:List (List Value)} {sp e':List Value} (h:∀ e∈es,e.length=sz) (i:Nat) (hi:i<es.length) (he':e'.length=sz):spl (es.flatten++sp) (i*sz) e'=some ((es.set i e').flatten++sp):=by
  induction es generalizing i with
  | nil=>exact absurd hi (by simp)
  | cons e es ih=>
    have he:=h e (by simp)
    cases i with
    | zero=>
      rw [Vj (by simp [he,he'])]
      simp [he',← he]
    | succ i=>
      have hi':i<es.length:=by simpa using hi
      have:=ih (fun x hx=>h x (by simp [hx])) i hi'
      obtain ⟨h1,h2⟩:=WP this
      have e1:(i+1)*sz=e.length+i*sz:=by rw [Nat.succ_mul,he];omega
      rw [e1,Vj (by simp only [flatten_cons,append_assoc,length_append] at h1 ⊢;omega)]
      simp only [flatten_cons,append_assoc,set_cons_succ]
      rw [h2,List.take_append,List.drop_append]
      simp [take_of_length_le,Nat.add_assoc,drop_eq_nil_of_le]
theorem Y7 {T:TypeId} {i j sz b:Nat} {ag:Bool} {v s:Value} {es:List (List Value)} {e':List Value} {k:Zf} {el:TypeId} (ty:Ty c.P T ag sz)
    (hi:M[i]?=some k) (ho:Own el sz s es k) (hs:∃ n cap,s=.slice (some ⟨b,0,none⟩) n cap) (hx:ev c.n ρ x=.pointer (some ⟨b,0+j*sz,none⟩)) (hj:j<es.length) (hy:ev c.n ρ y=v) (hv:v.cells=⟨e'⟩) (hn:e'.length=sz) (hok:okc e')
    (h:∀ k',Own el sz s (es.set j e') k'→K undef (M.set i k')):
    Runs c H ⟨d,.store T x y,ot,pos,af,g⟩ ρ M K:=by
  obtain ⟨n,cap',hs⟩:=hs
  rcases ho.2 with ⟨e1,e2,e3⟩ | ⟨b',cap,sp,e1,e2,e3,e4⟩
  · subst e2;exact absurd hj (by simp)
  · rw [e1] at hs
    cases hs
    subst e2
    rw [Nat.zero_add] at hx
    refine PM (k₁:=[]) (k₂:=[]) ty hx hy hv hn hok hi (MT ho.1 j hj hn) (h _ ⟨fun a ha=>?_,.inr ⟨b,cap',sp,by rw [e1,length_set],rfl,by rw [length_set];exact e3,by rw [length_set];exact e4⟩⟩)
    rcases List.mem_or_eq_of_mem_set ha with ha | ha
    · exact ho.1 a ha
    · subst ha;exact hn
theorem HI {T T₂ el:TypeId} {sz by_ n m:Nat} {z v u:Value} {es es':List (List Value)} {k:Zf} {i:Nat} (hT:∀ w,(underlying T).run c.P w=.ok (.slice el) w) (hel:El c.P el sz by_ z)
    (hx:ev c.n ρ x=v) (hy:ev c.n ρ y=u) (hi:M[i]?=some k) (ho:Own el sz v es k) (hs:∀ F w,Mem w (M.flatten++F) H→Src c.P sz w u n es'.flatten) (hn:es'.length=n) (hm:n=es.length)
    (hl:∀ e∈es',e.length=sz) (hok:∀ e∈es',okc e) (hm':m=n)
    (h:∀ k',Own el sz v es' k'→K (.int .i64 (m:Int)) (M.set i k')):
    Runs c H ⟨d,.call {callee:=.builtin .copy,args:=#[x,y],argTypes:=#[T,T₂]},ot,pos,af,g⟩ ρ M K:=fun F w mm=>by
  subst hm' hn
  obtain ⟨hlen,hfc,hsl⟩:=hs F w mm
  have hfc:=hfc es'.length (Nat.le_refl _)
  rw [take_of_length_le (by omega)] at hfc
  have hok':okc es'.flatten:=fun a ha=>by obtain ⟨e,he,hea⟩:=mem_flatten.1 ha;exact hok e he a hea
  have hlt:=(List.getElem?_eq_some_iff.1 hi).1
  rcases ho.2 with ⟨e1,e2,e3⟩ | ⟨b,cap,sp,e1,e2,e3,e4⟩
  · subst e1 e2 e3
    have he:es'=[]:=by simpa using hm
    subst he
    refine ⟨.int .i64 0,w,M,.inl ?_,mm,?_⟩
    · simp only [List.length_nil] at hlen hfc
      simp [execOp,resolve,invoke,builtin,hx,hy,Builtin.copy_,hT,hlen,hel.size,hfc,goInt]
    · have:=h [] Own.nil
      rwa [show M.set i []=M from by
        apply List.ext_getElem?
        intro j
        rw [List.getElem?_set]
        split
        · rename_i e;subst e;rw [hi]
        · rfl] at this
  · subst e1
    have hb':w.heap[b]?=some (.cells ⟨es.flatten++sp⟩ el (0,0)):=(ZcS (M:=M) (H:=H) i hi (by rw [e2];simp)).heap mm
    have hfl:=Zw ho.1
    have hfl':=Zw hl
    have hspl:spl (es.flatten++sp) 0 es'.flatten=some (es'.flatten++sp):=by
      rw [Vj (by simp only [length_append,hfl,hfl',hm];omega)]
      have:0+es'.flatten.length=es.flatten.length:=by rw [hfl,hfl',hm];omega
      rw [this,List.drop_left];simp
    obtain ⟨hle,hre⟩:=WP hspl
    have hst:=run_storeCells_at c.P b 0 el es'.flatten 0 ⟨es.flatten++sp⟩ w hb' (by simpa using hle) hok'
    have hst':(storeCells ⟨b,0,none⟩ es'.flatten).run c.P w=.ok () (w.setRow b ⟨es'.flatten++sp⟩):=by
      rw [hre];simpa [append_assoc] using hst
    refine ⟨.int .i64 es'.length,_,_,.inl ?_,mm.write (k₁:=[]) (k₂:=[]) hi e2,h _ ⟨hl,.inr ⟨b,cap,sp,by rw [hm],rfl,by rw [hm];exact e3,by omega⟩⟩⟩
    simp [execOp,resolve,invoke,builtin,hx,hy,Builtin.copy_,hT,hlen,hel.size,← hm,hfc,hst',goInt]
end
def dep (b:Array Nat) (i j:Nat):Bool:=Nat.beq j i||(b.getD i 0).testBit j
def rst {α:Type} (z:α) (b:Array Nat) (i:Nat) (r:Nat→α):Nat→α:=fun j=>cond (dep b i j) (r j) z
def Et (b:Array Nat) (i:Nat) (e:Edge):Bool:= !(Region.binds .any e)||(Nat.blt e.on i&&dep b i e.on&&(range i).all (fun j=> !(dep b e.on j)||dep b i j))
def Cm (ops:List Oper) (b:Array Nat) (k i:Nat) (o:Oper):Bool:=
  o.after.toList.all (Et b i)&&
  ((range ops.length).all (fun j=> !(dep b i j)||Nat.ble j i)&&
  ((range i).all (fun j=> !(dep b i j)||o.after.toList.any (fun e=>Region.binds .any e&&dep b e.on j))&&
  ((Nat.blt i k||(range i).all (fun j=>dep b i j))&&
  (Nat.ble k i||(range i).all (fun j=>match ops[j]? with | some p=>p.dst.isNone|| !(p.dst==o.dst) | none=>false)))))
def KC (ops:List Oper) (b:Array Nat) (k:Nat):Bool:=
  (range ops.length).all (fun i=>match ops[i]? with | none=>false | some o=>Cm ops b k i o)
def made (k a:Nat) (N:Nat→Zf) (B:List Zf):List Zf:=(range k).map (fun j=>cond (Nat.beq j a) [] (N j))++B
theorem Ym {k a:Nat} {N:Nat→Zf} {B:List Zf} {j:Nat} {c:Zf} (h:B[j]?=some c):(made k a N B)[k+j]?=some c:=by
  unfold made
  rw [List.getElem?_append_right (by simp)]
  simpa using h
theorem ZU {a b:Nat} (h:a≠b):Nat.beq a b=false:=by rw [← Bool.not_eq_true,Nat.beq_eq];exact h
theorem FL {k a i:Nat} {N:Nat→Zf} {M:List Zf} {q:Zf} (hi:i<k) (hia:i≠a) (h0:N i=[]):
    (q::made k a N M).flatten.Perm (made k a (fun j=>cond (Nat.beq j i) q (N j)) M).flatten:=by
  unfold made
  have key:∀ (l:List Nat),i∈l→l.Nodup→(q++(l.map (fun j=>cond (Nat.beq j a) [] (N j))).flatten).Perm ((l.map (fun j=>cond (Nat.beq j a) [] (cond (Nat.beq j i) q (N j)))).flatten):=by
    intro l
    induction l with
    | nil=>intro h;cases h
    | cons x l ih=>
      intro h hn
      rw [nodup_cons] at hn
      by_cases e:x=i
      · subst e
        have h1:l.map (fun j=>cond (Nat.beq j a) [] (cond (Nat.beq j x) q (N j)))=l.map (fun j=>cond (Nat.beq j a) [] (N j)):=map_congr_left fun j hj=>by
          rw [ZU (a:=j) (b:=x) (by rintro rfl;exact hn.1 hj)];rfl
        have h2:Nat.beq x x=true:=Nat.beq_refl x
        simp only [map_cons,flatten_cons,h1,h0,h2,cond_true,ZU hia,cond_false,nil_append]
        exact List.Perm.refl _
      · have:=ih (List.mem_of_ne_of_mem (Ne.symm e) h) hn.2
        simp only [map_cons,flatten_cons,ZU e,cond_false]
        refine List.Perm.trans ?_ (this.append_left _)
        rw [← append_assoc,← append_assoc]
        exact List.perm_append_comm.append_right _
  have:=key (range k) (mem_range.2 hi) List.nodup_range
  simp only [flatten_cons,flatten_append]
  rw [← append_assoc]
  exact this.append_right _
def AllOps (F:Nat→Oper→Prop):Nat→Nat→List Oper→Prop
  | _,0,_=>True
  | i,k+1,o::l=>F i o∧AllOps F (i+1) k l
  | _,_+1,[]=>True
theorem AllOps.get {F:Nat→Oper→Prop} {l:List Oper}:∀ {k s:Nat},AllOps F s k l→∀ i o,i<k→l[i]?=some o→F (s+i) o:=by
  induction l with
  | nil=>intro k s _ i o _ h;cases h
  | cons x l ih=>
    intro k s h i o hi ho
    cases k with
    | zero=>omega
    | succ k=>
      cases i with
      | zero=>cases ho;exact h.1
      | succ i=>
        have:=ih h.2 i o (by omega) (by simpa using ho)
        rwa [show s+(i+1)=s+1+i from by omega]
theorem R7 {p p':Nat→Bool} {i:Nat} (l:List Nat) (hn:l.Nodup) (hi:i∈l) (h1:p i=true) (h2:p' i=false) (h3:∀ j,j≠i→p' j=p j):(l.filter p').length+1=(l.filter p).length:=by
  induction l with
  | nil=>cases hi
  | cons a l ih=>
    rw [nodup_cons] at hn
    by_cases e:a=i
    · subst e
      rw [filter_cons,filter_cons,h1,h2,if_pos rfl,if_neg (by simp)]
      have:l.filter p'=l.filter p:=List.filter_congr fun x hx=>h3 x (by rintro rfl;exact hn.1 hx)
      rw [this];simp
    · have:=ih hn.2 (List.mem_of_ne_of_mem (Ne.symm e) hi)
      rw [filter_cons,filter_cons,h3 a e]
      split
      · simp only [length_cons];omega
      · exact this
theorem MU {p:Nat→Bool} (l:List Nat) (h:(l.filter p).length=0):∀ x∈l,p x=false:=fun x hx=>by
  cases hp:p x with
  | false=>rfl
  | true=>
    have:x∈l.filter p:=mem_filter.2 ⟨hx,hp⟩
    rw [eq_nil_of_length_eq_zero h] at this
    cases this
theorem least {p:Nat→Bool}:∀ n,(∃ i,i<n∧p i=false)→∃ i,i<n∧p i=false∧∀ j,j<i→p j=true:=by
  intro n
  induction n with
  | zero=>rintro ⟨i,h,_⟩;omega
  | succ n ih=>
    rintro ⟨i,h1,h2⟩
    by_cases h:∃ i,i<n∧p i=false
    · obtain ⟨j,h3,h4,h5⟩:=ih h
      exact ⟨j,by omega,h4,h5⟩
    · have:i=n:=by
        by_cases e:i=n
        · exact e
        · exact absurd ⟨i,by omega,h2⟩ h
      subst this
      refine ⟨i,by omega,h2,fun j hj=>?_⟩
      cases hp:p j with
      | true=>rfl
      | false=>exact absurd ⟨j,hj,hp⟩ h
section
variable {c:Cx} {H:Heap} {Q:Post}
def ready (l:List Oper) (listed:Array Bool) (i:Nat):Bool:=
  !listed.getD i true&&((l.toArray[i]?).map (·.after.all fun e=> !Region.binds .any e||listed.getD e.on false)).getD false
theorem Wz (l:List Oper) (fuel t:Nat) (listed:Array Bool) (acc:List Nat):
    Region.linearise.go .any l.toArray (fuel+1) t listed acc=
      (match ((range l.length).filter (ready l listed))[t % ((range l.length).filter (ready l listed)).length]? with
       | some i=>Region.linearise.go .any l.toArray fuel (t / ((range l.length).filter (ready l listed)).length) (listed.setIfInBounds i true) (i::acc)
       | none=>acc.reverse):=by
  rw [Region.linearise.go]
  rfl
theorem Mb (listed:Array Bool) (i j:Nat) (hi:i<listed.size):(listed.setIfInBounds i true).getD j true=cond (Nat.beq j i) true (listed.getD j true):=by
  rw [Array.getD_eq_getD_getElem?,Array.getD_eq_getD_getElem?,Array.getElem?_setIfInBounds]
  by_cases e:i=j
  · subst e;simp [hi]
  · rw [if_neg e,ZU (Ne.symm e)];rfl
end
end Go.Proofs.YtjdjmjgleadcfaaGreatDoor.Hs
namespace Go.Proofs.YtjdjmjgleadcfaaGreatDoor.Hs
open Go
abbrev Sm:=Vector UInt8 32
def sC (r:Sm):List Value:=
  [.int .u8 (r[0].toNat:Int),.int .u8 (r[1].toNat:Int),.int .u8 (r[2].toNat:Int),.int .u8 (r[3].toNat:Int),.int .u8 (r[4].toNat:Int),.int .u8 (r[5].toNat:Int),.int .u8 (r[6].toNat:Int),.int .u8 (r[7].toNat:Int),
   .int .u8 (r[8].toNat:Int),.int .u8 (r[9].toNat:Int),.int .u8 (r[10].toNat:Int),.int .u8 (r[11].toNat:Int),.int .u8 (r[12].toNat:Int),.int .u8 (r[13].toNat:Int),.int .u8 (r[14].toNat:Int),.int .u8 (r[15].toNat:Int),
   .int .u8 (r[16].toNat:Int),.int .u8 (r[17].toNat:Int),.int .u8 (r[18].toNat:Int),.int .u8 (r[19].toNat:Int),.int .u8 (r[20].toNat:Int),.int .u8 (r[21].toNat:Int),.int .u8 (r[22].toNat:Int),.int .u8 (r[23].toNat:Int),
   .int .u8 (r[24].toNat:Int),.int .u8 (r[25].toNat:Int),.int .u8 (r[26].toNat:Int),.int .u8 (r[27].toNat:Int),.int .u8 (r[28].toNat:Int),.int .u8 (r[29].toNat:Int),.int .u8 (r[30].toNat:Int),.int .u8 (r[31].toNat:Int)]
def zS:Sm:=Vector.replicate 32 0
theorem VZ (r:Sm):(sC r).length=32:=rfl
theorem V0 (r:Sm) (i:Nat) (h:i<32):(sC r)[i]?=some (.int .u8 (r[i].toNat:Int)):=by
  match i,h with
  | 0,_ | 1,_ | 2,_ | 3,_ | 4,_ | 5,_ | 6,_ | 7,_ | 8,_ | 9,_ | 10,_ | 11,_ | 12,_ | 13,_ | 14,_ | 15,_ | 16,_ | 17,_ | 18,_ | 19,_ | 20,_ | 21,_ | 22,_ | 23,_ | 24,_ | 25,_ | 26,_ | 27,_ | 28,_ | 29,_ | 30,_ | 31,_=>rfl
  | n+32,h=>exact absurd h (by omega)
theorem GL {r s:Sm} (h:sC r=sC s):r=s:=by
  apply Vector.ext
  intro i hi
  have h1:=V0 r i hi
  rw [h,V0 s i hi] at h1
  simp only [Option.some.injEq,Value.int.injEq,true_and] at h1
  exact UInt8.toNat_inj.1 (by omega)
theorem T5 (r:Sm):okc (sC r):=fun v hv=>by
  obtain ⟨i,hi,rfl⟩:=List.getElem_of_mem hv
  have h:=V0 r i hi
  rw [List.getElem?_eq_getElem hi] at h
  rw [Option.some.inj h];rfl
def inI (n:Int):Prop:= -9223372036854775808≤n∧n≤9223372036854775807
inductive Pt where
  | mk (kind num:Int) (ref:Sm) (kids:List Pt)
inductive Tm where
  | mk (kind num:Int) (ref:Sm) (kids:List Tm) (cases:List (Pt×Tm))
namespace Pt
def kind:Pt→Int | .mk k _ _ _=>k
def num:Pt→Int | .mk _ n _ _=>n
def ref:Pt→Sm | .mk _ _ r _=>r
def kids:Pt→List Pt | .mk _ _ _ l=>l
end Pt
namespace Tm
def kind:Tm→Int | .mk k _ _ _ _=>k
def num:Tm→Int | .mk _ n _ _ _=>n
def ref:Tm→Sm | .mk _ _ r _ _=>r
def kids:Tm→List Tm | .mk _ _ _ l _=>l
def cases:Tm→List (Pt×Tm) | .mk _ _ _ _ l=>l
end Tm
theorem Pt.ind {P:Pt→Prop} (h:∀ k n r kids,(∀ x∈kids,P x)→P (.mk k n r kids)):∀ p,P p:=by
  have key:∀ n (p:Pt),SizeOf.sizeOf p≤n→P p:=by
    intro n
    induction n with
    | zero=>intro p hp;cases p;simp at hp
    | succ n ih=>
      intro p hp
      cases p with
      | mk k m r kids=>
        refine h k m r kids fun x hx=>ih x ?_
        have:=List.sizeOf_lt_of_mem hx
        simp at hp
        omega
  exact fun p=>key _ p (Nat.le_refl _)
theorem Tm.ind {P:Tm→Prop} (h:∀ k n r kids cases,(∀ x∈kids,P x)→(∀ c∈cases,P c.2)→P (.mk k n r kids cases)):∀ t,P t:=by
  have key:∀ n (t:Tm),SizeOf.sizeOf t≤n→P t:=by
    intro n
    induction n with
    | zero=>intro t ht;cases t;simp at ht
    | succ n ih=>
      intro t ht
      cases t with
      | mk k m r kids cases=>
        refine h k m r kids cases (fun x hx=>ih x ?_) (fun c hc=>ih c.2 ?_)
        · have:=List.sizeOf_lt_of_mem hx
          simp at ht
          omega
        · have:=List.sizeOf_lt_of_mem hc
          have h2:SizeOf.sizeOf c=1+SizeOf.sizeOf c.1+SizeOf.sizeOf c.2:=by cases c;rfl
          simp at ht
          omega
  exact fun t=>key _ t (Nat.le_refl _)
def pkP (k n:Int) (r:Sm) (ks:Value):List Value:=.int .i64 k::.int .i64 n::(sC r++[ks])
def pkT (k n:Int) (r:Sm) (ks cs:Value):List Value:=.int .i64 k::.int .i64 n::(sC r++[ks,cs])
mutual
def rdP (h:Heap):Pt→List Value→Prop
  | .mk k n r kids,cs=>∃ ks,cs=pkP k n r ks∧inI k∧inI n∧rdSl h kids.length ks (IJ h kids)
def IJ (h:Heap):List Pt→List Value→Nat→Prop
  | [],_,_=>True
  | p::ps,row,o=>(∃ cs,sub row o 35=some cs∧rdP h p cs)∧IJ h ps row (o+35)
end
def RP (h:Heap) (cs:List Value) (p:Pt):Prop:=rdP h p cs
theorem Cb (h:Heap) (l:List Pt):∀ row o,IJ h l row o=rows (RP h) 35 row o l:=by
  induction l with
  | nil=>intro row o;simp only [IJ,rows]
  | cons p ps ih=>intro row o;simp only [IJ,rows,ih,RP]
theorem RP_mk {h:Heap} {cs:List Value} {k n:Int} {r:Sm} {kids:List Pt}:RP h cs (.mk k n r kids)↔∃ ks,cs=pkP k n r ks∧inI k∧inI n∧rdS RP 35 h ks kids:=by
  unfold rdS
  rw [show RP h cs (.mk k n r kids)=rdP h (.mk k n r kids) cs from rfl]
  simp only [rdP]
  have:IJ h kids=fun row o=>rows (RP h) 35 row o kids:=by funext row o;exact Cb h kids row o
  rw [this]
mutual
def rdT (h:Heap):Tm→List Value→Prop
  | .mk k n r kids cases,cs=>∃ ks cv,cs=pkT k n r ks cv∧inI k∧inI n∧rdSl h kids.length ks (II h kids)∧rdSl h cases.length cv (IL h cases)
def II (h:Heap):List Tm→List Value→Nat→Prop
  | [],_,_=>True
  | p::ps,row,o=>(∃ cs,sub row o 36=some cs∧rdT h p cs)∧II h ps row (o+36)
def IL (h:Heap):List (Pt×Tm)→List Value→Nat→Prop
  | [],_,_=>True
  | (p,t)::ps,row,o=>(∃ cs,sub row o 71=some cs∧∃ a b,cs=a++b∧rdP h p a∧rdT h t b)∧IL h ps row (o+71)
end
def RT (h:Heap) (cs:List Value) (t:Tm):Prop:=rdT h t cs
def RC (h:Heap) (cs:List Value) (c:Pt×Tm):Prop:=∃ a b,cs=a++b∧RP h a c.1∧RT h b c.2
theorem Ca (h:Heap) (l:List Tm):∀ row o,II h l row o=rows (RT h) 36 row o l:=by
  induction l with
  | nil=>intro row o;simp only [II,rows]
  | cons p ps ih=>intro row o;simp only [II,rows,ih,RT]
theorem Cd (h:Heap) (l:List (Pt×Tm)):∀ row o,IL h l row o=rows (RC h) 71 row o l:=by
  induction l with
  | nil=>intro row o;simp only [IL,rows]
  | cons p ps ih=>intro row o;obtain ⟨a,b⟩:=p;simp only [IL,rows,ih,RC,RP,RT]
theorem RT_mk {h:Heap} {cs:List Value} {k n:Int} {r:Sm} {kids:List Tm} {cases:List (Pt×Tm)}:
    RT h cs (.mk k n r kids cases)↔∃ ks cv,cs=pkT k n r ks cv∧inI k∧inI n∧rdS RT 36 h ks kids∧rdS RC 71 h cv cases:=by
  have e1:II h kids=fun row o=>rows (RT h) 36 row o kids:=by funext row o;exact Ca h kids row o
  have e2:IL h cases=fun row o=>rows (RC h) 71 row o cases:=by funext row o;exact Cd h cases row o
  unfold rdS
  rw [show RT h cs (.mk k n r kids cases)=rdT h (.mk k n r kids cases) cs from rfl]
  simp only [rdT]
  rw [e1,e2]
theorem ZL {h:Heap} {cs:List Value} {p:Pt} (r:RP h cs p):cs.length=35:=by cases p;obtain ⟨ks,rfl,_⟩:=RP_mk.1 r;rfl
theorem Zy {h:Heap} {cs:List Value} {t:Tm} (r:RT h cs t):cs.length=36:=by cases t;obtain ⟨ks,cv,rfl,_⟩:=RT_mk.1 r;rfl
theorem RP.mono {h h':Heap} (hh:Hle h h'):∀ {p cs},RP h cs p→RP h' cs p:=by
  intro p
  induction p using Pt.ind with
  | h k n r kids ih=>
    intro cs q
    obtain ⟨ks,e,h1,h2,h3⟩:=RP_mk.1 q
    exact RP_mk.2 ⟨ks,e,h1,h2,h3.mono hh fun x hx cs q=>ih x hx q⟩
theorem RT.mono {h h':Heap} (hh:Hle h h'):∀ {t cs},RT h cs t→RT h' cs t:=by
  intro t
  induction t using Tm.ind with
  | h k n r kids cases ih ih'=>
    intro cs q
    obtain ⟨ks,cv,e,h1,h2,h3,h4⟩:=RT_mk.1 q
    exact RT_mk.2 ⟨ks,cv,e,h1,h2,h3.mono hh fun x hx cs q=>ih x hx q,h4.mono hh fun x hx cs ⟨a,b,e,q1,q2⟩=>⟨a,b,e,q1.mono hh,ih' x hx q2⟩⟩
theorem RC.mono {h h':Heap} (hh:Hle h h') {c cs} (q:RC h cs c):RC h' cs c:=by obtain ⟨a,b,e,q1,q2⟩:=q;exact ⟨a,b,e,q1.mono hh,q2.mono hh⟩
theorem RPs.mono {h h':Heap} (hh:Hle h h') {v l} (q:rdS RP 35 h v l):rdS RP 35 h' v l:=rdS.mono q hh fun _ _ _=>RP.mono hh
theorem RTs.mono {h h':Heap} (hh:Hle h h') {v l} (q:rdS RT 36 h v l):rdS RT 36 h' v l:=rdS.mono q hh fun _ _ _=>RT.mono hh
theorem RCs.mono {h h':Heap} (hh:Hle h h') {v l} (q:rdS RC 71 h v l):rdS RC 71 h' v l:=rdS.mono q hh fun _ _ _=>RC.mono hh
theorem BP {h:Heap} {cs:List Value} {p:Pt} (q:RP h cs p):∃ ks,cs=pkP p.kind p.num p.ref ks∧inI p.kind∧inI p.num∧rdS RP 35 h ks p.kids:=by cases p;exact RP_mk.1 q
theorem NU {h:Heap} {cs:List Value} {t:Tm} (q:RT h cs t):∃ ks cv,cs=pkT t.kind t.num t.ref ks cv∧inI t.kind∧inI t.num∧rdS RT 36 h ks t.kids∧rdS RC 71 h cv t.cases:=by cases t;exact RT_mk.1 q
section
variable (k n:Int) (r:Sm) (ks cs:Value)
theorem Wu:(pkP k n r ks)[0]?=some (.int .i64 k):=rfl
theorem Sa:(pkP k n r ks)[1]?=some (.int .i64 n):=rfl
theorem Mk:sub (pkP k n r ks) 2 32=some (sC r):=rfl
theorem XO:(pkP k n r ks)[34]?=some ks:=rfl
theorem Ve:sub (pkP k n r ks) 0 35=some (pkP k n r ks):=rfl
theorem YE:(pkT k n r ks cs)[0]?=some (.int .i64 k):=rfl
theorem XV:(pkT k n r ks cs)[1]?=some (.int .i64 n):=rfl
theorem QV:sub (pkT k n r ks cs) 2 32=some (sC r):=rfl
theorem Xq:(pkT k n r ks cs)[34]?=some ks:=rfl
theorem XA:(pkT k n r ks cs)[35]?=some cs:=rfl
theorem Z4:sub (pkT k n r ks cs) 0 36=some (pkT k n r ks cs):=rfl
theorem T9 (v:Value):spl (pkP k n r ks) 34 [v]=some (pkP k n r v):=rfl
theorem G0 (k':Int):spl (pkT k n r ks cs) 1 [.int .i64 k']=some (pkT k k' r ks cs):=rfl
theorem U8 (v:Value):spl (pkT k n r ks cs) 34 [v]=some (pkT k n r v cs):=rfl
theorem U7 (v:Value):spl (pkT k n r ks cs) 35 [v]=some (pkT k n r ks v):=rfl
theorem UE (k' n':Int) (r':Sm) (ks':Value):spl (pkP k n r ks) 0 (pkP k' n' r' ks')=some (pkP k' n' r' ks'):=rfl
theorem Yb (k' n':Int) (r':Sm) (ks' cs':Value):spl (pkT k n r ks cs) 0 (pkT k' n' r' ks' cs')=some (pkT k' n' r' ks' cs'):=rfl
theorem XN {k n:Int} {r:Sm} {ks:Value} (h:ks.oneCell'=true):okc (pkP k n r ks):=by
  intro v hv
  simp only [pkP,List.mem_cons,List.mem_append,List.not_mem_nil,or_false] at hv
  rcases hv with rfl | rfl | hv | rfl
  · rfl
  · rfl
  · exact T5 r v hv
  · exact h
theorem ZR {k n:Int} {r:Sm} {ks cs:Value} (h:ks.oneCell'=true) (h':cs.oneCell'=true):okc (pkT k n r ks cs):=by
  intro v hv
  simp only [pkT,List.mem_cons,List.mem_append,List.not_mem_nil,or_false] at hv
  rcases hv with rfl | rfl | hv | rfl | rfl
  · rfl
  · rfl
  · exact T5 r v hv
  · exact h
  · exact h'
end
theorem W3 {h:Heap} {cs:List Value} {p:Pt} (r:RP h cs p):okc cs:=by cases p;obtain ⟨ks,rfl,_,_,h3⟩:=RP_mk.1 r;exact XN h3.one
theorem Y5 {h:Heap} {cs:List Value} {t:Tm} (r:RT h cs t):okc cs:=by cases t;obtain ⟨ks,cv,rfl,_,_,h3,h4⟩:=RT_mk.1 r;exact ZR h3.one h4.one
theorem YB {a b:List Value} (h:okc a) (h':okc b):okc (a++b):=fun v hv=>(List.mem_append.1 hv).elim (h v) (h' v)
theorem Va {a b:List Value} {n:Nat} (h:a.length=n):sub (a++b) 0 n=some a:=by
  subst h;rw [Wp (by simp)];simp
theorem Vt {a b:List Value} {n m:Nat} (h:a.length=n) (h':b.length=m):sub (a++b) n m=some b:=by
  subst h h';rw [Wp (by simp)];simp
theorem Zx {a:List Value} {n:Nat} (h:a.length=n):sub a 0 n=some a:=by
  subst h;rw [Wp (by simp)];simp
theorem ZY {a b:List Value} {n:Nat} (h:a.length=n) (h':b.length=n):spl a 0 b=some b:=by
  subst h';rw [Vj (by omega)];simp [h]
theorem Zq:okc []:=fun _ h=>by cases h
theorem Zh {v:Value} {l:List Value} (h:v.oneCell'=true) (h':okc l):okc (v::l):=fun x hx=>by
  rcases List.mem_cons.1 hx with rfl | hx
  · exact h
  · exact h' x hx
theorem ZP {l:List Value} {o:Nat} {v:Value} (h:sub l o 1=some [v]):l[o]?=some v:=by
  obtain ⟨h1,h2⟩:=Wg h
  have:(List.take 1 (List.drop o l))[0]?=some v:=by rw [← h2];rfl
  simpa using this
end Go.Proofs.YtjdjmjgleadcfaaGreatDoor.Hs
namespace Go.Proofs.YtjdjmjgleadcfaaGreatDoor.Hs
def Z7 (ρ:Nat→Value):List (Nat×Value)→(Nat→Value)
  | []=>ρ
  | (s,v)::l=>upd (Z7 ρ l) s v
theorem un {ρ:Nat→Value}:Z7 ρ []=ρ:=rfl
theorem P2 {ρ:Nat→Value} {s:Nat} {v:Value} {l:List (Nat×Value)} (h:ρ s=v) (h':Z7 ρ l=ρ):Z7 ρ ((s,v)::l)=ρ:=by
  unfold Z7
  rw [h']
  funext i
  by_cases e:i=s
  · subst e;rw [Ur];exact h.symm
  · rw [Us _ _ e]
theorem uc {ρ:Nat→Value} {s:Nat} {v:Value} {l:List (Nat×Value)} (h:ρ s=v) (h':Z7 ρ l=ρ):Z7 ρ ((s,v)::l)=ρ:=P2 h h'
section
variable {c:Cx} {H:Heap} {ρ:Nat→Value} {M:List Zf} {Q:Post}
def JR (c:Cx) (H:Heap) (x:Code) (R:Y2) (E:List (Nat×Y2)):Nat→Y2
  | 0,_,_=>False
  | m+1,ρ,M=>J c H x ρ M ⟨JR c H x R E m,R,E⟩
theorem S4 {x:Code} {R:Y2} {E:List (Nat×Y2)} {m:Nat} (h:J c H x ρ M ⟨JR c H x R E m,R,E⟩):JR c H x R E (m+1) ρ M:=h
theorem Dw {x:Code} {N R:Y2} {E:List (Nat×Y2)} (m:Nat) (h:JR c H x R E m ρ M):J c H (.loop x) ρ M ⟨N,R,E⟩:=
  ZD (JR c H x R E) m h fun k ρ M hk=>by
    cases k with
    | zero=>exact hk.elim
    | succ k=>
      refine Dy (S4 hk) fun e ρ M q=>?_
      cases e with
      | normal=>exact ⟨k,Nat.lt_succ_self k,q⟩
      | _=>exact q
theorem NW {x:Code} {N N' R:Y2} {E:List (Nat×Y2)} (h:J c H x ρ M ⟨N,R,E⟩) (h':∀ ρ M,N ρ M→N' ρ M):J c H x ρ M ⟨N',R,E⟩:=
  Dy h fun e ρ M q=>by
    cases e with
    | normal=>exact h' ρ M q
    | _=>exact q
end
theorem ZcZ {P:Program} {e:Operand→Value} {d:Option Nat} {ot:TypeId} {pos:String} {af:Array Edge} {g:Option (Nat×Bool)} {x y z:Operand} {v:Value} (hc:e z=.bool true) (hx:e x=v):Pu P e ⟨d,.pick z x y,ot,pos,af,g⟩ v:=fun w=>by
  simp [execOp,hc,hx,asBool]
theorem ZcX {P:Program} {e:Operand→Value} {d:Option Nat} {ot:TypeId} {pos:String} {af:Array Edge} {g:Option (Nat×Bool)} {x y z:Operand} {v:Value} (hc:e z=.bool false) (hx:e y=v):Pu P e ⟨d,.pick z x y,ot,pos,af,g⟩ v:=fun w=>by
  simp [execOp,hc,hx,asBool]
theorem ieq {x:Value} {k:IntKind} {a b:Int} (h:x=.int k a) (e:a=b):x=.int k b:=by rw [h,e]
def cel:Value→List Value
  | .agg c=>c.toList
  | _=>[]
def Wx:Value→Nat
  | .pointer (some a)=>a.block
  | _=>0
def Y3:Value→Nat
  | .slice (some a) _ _=>a.block
  | _=>0
theorem LE {h:Heap} {a b:List Value} {c:Pt×Tm} (h1:RP h a c.1) (h2:RT h b c.2):RC h (a++b) c:=⟨a,b,rfl,h1,h2⟩
theorem ZJ {a b:List Value} {n m:Nat} (h:a.length=n) (h':b.length=m):(a++b).length=n+m:=by rw [length_append,h,h']
theorem OS {l r q:List Value} {o n p m:Nat} (h:sub l o n=some r) (h':sub r p m=some q):sub l (o+p) m=some q:=by
  obtain ⟨h1,rfl⟩:=Wg h
  obtain ⟨h2,rfl⟩:=Wg h'
  simp only [length_take,length_drop] at h2
  rw [Wp (by omega),List.drop_take,drop_drop,List.take_take]
  congr 2
  omega
theorem Xx {a b:Bool} (h:(a&&b)=true):a=true∧b=true:=by simpa using h
theorem orF {a b:Bool} (h:(a||b)=false):a=false∧b=false:=by simpa using h
theorem Wv {α:Type} {l:List α} {j:Nat} (h:j<l.length):l.drop j=l[j]::l.drop (j+1):=drop_eq_getElem_cons h
theorem SM {α:Type} {l:List α} {j:Nat} (h:l.length≤j):l.drop j=[]:=drop_eq_nil_of_le h
theorem dt {p:Prop} [Decidable p] (h:decide p=true):p:=of_decide_eq_true h
theorem df {p:Prop} [Decidable p] (h:decide p=false):¬ p:=of_decide_eq_false h
theorem nt {b:Bool} (h:(!b)=true):b=false:=by cases b <;> first | rfl | cases h
theorem nf {b:Bool} (h:(!b)=false):b=true:=by cases b <;> first | rfl | cases h
section
variable {P:Program} {e:Operand→Value} {d:Option Nat} {ot:TypeId} {pos:String} {af:Array Edge} {g:Option (Nat×Bool)} {x y z:Operand} {A:Array TypeId}
end
def idxS {α σ:Type} (step:α→σ→Bool×σ):List α→Nat→σ→Int×σ
  | [],_,s=>(-1,s)
  | x::l,i,s=>if (step x s).1=true then ((i:Int),(step x s).2) else idxS step l (i+1) (step x s).2
def Xl {α σ:Type} (step:α→σ→Bool×σ):List α→σ→Bool×σ
  | [],s=>(false,s)
  | x::l,s=>if (step x s).1=true then (true,(step x s).2) else Xl step l (step x s).2
theorem VI {α σ:Type} (step:α→σ→Bool×σ) (l:List α):∀ i s,(decide (0≤(idxS step l i s).1))=(Xl step l s).1∧(idxS step l i s).2=(Xl step l s).2:=by
  induction l with
  | nil=>intro i s;simp [idxS,Xl]
  | cons x l ih=>
    intro i s
    rw [idxS,Xl]
    split
    · exact ⟨by simp,rfl⟩
    · exact ih _ _
theorem Sy {α σ:Type} {step:α→σ→Bool×σ} {Inv:σ→Prop} {l:List α} (h:∀ x∈l,∀ s,Inv s→(step x s).1=false→Inv (step x s).2):∀ s,Inv s→(Xl step l s).1=false→Inv (Xl step l s).2:=by
  induction l with
  | nil=>intro s hs _;exact hs
  | cons x l ih=>
    intro s hs hf
    rw [Xl] at hf ⊢
    split at hf
    · cases hf
    · rename_i hx
      rw [if_neg hx]
      exact ih (fun y hy=>h y (by simp [hy])) _ (h x (by simp) s hs (by simpa using hx)) hf
section
variable {c:Cx} {H:Heap} {Q:Post}
theorem Ig {id:Nat} {l:List Oper} {ρ₀:Nat→Value} {M₀:List Zf} (hmix:c.P.follows .mixedOrders=true) (b:Array Nat) (k:Nat) (hk:Nat.ble k l.length=true) (hok:KC l b k=true)
    (I:(Nat→Bool)→(Nat→Value)→List Zf→Prop)
    (h0:∀ S,(∀ j,j<k→S j=false)→I S ρ₀ M₀)
    (hstep:∀ S i o ρ M,i<k→l[i]?=some o→S i=false→(∀ j,j<i→dep b i j=true→S j=true)→(∀ i' j,i'<k→S i'=true→j<i'→dep b i' j=true→S j=true)→I S ρ M→
      JL c H l.toArray [o] ρ M ⟨fun ρ' M'=>∀ S',(∀ j,S' j=cond (Nat.beq j i) true (S j))→I S' ρ' M',fun _ _=>False,[]⟩)
    (htail:∀ S ρ M,(∀ j,j<k→S j=true)→I S ρ M→JL c H l.toArray (l.drop k) ρ M Q):
    J c H (.region id l.toArray true) ρ₀ M₀ Q:=by
  have hk:=Nat.le_of_ble_eq_true hk
  -- what the check says
  have chk:∀ i o,l[i]?=some o→
      (∀ e∈o.after,Region.binds .any e=true→e.on<i∧dep b i e.on=true∧∀ j,j<i→dep b e.on j=true→dep b i j=true)∧
      (∀ j,j<l.length→dep b i j=true→j≤i)∧
      (∀ j,j<i→dep b i j=true→∃ e∈o.after,Region.binds .any e=true∧dep b e.on j=true)∧
      (k≤i→∀ j,j<i→dep b i j=true)∧
      (i<k→∀ j p x,j<i→l[j]?=some p→p.dst=some x→p.dst≠o.dst):=by
    intro i o ho
    have hlt:=(List.getElem?_eq_some_iff.1 ho).1
    have h:=all_eq_true.1 hok i (mem_range.2 hlt)
    simp only [ho] at h
    unfold Cm at h
    simp only [Bool.and_eq_true,all_eq_true,Bool.or_eq_true,Bool.not_eq_true',mem_range,any_eq_true] at h
    obtain ⟨h1,h2,h3,h4,h5⟩:=h
    refine ⟨fun e he hb=>?_,fun j hj hd=>?_,fun j hj hd=>?_,fun hki j hj=>?_,fun hik=>?_⟩
    · have h1:=h1 e (by simpa using he)
      unfold Et at h1
      simp only [Bool.and_eq_true,all_eq_true,Bool.or_eq_true,Bool.not_eq_true',mem_range] at h1
      rcases h1 with h | ⟨⟨h,h'⟩,h''⟩
      · rw [hb] at h;cases h
      · refine ⟨by simpa [Nat.blt_eq] using h,h',fun j hj hd=>?_⟩
        rcases h'' j hj with h | h
        · rw [hd] at h;cases h
        · exact h
    · rcases h2 j hj with h | h
      · rw [hd] at h;cases h
      · exact Nat.le_of_ble_eq_true h
    · rcases h3 j hj with h | ⟨e,he,hb,h⟩
      · rw [hd] at h;cases h
      · exact ⟨e,by simpa using he,hb,h⟩
    · rcases h4 with h | h
      · have:i<k:=by simpa [Nat.blt_eq] using h
        omega
      · exact h j hj
    · rcases h5 with h | h'
      · have:=Nat.le_of_ble_eq_true h
        omega
      · intro j p x hj hp hx
        have:=h' j hj
        rw [hp] at this
        simpa [hx] using this
  have dep_self:∀ i,dep b i i=true:=fun i=>by unfold dep;rw [Nat.beq_refl];rfl
  -- what an operation hangs on is listed when it is ready
  have hready:∀ (listed:Array Bool) i o,listed.size=l.length→l[i]?=some o→ready l listed i=true→(∀ i o,l[i]?=some o→listed.getD i true=true→∀ j,j<i→dep b i j=true→listed.getD j true=true)→
      listed.getD i true=false∧∀ j,j<i→dep b i j=true→listed.getD j true=true:=by
    intro listed i o hs ho hr hcl
    unfold ready at hr
    rw [Bool.and_eq_true] at hr
    obtain ⟨h1,h2⟩:=hr
    refine ⟨by simpa using h1,fun j hj hd=>?_⟩
    have h3:l.toArray[i]?=some o:=by simpa using ho
    rw [h3] at h2
    simp only [Option.map_some,Option.getD_some] at h2
    rw [Array.all_eq_true'] at h2
    obtain ⟨e,he,hb,hde⟩:=(chk i o ho).2.2.1 j hj hd
    have h4:=h2 e he
    rw [hb] at h4
    simp only [Bool.not_true,Bool.false_or] at h4
    obtain ⟨h5,_,_⟩:=(chk i o ho).1 e he hb
    have hlt:=(List.getElem?_eq_some_iff.1 ho).1
    have h6:listed.getD e.on true=true:=by
      rw [Array.getD_eq_getD_getElem?] at h4 ⊢
      have:e.on<listed.size:=by omega
      rw [Array.getElem?_eq_getElem this] at h4 ⊢
      exact h4
    by_cases e':j=e.on
    · rw [e'];exact h6
    · have hon:e.on<l.length:=by omega
      obtain ⟨oe,hoe⟩:∃ oe,l[e.on]?=some oe:=⟨_,getElem?_eq_getElem hon⟩
      have:=(chk e.on oe hoe).2.1 j (by omega) hde
      exact hcl e.on oe hoe h6 j (by omega) hde
  -- and the first that is not listed is ready
  have hleast:∀ (listed:Array Bool),listed.size=l.length→∀ i,i<l.length→listed.getD i true=false→(∀ j,j<i→listed.getD j true=true)→ready l listed i=true:=by
    intro listed hs i hi h1 h2
    unfold ready
    have h3:l.toArray[i]?=some l[i]:=by simp [hi]
    rw [h1,h3]
    simp only [Bool.not_false,Bool.true_and,Option.map_some,Option.getD_some]
    rw [Array.all_eq_true']
    intro e he
    cases hb:Region.binds .any e with
    | false=>rfl
    | true=>
      obtain ⟨h5,_,_⟩:=(chk i _ (getElem?_eq_getElem hi)).1 e he hb
      have h6:=h2 e.on h5
      simp only [Bool.not_true,Bool.false_or]
      rw [Array.getD_eq_getD_getElem?] at h6 ⊢
      have:e.on<listed.size:=by omega
      rw [Array.getElem?_eq_getElem this] at h6 ⊢
      exact h6
  -- the tail comes in order
  have tail : ∀ m fuel t (listed:Array Bool) (acc:List Nat) i,listed.size=l.length→k≤i→i+m=l.length→m≤fuel→(∀ j,j<l.length→(listed.getD j true=true↔j<i))→
      Region.linearise.go .any l.toArray fuel t listed acc=acc.reverse++List.range' i m:=by
    intro m
    induction m with
    | zero=>
      intro fuel t listed acc i hs hki hi hf hl
      cases fuel with
      | zero=>simp [Region.linearise.go]
      | succ fuel=>
        rw [Wz]
        have:(range l.length).filter (ready l listed)=[]:=by
          rw [List.filter_eq_nil_iff]
          intro j hj
          have:=(hl j (mem_range.1 hj)).2 (by have:=mem_range.1 hj;omega)
          unfold ready
          rw [this];simp
        rw [this];simp
    | succ m ih=>
      intro fuel t listed acc i hs hki hi hf hl
      obtain ⟨fuel,rfl⟩:∃ f,fuel=f+1:=⟨fuel-1,by omega⟩
      have hilt:i<l.length:=by omega
      have hone:∀ j,j<l.length→(ready l listed j=true↔j=i):=by
        intro j hj
        constructor
        · intro hr
          have h1:listed.getD j true=false:=by
            unfold ready at hr;rw [Bool.and_eq_true] at hr;simpa using hr.1
          have h2:¬ j<i:=fun h=>by rw [(hl j hj).2 h] at h1;cases h1
          by_cases e:j=i
          · exact e
          · exfalso
            obtain ⟨_,h3⟩:=hready listed j l[j] hs (getElem?_eq_getElem hj) hr (fun i' o' ho' hi' j' hj' hd'=>(hl j' (by have:=(List.getElem?_eq_some_iff.1 ho').1;omega)).2 (by
              have:=(hl i' (List.getElem?_eq_some_iff.1 ho').1).1 hi'
              omega))
            have h4:=h3 i (by omega) ((chk j _ (getElem?_eq_getElem hj)).2.2.2.1 (by omega) i (by omega))
            have:=(hl i hilt).1 h4
            omega
        · rintro rfl
          refine hleast listed hs j hj ?_ fun j' hj'=>(hl j' (by omega)).2 hj'
          rw [← Bool.not_eq_true]
          intro h
          have:=(hl j hj).1 h
          omega
      have hrs:(range l.length).filter (ready l listed)=[i]:=by
        have h1:(range l.length).filter (ready l listed)=(range l.length).filter (fun j=>j==i):=List.filter_congr fun j hj=>by
          rw [Bool.eq_iff_iff,hone j (mem_range.1 hj)];simp
        rw [h1]
        have:(range l.length).filter (fun j=>j==i)=replicate (List.count i (range l.length)) i:=by rw [← List.filter_beq]
        rw [this,List.count_range,if_pos hilt]
        rfl
      rw [Wz,hrs]
      simp only [List.length_singleton,Nat.mod_one,getElem?_cons_zero]
      rw [ih fuel _ (listed.setIfInBounds i true) (i::acc) (i+1) (by simpa using hs) (by omega) (by omega) (by omega)]
      · simp [List.range'_succ]
      · intro j hj
        rw [Mb listed i j (by omega)]
        by_cases e:j=i
        · subst e;rw [Nat.beq_refl];simp
        · rw [ZU e]
          simp only [cond_false,hl j hj]
          omega
  -- the head
  intro F rs₀ w₀ m₀
  refine wpIn_region_draw fun t=>?_
  unfold Region.schedule
  rw [hmix]
  simp only [Bool.true_or,if_true]
  have head : ∀ n fuel t (listed:Array Bool) (acc:List Nat),listed.size=l.length→((range l.length).filter (fun j=> !listed.getD j true)).length=n→n≤fuel→
      (∀ i o,l[i]?=some o→listed.getD i true=true→∀ j,j<i→dep b i j=true→listed.getD j true=true)→
      (∀ j,j<l.length→k≤j→listed.getD j true=true→False)→
      ∃ rest,Region.linearise.go .any l.toArray fuel t listed acc=acc.reverse++rest∧
        ∀ rs ρ M w,Mem w (M.flatten++(dfb rs++F)) H→I (fun j=>listed.getD j true) ρ M→wpOpsIn (Fw c.r) 0 c.P l.toArray (X9 c H F Q) rest (act c.n (XW rs) ρ) w:=by
    intro n
    induction n with
    | zero=>
      intro fuel t listed acc hs hcnt hf hcl htl
      have hall:∀ j,j<l.length→listed.getD j true=true:=fun j hj=>by
        have:=MU _ hcnt j (mem_range.2 hj);simpa using this
      have hkl:k=l.length:=by
        by_cases e:k=l.length
        · exact e
        · exact (htl k (by omega) (Nat.le_refl _) (hall k (by omega))).elim
      refine ⟨[],?_,fun rs ρ M w hm hI=>?_⟩
      · have:=tail 0 fuel t listed acc l.length hs hk (by omega) (by omega) (fun j hj=>by simp [hall j hj,hj])
        simpa using this
      · have:=htail _ ρ M (fun j hj=>hall j (by omega)) hI F rs w hm
        rw [hkl,List.drop_length] at this
        exact this
    | succ n ih =>
      intro fuel t listed acc hs hcnt hf hcl htl
      by_cases hall:∀ j,j<k→listed.getD j true=true
      · -- the tail
        refine ⟨List.range' k (l.length-k),?_,fun rs ρ M w hm hI=>?_⟩
        · refine tail (l.length-k) fuel t listed acc k hs (Nat.le_refl _) (by omega) ?_ fun j hj=>?_
          · have h1:((range l.length).filter (fun j=> !listed.getD j true))=List.range' k (l.length-k):=by
              rw [List.range_eq_range',show List.range' 0 l.length=List.range' 0 k++List.range' k (l.length-k) from by
                have h:=@List.range'_append_1 0 k (l.length-k)
                rw [Nat.zero_add,Nat.add_sub_cancel' hk] at h
                exact h.symm,filter_append]
              have e1:(List.range' 0 k).filter (fun j=> !listed.getD j true)=[]:=by
                rw [List.filter_eq_nil_iff]
                intro j hj
                have:=List.mem_range'_1.1 hj
                rw [hall j (by omega)];simp
              have e2:(List.range' k (l.length-k)).filter (fun j=> !listed.getD j true)=List.range' k (l.length-k):=by
                rw [List.filter_eq_self]
                intro j hj
                have:=List.mem_range'_1.1 hj
                cases hx:listed.getD j true with
                | false=>rfl
                | true=>exact (htl j (by omega) (by omega) hx).elim
              rw [e1,e2,nil_append]
            rw [h1,List.length_range'] at hcnt
            omega
          · constructor
            · intro h
              by_cases e:j<k
              · exact e
              · exact (htl j hj (by omega) h).elim
            · exact hall j
        · have:=htail _ ρ M (fun j hj=>hall j hj) hI F rs w hm
          have h5:=KU c l.toArray (X9 c H F Q) (l.drop k) k (fun j=>by simp) _ _ this
          rwa [length_drop] at h5
      · obtain ⟨fuel,rfl⟩:∃ f,fuel=f+1:=⟨fuel-1,by omega⟩
        obtain ⟨m,hm1,hm2,hm3⟩:=least (p:=fun j=>listed.getD j true) k (by
          by_cases h:∃ i,i<k∧listed.getD i true=false
          · exact h
          · exfalso
            apply hall
            intro j hj
            cases hx:listed.getD j true with
            | true=>rfl
            | false=>exact absurd ⟨j,hj,hx⟩ h)
        have hmr:=hleast listed hs m (by omega) hm2 hm3
        have hne:(range l.length).filter (ready l listed)≠[]:=fun h=>by
          have:m∈(range l.length).filter (ready l listed):=mem_filter.2 ⟨mem_range.2 (by omega),hmr⟩
          rw [h] at this;cases this
        have hpos:0<((range l.length).filter (ready l listed)).length:=List.length_pos_iff.2 hne
        obtain ⟨i,hi⟩:∃ i,((range l.length).filter (ready l listed))[t % ((range l.length).filter (ready l listed)).length]?=some i:=⟨_,getElem?_eq_getElem (Nat.mod_lt _ hpos)⟩
        have him:=mem_of_getElem? hi
        obtain ⟨hi1,hir⟩:=mem_filter.1 him
        have hil:=mem_range.1 hi1
        obtain ⟨o,ho⟩:∃ o,l[i]?=some o:=⟨_,getElem?_eq_getElem hil⟩
        obtain ⟨hin,hid⟩:=hready listed i o hs ho hir hcl
        have hik:i<k:=by
          by_cases e:i<k
          · exact e
          · exfalso
            have:=hid m (by omega) ((chk i o ho).2.2.2.1 (by omega) m (by omega))
            rw [hm2] at this;cases this
        have hset:∀ j,(listed.setIfInBounds i true).getD j true=cond (Nat.beq j i) true (listed.getD j true):=fun j=>Mb listed i j (by omega)
        have hcnt':=R7 (p:=fun j=> !listed.getD j true) (p':=fun j=> !(listed.setIfInBounds i true).getD j true) (i:=i) (range l.length) List.nodup_range (mem_range.2 hil) (by simp [hin]) (by simp [hset]) (fun j hj=>by simp [hset,ZU hj])
        obtain ⟨rest,hgo,hrest⟩:=ih fuel (t / ((range l.length).filter (ready l listed)).length) (listed.setIfInBounds i true) (i::acc) (by simpa using hs) (by omega) (by omega)
          (fun i' o' ho' hi' j hj hd=>by
            rw [hset] at hi' ⊢
            by_cases e:i'=i
            · subst e
              rw [ZU (by omega)]
              exact hid j hj hd
            · rw [ZU e] at hi'
              have:=hcl i' o' ho' hi' j hj hd
              rw [this];cases Nat.beq j i <;> rfl)
          (fun j hj hkj h=>by
            rw [hset,ZU (by omega)] at h
            exact htl j hj hkj h)
        refine ⟨i::rest,?_,fun rs ρ M w hm hI=>?_⟩
        · rw [Wz,hi]
          simp only [hgo]
          simp
        · have hjl:=hstep (fun j=>listed.getD j true) i o ρ M hik ho hin hid (fun i' j hi' hs' hj hd=>hcl i' l[i'] (getElem?_eq_getElem (by omega)) hs' j hj hd) hI F rs w hm
          have hfin:∀ a' w',X9 c H F ⟨fun ρ' M'=>∀ S',(∀ j,S' j=cond (Nat.beq j i) true (listed.getD j true))→I S' ρ' M',fun _ _=>False,[]⟩ .normal a' w'→
              wpOpsIn (Fw c.r) 0 c.P l.toArray (X9 c H F Q) rest a' w':=fun a' w' ⟨rs',ρ',M',ha,hm',hI'⟩=>by
            subst ha
            exact hrest rs' ρ' M' w' hm' (hI' _ hset)
          have ho':l.toArray[i]?=some o:=by simpa using ho
          simp only [wpOpsIn,ho']
          unfold wlo at hjl
          split at hjl
          · rename_i hw
            rw [if_pos hw]
            refine ⟨hjl.1,?_⟩
            have h2:=hjl.2
            revert h2
            generalize (o.semAt (Fw c.r).round (act c.n (XW rs) ρ).eval).run c.P w=res
            intro h2
            cases res with
            | ok x w'=>
              cases x with
              | value v=>exact hfin _ _ h2
              | skip=>exact hfin _ _ h2
              | defer d=>exact hfin _ _ h2
              | enter f args=>
                refine ⟨h2.1,h2.2.mono fun e w'' hq=>?_⟩
                cases e with
                | returned v=>exact hfin _ _ hq
                | panicked ch=>obtain ⟨_,_,_,_,_,hx⟩:=hq;exact hx.elim
                | outgrown=>obtain ⟨_,_,_,_,_,_,_,hx⟩:=hq;exact hx.elim
              | row r args=>exact ⟨h2.1,h2.2.mono fun v w'' hq=>hfin _ _ hq⟩
              | round lp f tmps as body=>
                refine ⟨h2.1,h2.2.mono fun e w'' hq=>?_⟩
                cases e with
                | returned v=>exact hfin _ _ hq
                | panicked ch=>obtain ⟨_,_,_,_,_,hx⟩:=hq;exact hx.elim
                | outgrown=>obtain ⟨_,_,_,_,_,_,_,hx⟩:=hq;exact hx.elim
              | _=>exact h2.elim
            | halt x w'=>
              cases x with
              | panic v=>obtain ⟨_,_,_,_,_,hx⟩:=h2;exact hx.elim
              | _=>exact h2
          · rename_i hw
            rw [if_neg hw]
            exact ⟨fun _ _=>trivial,hfin _ _ hjl⟩
  obtain ⟨rest,hgo,hrest⟩:=head ((range l.length).filter (fun j=> !(Array.replicate l.length false).getD j true)).length l.length t (Array.replicate l.length false) [] (by simp) rfl
    (by have:=length_filter_le (fun j=> !(Array.replicate l.length false).getD j true) (range l.length);simpa using this)
    (fun i o ho h=>by
      have:=(List.getElem?_eq_some_iff.1 ho).1
      rw [Array.getD_eq_getD_getElem?] at h
      simp [this] at h)
    (fun j hj _ h=>by
      rw [Array.getD_eq_getD_getElem?] at h
      simp [hj] at h)
  rw [show Region.linearise .any l.toArray t=rest from by
    have:=hgo
    simp only [List.reverse_nil,nil_append] at this
    rw [← this]
    unfold Region.linearise
    simp]
  refine hrest rs₀ ρ₀ M₀ _ (m₀.congr rfl) (h0 _ fun j hj=>?_)
  rw [Array.getD_eq_getD_getElem?]
  simp [show j<l.length by omega]
theorem S5 {ops:Array Oper} {o:Oper} {ρ:Nat→Value} {M:List Zf} {N N':Y2} (h:JL c H ops [o] ρ M ⟨N,fun _ _=>False,[]⟩) (h':∀ ρ M,N ρ M→N' ρ M):JL c H ops [o] ρ M ⟨N',fun _ _=>False,[]⟩:=fun F rs w m=>by
  have hjl:=h F rs w m
  have hfin:∀ a w,X9 c H F ⟨N,fun _ _=>False,[]⟩ .normal a w→X9 c H F ⟨N',fun _ _=>False,[]⟩ .normal a w:=fun a w ⟨rs,ρ,M,ha,hm,hn⟩=>⟨rs,ρ,M,ha,hm,h' _ _ hn⟩
  unfold wlo at hjl ⊢
  split at hjl
  · rename_i hw
    rw [if_pos hw]
    refine ⟨hjl.1,?_⟩
    have h2:=hjl.2
    revert h2
    generalize (o.semAt (Fw c.r).round (act c.n (XW rs) ρ).eval).run c.P w=res
    intro h2
    cases res with
    | ok x w'=>
      cases x with
      | value v=>exact hfin _ _ h2
      | skip=>exact hfin _ _ h2
      | defer d=>exact hfin _ _ h2
      | enter f args=>
        refine ⟨h2.1,h2.2.mono fun e w'' hq=>?_⟩
        cases e with
        | returned v=>exact hfin _ _ hq
        | panicked ch=>obtain ⟨_,_,_,_,_,hx⟩:=hq;exact hx.elim
        | outgrown=>obtain ⟨_,_,_,_,_,_,_,hx⟩:=hq;exact hx.elim
      | row r args=>exact ⟨h2.1,h2.2.mono fun v w'' hq=>hfin _ _ hq⟩
      | round lp f tmps as body=>
        refine ⟨h2.1,h2.2.mono fun e w'' hq=>?_⟩
        cases e with
        | returned v=>exact hfin _ _ hq
        | panicked ch=>obtain ⟨_,_,_,_,_,hx⟩:=hq;exact hx.elim
        | outgrown=>obtain ⟨_,_,_,_,_,_,_,hx⟩:=hq;exact hx.elim
      | _=>exact h2.elim
    | halt x w'=>
      cases x with
      | panic v=>obtain ⟨_,_,_,_,_,hx⟩:=h2;exact hx.elim
      | _=>exact h2
  · rename_i hw
    rw [if_neg hw]
    exact hfin _ _ hjl
theorem QN {α:Type} {z:α} {b:Array Nat} {i:Nat} {r r':Nat→α} (h:∀ j,dep b i j=true→r j=r' j):rst z b i r=rst z b i r':=by
  funext j
  unfold rst
  cases hd:dep b i j with
  | true=>exact h j hd
  | false=>rfl
end
section
variable {c:Cx} {H:Heap}
theorem BV {ops:Array Oper} {o:Oper} {ρ:Nat→Value} {M:List Zf} {G:Y2} (h:JL c H ops [o] ρ M ⟨G,fun _ _=>False,[]⟩)
    {F:Zf} {rs:List Nat} {w:World} (m:Mem w (M.flatten++(dfb rs++F)) H):∃ ρ' M' rs' w',G ρ' M'∧Mem w' (M'.flatten++(dfb rs'++F)) H:=by
  have h:=h F rs w m
  have hroom:∀ n,(Fw c.r).room n:=fun n d hd=>by cases hd
  unfold wlo at h
  have fin:∀ a' w',X9 c H F ⟨G,fun _ _=>False,[]⟩ .normal a' w'→∃ ρ' M' rs' w',G ρ' M'∧Mem w' (M'.flatten++(dfb rs'++F)) H:=fun a' w' ⟨rs',ρ',M',_,hm,hg⟩=>⟨ρ',M',rs',w',hg,hm⟩
  split at h
  · have h2:=h.2
    revert h2
    generalize (o.semAt (Fw c.r).round (act c.n (XW rs) ρ).eval).run c.P w=res
    intro h2
    cases res with
    | ok x w'=>
      cases x with
      | value v=>exact fin _ _ h2
      | skip=>exact fin _ _ h2
      | defer d=>exact fin _ _ h2
      | enter f args=>
        obtain ⟨_,_,h3⟩:=h2
        obtain ⟨e,w'',_,hq,_⟩:=h3 [] (hroom _)
        cases e with
        | returned v=>exact fin _ _ hq
        | panicked ch=>obtain ⟨_,_,_,_,_,hx⟩:=hq;exact hx.elim
        | outgrown=>obtain ⟨_,_,_,_,_,_,_,hx⟩:=hq;exact hx.elim
      | row r args=>
        obtain ⟨_,h3⟩:=h2
        obtain ⟨v,w'',hq,_⟩:=h3 (Frame.enter c.P 0 #[] .normal) [] (hroom _)
        exact fin _ _ hq
      | round lp f tmps as body=>
        obtain ⟨_,_,h3⟩:=h2
        obtain ⟨e,w'',hq,_⟩:=h3 (Frame.enter c.P 0 #[] .normal) [] (hroom _)
        cases e with
        | returned v=>exact fin _ _ hq
        | panicked ch=>obtain ⟨_,_,_,_,_,hx⟩:=hq;exact hx.elim
        | outgrown=>obtain ⟨_,_,_,_,_,_,_,hx⟩:=hq;exact hx.elim
      | _=>exact h2.elim
    | halt x w'=>
      cases x with
      | panic v=>obtain ⟨_,_,_,_,_,hx⟩:=h2;exact hx.elim
      | _=>exact h2.elim
  · exact fin _ _ h
end
abbrev X4:=(Nat→Value)→(Nat→List Zf)→Value→List Zf→Prop
def Z6 {α:Type} (r:Nat→α) (m:Nat) (v:α):Nat→α:=fun j=>cond (Nat.beq j m) v (r j)
def mk {α:Type} (z:α) (b:Array Nat) (i:Nat) (r:Nat→α):Nat→α:=fun j=>cond (Nat.blt j i&&dep b i j) (r j) z
def UK:List (Option Nat)→Nat→Nat→Option Nat
  | [],_,_=>none
  | some d::ds,x,j=>cond (Nat.beq d x) (some j) (UK ds x (j+1))
  | none::ds,x,j=>UK ds x (j+1)
def YC (b:Array Nat) (ds:List (Option Nat)) (i:Nat) (r:Nat→Value) (ρ₀ ρx:Nat→Value):Nat→Value:=fun x=>
  match UK ds x 0 with
  | some j=>cond (Nat.blt j i&&dep b i j) (r j) (ρx x)
  | none=>ρ₀ x
def Kx (ds:List (Option Nat)) (r:Nat→Value) (ρ₀:Nat→Value):Nat→Value:=fun x=>
  match UK ds x 0 with
  | some j=>r j
  | none=>ρ₀ x
def Wr (f:Nat→Bool) (N:Nat→List Zf):Nat→List Zf
  | 0=>[]
  | j+1=>cond (f j) (N j++Wr f N j) (Wr f N j)
def W6 (f:Nat→Bool):Nat→List Zf→List Zf
  | _,[]=>[]
  | x,k::ks=>cond (f x) (k::W6 f (x+1) ks) (W6 f (x+1) ks)
def Uq (b:Array Nat) (cs:List (Nat×Nat)) (i j:Nat):Bool:=(Nat.blt j i&&dep b i j)&&cs.all (fun a=> !(Nat.beq a.2 j)||dep b a.1 i)
def TU (b:Array Nat) (cs:List (Nat×Nat)) (k i x:Nat):Bool:=cs.all (fun a=> !(Nat.beq a.2 (k+x))||dep b a.1 i)
def isC (cs:List (Nat×Nat)) (i x:Nat):Bool:=cs.any (fun a=>Nat.beq a.1 i&&Nat.beq a.2 x)
def Xr (b:Array Nat) (cs:List (Nat×Nat)) (k i:Nat) (N:Nat→List Zf) (M₀:List Zf):List Zf:=Wr (Uq b cs i) N k++W6 (TU b cs k i) 0 M₀
def Vl (b:Array Nat) (cs:List (Nat×Nat)) (k i:Nat) (N:Nat→List Zf) (M₀:List Zf):List Zf:=
  Wr (fun j=>Uq b cs i j&& !isC cs i j) N k++W6 (fun x=>TU b cs k i x&& !isC cs i (k+x)) 0 M₀
def Kb (cs:List (Nat×Nat)) (k:Nat) (N:Nat→List Zf) (M₀:List Zf):List Zf:=
  Wr (fun j=>cs.all (fun a=> !(Nat.beq a.2 j))) N k++W6 (fun x=>cs.all (fun a=> !(Nat.beq a.2 (k+x)))) 0 M₀
def Sr (cs:List (Nat×Nat)) (k:Nat) (S:Nat→Bool) (N:Nat→List Zf) (M₀:List Zf):List Zf:=
  Wr (fun j=>S j&&cs.all (fun a=> !(Nat.beq a.2 j)|| !S a.1)) N k++W6 (fun x=>cs.all (fun a=> !(Nat.beq a.2 (k+x))|| !S a.1)) 0 M₀
def KF (b:Array Nat) (cs:List (Nat×Nat)) (k:Nat):Bool:=cs.all (fun a=>Nat.blt a.1 k&&(Nat.ble k a.2||Uq b cs a.1 a.2)&&(Nat.blt a.2 k||TU b cs k a.1 (a.2-k)))
theorem X8 {f g:Nat→Bool} {N N':Nat→List Zf}:∀ {k:Nat},(∀ j,j<k→f j=g j)→(∀ j,j<k→f j=true→N j=N' j)→Wr f N k=Wr g N' k
  | 0,_,_=>rfl
  | k+1,h,h'=>by
    have ih:=X8 (k:=k) (fun j hj=>h j (by omega)) (fun j hj=>h' j (by omega))
    unfold Wr
    rw [← h k (by omega),ih]
    cases e:f k with
    | true=>rw [h' k (by omega) e]
    | false=>rfl
theorem TI {f g:Nat→Bool}:∀ {M:List Zf} {x:Nat},(∀ j,x≤j→j<x+M.length→f j=g j)→W6 f x M=W6 g x M
  | [],_,_=>rfl
  | k::ks,x,h=>by
    have ih:=TI (f:=f) (g:=g) (M:=ks) (x:=x+1) (fun j h1 h2=>h j (by omega) (by simp only [length_cons];omega))
    unfold W6
    rw [← h x (by omega) (by simp only [length_cons];omega),ih]
theorem VA (a b c:Zf):(a++(b++c)).Perm (b++(a++c)):=by
  rw [← append_assoc,← append_assoc];exact List.Perm.append_right c perm_append_comm
theorem V7 {f g:Nat→Bool} {N:Nat→List Zf} (h:∀ j,f j=true→g j=true):∀ {k:Nat},(Wr g N k).flatten.Perm ((Wr f N k).flatten++(Wr (fun j=>g j&& !f j) N k).flatten)
  | 0=>List.Perm.refl _
  | k + 1=>by
    have ih:=V7 (N:=N) h (k:=k)
    unfold Wr
    cases ef:f k with
    | true=>
      rw [h k ef]
      simp only [Bool.not_true,Bool.and_false,cond_true,cond_false,flatten_append,append_assoc]
      exact ih.append_left _
    | false=>
      cases eg:g k with
      | true=>
        simp only [Bool.not_false,Bool.and_true,cond_true,cond_false,flatten_append]
        exact (ih.append_left _).trans (VA _ _ _)
      | false=>simpa only [Bool.false_and,cond_false] using ih
theorem V9 {f g:Nat→Bool} (h:∀ j,f j=true→g j=true):∀ {M:List Zf} {x:Nat},(W6 g x M).flatten.Perm ((W6 f x M).flatten++(W6 (fun j=>g j&& !f j) x M).flatten)
  | [],_=>List.Perm.refl _
  | m ::M,x=>by
    have ih:=V9 h (M:=M) (x:=x+1)
    unfold W6
    cases ef:f x with
    | true=>
      rw [h x ef]
      simp only [Bool.not_true,Bool.and_false,cond_true,cond_false,flatten_cons,append_assoc]
      exact ih.append_left _
    | false=>
      cases eg:g x with
      | true=>
        simp only [Bool.not_false,Bool.and_true,cond_true,cond_false,flatten_cons]
        exact (ih.append_left _).trans (VA _ _ _)
      | false=>simpa only [Bool.false_and,cond_false] using ih
theorem MC {f g:Nat→Bool} {N:Nat→List Zf} {i:Nat} {q:List Zf} (hf:f i=false) (hg:g i=true) (h:∀ j,j≠i→g j=f j):∀ {k:Nat},i<k→(Wr g (Z6 N i q) k).flatten.Perm (q.flatten++(Wr f N k).flatten)
  | k + 1,hk=>by
    unfold Wr
    by_cases e:k=i
    · subst e
      rw [hf,hg,show Z6 N k q k=q from by unfold Z6;rw [Nat.beq_refl];rfl]
      simp only [cond_true,cond_false,flatten_append]
      rw [X8 (k:=k) (f:=g) (g:=f) (N:=Z6 N k q) (N':=N) (fun j hj=>h j (by omega)) (fun j hj _=>by unfold Z6;rw [ZU (by omega)];rfl)]
    · have ih:=MC (N:=N) (q:=q) hf hg h (k:=k) (by omega)
      rw [h k e]
      cases f k with
      | true=>
        rw [show Z6 N i q k=N k from by unfold Z6;rw [ZU e];rfl]
        simp only [cond_true,flatten_append]
        exact (ih.append_left _).trans (VA _ _ _)
      | false=>simpa only [cond_false] using ih
section
variable {c:Cx} {H:Heap}
theorem Ij {ops:Array Oper} {o:Oper} {F F':Zf} {N N':Y2} {a:Act} {w:World} (h:wlo c ops (X9 c H F ⟨N,fun _ _=>False,[]⟩) [o] a w)
    (hfin:∀ a w,X9 c H F ⟨N,fun _ _=>False,[]⟩ .normal a w→X9 c H F' ⟨N',fun _ _=>False,[]⟩ .normal a w):wlo c ops (X9 c H F' ⟨N',fun _ _=>False,[]⟩) [o] a w:=by
  unfold wlo at h ⊢
  split at h
  · rename_i hw
    rw [if_pos hw]
    refine ⟨h.1,?_⟩
    have h2:=h.2
    revert h2
    generalize (o.semAt (Fw c.r).round a.eval).run c.P w=res
    intro h2
    cases res with
    | ok x w'=>
      cases x with
      | value v=>exact hfin _ _ h2
      | skip=>exact hfin _ _ h2
      | defer d=>exact hfin _ _ h2
      | enter f args=>
        refine ⟨h2.1,h2.2.mono fun e w'' hq=>?_⟩
        cases e with
        | returned v=>exact hfin _ _ hq
        | panicked ch=>obtain ⟨_,_,_,_,_,hx⟩:=hq;exact hx.elim
        | outgrown=>obtain ⟨_,_,_,_,_,_,_,hx⟩:=hq;exact hx.elim
      | row r args=>exact ⟨h2.1,h2.2.mono fun v w'' hq=>hfin _ _ hq⟩
      | round lp f tmps as body=>
        refine ⟨h2.1,h2.2.mono fun e w'' hq=>?_⟩
        cases e with
        | returned v=>exact hfin _ _ hq
        | panicked ch=>obtain ⟨_,_,_,_,_,hx⟩:=hq;exact hx.elim
        | outgrown=>obtain ⟨_,_,_,_,_,_,_,hx⟩:=hq;exact hx.elim
      | _=>exact h2.elim
    | halt x w'=>
      cases x with
      | panic v=>obtain ⟨_,_,_,_,_,hx⟩:=h2;exact hx.elim
      | _=>exact h2
  · rename_i hw
    rw [if_neg hw]
    exact hfin _ _ h
theorem JI (M R:List Zf) (D F:Zf):((M++R).flatten++(D++F)).Perm (M.flatten++(D++(R.flatten++F))):=by
  rw [flatten_append,append_assoc]
  exact List.Perm.append_left _ (VA _ _ _)
theorem HQ {ops:Array Oper} {o:Oper} {ρ:Nat→Value} {M R:List Zf} {N:Y2} (h:JL c H ops [o] ρ M ⟨N,fun _ _=>False,[]⟩):
    JL c H ops [o] ρ (M++R) ⟨fun ρ' M'=>∃ M1,M'=M1++R∧N ρ' M1,fun _ _=>False,[]⟩:=fun F rs w m=>
  Ij (h (R.flatten++F) rs w (m.perm (JI _ _ _ _))) fun _ _ ⟨rs',ρ',M1,ha,hm,hn⟩=>⟨rs',ρ',M1++R,ha,hm.perm (JI _ _ _ _).symm,M1,rfl,hn⟩
end
def pAt:List (Nat×X4)→Nat→Option X4
  | [],_=>none
  | (i,p)::ps,m=>cond (Nat.beq i m) (some p) (pAt ps m)
def TG:List (Option Nat)→Bool
  | []=>true
  | none::ds=>TG ds
  | some d::ds=>ds.all (fun y=>match y with | some e=> !(Nat.beq d e) | none=>true)&&TG ds
section
variable (c:Cx) (H:Heap) (l:List Oper) (b:Array Nat) (k:Nat) (ds:List (Option Nat)) (cs:List (Nat×Nat)) (P:List (Nat×X4)) (ρ₀:Nat→Value) (M₀:List Zf) (Q:Post)
def Dv (i:Nat) (o:Oper) (r:Nat→Value) (N:Nat→List Zf) (v:Value):Prop:=
  ((∀ ρx,wnt l.toArray c.n (YC b ds i r ρ₀ ρx) o=true)∧∀ ρx F w,Mem w ((Xr b cs k i N M₀).flatten++F) H→(execOp (ev c.n (YC b ds i r ρ₀ ρx)) o).run c.P w=.ok (.value v) w)∨
  ((∀ ρx,wnt l.toArray c.n (YC b ds i r ρ₀ ρx) o=false)∧v=undef)
def OB (i:Nat) (o:Oper) (r:Nat→Value) (N:Nat→List Zf) (p:X4):Prop:=
  ∀ ρx,JL c H l.toArray [o] (YC b ds i r ρ₀ ρx) (Xr b cs k i N M₀) ⟨fun ρ' M'=>∃ v q,ρ'=Xj (YC b ds i r ρ₀ ρx) o.dst v∧Sub (q++Vl b cs k i N M₀) M'∧p (mk undef b i r) (mk [] b i N) v q,fun _ _=>False,[]⟩
def OX (i:Nat) (o:Oper) (r:Nat→Value) (N:Nat→List Zf):Prop:=match pAt P i with
  | none=>∃ v,Dv c H l b k ds cs ρ₀ M₀ i o r N v
  | some p=>OB c H l b k ds cs ρ₀ M₀ i o r N p
def P0 (i:Nat) (o:Oper) (r:Nat→Value) (N:Nat→List Zf):Prop:=match pAt P i with
  | none=>N i=[]∧Dv c H l b k ds cs ρ₀ M₀ i o r N (r i)∧∀ v,Dv c H l b k ds cs ρ₀ M₀ i o r N v→v=r i
  | some p=>p (mk undef b i r) (mk [] b i N) (r i) (N i)
def DT:Nat→List Oper→(Nat→Value)→(Nat→List Zf)→Prop
  | _,[],r,N=>JL c H l.toArray (l.drop k) (Kx ds r ρ₀) (Kb cs k N M₀) Q
  | m,o::os,r,N=>match pAt P m with
    | none=>∃ v,Dv c H l b k ds cs ρ₀ M₀ m o r N v∧DT (m+1) os (Z6 r m v) (Z6 N m [])
    | some p=>OB c H l b k ds cs ρ₀ M₀ m o r N p∧∀ v q,p (mk undef b m r) (mk [] b m N) v q→DT (m+1) os (Z6 r m v) (Z6 N m q)
end
section
variable {c:Cx} {H:Heap} {l:List Oper} {b:Array Nat} {k:Nat} {ds:List (Option Nat)} {cs:List (Nat×Nat)} {P:List (Nat×X4)} {ρ₀:Nat→Value} {M₀:List Zf} {Q:Post}
theorem seen {b:Array Nat} {i j:Nat}:(Nat.blt j i&&dep b i j)=true↔j<i∧dep b i j=true:=by rw [Bool.and_eq_true,Nat.blt_eq]
theorem Ud {i:Nat} {r r':Nat→Value} {ρx:Nat→Value} (h:∀ j,j<i→dep b i j=true→r j=r' j):YC b ds i r ρ₀ ρx=YC b ds i r' ρ₀ ρx:=by
  funext x
  unfold YC
  cases UK ds x 0 with
  | none=>rfl
  | some j=>
    show cond _ _ _=cond _ _ _
    cases e:(Nat.blt j i&&dep b i j) with
    | false=>rfl
    | true=>exact h j (seen.1 e).1 (seen.1 e).2
theorem Wk {α:Type} {z:α} {i:Nat} {r r':Nat→α} (h:∀ j,j<i→dep b i j=true→r j=r' j):mk z b i r=mk z b i r':=by
  funext j
  unfold mk
  cases e:(Nat.blt j i&&dep b i j) with
  | false=>rfl
  | true=>exact h j (seen.1 e).1 (seen.1 e).2
theorem WH {i j:Nat} (h:Uq b cs i j=true):j<i∧dep b i j=true:=by
  unfold Uq at h
  rw [Bool.and_eq_true] at h
  exact seen.1 h.1
theorem Pd {i:Nat} {N N':Nat→List Zf} (h:∀ j,j<i→dep b i j=true→N j=N' j):Xr b cs k i N M₀=Xr b cs k i N' M₀:=by
  unfold Xr
  rw [X8 (fun _ _=>rfl) (fun j _ hj=>h j (WH hj).1 (WH hj).2)]
theorem Ke {i:Nat} {N N':Nat→List Zf} (h:∀ j,j<i→dep b i j=true→N j=N' j):Vl b cs k i N M₀=Vl b cs k i N' M₀:=by
  unfold Vl
  have e:=X8 (k:=k) (f:=fun j=>Uq b cs i j&& !isC cs i j) (N:=N) (N':=N') (fun _ _=>rfl) (fun j _ hj=>by
    simp only [Bool.and_eq_true] at hj
    exact h j (WH hj.1).1 (WH hj.1).2)
  rw [e]
theorem W4 {i:Nat} {o:Oper} {r r':Nat→Value} {N N':Nat→List Zf} {v:Value} (h:∀ j,j<i→dep b i j=true→r j=r' j∧N j=N' j) (d:Dv c H l b k ds cs ρ₀ M₀ i o r N v):Dv c H l b k ds cs ρ₀ M₀ i o r' N' v:=by
  unfold Dv at d ⊢
  rw [← Pd (fun j h1 h2=>(h j h1 h2).2)]
  rcases d with ⟨d1,d2⟩ | ⟨d1,d2⟩
  · exact .inl ⟨fun ρx=>by rw [← Ud (fun j h1 h2=>(h j h1 h2).1)];exact d1 ρx,fun ρx=>by rw [← Ud (fun j h1 h2=>(h j h1 h2).1)];exact d2 ρx⟩
  · exact .inr ⟨fun ρx=>by rw [← Ud (fun j h1 h2=>(h j h1 h2).1)];exact d1 ρx,d2⟩
theorem LG {i:Nat} {o:Oper} {r r':Nat→Value} {N N':Nat→List Zf} {p:X4} (h:∀ j,j<i→dep b i j=true→r j=r' j∧N j=N' j) (d:OB c H l b k ds cs ρ₀ M₀ i o r N p):OB c H l b k ds cs ρ₀ M₀ i o r' N' p:=by
  unfold OB at d ⊢
  rw [← Pd (fun j h1 h2=>(h j h1 h2).2),← Ke (fun j h1 h2=>(h j h1 h2).2),← Wk (fun j h1 h2=>(h j h1 h2).1),← Wk (fun j h1 h2=>(h j h1 h2).2)]
  intro ρx
  rw [← Ud (fun j h1 h2=>(h j h1 h2).1)]
  exact d ρx
theorem Di {i:Nat} {o:Oper} {r r':Nat→Value} {N N':Nat→List Zf} (h:∀ j,j<i→dep b i j=true→r j=r' j∧N j=N' j) (d:OX c H l b k ds cs P ρ₀ M₀ i o r N):OX c H l b k ds cs P ρ₀ M₀ i o r' N':=by
  unfold OX at d ⊢
  cases e:pAt P i with
  | none=>rw [e] at d;obtain ⟨v,d⟩:=d;exact ⟨v,W4 h d⟩
  | some p=>rw [e] at d;exact LG h d
theorem PR {i:Nat} {o:Oper} {r r':Nat→Value} {N N':Nat→List Zf} (h:∀ j,j<i→dep b i j=true→r j=r' j∧N j=N' j) (hi:r i=r' i∧N i=N' i) (d:P0 c H l b k ds cs P ρ₀ M₀ i o r N):P0 c H l b k ds cs P ρ₀ M₀ i o r' N':=by
  unfold P0 at d ⊢
  cases e:pAt P i with
  | none=>
    rw [e] at d
    show N' i=[]∧_
    rw [← hi.1,← hi.2]
    exact ⟨d.1,W4 h d.2.1,fun v hv=>d.2.2 v (W4 (fun j h1 h2=>⟨(h j h1 h2).1.symm,(h j h1 h2).2.symm⟩) hv)⟩
  | some p=>
    rw [e] at d
    show p _ _ _ _
    rw [← hi.1,← hi.2,← Wk (fun j h1 h2=>(h j h1 h2).1),← Wk (fun j h1 h2=>(h j h1 h2).2)]
    exact d
theorem VJ:∀ {ds:List (Option Nat)} {x j0 j:Nat},UK ds x j0=some j→∃ i,j=j0+i∧ds[i]?=some (some x)
  | [],_,_,_,h=>by cases h
  | none::ds,x,j0,j,h=>by
    obtain ⟨i,e,h2⟩:=VJ (ds:=ds) h
    exact ⟨i+1,by omega,by simpa using h2⟩
  | some d::ds,x,j0,j,h=>by
    unfold UK at h
    by_cases e:d=x
    · subst e;rw [Nat.beq_refl] at h;cases h;exact ⟨0,rfl,rfl⟩
    · rw [ZU e] at h
      obtain ⟨i,e,h2⟩:=VJ (ds:=ds) h
      exact ⟨i+1,by omega,by simpa using h2⟩
theorem Rq:∀ {ds:List (Option Nat)} {x j0:Nat},UK ds x j0=none→∀ i:Nat,ds[i]?≠some (some x)
  | [],_,_,_=>fun i h=>by simp at h
  | none::ds,x,j0,h=>fun i hi=>by
    cases i with
    | zero=>cases hi
    | succ i=>exact Rq (ds:=ds) h i (by simpa using hi)
  | some d::ds,x,j0,h=>fun i hi=>by
    unfold UK at h
    by_cases e:d=x
    · subst e;rw [Nat.beq_refl] at h;cases h
    · rw [ZU e] at h
      cases i with
      | zero=>simp at hi;exact e hi
      | succ i=>exact Rq (ds:=ds) h i (by simpa using hi)
theorem Rk:∀ {ds:List (Option Nat)},TG ds=true→∀ {i j x:Nat},ds[i]?=some (some x)→ds[j]?=some (some x)→i=j
  | [],_,i,_,_,h,_=>by simp at h
  | none::ds,hn,i,j,x,h,h'=>by
    cases i with
    | zero=>cases h
    | succ i=>
      cases j with
      | zero=>cases h'
      | succ j=>rw [Rk (ds:=ds) hn (i:=i) (j:=j) (x:=x) (by simpa using h) (by simpa using h')]
  | some d::ds,hn,i,j,x,h,h'=>by
    unfold TG at hn
    rw [Bool.and_eq_true,all_eq_true] at hn
    have key:∀ q,ds[q]?=some (some d)→False:=fun q hq=>by
      have:=hn.1 _ (mem_of_getElem? hq)
      simp at this
    cases i with
    | zero=>
      simp at h
      subst h
      cases j with
      | zero=>rfl
      | succ j=>exact (key j (by simpa using h')).elim
    | succ i=>
      cases j with
      | zero=>
        simp at h'
        subst h'
        exact (key i (by simpa using h)).elim
      | succ j=>rw [Rk (ds:=ds) hn.2 (i:=i) (j:=j) (x:=x) (by simpa using h) (by simpa using h')]
theorem VW (hdl:ds.length=k):∀ (os:List Oper) (m:Nat) (r r':Nat→Value) (N N':Nat→List Zf),m+os.length=k→(∀ j,j<m→r j=r' j∧N j=N' j)→
    DT c H l b k ds cs P ρ₀ M₀ Q m os r N→DT c H l b k ds cs P ρ₀ M₀ Q m os r' N'
  | [], m,r,r',N,N',hm,h,d=>by
    have hm:m=k:=by simpa using hm
    unfold DT at d ⊢
    have e1:Kx ds r ρ₀=Kx ds r' ρ₀:=by
      funext x
      unfold Kx
      cases e:UK ds x 0 with
      | none=>rfl
      | some j=>
        obtain ⟨i,hi,h2⟩:=VJ e
        have:=(List.getElem?_eq_some_iff.1 h2).1
        exact (h j (by omega)).1
    have e2:Kb cs k N M₀=Kb cs k N' M₀:=by
      unfold Kb
      rw [X8 (fun _ _=>rfl) (fun j hj _=>(h j (by omega)).2)]
    rw [← e1,← e2]
    exact d
  | o ::os,m,r,r',N,N',hm,h,d=>by
    have hf:∀ {α:Type} (z v:Nat→α) (u:α),(∀ j,j<m→z j=v j)→∀ j,j<m+1→Z6 z m u j=Z6 v m u j:=fun z v u hz j hj=>by
      unfold Z6
      by_cases e:j=m
      · subst e;rw [Nat.beq_refl];rfl
      · rw [ZU e];exact hz j (by omega)
    unfold DT at d ⊢
    simp only [length_cons] at hm
    cases e:pAt P m with
    | none=>
      rw [e] at d
      obtain ⟨v,d1,d2⟩:=d
      exact ⟨v,W4 (fun j h1 _=>h j h1) d1,VW hdl os (m+1) _ _ _ _ (by omega) (fun j hj=>⟨hf _ _ v (fun j hj=>(h j hj).1) j hj,hf _ _ [] (fun j hj=>(h j hj).2) j hj⟩) d2⟩
    | some p=>
      rw [e] at d
      refine ⟨LG (fun j h1 _=>h j h1) d.1,fun v q hp=>?_⟩
      rw [← Wk (fun j h1 _=>(h j h1).1),← Wk (fun j h1 _=>(h j h1).2)] at hp
      exact VW hdl os (m+1) _ _ _ _ (by omega) (fun j hj=>⟨hf _ _ v (fun j hj=>(h j hj).1) j hj,hf _ _ q (fun j hj=>(h j hj).2) j hj⟩) (d.2 v q hp)
def Agr (ds:List (Option Nat)) (ρ₀:Nat→Value) (S:Nat→Bool) (r ρ:Nat→Value):Prop:=∀ x,match UK ds x 0 with
  | some j=>S j=true→ρ x=r j
  | none=>ρ x=ρ₀ x
theorem Yz {α:Type} {r:Nat→α} {i:Nat} {v:α}:Z6 r i v i=v:=by unfold Z6;rw [Nat.beq_refl];rfl
theorem Yk {α:Type} {r:Nat→α} {i j:Nat} {v:α} (h:j≠i):Z6 r i v j=r j:=by unfold Z6;rw [ZU h];rfl
theorem Ak (hds:(l.take k).map (·.dst)=ds) (hnd:TG ds=true) (hc:KF b cs k=true) (hcp:cs.all (fun a=>(pAt P a.1).isSome)=true)
    {S:Nat→Bool} {i:Nat} {o:Oper} {r ρ:Nat→Value} {N:Nat→List Zf} {M:List Zf} (hi:i<k) (ho:l[i]?=some o) (hS:S i=false) (hdep:∀ j,j<i→dep b i j=true→S j=true)
    (hcl:∀ i' j,i'<k→S i'=true→j<i'→dep b i' j=true→S j=true) (hle:∀ i j,i<k→j<k→dep b i j=true→j≤i)
    (hob:OX c H l b k ds cs P ρ₀ M₀ i o r N) (hag:Agr ds ρ₀ S r ρ) (hM:Sub (Sr cs k S N M₀) M):
    JL c H l.toArray [o] ρ M ⟨fun ρ' M'=>∃ v q,P0 c H l b k ds cs P ρ₀ M₀ i o (Z6 r i v) (Z6 N i q)∧Agr ds ρ₀ (Z6 S i true) (Z6 r i v) ρ'∧Sub (Sr cs k (Z6 S i true) (Z6 N i q) M₀) M'∧
      (∀ p,pAt P i=some p→p (mk undef b i r) (mk [] b i N) v q)∧(pAt P i=none→Dv c H l b k ds cs ρ₀ M₀ i o r N v∧q=[]),fun _ _=>False,[]⟩:=by
  refine ZB hM ?_
  -- the slots
  have hρ:ρ=YC b ds i r ρ₀ ρ:=by
    funext x
    have:=hag x
    unfold YC
    cases e:UK ds x 0 with
    | none=>rw [e] at this;exact this
    | some j=>
      rw [e] at this
      show ρ x=cond _ _ _
      cases e2:(Nat.blt j i&&dep b i j) with
      | false=>rfl
      | true=>exact this (hdep j (seen.1 e2).1 (seen.1 e2).2)
  have hdsi:ds[i]?=some o.dst:=by rw [← hds,getElem?_map,getElem?_take,if_pos hi,ho];rfl
  have hagr':∀ v,Agr ds ρ₀ (Z6 S i true) (Z6 r i v) (Xj ρ o.dst v):=by
    intro v x
    have:=hag x
    cases e:UK ds x 0 with
    | none=>
      rw [e] at this
      show Xj ρ o.dst v x=ρ₀ x
      have hne:o.dst≠some x:=fun h=>Rq e i (by rw [hdsi,h])
      rw [← this]
      cases hod:o.dst with
      | none=>rfl
      | some y=>exact Us ρ v (fun h=>hne (by rw [hod,h]))
    | some j=>
      rw [e] at this
      show Z6 S i true j=true→Xj ρ o.dst v x=Z6 r i v j
      obtain ⟨j',hj1,hj2⟩:=VJ e
      have hj1:j=j':=by omega
      subst hj1
      by_cases hji:j=i
      · subst hji
        intro _
        rw [hdsi] at hj2
        rw [Option.some.inj hj2,Yz]
        show upd ρ x v x=v
        rw [Ur]
      · intro hSj
        rw [Yk hji] at hSj ⊢
        rw [← this hSj]
        have hne:o.dst≠some x:=fun h=>hji (Rk hnd hj2 (by rw [hdsi,h]))
        cases hod:o.dst with
        | none=>rfl
        | some y=>exact Us ρ v (fun h=>hne (by rw [hod,h]))
  -- who takes what
  have hcons:∀ a x,(a,x)∈cs→a<k∧(x<k→Uq b cs a x=true)∧(k≤x→TU b cs k a (x-k)=true):=by
    intro a x hax
    have:=all_eq_true.1 hc _ hax
    simp only [Bool.and_eq_true,Bool.or_eq_true,Nat.blt_eq,Nat.ble_eq] at this
    exact ⟨this.1.1,fun h=>this.1.2.resolve_left (by omega),fun h=>this.2.resolve_left (by omega)⟩
  have hSno:∀ a,a<k→dep b a i=true→S a=true→False:=by
    intro a ha hd hSa
    have hia:=hle a i ha hi hd
    by_cases e:a=i
    · subst e;rw [hS] at hSa;cases hSa
    · have:=hcl a i ha hSa (by omega) hd
      rw [hS] at this;cases this
  -- the memory that it sees is there
  have v1:∀ j,Uq b cs i j=true→(S j&&cs.all (fun a=> !(Nat.beq a.2 j)|| !S a.1))=true:=by
    intro j hj
    have hs:=WH hj
    unfold Uq at hj
    rw [Bool.and_eq_true,all_eq_true] at hj
    rw [Bool.and_eq_true,all_eq_true]
    refine ⟨hdep j hs.1 hs.2,fun a ha=>?_⟩
    have:=hj.2 a ha
    rw [Bool.or_eq_true] at this ⊢
    rcases this with h | h
    · exact .inl h
    · refine .inr ?_
      cases hSa:S a.1 with
      | false=>rfl
      | true=>exact (hSno a.1 (hcons a.1 a.2 ha).1 h hSa).elim
  have v2:∀ x,TU b cs k i x=true→cs.all (fun a=> !(Nat.beq a.2 (k+x))|| !S a.1)=true:=by
    intro x hj
    unfold TU at hj
    rw [all_eq_true] at hj ⊢
    intro a ha
    have:=hj a ha
    rw [Bool.or_eq_true] at this ⊢
    rcases this with h | h
    · exact .inl h
    · refine .inr ?_
      cases hSa:S a.1 with
      | false=>rfl
      | true=>exact (hSno a.1 (hcons a.1 a.2 ha).1 h hSa).elim
  -- what else there is
  let R:List Zf:=Wr (fun j=>(S j&&cs.all (fun a=> !(Nat.beq a.2 j)|| !S a.1))&& !Uq b cs i j) N k++W6 (fun x=>cs.all (fun a=> !(Nat.beq a.2 (k+x))|| !S a.1)&& !TU b cs k i x) 0 M₀
  have hsplit:(Sr cs k S N M₀).flatten.Perm ((Xr b cs k i N M₀++R).flatten):=by
    unfold Sr Xr
    simp only [R,flatten_append]
    have h1:=V7 (N:=N) v1 (k:=k)
    have h2:=V9 v2 (M:=M₀) (x:=0)
    refine (h1.append h2).trans ?_
    simp only [append_assoc]
    exact List.Perm.append_left _ (VA _ _ _)
  refine ZB (M':=Xr b cs k i N M₀++R) ⟨[],by rw [append_nil];exact hsplit⟩ ?_
  -- what is there behind it
  have hafter :∀ q M1,Sub (q++Vl b cs k i N M₀) M1→Sub (Sr cs k (Z6 S i true) (Z6 N i q) M₀) (M1++R):=by
    intro q M1 ⟨X,hX⟩
    have hnoti:cs.all (fun a=> !(Nat.beq a.2 i)|| !Z6 S i true a.1)=true:=by
      rw [all_eq_true]
      intro a ha
      by_cases e:a.2=i
      · have h3:=WH ((hcons a.1 a.2 ha).2.1 (by omega))
        rw [e] at h3
        have hne:a.1≠i:=by omega
        rw [Bool.or_eq_true]
        refine .inr ?_
        rw [Yk hne]
        cases hSa:S a.1 with
        | false=>rfl
        | true=>exact (hSno a.1 (hcons a.1 a.2 ha).1 h3.2 hSa).elim
      · rw [ZU e];rfl
    -- cells that are left, of what was made
    let g:Nat→Bool:=fun j=>(S j&&cs.all (fun a=> !(Nat.beq a.2 j)|| !S a.1))&& !isC cs i j
    let gB:Nat→Bool:=fun x=>cs.all (fun a=> !(Nat.beq a.2 (k+x))|| !S a.1)&& !isC cs i (k+x)
    have hall :∀ y,cs.all (fun a=> !(Nat.beq a.2 y)|| !Z6 S i true a.1)=(cs.all (fun a=> !(Nat.beq a.2 y)|| !S a.1)&& !isC cs i y):=by
      intro y
      rw [Bool.eq_iff_iff,Bool.and_eq_true,Bool.not_eq_true',all_eq_true,all_eq_true]
      unfold isC
      rw [List.any_eq_false]
      constructor
      · intro h
        refine ⟨fun a ha=>?_,fun a ha=>?_⟩
        · have:=h a ha
          rw [Bool.or_eq_true] at this ⊢
          rcases this with h' | h'
          · exact .inl h'
          · refine .inr ?_
            by_cases e:a.1=i
            · rw [e,Yz] at h';cases h'
            · rwa [Yk e] at h'
        · intro h'
          rw [Bool.and_eq_true,Nat.beq_eq,Nat.beq_eq] at h'
          have:=h a ha
          rw [h'.1,h'.2,Yz,Nat.beq_refl] at this
          cases this
      · rintro ⟨h1,h2⟩ a ha
        have h1:=h1 a ha
        have h2:=h2 a ha
        rw [Bool.or_eq_true] at h1 ⊢
        rcases h1 with h' | h'
        · exact .inl h'
        · by_cases e:a.1=i
          · by_cases e2:a.2=y
            · exfalso;apply h2;rw [e,e2,Nat.beq_refl,Nat.beq_refl];rfl
            · refine .inl ?_
              rw [ZU e2];rfl
          · refine .inr ?_
            rw [Yk e];exact h'
    have hgi:g i=false:=by simp only [g,hS,Bool.false_and]
    have p1:(Wr (fun j=>Z6 S i true j&&cs.all (fun a=> !(Nat.beq a.2 j)|| !Z6 S i true a.1)) (Z6 N i q) k).flatten.Perm (q.flatten++(Wr g N k).flatten):=by
      refine MC (f:=g) hgi ?_ ?_ hi
      · rw [Bool.and_eq_true];exact ⟨Yz,hnoti⟩
      · intro j hj
        simp only [g,hall,Yk hj,Bool.and_assoc]
    have p2:W6 (fun x=>cs.all (fun a=> !(Nat.beq a.2 (k+x))|| !Z6 S i true a.1)) 0 M₀=W6 gB 0 M₀:=TI fun x _ _=>hall (k+x)
    have p3:=V7 (N:=N) (f:=fun j=>Uq b cs i j&& !isC cs i j) (g:=g) (fun j hj=>by
      rw [Bool.and_eq_true] at hj
      simp only [g]
      rw [v1 j hj.1,hj.2];rfl) (k:=k)
    have p4:=V9 (f:=fun x=>TU b cs k i x&& !isC cs i (k+x)) (g:=gB) (fun x hx=>by
      rw [Bool.and_eq_true] at hx
      simp only [gB]
      rw [v2 x hx.1,hx.2];rfl) (M:=M₀) (x:=0)
    -- the rest is in R
    have p5:=V7 (N:=N) (f:=fun j=>g j&& !(Uq b cs i j&& !isC cs i j)) (g:=fun j=>(S j&&cs.all (fun a=> !(Nat.beq a.2 j)|| !S a.1))&& !Uq b cs i j) (fun j hj=>by
      simp only [g,Bool.and_eq_true,Bool.not_eq_true',Bool.and_eq_false_iff,Bool.not_eq_false'] at hj ⊢
      refine ⟨hj.1.1,?_⟩
      rcases hj.2 with h | h
      · exact h
      · rw [hj.1.2] at h;cases h) (k:=k)
    have p6:=V9 (f:=fun x=>gB x&& !(TU b cs k i x&& !isC cs i (k+x))) (g:=fun x=>cs.all (fun a=> !(Nat.beq a.2 (k+x))|| !S a.1)&& !TU b cs k i x) (fun x hx=>by
      simp only [gB,Bool.and_eq_true,Bool.not_eq_true',Bool.and_eq_false_iff,Bool.not_eq_false'] at hx ⊢
      refine ⟨hx.1.1,?_⟩
      rcases hx.2 with h | h
      · exact h
      · rw [hx.1.2] at h;cases h) (M:=M₀) (x:=0)
    refine ⟨X++((Wr (fun j=>((S j&&cs.all (fun a=> !(Nat.beq a.2 j)|| !S a.1))&& !Uq b cs i j)&& !(g j&& !(Uq b cs i j&& !isC cs i j))) N k).flatten++
      (W6 (fun x=>(cs.all (fun a=> !(Nat.beq a.2 (k+x))|| !S a.1)&& !TU b cs k i x)&& !(gB x&& !(TU b cs k i x&& !isC cs i (k+x)))) 0 M₀).flatten),?_⟩
    unfold Sr
    rw [p2]
    simp only [R,flatten_append] at hX ⊢
    unfold Vl at hX
    simp only [flatten_append] at hX
    refine (hX.append (p5.append p6)).trans ?_
    refine List.Perm.trans ?_ ((p1.trans (p3.append_left _)).append p4 |>.append_right _).symm
    generalize (Wr (fun j=>Uq b cs i j&& !isC cs i j) N k).flatten=A
    generalize (W6 (fun x=>TU b cs k i x&& !isC cs i (k+x)) 0 M₀).flatten=B
    generalize (Wr (fun j=>g j&& !(Uq b cs i j&& !isC cs i j)) N k).flatten=C
    generalize (W6 (fun x=>gB x&& !(TU b cs k i x&& !isC cs i (k+x))) 0 M₀).flatten=D
    generalize (Wr _ N k).flatten=E1
    generalize (W6 _ 0 M₀).flatten=G1
    generalize q.flatten=q'
    classical
    rw [List.perm_iff_count]
    intro z
    simp only [List.count_append]
    omega
  -- the operation
  refine S5 (N:=fun ρ' M'=>∃ M1,M'=M1++R∧∃ v q,ρ'=Xj ρ o.dst v∧Sub (q++Vl b cs k i N M₀) M1∧(∀ p,pAt P i=some p→p (mk undef b i r) (mk [] b i N) v q)∧
      (pAt P i=none→Dv c H l b k ds cs ρ₀ M₀ i o r N v∧q=[]∧∀ v',Dv c H l b k ds cs ρ₀ M₀ i o r N v'→v'=v)) (HQ (N:=fun ρ' M1=>∃ v q,ρ'=Xj ρ o.dst v∧Sub (q++Vl b cs k i N M₀) M1∧(∀ p,pAt P i=some p→p (mk undef b i r) (mk [] b i N) v q)∧
      (pAt P i=none→Dv c H l b k ds cs ρ₀ M₀ i o r N v∧q=[]∧∀ v',Dv c H l b k ds cs ρ₀ M₀ i o r N v'→v'=v)) ?_) ?_
  · unfold OX at hob
    cases hp:pAt P i with
    | none =>
      rw [hp] at hob
      obtain ⟨v,hv⟩:=hob
      -- it takes nothing
      have hno:∀ x,isC cs i x=false:=fun x=>by
        unfold isC
        rw [List.any_eq_false]
        intro a ha h
        rw [Bool.and_eq_true,Nat.beq_eq] at h
        have:=all_eq_true.1 hcp a ha
        rw [h.1,hp] at this
        cases this
      have hkept:Vl b cs k i N M₀=Xr b cs k i N M₀:=by
        unfold Vl Xr
        simp only [hno,Bool.not_false,Bool.and_true]
      have huniq:∀ {F':Zf} {w':World},Mem w' ((Xr b cs k i N M₀).flatten++F') H→∀ v',Dv c H l b k ds cs ρ₀ M₀ i o r N v'→v'=v:=by
        intro F' w' m' v' hv'
        rcases hv with ⟨h1,h2⟩ | ⟨h1,h2⟩
        · rcases hv' with ⟨g1,g2⟩ | ⟨g1,g2⟩
          · have e1:=h2 ρ F' w' m'
            rw [g2 ρ F' w' m'] at e1
            injection e1 with e1
            injection e1
          · exact absurd ((h1 ρ).symm.trans (g1 ρ)) (by simp)
        · rcases hv' with ⟨g1,g2⟩ | ⟨g1,g2⟩
          · exact absurd ((h1 ρ).symm.trans (g1 ρ)) (by simp)
          · rw [h2,g2]
      intro F rs w m
      have hdv:=huniq m
      have hfin:JL c H l.toArray [] (Xj ρ o.dst v) (Xr b cs k i N M₀) ⟨fun ρ' M1=>∃ v q,ρ'=Xj ρ o.dst v∧Sub (q++Vl b cs k i N M₀) M1∧(∀ p,(none:Option X4)=some p→p (mk undef b i r) (mk [] b i N) v q)∧
          ((none:Option X4)=none→Dv c H l b k ds cs ρ₀ M₀ i o r N v∧q=[]∧∀ v',Dv c H l b k ds cs ρ₀ M₀ i o r N v'→v'=v),fun _ _=>False,[]⟩:=
        Za ⟨v,[],rfl,by rw [hkept];exact Sub.refl,fun p hp=>(by cases hp),fun _=>⟨hv,rfl,hdv⟩⟩
      rcases id hv with ⟨h1,h2⟩ | ⟨h1,h2⟩
      · refine NX (by have:=h1 ρ;rw [← hρ] at this;exact this) ?_ F rs w m
        exact fun F' w' m'=>⟨v,w',_,.inl (by have:=h2 ρ F' w' m';rw [← hρ] at this;exact this),m',hfin⟩
      · subst h2
        exact WG (by have:=h1 ρ;rw [← hρ] at this;exact this) hfin F rs w m
    | some p=>
      rw [hp] at hob
      have:=hob ρ
      rw [← hρ] at this
      exact S5 this fun ρ' M' ⟨v,q,h1,h2,h3⟩=>⟨v,q,h1,h2,fun p' hp'=>by cases hp';exact h3,fun h=>by cases h⟩
  · rintro ρ' M' ⟨M1,rfl,v,q,rfl,hs,h1,h2⟩
    refine ⟨v,q,?_,hagr' v,hafter q M1 hs,h1,fun hp=>⟨(h2 hp).1,(h2 hp).2.1⟩⟩
    have hcg:∀ j,j<i→dep b i j=true→r j=Z6 r i v j∧N j=Z6 N i q j:=fun j hj _=>⟨(Yk (by omega)).symm,(Yk (by omega)).symm⟩
    unfold P0
    cases hp:pAt P i with
    | none=>
      obtain ⟨h3,h4,h5⟩:=h2 hp
      show Z6 N i q i=[]∧_
      rw [Yz,Yz]
      exact ⟨h4,W4 hcg h3,fun v' hv'=>h5 v' (W4 (fun j hj hd=>⟨(hcg j hj hd).1.symm,(hcg j hj hd).2.symm⟩) hv')⟩
    | some p=>
      show p _ _ _ _
      rw [Yz,Yz,← Wk (fun j hj hd=>(hcg j hj hd).1),← Wk (fun j hj hd=>(hcg j hj hd).2)]
      exact h1 p hp
theorem M5 (hds:(l.take k).map (·.dst)=ds) (hnd:TG ds=true) (hc:KF b cs k=true) (hcp:cs.all (fun a=>(pAt P a.1).isSome)=true) (hkl:k≤l.length) (hle:∀ i j,i<k→j<k→dep b i j=true→j≤i)
    (h0:DT c H l b k ds cs P ρ₀ M₀ Q 0 (l.take k) (fun _=>undef) (fun _=>[])) {S:Nat→Bool} {r:Nat→Value} {N:Nat→List Zf}
    (hcl:∀ i' j,i'<k→S i'=true→j<i'→dep b i' j=true→S j=true) (hg:∀ j o,j<k→l[j]?=some o→S j=true→P0 c H l b k ds cs P ρ₀ M₀ j o r N)
    {F:Zf} {rs:List Nat} {w:World} (m:Mem w ((Sr cs k S N M₀).flatten++(dfb rs++F)) H):∀ i,i≤k→
    ∃ r' N' rs' w',(∀ j,j<k→S j=true→r' j=r j∧N' j=N j)∧(∀ j o,j<k→l[j]?=some o→(S j||Nat.blt j i)=true→P0 c H l b k ds cs P ρ₀ M₀ j o r' N')∧
      Mem w' ((Sr cs k (fun j=>S j||Nat.blt j i) N' M₀).flatten++(dfb rs'++F)) H∧DT c H l b k ds cs P ρ₀ M₀ Q i ((l.take k).drop i) r' N':=by
  have hdl:ds.length=k:=by rw [← hds,length_map,length_take];omega
  intro i
  induction i with
  | zero=>
    intro _
    have e:(fun j=>S j||Nat.blt j 0)=S:=by funext j;simp [Nat.blt]
    refine ⟨r,N,rs,w,fun _ _ _=>⟨rfl,rfl⟩,fun j o hj ho hs=>hg j o hj ho (by rw [Bool.or_eq_true] at hs;exact hs.resolve_right (by simp [Nat.blt])),?_,?_⟩
    · rw [e];exact m
    · exact VW hdl _ 0 _ _ _ _ (by simp;omega) (fun j hj=>by omega) h0
  | succ i ih=>
    intro hik
    obtain ⟨r',N',rs',w',ha,hg',m',hd⟩:=ih (by omega)
    obtain ⟨o,ho⟩:∃ o,l[i]?=some o:=⟨_,getElem?_eq_getElem (by omega)⟩
    have hdrop:(l.take k).drop i=o::(l.take k).drop (i+1):=by
      rw [drop_eq_getElem_cons (by rw [length_take];omega)]
      congr 1
      rw [List.getElem_take]
      exact Option.some.inj ((getElem?_eq_getElem (by omega)).symm.trans ho)
    rw [hdrop] at hd
    unfold DT at hd
    have hlen:∀ (q:Nat),i+1+((l.take k).drop (i+1)).length=k:=fun _=>by rw [length_drop,length_take];omega
    by_cases hS:S i=true
    · -- it has been done
      have hfun:(fun j=>S j||Nat.blt j (i+1))=(fun j=>S j||Nat.blt j i):=by
        funext j
        by_cases e:j=i
        · subst e;rw [hS];rfl
        · rw [Bool.eq_iff_iff,Bool.or_eq_true,Bool.or_eq_true,Nat.blt_eq,Nat.blt_eq]
          constructor
          · rintro (h | h);exact .inl h;exact .inr (by omega)
          · rintro (h | h);exact .inl h;exact .inr (by omega)
      have hgi:=hg' i o (by omega) ho (by rw [hS];rfl)
      rw [hfun]
      refine ⟨r',N',rs',w',ha,fun j o hj ho hs=>hg' j o hj ho ((congrFun hfun j).symm.trans hs),m',?_⟩
      unfold P0 at hgi
      cases hp:pAt P i with
      | none=>
        rw [hp] at hd hgi
        obtain ⟨v,hv,hd⟩:=hd
        have:=hgi.2.2 v hv
        subst this
        refine VW hdl _ _ _ _ _ _ (hlen 0) (fun j hj=>?_) hd
        by_cases e:j=i
        · subst e;exact ⟨Yz,by rw [Yz,hgi.1]⟩
        · exact ⟨Yk e,Yk e⟩
      | some p=>
        rw [hp] at hd hgi
        refine VW hdl _ _ _ _ _ _ (hlen 0) (fun j hj=>?_) (hd.2 _ _ hgi)
        by_cases e:j=i
        · subst e;exact ⟨Yz,Yz⟩
        · exact ⟨Yk e,Yk e⟩
    · -- in thought
      have hS:S i=false:=by rw [← Bool.not_eq_true];exact hS
      let S':Nat→Bool:=fun j=>S j||Nat.blt j i
      have hS'i:S' i=false:=by simp only [S',hS,Bool.false_or];rw [← Bool.not_eq_true,Nat.blt_eq];omega
      have hob:OX c H l b k ds cs P ρ₀ M₀ i o r' N':=by
        unfold OX
        cases hp:pAt P i with
        | none=>rw [hp] at hd;obtain ⟨v,hv,_⟩:=hd;exact ⟨v,hv⟩
        | some p=>rw [hp] at hd;exact hd.1
      let ρ:Nat→Value:=fun x=>match UK ds x 0 with
        | some j=>r' j
        | none=>ρ₀ x
      have hag:Agr ds ρ₀ S' r' ρ:=by
        intro x
        simp only [ρ]
        cases UK ds x 0 with
        | none=>rfl
        | some j=>intro _;rfl
      have hcl':∀ i' j,i'<k→S' i'=true→j<i'→dep b i' j=true→S' j=true:=by
        intro i' j hi' hs hj hdj
        simp only [S',Bool.or_eq_true,Nat.blt_eq] at hs ⊢
        rcases hs with h | h
        · exact .inl (hcl i' j hi' h hj hdj)
        · exact .inr (by omega)
      have hex:=Ak (M:=Sr cs k S' N' M₀) hds hnd hc hcp (by omega) ho hS'i (fun j hj _=>by simp only [S',Bool.or_eq_true,Nat.blt_eq];exact .inr hj) hcl' hle hob hag Sub.refl
      obtain ⟨ρ',M',rs'',w'',⟨v,q,h1,h2,h3,h4,h5⟩,m''⟩:=BV hex m'
      have hfun:(fun j=>S j||Nat.blt j (i+1))=Z6 S' i true:=by
        funext j
        by_cases e:j=i
        · subst e;rw [Yz,Bool.or_eq_true,Nat.blt_eq];exact .inr (by omega)
        · rw [Yk e,Bool.eq_iff_iff,Bool.or_eq_true]
          simp only [S',Bool.or_eq_true,Nat.blt_eq]
          constructor
          · rintro (h | h);exact .inl h;exact .inr (by omega)
          · rintro (h | h);exact .inl h;exact .inr (by omega)
      rw [hfun]
      refine ⟨Z6 r' i v,Z6 N' i q,rs'',w'',fun j hj hs=>?_,fun j o' hj ho' hs=>?_,h3.mem m'',?_⟩
      · have e:j≠i:=by rintro rfl;rw [hS] at hs;cases hs
        rw [Yk e,Yk e];exact ha j hj hs
      · by_cases e:j=i
        · subst e;rw [ho] at ho';cases ho';exact h1
        · have hs:=(congrFun hfun j).symm.trans hs
          rw [Yk e] at hs
          have hnd':dep b j i=true→i<j→False:=fun hdj hlt=>by
            have:=hcl' j i hj hs hlt hdj
            rw [hS'i] at this;cases this
          exact PR (fun j' hj' hdj'=>by
            have e':j'≠i:=by rintro rfl;exact hnd' hdj' hj'
            exact ⟨(Yk e').symm,(Yk e').symm⟩) ⟨(Yk e).symm,(Yk e).symm⟩ (hg' j o' hj ho' hs)
      · cases hp:pAt P i with
        | none=>
          rw [hp] at hd
          obtain ⟨v',hv',hd⟩:=hd
          obtain ⟨h6,h7⟩:=h5 hp
          unfold P0 at h1
          rw [hp] at h1
          have:=h1.2.2 v' (W4 (fun j hj _=>⟨(Yk (by omega)).symm,(Yk (by omega)).symm⟩) hv')
          rw [Yz] at this
          subst this;subst h7
          exact hd
        | some p=>
          rw [hp] at hd
          exact hd.2 v q (h4 p hp)
theorem ZM {id:Nat} (hmix:c.P.follows .mixedOrders=true) (b:Array Nat) (k:Nat) (ds:List (Option Nat)) (cs:List (Nat×Nat)) (P:List (Nat×X4)) (hk:Nat.ble k l.length=true) (hok:KC l b k=true)
    (hds:(l.take k).map (·.dst)=ds) (hst:(TG ds&&KF b cs k&&cs.all (fun a=>(pAt P a.1).isSome)&&(range k).all (fun i=>(range k).all (fun j=> !(dep b i j)||Nat.ble j i)))=true)
    (h:DT c H l b k ds cs P ρ₀ M₀ Q 0 (l.take k) (fun _=>undef) (fun _=>[])):J c H (.region id l.toArray true) ρ₀ M₀ Q:=by
  rw [Bool.and_eq_true,Bool.and_eq_true,Bool.and_eq_true] at hst
  obtain ⟨⟨⟨hnd,hc⟩,hcp⟩,hle⟩:=hst
  have hle:∀ i j,i<k→j<k→dep b i j=true→j≤i:=fun i j hi hj hd=>by
    have:=all_eq_true.1 (all_eq_true.1 hle i (mem_range.2 hi)) j (mem_range.2 hj)
    rw [hd] at this
    exact Nat.le_of_ble_eq_true (by simpa using this)
  have hkl:=Nat.le_of_ble_eq_true hk
  have hdl:ds.length=k:=by rw [← hds,length_map,length_take];omega
  refine Ig hmix b k hk hok (fun S ρ M=>∃ r N,(∀ j o,j<k→l[j]?=some o→S j=true→P0 c H l b k ds cs P ρ₀ M₀ j o r N)∧Agr ds ρ₀ (fun j=>S j&&Nat.blt j k) r ρ∧Sub (Sr cs k (fun j=>S j&&Nat.blt j k) N M₀) M) ?_ ?_ ?_
  · intro S hS
    have hS0:∀ j,(S j&&Nat.blt j k)=false:=fun j=>by
      by_cases hj:j<k
      · rw [hS j hj];rfl
      · rw [Bool.and_eq_false_iff];exact .inr (by rw [← Bool.not_eq_true,Nat.blt_eq];exact hj)
    refine ⟨fun _=>undef,fun _=>[],fun j o hj _ hs=>(by rw [hS j hj] at hs;cases hs),fun x=>?_,?_⟩
    · cases UK ds x 0 with
      | none=>rfl
      | some j=>
        intro hs
        have hs:(S j&&Nat.blt j k)=true:=hs
        rw [hS0 j] at hs;cases hs
    · have : Sr cs k (fun j=>S j&&Nat.blt j k) (fun _=>[]) M₀=M₀:=by
        unfold Sr
        have e1:∀ n,Wr (fun j=>(S j&&Nat.blt j k)&&cs.all (fun a=> !(Nat.beq a.2 j)|| !(S a.1&&Nat.blt a.1 k))) (fun _=>([]:List Zf)) n=[]:=by
          intro n
          induction n with
          | zero=>rfl
          | succ n ih=>unfold Wr;rw [hS0 n,ih];rfl
        have e2:∀ (M:List Zf) (x:Nat),W6 (fun x=>cs.all (fun a=> !(Nat.beq a.2 (k+x))|| !(S a.1&&Nat.blt a.1 k))) x M=M:=by
          intro M
          induction M with
          | nil=>intro x;rfl
          | cons y M ih=>
            intro x
            unfold W6
            rw [ih,show cs.all (fun a=> !(Nat.beq a.2 (k+x))|| !(S a.1&&Nat.blt a.1 k))=true from by
              rw [all_eq_true];intro a _;rw [hS0];simp]
            rfl
        rw [e1,e2,nil_append]
      rw [this]
      exact Sub.refl
  · rintro S i o ρ M hik ho hS hdep hcl ⟨r,N,hg,hag,hM⟩
    intro F rs w m
    have m':=hM.mem m
    let S1:Nat→Bool:=fun j=>S j&&Nat.blt j k
    have hS1:∀ j,j<k→S1 j=S j:=fun j hj=>by simp only [S1];rw [show Nat.blt j k=true from by rw [Nat.blt_eq];exact hj,Bool.and_true]
    have hcl1:∀ i' j,i'<k→S1 i'=true→j<i'→dep b i' j=true→S1 j=true:=fun i' j hi' hs hj hd=>by
      rw [hS1 i' hi'] at hs
      rw [hS1 j (by omega)]
      exact hcl i' j hi' hs hj hd
    obtain ⟨r',N',rs',w',ha,hg',m2,hd⟩:=M5 hds hnd hc hcp hkl hle h hcl1 (fun j o hj ho hs=>hg j o hj ho (by rw [← hS1 j hj];exact hs)) m' i (by omega)
    have hdrop:(l.take k).drop i=o::(l.take k).drop (i+1):=by
      rw [drop_eq_getElem_cons (by rw [length_take];omega)]
      congr 1
      rw [List.getElem_take]
      exact Option.some.inj ((getElem?_eq_getElem (by omega)).symm.trans ho)
    rw [hdrop] at hd
    unfold DT at hd
    have hob:OX c H l b k ds cs P ρ₀ M₀ i o r N:=by
      refine Di (r:=r') (N:=N') (fun j hj hdj=>ha j (by omega) (by rw [hS1 j (by omega)];exact hdep j hj hdj)) ?_
      unfold OX
      cases hp:pAt P i with
      | none=>rw [hp] at hd;obtain ⟨v,hv,_⟩:=hd;exact ⟨v,hv⟩
      | some p=>rw [hp] at hd;exact hd.1
    have hex:=Ak hds hnd hc hcp hik ho (by rw [hS1 i hik];exact hS) (fun j hj hdj=>by rw [hS1 j (by omega)];exact hdep j hj hdj) hcl1 hle hob hag hM
    refine S5 hex ?_ F rs w m
    rintro ρ' M' ⟨v,q,h1,h2,h3,_,_⟩ S' hS'
    have hfun:(fun j=>S' j&&Nat.blt j k)=Z6 S1 i true:=by
      funext j
      rw [hS']
      by_cases e:j=i
      · subst e
        rw [Yz,Nat.beq_refl,show Nat.blt j k=true from by rw [Nat.blt_eq];exact hik,Bool.and_true]
        try rfl
      · rw [Yk e,ZU e];rfl
    rw [hfun]
    refine ⟨Z6 r i v,Z6 N i q,fun j o' hj ho' hs=>?_,h2,h3⟩
    by_cases e:j=i
    · subst e;rw [ho] at ho';cases ho';exact h1
    · rw [hS',ZU e] at hs
      have hnd':dep b j i=true→i<j→False:=fun hdj hlt=>by
        have:=hcl j i hj hs hlt hdj
        rw [hS] at this;cases this
      exact PR (fun j' hj' hdj'=>by
        have e':j'≠i:=by rintro rfl;exact hnd' hdj' hj'
        exact ⟨(Yk e').symm,(Yk e').symm⟩) ⟨(Yk e).symm,(Yk e).symm⟩ (hg j o' hj ho' hs)
  · rintro S ρ M hS ⟨r,N,hg,hag,hM⟩
    have hS1:∀ j,j<k→(S j&&Nat.blt j k)=true:=fun j hj=>by rw [Bool.and_eq_true,Nat.blt_eq];exact ⟨hS j hj,hj⟩
    refine ZB hM ?_
    intro F rs w m
    obtain ⟨r',N',rs',w',ha,hg',m2,hd⟩:=M5 hds hnd hc hcp hkl hle h (S:=fun j=>S j&&Nat.blt j k) (fun i' j hi' _ hj _=>hS1 j (by omega)) (fun j o hj ho _=>hg j o hj ho (hS j hj)) m k (Nat.le_refl _)
    have hd:=VW hdl _ k r' r N' N (by simp) (fun j hj=>ha j hj (hS1 j hj)) hd
    rw [show (l.take k).drop k=[] from drop_eq_nil_of_le (by rw [length_take];omega)] at hd
    unfold DT at hd
    have eρ:ρ=Kx ds r ρ₀:=by
      funext x
      have:=hag x
      unfold Kx
      cases e:UK ds x 0 with
      | none=>rw [e] at this;exact this
      | some j=>
        rw [e] at this
        obtain ⟨j',h1,h2⟩:=VJ e
        have:=(List.getElem?_eq_some_iff.1 h2).1
        exact ‹_→ρ x=r j› (hS1 j (by omega))
    have eM:Sr cs k (fun j=>S j&&Nat.blt j k) N M₀=Kb cs k N M₀:=by
      unfold Sr Kb
      have hca:∀ a∈cs,(S a.1&&Nat.blt a.1 k)=true:=fun a ha=>by
        have:=all_eq_true.1 hc a ha
        simp only [Bool.and_eq_true,Nat.blt_eq] at this
        exact hS1 a.1 this.1.1
      have hall:∀ y,cs.all (fun a=> !(Nat.beq a.2 y)|| !(S a.1&&Nat.blt a.1 k))=cs.all (fun a=> !(Nat.beq a.2 y)):=fun y=>by
        rw [Bool.eq_iff_iff,all_eq_true,all_eq_true]
        constructor
        · intro h a ha;have:=h a ha;rw [hca a ha] at this;simpa using this
        · intro h a ha;rw [h a ha];rfl
      rw [X8 (g:=fun j=>cs.all (fun a=> !(Nat.beq a.2 j))) (N':=N) (fun j hj=>by simp only [hS1 j hj,hall,Bool.true_and]) (fun _ _ _=>rfl),TI (g:=fun x=>cs.all (fun a=> !(Nat.beq a.2 (k+x)))) (fun x _ _=>hall (k+x))]
    rw [eρ]
    rw [eM] at m
    exact hd F rs w m
end
section
variable {c:Cx} {H:Heap} {l:List Oper} {b:Array Nat} {k:Nat} {ds:List (Option Nat)} {cs:List (Nat×Nat)} {P:List (Nat×X4)} {ρ₀:Nat→Value} {M₀:List Zf} {Q:Post} {m:Nat} {os:List Oper} {r:Nat→Value} {N:Nat→List Zf}
theorem Qv {o:Oper} {v:Value} (hn:pAt P m=none) (hg:∀ ρx,wnt l.toArray c.n (YC b ds m r ρ₀ ρx) o=true) (hp:∀ ρx,Pu c.P (ev c.n (YC b ds m r ρ₀ ρx)) o v)
    (h:DT c H l b k ds cs P ρ₀ M₀ Q (m+1) os (Z6 r m v) (Z6 N m [])):DT c H l b k ds cs P ρ₀ M₀ Q m (o::os) r N:=by
  unfold DT
  rw [hn]
  exact ⟨v,.inl ⟨hg,fun ρx _ w _=>hp ρx w⟩,h⟩
theorem BY {d:Option Nat} {T:TypeId} {x:Operand} {ot:TypeId} {pos:String} {af:Array Edge} {g:Option (Nat×Bool)} {a f sz:Nat} {l' r':List Value} {T':TypeId} {fr:Nat×Nat} (hn:pAt P m=none)
    (hg:∀ ρx,wnt l.toArray c.n (YC b ds m r ρ₀ ρx) ⟨d,.load T x,ot,pos,af,g⟩=true) (ty:Ty c.P T true sz) (hx:∀ ρx,ev c.n (YC b ds m r ρ₀ ρx) x=.pointer (some ⟨a,f,none⟩))
    (ha:At (Xr b cs k m N M₀) H a (.cells ⟨l'⟩ T' fr)) (hr:sub l' f sz=some r')
    (h:DT c H l b k ds cs P ρ₀ M₀ Q (m+1) os (Z6 r m (.agg ⟨r'⟩)) (Z6 N m [])):DT c H l b k ds cs P ρ₀ M₀ Q m (⟨d,.load T x,ot,pos,af,g⟩::os) r N:=by
  unfold DT
  rw [hn]
  exact ⟨_,.inl ⟨hg,fun ρx F w mm=>by simp [execOp,Instr.loadAt,hx ρx,Instr.sureAddr,UC ty (ha.heap mm) hr]⟩,h⟩
theorem Yn {d:Option Nat} {T:TypeId} {x:Operand} {ot:TypeId} {pos:String} {af:Array Edge} {g:Option (Nat×Bool)} {a f sz:Nat} {l':List Value} {v:Value} {T':TypeId} {fr:Nat×Nat} (hn:pAt P m=none)
    (hg:∀ ρx,wnt l.toArray c.n (YC b ds m r ρ₀ ρx) ⟨d,.load T x,ot,pos,af,g⟩=true) (ty:Ty c.P T false sz) (hx:∀ ρx,ev c.n (YC b ds m r ρ₀ ρx) x=.pointer (some ⟨a,f,none⟩))
    (ha:At (Xr b cs k m N M₀) H a (.cells ⟨l'⟩ T' fr)) (hr:l'[f]?=some v)
    (h:DT c H l b k ds cs P ρ₀ M₀ Q (m+1) os (Z6 r m v) (Z6 N m [])):DT c H l b k ds cs P ρ₀ M₀ Q m (⟨d,.load T x,ot,pos,af,g⟩::os) r N:=by
  unfold DT
  rw [hn]
  exact ⟨_,.inl ⟨hg,fun ρx F w mm=>by simp [execOp,Instr.loadAt,hx ρx,Instr.sureAddr,UB ty (ha.heap mm) hr]⟩,h⟩
theorem KT {o:Oper} {p:X4} (hp:pAt P m=some p)
    (ho:∀ ρx,JL c H l.toArray [o] (YC b ds m r ρ₀ ρx) (Xr b cs k m N M₀) ⟨fun ρ' M'=>∃ v q,ρ'=Xj (YC b ds m r ρ₀ ρx) o.dst v∧Sub (q++Vl b cs k m N M₀) M'∧p (mk undef b m r) (mk [] b m N) v q,fun _ _=>False,[]⟩)
    (h:∀ v q,p (mk undef b m r) (mk [] b m N) v q→DT c H l b k ds cs P ρ₀ M₀ Q (m+1) os (Z6 r m v) (Z6 N m q)):DT c H l b k ds cs P ρ₀ M₀ Q m (o::os) r N:=by
  unfold DT
  rw [hp]
  exact ⟨ho,h⟩
theorem Yd (hno:cs.all (fun a=> !(Nat.beq a.1 m))=true):Vl b cs k m N M₀=Xr b cs k m N M₀:=by
  have hno':∀ x,isC cs m x=false:=fun x=>by
    unfold isC
    rw [List.any_eq_false]
    intro a ha h
    rw [Bool.and_eq_true] at h
    have:=all_eq_true.1 hno a ha
    rw [h.1] at this
    cases this
  unfold Vl Xr
  simp only [hno',Bool.not_false,Bool.and_true]
theorem BZ {d:Option Nat} {ot:TypeId} {pos:String} {af:Array Edge} {g:Option (Nat×Bool)} {x:Operand} {as:List Operand} {ats:Array TypeId} {f:FuncId} {fv cv:List Value} {p:X4}
    (hp:pAt P m=some p) (hno:cs.all (fun a=> !(Nat.beq a.1 m))=true)
    (hg:∀ ρx,wnt l.toArray c.n (YC b ds m r ρ₀ ρx) ⟨d,.call {callee:=.value x,args:=as.toArray,argTypes:=ats},ot,pos,af,g⟩=true)
    (hcall:∀ args w,(callFunc f args).run c.P w=.ok (.enter f args) w)
    (hx:∀ ρx,ev c.n (YC b ds m r ρ₀ ρx) x=.func (.func f) ⟨fv⟩ ⟨cv⟩)
    (hc:(∀ (i:Nat) k',(Xr b cs k m N M₀)[i]?=some k'→Has k' (hu (Xr b cs k m N M₀).flatten H))→CT c.P f ⟨fv++as.map (ev c.n (YC b ds m r ρ₀ fun _=>undef))++cv⟩ [] (hu (Xr b cs k m N M₀).flatten H) (p (mk undef b m r) (mk [] b m N)))
    (ha:∀ ρx,as.map (ev c.n (YC b ds m r ρ₀ ρx))=as.map (ev c.n (YC b ds m r ρ₀ fun _=>undef)))
    (h:∀ v q,p (mk undef b m r) (mk [] b m N) v q→DT c H l b k ds cs P ρ₀ M₀ Q (m+1) os (Z6 r m v) (Z6 N m q)):
    DT c H l b k ds cs P ρ₀ M₀ Q m (⟨d,.call {callee:=.value x,args:=as.toArray,argTypes:=ats},ot,pos,af,g⟩::os) r N:=
  KT hp (fun ρx=>Ih (hg ρx) hcall (hx ρx) hc (ha ρx) fun v q hq=>Za ⟨v,q,rfl,by rw [Yd hno];exact Sub.refl,hq⟩) h
theorem KS {o:Oper} {p:X4} (hp:pAt P m=some p) (hg:∀ ρx,wnt l.toArray c.n (YC b ds m r ρ₀ ρx) o=true)
    (ho:∀ ρx,Runs c H o (YC b ds m r ρ₀ ρx) (Xr b cs k m N M₀) fun v M'=>∃ q,Sub (q++Vl b cs k m N M₀) M'∧p (mk undef b m r) (mk [] b m N) v q)
    (h:∀ v q,p (mk undef b m r) (mk [] b m N) v q→DT c H l b k ds cs P ρ₀ M₀ Q (m+1) os (Z6 r m v) (Z6 N m q)):DT c H l b k ds cs P ρ₀ M₀ Q m (o::os) r N:=
  KT hp (fun ρx=>NX (hg ρx) fun F w mm=>by
    obtain ⟨v,w',M',h1,h2,q,h3,h4⟩:=ho ρx F w mm
    exact ⟨v,w',M',h1,h2,Za ⟨v,q,rfl,h3,h4⟩⟩) h
def L6 (T:TypeId) (l:List Value):X4:=fun _ _ v q=>∃ b,v=.pointer (some ⟨b,0,none⟩)∧q=[[(b,.cells ⟨l⟩ T (0,0))]]
theorem Dz {d:Option Nat} {T:TypeId} {ot:TypeId} {pos:String} {af:Array Edge} {g:Option (Nat×Bool)} {z:Value} {l':List Value} (hp:pAt P m=some (L6 T l')) (hno:cs.all (fun a=> !(Nat.beq a.1 m))=true)
    (hg:∀ ρx,wnt l.toArray c.n (YC b ds m r ρ₀ ρx) ⟨d,.alloc T,ot,pos,af,g⟩=true) (hz:∀ w,(zeroValue T).run c.P w=.ok z w) (hl:z.cells=⟨l'⟩)
    (h:∀ a,DT c H l b k ds cs P ρ₀ M₀ Q (m+1) os (Z6 r m (.pointer (some ⟨a,0,none⟩))) (Z6 N m [[(a,.cells ⟨l'⟩ T (0,0))]])):DT c H l b k ds cs P ρ₀ M₀ Q m (⟨d,.alloc T,ot,pos,af,g⟩::os) r N:=
  KS hp hg (fun ρx=>Zk hz hl fun a=>⟨[[(a,.cells ⟨l'⟩ T (0,0))]],by rw [Yd hno];exact Sub.refl,a,rfl,rfl⟩) fun v q ⟨a,e1,e2⟩=>by subst e1 e2;exact h a
theorem ZbS {i:Nat} {k₀ k':Zf} (hk:Vl b cs k m N M₀=(Xr b cs k m N M₀).eraseIdx i) (hi:(Xr b cs k m N M₀)[i]?=some k₀):Sub ([k']++Vl b cs k m N M₀) ((Xr b cs k m N M₀).set i k'):=by
  rw [hk]
  exact ⟨[],by rw [append_nil];exact Vg hi⟩
theorem ZX {M':List Zf} (hM:Kb cs k N M₀=M') (h:JL c H l.toArray (l.drop k) (Kx ds r ρ₀) M' Q):DT c H l b k ds cs P ρ₀ M₀ Q m [] r N:=by
  unfold DT
  rw [hM];exact h
end
section
variable {c:Cx} {H:Heap} {l:List Oper} {b:Array Nat} {k:Nat} {ds:List (Option Nat)} {cs:List (Nat×Nat)} {P:List (Nat×X4)} {ρ₀:Nat→Value} {M₀:List Zf} {Q:Post} {m:Nat} {os:List Oper} {r:Nat→Value} {N:Nat→List Zf}
  {d:Option Nat} {x:Operand} {ot:TypeId} {pos:String} {af:Array Edge} {g:Option (Nat×Bool)}
theorem Dn {o:Oper} {v:Value} (hp:∀ ρx,Pu c.P (ev c.n (YC b ds m r ρ₀ ρx)) o v) (h:DT c H l b k ds cs P ρ₀ M₀ Q (m+1) os (Z6 r m v) (Z6 N m [])) (hn:pAt P m=none:=by exact rfl)
    (hg:∀ ρx,wnt l.toArray c.n (YC b ds m r ρ₀ ρx) o=true:=by exact fun _=>rfl):DT c H l b k ds cs P ρ₀ M₀ Q m (o::os) r N:=Qv hn hg hp h
theorem Dq {o:Oper} (v:Value) (hp:∀ ρx,Pu c.P (ev c.n (YC b ds m r ρ₀ ρx)) o v) (h:DT c H l b k ds cs P ρ₀ M₀ Q (m+1) os (Z6 r m v) (Z6 N m [])) (hn:pAt P m=none:=by exact rfl)
    (hg:∀ ρx,wnt l.toArray c.n (YC b ds m r ρ₀ ρx) o=true:=by exact fun _=>rfl):DT c H l b k ds cs P ρ₀ M₀ Q m (o::os) r N:=Qv hn hg hp h
theorem Dm (v:Value) (h:DT c H l b k ds cs P ρ₀ M₀ Q (m+1) os (Z6 r m v) (Z6 N m [])) (hx:∀ ρx,ev c.n (YC b ds m r ρ₀ ρx) x=v:=by exact fun _=>rfl) (hn:pAt P m=none:=by exact rfl)
    (hg:∀ ρx,wnt l.toArray c.n (YC b ds m r ρ₀ ρx) ⟨d,.move x,ot,pos,af,g⟩=true:=by exact fun _=>rfl):DT c H l b k ds cs P ρ₀ M₀ Q m (⟨d,.move x,ot,pos,af,g⟩::os) r N:=Qv hn hg (fun ρx=>Pu.move (hx ρx)) h
theorem DM {v:Value} (hx:∀ ρx,vf (ev c.n (YC b ds m r ρ₀ ρx) x)=some v) (h:DT c H l b k ds cs P ρ₀ M₀ Q (m+1) os (Z6 r m v) (Z6 N m [])) (hn:pAt P m=none:=by exact rfl)
    (hg:∀ ρx,wnt l.toArray c.n (YC b ds m r ρ₀ ρx) ⟨d,.move x,ot,pos,af,g⟩=true:=by exact fun _=>rfl):DT c H l b k ds cs P ρ₀ M₀ Q m (⟨d,.move x,ot,pos,af,g⟩::os) r N:=Qv hn hg (fun ρx=>Pu.move (H5 (hx ρx))) h
theorem Dl {T:TypeId} {a f sz:Nat} {l' r':List Value} {T':TypeId} {fr:Nat×Nat} (ty:Ty c.P T true sz) (ha:At (Xr b cs k m N M₀) H a (.cells ⟨l'⟩ T' fr)) (hr:sub l' f sz=some r')
    (h:DT c H l b k ds cs P ρ₀ M₀ Q (m+1) os (Z6 r m (.agg ⟨r'⟩)) (Z6 N m [])) (hx:∀ ρx,ev c.n (YC b ds m r ρ₀ ρx) x=.pointer (some ⟨a,f,none⟩):=by exact fun _=>rfl) (hn:pAt P m=none:=by exact rfl)
    (hg:∀ ρx,wnt l.toArray c.n (YC b ds m r ρ₀ ρx) ⟨d,.load T x,ot,pos,af,g⟩=true:=by exact fun _=>rfl):DT c H l b k ds cs P ρ₀ M₀ Q m (⟨d,.load T x,ot,pos,af,g⟩::os) r N:=BY hn hg ty hx ha hr h
theorem Dl1 {T:TypeId} {a f sz:Nat} {l':List Value} {v:Value} {T':TypeId} {fr:Nat×Nat} (ty:Ty c.P T false sz) (ha:At (Xr b cs k m N M₀) H a (.cells ⟨l'⟩ T' fr)) (hr:l'[f]?=some v)
    (h:DT c H l b k ds cs P ρ₀ M₀ Q (m+1) os (Z6 r m v) (Z6 N m [])) (hx:∀ ρx,ev c.n (YC b ds m r ρ₀ ρx) x=.pointer (some ⟨a,f,none⟩):=by exact fun _=>rfl) (hn:pAt P m=none:=by exact rfl)
    (hg:∀ ρx,wnt l.toArray c.n (YC b ds m r ρ₀ ρx) ⟨d,.load T x,ot,pos,af,g⟩=true:=by exact fun _=>rfl):DT c H l b k ds cs P ρ₀ M₀ Q m (⟨d,.load T x,ot,pos,af,g⟩::os) r N:=Yn hn hg ty hx ha hr h
theorem Dc {as:List Operand} {ats:Array TypeId} {f:FuncId} {fv cv:List Value} {p:X4} (hp:pAt P m=some p)
    (hcall:∀ args w,(callFunc f args).run c.P w=.ok (.enter f args) w)
    (hx:∀ ρx,ev c.n (YC b ds m r ρ₀ ρx) x=.func (.func f) ⟨fv⟩ ⟨cv⟩)
    (hc:(∀ (i:Nat) k',(Xr b cs k m N M₀)[i]?=some k'→Has k' (hu (Xr b cs k m N M₀).flatten H))→CT c.P f ⟨fv++as.map (ev c.n (YC b ds m r ρ₀ fun _=>undef))++cv⟩ [] (hu (Xr b cs k m N M₀).flatten H) (p (mk undef b m r) (mk [] b m N)))
    (h:∀ v q,p (mk undef b m r) (mk [] b m N) v q→DT c H l b k ds cs P ρ₀ M₀ Q (m+1) os (Z6 r m v) (Z6 N m q))
    (ha:∀ ρx,as.map (ev c.n (YC b ds m r ρ₀ ρx))=as.map (ev c.n (YC b ds m r ρ₀ fun _=>undef)):=by exact fun _=>rfl) (hno:cs.all (fun a=> !(Nat.beq a.1 m))=true:=by exact rfl)
    (hg:∀ ρx,wnt l.toArray c.n (YC b ds m r ρ₀ ρx) ⟨d,.call {callee:=.value x,args:=as.toArray,argTypes:=ats},ot,pos,af,g⟩=true:=by exact fun _=>rfl):
    DT c H l b k ds cs P ρ₀ M₀ Q m (⟨d,.call {callee:=.value x,args:=as.toArray,argTypes:=ats},ot,pos,af,g⟩::os) r N:=BZ hp hno hg hcall hx hc ha h
theorem Da {T:TypeId} {z:Value} {l':List Value} (hz:∀ w,(zeroValue T).run c.P w=.ok z w) (hp:pAt P m=some (L6 T l')) 
    (h:∀ a,DT c H l b k ds cs P ρ₀ M₀ Q (m+1) os (Z6 r m (.pointer (some ⟨a,0,none⟩))) (Z6 N m [[(a,.cells ⟨l'⟩ T (0,0))]])) (hl:z.cells=⟨l'⟩:=by exact rfl) (hno:cs.all (fun a=> !(Nat.beq a.1 m))=true:=by exact rfl)
    (hg:∀ ρx,wnt l.toArray c.n (YC b ds m r ρ₀ ρx) ⟨d,.alloc T,ot,pos,af,g⟩=true:=by exact fun _=>rfl):DT c H l b k ds cs P ρ₀ M₀ Q m (⟨d,.alloc T,ot,pos,af,g⟩::os) r N:=Dz hp hno hg hz hl h
theorem Dr {o:Oper} {p:X4} (hp:pAt P m=some p)
    (ho:∀ ρx,Runs c H o (YC b ds m r ρ₀ ρx) (Xr b cs k m N M₀) fun v M'=>∃ q,Sub (q++Vl b cs k m N M₀) M'∧p (mk undef b m r) (mk [] b m N) v q)
    (h:∀ v q,p (mk undef b m r) (mk [] b m N) v q→DT c H l b k ds cs P ρ₀ M₀ Q (m+1) os (Z6 r m v) (Z6 N m q)) (hg:∀ ρx,wnt l.toArray c.n (YC b ds m r ρ₀ ρx) o=true:=by exact fun _=>rfl):DT c H l b k ds cs P ρ₀ M₀ Q m (o::os) r N:=KS hp hg ho h
end
def more (k j:Int):Int:=if k=3∨(k=5∧j=1)∨(k=12∧j=1) then 1 else if k=12∧1<j then 2 else 0
mutual
def binds:Pt→Nat
  | .mk k _ _ kids=>if k=1 then 1 else Xg kids
def Xg:List Pt→Nat
  | []=>0
  | p::ps=>binds p+Xg ps
end
theorem R2 (l:List Pt) (j:Nat) (h:j<l.length):Xg (l.take (j+1))=Xg (l.take j)+binds l[j]:=by
  induction l generalizing j with
  | nil=>exact absurd h (by simp)
  | cons p l ih=>
    cases j with
    | zero=>simp [Xg]
    | succ j=>simp only [take_succ_cons,Xg,getElem_cons_succ];rw [ih j (by simpa using h)];omega
theorem UU (l:List Pt) (j:Nat):Xg (l.take j)≤Xg l:=by
  induction l generalizing j with
  | nil=>simp [Xg]
  | cons p l ih=>
    cases j with
    | zero=>simp [Xg]
    | succ j=>simp only [take_succ_cons,Xg];have:=ih j;omega
theorem OI (l:List Pt):∀ p∈l,binds p≤Xg l:=by
  induction l with
  | nil=>intro p h;cases h
  | cons q l ih=>
    intro p h
    rw [Xg]
    rcases mem_cons.1 h with rfl | h
    · omega
    · have:=ih p h;omega
def Yx (k:Int):Bool:=(((((decide (k=1))||(decide (k=2)))||(decide (k=7)))||(decide (k=8)))||(decide (k=10)))||(decide (k=11))
def Ys (k:Int):Bool:=(((decide (k=6))||(decide (k=8)))||(decide (k=11)))||(decide (k=12))
def loK (k:Int):Int:=if k=3∨k=9∨k=11 then 1 else if k=4∨k=5∨k=10 then 2 else if k=8 then 0 else if k=12 then 2 else 0
def hiK (k:Int):Int:=if k=3∨k=9∨k=11 then 1 else if k=4∨k=5∨k=10 then 2 else if k=8 then 4 else if k=12 then 10 else 0
def fN (k:Int):Bool:=decide (k=1∨k=2∨k=7∨k=10∨k=8∨k=11)
def fR (k:Int):Bool:=decide (k=8∨k=11∨k=6∨k=12)
def fC (k:Int):Bool:=decide (k=9)
def pfN (k:Int):Bool:=decide (k=2∨k=3)
def pfR (k:Int):Bool:=decide (k=3)
def Rv (a b c:Bool) (n:Int) (r:Sm) (m:Int):Bool:=(decide (n≠0)&& !a)||((decide (r≠zS)&& !b)||(decide (0<m)&& !c))
def Vf (k n:Int):Bool:=if k=3∨k=9∨k=11 then decide (n=1) else if k=4∨k=5∨k=10 then decide (n=2) else if k=8 then decide (n≤4) else if k=12 then !decide (n<2∨10<n) else decide (n=0)
mutual
def sizeP:Pt→Nat
  | .mk _ _ _ kids=>1+sizePs kids
def sizePs:List Pt→Nat
  | []=>0
  | p::ps=>sizeP p+sizePs ps
end
mutual
def sizeT:Tm→Nat
  | .mk _ _ _ kids cases=>1+sizeTs kids+sizeCs cases
def sizeTs:List Tm→Nat
  | []=>0
  | p::ps=>sizeT p+sizeTs ps
def sizeCs:List (Pt×Tm)→Nat
  | []=>0
  | (p,t)::ps=>sizeP p+sizeT t+sizeCs ps
end
theorem Tx {l:List Pt}:∀ p∈l,sizeP p≤sizePs l:=by
  induction l with
  | nil=>intro p h;cases h
  | cons q l ih=>
    intro p h;rw [sizePs]
    rcases mem_cons.1 h with rfl | h
    · omega
    · have:=ih p h;omega
theorem YR {l:List Tm}:∀ p∈l,sizeT p≤sizeTs l:=by
  induction l with
  | nil=>intro p h;cases h
  | cons q l ih=>
    intro p h;rw [sizeTs]
    rcases mem_cons.1 h with rfl | h
    · omega
    · have:=ih p h;omega
theorem WQ {l:List (Pt×Tm)}:∀ p∈l,sizeP p.1+sizeT p.2≤sizeCs l:=by
  induction l with
  | nil=>intro p h;cases h
  | cons q l ih=>
    obtain ⟨a,b⟩:=q
    intro p h;rw [sizeCs]
    rcases mem_cons.1 h with rfl | h
    · simp only;omega
    · have:=ih p h;omega
theorem Rb (p:Pt):1≤sizeP p:=by cases p;rw [sizeP];omega
theorem Vv (p:Tm):1≤sizeT p:=by cases p;rw [sizeT];omega
theorem VU (p:Pt):binds p≤sizeP p:=by
  induction p using Pt.ind with
  | h k n r kids ih=>
    rw [binds,sizeP]
    have:Xg kids≤sizePs kids:=by
      clear k n r
      induction kids with
      | nil=>simp [Xg,sizePs]
      | cons q l ih'=>rw [Xg,sizePs];have:=ih q (by simp);have:=ih' (fun x hx=>ih x (by simp [hx]));omega
    split <;> omega
theorem Jy (k j:Int):0≤more k j∧more k j≤2:=by unfold more;split <;> (try split) <;> omega
def VE (k n:Int) (r:Sm) (l:Nat):Int:=
  if k<1∨3<k then 3
  else if Rv (pfN k) (pfR k) false n r 0=true then 7
  else if (if k=3 then 4 else 0)<(l:Int) then 2
  else if (k=2∧(n<0∨1073741824<n))∨(k=3∧(n<0∨7<n)) then 3 else 0
mutual
def VD:Pt→Int
  | .mk k n r kids=>if VE k n r kids.length=0 then Ri kids else VE k n r kids.length
def Ri:List Pt→Int
  | []=>0
  | p::ps=>if VD p=0 then Ri ps else VD p
end
def Tq (k n:Int) (r:Sm) (l:Nat):Int:=
  if k<1∨3<k then 3
  else if (k=1∧¬ n=0)∨(¬ k=3∧¬ r=zS) then 7
  else if (¬ k=3∧0<(l:Int))∨4<(l:Int) then 2
  else if (k=2∧(n<0∨1073741824<n))∨(k=3∧(n<0∨7<n)) then 3 else 0
mutual
def Xn:Pt→Int
  | .mk k n r kids=>if Tq k n r kids.length=0 then XC kids else Tq k n r kids.length
def XC:List Pt→Int
  | []=>0
  | p::ps=>if Xn p=0 then XC ps else Xn p
end
def YZ:List (Pt×Tm)→Int
  | []=>0
  | c::cs=>if Xn c.1=0 then YZ cs else Xn c.1
def YF (d m b k n:Int) (r:Sm) (l lc:Nat):Int:=
  if k<1∨12<k then 3
  else if ((Yx k=false∧¬ n=0)∨(Ys k=false∧¬ r=zS))∨(¬ k=9∧0<(lc:Int)) then 7
  else if ((l:Int)<loK k∨hiK k<(l:Int))∨8<(lc:Int) then 2
  else if ((k=2∧(n<0∨1073741824<n))∨(k=10∧(n<1∨5<n)))∨((k=8∨k=11)∧(n<0∨7<n)) then 3
  else if (k=1∧(n<0∨(b≤n∧d≤n-b)))∨(k=7∧(n<0∨m≤n)) then 1 else 0
mutual
def ZV (d m:Int):Int→Tm→Int
  | b,.mk k n r kids cases=>
    if YF d m b k n r kids.length cases.length=0 then
      (if YZ cases=0 then (if Z0 d m b k 0 kids=0 then Yc d m b cases else Z0 d m b k 0 kids) else YZ cases)
    else YF d m b k n r kids.length cases.length
def Z0 (d m:Int):Int→Int→Nat→List Tm→Int
  | _,_,_,[]=>0
  | b,k,i,t::l=>if ZV d m (b+more k i) t=0 then Z0 d m b k (i+1) l else ZV d m (b+more k i) t
def Yc (d m:Int):Int→List (Pt×Tm)→Int
  | _,[]=>0
  | b,(p,t)::l=>if ZV d m (b+(binds p:Int)) t=0 then Yc d m b l else ZV d m (b+(binds p:Int)) t
end
mutual
def VL:Int→Pt→Int×Int
  | m,.mk _ _ _ kids=>((VK m kids 1 0).1,(VK m kids 1 0).2+1)
def VK:Int→List Pt→Int→Int→Int×Int
  | _,[],n,d=>(n,d)
  | m,p::ps,n,d=>if n≤m then VK m ps (n+(VL (m-1) p).1) (max d (VL (m-1) p).2) else (n,d)
end
mutual
def Wm:Int→Tm→Int×Int
  | m,.mk _ _ _ kids cases=>((VM m cases (X7 m kids 1 0).1 (X7 m kids 1 0).2).1,(VM m cases (X7 m kids 1 0).1 (X7 m kids 1 0).2).2+1)
def X7:Int→List Tm→Int→Int→Int×Int
  | _,[],n,d=>(n,d)
  | m,p::ps,n,d=>if n≤m then X7 m ps (n+(Wm (m-1) p).1) (max d (Wm (m-1) p).2) else (n,d)
def VM:Int→List (Pt×Tm)→Int→Int→Int×Int
  | _,[],n,d=>(n,d)
  | m,(p,t)::ps,n,d=>if n≤m then VM m ps (n+(VL (m-1) p).1+(Wm (m-1) t).1) (max (max d (VL (m-1) p).2) (Wm (m-1) t).2) else (n,d)
end
theorem En {l:List Pt} (ih:∀ p∈l,∀ m,1≤(VL m p).2∧(VL m p).2≤(VL m p).1∧(VL m p).1≤sizeP p) (m:Int):∀ (n d:Int),0≤d→d<n→0≤(VK m l n d).2∧(VK m l n d).2<(VK m l n d).1∧(VK m l n d).1≤n+sizePs l:=by
  induction l with
  | nil=>intro n d h1 h2;simp only [VK,sizePs];omega
  | cons p l ih'=>
    intro n d h1 h2
    rw [VK,sizePs]
    have hp:=ih p (by simp) (m-1)
    split
    · have:=ih' (fun q hq=>ih q (by simp [hq])) (n+(VL (m-1) p).1) (max d (VL (m-1) p).2) (by omega) (by omega)
      omega
    · simp only;omega
theorem NB (p:Pt):∀ m,1≤(VL m p).2∧(VL m p).2≤(VL m p).1∧(VL m p).1≤sizeP p:=by
  induction p using Pt.ind with
  | h k n r kids ih=>
    intro m
    have:=En ih m 1 0 (by omega) (by omega)
    rw [VL,sizeP]
    simp only
    omega
theorem MV {l:List Tm} (ih:∀ p∈l,∀ m,1≤(Wm m p).2∧(Wm m p).2≤(Wm m p).1∧(Wm m p).1≤sizeT p) (m:Int):∀ (n d:Int),0≤d→d<n→0≤(X7 m l n d).2∧(X7 m l n d).2<(X7 m l n d).1∧n≤(X7 m l n d).1∧(X7 m l n d).1≤n+sizeTs l:=by
  induction l with
  | nil=>intro n d h1 h2;simp only [X7,sizeTs];omega
  | cons p l ih'=>
    intro n d h1 h2
    rw [X7,sizeTs]
    have hp:=ih p (by simp) (m-1)
    split
    · have:=ih' (fun q hq=>ih q (by simp [hq])) (n+(Wm (m-1) p).1) (max d (Wm (m-1) p).2) (by omega) (by omega)
      omega
    · simp only;omega
theorem Eo {l:List (Pt×Tm)} (ih:∀ p∈l,∀ m,1≤(Wm m p.2).2∧(Wm m p.2).2≤(Wm m p.2).1∧(Wm m p.2).1≤sizeT p.2) (m:Int):∀ (n d:Int),0≤d→d<n→0≤(VM m l n d).2∧(VM m l n d).2<(VM m l n d).1∧(VM m l n d).1≤n+sizeCs l:=by
  induction l with
  | nil=>intro n d h1 h2;simp only [VM,sizeCs];omega
  | cons p l ih'=>
    obtain ⟨p,t⟩:=p
    intro n d h1 h2
    rw [VM,sizeCs]
    have ht:=ih (p,t) (by simp) (m-1)
    have hp:=NB p (m-1)
    simp only at ht
    split
    · have:=ih' (fun q hq=>ih q (by simp [hq])) (n+(VL (m-1) p).1+(Wm (m-1) t).1) (max (max d (VL (m-1) p).2) (Wm (m-1) t).2) (by omega) (by omega)
      omega
    · simp only;omega
theorem NA (t:Tm):∀ m,1≤(Wm m t).2∧(Wm m t).2≤(Wm m t).1∧(Wm m t).1≤sizeT t:=by
  induction t using Tm.ind with
  | h k n r kids cases ih ih'=>
    intro m
    have h1:=MV ih m 1 0 (by omega) (by omega)
    have h2:=Eo ih' m (X7 m kids 1 0).1 (X7 m kids 1 0).2 (by omega) (by omega)
    rw [Wm,sizeT]
    simp only
    omega
def Sv (t:Tm):Bool:=(decide (300<(Wm 400 t).1))||(decide (60<(Wm 400 t).2))
def ZG (d m:Int) (t:Tm):Int:=if Sv t=true then 11 else ZV d m 0 t
noncomputable instance:DecidableEq Pt:=fun _ _=>Classical.propDecidable _
noncomputable instance:DecidableEq Tm:=fun _ _=>Classical.propDecidable _
theorem ZbX (k n k' n':Int) (r r':Sm) (l l':List Tm) (m m':List (Pt×Tm)):(((((decide (k=k'))&&(decide (n=n')))&&(decide (r=r')))&&(decide (l=l')))&&(decide (m=m')))=decide (Tm.mk k n r l m=Tm.mk k' n' r' l' m'):=by
  rw [Bool.eq_iff_iff];simp [and_assoc]
theorem ZcF (k n:Int) (r:Sm) (l:List Tm) (m:List (Pt×Tm)) (q:Tm):(((((decide (k=q.kind))&&(decide (n=q.num)))&&(decide (r=q.ref)))&&(decide (l=q.kids)))&&(decide (m=q.cases)))=decide (Tm.mk k n r l m=q):=by
  cases q;exact ZbX ..
mutual
def cnP (st:Int→Int→Bool):Int→Pt→Int→Bool×Int
  | d,.mk _ _ _ kids,n=>if st (n+1) d=true then (true,n+1) else R8 st (d+1) kids (n+1)
def R8 (st:Int→Int→Bool):Int→List Pt→Int→Bool×Int
  | _,[],n=>(false,n)
  | d,p::ps,n=>if (cnP st d p n).1=true then (true,(cnP st d p n).2) else R8 st d ps (cnP st d p n).2
end
mutual
def cnT (st:Int→Int→Bool):Int→Tm→Int→Bool×Int
  | d,.mk _ _ _ kids cases,n=>if st (n+1) d=true then (true,n+1) else if (VP st (d+1) kids (n+1)).1=true then (true,(VP st (d+1) kids (n+1)).2) else R9 st (d+1) cases (VP st (d+1) kids (n+1)).2
def VP (st:Int→Int→Bool):Int→List Tm→Int→Bool×Int
  | _,[],n=>(false,n)
  | d,p::ps,n=>if (cnT st d p n).1=true then (true,(cnT st d p n).2) else VP st d ps (cnT st d p n).2
def R9 (st:Int→Int→Bool):Int→List (Pt×Tm)→Int→Bool×Int
  | _,[],n=>(false,n)
  | d,(p,t)::ps,n=>if (cnP st d p n).1=true then (true,(cnP st d p n).2) else if (cnT st d t (cnP st d p n).2).1=true then (true,(cnT st d t (cnP st d p n).2).2) else R9 st d ps (cnT st d t (cnP st d p n).2).2
end
def cnC (st:Int→Int→Bool) (d:Int) (c:Pt×Tm) (n:Int):Bool×Int:=if (cnP st d c.1 n).1=true then (true,(cnP st d c.1 n).2) else cnT st d c.2 (cnP st d c.1 n).2
theorem M7 (st:Int→Int→Bool) (d:Int) (l:List Pt):∀ n,R8 st d l n=Xl (cnP st d) l n:=by
  induction l with
  | nil=>intro n;rw [R8,Xl]
  | cons p l ih=>intro n;rw [R8,Xl,ih]
theorem Ps (st:Int→Int→Bool) (d:Int) (l:List Tm):∀ n,VP st d l n=Xl (cnT st d) l n:=by
  induction l with
  | nil=>intro n;rw [VP,Xl]
  | cons p l ih=>intro n;rw [VP,Xl,ih]
theorem M8 (st:Int→Int→Bool) (d:Int) (l:List (Pt×Tm)):∀ n,R9 st d l n=Xl (cnC st d) l n:=by
  induction l with
  | nil=>intro n;rw [R9,Xl]
  | cons c l ih=>
    obtain ⟨p,t⟩:=c
    intro n
    rw [R9,Xl,ih]
    simp only [cnC]
    split
    · simp
    · split
      · simp
      · simp
def stL (n d:Int):Bool:=(decide (300<n))||(decide (60<d))
theorem SQ {st:Int→Int→Bool} (p:Pt):∀ d n,(cnP st d p n).1=false→(cnP st d p n).2=n+sizeP p:=by
  induction p using Pt.ind with
  | h k m r kids ih=>
    intro d n h
    rw [cnP] at h ⊢
    split at h
    · cases h
    · rename_i h0
      rw [if_neg h0,sizeP]
      clear h0
      have:∀ (l:List Pt),(∀ x∈l,∀ d n,(cnP st d x n).1=false→(cnP st d x n).2=n+sizeP x)→∀ d n,(R8 st d l n).1=false→(R8 st d l n).2=n+sizePs l:=by
        intro l
        induction l with
        | nil=>intro _ d n _;simp [R8,sizePs]
        | cons q l ih'=>
          intro hl d n h
          rw [R8] at h ⊢
          split at h
          · cases h
          · rename_i h1
            rw [if_neg h1,ih' (fun x hx=>hl x (by simp [hx])) _ _ h,hl q (by simp) _ _ (by simpa using h1),sizePs];omega
      rw [this kids ih _ _ h];omega
theorem UQ {st:Int→Int→Bool} (t:Tm):∀ d n,(cnT st d t n).1=false→(cnT st d t n).2=n+sizeT t:=by
  induction t using Tm.ind with
  | h k m r kids cases ih ih2=>
    intro d n h
    have hT:∀ (l:List Tm),(∀ x∈l,∀ d n,(cnT st d x n).1=false→(cnT st d x n).2=n+sizeT x)→∀ d n,(VP st d l n).1=false→(VP st d l n).2=n+sizeTs l:=by
      intro l
      induction l with
      | nil=>intro _ d n _;simp [VP,sizeTs]
      | cons q l ih'=>
        intro hl d n h
        rw [VP] at h ⊢
        split at h
        · cases h
        · rename_i h1
          rw [if_neg h1,ih' (fun x hx=>hl x (by simp [hx])) _ _ h,hl q (by simp) _ _ (by simpa using h1),sizeTs];omega
    have hC :∀ (l:List (Pt×Tm)),(∀ x∈l,∀ d n,(cnT st d x.2 n).1=false→(cnT st d x.2 n).2=n+sizeT x.2)→∀ d n,(R9 st d l n).1=false→(R9 st d l n).2=n+sizeCs l:=by
      intro l
      induction l with
      | nil=>intro _ d n _;simp [R9,sizeCs]
      | cons q l ih'=>
        obtain ⟨q,u⟩:=q
        intro hl d n h
        rw [R9] at h ⊢
        split at h
        · cases h
        · rename_i h1
          split at h
          · cases h
          · rename_i h2
            rw [if_neg h1,if_neg h2,ih' (fun x hx=>hl x (by simp [hx])) _ _ h,hl (q,u) (by simp) _ _ (by simpa using h2),SQ q _ _ (by simpa using h1),sizeCs];simp only;omega
    rw [cnT] at h ⊢
    split at h
    · cases h
    · rename_i h0
      split at h
      · cases h
      · rename_i h1
        rw [if_neg h0,if_neg h1,hC cases ih2 _ _ h,hT kids ih _ _ (by simpa using h1),sizeT];omega
theorem ZaB {st:Int→Int→Bool} {B:Int} (hst:∀ n d,st n d=false→n≤B) (p:Pt):∀ d n,(cnP st d p n).1=false→(cnP st d p n).2≤B:=by
  induction p using Pt.ind with
  | h k m r kids ih=>
    intro d n h
    rw [cnP] at h ⊢
    split at h
    · cases h
    · rename_i h0
      rw [if_neg h0]
      rw [M7] at h ⊢
      exact Sy (Inv:=fun n=>n≤B) (fun x hx s _ hf=>ih x hx _ _ hf) _ (hst _ d (by simpa using h0)) h
theorem EI {st:Int→Int→Bool} {B:Int} (hst:∀ n d,st n d=false→n≤B) (t:Tm):∀ (d n:Int),(cnT st d t n).1=false→(cnT st d t n).2≤B:=by
  induction t using Tm.ind with
  | h k m r kids cases ih ih2=>
    intro d n h
    rw [cnT] at h ⊢
    split at h
    · cases h
    · rename_i h0
      split at h
      · cases h
      · rename_i h1
        rw [if_neg h0,if_neg h1]
        rw [M8] at h ⊢
        refine Sy (Inv:=fun n=>n≤B) (fun x hx s _ hf=>?_) _ ?_ h
        · simp only [cnC] at hf ⊢
          split at hf
          · cases hf
          · rename_i h2;rw [if_neg h2];exact ih2 x hx _ _ hf
        · rw [Ps] at h1 ⊢
          exact Sy (Inv:=fun n=>n≤B) (fun x hx s _ hf=>ih x hx _ _ hf) _ (hst _ d (by simpa using h0)) (by simpa using h1)
theorem Tw (n d:Int) (h:stL n d=false):n≤300:=by simp [stL] at h;exact h.1
theorem SR {st:Int→Int→Bool} {B:Int} (hst:∀ n d,st n d=false→n≤B) (p:Pt) (d n:Int) (h0:0≤n) (h:(cnP st d p n).1=false):0≤(cnP st d p n).2∧(cnP st d p n).2≤B:=
  ⟨by rw [SQ p d n h];omega,ZaB hst p d n h⟩
theorem Pv {st:Int→Int→Bool} {B:Int} (hst:∀ n d,st n d=false→n≤B) (t:Tm) (d n:Int) (h0:0≤n) (h:(cnT st d t n).1=false):0≤(cnT st d t n).2∧(cnT st d t n).2≤B:=
  ⟨by rw [UQ t d n h];omega,EI hst t d n h⟩
theorem EL {st:Int→Int→Bool} {B:Int} (hst:∀ n d,st n d=false→n≤B) (c:Pt×Tm) (d n:Int) (h0:0≤n) (h:(cnC st d c n).1=false):0≤(cnC st d c n).2∧(cnC st d c n).2≤B:=by
  simp only [cnC] at h ⊢
  split at h
  · cases h
  · rename_i h1
    rw [if_neg h1]
    exact Pv hst _ _ _ (SR hst _ _ _ h0 (by simpa using h1)).1 h
theorem Hz {st:Int→Int→Bool} {B:Int} (hst:∀ n d,st n d=false→n≤B) (l:List Tm) (d n:Int) (h0:0≤n) (hB:n≤B) (h:(Xl (cnT st d) l n).1=false):0≤(Xl (cnT st d) l n).2∧(Xl (cnT st d) l n).2≤B:=
  Sy (Inv:=fun n=>0≤n∧n≤B) (fun x _ s hs hf=>Pv hst x d s hs.1 hf) n ⟨h0,hB⟩ h
def YT (P:Program) (l:Nat) (args:Array Value) (M:List Zf) (H:Heap) (post:Value→List Zf→Prop):Prop:=
  ∀ F w,Mem w (M.flatten++F) H→∃ f tmps as body,(Instr.yield l args).run P w=.ok (.round l f tmps as body) w∧
    RoundIn Fence.wide 0 P l f tmps as body w fun e w'=>∃ v M',e=.returned v∧Mem w' (M'.flatten++F) H∧post v M'
theorem YT.mono {P:Program} {l:Nat} {args:Array Value} {M:List Zf} {H:Heap} {post post':Value→List Zf→Prop} (h:YT P l args M H post) (hp:∀ v M,post v M→post' v M):YT P l args M H post':=fun F w m=>
  let ⟨f,t,a,b,h1,h2⟩:=h F w m
  ⟨f,t,a,b,h1,h2.mono fun _ _ ⟨v,M',he,hm,hq⟩=>⟨v,M',he,hm,hp _ _ hq⟩⟩
section
variable {c:Cx} {H:Heap} {ρ:Nat→Value} {M:List Zf} {Q:Post} {ops:Array Oper} {rest:List Oper}
theorem Pi {P:Program} {e:Operand→Value} {d:Option Nat} {ot:TypeId} {pos:String} {af:Array Edge} {g:Option (Nat×Bool)} {x:Operand} {as:List Operand} {ats:Array TypeId} {l:Nat} {vs:List Value}
    (hx:e x=.func (.yield l) ⟨[]⟩ ⟨[]⟩) (ha:as.map e=vs):
    ∀ w,(execOp e ⟨d,.call {callee:=.value x,args:=as.toArray,argTypes:=ats},ot,pos,af,g⟩).run P w=(Instr.yield l ⟨vs⟩).run P w:=fun w=>by
  subst ha
  simp [execOp,resolve,hx,Deferred.ofValue,invoke]
theorem Tn {d:Option Nat} {ot:TypeId} {pos:String} {af:Array Edge} {g:Option (Nat×Bool)} {x:Operand} {as:List Operand} {ats:Array TypeId} {l:Nat} {vs:List Value} {post:Value→List Zf→Prop}
    (i:Nat) {k:Zf} (hg:wnt ops c.n ρ ⟨d,.call {callee:=.value x,args:=as.toArray,argTypes:=ats},ot,pos,af,g⟩=true)
    (hx:ev c.n ρ x=.func (.yield l) ⟨[]⟩ ⟨[]⟩) (hi:M[i]?=some k)
    (hc:(∀ (j:Nat) k,(M.eraseIdx i)[j]?=some k→Has k (hu (M.eraseIdx i).flatten H))→YT c.P l ⟨vs⟩ [k] (hu (M.eraseIdx i).flatten H) post)
    (ha:as.map (ev c.n ρ)=vs)
    (h:∀ v N,post v N→JL c H ops rest (Xj ρ d v) (N++M.eraseIdx i) Q):
    JL c H ops (⟨d,.call {callee:=.value x,args:=as.toArray,argTypes:=ats},ot,pos,af,g⟩::rest) ρ M Q:=fun F rs w m=>by
  unfold wlo
  rw [Vq,hg,if_pos rfl]
  refine ⟨fun _ _=>trivial,?_⟩
  rw [WM]
  have hM:M.flatten.Perm ([k].flatten++(M.eraseIdx i).flatten):=by simpa using Yt hi
  have m1:Mem w ((M.eraseIdx i).flatten++([k].flatten++(dfb rs++F))) H:=by
    refine m.perm ((hM.append_right (dfb rs++F)).trans ?_)
    rw [← append_assoc (M.eraseIdx i).flatten]
    exact List.perm_append_comm.append_right (dfb rs++F)
  have m2:Mem w ([k].flatten++(dfb rs++F)) (hu (M.eraseIdx i).flatten H):=m1.hu
  have hnd:((M.eraseIdx i).flatten.map (·.1)).Nodup:=m1.left.nd
  have hsep:∀ b o,(b,o)∈(M.eraseIdx i).flatten→H b=none:=m1.left.sep
  have hkh:∀ (j:Nat) k,(M.eraseIdx i)[j]?=some k→Has k (hu (M.eraseIdx i).flatten H):=fun j k hk b o hb=>by
    have hmem:(b,o)∈(M.eraseIdx i).flatten:=mem_flatten.2 ⟨k,mem_of_getElem? hk,hb⟩
    rw [Xf,hsep b o hmem];exact YP hnd hmem
  obtain ⟨f,tmps,as',body,hy,hr⟩:=hc hkh (dfb rs++F) w m2
  rw [WR (by simp),Pi hx ha w,hy]
  refine ⟨fun h=>by simp [Fw] at h,?_⟩
  refine hr.mono fun e w' ⟨v,N,he',hm',hp⟩=>?_
  subst he'
  have m3:Mem w' ((N++M.eraseIdx i).flatten++(dfb rs++F)) H:=by
    have m4:Mem w' (N.flatten++((M.eraseIdx i).flatten++(dfb rs++F))) H:=Zc5 hnd hsep (Mem.perm hm' (by exact List.Perm.refl _))
    rw [flatten_append,append_assoc];exact m4
  show wlo c ops (X9 c H F Q) rest ((act c.n (XW rs) ρ).put d v) w'
  rw [Uh]
  exact h v N hp F rs w' m3
end
theorem RW {a b:List Value} {n i:Nat} {v:Value} (h:a.length=n) (h':b[i]?=some v):(a++b)[n+i]?=some v:=by
  subst h;rw [List.getElem?_append_right (by omega)];simpa using h'
theorem ZbW {a b:List Value} {i:Nat} {v:Value} (h':a[i]?=some v):(a++b)[i]?=some v:=by
  have:=(List.getElem?_eq_some_iff.1 h').1
  rw [List.getElem?_append_left this];exact h'
theorem Zi {ρ:Nat→Value} {l:List (Nat×Value)} (h:Z7 ρ l=ρ):∃ ρ',ρ=Z7 ρ' l:=⟨ρ,h.symm⟩
def H9 (ρ:Nat→Value) (l:List (Nat×Value)):Nat→Value:=l.foldl (fun ρ p=>upd ρ p.1 p.2) ρ
theorem De (n:Nat) (l:List (Nat×Value)):∀ ρ,l.foldl (fun (tmps:Array Value) (p:Nat×Value)=>tmps.setIfInBounds p.1 p.2) (act n [] ρ).tmps=(act n [] (H9 ρ l)).tmps:=by
  induction l with
  | nil=>intro ρ;rfl
  | cons p l ih=>
    intro ρ
    have:=Uh n [] ρ (some p.1) p.2
    simp only [Act.put,Xj] at this
    have h1:(act n [] ρ).tmps.setIfInBounds p.1 p.2=(act n [] (upd ρ p.1 p.2)).tmps:=by
      have:=congrArg Act.tmps this
      exact this
    simp only [List.foldl_cons,h1,ih]
    rfl
def Xk (fn:FuncId) (tmps:Array Value) (ps:Array Tmp) (as body:Code) (r:Nat) (st:LoopState) (p:Option Code):Obj:=
  .loop {state:=st,pending:=p,fn:=fn,tmps:=tmps,params:=ps,assign:=as,body:=body,defers:=r}
def TZ (b:Bool):LoopState:=cond b .done .ready
def WY (b:Bool):Option Code:=cond b (some .ret) none
theorem Ii {P:Program} {l:Nat} {args:List Value} {w:World} {fn:FuncId} {n:Nat} {ρ:Nat→Value} {ps:List Nat} {as body:Code} {r:Nat} {st:LoopState} {p:Option Code} (h:w.heap[l]?=some (Xk fn (act n [] ρ).tmps ps.toArray as body r st p)) (hs:args.length=ps.length):
    (Instr.yield l ⟨args⟩).run P w=.ok (.round l fn (act n [] (H9 ρ (ps.zip args))).tmps as body) w:=by
  simp only [Instr.yield,Instr.getLoop,Sem.run_bind,Wh (o:=Xk fn (act n [] ρ).tmps ps.toArray as body r st p) rfl h,Result.andThen_ok]
  simp only [Xk,Sem.run_pure,Result.andThen_ok]
  rw [if_neg (by simp [hs])]
  simp only [Sem.run_pure]
  congr 2
  rw [← De,← Array.foldl_toList]
  simp
theorem Hv {P:Program} {l:Nat} {w:World} {fn:FuncId} {tmps:Array Value} {ps:Array Tmp} {as body:Code} {r:Nat} {p:Option Code} {L:Zf} {H:Heap} (m:Mem w ((l,Xk fn tmps ps as body r .ready p)::L) H):
    ∃ w',(Instr.beginRound l).run P w=.ok () w'∧Mem w' ((l,Xk fn tmps ps as body r .busy p)::L) H:=by
  have hb:=m.own l _ (mem_cons.2 (.inl rfl))
  have hlt:l<w.heap.size:=(Array.getElem?_eq_some_iff.1 hb).1
  refine ⟨{w with heap:=w.heap.setIfInBounds l (Xk fn tmps ps as body r .busy p)},?_,Mem.set m (by simp [hlt]) (fun k hk=>by simp [Ne.symm hk])⟩
  simp only [Instr.beginRound,Instr.getLoop,Sem.run_bind,Wh (o:=Xk fn tmps ps as body r .ready p) rfl hb,Result.andThen_ok]
  simp only [Xk,Sem.run_pure,Result.andThen_ok]
  rw [Vd (o:=Xk fn tmps ps as body r .ready p) rfl hb]
  simp
theorem Bb {P:Program} {l:Nat} {w:World} {fn:FuncId} {tmps:Array Value} {ps:Array Tmp} {as body:Code} {r:Nat} {p:Option Code} {L:Zf} {H:Heap} {st:LoopState} (b:Bool) (m:Mem w ((l,Xk fn tmps ps as body r st p)::L) H):
    ∃ w',(Instr.endRound l (WY b)).run P w=.ok (.bool (!b)) w'∧Mem w' ((l,Xk fn tmps ps as body r (TZ b) (WY b))::L) H:=by
  have hb:=m.own l _ (mem_cons.2 (.inl rfl))
  have hlt:l<w.heap.size:=(Array.getElem?_eq_some_iff.1 hb).1
  refine ⟨{w with heap:=w.heap.setIfInBounds l (Xk fn tmps ps as body r (TZ b) (WY b))},?_,Mem.set m (by simp [hlt]) (fun k hk=>by simp [Ne.symm hk])⟩
  simp only [Instr.endRound,Instr.getLoop,Sem.run_bind,Wh (o:=Xk fn tmps ps as body r st p) rfl hb,Result.andThen_ok]
  simp only [Xk,Sem.run_pure,Result.andThen_ok]
  rw [Vd (o:=Xk fn tmps ps as body r st p) rfl hb]
  cases b <;> simp [WY,TZ]
theorem RY {P:Program} {l:Nat} {w:World} {fn:FuncId} {tmps:Array Value} {ps:Array Tmp} {as body:Code} {r:Nat} {L:Zf} {H:Heap} (b:Bool) (m:Mem w ((l,Xk fn tmps ps as body r (TZ b) (WY b))::L) H):
    ∃ w',(Instr.endLoop l).run P w=.ok (WY b) w'∧Mem w' L H:=by
  have hb:=m.own l _ (mem_cons.2 (.inl rfl))
  have hlt:l<w.heap.size:=(Array.getElem?_eq_some_iff.1 hb).1
  have m':=Mem.set m (w':={w with heap:=w.heap.setIfInBounds l (Xk fn tmps ps as body r .exhausted (WY b))}) (o':=Xk fn tmps ps as body r .exhausted (WY b)) (by simp [hlt]) (fun k hk=>by simp [Ne.symm hk])
  refine ⟨{w with heap:=w.heap.setIfInBounds l (Xk fn tmps ps as body r .exhausted (WY b))},?_,Mem.sub (R:=[(l,Xk fn tmps ps as body r .exhausted (WY b))]) m' (perm_append_comm (l₁:=[(l,Xk fn tmps ps as body r .exhausted (WY b))]))⟩
  simp only [Instr.endLoop,Instr.getLoop,Sem.run_bind,Wh (o:=Xk fn tmps ps as body r (TZ b) (WY b)) rfl hb,Result.andThen_ok]
  simp only [Xk,Sem.run_pure,Result.andThen_ok]
  rw [if_neg (by cases b <;> simp [TZ])]
  simp only [Sem.run_bind]
  rw [Vd (o:=Xk fn tmps ps as body r (TZ b) (WY b)) rfl hb]
  simp
section
variable {P:Program} {n:Nat} {H:Heap} {ρ:Nat→Value} {M:List Zf}
def RoundOk (P:Program) (n:Nat) (l:Nat) (h:Heap) (as body:Code) (ρ:Nat→Value) {σ:Type} (Y:σ→List Zf) (pend:σ→Bool) (s:σ) (post:σ→Prop):Prop:=
  J ⟨P,some l,n⟩ h as ρ (Y s) ⟨fun ρ1 M1=>J ⟨P,some l,n⟩ h body ρ1 M1 ⟨fun _ M2=>∃ s',pend s'=false∧Sub (Y s') M2∧post s',fun _ M2=>∃ s',pend s'=true∧Sub (Y s') M2∧post s',[]⟩,fun _ _=>False,[]⟩
theorem RoundOk.mk {l:Nat} {h:Heap} {as body:Code} {σ:Type} {Y:σ→List Zf} {pend:σ→Bool} {s:σ} {post:σ→Prop} (x:J ⟨P,some l,n⟩ h as ρ (Y s) ⟨fun ρ1 M1=>J ⟨P,some l,n⟩ h body ρ1 M1 ⟨fun _ M2=>∃ s',pend s'=false∧Sub (Y s') M2∧post s',fun _ M2=>∃ s',pend s'=true∧Sub (Y s') M2∧post s',[]⟩,fun _ _=>False,[]⟩):RoundOk P n l h as body ρ Y pend s post:=x
theorem Uc {i:Nat} {k:Zf} (hi:M[i]?=some k):M.flatten.Perm ([k].flatten++(M.eraseIdx i).flatten):=by simpa using Yt hi
theorem Lu {l:Nat} {fn:FuncId} {ps:List Nat} {as body:Code} {r:Nat} {σ:Type} (Y:σ→List Zf) (pend:σ→Bool) {s:σ} {vs:List Value} {h:Heap} {post:σ→Prop} (hs:pend s=false) (hv:vs.length=ps.length)
    (hr:RoundOk P n l h as body (H9 ρ (ps.zip vs)) Y pend s post):
    YT P l ⟨vs⟩ [(l,Xk fn (act n [] ρ).tmps ps.toArray as body r (TZ (pend s)) (WY (pend s)))::(Y s).flatten] h
      (fun v N=>∃ s',v=.bool (!(pend s'))∧N=[(l,Xk fn (act n [] ρ).tmps ps.toArray as body r (TZ (pend s')) (WY (pend s')))::(Y s').flatten]∧post s'):=fun F w m=>by
  rw [hs] at m
  simp only [flatten_cons,flatten_nil,append_nil,cons_append] at m
  have hb:=m.own l _ (mem_cons.2 (.inl rfl))
  refine ⟨fn,_,as,body,Ii hb hv,roundIn_of_wpIn trivial ?_⟩
  have hrec:∀ (M1:List Zf) (rs:List Nat) (w':World) (o:Obj),Mem w' (M1.flatten++(dfb rs++((l,o)::F))) h→Mem w' ((l,o)::(M1.flatten++(dfb rs++F))) h:=fun M1 rs w' o hm=>hm.perm (by
    rw [← append_assoc,← append_assoc];exact List.perm_middle)
  have hrec':∀ (M1:List Zf) (rs:List Nat) (w':World) (o:Obj),Mem w' ((l,o)::(M1.flatten++(dfb rs++F))) h→Mem w' (M1.flatten++(dfb rs++((l,o)::F))) h:=fun M1 rs w' o hm=>hm.perm (by
    rw [← append_assoc,← append_assoc];exact List.perm_middle.symm)
  have m0:Mem w ((Y s).flatten++(dfb []++((l,Xk fn (act n [] ρ).tmps ps.toArray as body r .ready none)::F))) h:=hrec' (Y s) [] w _ m
  refine wpIn_mono (hr _ [] w m0) ?_
  rintro e a₁ w₁ ⟨rs₁,ρ₁,M₁,ha,hm₁,hq⟩
  cases e with
  | normal=>
    subst ha
    obtain ⟨w₂,hbr,hm₂⟩:=Hv (P:=P) (hrec M₁ rs₁ w₁ _ hm₁)
    refine ⟨w₂,hbr,?_⟩
    refine wpIn_mono (hq _ rs₁ w₂ (hrec' M₁ rs₁ w₂ _ hm₂)) ?_
    rintro e₂ a₂ w₃ ⟨rs₂,ρ₂,M₂,ha₂,hm₃,hq₂⟩
    have fin:∀ s',Sub (Y s') M₂→post s'→∃ v w',(Instr.endRound l (WY (pend s'))).run P w₃=.ok v w'∧∃ v' M',(Ending.returned v:Ending)=.returned v'∧Mem w' (M'.flatten++F) h∧
        ∃ s',v'=.bool (!(pend s'))∧M'=[(l,Xk fn (act n [] ρ).tmps ps.toArray as body r (TZ (pend s')) (WY (pend s')))::(Y s').flatten]∧post s':=fun s' hsub hp=>by
      obtain ⟨w₄,he,hm₄⟩:=Bb (P:=P) (pend s') (hrec M₂ rs₂ w₃ _ hm₃)
      refine ⟨_,w₄,he,_,_,rfl,?_,s',rfl,rfl,hp⟩
      obtain ⟨R,hR⟩:=hsub
      refine Mem.sub (R:=R++dfb rs₂) hm₄ ?_
      simp only [flatten_cons,flatten_nil,append_nil,cons_append]
      refine List.Perm.cons _ ((hR.append_right _).trans ?_)
      rw [append_assoc,append_assoc]
      refine List.Perm.append_left _ ?_
      rw [← append_assoc R]
      exact perm_append_comm
    cases e₂ with
    | normal=>obtain ⟨s',h1,h2,h3⟩:=hq₂;have:=fin s' h2 h3;rw [h1] at this;exact this
    | ret=>obtain ⟨s',h1,h2,h3⟩:=hq₂;have:=fin s' h2 h3;rw [h1] at this;exact this
    | exit i=>obtain ⟨X,hX,_⟩:=hq₂;cases hX
    | goto t=>exact hq₂.elim
    | panic ch=>exact hq₂.elim
    | outgrown=>exact hq₂.elim
  | ret=>exact hq.elim
  | exit i=>obtain ⟨X,hX,_⟩:=hq;cases hX
  | goto t=>exact hq.elim
  | panic ch=>exact hq.elim
  | outgrown=>exact hq.elim
theorem Qu {g:Operand} {ps:List Nat} {as body:Code} {N R:Y2} {E:List (Nat×Y2)} {f:FuncId} {fv cv:List Value} {L:List Zf} {σ:Type} (Y:σ→List Zf) (pend:σ→Bool) (s0:σ) (fin:σ→Prop)
    (hs0:pend s0=false) (hx:ev n ρ g=.func (.func f) ⟨fv⟩ ⟨cv⟩) (hcall:∀ args w,(callFunc f args).run P w=.ok (.enter f args) w) (hM:M.flatten.Perm ((Y s0).flatten++L.flatten))
    (hit:∀ (l:Nat) (yc:σ→Zf),
      (∀ (s:σ) (vs:List Value) (h:Heap) (post:σ→Prop),pend s=false→vs.length=ps.length→RoundOk P n l h as body (H9 ρ (ps.zip vs)) Y pend s post→YT P l ⟨vs⟩ [yc s] h (fun v N=>∃ s',v=.bool (!(pend s'))∧N=[yc s']∧post s'))→
      (∀ (i:Nat) k,L[i]?=some k→Has k (hu L.flatten H))→
      CT P f ⟨fv++[.func (.yield l) ⟨[]⟩ ⟨[]⟩]++cv⟩ [yc s0] (hu L.flatten H) (fun _ N=>∃ s,N=[yc s]∧fin s))
    (hN:∀ s,fin s→pend s=false→N ρ (Y s++L)) (hR:∀ s,fin s→pend s=true→R ρ (Y s++L)):
    J ⟨P,none,n⟩ H (.rangeFunc g ps.toArray as body) ρ M ⟨N,R,E⟩:=fun F rs w m=>by
  refine wpIn_rangeFunc fun fn _=>?_
  let r:=w.heap.size
  let w0:World:={w with heap:=w.heap.push (.deferred (some []))}
  let l:=w0.heap.size
  let w1:World:={w0 with heap:=w0.heap.push (Xk fn (act n [] ρ).tmps ps.toArray as body r .ready none)}
  have m1:Mem w1 ((l,Xk fn (act n [] ρ).tmps ps.toArray as body r .ready none)::(r,.deferred (some []))::(M.flatten++(dfb rs++F))) H:=Mem.push (w:=w0) (w':=w1) (Mem.push (w:=w) (w':=w0) m rfl) rfl
  let yc:σ→Zf:=fun s=>(l,Xk fn (act n [] ρ).tmps ps.toArray as body r (TZ (pend s)) (WY (pend s)))::(Y s).flatten
  have m2:Mem w1 (L.flatten++([yc s0].flatten++(dfb (r::rs)++F))) H:=by
    refine m1.perm ?_
    simp only [yc,hs0,flatten_cons,flatten_nil,append_nil,TZ,WY,cond_false,dfb,map_cons,cons_append]
    refine List.Perm.trans ?_ List.perm_middle.symm
    refine List.Perm.cons _ ?_
    refine List.Perm.trans (List.Perm.cons _ (hM.append_right _)) ?_
    refine List.Perm.trans ?_ (List.Perm.append_left _ List.perm_middle.symm)
    refine List.Perm.trans ?_ List.perm_middle.symm
    refine List.Perm.cons _ ?_
    rw [← append_assoc L.flatten]
    exact List.perm_append_comm.append_right _
  have hnd:(L.flatten.map (·.1)).Nodup:=m2.left.nd
  have hsep:∀ b o,(b,o)∈L.flatten→H b=none:=m2.left.sep
  have hkh:∀ (i:Nat) k,L[i]?=some k→Has k (hu L.flatten H):=fun i k hk b o hb=>by
    have hmem:(b,o)∈L.flatten:=mem_flatten.2 ⟨k,mem_of_getElem? hk,hb⟩
    rw [Xf,hsep b o hmem];exact YP hnd hmem
  have hct:=hit l yc (fun s vs h post hs hv hr=>Lu Y pend hs hv hr) hkh
  refine ⟨l,[{target:=.collected r,args:=#[]}],w1,{target:=.fn (.func f) ⟨cv⟩,args:=⟨fv⟩++#[.func (.yield l) #[] #[]]},w1,f,⟨fv++[.func (.yield l) ⟨[]⟩ ⟨[]⟩]++cv⟩,w1,?_,?_,fun _ _=>trivial,?_,fun h=>by simp [Fw] at h,?_⟩
  · simp [Instr.enterLoop,Fw,w1,w0,l,r,Xk,act]
  · simp only [resolve,WM,hx]
    simp [Deferred.ofValue,ev]
  · simp only [invoke]
    rw [hcall]
    simp
  · refine (hct (dfb (r::rs)++F) w1 m2.hu).mono fun e w₃ ⟨v,N',he,hm,s,hNs,hf⟩=>?_
    subst he hNs
    have m3:Mem w₃ ([yc s].flatten++(L.flatten++(dfb (r::rs)++F))) H:=Zc5 hnd hsep hm
    have m4:Mem w₃ ((l,Xk fn (act n [] ρ).tmps ps.toArray as body r (TZ (pend s)) (WY (pend s)))::((Y s++L).flatten++(dfb (r::rs)++F))) H:=by
      refine m3.perm ?_
      simp only [yc,flatten_cons,flatten_nil,append_nil,cons_append,flatten_append,append_assoc]
      exact List.Perm.refl _
    obtain ⟨w₄,he,hm₄⟩:=RY (P:=P) (pend s) m4
    refine ⟨WY (pend s),w₄,he,?_⟩
    cases hp:pend s with
    | false=>exact ⟨r::rs,ρ,Y s++L,rfl,hm₄,hN s hf hp⟩
    | true=>exact wpIn_ret ⟨r::rs,ρ,Y s++L,rfl,hm₄,hR s hf hp⟩
end
def Kd (d n b:Int):Bool:=(decide (0≤n))&&((decide (n<b))||(decide (n-b<d)))
def Xb (d m b k n:Int) (r:Sm) (l lc:Nat):Int:=
  if k<1∨12<k then 3
  else if Rv (fN k) (fR k) (fC k) n r (lc:Int)=true then 7
  else if Vf k (l:Int)=false∨8<(lc:Int) then 2
  else if k=10 then (if n<1∨5<n then 3 else 0)
  else if k=8∨k=11 then (if n<0∨7<n then 3 else 0)
  else if k=1 then (if Kd d n b=true then 0 else 1)
  else if k=7 then (if n<0∨m≤n then 1 else 0)
  else if k=2 then (if n<0∨1073741824<n then 3 else 0) else 0
def Vk:List (Pt×Tm)→Int
  | []=>0
  | c::cs=>if VD c.1=0 then Vk cs else VD c.1
mutual
def XG (d m:Int):Int→Tm→Int
  | b,.mk k n r kids cases=>
    if Xb d m b k n r kids.length cases.length=0 then
      (if Vk cases=0 then (if Vr d m b k 0 kids=0 then TY d m b cases else Vr d m b k 0 kids) else Vk cases)
    else Xb d m b k n r kids.length cases.length
def Vr (d m:Int):Int→Int→Nat→List Tm→Int
  | _,_,_,[]=>0
  | b,k,i,t::l=>if XG d m (b+more k i) t=0 then Vr d m b k (i+1) l else XG d m (b+more k i) t
def TY (d m:Int):Int→List (Pt×Tm)→Int
  | _,[]=>0
  | b,(p,t)::l=>if XG d m (b+(binds p:Int)) t=0 then TY d m b l else XG d m (b+(binds p:Int)) t
end
section
variable {σ:Type} (step:Tm→Int→σ→Bool×σ)
def yK (k:Int):Nat→List Tm→σ→Bool×σ
  | _,[],s=>(true,s)
  | i,x::l,s=>if (step x (more k i) s).1=true then yK k (i+1) l (step x (more k i) s).2 else (false,(step x (more k i) s).2)
def yC:List (Pt×Tm)→σ→σ
  | [],s=>s
  | c::l,s=>if (step c.2 (binds c.1:Int) s).1=true then yC l (step c.2 (binds c.1:Int) s).2 else (step c.2 (binds c.1:Int) s).2
def yP (k:Int) (kids:List Tm) (cases:List (Pt×Tm)) (s:σ):σ:=if (yK step k 0 kids s).1=true then yC step cases (yK step k 0 kids s).2 else (yK step k 0 kids s).2
end
theorem Ar (d m b k:Int) (l:List Tm):∀ i,yK (fun x mo _=>(decide (XG d m (b+mo) x=0),XG d m (b+mo) x)) k i l 0=(decide (Vr d m b k i l=0),Vr d m b k i l):=by
  induction l with
  | nil=>intro i;simp [yK,Vr]
  | cons x l ih=>
    intro i
    rw [yK,Vr]
    by_cases h:XG d m (b+more k i) x=0
    · simp only [h,decide_true,if_true];exact ih _
    · simp [h]
theorem As (d m b:Int) (l:List (Pt×Tm)):yC (fun x mo _=>(decide (XG d m (b+mo) x=0),XG d m (b+mo) x)) l 0=TY d m b l:=by
  induction l with
  | nil=>simp [yC,TY]
  | cons c l ih=>
    obtain ⟨p,t⟩:=c
    rw [yC,TY]
    by_cases h:XG d m (b+(binds p:Int)) t=0
    · simp only [h,decide_true,if_true];exact ih
    · simp [h]
theorem HS (d m b k:Int) (kids:List Tm) (cases:List (Pt×Tm)):yP (fun x mo _=>(decide (XG d m (b+mo) x=0),XG d m (b+mo) x)) k kids cases 0=if Vr d m b k 0 kids=0 then TY d m b cases else Vr d m b k 0 kids:=by
  rw [yP,Ar]
  by_cases h:Vr d m b k 0 kids=0
  · simp only [h,decide_true,if_true];exact As d m b cases
  · simp [h]
theorem ZcY {M R:List Zf} {a b c:Zf} (h:Sub (a::b::c::R) M):Sub ((a++(b++c))::R) M:=h.flat (by simp)
theorem Zc3 {M R:List Zf} {a b c d:Zf} (h:Sub (a::b::c::d::R) M):Sub ((a++(b++(c++d)))::R) M:=h.flat (by simp)
theorem ZH {v:Value} (h:v.oneCell'=true):v.cells=⟨[v]⟩:=by
  cases v <;> first | rfl | (cases h;done) | simp_all [Value.oneCell']
theorem TJ (l:List Pt):l.length≤sizePs l:=by
  induction l with
  | nil=>simp
  | cons p l ih=>rw [sizePs,length_cons];have:=Rb p;omega
theorem XR (l:List Tm):l.length≤sizeTs l:=by
  induction l with
  | nil=>simp
  | cons p l ih=>rw [sizeTs,length_cons];have:=Vv p;omega
theorem WX (l:List (Pt×Tm)):l.length≤sizeCs l:=by
  induction l with
  | nil=>simp
  | cons p l ih=>obtain ⟨p,t⟩:=p;rw [sizeCs,length_cons];have:=Vv t;omega
def Xv (d m:Int) (t:Tm):Int:=if (cnT stL 1 t 0).1=true then 11 else XG d m 0 t
def Wq:List Tm→Int
  | []=>0
  | t::l=>if Xv 60 8 t=0 then Wq l else Xv 60 8 t
mutual
def vOK:Tm→Prop
  | .mk k n _ kids cases=>(k=1→0≤n∧n≤2000000)∧H7 kids∧H8 cases
def H7:List Tm→Prop
  | []=>True
  | t::l=>vOK t∧H7 l
def H8:List (Pt×Tm)→Prop
  | []=>True
  | (_,t)::l=>vOK t∧H8 l
end
def bls (l:List Bool):List Value:=l.map Value.bool
theorem Vi (l:List Bool):(bls l).length=l.length:=by simp [bls]
theorem BE (l:List Bool) (i:Nat) (h:i<l.length):(bls l)[i]?=some (.bool l[i]):=by simp [bls,h]
theorem X2 {l:List Bool} {i:Nat} (h:i<l.length):(bls l)[0+i*1]?=some (.bool (l.getD i false)):=by
  rw [Nat.zero_add,Nat.mul_one,BE l i h];simp [h]
theorem BC (l:List Bool) (i:Nat) (b:Bool) (h:i<l.length):spl (bls l) i [.bool b]=some (bls (l.set i b)):=by
  rw [Vj (by simp [bls];omega)]
  congr 1
  simp only [bls,List.map_set]
  rw [List.set_eq_take_append_cons_drop,if_pos (by simpa using h)]
  simp
theorem PB {l:List Bool} {i:Nat} {b:Bool} (h:i<l.length):spl (bls l) (0+i*1) [.bool b]=some (bls (l.set i b)):=by
  rw [Nat.zero_add,Nat.mul_one];exact BC l i b h
section
variable {c:Cx} {H:Heap} {Q:Post}
theorem blt_iff {a b:Nat}:Nat.blt a b=true↔a<b:=by simp [Nat.blt_eq]
def Pf (xs:List Nat) (i:Nat):Bool:=xs.any (fun j=>Nat.beq j i)
theorem isIn_iff {xs:List Nat} {i:Nat}:Pf xs i=true↔i∈xs:=by
  unfold Pf
  rw [any_eq_true]
  exact ⟨fun ⟨j,h1,h2⟩=>by rw [Nat.beq_eq] at h2;subst h2;exact h1,fun h=>⟨i,h,Nat.beq_refl i⟩⟩
def Qa (M₀:List Zf) (p:Nat) (N:Nat→Zf):List Nat→List Zf
  | []=>M₀
  | j::xs=>Qa (M₀.set p (N j)) p N xs
theorem Hw (M₀:List Zf) (p:Nat) (N:Nat→Zf) (xs:List Nat) (i:Nat):Qa M₀ p N (xs++[i])=M₀.set p (N i):=by
  induction xs generalizing M₀ with
  | nil=>rfl
  | cons j xs ih=>show Qa (M₀.set p (N j)) p N (xs++[i])=_;rw [ih,List.set_set]
theorem E6 (M₀:List Zf) (p:Nat) (N:Nat→Zf) (xs:List Nat) {j:Nat} (h:j≠p):(Qa M₀ p N xs)[j]?=M₀[j]?:=by
  induction xs generalizing M₀ with
  | nil=>rfl
  | cons i xs ih=>show (Qa (M₀.set p (N i)) p N xs)[j]?=_;rw [ih,List.getElem?_set_ne (Ne.symm h)]
theorem KO {M₀:List Zf} {p:Nat} {N N':Nat→Zf} {xs:List Nat} (h:∀ j∈xs,N j=N' j):Qa M₀ p N xs=Qa M₀ p N' xs:=by
  induction xs generalizing M₀ with
  | nil=>rfl
  | cons i xs ih=>show Qa (M₀.set p (N i)) p N xs=Qa (M₀.set p (N' i)) p N' xs;rw [h i (by simp),ih (fun j hj=>h j (by simp [hj]))]
def nox (xs:List Nat) (N:Nat→Zf):Nat→Zf:=fun j=>cond (Pf xs j) [] (N j)
def Aq (c:Cx) (H:Heap) (l:List Oper) (b:Array Nat) (k p:Nat) (xs:List Nat) (ρ₀:Nat→Value) (M₀:List Zf) (P:Nat→(Nat→Value)→(Nat→Zf)→Prop) (i:Nat) (o:Oper):Prop:=
  ∀ ρ r N B,(∀ j,j≠p→B[j]?=M₀[j]?)→(Pf xs i=true→B=Qa M₀ p N (xs.filter (fun j=>Nat.blt j i)))→(xs.all (fun x=>dep b x i)=true→B=M₀)→
    (∀ j,j<i→dep b i j=true→P j (rst undef b j r) (rst [] b j N))→
    (∀ j p x,j<i→dep b i j=true→l[j]?=some p→p.dst=some x→ρ x=r j)→
    (∀ x,(l.take k).all (fun p=> !(p.dst==some x))=true→ρ x=ρ₀ x)→
    JL c H l.toArray [o] ρ (made k k (nox xs N) B) ⟨fun ρ' M'=>∃ v q,ρ'=Xj ρ o.dst v∧Sub (cond (Pf xs i) (made k k (nox xs N) (M₀.set p q)) (q::made k k (nox xs N) B)) M'∧
      P i (rst undef b i (fun j=>cond (Nat.beq j i) v (r j))) (rst [] b i (fun j=>cond (Nat.beq j i) q (N j))),fun _ _=>False,[]⟩
theorem Hg {xs:List Nat} {S:Nat→Bool} {i:Nat} (h1:∀ j∈xs,j<i→S j=true) (h2:∀ j∈xs,i≤j→S j=false):xs.filter S=xs.filter (fun j=>Nat.blt j i):=by
  refine List.filter_congr fun j hj=>?_
  by_cases e:j<i
  · rw [h1 j hj e];exact (blt_iff.2 e).symm
  · rw [h2 j hj (by omega)]
    exact (Bool.eq_false_iff.2 (fun h=>e (blt_iff.1 h))).symm
theorem Hh {xs:List Nat} (hs:xs.Pairwise (· <·)) {i:Nat} (hi:i∈xs):xs.filter (fun j=>Nat.blt j (i+1))=xs.filter (fun j=>Nat.blt j i)++[i]:=by
  induction xs with
  | nil=>cases hi
  | cons x xs ih=>
    rw [List.pairwise_cons] at hs
    rcases mem_cons.1 hi with rfl | hi
    · have e1:Nat.blt i (i+1)=true:=blt_iff.2 (by omega)
      have e2:Nat.blt i i=false:=Bool.eq_false_iff.2 (fun h=>by have:=blt_iff.1 h;omega)
      have e3:xs.filter (fun j=>Nat.blt j (i+1))=[]:=List.filter_eq_nil_iff.2 fun j hj h=>by have:=hs.1 j hj;have:=blt_iff.1 h;omega
      have e4:xs.filter (fun j=>Nat.blt j i)=[]:=List.filter_eq_nil_iff.2 fun j hj h=>by have:=hs.1 j hj;have:=blt_iff.1 h;omega
      simp only [filter_cons,e1,e2,e3,e4];simp
    · have hx:=hs.1 i hi
      have e1:Nat.blt x (i+1)=true:=blt_iff.2 (by omega)
      have e2:Nat.blt x i=true:=blt_iff.2 hx
      simp only [filter_cons,e1,e2,ih hs.2 hi];simp
theorem WF {id:Nat} {l:List Oper} {ρ₀:Nat→Value} {M₀:List Zf} (hmix:c.P.follows .mixedOrders=true) (b:Array Nat) (k p:Nat) (xs:List Nat) (hk:Nat.ble k l.length=true) (hok:KC l b k=true)
    (hsort:xs.Pairwise (· <·)) (hlt:xs.all (fun i=>Nat.blt i k)=true) (hch:xs.all (fun i=>xs.all (fun j=> !(Nat.blt j i)||dep b i j))=true)
    (P:Nat→(Nat→Value)→(Nat→Zf)→Prop) (hsteps:AllOps (Aq c H l b k p xs ρ₀ M₀ P) 0 k l)
    (htail:∀ ρ r N,(∀ i,i<k→P i (rst undef b i r) (rst [] b i N))→
      (∀ j p x,j<k→l[j]?=some p→p.dst=some x→ρ x=r j)→
      (∀ x,(l.take k).all (fun p=> !(p.dst==some x))=true→ρ x=ρ₀ x)→
      JL c H l.toArray (l.drop k) ρ (made k k (nox xs N) (Qa M₀ p N xs)) Q):
    J c H (.region id l.toArray true) ρ₀ M₀ Q:=by
  have hlt':∀ i∈xs,i<k:=fun i hi=>blt_iff.1 (all_eq_true.1 hlt i hi)
  have hch':∀ i∈xs,∀ j∈xs,j<i→dep b i j=true:=fun i hi j hj h=>by
    have:=all_eq_true.1 (all_eq_true.1 hch i hi) j hj
    rw [show Nat.blt j i=true from blt_iff.2 h] at this
    simpa using this
  have hdst:∀ i o,i<k→l[i]?=some o→∀ j p x,j<i→l[j]?=some p→p.dst=some x→p.dst≠o.dst:=fun i o hi ho j p x hj hp hx=>by
    have hlt:=(List.getElem?_eq_some_iff.1 ho).1
    have h:=all_eq_true.1 hok i (mem_range.2 hlt)
    simp only [ho] at h
    unfold Cm at h
    simp only [Bool.and_eq_true,all_eq_true,Bool.or_eq_true,mem_range] at h
    rcases h.2.2.2.2 with h | h
    · have:=Nat.le_of_ble_eq_true h;omega
    · have:=h j hj
      rw [hp] at this
      simpa [hx] using this
  have hdep:∀ i,i<k→∀ j,j<l.length→dep b i j=true→j≤i:=fun i hi j hj hd=>by
    have hlt:i<l.length:=by have:=Nat.le_of_ble_eq_true hk;omega
    have h:=all_eq_true.1 hok i (mem_range.2 hlt)
    simp only [getElem?_eq_getElem hlt] at h
    unfold Cm at h
    simp only [Bool.and_eq_true,all_eq_true,Bool.or_eq_true,mem_range] at h
    rcases h.2.1 j hj with h | h
    · rw [hd] at h;cases h
    · exact Nat.le_of_ble_eq_true h
  have hkl:=Nat.le_of_ble_eq_true hk
  have hnot:∀ x,(l.take k).all (fun p=> !(p.dst==some x))=true→∀ j q,j<k→l[j]?=some q→q.dst≠some x:=fun x hx j q hj hq e=>by
    have hm:q∈l.take k:=mem_of_getElem? (i:=j) (by rw [getElem?_take,if_pos hj];exact hq)
    have:=all_eq_true.1 hx q hm
    rw [e] at this
    simp at this
  refine Ig hmix b k hk hok (fun S ρ M=>∃ r N,Sub (made k k (nox xs N) (Qa M₀ p N (xs.filter S))) M∧(∀ i,i<k→S i=true→P i (rst undef b i r) (rst [] b i N))∧(∀ i,i<k→S i=false→N i=[])∧
    (∀ j p x,j<k→S j=true→l[j]?=some p→p.dst=some x→ρ x=r j)∧
    (∀ x,(l.take k).all (fun p=> !(p.dst==some x))=true→ρ x=ρ₀ x)) ?_ ?_ ?_
  · intro S hS
    refine ⟨fun _=>undef,fun _=>[],?_,?_,fun _ _ _=>rfl,?_,fun _ _=>rfl⟩
    rotate_left
    · intro i hi h;rw [hS i hi] at h;cases h
    · intro j p x hj h;rw [hS j hj] at h;cases h
    have hx:xs.filter S=[]:=List.filter_eq_nil_iff.2 fun j hj h=>by rw [hS j (hlt' j hj)] at h;cases h
    rw [hx]
    refine Sub.flat Sub.refl ?_
    unfold made
    rw [flatten_append]
    have:((range k).map (fun j=>cond (Nat.beq j k) ([]:Zf) (nox xs (fun _=>[]) j))).flatten=[]:=by
      rw [List.flatten_eq_nil_iff]
      intro x hx
      obtain ⟨j,_,rfl⟩:=mem_map.1 hx
      unfold nox
      cases Nat.beq j k <;> cases Pf xs j <;> rfl
    rw [this,nil_append]
    rfl
  · rintro S i o ρ M hik ho hin hid hcl ⟨r,N,hsub,h1,h2,h3,h4⟩
    have hst:Aq c H l b k p xs ρ₀ M₀ P i o:=by have:=hsteps.get i o hik ho;rwa [Nat.zero_add] at this
    have hfil:Pf xs i=true→xs.filter S=xs.filter (fun j=>Nat.blt j i):=fun hx=>by
      have hm:=isIn_iff.1 hx
      refine Hg (fun j hj hji=>hid j hji (hch' i hm j hj hji)) fun j hj hij=>?_
      rcases Nat.lt_or_ge i j with h | h
      · cases hs:S j with
        | false=>rfl
        | true=>have:=hcl j i (hlt' j hj) hs h (hch' j hj i hm h);rw [hin] at this;cases this
      · have:j=i:=by omega
        subst this;exact hin
    refine ZB hsub (S5 (hst ρ r N _ (fun j hj=>E6 _ _ _ _ hj) (fun hx=>by rw [hfil hx]) (fun ha=>by
      have e1:xs.filter S=[]:=List.filter_eq_nil_iff.2 fun x hx hs=>by
        have hd:=all_eq_true.1 ha x hx
        have hle:=hdep x (hlt' x hx) i (by omega) hd
        by_cases e:i=x
        · subst e;rw [hin] at hs;cases hs
        · have:=hcl x i (hlt' x hx) hs (by omega) hd
          rw [hin] at this;cases this
      rw [e1];rfl) (fun j hj hd=>h1 j (by omega) (hid j hj hd)) (fun j p x hj hd hp hx=>h3 j p x (by omega) (hid j hj hd) hp hx) h4) ?_)
    rintro ρ' M' ⟨v,n,rfl,hs2,hp⟩ S' hS'
    have hρ3:∀ j p x,j<k→S' j=true→l[j]?=some p→p.dst=some x→Xj ρ o.dst v x=cond (Nat.beq j i) v (r j):=fun j p x hj hsj hpj hx=>by
      rw [hS'] at hsj
      by_cases e:j=i
      · subst e
        rw [ho] at hpj;cases hpj
        rw [hx]
        show upd ρ x v x=cond (Nat.beq j j) v (r j)
        rw [Ur,Nat.beq_refl];rfl
      · rw [ZU e] at hsj ⊢
        have hne:p.dst≠o.dst:=by
          by_cases hlt:j<i
          · exact hdst i o hik ho j p x hlt hpj hx
          · cases hod:o.dst with
            | none=>rw [hx];simp
            | some y=>rw [← hod];exact Ne.symm (hdst j p hj hpj i o y (by omega) ho hod)
        have:Xj ρ o.dst v x=ρ x:=by
          cases hod:o.dst with
          | none=>rfl
          | some y=>exact Us ρ v (fun e'=>hne (by rw [hx,hod,e']))
        rw [this];exact h3 j p x hj hsj hpj hx
    have hρ4:∀ x,(l.take k).all (fun p=> !(p.dst==some x))=true→Xj ρ o.dst v x=ρ₀ x:=fun x hx=>by
      have:Xj ρ o.dst v x=ρ x:=by
        cases hod:o.dst with
        | none=>rfl
        | some y=>exact Us ρ v (fun e'=>hnot x hx i o hik ho (by rw [hod,e']))
      rw [this];exact h4 x hx
    have hfresh:∀ j,j<k→S j=true→∀ j₂,dep b j j₂=true→j₂≠i:=fun j hj hsj j₂ hd e=>by
      subst e
      have h5:=hdep j hj j₂ (by omega) hd
      by_cases e2:j₂=j
      · subst e2;rw [hin] at hsj;cases hsj
      · have:=hcl j j₂ hj hsj (by omega) hd
        rw [hin] at this;cases this
    have hPs:∀ j,j<k→S' j=true→P j (rst undef b j (fun j=>cond (Nat.beq j i) v (r j))) (rst [] b j (fun j=>cond (Nat.beq j i) n (N j))):=fun j hj hsj=>by
      rw [hS'] at hsj
      by_cases e:j=i
      · subst e;exact hp
      · rw [ZU e] at hsj
        rw [QN (r':=r) fun j₂ hd=>by rw [ZU (hfresh j hj hsj j₂ hd)];rfl,QN (r':=N) fun j₂ hd=>by rw [ZU (hfresh j hj hsj j₂ hd)];rfl]
        exact h1 j hj hsj
    have hNs:∀ j,j<k→S' j=false→cond (Nat.beq j i) n (N j)=[]:=fun j hj hsj=>by
      rw [hS'] at hsj
      by_cases e:j=i
      · subst e;rw [Nat.beq_refl] at hsj;cases hsj
      · rw [ZU e] at hsj ⊢;exact h2 j hj hsj
    refine ⟨fun j=>cond (Nat.beq j i) v (r j),fun j=>cond (Nat.beq j i) n (N j),?_,hPs,hNs,hρ3,hρ4⟩
    cases hx:Pf xs i with
    | true =>
      rw [hx] at hs2
      simp only [cond_true] at hs2
      have hm:=isIn_iff.1 hx
      have e1 :xs.filter S'=xs.filter (fun j=>Nat.blt j i)++[i]:=by
        rw [← Hh hsort hm]
        refine List.filter_congr fun j hj=>?_
        rw [hS']
        by_cases e:j=i
        · subst e;rw [Nat.beq_refl];exact (blt_iff.2 (by omega)).symm
        · rw [ZU e]
          show S j=_
          have hS:xs.filter S=xs.filter (fun j=>Nat.blt j i):=hfil hx
          by_cases h:j<i
          · rw [hid j h (hch' i hm j hj h)];exact (blt_iff.2 (by omega)).symm
          · have:S j=false:=by
              cases hs:S j with
              | false=>rfl
              | true=>have:=hcl j i (hlt' j hj) hs (by omega) (hch' j hj i hm (by omega));rw [hin] at this;cases this
            rw [this]
            exact (Bool.eq_false_iff.2 (fun h'=>by have:=blt_iff.1 h';omega)).symm
      rw [e1,Hw]
      show Sub (made k k (nox xs (fun j=>cond (Nat.beq j i) n (N j))) (M₀.set p (cond (Nat.beq i i) n (N i)))) M'
      rw [Nat.beq_refl,cond_true]
      have e2:nox xs (fun j=>cond (Nat.beq j i) n (N j))=nox xs N:=by
        funext j
        unfold nox
        by_cases e:j=i
        · subst e;rw [hx];rfl
        · show cond (Pf xs j) [] (cond (Nat.beq j i) n (N j))=_
          rw [ZU e];rfl
      rw [e2];exact hs2
    | false=>
      rw [hx] at hs2
      simp only [cond_false] at hs2
      have hm:i∉xs:=fun h=>by rw [isIn_iff.2 h] at hx;cases hx
      have e1:xs.filter S'=xs.filter S:=List.filter_congr fun j hj=>by
        have hne:j≠i:=fun e=>by subst e;exact hm hj
        rw [hS',ZU hne];rfl
      rw [e1,KO (N':=N) (fun j hj=>by
        have:j≠i:=fun e=>by subst e;exact hm (mem_filter.1 hj).1
        rw [ZU this];rfl)]
      have e2:nox xs (fun j=>cond (Nat.beq j i) n (N j))=fun j=>cond (Nat.beq j i) n (nox xs N j):=by
        funext j
        show cond (Pf xs j) [] (cond (Nat.beq j i) n (N j))=cond (Nat.beq j i) n (cond (Pf xs j) [] (N j))
        by_cases e:j=i
        · subst e;rw [hx,Nat.beq_refl];rfl
        · rw [ZU e];rfl
      rw [e2]
      refine hs2.perm (FL hik (by omega) ?_)
      unfold nox
      rw [hx];exact h2 i hik hin
  · rintro S ρ M hS ⟨r,N,hsub,h1,h2,h3,h4⟩
    have e1:xs.filter S=xs:=List.filter_eq_self.2 fun j hj=>hS j (hlt' j hj)
    rw [e1] at hsub
    exact ZB hsub (htail ρ r N (fun i hi=>h1 i hi (hS i hi)) (fun j p x hj hp hx=>h3 j p x hj (hS j hj) hp hx) h4)
end
def Ss (r:Sm):Prop:=∃ n:UInt8,n.toNat≤100∧r=zS.set 0 n
theorem WV:Ss zS:=⟨0,by decide,by decide⟩
mutual
def Nm:Pt→Prop
  | .mk _ _ r kids=>Ss r∧St kids
def St:List Pt→Prop
  | []=>True
  | p::l=>Nm p∧St l
end
mutual
def X1:Tm→Prop
  | .mk _ _ r kids cases=>Ss r∧Wl kids∧Su cases
def Wl:List Tm→Prop
  | []=>True
  | t::l=>X1 t∧Wl l
def Su:List (Pt×Tm)→Prop
  | []=>True
  | (p,t)::l=>Nm p∧X1 t∧Su l
end
theorem I2 {a b:List Pt}:St (a++b)↔St a∧St b:=by
  induction a with
  | nil=>simp [St]
  | cons x a ih=>rw [cons_append,St,St,ih,and_assoc]
theorem Ol {a b:List Tm}:Wl (a++b)↔Wl a∧Wl b:=by
  induction a with
  | nil=>simp [Wl]
  | cons x a ih=>rw [cons_append,Wl,Wl,ih,and_assoc]
theorem I3 {a b:List (Pt×Tm)}:Su (a++b)↔Su a∧Su b:=by
  induction a with
  | nil=>simp [Su]
  | cons x a ih=>obtain ⟨p,t⟩:=x;rw [cons_append,Su,Su,ih,and_assoc,and_assoc]
theorem Ww {P:Program} {b:Frame} {a:Act} {k:List Item} {cs:List Frame} {w:World} {c:Code}:step P (lone (b.atR a (.code (.scope c)::k)) cs w)=.next (lone (b.atR a (.code c::.inScope c::k)) cs w):=
  step_lone_go (by simp [stepG,stepG.exec,Frame.atR])
theorem QC {P:Program} {b:Frame} {a:Act} {k:List Item} {cs:List Frame} {w:World} {c:Code}:step P (lone (b.atR a (.inScope c::k)) cs w)=.next (lone (b.atR a k) cs w):=
  step_lone_go (by simp [stepG,stepG.exec,Frame.atR])
theorem BT {c:Cx} {H:Heap} {ρ:Nat→Value} {M:List Zf} {body:Code} {N R:Y2} {E:List (Nat×Y2)} (h:J c H body ρ M ⟨N,R,E⟩):J c H (.scope body) ρ M ⟨N,R,E⟩:=fun F rs w m=>by
  intro b k cs hro hb hr
  have h0:(lone (b.atR (act c.n (XW rs) ρ) (.code (.scope body)::k)) cs w).fenced c.P (Fw c.r):=fenced_calm hb hr rfl
  obtain ⟨e,a₁,w₁,hq,harr⟩:=h F rs w m b (.inScope body::k) cs hro hb hr
  cases e with
  | normal=>exact ⟨.normal,a₁,w₁,hq,.head h0 Ww (StepsIn.trans harr (.one (fenced_calm hb hr rfl) QC))⟩
  | exit id=>
    have hx:exitTo id (.inScope body::k)=exitTo id k:=by simp [exitTo]
    exact ⟨.exit id,a₁,w₁,hq,fun k' hk=>.head h0 Ww (harr.1 k' (by rw [hx];exact hk)),
      fun hr' hk=>let ⟨k₁,h1,h2⟩:=harr.2 hr' (by rw [hx];exact hk);⟨k₁,h1,.head h0 Ww h2⟩⟩
  | goto l=>obtain ⟨_,_,_,_,_,hx⟩:=hq;exact hx.elim
  | ret=>exact ⟨_,a₁,w₁,hq,.of_steps (.one h0 Ww) harr⟩
  | panic ch=>obtain ⟨_,_,_,_,_,hx⟩:=hq;exact hx.elim
  | outgrown=>obtain ⟨_,_,_,_,_,hx⟩:=hq;exact hx.elim
section
variable {P:Program} {n:Nat} {H:Heap} {ρ:Nat→Value} {M:List Zf}
def RoundE (P:Program) (n:Nat) (id l:Nat) (h:Heap) (as body:Code) (ρ:Nat→Value) {σ:Type} (Y:σ→List Zf) (pend:σ→Bool) (s:σ) (post:σ→Prop):Prop:=
  J ⟨P,some l,n⟩ h as ρ (Y s) ⟨fun ρ1 M1=>J ⟨P,some l,n⟩ h body ρ1 M1 ⟨fun _ M2=>∃ s',pend s'=false∧Sub (Y s') M2∧post s',fun _ _=>False,[(id,fun _ M2=>∃ s',pend s'=true∧Sub (Y s') M2∧post s')]⟩,fun _ _=>False,[]⟩
theorem RoundE.mk {id l:Nat} {h:Heap} {as body:Code} {σ:Type} {Y:σ→List Zf} {pend:σ→Bool} {s:σ} {post:σ→Prop} (x:J ⟨P,some l,n⟩ h as ρ (Y s) ⟨fun ρ1 M1=>J ⟨P,some l,n⟩ h body ρ1 M1 ⟨fun _ M2=>∃ s',pend s'=false∧Sub (Y s') M2∧post s',fun _ _=>False,[(id,fun _ M2=>∃ s',pend s'=true∧Sub (Y s') M2∧post s')]⟩,fun _ _=>False,[]⟩):RoundE P n id l h as body ρ Y pend s post:=x
end
section
variable {c:Cx} {H:Heap} {ρ:Nat→Value} {M:List Zf} {Q:Post} {ops:Array Oper} {rest:List Oper}
theorem HP {d:Option Nat} {ot:TypeId} {pos:String} {af:Array Edge} {g:Option (Nat×Bool)} {x:Operand} {as:List Operand} {ats:Array TypeId} {l:Nat} {vs:List Value} {post:Value→List Zf→Prop}
    (k:Zf) (L:List Zf) (hg:wnt ops c.n ρ ⟨d,.call {callee:=.value x,args:=as.toArray,argTypes:=ats},ot,pos,af,g⟩=true)
    (hx:ev c.n ρ x=.func (.yield l) ⟨[]⟩ ⟨[]⟩) (hM:M.flatten.Perm (k++L.flatten))
    (hc:(∀ (j:Nat) k,L[j]?=some k→Has k (hu L.flatten H))→YT c.P l ⟨vs⟩ [k] (hu L.flatten H) post)
    (ha:as.map (ev c.n ρ)=vs)
    (h:∀ v N,post v N→JL c H ops rest (Xj ρ d v) (N++L) Q):
    JL c H ops (⟨d,.call {callee:=.value x,args:=as.toArray,argTypes:=ats},ot,pos,af,g⟩::rest) ρ M Q:=fun F rs w m=>by
  unfold wlo
  rw [Vq,hg,if_pos rfl]
  refine ⟨fun _ _=>trivial,?_⟩
  rw [WM]
  have m1:Mem w (L.flatten++([k].flatten++(dfb rs++F))) H:=by
    refine m.perm ((hM.append_right (dfb rs++F)).trans ?_)
    simp only [flatten_cons,flatten_nil,append_nil]
    rw [← append_assoc L.flatten]
    exact List.perm_append_comm.append_right (dfb rs++F)
  have m2:Mem w ([k].flatten++(dfb rs++F)) (hu L.flatten H):=m1.hu
  have hnd:(L.flatten.map (·.1)).Nodup:=m1.left.nd
  have hsep:∀ b o,(b,o)∈L.flatten→H b=none:=m1.left.sep
  have hkh:∀ (j:Nat) k,L[j]?=some k→Has k (hu L.flatten H):=fun j k hk b o hb=>by
    have hmem:(b,o)∈L.flatten:=mem_flatten.2 ⟨k,mem_of_getElem? hk,hb⟩
    rw [Xf,hsep b o hmem];exact YP hnd hmem
  obtain ⟨f,tmps,as',body,hy,hr⟩:=hc hkh (dfb rs++F) w m2
  rw [WR (by simp),Pi hx ha w,hy]
  refine ⟨fun h=>by simp [Fw] at h,?_⟩
  refine hr.mono fun e w' ⟨v,N,he',hm',hp⟩=>?_
  subst he'
  have m3:Mem w' ((N++L).flatten++(dfb rs++F)) H:=by
    have m4:Mem w' (N.flatten++(L.flatten++(dfb rs++F))) H:=Zc5 hnd hsep (Mem.perm hm' (by exact List.Perm.refl _))
    rw [flatten_append,append_assoc];exact m4
  show wlo c ops (X9 c H F Q) rest ((act c.n (XW rs) ρ).put d v) w'
  rw [Uh]
  exact h v N hp F rs w' m3
end
section
variable {P:Program} {n:Nat} {H:Heap} {ρ:Nat→Value} {M:List Zf}
theorem Dx {g:Operand} {ps:List Nat} {as body:Code} {N R:Y2} {E:List (Nat×Y2)} {f:FuncId} {fv cv:List Value} {L:List Zf} {σ:Type} (Y:σ→List Zf) (s0:σ) (fin:σ→Prop)
    (hx:ev n ρ g=.func (.func f) ⟨fv⟩ ⟨cv⟩) (hcall:∀ args w,(callFunc f args).run P w=.ok (.enter f args) w) (hM:M.flatten.Perm ((Y s0).flatten++L.flatten))
    (hit:∀ (l:Nat) (rc:Nat×Obj),
      (∀ (s:σ) (vs:List Value) (h:Heap) (post:σ→Prop),vs.length=ps.length→RoundOk P n l h as body (H9 ρ (ps.zip vs)) Y (fun _=>false) s post→YT P l ⟨vs⟩ [rc::(Y s).flatten] h (fun v N=>∃ s',v=.bool true∧N=[rc::(Y s').flatten]∧post s'))→
      (∀ (i:Nat) k,L[i]?=some k→Has k (hu L.flatten H))→
      CT P f ⟨fv++[.func (.yield l) ⟨[]⟩ ⟨[]⟩]++cv⟩ [rc::(Y s0).flatten] (hu L.flatten H) (fun _ N=>∃ s,N=[rc::(Y s).flatten]∧fin s))
    (hN:∀ s,fin s→N ρ (Y s++L)):
    J ⟨P,none,n⟩ H (.rangeFunc g ps.toArray as body) ρ M ⟨N,R,E⟩:=fun F rs w m=>by
  refine wpIn_rangeFunc fun fn _=>?_
  let r:=w.heap.size
  let w0:World:={w with heap:=w.heap.push (.deferred (some []))}
  let l:=w0.heap.size
  let rc:Nat×Obj:=(l,Xk fn (act n [] ρ).tmps ps.toArray as body r .ready none)
  let w1:World:={w0 with heap:=w0.heap.push (Xk fn (act n [] ρ).tmps ps.toArray as body r .ready none)}
  have m1:Mem w1 (rc::(r,.deferred (some []))::(M.flatten++(dfb rs++F))) H:=Mem.push (w:=w0) (w':=w1) (Mem.push (w:=w) (w':=w0) m rfl) rfl
  have m2:Mem w1 (L.flatten++([rc::(Y s0).flatten].flatten++(dfb (r::rs)++F))) H:=by
    refine m1.perm ?_
    simp only [flatten_cons,flatten_nil,append_nil,dfb,map_cons,cons_append]
    refine List.Perm.trans ?_ List.perm_middle.symm
    refine List.Perm.cons _ ?_
    refine List.Perm.trans (List.Perm.cons _ (hM.append_right _)) ?_
    refine List.Perm.trans ?_ (List.Perm.append_left _ List.perm_middle.symm)
    refine List.Perm.trans ?_ List.perm_middle.symm
    refine List.Perm.cons _ ?_
    rw [← append_assoc L.flatten]
    exact List.perm_append_comm.append_right _
  have hnd:(L.flatten.map (·.1)).Nodup:=m2.left.nd
  have hsep:∀ b o,(b,o)∈L.flatten→H b=none:=m2.left.sep
  have hkh:∀ (i:Nat) k,L[i]?=some k→Has k (hu L.flatten H):=fun i k hk b o hb=>by
    have hmem:(b,o)∈L.flatten:=mem_flatten.2 ⟨k,mem_of_getElem? hk,hb⟩
    rw [Xf,hsep b o hmem];exact YP hnd hmem
  have hct:=hit l rc (fun s vs h post hv hr=>YT.mono (Lu Y (fun _=>false) rfl hv hr) fun v N ⟨s',h1,h2,h3⟩=>⟨s',h1,h2,h3⟩) hkh
  refine ⟨l,[{target:=.collected r,args:=#[]}],w1,{target:=.fn (.func f) ⟨cv⟩,args:=⟨fv⟩++#[.func (.yield l) #[] #[]]},w1,f,⟨fv++[.func (.yield l) ⟨[]⟩ ⟨[]⟩]++cv⟩,w1,?_,?_,fun _ _=>trivial,?_,fun h=>by simp [Fw] at h,?_⟩
  · simp [Instr.enterLoop,Fw,w1,w0,l,r,Xk,act]
  · simp only [resolve,WM,hx]
    simp [Deferred.ofValue,ev]
  · simp only [invoke]
    rw [hcall]
    simp
  · refine (hct (dfb (r::rs)++F) w1 m2.hu).mono fun e w₃ ⟨v,N',he,hm,s,hNs,hf⟩=>?_
    subst he hNs
    have m3:Mem w₃ ([rc::(Y s).flatten].flatten++(L.flatten++(dfb (r::rs)++F))) H:=Zc5 hnd hsep hm
    have m4:Mem w₃ ((l,Xk fn (act n [] ρ).tmps ps.toArray as body r (TZ false) (WY false))::((Y s++L).flatten++(dfb (r::rs)++F))) H:=by
      refine m3.perm ?_
      simp only [flatten_cons,flatten_nil,append_nil,cons_append,flatten_append,append_assoc]
      exact List.Perm.refl _
    obtain ⟨w₄,he,hm₄⟩:=RY (P:=P) false m4
    refine ⟨WY false,w₄,he,?_⟩
    exact ⟨r::rs,ρ,Y s++L,rfl,hm₄,hN s hf⟩
end
theorem KV (c:Cx) (ops:Array Oper) (Q:Exit→Act→World→Prop):∀ (is:List Nat) (l:List Oper),is.map (fun i=>ops[i]?)=l.map some→
    ∀ a w,wlo c ops Q l a w→wpOpsIn (Fw c.r) 0 c.P ops Q is a w:=by
  intro is
  induction is with
  | nil=>
    intro l hl a w h
    have:l=[]:=by cases l with
      | nil=>rfl
      | cons x l=>simp at hl
    subst this
    simpa [wpOpsIn,wlo] using h
  | cons i is ih=>
    intro l hl a w h
    obtain ⟨o,l,rfl⟩:∃ o l',l=o::l':=by cases l with
      | nil=>simp at hl
      | cons x l=>exact ⟨x,l,rfl⟩
    simp only [map_cons,List.cons.injEq] at hl
    have h0:ops[i]?=some o:=hl.1
    have ih':=ih l hl.2
    simp only [wpOpsIn,h0]
    unfold wlo at h
    split at h
    · rename_i hw
      rw [if_pos hw]
      refine ⟨h.1,?_⟩
      have h2:=h.2
      revert h2
      generalize (o.semAt (Fw c.r).round a.eval).run c.P w=res
      intro h2
      cases res with
      | ok x w'=>
        cases x with
        | value v=>exact ih' _ _ h2
        | skip=>exact ih' _ _ h2
        | defer d=>exact ih' _ _ h2
        | enter f args=>
          refine ⟨h2.1,h2.2.mono fun e w'' hq=>?_⟩
          cases e with
          | returned v=>exact ih' _ _ hq
          | panicked ch=>exact hq
          | outgrown=>exact hq
        | row r args=>exact ⟨h2.1,h2.2.mono fun v w'' hq=>ih' _ _ hq⟩
        | round l f tmps as body=>
          refine ⟨h2.1,h2.2.mono fun e w'' hq=>?_⟩
          cases e with
          | returned v=>exact ih' _ _ hq
          | panicked ch=>exact hq
          | outgrown=>exact hq
        | _=>exact h2.elim
      | halt x w'=>cases x <;> exact h2
    · rename_i hw
      rw [if_neg hw]
      exact ⟨fun _ _=>trivial,ih' _ _ h⟩
theorem EE {l:List Oper} (hn:l.length=4) (h0:(range 4).filter (ready l #[false,false,false,false])=[0]) (h1:(range 4).filter (ready l #[true,false,false,false])=[1,2])
    (h2:(range 4).filter (ready l #[true,true,false,false])=[2]) (h3:(range 4).filter (ready l #[true,false,true,false])=[1]) (h4:(range 4).filter (ready l #[true,true,true,false])=[3]) (t:Nat):
    Region.linearise .any l.toArray t=[0,1,2,3]∨Region.linearise .any l.toArray t=[0,2,1,3]:=by
  unfold Region.linearise
  have e:l.toArray.size=4:=by simpa using hn
  rw [e]
  rw [show (Array.replicate 4 false)=#[false,false,false,false] from rfl,Wz,hn,h0]
  simp only [List.length_singleton,Nat.mod_one,getElem?_cons_zero]
  rw [show (#[false,false,false,false]:Array Bool).setIfInBounds 0 true=#[true,false,false,false] from rfl,Wz,hn,h1]
  rcases Nat.mod_two_eq_zero_or_one (t / 1) with q | q
  · left
    simp only [length_cons,List.length_nil,Nat.zero_add,Nat.reduceAdd,q,getElem?_cons_zero]
    rw [show (#[true,false,false,false]:Array Bool).setIfInBounds 1 true=#[true,true,false,false] from rfl,Wz,hn,h2]
    simp only [List.length_singleton,Nat.mod_one,getElem?_cons_zero]
    rw [show (#[true,true,false,false]:Array Bool).setIfInBounds 2 true=#[true,true,true,false] from rfl,Wz,hn,h4]
    simp only [List.length_singleton,Nat.mod_one,getElem?_cons_zero]
    rfl
  · right
    simp only [length_cons,List.length_nil,Nat.zero_add,Nat.reduceAdd,q,getElem?_cons_succ,getElem?_cons_zero]
    rw [show (#[true,false,false,false]:Array Bool).setIfInBounds 2 true=#[true,false,true,false] from rfl,Wz,hn,h3]
    simp only [List.length_singleton,Nat.mod_one,getElem?_cons_zero]
    rw [show (#[true,false,true,false]:Array Bool).setIfInBounds 1 true=#[true,true,true,false] from rfl,Wz,hn,h4]
    simp only [List.length_singleton,Nat.mod_one,getElem?_cons_zero]
    rfl
theorem ZaW {c:Cx} {H:Heap} {ρ:Nat→Value} {M:List Zf} {Q:Post} {id:Nat} {o0 o1 o2 o3:Oper} (hmix:c.P.follows .mixedOrders=true) (hl:∀ t,Region.linearise .any [o0,o1,o2,o3].toArray t=[0,1,2,3]∨Region.linearise .any [o0,o1,o2,o3].toArray t=[0,2,1,3])
    (h1:JL c H [o0,o1,o2,o3].toArray [o0,o1,o2,o3] ρ M Q) (h2:JL c H [o0,o1,o2,o3].toArray [o0,o2,o1,o3] ρ M Q):J c H (.region id [o0,o1,o2,o3].toArray true) ρ M Q:=by
  intro F rs w m
  refine wpIn_region_draw fun t=>?_
  unfold Region.schedule
  rw [hmix]
  simp only [Bool.true_or,if_true]
  have m':Mem {w with drawn:=w.drawn+1} (M.flatten++(dfb rs++F)) H:=m.congr rfl
  rcases hl t with e | e
  · rw [e];exact KV _ _ _ _ _ rfl _ _ (h1 F rs _ m')
  · rw [e];exact KV _ _ _ _ _ rfl _ _ (h2 F rs _ m')
def sm (a n:Nat):List (Option Nat):=(List.range' a n).map some
theorem al1 {α:Type} {P:α→Prop} {a:α} (h:P a):∀ e∈[a],P e:=fun e he=>by
  obtain rfl:=mem_singleton.1 he;exact h
theorem alc {α:Type} {P:α→Prop} {a:α} {l:List α} (h:P a) (k:∀ e∈l,P e):∀ e∈a::l,P e:=fun e he=>by
  rcases mem_cons.1 he with rfl | he
  · exact h
  · exact k e he
theorem Zp {ρ:Nat→Value}:∀ {l:List (Nat×Value)},(l.map fun p=>ρ p.1)=l.map (·.2)→Z7 ρ l=ρ
  | [],_=>rfl
  | (_,_)::_,h=>by
    rw [map_cons,map_cons,List.cons.injEq] at h
    exact P2 h.1 (Zp h.2)
section
variable {c:Cx} {H:Heap} {ρ:Nat→Value} {M:List Zf} {N R:Y2} {E:List (Nat×Y2)}
theorem ZN {Q:Post} {p:Prop} {i:Decidable p} {x:Operand} {y z:Code} (hb:ev c.n ρ x=.bool (@decide p i)) (ht:p→J c H y ρ M Q) (hf:¬ p→J c H z ρ M Q):J c H (.cond x y z) ρ M Q:=
  Zt hb (fun h=>ht (of_decide_eq_true h)) (fun h=>hf (of_decide_eq_false h))
theorem Zd {id:Nat} {l:List Oper} {y:Code} (h:JL c H l.toArray l ρ M ⟨fun ρ M=>J c H y ρ M ⟨N,R,E⟩,R,E⟩):J c H (.seq (.region id l.toArray false) y) ρ M ⟨N,R,E⟩:=Zg (Ze h)
theorem JAn {Q:Post} {ops:Array Oper} {d:Option Nat} {x:Operand} {ot:TypeId} {pos:String} {af:Array Edge} {g:Option (Nat×Bool)} {v:Value} (hx:vf (ev c.n ρ x)=some v) (h:Q.N (Xj ρ d v) M) (hg:wnt ops c.n ρ ⟨d,.assign x,ot,pos,af,g⟩=true:=by exact rfl):JL c H ops [⟨d,.assign x,ot,pos,af,g⟩] ρ M Q:=
  JLA hx (Za h) hg
theorem ZE {fn:Func} {post:Value→List Zf→Prop} (v:Value) (M':List Zf) (hs:Sub M' M) (h:post v M') (hr:Ret fn c H ρ M v:=by exact Ret.one rfl (RV.tmp rfl)):J c H .ret ρ M ⟨N,BW fn c H post,E⟩:=
  Zz ⟨v,M',hr,hs,h⟩
end
theorem ZT {P:Program} {t:TypeId} {fields:Array Field} {z:Value} {pl:Array (Nat×Nat)} {parts:List (Nat×Value)} {cells:List Value} (hz:∀ w,(zeroValue t).run P w=.ok z w) (hu:∀ w,(underlying t).run P w=.ok (.struct fields) w)
    (hpl:∀ w,(fields.mapM fun f=>(do pure (f.offset,← Go.sizeOf f.type):Sem (Nat×Nat))).run P w=.ok pl w) (hf:Instr.fill (pl[·]?) z.cells parts=some ⟨cells⟩):
    ∀ w,(Instr.build t ⟨parts⟩).run P w=.ok (.agg ⟨cells⟩) w:=fun w=>by
  simp only [Instr.build,Sem.run_bind,hz,Result.andThen_ok,hu,hpl,hf,Sem.run_pure]
theorem V1 {P:Program} {t el n sz:Nat} {z:Value} {parts:List (Nat×Value)} {cells:List Value} (hz:∀ w,(zeroValue t).run P w=.ok z w) (hu:∀ w,(underlying t).run P w=.ok (.array n el) w)
    (hs:∀ w,(Go.sizeOf el).run P w=.ok sz w) (hf:Instr.fill (fun i=>some (i*sz,sz)) z.cells parts=some ⟨cells⟩):
    ∀ w,(Instr.build t ⟨parts⟩).run P w=.ok (.agg ⟨cells⟩) w:=fun w=>by
  simp only [Instr.build,Sem.run_bind,hz,Result.andThen_ok,hu,hs,hf,Sem.run_pure]
theorem WK {place:Nat→Option (Nat×Nat)} {i off sz:Nat} {v:Value} {l pre mid post:List Value} {rest:List (Nat×Value)} {r:Option (Array Value)} (hp:place i=some (off,sz)) (hv:v.cells=⟨l⟩) (hl:l.length=sz)
    (h1:pre.length=off) (h2:mid.length=sz) (h:Instr.fill place ⟨pre++(l++post)⟩ rest=r):Instr.fill place ⟨pre++(mid++post)⟩ ((i,v)::rest)=r:=by
  subst h
  have hsz:v.cells.size=sz:=by rw [hv];simpa using hl
  simp only [Instr.fill,hp]
  rw [hsz]
  have hc:(decide (sz≠sz)||decide (off+sz>(⟨pre++(mid++post)⟩:Array Value).size))=false:=by
    simp [h1,h2]
  rw [hc]
  simp only [Bool.false_eq_true,if_false]
  have hf:=Ou v.cells.toList ⟨pre++(mid++post)⟩ off 0 (by simp [hv,hl,h1,h2])
  have hz:v.cells.zipIdx.foldl (fun (cs:Array Value) (p:Value×Nat)=>cs.setIfInBounds (off+p.2) p.1) (⟨pre++(mid++post)⟩:Array Value)=⟨pre++(l++post)⟩:=by
    rw [← Array.foldl_toList,Array.toList_zipIdx,hf]
    simp only [Nat.add_zero,hv,hl,← h1]
    congr 1
    rw [List.take_left,← drop_drop,List.drop_left,← h2,List.drop_left]
  exact congrArg (fun q=>Instr.fill place q rest) hz
section
variable {P:Program} {e:Operand→Value} {d:Option Nat} {ot:TypeId} {pos:String} {af:Array Edge} {g:Option (Nat×Bool)} {T T':TypeId} {x y:Operand}
theorem Uz (r:Sm):sC r=r.toList.map Extern.Stop.cell:=by
  apply ext_getElem
  · simp [VZ]
  · intro i h1 h2
    have h3:i<32:=h1
    have h:=V0 r i h3
    rw [getElem?_eq_getElem h1] at h
    rw [Option.some.inj h]
    simp [Extern.Stop.cell]
theorem HK {E:TypeId} (hm:P.eqGuardType P.depth T=false) (hT:P.underlying T=some (.array 32 E)) (hE:P.underlying E=some (.int .u8)) (hsz:∀ w,(Go.sizeOf E).run P w=.ok 1 w) {r s:Sm} (hx:e x=.agg ⟨sC r⟩) (hy:e y=.agg ⟨sC s⟩):
    Pu P e ⟨d,.binOp .eql T x y T',ot,pos,af,g⟩ (.bool (decide (r=s))):=fun w=>by
  have h:=run_eql_bytes (P:=P) w T E 32 hT hE hsz r.toList s.toList (by simp) (by simp)
  have hg:=run_eqGuard_agg (P:=P) w .eql T x y ⟨sC r⟩ ⟨sC s⟩ hm
  rw [← Uz,← Uz] at h
  have hd:(r.toList==s.toList)=decide (r=s):=by
    rw [Bool.eq_iff_iff];simp
  rw [hd] at h
  simp only [execOp,hx,hy,Sem.run_bind,hg,Result.andThen_ok]
  rw [h];rfl
theorem HJ {E:TypeId} (hm:P.eqGuardType P.depth T=false) (hT:P.underlying T=some (.array 32 E)) (hE:P.underlying E=some (.int .u8)) (hsz:∀ w,(Go.sizeOf E).run P w=.ok 1 w) {r s:Sm} (hx:e x=.agg ⟨sC r⟩) (hy:e y=.agg ⟨sC s⟩):
    Pu P e ⟨d,.binOp .neq T x y T',ot,pos,af,g⟩ (.bool (!decide (r=s))):=fun w=>by
  have h:=run_equalIn_bytes (P:=P) w 9998 T E 32 hT hE hsz r.toList s.toList (by simp) (by simp)
  have hg:=run_eqGuard_agg (P:=P) w .neq T x y ⟨sC r⟩ ⟨sC s⟩ hm
  rw [← Uz,← Uz] at h
  have hd:(r.toList==s.toList)=decide (r=s):=by
    rw [Bool.eq_iff_iff];simp
  rw [hd] at h
  simp only [execOp,hx,hy,Sem.run_bind,hg,Result.andThen_ok]
  rw [run_neq_struct]
  simp [h]
theorem QL {T E:TypeId} (d:Nat) (w:World) (hT:P.underlying T=some (.array 3 E)) (hE:P.underlying E=some .bool) (hsz:∀ w,(Go.sizeOf E).run P w=.ok 1 w) (a b c a' b' c':Bool):
    (Op.equalIn (d+2) T (.agg #[.bool a,.bool b,.bool c]) (.agg #[.bool a',.bool b',.bool c'])).run P w=.ok (a==a'&&(b==b'&&c==c')) w:=by
  have hb:∀ x y:Bool,(Op.equalIn (d+1) E (.bool x) (.bool y)).run P w=.ok (x==y) w:=fun x y=>Vx d w (fun _=>run_underlying hE _)
  rw [Op.equalIn]
  have p0:∀ (x y z:Bool),(part E #[.bool x,.bool y,.bool z] (0*1)).run P w=.ok (.bool x) w:=fun x y z=>by simp [part,isAgg,run_underlying hE]
  have p1:∀ (x y z:Bool),(part E #[.bool x,.bool y,.bool z] (1*1)).run P w=.ok (.bool y) w:=fun x y z=>by simp [part,isAgg,run_underlying hE]
  have p2:∀ (x y z:Bool),(part E #[.bool x,.bool y,.bool z] ((1+1)*1)).run P w=.ok (.bool z) w:=fun x y z=>by simp [part,isAgg,run_underlying hE]
  simp only [Sem.run_bind,run_underlying hT,Result.andThen_ok,hsz,Std.Legacy.Range.forIn_eq_forIn_range',Std.Legacy.Range.size,Nat.sub_zero,Nat.add_sub_cancel,Nat.div_one,List.range'_succ,List.range'_zero,List.forIn_cons,List.forIn_nil,Nat.zero_add,p0,hb]
  cases a <;> cases a' <;> cases b <;> cases b' <;> cases c <;> cases c' <;> simp [p1,p2,hb]
theorem Dg {E:TypeId} (hm:P.eqGuardType P.depth T=false) (hT:P.underlying T=some (.array 3 E)) (hE:P.underlying E=some .bool) (hsz:∀ w,(Go.sizeOf E).run P w=.ok 1 w) {a b c a' b' c':Bool}
    (hx:e x=.agg ⟨[.bool a,.bool b,.bool c]⟩) (hy:e y=.agg ⟨[.bool a',.bool b',.bool c']⟩):Pu P e ⟨d,.binOp .neq T x y T',ot,pos,af,g⟩ (.bool (!(a==a'&&(b==b'&&c==c')))):=fun w=>by
  have hg:=run_eqGuard_agg (P:=P) w .neq T x y ⟨[.bool a,.bool b,.bool c]⟩ ⟨[.bool a',.bool b',.bool c']⟩ hm
  simp only [execOp,hx,hy,Sem.run_bind]
  rw [hg,Result.andThen_ok,run_neq_struct,QL 9998 w hT hE hsz]
  rfl
end
mutual
def OP:Pt→List Value→Zf→Prop
  | .mk k n r kids,cs,c=>∃ ks es k1 k2,cs=pkP k n r ks∧inI k∧inI n∧Own 115 35 ks es k1∧OPs kids es k2∧c=k1++k2∧kids.length≤9223372036854775807
def OPs:List Pt→List (List Value)→Zf→Prop
  | [],es,c=>es=[]∧c=[]
  | p::ps,es,c=>∃ e es' k k',es=e::es'∧OP p e k∧OPs ps es' k'∧c=k++k'
end
mutual
def OT:Tm→List Value→Zf→Prop
  | .mk k n r kids cases,cs,c=>∃ ks cv es es' k1 k2 k3 k4,cs=pkT k n r ks cv∧inI k∧inI n∧Own 51 36 ks es k1∧OTs kids es k2∧Own 117 71 cv es' k3∧OCs cases es' k4∧c=k1++(k2++(k3++k4))∧
      kids.length≤9223372036854775807∧cases.length≤9223372036854775807
def OTs:List Tm→List (List Value)→Zf→Prop
  | [],es,c=>es=[]∧c=[]
  | p::ps,es,c=>∃ e es' k k',es=e::es'∧OT p e k∧OTs ps es' k'∧c=k++k'
def OCs:List (Pt×Tm)→List (List Value)→Zf→Prop
  | [],es,c=>es=[]∧c=[]
  | (p,t)::ps,es,c=>∃ a b es' ka kb k',es=(a++b)::es'∧OP p a ka∧OT t b kb∧OCs ps es' k'∧c=ka++(kb++k')
end
theorem OP_mk {k n:Int} {r:Sm} {kids:List Pt} {cs:List Value} {c:Zf}:OP (.mk k n r kids) cs c↔∃ ks es k1 k2,cs=pkP k n r ks∧inI k∧inI n∧Own 115 35 ks es k1∧OPs kids es k2∧c=k1++k2∧kids.length≤9223372036854775807:=by
  rw [OP]
theorem OT_mk {k n:Int} {r:Sm} {kids:List Tm} {cases:List (Pt×Tm)} {cs:List Value} {c:Zf}:OT (.mk k n r kids cases) cs c↔∃ ks cv es es' k1 k2 k3 k4,cs=pkT k n r ks cv∧inI k∧inI n∧Own 51 36 ks es k1∧OTs kids es k2∧Own 117 71 cv es' k3∧OCs cases es' k4∧c=k1++(k2++(k3++k4))∧
      kids.length≤9223372036854775807∧cases.length≤9223372036854775807:=by
  rw [OT]
theorem S0 {l:List Pt}:∀ {es c},OPs l es c→es.length=l.length:=by
  induction l with
  | nil=>rintro es c h;rw [OPs] at h;rw [h.1];rfl
  | cons p l ih=>intro es c h;rw [OPs] at h;obtain ⟨e,es',k,k',rfl,_,h,_⟩:=h;simp [ih h]
theorem YH {l:List Tm}:∀ {es c},OTs l es c→es.length=l.length:=by
  induction l with
  | nil=>rintro es c h;rw [OTs] at h;rw [h.1];rfl
  | cons p l ih=>intro es c h;rw [OTs] at h;obtain ⟨e,es',k,k',rfl,_,h,_⟩:=h;simp [ih h]
theorem S3 {l:List (Pt×Tm)}:∀ {es c},OCs l es c→es.length=l.length:=by
  induction l with
  | nil=>rintro es c h;rw [OCs] at h;rw [h.1];rfl
  | cons p l ih=>intro es c h;obtain ⟨p,t⟩:=p;rw [OCs] at h;obtain ⟨a,b,es',ka,kb,k',rfl,_,_,h,_⟩:=h;simp [ih h]
theorem OPs.nil:OPs [] [] []:=by rw [OPs];exact ⟨rfl,rfl⟩
theorem OTs.nil:OTs [] [] []:=by rw [OTs];exact ⟨rfl,rfl⟩
theorem OCs.nil:OCs [] [] []:=by rw [OCs];exact ⟨rfl,rfl⟩
theorem OPs.snoc {l:List Pt} {p:Pt} {e:List Value} {k:Zf} (h':OP p e k):∀ {es c},OPs l es c→OPs (l++[p]) (es++[e]) (c++k):=by
  induction l with
  | nil=>intro es c h;rw [OPs] at h;rw [h.1,h.2];simp only [nil_append];rw [OPs];exact ⟨e,[],k,[],rfl,h',OPs.nil,by simp⟩
  | cons q l ih=>
    intro es c h
    rw [OPs] at h
    obtain ⟨f,es',k1,k2,rfl,h1,h2,rfl⟩:=h
    simp only [cons_append]
    rw [OPs]
    exact ⟨f,_,k1,_,rfl,h1,ih h2,by rw [append_assoc]⟩
theorem OTs.snoc {l:List Tm} {p:Tm} {e:List Value} {k:Zf} (h':OT p e k):∀ {es c},OTs l es c→OTs (l++[p]) (es++[e]) (c++k):=by
  induction l with
  | nil=>intro es c h;rw [OTs] at h;rw [h.1,h.2];simp only [nil_append];rw [OTs];exact ⟨e,[],k,[],rfl,h',OTs.nil,by simp⟩
  | cons q l ih=>
    intro es c h
    rw [OTs] at h
    obtain ⟨f,es',k1,k2,rfl,h1,h2,rfl⟩:=h
    simp only [cons_append]
    rw [OTs]
    exact ⟨f,_,k1,_,rfl,h1,ih h2,by rw [append_assoc]⟩
theorem OCs.snoc {l:List (Pt×Tm)} {p:Pt} {t:Tm} {a b:List Value} {ka kb:Zf} (hp:OP p a ka) (ht:OT t b kb):∀ {es c},OCs l es c→OCs (l++[(p,t)]) (es++[a++b]) (c++(ka++kb)):=by
  induction l with
  | nil=>intro es c h;rw [OCs] at h;rw [h.1,h.2];simp only [nil_append];rw [OCs];exact ⟨a,b,[],ka,kb,[],rfl,hp,ht,OCs.nil,by simp⟩
  | cons q l ih=>
    intro es c h
    obtain ⟨q,u⟩:=q
    rw [OCs] at h
    obtain ⟨a',b',es',k1,k2,k3,rfl,h1,h2,h3,rfl⟩:=h
    simp only [cons_append]
    rw [OCs]
    exact ⟨a',b',_,k1,k2,_,rfl,h1,h2,ih h3,by simp only [append_assoc]⟩
theorem OP.len {p:Pt} {cs:List Value} {c:Zf} (h:OP p cs c):cs.length=35:=by cases p;obtain ⟨_,_,_,_,rfl,_⟩:=OP_mk.1 h;rfl
theorem OT.len {t:Tm} {cs:List Value} {c:Zf} (h:OT t cs c):cs.length=36:=by cases t;obtain ⟨_,_,_,_,_,_,_,_,rfl,_⟩:=OT_mk.1 h;rfl
theorem OP.ok {p:Pt} {cs:List Value} {c:Zf} (h:OP p cs c):okc cs:=by cases p;obtain ⟨_,_,_,_,rfl,_,_,h,_⟩:=OP_mk.1 h;exact XN h.one
theorem OT.ok {t:Tm} {cs:List Value} {c:Zf} (h:OT t cs c):okc cs:=by cases t;obtain ⟨_,_,_,_,_,_,_,_,rfl,_,_,h,_,h',_⟩:=OT_mk.1 h;exact ZR h.one h'.one
theorem Has.left {a b:Zf} {h:Heap} (x:Has (a++b) h):Has a h:=fun i o hi=>x i o (mem_append.2 (.inl hi))
theorem Has.right {a b:Zf} {h:Heap} (x:Has (a++b) h):Has b h:=fun i o hi=>x i o (mem_append.2 (.inr hi))
theorem Has.app {a b:Zf} {h:Heap} (x:Has a h) (y:Has b h):Has (a++b) h:=fun i o hi=>(mem_append.1 hi).elim (x i o) (y i o)
theorem Has.nil {h:Heap}:Has [] h:=fun _ _ hi=>by cases hi
theorem Do {h:Heap} {l:List Pt} (ih:∀ p∈l,∀ cs c,OP p cs c→Has c h→RP h cs p):∀ {es c},OPs l es c→Has c h→∀ i (h1:i<es.length) (h2:i<l.length),RP h es[i] l[i]:=by
  induction l with
  | nil=>intro es c _ _ i _ h2;exact absurd h2 (by simp)
  | cons p l ih'=>
    intro es c ho hh i h1 h2
    rw [OPs] at ho
    obtain ⟨e,es',k,k',rfl,hp,hs,rfl⟩:=ho
    cases i with
    | zero=>exact ih p (by simp) e k hp hh.left
    | succ i=>exact ih' (fun q hq=>ih q (by simp [hq])) hs hh.right i (by simpa using h1) (by simpa using h2)
theorem LF {h:Heap} {l:List Tm} (ih:∀ p∈l,∀ cs c,OT p cs c→Has c h→RT h cs p):∀ {es c},OTs l es c→Has c h→∀ i (h1:i<es.length) (h2:i<l.length),RT h es[i] l[i]:=by
  induction l with
  | nil=>intro es c _ _ i _ h2;exact absurd h2 (by simp)
  | cons p l ih'=>
    intro es c ho hh i h1 h2
    rw [OTs] at ho
    obtain ⟨e,es',k,k',rfl,hp,hs,rfl⟩:=ho
    cases i with
    | zero=>exact ih p (by simp) e k hp hh.left
    | succ i=>exact ih' (fun q hq=>ih q (by simp [hq])) hs hh.right i (by simpa using h1) (by simpa using h2)
theorem OP.rd {h:Heap} {p:Pt}:∀ {cs c},OP p cs c→Has c h→RP h cs p:=by
  induction p using Pt.ind with
  | h k n r kids ih=>
    intro cs c ho hh
    obtain ⟨ks,es,k1,k2,rfl,hk,hn,ho1,ho2,rfl,hl⟩:=OP_mk.1 ho
    exact RP_mk.2 ⟨ks,rfl,hk,hn,ho1.rdS (S0 ho2).symm hl hh.left (Do (fun p hp cs c=>ih p hp) ho2 hh.right)⟩
theorem Du {h:Heap} {l:List (Pt×Tm)} (ih:∀ p∈l,∀ cs c,OT p.2 cs c→Has c h→RT h cs p.2):∀ {es c},OCs l es c→Has c h→∀ i (h1:i<es.length) (h2:i<l.length),RC h es[i] l[i]:=by
  induction l with
  | nil=>intro es c _ _ i _ h2;exact absurd h2 (by simp)
  | cons p l ih'=>
    intro es c ho hh i h1 h2
    obtain ⟨p,t⟩:=p
    rw [OCs] at ho
    obtain ⟨a,b,es',ka,kb,k',rfl,hp,ht,hs,rfl⟩:=ho
    cases i with
    | zero=>exact ⟨a,b,rfl,hp.rd hh.left,ih (p,t) (by simp) b kb ht hh.right.left⟩
    | succ i=>exact ih' (fun q hq=>ih q (by simp [hq])) hs hh.right.right i (by simpa using h1) (by simpa using h2)
theorem OT.rd {h:Heap} {t:Tm}:∀ {cs c},OT t cs c→Has c h→RT h cs t:=by
  induction t using Tm.ind with
  | h k n r kids cases ih ih'=>
    intro cs c ho hh
    obtain ⟨ks,cv,es,es',k1,k2,k3,k4,rfl,hk,hn,ho1,ho2,ho3,ho4,rfl,hl,hl'⟩:=OT_mk.1 ho
    exact RT_mk.2 ⟨ks,cv,rfl,hk,hn,ho1.rdS (YH ho2).symm hl hh.left (LF (fun p hp cs c=>ih p hp) ho2 hh.right.left),
      ho3.rdS (S3 ho4).symm hl' hh.right.right.left (Du (fun p hp cs c=>ih' p hp) ho4 hh.right.right.right)⟩
theorem ZcO {a b:Zf} {R M:List Zf} (h:Sub (a::b::R) M):Sub ((a++b)::R) M:=h.flat (by simp)
theorem ZcL {R M:List Zf} (h:Sub R M):Sub ([]::R) M:=h.flat (by simp)
theorem SZ {k n:Int} {r:Sm} (hk:inI k) (hn:inI n):OT (.mk k n r [] []) (pkT k n r (.slice none 0 0) (.slice none 0 0)) []:=
  OT_mk.2 ⟨_,_,[],[],[],[],[],[],rfl,hk,hn,Own.nil,OTs.nil,Own.nil,OCs.nil,rfl,by simp,by simp⟩
theorem Qt {k n:Int} {r:Sm} (hk:inI k) (hn:inI n):OP (.mk k n r []) (pkP k n r (.slice none 0 0)) []:=
  OP_mk.2 ⟨_,[],[],[],rfl,hk,hn,Own.nil,OPs.nil,rfl,by simp⟩
theorem Own.at {T:TypeId} {sz:Nat} {v:Value} {es:List (List Value)} {k:Zf} (o:Own T sz v es k) {j:Nat} (hj:j<es.length):
    ∃ b cap row,v=.slice (some ⟨b,0,none⟩) es.length cap∧(b,Obj.cells ⟨row⟩ T (0,0))∈k∧sub row (0+j*sz) sz=some es[j]:=by
  rcases o.2 with ⟨e,e2,e3⟩ | ⟨b,cap,sp,e,e2,e3,e4⟩
  · subst e2;exact absurd hj (by simp)
  · exact ⟨b,cap,es.flatten++sp,e,by rw [e2];simp,by rw [Nat.zero_add];exact K8 o.1 j hj⟩
def Z2 (l:List Int):List (List Value):=l.map fun n=>[.int .i64 n]
theorem Zv (l:List Int):(Z2 l).length=l.length:=by simp [Z2]
theorem Wa (l:List Int) (n:Int):Z2 (l++[n])=Z2 l++[[.int .i64 n]]:=by simp [Z2]
theorem Yg (l:List Int) (j:Nat) (h:j<l.length):(Z2 l)[j]'(by rw [Zv];exact h)=[.int .i64 l[j]]:=by simp [Z2]
def RI (_:Heap) (cs:List Value) (n:Int):Prop:=cs=[.int .i64 n]
theorem Yr {T:TypeId} {v:Value} {l:List Int} {k:Zf} {h:Heap} (o:Own T 1 v (Z2 l) k) (hn:l.length≤9223372036854775807) (hk:Has k h):Hs.rdS RI 1 h v l:=
  o.rdS (Zv l).symm hn hk fun i _ h2=>Yg l i h2
def zT:Tm:=.mk 0 0 zS [] []
end Go.Proofs.YtjdjmjgleadcfaaGreatDoor.Hs
namespace Go.Proofs.YtjdjmjgleadcfaaGreatDoor.Hs
open Go
inductive It where
  | mk (kind num:Int) (text:ByteArray) (kids:List It)
namespace It
def kind:It→Int | .mk k _ _ _=>k
def num:It→Int | .mk _ n _ _=>n
def text:It→ByteArray | .mk _ _ t _=>t
def kids:It→List It | .mk _ _ _ l=>l
end It
theorem It.ind {P:It→Prop} (h:∀ k n t kids,(∀ x∈kids,P x)→P (.mk k n t kids)):∀ p,P p:=by
  have key:∀ n (p:It),SizeOf.sizeOf p≤n→P p:=by
    intro n
    induction n with
    | zero=>intro p hp;cases p;simp at hp
    | succ n ih=>
      intro p hp
      cases p with
      | mk k m r kids=>
        refine h k m r kids fun x hx=>ih x ?_
        have:=List.sizeOf_lt_of_mem hx
        simp at hp
        omega
  exact fun p=>key _ p (Nat.le_refl _)
abbrev pkI (k n:Int) (t:ByteArray) (ks:Value):List Value:=[.int .i64 k,.int .i64 n,.string t,ks]
mutual
def rdI (h:Heap):It→List Value→Prop
  | .mk k n t kids,cs=>∃ ks,cs=pkI k n t ks∧inI k∧inI n∧rdSl h kids.length ks (IK h kids)
def IK (h:Heap):List It→List Value→Nat→Prop
  | [],_,_=>True
  | p::ps,row,o=>(∃ cs,sub row o 4=some cs∧rdI h p cs)∧IK h ps row (o+4)
end
def RIt (h:Heap) (cs:List Value) (p:It):Prop:=rdI h p cs
theorem Cc (h:Heap) (l:List It):∀ row o,IK h l row o=rows (RIt h) 4 row o l:=by
  induction l with
  | nil=>intro row o;simp only [IK,rows]
  | cons p ps ih=>intro row o;simp only [IK,rows,ih,RIt]
theorem RIt_mk {h:Heap} {cs:List Value} {k n:Int} {t:ByteArray} {kids:List It}:RIt h cs (.mk k n t kids)↔∃ ks,cs=pkI k n t ks∧inI k∧inI n∧rdS RIt 4 h ks kids:=by
  unfold rdS
  rw [show RIt h cs (.mk k n t kids)=rdI h (.mk k n t kids) cs from rfl]
  simp only [rdI]
  have:IK h kids=fun row o=>rows (RIt h) 4 row o kids:=by funext row o;exact Cc h kids row o
  rw [this]
theorem SY {h:Heap} {cs:List Value} {p:It} (r:RIt h cs p):cs.length=4:=by cases p;obtain ⟨ks,rfl,_⟩:=RIt_mk.1 r;rfl
theorem AQ {k n:Int} {t:ByteArray} {ks:Value} (h:ks.oneCell'=true):okc (pkI k n t ks):=by
  intro v hv
  simp only [pkI,List.mem_cons,List.not_mem_nil,or_false] at hv
  rcases hv with rfl | rfl | rfl | rfl
  · rfl
  · rfl
  · rfl
  · exact h
theorem RIt.mono {h h':Heap} (hh:Hle h h'):∀ {p cs},RIt h cs p→RIt h' cs p:=by
  intro p
  induction p using It.ind with
  | h k n t kids ih=>
    intro cs q
    obtain ⟨ks,e,h1,h2,h3⟩:=RIt_mk.1 q
    exact RIt_mk.2 ⟨ks,e,h1,h2,h3.mono hh fun x hx cs q=>ih x hx q⟩
theorem RIts.mono {h h':Heap} (hh:Hle h h') {v l} (q:rdS RIt 4 h v l):rdS RIt 4 h' v l:=rdS.mono q hh fun _ _ _=>RIt.mono hh
theorem LD {h:Heap} {cs:List Value} {p:It} (q:RIt h cs p):∃ ks,cs=pkI p.kind p.num p.text ks∧inI p.kind∧inI p.num∧rdS RIt 4 h ks p.kids:=by cases p;exact RIt_mk.1 q
theorem LC {h:Heap} {p:It} {ks:Value} (h1:inI p.kind) (h2:inI p.num) (h3:rdS RIt 4 h ks p.kids):RIt h (pkI p.kind p.num p.text ks) p:=by cases p;exact RIt_mk.2 ⟨ks,rfl,h1,h2,h3⟩
mutual
def OIt:It→List Value→Zf→Prop
  | .mk k n t kids,cs,c=>∃ ks es k1 k2,cs=pkI k n t ks∧inI k∧inI n∧Own 82 4 ks es k1∧OIts kids es k2∧c=k1++k2∧kids.length≤9223372036854775807
def OIts:List It→List (List Value)→Zf→Prop
  | [],es,c=>es=[]∧c=[]
  | p::ps,es,c=>∃ e es' k k',es=e::es'∧OIt p e k∧OIts ps es' k'∧c=k++k'
end
theorem OIt_mk {k n:Int} {t:ByteArray} {kids:List It} {cs:List Value} {c:Zf}:OIt (.mk k n t kids) cs c↔∃ ks es k1 k2,cs=pkI k n t ks∧inI k∧inI n∧Own 82 4 ks es k1∧OIts kids es k2∧c=k1++k2∧kids.length≤9223372036854775807:=by
  rw [OIt]
theorem U1 {l:List It}:∀ {es c},OIts l es c→es.length=l.length:=by
  induction l with
  | nil=>rintro es c h;rw [OIts] at h;rw [h.1];rfl
  | cons p l ih=>intro es c h;rw [OIts] at h;obtain ⟨e,es',k,k',rfl,_,h,_⟩:=h;simp [ih h]
theorem OIts.nil:OIts [] [] []:=by rw [OIts];exact ⟨rfl,rfl⟩
theorem OIts.snoc {l:List It} {p:It} {e:List Value} {k:Zf} (h':OIt p e k):∀ {es c},OIts l es c→OIts (l++[p]) (es++[e]) (c++k):=by
  induction l with
  | nil=>intro es c h;rw [OIts] at h;rw [h.1,h.2];simp only [List.nil_append];rw [OIts];exact ⟨e,[],k,[],rfl,h',OIts.nil,by simp⟩
  | cons q l ih=>
    intro es c h
    rw [OIts] at h
    obtain ⟨f,es',k1,k2,rfl,h1,h2,rfl⟩:=h
    simp only [List.cons_append]
    rw [OIts]
    exact ⟨f,_,k1,_,rfl,h1,ih h2,by rw [List.append_assoc]⟩
theorem OIt.len {p:It} {cs:List Value} {c:Zf} (h:OIt p cs c):cs.length=4:=by cases p;obtain ⟨_,_,_,_,rfl,_⟩:=OIt_mk.1 h;rfl
theorem OIt.ok {p:It} {cs:List Value} {c:Zf} (h:OIt p cs c):okc cs:=by cases p;obtain ⟨_,_,_,_,rfl,_,_,h,_⟩:=OIt_mk.1 h;exact AQ h.one
theorem HO {h:Heap} {l:List It} (ih:∀ p∈l,∀ cs c,OIt p cs c→Has c h→RIt h cs p):∀ {es c},OIts l es c→Has c h→∀ i (h1:i<es.length) (h2:i<l.length),RIt h es[i] l[i]:=by
  induction l with
  | nil=>intro es c _ _ i _ h2;exact absurd h2 (by simp)
  | cons p l ih'=>
    intro es c ho hh i h1 h2
    rw [OIts] at ho
    obtain ⟨e,es',k,k',rfl,hp,hs,rfl⟩:=ho
    cases i with
    | zero=>exact ih p (by simp) e k hp hh.left
    | succ i=>exact ih' (fun q hq=>ih q (by simp [hq])) hs hh.right i (by simpa using h1) (by simpa using h2)
theorem OIt.rd {h:Heap} {p:It}:∀ {cs c},OIt p cs c→Has c h→RIt h cs p:=by
  induction p using It.ind with
  | h k n t kids ih=>
    intro cs c ho hh
    obtain ⟨ks,es,k1,k2,rfl,hk,hn,ho1,ho2,rfl,hl⟩:=OIt_mk.1 ho
    exact RIt_mk.2 ⟨ks,rfl,hk,hn,ho1.rdS (U1 ho2).symm hl hh.left (HO (fun p hp cs c=>ih p hp) ho2 hh.right)⟩
theorem Ds {k n:Int} {t:ByteArray} (hk:inI k) (hn:inI n):OIt (.mk k n t []) (pkI k n t (.slice none 0 0)) []:=
  OIt_mk.2 ⟨_,[],[],[],rfl,hk,hn,Own.nil,OIts.nil,rfl,by simp⟩
def zI:It:=.mk 0 0 ⟨#[]⟩ []
theorem Dp:OIt zI (pkI 0 0 ⟨#[]⟩ (.slice none 0 0)) []:=Ds (by unfold inI;omega) (by unfold inI;omega)
end Go.Proofs.YtjdjmjgleadcfaaGreatDoor.Hs
namespace Go.Proofs.YtjdjmjgleadcfaaGreatDoor.Hs
inductive DR (α:Type) where
  | ok (a:α) (next:Nat)
  | err (c:Int) (i:Nat)
def EY (l:List Int):ByteArray:=⟨(l.map (fun n=>UInt8.ofNat n.toNat)).toArray⟩
def txS (r:Sm):ByteArray:=⟨r.toArray⟩
theorem TW (r:Sm):(txS r).size=32:=by unfold txS;exact r.size_toArray
mutual
def itP:Pt→It
  | .mk k n r kids=>.mk (30+k) n (if k=3 then txS r else ⟨#[]⟩) (WZ kids)
def WZ:List Pt→List It
  | []=>[]
  | p::l=>itP p::WZ l
end
mutual
def itT:Tm→It
  | .mk k n r kids cases=>.mk k n (if Ys k=true then txS r else ⟨#[]⟩) (Wy kids++Vm cases)
def Wy:List Tm→List It
  | []=>[]
  | t::l=>itT t::Wy l
def Vm:List (Pt×Tm)→List It
  | []=>[]
  | (p,t)::l=>.mk 20 0 ⟨#[]⟩ [itP p,itT t]::Vm l
end
section
open Go Go.MapKept
section
variable {c:Cx} {H:Heap} {ρ:Nat→Value} {M:List Zf} {K:Value→List Zf→Prop} {d:Option Nat} {ot:TypeId} {pos:String} {af:Array Edge} {g:Option (Nat×Bool)} {x y z:Operand}
theorem Mem.put {F:Zf} {w:World} {i b:Nat} {o o':Obj} (m:Mem w (M.flatten++F) H) (hi:M[i]?=some [(b,o)]):Mem {w with heap:=w.heap.setIfInBounds b o'} ((M.set i [(b,o')]).flatten++F) H:=by
  have p1:(M.flatten++F).Perm ((b,o)::((M.eraseIdx i).flatten++F)):=(Yt hi).append_right F
  have p2:((M.set i [(b,o')]).flatten++F).Perm ((b,o')::((M.eraseIdx i).flatten++F)):=(Vg (k':=[(b,o')]) hi).append_right F
  have m1:=m.perm p1
  have hb:=m1.own b o (mem_cons_self ..)
  exact (m1.set (heap_set hb).1 (fun k hk=>(heap_set hb).2 k hk)).perm p2.symm
end
end
end Go.Proofs.YtjdjmjgleadcfaaGreatDoor.Hs
