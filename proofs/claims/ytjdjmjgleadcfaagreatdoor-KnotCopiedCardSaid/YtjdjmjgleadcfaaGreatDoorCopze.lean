import Derived.Test.YtjdjmjgleadcfaaGreatDoorCopzd
set_option linter.unusedVariables false
set_option linter.unusedSimpArgs false
set_option maxRecDepth 100000
open Go.Proofs.Tryz
open List (getElem_mem replicate mem_cons_self mem_cons not_mem_nil append_assoc take_of_length_le range getD_eq_getElem?_getD getElem?_eq_getElem mem_append length_take take_succ_eq_append_getElem length_cons length_map length_set mem_map mem_range map_append flatten length_replicate append_nil cons_append all_eq_true eq_nil_of_length_eq_zero getElem?_map drop_eq_getElem_cons mem_singleton nil_append getElem?_eq_none mem_filter take_append_drop nodup_append mem_of_getElem? range_succ filter_append filter_cons length_filter_le length_range)
namespace Go.Proofs.YtjdjmjgleadcfaaGreatDoor.Hs
section
attribute [local irreducible] JL J CT wlo DT
set_option maxHeartbeats 4000000 in
theorem Mo (l:List Tm) (hm:okG (mkL l)) (gb:Nat) (vm vc vf ff:Value) (H:Heap) (hG:H gb=some (.cells ⟨[vm,vc,vf,ff]⟩ 91 (0,0))) (hr:GR H l vm vc vf) (hff:ff.oneCell'=true) (hg:okG l) (i:Int) (h0:0≤i) (h1:i<(l.length:Int)):CT prog 75 ⟨[pp gb 0,iv i]⟩ [] H (fun r N=>∃ k,N=[k]∧Own 3 1 r (Z2 (Y8 (mkL l) (frF l i))) k):=by
 have hfl:=Yy l
 have hml:=ZQ l
 have hm8:=hm.hi
 have hfi:=Rs h0 h1
 have hf0:=hfi.1
 have hf1:=hfi.2
 have hptl:=QU l (frF l i).toNat l.length
 have hptI:(ptI l (frF l i).toNat).length≤l.length:=hptl
 refine Zl func75 rfl rfl<|Zd<|JAn rfl<|Zd<|JLM rfl<|JLq (pp gb 0) (Pu.nilCheck rfl)<|JLq (pp gb 2) (UM rfl rfl)<|JLr (Zc YL rfl (ZcN hG) rfl<|JLM rfl ?_)
 obtain ⟨b1,o1,cap1,row1,T1,fr1,cs1,hv1,hb1,hs1,hE1⟩:=hr.f.get i.toNat (by omega)
 refine JLq (pp b1 (o1+i.toNat*1)) (Pu.idx i.toNat ZS ty3 hv1 rfl (by omega) (by omega))<|JLr (Zc ty3 rfl (ZcN hb1) (ZP ((show cs1=[Value.int .i64 (frF l i)] from hE1.trans (by unfold frF;rw [YO (by omega)]))▸hs1))<|JLr (Zj (vs:=[iv (frF l i)]) [[iv (frF l i)]] ZS el3 rfl rfl (al1 rfl) rfl (by decide) fun b2 k2 ho2 hk2=>JAn rfl<|Zd<|JLM rfl<|JLM rfl<|JLn (Pu.idx 0 ZS ty3 rfl rfl rfl (by decide)) ?_))
 refine JLr (Zc ty3 rfl (ZcS 0 rfl (by rw [hk2];exact mem_cons_self)) rfl<|Jc call124 rfl (fun hin=>Jo l hm gb vm vc vf ff _ (Hle.hu _ _ _ _ hG) (GR.mono (Hle.hu _ _) hr) hff (frF l i) hf0 hf1) rfl ?_)
 rintro v3 _ ⟨k3,rfl,ho3⟩
 refine JLa v3<|Za<|Zg<|Zd<|JAn rfl<|Zm<|ZD (fun k ρ M=>∃ (a:Nat) (out:List Int) (y1:Value) (q1:Zf),Z7 ρ [(0,pp gb 0),(4,nS),(5,y1),(6,v3),(7,iv ((a:Int)))]=ρ∧Sub [q1,k3] M∧okO (mkL l).length out∧a≤out.length∧Own 3 1 y1 (Z2 out) q1∧ordB (fun x=>decide (x∈ptI l (frF l i).toNat)) (sfI (mkL l)) ((mkL l).length-a) a out=Y8 (mkL l) (frF l i)∧k=(mkL l).length-a) _ ⟨0,[frF l i],(.slice (some ⟨b2,0,none⟩) 1 1),k2,Zp rfl,(Sub.cons 1 rfl (Sk Sub.nil)),(okO.one hf0 (by omega)),Nat.zero_le _,ho2,(Fc hg hf0 hf1),rfl⟩ ?_
 rintro _ ρ4 _ ⟨a,out,y1,q1,e5,hm10,hok,ha,how1,hinv,rfl⟩
 obtain ⟨ρ11,rfl⟩:=Zi e5
 clear e5
 refine ZF hm10 ?_
 have holen:=hok.len
 refine Zg<|Zd<|JLM rfl<|JLm y1 ?_
 obtain ⟨a12,cap12,hv12⟩:=how1.sl
 rw [Zv] at hv12
 refine JLn (ZcM ZS hv12)<|JLn (Pu.lss rfl rfl)<|Za<|ZN rfl (fun h13=>?_) (fun h13=>?_)
 ·have h13n:a<out.length:=by omega
  have hal:=h13n
  have hax:=hok.2 _ (getElem_mem h13n)
  refine Zo<|Zg<|Zm<|Zg<|ZM mixed #[0,1,3,7,15,0,0,96,224,511,1023,2047,4095,0] 14 (sm 29 14) [] [(11,fun _ _ vw qw=>∃ k,qw=[k]∧Own 3 1 vw (Z2 (sfR ((mkL l)[(out[a]).toNat]))) k)] rfl (by kernel_rfl) rfl (by kernel_rfl)<|DM (fun _=>rfl)<|Dq (pp gb 0) (fun _=>Pu.nilCheck rfl)<|Dq (pp gb 0) (fun _=>Vo rfl rfl)<|Dq (pp gb 0) (fun _=>TN rfl rfl)<|Dl1 XE (ZcN hG) rfl<|Dm y1<|DM (fun _=>rfl) ?_
  obtain ⟨b18,cap18,row18,hv18,hm18,hs18⟩:=how1.at (j:=a) (by rw [Zv];first | assumption | omega)
  rw [Yg _ _ (by omega)] at hs18
  refine Dn (fun _=>Pu.idx a ZS ty3 hv18 rfl rfl (by rw [Zv];first | assumption | omega))<|Dl1 ty3 (ZcS 0 rfl hm18) (ZP hs18) ?_
  obtain ⟨b19,o19,cap19,row19,T19,fr19,cs19,hv19,hb19,hs19,hE19⟩:=hr.m.get (out[a]).toNat (by omega)
  refine Dq (pp b19 (o19+(out[a]).toNat*36)) (fun _=>Pu.idx (out[a]).toNat ZI Zu hv19 rfl (by first | rfl | omega) (by omega))<|Dl Zu (ZcN hb19) hs19 ?_
  refine Dc rfl call121 (fun _=>rfl) (fun hin=>ID _ _ _ (RT.mono (Hle.hu _ _) hE19) (hm.ck _ (getElem_mem (show (out[a]).toNat<(mkL l).length by omega)))) ?_
  rintro v20 _ ⟨k20,rfl,ho20⟩
  obtain ⟨a21,cap21,hv21⟩:=ho20.sl
  rw [Zv] at hv21
  refine Dn (fun _=>ZcM ZS hv21)<|DM (fun _=>rfl)<|ZX (M':=[k20,q1,k3]) rfl ?_
  show JL _ _ _ [] _ _ _
  refine Za<|Zm<|ZD (fun k ρ M=>∃ (p:Nat) (out2:List Int) (y2:Value) (q2:Zf),Z7 ρ [(0,pp gb 0),(4,nS),(5,y2),(6,v3),(7,iv ((a:Int))),(40,v20),(41,iv (((sfR ((mkL l)[(out[a]).toNat])).length:Int))),(42,iv ((p:Int)))]=ρ∧Sub [q2,k20,k3] M∧p≤(sfR (mkL l)[(out[a]).toNat]).length∧okO (mkL l).length out2∧Own 3 1 y2 (Z2 out2) q2∧out2=stO (fun x=>decide (x∈ptI l (frF l i).toNat)) ((sfR (mkL l)[(out[a]).toNat]).take p) out∧k=(sfR (mkL l)[(out[a]).toNat]).length-p) _ ⟨0,out,y1,q1,Zp rfl,(Sub.cons 1 rfl (Sk (Sk Sub.nil))),Nat.zero_le _,hok,how1,rfl,rfl⟩ ?_
  rintro _ ρ22 _ ⟨p,out2,y2,q2,e23,hm31,hp,hok2,how2,hst2,rfl⟩
  obtain ⟨ρ32,rfl⟩:=Zi e23
  clear e23
  refine ZF hm31 ?_
  have ho2len:=hok2.len
  have hzi:=hm.sz (getElem_mem (show (out[a]).toNat<(mkL l).length by omega))
  have hsz:=O0 (mkL l)[(out[a]).toNat]
  refine Zd<|JLn (Pu.lss rfl rfl)<|Za<|Zg<|ZN rfl (fun h33=>?_) (fun h33=>?_)
  ·have h33n:p<(sfR ((mkL l)[(out[a]).toNat])).length:=by omega
   have hpl:=h33n
   have hpx:=hm.ok _ (getElem_mem (show (out[a]).toNat<(mkL l).length by omega)) _ (getElem_mem h33n)
   refine Zo<|Zg<|Zm<|Zg<|Ze ?_
   obtain ⟨b34,cap34,row34,hv34,hm34,hs34⟩:=ho20.at (j:=p) (by rw [Zv];first | assumption | omega)
   rw [Yg _ _ (by omega)] at hs34
   refine JLn (Pu.idx p ZS ty3 hv34 rfl rfl (by rw [Zv];first | assumption | omega))<|JLr (Zc ty3 rfl (ZcS 1 rfl hm34) (ZP hs34)<|JAn rfl<|Zd<|JLm v3<|JLM rfl<|Jc call54 rfl (fun hin=>Wn _ _ _ _ (Yr ho3 (by omega) (hin 2 _ rfl))) rfl ?_)
   rintro _ _ ⟨rfl,rfl⟩
   refine JLM rfl<|ZK 4 [50,51,52,53] [(53,cond (decide ((sfR ((mkL l)[(out[a]).toNat]))[p]∈ptI l (frF l i).toNat)) (.bool (!(decide ((sfR ((mkL l)[(out[a]).toNat]))[p]∈out2)))) undef)] ?_ fun f36=>?_
   ·cases h35:(decide ((sfR ((mkL l)[(out[a]).toNat]))[p]∈ptI l (frF l i).toNat)) with
    | true=>
     replace h35:=dt h35
     refine JLm y2<|JLM rfl<|Jc call54 rfl (fun hin=>Wn _ _ _ _ (Yr how2 (by omega) (hin 0 _ rfl))) rfl ?_
     rintro _ _ ⟨rfl,rfl⟩
     refine JLn (Pu.not rfl) ?_
     exact Za ⟨⟨rfl,trivial⟩,rfl⟩
    | false=>
     exact Z1 rfl ⟨rfl,trivial⟩
   refine JLn (ZcR rfl rfl rfl)<|Za<|Zt rfl (fun h37=>?_) (fun h37=>?_)
   ·obtain ⟨h37a,h37b⟩:=Xx h37
    replace h37a:=dt h37a
    replace h37b:=nt h37b
    replace h37b:=df h37b
    refine Ze<|JLm y2<|JLM rfl<|JLr (Zj (vs:=[iv ((sfR ((mkL l)[(out[a]).toNat]))[p])]) [[iv ((sfR ((mkL l)[(out[a]).toNat]))[p])]] ZS el3 rfl rfl (al1 rfl) rfl (by decide) fun b38 k38 ho38 hk38=>?_)
    have hlens39:∀ e∈([[iv ((sfR ((mkL l)[(out[a]).toNat]))[p])]]:List (List Value)),List.length e=1:=al1 rfl
    have hoks39:∀ e∈([[iv ((sfR ((mkL l)[(out[a]).toNat]))[p])]]:List (List Value)),okc e:=al1 (Zh rfl Zq)
    refine JLr (ZA (i:=1) (n:=1) (es':=[[iv ((sfR ((mkL l)[(out[a]).toNat]))[p])]]) ZS ZS (Or.inl rfl) el3 rfl rfl rfl how2 (fun F w m=>Src.row (((ZcS 0 rfl (by rw [hk38];exact mem_cons_self))).heap m) (Zx (Zw hlens39))) rfl hlens39 hoks39 (by decide) (by rw [Zv];omega) fun v39 k39 ho39=>JLa v39<|Za<|Ze<|JLn (ZcP rfl rfl (by omega))<|JLM rfl<|Za<|⟨_,?_,(p+1),(out2++[(sfR ((mkL l)[(out[a]).toNat]))[p]]),v39,k39,Zp rfl,(Sd (Sk (Sk (Sk Sub.nil)))),?_,?_,?_,?_,rfl⟩)
    ·omega
    ·omega
    ·exact hok2.add (by simp_all) hpx.1 hpx.2
    ·rw [Wa];exact ho39
    rw [WO hpl,← hst2,if_pos (by simp_all)]
   refine Zo<|Ze<|JLn (ZcP rfl rfl (by omega))<|JLM rfl<|Za<|⟨_,?_,(p+1),out2,y2,q2,Zp rfl,(Sk (Sk (Sk Sub.nil))),?_,?_,?_,?_,rfl⟩
   ·omega
   ·omega
   ·exact hok2
   ·exact how2
   rw [WO hpl,← hst2,if_neg (by simp_all)]
  have h33n:(sfR ((mkL l)[(out[a]).toNat])).length≤p:=by omega
  refine ZC _ rfl<|Ze<|JLM rfl<|JLn (ZcP rfl rfl (by omega))<|JAn rfl<|⟨_,?_,(a+1),out2,y2,q2,Zp rfl,(Sk (Sd (Sk Sub.nil))),?_,?_,?_,?_,rfl⟩
  ·omega
  ·exact hok2
  ·have:=(S9 (P:=(fun x=>decide (x∈ptI l (frF l i).toNat))) (hm.ok _ (getElem_mem (show (out[a]).toNat<(mkL l).length by omega))) hok).2.length_le;rw [hst2,take_of_length_le (by omega)];omega
  ·exact how2
  rw [show (mkL l).length-a=((mkL l).length-(a+1))+1 by omega,WJ hal,Ub hal,O4 (by omega)] at hinv;rw [hst2,take_of_length_le (by omega)];exact hinv
 have h13n:out.length≤a:=by omega
 refine ZC _ rfl<|Zd<|JLm y1<|JLa y1<|Za<|ZE y1 [q1] (Sk Sub.nil) (?_)
 rw [X0 (by omega)] at hinv
 exact ⟨_,rfl,by rw [← hinv];exact how1⟩
set_option maxHeartbeats 4000000 in
theorem J3 (l:List Tm) (hg:okG l) (hm:okG (mkL l)) (gb r:Nat) (vm vc vf ff:Value) (hff:ff.oneCell'=true) (i:Int) (h0:0≤i) (h1:i<(l.length:Int)) (K:List Int) (H:Heap) (hr:GR H l vm vc vf) (hR:H r=some (gmO iV smV K (dgF l))) (hcov:CI l K (firstN l i.toNat)):CT prog 55 ⟨[pp gb 0,iv i,.map (some r)]⟩ [(BX gb [vm,vc,vf,ff] 91)] H (fun v N=>∃ u k f2,v=.tuple ⟨[u,iv (X5 (Ye (mkL l) (firstN l i.toNat)))]⟩∧N=[(BX gb [vm,vc,vf,f2] 91),k]∧f2.oneCell'=true∧Own 5 1 u (YU (Pk (Ye (mkL l) (firstN l i.toNat)))) k):=by
 have hfl:=Yy l
 have hml:=ZQ l
 have hm8:=hm.hi
 have hi:i.toNat<l.length:=by omega
 have hfe:frF l i=(firstN l i.toNat:Int):=by unfold frF;exact Xs h0 h1
 have hfn:=Ya hi
 refine Zl func55 rfl rfl<|Zd<|JLr (Zr (l:=[.map (some r)]) rfl rfl fun b1=>JLA rfl<|JAn rfl<|Zd<|JLM rfl<|JLM rfl<|Jc call75 rfl (fun hin=>Mo l hm gb vm vc vf ff _ (hin 1 _ rfl _ _ mem_cons_self) (GR.mono (Hle.hu _ _) hr) hff hg i h0 h1) rfl ?_)
 rintro v2 _ ⟨k2,rfl,ho2⟩
 obtain ⟨o,ho⟩:∃ o,o=Y8 (mkL l) (frF l i):=⟨_,rfl⟩
 rw [← ho] at ho2
 rw [hfe] at ho
 have hok:okO (mkL l).length o:=by rw [ho];exact Qe hm.ok (by omega) (nmk hi)
 have hol:=hok.len
 refine JLr (Zk (l:=[nS]) zeroValue45 rfl fun b3=>JLr (Zb 0 (vs:=[v2]) (l:=[v2]) YL rfl rfl rfl (ZH ho2.one) rfl (Zh ho2.one Zq) rfl<|Za<|Zd<|JLM rfl<|JLq (.func (.func 103) ⟨[]⟩ ⟨[pp b3 0,pp b1 0]⟩) (Pu.makeFunc rfl rfl)<|JLq (pp gb 0) (Pu.nilCheck rfl)<|JLq (pp gb 3) (Em rfl rfl)<|JLr (Zb 3 (vs:=[.func (.func 103) ⟨[]⟩ ⟨[pp b3 0,pp b1 0]⟩]) (l:=[vm,vc,vf,.func (.func 103) ⟨[]⟩ ⟨[pp b3 0,pp b1 0]⟩]) Ay rfl rfl rfl rfl rfl (Zh rfl Zq) rfl<|Za<|Zg<|Ze ?_)))
 refine JLM rfl<|JLq (.func (.func 104) ⟨[pp gb 0]⟩ ⟨[]⟩) (Pu.makeFunc rfl rfl)<|JAn rfl<|Zd<|JLr (Zc YL rfl (ZcK 0 rfl) rfl ?_)
 obtain ⟨a4,cap4,hv4⟩:=ho2.sl
 rw [Zv] at hv4
 refine JLn (ZcM ZS hv4)<|JLq (.agg ⟨[iv 40,iv ((o.length:Int)),.string (⟨#[]⟩),nS]⟩) (Pu.build (pv:=[(0,iv 40),(1,iv ((o.length:Int)))]) (l:=[iv 40,iv ((o.length:Int)),.string (⟨#[]⟩),nS]) rfl (Hr _ _))<|JLr (Zk (l:=[iv 0,iv 0,.string (⟨#[]⟩),nS]) zeroValue82 rfl fun b5=>JLr (Zb 0 (vs:=[iv 40,iv ((o.length:Int)),.string (⟨#[]⟩),nS]) (l:=[iv 40,iv ((o.length:Int)),.string (⟨#[]⟩),nS]) XY rfl rfl rfl rfl rfl (Zh rfl (Zh rfl (Zh rfl (Zh rfl Zq)))) rfl<|Za<|Zg<|Zd<|JLr (Zc YL rfl (ZcK 1 rfl) rfl ?_)))
 obtain ⟨a6,cap6,hv6⟩:=ho2.sl
 rw [Zv] at hv6
 refine JLn (ZcM ZS hv6)<|JLM rfl<|Za<|Zm<|ZD (fun k ρ M=>∃ (j:Nat) (y1y:Value) (es1s:List (List Value)) (q1a q1b:Zf),Z7 ρ [(0,pp gb 0),(6,nS),(7,iv 0),(9,.func (.func 104) ⟨[pp gb 0]⟩ ⟨[]⟩),(10,pp b5 0),(27,v2),(28,iv ((o.length:Int))),(29,iv ((j:Int)))]=ρ∧Sub [(BX b5 [iv 40,iv ((o.length:Int)),.string (⟨#[]⟩),y1y] 82),q1a,q1b,(BX b3 [v2] 45),k2,(BX b1 [.map (some r)] 95),(BX gb [vm,vc,vf,.func (.func 103) ⟨[]⟩ ⟨[pp b3 0,pp b1 0]⟩] 91)] M∧j≤o.length∧Own 82 4 y1y es1s q1a∧OIts ((o.take j).map (cdK (mkL l) o (smL (mkL l) o (fun k=>sha (Yf (Ye (mkL l) k)))))) es1s q1b∧k=o.length-j) _ ⟨0,nS,[],[],[],Zp rfl,(Sk (ZcL (ZcL (Sk (Sk (Sk (Sk Sub.nil))))))),Nat.zero_le _,Own.nil,(by simpa [WZ,Wy] using OIts.nil),rfl⟩ ?_
 rintro _ ρ7 _ ⟨j,y1y,es1s,q1a,q1b,e8,hm16,hj,how1w,hop1p,rfl⟩
 obtain ⟨ρ17,rfl⟩:=Zi e8
 clear e8
 refine ZF hm16<|Zd<|JLn (Pu.lss rfl rfl)<|Za<|Zg<|ZN rfl (fun h18=>?_) (fun h18=>?_)
 ·have h18n:j<o.length:=by omega
  have hjo:=h18n
  have hel:=U1 hop1p
  rw [length_map,length_take] at hel
  have hop:=hok.2 _ (getElem_mem h18n)
  have hrt:=Lb hg.mkL hok (smL (mkL l) o (fun k=>sha (Yf (Ye (mkL l) k)))) hop.1 hop.2
  refine Zo<|Zg<|Zm<|Zg<|Ze ?_
  obtain ⟨b19,cap19,row19,hv19,hm19,hs19⟩:=ho2.at (j:=j) (by rw [Zv];first | assumption | omega)
  rw [Yg _ _ (by omega)] at hs19
  refine JLn (Pu.idx j ZS ty3 hv19 rfl rfl (by rw [Zv];first | assumption | omega))<|JLr (Zc ty3 rfl (ZcS 4 rfl hm19) (ZP hs19)<|JAn rfl<|Zd<|JLM rfl<|JLq (pp gb 0) (Pu.nilCheck rfl)<|JLq (pp gb 0) (Vo rfl rfl)<|JLq (pp gb 0) (TN rfl rfl)<|JLr (Zc XE rfl (ZcK 6 rfl) rfl<|JLM rfl ?_))
  obtain ⟨b20,o20,cap20,row20,T20,fr20,cs20,hv20,hb20,hs20,hE20⟩:=hr.m.get (o[j]).toNat (by omega)
  refine JLq (pp b20 (o20+(o[j]).toNat*36)) (Pu.idx (o[j]).toNat ZI Zu hv20 rfl (by first | rfl | omega) (by omega))<|JLr (Zn Zu rfl (ZcN hb20) hs20<|JLM rfl<|Jc call57 rfl (fun hin=>Td (TE o (kfV K (dgF l))) (fun _ _ _=>True) 104 [pp gb 0] [] call104 (Ch (by omega) _) _ _ _ (RT.mono (Hle.hu _ _) hE20) (by have:=hm.sz (getElem_mem (show (o[j]).toNat<(mkL l).length by omega));omega) (Tl (fun _ _ _=>trivial) _) (fun y a h hh ra _=>Cg l o K gb b3 b1 r vm vc vf v2 hr.m.one hr.c.one hr.f.one y a h ra (hh _ _ (hin 6 _ rfl _ _ mem_cons_self)) (hh _ _ (hin 3 _ rfl _ _ mem_cons_self)) (RIs.mono hh (Yr ho2 (by omega) (hin 4 _ rfl))) (hh _ _ (hin 5 _ rfl _ _ mem_cons_self)) (hh _ _ (Hle.hu _ _ _ _ hR)))) rfl ?_)
  rintro _ _ ⟨cs21,k21,rfl,rfl,hO21⟩;rw [Bo hg (by omega) ho (CG hcov) (getElem_mem hjo) (by omega)] at hO21
  refine Jc call105 rfl (fun hin=>I7 _ _ _ (hO21.rd (hin 0 _ rfl)) hrt) rfl ?_
  rintro _ _ ⟨cs22,k22,rfl,rfl,ho22⟩
  refine JLM rfl<|JLn (Pu.extract rfl rfl)<|JLn (Pu.extract rfl rfl)<|JLr (Zk (l:=[iv 0,iv 0,.string (⟨#[]⟩),nS]) zeroValue82 rfl fun b23=>JLr (Zb 0 (vs:=cs22) (l:=cs22) XY rfl rfl rfl rfl ho22.len ho22.ok (ZY (n:=4) rfl ho22.len)<|JAn rfl<|Zg<|Zd<|JLM rfl<|JLq (.bool false) (show Pu _ _ _ (.bool (!decide ((0:Int)=0))) from Pu.neq rfl rfl)<|Za ?_))
  refine Zt (b:=false) rfl (fun h=>absurd h (by simp)) (fun _=>Zo<|Ze<|JLq (pp b5 3) (Ws rfl rfl)<|JLr (Zc S8 rfl (ZcK 3 rfl) rfl<|JLr (Zn XY rfl (ZcK 0 rfl) (Zx ho22.len)<|JLr (Zj (vs:=[.agg ⟨cs22⟩]) [cs22] Uk NE rfl rfl (al1 ho22.len) rfl (by decide) fun b24 k24 ho24 hk24=>?_))))
  have hlens25:∀ e∈([cs22]:List (List Value)),List.length e=4:=al1 ho22.len
  have hoks25:∀ e∈([cs22]:List (List Value)),okc e:=al1 ho22.ok
  refine JLr (ZA (i:=5) (n:=1) (es':=[cs22]) Uk Uk (Or.inl rfl) NE rfl rfl rfl how1w (fun F w m=>Src.row (((ZcS 0 rfl (by rw [hk24];exact mem_cons_self))).heap m) (Zx (Zw hlens25))) rfl hlens25 hoks25 (by decide) (by omega) fun v25 k25 ho25=>JLq (pp b5 3) (Ws rfl rfl)<|JLr (Zb 4 (vs:=[v25]) (l:=[iv 40,iv ((o.length:Int)),.string (⟨#[]⟩),v25]) S8 rfl rfl rfl (ZH ho25.one) rfl (Zh ho25.one Zq) rfl<|Za<|Ze<|JLn (ZcP rfl rfl (by omega))<|JLM rfl<|Za<|⟨_,?_,(j+1),v25,(es1s++[cs22]),k25,(q1b++k22),Zp rfl,(Sd (Sd (Sub.cons 2 rfl (Sub.cons 2 rfl (ZcO (Sub.cons 2 rfl (Sk (Sd (Sk (Sk (Sk (Sk Sub.nil)))))))))))),?_,?_,?_,rfl⟩))
  ·omega
  ·omega
  ·exact ho25
  rw [ER h18n];exact OIts.snoc ho22 hop1p
 have h18n:o.length≤j:=by omega
 refine ZC _ rfl<|Zg ?_
 rw [take_of_length_le h18n] at hop1p
 have hOI:OIt (cdI (mkL l) o (fun k=>sha (Yf (Ye (mkL l) k)))) [iv 40,iv ((o.length:Int)),.string (⟨#[]⟩),y1y] (q1a++q1b):=OIt_mk.2 ⟨_,_,_,_,rfl,by unfold inI;omega,by unfold inI;omega,how1w,hop1p,rfl,by rw [length_map];omega⟩
 have hgc:=KK hg.mkL hok (fun k=>sha (Yf (Ye (mkL l) k)))
 refine Ze<|JLr (Zn XY rfl (ZcK 0 rfl) rfl<|Jc call106 rfl (fun hin=>MZ _ _ _ (hOI.rd (Has.app (hin 1 _ rfl) (hin 2 _ rfl))) hgc.1 (by omega) (by omega)) rfl ?_)
 rintro _ _ ⟨u26,k26,rfl,rfl,ho26⟩
 refine JLn (Pu.extract rfl rfl)<|JLn (Pu.extract rfl rfl)<|JLa u26<|JAn rfl<|Zz<|⟨.tuple ⟨[u26,iv (X5 (cdI (mkL l) o (fun k=>sha (Yf (Ye (mkL l) k)))))]⟩,[(BX gb [vm,vc,vf,.func (.func 103) ⟨[]⟩ ⟨[pp b3 0,pp b1 0]⟩] 91),k26],ZcU rfl (RV.tmp rfl) (RV.tmp rfl),(Sub.cons 7 rfl (Sk Sub.nil)),?_⟩
 have hce:=SO hm.ok (i:=firstN l i.toNat) (by omega)
 rw [← ho] at hce
 exact ⟨_,_,_,by rw [hce],rfl,rfl,by rw [hce];exact ho26⟩
set_option maxHeartbeats 1000000 in
theorem EU (l:List Tm) (v:Value) (H:Heap) (hv:Hs.rdS RT 36 H v l) (hz:sizeTs l≤400000):CT prog 100 ⟨[v]⟩ [] H (fun v N=>∃ k,N=[k]∧OII (Xu l) v k):=by
 have hln:=XR l
 refine Zl func100 rfl rfl<|Zd<|JAn rfl<|Zd<|JAn rfl<|Zg<|Zd<|JLm v ?_
 obtain ⟨a1,cap1,hv1⟩:=hv.sl
 have hle1:=hv.le
 refine JLn (ZcM ZI hv1)<|JLM rfl<|Za<|Zm<|ZD (fun k ρ M=>∃ (j:Nat) (y1:Value) (q1 q2:Zf) (es:List (List Value)),Z7 ρ [(2,nS),(3,y1),(7,v),(8,iv ((l.length:Int))),(9,iv ((j:Int)))]=ρ∧Sub [q1,q2] M∧j≤l.length∧Own 45 1 y1 es q1∧OIIs ((Xu l).take j) es q2∧k=l.length-j) _ ⟨0,nS,[],[],[],Zp rfl,(ZcL (ZcL Sub.nil)),Nat.zero_le _,Own.nil,⟨rfl,rfl⟩,rfl⟩ ?_
 rintro _ ρ2 _ ⟨j,y1,q1,q2,es,e3,hm8,hj,how,hos,rfl⟩
 obtain ⟨ρ9,rfl⟩:=Zi e3
 clear e3
 refine ZF hm8 ?_
 have hlen:=hv.le
 have hel:=S2 hos
 rw [length_take,Wo] at hel
 refine Zd<|JLn (Pu.lss rfl rfl)<|Za<|Zg<|ZN rfl (fun h10=>?_) (fun h10=>?_)
 ·have h10n:j<l.length:=by omega
  have hs1:=YR _ (getElem_mem h10n)
  have hs2:=Qb l[j]
  have hs3:=J6 l[j]
  refine Zo<|Zg<|Zm<|Zg<|Ze ?_
  obtain ⟨b11,o11,cap11,row11,T11,fr11,cs11,hv11,hb11,hs11,hE11⟩:=hv.get j (by omega)
  refine JLn (Pu.idx j ZI Zu hv11 rfl rfl (by omega))<|JLr (Zn Zu rfl (ZcN hb11) hs11<|JLr (Zk (l:=pkT 0 0 zS nS nS) zeroValue51 rfl fun b12=>JLr (Zb 0 (vs:=cs11) (l:=cs11) Zu rfl rfl rfl rfl (Zy hE11) (Y5 hE11) (ZY (n:=36) rfl (Zy hE11))<|Za<|Zd<|JLr (Zn Zu rfl (ZcK 0 rfl) (Zx (Zy hE11))<|Jc call121 rfl (fun hin=>Rd _ _ _ (RT.mono (Hle.hu _ _) hE11) (by have:=YR _ (getElem_mem h10n);omega)) rfl ?_))))
  rintro v13 _ ⟨k13,rfl,ho13⟩
  refine JLa v13<|Za<|Zd<|JLm v13<|Zs 0 rfl call149 rfl rfl (fun hin=>Gx _ _ _ _ ho13 (by first | omega | (rw [List.length_mergeSort];omega))) rfl ?_
  rintro _ _ ⟨rfl,k14,rfl,ho14⟩
  refine Za<|Ze<|JLm y1<|JLm v13<|Zs 0 rfl call150 rfl rfl (fun hin=>M6 _ _ _ _ ho14 (by first | omega | (rw [List.length_mergeSort];omega))) rfl ?_
  rintro v15 _ ⟨k15,rfl,ho15⟩
  refine JLr (Zj (vs:=[v15]) [[v15]] RF Bh rfl (congr (congrArg List.cons (ZH ho15.one)) rfl) (al1 rfl) rfl (by decide) fun b16 k16 ho16 hk16=>?_)
  have hlens17:∀ e∈([[v15]]:List (List Value)),List.length e=1:=al1 rfl
  have hoks17:∀ e∈([[v15]]:List (List Value)),okc e:=al1 (Zh ho15.one Zq)
  refine JLr (ZA (i:=3) (n:=1) (es':=[[v15]]) RF RF (Or.inl rfl) Bh rfl rfl rfl how (fun F w m=>Src.row (((ZcS 0 rfl (by rw [hk16];exact mem_cons_self))).heap m) (Zx (Zw hlens17))) rfl hlens17 hoks17 (by decide) (by omega) fun v17 k17 ho17=>JLa v17<|Za<|Ze<|JLn (ZcP rfl rfl (by omega))<|JLM rfl<|Za<|⟨_,?_,(j+1),v17,k17,(q2++k15),(es++[[v15]]),Zp rfl,(Sd (Sub.cons 2 rfl (ZcO (Sub.cons 2 rfl (Sk Sub.nil))))),?_,?_,?_,rfl⟩)
  ·omega
  ·omega
  ·exact ho17
  rw [Hk h10n];exact hos.snoc ho15 (by have:=hs3;unfold clP at this;omega)
 have h10n:l.length≤j:=by omega
 refine ZC _ rfl<|Zd<|JLm y1<|JLa y1<|Za<|ZE y1 [q1++q2] (ZcO (Sk (Sk Sub.nil))) (?_)
 rw [take_of_length_le (by rw [Wo];exact h10n)] at hos
 exact ⟨_,rfl,OII.mk how hos (by rw [Wo];omega)⟩
theorem AY (c:Int) (tk:List Bool) (pt:List Int) (vp:Value) (bT bQ:Nat) (H:Heap) (hT:H bT=some (.cells ⟨bls tk⟩ 93 (0,0))) (htk:tk.length=8) (hQ:H bQ=some (.cells ⟨[vp]⟩ 45 (0,0))) (hp:Hs.rdS RI 1 H vp pt) (h0:0≤c) (h1:c<8):CT prog 126 ⟨[iv c,pp bT 0,pp bQ 0]⟩ [] H (fun v N=>v=.bool (tk.getD c.toNat false||decide (c∈pt))∧N=[]):=by
 refine Zl func126 rfl rfl<|Zd<|JAn rfl<|Zd<|JLM rfl<|JLq (pp bT (0+c.toNat*1)) (ZcQ c.toNat LA ty4 rfl rfl (by first | rfl | omega) (by omega))<|JLr (Zc ty4 rfl (ZcN hT) (X2 (by have hbl:List.length tk=8:=htk;omega))<|JLM rfl<|ZK 3 [9,10,11] [(11,cond (tk.getD c.toNat false) undef (.bool (decide (c∈pt))))] ?_ fun f2=>?_)
 ·cases h1:(tk.getD c.toNat false) with
  | false=>
   refine JLr (Zc YL rfl (ZcN hQ) rfl<|JLM rfl<|Jc call54 rfl (fun hin=>Wn _ _ _ _ (RIs.mono (Hle.hu _ _) hp)) rfl ?_)
   rintro _ _ ⟨rfl,rfl⟩
   exact Za ⟨⟨rfl,trivial⟩,rfl⟩
  | true=>
   exact Z1 rfl ⟨rfl,trivial⟩
 refine JLn (ZcT rfl rfl rfl)<|JAn rfl<|ZE (.bool ((tk.getD c.toNat false)||(decide (c∈pt)))) [] Sub.nil (?_)
 exact ⟨rfl,rfl⟩
set_option maxHeartbeats 4000000 in
theorem G5 (l:List Tm) (hm:okG (mkL l)) (gb:Nat) (vm vc vf ff:Value) (H:Heap) (hG:H gb=some (.cells ⟨[vm,vc,vf,ff]⟩ 91 (0,0))) (hr:GR H l vm vc vf) (hff:ff.oneCell'=true):CT prog 81 ⟨[pp gb 0]⟩ [] H (fun v N=>∃ k,N=[k]∧OII (paL l) v k):=by
 have hfl:=Yy l
 have hml:=ZQ l
 have hm8:=hm.hi
 have hcl:=Wo (mkL l)
 refine Zl func81 rfl rfl<|Zd<|JAn rfl<|Zd<|JAn rfl<|Zd<|JLr (Zk (l:=bls (replicate 8 false)) zeroValue93 rfl fun b1=>Za ?_)
 refine Zm<|ZD (fun k ρ M=>∃ (i:Nat) (tk:List Bool) (ll:List (List Int)) (y1:Value) (q1 q2:Zf) (es:List (List Value)),Z7 ρ [(0,pp gb 0),(2,nS),(3,y1),(4,pp b1 0)]=ρ∧Sub [(BX b1 (bls tk) 93),q1,q2] M∧runP l i=(tk,ll)∧Own 45 1 y1 es q1∧OIIs ll es q2∧k=Xm tk) _ ⟨0,replicate 8 false,[],nS,[],[],[],Zp rfl,(Sk (ZcL (ZcL Sub.nil))),rfl,Own.nil,⟨rfl,rfl⟩,rfl⟩ ?_
 rintro _ ρ2 _ ⟨i,tk,ll,y1,q1,q2,es,e3,hm7,hst,how,hos,rfl⟩
 obtain ⟨ρ8,rfl⟩:=Zi e3
 clear e3
 refine ZF hm7 ?_
 have htk:=D1 hst
 have hel:=S2 hos
 have hllb:=QM (l:=l) (by omega) i
 rw [hst] at hllb
 simp only at hllb
 refine Zm<|BT<|Zd<|JAn rfl<|Zg<|BU<|Zg<|Zd<|JLM rfl<|JLq (pp gb 0) (Pu.nilCheck rfl) ?_
 refine JLq (pp gb 2) (UM rfl rfl)<|JLr (Zc YL rfl (ZcN hG) rfl ?_)
 obtain ⟨a9,cap9,hv9⟩:=hr.f.sl
 have hle9:=hr.f.le
 refine JLn (ZcM ZS hv9)<|JLM rfl<|Za<|Zm<|ZD (fun k ρ M=>∃ (j:Nat),Z7 ρ [(0,pp gb 0),(2,nS),(3,y1),(4,pp b1 0),(5,.bool false),(16,vf),(17,iv (((frI l).length:Int))),(18,iv ((j:Int)))]=ρ∧Sub [(BX b1 (bls tk) 93),q1,q2] M∧j≤(frI l).length∧(∀ a,a<j→goodB l tk a=false)∧k=(frI l).length-j) _ ⟨0,Zp rfl,(Sk (Sk (Sk Sub.nil))),Nat.zero_le _,fun a ha=>absurd ha (by omega),rfl⟩ ?_
 rintro _ ρ10 _ ⟨j,e11,hm19,hj,hno,rfl⟩
 obtain ⟨ρ20,rfl⟩:=Zi e11
 clear e11
 refine ZF hm19 ?_
 have hptb:=IN l j
 refine Zd<|JLn (Pu.lss rfl rfl)<|Za<|Zg<|ZN rfl (fun h21=>?_) (fun h21=>?_)
 ·have h21n:j<(frI l).length:=by omega
  refine Zo<|Zg<|Zm<|Zd<|JLM rfl ?_
  obtain ⟨b22,o22,cap22,row22,T22,fr22,cs22,hv22,hb22,hs22,hE22⟩:=hr.f.get j (by omega)
  refine JLn (Pu.idx j ZS ty3 hv22 rfl rfl (by omega))<|JLr (Zc ty3 rfl (ZcN hb22) (ZP ((show cs22=[Value.int .i64 ((frI l)[j])] from hE22)▸hs22))<|JLA rfl<|JAn rfl<|Zg<|Zd<|JLM rfl<|JLM rfl<|JLn (Pu.neq rfl rfl)<|JLM rfl<|ZK 3 [27,28,29] [(29,cond (!decide ((j:Int)=(frI l)[j])) undef (.bool (tk.getD ((j:Int)).toNat false)))] ?_ fun f24=>?_)
  ·cases h23:(!decide ((j:Int)=(frI l)[j])) with
   | false=>
    replace h23:=nf h23
    replace h23:=dt h23
    refine JLM rfl<|JLq (pp b1 (0+((j:Int)).toNat*1)) (ZcQ ((j:Int)).toNat LA ty4 rfl rfl (by first | rfl | omega) (by omega))<|JLr (Zc ty4 rfl (ZcK 0 rfl) (X2 (by have hbl:List.length tk=8:=htk;omega)) ?_)
    exact Za ⟨⟨rfl,trivial⟩,rfl⟩
   | true=>
    exact Z1 rfl ⟨rfl,trivial⟩
  refine JLn (ZcT rfl rfl rfl)<|Za<|Zt rfl (fun h25=>?_) (fun h25=>?_)
  ·refine ZC _ rfl<|Ze<|JLn (ZcP rfl rfl (by omega))<|JLM rfl<|Za<|⟨_,?_,(j+1),Zp rfl,(Sk (Sk (Sk Sub.nil))),?_,?_,rfl⟩
   ·omega
   ·omega
   intro a ha;by_cases h1:a<j;exact hno a h1;(obtain rfl:a=j:=by omega);exact CU (show a<l.length by omega) (by simpa using h25)
  obtain ⟨h25a,h25b⟩:=orF h25
  replace h25a:=nf h25a
  replace h25a:=dt h25a
  refine Zo<|Zd<|JLM rfl<|JLM rfl<|Jc call124 rfl (fun hin=>Jo l hm gb vm vc vf ff _ (Hle.hu _ _ _ _ hG) (GR.mono (Hle.hu _ _) hr) hff ((j:Int)) (by omega) (by omega)) rfl ?_
  rintro v26 _ ⟨k26,rfl,ho26⟩;rw [Int.toNat_natCast] at ho26
  refine JLr (Zk (l:=[nS]) zeroValue45 rfl fun b27=>JLr (Zb 0 (vs:=[v26]) (l:=[v26]) YL rfl rfl rfl (ZH ho26.one) rfl (Zh ho26.one Zq) rfl<|Za<|Zg<|Zd<|JLr (Zc YL rfl (ZcK 0 rfl) rfl ?_)))
  obtain ⟨a28,cap28,hv28⟩:=ho26.sl
  rw [Zv] at hv28
  refine JLn (ZcM ZS hv28)<|JLM rfl<|Za<|Zm<|ZD (fun k ρ M=>∃ (p:Nat),Z7 ρ [(0,pp gb 0),(2,nS),(3,y1),(4,pp b1 0),(5,.bool false),(8,pp b27 0),(16,vf),(17,iv (((frI l).length:Int))),(18,iv ((j:Int))),(34,v26),(35,iv (((ptI l j).length:Int))),(36,iv ((p:Int)))]=ρ∧Sub [(BX b27 [v26] 45),k26,(BX b1 (bls tk) 93),q1,q2] M∧p≤(ptI l j).length∧(∀ k∈(ptI l j).take p,clOK l tk j k=true)∧k=(ptI l j).length-p) _ ⟨0,Zp rfl,(Sk (Sk (Sk (Sk (Sk Sub.nil))))),Nat.zero_le _,fun k hk=>absurd hk (by simp),rfl⟩ ?_
  rintro _ ρ29 _ ⟨p,e30,hm42,hp,hck,rfl⟩
  obtain ⟨ρ43,rfl⟩:=Zi e30
  clear e30
  refine ZF hm42<|Zd<|JLn (Pu.lss rfl rfl)<|Za<|Zg<|ZN rfl (fun h44=>?_) (fun h44=>?_)
  ·have h44n:p<(ptI l j).length:=by omega
   have hpx:=T6 (getElem_mem h44n)
   have hcn:clG (mkL l) ((ptI l j)[p]).toNat=(Xu (mkL l))[((ptI l j)[p]).toNat]:=YO (by omega)
   refine Zo<|Zg<|Zm<|Zg<|Ze ?_
   obtain ⟨b45,cap45,row45,hv45,hm45,hs45⟩:=ho26.at (j:=p) (by rw [Zv];first | assumption | omega)
   rw [Yg _ _ (by omega)] at hs45
   refine JLn (Pu.idx p ZS ty3 hv45 rfl rfl (by rw [Zv];first | assumption | omega))<|JLr (Zc ty3 rfl (ZcS 1 rfl hm45) (ZP hs45)<|JAn rfl<|Zd<|JLM rfl<|JLq (pp gb 0) (Pu.nilCheck rfl)<|JLq (pp gb 0) (Vo rfl rfl)<|JLq (pp gb 1) (Kn rfl rfl)<|JLr (Zc DI rfl (ZcN hG) rfl<|JLM rfl ?_))
   obtain ⟨b46,o46,cap46,row46,T46,fr46,cs46,hv46,hb46,hs46,hE46⟩:=hr.c.get ((ptI l j)[p]).toNat (by omega)
   obtain ⟨vb46,rfl,hvb46⟩:=hE46
   refine JLq (pp b46 (o46+((ptI l j)[p]).toNat*1)) (Pu.idx ((ptI l j)[p]).toNat RF YL hv46 rfl (by first | rfl | omega) (by omega))<|JLr (Zc YL rfl (ZcN hb46) (ZP hs46)<|JLq (.func (.func 126) ⟨[]⟩ ⟨[pp b1 0,pp b27 0]⟩) (Pu.makeFunc rfl rfl)<|Jc call125 rfl (fun hin=>Hi 126 [] _ call126 (fun c=>tk.getD c.toNat false||decide (c∈ptI l j)) _ _ _ (RIs.mono (Hle.hu _ _) hvb46) (fun a ha h hh=>by have hcx:=TR hm (i:=((ptI l j)[p]).toNat) (x:=((Xu (mkL l))[((ptI l j)[p]).toNat])[a]) (by rw [hcn];exact getElem_mem ha);exact AY _ tk _ _ _ _ h (hh _ _ (hin 2 _ rfl _ _ mem_cons_self)) htk (hh _ _ (hin 0 _ rfl _ _ mem_cons_self)) (RIs.mono hh (Yr ho26 (by omega) (hin 1 _ rfl))) hcx.1 (by omega))) rfl ?_)
   rintro _ _ ⟨rfl,rfl⟩
   refine JLn (Pu.not rfl)<|Za<|Zt rfl (fun h48=>?_) (fun h48=>?_)
   ·replace h48:=nt h48
    refine ZC _ rfl<|Ze<|JLn (ZcP rfl rfl (by omega))<|JLM rfl<|Za<|⟨_,?_,(j+1),Zp rfl,(Sd (Sd (Sk (Sk (Sk Sub.nil))))),?_,?_,rfl⟩
    ·omega
    ·omega
    intro a ha;by_cases h1:a<j;exact hno a h1;(obtain rfl:a=j:=by omega);exact AR h44n (by unfold clOK;rw [hcn];simpa using h48)
   replace h48:=nf h48
   refine Zo<|Ze<|JLn (ZcP rfl rfl (by omega))<|JLM rfl<|Za<|⟨_,?_,(p+1),Zp rfl,(Sk (Sk (Sk (Sk (Sk Sub.nil))))),?_,?_,rfl⟩
   ·omega
   ·omega
   intro k hk;rw [take_succ_eq_append_getElem h44n,mem_append,mem_singleton] at hk;rcases hk with hk | rfl;exact hck k hk;unfold clOK;rw [hcn];simpa using h48
  have h44n:(ptI l j).length≤p:=by omega
  refine ZC _ rfl<|Zg<|Zd<|JLr (Zc YL rfl (ZcK 0 rfl) rfl ?_)
  obtain ⟨a49,cap49,hv49⟩:=ho26.sl
  rw [Zv] at hv49
  refine JLn (ZcM ZS hv49)<|JLM rfl<|Za<|Zm ?_
  have hgood:goodB l tk j=true:=goodB_iff.2 ⟨(Aj (show j<l.length by omega) (by simpa using h25)).1,(Aj (show j<l.length by omega) (by simpa using h25)).2,Ck hck h44n⟩
  refine ZD (fun k ρ M=>∃ (p2:Nat) (tk2:List Bool),Z7 ρ [(0,pp gb 0),(2,nS),(3,y1),(4,pp b1 0),(5,.bool false),(8,pp b27 0),(16,vf),(17,iv (((frI l).length:Int))),(18,iv ((j:Int))),(52,v26),(53,iv (((ptI l j).length:Int))),(54,iv ((p2:Int)))]=ρ∧Sub [(BX b1 (bls tk2) 93),(BX b27 [v26] 45),k26,q1,q2] M∧p2≤(ptI l j).length∧tk2=Tp tk ((ptI l j).take p2)∧k=(ptI l j).length-p2) _ ⟨0,tk,Zp rfl,(Sub.cons 2 rfl (Sk (Sk (Sk (Sk Sub.nil))))),Nat.zero_le _,rfl,rfl⟩ ?_
  rintro _ ρ50 _ ⟨p2,tk2,e51,hm63,hp2,htk2e,rfl⟩
  obtain ⟨ρ64,rfl⟩:=Zi e51
  clear e51
  refine ZF hm63 ?_
  have htk2:tk2.length=8:=by rw [htk2e,QI];exact htk
  refine Zd<|JLn (Pu.lss rfl rfl)<|Za<|Zg<|ZN rfl (fun h65=>?_) (fun h65=>?_)
  ·have h65n:p2<(ptI l j).length:=by omega
   have hpx2:=T6 (getElem_mem h65n)
   refine Zo<|Zg<|Zm<|Zg<|Ze ?_
   obtain ⟨b66,cap66,row66,hv66,hm66,hs66⟩:=ho26.at (j:=p2) (by rw [Zv];first | assumption | omega)
   rw [Yg _ _ (by omega)] at hs66
   refine JLn (Pu.idx p2 ZS ty3 hv66 rfl rfl (by rw [Zv];first | assumption | omega))<|JLr (Zc ty3 rfl (ZcS 2 rfl hm66) (ZP hs66)<|JAn rfl<|Ze<|JLM rfl<|JLq (pp b1 (0+((ptI l j)[p2]).toNat*1)) (ZcQ ((ptI l j)[p2]).toNat LA ty4 rfl rfl (by first | rfl | omega) (by omega))<|JLr (Zb 0 (vs:=[.bool true]) (l:=bls (tk2.set ((ptI l j)[p2]).toNat true)) ty4 rfl rfl rfl rfl rfl (Zh rfl Zq) (PB (by have hbl:List.length tk2=8:=htk2;omega))<|Za<|Ze<|JLn (ZcP rfl rfl (by omega))<|JLM rfl<|Za ?_))
   refine ⟨_,?_,(p2+1),(tk2.set ((ptI l j)[p2]).toNat true),Zp rfl,(Sk (Sk (Sk (Sk (Sk Sub.nil))))),?_,?_,rfl⟩
   ·omega
   ·omega
   rw [IC _ _ h65n,← htk2e]
  have h65n:(ptI l j).length≤p2:=by omega
  refine ZC _ rfl<|Zd<|JLm y1<|JLr (Zc YL rfl (ZcK 1 rfl) rfl<|JLr (Zj (vs:=[v26]) [[v26]] RF Bh rfl (congr (congrArg List.cons (ZH ho26.one)) rfl) (al1 rfl) rfl (by decide) fun b67 k67 ho67 hk67=>?_))
  have hlens68:∀ e∈([[v26]]:List (List Value)),List.length e=1:=al1 rfl
  have hoks68:∀ e∈([[v26]]:List (List Value)),okc e:=al1 (Zh ho26.one Zq)
  refine JLr (ZA (i:=4) (n:=1) (es':=[[v26]]) RF RF (Or.inl rfl) Bh rfl rfl rfl how (fun F w m=>Src.row (((ZcS 0 rfl (by rw [hk67];exact mem_cons_self))).heap m) (Zx (Zw hlens68))) rfl hlens68 hoks68 (by decide) (by omega) fun v68 k68 ho68=>JLa v68<|Za<|Zd<|JAn rfl<|ZC _ rfl<|Zd<|JLM rfl<|JLq (.bool false) (show Pu _ _ _ (.bool (!true)) from Pu.not rfl)<|Za ?_)
  refine Zt (b:=false) rfl (fun h=>absurd h (by simp)) (fun _=>Zo<|⟨_,?_,(i+1),tk2,(ll++[ptI l j]),v68,k68,(q2++k26),(es++[[v26]]),Zp rfl,(Sd (Sk (Sd (Sub.cons 1 rfl (ZcO (Sub.cons 1 rfl (Sk Sub.nil))))))),?_,?_,?_,rfl⟩)
  ·have z:=QD (s:=(tk,ll)) (by omega) htk (show j<l.length by omega) hgood;rw [htk2e,take_of_length_le h65n];exact z
  ·rw [runP,hst,Vu (show j<l.length by omega) hgood hno,htk2e,take_of_length_le h65n]
  ·exact ho68
  exact hos.snoc ho26 (by omega)
 have h21n:(frI l).length≤j:=by omega
 refine ZC _ rfl<|Zd<|JLM rfl<|JLq (.bool true) (show Pu _ _ _ (.bool (!false)) from Pu.not rfl)<|Za<|Zt (b:=true) rfl (fun _=>?_) (fun h=>absurd h (by simp))
 refine Zd<|JLm y1<|JLa y1<|Za<|ZE y1 [q1++q2] (ZcO (Sd (Sk (Sk Sub.nil)))) (?_)
 have hfix:stepP l (runP l i)=runP l i:=Ux fun a ha=>by rw [hst];exact hno a (by omega)
 exact ⟨_,rfl,by rw [G6 (by omega) hfix,hst];exact OII.mk how hos (by show ll.length≤1000000;omega)⟩
set_option maxHeartbeats 4000000 in
theorem FU (l:List Tm) (hg:okG l) (hm:okG (mkL l)) (gb:Nat) (vm vc vf ff:Value) (hff:ff.oneCell'=true) (W:List Int→Bool) (hW:okW l W) (g:Nat) (fs cv:List Value) (hcall:∀ args w,(callFunc g args).run prog w=.ok (.enter g args) w) (H:Heap) (hGK:GK H) (hr:GR H l vm vc vf) (hw:∀ (j:Nat) (hj:j<(paL l).length) (u:Value) (h:Heap),Hle H h→Hs.rdS RI 1 h u (paL l)[j]→CT prog g ⟨fs++[u]++cv⟩ [] h (fun v N=>v=.bool (W (paL l)[j])∧N=[])):CT prog 52 ⟨[pp gb 0,.func (.func g) ⟨fs⟩ ⟨cv⟩]⟩ [(BX gb [vm,vc,vf,ff] 91)] H (fun v N=>∃ mv kk f2,v=.tuple ⟨[mv,iv (if knE l W=true then 11 else 0)]⟩∧N=[(BX gb [vm,vc,vf,f2] 91),kk]∧f2.oneCell'=true∧(knE l W=false→∃ r,mv=.map (some r)∧kk=gmC iV smV r (knW l W (paL l).length) (dgF l))):=by
 have hpl8:=AX hg
 have hml:=ZQ l
 have hm8:=hm.hi
 refine Zl func52 rfl rfl<|Zd<|JLa ((.map none))<|JAn rfl<|Zd<|JLr (TT iV smV (dgF l) fun r1=>JAn rfl<|Zg<|Zg ?_)
 refine Ze<|JLM rfl<|Jc call81 rfl (fun hin=>G5 l hm gb vm vc vf ff _ (hin 1 _ rfl _ _ mem_cons_self) (GR.mono (Hle.hu _ _) hr) hff) rfl ?_
 rintro v2 _ ⟨k2,rfl,ho2⟩
 obtain ⟨a2,cap2,hv2⟩:=ho2.sl;subst hv2
 refine JLn (ZcM RF rfl)<|JLM rfl<|Za<|U2 (i:=0) rfl ?_
 intro H hh hkH
 have hpa:=ho2.rd hkH
 have hr:=GR.mono hh hr
 have hGK:=GK.mono hh hGK
 have hw:=fun j hj u h (hle:Hle H h)=>hw j hj u h (Hle.trans hh hle)
 refine Zm<|ZD (fun k ρ M=>∃ (j:Nat) (K:List Int) (f2:Value),Z7 ρ [(0,pp gb 0),(1,.func (.func g) ⟨fs⟩ ⟨cv⟩),(4,(.map none)),(5,iv 0),(6,.map (some r1)),(15,.slice a2 (paL l).length cap2),(16,iv (((paL l).length:Int))),(17,iv ((j:Int)))]=ρ∧Sub [(BX gb [vm,vc,vf,f2] 91),gmC iV smV r1 K (dgF l)] M∧j≤(paL l).length∧K=knW l W j∧(∀ n∈K,X5 (Ye (mkL l) n.toNat)=0)∧f2.oneCell'=true∧k=(paL l).length-j) _ ⟨0,[],ff,Zp rfl,(Sub.cons 1 rfl (Sk Sub.nil)),Nat.zero_le _,(by unfold knW;simp),(fun n hn=>absurd hn (by simp)),hff,rfl⟩ ?_
 rintro _ ρ3 _ ⟨j,K,f2,e4,hm12,hj,hK,hne,hf2,rfl⟩
 obtain ⟨ρ13,rfl⟩:=Zi e4
 clear e4
 refine ZF hm12<|Zd<|JLn (Pu.lss rfl rfl)<|Za<|Zg<|ZN rfl (fun h14=>?_) (fun h14=>?_)
 ·have h14n:j<(paL l).length:=by omega
  refine Zo<|Zg<|Zm<|Zg<|Ze ?_
  obtain ⟨b15,o15,cap15,row15,T15,fr15,cs15,hv15,hb15,hs15,hE15⟩:=hpa.get j (by omega)
  obtain ⟨vb15,rfl,hvb15⟩:=hE15
  refine JLn (Pu.idx j RF YL hv15 rfl rfl (by omega))<|JLr (Zc YL rfl (ZcN hb15) (ZP hs15)<|JLa vb15<|Za<|Zg<|Zd<|JLM rfl<|JLm vb15<|Jc hcall rfl (fun hin=>hw _ h14n _ _ (Hle.hu _ _) (RIs.mono (Hle.hu _ _) hvb15)) rfl ?_)
  rintro _ _ ⟨rfl,rfl⟩
  refine JLn (Pu.not rfl)<|Za<|Zt rfl (fun h16=>?_) (fun h16=>?_)
  ·replace h16:=nt h16
   refine ZC _ rfl<|Ze<|JLn (ZcP rfl rfl (by omega))<|JLM rfl<|Za<|⟨_,?_,(j+1),K,f2,Zp rfl,(Sk (Sk Sub.nil)),?_,?_,?_,?_,rfl⟩
   ·omega
   ·omega
   ·exact Zac h14n hK (by simpa using h16)
   ·exact hne
   exact hf2
  replace h16:=nf h16
  refine Zo<|Zd<|JLm vb15 ?_
  obtain ⟨a17,cap17,hv17⟩:=hvb15.sl
  have hle17:=hvb15.le
  refine JLn (ZcM ZS hv17)<|JLM rfl<|Za<|Zm<|ZD (fun k ρ M=>∃ (q:Nat) (K2:List Int) (f3:Value),Z7 ρ [(0,pp gb 0),(1,.func (.func g) ⟨fs⟩ ⟨cv⟩),(4,(.map none)),(5,iv 0),(6,.map (some r1)),(15,.slice a2 (paL l).length cap2),(16,iv (((paL l).length:Int))),(17,iv ((j:Int))),(25,vb15),(26,iv ((((paL l)[j]).length:Int))),(27,iv ((q:Int)))]=ρ∧Sub [(BX gb [vm,vc,vf,f3] 91),gmC iV smV r1 K2 (dgF l)] M∧q≤((paL l)[j]).length∧K2=K++((paL l)[j]).take q∧(∀ n∈K2,X5 (Ye (mkL l) n.toNat)=0)∧f3.oneCell'=true∧k=((paL l)[j]).length-q) _ ⟨0,K,f2,Zp rfl,(Sk (Sk Sub.nil)),Nat.zero_le _,(by simp),hne,hf2,rfl⟩ ?_
  rintro _ ρ18 _ ⟨q,K2,f3,e19,hm30,hq,hK2,hne2,hf3,rfl⟩
  obtain ⟨ρ31,rfl⟩:=Zi e19
  clear e19
  refine ZF hm30<|Zd<|JLn (Pu.lss rfl rfl)<|Za<|Zg<|ZN rfl (fun h32=>?_) (fun h32=>?_)
  ·have h32n:q<((paL l)[j]).length:=by omega
   have hql:=h32n
   have hqm:=LX hg h14n h32n
   refine Zo<|Zg<|Zm<|Zg<|Ze ?_
   obtain ⟨b33,o33,cap33,row33,T33,fr33,cs33,hv33,hb33,hs33,hE33⟩:=hvb15.get q (by omega)
   refine JLn (Pu.idx q ZS ty3 hv33 rfl rfl (by omega))<|JLr (Zc ty3 rfl (ZcN hb33) (ZP ((show cs33=[Value.int .i64 (((paL l)[j])[q])] from hE33)▸hs33))<|JAn rfl<|Zd<|JLM rfl<|JLM rfl<|JLM rfl<|Zs 0 rfl call55 rfl rfl (fun hin=>J3 l hg hm gb r1 vm vc vf f3 hf3 (((paL l)[j])[q]) (by omega) (by omega) K2 _ (GR.mono (Hle.hu _ _) hr) (hin 0 _ rfl _ _ mem_cons_self) (Zab hg hW (by omega) hK hK2 hql (by assumption))) rfl ?_)
   rintro _ _ ⟨u34,k34,f34,rfl,rfl,hf34,ho34⟩
   refine JLM rfl<|JLn (Pu.extract rfl rfl)<|JLn (Pu.extract rfl rfl)<|JLa u34<|JAn rfl<|Zg<|Zd<|JLM rfl<|JLn (Pu.neq rfl rfl)<|Za<|Zt rfl (fun h35=>?_) (fun h35=>?_)
   ·replace h35:=nt h35
    replace h35:=df h35
    refine Zd<|JLM rfl<|JLa ((.map none))<|JAn rfl<|Zz<|⟨.tuple ⟨[(.map none),iv (X5 (Ye (mkL l) (firstN l (((paL l)[j])[q]).toNat)))]⟩,[(BX gb [vm,vc,vf,f34] 91),[]],ZcU rfl (RV.tmp rfl) (RV.tmp rfl),(Sd (Sk (ZcL Sub.nil))),?_⟩
    have hbd:=CF hg h14n hql (by simpa using h16:W (paL l)[j]=true) h35
    exact ⟨_,_,_,by rw [hbd.1,hbd.2];rfl,rfl,hf34,fun e=>absurd (hbd.1.symm.trans e) (by decide)⟩
   replace h35:=nf h35
   replace h35:=dt h35
   refine Zo ?_
   have hz0:X5 (Ye (mkL l) (firstN l (((paL l)[j])[q]).toNat))=0:=by omega
   rw [Er hz0] at ho34
   obtain ⟨hlB,hbB⟩:=EF hg (i:=(((paL l)[j])[q]).toNat) (by omega)
   rw [hqm.2.2] at ho34 hlB hbB
   refine Ze<|JLM rfl<|JLM rfl<|JLm u34<|Jc call84 rfl (fun hin=>Je _ _ _ (Sj ho34 (by omega) (hin 1 _ rfl)) hbB (by omega) (GK.mono (Hle.hu _ _) hGK)) rfl ?_
   rintro _ _ ⟨rfl,rfl⟩
   refine JLr (Ui (i:=2) (kV:=iV) (vV:=smV) (K:=K2) (f:=dgF l) (f':=dgF l) (k:=(((paL l)[j])[q])) (Zad underlying3) underlying95 rfl rfl rfl rfl (Zaa hg h14n hK hK2 hql) (fun _ _=>rfl)<|Za<|Ze<|JLn (ZcP rfl rfl (by omega))<|JLM rfl<|Za<|⟨_,?_,(q+1),(K2++[(((paL l)[j])[q])]),f34,Zp rfl,(Sk (Sd (Sk Sub.nil))),?_,?_,?_,?_,rfl⟩)
   ·omega
   ·omega
   ·rw [hK2,take_succ_eq_append_getElem hql,append_assoc]
   ·intro n hn;rw [mem_append,mem_singleton] at hn;rcases hn with hn | rfl;exact hne2 n hn;rw [hqm.2.2] at hz0;exact hz0
   exact hf34
  have h32n:((paL l)[j]).length≤q:=by omega
  refine ZC _ rfl<|Ze<|JLn (ZcP rfl rfl (by omega))<|JLM rfl<|Za<|⟨_,?_,(j+1),K2,f3,Zp rfl,(Sk (Sk Sub.nil)),?_,?_,?_,?_,rfl⟩
  ·omega
  ·omega
  ·exact CD h14n hK (by simpa using h16:W (paL l)[j]=true) hK2 h32n
  ·exact hne2
  exact hf3
 have h14n:(paL l).length≤j:=by omega
 refine ZC _ rfl<|Zd<|JLM rfl<|JLA rfl<|JAn rfl<|Zz<|⟨.tuple ⟨[.map (some r1),iv 0]⟩,[(BX gb [vm,vc,vf,f2] 91),gmC iV smV r1 K (dgF l)],ZcU rfl (RV.tmp rfl) (RV.tmp rfl),(Sd (Sk (Sk Sub.nil))),?_⟩
 have hgd:=FV h14n hK hne
 exact ⟨_,_,_,by rw [hgd.1];rfl,rfl,hf2,fun _=>⟨_,rfl,by rw [hgd.2]⟩⟩
theorem Q3 (l:List Tm) (n:Int) (bP gb:Nat) (vm vc vf ff:Value) (H:Heap) (hP:H bP=some (.cells ⟨[pp gb 0]⟩ 86 (0,0))) (hG:H gb=some (.cells ⟨[vm,vc,vf,ff]⟩ 91 (0,0))) (hf:Hs.rdS RI 1 H vf (frI l)) (h0:0≤n) (h1:n<(l.length:Int)):CT prog 99 ⟨[iv n,pp bP 0]⟩ [] H (fun v N=>v=iv (frF l n)∧N=[]):=by
 have hfl:=Yy l
 refine Zl func99 rfl rfl<|Zd<|JAn rfl<|Zd<|JLr (Zc Qz rfl (ZcN hP) rfl<|JLq (pp gb 0) (Pu.nilCheck rfl)<|JLq (pp gb 2) (UM rfl rfl)<|JLr (Zc YL rfl (ZcN hG) rfl<|JLM rfl ?_))
 obtain ⟨b1,o1,cap1,row1,T1,fr1,cs1,hv1,hb1,hs1,hE1⟩:=hf.get n.toNat (by omega)
 refine JLq (pp b1 (o1+n.toNat*1)) (Pu.idx n.toNat ZS ty3 hv1 rfl (by first | rfl | omega) (by omega))<|JLr (Zc ty3 rfl (ZcN hb1) (ZP ((show cs1=[Value.int .i64 ((frI l)[n.toNat])] from hE1)▸hs1))<|JAn rfl<|ZE (iv ((frI l)[n.toNat])) [] Sub.nil (?_))
 exact ⟨by unfold frF;rw [YO (by rw [Yy];omega)],rfl⟩
theorem VN (l m:List Int) (v u:Value) (H:Heap) (hl:rdS RI 1 H v l) (hm:rdS RI 1 H u m):CT prog 39 ⟨[v,u]⟩ [] H (fun v N=>v=.bool (eqL l m)∧N=[]):=by
 refine Zl func39 rfl rfl<|Zd<|JAn rfl<|Zg<|Zd<|JLm v ?_
 obtain ⟨a1,cap1,hv1⟩:=hl.sl
 have hle1:=hl.le
 refine JLn (ZcM ZS hv1)<|JLm u ?_
 obtain ⟨a2,cap2,hv2⟩:=hm.sl
 have hle2:=hm.le
 refine JLn (ZcM ZS hv2)<|JLn (Pu.neq rfl rfl)<|Za<|Zt rfl (fun h3=>?_) (fun h3=>?_)
 ·replace h3:=nt h3
  replace h3:=df h3
  refine Zd<|JAn rfl<|ZE (.bool false) [] Sub.nil (?_)
  exact ⟨by rw [Oy (fun e=>by subst e;exact absurd rfl h3)],rfl⟩
 replace h3:=nf h3
 replace h3:=dt h3
 refine Zo<|Zg<|Zd<|JLm v ?_
 obtain ⟨a4,cap4,hv4⟩:=hl.sl
 have hle4:=hl.le
 refine JLn (ZcM ZS hv4)<|JLM rfl<|Za<|Zm<|ZD (fun k ρ M=>∃ (j:Nat),Z7 ρ [(0,v),(1,u),(4,.bool false),(12,iv ((l.length:Int))),(13,iv ((j:Int)))]=ρ∧Sub [] M∧j≤l.length∧l.take j=m.take j∧k=l.length-j) _ ⟨0,Zp rfl,Sub.nil,Nat.zero_le _,rfl,rfl⟩ ?_
 rintro _ ρ5 _ ⟨j,e6,hm11,hj,hinv,rfl⟩
 obtain ⟨ρ12,rfl⟩:=Zi e6
 clear e6
 refine ZF hm11<|Zd<|JLn (Pu.lss rfl rfl)<|Za<|Zg<|ZN rfl (fun h13=>?_) (fun h13=>?_)
 ·have h13n:j<l.length:=by omega
  have hlenl:=hl.le
  have hjm:j<m.length:=by omega
  refine Zo<|Zg<|Zm<|Zd<|JLM rfl<|JAn rfl<|Zg<|ZM mixed #[0,0,3,7,0,0,48,112,255] 8 (sm 16 8) [] [] rfl (by kernel_rfl) rfl (by kernel_rfl)<|Dm v<|DM (fun _=>rfl) ?_
  obtain ⟨b16,o16,cap16,row16,T16,fr16,cs16,hv16,hb16,hs16,hE16⟩:=hl.get j (by omega)
  refine Dn (fun _=>Pu.idx j ZS ty3 hv16 rfl rfl (by omega))<|Dl1 ty3 (ZcN hb16) (ZP ((show cs16=[Value.int .i64 (l[j])] from hE16)▸hs16))<|Dm u<|DM (fun _=>rfl) ?_
  obtain ⟨b17,o17,cap17,row17,T17,fr17,cs17,hv17,hb17,hs17,hE17⟩:=hm.get j (by omega)
  refine Dn (fun _=>Pu.idx j ZS ty3 hv17 rfl rfl (by omega))<|Dl1 ty3 (ZcN hb17) (ZP ((show cs17=[Value.int .i64 (m[j])] from hE17)▸hs17))<|ZX (M':=[]) rfl ?_
  show JL _ _ _ [_] _ _ _
  refine JLn (Pu.neq rfl rfl)<|Za<|Zt rfl (fun h18=>?_) (fun h18=>?_)
  ·replace h18:=nt h18
   replace h18:=df h18
   refine Zd<|JAn rfl<|ZE (.bool false) [] Sub.nil (?_)
   exact ⟨by rw [Oy (fun e=>by subst e;exact h18 rfl)],rfl⟩
  replace h18:=nf h18
  replace h18:=dt h18
  refine Zo<|Ze<|JLn (ZcP rfl rfl (by omega))<|JLM rfl<|Za<|⟨_,?_,(j+1),Zp rfl,Sub.nil,?_,?_,rfl⟩
  ·omega
  ·omega
  rw [take_succ_eq_append_getElem h13n,take_succ_eq_append_getElem hjm,hinv,h18]
 have h13n:l.length≤j:=by omega
 refine ZC _ rfl<|Zd<|JAn rfl<|ZE (.bool true) [] Sub.nil (?_)
 exact ⟨by rw [UN (by rw [← take_of_length_le h13n,hinv,take_of_length_le (by omega)])],rfl⟩
theorem HD (x y:Int×Int) (H:Heap):CT prog 123 ⟨[.agg ⟨[iv (x.1),iv (x.2)]⟩,.agg ⟨[iv (y.1),iv (y.2)]⟩]⟩ [] H (fun v N=>v=.bool (decide (x=y))∧N=[]):=by
 refine Zl func123 rfl rfl<|Zd<|JLr (Zr (l:=[iv (x.1),iv (x.2)]) rfl rfl fun b1=>JLr (Zr (l:=[iv (y.1),iv (y.2)]) rfl rfl fun b2=>JAn rfl<|Zd<|JLr (Zn W9 rfl (ZcK 1 rfl) rfl<|JLr (Zn W9 rfl (ZcK 0 rfl) rfl<|JLq (.bool (decide ((x.1,x.2)=(y.1,y.2)))) (ZcH (a:=(x.1,x.2)) (b:=(y.1,y.2)) rfl rfl)<|JLA rfl ?_))))
 refine Za<|ZE (.bool (decide ((x.1,x.2)=(y.1,y.2)))) [] Sub.nil (?_)
 exact ⟨rfl,rfl⟩
set_option maxHeartbeats 4000000 in
theorem OK (l:List Tm) (v:Value) (H:Heap) (hv:Hs.rdS RT 36 H v l) (ok:okG l):CT prog 74 ⟨[v]⟩ [] H (fun r N=>∃ k,N=[k]∧Own 3 1 r (Z2 (frI l)) k):=by
 have hn8:=ok.hi
 have hz:=ok.szs
 refine Zl func74 rfl rfl<|Zd<|JAn rfl<|Zd<|JLr (Zk (l:=[.nilFunc]) zeroValue52 rfl fun b1=>JLr (Zb 0 (vs:=[.func (.func 116) ⟨[]⟩ ⟨[]⟩]) (l:=[.func (.func 116) ⟨[]⟩ ⟨[]⟩]) LK rfl rfl rfl rfl rfl (Zh rfl Zq) rfl<|Za<|Zd<|JLm v ?_))
 refine JLq (.func (.func 119) ⟨[]⟩ ⟨[pp b1 0]⟩) (Pu.makeFunc rfl rfl)<|Jc call118 rfl (fun hin=>Ki _ [] _ call119 (fun i j=>decide (blP (atL l i)=blP (atL l j))) l _ _ (RTs.mono (Hle.hu _ _) hv) (by omega) (fun i j hi hj a b h hh ra rb=>by rw [YK hi,YK hj];exact (fun i j hi hj a b h hh ra rb=>by have:=YR _ (getElem_mem hi);have:=YR _ (getElem_mem hj);exact HE l.length _ _ _ _ _ _ ra rb (by omega) (by omega) (Sn ok hi) (Sn ok hj) (hh _ _ (hin 0 _ rfl _ _ mem_cons_self))) i j hi hj a b h hh ra rb)) rfl ?_
 rintro v2 _ ⟨k2,rfl,ho2⟩;rw [Hf ok] at ho2
 refine JLa v2<|Za<|Zm<|ZD (fun k ρ M=>∃ (n:Nat) (y1:Value) (q1:Zf),Z7 ρ [(0,v),(2,nS),(4,y1)]=ρ∧Sub [q1,(BX b1 [.func (.func 116) ⟨[]⟩ ⟨[]⟩] 52)] M∧Own 3 1 y1 (Z2 (rnI l n)) q1∧k=l.length*l.length-Vs (rnI l n)) _ ⟨0,v2,k2,Zp rfl,(Sk (Sk Sub.nil)),ho2,rfl⟩ ?_
 rintro _ ρ3 _ ⟨n,y1,q1,e4,hm7,how1,rfl⟩
 obtain ⟨ρ8,rfl⟩:=Zi e4
 clear e4
 refine ZF hm7 ?_
 have hlo:=O9 l n
 have hog:=fun i (hi:i<l.length)=>Na ok.ok n hi
 refine Zm<|Zd<|JLm v ?_
 obtain ⟨a9,cap9,hv9⟩:=hv.sl
 have hle9:=hv.le
 refine JLn (ZcM ZI hv9)<|JLr (Uj l.length ON Zb2 rfl rfl rfl rfl (by omega) (by omega) fun v10 k10 ho10=>JLa v10<|Za<|Zd<|JLr (TT clV iV (Uo (l.length:Int) ([])) fun r11=>JAn rfl<|Zg<|Zd<|JLm v ?_))
 obtain ⟨a12,cap12,hv12⟩:=hv.sl
 have hle12:=hv.le
 refine JLn (ZcM ZI hv12)<|JLM rfl<|Za<|Zm<|ZD (fun k ρ M=>∃ (j:Nat) (q2:Zf) (K:List (Int×Int)) (ws:List Int),Z7 ρ [(0,v),(2,nS),(4,y1),(5,v10),(6,.map (some r11)),(22,v),(23,iv ((l.length:Int))),(24,iv ((j:Int)))]=ρ∧Sub [q1,q2,gmC clV iV r11 K (Uo (l.length:Int) K),(BX b1 [.func (.func 116) ⟨[]⟩ ⟨[]⟩] 52)] M∧j≤l.length∧Own 166 2 v10 (clE ws l.length) q2∧W7 (l.length:Int) (rnI l n) (fun i=>sfP (atL l i)) j=(K,ws)∧k=l.length-j) _ ⟨0,k10,[],[],Zp rfl,(Sub.cons 2 rfl (Sub.cons 1 rfl (Sk (Sk Sub.nil)))),Nat.zero_le _,ho10,rfl,rfl⟩ ?_
 rintro _ ρ13 _ ⟨j,q2,K,ws,e14,hm22,hj,how2,hkw,rfl⟩
 obtain ⟨ρ23,rfl⟩:=Zi e14
 clear e14
 refine ZF hm22 ?_
 have hlen:=hv.le
 have hkl:=OJ (l.length:Int) (rnI l n) (fun i=>sfP (atL l i)) (fun i=>sizeTs (l.take i)) (fun i=>Zbk l i) j
 have hkz:=RJ l j
 have hwl:=VV (l.length:Int) (rnI l n) (fun i=>sfP (atL l i)) j
 rw [hkw] at hkl hwl
 simp only at hkl hwl
 refine Zd<|JLn (Pu.lss rfl rfl)<|Za<|Zg<|ZN rfl (fun h24=>?_) (fun h24=>?_)
 ·have h24n:j<l.length:=by omega
  have hz1:=T0 h24n
  refine Zo<|Zg<|Zm<|Zd<|JLM rfl ?_
  obtain ⟨b25,o25,cap25,row25,T25,fr25,cs25,hv25,hb25,hs25,hE25⟩:=hv.get j (by omega)
  refine JLn (Pu.idx j ZI Zu hv25 rfl rfl (by omega))<|JLr (Zn Zu rfl (ZcN hb25) hs25<|JLr (Zk (l:=pkT 0 0 zS nS nS) zeroValue51 rfl fun b26=>JLA rfl<|JLr (Zb 0 (vs:=cs25) (l:=cs25) Zu rfl rfl rfl rfl (Zy hE25) (Y5 hE25) (ZY (n:=36) rfl (Zy hE25))<|Za<|Zd<|JLm y1<|JLM rfl ?_)))
  obtain ⟨b27,cap27,row27,hv27,hm27,hs27⟩:=how1.at (j:=j) (by rw [Zv];first | assumption | omega)
  rw [Yg _ _ (by omega)] at hs27
  refine JLn (Pu.idx j ZS ty3 hv27 rfl rfl (by rw [Zv];first | assumption | omega))<|JLr (Zc ty3 rfl (ZcS 1 rfl hm27) (ZP hs27)<|JLq (.agg ⟨[iv ((rnI l n)[j]),iv 0]⟩) (Pu.build (pv:=[(0,iv ((rnI l n)[j]))]) (l:=[iv ((rnI l n)[j]),iv 0]) rfl (Ll _))<|JLr (Zk (l:=[iv 0,iv 0]) zeroValue166 rfl fun b28=>JLr (Zb 0 (vs:=[iv ((rnI l n)[j]),iv 0]) (l:=[iv ((rnI l n)[j]),iv 0]) W9 rfl rfl rfl rfl rfl (Zh rfl (Zh rfl Zq)) rfl<|Za<|Zg<|Zd<|JLr (Zn Zu rfl (ZcK 1 rfl) (Zx (Zy hE25))<|Jc call121 rfl (fun hin=>Rd _ _ _ (RT.mono (Hle.hu _ _) hE25) (by have:=YR _ (getElem_mem h24n);omega)) rfl ?_))))
  rintro v29 _ ⟨k29,rfl,ho29⟩
  obtain ⟨a30,cap30,hv30⟩:=ho29.sl
  rw [Zv] at hv30
  refine JLn (ZcM ZS hv30)<|JLM rfl<|Za<|Zm<|ZD (fun k ρ M=>∃ (p:Nat) (m:List (Int×Int)×Int) (cb:Int),Z7 ρ [(0,v),(2,nS),(4,y1),(5,v10),(6,.map (some r11)),(7,iv ((j:Int))),(9,pp b28 0),(22,v),(23,iv ((l.length:Int))),(24,iv ((j:Int))),(35,v29),(36,iv (((sfP (l[j])).length:Int))),(37,iv ((p:Int)))]=ρ∧Sub [gmC clV iV r11 (m.1) (Uo (l.length:Int) (m.1)),(BX b28 [iv (m.2),iv cb] 166),q1,q2,k29,(BX b26 cs25 51),(BX b1 [.func (.func 116) ⟨[]⟩ ⟨[]⟩] 52)] M∧p≤(sfP (l[j])).length∧m=V8 (l.length:Int) (rnI l n) (K,(rnI l n)[j]) ((sfP (l[j])).take p)∧k=(sfP (l[j])).length-p) _ ⟨0,(K,(rnI l n)[j]),0,Zp rfl,(Sub.cons 5 rfl (Sub.cons 1 rfl (Sub.cons 2 rfl (Sub.cons 2 rfl (Sk (Sk (Sk Sub.nil))))))),Nat.zero_le _,rfl,rfl⟩ ?_
  rintro _ ρ31 _ ⟨p,m,cb,e32,hm45,hp,hm2,rfl⟩
  obtain ⟨ρ46,rfl⟩:=Zi e32
  clear e32
  refine ZF hm45 ?_
  have hml:=MD (l.length:Int) (rnI l n) ((sfP (l[j])).take p) (K,(rnI l n)[j])
  rw [← hm2,length_take] at hml
  simp only at hml
  have hsl:=Qb l[j]
  refine Zd<|JLn (Pu.lss rfl rfl)<|Za<|Zg<|ZN rfl (fun h47=>?_) (fun h47=>?_)
  ·have h47n:p<(sfP (l[j])).length:=by omega
   have hnp:=AD ok h24n (getElem_mem h47n)
   have hop:=hog _ (show ((sfP (l[j]))[p]).toNat<l.length from by omega)
   refine Zo<|Zg<|Zm<|Zg<|Ze ?_
   obtain ⟨b48,cap48,row48,hv48,hm48,hs48⟩:=ho29.at (j:=p) (by rw [Zv];first | assumption | omega)
   rw [Yg _ _ (by omega)] at hs48
   refine JLn (Pu.idx p ZS ty3 hv48 rfl rfl (by rw [Zv];first | assumption | omega))<|JLr (Zc ty3 rfl (ZcS 4 rfl hm48) (ZP hs48)<|JAn rfl<|Zd<|JLm y1<|JLM rfl ?_)
   obtain ⟨b49,cap49,row49,hv49,hm49,hs49⟩:=how1.at (j:=((sfP (l[j]))[p]).toNat) (by rw [Zv];first | assumption | omega)
   rw [Yg _ _ (by omega)] at hs49
   rw [← (show (rnI l n).getD (((sfP (l[j]))[p]).toNat) 0=(rnI l n)[((sfP (l[j]))[p]).toNat] from YO (by omega))] at hs49
   refine JLq (pp b49 (0+((sfP (l[j]))[p]).toNat*1)) (Pu.idx ((sfP (l[j]))[p]).toNat ZS ty3 hv49 rfl (by first | rfl | omega) (by rw [Zv];first | assumption | omega))<|JLr (Zc ty3 rfl (ZcS 2 rfl hm49) (ZP hs49)<|JLn (ZcV rfl rfl (by first | omega | (constructor <;> omega)))<|JLq (pp b28 1) (C7 rfl rfl)<|JLr (Zb 1 (vs:=[iv (((rnI l n).getD ((sfP (l[j]))[p]).toNat 0)+1)]) (l:=[iv (m.2),iv (((rnI l n).getD ((sfP (l[j]))[p]).toNat 0)+1)]) ty3 rfl rfl rfl rfl rfl (Zh rfl Zq) rfl<|Za<|Zd<|JLM rfl<|JLr (Zn W9 rfl (ZcK 1 rfl) rfl<|JLr (Tu (i:=0) (kV:=clV) (vV:=iV) (K:=m.1) (f:=Uo (l.length:Int) (m.1)) (k:=(m.2,((rnI l n).getD ((sfP (l[j]))[p]).toNat 0)+1)) 0 ZbR underlying164 zeroValue3 rfl rfl rfl<|JLM rfl<|JLn (Pu.extract rfl rfl) ?_))))
   refine JLn (Pu.extract rfl rfl)<|JLA rfl<|JAn rfl<|Zg<|Zd<|JLM rfl<|JLn (Pu.not rfl)<|Za<|Zt rfl (fun h50=>?_) (fun h50=>?_)
   ·replace h50:=nt h50
    replace h50:=df h50
    refine Zd<|JLm v ?_
    obtain ⟨a51,cap51,hv51⟩:=hv.sl
    have hle51:=hv.le
    refine JLn (ZcM ZI hv51)<|JLM rfl<|JLr (HH (i:=0) (K:=m.1) (f:=Uo (l.length:Int) (m.1)) runUnderlying164 rfl rfl<|JLn (ZcV rfl rfl (by first | omega | (constructor <;> omega)))<|JAn rfl<|Ze<|JLM rfl<|JLr (Zn W9 rfl (ZcK 1 rfl) rfl<|JLM rfl<|JLr (Ui (i:=0) (kV:=clV) (vV:=iV) (K:=m.1) (f:=Uo (l.length:Int) (m.1)) (f':=Uo (l.length:Int) (m.1++[(m.2,((rnI l n).getD ((sfP (l[j]))[p]).toNat 0)+1)])) (k:=(m.2,((rnI l n).getD ((sfP (l[j]))[p]).toNat 0)+1)) ZbR underlying164 rfl rfl (congrArg iV (Fp (by simpa using h50)).symm) rfl (by simpa using h50) Fm<|Za<|Ze ?_)))
    refine JLM rfl<|JLq (pp b28 0) (Nw rfl rfl)<|JLr (Zb 1 (vs:=[iv ((l.length:Int)+(((m.1).length:Int)))]) (l:=[iv ((l.length:Int)+(((m.1).length:Int))),iv (((rnI l n).getD ((sfP (l[j]))[p]).toNat 0)+1)]) ty3 rfl rfl rfl rfl rfl (Zh rfl Zq) rfl<|Za<|Ze<|JLn (ZcP rfl rfl (by omega))<|JLM rfl<|Za<|⟨_,?_,(p+1),(m.1++[(m.2,((rnI l n).getD ((sfP (l[j]))[p]).toNat 0)+1)],(l.length:Int)+(((m.1).length:Int))),(((rnI l n).getD ((sfP (l[j]))[p]).toNat 0)+1),Zp rfl,(Sk (Sk (Sk (Sk (Sk (Sk (Sk Sub.nil))))))),?_,?_,rfl⟩)
    ·omega
    ·omega
    rw [Ro _ _ _ h47n,← hm2];obtain ⟨mK,ma⟩:=m;exact (Iu (by simpa using h50)).symm
   replace h50:=nf h50
   replace h50:=dt h50
   refine Zo<|Ze<|JLM rfl<|JLq (pp b28 0) (Nw rfl rfl)<|JLr (Zb 1 (vs:=[iv (if (m.2,((rnI l n).getD ((sfP (l[j]))[p]).toNat 0)+1)∈m.1 then (Uo (l.length:Int) (m.1)) (m.2,((rnI l n).getD ((sfP (l[j]))[p]).toNat 0)+1) else 0)]) (l:=[iv (if (m.2,((rnI l n).getD ((sfP (l[j]))[p]).toNat 0)+1)∈m.1 then (Uo (l.length:Int) (m.1)) (m.2,((rnI l n).getD ((sfP (l[j]))[p]).toNat 0)+1) else 0),iv (((rnI l n).getD ((sfP (l[j]))[p]).toNat 0)+1)]) ty3 rfl rfl rfl rfl rfl (Zh rfl Zq) rfl<|Za<|Ze<|JLn (ZcP rfl rfl (by omega))<|JLM rfl<|Za<|⟨_,?_,(p+1),(m.1,if (m.2,((rnI l n).getD ((sfP (l[j]))[p]).toNat 0)+1)∈m.1 then (Uo (l.length:Int) (m.1)) (m.2,((rnI l n).getD ((sfP (l[j]))[p]).toNat 0)+1) else 0),(((rnI l n).getD ((sfP (l[j]))[p]).toNat 0)+1),Zp rfl,(Sk (Sk (Sk (Sk (Sk (Sk (Sk Sub.nil))))))),?_,?_,rfl⟩)
   ·omega
   ·omega
   rw [Ro _ _ _ h47n,← hm2];obtain ⟨mK,ma⟩:=m;exact (ZaX (by simpa using h50)).symm
  have h47n:(sfP (l[j])).length≤p:=by omega
  refine ZC _ rfl<|Ze<|JLm v10<|JLM rfl<|JLq (pp b28 0) (Nw rfl rfl)<|JLr (Zc ty3 rfl (ZcK 1 rfl) rfl<|JLq (.agg ⟨[iv (m.2),iv 0]⟩) (Pu.build (pv:=[(0,iv (m.2))]) (l:=[iv (m.2),iv 0]) rfl (Ll _)) ?_)
  obtain ⟨b52,cap52,row52,hv52,hm52,hs52⟩:=how2.at (j:=j) (by rw [Qo (by omega)];omega)
  refine JLn (Pu.idx j ON W9 hv52 rfl rfl (by rw [Qo (by omega)];omega))<|JLr (Y7 (i:=3) (j:=j) (b:=b52) W9 rfl how2 ⟨_,_,hv52⟩ rfl (by rw [Qo (by omega)];omega) rfl rfl rfl (Zh rfl (Zh rfl Zq)) fun k53 ho53=>Za<|Ze<|JLn (ZcP rfl rfl (by omega))<|JLM rfl<|Za<|⟨_,?_,(j+1),k53,(m.1),(ws++[m.2]),Zp rfl,(Sub.cons 2 rfl (Sub.cons 2 rfl (Sk (Sd (Sd (Sd (Sk Sub.nil))))))),?_,?_,?_,rfl⟩)
  ·omega
  ·omega
  ·have z:=ho53;rw [Bt hwl h24n] at z;exact z
  exact ZcJ hkw h24n hlo hm2 h47n
 have h24n:l.length≤j:=by omega
 refine ZC _ rfl<|Zd<|JLm v10 ?_
 have hjl:j=l.length:=by omega
 refine Jc call122 rfl (fun hin=>Kj _ [] [] call123 (fun i j=>decide (ws.getD i 0=ws.getD j 0)) _ _ _ (ZaF how2 (hwl.trans hjl) (by omega) (hin 1 _ rfl)) (by rw [length_map];omega) (fun i j hi hj a b h hh ra rb=>by unfold RK at ra rb;subst ra rb;refine CT.mono (HD _ _ _) fun v N q=>?_;rw [ZaC hi hj] at q;exact q)) rfl ?_
 rintro v54 _ ⟨k54,rfl,ho54⟩;rw [ZaY ok hkw hjl] at ho54
 refine JLa v54<|Za<|Zg<|Zd<|JLm v54<|JLm y1<|Jc call39 rfl (fun hin=>VN _ _ _ _ _ (Yr ho54 (by rw [O9];omega) (hin 0 _ rfl)) (Yr how1 (by rw [O9];omega) (hin 1 _ rfl))) rfl ?_
 rintro _ _ ⟨rfl,rfl⟩
 refine Za<|Zt rfl (fun h55=>?_) (fun h55=>?_)
 ·refine Zd<|JLm y1<|JLa y1<|Za<|ZE y1 [q1] (Sd (Sk Sub.nil)) (?_)
  exact ⟨_,rfl,by rw [← D7 ok.ok (n:=n) (by simpa [eqL] using h55)];exact how1⟩
 refine Zo<|Ze<|JLm v54<|JLa v54<|Za<|⟨_,?_,(n+1),v54,k54,Zp rfl,(Sk (Sd (Sd (Sd (Sk Sub.nil))))),?_,rfl⟩
 ·have h1:=GQ ok.ok (n:=n) (by simpa [eqL] using h55);have h2:=D6 l (n+1);omega
 exact ho54
set_option maxHeartbeats 4000000 in
theorem U9 (l:List Tm) (v:Value) (H:Heap) (hv:Hs.rdS RT 36 H v l) (ok:okG l):CT prog 50 ⟨[v]⟩ [] H (fun v N=>∃ g k vm vc vf,v=pp g 0∧N=[(BX g [vm,vc,vf,.nilFunc] 91),k]∧GO l vm vc vf k):=by
 have hn8:=ok.hi
 have hln:=XR l
 have hz:=ok.szs
 refine Zl func50 rfl rfl<|Zd<|JLa ((.pointer none))<|Za<|Zd<|JLm v<|Jc call74 rfl (fun hin=>OK l _ _ (RTs.mono (Hle.hu _ _) hv) ok) rfl ?_
 rintro v1 _ ⟨k1,rfl,ho1⟩
 refine JLq (.agg ⟨[nS,nS,v1,.nilFunc]⟩) (Pu.build (pv:=[(1,v1)]) (l:=[nS,nS,v1,.nilFunc]) rfl (Zcd ho1.one))<|JLr (Zr (l:=[nS,nS,v1,.nilFunc]) rfl rfl fun b2=>JLr (Zk (l:=[.pointer none]) zeroValue86 rfl fun b3=>JLr (Zb 0 (vs:=[pp b2 0]) (l:=[pp b2 0]) Qz rfl rfl rfl rfl rfl (Zh rfl Zq) rfl<|Za<|Zg<|Zd<|JLm v ?_)))
 obtain ⟨a4,cap4,hv4⟩:=hv.sl
 have hle4:=hv.le
 refine JLn (ZcM ZI hv4)<|JLM rfl<|Za<|Zm<|ZD (fun k ρ M=>∃ (j:Nat) (y1:Value) (q1 q2:Zf) (es:List (List Value)),Z7 ρ [(0,v),(2,(.pointer none)),(3,pp b3 0),(10,iv ((l.length:Int))),(11,iv ((j:Int)))]=ρ∧Sub [(BX b2 [y1,nS,v1,.nilFunc] 91),q1,q2,k1,(BX b3 [pp b2 0] 86)] M∧j≤l.length∧Own 51 36 y1 es q1∧OTs ((mkL l).take j) es q2∧k=l.length-j) _ ⟨0,nS,[],[],[],Zp rfl,(Sub.cons 1 rfl (ZcL (ZcL (Sub.cons 1 rfl (Sk Sub.nil))))),Nat.zero_le _,Own.nil,⟨rfl,rfl⟩,rfl⟩ ?_
 rintro _ ρ5 _ ⟨j,y1,q1,q2,es,e6,hm11,hj,how,hos,rfl⟩
 obtain ⟨ρ12,rfl⟩:=Zi e6
 clear e6
 refine ZF hm11 ?_
 have hlen:=hv.le
 have hel:=YH hos
 rw [length_take,ZQ] at hel
 refine Zd<|JLn (Pu.lss rfl rfl)<|Za<|Zg<|ZN rfl (fun h13=>?_) (fun h13=>?_)
 ·have h13n:j<l.length:=by omega
  have hfl:=Yy l
  have hfe:(frI l)[j]=(firstN l j:Int):=WA h13n
  have hfn:=Ya h13n
  have hfj:((frI l)[j]).toNat<l.length:=by omega
  refine Zo<|Zg<|Zm<|Zd<|JLM rfl<|JAn rfl<|Zg<|ZaW mixed (EE rfl (by kernel_rfl) (by kernel_rfl) (by kernel_rfl) (by kernel_rfl) (by kernel_rfl)) ?_ ?_
  ·refine JLr (Zk (l:=[.bool false]) zeroValue4 rfl fun b14=>JLr (Zb 0 (vs:=[.bool true]) (l:=[.bool true]) ty4 rfl rfl rfl rfl rfl (Zh rfl Zq) rfl<|JLr (Zb 0 (vs:=[.bool false]) (l:=[.bool false]) ty4 rfl rfl rfl rfl rfl (Zh rfl Zq) rfl<|JLr (Zc ty4 rfl (ZcK 0 rfl) rfl<|Za<|Zt (b:=false) rfl (fun h=>absurd h (by simp)) (fun _=>ZM mixed #[0,0,2,6,14,30,0,0,128,384,896,0,3968,8064,16320,32704,0,131008,262080,524286,1048575,2097151,4194303,8388607] 20 (sm 40 20) [(19,22)] [(17,fun _ _ vw qw=>∃ cs k,vw=.agg ⟨cs⟩∧qw=[k]∧OT (mpT (nmD (frF l)) (l[((frI l)[j]).toNat])) cs k),(18,fun r _ vw qw=>∃ b k,vw=.slice (some ⟨b,0,none⟩) 1 1∧qw=[k]∧Own 51 36 (.slice (some ⟨b,0,none⟩) 1 1) [(cel (r 17))] k∧k=(BX b (flatten [(cel (r 17))]) 51)),(19,fun r _ vw qw=>∃ k,qw=[k]∧Own 51 36 vw (es++[(cel (r 17))]) k)] rfl (by kernel_rfl) rfl (by kernel_rfl)<|Dl1 Qz (ZcK 4 rfl) rfl<|Dl1 Qz (ZcK 5 rfl) rfl<|Dq (pp b2 0) (fun _=>Pu.nilCheck rfl)<|Dq (pp b2 0) (fun _=>Vo rfl rfl)<|Dq (pp b2 0) (fun _=>TN rfl rfl)<|Dl1 XE (ZcK 1 rfl) rfl ?_)))))
   refine Dm v<|Dl1 Qz (ZcK 5 rfl) rfl<|Dq (pp b2 0) (fun _=>Pu.nilCheck rfl)<|Dq (pp b2 2) (fun _=>UM rfl rfl)<|Dl1 YL (ZcK 1 rfl) rfl<|DM (fun _=>rfl) ?_
   obtain ⟨b20,cap20,row20,hv20,hm20,hs20⟩:=ho1.at (j:=j) (by rw [Zv];first | assumption | omega)
   rw [Yg _ _ (by omega)] at hs20
   refine Dn (fun _=>Pu.idx j ZS ty3 hv20 rfl rfl (by rw [Zv];first | assumption | omega))<|Dl1 ty3 (ZcS 4 rfl hm20) (ZP hs20) ?_
   obtain ⟨b21,o21,cap21,row21,T21,fr21,cs21,hv21,hb21,hs21,hE21⟩:=hv.get ((frI l)[j]).toNat (by omega)
   refine Dq (pp b21 (o21+((frI l)[j]).toNat*36)) (fun _=>Pu.idx ((frI l)[j]).toNat ZI Zu hv21 rfl (by first | rfl | omega) (by omega))<|Dl Zu (ZcN hb21) hs21<|Dq (.func (.func 99) ⟨[]⟩ ⟨[pp b3 0]⟩) (fun _=>Pu.makeFunc rfl rfl) ?_
   refine Dc rfl call98 (fun _=>rfl) (fun hin=>UF (frF l) l.length (fun n h0 h1=>by have:=Rs h0 h1;unfold inI;omega) _ [] _ call99 _ _ _ (RT.mono (Hle.hu _ _) hE21) (by have:=YR _ (getElem_mem hfj);omega) (Sn ok hfj) (fun n h hh h0 h1=>Q3 l n _ _ _ _ _ _ h (hh _ _ (hin 5 _ rfl _ _ mem_cons_self)) (hh _ _ (hin 1 _ rfl _ _ mem_cons_self)) (RIs.mono hh (Yr ho1 (by rw [Yy];omega) (hin 4 _ rfl))) h0 h1)) ?_
   rintro _ _ ⟨cs22,k22,rfl,rfl,hO22⟩
   refine Dr rfl (fun _=>Zj (vs:=[.agg ⟨cs22⟩]) [cs22] ZI YM rfl rfl (al1 hO22.len) rfl (by decide) fun b k h1 h2=>⟨[k],by rw [Yd rfl];exact Sub.refl,b,k,rfl,rfl,h1,h2⟩) (fun _ _ ⟨b23,k23,e1,e2,ho23,hk23⟩=>?_);subst e1 e2
   have hlens24:∀ e∈([cs22]:List (List Value)),List.length e=36:=al1 hO22.len
   have hoks24:∀ e∈([cs22]:List (List Value)),okc e:=al1 hO22.ok
   refine Dr rfl (fun _=>ZA (i:=4) (n:=1) (es':=[cs22]) ZI ZI (Or.inl rfl) YM rfl rfl rfl how (fun F w m=>Src.row (((ZcS 0 rfl (by rw [hk23];exact mem_cons_self))).heap m) (Zx (Zw hlens24))) rfl hlens24 hoks24 (by decide) (by omega) fun v k h1=>⟨[k],ZbS rfl rfl,k,rfl,h1⟩) ?_;rintro v24 _ ⟨k24,rfl,ho24⟩
   refine ZX (M':=[k24,k23,k22,(BX b14 [.bool false] 4),(BX b2 [y1,nS,v1,.nilFunc] 91),q2,k1,(BX b3 [pp b2 0] 86)]) rfl ?_
   show JL _ _ _ [_,_,_,_] _ _ _
   refine JLq (pp b2 0) (Pu.nilCheck rfl)<|JLq (pp b2 0) (Vo rfl rfl)<|JLq (pp b2 0) (TN rfl rfl)<|JLr (Zb 4 (vs:=[v24]) (l:=[v24,nS,v1,.nilFunc]) XE rfl rfl rfl (ZH ho24.one) rfl (Zh ho24.one Zq) rfl<|Za<|Ze<|JLn (ZcP rfl rfl (by omega))<|JLM rfl<|Za<|⟨_,?_,(j+1),v24,k24,(q2++k22),(es++[cs22]),Zp rfl,(Sub.cons 4 rfl (Sk (ZcO (Sd (Sub.cons 2 rfl (Sk (Sd (Sk (Sk Sub.nil))))))))),?_,?_,?_,rfl⟩)
   ·omega
   ·omega
   ·exact ho24
   rw [MB h13n,← Af ok h13n hfn];exact OTs.snoc (by have z:=hO22;simp only [hfe,Int.toNat_natCast] at z;exact z) hos
  refine JLr (Zk (l:=[.bool false]) zeroValue4 rfl fun b25=>JLr (Zb 0 (vs:=[.bool false]) (l:=[.bool false]) ty4 rfl rfl rfl rfl rfl (Zh rfl Zq) rfl<|JLr (Zb 0 (vs:=[.bool true]) (l:=[.bool true]) ty4 rfl rfl rfl rfl rfl (Zh rfl Zq) rfl<|JLr (Zc ty4 rfl (ZcK 0 rfl) rfl<|Za<|Zt (b:=true) rfl (fun _=>?_) (fun h=>absurd h (by simp))))))
  refine Zg<|ZM mixed #[0,1,3,7,15,0,0,64,192,448,0,1984,4032,8160,16352,0,65504,31,0,524287,1048575,2097151,4194303,8388607] 19 (sm 16 19) [] [(16,fun _ _ vw qw=>∃ cs k,vw=.agg ⟨cs⟩∧qw=[k]∧OT (mpT (nmD (frF l)) (l[((frI l)[j]).toNat])) cs k),(18,fun _ _ vw qw=>∃ b k,vw=.slice (some ⟨b,0,none⟩) 1 1∧qw=[k]∧Own 51 36 (.slice (some ⟨b,0,none⟩) 1 1) [pkT 0 0 zS nS nS] k∧k=(BX b (flatten [pkT 0 0 zS nS nS]) 51))] rfl (by kernel_rfl) rfl (by kernel_rfl)<|Dl1 Qz (ZcK 5 rfl) rfl<|Dq (pp b2 0) (fun _=>Pu.nilCheck rfl)<|Dq (pp b2 0) (fun _=>Vo rfl rfl)<|Dq (pp b2 0) (fun _=>TN rfl rfl)<|Dl1 XE (ZcK 1 rfl) rfl<|Dm v<|Dl1 Qz (ZcK 5 rfl) rfl<|Dq (pp b2 0) (fun _=>Pu.nilCheck rfl)<|Dq (pp b2 2) (fun _=>UM rfl rfl)<|Dl1 YL (ZcK 1 rfl) rfl<|DM (fun _=>rfl) ?_
  obtain ⟨b31,cap31,row31,hv31,hm31,hs31⟩:=ho1.at (j:=j) (by rw [Zv];first | assumption | omega)
  rw [Yg _ _ (by omega)] at hs31
  refine Dn (fun _=>Pu.idx j ZS ty3 hv31 rfl rfl (by rw [Zv];first | assumption | omega))<|Dl1 ty3 (ZcS 4 rfl hm31) (ZP hs31) ?_
  obtain ⟨b32,o32,cap32,row32,T32,fr32,cs32,hv32,hb32,hs32,hE32⟩:=hv.get ((frI l)[j]).toNat (by omega)
  refine Dq (pp b32 (o32+((frI l)[j]).toNat*36)) (fun _=>Pu.idx ((frI l)[j]).toNat ZI Zu hv32 rfl (by first | rfl | omega) (by omega))<|Dl Zu (ZcN hb32) hs32<|Dq (.func (.func 99) ⟨[]⟩ ⟨[pp b3 0]⟩) (fun _=>Pu.makeFunc rfl rfl) ?_
  refine Dc rfl call98 (fun _=>rfl) (fun hin=>UF (frF l) l.length (fun n h0 h1=>by have:=Rs h0 h1;unfold inI;omega) _ [] _ call99 _ _ _ (RT.mono (Hle.hu _ _) hE32) (by have:=YR _ (getElem_mem hfj);omega) (Sn ok hfj) (fun n h hh h0 h1=>Q3 l n _ _ _ _ _ _ h (hh _ _ (hin 5 _ rfl _ _ mem_cons_self)) (hh _ _ (hin 1 _ rfl _ _ mem_cons_self)) (RIs.mono hh (Yr ho1 (by rw [Yy];omega) (hin 4 _ rfl))) h0 h1)) ?_
  rintro _ _ ⟨cs33,k33,rfl,rfl,hO33⟩
  obtain ⟨a34,cap34,hv34⟩:=how.sl
  refine Dn (fun _=>ZcM ZI hv34)<|Dr rfl (fun _=>Zj (vs:=[.agg ⟨pkT 0 0 zS nS nS⟩]) [pkT 0 0 zS nS nS] ZI YM rfl rfl (al1 rfl) rfl (by decide) fun b k h1 h2=>⟨[k],by rw [Yd rfl];exact Sub.refl,b,k,rfl,rfl,h1,h2⟩) (fun _ _ ⟨b35,k35,e1,e2,ho35,hk35⟩=>?_);subst e1 e2
  refine ZX (M':=[k35,k33,(BX b25 [.bool true] 4),(BX b2 [y1,nS,v1,.nilFunc] 91),q1,q2,k1,(BX b3 [pp b2 0] 86)]) rfl ?_
  show JL _ _ _ [_,_,_,_,_] _ _ _
  have hlens36:∀ e∈([pkT 0 0 zS nS nS]:List (List Value)),List.length e=36:=al1 rfl
  have hoks36:∀ e∈([pkT 0 0 zS nS nS]:List (List Value)),okc e:=al1 (ZR rfl rfl)
  refine JLr (ZA (i:=4) (n:=1) (es':=[pkT 0 0 zS nS nS]) ZI ZI (Or.inl rfl) YM rfl rfl rfl how (fun F w m=>Src.row (((ZcS 0 rfl (by rw [hk35];exact mem_cons_self))).heap m) (Zx (Zw hlens36))) rfl hlens36 hoks36 (by decide) (by omega) fun v36 k36 ho36=>JLq (pp b2 0) (Pu.nilCheck rfl)<|JLq (pp b2 0) (Vo rfl rfl)<|JLq (pp b2 0) (TN rfl rfl)<|JLr (Zb 3 (vs:=[v36]) (l:=[v36,nS,v1,.nilFunc]) XE rfl rfl rfl (ZH ho36.one) rfl (Zh ho36.one Zq) rfl<|Za<|Ze ?_))
  obtain ⟨b37,cap37,row37,hv37,hm37,hs37⟩:=ho36.at (j:=es.length) (by simp)
  refine JLn (Pu.idx es.length ZI Zu hv37 rfl rfl (by simp))<|JLr (Y7 (i:=4) (j:=(es.length)) (b:=b37) Zu rfl ho36 ⟨_,_,hv37⟩ rfl (by simp) rfl rfl hO33.len hO33.ok fun k38 ho38=>Za<|Ze<|JLn (ZcP rfl rfl (by omega))<|JLM rfl<|Za<|⟨_,?_,(j+1),v36,k38,(q2++k33),(es++[cs33]),Zp rfl,(Sd (Sub.cons 2 rfl (Sub.cons 2 rfl (ZcO (Sub.cons 2 rfl (Sk (Sd (Sk (Sk Sub.nil))))))))),?_,?_,?_,rfl⟩)
  ·omega
  ·omega
  ·exact (by have z:=ho38;rw [GG] at z;exact z)
  rw [MB h13n,← Af ok h13n hfn];exact OTs.snoc (by have z:=hO33;simp only [hfe,Int.toNat_natCast] at z;exact z) hos
 have h13n:l.length≤j:=by omega
 refine ZC _ rfl<|Zg<|ZM mixed #[0,0,2,6,14,30,62,127,255,511,1023] 7 (sm 64 7) [] [(6,fun _ _ vw qw=>∃ k,qw=[k]∧OII (Xu (mkL l)) vw k)] rfl (by kernel_rfl) rfl (by kernel_rfl)<|Dl1 Qz (ZcK 4 rfl) rfl<|Dl1 Qz (ZcK 4 rfl) rfl<|Dq (pp b2 0) (fun _=>Pu.nilCheck rfl)<|Dq (pp b2 0) (fun _=>Vo rfl rfl)<|Dq (pp b2 0) (fun _=>TN rfl rfl)<|Dl1 XE (ZcK 0 rfl) rfl ?_
 refine Dc rfl call100 (fun _=>rfl) (fun hin=>EU (mkL l) _ _ ((OL.mk how (show OTs (mkL l) es q2 by have z:=hos;rwa [take_of_length_le (by rw [ZQ];exact h13n)] at z) (by rw [ZQ];omega)).rd (Has.app (hin 1 _ rfl) (hin 2 _ rfl))) ok.mkL.szs) ?_
 rintro v40 _ ⟨k40,rfl,ho40⟩
 refine ZX (M':=[k40,(BX b2 [y1,nS,v1,.nilFunc] 91),q1,q2,k1,(BX b3 [pp b2 0] 86)]) rfl ?_
 show JL _ _ _ [_,_,_,_] _ _ _
 refine JLq (pp b2 0) (Pu.nilCheck rfl)<|JLq (pp b2 0) (Vo rfl rfl)<|JLq (pp b2 1) (Kn rfl rfl)<|JLr (Zb 1 (vs:=[v40]) (l:=[y1,v40,v1,.nilFunc]) DI rfl rfl rfl (ZH ho40.one) rfl (Zh ho40.one Zq) rfl<|Za<|Zd<|JLr (Zc Qz rfl (ZcK 5 rfl) rfl<|JAn rfl<|ZE (pp b2 0) [(BX b2 [y1,v40,v1,.nilFunc] 91),q1++(q2++(k40++k1))] (Sub.cons 1 rfl (Zc3 (Sub.cons 1 rfl (Sub.cons 1 rfl (Sk (Sk Sub.nil)))))) (?_)))
 exact ⟨_,_,_,_,_,rfl,rfl,_,_,_,(OL.mk how (show OTs (mkL l) es q2 by have z:=hos;rwa [take_of_length_le (by rw [ZQ];exact h13n)] at z) (by rw [ZQ];omega)),ho40,ho1,(append_assoc ..).symm⟩
theorem HR (l:List Tm) (v:Value) (H:Heap) (hv:Hs.rdS RT 36 H v l) (hz:∀ t∈l,sizeT t≤400000):CT prog 28 ⟨[v]⟩ [] H (fun r N=>∃ u k,r=.tuple ⟨[u,iv (YI (ZG 0) l)]⟩∧N=[k]∧Own 3 1 u (Z2 (if YI (ZG 0) l=0 then frI l else [])) k):=by
 refine Zl func28 rfl rfl<|Zd<|JLA rfl<|JAn rfl<|Zg<|Zd<|JLm v<|Jc call49 rfl (fun hin=>UR l _ _ (RTs.mono (Hle.hu _ _) hv) hz) rfl ?_
 rintro _ _ ⟨rfl,rfl⟩
 refine JAn rfl<|Zd<|JLM rfl<|JLn (Pu.neq rfl rfl)<|Za<|Zt rfl (fun h1=>?_) (fun h1=>?_)
 ·replace h1:=nt h1
  replace h1:=df h1
  refine Zd<|JLM rfl<|JLA rfl<|JAn rfl<|Zz<|⟨.tuple ⟨[nS,iv (YI (ZG 0) l)]⟩,[[]],ZcU rfl (RV.tmp rfl) (RV.tmp rfl),(ZcL Sub.nil),?_⟩
  exact ⟨_,_,rfl,rfl,by rw [if_neg h1];exact Own.nil⟩
 replace h1:=nf h1
 replace h1:=dt h1
 refine Zo<|Zg ?_
 have hc0:YI (ZG 0) l=0:=by omega
 have hg:=V6 hc0
 have hm:=hg.mkL
 have hn8:=hg.hi
 have hml:=ZQ l
 refine Ze<|JLm v<|Jc call74 rfl (fun hin=>OK l _ _ (RTs.mono (Hle.hu _ _) hv) hg) rfl ?_
 rintro v2 _ ⟨k2,rfl,ho2⟩
 refine JLa v2<|JAn rfl<|Zz<|⟨.tuple ⟨[v2,iv 0]⟩,[k2],ZcU rfl (RV.tmp rfl) (RV.tmp rfl),(Sk Sub.nil),?_⟩
 exact ⟨_,_,by rw [hc0],rfl,by rw [if_pos hc0];exact ho2⟩
theorem HM (l:List Tm) (v:Value) (H:Heap) (hv:Hs.rdS RT 36 H v l) (hz:∀ t∈l,sizeT t≤400000):CT prog 36 ⟨[v]⟩ [] H (fun r N=>∃ u k,r=.tuple ⟨[u,iv (YI (ZG 0) l)]⟩∧N=[k]∧OII (if YI (ZG 0) l=0 then paL l else []) u k):=by
 refine Zl func36 rfl rfl<|Zd<|JLA rfl<|JAn rfl<|Zg<|Zd<|JLm v<|Jc call49 rfl (fun hin=>UR l _ _ (RTs.mono (Hle.hu _ _) hv) hz) rfl ?_
 rintro _ _ ⟨rfl,rfl⟩
 refine JAn rfl<|Zd<|JLM rfl<|JLn (Pu.neq rfl rfl)<|Za<|Zt rfl (fun h1=>?_) (fun h1=>?_)
 ·replace h1:=nt h1
  replace h1:=df h1
  refine Zd<|JLM rfl<|JLA rfl<|JAn rfl<|Zz<|⟨.tuple ⟨[nS,iv (YI (ZG 0) l)]⟩,[[]],ZcU rfl (RV.tmp rfl) (RV.tmp rfl),(ZcL Sub.nil),?_⟩
  exact ⟨_,_,rfl,rfl,by rw [if_neg h1];exact OII.nil⟩
 replace h1:=nf h1
 replace h1:=dt h1
 refine Zo<|Zg ?_
 have hc0:YI (ZG 0) l=0:=by omega
 have hg:=V6 hc0
 have hm:=hg.mkL
 have hn8:=hg.hi
 have hml:=ZQ l
 refine Ze<|JLm v<|Jc call50 rfl (fun hin=>U9 l _ _ (RTs.mono (Hle.hu _ _) hv) hg) rfl ?_
 rintro _ _ ⟨g2,k2,vm,vc,vf,rfl,rfl,hGO⟩
 refine Jc call81 rfl (fun hin=>G5 l hm g2 vm vc vf .nilFunc _ (hin 0 _ rfl _ _ mem_cons_self) (hGO.rd hn8 (hin 1 _ rfl)) rfl) rfl ?_
 rintro v3 _ ⟨k3,rfl,ho3⟩
 refine JLa v3<|JAn rfl<|Zz<|⟨.tuple ⟨[v3,iv 0]⟩,[k3],ZcU rfl (RV.tmp rfl) (RV.tmp rfl),(Sk Sub.nil),?_⟩
 exact ⟨_,_,by rw [hc0],rfl,by rw [if_pos hc0];exact ho3⟩
theorem HN (l:List Tm) (v:Value) (H:Heap) (hv:Hs.rdS RT 36 H v l) (hz:∀ t∈l,sizeT t≤400000) (i:Int):CT prog 34 ⟨[v,iv i]⟩ [] H (fun r N=>∃ u k,r=.tuple ⟨[u,iv (if YI (ZG 0) l=0 then (if i<0∨(l.length:Int)≤i then 1 else 0) else YI (ZG 0) l)]⟩∧N=[k]∧Own 3 1 u (Z2 (if YI (ZG 0) l=0∧¬ (i<0∨(l.length:Int)≤i) then Y8 (mkL l) (frF l i) else [])) k):=by
 refine Zl func34 rfl rfl<|Zd<|JLA rfl<|JAn rfl<|Zg<|Zd<|JLm v<|Jc call49 rfl (fun hin=>UR l _ _ (RTs.mono (Hle.hu _ _) hv) hz) rfl ?_
 rintro _ _ ⟨rfl,rfl⟩
 refine JAn rfl<|Zd<|JLM rfl<|JLn (Pu.neq rfl rfl)<|Za<|Zt rfl (fun h1=>?_) (fun h1=>?_)
 ·replace h1:=nt h1
  replace h1:=df h1
  refine Zd<|JLM rfl<|JLA rfl<|JAn rfl<|Zz<|⟨.tuple ⟨[nS,iv (YI (ZG 0) l)]⟩,[[]],ZcU rfl (RV.tmp rfl) (RV.tmp rfl),(ZcL Sub.nil),?_⟩
  exact ⟨_,_,by rw [if_neg h1],rfl,by rw [if_neg (fun q=>h1 q.1)];exact Own.nil⟩
 replace h1:=nf h1
 replace h1:=dt h1
 refine Zo<|Zg<|Zg ?_
 have hc0:YI (ZG 0) l=0:=by omega
 have hg:=V6 hc0
 have hm:=hg.mkL
 have hn8:=hg.hi
 have hml:=ZQ l
 refine Ze<|JLM rfl<|JLn (Pu.lss rfl rfl)<|JLM rfl<|ZK 4 [15,16,17,18] [(18,cond (decide (i<0)) undef (.bool (decide ((l.length:Int)≤i))))] ?_ fun f4=>?_
 ·cases h2:(decide (i<0)) with
  | false=>
   replace h2:=df h2
   refine JLM rfl<|JLm v ?_
   obtain ⟨a3,cap3,hv3⟩:=hv.sl
   have hle3:=hv.le
   refine JLn (ZcM ZI hv3)<|JLn (Pu.geq rfl rfl) ?_
   exact Za ⟨⟨rfl,trivial⟩,rfl⟩
  | true=>
   exact Z1 rfl ⟨rfl,trivial⟩
 refine JLn (ZcT rfl rfl rfl)<|Za<|Zt rfl (fun h5=>?_) (fun h5=>?_)
 ·refine Zg ?_
  have hrb:i<0∨(l.length:Int)≤i:=by have z:=h5;simp at z;omega
  refine Ze<|JLA rfl<|JAn rfl<|Zz<|⟨.tuple ⟨[nS,iv 1]⟩,[[]],ZcU rfl (RV.tmp rfl) (RV.tmp rfl),(ZcL Sub.nil),?_⟩
  exact ⟨_,_,by rw [if_pos hc0,if_pos hrb],rfl,by rw [if_neg (fun q=>q.2 hrb)];exact Own.nil⟩
 obtain ⟨h5a,h5b⟩:=orF h5
 replace h5a:=df h5a
 replace h5b:=df h5b
 refine Zo<|Zg ?_
 have hrg:¬ (i<0∨(l.length:Int)≤i):=by have z:=h5;simp at z;omega
 have h0:0≤i:=by omega
 have h1:i<(l.length:Int):=by omega
 have hi:i.toNat<l.length:=by omega
 have hl:=Ya hi
 have hf:=Xt hg.ok hi
 have hfl:=Yy l
 have hfe:frF l i=(firstN l i.toNat:Int):=by unfold frF;exact Xs h0 h1
 refine Ze<|JLm v<|Jc call50 rfl (fun hin=>U9 l _ _ (RTs.mono (Hle.hu _ _) hv) hg) rfl ?_
 rintro _ _ ⟨g6,k6,vm,vc,vf,rfl,rfl,hGO⟩
 refine JLM rfl<|Jc call75 rfl (fun hin=>Mo l hm g6 vm vc vf .nilFunc _ (hin 0 _ rfl _ _ mem_cons_self) (hGO.rd hn8 (hin 1 _ rfl)) rfl hg i h0 h1) rfl ?_
 rintro v7 _ ⟨k7,rfl,ho7⟩
 refine JLa v7<|JAn rfl<|Zz<|⟨.tuple ⟨[v7,iv 0]⟩,[k7],ZcU rfl (RV.tmp rfl) (RV.tmp rfl),(Sk Sub.nil),?_⟩
 exact ⟨_,_,by rw [if_pos hc0,if_neg hrg],rfl,by rw [if_pos ⟨hc0,hrg⟩];exact ho7⟩
theorem HX (m:List Tm) (a:Nat) (x:Int) (p:List Int) (u:Value) (b9 b8:Nat) (H:Heap) (hu:Hs.rdS RI 1 H u p) (hp:0<p.length) (hx:∀ y∈p,0≤y∧y<8) (h9:H b9=some (.cells ⟨bls (rcF m a)⟩ 93 (0,0))) (h8:H b8=some (.cells ⟨[iv x]⟩ 3 (0,0))):CT prog 53 ⟨[u,pp b9 0,pp b8 0]⟩ [] H (fun v N=>v=.bool ((rcF m a).getD (p.getD 0 0).toNat false&& !decide (x∈p))∧N=[]):=by
 have hx0:=hx _ (getElem_mem hp)
 have hx00:p.getD 0 0=p[0]:=YO hp
 refine Zl func53 rfl rfl<|Zd<|JAn rfl<|Zd<|JLm u ?_
 obtain ⟨b1,o1,cap1,row1,T1,fr1,cs1,hv1,hb1,hs1,hE1⟩:=hu.get 0 (by omega)
 refine JLn (Pu.idx 0 ZS ty3 hv1 rfl rfl (by omega))<|JLr (Zc ty3 rfl (ZcN hb1) (ZP ((show cs1=[Value.int .i64 (p[0])] from hE1)▸hs1))<|JLq (pp b9 (0+(p[0]).toNat*1)) (ZcQ (p[0]).toNat LA ty4 rfl rfl (by first | rfl | omega) (by omega))<|JLr (Zc ty4 rfl (ZcN h9) (X2 (by have hbl:List.length (rcF m a)=8:=(XK ..);omega))<|JLM rfl<|ZK 4 [11,12,13,14] [(14,cond ((rcF m a).getD (p[0]).toNat false) (.bool (!(decide (x∈p)))) undef)] ?_ fun f3=>?_))
 ·cases h2:((rcF m a).getD (p[0]).toNat false) with
  | true=>
   refine JLm u<|JLr (Zc ty3 rfl (ZcN h8) rfl<|Jc call54 rfl (fun hin=>Wn _ _ _ _ (RIs.mono (Hle.hu _ _) hu)) rfl ?_)
   rintro _ _ ⟨rfl,rfl⟩
   refine JLn (Pu.not rfl) ?_
   exact Za ⟨⟨rfl,trivial⟩,rfl⟩
  | false=>
   exact Z1 rfl ⟨rfl,trivial⟩
 refine JLn (ZcR rfl rfl rfl)<|JAn rfl<|ZE (.bool (((rcF m a).getD (p[0]).toNat false)&&(!(decide (x∈p))))) [] Sub.nil (?_)
 exact ⟨by rw [hx00],rfl⟩
set_option maxHeartbeats 4000000 in
theorem DA (l:List Tm) (v:Value) (H:Heap) (hv:Hs.rdS RT 36 H v l) (hz:∀ t∈l,sizeT t≤400000) (i:Int) (hGK:GK H):CT prog 12 ⟨[v,iv i]⟩ [] H (fun r N=>∃ u k,r=.tuple ⟨[u,iv (kCe l i)]⟩∧N=[k]∧Own 5 1 u (YU (kCb l i)) k):=by
 refine Zl func12 rfl rfl<|Zd<|JLA rfl<|JAn rfl<|Zg<|Zd<|JLm v<|Jc call49 rfl (fun hin=>UR l _ _ (RTs.mono (Hle.hu _ _) hv) hz) rfl ?_
 rintro _ _ ⟨rfl,rfl⟩
 refine JAn rfl<|Zd<|JLM rfl<|JLn (Pu.neq rfl rfl)<|Za<|Zt rfl (fun h1=>?_) (fun h1=>?_)
 ·replace h1:=nt h1
  replace h1:=df h1
  refine Zd<|JLM rfl<|JLA rfl<|JAn rfl<|Zz<|⟨.tuple ⟨[nS,iv (YI (ZG 0) l)]⟩,[[]],ZcU rfl (RV.tmp rfl) (RV.tmp rfl),(ZcL Sub.nil),?_⟩
  have hq:=F2 (i:=i) h1
  exact ⟨_,_,by rw [hq.1],rfl,by rw [hq.2];exact Own.nil⟩
 replace h1:=nf h1
 replace h1:=dt h1
 refine Zo<|Zg<|Zg ?_
 have hc0:YI (ZG 0) l=0:=by omega
 have hg:=V6 hc0
 have hm:=hg.mkL
 have hn8:=hg.hi
 have hml:=ZQ l
 refine Ze<|JLM rfl<|JLn (Pu.lss rfl rfl)<|JLM rfl<|ZK 4 [20,21,22,23] [(23,cond (decide (i<0)) undef (.bool (decide ((l.length:Int)≤i))))] ?_ fun f4=>?_
 ·cases h2:(decide (i<0)) with
  | false=>
   replace h2:=df h2
   refine JLM rfl<|JLm v ?_
   obtain ⟨a3,cap3,hv3⟩:=hv.sl
   have hle3:=hv.le
   refine JLn (ZcM ZI hv3)<|JLn (Pu.geq rfl rfl) ?_
   exact Za ⟨⟨rfl,trivial⟩,rfl⟩
  | true=>
   exact Z1 rfl ⟨rfl,trivial⟩
 refine JLn (ZcT rfl rfl rfl)<|Za<|Zt rfl (fun h5=>?_) (fun h5=>?_)
 ·refine Zg ?_
  have hrb:i<0∨(l.length:Int)≤i:=by have z:=h5;simp at z;omega
  refine Ze<|JLA rfl<|JAn rfl<|Zz<|⟨.tuple ⟨[nS,iv 1]⟩,[[]],ZcU rfl (RV.tmp rfl) (RV.tmp rfl),(ZcL Sub.nil),?_⟩
  have hq:=F1 hc0 hrb
  exact ⟨_,_,by rw [hq.1],rfl,by rw [hq.2];exact Own.nil⟩
 obtain ⟨h5a,h5b⟩:=orF h5
 replace h5a:=df h5a
 replace h5b:=df h5b
 refine Zo<|Zg ?_
 have hrg:¬ (i<0∨(l.length:Int)≤i):=by have z:=h5;simp at z;omega
 have h0:0≤i:=by omega
 have h1:i<(l.length:Int):=by omega
 have hi:i.toNat<l.length:=by omega
 have hl:=Ya hi
 have hf:=Xt hg.ok hi
 have hfl:=Yy l
 have hfe:frF l i=(firstN l i.toNat:Int):=by unfold frF;exact Xs h0 h1
 refine Ze<|JLm v<|Jc call50 rfl (fun hin=>U9 l _ _ (RTs.mono (Hle.hu _ _) hv) hg) rfl ?_
 rintro _ _ ⟨g6,k6,vm,vc,vf,rfl,rfl,hGO⟩
 refine JAn rfl<|U2 (i:=1) rfl ?_
 intro H hh hkH
 have hr:=hGO.rd hn8 hkH
 have hGK:=GK.mono hh hGK
 have hv:=RTs.mono hh hv
 refine Zd<|JLM rfl<|JLq (pp g6 0) (Pu.nilCheck rfl)<|JLq (pp g6 2) (UM rfl rfl)<|JLr (Zc YL rfl (ZcK 0 rfl) rfl<|JLM rfl ?_)
 obtain ⟨b7,o7,cap7,row7,T7,fr7,cs7,hv7,hb7,hs7,hE7⟩:=hr.f.get i.toNat (by omega)
 refine JLq (pp b7 (o7+i.toNat*1)) (Pu.idx i.toNat ZS ty3 hv7 rfl (by omega) (by omega))<|JLr (Zc ty3 rfl (ZcN hb7) (ZP ((show cs7=[Value.int .i64 ((firstN l i.toNat):Int)] from hE7.trans (by rw [WA hi]))▸hs7))<|JLr (Zk (l:=[iv 0]) zeroValue3 rfl fun b8=>JLr (Zb 0 (vs:=[iv (((firstN l i.toNat):Int))]) (l:=[iv (((firstN l i.toNat):Int))]) ty3 rfl rfl rfl rfl rfl (Zh rfl Zq) rfl<|Za<|Zd<|JLM rfl<|JLr (Zc ty3 rfl (ZcK 0 rfl) rfl<|Jc call51 rfl (fun hin=>WT l hm g6 vm vc vf .nilFunc _ (hin 1 _ rfl _ _ mem_cons_self) (GR.mono (Hle.hu _ _) hr) rfl ((firstN l i.toNat):Int) (by omega) (by omega)) rfl ?_))))
 rintro _ _ ⟨rfl,rfl⟩;rw [Int.toNat_natCast]
 refine JLr (Zk (l:=bls (replicate 8 false)) zeroValue93 rfl fun b9=>JLr (Zb 0 (vs:=bls (rcF (mkL l) (firstN l i.toNat))) (l:=bls (rcF (mkL l) (firstN l i.toNat))) DG rfl rfl rfl rfl ((Vi _).trans (XK ..)) (EZ _) (ZY (n:=8) ((Vi _).trans (length_replicate ..)) ((Vi _).trans (XK ..)))<|Za<|Zd<|JLM rfl<|JLq (.func (.func 53) ⟨[]⟩ ⟨[pp b9 0,pp b8 0]⟩) (Pu.makeFunc rfl rfl)<|Zs 2 rfl call52 rfl rfl (fun hin=>FU l hg hm g6 vm vc vf .nilFunc rfl (wC l (firstN l i.toNat)) (ZaZ hg hl hf) 53 [] [pp b9 0,pp b8 0] call53 _ (GK.mono (Hle.hu _ _) hGK) (GR.mono (Hle.hu _ _) hr) (fun j hj u h hh ru=>HX _ _ _ _ _ _ _ h ru (B8 hg (getElem_mem hj)) (fun y hy=>by have:=Sh hg (getElem_mem hj) hy;omega) (hh _ _ (hin 0 _ rfl _ _ mem_cons_self)) (hh _ _ (hin 1 _ rfl _ _ mem_cons_self)))) rfl ?_))
 rintro _ _ ⟨mv,kk,f10,rfl,rfl,hf10,hmap⟩
 refine JLM rfl<|JLn (Pu.extract rfl rfl)<|JLn (Pu.extract rfl rfl)<|JLa mv<|JAn rfl<|Zg<|Zd<|JLM rfl<|JLn (Pu.neq rfl rfl)<|Za<|Zt rfl (fun h11=>?_) (fun h11=>?_)
 ·replace h11:=nt h11
  replace h11:=df h11
  refine Zd<|JLM rfl<|JLA rfl<|JAn rfl<|Zz<|⟨.tuple ⟨[nS,iv ((if knE l (wC l (firstN l i.toNat))=true then (11:Int) else 0))]⟩,[[]],ZcU rfl (RV.tmp rfl) (RV.tmp rfl),(Sd (ZcL Sub.nil)),?_⟩
  have hq:=JE hc0 hrg
  have hs:=OC hg hi
  have hE:knE l (wC l (firstN l i.toNat))=true:=by cases q:knE l (wC l (firstN l i.toNat)) with
   | true=>rfl
   | false=>simp [q] at h11
  rw [if_pos hE,if_pos hE] at hs
  exact ⟨_,_,by rw [hq.1,hs.1,if_pos hE],rfl,by rw [hq.2,hs.2];exact Own.nil⟩
 replace h11:=nf h11
 replace h11:=dt h11
 refine Zo<|Zg ?_
 have hE:knE l (wC l (firstN l i.toNat))=false:=by cases q:knE l (wC l (firstN l i.toNat)) with
  | false=>rfl
  | true=>simp [q] at h11
 obtain ⟨rM,rfl,rfl⟩:=hmap hE
 refine Ze<|JLM rfl<|JLM rfl<|JLM rfl<|Zs 0 rfl call55 rfl rfl (fun hin=>J3 l hg hm g6 rM vm vc vf f10 hf10 i h0 h1 (knW l (wC l (firstN l i.toNat)) (paL l).length) _ (GR.mono (Hle.hu _ _) hr) (hin 0 _ rfl _ _ mem_cons_self) (Aw hg hl hf)) rfl ?_
 rintro _ _ ⟨u12,k12,f12,rfl,rfl,hf12,ho12⟩
 refine JLn (Pu.extract rfl rfl)<|JLn (Pu.extract rfl rfl)<|JLa u12<|JAn rfl<|Zz<|⟨.tuple ⟨[u12,iv (X5 (Ye (mkL l) (firstN l i.toNat)))]⟩,[k12],ZcU rfl (RV.tmp rfl) (RV.tmp rfl),(Sd (Sd (Sk Sub.nil))),?_⟩
 have hq:=JE hc0 hrg
 have hs:=OC hg hi
 rw [if_neg (by rw [hE];decide),if_neg (by rw [hE];decide)] at hs
 exact ⟨_,_,by rw [hq.1,hs.1],rfl,by rw [hq.2,hs.2];exact ho12⟩
theorem HY (u:Value) (H:Heap) (hu1:u.oneCell'=true):CT prog 107 ⟨[u]⟩ [] H (fun v N=>v=.bool true∧N=[]):=by
 refine Zl func107 rfl rfl<|Zd<|JAn rfl<|Zd<|JAn rfl<|ZE (.bool true) [] Sub.nil (?_)
 exact ⟨rfl,rfl⟩
set_option maxHeartbeats 4000000 in
theorem DN (l:List Tm) (hg:okG l) (hm:okG (mkL l)) (gb:Nat) (vm vc vf ff:Value) (hff:ff.oneCell'=true) (H:Heap) (hGK:GK H) (hr:GR H l vm vc vf):CT prog 56 ⟨[pp gb 0]⟩ [(BX gb [vm,vc,vf,ff] 91)] H (fun v N=>∃ u k f2,v=.tuple ⟨[u,iv (erR l)]⟩∧N=[(BX gb [vm,vc,vf,f2] 91),k]∧f2.oneCell'=true∧Own 38 32 u (sms (smO l)) k):=by
 have hfl:=Yy l
 have hml:=ZQ l
 have hm8:=hm.hi
 refine Zl func56 rfl rfl<|Zd<|JLA rfl<|JAn rfl<|Zd<|JLM rfl<|Zs 0 rfl call52 rfl rfl (fun hin=>FU l hg hm gb vm vc vf ff hff wA (Za0 l) 107 [] [] call107 _ (GK.mono (Hle.hu _ _) hGK) (GR.mono (Hle.hu _ _) hr) (fun j hj u h hh ru=>HY u h ru.one)) rfl ?_
 rintro _ _ ⟨mv,kk,f1,rfl,rfl,hf1,hmap⟩
 refine JLM rfl<|JLn (Pu.extract rfl rfl)<|JLn (Pu.extract rfl rfl)<|JLa mv<|JAn rfl<|Zg<|Zd<|JLM rfl<|JLn (Pu.neq rfl rfl)<|Za<|Zt rfl (fun h2=>?_) (fun h2=>?_)
 ·replace h2:=nt h2
  replace h2:=df h2
  refine Zd<|JLM rfl<|JLA rfl<|JAn rfl<|Zz<|⟨.tuple ⟨[nS,iv ((if knE l wA=true then (11:Int) else 0))]⟩,[(BX gb [vm,vc,vf,f1] 91),[]],ZcU rfl (RV.tmp rfl) (RV.tmp rfl),(Sk (ZcL Sub.nil)),?_⟩
  have hE:knE l wA=true:=by cases q:knE l wA with
   | true=>rfl
   | false=>simp [q] at h2
  exact ⟨_,_,_,by rw [DL hg],rfl,hf1,by unfold smO;rw [← U3 hg,if_pos hE];exact Own.nil⟩
 replace h2:=nf h2
 replace h2:=dt h2
 refine Zo<|Zg ?_
 have hE:knE l wA=false:=by cases q:knE l wA with
  | false=>rfl
  | true=>simp [q] at h2
 obtain ⟨rM,rfl,rfl⟩:=hmap hE
 refine Ze<|JAn rfl<|Zg<|Zd<|JLM rfl<|JLq (pp gb 0) (Pu.nilCheck rfl)<|JLq (pp gb 2) (UM rfl rfl)<|JLr (Zc YL rfl (ZcK 0 rfl) rfl ?_)
 obtain ⟨a3,cap3,hv3⟩:=hr.f.sl
 have hle3:=hr.f.le
 refine JLn (ZcM ZS hv3)<|JLM rfl<|Za<|Zm<|ZD (fun k ρ M=>∃ (j:Nat) (y1:Value) (q1:Zf),Z7 ρ [(2,nS),(3,iv 0),(4,.map (some rM)),(6,y1),(20,vf),(21,iv (((frI l).length:Int))),(22,iv ((j:Int)))]=ρ∧Sub [q1,(BX gb [vm,vc,vf,f1] 91),gmC iV smV rM (knW l wA (paL l).length) (dgF l)] M∧j≤(frI l).length∧Own 38 32 y1 (sms ((smG l).take j)) q1∧k=(frI l).length-j) _ ⟨0,nS,[],Zp rfl,(ZcL (Sk (Sk Sub.nil))),Nat.zero_le _,(show Own 38 32 _ (sms []) [] from Own.nil),rfl⟩ ?_
 rintro _ ρ4 _ ⟨j,y1,q1,e5,hm12,hj,how1,rfl⟩
 obtain ⟨ρ13,rfl⟩:=Zi e5
 clear e5
 refine ZF hm12<|Zd<|JLn (Pu.lss rfl rfl)<|Za<|Zg<|ZN rfl (fun h14=>?_) (fun h14=>?_)
 ·have h14n:j<(frI l).length:=by omega
  refine Zo<|Zg<|Zm<|Zg<|Ze ?_
  obtain ⟨b15,o15,cap15,row15,T15,fr15,cs15,hv15,hb15,hs15,hE15⟩:=hr.f.get j (by omega)
  refine JLn (Pu.idx j ZS ty3 hv15 rfl rfl (by omega))<|JLr (Zc ty3 rfl (ZcN hb15) (ZP ((show cs15=[Value.int .i64 ((frI l)[j])] from hE15)▸hs15))<|JAn rfl<|Ze<|JLm y1<|JLM rfl<|JLM rfl<|JLr (PZ (i:=2) (kV:=iV) (vV:=smV) (K:=knW l wA (paL l).length) (f:=dgF l) (k:=((frI l)[j])) zS (Zad underlying3) underlying95 zeroValue38 rfl rfl rfl ?_))
  have hsm:=Zbi hg (show j<l.length by omega) rfl
  rw [if_pos hsm.1,hsm.2]
  refine JLr (Zj (vs:=[.agg ⟨sC (sha (cB l j))⟩]) [sC (sha (cB l j))] Vp Zb1 rfl rfl (al1 rfl) rfl (by decide) fun b16 k16 ho16 hk16=>?_)
  have hlens17:∀ e∈([sC (sha (cB l j))]:List (List Value)),List.length e=32:=al1 rfl
  have hoks17:∀ e∈([sC (sha (cB l j))]:List (List Value)),okc e:=al1 (T5 _)
  refine JLr (ZA (i:=1) (n:=1) (es':=[sC (sha (cB l j))]) Vp Vp (Or.inl rfl) Zb1 rfl rfl rfl how1 (fun F w m=>Src.row (((ZcS 0 rfl (by rw [hk16];exact mem_cons_self))).heap m) (Zx (Zw hlens17))) rfl hlens17 hoks17 (by decide) (by rw [XJ,length_take];omega) fun v17 k17 ho17=>?_)
  rw [← Gy] at ho17
  refine JLa v17<|Za<|Ze<|JLn (ZcP rfl rfl (by omega))<|JLM rfl<|Za<|⟨_,?_,(j+1),v17,k17,Zp rfl,(Sd (Sk (Sk (Sk Sub.nil)))),?_,?_,rfl⟩
  ·omega
  ·omega
  rw [GA (show j<l.length by omega)];exact ho17
 have h14n:(frI l).length≤j:=by omega
 refine ZC _ rfl<|Zd<|JLm y1<|JLa y1<|JAn rfl<|Zz<|⟨.tuple ⟨[y1,iv 0]⟩,[(BX gb [vm,vc,vf,f1] 91),q1],ZcU rfl (RV.tmp rfl) (RV.tmp rfl),(Sub.cons 1 rfl (Sk Sub.nil)),?_⟩
 rw [take_of_length_le (by rw [We];omega)] at how1
 exact ⟨_,_,_,by unfold erR;rw [← U3 hg,hE];rfl,rfl,hf1,by unfold smO;rw [← U3 hg,hE];exact how1⟩
theorem UY (l:List Tm) (v:Value) (H:Heap) (hv:Hs.rdS RT 36 H v l) (hz:∀ t∈l,sizeT t≤400000) (hGK:GK H):CT prog 13 ⟨[v]⟩ [] H (fun r N=>∃ u k,r=.tuple ⟨[u,iv (kSe l)]⟩∧N=[k]∧Own 38 32 u (sms (kSs l)) k):=by
 refine Zl func13 rfl rfl<|Zd<|JLA rfl<|JAn rfl<|Zg<|Zd<|JLm v<|Jc call49 rfl (fun hin=>UR l _ _ (RTs.mono (Hle.hu _ _) hv) hz) rfl ?_
 rintro _ _ ⟨rfl,rfl⟩
 refine JAn rfl<|Zd<|JLM rfl<|JLn (Pu.neq rfl rfl)<|Za<|Zt rfl (fun h1=>?_) (fun h1=>?_)
 ·replace h1:=nt h1
  replace h1:=df h1
  refine Zd<|JLM rfl<|JLA rfl<|JAn rfl<|Zz<|⟨.tuple ⟨[nS,iv (YI (ZG 0) l)]⟩,[[]],ZcU rfl (RV.tmp rfl) (RV.tmp rfl),(ZcL Sub.nil),?_⟩
  have hq:=F0 h1
  exact ⟨_,_,by rw [hq.1],rfl,by rw [hq.2];exact Own.nil⟩
 replace h1:=nf h1
 replace h1:=dt h1
 refine Zo<|Zg ?_
 have hc0:YI (ZG 0) l=0:=by omega
 have hg:=V6 hc0
 have hm:=hg.mkL
 have hn8:=hg.hi
 have hml:=ZQ l
 refine Ze<|JLm v<|Jc call50 rfl (fun hin=>U9 l _ _ (RTs.mono (Hle.hu _ _) hv) hg) rfl ?_
 rintro _ _ ⟨g2,k2,vm,vc,vf,rfl,rfl,hGO⟩
 refine Zs 0 rfl call56 rfl rfl (fun hin=>DN l hg hm g2 vm vc vf .nilFunc rfl _ (GK.mono (Hle.hu _ _) hGK) (hGO.rd hn8 (hin 0 _ rfl))) rfl ?_
 rintro _ _ ⟨u3,k3,f3,rfl,rfl,hf3,ho3⟩
 refine JLn (Pu.extract rfl rfl)<|JLn (Pu.extract rfl rfl)<|JLa u3<|JAn rfl<|Zz<|⟨.tuple ⟨[u3,iv (erR l)]⟩,[k3],ZcU rfl (RV.tmp rfl) (RV.tmp rfl),(Sd (Sk Sub.nil)),?_⟩
 have hq:=On hc0
 exact ⟨_,_,by rw [hq.1],rfl,by rw [hq.2];exact ho3⟩
theorem Fh:∀ (s:List Sm) (bS:Nat) (us:Value) (t:Tm) (cs:List Value) (H:Heap),RT H cs t→Vw s.length t.kind t.num t.ref→H bS=some (.cells ⟨[us]⟩ 29 (0,0))→Hs.rdS RSm 32 H us s→CT prog 58 ⟨[.agg ⟨cs⟩,pp bS 0]⟩ [] H (fun v N=>∃ kx cx,v=.agg ⟨pkT (TF s t.kind t.num t.ref).1 (TF s t.kind t.num t.ref).2.1 (TF s t.kind t.num t.ref).2.2 kx cx⟩∧N=[]∧kx.oneCell'=true∧cx.oneCell'=true):=by
 intro s bS us t cs H ht hq hS hus
 obtain ⟨kind,num,ref,kids,cases⟩:=t
 obtain ⟨ks,cv,rfl,hk,hn,hks,hcv⟩:=RT_mk.1 ht
 simp only [Tm.kind,Tm.num,Tm.ref] at hq ⊢
 refine Zl func58 rfl rfl<|Zd<|JLr (Zr (l:=pkT kind num ref ks cv) rfl rfl fun b1=>JLr (Zk (l:=pkT 0 0 zS nS nS) zeroValue51 rfl fun b2=>Za<|Zg<|Zd<|JLq (pp b1 0) (Yh rfl rfl)<|JLr (Zc ty3 rfl (ZcK 1 rfl) (YE ..)<|JLn (Pu.eql rfl rfl)<|Za ?_)))
 refine ZN rfl (fun h3=>?_) (fun h3=>?_)
 ·refine Zg ?_
  have hqn:=hq h3
  refine Ze<|JLr (Zc Za5 rfl (ZcN hS) rfl<|JLq (pp b1 1) (Y1 rfl rfl)<|JLr (Zc ty3 rfl (ZcK 1 rfl) (XV ..) ?_))
  obtain ⟨b4,o4,cap4,row4,T4,fr4,hv4,hb4,hs4⟩:=RSms.at hus num.toNat (by omega)
  refine JLq (pp b4 (o4+num.toNat*32)) (Pu.idx num.toNat Vp Yv hv4 rfl (by first | rfl | omega) (by omega))<|JLr (Zn Yv rfl (ZcN hb4) hs4<|JLq (.agg ⟨pkT 6 0 (s.getD num.toNat zS) nS nS⟩) (Pu.build (pv:=[(0,iv 6),(2,.agg ⟨sC (s.getD num.toNat zS)⟩)]) (l:=pkT 6 0 (s.getD num.toNat zS) nS nS) rfl (Rx _ _))<|JLr (Zb 0 (vs:=pkT 6 0 (s.getD num.toNat zS) nS nS) (l:=pkT 6 0 (s.getD num.toNat zS) nS nS) Zu rfl rfl rfl rfl rfl (ZR rfl rfl) (Yb ..)<|Za<|Zz<|⟨.agg ⟨pkT 6 0 (s.getD num.toNat zS) nS nS⟩,[],Ret.one rfl (RV.cell Zu rfl (ZcK 0 rfl) (Z4 ..)),Sub.nil,?_⟩))
  have hD:TF s kind num ref=(6,0,s.getD num.toNat zS):=by unfold TF;rw [if_pos h3]
  exact ⟨_,_,by (rw [hD];try rfl),rfl,rfl,rfl⟩
 refine Zo<|Zd<|JLr (Zn Zu rfl (ZcK 1 rfl) (Z4 ..)<|JLr (Zb 0 (vs:=pkT kind num ref ks cv) (l:=pkT kind num ref ks cv) Zu rfl rfl rfl rfl rfl (ZR hks.one hcv.one) (Yb ..)<|Za<|Zz<|⟨.agg ⟨pkT kind num ref ks cv⟩,[],Ret.one rfl (RV.cell Zu rfl (ZcK 0 rfl) (Z4 ..)),Sub.nil,?_⟩))
 have hD:TF s kind num ref=(kind,num,ref):=by unfold TF;rw [if_neg h3]
 exact ⟨_,_,by (rw [hD];try rfl),rfl,hks.one,hcv.one⟩
set_option maxHeartbeats 4000000 in
theorem Dh (l:List Tm) (v:Value) (H:Heap) (hv:Hs.rdS RT 36 H v l) (hz:∀ t∈l,sizeT t≤400000) (hGK:GK H):CT prog 14 ⟨[v]⟩ [] H (fun r N=>∃ u k,r=.tuple ⟨[u,iv (kSe l)]⟩∧N=[k]∧OL (kOl l) u k):=by
 refine Zl func14 rfl rfl<|Zd<|JLA rfl<|JAn rfl<|Zd<|JLm v<|Jc call13 rfl (fun hin=>UY l _ _ (RTs.mono (Hle.hu _ _) hv) hz (GK.mono (Hle.hu _ _) hGK)) rfl ?_
 rintro _ _ ⟨u1,k1,rfl,rfl,ho1⟩
 refine JLM rfl<|JLn (Pu.extract rfl rfl)<|JLn (Pu.extract rfl rfl)<|JLr (Zk (l:=[nS]) zeroValue29 rfl fun b2=>JLr (Zb 0 (vs:=[u1]) (l:=[u1]) Za5 rfl rfl rfl (ZH ho1.one) rfl (Zh ho1.one Zq) rfl<|JAn rfl<|Zg<|Zd<|JLM rfl<|JLn (Pu.neq rfl rfl)<|Za ?_))
 refine Zt rfl (fun h3=>?_) (fun h3=>?_)
 ·replace h3:=nt h3
  replace h3:=df h3
  refine Zd<|JLM rfl<|JLA rfl<|JAn rfl<|Zz<|⟨.tuple ⟨[nS,iv (kSe l)]⟩,[[]],ZcU rfl (RV.tmp rfl) (RV.tmp rfl),(ZcL Sub.nil),?_⟩
  exact ⟨_,_,rfl,rfl,by unfold kOl;rw [if_neg h3];exact OL.nil⟩
 replace h3:=nf h3
 replace h3:=dt h3
 refine Zo<|Zg ?_
 have hks:=Ah (by omega:kSe l=0)
 have hg:=hks.1
 have hn8:=hg.hi
 rw [hks.2] at ho1
 refine Ze<|JAn rfl<|Zg<|Zd<|JLm v ?_
 obtain ⟨a4,cap4,hv4⟩:=hv.sl
 have hle4:=hv.le
 refine JLn (ZcM ZI hv4)<|JLM rfl<|Za<|Zm<|ZD (fun k ρ M=>∃ (j:Nat) (y1:Value) (q1 q2:Zf) (es:List (List Value)),Z7 ρ [(2,nS),(3,iv 0),(4,pp b2 0),(6,y1),(17,v),(18,iv ((l.length:Int))),(19,iv ((j:Int)))]=ρ∧Sub [q1,q2,(BX b2 [u1] 29),k1] M∧j≤l.length∧Own 51 36 y1 es q1∧OTs ((opL l).take j) es q2∧k=l.length-j) _ ⟨0,nS,[],[],[],Zp rfl,(ZcL (ZcL (Sk (Sk Sub.nil)))),Nat.zero_le _,Own.nil,⟨rfl,rfl⟩,rfl⟩ ?_
 rintro _ ρ5 _ ⟨j,y1,q1,q2,es,e6,hm13,hj,how,hos,rfl⟩
 obtain ⟨ρ14,rfl⟩:=Zi e6
 clear e6
 refine ZF hm13 ?_
 have hlen:=hv.le
 have hel:=YH hos
 rw [length_take,Qg] at hel
 refine Zd<|JLn (Pu.lss rfl rfl)<|Za<|Zg<|ZN rfl (fun h15=>?_) (fun h15=>?_)
 ·have h15n:j<l.length:=by omega
  refine Zo<|Zg<|Zm<|Zg<|Ze ?_
  obtain ⟨b16,o16,cap16,row16,T16,fr16,cs16,hv16,hb16,hs16,hE16⟩:=hv.get j (by omega)
  refine JLn (Pu.idx j ZI Zu hv16 rfl rfl (by omega))<|JLr (Zn Zu rfl (ZcN hb16) hs16<|JLr (Zk (l:=pkT 0 0 zS nS nS) zeroValue51 rfl fun b17=>JLr (Zb 0 (vs:=cs16) (l:=cs16) Zu rfl rfl rfl rfl (Zy hE16) (Y5 hE16) (ZY (n:=36) rfl (Zy hE16))<|Za<|Ze<|JLm y1<|JLr (Zn Zu rfl (ZcK 0 rfl) (Zx (Zy hE16))<|JLq (.func (.func 58) ⟨[]⟩ ⟨[pp b2 0]⟩) (Pu.makeFunc rfl rfl)<|Jc call57 rfl (fun hin=>Td (TF (smG l)) (Vw l.length) 58 [] _ call58 (Cl _ _) _ _ _ (RT.mono (Hle.hu _ _) hE16) (by have:=hg.sz (getElem_mem h15n);omega) (Sn hg h15n) (fun y a h hh ra hq=>Fh (smG l) _ _ y a h ra (by rw [We];exact hq) (hh _ _ (hin 3 _ rfl _ _ mem_cons_self)) (RSms.mono hh (Si ho1 (by rw [We];omega) (hin 4 _ rfl))))) rfl ?_))))
  rintro _ _ ⟨cs18,k18,rfl,rfl,hO18⟩
  refine JLr (Zj (vs:=[.agg ⟨cs18⟩]) [cs18] ZI YM rfl rfl (al1 hO18.len) rfl (by decide) fun b19 k19 ho19 hk19=>?_)
  have hlens20:∀ e∈([cs18]:List (List Value)),List.length e=36:=al1 hO18.len
  have hoks20:∀ e∈([cs18]:List (List Value)),okc e:=al1 hO18.ok
  refine JLr (ZA (i:=3) (n:=1) (es':=[cs18]) ZI ZI (Or.inl rfl) YM rfl rfl rfl how (fun F w m=>Src.row (((ZcS 0 rfl (by rw [hk19];exact mem_cons_self))).heap m) (Zx (Zw hlens20))) rfl hlens20 hoks20 (by decide) (by omega) fun v20 k20 ho20=>JLa v20<|Za<|Ze<|JLn (ZcP rfl rfl (by omega))<|JLM rfl<|Za<|⟨_,?_,(j+1),v20,k20,(q2++k18),(es++[cs18]),Zp rfl,(Sd (Sub.cons 2 rfl (ZcO (Sub.cons 2 rfl (Sk (Sd (Sk (Sk Sub.nil)))))))),?_,?_,?_,rfl⟩)
  ·omega
  ·omega
  ·exact ho20
  rw [Fj h15n,← A1 hg h15n];exact OTs.snoc hO18 hos
 have h15n:l.length≤j:=by omega
 refine ZC _ rfl<|Zd<|JLm y1<|JLa y1<|JAn rfl<|Zz<|⟨.tuple ⟨[y1,iv 0]⟩,[q1++q2],ZcU rfl (RV.tmp rfl) (RV.tmp rfl),(ZcO (Sk (Sk Sub.nil))),?_⟩
 rw [take_of_length_le (by rw [Qg];exact h15n)] at hos
 exact ⟨_,_,by rw [show kSe l=0 by omega],rfl,by unfold kOl;rw [if_pos (by omega)];exact OL.mk how hos (by rw [Qg];omega)⟩
set_option maxHeartbeats 1000000 in
theorem Bm (K:List Sm) (t:Tm) (cs:List Value) (r:Nat) (H:Heap) (ht:RT H cs t) (hz:sizeT t≤400000) (hRb:H r=some (gmO smV iV K (idF K))):CT prog 128 ⟨[.agg ⟨cs⟩,.map (some r)]⟩ [] H (fun r N=>∃ k,N=[k]∧Own 3 1 r (Z2 (dfL K t)) k):=by
 refine Zl func128 rfl rfl<|Zd<|JLr (Zr (l:=cs) rfl rfl fun b1=>JLr (Zr (l:=[.map (some r)]) rfl rfl fun b2=>JAn rfl<|Zd<|JLr (Zk (l:=[nS]) zeroValue45 rfl fun b3=>Za<|Zg<|Zg ?_)))
 refine Ze<|JLr (Zn Zu rfl (ZcK 2 rfl) (Zx (Zy ht))<|Jc call169 rfl (fun hin=>Mr _ _ (Zy ht) (Y5 ht)) rfl ?_)
 rintro _ _ ⟨bT4,rfl,rfl⟩
 refine Za<|Zm<|ZF (M':=[[],(BX bT4 cs 51),(BX b3 [nS] 45),(BX b2 [.map (some r)] 131),(BX b1 cs 51)]) (ZcL Sub.refl)<|ZF (Sub.cons 2 rfl (Sk (Sk (Sk (Sk Sub.nil)))))<|Qu (L:=[(BX bT4 cs 51),(BX b2 [.map (some r)] 131),(BX b1 cs 51)]) (fun s:Value×Zf=>[(BX b3 [s.1] 45),s.2]) (fun _=>false) (nS,[]) (fun s=>Own 3 1 s.1 (Z2 (ndT (dfF K) [] t)) s.2) rfl rfl call199 (List.Perm.of_eq (by simp)) ?_ ?_ ?_
 ·intro l yc hY hin
  refine CT.mono (Og (dfF K) List.length (fun s k=>∃ p:Value×Zf,k=yc p∧Own 3 1 p.1 (Z2 s) p.2) (Ez K) l _ t [] _ _ _ ⟨_,rfl,(show Own 3 1 _ (Z2 []) [] from Own.nil)⟩ (RT.mono (Hle.hu _ _) ht) (by simp;omega) (hin 0 _ rfl _ _ mem_cons_self) ?_) (fun v N ⟨k,hk,p,e,ho⟩=>⟨p,by rw [hk,e],ho⟩)
  rintro y d _ a h ⟨s,rfl,hI⟩ hh hry hz0
  refine YT.mono (hY s [_] h (fun p2=>Own 3 1 p2.1 (Z2 ((dfF K) d y)) p2.2) rfl rfl (RoundOk.mk ?_)) ?_
  obtain ⟨ksy,cvy,rfl,hky,hny,hksy,hcvy⟩:=NU hry
  ·show J _ _ _ _ [(BX b3 [s.1] 45),s.2] _
   refine Ze<|JLr (Zk (l:=pkT 0 0 zS nS nS) zeroValue51 rfl fun b5=>JLr (Zb 0 (vs:=pkT (y.kind) (y.num) (y.ref) ksy cvy) (l:=pkT (y.kind) (y.num) (y.ref) ksy cvy) Zu rfl rfl rfl rfl rfl (ZR hksy.one hcvy.one) (Yb ..)<|Za<|Zm<|Zd<|JLr (Zc K1 rfl (ZcN (hh _ _ (hin 1 _ rfl _ _ mem_cons_self))) rfl<|JLq (pp b5 2) (TO rfl rfl)<|JLr (Zn Yv rfl (ZcK 0 rfl) (QV ..)<|JLr (UZ (kV:=smV) (vV:=iV) (K:=K) (f:=idF K) (k:=(y.ref)) 0 CH underlying131 zeroValue3 rfl rfl (hh _ _ (Hle.hu _ _ _ _ hRb))<|JLM rfl<|JLn (Pu.extract rfl rfl) ?_)))))
   refine JLn (Pu.extract rfl rfl)<|JLA rfl<|JAn rfl<|Zd<|JLM rfl<|JLM rfl<|ZK 3 [21,22,23] [(23,cond (decide ((y.ref)∈K)) (.bool (decide (y.kind=6))) undef)] ?_ fun f7=>?_
   ·cases h6:(decide ((y.ref)∈K)) with
    | true=>
     replace h6:=dt h6
     refine JLq (pp b5 0) (Yh rfl rfl)<|JLr (Zc ty3 rfl (ZcK 0 rfl) (YE ..)<|JLn (Pu.eql rfl rfl) ?_)
     exact Za ⟨⟨rfl,trivial⟩,rfl⟩
    | false=>
     exact Z1 rfl ⟨rfl,trivial⟩
   refine JLn (ZcR rfl rfl rfl)<|Za<|Zt rfl (fun h8=>?_) (fun h8=>?_)
   ·obtain ⟨h8a,h8b⟩:=Xx h8
    replace h8a:=dt h8a
    replace h8b:=dt h8b
    refine Ze<|JLr (Zc YL rfl (ZcK 1 rfl) rfl<|JLM rfl<|JLr (Zj (vs:=[iv (if (y.ref)∈K then (idF K) (y.ref) else 0)]) [[iv (if (y.ref)∈K then (idF K) (y.ref) else 0)]] ZS el3 rfl rfl (al1 rfl) rfl (by decide) fun b9 k9 ho9 hk9=>?_))
    have hlens10:∀ e∈([[iv (if (y.ref)∈K then (idF K) (y.ref) else 0)]]:List (List Value)),List.length e=1:=al1 rfl
    have hoks10:∀ e∈([[iv (if (y.ref)∈K then (idF K) (y.ref) else 0)]]:List (List Value)),okc e:=al1 (Zh rfl Zq)
    refine JLr (ZA (i:=3) (n:=1) (es':=[[iv (if (y.ref)∈K then (idF K) (y.ref) else 0)]]) ZS ZS (Or.inl rfl) el3 rfl rfl rfl hI (fun F w m=>Src.row (((ZcS 0 rfl (by rw [hk9];exact mem_cons_self))).heap m) (Zx (Zw hlens10))) rfl hlens10 hoks10 (by decide) (by rw [Zv];omega) fun v10 k10 ho10=>JLr (Zb 2 (vs:=[v10]) (l:=[v10]) YL rfl rfl rfl (ZH ho10.one) rfl (Zh ho10.one Zq) rfl<|Za ?_))
    exact ⟨(v10,k10),rfl,(Sd (Sd (Sk (Sk Sub.nil)))),(by have z:=ho10;unfold dfF;rw [if_pos (show _∧_ by simpa using h8)];rw [if_pos (show _ from (by simpa using h8:_∧_).1),← Wa] at z;exact z)⟩
   refine Zo ?_
   exact ⟨(s.1,s.2),rfl,(Sd (Sk (Sk Sub.nil))),(by unfold dfF;rw [if_neg (by simpa using h8)];exact hI)⟩
  rintro v N ⟨s2,rfl,rfl,h2⟩;exact ⟨rfl,_,rfl,s2,rfl,h2⟩
 ·rintro s hI hp
  have hIF:=hI
  refine Zd<|JLr (Zc YL rfl (ZcK 0 rfl) rfl<|JLa (s.1)<|Za<|ZE s.1 [s.2] (Sd (Sk Sub.nil)) (?_))
  exact ⟨_,rfl,hIF⟩
 intro s _ hp;cases hp
end
theorem M4 (l:List (Sm×Tm)) (x:Int) (hx:x.toNat<l.length) (cs:List Value) (r:Nat) (H:Heap) (ht:RT H cs (l[x.toNat]).2) (hz:sizeT (l[x.toNat]).2≤400000) (hRb:H r=some (gmO smV iV (kSm l) (idF (kSm l)))):
    CT prog 128 ⟨[.agg ⟨cs⟩,.map (some r)]⟩ [] H (fun v N=>∃ k,N=[k]∧Own 3 1 v (Z2 (dfA l x)) k):=by
  have z:=Bm (kSm l) (l[x.toNat]).2 cs r H ht hz hRb
  rwa [← EA hx] at z
theorem J1 {l:List (Sm×Tm)} {x:Int} (hx:x.toNat<l.length):(dfA l x).length≤sizeT (l[x.toNat]).2:=by rw [EA hx];exact Bk _ _
theorem Cn (n:Nat):okO n []:=⟨by simp,fun x hx=>absurd hx (by simp)⟩
theorem Bn {n:Nat} {x:Int} {t:List Int} (hx:0≤x∧x<(n:Int)) (ok:okO n t) {a:Nat} (ha:a<(x::t).length):0≤(x::t)[a]∧(x::t)[a]<(n:Int):=by
  cases a with
  | zero=>exact hx
  | succ a=>exact ok.2 _ (getElem_mem (by simpa using ha))
theorem JT {n:Nat} {t:List Int} {k:Int} (h0:0≤k) (h1:k<(n:Int)):(flL n t).getD k.toNat false=decide (k∈t):=by
  rw [CY (by omega),Int.toNat_of_nonneg h0]
theorem N3 {c out:List Int} {p:Nat} (h:p<c.length):stO (fun _=>true) (c.take (p+1)) out=if c[p]∉stO (fun _=>true) (c.take p) out then stO (fun _=>true) (c.take p) out++[c[p]] else stO (fun _=>true) (c.take p) out:=by
  rw [WO h];simp
def clD (K:List Sm) (o:List Int) (k n:Int) (r:Sm):Int×Int×Sm:=if k=6∧r∈K∧idF K r∈o then (7,(o.idxOf (idF K r):Int),zS) else (k,n,r)
theorem ZaG {K:List Sm} {o:List Int} (ho:o.length≤1000) (Q:Int→Int→Sm→Prop):∀ k n r,inI k→inI n→Q k n r→inI (clD K o k n r).1∧inI (clD K o k n r).2.1:=fun k n r hk hn _=>by
  unfold clD;split
  · have:=List.idxOf_le_length (a:=idF K r) (l:=o)
    unfold inI;constructor <;> simp only <;> omega
  · exact ⟨hk,hn⟩
def pcB (l:List (Sm×Tm)) (x n:Int):Bool:=decide (n∈rqL l x)&&decide (x∈rqL l n)
def coL (l:List (Sm×Tm)) (x:Int):List Int:=ordB (pcB l x) (dfA l) l.length 0 [x]
theorem Zaz {l:List (Sm×Tm)} {x:Int} (h0:0≤x) (h1:x<(l.length:Int)):okO l.length (coL l x):=(Qf (Pn l) _ _ (okO.one h0 h1)).1
def clB (l:List (Sm×Tm)) (o:List Int) (n:Int):Tm:=mpT (clD (kSm l) o) ((l.map (·.2)).getD n.toNat dT)
theorem EN {l:List (Sm×Tm)} {o:List Int} {n:Int} (h:n.toNat<l.length):clB l o n=mpT (clD (kSm l) o) (l[n.toNat]).2:=by
  unfold clB;rw [getD_eq_getElem?_getD,getElem?_map,getElem?_eq_getElem h];rfl
def grL (l:List (Sm×Tm)) (x:Int):List Tm:=if 8<(coL l x).length then [] else (coL l x).map (clB l (coL l x))
def grE (l:List (Sm×Tm)) (x:Int):Int:=if 8<(coL l x).length then 2 else 0
theorem EM {l:List (Sm×Tm)} {o:List Int} {j:Nat} (h:j<o.length):(o.map (clB l o)).take (j+1)=(o.map (clB l o)).take j++[clB l o o[j]]:=by
  rw [take_succ_eq_append_getElem (by simpa using h)];simp
theorem Sf {l:List (Sm×Tm)} {x n:Int} (h0:0≤x) (h1:x<(l.length:Int)) (k0:0≤n) (k1:n<(l.length:Int)):pcB l x n=((flL l.length (rqL l x)).getD n.toNat false&&(flL l.length (rqL l n)).getD x.toNat false):=by
  unfold pcB;rw [JT k0 k1,JT h0 h1]
section
variable (D:Int→Int→Sm→Int×Int×Sm)
mutual
theorem QG:∀ t:Tm,sizeT (mpT D t)=sizeT t
  | .mk k n r kids cases=>by rw [mpT,sizeT,sizeT,P7 kids,P8 cases]
theorem P7:∀ l:List Tm,sizeTs (Rm D l)=sizeTs l
  | []=>rfl
  | t::l=>by rw [Rm,sizeTs,sizeTs,QG t,P7 l]
theorem P8:∀ l:List (Pt×Tm),sizeCs (Rn D l)=sizeCs l
  | []=>rfl
  | (p,t)::l=>by rw [Rn];simp only [sizeCs];rw [QG t,P8 l]
end
end
def bdL (l:List (Sm×Tm)):List Tm:=l.map (·.2)
theorem NN (l:List (Sm×Tm)):(bdL l).length=l.length:=length_map ..
theorem ZaR {l:List (Sm×Tm)} {j:Nat} (h:j<l.length):(bdL l)[j]'(by rw [NN];exact h)=(l[j]).2:=by simp [bdL]
theorem Zak {l:List (Sm×Tm)} (hz:∀ x∈l,sizeT x.2≤400000) {x:Int} (h0:0≤x) (h1:x<(l.length:Int)):∀ t∈grL l x,sizeT t≤400000:=fun t ht=>by
  unfold grL at ht
  split at ht
  · exact absurd ht (by simp)
  · obtain ⟨n,hn,rfl⟩:=mem_map.1 ht
    have b:=(Zaz h0 h1).2 n hn
    rw [EN (show n.toNat<l.length by omega),QG]
    exact hz _ (getElem_mem _)
theorem Zah {l:List (Sm×Tm)} {j:Nat} (hj:j<l.length) (hno:(l[j]).1∉(kSm l).take j):idF (kSm l) (l[j]).1=(j:Int):=by
  have hk:j<(kSm l).length:=by rw [Sx];exact hj
  have e:(kSm l)[j]=(l[j]).1:=by simp [kSm]
  have e2:kSm l=(kSm l).take j++((l[j]).1::(kSm l).drop (j+1)):=by rw [← e,← drop_eq_getElem_cons hk,take_append_drop]
  unfold idF
  have:(kSm l).idxOf (l[j]).1=j:=by
    rw [e2,List.idxOf_append,if_neg hno,List.idxOf_cons_self,length_take];omega
  rw [this]
theorem FZ {l:List (Sm×Tm)} {j:Nat} (h:j<l.length):(kSm l).take (j+1)=(kSm l).take j++[(l[j]).1]:=by
  rw [take_succ_eq_append_getElem (by rw [Sx];exact h)];simp [kSm]
def bkE (l:List (Sm×Tm)):Int:=if 40<l.length then 2 else if Wd (ZG 0 0) (bdL l)=0 then (if (kSm l).Nodup then 0 else 5) else Wd (ZG 0 0) (bdL l)
theorem L5 {K:List Sm} {s:Sm} (h:K.Nodup) (hs:s∉K):(K++[s]).Nodup:=by
  rw [nodup_append];exact ⟨h,by simp,fun a ha b hb=>by rw [mem_singleton] at hb;subst hb;exact fun e=>hs (e▸ha)⟩
theorem BJ {l:List (Sm×Tm)} {j:Nat} (hj:j<l.length) (h:(l[j]).1∈(kSm l).take j):¬ (kSm l).Nodup:=fun nd=>by
  have hk:j<(kSm l).length:=by rw [Sx];exact hj
  have e:(kSm l)[j]=(l[j]).1:=by simp [kSm]
  have e2:kSm l=(kSm l).take j++((l[j]).1::(kSm l).drop (j+1)):=by rw [← e,← drop_eq_getElem_cons hk,take_append_drop]
  rw [e2,nodup_append] at nd
  exact nd.2.2 _ h _ mem_cons_self rfl
def MN (f:Nat→Int):Nat→Int
  | 0=>0
  | n+1=>if MN f n=0 then f n else MN f n
theorem SB {f:Nat→Int}:∀ {n:Nat},(∀ i,i<n→f i=0)→MN f n=0
  | 0,_=>rfl
  | n+1,h=>by rw [MN,if_pos (SB fun i hi=>h i (by omega))];exact h n (by omega)
theorem SA {f:Nat→Int} {j:Nat} (h:∀ i,i<j→f i=0) (hj:¬ f j=0):∀ {n:Nat},j<n→MN f n=f j
  | 0,q=>absurd q (by omega)
  | n +1,q=>by
    by_cases e:j=n
    · subst e;rw [MN,if_pos (SB h)]
    · have:=SA h hj (n:=n) (by omega)
      rw [MN,this,if_neg hj]
noncomputable def vfS (l:List (Sm×Tm)) (i:Nat):Int:=if grE l i=0 then (if kCe (grL l i) 0=0 then (if sha (kCb (grL l i) 0)=(kSm l).getD i zS then 0 else 14) else kCe (grL l i) 0) else grE l i
noncomputable def vfE (l:List (Sm×Tm)):Int:=if bkE l=0 then MN (vfS l) l.length else bkE l
theorem JD {l:List (Sm×Tm)} {j:Nat} (h:j<l.length):(kSm l).getD j zS=(l[j]).1:=by
  unfold kSm;rw [getD_eq_getElem?_getD,getElem?_map,getElem?_eq_getElem h];rfl
theorem Zae {l:List Tm} (i:Int) (h:kCe l i=0):(kCb l i).length≤250000∧∀ x∈kCb l i,0≤x∧x≤255:=by
  by_cases c:YI (ZG 0) l=0
  · by_cases d:i<0∨(l.length:Int)≤i
    · have:=F1 c d;rw [this.1] at h;cases h
    · have:=JE c d
      rw [this.1] at h
      rw [this.2,Al h]
      exact Am (V6 c) (by omega)
  · have:=F2 (i:=i) c;rw [this.1] at h;exact absurd h c
def vaT (n:Int):Tm:=.mk 1 n zS [] []
def nuT (n:Int):Tm:=.mk 2 n zS [] []
def laT (t:Tm):Tm:=.mk 3 0 zS [t] []
def apT (f x:Tm):Tm:=.mk 4 0 zS [f,x] []
def seT (n:Int):Tm:=.mk 7 n zS [] []
def prT (o:Int) (a b:Tm):Tm:=.mk 10 o zS [a,b] []
def Xd:List Tm:=[laT (apT (seT 1) (vaT 0)),laT (apT (seT 0) (vaT 0))]
def Um:List Tm:=[laT (apT (seT 0) (vaT 0))]
def Sg (is other:Int):Tm:=laT (.mk 9 0 zS [vaT 0] [(.mk 2 0 zS [],nuT is),(.mk 1 0 zS [],apT (seT other) (prT 2 (vaT 0) (nuT 1)))])
def parT:List Tm:=[Sg 1 1,Sg 0 0]
def twoT:List Tm:=[nuT 1,prT 1 (seT 0) (seT 0)]
theorem J7:YI (ZG 0) Xd=0:=by kernel_rfl
theorem ZaI:YI (ZG 0) Um=0:=by kernel_rfl
theorem KI:YI (ZG 0) parT=0:=by kernel_rfl
theorem EO:YI (ZG 0) twoT=0:=by kernel_rfl
theorem Ql:frI Xd=[0,0]:=by
  have hb:VT Xd 1 0:=SV (R:=fun i j=>i<2∧j<2) (fun i j r=>by
      obtain ⟨a,b⟩:=r
      match i,j,a,b with
      | 0,0,_,_=>rfl
      | 0,1,_,_=>rfl
      | 1,0,_,_=>rfl
      | 1,1,_,_=>rfl) (fun i j r k hk=>by
      obtain ⟨a,b⟩:=r
      match i,j,a,b with
      | 0,0,_,_=>cases k with | zero=>decide | succ k=>exact absurd hk (by show ¬ k+1<1;omega)
      | 0,1,_,_=>cases k with | zero=>decide | succ k=>exact absurd hk (by show ¬ k+1<1;omega)
      | 1,0,_,_=>cases k with | zero=>decide | succ k=>exact absurd hk (by show ¬ k+1<1;omega)
      | 1,1,_,_=>cases k with | zero=>decide | succ k=>exact absurd hk (by show ¬ k+1<1;omega)) 1 0 ⟨by decide,by decide⟩
  have e0:firstN Xd 0=0:=by have:=Tf (l:=Xd) (i:=0) (by decide);omega
  have e1:firstN Xd 1=0:=Tg (by decide) hb (fun a ha=>absurd ha (by omega))
  unfold frI
  show [(firstN Xd 0:Int),(firstN Xd 1:Int)]=[0,0]
  rw [e0,e1];rfl
theorem Ej:frI Um=[0]:=by
  have e0:firstN Um 0=0:=by have:=Tf (l:=Um) (i:=0) (by decide);omega
  unfold frI
  show [(firstN Um 0:Int)]=[0]
  rw [e0];rfl
theorem Nr {l:List Tm} (hl:l.length=2) (h:¬ e0L l 1 0):frI l=[0,1]:=by
  have e0:firstN l 0=0:=by have:=Tf (l:=l) (i:=0) (by omega);omega
  have e1:firstN l 1=1:=Tg (by omega) (Ry l 1) (fun a ha b=>by
    obtain rfl:a=0:=by omega
    exact h (Uf b))
  unfold frI
  rw [hl]
  show [(firstN l 0:Int),(firstN l 1:Int)]=[0,1]
  rw [e0,e1];rfl
theorem Ns:frI parT=[0,1]:=Nr rfl (fun h=>by
  have e:YJ 2 (Sg 0 0)=YJ 2 (Sg 1 1):=h
  simp [YJ,Sg,laT,nuT,vaT,apT,seT,prT,Z8,ZZ,ZW] at e)
theorem Kh:frI twoT=[0,1]:=Nr rfl (fun h=>by
  have e:YJ 2 (prT 1 (seT 0) (seT 0))=YJ 2 (nuT 1):=h
  simp [YJ,nuT,seT,prT,Z8,ZZ,ZW] at e)
theorem Qi:mkL Xd=[laT (apT (seT 0) (vaT 0)),laT (apT (seT 0) (vaT 0))]:=by unfold mkL;rw [Ql];rfl
theorem FI:mkL Um=Um:=by unfold mkL;rw [Ej];rfl
theorem Pb:mkL parT=parT:=by unfold mkL;rw [Ns];rfl
theorem Ka:mkL twoT=twoT:=by unfold mkL;rw [Kh];rfl
theorem AZ:Y8 parT 1=[1,0]:=by kernel_rfl
theorem Fd {l:List Int} {n x:Int} {j:Nat} (h:∀ y∈l,0≤y∧y<n) (hx:0≤x∧x<n):∀ y∈l.set j x,0≤y∧y<n:=fun y hy=>by
  rcases List.mem_or_eq_of_mem_set hy with q | q
  · exact h y q
  · rw [q];exact hx
theorem Fe {l:List Int} {n:Int} (h:∀ y∈l,0≤y∧y<n) (hn:0<n) (i:Nat):0≤l.getD i 0∧l.getD i 0<n:=by
  rw [getD_eq_getElem?_getD]
  cases e:l[i]? with
  | none=>exact ⟨Int.le_refl _,hn⟩
  | some x=>exact h x (mem_of_getElem? e)
theorem Tc {l:List Tm} {n z d:Int} {t:Tm} (h:∀ t∈l,ZV 0 n 0 t=0∧((sizeT t:Int)≤z∧Yj t≤d)) (g:ZV 0 n 0 t=0∧((sizeT t:Int)≤z∧Yj t≤d)):∀ u∈l++[t],ZV 0 n 0 u=0∧((sizeT u:Int)≤z∧Yj u≤d):=fun u hu=>by
  rcases mem_append.1 hu with q | q
  · exact h u q
  · rw [mem_singleton.1 q];exact g
theorem Ag {n m z d:Int} {t:Tm} (h:ZV 0 n 0 t=0) (h0:0≤m) (h1:m<n) (hz:(sizeT t:Int)+2≤z) (hd:Yj t+1≤d∧2≤d):ZV 0 n 0 (prT 1 t (seT m))=0∧((sizeT (prT 1 t (seT m)):Int)≤z∧Yj (prT 1 t (seT m))≤d):=by
  refine ⟨Oi (by omega) (by omega) (by simpa using h) (show ZV 0 n (0+0) (seT m)=0 from Oh h0 h1),?_⟩
  have e1:sizeT (prT 1 t (seT m))=sizeT t+2:=by simp [prT,seT,sizeT,sizeTs,sizeCs];omega
  have e2:Yj (prT 1 t (seT m))≤max (Yj t) 1+1:=by simp only [prT,seT,Yj,Yi,Yo];omega
  omega
def smI (cs:List Int) (o:Int) (j:Nat):List Int:=((range j).filter fun c=>decide (cs.getD c 0=o)).map fun c:Nat=>(c:Int)
theorem DV {cs:List Int} {o:Int} {j:Nat} (hj:j<cs.length) (h:cs[j]=o):smI cs o (j+1)=smI cs o j++[(j:Int)]:=by
  unfold smI
  rw [range_succ,filter_append,map_append]
  have e:decide (cs.getD j 0=o)=true:=decide_eq_true (by rw [getD_eq_getElem?_getD,getElem?_eq_getElem hj];exact h)
  rw [filter_cons,if_pos e];rfl
theorem AC {cs:List Int} {o:Int} {j:Nat} (hj:j<cs.length) (h:¬ cs[j]=o):smI cs o (j+1)=smI cs o j:=by
  unfold smI
  rw [range_succ,filter_append,map_append]
  have e:¬ decide (cs.getD j 0=o)=true:=fun q=>h (by have:=of_decide_eq_true q;rw [getD_eq_getElem?_getD,getElem?_eq_getElem hj] at this;exact this)
  rw [filter_cons,if_neg e];simp
theorem DY (cs:List Int) (o:Int) (j:Nat):(smI cs o j).length≤j:=by
  unfold smI
  rw [length_map]
  have:=length_filter_le (fun c=>decide (cs.getD c 0=o)) (range j)
  rwa [length_range] at this
theorem DX {cs:List Int} {o:Int} {j:Nat} {x:Int} (h:x∈smI cs o j):0≤x∧x<(j:Int)∧cs.getD x.toNat 0=o:=by
  unfold smI at h
  obtain ⟨c,hc,rfl⟩:=mem_map.1 h
  rw [mem_filter,mem_range] at hc
  exact ⟨by omega,by omega,by simpa using hc.2⟩
theorem DW {cs:List Int} {o:Int} (h:o∈cs):0<(smI cs o cs.length).length:=by
  obtain ⟨k,hk,e⟩:=List.getElem_of_mem h
  apply List.length_pos_of_mem (a:=(k:Int))
  unfold smI
  refine mem_map.2 ⟨k,?_,rfl⟩
  rw [mem_filter,mem_range]
  exact ⟨hk,by rw [getD_eq_getElem?_getD,getElem?_eq_getElem hk];simpa using e⟩
theorem DZ {cs:List Int} {o:Int} {j i:Nat} (h:i<(smI cs o j).length):0≤(smI cs o j).getD i 0∧(smI cs o j).getD i 0<(j:Int)∧cs.getD ((smI cs o j).getD i 0).toNat 0=o:=by
  rw [getD_eq_getElem?_getD (l:=smI cs o j),getElem?_eq_getElem h]
  exact DX (getElem_mem h)
def cpQ (cp:List Int) (c o:Int):Prop:=0≤c∧c<(cp.length:Int)∧cp.getD c.toNat 0=o
mutual
def Lo:Tm→Prop
  | .mk k _ r kids cases=>(k=7→r=zS∧kids=[]∧cases=[])∧UV kids∧UW cases
def UV:List Tm→Prop
  | []=>True
  | t::l=>Lo t∧UV l
def UW:List (Pt×Tm)→Prop
  | []=>True
  | c::l=>Lo c.2∧UW l
end
theorem KP {l m:List Tm} (h:UV l) (g:UV m):UV (l++m):=by
  induction l with
  | nil=>exact g
  | cons t l ih=>exact ⟨h.1,ih h.2⟩
theorem KQ {l m:List (Pt×Tm)} (h:UW l) (g:UW m):UW (l++m):=by
  induction l with
  | nil=>exact g
  | cons t l ih=>exact ⟨h.1,ih h.2⟩
def CPt (cp:List Int) (t u:Tm):Prop:=YJ 0 u=YJ 0 t∧Fo (cpQ cp) (sfR u) (sfR t)∧Lo u
def CPs (cp:List Int) (l m:List Tm):Prop:=ZZ (replicate 0 0) [] m=ZZ (replicate 0 0) [] l∧Fo (cpQ cp) (Yl m) (Yl l)∧UV m
def CPc (cp:List Int) (l m:List (Pt×Tm)):Prop:=ZW (replicate 0 0) [] m=ZW (replicate 0 0) [] l∧Fo (cpQ cp) (Yp m) (Yp l)∧UW m
theorem GC (l m:List Tm):Yl (l++m)=Yl l++Yl m:=by
  induction l with
  | nil=>rfl
  | cons t l ih=>rw [cons_append,Yl,Yl,ih,append_assoc]
theorem GD (l m:List (Pt×Tm)):Yp (l++m)=Yp l++Yp m:=by
  induction l with
  | nil=>rfl
  | cons t l ih=>rw [cons_append,Yp,Yp,ih,append_assoc]
theorem CPs.nil (cp:List Int):CPs cp [] []:=⟨rfl,.nil,trivial⟩
theorem CPc.nil (cp:List Int):CPc cp [] []:=⟨rfl,.nil,trivial⟩
theorem CPs.snoc {cp:List Int} {l m:List Tm} {j:Nat} {u:Tm} (hj:j<l.length) (h:CPs cp (l.take j) m) (g:CPt cp l[j] u):CPs cp (l.take (j+1)) (m++[u]):=by
  obtain ⟨g1,g2,g3⟩:=g
  unfold YJ at g1
  refine ⟨?_,?_,KP h.2.2 ⟨g3,trivial⟩⟩
  · rw [LS _ _ _ _ hj,Vy,map_append,← Vy,h.1,← g1];rfl
  · rw [Iz hj,GC]
    refine h.2.1.app ?_
    simpa [Yl] using g2
theorem CPc.snoc {cp:List Int} {l m:List (Pt×Tm)} {j:Nat} {u:Tm} (hj:j<l.length) (h:CPc cp (l.take j) m) (g:CPt cp l[j].2 u):CPc cp (l.take (j+1)) (m++[(l[j].1,u)]):=by
  obtain ⟨g1,g2,g3⟩:=g
  unfold YJ at g1
  refine ⟨?_,?_,KQ h.2.2 ⟨g3,trivial⟩⟩
  · rw [LT _ _ _ _ hj,Vz,map_append,← Vz,h.1,← g1];rfl
  · rw [IA hj,GD]
    refine h.2.1.app ?_
    simpa [Yp] using g2
theorem Zdy {cp:List Int} {k n n':Int} {r:Sm} {kids ts:List Tm} {cases cs:List (Pt×Tm)} (h7:k=7→cpQ cp n' n∧kids=[]∧cases=[]∧r=zS) (hn:¬ k=7→n'=n) (h1:CPs cp kids ts) (h2:CPc cp cases cs):CPt cp (.mk k n r kids cases) (.mk k n' r ts cs):=by
  unfold CPt YJ
  by_cases e:k=7
  · obtain ⟨q,rfl,rfl,rfl⟩:=h7 e
    subst e
    have e1:ts=[]:=by have:=h1.1;cases ts with
      | nil=>rfl
      | cons t l=>simp [ZZ] at this
    have e2:cs=[]:=by have:=h2.1;cases cs with
      | nil=>rfl
      | cons t l=>simp [ZW] at this
    subst e1 e2
    rw [Z8,if_pos rfl,Z8,if_pos rfl,Xw,Xw,if_neg (by omega),if_neg (by omega),sfR,if_pos rfl,sfR,if_pos rfl]
    exact ⟨rfl,.cons q .nil,fun _=>⟨rfl,rfl,rfl⟩,trivial,trivial⟩
  · rw [Z8,if_neg e,Z8,if_neg e,sfR,if_neg e,sfR,if_neg e,hn e,h1.1,h2.1]
    exact ⟨rfl,h1.2.1.app h2.2.1,fun q=>absurd q e,h1.2.2,h2.2.2⟩
theorem CV {d m b n:Int} {r:Sm} {kids:List Tm} {cases:List (Pt×Tm)} (h:ZV d m b (.mk 7 n r kids cases)=0):kids=[]∧cases=[]∧0≤n∧n<m∧r=zS:=by
  have q:=Ta (Xi h).1
  exact ⟨eq_nil_of_length_eq_zero q.2.1,eq_nil_of_length_eq_zero q.2.2.1,q.2.2.2.1,q.2.2.2.2,q.1⟩
theorem Eg {d m k:Int}:∀ {b:Int} {i:Nat} {l:List Tm} {j:Nat} (hj:j<l.length),Z0 d m b k i l=0→∃ b',ZV d m b' l[j]=0
  | b,i,t::l,j,hj,h=>by
    rw [Z0] at h
    split at h
    · rename_i h0
      cases j with
      | zero=>exact ⟨_,h0⟩
      | succ j=>exact Eg (l:=l) (by simpa using hj) h
    · exact absurd h (by assumption)
theorem JH {d m:Int}:∀ {b:Int} {l:List (Pt×Tm)} {j:Nat} (hj:j<l.length),Yc d m b l=0→∃ b',ZV d m b' l[j].2=0
  | b,(p,t)::l,j,hj,h=>by
    rw [Yc] at h
    split at h
    · rename_i h0
      cases j with
      | zero=>exact ⟨_,h0⟩
      | succ j=>exact JH (l:=l) (by simpa using hj) h
    · exact absurd h (by assumption)
def gdT (m:Int) (t:Tm):Prop:=∃ b,ZV 0 m b t=0
theorem gdT.kid {m k n:Int} {r:Sm} {kids:List Tm} {cases:List (Pt×Tm)} (h:gdT m (.mk k n r kids cases)) {j:Nat} (hj:j<kids.length):gdT m kids[j]:=by
  obtain ⟨b,h⟩:=h;exact Eg hj (Xi h).2.2.1
theorem gdT.cas {m k n:Int} {r:Sm} {kids:List Tm} {cases:List (Pt×Tm)} (h:gdT m (.mk k n r kids cases)) {j:Nat} (hj:j<cases.length):gdT m cases[j].2:=by
  obtain ⟨b,h⟩:=h;exact JH hj (Xi h).2.2.2
theorem gdT.self {m k n:Int} {r:Sm} {kids:List Tm} {cases:List (Pt×Tm)} (h:gdT m (.mk k n r kids cases)) (e:k=7):kids=[]∧cases=[]∧0≤n∧n<m∧r=zS:=by
  subst e;obtain ⟨b,h⟩:=h;exact CV h
theorem Ra {l:List Tm} {j:Nat} (h:j<l.length):sizeTs (l.take (j+1))=sizeTs (l.take j)+sizeT l[j]:=by
  rw [take_succ_eq_append_getElem h]
  induction l.take j with
  | nil=>simp [sizeTs]
  | cons t l ih=>simp only [cons_append,sizeTs];omega
theorem Rc {l:List (Pt×Tm)} {j:Nat} (h:j<l.length):sizeCs (l.take (j+1))=sizeCs (l.take j)+sizeP l[j].1+sizeT l[j].2:=by
  rw [take_succ_eq_append_getElem h]
  induction l.take j with
  | nil=>simp [sizeCs]
  | cons t l ih=>simp only [cons_append,sizeCs];omega
section
attribute [local irreducible] JL J CT wlo DT
theorem Re (bS:Nat) (v:Value) (l:List Int) (a s:Int) (H:Heap) (hv:Hs.rdS RB 1 H v l) (ha0:0≤a) (ha1:a≤2000000000) (m:Int):CT prog 64 ⟨[pp bS 0,iv m]⟩ [(BX bS [v,iv a,.int .u64 s] 109)] H (fun r N=>∃ q a' s',r=.bool q∧N=[(BX bS [v,iv (a'),.int .u64 (s')] 109)]∧a≤a'∧a'≤a+1):=by
 refine Zl func64 rfl rfl<|Zd<|JAn rfl<|Zd<|JLM rfl<|JLM rfl<|Zs 0 rfl call22 rfl rfl (fun hin=>Yw _ _ _ _ _ _ (RBs.mono (Hle.hu _ _) hv) (by omega) (by omega) _) rfl ?_
 rintro _ _ ⟨n1,a1,s1,rfl,rfl,hn1,ha1⟩
 refine JLn (Pu.eql rfl rfl)<|JAn rfl<|Zz<|⟨.bool (decide (n1=0)),[(BX bS [v,iv a1,.int .u64 s1] 109)],Ret.one rfl (RV.tmp rfl),(Sk Sub.nil),?_⟩
 exact ⟨_,_,_,rfl,rfl,by omega⟩
set_option maxHeartbeats 2000000 in
theorem L1 (bS:Nat) (v:Value) (l:List Int) (a s:Int) (H:Heap) (hv:Hs.rdS RB 1 H v l) (ha0:0≤a) (ha1:a≤1000000000) (n:Nat) (hn:n≤100):CT prog 20 ⟨[pp bS 0,iv ((n:Int))]⟩ [(BX bS [v,iv a,.int .u64 s] 109)] H (fun r N=>∃ k out a' s',N=[k,(BX bS [v,iv (a'),.int .u64 (s')] 109)]∧Own 3 1 r (Z2 out) k∧out.length=n∧(∀ x∈out,0≤x∧x<(n:Int))∧(a≤a'∧a'≤a+n)):=by
 refine Zl func20 rfl rfl<|Zd<|JAn rfl<|Zd<|JLM rfl<|JLr (Uj n ZS el3 rfl rfl rfl rfl (by omega) (by omega) fun v1 k1 ho1=>?_)
 rw [MI] at ho1
 refine JLa v1<|Za<|Zg<|Zd<|JLm v1 ?_
 obtain ⟨a2,cap2,hv2⟩:=ho1.sl
 rw [Zv] at hv2
 refine JLn (ZcM ZS hv2)<|JLM rfl<|Za<|Zm ?_
 rw [show ((replicate n (0:Int)).length:Int)=(n:Int) by rw [length_replicate]]
 refine ZD (fun k ρ M=>∃ (j:Nat) (out:List Int) (y1:Value) (q1:Zf) (a1 s1:Int),ρ 0=pp bS 0∧ρ 4=nS∧ρ 5=y1∧ρ 11=iv ((n:Int))∧ρ 12=iv ((j:Int))∧Sub [q1,(BX bS [v,iv a1,.int .u64 s1] 109)] M∧j≤n∧Own 3 1 y1 (Z2 out) q1∧out.length=n∧(∀ x∈out,0≤x∧x<(n:Int))∧(a≤a1∧a1≤a+j)∧k=n-j) _ ⟨0,(replicate n 0),v1,k1,a,s,rfl,rfl,rfl,rfl,rfl,(Sk (Sk Sub.nil)),Nat.zero_le _,ho1,length_replicate ..,(fun x hx=>by obtain ⟨h1,rfl⟩:=List.mem_replicate.1 hx;omega),(by omega),rfl⟩ ?_
 rintro _ ρ3 _ ⟨j,out,y1,q1,a1,s1,e4,e5,e6,e7,e8,hm9,hj,how1,hol,hor,ha,rfl⟩
 obtain ⟨ρ10,rfl⟩:=Zi (uc e4 (uc e5 (uc e6 (uc e7 (uc e8 un)))))
 clear e4 e5 e6 e7 e8
 refine ZF hm9<|Zd<|JLn (Pu.lss rfl rfl)<|Za<|Zg<|Zt rfl (fun h11=>?_) (fun h11=>?_)
 ·replace h11:=dt h11
  have h11n:j<n:=by omega
  have hjo:j<out.length:=by omega
  refine Zo<|Zg<|Zm<|Zd<|JLM rfl<|JAn rfl<|Zd<|JLM rfl<|JLM rfl<|JLn (ZcP rfl rfl (by omega)) ?_
  refine Zs 1 rfl call22 rfl rfl (fun hin=>Yw _ _ _ _ _ _ (RBs.mono (Hle.hu _ _) hv) (by omega) (by omega) _) rfl ?_
  rintro _ _ ⟨n12,a12,s12,rfl,rfl,hn12,ha12⟩
  refine JAn rfl<|Ze<|JLm y1<|JLM rfl<|JLm y1<|JLM rfl<|JLm y1<|JLM rfl ?_
  obtain ⟨b13,cap13,row13,hv13,hm13,hs13⟩:=how1.at (j:=n12.toNat) (by rw [Zv];first | assumption | omega)
  rw [Yg _ _ (by first | assumption | omega)] at hs13
  rw [← (show out.getD (n12.toNat) 0=out[n12.toNat] from YO (by omega))] at hs13
  refine JLq (pp b13 (0+n12.toNat*1)) (Pu.idx n12.toNat ZS ty3 hv13 rfl (by first | rfl | omega) (by rw [Zv];first | assumption | omega))<|JLr (Zc ty3 rfl (ZcS 1 rfl hm13) (ZP hs13)<|JLM rfl ?_)
  obtain ⟨b14,cap14,row14,hv14,hm14,hs14⟩:=how1.at (j:=j) (by rw [Zv];first | assumption | omega)
  rw [Yg _ _ (by first | assumption | omega)] at hs14
  refine JLn (Pu.idx j ZS ty3 hv14 rfl rfl (by rw [Zv];first | assumption | omega))<|JLr (Y7 (i:=1) (j:=j) (b:=b14) (e':=[iv ((out.getD n12.toNat 0))]) ty3 rfl how1 ⟨_,_,hv14⟩ rfl (by rw [Zv];first | assumption | omega) rfl rfl rfl (Zh rfl Zq) fun k15 ho15=>?_)
  rw [Pg] at ho15
  obtain ⟨b16,cap16,row16,hv16,hm16,hs16⟩:=ho15.at (j:=n12.toNat) (by rw [Zv];simp only [length_set];first | assumption | omega)
  rw [Yg _ _ (by simp only [length_set];first | assumption | omega)] at hs16
  rw [← (show (List.set out j ((out.getD n12.toNat 0))).getD (n12.toNat) 0=(List.set out j ((out.getD n12.toNat 0)))[n12.toNat]'(by simp only [length_set];omega) from YO (by simp only [length_set];omega))] at hs16
  refine JLq (pp b16 (0+n12.toNat*1)) (Pu.idx n12.toNat ZS ty3 hv16 rfl (by first | rfl | omega) (by rw [Zv];simp only [length_set];first | assumption | omega))<|JLr (Y7 (i:=1) (j:=(n12.toNat)) (b:=b16) (e':=[iv ((j:Int))]) ty3 rfl ho15 ⟨_,_,hv16⟩ rfl (by rw [Zv];simp only [length_set];first | assumption | omega) rfl rfl rfl (Zh rfl Zq) fun k17 ho17=>?_)
  rw [Pg] at ho17
  refine Za<|Ze<|JLn (ZcP rfl rfl (by omega))<|JLM rfl<|Za<|⟨_,?_,(j+1),(List.set (List.set out j ((out.getD n12.toNat 0))) (n12.toNat) ((j:Int))),y1,k17,a12,s12,rfl,rfl,rfl,rfl,rfl,(Sub.cons 1 rfl (Sk Sub.nil)),?_,?_,?_,?_,?_,rfl⟩
  ·omega
  ·omega
  ·exact ho17
  ·rw [length_set,length_set];exact hol
  ·exact Fd (Fd hor (Fe hor (by omega) _)) (by omega)
  omega
 replace h11:=df h11
 have h11n:n≤j:=by omega
 refine ZC _ rfl<|Zd<|JLm y1<|JLa y1<|Za<|Zz<|⟨y1,[q1,(BX bS [v,iv a1,.int .u64 s1] 109)],Ret.one rfl (RV.tmp rfl),(Sk (Sk Sub.nil)),?_⟩
 exact ⟨_,_,_,_,rfl,how1,hol,hor,by omega⟩
end
def Sl:List Tm:=[Sg 1 0]
def QW:List Tm:=[Sg 0 1,Sg 1 0]
def b0P:List Int:=Yf (Ye parT 0)
def b1P:List Int:=Yf (Ye parT 1)
def b2P:List Int:=Yf (Ye Sl 0)
def q0P:Sm:=sha b0P
def q1P:Sm:=sha b1P
theorem Id {x y:Nat} (hx:x<256) (hy:y<256) (h:UInt8.ofNat x=UInt8.ofNat y):x=y:=by
  have:=congrArg UInt8.toNat h
  rw [UInt8.toNat_ofNat',UInt8.toNat_ofNat'] at this
  omega
theorem n0P:(b0P++VC b0P.length b0P.length).length=64*2:=by kernel_rfl
theorem n1P:(b1P++VC b1P.length b1P.length).length=64*2:=by kernel_rfl
theorem n2P:(b2P++VC b2P.length b2P.length).length=64*1:=by kernel_rfl
theorem Zcl:Nat.beq (Nat.shiftRight ((SW 2 beN (b0P++VC b0P.length b0P.length)).getD 0 0) 24 % 256) (Nat.shiftRight ((SW 2 beN (b1P++VC b1P.length b1P.length)).getD 0 0) 24 % 256)=false:=by kernel_rfl
theorem Zck:Nat.beq (Nat.shiftRight ((SW 1 beN (b2P++VC b2P.length b2P.length)).getD 0 0) 24 % 256) (Nat.shiftRight ((SW 2 beN (b1P++VC b1P.length b1P.length)).getD 0 0) 24 % 256)=false:=by kernel_rfl
theorem q01:q0P≠q1P:=fun e=>by
  have a:=(OZ 2 n0P).1
  have b:=(OZ 2 n1P).1
  unfold q0P q1P at e
  rw [e,b] at a
  have h:=Id (Nat.mod_lt _ (by decide)) (Nat.mod_lt _ (by decide)) a
  have w:=Zcl
  rw [h,Nat.beq_refl] at w;cases w
theorem q21:sha b2P≠q1P:=fun e=>by
  have a:=(OZ 1 n2P).1
  have b:=(OZ 2 n1P).1
  unfold q1P at e
  rw [e,b] at a
  have h:=Id (Nat.mod_lt _ (by decide)) (Nat.mod_lt _ (by decide)) a
  have w:=Zck
  rw [h,Nat.beq_refl] at w;cases w
theorem SE {l:List Tm} {v:List Int} (h:frI l=v) {i:Nat} (hi:i<l.length):(firstN l i:Int)=v.getD i 0:=by
  rw [← h,getD_eq_getElem?_getD,getElem?_eq_getElem (by rw [Yy];exact hi),Option.getD_some,WA hi]
theorem JP:firstN parT 0=0:=by have:=SE Ns (i:=0) (by decide);simp at this;omega
theorem JO:firstN parT 1=1:=by have:=SE Ns (i:=1) (by decide);simp at this;omega
theorem MQ:firstN Xd 0=0:=by have:=SE Ql (i:=0) (by decide);simp at this;omega
theorem MP:firstN Xd 1=0:=by have:=SE Ql (i:=1) (by decide);simp at this;omega
theorem JQ:firstN Um 0=0:=by have:=SE Ej (i:=0) (by decide);simp at this;omega
theorem cr_par:cR parT 0=0∧cR parT 1=0:=by
  refine ⟨?_,?_⟩
  · rw [VQ,Pb,JP];kernel_rfl
  · rw [VQ,Pb,JO];kernel_rfl
theorem cr_ring:cR Xd 0=0∧cR Xd 1=0:=by
  refine ⟨?_,?_⟩
  · rw [VQ,Qi,MQ];kernel_rfl
  · rw [VQ,Qi,MP];kernel_rfl
theorem Zav:cR Um 0=0:=by rw [VQ,FI,JQ];kernel_rfl
theorem PA {l m:List Tm} {i k:Nat} (h:mkL l=m) (hk:firstN l i=k):cB l i=Yf (Ye m k):=by unfold cB;rw [h,hk]
theorem b0P_def:b0P=Yf (Ye parT 0):=by delta b0P;exact Eq.refl _
theorem b1P_def:b1P=Yf (Ye parT 1):=by delta b1P;exact Eq.refl _
theorem NI:cB parT 0=b0P:=(PA Pb JP).trans b0P_def.symm
theorem Ic:cB parT 1=b1P:=(PA Pb JO).trans b1P_def.symm
def bRP:List Int:=[168,1,1,131,0,1,132,0,2,7,0,1,0]
theorem JY:Yf (Ye [laT (apT (seT 0) (vaT 0)),laT (apT (seT 0) (vaT 0))] 0)=bRP:=by kernel_rfl
theorem Zar:Yf (Ye Um 0)=bRP:=by kernel_rfl
theorem ET:cB Xd 0=bRP:=(PA Qi MQ).trans JY
theorem ES:cB Xd 1=bRP:=(PA Qi MP).trans JY
theorem Bx:cB Um 0=bRP:=(PA FI JQ).trans Zar
theorem Ep {l:List Tm} (hl:l.length=2) (h0:cR l 0=0) (h1:cR l 1=0):erR l=0∧smO l=smG l:=by
  have:=OR (l:=l) (fun k hk=>by
    match k,hk with
    | 0,_=>exact h0
    | 1,_=>exact h1
    | k+2,hk=>omega)
  exact ⟨this.1,this.2.1⟩
theorem ks_par:kSe parT=0∧kSs parT=[q0P,q1P]:=by
  have a:=On KI
  have b:=Ep (l:=parT) rfl cr_par.1 cr_par.2
  rw [a.1,a.2,b.1,b.2]
  refine ⟨rfl,?_⟩
  show [sha (cB parT 0),sha (cB parT 1)]=_
  rw [NI,Ic];rfl
theorem ks_ring:kSe Xd=0∧kSs Xd=[sha bRP,sha bRP]:=by
  have a:=On J7
  have b:=Ep (l:=Xd) rfl cr_ring.1 cr_ring.2
  rw [a.1,a.2,b.1,b.2]
  refine ⟨rfl,?_⟩
  show [sha (cB Xd 0),sha (cB Xd 1)]=_
  rw [ET,ES]
theorem ks_one:kSe Um=0∧kSs Um=[sha bRP]:=by
  have a:=On ZaI
  have b:=OR (l:=Um) (fun k hk=>by
    match k,hk with
    | 0,_=>exact Zav
    | k+1,hk=>exact absurd hk (by show ¬ k+1<1;omega))
  rw [a.1,a.2,b.1,b.2.1]
  refine ⟨rfl,?_⟩
  show [sha (cB Um 0)]=_
  rw [Bx]
theorem JN:firstN twoT 0=0:=by have:=SE Kh (i:=0) (by decide);simp at this;omega
theorem JM:firstN twoT 1=1:=by have:=SE Kh (i:=1) (by decide);simp at this;omega
theorem GW (n:Nat) (b0 b1:Bool) (h0:tgB twoT n 0=b0) (h1:tgB twoT n 1=b1):ptI twoT n=(if b0 then [0] else [])++(if b1 then [1] else []):=by
  unfold ptI
  show ptTo twoT n 2=_
  rw [U5,U5,Ka,JN,JM,h0,h1]
  cases b0 <;> cases b1 <;> rfl
theorem Jn:ptI twoT 0=[0]:=GW 0 true false (by kernel_rfl) (by kernel_rfl)
theorem Jm:ptI twoT 1=[1]:=GW 1 false true (by kernel_rfl) (by kernel_rfl)
theorem AW:paL twoT=[[0],[1]]:=by
  have ok:=(V6 EO).mkL
  have c0:∀ c∈clG (mkL twoT) 0,False:=fun c hc=>by
    have:=(Qn ok).1 hc
    rw [Ka] at this
    exact absurd this (by simp [atL,twoT,nuT,sfR,Yl,Yp])
  have c1:∀ c∈clG (mkL twoT) 1,c=0:=fun c hc=>by
    have:=(Qn ok).1 hc
    rw [Ka] at this
    simpa [atL,twoT,prT,seT,sfR,Yl,Yp] using this
  have g0:goodB twoT (runP twoT 0).1 0=true:=by
    refine goodB_iff.2 ⟨JN,rfl,?_⟩
    unfold pkB;rw [Jn]
    refine all_eq_true.2 fun k hk=>all_eq_true.2 fun c hc=>?_
    obtain rfl:k=0:=by simpa using hk
    exact absurd (c0 c hc) id
  have s1:runP twoT 1=(Tp (replicate 8 false) [0],[[0]]):=by
    rw [runP,Vu (show 0<twoT.length by decide) g0 (fun i hi=>absurd hi (by omega)),Jn];rfl
  have t0:∀ tk:List Bool,tk.getD 0 false=true→goodB twoT tk 0=false:=fun tk h=>by
    cases q:goodB twoT tk 0 with
    | false=>rfl
    | true=>have:=(goodB_iff.1 q).2.1;rw [h] at this;cases this
  have t1:∀ tk:List Bool,tk.getD 1 false=true→goodB twoT tk 1=false:=fun tk h=>by
    cases q:goodB twoT tk 1 with
    | false=>rfl
    | true=>have:=(goodB_iff.1 q).2.1;rw [h] at this;cases this
  have g1:goodB twoT (runP twoT 1).1 1=true:=by
    rw [s1]
    refine goodB_iff.2 ⟨JM,rfl,?_⟩
    unfold pkB;rw [Jm]
    refine all_eq_true.2 fun k hk=>all_eq_true.2 fun c hc=>?_
    obtain rfl:k=1:=by simpa using hk
    obtain rfl:=c1 c hc
    rfl
  have s2:runP twoT 2=(Tp (Tp (replicate 8 false) [0]) [1],[[0],[1]]):=by
    rw [runP,Vu (show 1<twoT.length by decide) g1 (fun i hi=>by
      obtain rfl:i=0:=by omega
      rw [s1];exact t0 _ rfl),Jm,s1];rfl
  have s3:stepP twoT (runP twoT 2)=runP twoT 2:=Ux fun j hj=>by
    rw [s2]
    match j,hj with
    | 0,_=>exact t0 _ rfl
    | 1,_=>exact t1 _ rfl
    | j+2,hj=>exact absurd hj (by show ¬ j+2<2;omega)
  rw [G6 (by decide) s3,s2]
def opM (q:Sm) (is:Int):Tm:=laT (.mk 9 0 zS [vaT 0] [(.mk 2 0 zS [],nuT is),(.mk 1 0 zS [],apT (.mk 6 0 q [] []) (prT 2 (vaT 0) (nuT 1)))])
theorem A2:kOl parT=[opM q1P 1,opM q0P 0]:=by
  unfold kOl
  rw [if_pos ks_par.1]
  unfold opL smG
  have e:((range parT.length).map fun i=>sha (cB parT i))=[q0P,q1P]:=by
    show [sha (cB parT 0),sha (cB parT 1)]=_
    rw [NI,Ic];rfl
  rw [e];rfl
section
variable {a b:Sm}
theorem dk (K:List Sm) (q:Sm) (is:Int) (h:q∈K):dfL K (opM q is)=[idF K q]:=by
  simp [dfL,opM,laT,nuT,vaT,apT,prT,ndT,ndL,ndC,dfF,Tm.kind,Tm.ref,h]
theorem J0 (l:List (Sm×Tm)) (x y:List Int) (hl:l.length=2) (h0:dfA l 0=x) (h1:dfA l 1=y):dfA l=fun n=>if n.toNat=0 then x else if n.toNat=1 then y else []:=by
  funext n
  match e:n.toNat with
  | 0=>rw [if_pos rfl,← h0];unfold dfA;rw [e];rfl
  | 1=>rw [if_neg (by decide),if_pos rfl,← h1];unfold dfA;rw [e];rfl
  | k+2=>
    rw [if_neg (by omega),if_neg (by omega)]
    unfold dfA
    rw [e,getD_eq_getElem?_getD,getElem?_eq_none (by rw [length_map,hl];omega)]
    show dfL (kSm l) dT=[]
    simp [dfL,dT,ndT,ndL,ndC,dfF,Tm.kind]
theorem E4 {c d:Sm} {t u:Tm} (h:c≠d) (ht:ZG 0 0 t=0) (hu:ZG 0 0 u=0):bkE [(c,t),(d,u)]=0:=by
  unfold bkE
  rw [if_neg (by show ¬ 40<2;decide),if_pos (J9 (by
    intro x hx
    have:x=t∨x=u:=by simpa [bdL] using hx
    rcases this with rfl | rfl
    · exact ht
    · exact hu)),if_pos (by simp [kSm,h])]
end
theorem J8 (q:Sm) (is:Int) (h:is=0∨is=1):ZG 0 0 (opM q is)=0:=by
  rcases h with rfl | rfl <;> rfl
def kA:List (Sm×Tm):=[(q0P,opM q1P 1),(q1P,opM q0P 0)]
def kB:List (Sm×Tm):=[(q1P,opM q1P 1),(q0P,opM q0P 0)]
theorem q10:q1P≠q0P:=fun e=>q01 e.symm
def sA:Int→List Int:=fun n=>if n.toNat=0 then [1] else if n.toNat=1 then [0] else []
def sB':Int→List Int:=fun n=>if n.toNat=0 then [0] else if n.toNat=1 then [1] else []
theorem Zaj:idF [q0P,q1P] q0P=0:=by simp [idF]
theorem Zai:idF [q0P,q1P] q1P=1:=by have e:(q0P==q1P)=false:=beq_eq_false_iff_ne.2 q01;simp [idF,List.idxOf_cons,e]
theorem ZbU:idF [q1P,q0P] q1P=0:=by simp [idF]
theorem ZcA:idF [q1P,q0P] q0P=1:=by have e:(q1P==q0P)=false:=beq_eq_false_iff_ne.2 q10;simp [idF,List.idxOf_cons,e]
theorem dA:dfA kA=sA:=J0 kA [1] [0] rfl
  (by show dfL [q0P,q1P] (opM q1P 1)=[1];rw [dk _ _ _ (by simp),Zai]) (by show dfL [q0P,q1P] (opM q0P 0)=[0];rw [dk _ _ _ (by simp),Zaj])
theorem dB:dfA kB=sB':=J0 kB [0] [1] rfl
  (by show dfL [q1P,q0P] (opM q1P 1)=[0];rw [dk _ _ _ (by simp),ZbU]) (by show dfL [q1P,q0P] (opM q0P 0)=[1];rw [dk _ _ _ (by simp),ZcA])
theorem KG (l:List (Sm×Tm)) (s:Int→List Int) (hd:dfA l=s) (hl:l.length=2) (x:Int):coL l x=ordB (fun n=>decide (n∈rqB s x 3 0 [])&&decide (x∈rqB s n 3 0 [])) s 2 0 [x]:=by
  unfold coL
  have:pcB l x=fun n=>decide (n∈rqB s x 3 0 [])&&decide (x∈rqB s n 3 0 []):=by
    funext n;unfold pcB rqL;rw [hd,hl]
  rw [this,hd,hl]
theorem Zb8:coL kA 0=[0,1]:=by rw [KG kA sA dA rfl];kernel_rfl
theorem Zb7:coL kA 1=[1,0]:=by rw [KG kA sA dA rfl];kernel_rfl
theorem Zb6:coL kB 0=[0]:=by rw [KG kB sB' dB rfl];kernel_rfl
theorem Mx (K:List Sm) (o:List Int) (q:Sm) (is x y:Int) (hq:q∈K) (hx:idF K q=x) (hm:x∈o) (hy:(o.idxOf x:Int)=y):mpT (clD K o) (opM q is)=Sg is y:=by
  have e:clD K o 6 0 q=(7,y,zS):=by unfold clD;rw [if_pos ⟨rfl,hq,by rw [hx];exact hm⟩,hx,hy]
  have n:∀ k n r,k≠6→clD K o k n r=(k,n,r):=fun k n r hk=>by unfold clD;rw [if_neg (fun q=>hk q.1)]
  simp [opM,Sg,laT,nuT,vaT,apT,prT,seT,mpT,Rm,Rn,e,n]
theorem ZcE:grL kA 0=parT:=by
  unfold grL;rw [Zb8,if_neg (by decide)]
  show [mpT (clD [q0P,q1P] [0,1]) (opM q1P 1),mpT (clD [q0P,q1P] [0,1]) (opM q0P 0)]=parT
  rw [Mx _ _ _ _ 1 1 (by simp) Zai (by decide) (by decide),Mx _ _ _ _ 0 0 (by simp) Zaj (by decide) (by decide)];rfl
theorem ZcD:grL kA 1=QW:=by
  unfold grL;rw [Zb7,if_neg (by decide)]
  show [mpT (clD [q0P,q1P] [1,0]) (opM q0P 0),mpT (clD [q0P,q1P] [1,0]) (opM q1P 1)]=QW
  rw [Mx _ _ _ _ 0 1 (by simp) Zaj (by decide) (by decide),Mx _ _ _ _ 1 0 (by simp) Zai (by decide) (by decide)];rfl
theorem ZcC:grL kB 0=Sl:=by
  unfold grL;rw [Zb6,if_neg (by decide)]
  show [mpT (clD [q1P,q0P] [0]) (opM q1P 1)]=Sl
  rw [Mx _ _ _ _ 0 0 (by simp) ZbU (by decide) (by decide)];rfl
theorem Bu:YI (ZG 0) QW=0:=by kernel_rfl
theorem Bv:YI (ZG 0) Sl=0:=by kernel_rfl
theorem JJ:frI QW=[0,1]:=Nr rfl (fun h=>by
  have e:YJ 2 (Sg 1 0)=YJ 2 (Sg 0 1):=h
  simp [YJ,Sg,laT,nuT,vaT,apT,seT,prT,Z8,ZZ,ZW] at e)
theorem JK:frI Sl=[0]:=by
  have e0:firstN Sl 0=0:=by have:=Tf (l:=Sl) (i:=0) (by decide);omega
  unfold frI
  show [(firstN Sl 0:Int)]=[0]
  rw [e0];rfl
theorem MR:firstN QW 0=0:=by have:=SE JJ (i:=0) (by decide);simp at this;omega
theorem MS:firstN Sl 0=0:=by have:=SE JK (i:=0) (by decide);simp at this;omega
theorem Jz:mkL QW=QW:=by unfold mkL;rw [JJ];rfl
theorem JA:mkL Sl=Sl:=by unfold mkL;rw [JK];rfl
def b1L:List Int:=[168,2,2,131,0,1,137,0,3,1,0,148,0,2,32,0,2,0,148,0,2,31,0,132,0,2,7,1,138,2,2,1,0,2,1,131,0,1,137,0,3,1,0,148,0,2,32,0,2,1,148,0,2,31,0,132,0,2,7,0,138,2,2,1,0,2,1]
theorem en_parQ:Yf (Ye QW 0)=b1L:=by kernel_rfl
theorem en_par1:Yf (Ye parT 1)=b1L:=by kernel_rfl
theorem FY {l:List Tm} {b:List Int} (hc:YI (ZG 0) l=0) (h:cR l 0=0) (hb:cB l 0=b):kCe l 0=0∧kCb l 0=b:=by
  have ok:=V6 hc
  have:=JE (i:=0) hc (by have:=ok.lo;omega)
  rw [this.1,this.2]
  exact ⟨h,(Al h).trans hb⟩
theorem Zcz:kCe parT 0=0∧kCb parT 0=b0P:=FY KI cr_par.1 NI
theorem Zcy:kCe QW 0=0∧kCb QW 0=b1P:=FY Bu (by rw [VQ,Jz,MR];kernel_rfl) ((PA Jz MR).trans ((en_parQ.trans en_par1.symm).trans b1P_def.symm))
theorem Zcx:kCe Sl 0=0∧kCb Sl 0=b2P:=FY Bv (by rw [VQ,JA,MS];kernel_rfl) ((PA JA MS).trans (by delta b2P;exact Eq.refl _))
theorem H4 {l:List (Sm×Tm)} {i:Nat} {g:List Tm} {b:List Int} (hl:(coL l i).length≤8) (hg:grL l i=g) (hc:kCe g 0=0∧kCb g 0=b):vfS l i=if sha b=(kSm l).getD i zS then 0 else 14:=by
  have e:grE l i=0:=by unfold grE;rw [if_neg (by omega)]
  unfold vfS;rw [if_pos e,hg,if_pos hc.1,hc.2]
theorem Za4:vfE kA=0:=by
  have h0:vfS kA 0=0:=by
    rw [H4 (g:=parT) (b:=b0P) (by show (coL kA 0).length≤8;rw [Zb8];decide) ZcE Zcz];exact if_pos rfl
  have h1:vfS kA 1=0:=by
    rw [H4 (g:=QW) (b:=b1P) (by show (coL kA 1).length≤8;rw [Zb7];decide) ZcD Zcy];exact if_pos rfl
  have hbk:bkE kA=0:=E4 q01 (J8 _ _ (.inr rfl)) (J8 _ _ (.inl rfl))
  unfold vfE
  rw [if_pos hbk]
  exact SB fun i hi=>by
    match i,hi with
    | 0,_=>exact h0
    | 1,_=>exact h1
    | i+2,hi=>exact absurd hi (by show ¬ i+2<2;omega)
theorem Ax:vfE kB=14:=by
  have h0:vfS kB 0=14:=by
    rw [H4 (g:=Sl) (b:=b2P) (by show (coL kB 0).length≤8;rw [Zb6];decide) ZcC Zcx];exact if_neg q21
  have hbk:bkE kB=0:=E4 q10 (J8 _ _ (.inr rfl)) (J8 _ _ (.inl rfl))
  unfold vfE
  rw [if_pos hbk,SA (j:=0) (fun i hi=>absurd hi (by omega)) (by rw [h0];decide) (by decide),h0]
theorem Qs {t:Tm} {e:List Value} {k:Zf} (h:OT t e k):OTs [t] [e] k:=by rw [OTs];exact ⟨e,[],k,[],rfl,h,OTs.nil,by simp⟩
theorem Qr {t u:Tm} {e f:List Value} {k m:Zf} (h:OT t e k) (h':OT u f m):OTs [t,u] [e,f] (k++m):=by rw [OTs];exact ⟨e,[f],k,m,rfl,h,Qs h',rfl⟩
theorem BS {p q:Pt} {t u:Tm} {a b c d:List Value} {ka kb kc kd:Zf} (h1:OP p a ka) (h2:OT t b kb) (h3:OP q c kc) (h4:OT u d kd):OCs [(p,t),(q,u)] [a++b,c++d] (ka++(kb++(kc++kd))):=by
  rw [OCs]
  refine ⟨a,b,[c++d],ka,kb,kc++kd,rfl,h1,h2,?_,rfl⟩
  rw [OCs]
  exact ⟨c,d,[],kc,kd,[],rfl,h3,h4,OCs.nil,by simp⟩
theorem ZaU {kd n:Int} {t:Tm} {ks:Value} {e:List Value} {k1 k:Zf} (hk:inI kd) (hn:inI n) (ho:Own 51 36 ks [e] k1) (h:OT t e k):OT (.mk kd n zS [t] []) (pkT kd n zS ks (.slice none 0 0)) (k1++k):=
  OT_mk.2 ⟨_,_,_,[],k1,k,[],[],rfl,hk,hn,ho,Qs h,Own.nil,OCs.nil,by simp,by simp,by simp⟩
theorem Dk {kd n:Int} {t u:Tm} {ks:Value} {e f:List Value} {k1 k m:Zf} (hk:inI kd) (hn:inI n) (ho:Own 51 36 ks [e,f] k1) (h:OT t e k) (h':OT u f m):OT (.mk kd n zS [t,u] []) (pkT kd n zS ks (.slice none 0 0)) (k1++(k++m)):=
  OT_mk.2 ⟨_,_,_,[],k1,k++m,[],[],rfl,hk,hn,ho,Qr h h',Own.nil,OCs.nil,by simp,by simp,by simp⟩
theorem ZaV {t:Tm} {l:List (Pt×Tm)} {ks w:Value} {e:List Value} {es:List (List Value)} {k1 k k3 k4:Zf} (ho:Own 51 36 ks [e] k1) (h:OT t e k) (hw:Own 117 71 w es k3) (hl:OCs l es k4) (hb:l.length≤1000):OT (.mk 9 0 zS [t] l) (pkT 9 0 zS ks w) (k1++(k++(k3++k4))):=
  OT_mk.2 ⟨_,_,_,es,k1,k,k3,k4,rfl,by unfold inI;omega,by unfold inI;omega,ho,Qs h,hw,hl,rfl,by simp,by omega⟩
section
attribute [local irreducible] JL J CT wlo DT
theorem S6 (n:Int) (hn:inI n) (H:Heap):CT prog 33 ⟨[iv n]⟩ [] H (fun v N=>∃ cs k,v=.agg ⟨cs⟩∧N=[k]∧OT (vaT n) cs k):=by
 refine Zl func33 rfl rfl<|Zd<|JLr (Zk (l:=pkT 0 0 zS nS nS) zeroValue51 rfl fun b1=>Za<|Zd<|JLM rfl<|JLq (.agg ⟨pkT 1 n zS nS nS⟩) (Pu.build (pv:=[(0,iv 1),(1,iv n)]) (l:=pkT 1 n zS nS nS) rfl (WL _ _))<|JLr (Zb 0 (vs:=pkT 1 n zS nS nS) (l:=pkT 1 n zS nS nS) Zu rfl rfl rfl rfl rfl (ZR rfl rfl) (Yb ..)<|Za<|Zz<|⟨.agg ⟨pkT 1 n zS nS nS⟩,[[]],Ret.one rfl (RV.cell Zu rfl (ZcK 0 rfl) (Z4 ..)),(ZcL Sub.nil),?_⟩))
 exact ⟨_,_,rfl,rfl,SZ (by unfold inI;omega) hn⟩
theorem Ng (n:Int) (hn:inI n) (H:Heap):CT prog 37 ⟨[iv n]⟩ [] H (fun v N=>∃ cs k,v=.agg ⟨cs⟩∧N=[k]∧OT (nuT n) cs k):=by
 refine Zl func37 rfl rfl<|Zd<|JLr (Zk (l:=pkT 0 0 zS nS nS) zeroValue51 rfl fun b1=>Za<|Zd<|JLM rfl<|JLq (.agg ⟨pkT 2 n zS nS nS⟩) (Pu.build (pv:=[(0,iv 2),(1,iv n)]) (l:=pkT 2 n zS nS nS) rfl (WL _ _))<|JLr (Zb 0 (vs:=pkT 2 n zS nS nS) (l:=pkT 2 n zS nS nS) Zu rfl rfl rfl rfl rfl (ZR rfl rfl) (Yb ..)<|Za<|Zz<|⟨.agg ⟨pkT 2 n zS nS nS⟩,[[]],Ret.one rfl (RV.cell Zu rfl (ZcK 0 rfl) (Z4 ..)),(ZcL Sub.nil),?_⟩))
 exact ⟨_,_,rfl,rfl,SZ (by unfold inI;omega) hn⟩
theorem TA (n:Int) (hn:inI n) (H:Heap):CT prog 32 ⟨[iv n]⟩ [] H (fun v N=>∃ cs k,v=.agg ⟨cs⟩∧N=[k]∧OT (seT n) cs k):=by
 refine Zl func32 rfl rfl<|Zd<|JLr (Zk (l:=pkT 0 0 zS nS nS) zeroValue51 rfl fun b1=>Za<|Zd<|JLM rfl<|JLq (.agg ⟨pkT 7 n zS nS nS⟩) (Pu.build (pv:=[(0,iv 7),(1,iv n)]) (l:=pkT 7 n zS nS nS) rfl (WL _ _))<|JLr (Zb 0 (vs:=pkT 7 n zS nS nS) (l:=pkT 7 n zS nS nS) Zu rfl rfl rfl rfl rfl (ZR rfl rfl) (Yb ..)<|Za<|Zz<|⟨.agg ⟨pkT 7 n zS nS nS⟩,[[]],Ret.one rfl (RV.cell Zu rfl (ZcK 0 rfl) (Z4 ..)),(ZcL Sub.nil),?_⟩))
 exact ⟨_,_,rfl,rfl,SZ (by unfold inI;omega) hn⟩
theorem Np (t:Tm) (cs:List Value) (k:Zf) (H:Heap) (hO:OT t cs k):CT prog 30 ⟨[.agg ⟨cs⟩]⟩ [k] H (fun v N=>∃ cs k,v=.agg ⟨cs⟩∧N=[k]∧OT (laT t) cs k):=by
 refine Zl func30 rfl rfl<|Zd<|JLr (Zr (l:=cs) rfl rfl fun b1=>JLr (Zk (l:=pkT 0 0 zS nS nS) zeroValue51 rfl fun b2=>Za<|Zd<|JLr (Zn Zu rfl (ZcK 1 rfl) (Zx hO.len)<|JLr (Zj (vs:=[.agg ⟨cs⟩]) [cs] ZI YM rfl rfl (al1 hO.len) rfl (by decide) fun b3 k3 ho3 hk3=>JLq (.agg ⟨pkT 3 0 zS (.slice (some ⟨b3,0,none⟩) 1 1) nS⟩) (Pu.build (pv:=[(0,iv 3),(3,.slice (some ⟨b3,0,none⟩) 1 1)]) (l:=pkT 3 0 zS (.slice (some ⟨b3,0,none⟩) 1 1) nS) rfl (VR _ _ _ _))<|JLr (Zb 1 (vs:=pkT 3 0 zS (.slice (some ⟨b3,0,none⟩) 1 1) nS) (l:=pkT 3 0 zS (.slice (some ⟨b3,0,none⟩) 1 1) nS) Zu rfl rfl rfl rfl rfl (ZR rfl rfl) (Yb ..)<|Za ?_)))))
 refine Zz<|⟨.agg ⟨pkT 3 0 zS (.slice (some ⟨b3,0,none⟩) 1 1) nS⟩,[k3++k],Ret.one rfl (RV.cell Zu rfl (ZcK 1 rfl) (Z4 ..)),(ZcO (Sk (Sd (Sd (Sk Sub.nil))))),?_⟩
 exact ⟨_,_,rfl,rfl,ZaU (by unfold inI;omega) (by unfold inI;omega) ho3 hO⟩
theorem NO (t u:Tm) (cs ds:List Value) (k m:Zf) (H:Heap) (hO:OT t cs k) (hO2:OT u ds m):CT prog 31 ⟨[.agg ⟨cs⟩,.agg ⟨ds⟩]⟩ [(k++m)] H (fun v N=>∃ cs k,v=.agg ⟨cs⟩∧N=[k]∧OT (apT t u) cs k):=by
 refine Zl func31 rfl rfl<|Zd<|JLr (Zr (l:=cs) rfl rfl fun b1=>JLr (Zr (l:=ds) rfl rfl fun b2=>JLr (Zk (l:=pkT 0 0 zS nS nS) zeroValue51 rfl fun b3=>Za<|Zd<|JLr (Zn Zu rfl (ZcK 2 rfl) (Zx hO.len)<|JLr (Zn Zu rfl (ZcK 1 rfl) (Zx hO2.len)<|JLr (Zj (vs:=[.agg ⟨cs⟩,.agg ⟨ds⟩]) [cs,ds] ZI YM rfl rfl (alc hO.len (al1 hO2.len)) rfl (by decide) fun b4 k4 ho4 hk4=>JLq (.agg ⟨pkT 4 0 zS (.slice (some ⟨b4,0,none⟩) 2 2) nS⟩) (Pu.build (pv:=[(0,iv 4),(3,.slice (some ⟨b4,0,none⟩) 2 2)]) (l:=pkT 4 0 zS (.slice (some ⟨b4,0,none⟩) 2 2) nS) rfl (VR _ _ _ _)) ?_))))))
 refine JLr (Zb 1 (vs:=pkT 4 0 zS (.slice (some ⟨b4,0,none⟩) 2 2) nS) (l:=pkT 4 0 zS (.slice (some ⟨b4,0,none⟩) 2 2) nS) Zu rfl rfl rfl rfl rfl (ZR rfl rfl) (Yb ..)<|Za<|Zz<|⟨.agg ⟨pkT 4 0 zS (.slice (some ⟨b4,0,none⟩) 2 2) nS⟩,[k4++((k++m))],Ret.one rfl (RV.cell Zu rfl (ZcK 1 rfl) (Z4 ..)),(ZcO (Sk (Sd (Sd (Sd (Sk Sub.nil)))))),?_⟩)
 exact ⟨_,_,rfl,rfl,Dk (by unfold inI;omega) (by unfold inI;omega) ho4 hO hO2⟩
theorem LV (n:Int) (hn:inI n) (t u:Tm) (cs ds:List Value) (k m:Zf) (H:Heap) (hO:OT t cs k) (hO2:OT u ds m):CT prog 38 ⟨[iv n,.agg ⟨cs⟩,.agg ⟨ds⟩]⟩ [(k++m)] H (fun v N=>∃ cs k,v=.agg ⟨cs⟩∧N=[k]∧OT (prT n t u) cs k):=by
 refine Zl func38 rfl rfl<|Zd<|JLr (Zr (l:=cs) rfl rfl fun b1=>JLr (Zr (l:=ds) rfl rfl fun b2=>JLr (Zk (l:=pkT 0 0 zS nS nS) zeroValue51 rfl fun b3=>Za<|Zd<|JLM rfl<|JLr (Zn Zu rfl (ZcK 2 rfl) (Zx hO.len)<|JLr (Zn Zu rfl (ZcK 1 rfl) (Zx hO2.len)<|JLr (Zj (vs:=[.agg ⟨cs⟩,.agg ⟨ds⟩]) [cs,ds] ZI YM rfl rfl (alc hO.len (al1 hO2.len)) rfl (by decide) fun b4 k4 ho4 hk4=>?_))))))
 refine JLq (.agg ⟨pkT 10 n zS (.slice (some ⟨b4,0,none⟩) 2 2) nS⟩) (Pu.build (pv:=[(0,iv 10),(1,iv n),(3,.slice (some ⟨b4,0,none⟩) 2 2)]) (l:=pkT 10 n zS (.slice (some ⟨b4,0,none⟩) 2 2) nS) rfl (R1 _ _ _ _ _))<|JLr (Zb 1 (vs:=pkT 10 n zS (.slice (some ⟨b4,0,none⟩) 2 2) nS) (l:=pkT 10 n zS (.slice (some ⟨b4,0,none⟩) 2 2) nS) Zu rfl rfl rfl rfl rfl (ZR rfl rfl) (Yb ..)<|Za<|Zz<|⟨.agg ⟨pkT 10 n zS (.slice (some ⟨b4,0,none⟩) 2 2) nS⟩,[k4++((k++m))],Ret.one rfl (RV.cell Zu rfl (ZcK 1 rfl) (Z4 ..)),(ZcO (Sk (Sd (Sd (Sd (Sk Sub.nil)))))),?_⟩)
 exact ⟨_,_,rfl,rfl,Dk (by unfold inI;omega) hn ho4 hO hO2⟩
theorem A6 (t:Tm) (l:List (Pt×Tm)) (cs:List Value) (sa:Option Addr) (sn sc:Nat) (es:List (List Value)) (k kw kl:Zf) (H:Heap) (hO:OT t cs k) (hw:Own 117 71 (.slice sa sn sc) es kw) (hl:OCs l es kl) (hb:l.length≤1000):CT prog 77 ⟨[.agg ⟨cs⟩,.slice sa sn sc]⟩ [(k++(kw++kl))] H (fun v N=>∃ cs k,v=.agg ⟨cs⟩∧N=[k]∧OT (.mk 9 0 zS [t] l) cs k):=by
 refine Zl func77 rfl rfl<|Zd<|JLr (Zr (l:=cs) rfl rfl fun b1=>JLr (Zk (l:=pkT 0 0 zS nS nS) zeroValue51 rfl fun b2=>Za<|Zd<|JLr (Zn Zu rfl (ZcK 1 rfl) (Zx hO.len)<|JLr (Zj (vs:=[.agg ⟨cs⟩]) [cs] ZI YM rfl rfl (al1 hO.len) rfl (by decide) fun b3 k3 ho3 hk3=>JLM rfl<|JLq (.agg ⟨pkT 9 0 zS (.slice (some ⟨b3,0,none⟩) 1 1) (.slice sa sn sc)⟩) (Pu.build (pv:=[(0,iv 9),(3,.slice (some ⟨b3,0,none⟩) 1 1),(4,.slice sa sn sc)]) (l:=pkT 9 0 zS (.slice (some ⟨b3,0,none⟩) 1 1) (.slice sa sn sc)) rfl (R0 _ _ _ _ _ _ _))<|JLr (Zb 1 (vs:=pkT 9 0 zS (.slice (some ⟨b3,0,none⟩) 1 1) (.slice sa sn sc)) (l:=pkT 9 0 zS (.slice (some ⟨b3,0,none⟩) 1 1) (.slice sa sn sc)) Zu rfl rfl rfl rfl rfl (ZR rfl rfl) (Yb ..) ?_)))))
 refine Za<|Zz<|⟨.agg ⟨pkT 9 0 zS (.slice (some ⟨b3,0,none⟩) 1 1) (.slice sa sn sc)⟩,[k3++((k++(kw++kl)))],Ret.one rfl (RV.cell Zu rfl (ZcK 1 rfl) (Z4 ..)),(ZcO (Sk (Sd (Sd (Sk Sub.nil))))),?_⟩
 exact ⟨_,_,rfl,rfl,ZaV ho3 hO hw hl hb⟩
theorem EX (a b:List Value) (hla:a.length=35) (hka:okc a) (hlb:b.length=36) (hkb:okc b) (H:Heap):CT prog 78 ⟨[.agg ⟨a⟩,.agg ⟨b⟩]⟩ [] H (fun v N=>v=.agg ⟨a++b⟩∧N=[]):=by
 refine Zl func78 rfl rfl<|Zd<|JLr (Zr (l:=a) rfl rfl fun b1=>JLr (Zr (l:=b) rfl rfl fun b2=>JLr (Zk (l:=(pkP 0 0 zS nS)++(pkT 0 0 zS nS nS)) zeroValue117 rfl fun b3=>Za<|Zd<|JLr (Zn ZO rfl (ZcK 2 rfl) (Zx hla)<|JLr (Zn Zu rfl (ZcK 1 rfl) (Zx hlb)<|JLq (.agg ⟨a++b⟩) (Pu.build (pv:=[(0,.agg ⟨a⟩),(1,.agg ⟨b⟩)]) (l:=a++b) rfl (W0 hla hlb))<|JLr (Zb 0 (vs:=a++b) (l:=a++b) YD rfl rfl rfl rfl (ZJ hla hlb) (YB hka hkb) (ZY (n:=71) rfl (ZJ hla hlb)) ?_))))))
 refine Za<|Zz<|⟨.agg ⟨a++b⟩,[],Ret.one rfl (RV.cell YD rfl (ZcK 0 rfl) (Zx (ZJ hla hlb))),Sub.nil,?_⟩
 exact ⟨rfl,rfl⟩
theorem AP (n:Int) (H:Heap):CT prog 79 ⟨[iv n]⟩ [] H (fun r N=>r=.agg ⟨pkP 2 n zS nS⟩∧N=[]):=by
 refine Zl func79 rfl rfl<|Zd<|JLr (Zk (l:=pkP 0 0 zS nS) zeroValue115 rfl fun b1=>Za<|Zd<|JLM rfl<|JLq (.agg ⟨pkP 2 n zS nS⟩) (Pu.build (pv:=[(0,iv 2),(1,iv n)]) (l:=pkP 2 n zS nS) rfl (PE _ _))<|JLr (Zb 0 (vs:=pkP 2 n zS nS) (l:=pkP 2 n zS nS) ZO rfl rfl rfl rfl rfl (XN rfl) (UE ..)<|Za<|Zz<|⟨.agg ⟨pkP 2 n zS nS⟩,[],Ret.one rfl (RV.cell ZO rfl (ZcK 0 rfl) (Ve ..)),Sub.nil,?_⟩))
 exact ⟨rfl,rfl⟩
theorem BL (H:Heap):CT prog 80 ⟨[]⟩ [] H (fun r N=>r=.agg ⟨pkP 1 0 zS nS⟩∧N=[]):=by
 refine Zl func80 rfl rfl<|Zd<|JLr (Zk (l:=pkP 0 0 zS nS) zeroValue115 rfl fun b1=>Za<|Zd<|JLq (.agg ⟨pkP 1 0 zS nS⟩) (Pu.build (pv:=[(0,iv 1)]) (l:=pkP 1 0 zS nS) rfl (Lm _))<|JLr (Zb 0 (vs:=pkP 1 0 zS nS) (l:=pkP 1 0 zS nS) ZO rfl rfl rfl rfl rfl (XN rfl) (UE ..)<|Za<|Zz<|⟨.agg ⟨pkP 1 0 zS nS⟩,[],Ret.one rfl (RV.cell ZO rfl (ZcK 0 rfl) (Ve ..)),Sub.nil,?_⟩))
 exact ⟨rfl,rfl⟩
theorem Jp (a b:Int) (ha:inI a) (hb:inI b) (H:Heap):CT prog 76 ⟨[iv a,iv b]⟩ [] H (fun v N=>∃ cs k,v=.agg ⟨cs⟩∧N=[k]∧OT (Sg a b) cs k):=by
 have ha1: -9223372036854775808≤a:=ha.1
 have ha2:a≤9223372036854775807:=ha.2
 have hb1: -9223372036854775808≤b:=hb.1
 have hb2:b≤9223372036854775807:=hb.2
 refine Zl func76 rfl rfl<|Zd<|JLr (Zk (l:=pkT 0 0 zS nS nS) zeroValue51 rfl fun b1=>Za<|Zd<|Jc call33 rfl (fun hin=>S6 0 (by unfold inI;omega) _) rfl ?_)
 rintro _ _ ⟨cs2,k2,rfl,rfl,hO2⟩
 refine Jc call79 rfl (fun hin=>AP _ _) rfl ?_
 rintro _ _ ⟨rfl,rfl⟩
 refine JLM rfl<|Jc call37 rfl (fun hin=>Ng a (by unfold inI;omega) _) rfl ?_
 rintro _ _ ⟨cs3,k3,rfl,rfl,hO3⟩
 refine Jc call78 rfl (fun hin=>EX _ _ rfl (XN rfl) hO3.len hO3.ok _) rfl ?_
 rintro _ _ ⟨rfl,rfl⟩
 refine Jc call80 rfl (fun hin=>BL _) rfl ?_
 rintro _ _ ⟨rfl,rfl⟩
 refine JLM rfl<|Jc call32 rfl (fun hin=>TA b (by unfold inI;omega) _) rfl ?_
 rintro _ _ ⟨cs4,k4,rfl,rfl,hO4⟩
 refine Jc call33 rfl (fun hin=>S6 0 (by unfold inI;omega) _) rfl ?_
 rintro _ _ ⟨cs5,k5,rfl,rfl,hO5⟩
 refine Jc call37 rfl (fun hin=>Ng 1 (by unfold inI;omega) _) rfl ?_
 rintro _ _ ⟨cs6,k6,rfl,rfl,hO6⟩
 refine ZB (ZcO (Sub.cons 1 rfl (Sk (Sk (Sk (Sk (Sk Sub.nil)))))))<|Zs 0 rfl call38 rfl rfl (fun hin=>LV 2 (by unfold inI;omega) _ _ _ _ _ _ _ hO5 hO6) rfl ?_
 rintro _ _ ⟨cs7,k7,rfl,rfl,hO7⟩
 refine ZB (ZcO (Sub.cons 1 rfl (Sk (Sk (Sk (Sk Sub.nil))))))<|Zs 0 rfl call31 rfl rfl (fun hin=>NO _ _ _ _ _ _ _ hO4 hO7) rfl ?_
 rintro _ _ ⟨cs8,k8,rfl,rfl,hO8⟩
 refine Jc call78 rfl (fun hin=>EX _ _ rfl (XN rfl) hO8.len hO8.ok _) rfl ?_
 rintro _ _ ⟨rfl,rfl⟩
 refine JLr (Zj (vs:=[.agg ⟨(pkP 2 0 zS nS)++cs3⟩,.agg ⟨(pkP 1 0 zS nS)++cs8⟩]) [(pkP 2 0 zS nS)++cs3,(pkP 1 0 zS nS)++cs8] Xp SL rfl rfl (alc (ZJ rfl hO3.len) (al1 (ZJ rfl hO8.len))) rfl (by decide) fun b9 k9 ho9 hk9=>ZB (Zc3 (Sub.cons 3 rfl (Sk (Sub.cons 1 rfl (Sk (Sk Sub.nil))))))<|Zs 0 rfl call77 rfl rfl (fun hin=>A6 _ [((.mk 2 0 zS []),nuT a),((.mk 1 0 zS []),apT (seT b) (prT 2 (vaT 0) (nuT 1)))] _ _ _ _ _ _ _ _ _ hO2 ho9 (BS (Qt (by unfold inI;omega) (by unfold inI;omega)) hO3 (Qt (by unfold inI;omega) (by unfold inI;omega)) hO8) (by simp)) rfl ?_)
 rintro _ _ ⟨cs10,k10,rfl,rfl,hO10⟩
 refine Zs 0 rfl call30 rfl rfl (fun hin=>Np _ _ _ _ hO10) rfl ?_
 rintro _ _ ⟨cs11,k11,rfl,rfl,hO11⟩
 refine JLr (Zb 1 (vs:=cs11) (l:=cs11) Zu rfl rfl rfl rfl hO11.len hO11.ok (ZY (n:=36) rfl hO11.len)<|Za<|Zz<|⟨.agg ⟨cs11⟩,[k11],Ret.one rfl (RV.cell Zu rfl (ZcK 1 rfl) (Zx hO11.len)),(Sk Sub.nil),?_⟩)
 exact ⟨_,_,rfl,rfl,hO11⟩
theorem Jj (H:Heap):CT prog 29 ⟨[]⟩ [] H (fun v N=>∃ k,N=[k]∧OL Xd v k):=by
 refine Zl func29 rfl rfl<|Zd<|JAn rfl<|Zd<|Jc call32 rfl (fun hin=>TA 1 (by unfold inI;omega) _) rfl ?_
 rintro _ _ ⟨cs1,k1,rfl,rfl,hO1⟩
 refine Jc call33 rfl (fun hin=>S6 0 (by unfold inI;omega) _) rfl ?_
 rintro _ _ ⟨cs2,k2,rfl,rfl,hO2⟩
 refine ZB (ZcO (Sub.cons 1 rfl (Sk Sub.nil)))<|Zs 0 rfl call31 rfl rfl (fun hin=>NO _ _ _ _ _ _ _ hO1 hO2) rfl ?_
 rintro _ _ ⟨cs3,k3,rfl,rfl,hO3⟩
 refine Zs 0 rfl call30 rfl rfl (fun hin=>Np _ _ _ _ hO3) rfl ?_
 rintro _ _ ⟨cs4,k4,rfl,rfl,hO4⟩
 refine Jc call32 rfl (fun hin=>TA 0 (by unfold inI;omega) _) rfl ?_
 rintro _ _ ⟨cs5,k5,rfl,rfl,hO5⟩
 refine Jc call33 rfl (fun hin=>S6 0 (by unfold inI;omega) _) rfl ?_
 rintro _ _ ⟨cs6,k6,rfl,rfl,hO6⟩
 refine ZB (ZcO (Sub.cons 1 rfl (Sk (Sk Sub.nil))))<|Zs 0 rfl call31 rfl rfl (fun hin=>NO _ _ _ _ _ _ _ hO5 hO6) rfl ?_
 rintro _ _ ⟨cs7,k7,rfl,rfl,hO7⟩
 refine Zs 0 rfl call30 rfl rfl (fun hin=>Np _ _ _ _ hO7) rfl ?_
 rintro _ _ ⟨cs8,k8,rfl,rfl,hO8⟩
 refine JLr (Zj (vs:=[.agg ⟨cs4⟩,.agg ⟨cs8⟩]) [cs4,cs8] ZI YM rfl rfl (alc hO4.len (al1 hO8.len)) rfl (by decide) fun b9 k9 ho9 hk9=>JAn rfl<|ZE (.slice (some ⟨b9,0,none⟩) 2 2) [k9++(k4++k8)] (ZcY (Sk (Sub.cons 1 rfl (Sk Sub.nil)))) (?_))
 exact ⟨_,rfl,OL.mk ho9 (Qr hO4 hO8) (show (2:Nat)≤1000000 by decide)⟩
theorem Rh (H:Heap):CT prog 35 ⟨[]⟩ [] H (fun v N=>∃ k,N=[k]∧OL parT v k):=by
 refine Zl func35 rfl rfl<|Zd<|JAn rfl<|Zd<|JAn rfl<|Zd<|JLM rfl<|Jc call76 rfl (fun hin=>Jp 1 1 (by unfold inI;omega) (by unfold inI;omega) _) rfl ?_
 rintro _ _ ⟨cs1,k1,rfl,rfl,hO1⟩
 refine JLM rfl<|Jc call76 rfl (fun hin=>Jp 0 0 (by unfold inI;omega) (by unfold inI;omega) _) rfl ?_
 rintro _ _ ⟨cs2,k2,rfl,rfl,hO2⟩
 refine JLr (Zj (vs:=[.agg ⟨cs1⟩,.agg ⟨cs2⟩]) [cs1,cs2] ZI YM rfl rfl (alc hO1.len (al1 hO2.len)) rfl (by decide) fun b3 k3 ho3 hk3=>JAn rfl<|ZE (.slice (some ⟨b3,0,none⟩) 2 2) [k3++(k1++k2)] (ZcY (Sk (Sub.cons 1 rfl (Sk Sub.nil)))) (?_))
 exact ⟨_,rfl,OL.mk ho3 (Qr hO1 hO2) (show (2:Nat)≤1000000 by decide)⟩
theorem V5:∀ (t:Tm) (cs:List Value) (H:Heap),RT H cs t→sizeT t≤1000000→CT prog 23 ⟨[.agg ⟨cs⟩]⟩ [] H (fun v N=>∃ cs k,v=.agg ⟨cs⟩∧N=[k]∧OT t cs k):=by
 intro t
 induction t using Tm.ind with
 | h kind num ref kids cases ih ih'=>
 intro cs H ht hz
 rw [sizeT] at hz
 have hlk:=XR kids
 have hlc:=WX cases
 obtain ⟨ks,cv,rfl,hk,hn,hks,hcv⟩:=RT_mk.1 ht
 refine Zl func23 rfl rfl<|Zd<|JLr (Zr (l:=pkT kind num ref ks cv) rfl rfl fun b1=>JLr (Zk (l:=pkT 0 0 zS nS nS) zeroValue51 rfl fun b2=>Za<|Zg<|ZM mixed #[0,1,0,4,3,31] 5 [some 9,some 10,some 11,some 12,some 3] [] [] rfl (by kernel_rfl) rfl (by kernel_rfl)<|Dq (pp b1 34) (fun _=>YS rfl rfl)<|Dl1 XE (ZcK 1 rfl) (Xq ..)<|Dq (pp b1 35) (fun _=>Y0 rfl rfl)<|Dl1 WN (ZcK 1 rfl) (XA ..)<|Dq ks (fun _=>Pu.assign rfl) ?_))
 refine ZX (M':=[(BX b2 (pkT 0 0 zS nS nS) 51),(BX b1 (pkT kind num ref ks cv) 51)]) rfl ?_
 show JL _ _ _ [_] _ _ _
 refine JLa cv<|Za<|Zd<|JLq (pp b1 34) (YS rfl rfl)<|JLr (Zb 1 (vs:=[nS]) (l:=pkT kind num ref nS cv) XE rfl rfl rfl rfl rfl (Zh rfl Zq) (U8 ..)<|JLq (pp b1 35) (Y0 rfl rfl)<|JLr (Zb 1 (vs:=[nS]) (l:=pkT kind num ref nS nS) WN rfl rfl rfl rfl rfl (Zh rfl Zq) (U7 ..)<|Za<|Zg<|Zd<|JLm ks ?_))
 obtain ⟨a3,cap3,hv3⟩:=hks.sl
 have hle3:=hks.le
 refine JLn (ZcM ZI hv3)<|JLM rfl<|Za<|Zm<|ZD (fun k ρ M=>∃ (j:Nat) (v:Value) (es:List (List Value)) (k1 k2:Zf),Z7 ρ [(1,pp b1 0),(2,pp b2 0),(4,cv),(15,ks),(16,iv ((kids.length:Int))),(17,iv ((j:Int)))]=ρ∧Sub [(BX b1 (pkT kind num ref v nS) 51),k1,k2,(BX b2 (pkT 0 0 zS nS nS) 51)] M∧j≤kids.length∧Own 51 36 v es k1∧OTs ((kids.take j)) es k2∧k=kids.length-j) _ ⟨0,nS,[],[],[],Zp rfl,(Sub.cons 1 rfl (ZcL (ZcL (Sk Sub.nil)))),Nat.zero_le _,Own.nil,OTs.nil,rfl⟩ ?_
 rintro _ ρ4 _ ⟨j,v,es,k1,k2,e5,hm11,hj,hov,hopv,rfl⟩
 obtain ⟨ρ12,rfl⟩:=Zi e5
 clear e5
 refine ZF hm11 ?_
 have hlen:=hks.le
 refine Zd<|JLn (Pu.lss rfl rfl)<|Za<|Zg<|ZN rfl (fun h13=>?_) (fun h13=>?_)
 ·have h13n:j<kids.length:=by omega
  have helv:=YH hopv
  rw [length_take] at helv
  have hs1:=YR _ (getElem_mem h13n)
  refine Zo<|Zg<|Zm<|Zg<|Ze ?_
  obtain ⟨b14,o14,cap14,row14,T14,fr14,cs14,hv14,hb14,hs14,hE14⟩:=hks.get j (by omega)
  refine JLn (Pu.idx j ZI Zu hv14 rfl rfl (by omega))<|JLr (Zn Zu rfl (ZcN hb14) hs14<|JLr (Zk (l:=pkT 0 0 zS nS nS) zeroValue51 rfl fun b15=>JLr (Zb 0 (vs:=cs14) (l:=cs14) Zu rfl rfl rfl rfl (Zy hE14) (Y5 hE14) (ZY (n:=36) rfl (Zy hE14))<|Za<|ZM mixed #[0,1,0,4,12,31,63,127] 5 (sm 21 5) [] [(3,fun _ _ vw qw=>∃ cs k,vw=.agg ⟨cs⟩∧qw=[k]∧OT (kids[j]) cs k),(4,fun r _ vw qw=>∃ b k,vw=.slice (some ⟨b,0,none⟩) 1 1∧qw=[k]∧Own 51 36 (.slice (some ⟨b,0,none⟩) 1 1) [(cel (r 3))] k∧k=(BX b (flatten [(cel (r 3))]) 51))] rfl (by kernel_rfl) rfl (by kernel_rfl)<|Dq (pp b1 34) (fun _=>YS rfl rfl)<|Dl1 XE (ZcK 1 rfl) (Xq ..)<|Dl Zu (ZcK 0 rfl) (Zx (Zy hE14)) ?_)))
  refine Dc rfl call23 (fun _=>rfl) (fun hin=>ih _ (getElem_mem h13n) _ _ (RT.mono (Hle.hu _ _) hE14) (by omega)) ?_
  rintro _ _ ⟨cs18,k18,rfl,rfl,hO18⟩
  refine Dr rfl (fun _=>Zj (vs:=[.agg ⟨cs18⟩]) [cs18] ZI YM rfl rfl (al1 hO18.len) rfl (by decide) fun b k h1 h2=>⟨[k],by rw [Yd rfl];exact Sub.refl,b,k,rfl,rfl,h1,h2⟩) (fun _ _ ⟨b19,k19,e1,e2,ho19,hk19⟩=>?_);subst e1 e2
  refine ZX (M':=[k19,k18,(BX b15 cs14 51),(BX b1 (pkT kind num ref v nS) 51),k1,k2,(BX b2 (pkT 0 0 zS nS nS) 51)]) rfl ?_
  show JL _ _ _ [_,_,_] _ _ _
  have hlens20:∀ e∈([cs18]:List (List Value)),List.length e=36:=al1 hO18.len
  have hoks20:∀ e∈([cs18]:List (List Value)),okc e:=al1 hO18.ok
  refine JLr (ZA (i:=4) (n:=1) (es':=[cs18]) ZI ZI (Or.inl rfl) YM rfl rfl rfl hov (fun F w m=>Src.row (((ZcS 0 rfl (by rw [hk19];exact mem_cons_self))).heap m) (Zx (Zw hlens20))) rfl hlens20 hoks20 (by decide) (by omega) fun v20 k20 ho20=>JLq (pp b1 34) (YS rfl rfl)<|JLr (Zb 3 (vs:=[v20]) (l:=pkT kind num ref v20 nS) XE rfl rfl rfl (ZH ho20.one) rfl (Zh ho20.one Zq) (U8 ..)<|Za<|Ze<|JLn (ZcP rfl rfl (by omega))<|JLM rfl<|Za<|⟨_,?_,(j+1),v20,(es++[cs18]),k20,(k2++k18),Zp rfl,(Sd (Sub.cons 2 rfl (Sub.cons 2 rfl (ZcO (Sub.cons 2 rfl (Sk (Sd (Sk Sub.nil)))))))),?_,?_,?_,rfl⟩))
  ·omega
  ·omega
  ·assumption
  rw [take_succ_eq_append_getElem h13n];exact OTs.snoc hO18 hopv
 have h13n:kids.length≤j:=by omega
 refine ZC _ rfl<|Zg<|Zd<|JLm cv ?_
 obtain ⟨a21,cap21,hv21⟩:=hcv.sl
 have hle21:=hcv.le
 refine JLn (ZcM Xp hv21)<|JLM rfl<|Za<|Zm ?_
 rw [take_of_length_le h13n] at hopv
 refine ZD (fun k ρ M=>∃ (j:Nat) (w:Value) (es2:List (List Value)) (k3 k4:Zf),Z7 ρ [(1,pp b1 0),(2,pp b2 0),(29,cv),(30,iv ((cases.length:Int))),(31,iv ((j:Int)))]=ρ∧Sub [(BX b1 (pkT kind num ref v w) 51),k3,k4,k1,k2,(BX b2 (pkT 0 0 zS nS nS) 51)] M∧j≤cases.length∧Own 117 71 w es2 k3∧OCs ((cases.take j)) es2 k4∧k=cases.length-j) _ ⟨0,nS,[],[],[],Zp rfl,(Sk (ZcL (ZcL (Sk (Sk (Sk Sub.nil)))))),Nat.zero_le _,Own.nil,OCs.nil,rfl⟩ ?_
 rintro _ ρ22 _ ⟨j,w,es2,k3,k4,e23,hm28,hj,how,hopw,rfl⟩
 obtain ⟨ρ29,rfl⟩:=Zi e23
 clear e23
 refine ZF hm28 ?_
 have hlen:=hcv.le
 refine Zd<|JLn (Pu.lss rfl rfl)<|Za<|Zg<|ZN rfl (fun h30=>?_) (fun h30=>?_)
 ·have h30n:j<cases.length:=by omega
  have helw:=S3 hopw
  rw [length_take] at helw
  have hs1:=WQ _ (getElem_mem h30n)
  refine Zo<|Zg<|Zm<|Zg<|Ze ?_
  obtain ⟨b31,o31,cap31,row31,T31,fr31,cs31,hv31,hb31,hs31,hE31⟩:=hcv.get j (by omega)
  obtain ⟨ca31,cb31,rfl,hA31,hB31⟩:=hE31
  refine JLn (Pu.idx j Xp YD hv31 rfl rfl (by omega))<|JLr (Zn YD rfl (ZcN hb31) hs31<|JLr (Zk (l:=(pkP 0 0 zS nS)++(pkT 0 0 zS nS nS)) zeroValue117 rfl fun b32=>JLr (Zb 0 (vs:=ca31++cb31) (l:=ca31++cb31) YD rfl rfl rfl rfl (ZJ (ZL hA31) (Zy hB31)) (YB (W3 hA31) (Y5 hB31)) (ZY (n:=71) rfl (ZJ (ZL hA31) (Zy hB31)))<|Za<|ZM mixed #[0,1,0,4,12,0,32,124,252,508,1023,2047,4095] 10 (sm 35 10) [] [(4,fun _ _ vw qw=>∃ cs k,vw=.agg ⟨cs⟩∧qw=[k]∧OP (cases[j].1) cs k),(7,fun _ _ vw qw=>∃ cs k,vw=.agg ⟨cs⟩∧qw=[k]∧OT (cases[j].2) cs k),(9,fun r _ vw qw=>∃ b k,vw=.slice (some ⟨b,0,none⟩) 1 1∧qw=[k]∧Own 117 71 (.slice (some ⟨b,0,none⟩) 1 1) [((cel (r 4)))++((cel (r 7)))] k∧k=(BX b (flatten [((cel (r 4)))++((cel (r 7)))]) 117))] rfl (by kernel_rfl) rfl (by kernel_rfl)<|Dq (pp b1 35) (fun _=>Y0 rfl rfl)<|Dl1 WN (ZcK 1 rfl) (XA ..)<|Dq (pp b32 0) (fun _=>WD rfl rfl)<|Dl ZO (ZcK 0 rfl) (Va (ZL hA31)) ?_)))
  refine Dc rfl call66 (fun _=>rfl) (fun hin=>Tr _ _ _ (RP.mono (Hle.hu _ _) hA31) (by omega)) ?_
  rintro _ _ ⟨cs36,k36,rfl,rfl,hO36⟩
  refine Dq (pp b32 35) (fun _=>WC rfl rfl)<|Dl Zu (ZcK 0 rfl) (Vt (ZL hA31) (Zy hB31)) ?_
  refine Dc rfl call23 (fun _=>rfl) (fun hin=>ih' _ (getElem_mem h30n) _ _ (RT.mono (Hle.hu _ _) hB31) (by omega)) ?_
  rintro _ _ ⟨cs37,k37,rfl,rfl,hO37⟩
  refine Dq (.agg ⟨cs36++cs37⟩) (fun _=>Pu.build (pv:=[(0,.agg ⟨cs36⟩),(1,.agg ⟨cs37⟩)]) (l:=cs36++cs37) rfl (W0 hO36.len hO37.len))<|Dr rfl (fun _=>Zj (vs:=[.agg ⟨cs36++cs37⟩]) [cs36++cs37] Xp SL rfl rfl (al1 (ZJ hO36.len hO37.len)) rfl (by decide) fun b k h1 h2=>⟨[k],by rw [Yd rfl];exact Sub.refl,b,k,rfl,rfl,h1,h2⟩) (fun _ _ ⟨b38,k38,e1,e2,ho38,hk38⟩=>?_);subst e1 e2
  refine ZX (M':=[k38,k37,k36,(BX b32 (ca31++cb31) 117),(BX b1 (pkT kind num ref v w) 51),k3,k4,k1,k2,(BX b2 (pkT 0 0 zS nS nS) 51)]) rfl ?_
  show JL _ _ _ [_,_,_] _ _ _
  have hlens39:∀ e∈([cs36++cs37]:List (List Value)),List.length e=71:=al1 (ZJ hO36.len hO37.len)
  have hoks39:∀ e∈([cs36++cs37]:List (List Value)),okc e:=al1 (YB hO36.ok hO37.ok)
  refine JLr (ZA (i:=5) (n:=1) (es':=[cs36++cs37]) Xp Xp (Or.inl rfl) SL rfl rfl rfl how (fun F w m=>Src.row (((ZcS 0 rfl (by rw [hk38];exact mem_cons_self))).heap m) (Zx (Zw hlens39))) rfl hlens39 hoks39 (by decide) (by omega) fun v39 k39 ho39=>JLq (pp b1 35) (Y0 rfl rfl)<|JLr (Zb 4 (vs:=[v39]) (l:=pkT kind num ref v v39) WN rfl rfl rfl (ZH ho39.one) rfl (Zh ho39.one Zq) (U7 ..)<|Za<|Ze<|JLn (ZcP rfl rfl (by omega))<|JLM rfl<|Za<|⟨_,?_,(j+1),v39,(es2++[cs36++cs37]),k39,(k4++(k36++k37)),Zp rfl,(Sd (Sub.cons 3 rfl (Sub.cons 3 rfl (ZcY (Sub.cons 3 rfl (Sub.cons 1 rfl (Sk (Sd (Sk (Sk (Sk Sub.nil))))))))))),?_,?_,?_,rfl⟩))
  ·omega
  ·omega
  ·assumption
  rw [take_succ_eq_append_getElem h30n];exact OCs.snoc hO36 hO37 hopw
 have h30n:cases.length≤j:=by omega
 refine ZC _ rfl<|Zd<|JLr (Zn Zu rfl (ZcK 0 rfl) (Z4 ..)<|JLr (Zb 5 (vs:=pkT kind num ref v w) (l:=pkT kind num ref v w) Zu rfl rfl rfl rfl rfl (ZR hov.one how.one) (Yb ..)<|Za<|Zz<|⟨.agg ⟨pkT kind num ref v w⟩,[k1++(k2++(k3++k4))],Ret.one rfl (RV.cell Zu rfl (ZcK 5 rfl) (Z4 ..)),(Zc3 (Sd (Sub.cons 2 rfl (Sub.cons 2 rfl (Sk (Sk Sub.nil)))))),?_⟩))
 rw [take_of_length_le h30n] at hopw
 exact ⟨_,_,rfl,rfl,OT_mk.2 ⟨v,w,es,es2,k1,k2,k3,k4,rfl,hk,hn,hov,hopv,how,hopw,rfl,hks.le,hcv.le⟩⟩
set_option maxHeartbeats 2000000 in
theorem Mn (l:List Tm) (v:Value) (H:Heap) (hv:Hs.rdS RT 36 H v l) (hn:l.length≤1000000) (hz:∀ t∈l,sizeT t≤400000):CT prog 7 ⟨[v]⟩ [] H (fun v N=>∃ k,N=[k]∧OL l v k):=by
 refine Zl func7 rfl rfl<|Zd<|JAn rfl<|Zd<|JAn rfl<|Zg<|Zd<|JLm v ?_
 obtain ⟨a1,cap1,hv1⟩:=hv.sl
 have hle1:=hv.le
 refine JLn (ZcM ZI hv1)<|JLM rfl<|Za<|Zm<|ZD (fun k ρ M=>∃ (j:Nat) (y1:Value) (q1 q2:Zf) (es:List (List Value)),Z7 ρ [(2,nS),(3,y1),(6,v),(7,iv ((l.length:Int))),(8,iv ((j:Int)))]=ρ∧Sub [q1,q2] M∧j≤l.length∧Own 51 36 y1 es q1∧OTs (l.take j) es q2∧k=l.length-j) _ ⟨0,nS,[],[],[],Zp rfl,(ZcL (ZcL Sub.nil)),Nat.zero_le _,Own.nil,⟨rfl,rfl⟩,rfl⟩ ?_
 rintro _ ρ2 _ ⟨j,y1,q1,q2,es,e3,hm8,hj,how,hos,rfl⟩
 obtain ⟨ρ9,rfl⟩:=Zi e3
 clear e3
 refine ZF hm8 ?_
 have hlen:=hv.le
 have hel:=YH hos
 rw [length_take] at hel
 refine Zd<|JLn (Pu.lss rfl rfl)<|Za<|Zg<|ZN rfl (fun h10=>?_) (fun h10=>?_)
 ·have h10n:j<l.length:=by omega
  refine Zo<|Zg<|Zm<|Zg<|Ze ?_
  obtain ⟨b11,o11,cap11,row11,T11,fr11,cs11,hv11,hb11,hs11,hE11⟩:=hv.get j (by omega)
  refine JLn (Pu.idx j ZI Zu hv11 rfl rfl (by omega))<|JLr (Zn Zu rfl (ZcN hb11) hs11<|JLr (Zk (l:=pkT 0 0 zS nS nS) zeroValue51 rfl fun b12=>JLr (Zb 0 (vs:=cs11) (l:=cs11) Zu rfl rfl rfl rfl (Zy hE11) (Y5 hE11) (ZY (n:=36) rfl (Zy hE11))<|Za<|Ze<|JLm y1<|JLr (Zn Zu rfl (ZcK 0 rfl) (Zx (Zy hE11))<|Jc call23 rfl (fun hin=>V5 _ _ _ (RT.mono (Hle.hu _ _) hE11) (by have:=hz _ (getElem_mem h10n);omega)) rfl ?_))))
  rintro _ _ ⟨cs13,k13,rfl,rfl,hO13⟩
  refine JLr (Zj (vs:=[.agg ⟨cs13⟩]) [cs13] ZI YM rfl rfl (al1 hO13.len) rfl (by decide) fun b14 k14 ho14 hk14=>?_)
  have hlens15:∀ e∈([cs13]:List (List Value)),List.length e=36:=al1 hO13.len
  have hoks15:∀ e∈([cs13]:List (List Value)),okc e:=al1 hO13.ok
  refine JLr (ZA (i:=3) (n:=1) (es':=[cs13]) ZI ZI (Or.inl rfl) YM rfl rfl rfl how (fun F w m=>Src.row (((ZcS 0 rfl (by rw [hk14];exact mem_cons_self))).heap m) (Zx (Zw hlens15))) rfl hlens15 hoks15 (by decide) (by omega) fun v15 k15 ho15=>JLa v15<|Za<|Ze<|JLn (ZcP rfl rfl (by omega))<|JLM rfl<|Za<|⟨_,?_,(j+1),v15,k15,(q2++k13),(es++[cs13]),Zp rfl,(Sd (Sub.cons 2 rfl (ZcO (Sub.cons 2 rfl (Sk Sub.nil))))),?_,?_,?_,rfl⟩)
  ·omega
  ·omega
  ·exact ho15
  rw [take_succ_eq_append_getElem h10n];exact OTs.snoc hO13 hos
 have h10n:l.length≤j:=by omega
 refine ZC _ rfl<|Zd<|JLm y1<|JLa y1<|Za<|ZE y1 [q1++q2] (ZcO (Sk (Sk Sub.nil))) (?_)
 rw [take_of_length_le h10n] at hos
 exact ⟨_,rfl,OL.mk how hos (by omega)⟩
theorem CW:frF parT 1=1:=by unfold frF;rw [Ns];rfl
theorem HF (v:Value) (H:Heap) (hv:Hs.rdS RT 36 H v Xd):CT prog 28 ⟨[v]⟩ [] H (fun r N=>∃ u k,r=.tuple ⟨[u,iv 0]⟩∧N=[k]∧Own 3 1 u (Z2 [0,0]) k):=by
 have hz:∀ t∈Xd,sizeT t≤400000:=by decide
 have z:=HR Xd v H hv hz
 rw [J7,if_pos rfl,Ql] at z
 exact z
theorem Iq (v:Value) (H:Heap) (hv:Hs.rdS RT 36 H v Xd) (hGK:GK H):CT prog 13 ⟨[v]⟩ [] H (fun r N=>∃ u k,r=.tuple ⟨[u,iv 0]⟩∧N=[k]∧Own 38 32 u (sms [sha bRP,sha bRP]) k):=by
 have hz:∀ t∈Xd,sizeT t≤400000:=by decide
 have z:=UY Xd v H hv hz hGK
 rw [ks_ring.1,ks_ring.2] at z
 exact z
theorem Gt (v:Value) (H:Heap) (hv:Hs.rdS RT 36 H v Um) (hGK:GK H):CT prog 13 ⟨[v]⟩ [] H (fun r N=>∃ u k,r=.tuple ⟨[u,iv 0]⟩∧N=[k]∧Own 38 32 u (sms [sha bRP]) k):=by
 have hz:∀ t∈Um,sizeT t≤400000:=by decide
 have z:=UY Um v H hv hz hGK
 rw [ks_one.1,ks_one.2] at z
 exact z
theorem Gs (v:Value) (H:Heap) (hv:Hs.rdS RT 36 H v parT) (hGK:GK H):CT prog 13 ⟨[v]⟩ [] H (fun r N=>∃ u k,r=.tuple ⟨[u,iv 0]⟩∧N=[k]∧Own 38 32 u (sms [q0P,q1P]) k):=by
 have hz:∀ t∈parT,sizeT t≤400000:=by decide
 have z:=UY parT v H hv hz hGK
 rw [ks_par.1,ks_par.2] at z
 exact z
theorem Ff (v:Value) (H:Heap) (hv:Hs.rdS RT 36 H v parT):CT prog 34 ⟨[v,iv 1]⟩ [] H (fun r N=>∃ u k,r=.tuple ⟨[u,iv 0]⟩∧N=[k]∧Own 3 1 u (Z2 [1,0]) k):=by
 have hz:∀ t∈parT,sizeT t≤400000:=by decide
 have z:=HN parT v H hv hz 1
 have hf:(1:Int)<0∨(parT.length:Int)≤1↔False:=by decide
 rw [KI] at z
 simp only [hf,if_true,if_false,not_false_iff,and_true,true_and,Pb,CW,AZ] at z
 exact z
theorem G4 (v:Value) (H:Heap) (hv:Hs.rdS RT 36 H v twoT):CT prog 36 ⟨[v]⟩ [] H (fun r N=>∃ u k,r=.tuple ⟨[u,iv 0]⟩∧N=[k]∧OII [[0],[1]] u k):=by
 have hz:∀ t∈twoT,sizeT t≤400000:=by decide
 have z:=HM twoT v H hv hz
 rw [EO,if_pos rfl,AW] at z
 exact z
theorem Fi (v:Value) (H:Heap) (hv:Hs.rdS RT 36 H v parT) (hGK:GK H):CT prog 14 ⟨[v]⟩ [] H (fun r N=>∃ u k,r=.tuple ⟨[u,iv 0]⟩∧N=[k]∧OL [opM q1P 1,opM q0P 0] u k):=by
 have hz:∀ t∈parT,sizeT t≤400000:=by decide
 have z:=Dh parT v H hv hz hGK
 rw [ks_par.1,A2] at z
 exact z
theorem ZaH:∀ (l:List (Sm×Tm)) (o:List Int) (bB bO r:Nat) (vo:Value) (t:Tm) (cs:List Value) (H:Heap) (ht:RT H cs t) (hB:H bB=some (.cells ⟨[.map (some r)]⟩ 131 (0,0))) (hRb:H r=some (gmO smV iV (kSm l) (idF (kSm l)))) (hO:H bO=some (.cells ⟨[vo]⟩ 45 (0,0))) (ho:Hs.rdS RI 1 H vo o),CT prog 129 ⟨[.agg ⟨cs⟩,pp bB 0,pp bO 0]⟩ [] H (fun v N=>∃ kx cx,v=.agg ⟨pkT (clD (kSm l) o t.kind t.num t.ref).1 (clD (kSm l) o t.kind t.num t.ref).2.1 (clD (kSm l) o t.kind t.num t.ref).2.2 kx cx⟩∧N=[]∧kx.oneCell'=true∧cx.oneCell'=true):=by
 intro l o bB bO r vo t cs H ht hB hRb hO ho
 obtain ⟨kind,num,ref,kids,cases⟩:=t
 obtain ⟨ks,cv,rfl,hk,hn,hks,hcv⟩:=RT_mk.1 ht
 simp only [Tm.kind,Tm.num,Tm.ref]
 refine Zl func129 rfl rfl<|Zd<|JLr (Zr (l:=pkT kind num ref ks cv) rfl rfl fun b1=>JLr (Zk (l:=pkT 0 0 zS nS nS) zeroValue51 rfl fun b2=>Za<|Zg<|Zd<|JLq (pp b1 0) (Yh rfl rfl)<|JLr (Zc ty3 rfl (ZcK 1 rfl) (YE ..)<|JLn (Pu.neq rfl rfl)<|Za ?_)))
 refine Zt rfl (fun h3=>?_) (fun h3=>?_)
 ·replace h3:=nt h3
  replace h3:=df h3
  refine Zd<|JLr (Zn Zu rfl (ZcK 1 rfl) (Z4 ..)<|JLr (Zb 0 (vs:=pkT kind num ref ks cv) (l:=pkT kind num ref ks cv) Zu rfl rfl rfl rfl rfl (ZR hks.one hcv.one) (Yb ..)<|Za<|Zz<|⟨.agg ⟨pkT kind num ref ks cv⟩,[],Ret.one rfl (RV.cell Zu rfl (ZcK 0 rfl) (Z4 ..)),Sub.nil,?_⟩))
  have hD:clD (kSm l) o kind num ref=(kind,num,ref):=by unfold clD;rw [if_neg (fun q=>h3 q.1)]
  exact ⟨_,_,by (rw [hD];try rfl),rfl,hks.one,hcv.one⟩
 replace h3:=nf h3
 replace h3:=dt h3
 refine Zo<|Zg ?_
 have hk6:kind=6:=by first | exact h3 | omega | simpa using h3
 refine Ze<|JLr (Zc K1 rfl (ZcN hB) rfl<|JLq (pp b1 2) (TO rfl rfl)<|JLr (Zn Yv rfl (ZcK 1 rfl) (QV ..)<|JLr (UZ (kV:=smV) (vV:=iV) (K:=(kSm l)) (f:=idF (kSm l)) (k:=ref) 0 CH underlying131 zeroValue3 rfl rfl hRb<|JLM rfl<|JLn (Pu.extract rfl rfl)<|JLn (Pu.extract rfl rfl)<|JLA rfl<|JAn rfl<|Zg<|Zg ?_)))
 refine Ze<|JLr (Zc YL rfl (ZcN hO) rfl<|JLM rfl<|Jc call102 rfl (fun hin=>Rp _ _ _ _ (RIs.mono (Hle.hu _ _) ho)) rfl ?_)
 rintro _ _ ⟨rfl,rfl⟩
 refine JAn rfl<|Zd<|JLM rfl<|JLM rfl<|ZK 2 [24,25] [(25,cond (decide (ref∈(kSm l))) (.bool (decide (0≤ixI o (if ref∈(kSm l) then (idF (kSm l)) ref else 0)))) undef)] ?_ fun f5=>?_
 ·cases h4:(decide (ref∈(kSm l))) with
  | true=>
   replace h4:=dt h4
   refine JLM rfl<|JLn (Pu.geq rfl rfl) ?_
   exact Za ⟨⟨rfl,trivial⟩,rfl⟩
  | false=>
   exact Z1 rfl ⟨rfl,trivial⟩
 refine JLn (ZcR rfl rfl rfl)<|Za<|Zt rfl (fun h6=>?_) (fun h6=>?_)
 ·obtain ⟨h6a,h6b⟩:=Xx h6
  replace h6a:=dt h6a
  replace h6b:=dt h6b
  refine Zd<|JLM rfl<|JLq (.agg ⟨pkT 7 (ixI o (if ref∈(kSm l) then (idF (kSm l)) ref else 0)) zS nS nS⟩) (Pu.build (pv:=[(0,iv 7),(1,iv (ixI o (if ref∈(kSm l) then (idF (kSm l)) ref else 0)))]) (l:=pkT 7 (ixI o (if ref∈(kSm l) then (idF (kSm l)) ref else 0)) zS nS nS) rfl (WL _ _))<|JLr (Zb 0 (vs:=pkT 7 (ixI o (if ref∈(kSm l) then (idF (kSm l)) ref else 0)) zS nS nS) (l:=pkT 7 (ixI o (if ref∈(kSm l) then (idF (kSm l)) ref else 0)) zS nS nS) Zu rfl rfl rfl rfl rfl (ZR rfl rfl) (Yb ..)<|Za<|Zz<|⟨.agg ⟨pkT 7 (ixI o (if ref∈(kSm l) then (idF (kSm l)) ref else 0)) zS nS nS⟩,[],Ret.one rfl (RV.cell Zu rfl (ZcK 0 rfl) (Z4 ..)),Sub.nil,?_⟩)
  have hq:ref∈kSm l∧idF (kSm l) ref∈o:=by
   have z:ref∈kSm l∧0≤ixI o (if ref∈kSm l then idF (kSm l) ref else 0):=by first | exact ⟨h6a,h6b⟩ | simpa using h6
   refine ⟨z.1,?_⟩
   have z2:=z.2;rw [if_pos z.1] at z2;have z3:=decide_eq_true z2;rw [Nq] at z3;exact of_decide_eq_true z3
  have hD:clD (kSm l) o kind num ref=(7,ixI o (if ref∈kSm l then idF (kSm l) ref else 0),zS):=by unfold clD ixI;rw [if_pos ⟨hk6,hq.1,hq.2⟩,if_pos hq.1,if_pos hq.2]
  exact ⟨_,_,by (rw [hD];try rfl),rfl,rfl,rfl⟩
 refine Zo<|Zd<|JLr (Zn Zu rfl (ZcK 1 rfl) (Z4 ..)<|JLr (Zb 0 (vs:=pkT kind num ref ks cv) (l:=pkT kind num ref ks cv) Zu rfl rfl rfl rfl rfl (ZR hks.one hcv.one) (Yb ..)<|Za<|Zz<|⟨.agg ⟨pkT kind num ref ks cv⟩,[],Ret.one rfl (RV.cell Zu rfl (ZcK 0 rfl) (Z4 ..)),Sub.nil,?_⟩))
 have hq:¬ (ref∈kSm l∧idF (kSm l) ref∈o):=by
  rintro ⟨q1,q2⟩
  have z3:=decide_eq_true q2;rw [← Nq] at z3;have z4:=of_decide_eq_true z3
  have z:=h6;rw [if_pos q1] at z;simp [q1] at z;omega
 have hD:clD (kSm l) o kind num ref=(kind,num,ref):=by unfold clD;rw [if_neg (fun q=>hq q.2)]
 exact ⟨_,_,by (rw [hD];try rfl),rfl,hks.one,hcv.one⟩
set_option maxHeartbeats 4000000 in
theorem GU (l:List (Sm×Tm)) (x:Int) (bL bB r:Nat) (v:Value) (H:Heap) (hL:H bL=some (.cells ⟨[v]⟩ 71 (0,0))) (hv:Hs.rdS RKn 68 H v l) (hB:H bB=some (.cells ⟨[.map (some r)]⟩ 131 (0,0))) (hRb:H r=some (gmO smV iV (kSm l) (idF (kSm l)))) (hn:l.length≤1000) (hzl:∀ x∈l,sizeT x.2≤400000) (h0:0≤x) (h1:x<(l.length:Int)):CT prog 127 ⟨[iv x,pp bL 0,pp bB 0]⟩ [] H (fun v N=>∃ b,v=.slice (some ⟨b,0,none⟩) l.length l.length∧N=[(BX b (bls (flL l.length (rqL l x))) 4)]):=by
 refine Zl func127 rfl rfl<|Zd<|JAn rfl<|Zd<|JLr (Zc DH rfl (ZcN hL) rfl ?_)
 obtain ⟨a1,cap1,hv1⟩:=hv.sl
 have hle1:=hv.le
 refine JLn (ZcM RE hv1)<|JLr (OM (l.length) Df el4 rfl rfl (by omega) (by omega) (by omega) (by omega) fun b2 k2 _ hk2=>?_)
 obtain rfl:k2=(BX b2 (bls (replicate (l.length) false)) 4):=hk2.trans (congrArg (fun y=>[(b2,Obj.cells ⟨y⟩ 4 (0,0))]) (BD _))
 refine JLA rfl ?_
 rw [CX]
 refine Za<|Zd<|JLM rfl<|JLr (Zj (vs:=[iv x]) [[iv x]] ZS el3 rfl rfl (al1 rfl) rfl (by decide) fun b3 k3 ho3 hk3=>JAn rfl<|Zg<|Zd<|JAn rfl<|Zm ?_)
 refine ZD (fun k ρ M=>∃ (a:Nat) (t:List Int) (y1:Value) (q1:Zf),Z7 ρ [(1,pp bL 0),(2,pp bB 0),(4,nS),(5,.slice (some ⟨b2,0,none⟩) (l.length) (l.length)),(6,y1),(7,iv ((a:Int)))]=ρ∧Sub [(BX b2 (bls (flL l.length t)) 4),q1] M∧okO l.length t∧a≤t.length+1∧Own 3 1 y1 (Z2 (x::t)) q1∧rqB (dfA l) x (l.length+1-a) a t=rqL l x∧k=l.length+1-a) _ ⟨0,[],(.slice (some ⟨b3,0,none⟩) 1 1),k3,Zp rfl,(Sub.cons 1 rfl (Sk Sub.nil)),(Cn _),Nat.zero_le _,ho3,rfl,rfl⟩ ?_
 rintro _ ρ4 _ ⟨a,t,y1,q1,e5,hm11,hok,ha,how1,hinv,rfl⟩
 obtain ⟨ρ12,rfl⟩:=Zi e5
 clear e5
 refine ZF hm11 ?_
 have htlen:=hok.len
 have hcons:(x::t).length=t.length+1:=rfl
 refine Zg<|Zd<|JLM rfl<|JLm y1 ?_
 obtain ⟨a13,cap13,hv13⟩:=how1.sl
 rw [Zv] at hv13
 refine JLn (ZcM ZS hv13)<|JLn (Pu.lss rfl rfl)<|Za<|ZN rfl (fun h14=>?_) (fun h14=>?_)
 ·have h14n:a<(x::t).length:=by omega
  have hal:=h14n
  have hax:=Bn ⟨h0,h1⟩ hok h14n
  refine Zo<|Zg<|Zm<|Zg<|ZM mixed #[0,0,0,6,14,31,63,127,0,511,1023,0] 12 (sm 21 12) [] [(9,fun _ _ vw qw=>∃ k,qw=[k]∧Own 3 1 vw (Z2 (dfA l (((x::t)[a])))) k)] rfl (by kernel_rfl) rfl (by kernel_rfl)<|Dl1 DH (ZcN hL) rfl<|Dm y1<|DM (fun _=>rfl) ?_
  obtain ⟨b19,cap19,row19,hv19,hm19,hs19⟩:=how1.at (j:=a) (by rw [Zv];first | assumption | omega)
  rw [Yg _ _ (by omega)] at hs19
  refine Dn (fun _=>Pu.idx a ZS ty3 hv19 rfl rfl (by rw [Zv];first | assumption | omega))<|Dl1 ty3 (ZcS 1 rfl hm19) (ZP hs19) ?_
  obtain ⟨b20,o20,cap20,row20,T20,fr20,cs20,hv20,hb20,hs20,hE20⟩:=hv.get ((x::t)[a]).toNat (by omega)
  obtain ⟨cb20,rfl,hB20⟩:=hE20
  refine Dq (pp b20 (o20+((x::t)[a]).toNat*68)) (fun _=>Pu.idx ((x::t)[a]).toNat RE R3 hv20 rfl (by first | rfl | omega) (by omega))<|Dq (pp b20 (o20+((x::t)[a]).toNat*68+32)) (fun _=>Nu rfl rfl)<|Dl Zu (ZcN hb20) (OS hs20 (Vt rfl (Zy hB20)))<|Dl1 K1 (ZcN hB) rfl ?_
  refine Dc rfl call128 (fun _=>rfl) (fun hin=>M4 l (((x::t)[a])) (by omega) _ r _ (RT.mono (Hle.hu _ _) hB20) (hzl _ (getElem_mem _)) (Hle.hu _ _ _ _ hRb)) ?_
  rintro v21 _ ⟨k21,rfl,ho21⟩
  obtain ⟨a22,cap22,hv22⟩:=ho21.sl
  rw [Zv] at hv22
  refine Dn (fun _=>ZcM ZS hv22)<|DM (fun _=>rfl)<|ZX (M':=[k21,(BX b2 (bls (flL l.length t)) 4),q1]) rfl ?_
  show JL _ _ _ [] _ _ _
  refine Za<|Zm<|ZD (fun k ρ M=>∃ (p:Nat) (t2:List Int) (y2:Value) (q2:Zf),Z7 ρ [(1,pp bL 0),(2,pp bB 0),(4,nS),(5,.slice (some ⟨b2,0,none⟩) (l.length) (l.length)),(6,y2),(7,iv ((a:Int))),(30,v21),(31,iv (((dfA l (((x::t)[a]))).length:Int))),(32,iv ((p:Int)))]=ρ∧Sub [(BX b2 (bls (flL l.length t2)) 4),q2,k21] M∧p≤(dfA l ((x::t)[a])).length∧okO l.length t2∧Own 3 1 y2 (Z2 (x::t2)) q2∧t2=stO (fun _=>true) ((dfA l ((x::t)[a])).take p) t∧k=(dfA l ((x::t)[a])).length-p) _ ⟨0,t,y1,q1,Zp rfl,(Sub.cons 1 rfl (Sub.cons 1 rfl (Sk Sub.nil))),Nat.zero_le _,hok,how1,rfl,rfl⟩ ?_
  rintro _ ρ23 _ ⟨p,t2,y2,q2,e24,hm33,hp,hok2,how2,hst2,rfl⟩
  obtain ⟨ρ34,rfl⟩:=Zi e24
  clear e24
  refine ZF hm33 ?_
  have ht2len:=hok2.len
  have hcons2:(x::t2).length=t2.length+1:=rfl
  have hdl:=J1 (l:=l) (x:=((x::t)[a])) (by omega)
  have hdz:=hzl _ (getElem_mem (show (((x::t)[a])).toNat<l.length by omega))
  refine Zd<|JLn (Pu.lss rfl rfl)<|Za<|Zg<|ZN rfl (fun h35=>?_) (fun h35=>?_)
  ·have h35n:p<(dfA l (((x::t)[a]))).length:=by omega
   have hpl:=h35n
   have hkx:=Pn l ((x::t)[a]) _ (getElem_mem h35n)
   refine Zo<|Zg<|Zm<|Zg<|Ze ?_
   obtain ⟨b36,cap36,row36,hv36,hm36,hs36⟩:=ho21.at (j:=p) (by rw [Zv];first | assumption | omega)
   rw [Yg _ _ (by omega)] at hs36
   refine JLn (Pu.idx p ZS ty3 hv36 rfl rfl (by rw [Zv];first | assumption | omega))<|JLr (Zc ty3 rfl (ZcS 2 rfl hm36) (ZP hs36)<|JAn rfl<|Zd<|JLM rfl<|JLM rfl<|JLq (pp b2 (0+((dfA l (((x::t)[a])))[p]).toNat*1)) (Pu.idx ((dfA l (((x::t)[a])))[p]).toNat Df ty4 rfl rfl (by omega) (by omega))<|JLr (Zc ty4 rfl (ZcK 0 rfl) (X2 (by have hbl:List.length (flL l.length t2)=l.length:=(Te ..);omega))<|JLn (Pu.not rfl)<|Za<|Zt rfl (fun h37=>?_) (fun h37=>?_)))
   ·replace h37:=nt h37
    refine Zg ?_
    have hkn:(dfA l ((x::t)[a]))[p]∉t2:=by have z:=h37;rw [JT hkx.1 hkx.2] at z;simpa using z
    refine Ze<|JLM rfl<|JLM rfl<|JLq (pp b2 (0+((dfA l (((x::t)[a])))[p]).toNat*1)) (Pu.idx ((dfA l (((x::t)[a])))[p]).toNat Df ty4 rfl rfl (by omega) (by omega))<|JLr (Zb 0 (vs:=[.bool true]) (l:=bls ((flL l.length t2).set ((dfA l (((x::t)[a])))[p]).toNat true)) ty4 rfl rfl rfl rfl rfl (Zh rfl Zq) (PB (by have hbl:List.length (flL l.length t2)=l.length:=(Te ..);omega)) ?_)
    rw [CZ hkx.1]
    refine Za<|Ze<|JLm y2<|JLM rfl<|JLr (Zj (vs:=[iv ((dfA l (((x::t)[a])))[p])]) [[iv ((dfA l (((x::t)[a])))[p])]] ZS el3 rfl rfl (al1 rfl) rfl (by decide) fun b38 k38 ho38 hk38=>?_)
    have hlens39:∀ e∈([[iv ((dfA l (((x::t)[a])))[p])]]:List (List Value)),List.length e=1:=al1 rfl
    have hoks39:∀ e∈([[iv ((dfA l (((x::t)[a])))[p])]]:List (List Value)),okc e:=al1 (Zh rfl Zq)
    refine JLr (ZA (i:=2) (n:=1) (es':=[[iv ((dfA l (((x::t)[a])))[p])]]) ZS ZS (Or.inl rfl) el3 rfl rfl rfl how2 (fun F w m=>Src.row (((ZcS 0 rfl (by rw [hk38];exact mem_cons_self))).heap m) (Zx (Zw hlens39))) rfl hlens39 hoks39 (by decide) (by rw [Zv];simp only [length_cons];omega) fun v39 k39 ho39=>JLa v39<|Za<|Ze<|JLn (ZcP rfl rfl (by omega))<|JLM rfl<|Za<|⟨_,?_,(p+1),(t2++[(dfA l ((x::t)[a]))[p]]),v39,k39,Zp rfl,(Sd (Sk (Sk (Sk Sub.nil)))),?_,?_,?_,?_,rfl⟩)
    ·omega
    ·omega
    ·exact hok2.add hkn hkx.1 hkx.2
    ·have z:=ho39;rw [← Wa] at z;exact z
    rw [N3 hpl,← hst2,if_pos hkn]
   replace h37:=nf h37
   refine Zo<|Ze<|JLn (ZcP rfl rfl (by omega))<|JLM rfl<|Za<|⟨_,?_,(p+1),t2,y2,q2,Zp rfl,(Sk (Sk (Sk Sub.nil))),?_,?_,?_,?_,rfl⟩
   ·omega
   ·omega
   ·exact hok2
   ·exact how2
   have hkn:¬ (dfA l ((x::t)[a]))[p]∉t2:=by (have z:=h37;rw [JT hkx.1 hkx.2] at z;simpa using z)
   rw [N3 hpl,← hst2,if_neg hkn]
  have h35n:(dfA l (((x::t)[a]))).length≤p:=by omega
  refine ZC _ rfl<|Ze<|JLM rfl<|JLn (ZcP rfl rfl (by omega))<|JAn rfl<|⟨_,?_,(a+1),t2,y2,q2,Zp rfl,(Sk (Sk Sub.nil)),?_,?_,?_,?_,rfl⟩
  ·omega
  ·exact hok2
  ·have:=(S9 (P:=fun _=>true) (Pn l ((x::t)[a])) hok).2.length_le;rw [hst2,take_of_length_le (by omega)];omega
  ·exact how2
  rw [show l.length+1-a=(l.length+1-(a+1))+1 by omega,GN (by omega),Ub hal] at hinv;rw [hst2,take_of_length_le (by omega)];exact hinv
 have h14n:(x::t).length≤a:=by omega
 refine ZC _ rfl<|Zd<|JLM rfl<|JAn rfl<|ZE (.slice (some ⟨b2,0,none⟩) (l.length) (l.length)) [(BX b2 (bls (flL l.length t)) 4)] (Sk Sub.nil) (?_)
 rw [D2 (by omega)] at hinv
 exact ⟨_,rfl,by rw [← hinv]⟩
set_option maxHeartbeats 8000000 in
theorem KH (l:List (Sm×Tm)) (x:Int) (r:Nat) (v:Value) (H:Heap) (hv:Hs.rdS RKn 68 H v l) (hRb:H r=some (gmO smV iV (kSm l) (idF (kSm l)))) (hn:l.length≤1000) (hzl:∀ x∈l,sizeT x.2≤400000) (h0:0≤x) (h1:x<(l.length:Int)):CT prog 83 ⟨[v,.map (some r),iv x]⟩ [] H (fun v N=>∃ u k,v=.tuple ⟨[u,iv (grE l x)]⟩∧N=[k]∧OL (grL l x) u k):=by
 refine Zl func83 rfl rfl<|Zd<|JLr (Zr (l:=[v]) rfl (ZH hv.one) fun b1=>JLr (Zr (l:=[.map (some r)]) rfl rfl fun b2=>JLA rfl<|JAn rfl<|Zd<|JLq (.func (.func 127) ⟨[]⟩ ⟨[pp b1 0,pp b2 0]⟩) (Pu.makeFunc rfl rfl)<|JLA rfl<|Za ?_))
 refine Zd<|JLM rfl<|JLM rfl<|Jc call127 rfl (fun hin=>GU l x _ _ r _ _ (hin 1 _ rfl _ _ mem_cons_self) (RKns.mono (Hle.hu _ _) hv) (hin 0 _ rfl _ _ mem_cons_self) (Hle.hu _ _ _ _ hRb) hn hzl (by omega) (by omega)) rfl ?_
 rintro _ _ ⟨b3,rfl,rfl⟩
 refine JAn rfl<|Zd<|JLM rfl<|JLr (Zj (vs:=[iv x]) [[iv x]] ZS el3 rfl rfl (al1 rfl) rfl (by decide) fun b4 k4 ho4 hk4=>JLr (Zk (l:=[nS]) zeroValue45 rfl fun b5=>JLr (Zb 0 (vs:=[.slice (some ⟨b4,0,none⟩) 1 1]) (l:=[.slice (some ⟨b4,0,none⟩) 1 1]) YL rfl rfl rfl rfl rfl (Zh rfl Zq) rfl<|Za<|Zg<|Zd<|JLA rfl ?_)))
 refine Za<|Zm<|ZD (fun k ρ M=>∃ (a:Nat) (out:List Int) (y1:Value) (q1:Zf),Z7 ρ [(2,iv x),(3,pp b1 0),(4,pp b2 0),(6,nS),(7,iv 0),(8,.func (.func 127) ⟨[]⟩ ⟨[pp b1 0,pp b2 0]⟩),(9,.slice (some ⟨b3,0,none⟩) l.length l.length),(10,pp b5 0),(11,iv ((a:Int)))]=ρ∧Sub [(BX b5 [y1] 45),q1,(BX b3 (bls (flL l.length (rqL l x))) 4),(BX b2 [.map (some r)] 131),(BX b1 [v] 71)] M∧okO l.length out∧a≤out.length∧Own 3 1 y1 (Z2 out) q1∧ordB (pcB l x) (dfA l) (l.length-a) a out=coL l x∧k=l.length-a) _ ⟨0,[x],(.slice (some ⟨b4,0,none⟩) 1 1),k4,Zp rfl,(Sk (Sk (Sk (Sk (Sk Sub.nil))))),(okO.one h0 h1),Nat.zero_le _,ho4,rfl,rfl⟩ ?_
 rintro _ ρ6 _ ⟨a,out,y1,q1,e7,hm16,hok,ha,how1,hinv,rfl⟩
 obtain ⟨ρ17,rfl⟩:=Zi e7
 clear e7
 refine ZF hm16 ?_
 have holen:=hok.len
 refine Zg<|Zd<|JLM rfl<|JLr (Zc YL rfl (ZcK 0 rfl) rfl ?_)
 obtain ⟨a18,cap18,hv18⟩:=how1.sl
 rw [Zv] at hv18
 refine JLn (ZcM ZS hv18)<|JLn (Pu.lss rfl rfl)<|Za<|ZN rfl (fun h19=>?_) (fun h19=>?_)
 ·have h19n:a<out.length:=by omega
  have hal:=h19n
  have hax:=hok.2 _ (getElem_mem h19n)
  refine Zo<|Zg<|Zm<|Zg<|ZM mixed #[0,0,0,6,14,31,63,127,0,511,1023,0] 12 (sm 29 12) [] [(9,fun _ _ vw qw=>∃ k,qw=[k]∧Own 3 1 vw (Z2 (dfA l ((out[a])))) k)] rfl (by kernel_rfl) rfl (by kernel_rfl)<|Dl1 DH (ZcK 4 rfl) rfl<|Dl1 YL (ZcK 0 rfl) rfl<|DM (fun _=>rfl) ?_
  obtain ⟨b24,cap24,row24,hv24,hm24,hs24⟩:=how1.at (j:=a) (by rw [Zv];first | assumption | omega)
  rw [Yg _ _ (by omega)] at hs24
  refine Dn (fun _=>Pu.idx a ZS ty3 hv24 rfl rfl (by rw [Zv];first | assumption | omega))<|Dl1 ty3 (ZcS 1 rfl hm24) (ZP hs24) ?_
  obtain ⟨b25,o25,cap25,row25,T25,fr25,cs25,hv25,hb25,hs25,hE25⟩:=hv.get (out[a]).toNat (by omega)
  obtain ⟨cb25,rfl,hB25⟩:=hE25
  refine Dq (pp b25 (o25+(out[a]).toNat*68)) (fun _=>Pu.idx (out[a]).toNat RE R3 hv25 rfl (by first | rfl | omega) (by omega))<|Dq (pp b25 (o25+(out[a]).toNat*68+32)) (fun _=>Nu rfl rfl)<|Dl Zu (ZcN hb25) (OS hs25 (Vt rfl (Zy hB25)))<|Dl1 K1 (ZcK 3 rfl) rfl ?_
  refine Dc rfl call128 (fun _=>rfl) (fun hin=>M4 l ((out[a])) (by omega) _ r _ (RT.mono (Hle.hu _ _) hB25) (hzl _ (getElem_mem _)) (Hle.hu _ _ _ _ hRb)) ?_
  rintro v26 _ ⟨k26,rfl,ho26⟩
  obtain ⟨a27,cap27,hv27⟩:=ho26.sl
  rw [Zv] at hv27
  refine Dn (fun _=>ZcM ZS hv27)<|DM (fun _=>rfl)<|ZX (M':=[k26,(BX b5 [y1] 45),q1,(BX b3 (bls (flL l.length (rqL l x))) 4),(BX b2 [.map (some r)] 131),(BX b1 [v] 71)]) rfl ?_
  show JL _ _ _ [] _ _ _
  refine Za<|Zm<|ZD (fun k ρ M=>∃ (p:Nat) (out2:List Int) (y2:Value) (q2:Zf),Z7 ρ [(2,iv x),(3,pp b1 0),(4,pp b2 0),(6,nS),(7,iv 0),(8,.func (.func 127) ⟨[]⟩ ⟨[pp b1 0,pp b2 0]⟩),(9,.slice (some ⟨b3,0,none⟩) l.length l.length),(10,pp b5 0),(11,iv ((a:Int))),(38,v26),(39,iv (((dfA l ((out[a]))).length:Int))),(40,iv ((p:Int)))]=ρ∧Sub [(BX b5 [y2] 45),q2,k26,(BX b3 (bls (flL l.length (rqL l x))) 4),(BX b2 [.map (some r)] 131),(BX b1 [v] 71)] M∧p≤(dfA l (out[a])).length∧okO l.length out2∧Own 3 1 y2 (Z2 out2) q2∧out2=stO (pcB l x) ((dfA l (out[a])).take p) out∧k=(dfA l (out[a])).length-p) _ ⟨0,out,y1,q1,Zp rfl,(Sub.cons 1 rfl (Sub.cons 1 rfl (Sk (Sk (Sk (Sk Sub.nil)))))),Nat.zero_le _,hok,how1,rfl,rfl⟩ ?_
  rintro _ ρ28 _ ⟨p,out2,y2,q2,e29,hm41,hp,hok2,how2,hst2,rfl⟩
  obtain ⟨ρ42,rfl⟩:=Zi e29
  clear e29
  refine ZF hm41 ?_
  have ho2len:=hok2.len
  have hdl:=J1 (l:=l) (x:=(out[a])) (by omega)
  have hdz:=hzl _ (getElem_mem (show ((out[a])).toNat<l.length by omega))
  refine Zd<|JLn (Pu.lss rfl rfl)<|Za<|Zg<|ZN rfl (fun h43=>?_) (fun h43=>?_)
  ·have h43n:p<(dfA l ((out[a]))).length:=by omega
   have hpl:=h43n
   have hkx:=Pn l (out[a]) _ (getElem_mem h43n)
   refine Zo<|Zg<|Zm<|Zg<|Ze ?_
   obtain ⟨b44,cap44,row44,hv44,hm44,hs44⟩:=ho26.at (j:=p) (by rw [Zv];first | assumption | omega)
   rw [Yg _ _ (by omega)] at hs44
   refine JLn (Pu.idx p ZS ty3 hv44 rfl rfl (by rw [Zv];first | assumption | omega))<|JLr (Zc ty3 rfl (ZcS 2 rfl hm44) (ZP hs44)<|JAn rfl<|Zd<|JLr (Zc YL rfl (ZcK 0 rfl) rfl<|JLM rfl<|Jc call54 rfl (fun hin=>Wn _ _ _ _ (Yr how2 (by omega) (hin 1 _ rfl))) rfl ?_))
   rintro _ _ ⟨rfl,rfl⟩
   refine JLn (Pu.not rfl)<|JLM rfl ?_
   cases h45:(!(decide ((dfA l ((out[a])))[p]∈out2))) with
   | true=>
    replace h45:=nt h45
    replace h45:=df h45
    refine JLM rfl<|JLM rfl<|JLq (pp b3 (0+((dfA l ((out[a])))[p]).toNat*1)) (Pu.idx ((dfA l ((out[a])))[p]).toNat Df ty4 rfl rfl (by omega) (by omega))<|JLr (Zc ty4 rfl (ZcK 3 rfl) (X2 (by have hbl:List.length (flL l.length (rqL l x))=l.length:=(Te ..);omega))<|JLq (.bool ((flL l.length (rqL l x)).getD ((dfA l ((out[a])))[p]).toNat false)) (ZcZ rfl rfl)<|JLM rfl ?_)
    cases h46:((flL l.length (rqL l x)).getD ((dfA l ((out[a])))[p]).toNat false) with
    | true=>
     refine JLM rfl<|JLM rfl<|Jc call127 rfl (fun hin=>GU l ((dfA l ((out[a])))[p]) _ _ r _ _ (hin 5 _ rfl _ _ mem_cons_self) (RKns.mono (Hle.hu _ _) hv) (hin 4 _ rfl _ _ mem_cons_self) (Hle.hu _ _ _ _ hRb) hn hzl (by omega) (by omega)) rfl ?_
     rintro _ _ ⟨b47,rfl,rfl⟩
     refine JLM rfl<|JLq (pp b47 (0+x.toNat*1)) (Pu.idx x.toNat Df ty4 rfl rfl (by omega) (by omega))<|JLr (Zc ty4 rfl (ZcK 0 rfl) (X2 (by have hbl:List.length (flL l.length (rqL l ((dfA l ((out[a])))[p])))=l.length:=(Te ..);omega))<|JLq (.bool ((flL l.length (rqL l ((dfA l ((out[a])))[p]))).getD x.toNat false)) (ZcZ rfl rfl)<|Za<|Zt rfl (fun h48=>?_) (fun h48=>?_))
     ·refine Ze<|JLr (Zc YL rfl (ZcK 1 rfl) rfl<|JLM rfl<|JLr (Zj (vs:=[iv ((dfA l ((out[a])))[p])]) [[iv ((dfA l ((out[a])))[p])]] ZS el3 rfl rfl (al1 rfl) rfl (by decide) fun b49 k49 ho49 hk49=>?_))
      have hlens50:∀ e∈([[iv ((dfA l ((out[a])))[p])]]:List (List Value)),List.length e=1:=al1 rfl
      have hoks50:∀ e∈([[iv ((dfA l ((out[a])))[p])]]:List (List Value)),okc e:=al1 (Zh rfl Zq)
      refine JLr (ZA (i:=3) (n:=1) (es':=[[iv ((dfA l ((out[a])))[p])]]) ZS ZS (Or.inl rfl) el3 rfl rfl rfl how2 (fun F w m=>Src.row (((ZcS 0 rfl (by rw [hk49];exact mem_cons_self))).heap m) (Zx (Zw hlens50))) rfl hlens50 hoks50 (by decide) (by first | omega | (rw [Zv];omega)) fun v50 k50 ho50=>JLr (Zb 2 (vs:=[v50]) (l:=[v50]) YL rfl rfl rfl (ZH ho50.one) rfl (Zh ho50.one Zq) rfl<|Za<|Ze<|JLn (ZcP rfl rfl (by omega))<|JLM rfl<|Za<|⟨_,?_,(p+1),(out2++[(dfA l (out[a]))[p]]),v50,k50,Zp rfl,(Sd (Sd (Sk (Sk (Sk (Sk (Sk (Sk Sub.nil)))))))),?_,?_,?_,?_,rfl⟩))
      ·omega
      ·omega
      ·have hkn:((pcB l x) ((dfA l (out[a]))[p])=true∧((dfA l (out[a]))[p])∉out2):=by (rw [Sf h0 h1 hkx.1 hkx.2];simp_all)
       exact hok2.add hkn.2 hkx.1 hkx.2
      ·rw [Wa];exact ho50
      have hkn:((pcB l x) ((dfA l (out[a]))[p])=true∧((dfA l (out[a]))[p])∉out2):=by (rw [Sf h0 h1 hkx.1 hkx.2];simp_all)
      rw [WO hpl,← hst2,if_pos hkn]
     refine Zo<|Ze<|JLn (ZcP rfl rfl (by omega))<|JLM rfl<|Za<|⟨_,?_,(p+1),out2,y2,q2,Zp rfl,(Sd (Sk (Sk (Sk (Sk (Sk (Sk Sub.nil))))))),?_,?_,?_,?_,rfl⟩
     ·omega
     ·omega
     ·exact hok2
     ·exact how2
     have hkn:¬ ((pcB l x) ((dfA l (out[a]))[p])=true∧((dfA l (out[a]))[p])∉out2):=by (rw [Sf h0 h1 hkx.1 hkx.2];simp_all)
     rw [WO hpl,← hst2,if_neg hkn]
    | false=>
     iterate 6 refine WG rfl ?_
     refine JLq (.bool false) (ZcX rfl rfl)<|Za<|Zt (b:=false) rfl (fun h=>absurd h (by simp)) (fun _=>Zo<|Ze<|JLn (ZcP rfl rfl (by omega))<|JLM rfl<|Za<|⟨_,?_,(p+1),out2,y2,q2,Zp rfl,(Sk (Sk (Sk (Sk (Sk (Sk Sub.nil)))))),?_,?_,?_,?_,rfl⟩)
     ·omega
     ·omega
     ·exact hok2
     ·exact how2
     have hkn:¬ ((pcB l x) ((dfA l (out[a]))[p])=true∧((dfA l (out[a]))[p])∉out2):=by (rw [Sf h0 h1 hkx.1 hkx.2];simp_all)
     rw [WO hpl,← hst2,if_neg hkn]
   | false=>
    replace h45:=nf h45
    replace h45:=dt h45
    iterate 4 refine WG rfl ?_
    refine JLq (.bool false) (ZcX rfl rfl)<|JLM rfl ?_
    iterate 6 refine WG rfl ?_
    refine JLq (.bool false) (ZcX rfl rfl)<|Za<|Zt (b:=false) rfl (fun h=>absurd h (by simp)) (fun _=>Zo<|Ze<|JLn (ZcP rfl rfl (by omega))<|JLM rfl<|Za<|⟨_,?_,(p+1),out2,y2,q2,Zp rfl,(Sk (Sk (Sk (Sk (Sk (Sk Sub.nil)))))),?_,?_,?_,?_,rfl⟩)
    ·omega
    ·omega
    ·exact hok2
    ·exact how2
    have hkn:¬ ((pcB l x) ((dfA l (out[a]))[p])=true∧((dfA l (out[a]))[p])∉out2):=by (rw [Sf h0 h1 hkx.1 hkx.2];simp_all)
    rw [WO hpl,← hst2,if_neg hkn]
  have h43n:(dfA l ((out[a]))).length≤p:=by omega
  refine ZC _ rfl<|Ze<|JLM rfl<|JLn (ZcP rfl rfl (by omega))<|JAn rfl<|⟨_,?_,(a+1),out2,y2,q2,Zp rfl,(Sk (Sk (Sd (Sk (Sk (Sk Sub.nil)))))),?_,?_,?_,?_,rfl⟩
  ·omega
  ·exact hok2
  ·have:=(S9 (P:=(pcB l x)) (Pn l (out[a])) hok).2.length_le;rw [hst2,take_of_length_le (by omega)];omega
  ·exact how2
  rw [show l.length-a=(l.length-(a+1))+1 by omega,WJ hal,Ub hal] at hinv;rw [hst2,take_of_length_le (by omega)];exact hinv
 have h19n:out.length≤a:=by omega
 refine ZC _ rfl<|Zg<|Zd<|JLr (Zc YL rfl (ZcK 0 rfl) rfl ?_)
 obtain ⟨a51,cap51,hv51⟩:=how1.sl
 rw [Zv] at hv51
 refine JLn (ZcM ZS hv51)<|JLn (Pu.gtr rfl rfl)<|Za<|ZN rfl (fun h52=>?_) (fun h52=>?_)
 ·refine Zd<|JLA rfl<|JAn rfl<|Zz<|⟨.tuple ⟨[nS,iv 2]⟩,[[]],ZcU rfl (RV.tmp rfl) (RV.tmp rfl),(ZcL Sub.nil),?_⟩
  rw [X0 (by omega)] at hinv
  have hlong:8<(coL l x).length:=by rw [← hinv];omega
  exact ⟨_,_,by unfold grE;rw [if_pos hlong],rfl,by unfold grL;rw [if_pos hlong];exact OL.nil⟩
 refine Zo<|Zd<|JAn rfl<|Zg<|Zd<|JLr (Zc YL rfl (ZcK 0 rfl) rfl ?_)
 obtain ⟨a53,cap53,hv53⟩:=how1.sl
 rw [Zv] at hv53
 refine JLn (ZcM ZS hv53)<|JLM rfl<|Za<|Zm<|ZD (fun k ρ M=>∃ (j:Nat) (y3:Value) (q3 q4:Zf) (es:List (List Value)),Z7 ρ [(3,pp b1 0),(4,pp b2 0),(6,nS),(7,iv 0),(10,pp b5 0),(14,y3),(70,y1),(71,iv ((out.length:Int))),(72,iv ((j:Int)))]=ρ∧Sub [q3,q4,(BX b5 [y1] 45),q1,(BX b3 (bls (flL l.length (rqL l x))) 4),(BX b2 [.map (some r)] 131),(BX b1 [v] 71)] M∧j≤out.length∧Own 51 36 y3 es q3∧OTs ((out.map (clB l out)).take j) es q4∧k=out.length-j) _ ⟨0,nS,[],[],[],Zp rfl,(ZcL (ZcL (Sk (Sk (Sk (Sk (Sk Sub.nil))))))),Nat.zero_le _,Own.nil,⟨rfl,rfl⟩,rfl⟩ ?_
 rintro _ ρ54 _ ⟨j,y3,q3,q4,es,e55,hm64,hj,how,hos,rfl⟩
 obtain ⟨ρ65,rfl⟩:=Zi e55
 clear e55
 refine ZF hm64 ?_
 have hel:=YH hos
 rw [length_take,length_map] at hel
 refine Zd<|JLn (Pu.lss rfl rfl)<|Za<|Zg<|ZN rfl (fun h66=>?_) (fun h66=>?_)
 ·have h66n:j<out.length:=by omega
  have hjx:=hok.2 _ (getElem_mem h66n)
  refine Zo<|Zg<|Zm<|Zg<|Ze ?_
  obtain ⟨b67,cap67,row67,hv67,hm67,hs67⟩:=how1.at (j:=j) (by rw [Zv];first | assumption | omega)
  rw [Yg _ _ (by omega)] at hs67
  refine JLn (Pu.idx j ZS ty3 hv67 rfl rfl (by rw [Zv];first | assumption | omega))<|JLr (Zc ty3 rfl (ZcS 3 rfl hm67) (ZP hs67)<|JAn rfl<|Ze<|JLm y3<|JLr (Zc DH rfl (ZcK 6 rfl) rfl<|JLM rfl ?_))
  obtain ⟨b68,o68,cap68,row68,T68,fr68,cs68,hv68,hb68,hs68,hE68⟩:=hv.get (out[j]).toNat (by omega)
  obtain ⟨cb68,rfl,hB68⟩:=hE68
  refine JLq (pp b68 (o68+(out[j]).toNat*68)) (Pu.idx (out[j]).toNat RE R3 hv68 rfl (by first | rfl | omega) (by omega))<|JLq (pp b68 (o68+(out[j]).toNat*68+32)) (Nu rfl rfl)<|JLr (Zn Zu rfl (ZcN hb68) (OS hs68 (Vt rfl (Zy hB68)))<|JLq (.func (.func 129) ⟨[]⟩ ⟨[pp b2 0,pp b5 0]⟩) (Pu.makeFunc rfl rfl)<|Jc call57 rfl (fun hin=>Td (clD (kSm l) out) (fun _ _ _=>True) 129 [] _ call129 (ZaG (by omega) _) _ _ _ (RT.mono (Hle.hu _ _) hB68) (by have:=hzl _ (getElem_mem (show (out[j]).toNat<l.length by omega));omega) (Tl (fun _ _ _=>trivial) _) (fun y b h hh ra _=>ZaH l out _ _ r _ y b h ra (hh _ _ (hin 5 _ rfl _ _ mem_cons_self)) (hh _ _ (Hle.hu _ _ _ _ hRb)) (hh _ _ (hin 2 _ rfl _ _ mem_cons_self)) (RIs.mono hh (Yr how1 (by omega) (hin 3 _ rfl))))) rfl ?_)
  rintro _ _ ⟨cs69,k69,rfl,rfl,hO69⟩
  refine JLr (Zj (vs:=[.agg ⟨cs69⟩]) [cs69] ZI YM rfl rfl (al1 hO69.len) rfl (by decide) fun b70 k70 ho70 hk70=>?_)
  have hlens71:∀ e∈([cs69]:List (List Value)),List.length e=36:=al1 hO69.len
  have hoks71:∀ e∈([cs69]:List (List Value)),okc e:=al1 hO69.ok
  refine JLr (ZA (i:=2) (n:=1) (es':=[cs69]) ZI ZI (Or.inl rfl) YM rfl rfl rfl how (fun F w m=>Src.row (((ZcS 0 rfl (by rw [hk70];exact mem_cons_self))).heap m) (Zx (Zw hlens71))) rfl hlens71 hoks71 (by decide) (by first | omega | (rw [Zv];omega)) fun v71 k71 ho71=>JLa v71<|Za<|Ze<|JLn (ZcP rfl rfl (by omega))<|JLM rfl<|Za<|⟨_,?_,(j+1),v71,k71,(q4++k69),(es++[cs69]),Zp rfl,(Sd (Sub.cons 1 rfl (ZcO (Sub.cons 1 rfl (Sk (Sk (Sk (Sk (Sk (Sk Sub.nil)))))))))),?_,?_,?_,rfl⟩)
  ·omega
  ·omega
  ·exact ho71
  rw [EM h66n,EN (show (out[j]).toNat<l.length by omega)];exact OTs.snoc hO69 hos
 have h66n:out.length≤j:=by omega
 refine ZC _ rfl<|Zd<|JLm y3<|JLa y3<|JAn rfl<|Zz<|⟨.tuple ⟨[y3,iv 0]⟩,[q3++q4],ZcU rfl (RV.tmp rfl) (RV.tmp rfl),(ZcO (Sk (Sk Sub.nil))),?_⟩
 rw [X0 (by omega)] at hinv
 have hlong:¬ 8<(coL l x).length:=by rw [← hinv];omega
 rw [take_of_length_le (by rw [length_map];exact h66n)] at hos
 exact ⟨_,_,by unfold grE;rw [if_neg hlong],rfl,by unfold grL;rw [if_neg hlong,← hinv];exact OL.mk how hos (by rw [length_map];omega)⟩
set_option maxHeartbeats 4000000 in
theorem BB (l:List (Sm×Tm)) (v:Value) (H:Heap) (hv:Hs.rdS RKn 68 H v l):CT prog 82 ⟨[v]⟩ [] H (fun v N=>∃ mv kk,v=.tuple ⟨[mv,iv (bkE l)]⟩∧N=[kk]∧(bkE l=0→∃ r,mv=.map (some r)∧kk=gmC smV iV r (kSm l) (idF (kSm l)))):=by
 have hlen:=hv.le
 refine Zl func82 rfl rfl<|Zd<|JLa ((.map none))<|JAn rfl<|Zg<|Zd<|JLm v ?_
 obtain ⟨a1,cap1,hv1⟩:=hv.sl
 have hle1:=hv.le
 refine JLn (ZcM RE hv1)<|JLn (Pu.gtr rfl rfl)<|Za<|ZN rfl (fun h2=>?_) (fun h2=>?_)
 ·refine Zd<|JLa ((.map none))<|JAn rfl<|Zz<|⟨.tuple ⟨[(.map none),iv 2]⟩,[[]],ZcU rfl (RV.tmp rfl) (RV.tmp rfl),(ZcL Sub.nil),?_⟩
  have hbk:bkE l=2:=by unfold bkE;rw [if_pos (by omega)]
  exact ⟨_,_,by rw [hbk],rfl,fun q=>absurd (hbk.symm.trans q) (by decide)⟩
 refine Zo<|Zg<|Zg ?_
 have h40:¬ 40<l.length:=by have z:=h2;omega
 refine Ze<|JLm v ?_
 obtain ⟨a3,cap3,hv3⟩:=hv.sl
 have hle3:=hv.le
 refine JLn (ZcM RE hv3)<|JLM rfl<|Za<|Zm<|ZD (fun k ρ M=>∃ (j:Nat),Z7 ρ [(0,v),(2,(.map none)),(3,iv 0),(15,v),(16,iv ((l.length:Int))),(17,iv ((j:Int)))]=ρ∧Sub [] M∧j≤l.length∧Wd (ZG 0 0) ((bdL l).drop j)=Wd (ZG 0 0) (bdL l)∧k=l.length-j) _ ⟨0,Zp rfl,Sub.nil,Nat.zero_le _,rfl,rfl⟩ ?_
 rintro _ ρ4 _ ⟨j,e5,hm11,hj,hck,rfl⟩
 obtain ⟨ρ12,rfl⟩:=Zi e5
 clear e5
 refine ZF hm11<|Zd<|JLn (Pu.lss rfl rfl)<|Za<|Zg<|ZN rfl (fun h13=>?_) (fun h13=>?_)
 ·have h13n:j<l.length:=by omega
  have hbj:=ZaR h13n
  have hbl:=NN l
  refine Zo<|Zg<|Zm<|Zg<|Ze ?_
  obtain ⟨b14,o14,cap14,row14,T14,fr14,cs14,hv14,hb14,hs14,hE14⟩:=hv.get j (by omega)
  obtain ⟨cb14,rfl,hB14⟩:=hE14
  refine JLn (Pu.idx j RE R3 hv14 rfl rfl (by omega))<|JLr (Zn R3 rfl (ZcN hb14) hs14<|JLr (Zk (l:=[.int .u8 0,.int .u8 0,.int .u8 0,.int .u8 0,.int .u8 0,.int .u8 0,.int .u8 0,.int .u8 0,.int .u8 0,.int .u8 0,.int .u8 0,.int .u8 0,.int .u8 0,.int .u8 0,.int .u8 0,.int .u8 0,.int .u8 0,.int .u8 0,.int .u8 0,.int .u8 0,.int .u8 0,.int .u8 0,.int .u8 0,.int .u8 0,.int .u8 0,.int .u8 0,.int .u8 0,.int .u8 0,.int .u8 0,.int .u8 0,.int .u8 0,.int .u8 0,iv 0,iv 0,.int .u8 0,.int .u8 0,.int .u8 0,.int .u8 0,.int .u8 0,.int .u8 0,.int .u8 0,.int .u8 0,.int .u8 0,.int .u8 0,.int .u8 0,.int .u8 0,.int .u8 0,.int .u8 0,.int .u8 0,.int .u8 0,.int .u8 0,.int .u8 0,.int .u8 0,.int .u8 0,.int .u8 0,.int .u8 0,.int .u8 0,.int .u8 0,.int .u8 0,.int .u8 0,.int .u8 0,.int .u8 0,.int .u8 0,.int .u8 0,.int .u8 0,.int .u8 0,nS,nS]) zeroValue70 rfl fun b15=>JLr (Zb 0 (vs:=(sC ((l[j]).1))++cb14) (l:=(sC ((l[j]).1))++cb14) R3 rfl rfl rfl rfl (ZJ rfl (Zy hB14)) (YB (T5 _) (Y5 hB14)) (ZY (n:=68) rfl (ZJ rfl (Zy hB14)))<|Za<|Zd<|JLq (pp b15 32) (Nu rfl rfl)<|JLr (Zn Zu rfl (ZcK 0 rfl) (Vt rfl (Zy hB14))<|Jc call97 rfl (fun hin=>ZbT (Py _ _ _ _ _ (RT.mono (Hle.hu _ _) hB14)) (SS _ _ _)) rfl ?_))))
  rintro _ _ ⟨rfl,rfl⟩
  refine JAn rfl<|Zd<|JLM rfl<|JLn (Pu.neq rfl rfl)<|Za<|Zt rfl (fun h16=>?_) (fun h16=>?_)
  ·replace h16:=nt h16
   replace h16:=df h16
   refine Zd<|JLM rfl<|JLa ((.map none))<|JAn rfl<|Zz<|⟨.tuple ⟨[(.map none),iv (ZG 0 0 ((l[j]).2))]⟩,[[]],ZcU rfl (RV.tmp rfl) (RV.tmp rfl),(ZcL Sub.nil),?_⟩
   have hst:=OF (by omega) hck (by rw [hbj];exact h16)
   rw [hbj] at hst
   have hbk:bkE l=ZG 0 0 ((l[j]).2):=by unfold bkE;rw [if_neg h40,if_neg (by rw [hst];exact h16),hst]
   exact ⟨_,_,by rw [hbk],rfl,fun q=>absurd (hbk.symm.trans q) (by exact h16)⟩
  replace h16:=nf h16
  replace h16:=dt h16
  refine Zo<|Ze<|JLn (ZcP rfl rfl (by omega))<|JLM rfl<|Za<|⟨_,?_,(j+1),Zp rfl,Sub.nil,?_,?_,rfl⟩
  ·omega
  ·omega
  exact Ia (by omega) hck (by rw [hbj];exact h16)
 have h13n:l.length≤j:=by omega
 refine ZC _ rfl<|Zg ?_
 have hck0:Wd (ZG 0 0) (bdL l)=0:=M9 (by rw [NN];exact h13n) hck
 refine Ze<|JLr (TT smV iV (idF (kSm l)) fun r17=>JAn rfl<|Zg<|Zd<|JLm v ?_)
 obtain ⟨a18,cap18,hv18⟩:=hv.sl
 have hle18:=hv.le
 refine JLn (ZcM RE hv18)<|JLM rfl<|Za<|Zm<|ZD (fun k ρ M=>∃ (q:Nat) (K:List Sm),Z7 ρ [(2,(.map none)),(3,iv 0),(7,.map (some r17)),(29,v),(30,iv ((l.length:Int))),(31,iv ((q:Int)))]=ρ∧Sub [gmC smV iV r17 K (idF (kSm l))] M∧q≤l.length∧K=(kSm l).take q∧K.Nodup∧k=l.length-q) _ ⟨0,[],Zp rfl,(Sk Sub.nil),Nat.zero_le _,rfl,List.nodup_nil,rfl⟩ ?_
 rintro _ ρ19 _ ⟨q,K,e20,hm26,hq,hK,hnd,rfl⟩
 obtain ⟨ρ27,rfl⟩:=Zi e20
 clear e20
 refine ZF hm26<|Zd<|JLn (Pu.lss rfl rfl)<|Za<|Zg<|ZN rfl (fun h28=>?_) (fun h28=>?_)
 ·have h28n:q<l.length:=by omega
  refine Zo<|Zg<|Zm<|Zd<|JLM rfl ?_
  obtain ⟨b29,o29,cap29,row29,T29,fr29,cs29,hv29,hb29,hs29,hE29⟩:=hv.get q (by omega)
  obtain ⟨cb29,rfl,hB29⟩:=hE29
  refine JLn (Pu.idx q RE R3 hv29 rfl rfl (by omega))<|JLr (Zn R3 rfl (ZcN hb29) hs29<|JLr (Zk (l:=[.int .u8 0,.int .u8 0,.int .u8 0,.int .u8 0,.int .u8 0,.int .u8 0,.int .u8 0,.int .u8 0,.int .u8 0,.int .u8 0,.int .u8 0,.int .u8 0,.int .u8 0,.int .u8 0,.int .u8 0,.int .u8 0,.int .u8 0,.int .u8 0,.int .u8 0,.int .u8 0,.int .u8 0,.int .u8 0,.int .u8 0,.int .u8 0,.int .u8 0,.int .u8 0,.int .u8 0,.int .u8 0,.int .u8 0,.int .u8 0,.int .u8 0,.int .u8 0,iv 0,iv 0,.int .u8 0,.int .u8 0,.int .u8 0,.int .u8 0,.int .u8 0,.int .u8 0,.int .u8 0,.int .u8 0,.int .u8 0,.int .u8 0,.int .u8 0,.int .u8 0,.int .u8 0,.int .u8 0,.int .u8 0,.int .u8 0,.int .u8 0,.int .u8 0,.int .u8 0,.int .u8 0,.int .u8 0,.int .u8 0,.int .u8 0,.int .u8 0,.int .u8 0,.int .u8 0,.int .u8 0,.int .u8 0,.int .u8 0,.int .u8 0,.int .u8 0,.int .u8 0,nS,nS]) zeroValue70 rfl fun b30=>JLA rfl<|JLr (Zb 0 (vs:=(sC ((l[q]).1))++cb29) (l:=(sC ((l[q]).1))++cb29) R3 rfl rfl rfl rfl (ZJ rfl (Zy hB29)) (YB (T5 _) (Y5 hB29)) (ZY (n:=68) rfl (ZJ rfl (Zy hB29)))<|Za<|Zg<|Zd<|JLM rfl<|JLq (pp b30 0) (Kq rfl rfl)<|JLr (Zn Yv rfl (ZcK 0 rfl) (Va rfl)<|JLr (Tu (i:=1) (kV:=smV) (vV:=iV) (K:=K) (f:=idF (kSm l)) (k:=((l[q]).1)) 0 CH underlying131 zeroValue3 rfl rfl rfl ?_)))))
  refine JLM rfl<|JLn (Pu.extract rfl rfl)<|JLn (Pu.extract rfl rfl)<|JLA rfl<|JAn rfl<|Zd<|JLM rfl<|Za<|ZN rfl (fun h31=>?_) (fun h31=>?_)
  ·refine Zd<|JLa ((.map none))<|JAn rfl<|Zz<|⟨.tuple ⟨[(.map none),iv 5]⟩,[[]],ZcU rfl (RV.tmp rfl) (RV.tmp rfl),(ZcL Sub.nil),?_⟩
   have hbk:bkE l=5:=by unfold bkE;rw [if_neg h40,if_pos hck0,if_neg (BJ h28n (by rw [← hK];simpa using h31))]
   exact ⟨_,_,by rw [hbk],rfl,fun q=>absurd (hbk.symm.trans q) (by decide)⟩
  refine Zo<|Ze<|JLM rfl<|JLq (pp b30 0) (Kq rfl rfl)<|JLr (Zn Yv rfl (ZcK 0 rfl) (Va rfl)<|JLM rfl<|JLr (Ui (i:=1) (kV:=smV) (vV:=iV) (K:=K) (f:=idF (kSm l)) (f':=idF (kSm l)) (k:=((l[q]).1)) CH underlying131 rfl rfl (congrArg iV (Zah h28n (by rw [← hK];simpa using h31))).symm rfl (by simpa using h31) (fun _ _=>rfl)<|Za<|Ze<|JLn (ZcP rfl rfl (by omega))<|JLM rfl<|Za<|⟨_,?_,(q+1),(K++[((l[q]).1)]),Zp rfl,(Sd (Sk Sub.nil)),?_,?_,?_,rfl⟩))
  ·omega
  ·omega
  ·rw [FZ h28n,hK]
  exact L5 hnd (by simpa using h31)
 have h28n:l.length≤q:=by omega
 refine ZC _ rfl<|Zd<|JLM rfl<|JLA rfl<|JAn rfl<|Zz<|⟨.tuple ⟨[.map (some r17),iv 0]⟩,[gmC smV iV r17 K (idF (kSm l))],ZcU rfl (RV.tmp rfl) (RV.tmp rfl),(Sk Sub.nil),?_⟩
 rw [take_of_length_le (by rw [Sx];exact h28n)] at hK
 subst hK
 have hbk:bkE l=0:=by unfold bkE;rw [if_neg h40,if_pos hck0,if_pos hnd]
 exact ⟨_,_,by rw [hbk],rfl,fun _=>⟨_,rfl,rfl⟩⟩
set_option maxHeartbeats 4000000 in
theorem PL (l:List (Sm×Tm)) (v:Value) (H:Heap) (hv:Hs.rdS RKn 68 H v l) (hn:l.length≤1000) (hzl:∀ x∈l,sizeT x.2≤400000) (hGK:GK H):CT prog 40 ⟨[v]⟩ [] H (fun v N=>v=iv (vfE l)∧N=[]):=by
 have hlen:=hv.le
 refine Zl func40 rfl rfl<|Zd<|JAn rfl<|Zd<|JLm v<|Jc call82 rfl (fun hin=>BB l _ _ (RKns.mono (Hle.hu _ _) hv)) rfl ?_
 rintro _ _ ⟨mv,kk,rfl,rfl,hmap⟩
 refine JLM rfl<|JLn (Pu.extract rfl rfl)<|JLn (Pu.extract rfl rfl)<|JLa mv<|JAn rfl<|Zg<|Zd<|JLM rfl<|JLn (Pu.neq rfl rfl)<|Za<|Zt rfl (fun h1=>?_) (fun h1=>?_)
 ·replace h1:=nt h1
  replace h1:=df h1
  refine Zd<|JLM rfl<|JAn rfl<|Zz<|⟨iv (bkE l),[],Ret.one rfl (RV.tmp rfl),Sub.nil,?_⟩
  exact ⟨by unfold vfE;rw [if_neg h1],rfl⟩
 replace h1:=nf h1
 replace h1:=dt h1
 refine Zo<|Zg<|Zg ?_
 have hE:bkE l=0:=by omega
 obtain ⟨r,rfl,rfl⟩:=hmap hE
 refine Ze<|JLm v ?_
 obtain ⟨a2,cap2,hv2⟩:=hv.sl
 have hle2:=hv.le
 refine JLn (ZcM RE hv2)<|JLM rfl<|Za<|U2 (i:=0) rfl ?_
 intro H hh hkH
 have hRb:=hkH r _ mem_cons_self
 have hGK:=GK.mono hh hGK
 have hv:=RKns.mono hh hv
 refine Zm<|ZD (fun k ρ M=>∃ (j:Nat),Z7 ρ [(0,v),(2,iv 0),(3,.map (some r)),(18,v),(19,iv ((l.length:Int))),(20,iv ((j:Int)))]=ρ∧Sub [] M∧j≤l.length∧(∀ i,i<j→vfS l i=0)∧k=l.length-j) _ ⟨0,Zp rfl,Sub.nil,Nat.zero_le _,(fun i hi=>absurd hi (by omega)),rfl⟩ ?_
 rintro _ ρ3 _ ⟨j,e4,hm10,hj,hall,rfl⟩
 obtain ⟨ρ11,rfl⟩:=Zi e4
 clear e4
 refine ZF hm10<|Zd<|JLn (Pu.lss rfl rfl)<|Za<|Zg<|ZN rfl (fun h12=>?_) (fun h12=>?_)
 ·have h12n:j<l.length:=by omega
  refine Zo<|Zg<|Zm<|Zd<|JLM rfl ?_
  obtain ⟨b13,o13,cap13,row13,T13,fr13,cs13,hv13,hb13,hs13,hE13⟩:=hv.get j (by omega)
  obtain ⟨cb13,rfl,hB13⟩:=hE13
  refine JLn (Pu.idx j RE R3 hv13 rfl rfl (by omega))<|JLr (Zn R3 rfl (ZcN hb13) hs13<|JLr (Zk (l:=[.int .u8 0,.int .u8 0,.int .u8 0,.int .u8 0,.int .u8 0,.int .u8 0,.int .u8 0,.int .u8 0,.int .u8 0,.int .u8 0,.int .u8 0,.int .u8 0,.int .u8 0,.int .u8 0,.int .u8 0,.int .u8 0,.int .u8 0,.int .u8 0,.int .u8 0,.int .u8 0,.int .u8 0,.int .u8 0,.int .u8 0,.int .u8 0,.int .u8 0,.int .u8 0,.int .u8 0,.int .u8 0,.int .u8 0,.int .u8 0,.int .u8 0,.int .u8 0,iv 0,iv 0,.int .u8 0,.int .u8 0,.int .u8 0,.int .u8 0,.int .u8 0,.int .u8 0,.int .u8 0,.int .u8 0,.int .u8 0,.int .u8 0,.int .u8 0,.int .u8 0,.int .u8 0,.int .u8 0,.int .u8 0,.int .u8 0,.int .u8 0,.int .u8 0,.int .u8 0,.int .u8 0,.int .u8 0,.int .u8 0,.int .u8 0,.int .u8 0,.int .u8 0,.int .u8 0,.int .u8 0,.int .u8 0,.int .u8 0,.int .u8 0,.int .u8 0,.int .u8 0,nS,nS]) zeroValue70 rfl fun b14=>JLA rfl<|JLr (Zb 0 (vs:=(sC ((l[j]).1))++cb13) (l:=(sC ((l[j]).1))++cb13) R3 rfl rfl rfl rfl (ZJ rfl (Zy hB13)) (YB (T5 _) (Y5 hB13)) (ZY (n:=68) rfl (ZJ rfl (Zy hB13)))<|Za<|Zd<|JLm v<|JLM rfl<|JLM rfl<|Jc call83 rfl (fun hin=>KH l ((j:Int)) r _ _ (RKns.mono (Hle.hu _ _) hv) (Hle.hu _ _ _ _ hRb) hn hzl (by omega) (by omega)) rfl ?_)))
  rintro _ _ ⟨u15,k15,rfl,rfl,ho15⟩
  refine JLM rfl<|JLn (Pu.extract rfl rfl)<|JLn (Pu.extract rfl rfl)<|JLa u15<|JAn rfl<|Zg<|Zd<|JLM rfl<|JLn (Pu.neq rfl rfl)<|Za<|Zt rfl (fun h16=>?_) (fun h16=>?_)
  ·replace h16:=nt h16
   replace h16:=df h16
   refine Zd<|JLM rfl<|JAn rfl<|Zz<|⟨iv (grE l ((j:Int))),[],Ret.one rfl (RV.tmp rfl),(Sd Sub.nil),?_⟩
   have hvs:vfS l j=grE l ((j:Int)):=by unfold vfS;rw [if_neg h16]
   exact ⟨by unfold vfE;rw [if_pos hE,SA hall (by rw [hvs];exact h16) h12n,hvs],rfl⟩
  replace h16:=nf h16
  replace h16:=dt h16
  refine Zo<|Zg ?_
  have hg0:grE l (j:Int)=0:=by omega
  refine Ze<|JLm u15<|Jc call12 rfl (fun hin=>DA (grL l ((j:Int))) _ _ (ho15.rd (hin 0 _ rfl)) (Zak hzl (by omega) (by omega)) 0 (GK.mono (Hle.hu _ _) hGK)) rfl ?_
  rintro _ _ ⟨u17,k17,rfl,rfl,ho17⟩
  refine JLM rfl<|JLn (Pu.extract rfl rfl)<|JLn (Pu.extract rfl rfl)<|JLa u17<|JAn rfl<|Zg<|Zd<|JLM rfl<|JLn (Pu.neq rfl rfl)<|Za<|Zt rfl (fun h18=>?_) (fun h18=>?_)
  ·replace h18:=nt h18
   replace h18:=df h18
   refine Zd<|JLM rfl<|JAn rfl<|Zz<|⟨iv (kCe (grL l ((j:Int))) 0),[],Ret.one rfl (RV.tmp rfl),(Sd Sub.nil),?_⟩
   have hvs:vfS l j=kCe (grL l ((j:Int))) 0:=by unfold vfS;rw [if_pos hg0,if_neg h18]
   exact ⟨by unfold vfE;rw [if_pos hE,SA hall (by rw [hvs];exact h18) h12n,hvs],rfl⟩
  replace h18:=nf h18
  replace h18:=dt h18
  refine Zo<|Zg ?_
  have hc0:kCe (grL l (j:Int)) 0=0:=by omega
  obtain ⟨hlB,hbB⟩:=Zae 0 hc0
  refine ZM mixed #[0,1,0,4,15] 4 (sm 43 4) [] [(1,fun _ _ vw qw=>vw=.agg ⟨sC (sha (kCb (grL l ((j:Int))) 0))⟩∧qw=[])] rfl (by kernel_rfl) rfl (by kernel_rfl)<|Dm u17 ?_
  refine Dc rfl call84 (fun _=>rfl) (fun hin=>Je _ _ _ (Sj ho17 (by omega) (hin 0 _ rfl)) hbB (by omega) (GK.mono (Hle.hu _ _) hGK)) ?_
  rintro _ _ ⟨rfl,rfl⟩
  refine Dq (pp b14 0) (fun _=>Kq rfl rfl)<|Dl Yv (ZcK 2 rfl) (Va rfl)<|ZX (M':=[k17,k15,(BX b14 ((sC ((l[j]).1))++cb13) 70)]) rfl ?_
  show JL _ _ _ [_] _ _ _
  refine JLn (neqS rfl rfl)<|Za<|Zt rfl (fun h19=>?_) (fun h19=>?_)
  ·replace h19:=nt h19
   replace h19:=df h19
   refine Zd<|JAn rfl<|Zz<|⟨iv 14,[],Ret.one rfl (RV.tmp rfl),(Sd Sub.nil),?_⟩
   have hvs:vfS l j=14:=by unfold vfS;rw [if_pos hg0,if_pos hc0,if_neg (by rw [JD h12n];simpa using h19)]
   exact ⟨by unfold vfE;rw [if_pos hE,SA hall (by rw [hvs];decide) h12n,hvs],rfl⟩
  replace h19:=nf h19
  replace h19:=dt h19
  refine Zo<|Ze<|JLn (ZcP rfl rfl (by omega))<|JLM rfl<|Za<|⟨_,?_,(j+1),Zp rfl,Sub.nil,?_,?_,rfl⟩
  ·omega
  ·omega
  intro i hi;by_cases q:i<j;exact hall i q;(obtain rfl:i=j:=by omega);unfold vfS;rw [if_pos hg0,if_pos hc0,if_pos (by rw [JD h12n];simpa using h19)]
 have h12n:l.length≤j:=by omega
 refine ZC _ rfl<|Zd<|JAn rfl<|Zz<|⟨iv 0,[],Ret.one rfl (RV.tmp rfl),(Sd Sub.nil),?_⟩
 exact ⟨by unfold vfE;rw [if_pos hE,SB (fun i hi=>hall i (by omega))],rfl⟩
end
theorem Ie {t:List Value} (r:Sm) (ht:t.length=36):
    ∀ w,(Instr.build 70 ⟨[(0,.agg ⟨sC r⟩),(1,.agg ⟨t⟩)]⟩).run prog w=.ok (.agg ⟨sC r++t⟩) w:=by
  have hp:(sC r).length=32:=VZ r
  refine ZT zeroValue70 runUnderlying70 Zct ?_
  refine Eq.trans (congrArg (fun c=>Instr.fill _ c _) (show _=(⟨[]++(sC zS++pkT 0 0 zS (.slice none 0 0) (.slice none 0 0))⟩:Array Value) by kernel_rfl)) ?_
  refine WK (off:=0) (sz:=32) (l:=sC r) rfl rfl hp rfl rfl ?_
  refine Eq.trans (congrArg (fun c=>Instr.fill _ c _) (show _=(⟨sC r++(pkT 0 0 zS (.slice none 0 0) (.slice none 0 0)++[])⟩:Array Value) from by rw [nil_append,append_nil])) ?_
  refine WK (off:=32) (sz:=36) (l:=t) rfl rfl ht hp rfl ?_
  rw [append_nil];rfl
theorem FT {T:TypeId} {v:Value} {k:Zf} {h:Heap} {a b:Sm} {c d:List Value} {t u:Tm} (o:Own T 68 v [sC a++c,sC b++d] k) (hk:Has k h) (h1:RT h c t) (h2:RT h d u):Hs.rdS RKn 68 h v [(a,t),(b,u)]:=by
  refine o.rdS rfl (by simp) hk fun i i1 i2=>?_
  match i,i1 with
  | 0,_=>exact ⟨c,rfl,h1⟩
  | 1,_=>exact ⟨d,rfl,h2⟩
section
attribute [local irreducible] JL J CT wlo DT
theorem B3 (q:Sm) (is:Int):sizeT (opM q is)≤400000:=by
 show (_:Nat)≤_
 exact Nat.le_of_ble_eq_true rfl
theorem DE (v:Value) (H:Heap) (hv:Hs.rdS RKn 68 H v kA) (hGK:GK H):CT prog 40 ⟨[v]⟩ [] H (fun v N=>v=iv 0∧N=[]):=by
 have hzl:∀ x∈kA,sizeT x.2≤400000:=by intro x hx;simp only [kA,mem_cons,not_mem_nil,or_false] at hx;rcases hx with rfl | rfl <;> exact B3 _ _
 have z:=PL kA v H hv (show (2:Nat)≤1000 by decide) hzl hGK
 rw [Za4] at z
 exact z
theorem H6 (v:Value) (H:Heap) (hv:Hs.rdS RKn 68 H v kB) (hGK:GK H):CT prog 40 ⟨[v]⟩ [] H (fun v N=>v=iv 14∧N=[]):=by
 have hzl:∀ x∈kB,sizeT x.2≤400000:=by intro x hx;simp only [kB,mem_cons,not_mem_nil,or_false] at hx;rcases hx with rfl | rfl <;> exact B3 _ _
 have z:=PL kB v H hv (show (2:Nat)≤1000 by decide) hzl hGK
 rw [Ax] at z
 exact z
set_option maxHeartbeats 4000000 in
theorem Hy (H:Heap) (hGK:GK H):CT prog 6 ⟨[]⟩ [] H (fun v N=>v=.bool true∧N=[]):=by
 refine Zl func6 rfl rfl<|Zd<|JAn rfl<|Zg<|Zt (b:=false) rfl (fun h=>absurd h (by simp)) (fun _=>Zo<|Zd<|Jc call29 rfl (fun hin=>Jj _) rfl ?_)
 rintro v1 _ ⟨k1,rfl,hO1⟩
 refine Jc call28 rfl (fun hin=>HF _ _ (hO1.rd (hin 0 _ rfl))) rfl ?_
 rintro _ _ ⟨u2,k2,rfl,rfl,ho2⟩
 refine JLM rfl<|JLn (Pu.extract rfl rfl)<|JLn (Pu.extract rfl rfl)<|JLa u2<|JAn rfl<|Zd<|Jc call29 rfl (fun hin=>Jj _) rfl ?_
 rintro v3 _ ⟨k3,rfl,hO3⟩
 refine Jc call13 rfl (fun hin=>Iq _ _ (hO3.rd (hin 0 _ rfl)) (GK.mono (Hle.hu _ _) hGK)) rfl ?_
 rintro _ _ ⟨u4,k4,rfl,rfl,ho4⟩
 refine JLM rfl<|JLn (Pu.extract rfl rfl)<|JLn (Pu.extract rfl rfl)<|JLa u4<|JAn rfl<|Zd<|Jc call32 rfl (fun hin=>TA 0 (by unfold inI;omega) _) rfl ?_
 rintro _ _ ⟨cs5,k5,rfl,rfl,hO5⟩
 refine Jc call33 rfl (fun hin=>S6 0 (by unfold inI;omega) _) rfl ?_
 rintro _ _ ⟨cs6,k6,rfl,rfl,hO6⟩
 refine ZB (ZcO (Sub.cons 1 rfl (Sk (Sk (Sk (Sk (Sk Sub.nil)))))))<|Zs 0 rfl call31 rfl rfl (fun hin=>NO _ _ _ _ _ _ _ hO5 hO6) rfl ?_
 rintro _ _ ⟨cs7,k7,rfl,rfl,hO7⟩
 refine Zs 0 rfl call30 rfl rfl (fun hin=>Np _ _ _ _ hO7) rfl ?_
 rintro _ _ ⟨cs8,k8,rfl,rfl,hO8⟩
 refine JLr (Zj (vs:=[.agg ⟨cs8⟩]) [cs8] ZI YM rfl rfl (al1 hO8.len) rfl (by decide) fun b9 k9 ho9 hk9=>Jc call13 rfl (fun hin=>Gt _ _ ((OL.mk ho9 (Qs hO8) (by decide)).rd (Has.app (hin 0 _ rfl) (hin 1 _ rfl))) (GK.mono (Hle.hu _ _) hGK)) rfl ?_)
 rintro _ _ ⟨u10,k10,rfl,rfl,ho10⟩
 refine JLM rfl<|JLn (Pu.extract rfl rfl)<|JLn (Pu.extract rfl rfl)<|JLa u10<|JAn rfl<|Zd<|Jc call35 rfl (fun hin=>Rh _) rfl ?_
 rintro v11 _ ⟨k11,rfl,hO11⟩
 refine Jc call34 rfl (fun hin=>Ff _ _ (hO11.rd (hin 0 _ rfl))) rfl ?_
 rintro _ _ ⟨u12,k12,rfl,rfl,ho12⟩
 refine JLM rfl<|JLn (Pu.extract rfl rfl)<|JLn (Pu.extract rfl rfl)<|JLa u12<|JAn rfl<|Zd<|Jc call37 rfl (fun hin=>Ng 1 (by unfold inI;omega) _) rfl ?_
 rintro _ _ ⟨cs13,k13,rfl,rfl,hO13⟩
 refine Jc call32 rfl (fun hin=>TA 0 (by unfold inI;omega) _) rfl ?_
 rintro _ _ ⟨cs14,k14,rfl,rfl,hO14⟩
 refine Jc call32 rfl (fun hin=>TA 0 (by unfold inI;omega) _) rfl ?_
 rintro _ _ ⟨cs15,k15,rfl,rfl,hO15⟩
 refine ZB (ZcO (Sub.cons 1 rfl (Sk (Sk (Sk (Sk (Sk (Sk (Sk (Sk (Sk (Sk (Sk Sub.nil)))))))))))))<|Zs 0 rfl call38 rfl rfl (fun hin=>LV 1 (by unfold inI;omega) _ _ _ _ _ _ _ hO14 hO15) rfl ?_
 rintro _ _ ⟨cs16,k16,rfl,rfl,hO16⟩
 refine JLr (Zj (vs:=[.agg ⟨cs13⟩,.agg ⟨cs16⟩]) [cs13,cs16] ZI YM rfl rfl (alc hO13.len (al1 hO16.len)) rfl (by decide) fun b17 k17 ho17 hk17=>Jc call36 rfl (fun hin=>G4 _ _ ((OL.mk ho17 (Qr hO13 hO16) (by decide)).rd (Has.app (hin 0 _ rfl) (Has.app (hin 2 _ rfl) (hin 1 _ rfl))))) rfl ?_)
 rintro _ _ ⟨u18,k18,rfl,rfl,ho18⟩
 refine JLM rfl<|JLn (Pu.extract rfl rfl)<|JLn (Pu.extract rfl rfl)<|JLa u18<|JAn rfl<|Zd<|Jc call35 rfl (fun hin=>Rh _) rfl ?_
 rintro v19 _ ⟨k19,rfl,hO19⟩
 refine Jc call13 rfl (fun hin=>Gs _ _ (hO19.rd (hin 0 _ rfl)) (GK.mono (Hle.hu _ _) hGK)) rfl ?_
 rintro _ _ ⟨u20,k20,rfl,rfl,ho20⟩
 refine JLM rfl<|JLn (Pu.extract rfl rfl)<|JLn (Pu.extract rfl rfl)<|JLa u20<|JAn rfl<|Zd<|Jc call35 rfl (fun hin=>Rh _) rfl ?_
 rintro v21 _ ⟨k21,rfl,hO21⟩
 refine Jc call14 rfl (fun hin=>Fi _ _ (hO21.rd (hin 0 _ rfl)) (GK.mono (Hle.hu _ _) hGK)) rfl ?_
 rintro _ _ ⟨u22,k22,rfl,rfl,ho22⟩
 refine JLM rfl<|JLn (Pu.extract rfl rfl)<|JLn (Pu.extract rfl rfl)<|JLa u22<|JAn rfl<|U2 (i:=15) rfl ?_
 intro H hh hkH
 have hGK:=GK.mono hh hGK
 have hA2:=(Yr ho2 (by decide) hkH)
 refine U2 (i:=13) rfl ?_
 intro H hh hkH
 have hGK:=GK.mono hh hGK
 have hA2:=RIs.mono hh hA2
 have hA4:=(Si ho4 (by simp) hkH)
 refine U2 (i:=10) rfl ?_
 intro H hh hkH
 have hGK:=GK.mono hh hGK
 have hA2:=RIs.mono hh hA2
 have hA4:=RSms.mono hh hA4
 have hA10:=(Si ho10 (by simp) hkH)
 refine U2 (i:=8) rfl ?_
 intro H hh hkH
 have hGK:=GK.mono hh hGK
 have hA2:=RIs.mono hh hA2
 have hA4:=RSms.mono hh hA4
 have hA10:=RSms.mono hh hA10
 have hA12:=(Yr ho12 (by decide) hkH)
 refine U2 (i:=4) rfl ?_
 intro H hh hkH
 have hGK:=GK.mono hh hGK
 have hA2:=RIs.mono hh hA2
 have hA4:=RSms.mono hh hA4
 have hA10:=RSms.mono hh hA10
 have hA12:=RIs.mono hh hA12
 have hA18:=(ho18.rd hkH)
 refine U2 (i:=2) rfl ?_
 intro H hh hkH
 have hGK:=GK.mono hh hGK
 have hA2:=RIs.mono hh hA2
 have hA4:=RSms.mono hh hA4
 have hA10:=RSms.mono hh hA10
 have hA12:=RIs.mono hh hA12
 have hA18:=RIIs.mono hh hA18
 have hA20:=(Si ho20 (by simp) hkH)
 refine U2 (i:=0) rfl ?_
 intro H hh hkH
 have hGK:=GK.mono hh hGK
 have hA2:=RIs.mono hh hA2
 have hA4:=RSms.mono hh hA4
 have hA10:=RSms.mono hh hA10
 have hA12:=RIs.mono hh hA12
 have hA18:=RIIs.mono hh hA18
 have hA20:=RSms.mono hh hA20
 have hA22:=(ho22.rd hkH)
 refine Zg<|Zd<|JLM rfl<|JLq (.bool false) (ZcW (Pu.neq rfl rfl) (by decide))<|JLM rfl<|JLM rfl<|JLq (.bool false) (ZcW (Pu.neq rfl rfl) (by decide))<|JLq (.bool false) (ZcX rfl rfl)<|JLM rfl<|JLM rfl<|JLq (.bool false) (ZcW (Pu.neq rfl rfl) (by decide))<|JLq (.bool false) (ZcX rfl rfl) ?_
 refine JLM rfl<|JLM rfl<|JLq (.bool false) (ZcW (Pu.neq rfl rfl) (by decide))<|JLq (.bool false) (ZcX rfl rfl)<|JLM rfl<|JLM rfl<|JLq (.bool false) (ZcW (Pu.neq rfl rfl) (by decide))<|JLq (.bool false) (ZcX rfl rfl)<|JLM rfl<|JLM rfl<|JLq (.bool false) (ZcW (Pu.neq rfl rfl) (by decide))<|JLq (.bool false) (ZcX rfl rfl)<|JLM rfl ?_
 refine JLM rfl<|JLq (.bool false) (ZcW (Pu.neq rfl rfl) (by decide))<|JLq (.bool false) (ZcX rfl rfl)<|JLM rfl<|JLm u4 ?_
 obtain ⟨a23,cap23,hv23⟩:=hA4.sl
 have hle23:=hA4.le
 refine JLn (ZcM Vp hv23)<|JLq (.bool false) (ZcW (Pu.neq rfl rfl) (by decide))<|JLq (.bool false) (ZcX rfl rfl)<|JLM rfl<|JLm u10 ?_
 obtain ⟨a24,cap24,hv24⟩:=hA10.sl
 have hle24:=hA10.le
 refine JLn (ZcM Vp hv24)<|JLq (.bool false) (ZcW (Pu.neq rfl rfl) (by decide))<|JLq (.bool false) (ZcX rfl rfl)<|JLM rfl<|JLm u20 ?_
 obtain ⟨a25,cap25,hv25⟩:=hA20.sl
 have hle25:=hA20.le
 refine JLn (ZcM Vp hv25)<|JLq (.bool false) (ZcW (Pu.neq rfl rfl) (by decide))<|JLq (.bool false) (ZcX rfl rfl)<|JLM rfl<|JLm u22 ?_
 obtain ⟨a26,cap26,hv26⟩:=hA22.sl
 have hle26:=hA22.le
 refine JLn (ZcM ZI hv26)<|JLq (.bool false) (ZcW (Pu.neq rfl rfl) (by decide))<|JLq (.bool false) (ZcX rfl rfl)<|JLM rfl<|JLm u18 ?_
 obtain ⟨a27,cap27,hv27⟩:=hA18.sl
 have hle27:=hA18.le
 refine JLn (ZcM RF hv27)<|JLq (.bool false) (ZcW (Pu.neq rfl rfl) (by decide))<|JLq (.bool false) (ZcX rfl rfl)<|Za<|Zt (b:=false) rfl (fun h=>absurd h (by simp)) (fun _=>Zo<|Zg<|ZM mixed #[0,0,3,7,15,31,63,15,143,399,1023,2047,4095,8191,16383,32767,8191,73727,204799,524287,1048575,2097151,4194303,4194303,16777215,33554431,67108863,134217727,268435455,536870911,134217727,2147483647,4294967295,8589934591,17179869183,34359738367,68719476735,17179869183,274877906943,549755813887,1099511627775,2199023255551,4398046511103,8796093022207,2199023255551,19791209299967,54975581388799,140737488355327,281474976710655,562949953421311,1125899906842623,2251799813685247,4503599627370495,1125899906842623,10133099161583615,28147497671065599,72057594037927935,1125899906842623,145241087982698495,433471464134410239,1125899906842623,1154047404513689599,3459890413727383551,9080382748685762559,18446744073709551615,36893488147419103231,73786976294838206463,147573952589676412927,295147905179352825855,590295810358705651711,1180591620717411303423,2361183241434822606847,590295810358705651711,5312662293228350865407,14757395258967641292799,37778931862957161709567,590295810358705651711,76148159536273029070847,227263886988101675909119,590295810358705651711,605053205617673293004799,1813979025232302467710975,4760735710542961081057279,9671406556917033397649407,19342813113834066795298815,38685626227668133590597631,77371252455336267181195263,154742504910672534362390527] 83 (sm 109 83) [] [(1,fun _ _ vw qw=>∃ b k,vw=.slice (some ⟨b,0,none⟩) 2 2∧qw=[k]∧Own 3 1 (.slice (some ⟨b,0,none⟩) 2 2) [[iv 0],[iv 0]] k∧k=(BX b (flatten [[iv 0],[iv 0]]) 3)),(2,fun _ _ vw qw=>vw=.bool true∧qw=[]),(23,fun _ _ vw qw=>∃ b k,vw=.slice (some ⟨b,0,none⟩) 2 2∧qw=[k]∧Own 3 1 (.slice (some ⟨b,0,none⟩) 2 2) [[iv 1],[iv 0]] k∧k=(BX b (flatten [[iv 1],[iv 0]]) 3)),(24,fun _ _ vw qw=>vw=.bool true∧qw=[]),(30,fun _ _ vw qw=>∃ b k,vw=.slice (some ⟨b,0,none⟩) 1 1∧qw=[k]∧Own 3 1 (.slice (some ⟨b,0,none⟩) 1 1) [[iv 0]] k∧k=(BX b (flatten [[iv 0]]) 3)),(31,fun _ _ vw qw=>vw=.bool true∧qw=[]),(37,fun _ _ vw qw=>∃ b k,vw=.slice (some ⟨b,0,none⟩) 1 1∧qw=[k]∧Own 3 1 (.slice (some ⟨b,0,none⟩) 1 1) [[iv 1]] k∧k=(BX b (flatten [[iv 1]]) 3)),(38,fun _ _ vw qw=>vw=.bool true∧qw=[]),(64,fun r _ vw qw=>∃ b k,vw=.slice (some ⟨b,0,none⟩) 2 2∧qw=[k]∧Own 70 68 (.slice (some ⟨b,0,none⟩) 2 2) [(sC q0P)++((cel (r 55))),(sC q1P)++((cel (r 62)))] k∧k=(BX b (flatten [(sC q0P)++((cel (r 55))),(sC q1P)++((cel (r 62)))]) 70)),(65,fun _ _ vw qw=>vw=iv 0∧qw=[])] rfl (by kernel_rfl) rfl (by kernel_rfl)<|Dm u2 ?_)
 refine Dr rfl (fun _=>Zj (vs:=[iv 0,iv 0]) [[iv 0],[iv 0]] ZS el3 rfl rfl (alc rfl (al1 rfl)) rfl (by decide) fun b k h1 h2=>⟨[k],by rw [Yd rfl];exact Sub.refl,b,k,rfl,rfl,h1,h2⟩) (fun _ _ ⟨b49,k49,e1,e2,ho49,hk49⟩=>?_);subst e1 e2
 refine Dc rfl call39 (fun _=>rfl) (fun hin=>NL (r:=true) (VN _ _ _ _ _ (RIs.mono (Hle.hu _ _) hA2) (Yr (l:=([0,0]:List Int)) ho49 (by decide) (hin 0 _ rfl))) (UN rfl)) ?_
 rintro _ _ ⟨rfl,rfl⟩
 refine DM (fun _=>rfl)<|Dm u4 ?_
 obtain ⟨b50,o50,cap50,row50,T50,fr50,hv50,hb50,hs50⟩:=RSms.at hA4 0 (by first | assumption | omega | decide | simp)
 refine Dn (fun _=>Pu.idx 0 Vp Yv hv50 rfl rfl (by first | assumption | omega | decide | simp))<|Dl Yv (ZcN hb50) hs50<|Dm u10 ?_
 obtain ⟨b51,o51,cap51,row51,T51,fr51,hv51,hb51,hs51⟩:=RSms.at hA10 0 (by first | assumption | omega | decide | simp)
 refine Dn (fun _=>Pu.idx 0 Vp Yv hv51 rfl rfl (by first | assumption | omega | decide | simp))<|Dl Yv (ZcN hb51) hs51<|Dq (.bool true) (fun _=>ZcW (eqS rfl rfl) (decide_eq_true rfl))<|Dq (.bool true) (fun _=>ZcZ rfl rfl)<|DM (fun _=>rfl)<|Dm u4 ?_
 obtain ⟨b52,o52,cap52,row52,T52,fr52,hv52,hb52,hs52⟩:=RSms.at hA4 1 (by first | assumption | omega | decide | simp)
 refine Dn (fun _=>Pu.idx 1 Vp Yv hv52 rfl rfl (by first | assumption | omega | decide | simp))<|Dl Yv (ZcN hb52) hs52<|Dm u10 ?_
 obtain ⟨b53,o53,cap53,row53,T53,fr53,hv53,hb53,hs53⟩:=RSms.at hA10 0 (by first | assumption | omega | decide | simp)
 refine Dn (fun _=>Pu.idx 0 Vp Yv hv53 rfl rfl (by first | assumption | omega | decide | simp))<|Dl Yv (ZcN hb53) hs53<|Dq (.bool true) (fun _=>ZcW (eqS rfl rfl) (decide_eq_true rfl))<|Dq (.bool true) (fun _=>ZcZ rfl rfl)<|DM (fun _=>rfl)<|Dm u12<|Dr rfl (fun _=>Zj (vs:=[iv 1,iv 0]) [[iv 1],[iv 0]] ZS el3 rfl rfl (alc rfl (al1 rfl)) rfl (by decide) fun b k h1 h2=>⟨[k],by rw [Yd rfl];exact Sub.refl,b,k,rfl,rfl,h1,h2⟩) (fun _ _ ⟨b54,k54,e1,e2,ho54,hk54⟩=>?_);subst e1 e2
 refine Dc rfl call39 (fun _=>rfl) (fun hin=>NL (r:=true) (VN _ _ _ _ _ (RIs.mono (Hle.hu _ _) hA12) (Yr (l:=([1,0]:List Int)) ho54 (by decide) (hin 0 _ rfl))) (UN rfl)) ?_
 rintro _ _ ⟨rfl,rfl⟩
 refine Dq (.bool true) (fun _=>ZcZ rfl rfl)<|DM (fun _=>rfl)<|Dm u18 ?_
 obtain ⟨b55,o55,cap55,row55,T55,fr55,cs55,hv55,hb55,hs55,hE55⟩:=hA18.get 0 (by first | assumption | omega | decide | simp)
 obtain ⟨vb55,rfl,hvb55⟩:=hE55
 refine Dn (fun _=>Pu.idx 0 RF YL hv55 rfl rfl (by first | assumption | omega | decide | simp))<|Dl1 YL (ZcN hb55) (ZP hs55)<|Dr rfl (fun _=>Zj (vs:=[iv 0]) [[iv 0]] ZS el3 rfl rfl (al1 rfl) rfl (by decide) fun b k h1 h2=>⟨[k],by rw [Yd rfl];exact Sub.refl,b,k,rfl,rfl,h1,h2⟩) (fun _ _ ⟨b56,k56,e1,e2,ho56,hk56⟩=>?_);subst e1 e2
 refine Dc rfl call39 (fun _=>rfl) (fun hin=>NL (r:=true) (VN _ _ _ _ _ (RIs.mono (Hle.hu _ _) hvb55) (Yr (l:=([0]:List Int)) ho56 (by decide) (hin 0 _ rfl))) (UN rfl)) ?_
 rintro _ _ ⟨rfl,rfl⟩
 refine Dq (.bool true) (fun _=>ZcZ rfl rfl)<|DM (fun _=>rfl)<|Dm u18 ?_
 obtain ⟨b57,o57,cap57,row57,T57,fr57,cs57,hv57,hb57,hs57,hE57⟩:=hA18.get 1 (by first | assumption | omega | decide | simp)
 obtain ⟨vb57,rfl,hvb57⟩:=hE57
 refine Dn (fun _=>Pu.idx 1 RF YL hv57 rfl rfl (by first | assumption | omega | decide | simp))<|Dl1 YL (ZcN hb57) (ZP hs57)<|Dr rfl (fun _=>Zj (vs:=[iv 1]) [[iv 1]] ZS el3 rfl rfl (al1 rfl) rfl (by decide) fun b k h1 h2=>⟨[k],by rw [Yd rfl];exact Sub.refl,b,k,rfl,rfl,h1,h2⟩) (fun _ _ ⟨b58,k58,e1,e2,ho58,hk58⟩=>?_);subst e1 e2
 refine Dc rfl call39 (fun _=>rfl) (fun hin=>NL (r:=true) (VN _ _ _ _ _ (RIs.mono (Hle.hu _ _) hvb57) (Yr (l:=([1]:List Int)) ho58 (by decide) (hin 0 _ rfl))) (UN rfl)) ?_
 rintro _ _ ⟨rfl,rfl⟩
 refine Dq (.bool true) (fun _=>ZcZ rfl rfl)<|DM (fun _=>rfl)<|Dm u20 ?_
 obtain ⟨b59,o59,cap59,row59,T59,fr59,hv59,hb59,hs59⟩:=RSms.at hA20 0 (by first | assumption | omega | decide | simp)
 refine Dn (fun _=>Pu.idx 0 Vp Yv hv59 rfl rfl (by first | assumption | omega | decide | simp))<|Dl Yv (ZcN hb59) hs59<|Dm u20 ?_
 obtain ⟨b60,o60,cap60,row60,T60,fr60,hv60,hb60,hs60⟩:=RSms.at hA20 1 (by first | assumption | omega | decide | simp)
 refine Dn (fun _=>Pu.idx 1 Vp Yv hv60 rfl rfl (by first | assumption | omega | decide | simp))<|Dl Yv (ZcN hb60) hs60<|Dq (.bool true) (fun _=>ZcW (neqS rfl rfl) (show (!decide (q0P=q1P))=true by rw [decide_eq_false q01];rfl))<|Dq (.bool true) (fun _=>ZcZ rfl rfl)<|DM (fun _=>rfl)<|Dm u20 ?_
 obtain ⟨b61,o61,cap61,row61,T61,fr61,hv61,hb61,hs61⟩:=RSms.at hA20 0 (by first | assumption | omega | decide | simp)
 refine Dn (fun _=>Pu.idx 0 Vp Yv hv61 rfl rfl (by first | assumption | omega | decide | simp))<|Dl Yv (ZcN hb61) hs61<|Dm u22 ?_
 obtain ⟨b62,o62,cap62,row62,T62,fr62,cs62,hv62,hb62,hs62,hE62⟩:=hA22.get 0 (by first | assumption | omega | decide | simp)
 refine Dn (fun _=>Pu.idx 0 ZI Zu hv62 rfl rfl (by first | assumption | omega | decide | simp))<|Dl Zu (ZcN hb62) hs62<|Dq (.agg ⟨(sC q0P)++cs62⟩) (fun _=>Pu.build (pv:=[(0,.agg ⟨sC q0P⟩),(1,.agg ⟨cs62⟩)]) (l:=(sC q0P)++cs62) rfl (Ie _ (Zy hE62)))<|Dm u20 ?_
 obtain ⟨b63,o63,cap63,row63,T63,fr63,hv63,hb63,hs63⟩:=RSms.at hA20 1 (by first | assumption | omega | decide | simp)
 refine Dn (fun _=>Pu.idx 1 Vp Yv hv63 rfl rfl (by first | assumption | omega | decide | simp))<|Dl Yv (ZcN hb63) hs63<|Dm u22 ?_
 obtain ⟨b64,o64,cap64,row64,T64,fr64,cs64,hv64,hb64,hs64,hE64⟩:=hA22.get 1 (by first | assumption | omega | decide | simp)
 refine Dn (fun _=>Pu.idx 1 ZI Zu hv64 rfl rfl (by first | assumption | omega | decide | simp))<|Dl Zu (ZcN hb64) hs64<|Dq (.agg ⟨(sC q1P)++cs64⟩) (fun _=>Pu.build (pv:=[(0,.agg ⟨sC q1P⟩),(1,.agg ⟨cs64⟩)]) (l:=(sC q1P)++cs64) rfl (Ie _ (Zy hE64)))<|Dr rfl (fun _=>Zj (vs:=[.agg ⟨(sC q0P)++cs62⟩,.agg ⟨(sC q1P)++cs64⟩]) [(sC q0P)++cs62,(sC q1P)++cs64] RE Zb0 rfl rfl (alc (ZJ rfl (Zy hE62)) (al1 (ZJ rfl (Zy hE64)))) rfl (by decide) fun b k h1 h2=>⟨[k],by rw [Yd rfl];exact Sub.refl,b,k,rfl,rfl,h1,h2⟩) (fun _ _ ⟨b65,k65,e1,e2,ho65,hk65⟩=>?_);subst e1 e2
 refine Dc rfl call40 (fun _=>rfl) (fun hin=>DE _ _ (FT ho65 (hin 0 _ rfl) (RT.mono (Hle.hu _ _) hE62) (RT.mono (Hle.hu _ _) hE64)) (GK.mono (Hle.hu _ _) hGK)) ?_
 rintro _ _ ⟨rfl,rfl⟩
 refine Dq (.bool true) (fun _=>ZcW (Pu.eql rfl rfl) (by decide))<|Dq (.bool true) (fun _=>ZcZ rfl rfl)<|DM (fun _=>rfl)<|Dm u20 ?_
 obtain ⟨b66,o66,cap66,row66,T66,fr66,hv66,hb66,hs66⟩:=RSms.at hA20 1 (by first | assumption | omega | decide | simp)
 refine Dn (fun _=>Pu.idx 1 Vp Yv hv66 rfl rfl (by first | assumption | omega | decide | simp))<|Dl Yv (ZcN hb66) hs66<|Dm u22 ?_
 obtain ⟨b67,o67,cap67,row67,T67,fr67,cs67,hv67,hb67,hs67,hE67⟩:=hA22.get 0 (by first | assumption | omega | decide | simp)
 refine Dn (fun _=>Pu.idx 0 ZI Zu hv67 rfl rfl (by first | assumption | omega | decide | simp))<|Dl Zu (ZcN hb67) hs67<|Dq (.agg ⟨(sC q1P)++cs67⟩) (fun _=>Pu.build (pv:=[(0,.agg ⟨sC q1P⟩),(1,.agg ⟨cs67⟩)]) (l:=(sC q1P)++cs67) rfl (Ie _ (Zy hE67)))<|Dm u20 ?_
 obtain ⟨b68,o68,cap68,row68,T68,fr68,hv68,hb68,hs68⟩:=RSms.at hA20 0 (by first | assumption | omega | decide | simp)
 refine Dn (fun _=>Pu.idx 0 Vp Yv hv68 rfl rfl (by first | assumption | omega | decide | simp))<|Dl Yv (ZcN hb68) hs68<|Dm u22 ?_
 obtain ⟨b69,o69,cap69,row69,T69,fr69,cs69,hv69,hb69,hs69,hE69⟩:=hA22.get 1 (by first | assumption | omega | decide | simp)
 refine Dn (fun _=>Pu.idx 1 ZI Zu hv69 rfl rfl (by first | assumption | omega | decide | simp))<|Dl Zu (ZcN hb69) hs69<|Dq (.agg ⟨(sC q0P)++cs69⟩) (fun _=>Pu.build (pv:=[(0,.agg ⟨sC q0P⟩),(1,.agg ⟨cs69⟩)]) (l:=(sC q0P)++cs69) rfl (Ie _ (Zy hE69)))<|ZX (M':=[k65,k58,k56,k54,k49,k21,k19,k17,k16,k13,k11,k9,k8,k3,k1]) rfl ?_
 show JL _ _ _ [_,_,_,_,_] _ _ _
 refine JLr (Zj (vs:=[.agg ⟨(sC q1P)++cs67⟩,.agg ⟨(sC q0P)++cs69⟩]) [(sC q1P)++cs67,(sC q0P)++cs69] RE Zb0 rfl rfl (alc (ZJ rfl (Zy hE67)) (al1 (ZJ rfl (Zy hE69)))) rfl (by decide) fun b70 k70 ho70 hk70=>Jc call40 rfl (fun hin=>H6 _ _ (FT ho70 (hin 0 _ rfl) (RT.mono (Hle.hu _ _) hE67) (RT.mono (Hle.hu _ _) hE69)) (GK.mono (Hle.hu _ _) hGK)) rfl ?_)
 rintro _ _ ⟨rfl,rfl⟩
 refine JLq (.bool true) (ZcW (Pu.eql rfl rfl) (by decide))<|JLq (.bool true) (ZcZ rfl rfl)<|JAn rfl<|Zz<|⟨.bool true,[],Ret.one rfl (RV.tmp rfl),(Sd (Sd (Sd (Sd (Sd (Sd (Sd Sub.nil))))))),?_⟩
 exact ⟨rfl,rfl⟩
theorem ZaK (a b:List Value) (hla:a.length=35) (hka:okc a) (hlb:b.length=36) (hkb:okc b) (H:Heap):CT prog 78 ⟨[.agg ⟨a⟩,.agg ⟨b⟩]⟩ [] H (fun v N=>v=.agg ⟨a++b⟩∧N=[]):=by
 refine Zl func78 rfl rfl<|Zd<|JLr (Zr (l:=a) rfl rfl fun b1=>JLr (Zr (l:=b) rfl rfl fun b2=>JLr (Zk (l:=(pkP 0 0 zS nS)++(pkT 0 0 zS nS nS)) zeroValue117 rfl fun b3=>Za<|Zd<|JLr (Zn ZO rfl (ZcK 2 rfl) (Zx hla)<|JLr (Zn Zu rfl (ZcK 1 rfl) (Zx hlb)<|JLq (.agg ⟨a++b⟩) (Pu.build (pv:=[(0,.agg ⟨a⟩),(1,.agg ⟨b⟩)]) (l:=a++b) rfl (W0 hla hlb))<|JLr (Zb 0 (vs:=a++b) (l:=a++b) YD rfl rfl rfl rfl (ZJ hla hlb) (YB hka hkb) (ZY (n:=71) rfl (ZJ hla hlb)) ?_))))))
 refine Za<|Zz<|⟨.agg ⟨a++b⟩,[],Ret.one rfl (RV.cell YD rfl (ZcK 0 rfl) (Zx (ZJ hla hlb))),Sub.nil,?_⟩
 exact ⟨rfl,rfl⟩
theorem A9 (x:List Value) (hlx:x.length=36) (hkx:okc x) (H:Heap):CT prog 30 ⟨[.agg ⟨x⟩]⟩ [] H (fun r N=>∃ sv k,r=.agg ⟨pkT 3 0 zS sv nS⟩∧N=[k]∧Own 51 36 sv [x] k):=by
 refine Zl func30 rfl rfl<|Zd<|JLr (Zr (l:=x) rfl rfl fun b1=>JLr (Zk (l:=pkT 0 0 zS nS nS) zeroValue51 rfl fun b2=>Za<|Zd<|JLr (Zn Zu rfl (ZcK 1 rfl) (Zx hlx)<|JLr (Zj (vs:=[.agg ⟨x⟩]) [x] ZI YM rfl rfl (by intro e he;simp only [mem_cons,not_mem_nil,or_false] at he;subst he;exact hlx) rfl (by decide) fun b3 k3 ho3 hk3=>JLq (.agg ⟨pkT 3 0 zS (.slice (some ⟨b3,0,none⟩) 1 1) nS⟩) (Pu.build (pv:=[(0,iv 3),(3,.slice (some ⟨b3,0,none⟩) 1 1)]) (l:=pkT 3 0 zS (.slice (some ⟨b3,0,none⟩) 1 1) nS) rfl (VR _ _ _ _))<|JLr (Zb 1 (vs:=pkT 3 0 zS (.slice (some ⟨b3,0,none⟩) 1 1) nS) (l:=pkT 3 0 zS (.slice (some ⟨b3,0,none⟩) 1 1) nS) Zu rfl rfl rfl rfl rfl (ZR rfl rfl) (Yb ..)<|Za ?_)))))
 refine Zz<|⟨.agg ⟨pkT 3 0 zS (.slice (some ⟨b3,0,none⟩) 1 1) nS⟩,[k3],Ret.one rfl (RV.cell Zu rfl (ZcK 1 rfl) (Z4 ..)),(Sk Sub.nil),?_⟩
 exact ⟨_,_,rfl,rfl,ho3⟩
theorem E7 (x:List Value) (hlx:x.length=36) (hkx:okc x) (y:List Value) (hly:y.length=36) (hky:okc y) (H:Heap):CT prog 31 ⟨[.agg ⟨x⟩,.agg ⟨y⟩]⟩ [] H (fun r N=>∃ sv k,r=.agg ⟨pkT 4 0 zS sv nS⟩∧N=[k]∧Own 51 36 sv [x,y] k):=by
 refine Zl func31 rfl rfl<|Zd<|JLr (Zr (l:=x) rfl rfl fun b1=>JLr (Zr (l:=y) rfl rfl fun b2=>JLr (Zk (l:=pkT 0 0 zS nS nS) zeroValue51 rfl fun b3=>Za<|Zd<|JLr (Zn Zu rfl (ZcK 2 rfl) (Zx hlx)<|JLr (Zn Zu rfl (ZcK 1 rfl) (Zx hly)<|JLr (Zj (vs:=[.agg ⟨x⟩,.agg ⟨y⟩]) [x,y] ZI YM rfl rfl (by intro e he;simp only [mem_cons,not_mem_nil,or_false] at he;rcases he with rfl | rfl <;> first | exact hlx | exact hly) rfl (by decide) fun b4 k4 ho4 hk4=>JLq (.agg ⟨pkT 4 0 zS (.slice (some ⟨b4,0,none⟩) 2 2) nS⟩) (Pu.build (pv:=[(0,iv 4),(3,.slice (some ⟨b4,0,none⟩) 2 2)]) (l:=pkT 4 0 zS (.slice (some ⟨b4,0,none⟩) 2 2) nS) rfl (VR _ _ _ _)) ?_))))))
 refine JLr (Zb 1 (vs:=pkT 4 0 zS (.slice (some ⟨b4,0,none⟩) 2 2) nS) (l:=pkT 4 0 zS (.slice (some ⟨b4,0,none⟩) 2 2) nS) Zu rfl rfl rfl rfl rfl (ZR rfl rfl) (Yb ..)<|Za<|Zz<|⟨.agg ⟨pkT 4 0 zS (.slice (some ⟨b4,0,none⟩) 2 2) nS⟩,[k4],Ret.one rfl (RV.cell Zu rfl (ZcK 1 rfl) (Z4 ..)),(Sk Sub.nil),?_⟩)
 exact ⟨_,_,rfl,rfl,ho4⟩
theorem A8 (x:List Value) (hlx:x.length=36) (hkx:okc x) (y:List Value) (hly:y.length=36) (hky:okc y) (H:Heap):CT prog 160 ⟨[.agg ⟨x⟩,.agg ⟨y⟩]⟩ [] H (fun r N=>∃ sv k,r=.agg ⟨pkT 5 0 zS sv nS⟩∧N=[k]∧Own 51 36 sv [x,y] k):=by
 refine Zl func160 rfl rfl<|Zd<|JLr (Zr (l:=x) rfl rfl fun b1=>JLr (Zr (l:=y) rfl rfl fun b2=>JLr (Zk (l:=pkT 0 0 zS nS nS) zeroValue51 rfl fun b3=>Za<|Zd<|JLr (Zn Zu rfl (ZcK 2 rfl) (Zx hlx)<|JLr (Zn Zu rfl (ZcK 1 rfl) (Zx hly)<|JLr (Zj (vs:=[.agg ⟨x⟩,.agg ⟨y⟩]) [x,y] ZI YM rfl rfl (by intro e he;simp only [mem_cons,not_mem_nil,or_false] at he;rcases he with rfl | rfl <;> first | exact hlx | exact hly) rfl (by decide) fun b4 k4 ho4 hk4=>JLq (.agg ⟨pkT 5 0 zS (.slice (some ⟨b4,0,none⟩) 2 2) nS⟩) (Pu.build (pv:=[(0,iv 5),(3,.slice (some ⟨b4,0,none⟩) 2 2)]) (l:=pkT 5 0 zS (.slice (some ⟨b4,0,none⟩) 2 2) nS) rfl (VR _ _ _ _)) ?_))))))
 refine JLr (Zb 1 (vs:=pkT 5 0 zS (.slice (some ⟨b4,0,none⟩) 2 2) nS) (l:=pkT 5 0 zS (.slice (some ⟨b4,0,none⟩) 2 2) nS) Zu rfl rfl rfl rfl rfl (ZR rfl rfl) (Yb ..)<|Za<|Zz<|⟨.agg ⟨pkT 5 0 zS (.slice (some ⟨b4,0,none⟩) 2 2) nS⟩,[k4],Ret.one rfl (RV.cell Zu rfl (ZcK 1 rfl) (Z4 ..)),(Sk Sub.nil),?_⟩)
 exact ⟨_,_,rfl,rfl,ho4⟩
theorem AO (n:Int) (x:List Value) (hlx:x.length=36) (hkx:okc x) (y:List Value) (hly:y.length=36) (hky:okc y) (H:Heap):CT prog 38 ⟨[iv n,.agg ⟨x⟩,.agg ⟨y⟩]⟩ [] H (fun r N=>∃ sv k,r=.agg ⟨pkT 10 n zS sv nS⟩∧N=[k]∧Own 51 36 sv [x,y] k):=by
 refine Zl func38 rfl rfl<|Zd<|JLr (Zr (l:=x) rfl rfl fun b1=>JLr (Zr (l:=y) rfl rfl fun b2=>JLr (Zk (l:=pkT 0 0 zS nS nS) zeroValue51 rfl fun b3=>Za<|Zd<|JLM rfl<|JLr (Zn Zu rfl (ZcK 2 rfl) (Zx hlx)<|JLr (Zn Zu rfl (ZcK 1 rfl) (Zx hly)<|JLr (Zj (vs:=[.agg ⟨x⟩,.agg ⟨y⟩]) [x,y] ZI YM rfl rfl (by intro e he;simp only [mem_cons,not_mem_nil,or_false] at he;rcases he with rfl | rfl <;> first | exact hlx | exact hly) rfl (by decide) fun b4 k4 ho4 hk4=>?_))))))
 refine JLq (.agg ⟨pkT 10 n zS (.slice (some ⟨b4,0,none⟩) 2 2) nS⟩) (Pu.build (pv:=[(0,iv 10),(1,iv n),(3,.slice (some ⟨b4,0,none⟩) 2 2)]) (l:=pkT 10 n zS (.slice (some ⟨b4,0,none⟩) 2 2) nS) rfl (R1 _ _ _ _ _))<|JLr (Zb 1 (vs:=pkT 10 n zS (.slice (some ⟨b4,0,none⟩) 2 2) nS) (l:=pkT 10 n zS (.slice (some ⟨b4,0,none⟩) 2 2) nS) Zu rfl rfl rfl rfl rfl (ZR rfl rfl) (Yb ..)<|Za<|Zz<|⟨.agg ⟨pkT 10 n zS (.slice (some ⟨b4,0,none⟩) 2 2) nS⟩,[k4],Ret.one rfl (RV.cell Zu rfl (ZcK 1 rfl) (Z4 ..)),(Sk Sub.nil),?_⟩)
 exact ⟨_,_,rfl,rfl,ho4⟩
theorem BK (f:Sm) (n:Int) (x:List Value) (hlx:x.length=36) (hkx:okc x) (H:Heap):CT prog 161 ⟨[.agg ⟨sC f⟩,iv n,.agg ⟨x⟩]⟩ [] H (fun r N=>∃ sv k,r=.agg ⟨pkT 11 n f sv nS⟩∧N=[k]∧Own 51 36 sv [x] k):=by
 refine Zl func161 rfl rfl<|Zd<|JLr (Zr (l:=sC f) rfl rfl fun b1=>JLr (Zr (l:=x) rfl rfl fun b2=>JLr (Zk (l:=pkT 0 0 zS nS nS) zeroValue51 rfl fun b3=>Za<|Zd<|JLr (Zn Yv rfl (ZcK 2 rfl) (Zx rfl)<|JLM rfl<|JLr (Zn Zu rfl (ZcK 1 rfl) (Zx hlx)<|JLr (Zj (vs:=[.agg ⟨x⟩]) [x] ZI YM rfl rfl (by intro e he;simp only [mem_cons,not_mem_nil,or_false] at he;subst he;exact hlx) rfl (by decide) fun b4 k4 ho4 hk4=>?_))))))
 refine JLq (.agg ⟨pkT 11 n f (.slice (some ⟨b4,0,none⟩) 1 1) nS⟩) (Pu.build (pv:=[(0,iv 11),(2,.agg ⟨sC f⟩),(1,iv n),(3,.slice (some ⟨b4,0,none⟩) 1 1)]) (l:=pkT 11 n f (.slice (some ⟨b4,0,none⟩) 1 1) nS) rfl (Tt _ _ _ _ _ _))<|JLr (Zb 1 (vs:=pkT 11 n f (.slice (some ⟨b4,0,none⟩) 1 1) nS) (l:=pkT 11 n f (.slice (some ⟨b4,0,none⟩) 1 1) nS) Zu rfl rfl rfl rfl rfl (ZR rfl rfl) (Yb ..)<|Za<|Zz<|⟨.agg ⟨pkT 11 n f (.slice (some ⟨b4,0,none⟩) 1 1) nS⟩,[k4],Ret.one rfl (RV.cell Zu rfl (ZcK 1 rfl) (Z4 ..)),(Sk Sub.nil),?_⟩)
 exact ⟨_,_,rfl,rfl,ho4⟩
theorem A7 (x:List Value) (hlx:x.length=36) (hkx:okc x) (sa:Option Addr) (sn sc:Nat) (H:Heap):CT prog 77 ⟨[.agg ⟨x⟩,.slice sa sn sc]⟩ [] H (fun r N=>∃ sv k,r=.agg ⟨pkT 9 0 zS sv (.slice sa sn sc)⟩∧N=[k]∧Own 51 36 sv [x] k):=by
 refine Zl func77 rfl rfl<|Zd<|JLr (Zr (l:=x) rfl rfl fun b1=>JLr (Zk (l:=pkT 0 0 zS nS nS) zeroValue51 rfl fun b2=>Za<|Zd<|JLr (Zn Zu rfl (ZcK 1 rfl) (Zx hlx)<|JLr (Zj (vs:=[.agg ⟨x⟩]) [x] ZI YM rfl rfl (by intro e he;simp only [mem_cons,not_mem_nil,or_false] at he;subst he;exact hlx) rfl (by decide) fun b3 k3 ho3 hk3=>JLM rfl<|JLq (.agg ⟨pkT 9 0 zS (.slice (some ⟨b3,0,none⟩) 1 1) (.slice sa sn sc)⟩) (Pu.build (pv:=[(0,iv 9),(3,.slice (some ⟨b3,0,none⟩) 1 1),(4,.slice sa sn sc)]) (l:=pkT 9 0 zS (.slice (some ⟨b3,0,none⟩) 1 1) (.slice sa sn sc)) rfl (R0 _ _ _ _ _ _ _))<|JLr (Zb 1 (vs:=pkT 9 0 zS (.slice (some ⟨b3,0,none⟩) 1 1) (.slice sa sn sc)) (l:=pkT 9 0 zS (.slice (some ⟨b3,0,none⟩) 1 1) (.slice sa sn sc)) Zu rfl rfl rfl rfl rfl (ZR rfl rfl) (Yb ..) ?_)))))
 refine Za<|Zz<|⟨.agg ⟨pkT 9 0 zS (.slice (some ⟨b3,0,none⟩) 1 1) (.slice sa sn sc)⟩,[k3],Ret.one rfl (RV.cell Zu rfl (ZcK 1 rfl) (Z4 ..)),(Sk Sub.nil),?_⟩
 exact ⟨_,_,rfl,rfl,ho3⟩
theorem XD (more d m:Int) (b3 b4 b5 bM bS:Nat) (v:Value) (l:List Int) (L a s:Int) (H:Heap) (hv:Hs.rdS RB 1 H v l) (h3:H b3=some (.cells ⟨[pp bM 0]⟩ 156 (0,0))) (h4:H b4=some (.cells ⟨[iv d]⟩ 3 (0,0))) (h5:H b5=some (.cells ⟨[iv m]⟩ 3 (0,0))) (hd0: -1000000≤d) (hd1:d≤1000000) (hm0:0≤more) (hm1:more≤1000) (hsc:∀ h,Hle H h→CT prog 113 ⟨[pp bM 0,iv (d+more),iv m]⟩ [((BX bM [pp bS 0,iv L] 158))++((BX bS [v,iv a,.int .u64 s] 109))] h (fun r N=>∃ t cs k l' a' s',r=.agg ⟨cs⟩∧N=[((BX bM [pp bS 0,iv (l')] 158))++((BX bS [v,iv (a'),.int .u64 (s')] 109)),k]∧OT t cs k∧(ZV (d+more) m 0 t=0∧((sizeT t:Int)≤(L-l')+14*(max (L-1) 0-max (l'-1) 0)∧Yj t≤max (L-1) 0+9)∧X1 t)∧(l'≤L-1∧(L≤1→l'=L-1)∧(1≤L→ -3*(L-1)≤l'))∧(a≤a'∧a'≤a+100*(L-l')))):CT prog 157 ⟨[iv more,pp b3 0,pp b4 0,pp b5 0]⟩ [((BX bM [pp bS 0,iv L] 158))++((BX bS [v,iv a,.int .u64 s] 109))] H (fun r N=>∃ t cs k l' a' s',r=.agg ⟨cs⟩∧N=[((BX bM [pp bS 0,iv (l')] 158))++((BX bS [v,iv (a'),.int .u64 (s')] 109)),k]∧OT t cs k∧(ZV (d+more) m 0 t=0∧((sizeT t:Int)≤(L-l')+14*(max (L-1) 0-max (l'-1) 0)∧Yj t≤max (L-1) 0+9)∧X1 t)∧(l'≤L-1∧(L≤1→l'=L-1)∧(1≤L→ -3*(L-1)≤l'))∧(a≤a'∧a'≤a+100*(L-l'))):=by
 refine Zl func157 rfl rfl<|Zd<|JLr (Zk (l:=pkT 0 0 zS nS nS) zeroValue51 rfl fun b1=>Za<|Zd<|JLr (Zc XZ rfl (ZcN h3) rfl<|JLr (Zc ty3 rfl (ZcN h4) rfl<|JLM rfl<|JLn (ZcV rfl rfl (by first | omega | (constructor <;> omega)))<|JLr (Zc ty3 rfl (ZcN h5) rfl<|Zs 1 rfl call113 rfl rfl (fun hin=>hsc _ (Hle.hu _ _)) rfl ?_))))
 rintro _ _ ⟨t2,cs2,k2,l2,a2,s2,rfl,rfl,hO2,⟨hn2,hz2,hw2⟩,hl2,ha2⟩
 refine ZB (M':=[(BX bM [pp bS 0,iv l2] 158),(BX bS [v,iv a2,.int .u64 s2] 109),k2,(BX b1 (pkT 0 0 zS nS nS) 51)]) (Sub.flat Sub.refl (by simp))<|JLr (Zb 3 (vs:=cs2) (l:=cs2) Zu rfl rfl rfl rfl hO2.len hO2.ok (ZY (n:=36) rfl hO2.len)<|Za<|Zz<|⟨.agg ⟨cs2⟩,[((BX bM [pp bS 0,iv l2] 158))++((BX bS [v,iv a2,.int .u64 s2] 109)),k2],Ret.one rfl (RV.cell Zu rfl (ZcK 3 rfl) (Zx hO2.len)),(ZcO (Sk (Sk (Sk Sub.nil)))),?_⟩)
 exact ⟨_,_,_,_,_,_,rfl,rfl,hO2,⟨hn2,hz2,hw2⟩,hl2,ha2⟩
end
end Go.Proofs.YtjdjmjgleadcfaaGreatDoor.Hs
