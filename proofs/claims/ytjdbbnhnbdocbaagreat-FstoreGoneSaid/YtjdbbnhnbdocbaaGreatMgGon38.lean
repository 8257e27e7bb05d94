import Derived.Test.YtjdbbnhnbdocbaaGreatMgGon37
import Derived.Test.YtjdbbnhnbdocbaaGreatMgGon33
namespace Go.Proofs.YtjdbbnhnbdocbaaGreat
open Go.RowKit Go.Tn Go.Tn.Bt Go.Tn.Lp Go.Tn.Dk Go.Tn.Ino Go.Tn.Dr Go.Tn.Fm Go.Tn.Names
section
variable {n:Nat} {T T':Nat→Bool} {H H':Nat→Option (List Nat)} {V:Nat→List Nat} {P:Nat→List Nat} {W:Nat→Nat→Option (List Nat)} {j i q err err':Nat} {b bl bl':List Nat} {bs:List (List Nat)}
inductive SetTo (n:Nat) (T:Nat→Bool) (H:Nat→Option (List Nat)) (err:Nat) (bl:List Nat) (bs:List (List Nat)):Nat→(Nat→Bool)→(Nat→Option (List Nat))→Nat→List Nat→Prop
 | z:SetTo n T H err bl bs 0 T H err bl
 | b {i q:Nat} {b:List Nat} {T1 T2:Nat→Bool} {H1 H2:Nat→Option (List Nat)} {e1 e2:Nat} {b1 b2:List Nat}:SetTo n T H err bl bs i T1 H1 e1 b1→b1[i]?=some q→bs[i]?=some b→BlockR n T1 H1 e1 b1 i q b T2 H2 e2 b2→SetTo n T H err bl bs (i+1) T2 H2 e2 b2
 | e {i q:Nat} {T1 T2:Nat→Bool} {H1 H2:Nat→Option (List Nat)} {e1:Nat} {b1 b2:List Nat}:SetTo n T H err bl bs i T1 H1 e1 b1→b1[i]?=some q→bs.length≤i→EmptyR n T1 H1 b1 i q T2 H2 b2→SetTo n T H err bl bs (i+1) T2 H2 e1 b2
theorem BlockR.len {T1 T2:Nat→Bool} {H1 H2:Nat→Option (List Nat)} {b1 b2:List Nat} (h:BlockR n T1 H1 err b1 i q b T2 H2 err' b2):b2.length=b1.length:=by
 cases h with
 | old=>rfl
 | new=>exact List.length_set
 | no=>rfl
theorem BlockR.bad {T1 T2:Nat→Bool} {H1 H2:Nat→Option (List Nat)} {b1 b2:List Nat} (h:BlockR n T1 H1 err b1 i q b T2 H2 err' b2) (he:err≠0):err'=err:=by
 cases h with
 | old=>rfl
 | new=>rfl
 | no=>
  unfold failE
  rw [if_neg he]
def firstW (W:Nat→Option (List Nat)) (bs:List (List Nat)) (i:Nat):Nat→Option (List Nat):=fun k=>if k<i then bs[k]? else W k
theorem firstW_zero (W:Nat→Option (List Nat)):firstW W bs 0=W:=by
 funext k
 unfold firstW
 rw [if_neg (Nat.not_lt_zero k)]
theorem firstW_succ (W:Nat→Option (List Nat)) (i:Nat):Fm.upd (firstW W bs i) i bs[i]?=firstW W bs (i+1):=by
 funext k
 by_cases h:k=i
 ·rw [h,Fm.upd_at]
  unfold firstW
  rw [if_pos (Nat.lt_succ_self i)]
 ·rw [Fm.upd_ne _ _ h]
  unfold firstW
  by_cases h2:k<i
  ·rw [if_pos h2,if_pos (by omega)]
  ·rw [if_neg h2,if_neg (by omega)]
structure ChOk (n:Nat) (H:Nat→Option (List Nat)) (m:Nat):Prop where
 ok: ∀k b,H k=some b→k<n∧secB b
 few: ∃K:List Nat,K.length≤m∧ ∀k b,H k=some b→k∈K
theorem ChOk.none (n:Nat):ChOk n (fun _=>Option.none) 0:=⟨fun _ _ h=>(by cases h),⟨[],Nat.le_refl _,fun _ _ h=>(by cases h)⟩⟩
theorem ChOk.mono {m m':Nat} (h:ChOk n H m) (hm:m≤m'):ChOk n H m':=by
 obtain ⟨K,h1,h2⟩:=h.few
 exact ⟨h.ok,K,Nat.le_trans h1 hm,h2⟩
theorem ChOk.put {m k:Nat} (h:ChOk n H m) (hk:k<n) (hb:secB b):ChOk n (putH H k b) (m+1):=by
 obtain ⟨K,h1,h2⟩:=h.few
 refine ⟨fun j c hc=> ?_,k::K,by rw [List.length_cons];omega,fun j c hc=> ?_⟩
 ·unfold putH at hc
  split at hc
  ·rename_i e
   cases hc
   exact ⟨e ▸ hk,hb⟩
  ·exact h.ok j c hc
 ·unfold putH at hc
  split at hc
  ·rename_i e
   rw [e]
   exact List.mem_cons_self
  ·exact List.mem_cons_of_mem _ (h2 j c hc)
theorem ChOk.del {m:Nat} (h:ChOk n H m) (k:Nat):ChOk n (delH H k) m:=by
 obtain ⟨K,h1,h2⟩:=h.few
 refine ⟨fun j c hc=> ?_,K,h1,fun j c hc=> ?_⟩
 ·unfold delH at hc
  split at hc
  ·cases hc
  ·exact h.ok j c hc
 ·unfold delH at hc
  split at hc
  ·cases hc
  ·exact h2 j c hc
theorem EmptyR.chok {m:Nat} (hc:ChOk n H m) (hr:EmptyR n T H bl i q T' H' bl'):ChOk n H' m:=by
 cases hr with
 | no=>exact hc
 | yes=>exact hc.del q
theorem BlockR.chok {m:Nat} (hc:ChOk n H m) (hq:q≠0→q<n) (hb:secB b) (hr:BlockR n T H err bl i q b T' H' err' bl'):ChOk n H' (m+1):=by
 cases hr with
 | old h0=>exact hc.put (hq h0) hb
 | new h0 hl=>exact hc.put hl hb
 | no=>exact hc.mono (Nat.le_succ m)
theorem EmptyR.low (hq:q≠0→42≤q) (hr:EmptyR n T H bl i q T' H' bl'): ∀k,k<42→H' k=H k:=by
 intro k hk
 cases hr with
 | no=>rfl
 | yes h0=>
  unfold delH
  rw [if_neg (by have:=hq h0;omega)]
theorem BlockR.low (hq:q≠0→42≤q) (hT: ∀p,T p=false→42≤p) (hr:BlockR n T H err bl i q b T' H' err' bl'): ∀k,k<42→H' k=H k:=by
 intro k hk
 cases hr with
 | old h0=>
  unfold putH
  rw [if_neg (by have:=hq h0;omega)]
 | new h0 hl=>
  unfold putH
  rw [if_neg (by have:=hT _ (least_free hl);omega)]
 | no=>rfl
theorem Mid.free (h:Mid n T V P W): ∀p,T p=false→42≤p:=fun p hp=>by
 apply Classical.byContradiction
 intro hc
 rw [h.T,takenP_iff.2 (.inl (by omega))] at hp
 cases hp
def Stuck (n:Nat) (W:Nat→Nat→Option (List Nat)) (j:Nat) (bs:List (List Nat)):Prop:= ∃i T1 V1 P1,i<bs.length∧Mid n T1 V1 P1 (Fm.upd W j (firstW (W j) bs i))∧(P1 j)[i]?=some 0∧ ∀p,p<n→T1 p=true
theorem SetTo.mid {m:Nat} (h:Mid n T (ov H V) P W) (hc:ChOk n H m) (hj:1≤j∧j<41) (hbs: ∀b∈bs,secB b) {T':Nat→Bool} {H':Nat→Option (List Nat)} {bl':List Nat} (hs:SetTo n T H 0 (P j) bs i T' H' err' bl'):
  (err'=0∧Mid n T' (ov H' V) (Fm.upd P j bl') (Fm.upd W j (firstW (W j) bs i))∧ChOk n H' (m+min i bs.length)∧ ∀k,k<42→H' k=H k)∨err'=8∧Stuck n W j bs:=by
 induction hs with
 | z=>exact .inl ⟨rfl,by rw [firstW_zero,Fm.upd_same,Fm.upd_same];exact h,hc.mono (by omega),fun _ _=>rfl⟩
 | @b i q b T1 T2 H1 H2 e1 e2 b1 b2 h1 hq hb hr ih=>
  rcases ih with ⟨rfl,hm,hk,hlow⟩|⟨rfl,hst⟩
  ·have hr':BlockR n T1 H1 0 ((Fm.upd P j b1) j) i q b T2 H2 e2 b2:=by rw [Fm.upd_at];exact hr
   have hq':((Fm.upd P j b1) j)[i]?=some q:=by rw [Fm.upd_at];exact hq
   have hlt:=(List.getElem?_eq_some_iff.1 hb).1
   have hck:=hr'.chok hk (fun h0=>(hm.lo j q (List.mem_of_getElem? hq') h0).2) (hbs b (List.mem_of_getElem? hb))
   rcases hr'.mid hm hj hq' with ⟨rfl,hm2⟩|⟨h8, -, -, -,h0,hfull⟩
   ·refine .inl ⟨rfl,?_,hck.mono (by omega),fun k hk=>(hr'.low (fun h0=>(hm.lo j q (List.mem_of_getElem? hq') h0).1) (Mid.free hm) k hk).trans (hlow k hk)⟩
    rw [Fm.upd_upd,Fm.upd_at,Fm.upd_upd, ←hb,firstW_succ] at hm2
    exact hm2
   ·exact .inr ⟨h8,i,T1,_,_,hlt,hm,by rw [hq',h0],hfull⟩
  ·exact .inr ⟨hr.bad (by decide),hst⟩
 | @e i q T1 T2 H1 H2 e1 b1 b2 h1 hq hb hr ih=>
  rcases ih with ⟨rfl,hm,hk,hlow⟩|⟨rfl,hst⟩
  ·have hr':EmptyR n T1 H1 ((Fm.upd P j b1) j) i q T2 H2 b2:=by rw [Fm.upd_at];exact hr
   have hq':((Fm.upd P j b1) j)[i]?=some q:=by rw [Fm.upd_at];exact hq
   have hm2:=hr'.mid hm hq'
   refine .inl ⟨rfl,?_,(hr'.chok hk).mono (by omega),fun k hk=>(hr'.low (fun h0=>(hm.lo j q (List.mem_of_getElem? hq') h0).1) k hk).trans (hlow k hk)⟩
   rw [Fm.upd_upd,Fm.upd_at,Fm.upd_upd, ←List.getElem?_eq_none hb,firstW_succ] at hm2
   exact hm2
  ·exact .inr ⟨rfl,hst⟩
theorem SetTo.len {T':Nat→Bool} {H':Nat→Option (List Nat)} {bl':List Nat} (hs:SetTo n T H err bl bs i T' H' err' bl'):bl'.length=bl.length:=by
 induction hs with
 | z=>rfl
 | b _ _ _ hr ih=>exact hr.len.trans ih
 | e _ _ _ hr ih=>exact hr.len.trans ih
theorem EmptyTo.mid {m:Nat} (h:Mid n T (ov H V) P W) (hc:ChOk n H m) {T':Nat→Bool} {H':Nat→Option (List Nat)} {bl':List Nat} (hs:EmptyTo n T H (P j) i T' H' bl'):
  Mid n T' (ov H' V) (Fm.upd P j bl') (Fm.upd W j (firstW (W j) [] i))∧ChOk n H' m∧ ∀k,k<42→H' k=H k:=by
 induction hs with
 | z=>exact ⟨by rw [firstW_zero,Fm.upd_same,Fm.upd_same];exact h,hc,fun _ _=>rfl⟩
 | @s i q T1 T2 H1 H2 b1 b2 h1 hq hr ih=>
  have hr':EmptyR n T1 H1 ((Fm.upd P j b1) j) i q T2 H2 b2:=by rw [Fm.upd_at];exact hr
  have hq':((Fm.upd P j b1) j)[i]?=some q:=by rw [Fm.upd_at];exact hq
  have hm2:=hr'.mid ih.1 hq'
  refine ⟨?_,hr'.chok ih.2.1,fun k hk=>(hr'.low (fun h0=>(ih.1.lo j q (List.mem_of_getElem? hq') h0).1) k hk).trans (ih.2.2 k hk)⟩
  rw [Fm.upd_upd,Fm.upd_at,Fm.upd_upd,show (none:Option (List Nat))=([]:List (List Nat))[i]? from rfl,firstW_succ] at hm2
  exact hm2
theorem EmptyTo.len {T':Nat→Bool} {H':Nat→Option (List Nat)} {bl':List Nat} (hs:EmptyTo n T H bl i T' H' bl'):bl'.length=bl.length:=by
 induction hs with
 | z=>rfl
 | s _ _ hr ih=>exact hr.len.trans ih
end
section
variable {n:Nat} {T:Nat→Bool} {H:Nat→Option (List Nat)} {V:Nat→List Nat} {M:Sm}
theorem ov_at {k:Nat} {b:List Nat} (h:H k=some b):ov H V k=b:=by
 unfold ov
 rw [h]
 rfl
theorem ov_no {k:Nat} (h:H k=none):ov H V k=V k:=by
 unfold ov
 rw [h]
 rfl
theorem Rep.turn (h:Rep n V M) {N':Nat→Nd} {P':Nat→List Nat} (hmid:Mid n T (ov H V) P' fun j k=>(N' j).blk k) (hnd: ∀j,NdOk (N' j)) (h0:H 0=none)
  (hin: ∀j,1≤j→j<41→H (1+j)=some (Sm.ino ⟨N',P',M.rcd⟩ j).sec∨H (1+j)=none∧N' j=M.N j∧P' j=M.P j):
  Rep n (ov (putH H 1 (mapSec T)) V) ⟨N',P',M.rcd⟩:=by
 have hT:T=takenP P':=funext hmid.T
 refine ⟨?_,?_,fun j h1 h2=> ?_,?_,hnd,h.n1,h.n2⟩
 ·rw [ov_put,Fm.upd_ne _ _ (by decide),ov_no h0]
  exact h.rcd
 ·rw [ov_put,Fm.upd_at,hT]
 ·rw [ov_put,Fm.upd_ne _ _ (by omega)]
  rcases hin j h1 h2 with e|⟨e1,e2,e3⟩
  ·exact ov_at e
  ·rw [ov_no e1,h.ino j h1 h2]
   show (Sm.ino M j).sec=(Sm.ino ⟨N',P',M.rcd⟩ j).sec
   unfold Sm.ino
   simp only [e2,e3]
 ·have:=hmid.view (V':=ov (putH H 1 (mapSec T)) V) fun p hp _=>by rw [ov_put,Fm.upd_ne _ _ (by omega)]
  rw [hT] at this
  rw [hT]
  exact this
end
section
variable {l:Lg} {d:Dsk} {H:Nat→Option (List Nat)} {m:Nat}
def putsOf (l:Lg) (d:Dsk) (H:Nat→Option (List Nat)):List Pt:=listB H (({l with H:=H}:Lg).keys d)
theorem putsOf_mem {q:Pt} (h:q∈putsOf l d H): ∃(k:Nat) (b:List Nat),q=((k:Int),b)∧H k=some b∧k<l.homes d:=by
 unfold putsOf listB at h
 obtain ⟨k,hk,rfl⟩:=List.mem_map.1 h
 obtain ⟨h1,b,hb⟩:=mem_keys hk
 have hb:H k=some b:=hb
 exact ⟨k,b,by rw [hb];rfl,hb,h1⟩
theorem nodup_sub: ∀(l K:List Nat),l.Nodup→(∀x∈l,x∈K)→l.length≤K.length
 | [],_,_,_=>Nat.zero_le _
 | x::r,K,hd,hs=>by
  obtain ⟨h1,h2⟩:=List.nodup_cons.1 hd
  have hx:=hs x List.mem_cons_self
  have ih:=nodup_sub r (K.erase x) h2 fun y hy=>(List.mem_erase_of_ne (fun (e:y=x)=>h1 (by rw [←e];exact hy))).2 (hs y (List.mem_cons_of_mem _ hy))
  have hl:=List.length_erase_of_mem hx
  have hp:=List.length_pos_of_mem hx
  rw [List.length_cons]
  omega
theorem keys_nodup (l:Lg) (d:Dsk):(l.keys d).Nodup:=by
 unfold Lg.keys
 exact List.Pairwise.filter _ List.nodup_range
theorem putsOf_len (hc:ChOk (l.homes d) H m):(putsOf l d H).length≤m:=by
 obtain ⟨K,h1,h2⟩:=hc.few
 unfold putsOf listB
 rw [List.length_map]
 refine Nat.le_trans ?_ h1
 have hs: ∀x∈({l with H:=H}:Lg).keys d,x∈K:=fun x hx=>by
  obtain ⟨-,b,hb⟩:=mem_keys hx
  exact h2 x b hb
 exact nodup_sub _ _ (keys_nodup _ d) hs
theorem putsOf_trans (hc:ChOk (l.homes d) H m) (hm:m≤24) {k:Nat} {b:List Nat} (hk:H k=some b):transB (putsOf l d H) (l.homes d)=true:=by
 refine (transB_iff _ _).2 ⟨?_,Nat.le_trans (putsOf_len hc) hm,fun q hq=> ?_,?_⟩
 ·have hmem:k∈({l with H:=H}:Lg).keys d:=List.mem_filter.2 ⟨List.mem_range.2 (hc.ok k b hk).1,by show (H k).isSome=true;rw [hk];rfl⟩
  unfold putsOf listB
  rw [List.length_map]
  exact List.length_pos_iff.2 (List.ne_nil_of_mem hmem)
 ·obtain ⟨j,c,rfl,hj,hjl⟩:=putsOf_mem hq
  exact ⟨Int.natCast_nonneg j,Int.ofNat_lt.2 hjl,(hc.ok j c hj).2.1⟩
 ·unfold putsOf listB
  rw [List.map_map]
  have:((fun (x:Pt)=>x.1) ∘ fun (k:Nat)=>((k:Int),(H k).getD []))=fun (k:Nat)=>(k:Int):=rfl
  rw [this]
  exact List.pairwise_map.2 ((keys_nodup _ d).imp fun h e=>h (Int.ofNat.inj e))
theorem putsOf_bytes (hc:ChOk (l.homes d) H m): ∀q∈putsOf l d H, ∀x∈q.2,x<256:=fun q hq=>by
 obtain ⟨j,c,rfl,hj, -⟩:=putsOf_mem hq
 exact (hc.ok j c hj).2.2
theorem putsOf_cut (hc:ChOk (l.homes d) H m) (hm:m≤16):cutN (recB (putsOf l d H))≤20:=by
 have h1:=putsOf_len hc
 have h2:=recB_len (ps:=putsOf l d H) fun q hq=>by
  obtain ⟨j,c,rfl,hj, -⟩:=putsOf_mem hq
  exact (hc.ok j c hj).2.1
 unfold cutN
 omega
theorem takeH_list (H:Nat→Option (List Nat)) (k:Nat): ∀(ks:List Nat) (G:Nat→Option (List Nat)),takeH G (listB H ks) k=if k∈ks then some ((H k).getD []) else G k
 | [],G=>rfl
 | j::ks,G=>by
  show takeH (fun i:Nat=>if (i:Int)=(j:Int) then some ((H j).getD []) else G i) (listB H ks) k=_
  rw [takeH_list H k ks]
  by_cases h1:k∈ks
  ·rw [if_pos h1,if_pos (List.mem_cons_of_mem _ h1)]
  ·rw [if_neg h1]
   by_cases h2:k=j
   ·have h3:k∈j::ks:=by rw [h2];exact List.mem_cons_self
    rw [if_pos h3]
    show (if (k:Int)=(j:Int) then some ((H j).getD []) else G k)=_
    rw [if_pos (by rw [h2]),h2]
   ·have h3:¬ k∈j::ks:=fun e=>by rcases List.mem_cons.1 e with e|e<;>contradiction
    rw [if_neg h3]
    show (if (k:Int)=(j:Int) then some ((H j).getD []) else G k)=_
    have h4:¬ ((k:Int)=(j:Int)):=fun e=>h2 (by omega)
    rw [if_neg h4]
theorem putsOf_over (hc:ChOk (l.homes d) H m):overB (homesB l d) (putsOf l d H)=(List.range (l.homes d)).map (ov H (l.home d)):=by
 have h1:=over_take (l.homes d) (l.home d) (putsOf l d H) (fun _=>none) fun q hq=>by
  obtain ⟨j,c,rfl,hj,hjl⟩:=putsOf_mem hq
  exact ⟨Int.natCast_nonneg j,Int.ofNat_lt.2 hjl⟩
 have h2:homesB l d=(List.range (l.homes d)).map fun k=>((fun _=>none:Nat→Option (List Nat)) k).getD (l.home d k):=rfl
 rw [h2,h1]
 refine List.map_congr_left fun k hk=> ?_
 have hkl:=List.mem_range.1 hk
 unfold putsOf
 rw [takeH_list H k]
 unfold ov
 by_cases h:k∈({l with H:=H}:Lg).keys d
 ·rw [if_pos h]
  obtain ⟨-,b,hb⟩:=mem_keys h
  have hb:H k=some b:=hb
  rw [hb]
  rfl
 ·rw [if_neg h]
  cases hH:H k with
  | none=>rfl
  | some b=>exact absurd (List.mem_filter.2 ⟨List.mem_range.2 hkl,by show (H k).isSome=true;rw [hH];rfl⟩) h
end
theorem modB {w w':World} (h:Below w.heap.size w w'):Mod (fun _=>False) w w':=⟨h.os,h.tape,h.output,h.size,fun x hx _=>h.block x hx⟩
section
variable {w w':World} {F FD G:Nat→Prop} {s g p:Nat} {l:Lg} {d:Dsk} {M:Sm} {c n:Nat} {T:Nat→Bool} {H:Nat→Option (List Nat)} {err:Nat}
theorem BkO.mod {B:Nat} {S:Nat→Prop} {v:Value} {hs:List (List Nat)} (h:BkO B w v hs) (hm:Mod S w w') (hS: ∀b,S b→b<B):BkO B w' v hs:=by
 obtain ⟨xs,h1,h2,h3⟩:=h
 refine ⟨xs,h1,h2.kept hm.size fun r hr=>hm.block r (h2.lt hr) fun e=>by have:=hS r e;have:=h2.lo r hr;omega,fun x hx=>⟨(h3 x hx).1.mod hm fun r hr e=>by have:=hS r e;have:=((h3 x hx).2 r hr).1;omega,fun r hr=>⟨((h3 x hx).2 r hr).1,Nat.lt_of_lt_of_le ((h3 x hx).2 r hr).2.1 hm.size,((h3 x hx).2 r hr).2.2⟩⟩⟩
theorem BkO.getO {B:Nat} {v:Value} {hs:List (List Nat)} (h:BkO B w v hs) {i:Nat} {b:List Nat} (hi:hs[i]?=some b): ∃p o cap x,v= .slice (some ⟨p,o,none⟩) hs.length cap∧w.cell? ⟨p,o+i,none⟩=some (sv x)∧LRd en8 1 0 w (sv x) b∧ ∀r,(sv x).ownBlock=some r→B≤r:=by
 obtain ⟨xs,rfl,h2,h3⟩:=h
 rw [List.getElem?_map] at hi
 obtain ⟨x,hx,rfl⟩:=Option.map_eq_some_iff.1 hi
 obtain ⟨ao,cap,rfl, -, -,h4⟩:=h2.sl elBk.len
 have hlt:=(List.getElem?_eq_some_iff.1 hx).1
 obtain ⟨p,o,rfl, -,hc⟩:=h4 (by omega)
 have:=hc i x hx 0 (by simp [enBk])
 simp only [Nat.mul_one,Nat.add_zero] at this
 have hm:=h3 x (List.mem_of_getElem? hx)
 exact ⟨p,o,cap,x.2,by rw [List.length_map],this,⟨hm.1,fun r hr=>Nat.zero_le _,fun r hr=>(hm.2 r hr).2.1⟩,fun r hr=>(hm.2 r hr).1⟩
theorem SetTo.lt {i:Nat} {bl bl':List Nat} {bs:List (List Nat)} {err':Nat} {T':Nat→Bool} {H':Nat→Option (List Nat)} (hs:SetTo n T H err bl bs i T' H' err' bl') (hl: ∀p∈bl,p<4096) (hn:n≤4096): ∀p∈bl',p<4096:=by
 induction hs with
 | z=>exact hl
 | b _ _ _ hr ih=>
  intro p hp
  cases hr with
  | old=>exact ih p hp
  | new h0 h1=>
   rcases List.mem_or_eq_of_mem_set hp with h|h
   ·exact ih p h
   ·omega
  | no=>exact ih p hp
 | e _ _ _ hr ih=>
  intro p hp
  cases hr with
  | no=>exact ih p hp
  | yes=>
   rcases List.mem_or_eq_of_mem_set hp with h|h
   ·exact ih p h
   ·omega
theorem failE_0 (err:Nat):failE err 0=err:=by
 unfold failE
 split
 ·rename_i h
  exact h.symm
 ·rfl
set_option maxRecDepth 20000 in
set_option maxHeartbeats 8000000 in
theorem fsetentries_any (h:SAt w F FD s g p l d M) (hC:ChAt w G c s n T H err) (hdF: ∀b,F b→¬ G b) (hdD: ∀b,FD b→¬ G b) (hs:¬ G s) (hn:n≤4096) {f:Int×Int} (hj:(M.of f 1).2=0) (hver:(M.N (M.of f 1).1).ver<1099511627775) {v:Value} {L:List Ent} (hL:LSl enEn 4 w v L) (hLG: ∀r,v.ownBlock=some r→¬ G r) (hLo: ∀e∈L,Ent.ok e) (hLr:Dr.Rise L) (hL24:L.length≤24):
  Calls Tryz.prog 77 #[.pointer (some ⟨c,0,none⟩), .agg #[.int .i64 f.1, .int .i64 f.2],v] w
  fun e w'=>e= .returned (.tuple #[])∧ ∃G' T' H' err' bl',SetTo n T H err (M.P (M.of f 1).1) (dirB L) 8 T' H' err' bl'∧ChAt w' G' c s n T' (putH H' (1+(M.of f 1).1) (Ino.sec ⟨1,(M.N (M.of f 1).1).gen,(M.N (M.of f 1).1).ver+1,bl'⟩)) err'∧Mod G w w'∧ ∀b,G' b→G b∨w.heap.size≤b:=by
 obtain ⟨av,nv,cv,hvv⟩: ∃a n c,v= .slice a n c:=by
  obtain ⟨ao,cap,rfl, -⟩:=hL
  exact ⟨_,_,_,rfl⟩
 subst hvv
 obtain ⟨w1,hw1⟩: ∃w1,w.alloc (.cells #[.int .i64 f.1, .int .i64 f.2] 33)=w1:=⟨_,rfl⟩
 have hb1:Below w.heap.size w w1:=by rw [←hw1];exact (Below.refl _ _).alloc (Nat.le_refl _) _
 have hX1:w1.heap[w.heap.size]?=some (.cells #[.int .i64 f.1, .int .i64 f.2] 33 (0,0)):=by rw [←hw1];exact heap_alloc_at
 have hz1:w1.heap.size=w.heap.size+1:=by rw [←hw1];simp
 have h1:=h.below hb1
 have hC1:=hC.below hb1
 have hLF:Lies w1 w.heap.size 0 #[.int .i64 f.1, .int .i64 f.2]:=lies_of hX1
 have hagf:=aggFl f.1 f.2
 obtain ⟨m,mm,clk,ML,hc1⟩:=hC1.inn
 have p0:w1.drew.cell? ⟨c,0,none⟩=some (.pointer (some ⟨s,0,none⟩)):=cell_of (w:=w1) (o:=0) hc1.blk rfl
 obtain ⟨hjt,hk1⟩:=of_0 hj
 obtain ⟨j,hje⟩: ∃j,(M.of f 1).1=j:=⟨_,rfl⟩
 rw [hje] at hver hjt hk1 ⊢
 have hx8:(M.ino j).bl.length=8:=h.rep.mid.len j
 have hen:=fun (w':World) (hb:Below w1.heap.size w1 w')=>fentries_any (h1.below hb) f
 have hag:=aggI hx8
 have hone:=inoC_one (M.ino j)
 have hsz11:(inoC (M.ino j)).size=11:=inoC_size hx8
 have hbk:=fun (w':World) (hb:LSl enEn 4 w' (.slice av nv cv) L)=>eblocks_any w' (.slice av nv cv) L hb hLo hLr hL24
 have hdl:(dirB L).length≤5:=by rw [dirB_len];omega
 have hPl: ∀q∈M.P j,q<4096:=fun q hq=>by
  by_cases h0:q=0
  ·omega
  ·have:=(h.rep.mid.lo j q hq h0).2
   have:=h.rep.n2
   omega
 have hgen:(M.N j).gen<2147483648:=by have:=(h.rep.nd j).gen;omega
 have HJ:=Lib.hid hj
 have HJE:=Lib.hid hje
 have HJT:=Lib.hid hjt
 have HK1:=Lib.hid hk1
 have HB1:=Lib.hid hb1
 have HX1:=Lib.hid hX1
 have HZ1:=Lib.hid hz1
 have HH:=Lib.hid h
 have HC:=Lib.hid hC
 have HC1:=Lib.hid hC1
 have HL:=Lib.hid hL
 have HLG:=Lib.hid hLG
 have HBK:=Lib.hid hbk
 have HEN:=Lib.hid hen
 have HPL:=Lib.hid hPl
 have HDL:=Lib.hid hdl
 have HDF:=Lib.hid hdF
 have HDD:=Lib.hid hdD
 have HNS:=Lib.hid hs
 clear h hC hb1 hX1 hz1 h1 hC1 hc1 hj hje hjt hk1 hL hLG hbk hen hPl hdl hLo hLr hdF hdD hs
 go_enter Tryz.func77,Tryz.ntmps77
 go_upto_region 1 with fail
 simp only [hw1] at*
 clear hw1
 go_cut [7,8] (fun u e wx=> ∃xb,u= .pointer (some ⟨xb,0,none⟩)∧e= .int .i64 0∧wx.heap[xb]?=some (.cells (inoC (M.ino j)) 52 (0,0))∧w1.heap.size≤xb∧Below w1.heap.size w1 wx)
 case first=>
  have hfr: ∀w':World,Below w1.heap.size w1 w'→w'.cell? ⟨c,0,none⟩=some (.pointer (some ⟨s,0,none⟩))∧Lies w' w.heap.size 0 #[.int .i64 f.1, .int .i64 f.2]:=fun w' hb=>by
   obtain ⟨m,mm,L,clk,hc⟩:=(HC1.out.below hb).inn
   exact ⟨cell_of (o:=0) hc.blk rfl,lies_of ((hb.block _ (lt_of_block HX1.out)).trans HX1.out)⟩
  have hS:w1.drew.cell? ⟨c,0,none⟩=some (.pointer (some ⟨s,0,none⟩))∧Lies w1.drew w.heap.size 0 #[.int .i64 f.1, .int .i64 f.2]:=⟨p0,hLF⟩
  have hne: ∀e w',EntR M w1.heap.size f e w'→ ∃a n c,e= .returned (.tuple #[.slice a n c, .agg (inoC (M.ino j)), .int .i64 0]):=fun e w' hE=>by
   rcases hE with ⟨-,v,rfl,hO⟩|⟨h0, -⟩
   ·obtain ⟨a,n,c,rfl⟩:=hO.shape
    rw [HJE.out]
    exact ⟨_,_,_,rfl⟩
   ·exact absurd HJ.out h0
  have hne': ∀B e w',EntR M B f e w'→ ∃a n c,e= .returned (.tuple #[.slice a n c, .agg (inoC (M.ino j)), .int .i64 0]):=fun B e w' hE=>by
   rcases hE with ⟨-,v,rfl,hO⟩|⟨h0, -⟩
   ·obtain ⟨a,n,c,rfl⟩:=hO.shape
    rw [HJE.out]
    exact ⟨_,_,_,rfl⟩
   ·exact absurd HJ.out h0
  have HNE:=Lib.hid hne'
  clear hne hne'
  refine wp_region_t (fun w'=>w'.cell? ⟨c,0,none⟩=some (.pointer (some ⟨s,0,none⟩))∧Lies w' w.heap.size 0 #[.int .i64 f.1, .int .i64 f.2]) [(0,1),(1,1),(2,1),(3,0),(4,0),(5,2),(6,1),(7,1),(8,1),(9,1),(10,2),(11,1),(12,3),(13,1)]
   (.one 0 1 (.one 1 1 (.one 2 1 (.one 3 0 (.one 4 0 (.two 5 10 (.one 6 1 (.one 7 1 (.one 8 1 (.one 9 1 (.one 10 2 (.one 11 1 (.one 12 3 (.one 13 1 .nil)))))))) (.one 5 2 (.one 6 1 (.one 7 1 (.one 8 1 (.one 9 1 (.one 11 1 (.one 12 3 (.one 13 1 .nil)))))))))))))) (by kernel_rfl) (by kernel_rfl) (by intro d v c a w h;cases d<;>exact h) ?_
  iterate 3 (refine t_take rfl (fun K hK=> ?_);go_simp;refine hK _ ?_;clear hK K)
  refine t_read rfl hS (fun w' h=>exec_load1 ⟨⟨_,Tryz.underlying29,rfl⟩⟩ rfl h.1) ?_
  refine t_read rfl hS (fun w' h=>exec_loadA hagf rfl h.2) ?_
  refine t_two rfl rfl (fun K hK=> ?_) (fun K hK=> ?_)
  ·go_simp
   refine (HEN.out w1.drew (Below.refl w1.heap.size w1).drew).mono ?_
   rintro e w2 ⟨hE,hb2⟩
   obtain ⟨a2,n2,c2,rfl⟩:=HNE.out _ _ _ hE
   have hb12:Below w1.heap.size w1 w2:=(Below.refl w1.heap.size w1).drew.trans hb2
   have hS2:=hfr w2 hb12
   refine hK _ _ hS2 ?_
   clear hK K hE
   iterate 4 (refine t_take rfl (fun K hK=> ?_);go_simp;refine hK _ ?_;clear hK K)
   refine t_show' rfl (fun K hK=> ?_)
   go_simp
   have hb3:Below w1.heap.size w1 (w2.alloc (.cells (inoC (Ino.free 0)) 52)):=hb12.alloc hb12.size _
   have hX3:(w2.alloc (.cells (inoC (Ino.free 0)) 52)).heap[w2.heap.size]?=some (.cells (inoC (Ino.free 0)) 52 (0,0)):=heap_alloc_at
   rw [inoC_free] at hb3 hX3
   simp only [Int.natCast_zero] at hb3 hX3
   obtain ⟨xb,hxb⟩: ∃xb,w2.heap.size=xb:=⟨_,rfl⟩
   have hxl:w1.heap.size≤xb:=by rw [←hxb];exact hb12.size
   rw [hxb] at hX3 ⊢
   generalize w2.alloc _=w3 at*
   refine hK _ _ (hfr w3 hb3) ?_
   clear hK K
   iterate 1 (refine t_take rfl (fun K hK=> ?_);go_simp;refine hK _ ?_;clear hK K)
   obtain ⟨w9,hst,hh9,hm9⟩:=exec_storeB (ρ:=fun _=>undef) (ty:=0) (pos:= "") (after:= #[]) (x:= .tmp 0) (y:= .tmp 0) hag hX3 (by rw [hsz11];rfl) hone
   refine t_skip rfl (hst _ _ _ _ _ _ _ _ rfl rfl) ?_
   iterate 1 (refine t_take rfl (fun K hK=> ?_);go_simp;refine hK _ ?_;clear hK K)
   refine t_nil ?_
   have hb9:=hb3.trans (hm9.below hb3.size fun x hx e=>by omega)
   go_wp2
   go_meet
   case rel=>exact ⟨xb,rfl,rfl,hh9,hxl,hb9⟩
  ·go_simp
   have hb3:Below w1.heap.size w1 (w1.alloc (.cells (inoC (Ino.free 0)) 52)).drew:=((Below.refl w1.heap.size w1).alloc (Nat.le_refl _) _).drew
   have hX3:(w1.alloc (.cells (inoC (Ino.free 0)) 52)).drew.heap[w1.heap.size]?=some (.cells (inoC (Ino.free 0)) 52 (0,0)):=heap_alloc_at (w:=w1)
   rw [inoC_free] at hb3 hX3
   simp only [Int.natCast_zero] at hb3 hX3
   obtain ⟨xb,hxb⟩: ∃xb,w1.heap.size=xb:=⟨_,rfl⟩
   have hxl:w1.heap.size≤xb:=by rw [←hxb];exact Nat.le_refl _
   rw [hxb] at hX3 ⊢
   generalize (w1.alloc _).drew=w3 at*
   refine hK _ _ (hfr w3 hb3) ?_
   clear hK K
   refine t_show' rfl (fun K hK=> ?_)
   go_simp
   refine (HEN.out w3 hb3).mono ?_
   rintro e w4 ⟨hE,hb4⟩
   obtain ⟨a4,n4,c4,rfl⟩:=HNE.out _ _ _ hE
   have hb34:=hb3.trans (hb4.mono hb3.size)
   refine hK _ _ (hfr w4 hb34) ?_
   clear hK K hE
   iterate 5 (refine t_take rfl (fun K hK=> ?_);go_simp;refine hK _ ?_;clear hK K)
   have hX4:=(hb4.block _ (lt_of_block hX3)).trans hX3
   obtain ⟨w9,hst,hh9,hm9⟩:=exec_storeB (ρ:=fun _=>undef) (ty:=0) (pos:= "") (after:= #[]) (x:= .tmp 0) (y:= .tmp 0) hag hX4 (by rw [hsz11];rfl) hone
   refine t_skip rfl (hst _ _ _ _ _ _ _ _ rfl rfl) ?_
   iterate 1 (refine t_take rfl (fun K hK=> ?_);go_simp;refine hK _ ?_;clear hK K)
   refine t_nil ?_
   have hb9:=hb34.trans (hm9.below hb34.size fun x hx e=>by omega)
   go_wp2
   go_meet
   case rel=>exact ⟨xb,rfl,rfl,hh9,hxl,hb9⟩
 case rest=>
  obtain ⟨xb,rfl,rfl,hX2,hxl,hb2⟩:=hcut
  have hfl:=ffail_any (HC1.out.below hb2) 0
  rw [failE_0] at hfl
  simp only [Int.natCast_zero] at hfl
  have HX2:=Lib.hid hX2
  have HB2:=Lib.hid hb2
  have HXL:=Lib.hid hxl
  have HXG:Hid (¬ G xb):=Lib.hid fun e=>by have h1:=HC1.out.lt xb e;omega
  clear HEN hLF p0 hb2 hX2 hxl
  go_wp2_with fail
  refine hfl.mono ?_
  rintro e w3 ⟨rfl,hC3,hm3⟩
  have hX3:=hm3.heap HX2.out (fun e=>HXG.out (e ▸ HC1.out.gc))
  have hL3:LSl enEn 4 w3 (.slice av nv cv) L:=((HL.out.below (HB1.out.trans (HB2.out.mono HB1.out.size)))).mod hm3 fun r hr (e:r=c)=>HLG.out r hr (e ▸ HC.out.gc)
  have hbl:=HBK.out w3 hL3
  have HC3:=Lib.hid hC3
  have HM3:=Lib.hid hm3
  have HX3:=Lib.hid hX3
  clear hfl hC3 hm3 hX3 hL3 HL
  go_wp2_with fail
  refine hbl.mono ?_
  rintro e w4 ⟨v4,rfl,hO4,hb4⟩
  obtain ⟨a4,c4,rfl⟩:=hO4.shape
  have hfl:=ffail_any (HC3.out.below hb4) 0
  rw [failE_0] at hfl
  simp only [Int.natCast_zero] at hfl
  have HO4:=Lib.hid hO4
  have HX4:=Lib.hid ((hb4.block _ (lt_of_block HX3.out)).trans HX3.out)
  have HB4:=Lib.hid hb4
  clear hbl hO4 hb4
  go_wp2_with fail
  refine hfl.mono ?_
  rintro e w5 ⟨rfl,hC5,hm5⟩
  obtain ⟨m5,mm5,clk5,L5,hc5⟩:=hC5.inn
  have z3:=HB4.out.size
  have z5:=hm5.size
  have hglt: ∀b,G b→b<w3.heap.size:=HC3.out.lt
  have hxlt:xb<w3.heap.size:=lt_of_block HX3.out
  have hO5:=HO4.out.mod hm5 (fun b (e:b=c)=>by rw [e];exact hglt c HC.out.gc)
  have hX5:=hm5.heap HX4.out (fun e=>HXG.out (e ▸ HC.out.gc))
  have hm05:Mod G w w5:=by
   have hbw:=HB1.out.trans (HB2.out.mono HB1.out.size)
   have a1:Mod G w w3:=((Mod.of_below hbw).mono (T:=G) fun x hx hS=>absurd hx (Nat.not_lt.2 hS)).trans HM3.out (fun _ h=>h) fun x _ (e:x=c)=>e ▸ HC.out.gc
   exact (a1.trans (modB HB4.out) (fun _ h=>h) fun _ _ h=>h.elim).trans hm5 (fun _ h=>h) fun x _ (e:x=c)=>e ▸ HC.out.gc
  have hGb:¬ G w.heap.size:=fun e=>absurd (HC.out.lt _ e) (Nat.lt_irrefl _)
  have hF5:w5.heap[w.heap.size]?=some (.cells #[.int .i64 f.1, .int .i64 f.2] 33 (0,0)):=by
   have a2:=(HB2.out.block _ (lt_of_block HX1.out)).trans HX1.out
   have a3:=HM3.out.heap a2 (fun e=>hGb (e ▸ HC.out.gc))
   have a4:=(HB4.out.block _ (lt_of_block a3)).trans a3
   exact hm5.heap a4 (fun e=>hGb (e ▸ HC.out.gc))
  have HF5:=Lib.hid hF5
  have HGB:=Lib.hid hGb
  clear hF5 hGb
  have HC5:=Lib.hid hc5
  have HO5:=Lib.hid hO5
  have HX5:=Lib.hid hX5
  have HM5:=Lib.hid hm05
  have HGLT:=Lib.hid hglt
  clear hfl hC5 hm5 hc5 hO5 hX5 hm05 HO4 HX4 hglt
  obtain ⟨B,hB⟩: ∃B,w3.heap.size=B:=⟨_,rfl⟩
  rw [hB] at HO5 HGLT hxlt z3
  obtain ⟨D,hD⟩: ∃D,(dirB L).length=D:=⟨_,rfl⟩
  have HDD2:=Lib.hid hD
  have hD5:D≤5:=by rw [←hD];exact HDL.out
  rw [hD]
  clear hD hB
  go_wp2
  go_loopw [32] (fun iv wi=> ∃(i:Nat) (G1:Nat→Prop) (T1:Nat→Bool) (H1:Nat→Option (List Nat)) (e1:Nat) (b1:List Nat) (clk1:Nat) (L1:Ents Int),i≤8∧iv= .int .i64 i∧SetTo n T H err (M.P j) (dirB L) i T1 H1 e1 b1∧b1.length=8∧ChIn wi G1 c s n T1 H1 e1 m5 mm5 clk1 L1∧wi.heap[xb]?=some (.cells (inoC {M.ino j with bl:=b1}) 52 (0,0))∧Mod (fun y=>(y=c∨y=m5∨y=mm5)∨y=xb) w5 wi∧ ∀b,G1 b→G b∨B≤b) (fun iv _=>8-(intOf iv).toNat)
  case atStart=>exact ⟨0,G,T,H,err,M.P j,clk5,L5,by omega,rfl, .z,hx8,HC5.out,HX5.out,Mod.refl _ _,fun b hb=> .inl hb⟩
  case round=>
   obtain ⟨i,G1,T1,H1,e1,b1,clk1,L1,hi8,rfl,hE,hl,hCi,hXi,hmi,hGi⟩:=hrel
   have HE:=Lib.hid hE
   have HLL:=Lib.hid hl
   have HCI:=Lib.hid hCi
   have HXI:=Lib.hid hXi
   have HMI:=Lib.hid hmi
   have HGI:=Lib.hid hGi
   have hxG1:¬ G1 xb:=fun e=>(hGi xb e).elim HXG.out fun h=>absurd hxlt (Nat.not_lt.2 h)
   have HXG1:=Lib.hid hxG1
   clear hE hl hCi hXi hmi hGi hxG1
   by_cases hlt:i<8
   ·have hlt':(i:Int)<8:=by omega
    obtain ⟨q,hq⟩: ∃q,b1[i]?=some q:=⟨_,List.getElem?_eq_getElem (by rw [HLL.out];exact hlt)⟩
    have HQ:=Lib.hid hq
    by_cases hiD:i<D
    ·have hdi:decide (i<D)=true:=decide_eq_true hiD
     have hdi2:decide ((i:Int)<(D:Int))=true:=decide_eq_true (by omega)
     obtain ⟨b,hb⟩: ∃b,(dirB L)[i]?=some b:=⟨_,List.getElem?_eq_getElem (by rw [HDD2.out];exact hiD)⟩
     have hOi:=HO5.out.mod HMI.out (fun y hy=>by
      rcases hy with (e|e|e)|e
      ·rw [e];exact HGLT.out c HC.out.gc
      ·rw [e];exact HGLT.out m5 HC5.out.gm
      ·rw [e];exact HGLT.out mm5 HC5.out.hom.fm
      ·rw [e];exact hxlt)
     obtain ⟨bp,bo,bcap,bx,hbv,hbc,hbr,hblo⟩:=hOi.getO hb
     rw [HDD2.out] at hbv
     obtain ⟨rfl,rfl⟩:a4=some ⟨bp,bo,none⟩∧c4=bcap:=by
      simp only [Value.slice.injEq] at hbv
      exact ⟨hbv.1,hbv.2.2⟩
     have hfb:=fblock_any HCI.out HXI.out HXG1.out hlt hq (HE.out.lt HPL.out hn q (List.mem_of_getElem? hq)) hbr (fun r hr=>⟨⟨fun e=>by have:=hblo r hr;have:=HGLT.out c HC.out.gc;omega,fun e=>by have:=hblo r hr;have:=HGLT.out m5 HC5.out.gm;omega,fun e=>by have:=hblo r hr;have:=HGLT.out mm5 HC5.out.hom.fm;omega⟩,fun e=>by have:=hblo r hr;omega⟩)
     obtain ⟨bx1,bx2,bx3⟩:=bx
     simp only [sv] at hbc hfb hblo
     have HB:=Lib.hid hb
     have HBLO:=Lib.hid hblo
     clear hOi hbv hbr hb hblo hq
     go_wp2_with fail
     refine hfb.mono ?_
     rintro e w6 ⟨rfl,T2,H2,e2,b2,clk2,L2,hE2,hC6,hX6,hm6⟩
     have HE2:=Lib.hid hE2
     have HC6:=Lib.hid hC6
     have HX6:=Lib.hid hX6
     have HM6:=Lib.hid hm6
     clear hfb hE2 hC6 hX6 hm6 hbc
     go_wp2
     go_roundw
     case rel=>exact ⟨i+1,_,T2,H2,e2,b2,clk2,L2,by omega,by go_num, .b HE.out HQ.out HB.out HE2.out,HE2.out.len.trans HLL.out,HC6.out,HX6.out,HMI.out.trans HM6.out (fun _ h=>h) fun _ _ h=>h,fun b hb=>hb.elim (HGI.out b) fun h=> .inr (HBLO.out b h)⟩
     case measure=>simp only [intOf];omega
    ·have hdi:decide (i<D)=false:=decide_eq_false hiD
     have hdi2:decide ((i:Int)<(D:Int))=false:=decide_eq_false (by omega)
     have hem:=femptyI_any HCI.out HXI.out HXG1.out hlt hq
     clear hq
     go_wp2_with fail
     refine hem.mono ?_
     rintro e w6 ⟨rfl,T2,H2,b2,L2,hE2,hC6,hX6,hm6⟩
     have HE2:=Lib.hid hE2
     have HC6:=Lib.hid hC6
     have HX6:=Lib.hid hX6
     have HM6:=Lib.hid hm6
     clear hem hE2 hC6 hX6 hm6
     go_wp2
     go_roundw
     case rel=>exact ⟨i+1,_,T2,H2,e1,b2,clk1,L2,by omega,by go_num, .e HE.out HQ.out (by rw [HDD2.out];omega) HE2.out,HE2.out.len.trans HLL.out,HC6.out,HX6.out,HMI.out.trans HM6.out (fun _ h=>h) fun _ _ h=>h,HGI.out⟩
     case measure=>simp only [intOf];omega
   ·obtain rfl:i=8:=by omega
    obtain ⟨hj1,hj41,hfe, -⟩:=there_some HJT.out
    have hfits:(Ino.mk 1 (M.N j).gen ((M.N j).ver+1) b1).fits:=⟨by show 1<4;decide,hgen,by show (M.N j).ver+1<1099511627776;omega,HLL.out,fun q hq=>HE.out.lt HPL.out hn q hq⟩
    have hright:(Ino.mk 1 (M.N j).gen ((M.N j).ver+1) b1).right=true:=rfl
    have hXi:wr.heap[xb]?=some (.cells (inoC ⟨1,(M.N j).gen,(M.N j).ver,b1⟩) 52 (0,0)):=by
     have:=HXI.out
     unfold Sm.ino at this
     rw [HK1.out] at this
     exact this
    have q2:wr.cell? ⟨xb,2,none⟩=some (.int .u64 ((M.N j).ver:Nat)):=cell_of hXi rfl
    have f2:wr.frozen? ⟨xb,2,none⟩=false:=free_of hXi
    have hver63:((M.N j).ver:Int)<1099511627775:=by omega
    have HXI2:=Lib.hid hXi
    have HFE:=Lib.hid hfe
    have HFIT:=Lib.hid hfits
    have HRGT:=Lib.hid hright
    clear hXi hfe hfits hright
    go_upto_region 13 with fail
    have hXi:=HXI2.out
    have hX6:(wr.setCell ⟨xb,2,none⟩ (.int .u64 (((M.N j).ver:Int)+1))).heap[xb]?=some (.cells (inoC ⟨1,(M.N j).gen,(M.N j).ver+1,b1⟩) 52 (0,0)):=by
     rw [heap_setCell_at hXi]
     rfl
    have hm6:=(Mod.refl (fun y=>y=xb) wr).setCell ⟨xb,2,none⟩ (.int .u64 (((M.N j).ver:Int)+1)) (fun _=>rfl)
    have hw3:w.heap.size<B:=by have h1:=HB1.out.size;have h2:=HB2.out.size;have h3:=HZ1.out;have h4:=HXL.out;omega
    have hxbw:w.heap.size<xb:=by have h2:=HXL.out;have h3:=HZ1.out;omega
    have hxf:=hm6.heap (HMI.out.heap HF5.out (fun e=>by
     rcases e with (e|e|e)|e
     ·exact HGB.out (e ▸ HC.out.gc)
     ·exact HGB.out (e ▸ HC5.out.gm)
     ·exact HGB.out (e ▸ HC5.out.hom.fm)
     ·omega)) (fun e=>by have e:w.heap.size=xb:=e;omega)
    rw [HFE.out] at hxf
    have hC6:=(HCI.out.mod hm6 (fun b hb (e:b=xb)=>HXG1.out (e ▸ hb))).at_
    have hsi:=fsetinode_any hC6 j (by omega) _ HFIT.out HRGT.out
    have hag6:=aggI (x:=Ino.mk 1 (M.N j).gen ((M.N j).ver+1) b1) HLL.out
    have hL6:=lies_of hX6
    have HM6:=Lib.hid hm6
    generalize wr.setCell ⟨xb,2,none⟩ (.int .u64 (((M.N j).ver:Int)+1))=wq at*
    have qf:wq.cell? ⟨w.heap.size,0,none⟩=some (.int .i64 (j:Nat)):=cell_of hxf rfl
    clear hxf hXi hX6 hm6 hC6 HBK q2 f2
    go_wp2_with (first
     | ((with_reducible refine wpList_loadA hag6 hL6 ?_ ?_);rfl;go_frame)
     | fail)
    refine hsi.mono ?_
    rintro e w7 ⟨rfl,G7,hC7,hm7,hG7⟩
    have HC7:=Lib.hid hC7
    have HM7:=Lib.hid hm7
    have HG7:=Lib.hid hG7
    clear hsi hC7 hm7 hG7 hL6
    go_wp2
    go_end0
    have z6:=HM6.out.size
    have z7:=HMI.out.size
    have hmw:Mod G w wq:=(HM5.out.trans HMI.out (T:=G) (fun _ h=>h) fun x hx h=>by
     rcases h with (e|e|e)|e
     ·rw [e];exact HC.out.gc
     ·rw [e];exact HC5.out.gm
     ·rw [e];exact HC5.out.hom.fm
     ·omega).trans HM6.out (fun _ h=>h) fun x hx (e:x=xb)=>by omega
    refine ⟨rfl,G7,T1,H1,e1,b1,HE.out,HC7.out,hmw.trans HM7.out (fun _ h=>h) fun x hx h=>(HGI.out x h).resolve_right (by omega),fun b hb=> ?_⟩
    rcases HG7.out b hb with h|h
    ·exact (HGI.out b h).imp id fun h=>by omega
    ·exact .inr (Nat.le_trans hmw.size h)
end
end Go.Proofs.YtjdbbnhnbdocbaaGreat
