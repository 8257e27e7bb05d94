import Derived.Test.YtjdbbnhnbdocbaaGreatMgGon30
import Derived.Test.YtjdbbnhnbdocbaaGreatMgGon31
namespace Go.Tn.Dk
def stSync (l:Lg) (d:Dsk):Lg×Dsk×Nat:=((l.sync d).1,(l.sync d).2,(l.sync d).1.err)
def stPut (l:Lg) (d:Dsk) (ps:List Pt):Lg×Dsk×Nat:=
 if (l.write d ps).2.2=0 then stSync (l.write d ps).1 (l.write d ps).2.1 else
 if (l.write d ps).2.2≠8 then l.write d ps else
 if ((l.write d ps).1.check (l.write d ps).2.1).2.2≠0 then (l.write d ps).1.check (l.write d ps).2.1 else
 if ((((l.write d ps).1.check (l.write d ps).2.1).1).write (((l.write d ps).1.check (l.write d ps).2.1).2.1) ps).2.2=0 then
  stSync ((((l.write d ps).1.check (l.write d ps).2.1).1).write (((l.write d ps).1.check (l.write d ps).2.1).2.1) ps).1 ((((l.write d ps).1.check (l.write d ps).2.1).1).write (((l.write d ps).1.check (l.write d ps).2.1).2.1) ps).2.1
 else (((l.write d ps).1.check (l.write d ps).2.1).1).write (((l.write d ps).1.check (l.write d ps).2.1).2.1) ps
end Go.Tn.Dk
namespace Go.Proofs.YtjdbbnhnbdocbaaGreat
open Go.RowKit Go.Tn Go.Tn.Bt Go.Tn.Lp Go.Tn.Dk Go.Tn.Ino
section
variable {w w':World} {F FD:Nat→Prop} {s g p:Nat} {l:Lg} {d:Dsk}
def FPost (w:World) (F FD:Nat→Prop) (s g p:Nat) (r:Lg×Dsk×Nat) (e:Ending) (w':World):Prop:=e= .returned (.int .i64 (r.2.2:Nat))∧ ∃F' FD',Fs w' F' FD' s g p r.1 r.2.1∧Mod (fun b=>F b∨FD b) w w'∧(∀b,F' b→F b∨w.heap.size≤b)∧ ∀b,FD' b→FD b∨w.heap.size≤b
theorem GPost.fs {r:Lg×Dsk×Nat} {e:Ending} (h:Fs w F FD s g p l d) (hp:GPost w F FD g p r e w'):FPost w F FD s g p r e w':=by
 obtain ⟨h1,F',FD',h2,h3,h4,h5,h6,h7⟩:=hp
 exact ⟨h1,F',FD',h.turn h2 h3 h4 h5 h6 h7,h4,h5,h6⟩
theorem fs_write (h:Fs w F FD s g p l d) (hok:l.ok d) (v:Value) (ps:List Pt) (hpa:PtsA w (fun b=>F b∨FD b) v ps) (hby: ∀q∈ps, ∀x∈q.2,x<256) (hn:ps.length≤100000) (hQ:d.Q.length≤999990000):
  Calls Tryz.prog 152 #[.pointer (some ⟨g,0,none⟩),v] w fun e w'=>FPost w F FD s g p (l.write d ps) e w':=
 (gwrite_any h.log h.disk h.ap hok v ps hpa hby hn hQ).mono fun e w' hp=>hp.fs h
theorem fs_check (h:Fs w F FD s g p l d) (hok:l.ok d) (hQ:d.Q.length≤999980000):
  Calls Tryz.prog 153 #[.pointer (some ⟨g,0,none⟩)] w fun e w'=>FPost w F FD s g p (l.check d) e w':=
 (check_any h.log h.disk h.ap hok hQ).mono fun e w' hp=>hp.fs h
theorem fs_sync (h:Fs w F FD s g p l d):Calls Tryz.prog 154 #[.pointer (some ⟨g,0,none⟩)] w fun e w'=>FPost w F FD s g p (stSync l d) e w':=
 (sync_any h.log h.disk h.ap).mono fun e w' ⟨h1,h2,h3,h4⟩=>⟨h1,F,FD,h.turn h2 h3 h4 (fun b h=> .inl h) (fun b h=> .inl h) h.ap,h4,fun b h=> .inl h,fun b h=> .inl h⟩
theorem PtsA.fs {F' FD':Nat→Prop} {v:Value} {ps:List Pt} (h:PtB w (fun b=>F b∨FD b) v ps) (hm:Mod (fun b=>F b∨FD b) w w') (h1: ∀b,F' b→F b∨w.heap.size≤b) (h2: ∀b,FD' b→FD b∨w.heap.size≤b):PtB w' (fun b=>F' b∨FD' b) v ps:=
 h.mod hm fun b hb=>by
  rcases hb with hb|hb
  ·exact (h1 b hb).imp .inl id
  ·exact (h2 b hb).imp .inr id
theorem FPost.trans {r2:Lg×Dsk×Nat} {e2:Ending} {w1 w2:World} {F' FD':Nat→Prop} (hm:Mod (fun b=>F b∨FD b) w w1) (h1: ∀b,F' b→F b∨w.heap.size≤b) (h2: ∀b,FD' b→FD b∨w.heap.size≤b) (h:FPost w1 F' FD' s g p r2 e2 w2):FPost w F FD s g p r2 e2 w2:=by
 obtain ⟨k1,F2,FD2,k2,k3,k4,k5⟩:=h
 refine ⟨k1,F2,FD2,k2,hm.trans k3 (fun x hx=>hx) (fun x hx hs=> ?_),fun b hb=> ?_,fun b hb=> ?_⟩
 ·rcases hs with hs|hs
  ·rcases h1 x hs with h|h
   ·exact .inl h
   ·omega
  ·rcases h2 x hs with h|h
   ·exact .inr h
   ·omega
 ·rcases k4 b hb with h|h
  ·exact h1 b h
  ·exact .inr (Nat.le_trans hm.size h)
 ·rcases k5 b hb with h|h
  ·exact h2 b h
  ·exact .inr (Nat.le_trans hm.size h)
end
end Go.Proofs.YtjdbbnhnbdocbaaGreat
namespace Go.Proofs.YtjdbbnhnbdocbaaGreat
open Go.RowKit Go.Tn Go.Tn.Bt Go.Tn.Lp Go.Tn.Dk
theorem putPcs_ok {n:Nat} (hn:1≤n): ∀(ps:List Pc) (d:Dsk),d.ok→2+n≤d.L.length→(∀q∈ps,(∀x∈q.da,x<256)∧q.da.length≤106)→d.Q.length+ps.length<1000000000→(putPcs n ps d).1.ok
 | [],d,hd,_,_,_=>hd
 | q::r,d,hd,hL,hq,hQ=>by
  have hqq:=hq q (List.mem_cons_self ..)
  have hm:=Nat.mod_lt q.ct (show 0<n by omega)
  rw [List.length_cons] at hQ
  have h1:(d.write (2+q.ct %n) (sealB q)).ok:=hd.write (by omega) ⟨sealB_len _,sealB_lt _ hqq.1 hqq.2⟩ (by omega)
  have hq1:=kwrite_Q d (2+q.ct %n) (sealB q)
  rw [putPcs]
  split
  ·exact h1
  ·exact putPcs_ok hn r _ h1 (by rw [write_L];exact hL) (fun p hp=>hq p (List.mem_cons_of_mem _ hp)) (by omega)
theorem cutL_da {bs:List Nat} (h: ∀x∈bs,x<256) (ep ct:Nat): ∀q∈cutL ep ct bs,(∀x∈q.da,x<256)∧q.da.length≤106:=fun q hq=>by
 unfold cutL at hq
 obtain ⟨i, -,rfl⟩:=List.mem_map.1 hq
 exact ⟨pieceAt_lt h ep ct i,pieceAt_len ep ct bs i⟩
theorem write_dok {l:Lg} {d:Dsk} {ps:List Pt} (hf:l.fit d) (hd:d.ok) (hQ:d.Q.length≤999000000):(l.write d ps).2.1.ok:=by
 unfold Lg.write
 split
 ·exact hd
 ·cases ht:transB ps (l.homes d) with
  | false=>exact hd
  | true=>
   rw [if_neg (by simp)]
   have hn:=recN ht
   have hn2:=hf.n2
   have hnd:=hf.nd
   unfold cutB
   split
   ·exact hd
   ·rename_i x pcs hc
    obtain rfl:cutL l.epoch l.next (recB ps)=pcs:=by
     split at hc
     ·cases hc
     ·split at hc
      ·cases hc
      ·cases hc
       rfl
    split
    ·exact hd
    ·have hp:=putPcs_ok (n:=l.n) (by omega) (cutL l.epoch l.next (recB ps)) d hd (by omega) (cutL_da (pack_lt _) _ _) (by rw [cutL_len];omega)
     split
     ·exact hp
     ·exact hp
theorem sync_dok {l:Lg} {d:Dsk} (hd:d.ok):(l.sync d).2.ok:=by
 unfold Lg.sync
 split
 ·exact hd
 ·exact hd.flush
theorem bringGo_ok {l:Lg}: ∀(ks:List Nat) (d:Dsk),d.ok→(∀k∈ks,2+l.n+k<d.L.length∧secB ((l.H k).getD []))→d.Q.length+ks.length<1000000000→(bringGo l ks d).1.ok
 | [],d,hd,_,_=>hd.flush
 | k::ks,d,hd,hk,hQ=>by
  have hkk:=hk k (List.mem_cons_self ..)
  rw [List.length_cons] at hQ
  have h1:(d.write (2+l.n+k) ((l.H k).getD [])).ok:=hd.write hkk.1 hkk.2 (by omega)
  have hq1:=kwrite_Q d (2+l.n+k) ((l.H k).getD [])
  rw [bringGo]
  split
  ·exact h1
  ·exact bringGo_ok ks _ h1 (fun j hj=>by rw [write_L];exact hk j (List.mem_cons_of_mem _ hj)) (by omega)
theorem save_ok {d:Dsk} (hd:d.ok) {a ep:Nat} {x:Hd} (ha:a+1<d.L.length) (hQ:d.Q.length≤999000000):(d.save a ep x).1.ok:=by
 unfold Dsk.save
 split
 ·exact hd.step
 ·have hm:=Nat.mod_lt x.gen (show 0<2 by decide)
  exact (hd.write (by omega) (headPc_sec _ _) (by omega)).flush
theorem check_dok {l:Lg} {d:Dsk} (hf:l.fit d) (hd:d.ok) (hQ:d.Q.length≤998000000):(l.check d).2.1.ok:=by
 have hsf:=sync_fit hf
 have hsd:=sync_dok (l:=l) hd
 obtain ⟨s1,s2⟩:=lsync_Q (l:=l) (d:=d)
 unfold Lg.check
 generalize (l.sync d).2=d1 at*
 have hn:(l.sync d).1.n=l.n:=by
  unfold Lg.sync
  split<;>rfl
 have hH:(l.sync d).1.H=l.H:=by
  unfold Lg.sync
  split<;>rfl
 have hh4:=hsd.hi
 have hnd:=hf.nd
 have hb:(l.bring d1).1.ok:=by
  refine bringGo_ok _ _ hsd (fun k hk=> ?_) ?_
  ·obtain ⟨h1,b,h2⟩:=mem_keys hk
   unfold Lg.homes at h1
   rw [h2]
   refine ⟨by omega,?_⟩
   have:=hsf.H k b (by rw [hH];exact h2)
   exact this.2
  ·have h1:=List.length_filter_le (fun k=>(l.H k).isSome) (List.range (l.homes d1))
   rw [List.length_range] at h1
   unfold Lg.keys
   unfold Lg.homes at h1
   unfold Lg.homes
   omega
 have hbL:(l.bring d1).1.L.length=d1.L.length:=kbringGo_L l _ d1
 have hbQ:(l.bring d1).1.Q.length≤d1.Q.length+(l.keys d1).length:=kbringGo_Q l _ d1
 have hk:(l.keys d1).length≤4096:=by
  unfold Lg.keys Lg.homes
  have h1:=List.length_filter_le (fun k=>(l.H k).isSome) (List.range (d1.L.length-2-l.n))
  rw [List.length_range] at h1
  omega
 split
 ·exact hsd
 ·split
  ·exact hsd
  ·split
   ·exact hb
   ·have hs:=save_ok hb (a:=0) (ep:=l.epoch) (x:=⟨l.gen+1,l.next,l.epoch⟩) (by omega) (by omega)
    split
    ·exact hs
    ·exact hs
theorem dead_or (d:Dsk):d.dead=0∨d.dead=7:=by
 unfold Dsk.dead
 split
 ·exact .inr rfl
 ·exact .inl rfl
theorem putPcs_code (n:Nat): ∀(ps:List Pc) (d:Dsk),(putPcs n ps d).2=0∨(putPcs n ps d).2=7
 | [],d=> .inl rfl
 | q::r,d=>by
  rw [putPcs]
  split
  ·exact dead_or d
  ·exact putPcs_code n r _
theorem write_homes {l:Lg} {d:Dsk} {ps:List Pt} (hon:d.off=false) (herr:l.err=0) (hn2:2≤l.n) (ht:transB ps (l.homes d)=true) (hc:cutB l.epoch l.next (recB ps)= .ok (cutL l.epoch l.next (recB ps))) (h0:(l.write d ps).2.2=0):homesB (l.write d ps).1 (l.write d ps).2.1=overB (homesB l d) ps:=by
 by_cases hf:l.free<(cutL l.epoch l.next (recB ps)).length
 ·rw [write_full herr ht hc hf] at h0
  cases h0
 ·have hpl:=putPcs_live l.n (cutL l.epoch l.next (recB ps)) d hon
  have hw:l.write d ps=if (putPcs l.n (cutL l.epoch l.next (recB ps)) d).2≠0 then ({l with err:=(putPcs l.n (cutL l.epoch l.next (recB ps)) d).2},(putPcs l.n (cutL l.epoch l.next (recB ps)) d).1,(putPcs l.n (cutL l.epoch l.next (recB ps)) d).2)
    else ({l with next:=l.next+(cutL l.epoch l.next (recB ps)).length,H:=takeH l.H ps},(putPcs l.n (cutL l.epoch l.next (recB ps)) d).1,0):=by
   unfold Lg.write
   rw [if_neg (by omega),if_neg (by rw [ht];decide),hc]
   simp only
   rw [if_neg hf]
  rw [hw] at h0 ⊢
  generalize putPcs l.n (cutL l.epoch l.next (recB ps)) d=r at*
  obtain ⟨d',c⟩:=r
  simp only at hpl
  rcases hpl with ⟨rfl,p2,p3,p4⟩|⟨rfl,p2,p3,m,p4⟩
  ·rw [if_neg (by simp)]
   exact homesB_write hn2 rfl rfl p3 p4 ht
  ·rw [if_pos (by simp)] at h0
   cases h0
theorem write_codes {l:Lg} {d:Dsk} {ps:List Pt} (herr:l.err=0) (ht:transB ps (l.homes d)=true) (hc:cutB l.epoch l.next (recB ps)= .ok (cutL l.epoch l.next (recB ps))) (h0:(l.write d ps).2.2≠0) (h7:(l.write d ps).2.2≠7):(l.write d ps).2.2=8∧l.free<cutN (recB ps):=by
 by_cases hf:l.free<(cutL l.epoch l.next (recB ps)).length
 ·rw [write_full herr ht hc hf]
  rw [cutL_len] at hf
  exact ⟨rfl,hf⟩
 ·exfalso
  have hw:(l.write d ps).2.2=(putPcs l.n (cutL l.epoch l.next (recB ps)) d).2:=by
   unfold Lg.write
   rw [if_neg (by omega),if_neg (by rw [ht];decide),hc]
   simp only
   rw [if_neg hf]
   split
   ·rfl
   ·rename_i h
    simp only [ne_eq,Decidable.not_not] at h
    exact h.symm
  rcases putPcs_code l.n (cutL l.epoch l.next (recB ps)) d with e|e
  ·exact h0 (hw.trans e)
  ·exact h7 (hw.trans e)
theorem KLive.fitd {n i:Nat} {l:Lg} {d:Dsk} {S:List (List (List Nat))} (h:KLive n i l d S):l.fit d∧d.ok:=by
 obtain ⟨F,D,P,hr, -, -⟩:=h.ex
 exact ⟨hr.fit,hr.dok⟩
theorem check_free {l:Lg} {d:Dsk} (h:(l.check d).2.2=0):(l.check d).1.free=(l.check d).1.n∧(l.check d).1.n=(l.sync d).1.n:=by
 revert h
 unfold Lg.check
 split
 ·intro h
  rename_i h1
  exact absurd h h1
 ·split
  ·intro h
   cases h
  ·split
   ·intro h
    rename_i h1
    exact absurd h h1
   ·split
    ·intro h
     rename_i h1
     exact absurd h h1
    ·intro _
     refine ⟨?_,?_⟩
     ·have hn:(l.sync d).1.next=l.next:=by
       unfold Lg.sync
       split<;>rfl
      unfold Lg.free
      simp [hn]
     ·rfl
structure Quiet (d:Dsk):Prop where
 calm:Dsk.calm d
 fuse:True
theorem Quiet.write {l:Lg} {d:Dsk} {ps:List Pt} (h:Quiet d):Quiet (l.write d ps).2.1:=by
 unfold Lg.write
 split
 ·exact h
 ·split
  ·exact h
  ·split
   ·exact h
   ·split
    ·exact h
    ·rename_i pcs _ _
     have hp:=putPcs_calm l.n pcs d h.calm
     rw [hp]
     exact ⟨⟨h.calm.fuse,h.calm.on⟩,h.fuse⟩
theorem Quiet.flush {d:Dsk} (h:Quiet d):Quiet d.flush∧d.flush.Q= []:=by
 rw [h.calm.flush]
 exact ⟨⟨⟨h.calm.fuse,h.calm.on⟩,h.fuse⟩,rfl⟩
theorem Quiet.sync {l:Lg} {d:Dsk} (h:Quiet d):Quiet (l.sync d).2:=by
 unfold Lg.sync
 split
 ·exact h
 ·exact h.flush.1
theorem Quiet.check {l:Lg} {d:Dsk} (h:Quiet d):Quiet (l.check d).2.1:=by
 have hs:=h.sync (l:=l)
 unfold Lg.check
 generalize (l.sync d).2=d1 at*
 have hb:Quiet (l.bring d1).1:=by
  unfold Lg.bring
  rw [bringGo_calm _ _ _ hs.calm]
  exact ⟨⟨hs.calm.fuse,hs.calm.on⟩,hs.fuse⟩
 split
 ·exact hs
 ·split
  ·exact hs
  ·split
   ·exact hb
   ·have hv:Quiet ((l.bring d1).1.save 0 l.epoch ⟨l.gen+1,l.next,l.epoch⟩).1:=by
     rw [save_calm hb.calm]
     exact ⟨⟨hb.calm.fuse,hb.calm.on⟩,hb.fuse⟩
    split
    ·exact hv
    ·exact hv
end Go.Proofs.YtjdbbnhnbdocbaaGreat
namespace Go.Proofs.YtjdbbnhnbdocbaaGreat
open Go.RowKit Go.Tn Go.Tn.Bt Go.Tn.Lp Go.Tn.Dk Go.Tn.Ino
theorem write_8 {l:Lg} {d:Dsk} {ps:List Pt} (h:(l.write d ps).2.2=8):l.write d ps=(l,d,8):=by
 revert h
 unfold Lg.write
 split
 ·intro h
  rw [show l.err=8 from h]
 ·split
  ·intro h
   cases h
  ·split
   ·intro h
    rfl
   ·split
    ·intro h
     rfl
    ·split
     ·intro h
      rcases putPcs_code l.n _ d with e|e
      ·rw [e] at h
       cases h
      ·rw [e] at h
       cases h
     ·intro h
      cases h
theorem stPut_0 {l:Lg} {d:Dsk} {ps:List Pt} (h:(l.write d ps).2.2=0):stPut l d ps=stSync (l.write d ps).1 (l.write d ps).2.1:=by
 unfold stPut
 rw [if_pos h]
theorem stPut_no {l:Lg} {d:Dsk} {ps:List Pt} (h:(l.write d ps).2.2≠0) (h8:(l.write d ps).2.2≠8):stPut l d ps=l.write d ps:=by
 unfold stPut
 rw [if_neg h,if_pos h8]
theorem stPut_8 {l:Lg} {d:Dsk} {ps:List Pt} (h:(l.write d ps).2.2=8):stPut l d ps=
  if (l.check d).2.2≠0 then l.check d else if ((l.check d).1.write (l.check d).2.1 ps).2.2=0 then stSync ((l.check d).1.write (l.check d).2.1 ps).1 ((l.check d).1.write (l.check d).2.1 ps).2.1 else (l.check d).1.write (l.check d).2.1 ps:=by
 have e:=write_8 h
 unfold stPut
 rw [if_neg (by rw [h];decide),if_neg (by rw [h];decide),e]
section
variable {w w':World} {F FD:Nat→Prop} {s g p:Nat} {l:Lg} {d:Dsk}
set_option maxRecDepth 20000 in
set_option maxHeartbeats 2000000 in
theorem fwrite_any (h:Fs w F FD s g p l d) (hok:l.ok d) (v:Value) (ps:List Pt) (hpb:PtB w (fun b=>F b∨FD b) v ps) (hby: ∀q∈ps, ∀x∈q.2,x<256) (hn:ps.length≤100000) (hQ:d.Q.length≤999900000)
  (hok2:(l.write d ps).2.2=8→(l.check d).2.2=0→(l.check d).1.ok (l.check d).2.1):Calls Tryz.prog 100 #[.pointer (some ⟨s,0,none⟩),v] w fun e w'=>FPost w F FD s g p (stPut l d ps) e w':=by
 have hwr:=fs_write h hok v ps hpb.a hby hn (by omega)
 have c:=h.c
 have hck: ∀(w2:World) (F2 FD2:Nat→Prop),Fs w2 F2 FD2 s g p l d→Calls Tryz.prog 153 #[.pointer (some ⟨g,0,none⟩)] w2 fun e w'=>FPost w2 F2 FD2 s g p (l.check d) e w':=fun _ _ _ h2=>fs_check h2 hok (by omega)
 have hq2:=(lcheck_Q (l:=l) (d:=d) h.disk.ok.hi).1
 obtain ⟨a,n,cap,rfl⟩: ∃a n c,v= .slice a n c:=by
  obtain ⟨xs, -,⟨ao,cap,rfl, -⟩, -⟩:=hpb
  exact ⟨_,_,_,rfl⟩
 have HPB:=Lib.hid hpb
 have HBY:=Lib.hid hby
 have HOK2:=Lib.hid hok2
 have HQ2:=Lib.hid hq2
 have HCK:=Lib.hid hck
 clear h hok hpb hby hok2 hq2 hck
 go_enter Tryz.func100,Tryz.ntmps100
 go_wp2_with fail
 refine hwr.mono ?_
 rintro e w2 ⟨rfl,F2,FD2,h2,hm2,h12,h22⟩
 have c2:=h2.c
 have hpb2:=PtsA.fs HPB.out hm2 h12 h22
 obtain ⟨cd,hcd⟩: ∃cd,(l.write d ps).2.2=cd:=⟨_,rfl⟩
 rw [hcd]
 by_cases h0:cd=0
 ·subst h0
  have hsy:=fs_sync h2
  have HE:=Lib.hid (stPut_0 hcd)
  have HM2:=Lib.hid hm2
  have H12:=Lib.hid h12
  have H22:=Lib.hid h22
  clear hwr hcd h2 hm2 h12 h22 hpb2
  go_wp2_with fail
  refine hsy.mono ?_
  rintro e w3 hp3
  have hp4:=FPost.trans HM2.out H12.out H22.out hp3
  rw [←HE.out] at hp4
  obtain ⟨rfl,hp5⟩:=hp4
  have HP:=Lib.hid hp5
  clear hsy hp3 hp5
  go_wp2
  go_ret
  exact ⟨rfl,HP.out⟩
 ·by_cases h8:cd=8
  ·subst h8
   have e8:=write_8 hcd
   rw [e8] at h2
   have hst:=stPut_8 hcd
   have hok8:=HOK2.out hcd
   have hck2:=HCK.out _ _ _ h2
   have HM2:=Lib.hid hm2
   have H12:=Lib.hid h12
   have H22:=Lib.hid h22
   have HST:=Lib.hid hst
   have HOK8:=Lib.hid hok8
   have HPB2:=Lib.hid hpb2
   clear hwr hcd h2 hm2 h12 h22 hpb2 e8 hst hok8
   go_wp2_with fail
   refine hck2.mono ?_
   rintro e w3 ⟨rfl,F3,FD3,h3,hm3,h13,h23⟩
   have c3:=h3.c
   have HPB3:=Lib.hid (PtsA.fs HPB2.out hm3 h13 h23)
   have H3:=Lib.hid h3
   have ht: ∀(r2:Lg×Dsk×Nat) (e2:Ending) (w4:World),FPost w3 F3 FD3 s g p r2 e2 w4→FPost w F FD s g p r2 e2 w4:=fun r2 _ _ hp=>FPost.trans HM2.out H12.out H22.out (FPost.trans hm3 h13 h23 hp)
   have hstay:FPost w F FD s g p (l.check d) (.returned (.int .i64 ((l.check d).2.2:Nat))) w3:=FPost.trans HM2.out H12.out H22.out ⟨rfl,F3,FD3,h3,hm3,h13,h23⟩
   have HT:=Lib.hid ht
   have HSY:=Lib.hid hstay
   clear hck2 h3 hm3 h13 h23 ht hstay
   generalize hr3:l.check d=r3 at*
   obtain ⟨l3,d3,cd3⟩:=r3
   simp only at*
   by_cases hc3:cd3=0
   ·subst hc3
    have hw3:=fs_write H3.out (HOK8.out rfl) _ ps HPB3.out.a HBY.out hn (by have:=HQ2.out;omega)
    have HST3:=Lib.hid HST.out
    clear HST
    rw [if_neg (by decide)] at HST3
    go_wp2_with fail
    refine hw3.mono ?_
    rintro e w4 hp4
    obtain ⟨he4,F4,FD4,h4,hm4,h14,h24⟩:=hp4
    subst he4
    have c4:=h4.c
    generalize hr4:l3.write d3 ps=r4 at*
    obtain ⟨l4,d4,cd4⟩:=r4
    simp only at*
    by_cases hc4:cd4=0
    ·subst hc4
     have hsy:=fs_sync h4
     have HST4:=Lib.hid HST3.out
     clear HST3
     rw [if_pos rfl] at HST4
     have HM4:=Lib.hid hm4
     have H14:=Lib.hid h14
     have H24:=Lib.hid h24
     clear hw3 h4 hm4 h14 h24
     go_wp2_with fail
     refine hsy.mono ?_
     rintro e w5 hp5
     have hp6:=HT.out _ _ _ (FPost.trans HM4.out H14.out H24.out hp5)
     rw [←HST4.out] at hp6
     obtain ⟨rfl,hp7⟩:=hp6
     have HP:=Lib.hid hp7
     clear hsy hp5 hp7
     go_wp2
     go_ret
     exact ⟨rfl,HP.out⟩
    ·have hne:((cd4:Int) !=0)=true:=by rw [bne_iff_ne];omega
     have HST4:=Lib.hid HST3.out
     clear HST3
     rw [if_neg hc4] at HST4
     have hp6:=HT.out _ _ _ (⟨rfl,F4,FD4,h4,hm4,h14,h24⟩:FPost w3 F3 FD3 s g p (l4,d4,cd4) (.returned (.int .i64 (cd4:Nat))) w4)
     have HP:=Lib.hid hp6
     clear hw3 h4 hm4 h14 h24 hp6
     go_wp2
     go_ret
     rw [HST4.out]
     exact HP.out
   ·have hne:((cd3:Int) !=0)=true:=by rw [bne_iff_ne];omega
    have heq:((cd3:Int)==0)=false:=beq_eq_false_iff_ne.2 (by omega)
    have HST3:=Lib.hid HST.out
    clear HST
    rw [if_pos hc3] at HST3
    go_wp2
    go_ret
    rw [HST3.out]
    exact HSY.out
  ·have hne:((cd:Int) !=0)=true:=by rw [bne_iff_ne];omega
   have heq:((cd:Int)==8)=false:=beq_eq_false_iff_ne.2 (by omega)
   have hst:=stPut_no (l:=l) (d:=d) (ps:=ps) (by rw [hcd];exact h0) (by rw [hcd];exact h8)
   have HP:Hid (FPost w F FD s g p (l.write d ps) (.returned (.int .i64 (cd:Nat))) w2):=Lib.hid ⟨by rw [hcd],F2,FD2,h2,hm2,h12,h22⟩
   have HST:=Lib.hid hst
   clear hwr hcd h2 hm2 h12 h22 hpb2 hst
   go_wp2
   go_ret
   rw [HST.out]
   exact HP.out
end
structure ChAt (w:World) (G:Nat→Prop) (c s n:Nat) (T:Nat→Bool) (H:Nat→Option (List Nat)) (err:Nat):Prop where
 ex: ∃m mm L clk,w.heap[c]?=some (.cells #[.pointer (some ⟨s,0,none⟩), .pointer (some ⟨m,0,none⟩), .map (some mm), .int .i64 (err:Nat)] 207 (0,0))∧Al.MapAt w m n T∧HAt w G mm L clk H∧m≠c∧mm≠c∧mm≠m∧G m∧ ∀e∈L,e.2.1.ownBlock≠some c∧e.2.1.ownBlock≠some m
 gc:G c
 lt: ∀b,G b→b<w.heap.size
section
variable {w w':World} {G:Nat→Prop} {c s n:Nat} {T:Nat→Bool} {H:Nat→Option (List Nat)} {err:Nat}
theorem ChAt.kept (h:ChAt w G c s n T H err) (hs:w.heap.size≤w'.heap.size) (hb: ∀b,G b→w'.heap[b]?=w.heap[b]?):ChAt w' G c s n T H err:=by
 obtain ⟨m,mm,L,clk,h1,h2,h3,h4,h5,h6,h7,h8⟩:=h.ex
 exact ⟨⟨m,mm,L,clk,(hb c h.gc).trans h1,⟨(hb m h7).trans h2.blk,h2.pos,h2.le,h2.out⟩,h3.kept hs hb,h4,h5,h6,h7,h8⟩,h.gc,fun b hG=>Nat.lt_of_lt_of_le (h.lt b hG) hs⟩
theorem ChAt.below (h:ChAt w G c s n T H err) (hb:Below w.heap.size w w'):ChAt w' G c s n T H err:=h.kept hb.size fun b hG=>hb.block b (h.lt b hG)
end
section
variable {w w':World} {F FD:Nat→Prop} {s g p:Nat} {l:Lg} {d:Dsk}
set_option maxRecDepth 20000 in
set_option maxHeartbeats 2000000 in
theorem fchange_any (h:Fs w F FD s g p l d) (hok:l.ok d) (h2:2≤l.homes d) (h1024:l.homes d≤1024) (ht:takenB (l.home d 1) (l.homes d)):Calls Tryz.prog 75 #[.pointer (some ⟨s,0,none⟩)] w
  fun e w'=> ∃c G,e= .returned (.pointer (some ⟨c,0,none⟩))∧ChAt w' G c s (l.homes d) (mapT (l.home d 1)) (fun _=>none) 0∧Below w.heap.size w w'∧ ∀b,G b→w.heap.size≤b:=by
 have HF:=Lib.hid h
 have HOK:=Lib.hid hok
 have HT:=Lib.hid ht
 clear h hok ht
 have hmm:= @run_makeMap Tryz.prog
 have hb1:Below w.heap.size w ((w.alloc (.map #[] 0)).alloc (.cells #[.pointer (some ⟨s,0,none⟩), .pointer none, .map (some w.heap.size), .int .i64 0] 207)):=((Below.refl _ _).alloc (Nat.le_refl _) _).alloc (by simp) _
 have hz0:(w.alloc (.map #[] 0)).heap.size=w.heap.size+1:=by simp
 have hz1:((w.alloc (.map #[] 0)).alloc (.cells #[.pointer (some ⟨s,0,none⟩), .pointer none, .map (some w.heap.size), .int .i64 0] 207)).heap.size=w.heap.size+2:=by simp
 have hc1:((w.alloc (.map #[] 0)).alloc (.cells #[.pointer (some ⟨s,0,none⟩), .pointer none, .map (some w.heap.size), .int .i64 0] 207)).heap[w.heap.size+1]?=some (.cells #[.pointer (some ⟨s,0,none⟩), .pointer none, .map (some w.heap.size), .int .i64 0] 207 (0,0)):=by
  rw [←hz0]
  exact heap_alloc_at
 have hm1:((w.alloc (.map #[] 0)).alloc (.cells #[.pointer (some ⟨s,0,none⟩), .pointer none, .map (some w.heap.size), .int .i64 0] 207)).heap[w.heap.size]?=some (.map (ents encI []) 0):=heap_alloc_of heap_alloc_at
 generalize hw1:(w.alloc (.map #[] 0)).alloc (.cells #[.pointer (some ⟨s,0,none⟩), .pointer none, .map (some w.heap.size), .int .i64 0] 207)=w1 at hb1 hz1 hc1 hm1
 have htk:=ftaken_any (HF.out.below hb1) HOK.out h2 h1024
 have HB1:=Lib.hid hb1
 have HZ1:=Lib.hid hz1
 have HC1:=Lib.hid hc1
 have HM1:=Lib.hid hm1
 clear hb1 hz0 hz1 hc1 hm1
 go_enter Tryz.func75,Tryz.ntmps75
 go_wp2_with fail
 refine htk.mono ?_
 rintro e w2 ⟨hy, -,hb2⟩
 obtain ⟨m,rfl,hM,hm⟩:=hy HT.out
 have hz:=HZ1.out
 have hsz2:=hb2.size
 have hc2:=(hb2.block (w.heap.size+1) (by omega)).trans HC1.out
 have hm2:=(hb2.block w.heap.size (by omega)).trans HM1.out
 have p1:=cell_of (o:=1) hc2 rfl
 have p3:=cell_of (o:=3) hc2 rfl
 have f1:w2.frozen? ⟨w.heap.size+1,1,none⟩=false:=free_of hc2
 have f3:w2.frozen? ⟨w.heap.size+1,3,none⟩=false:=free_of hc2
 have hml:=hM.lt
 have HM2:=Lib.hid hM
 have HC2:=Lib.hid hc2
 have HMM:=Lib.hid hm2
 have HB2:=Lib.hid (HB1.out.trans (hb2.mono HB1.out.size))
 clear htk hy hw1 hb2 hM hc2 hm2
 go_wp2
 go_ret
 have hmod:=((Mod.refl (fun x=>x=w.heap.size+1) w2).setCell ⟨w.heap.size+1,1,none⟩ (.pointer (some ⟨m,0,none⟩)) (fun _=>rfl)).setCell ⟨w.heap.size+1,3,none⟩ (.int .i64 0) (fun _=>rfl)
 refine ⟨w.heap.size+1,fun b=>b=w.heap.size+1∨b=w.heap.size∨b=m,rfl,⟨⟨m,w.heap.size, [],0,?_,HM2.out.mod hmod (by omega),⟨hmod.heap HMM.out (by omega),WF.nil _,fun e he=>absurd he (by simp),fun k hk=>absurd rfl hk, .inr (.inl rfl)⟩,by omega,by omega,by omega, .inr (.inr rfl),fun e he=>absurd he (by simp)⟩, .inl rfl,fun b hb=> ?_⟩,HB2.out.trans (hmod.below HB2.out.size fun x hx e=>by omega),fun b hb=>by omega⟩
 ·rw [heap_setCell_at (heap_setCell_at HC2.out)]
  rfl
 ·have:=hmod.size
  rcases hb with rfl|rfl|rfl<;>omega
end
def putH (H:Nat→Option (List Nat)) (k:Nat) (b:List Nat):Nat→Option (List Nat):=fun j=>if j=k then some b else H j
theorem HAt.more {w w1 w3:World} {G:Nat→Prop} {m clk:Nat} {L:Ents Int} {H:Nat→Option (List Nat)} (hH:HAt w G m L clk H) (hb:Below w.heap.size w w1) (hlt: ∀b,G b→b<w.heap.size) {k:Nat} {v:Value} {b:List Nat} (hv:LRd en8 1 0 w1 v b) (hnew: ∀r,v.ownBlock=some r→w.heap.size≤r)
  (hh3:w3.heap[m]?=some (.map (ents encI (upd ((k:Nat):Int) v L clk)) (updClk ((k:Nat):Int) L clk))) (hwf3:WF (upd ((k:Nat):Int) v L clk) (updClk ((k:Nat):Int) L clk)) (hm3:Mod (fun x=>x=m) w1 w3):
  HAt w3 (fun x=>G x∨(w.heap.size≤x∧x<w3.heap.size)) m (upd ((k:Nat):Int) v L clk) (updClk ((k:Nat):Int) L clk) (putH H k b):=by
 have hml:m<w.heap.size:=lt_of_block hH.blk
 refine ⟨hh3,hwf3,fun e he=> ?_,fun j hj=> ?_, .inl hH.fm⟩
 ·rcases mem_upd hH.wf he with ⟨he1,hne⟩|⟨he1,he2, -⟩
  ·obtain ⟨j,hj1,b',hj2,hj3,hj4⟩:=hH.key e he1
   refine ⟨j,hj1,b',?_,?_,fun r hr=>⟨.inl (hj4 r hr).1,(hj4 r hr).2⟩⟩
   ·unfold putH
    rw [if_neg (fun e'=>hne (by rw [hj1,e']))]
    exact hj2
   ·exact (hj3.kept hb.size fun r hr=>hb.block r (hlt r (hj4 r hr).1)).kept hm3.size fun r hr=>hm3.block r (Nat.lt_of_lt_of_le (hj3.lt r hr) hb.size) (hj4 r hr).2
  ·refine ⟨k,he1,b,?_,?_,fun r hr=> ?_⟩
   ·unfold putH
    rw [if_pos rfl]
   ·rw [he2]
    exact hv.kept hm3.size fun r hr=>hm3.block r (hv.lt r hr) (fun e=>by have:=hnew r hr;have e:r=m:=e;omega)
   ·rw [he2] at hr
    have h1:=hnew r hr
    have h2:=hv.lt r hr
    have h3:=hm3.size
    exact ⟨.inr ⟨h1,by omega⟩,by omega⟩
 ·have hg:=get_upd (j:=(j:Int)) (k:=((k:Nat):Int)) (v:=v) hH.wf
  have hne:get (j:Int) (upd ((k:Nat):Int) v L clk)≠none:=by
   rw [hg]
   by_cases hja:(j:Int)=(k:Nat)
   ·rw [if_pos hja]
    exact fun e=>by cases e
   ·rw [if_neg hja]
    unfold putH at hj
    rw [if_neg (fun e=>hja (by rw [e]))] at hj
    obtain ⟨e,he,hej⟩:=hH.all j hj
    exact fun hn=>get_none.1 hn e he hej
  cases hgo:get (j:Int) (upd ((k:Nat):Int) v L clk) with
  | none=>exact absurd hgo hne
  | some u=>
   obtain ⟨b',hb'⟩:=get_some hgo
   exact ⟨_,hb',rfl⟩
section
variable {w w':World} {G:Nat→Prop} {c s n:Nat} {T:Nat→Bool} {H:Nat→Option (List Nat)} {err:Nat}
theorem ChAt.more {w1 w3:World} {m mm clk:Nat} {L:Ents Int} (h:ChAt w G c s n T H err) (hblk:w.heap[c]?=some (.cells #[.pointer (some ⟨s,0,none⟩), .pointer (some ⟨m,0,none⟩), .map (some mm), .int .i64 (err:Nat)] 207 (0,0))) (hM:Al.MapAt w m n T) (hH:HAt w G mm L clk H) (h4:m≠c) (h5:mm≠c) (h6:mm≠m) (h7:G m) (h8: ∀e∈L,e.2.1.ownBlock≠some c∧e.2.1.ownBlock≠some m)
  (hb:Below w.heap.size w w1) {k:Nat} {v:Value} {b:List Nat} (hv:LRd en8 1 0 w1 v b) (hnew: ∀r,v.ownBlock=some r→w.heap.size≤r)
  (hh3:w3.heap[mm]?=some (.map (ents encI (upd ((k:Nat):Int) v L clk)) (updClk ((k:Nat):Int) L clk))) (hwf3:WF (Go.Tn.upd ((k:Nat):Int) v L clk) (updClk ((k:Nat):Int) L clk)) (hm3:Mod (fun x=>x=mm) w1 w3):
  ChAt w3 (fun x=>G x∨(w.heap.size≤x∧x<w3.heap.size)) c s n T (putH H k b) err:=by
 have hcl:=h.lt c h.gc
 have hml:=h.lt m h7
 have hM1:=hM.below hb hml
 refine ⟨⟨m,mm,_,_,hm3.heap ((hb.block c hcl).trans hblk) (fun e=>h5 e.symm),hM1.mod hm3 (fun e=>h6 e.symm),hH.more hb h.lt hv hnew hh3 hwf3 hm3,h4,h5,h6, .inl h7,fun e he=> ?_⟩, .inl h.gc,fun x hx=> ?_⟩
 ·rcases mem_upd hH.wf he with ⟨he1, -⟩|⟨-,he2, -⟩
  ·exact h8 e he1
  ·rw [he2]
   exact ⟨fun e=>by have:=hnew _ e;omega,fun e=>by have:=hnew _ e;omega⟩
 ·rcases hx with hx|hx
  ·exact Nat.lt_of_lt_of_le (h.lt x hx) (Nat.le_trans hb.size hm3.size)
  ·exact hx.2
set_option maxRecDepth 20000 in
set_option maxHeartbeats 2000000 in
theorem fsetinode_any (h:ChAt w G c s n T H err) (i:Nat) (hi:i<4096) (x:Ino) (hf:x.fits) (hr:x.right=true):Calls Tryz.prog 96 #[.pointer (some ⟨c,0,none⟩), .int .i64 i, .agg (inoC x)] w
  fun e w'=>e= .returned (.tuple #[])∧ ∃G',ChAt w' G' c s n T (putH H (1+i) x.sec) err∧Mod G w w'∧ ∀b,G' b→G b∨w.heap.size≤b:=by
 have hb1:Below w.heap.size w (w.alloc (.cells (inoC x) 52)):=(Below.refl _ _).alloc (Nat.le_refl _) _
 have hL1:Lies (w.alloc (.cells (inoC x) 52)) w.heap.size 0 (inoC x):=lies_of heap_alloc_at
 have hen:=ienc_ok (w.alloc (.cells (inoC x) 52)) x hf hr
 have hag:=aggI hf.len
 have hi63:(i:Int)<4096:=by omega
 have HC:=Lib.hid h
 have HB1:=Lib.hid hb1
 clear h hb1 hf hr
 go_enter Tryz.func96,Tryz.ntmps96
 go_wp2_with (first
  | ((with_reducible refine wpList_loadA hag hL1 ?_ ?_);rfl;go_frame)
  | fail)
 refine hen.mono ?_
 rintro e w2 ⟨v,rfl,hO,hb2⟩
 have hb12:=HB1.out.trans (hb2.mono HB1.out.size)
 obtain ⟨m,mm,L,clk,k1,k2,k3,k4,k5,k6,k7,k8⟩:=HC.out.ex
 have hcl:=HC.out.lt c HC.out.gc
 have hk1:=(hb12.block c hcl).trans k1
 have p2:=cell_of (o:=2) hk1 rfl
 obtain ⟨a,nn,cap,rfl⟩:=hO.shape
 have hmm:=(hb12.block mm (HC.out.lt mm k3.fm)).trans k3.blk
 have hwf:=k3.wf
 have fin: ∀w3:World,w3.heap[mm]?=some (.map (ents encI (upd ((1+i:Nat):Int) (.slice a nn cap) L clk)) (updClk ((1+i:Nat):Int) L clk))→WF (upd ((1+i:Nat):Int) (.slice a nn cap) L clk) (updClk ((1+i:Nat):Int) L clk)→Mod (fun x=>x=mm) w2 w3→ ∃G',ChAt w3 G' c s n T (putH H (1+i) x.sec) err∧Mod G w w3∧ ∀b,G' b→G b∨w.heap.size≤b:=fun w3 h1 h2 h3=>
  ⟨_,ChAt.more HC.out k1 k2 k3 k4 k5 k6 k7 k8 hb12 ((hO.rd el8.len).mono (Nat.zero_le _)) (fun r hr=>Nat.le_trans HB1.out.size (hO.lo r hr)) h1 h2 h3,((Mod.of_below hb12).mono (T:=G) fun x hx hS=>absurd hx (Nat.not_lt.2 hS)).trans h3 (fun x hx=>hx) (fun x _ (hx:x=mm)=>hx ▸ k3.fm),fun b hb=>hb.imp id fun h=>h.1⟩
 have HFIN:=Lib.hid fin
 clear hen hL1 hO hb2 hb12 k1 k2 k3 k4 k5 k6 k7 k8 hk1 fin
 have e1:((1+i:Nat):Int)=1+(i:Int):=Int.natCast_add 1 i
 rw [e1] at HFIN
 go_wp2_with (first
  | ((with_reducible refine wpList_mapUpd keyI Tryz.underlying118 hmm hwf (1+(i:Int)) (.slice a nn cap) ?_ ?_ ?_ ?_);rfl;rfl;rfl;(intro w3 h1 h2 h3;have HP:=Lib.hid (HFIN.out w3 h1 h2 h3);clear h1 h2 h3);go_frame)
  | fail)
 go_end0
 exact ⟨rfl,HP.out⟩
end
end Go.Proofs.YtjdbbnhnbdocbaaGreat
