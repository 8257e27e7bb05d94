import Derived.Test.YtjdbbnhnbdocbaaGreatMgGon39
import Derived.Lib.BufferWrite
namespace Go.Proofs.YtjdbbnhnbdocbaaGreat
open Go.RowKit Go.Tn Go.Tn.Bt Go.Tn.Lp Go.Tn.Dk Go.Tn.Ino Go.Tn.Dr Go.Tn.Fm Go.Tn.Names
section
variable {n m:Nat} {T T':Nat→Bool} {H H':Nat→Option (List Nat)} {V:Nat→List Nat} {M:Sm} {j i q err':Nat} {bl':List Nat} {t:ByteArray} {x:Nd}
theorem node_rep (h:Rep n V M) (hj:1≤j∧j<41) {x':Nd} {kd:Nat} (hkd:x'.kind=kd) (hmid:Mid n T' (ov H' V) (Fm.upd M.P j bl') fun i k=>((Fm.upd M.N j x') i).blk k) (hnd:NdOk x') (hlow: ∀k,k<42→H' k=none) (hck:ChOk n H' m) (hm:m≤13) (hl:bl'.length=8):
  Rep n (ov (putH (putH H' (1+j) (Ino.sec ⟨kd,x'.gen,x'.ver,bl'⟩)) 1 (mapSec T')) V) ⟨Fm.upd M.N j x',Fm.upd M.P j bl',M.rcd⟩∧ChOk n (putH H' (1+j) (Ino.sec ⟨kd,x'.gen,x'.ver,bl'⟩)) 14:=by
 have hn46:=h.n1
 refine ⟨h.turn (T:=T') (N':=Fm.upd M.N j x') (P':=Fm.upd M.P j bl') ?_ ?_ ?_ ?_,(hck.put (by omega) (ino_secB hl)).mono (by omega)⟩
 ·refine hmid.view (V':=ov (putH H' (1+j) _) V) fun p hp _=> ?_
  rw [ov_put,Fm.upd_ne _ _ (by omega)]
 ·intro a
  by_cases ha:a=j
  ·rw [ha,Fm.upd_at]
   exact hnd
  ·rw [Fm.upd_ne _ _ ha]
   exact h.nd a
 ·rw [putH_ne _ _ (by omega)]
  exact hlow 0 (by decide)
 ·intro a h1 h2
  by_cases ha:a=j
  ·refine .inl ?_
   rw [ha,putH_at]
   unfold Sm.ino
   simp only [Fm.upd_at,hkd]
  ·refine .inr ⟨?_,Fm.upd_ne _ _ ha,Fm.upd_ne _ _ ha⟩
   rw [putH_ne _ _ (by omega)]
   exact hlow _ (by omega)
theorem set_blk (hk:x.kind=2) (hl:x.D.length=8) (hi:i<8) (v:Nat):(fun k=>({x with D:=x.D.set i t,ver:=v}:Nd).blk k)=Fm.upd x.blk i (if t=emp then none else some (fileSec t)):=by
 funext k
 by_cases h:k=i
 ·subst h
  have e:(x.D.set k t)[k]?=some t:=by rw [List.getElem?_set,if_pos rfl,if_pos (by omega)]
  rw [Fm.upd_at]
  unfold Nd.blk
  simp only [e,hk]
  rfl
 ·have e:(x.D.set i t)[k]?=x.D[k]?:=by rw [List.getElem?_set,if_neg (fun e=>h e.symm)]
  rw [Fm.upd_ne _ _ h]
  unfold Nd.blk
  simp only [e]
theorem set_ok (h:NdOk x) (hk:x.kind=2) (ht:t.size≤64) (hv:x.ver<1099511627775):NdOk {x with D:=x.D.set i t,ver:=x.ver+1}:=by
 refine ⟨h.gen,(by show x.ver+1≤_;omega),(by show (x.D.set i t).length=8;rw [List.length_set];exact h.dl), .inr (.inr ⟨hk,?_,fun u hu=> ?_⟩)⟩
 ·rcases h.knd with h1|h1|h1
  ·omega
  ·omega
  ·exact h1.2.1
 ·have hu:u∈x.D.set i t:=hu
  rcases List.mem_or_eq_of_mem_set hu with hu|rfl
  ·rcases h.knd with h1|h1|h1
   ·omega
   ·omega
   ·exact h1.2.2 u hu
  ·exact ht
theorem upd_row {N:Nat→Nd} (x':Nd):(fun a k=>((Fm.upd N j x') a).blk k)=Fm.upd (fun a k=>(N a).blk k) j (fun k=>x'.blk k):=by
 funext a
 by_cases ha:a=j
 ·rw [ha,Fm.upd_at]
  funext k
  rw [Fm.upd_at]
 ·rw [Fm.upd_ne _ _ ha]
  funext k
  rw [Fm.upd_ne _ _ ha]
theorem empty_rep (h:Rep n V M) (hj:1≤j∧j<41) (hk:(M.N j).kind=2) (hi:i<8) (hv:(M.N j).ver<1099511627775) (hq:(M.P j)[i]?=some q) (hr:EmptyR n (takenP M.P) (fun _=>none) (M.P j) i q T' H' bl'):
  Rep n (ov (putH (putH H' (1+j) (Ino.sec ⟨2,(M.N j).gen,(M.N j).ver+1,bl'⟩)) 1 (mapSec T')) V) ⟨Fm.upd M.N j {M.N j with D:=(M.N j).D.set i emp,ver:=(M.N j).ver+1},Fm.upd M.P j bl',M.rcd⟩∧ChOk n (putH H' (1+j) (Ino.sec ⟨2,(M.N j).gen,(M.N j).ver+1,bl'⟩)) 14:=by
 have hmid0:Mid n (takenP M.P) (ov (fun _=>none) V) M.P fun j k=>(M.N j).blk k:=h.mid
 have hm:=hr.mid hmid0 hq
 have hlow:=hr.low fun h0=>(h.mid.lo j q (List.mem_of_getElem? hq) h0).1
 have:=node_rep (x':={M.N j with D:=(M.N j).D.set i emp,ver:=(M.N j).ver+1}) h hj (kd:=2) hk (by rw [upd_row,set_blk hk (h.nd j).dl hi,if_pos rfl];exact hm) (set_ok (h.nd j) hk (by decide) hv) hlow (hr.chok (ChOk.none n)) (by omega) (hr.len.trans (h.mid.len j))
 exact this
theorem block_rep (h:Rep n V M) (hj:1≤j∧j<41) (hk:(M.N j).kind=2) (hi:i<8) (hv:(M.N j).ver<1099511627775) (ht:t.size≤64) (h0:t≠emp) (hq:(M.P j)[i]?=some q) (hr:BlockR n (takenP M.P) (fun _=>none) 0 (M.P j) i q (fileSec t) T' H' err' bl'):
  (err'=0∧Rep n (ov (putH (putH H' (1+j) (Ino.sec ⟨2,(M.N j).gen,(M.N j).ver+1,bl'⟩)) 1 (mapSec T')) V) ⟨Fm.upd M.N j {M.N j with D:=(M.N j).D.set i t,ver:=(M.N j).ver+1},Fm.upd M.P j bl',M.rcd⟩∧ChOk n (putH H' (1+j) (Ino.sec ⟨2,(M.N j).gen,(M.N j).ver+1,bl'⟩)) 14)∨
  err'=8∧(M.N j).blk i=none∧ ∀p,p<n→takenP M.P p=true:=by
 have hmid0:Mid n (takenP M.P) (ov (fun _=>none) V) M.P fun j k=>(M.N j).blk k:=h.mid
 have hsec:secB (fileSec t):=⟨fileSec_len (by omega),fileSec_lt (by omega)⟩
 rcases hr.mid hmid0 hj hq with ⟨rfl,hm⟩|⟨h8, -, -, -,hq0,hfull⟩
 ·refine .inl ⟨rfl,?_⟩
  have hlow:=hr.low (fun h0=>(h.mid.lo j q (List.mem_of_getElem? hq) h0).1) (Mid.free h.mid)
  have hck:=hr.chok (ChOk.none n) (fun h0=>(h.mid.lo j q (List.mem_of_getElem? hq) h0).2) hsec
  have:=node_rep (x':={M.N j with D:=(M.N j).D.set i t,ver:=(M.N j).ver+1}) h hj (kd:=2) hk (by rw [upd_row,set_blk hk (h.nd j).dl hi,if_neg h0];exact hm) (set_ok (h.nd j) hk ht hv) hlow hck (by omega) (hr.len.trans (h.mid.len j))
  exact this
 ·refine .inr ⟨h8,?_,hfull⟩
  apply Classical.byContradiction
  intro hc
  exact (h.mid.has j i q hq).2 hc hq0
theorem trunc_rep (h:Rep n V M) (hj:1≤j∧j<41) (hk:(M.N j).kind=2) (hv:(M.N j).ver<1099511627775) (hr:EmptyTo n (takenP M.P) (fun _=>none) (M.P j) 8 T' H' bl'):
  Rep n (ov (putH (putH H' (1+j) (Ino.sec ⟨2,(M.N j).gen,(M.N j).ver+1,bl'⟩)) 1 (mapSec T')) V) ⟨Fm.upd M.N j {M.N j with D:=List.replicate 8 emp,ver:=(M.N j).ver+1},Fm.upd M.P j bl',M.rcd⟩∧ChOk n (putH H' (1+j) (Ino.sec ⟨2,(M.N j).gen,(M.N j).ver+1,bl'⟩)) 14:=by
 have hmid0:Mid n (takenP M.P) (ov (fun _=>none) V) M.P fun j k=>(M.N j).blk k:=h.mid
 obtain ⟨hm,hck,hlow⟩:=hr.mid hmid0 (ChOk.none n)
 have hx:NdOk {M.N j with D:=List.replicate 8 emp,ver:=(M.N j).ver+1}:=by
  refine ⟨(h.nd j).gen,(by show (M.N j).ver+1≤_;omega),by simp, .inr (.inr ⟨hk,?_,fun u hu=> ?_⟩)⟩
  ·rcases (h.nd j).knd with h1|h1|h1
   ·omega
   ·omega
   ·exact h1.2.1
  ·rw [List.eq_of_mem_replicate (a:=emp) (n:=8) hu]
   decide
 have:=node_rep (x':={M.N j with D:=List.replicate 8 emp,ver:=(M.N j).ver+1}) h hj (kd:=2) hk (by
  refine hm.congr fun a k hk8=> ?_
  by_cases ha:a=j
  ·rw [ha,Fm.upd_at,Fm.upd_at]
   unfold firstW Nd.blk
   simp only
   rw [if_pos hk8,if_neg (by omega),if_pos hk,if_pos]
   ·rfl
   ·rw [List.getElem?_replicate,if_pos hk8]
    rfl
  ·rw [Fm.upd_ne _ _ ha,Fm.upd_ne _ _ ha]) hx (fun k hk=>hlow k hk) hck (by omega) (hr.len.trans (h.mid.len j))
 exact this
end
section
variable {w w':World} {F FD G:Nat→Prop} {s g p:Nat} {l:Lg} {d:Dsk} {M:Sm} {c:Nat} {T:Nat→Bool} {H:Nat→Option (List Nat)} {err:Nat}
def retT (v c:Nat):Ending:=if c=0 then .returned (.tuple #[.int .u64 (v:Nat), .int .i64 0]) else .returned (.tuple #[.int .u64 0, .int .i64 (c:Nat)])
theorem retT_no {v c:Nat} (h:c≠0):retT v c= .returned (.tuple #[.int .u64 0, .int .i64 (c:Nat)]):=if_neg h
set_option maxRecDepth 20000 in
set_option maxHeartbeats 4000000 in
theorem fturned_any {w0:World} (h:SAt w0 F FD s g p l d M) (hm0:Mod G w0 w) (hG: ∀b,G b→w0.heap.size≤b) (hC:ChAt w G c s (l.homes d) T H err) (hQ:d.Q.length≤999900000) (hchk:(l.check d).2.2=0→(l.check d).1.ok (l.check d).2.1) (j:Nat) (hj:j<41) (gen:Int) (x:Ino) (hf:x.fits) (hr:x.right=true) (hk:x.kind=2) (hv:x.ver<1099511627775)
  (hck:err=0→ChOk (l.homes d) (putH H (1+j) (Ino.sec ⟨2,x.gen,x.ver+1,x.bl⟩)) 14):
  Calls Tryz.prog 83 #[.pointer (some ⟨c,0,none⟩), .agg #[.int .i64 (j:Nat), .int .i64 gen], .agg (inoC x)] w
  fun e w'=>err=0∧e=retT (x.ver+1) (stPut l d (putsOf l d (putH (putH H (1+j) (Ino.sec ⟨2,x.gen,x.ver+1,x.bl⟩)) 1 (mapSec T)))).2.2∧Pst w0 F FD s g p l d (putH (putH H (1+j) (Ino.sec ⟨2,x.gen,x.ver+1,x.bl⟩)) 1 (mapSec T)) w'∨
   err≠0∧e= .returned (.tuple #[.int .u64 0, .int .i64 (err:Nat)])∧Below w0.heap.size w0 w':=by
 obtain ⟨w1,hw1⟩: ∃w1,w.alloc (.cells #[.int .i64 (j:Nat), .int .i64 gen] 33)=w1:=⟨_,rfl⟩
 have hb1:Below w.heap.size w w1:=by rw [←hw1];exact (Below.refl _ _).alloc (Nat.le_refl _) _
 have hX1:w1.heap[w.heap.size]?=some (.cells #[.int .i64 (j:Nat), .int .i64 gen] 33 (0,0)):=by rw [←hw1];exact heap_alloc_at
 have hz1:w1.heap.size=w.heap.size+1:=by rw [←hw1];simp
 obtain ⟨w2,hw2⟩: ∃w2,w1.alloc (.cells (inoC x) 52)=w2:=⟨_,rfl⟩
 have hb2:Below w1.heap.size w1 w2:=by rw [←hw2];exact (Below.refl _ _).alloc (Nat.le_refl _) _
 have hX2:w2.heap[w1.heap.size]?=some (.cells (inoC x) 52 (0,0)):=by rw [←hw2];exact heap_alloc_at
 have hs2:w2.heap.size=w.heap.size+2:=by rw [←hw2];simp [hz1]
 have hb12:=hb1.trans (hb2.mono hb1.size)
 have hF2:w2.heap[w.heap.size]?=some (.cells #[.int .i64 (j:Nat), .int .i64 gen] 33 (0,0)):=(hb2.block _ (lt_of_block hX1)).trans hX1
 obtain ⟨xk,xg,xv,xl⟩:=x
 simp only at hk hv hck ⊢
 subst hk
 have q2:w2.cell? ⟨w1.heap.size,2,none⟩=some (.int .u64 (xv:Nat)):=cell_of hX2 rfl
 have f2:w2.frozen? ⟨w1.heap.size,2,none⟩=false:=free_of hX2
 have hX3:(w2.setCell ⟨w1.heap.size,2,none⟩ (.int .u64 ((xv:Int)+1))).heap[w1.heap.size]?=some (.cells (inoC ⟨2,xg,xv+1,xl⟩) 52 (0,0)):=by
  rw [heap_setCell_at hX2]
  rfl
 have hm3:=(Mod.refl (fun y=>y=w1.heap.size) w2).setCell ⟨w1.heap.size,2,none⟩ (.int .u64 ((xv:Int)+1)) (fun _=>rfl)
 have hv63:(xv:Int)<1099511627775:=by omega
 have hfits:(Ino.mk 2 xg (xv+1) xl).fits:=⟨by show 2<4;decide,hf.gen,by show xv+1<1099511627776;omega,hf.len,hf.bl⟩
 have hright:(Ino.mk 2 xg (xv+1) xl).right=true:=rfl
 have hx8:(Ino.mk 2 xg (xv+1) xl).bl.length=8:=hf.len
 have hag:=aggI hx8
 have HFIT:=Lib.hid hfits
 have HRGT:=Lib.hid hright
 have HB12:=Lib.hid hb12
 have HX3:=Lib.hid hX3
 have HM3:=Lib.hid hm3
 have HF2:=Lib.hid hF2
 have HH:=Lib.hid h
 have HM0:=Lib.hid hm0
 have HG:=Lib.hid hG
 have HC:=Lib.hid hC
 have HZ1:=Lib.hid hz1
 have HZ2:=Lib.hid hs2
 have HCK:=Lib.hid hck
 have HQ:=Lib.hid hQ
 have HCHK:=Lib.hid hchk
 clear h hm0 hG hC hb1 hX1 hb2 hX2 hb12 hF2 hX3 hm3 hfits hright hf hr hz1 hs2 hck hQ hchk
 go_enter Tryz.func83,Tryz.ntmps83
 go_upto_region 1 with fail
 simp only [hw1,hw2] at*
 clear hw1 hw2
 go_upto_region 2 with fail
 generalize w2.setCell ⟨w1.heap.size,2,none⟩ (.int .u64 ((xv:Int)+1))=w3 at*
 have hF3:=HM3.out.heap HF2.out (fun e=>by have e:w.heap.size=w1.heap.size:=e;have:=HZ1.out;omega)
 have hL3:=lies_of HX3.out
 have p0:w3.cell? ⟨w.heap.size,0,none⟩=some (.int .i64 (j:Nat)):=cell_of hF3 rfl
 have hb03:Below w.heap.size w w3:=HB12.out.trans (HM3.out.below HB12.out.size fun y hy e=>by have:=HZ1.out;omega)
 have hsi:=fsetinode_any (HC.out.below hb03) j (by omega) _ HFIT.out HRGT.out
 have HB03:=Lib.hid hb03
 clear q2 f2 hF3 hb03
 go_wp2_with (first
  | ((with_reducible refine wpList_loadA hag hL3 ?_ ?_);rfl;go_frame)
  | fail)
 refine hsi.mono ?_
 rintro e w4 ⟨rfl,G4,hC4,hm4,hG4⟩
 have hzw:w.heap.size<w1.heap.size:=by have:=HZ1.out;omega
 have hGl: ∀b,G b→b<w.heap.size:=HC.out.lt
 have hX4:=hm4.heap HX3.out (fun hg=>by have:=hGl _ hg;omega)
 have hm04:Mod G4 w0 w4:=by
  have a1:Mod G w0 w3:=HM0.out.trans (modB HB03.out) (fun _ h=>h) fun _ _ h=>h.elim
  exact (a1.mono (T:=G4) fun y hy hg=>absurd hy (Nat.not_lt.2 (HG.out y hg))).trans hm4 (fun _ h=>h) fun y hy hg=>absurd hy (Nat.not_lt.2 (HG.out y hg))
 have z03:=HB03.out.size
 have z0:=HM0.out.size
 have hG4w: ∀b,G4 b→w0.heap.size≤b:=fun b hb=>(hG4 b hb).elim (HG.out b) fun h=>by omega
 have hG4x:¬ G4 w1.heap.size:=fun hg=>(hG4 _ hg).elim (fun h=>by have:=hGl _ h;omega) fun h=>by have:=lt_of_block HX3.out;omega
 have HX4:=Lib.hid hX4
 have HM04:=Lib.hid hm04
 have HG4W:=Lib.hid hG4w
 have HG4X:=Lib.hid hG4x
 have hX4l:=lt_of_block hX4
 clear hsi hm4 hG4 hX4 hm04 hG4w hG4x hL3 p0 hGl
 by_cases he:err=0
 ·subst he
  have hco:=fcommitR HH.out HM04.out HG4W.out hC4 (HCK.out rfl) HQ.out HCHK.out
  obtain ⟨PH,hPH⟩: ∃PH,putH (putH H (1+j) (Ino.sec ⟨2,xg,xv+1,xl⟩)) 1 (mapSec T)=PH:=⟨_,rfl⟩
  rw [hPH] at hco
  have HPH:=Lib.hid hPH
  clear hC4 hPH
  go_wp2_with fail
  refine hco.mono ?_
  rintro e w5 ⟨rfl,F5,FD5,hF5,hm5,hF5a,hF5b⟩
  have HP5:Hid (FPostG w4 F FD G4 s g p (stPut l d (putsOf l d PH)) (.returned (.int .i64 ((stPut l d (putsOf l d PH)).2.2:Nat))) w5):=Lib.hid ⟨rfl,F5,FD5,hF5,hm5,hF5a,hF5b⟩
  have hX5:=hm5.heap HX4.out (fun h=>by
   rcases h with (h|h)|h
   ·have:=HH.out.fs.log.lt _ h;omega
   ·have:=HH.out.fs.disk.lt _ h;omega
   ·exact HG4X.out h)
  have q5:w5.cell? ⟨w1.heap.size,2,none⟩=some (.int .u64 ((xv+1:Nat):Int)):=cell_of hX5 rfl
  have HPST:=Lib.hid (Pst.of_post HH.out HM04.out HG4W.out HP5.out (Mod.refl (fun _=>False) w5) fun r h=>h.elim)
  obtain ⟨cd,hcd⟩: ∃cd,(stPut l d (putsOf l d PH)).2.2=cd:=⟨_,rfl⟩
  rw [hcd]
  have HCD:=Lib.hid hcd
  clear hco hF5 hm5 hF5a hF5b hX5 hcd HP5
  by_cases hc0:cd=0
  ·subst hc0
   go_wp2
   go_ret2
   rw [HPH.out,HCD.out]
   exact ⟨rfl,HPST.out⟩
  ·have hz:((cd:Int) !=0)=true:=by simp;omega
   have HC0:=Lib.hid hc0
   clear hc0
   go_wp2
   go_ret2
   rw [HPH.out,HCD.out]
   exact ⟨(retT_no HC0.out).symm,HPST.out⟩
 ·have hco:=fcommit_bad hC4 he
  have hz:((err:Int) !=0)=true:=by simp;omega
  have HE:=Lib.hid he
  clear hC4 he
  go_wp2_with fail
  refine hco.mono ?_
  rintro e w5 ⟨rfl,hw⟩
  obtain rfl:=hw.symm
  clear hw hco
  go_wp2
  go_ret2
  exact .inr ⟨HE.out,rfl,HM04.out.below (Nat.le_refl _) fun y hy hg=>absurd hy (Nat.not_lt.2 (HG4W.out y hg))⟩
end
section
variable {w w':World} {F FD:Nat→Prop} {s g p:Nat} {l:Lg} {d:Dsk} {M:Sm}
theorem of_file {f:Int×Int} (h:(M.of f 2).2=0): ∃j,(M.of f 2).1=j∧1≤j∧j<41∧f=((j:Int),((M.N j).gen:Int))∧(M.N j).kind=2:=by
 obtain ⟨h1,h2⟩:=of_0 h
 obtain ⟨h3,h4,h5, -⟩:=there_some h1
 exact ⟨_,rfl,h3,h4,h5,h2⟩
theorem EmptyTo.lt {n i:Nat} {T T':Nat→Bool} {H H':Nat→Option (List Nat)} {bl bl':List Nat} (hs:EmptyTo n T H bl i T' H' bl') (hl: ∀p∈bl,p<4096): ∀p∈bl',p<4096:=by
 induction hs with
 | z=>exact hl
 | s _ _ hr ih=>
  intro p hp
  cases hr with
  | no=>exact ih p hp
  | yes=>
   rcases List.mem_or_eq_of_mem_set hp with h|h
   ·exact ih p h
   ·omega
theorem retT_eq (v c:Nat):retT v c= .returned (.tuple #[.int .u64 ((if c=0 then v else 0:Nat):Int), .int .i64 (c:Nat)]):=by
 unfold retT
 by_cases h:c=0
 ·rw [if_pos h,if_pos h,h]
  rfl
 ·rw [if_neg h,if_neg h]
  rfl
set_option maxRecDepth 20000 in
theorem fturned_ok {w0:World} {G:Nat→Prop} {c:Nat} {T:Nat→Bool} {H:Nat→Option (List Nat)} (h:SAt w0 F FD s g p l d M) (hm0:Mod G w0 w) (hG: ∀b,G b→w0.heap.size≤b) (hC:ChAt w G c s (l.homes d) T H 0) (hQ:d.Q.length≤999900000) (hchk:(l.check d).2.2=0→(l.check d).1.ok (l.check d).2.1) (j:Nat) (hj:j<41) (gen:Int) (x:Ino) (hf:x.fits) (hr:x.right=true) (hk:x.kind=2) (hv:x.ver<1099511627775)
  {PH:Nat→Option (List Nat)} (hPH:putH (putH H (1+j) (Ino.sec ⟨2,x.gen,x.ver+1,x.bl⟩)) 1 (mapSec T)=PH) (hck:ChOk (l.homes d) (putH H (1+j) (Ino.sec ⟨2,x.gen,x.ver+1,x.bl⟩)) 14):
  Calls Tryz.prog 83 #[.pointer (some ⟨c,0,none⟩), .agg #[.int .i64 (j:Nat), .int .i64 gen], .agg (inoC x)] w
  fun e w'=> ∃cd rv:Nat,(stPut l d (putsOf l d PH)).2.2=cd∧(if cd=0 then x.ver+1 else 0)=rv∧e= .returned (.tuple #[.int .u64 (rv:Nat), .int .i64 (cd:Nat)])∧Pst w0 F FD s g p l d PH w':=by
 subst hPH
 refine (fturned_any h hm0 hG hC hQ hchk j hj gen x hf hr hk hv fun _=>hck).mono ?_
 rintro e w' (⟨-,rfl,hP⟩|⟨h0, -⟩)
 ·exact ⟨_,_,rfl,rfl,retT_eq _ _,hP⟩
 ·exact absurd rfl h0
structure TruncYes (M:Sm) (f:Int×Int) (v:Nat) (M':Sm):Prop where
 of:(M.of f 2).2=0
 ver:v=(M.N (M.of f 2).1).ver+1
 N:M'.N=Fm.upd M.N (M.of f 2).1 {M.N (M.of f 2).1 with D:=List.replicate 8 emp,ver:=(M.N (M.of f 2).1).ver+1}
 rcd:M'.rcd=M.rcd
set_option maxRecDepth 20000 in
set_option maxHeartbeats 8000000 in
theorem ftruncate_any (h:SAt w F FD s g p l d M) (hQ:d.Q.length≤999900000) (hchk:(l.check d).2.2=0→(l.check d).1.ok (l.check d).2.1) (hv: ∀j,(M.N j).ver<1099511627775) (f:Int×Int):
  Calls Tryz.prog 34 #[.pointer (some ⟨s,0,none⟩), .agg #[.int .i64 f.1, .int .i64 f.2]] w
  fun e w'=> ∃v,ChgR w F FD s g p l d (fun c=>c=(M.of f 2).2) (TruncYes M f v) (retT v) e w':=by
 obtain ⟨w1,hw1⟩: ∃w1,w.alloc (.cells #[.int .i64 f.1, .int .i64 f.2] 33)=w1:=⟨_,rfl⟩
 have hb1:Below w.heap.size w w1:=by rw [←hw1];exact (Below.refl _ _).alloc (Nat.le_refl _) _
 have hX1:w1.heap[w.heap.size]?=some (.cells #[.int .i64 f.1, .int .i64 f.2] 33 (0,0)):=by rw [←hw1];exact heap_alloc_at
 have h1:=h.below hb1
 have hagf:=aggFl f.1 f.2
 have hLF:Lies w1 w.heap.size 0 #[.int .i64 f.1, .int .i64 f.2]:=lies_of hX1
 have hkn:=fkind_any h1 f 2 (by decide)
 simp only [show ((2:Nat):Int)=2 from rfl] at hkn
 have HB1:=Lib.hid hb1
 have HX1:=Lib.hid hX1
 have HH:=Lib.hid h
 have H1:=Lib.hid h1
 have HQ:=Lib.hid hQ
 have HCHK:=Lib.hid hchk
 have HV:=Lib.hid hv
 clear h hb1 hX1 h1 hQ hchk hv
 go_enter Tryz.func34,Tryz.ntmps34
 go_upto_region 1 with fail
 simp only [hw1] at*
 clear hw1
 go_wp2_with (first
  | ((with_reducible refine wpList_loadA hagf hLF ?_ ?_);rfl;go_frame)
  | fail)
 refine hkn.mono ?_
 rintro e w2 ⟨⟨x,hx8,hx0,rfl⟩,hb2⟩
 have hagx:=aggI hx8
 have honex:=inoC_one x
 have hszx:=inoC_size hx8
 obtain ⟨w3,hw3⟩: ∃w3,w2.alloc (.cells (inoC x) 52)=w3:=⟨_,rfl⟩
 have hb3:Below w2.heap.size w2 w3:=by rw [←hw3];exact (Below.refl _ _).alloc (Nat.le_refl _) _
 have hX3:w3.heap[w2.heap.size]?=some (.cells (inoC x) 52 (0,0)):=by rw [←hw3];exact heap_alloc_at
 have hb13:=hb2.trans (hb3.mono hb2.size)
 have HX3:=Lib.hid hX3
 have HB3:=Lib.hid (HB1.out.trans (hb13.mono HB1.out.size))
 have H3:=Lib.hid (H1.out.below hb13)
 have HF3:=Lib.hid ((hb13.block _ (lt_of_block HX1.out)).trans HX1.out)
 have HX8:=Lib.hid hx8
 have HX0:=Lib.hid hx0
 have hxb:w.heap.size<w2.heap.size:=Nat.lt_of_lt_of_le (lt_of_block HX1.out) hb2.size
 have HXB:=Lib.hid hxb
 clear hkn hb2 hb3 hX3 hb13 hLF hx8 hx0 hxb
 go_upto_region 2 with (first
  | ((with_reducible refine wpList_storeA_new hagx ?_ honex ?_ ?_ ?_);(rw [hszx];rfl);rfl;rfl;go_frame)
  | fail)
 simp only [hw3] at*
 clear hw3
 by_cases hc:(M.of f 2).2=0
 ·obtain ⟨j,hj,hj1,hj41,hfe,hk2⟩:=of_file hc
  obtain rfl:=HX0.out hc
  rw [hj] at HX3 HX8 hagx honex hszx
  rw [hc]
  have HC:=Lib.hid hc
  have HJ:=Lib.hid hj
  have HFE:=Lib.hid hfe
  have HK2:=Lib.hid hk2
  have hch:=fchange_any H3.out.fs H3.out.ok (by have:=HH.out.rep.n1;omega) HH.out.rep.n2 HH.out.rep.taken.1
  rw [rep_T HH.out.rep] at hch
  clear hc hj hfe hk2 HX0
  go_wp2_with fail
  refine hch.mono ?_
  rintro e w4 ⟨cc,G,rfl,hC4,hb4,hG4⟩
  have HX4:=Lib.hid ((hb4.block _ (lt_of_block HX3.out)).trans HX3.out)
  have HF4:=Lib.hid ((hb4.block _ (lt_of_block HF3.out)).trans HF3.out)
  have HC4:=Lib.hid hC4
  have HG4:=Lib.hid hG4
  have HB4:=Lib.hid (HB3.out.trans (hb4.mono HB3.out.size))
  have hxG:¬ G w2.heap.size:=fun hg=>by have:=hG4 _ hg;have:=lt_of_block HX3.out;omega
  have hfG:¬ G w.heap.size:=fun hg=>by have:=hG4 _ hg;have:=lt_of_block HF3.out;omega
  have HXG:=Lib.hid hxG
  have HFG:=Lib.hid hfG
  clear hch hC4 hb4 hG4 hxG hfG
  go_wp2
  go_loopw [21] (fun iv wi=> ∃(i:Nat) (T1:Nat→Bool) (H1:Nat→Option (List Nat)) (b1:List Nat),i≤8∧iv= .int .i64 i∧EmptyTo (l.homes d) (takenP M.P) (fun _=>none) (M.P j) i T1 H1 b1∧b1.length=8∧ChAt wi G cc s (l.homes d) T1 H1 0∧wi.heap[w2.heap.size]?=some (.cells (inoC {M.ino j with bl:=b1}) 52 (0,0))∧Mod (fun y=>G y∨y=w2.heap.size) w4 wi) (fun iv _=>8-(intOf iv).toNat)
  case atStart=>exact ⟨0,takenP M.P,fun _=>none,M.P j,by omega,rfl, .z,HX8.out,HC4.out,HX4.out,Mod.refl _ _⟩
  case round=>
   obtain ⟨i,T1,H1',b1,hi8,rfl,hE,hl,hCi,hXi,hmi⟩:=hrel
   have HE:=Lib.hid hE
   have HL:=Lib.hid hl
   have HCI:=Lib.hid hCi
   have HXI:=Lib.hid hXi
   have HMI:=Lib.hid hmi
   clear hE hl hCi hXi hmi
   by_cases hlt:i<8
   ·have hlt':(i:Int)<8:=by omega
    obtain ⟨q,hq⟩: ∃q,b1[i]?=some q:=⟨_,List.getElem?_eq_getElem (by rw [HL.out];exact hlt)⟩
    have hem:=fempty_any HCI.out HXI.out HXG.out hlt hq
    have HQI:=Lib.hid hq
    clear hq
    go_wp2_with fail
    refine hem.mono ?_
    rintro e w5 ⟨rfl,T2,H2,b2,hE2,hC5,hX5,hm5⟩
    have HE2:=Lib.hid hE2
    have HC5:=Lib.hid hC5
    have HX5:=Lib.hid hX5
    have HM5:=Lib.hid hm5
    clear hem hE2 hC5 hX5 hm5
    go_wp2
    go_roundw
    case rel=>exact ⟨i+1,T2,H2,b2,by omega,by go_num, .s HE.out HQI.out HE2.out,HE2.out.len.trans HL.out,HC5.out,HX5.out,HMI.out.trans HM5.out (fun _ h=>h) fun _ _ h=>h⟩
    case measure=>simp only [intOf];omega
   ·obtain rfl:i=8:=by omega
    obtain ⟨hrep,hck⟩:=trunc_rep HH.out.rep ⟨hj1,hj41⟩ HK2.out (HV.out j) HE.out
    have hFi:=HMI.out.heap HF4.out (fun h=>h.elim HFG.out fun e=>by have:=HXB.out;omega)
    rw [HFE.out] at hFi
    have hLFi:=lies_of hFi
    have hLXi:=lies_of HXI.out
    have hagf2:=aggFl (j:Int) ((M.N j).gen:Int)
    have hx8i:({M.ino j with bl:=b1}:Ino).bl.length=8:=HL.out
    have hagx2:=aggI hx8i
    have hmw:Mod G w wr:=(((HB4.out.trans ((Mod.below (B:=w.heap.size) HMI.out HB4.out.size fun y hy h=>h.elim (fun hg=>by have:=HG4.out y hg;have:=HB3.out.size;omega) fun e=>by have:=HXB.out;omega))):Below w.heap.size w wr) |> modB).mono fun _ _ h=>h.elim
    have hGw: ∀b,G b→w.heap.size≤b:=fun b hb=>Nat.le_trans HB3.out.size (HG4.out b hb)
    have hfit:=HH.out.rep.fits j
    obtain ⟨PH,hPH⟩: ∃PH,putH (putH H1' (1+j) (Ino.sec ⟨2,(M.N j).gen,(M.N j).ver+1,b1⟩)) 1 (mapSec T1)=PH:=⟨_,rfl⟩
    have hck15:ChOk (l.homes d) PH 15:=by
     rw [←hPH]
     exact hck.put (by have:=HH.out.rep.n1;omega) (mapSec_sec T1)
    have HCK:=Lib.hid hck15
    rw [hPH] at hrep
    have htu:=fturned_ok HH.out hmw hGw HCI.out HQ.out HCHK.out j hj41 ((M.N j).gen:Int) {M.ino j with bl:=b1} ⟨hfit.kind,hfit.gen,hfit.ver,HL.out,fun q hq=>by
     have:q<4096:=HE.out.lt (fun q hq=>hfit.bl q hq) q hq
     omega⟩ (by show Ino.right ⟨(M.N j).kind,_,_,_⟩=true;rw [HK2.out];rfl) HK2.out (HV.out j) hPH hck
    have HREP:=Lib.hid hrep
    have HPH:=Lib.hid hPH
    have HB40:=HB4.out.size
    rw [show ((j:Nat):Int)=(j:Int) from rfl] at htu
    clear hFi hmw hGw hfit hrep hck hx8i hPH hck15
    go_wp2_with (first
     | ((with_reducible refine wpList_loadA hagf2 hLFi ?_ ?_);rfl;go_frame)
     | ((with_reducible refine wpList_loadA hagx2 hLXi ?_ ?_);rfl;go_frame)
     | fail)
    refine htu.mono ?_
    rintro e w5 ⟨cd,rv,hcd,hrv,rfl,hP⟩
    have HCD:=Lib.hid hcd
    have HRV:=Lib.hid hrv
    have HP:=Lib.hid hP
    clear htu hcd hrv hP hLFi hLXi
    go_wp2
    go_ret2
    refine ⟨(M.N j).ver+1, .inr ⟨PH,_,HCK.out,⟨1,mapSec T1,by rw [←HPH.out];exact putH_at _ _ _⟩,HREP.out,⟨HC.out,by rw [HJ.out],by rw [HJ.out],rfl⟩,?_,HP.out⟩⟩
    rw [HCD.out,retT_eq]
    have:=HRV.out
    simp only [Sm.ino] at this
    rw [this]
    rfl
 ·have hc0:(M.of f 2).2≠0:=hc
  obtain ⟨cd,hcd⟩: ∃cd,(M.of f 2).2=cd:=⟨_,rfl⟩
  rw [hcd] at hc0 ⊢
  have hz:((cd:Int) !=0)=true:=by simp;omega
  have HC0:=Lib.hid hc0
  have HCD:=Lib.hid hcd
  clear hc hc0 hcd
  go_wp2
  go_ret2
  exact ⟨0, .inl ⟨cd,HC0.out,HCD.out.symm,(retT_no HC0.out).symm,HB3.out⟩⟩
end
end Go.Proofs.YtjdbbnhnbdocbaaGreat
