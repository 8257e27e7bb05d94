import Derived.Test.YtjdbbnhnbdocbaaGreatMgGon32
import Derived.Test.YtjdbbnhnbdocbaaGreatMgGon18
namespace Go.Proofs.YtjdbbnhnbdocbaaGreat
open Go.RowKit Go.Tn Go.Tn.Bt Go.Tn.Lp Go.Tn.Dk Go.Tn.Ino
def mapSec (T:Nat→Bool):List Nat:=(List.range 128).map (Al.by8 T)
theorem mapSec_sec (T:Nat→Bool):secB (mapSec T):=⟨by simp [mapSec],fun x hx=>by
 obtain ⟨i, -,rfl⟩:=List.mem_map.1 hx
 exact Al.by8_lt T i⟩
theorem mapSec_rd {w:World} {b:Nat} {T:Nat→Bool} (h:w.heap[b]?=some (.cells (Al.bytesArr T) 5 (0,0))):LRd en8 1 b w (.slice (some ⟨b,0,none⟩) 128 128) (mapSec T):=by
 refine ⟨⟨some ⟨b,0,none⟩,128,by simp [mapSec],by simp [mapSec],by unfold maxLen;decide,fun _=>⟨b,0,rfl,lt_of_block h,fun i x hi=> ?_⟩⟩,fun r hr=>(by cases hr;exact Nat.le_refl _),fun r hr=>(by cases hr;exact lt_of_block h)⟩
 have hi128:i<128:=by have:=(List.getElem?_eq_some_iff.1 hi).1;simpa [mapSec] using this
 have hx:x=Al.by8 T i:=by
  unfold mapSec at hi
  rw [List.getElem?_map,List.getElem?_range hi128] at hi
  exact (Option.some.inj hi).symm
 subst hx
 intro j hj
 have hj0:j=0:=by simpa using hj
 subst hj0
 have:=cell_of h (Al.bytesArr_get T hi128)
 simpa using this
def listB (H:Nat→Option (List Nat)) (ks:List Nat):List Pt:=ks.map fun (k:Nat)=>((k:Int),(H k).getD [])
section
variable {w w':World} {G:Nat→Prop} {c s n:Nat} {T:Nat→Bool} {H:Nat→Option (List Nat)} {err:Nat}
def PtsG (w:World) (G:Nat→Prop) (B:Nat) (v:Value) (ps:List Pt):Prop:= ∃xs:List (Pt×Sv),xs.map (·.1)=ps∧LOut enPt 2 187 B w v xs∧ ∀x∈xs,LSl en8 1 w (sv x.2) x.1.2∧ ∀r,(sv x.2).ownBlock=some r→G r∧r<w.heap.size
theorem PtsG.b {B:Nat} {v:Value} {ps:List Pt} {S:Nat→Prop} (h:PtsG w G B v ps) (h1: ∀b,S b→b<B) (h2: ∀b,S b→¬ G b):PtB w S v ps:=by
 obtain ⟨xs,e1,e2,e3⟩:=h
 exact ⟨xs,e1,e2.sl elPt.len,fun r hr=>⟨fun e=>by have:=h1 r e;have:=e2.lo r hr;omega,e2.lt hr⟩,fun x hx=>⟨(e3 x hx).1,fun r hr=>⟨fun e=>h2 r e ((e3 x hx).2 r hr).1,((e3 x hx).2 r hr).2⟩⟩⟩
set_option maxRecDepth 20000 in
set_option maxHeartbeats 4000000 in
theorem flist_any (h:ChAt w G c s n T H err) {l:Lg} {d:Dsk} (hok:({l with H:=putH H 1 (mapSec T)}:Lg).ok d) (hd:d.ok):Calls Tryz.prog 138 #[.pointer (some ⟨c,0,none⟩)] w
  fun e w'=> ∃v G',e= .returned v∧ChAt w' G' c s n T (putH H 1 (mapSec T)) err∧Mod G w w'∧(∀b,G' b→G b∨w.heap.size≤b)∧PtsG w' G' w.heap.size v (listB (putH H 1 (mapSec T)) (({l with H:=putH H 1 (mapSec T)}:Lg).keys d)):=by
 have HC:=Lib.hid h
 have HOK:=Lib.hid hok
 have HD:=Lib.hid hd
 obtain ⟨m,mm,L,clk,k1,k2,k3,k4,k5,k6,k7,k8⟩:=h.ex
 have hby:=Al.bytes_any w.drew m n T (Al.MapAt.drew k2)
 have q1:w.drew.cell? ⟨c,1,none⟩=some (.pointer (some ⟨m,0,none⟩)):=cell_of (w:=w) (o:=1) k1 rfl
 have q2:w.drew.cell? ⟨c,2,none⟩=some (.map (some mm)):=cell_of (w:=w) (o:=2) k1 rfl
 have hS:=And.intro q1 q2
 clear h hok hd
 go_enter Tryz.func138,Tryz.ntmps138
 go_upto_region 1 with fail
 refine wp_region_x (fun w'=>w'.cell? ⟨c,1,none⟩=some (.pointer (some ⟨m,0,none⟩))∧w'.cell? ⟨c,2,none⟩=some (.map (some mm))) [(0,1),(1,1),(2,1),(3,0),(4,1),(5,1),(6,1),(7,0),(8,2),(9,3)] (by kernel_rfl) (by kernel_rfl) (by intro d v c a w h;cases d<;>exact h) ?_
 iterate 3 (refine x_take rfl (fun K hK=> ?_);go_simp;refine hK _ ?_;clear hK K)
 refine x_read rfl hS (fun w' h=>exec_load1 ⟨⟨_,Tryz.underlying118,rfl⟩⟩ rfl h.2) ?_
 iterate 3 (refine x_take rfl (fun K hK=> ?_);go_simp;refine hK _ ?_;clear hK K)
 refine x_read rfl hS (fun w' h=>exec_load1 ⟨⟨_,Tryz.underlying47,rfl⟩⟩ rfl h.1) ?_
 refine x_show' rfl (fun K hK=> ?_)
 go_simp
 refine hby.mono ?_
 rintro e w2 ⟨bs,rfl,hbs,hbl,hb2⟩
 have hcl:=HC.out.lt c HC.out.gc
 have hb2':Below w.heap.size w w2:=(Below.refl _ _).drew.trans hb2
 have hk1:=(hb2'.block c hcl).trans k1
 have hS2:w2.cell? ⟨c,1,none⟩=some (.pointer (some ⟨m,0,none⟩))∧w2.cell? ⟨c,2,none⟩=some (.map (some mm)):=⟨cell_of (o:=1) hk1 rfl,cell_of (o:=2) hk1 rfl⟩
 refine hK _ _ hS2 ?_
 clear hK K hby hS
 have hmm:=(hb2'.block mm (HC.out.lt mm k3.fm)).trans k3.blk
 obtain ⟨w3,hr3,hh3,hwf3,hm3⟩:=exec_mapUpd (P:=Tryz.prog) keyI Tryz.underlying118 hmm k3.wf ((1:Nat):Int) (.slice (some ⟨bs,0,none⟩) 128 128)
 refine x_skip rfl (hr3 _ _ _ _ _ _ _ _ _ rfl rfl rfl) ?_
 refine x_nil ?_
 have hch:=ChAt.more HC.out k1 k2 k3 k4 k5 k6 k7 k8 hb2' ((mapSec_rd hbs).mono (Nat.zero_le _)) (fun r hr=>by cases hr;exact hbl) hh3 hwf3 hm3
 have hmd:Mod G w w3:=((Mod.of_below hb2').mono (T:=G) fun x hx hS=>absurd hx (Nat.not_lt.2 hS)).trans hm3 (fun x hx=>hx) (fun x _ (hx:x=mm)=>hx ▸ k3.fm)
 have HCH:=Lib.hid hch
 have HMD:=Lib.hid hmd
 have hsz3:w.heap.size≤w3.heap.size:=hmd.size
 clear k1 k2 k3 k4 k5 k6 k7 k8 q1 q2 hbs hbl hb2 hb2' hk1 hS2 hmm hr3 hh3 hwf3 hm3 hch hmd
 generalize hGG:(fun x=>G x∨(w.heap.size≤x∧x<w3.heap.size))=G3 at HCH
 have hG3: ∀b,G3 b→G b∨w.heap.size≤b:=fun b hb=>by
  rw [←hGG] at hb
  exact hb.imp id fun h=>h.1
 clear hGG
 obtain ⟨m3,mm3,L3,clk3,k1,k2,k3,k4,k5,k6,k7,k8⟩:=HCH.out.ex
 obtain ⟨ks,hks⟩: ∃ks,({l with H:=putH H 1 (mapSec T)}:Lg).keys d=ks:=⟨_,rfl⟩
 have hkc:=keys_call w3 mm3
 have hsc:=hkeys_any (l:={l with H:=putH H 1 (mapSec T)}) HOK.out HD.out k3
 rw [hks] at hsc
 have p2:=cell_of (o:=2) k1 rfl
 have hmem: ∀k∈ks,k<4096∧ ∃b,putH H 1 (mapSec T) k=some b:=fun k hk=>by
  rw [←hks] at hk
  have:=mem_keys hk
  have h2:=HD.out.hi
  unfold Lg.homes at this
  exact ⟨by omega,this.2⟩
 have hkl:ks.length≤4096:=by
  rw [←hks]
  unfold Lg.keys
  refine Nat.le_trans (List.length_filter_le _ _) ?_
  rw [List.length_range]
  have h2:=HD.out.hi
  unfold Lg.homes
  omega
 have HKS:=Lib.hid hks
 have K1:=Lib.hid k1
 have K3:=Lib.hid k3
 have HMEM:=Lib.hid hmem
 have HG3:=Lib.hid hG3
 clear k1 k2 k3 k4 k5 k6 k7 k8 hks hmem hG3
 go_wp2_with (first
  | (go_at_call 186;refine hkc.mono ?_;rintro e wk ⟨rfl,hw⟩;subst hw;clear hkc)
  | fail)
 refine hsc.mono ?_
 rintro e w4 ⟨v4,rfl,hO4,hb4⟩
 obtain ⟨a4,n4,c4,rfl⟩:=hO4.shape
 have hkl0:=hO4.sl elI.len
 obtain ⟨_,_,hv4,_⟩:=hkl0
 obtain ⟨-,rfl, -⟩:a4=_∧n4=(ks.map fun (k:Nat)=>(k:Int)).length∧c4=_:=by simpa using hv4
 rw [List.length_map] at hO4 ⊢
 have HO4:=Lib.hid hO4
 have HB4:=Lib.hid hb4
 have hkl63:(ks.length:Int)≤4096:=by omega
 clear hsc hO4 hb4 hv4
 have hb34:Below w3.heap.size w3 w4:=HB4.out
 have hL4:=HCH.out.below hb34
 have K34:=Lib.hid (K3.out.kept hb34.size fun b hb=>hb34.block b (HCH.out.lt b hb))
 have K14:=Lib.hid ((hb34.block c (HCH.out.lt c HCH.out.gc)).trans K1.out)
 have HL4:=Lib.hid hL4
 have hO0:LOut enPt 2 187 w4.heap.size w4 (.slice none 0 0) ([]:List (Pt×Sv)):=LOut.nil (Nat.le_refl _)
 have HO0:=Lib.hid hO0
 clear hb34 hL4 hO0 K3 K1
 go_wp2_with fail
 go_loopw [3,22] (fun ov iv wi=> ∃k:Nat,k≤ks.length∧iv= .int .i64 k∧Below w4.heap.size w4 wi∧ ∃xs:List (Pt×Sv),xs.map (·.1)=listB (putH H 1 (mapSec T)) (ks.take k)∧LOut enPt 2 187 w4.heap.size wi ov xs∧ ∀x∈xs,LSl en8 1 w4 (sv x.2) x.1.2∧ ∀r,(sv x.2).ownBlock=some r→G3 r∧r<w4.heap.size) (fun _ iv _=>ks.length-(intOf iv).toNat)
 case atStart=>exact ⟨0,Nat.zero_le _,rfl,Below.refl _ _, [],rfl,HO0.out,fun x hx=>absurd hx (by simp)⟩
 case round=>
  obtain ⟨k,hk,rfl,hbe,xs,hxs,hO,hX⟩:=hrel
  by_cases hkl':k<ks.length
  ·have hkli:(k:Int)<(ks.length:Int):=by omega
   obtain ⟨i,hi⟩: ∃i,ks[k]?=some i:=⟨_,List.getElem?_eq_getElem hkl'⟩
   obtain ⟨hi4,b,hib⟩:=HMEM.out i (List.mem_of_getElem? hi)
   obtain ⟨e0,he0,he1⟩:=K34.out.all i (by rw [hib];simp)
   obtain ⟨i',hi1,b',hb',hrd,hown⟩:=K34.out.key e0 he0
   obtain rfl:i'=i:=by omega
   rw [hib] at hb'
   obtain rfl:=Option.some.inj hb'
   have hget:=get_of_mem K34.out.wf he0
   rw [he1] at hget
   obtain ⟨ao,cap,hav, -⟩:=hrd.sl
   rw [hav] at hget hrd hown
   have hgd:getD ((i':Nat):Int) L3 (.slice none 0 0)= .slice ao b.length cap:=by unfold getD;rw [hget];rfl
   have hxi:(ks.map fun (k:Nat)=>(k:Int))[k]?=some (i':Int):=by rw [List.getElem?_map,hi];rfl
   obtain ⟨b3,o3,cap3,hv3,hb3,hl3⟩:=(HO4.out.sl elI.len).at_ hxi
   obtain ⟨rfl,rfl⟩:a4=some ⟨b3,o3,none⟩∧c4=cap3:=by simpa using hv3
   have hl4:=hl3.below' hbe hb3
   have q0:wr.cell? ⟨b3,o3+k,none⟩=some (.int .i64 (i':Nat)):=by
    have:=hl4 0 (by simp)
    simpa using this
   have hkc:=(hbe.block c (HL4.out.lt c HL4.out.gc)).trans K14.out
   have p2:=cell_of (o:=2) hkc rfl
   have hmp:=(hbe.block mm3 (lt_of_block K34.out.blk)).trans K34.out.blk
   have hlk:xs.length≤1000000000:=by
    have:=congrArg List.length hxs
    simp only [List.length_map,listB,List.length_take] at this
    omega
   have hxn:(xs++ [(((((i':Nat):Int),b):Pt),((ao,b.length,cap):Sv))]).map (·.1)=listB (putH H 1 (mapSec T)) (ks.take (k+1)):=by
    rw [List.map_append,hxs,List.take_add_one,hi]
    simp [listB,hib]
   have hXn: ∀x∈xs++ [(((((i':Nat):Int),b):Pt),((ao,b.length,cap):Sv))],LSl en8 1 w4 (sv x.2) x.1.2∧ ∀r,(sv x.2).ownBlock=some r→G3 r∧r<w4.heap.size:=fun x hx=>by
    rcases List.mem_append.1 hx with hx|hx
    ·exact hX x hx
    ·rw [List.mem_singleton.1 hx]
     exact ⟨hrd.sl,fun r hr=>⟨(hown r hr).1,hrd.lt r hr⟩⟩
   have HBE:=Lib.hid hbe
   have HO:=Lib.hid hO
   have HXN:=Lib.hid hxn
   have HXX:=Lib.hid hXn
   have hi63:(i':Int)≤4096:=by omega
   clear hbe hxs hO hX hi hib he0 he1 hi1 hrd hown hget hav hxi hv3 hl3 hl4 hkc hxn hXn
   go_wp2_with (first
    | ((with_reducible refine wpList_exec rfl (exec_lookup keyI Tryz.underlying118 zeroB hmp ?_ ((i':Nat):Int) ?_) ?_);rfl;rfl;(rw [hgd]);go_frame)
    | ((with_reducible refine wpList_append1Y elPt HO.out ((((i':Nat):Int),b),(ao,b.length,cap)) hlk ?_ ?_ ?_ ?_);rfl;rfl;rfl;(intro v9 w9 hO9 hm9 hv9;have HO9:=Lib.hid hO9;have HM9:=Lib.hid hm9;clear hO9 hm9 hv9);go_frame)
    | fail)
   go_roundw
   case rel=>exact ⟨k+1,by omega,by go_num,HBE.out.trans (HM9.out.below HBE.out.size fun x hx e=>absurd (HO.out.lo x e) (Nat.not_le.2 hx)),_,HXN.out,HO9.out,HXX.out⟩
   case measure=>simp [intOf];omega
  ·obtain rfl:k=ks.length:=by omega
   have hdn:decide (ks.length<ks.length)=false:=by simp
   rw [List.take_length] at hxs
   have HBE:=Lib.hid hbe
   have HO:=Lib.hid hO
   have HXS:=Lib.hid hxs
   have HX:=Lib.hid hX
   clear hbe hO hxs hX
   go_wp2
   go_ret
   have hb3r:Below w3.heap.size w3 wr:=HB4.out.trans (HBE.out.mono HB4.out.size)
   refine ⟨_,G3,rfl,HCH.out.below hb3r,HMD.out.trans ((Mod.of_below hb3r).mono (T:=G) fun x hx hS=>absurd hx (Nat.not_lt.2 hS)) (fun x h=>h) (fun x _ h=>h),HG3.out,xs,by rw [HKS.out];exact HXS.out,HO.out.mono (Nat.le_trans hsz3 HB4.out.size),fun x hx=>⟨(HX.out x hx).1.below HBE.out,fun r hr=>⟨((HX.out x hx).2 r hr).1,Nat.lt_of_lt_of_le ((HX.out x hx).2 r hr).2 HBE.out.size⟩⟩⟩
end
section
variable {w w':World} {F FD G:Nat→Prop} {s g p:Nat} {l:Lg} {d:Dsk} {c n:Nat} {T:Nat→Bool} {H:Nat→Option (List Nat)}
def FPostG (w:World) (F FD G:Nat→Prop) (s g p:Nat) (r:Lg×Dsk×Nat) (e:Ending) (w':World):Prop:=e= .returned (.int .i64 (r.2.2:Nat))∧ ∃F' FD',Fs w' F' FD' s g p r.1 r.2.1∧Mod (fun b=>(F b∨FD b)∨G b) w w'∧(∀b,F' b→F b∨w.heap.size≤b)∧ ∀b,FD' b→FD b∨w.heap.size≤b
set_option maxRecDepth 20000 in
set_option maxHeartbeats 2000000 in
theorem fcommit_any (hF:Fs w F FD s g p l d) (hC:ChAt w G c s n T H 0) (hdis: ∀b,F b∨FD b→¬ G b) (hs:¬ G s) (hok:l.ok d) (hokH:({l with H:=putH H 1 (mapSec T)}:Lg).ok d) (hQ:d.Q.length≤999900000)
  (hok2:(l.write d (listB (putH H 1 (mapSec T)) (({l with H:=putH H 1 (mapSec T)}:Lg).keys d))).2.2=8→(l.check d).2.2=0→(l.check d).1.ok (l.check d).2.1):
  Calls Tryz.prog 79 #[.pointer (some ⟨c,0,none⟩)] w fun e w'=>FPostG w F FD G s g p (stPut l d (listB (putH H 1 (mapSec T)) (({l with H:=putH H 1 (mapSec T)}:Lg).keys d))) e w':=by
 have hd4:d.L.length≤4096:=hF.disk.ok.hi
 have hls:=flist_any (w:=w.drew) (hC.below (Below.refl _ _).drew) hokH hF.disk.ok
 have hby: ∀q∈listB (putH H 1 (mapSec T)) (({l with H:=putH H 1 (mapSec T)}:Lg).keys d), ∀x∈q.2,x<256:=fun q hq=>by
  unfold listB at hq
  obtain ⟨k,hk,rfl⟩:=List.mem_map.1 hq
  obtain ⟨-,b,hb⟩:=mem_keys hk
  have hb:putH H 1 (mapSec T) k=some b:=hb
  simp only [hb,Option.getD_some]
  exact (hokH.H k b hb).2.2
 have hln:(listB (putH H 1 (mapSec T)) (({l with H:=putH H 1 (mapSec T)}:Lg).keys d)).length≤100000:=by
  unfold listB Lg.keys
  rw [List.length_map]
  refine Nat.le_trans (List.length_filter_le _ _) ?_
  rw [List.length_range]
  unfold Lg.homes
  omega
 generalize listB (putH H 1 (mapSec T)) (({l with H:=putH H 1 (mapSec T)}:Lg).keys d)=ps at*
 obtain ⟨m,mm,L,clk,k1, -⟩:=hC.ex
 have p3:=cell_of (o:=3) k1 rfl
 have p0:w.drew.cell? ⟨c,0,none⟩=some (.pointer (some ⟨s,0,none⟩)):=cell_of (w:=w) (o:=0) k1 rfl
 have HF:=Lib.hid hF
 have HC:=Lib.hid hC
 have HDIS:=Lib.hid hdis
 have HNS:=Lib.hid hs
 have HOK:=Lib.hid hok
 have HOK2:=Lib.hid hok2
 have HBY:=Lib.hid hby
 clear hF hC hdis hs hok hokH hok2 hby k1
 go_enter Tryz.func79,Tryz.ntmps79
 go_upto_region 3 with fail
 refine wp_region_x (fun w'=>w'.cell? ⟨c,0,none⟩=some (.pointer (some ⟨s,0,none⟩))) [(0,1),(1,1),(2,1),(3,0),(4,1),(5,2),(6,2),(7,1)] (by kernel_rfl) (by kernel_rfl) (by intro d v c a w h;cases d<;>exact h) ?_
 iterate 3 (refine x_take rfl (fun K hK=> ?_);go_simp;refine hK _ ?_;clear hK K)
 refine x_read rfl p0 (fun w' h=>exec_load1 ⟨⟨_,Tryz.underlying29,rfl⟩⟩ rfl h) ?_
 iterate 1 (refine x_take rfl (fun K hK=> ?_);go_simp;refine hK _ ?_;clear hK K)
 refine x_show' rfl (fun K hK=> ?_)
 go_simp
 refine hls.mono ?_
 rintro e w2 ⟨v,G2,rfl,hC2,hm2,hG2,hP2⟩
 have hm2:Mod G w w2:=(Mod.refl G w).drew.trans hm2 (fun x h=>h) (fun x _ h=>h)
 have hG2: ∀b,G2 b→G b∨w.heap.size≤b:=hG2
 have hP2:PtsG w2 G2 w.heap.size v ps:=hP2
 obtain ⟨m2,mm2,L2,clk2,k2, -⟩:=hC2.ex
 have p02:=cell_of (o:=0) k2 rfl
 refine hK _ _ p02 ?_
 clear hK K hls p0 k2
 have hFlt: ∀b,F b∨FD b→b<w.heap.size:=fun b hb=>by
  rcases hb with h|h
  ·exact HF.out.log.lt b h
  ·exact HF.out.disk.lt b h
 have hF2:Fs w2 F FD s g p l d:=HF.out.mod hm2 (fun b h=>HDIS.out b (.inl h)) (fun b h=>HDIS.out b (.inr h)) HNS.out
 have hPB:=hP2.b (S:=fun b=>F b∨FD b) hFlt fun b hb hg=>by
  rcases hG2 b hg with h|h
  ·exact HDIS.out b hb h
  ·have:=hFlt b hb;omega
 have hwr:=fwrite_any hF2 HOK.out v ps hPB HBY.out hln hQ HOK2.out
 refine x_show' rfl (fun K hK=> ?_)
 go_simp
 refine hwr.mono ?_
 rintro e w3 ⟨rfl,F3,FD3,hF3,hm3,h13,h23⟩
 have hcF:¬ (F c∨FD c):=fun h=>HDIS.out c h HC.out.gc
 have p03:=cell_mod p02 hm3 hcF
 refine hK _ _ p03 ?_
 clear hK K hwr p02 p03
 iterate 1 (refine x_take rfl (fun K hK=> ?_);go_simp;refine hK _ ?_;clear hK K)
 refine x_nil ?_
 have HP:Hid (FPostG w F FD G s g p (stPut l d ps) (.returned (.int .i64 ((stPut l d ps).2.2:Nat))) w3):=Lib.hid ⟨rfl,F3,FD3,hF3,hm2.trans hm3 (fun x h=> .inr h) (fun x _ h=> .inl h),fun b hb=>(h13 b hb).imp id fun h=>Nat.le_trans hm2.size h,fun b hb=>(h23 b hb).imp id fun h=>Nat.le_trans hm2.size h⟩
 clear hF3 hm3 h13 h23 hF2 hPB hm2 hG2 hP2 hC2
 go_wp2
 go_ret
 exact HP.out
end
end Go.Proofs.YtjdbbnhnbdocbaaGreat
namespace Go.Tn.Ino
def Ino.root:Ino:=⟨1,1,0, [0,0,0,0,0,0,0,0]⟩
theorem Ino.root_fits:Ino.root.fits:=⟨by decide,by decide,by decide,rfl,by decide⟩
end Go.Tn.Ino
namespace Go.Proofs.YtjdbbnhnbdocbaaGreat
open Go.RowKit Go.Tn Go.Tn.Bt Go.Tn.Lp Go.Tn.Dk Go.Tn.Ino
def T42:Nat→Bool:=fun i=>decide (i<42)
def fmtPs:List Pt:= [(1,mapSec T42),(2,Ino.root.sec)]
theorem built_root:Tryz.prog.built 52 [(0, .int .i64 1),(1, .int .i64 1)]=some (inoC Ino.root):=by kernel_rfl
theorem fmt_keys {l:Lg} {d:Dsk} (hn:46≤l.homes d):listB (putH (putH (fun _=>none) 2 Ino.root.sec) 1 (mapSec T42)) (({l with H:=putH (putH (fun _=>none) 2 Ino.root.sec) 1 (mapSec T42)}:Lg).keys d)=fmtPs:=by
 have hk:(({l with H:=putH (putH (fun _=>none) 2 Ino.root.sec) 1 (mapSec T42)}:Lg).keys d)= [1,2]:=by
  have hh:({l with H:=putH (putH (fun _=>none) 2 Ino.root.sec) 1 (mapSec T42)}:Lg).homes d=3+(l.homes d-3):=by
   show l.homes d=_
   omega
  unfold Lg.keys
  rw [hh,List.range_add,List.filter_append]
  have h1:(List.range 3).filter (fun k=>(putH (putH (fun _=>none) 2 Ino.root.sec) 1 (mapSec T42) k).isSome)= [1,2]:=by
   rw [show List.range 3= [0,1,2] from rfl]
   simp [putH]
  have h2:(((List.range (l.homes d-3)).map (3+ ·)).filter fun k=>(putH (putH (fun _=>none) 2 Ino.root.sec) 1 (mapSec T42) k).isSome)= []:=by
   rw [List.filter_eq_nil_iff]
   intro k hk
   obtain ⟨j, -,rfl⟩:=List.mem_map.1 hk
   unfold putH
   rw [if_neg (by omega),if_neg (by omega)]
   simp
  rw [h1,h2]
  rfl
 rw [hk]
 simp [listB,putH,fmtPs]
section
variable {w w':World} {F FD:Nat→Prop} {s g p:Nat} {l:Lg} {d:Dsk}
theorem fmt_okH (hok:l.ok d) (hn:46≤l.homes d):({l with H:=putH (putH (fun _=>none) 2 Ino.root.sec) 1 (mapSec T42)}:Lg).ok d:=
 ⟨hok.n2,hok.nd,hok.epoch,hok.gen,hok.tail,hok.next,hok.small,hok.err,fun k b hb=>by
  have hb:putH (putH (fun _=>none) 2 Ino.root.sec) 1 (mapSec T42) k=some b:=hb
  have hh:({l with H:=putH (putH (fun _=>none) 2 Ino.root.sec) 1 (mapSec T42)}:Lg).homes d=l.homes d:=rfl
  rw [hh]
  unfold putH at hb
  split at hb
  ·rw [←Option.some.inj hb]
   exact ⟨by omega,mapSec_sec _⟩
  ·split at hb
   ·rw [←Option.some.inj hb]
    exact ⟨by omega,by unfold Ino.sec;exact sector_len (by rw [Ino.bits_len rfl];decide),sector_lt _⟩
   ·cases hb⟩
set_option maxRecDepth 20000 in
set_option maxHeartbeats 4000000 in
theorem fformat_any (hF:Fs w F FD s g p l d) (hok:l.ok d) (hn:46≤l.homes d) (h1024:l.homes d≤1024) (ht:takenB (l.home d 1) (l.homes d)) (hQ:d.Q.length≤999900000)
  (hok2:(l.write d fmtPs).2.2=8→(l.check d).2.2=0→(l.check d).1.ok (l.check d).2.1):Calls Tryz.prog 50 #[.pointer (some ⟨s,0,none⟩)] w fun e w'=>FPost w F FD s g p (stPut l d fmtPs) e w':=by
 have hho:=homes_any hF.log hF.disk hok.nd
 have c0:=hF.c
 have HF:=Lib.hid hF
 have HOK:=Lib.hid hok
 have HT:=Lib.hid ht
 have HOK2:=Lib.hid hok2
 clear hF hok ht hok2
 go_enter Tryz.func50,Tryz.ntmps50
 go_wp2_with fail
 refine hho.mono ?_
 rintro e w2 ⟨rfl,hb2⟩
 have hnw:=Al.new_any w2 (l.homes d) (by omega) h1024
 have HB2:=Lib.hid hb2
 clear hho hb2
 go_wp2_with fail
 refine hnw.mono ?_
 rintro e w3 ⟨rfl,hw3⟩
 have hM3:Al.MapAt w3 w2.heap.size (l.homes d) (fun _=>false):=by rw [hw3];exact Al.MapAt.new (by omega) h1024
 have hb3:Below w2.heap.size w2 w3:=by rw [hw3];exact (Below.refl _ _).alloc (Nat.le_refl _) _
 generalize hmz:w2.heap.size=mz at*
 have hwm:w.heap.size≤mz:=by have:=HB2.out.size;omega
 have HB3:Hid (Below w.heap.size w w3):=Lib.hid (HB2.out.trans (hb3.mono hwm))
 have HM3:=Lib.hid hM3
 clear hnw hw3 hM3 hb3
 go_wp2_with fail
 go_loopw [19] (fun iv wi=> ∃i:Nat,i≤42∧iv= .int .i64 i∧Al.MapAt wi mz (l.homes d) (fun j=>decide (j<i))∧Below w.heap.size w wi) (fun iv _=>42-(intOf iv).toNat)
 case atStart=>exact ⟨0,by omega,rfl,by simpa using HM3.out,HB3.out⟩
 case round=>
  obtain ⟨i,hi,rfl,hM,hbe⟩:=hrel
  by_cases hi42:i<42
  ·have hi':(i:Int)<42:=by omega
   have hhd:=Al.hold_any wr mz (l.homes d) _ hM (i:Int)
   have hTn:Al.holdT (l.homes d) (fun j=>decide (j<i)) (i:Int)=fun j=>decide (j<i+1):=by
    unfold Al.holdT
    rw [if_pos ⟨by omega,by omega⟩]
    funext j
    unfold Go.Tn.Bits.setB
    rw [Int.toNat_natCast]
    by_cases hj:j=i
    ·rw [if_pos hj,hj]
     exact (decide_eq_true (Nat.lt_succ_self i)).symm
    ·rw [if_neg hj]
     exact decide_eq_decide.2 (by omega)
   rw [hTn] at hhd
   have HBE:=Lib.hid hbe
   clear hM hbe hTn
   go_wp2_with fail
   refine hhd.mono ?_
   rintro e w4 ⟨rfl,hM4,hm4⟩
   have HM4:=Lib.hid hM4
   have HB4:=Lib.hid (HBE.out.trans (hm4.below HBE.out.size fun x hx e=>by omega))
   clear hhd hM4 hm4
   generalize Al.holdA (l.homes d) (fun j=>decide (j<i)) (i:Int)=hz at*
   go_wp2
   go_roundw
   case rel=>exact ⟨i+1,by omega,by go_num,HM4.out,HB4.out⟩
   case measure=>simp [intOf];omega
  ·obtain rfl:i=42:=by omega
   have hFr:=HF.out.below hbe
   have hch:=fchange_any hFr HOK.out (by omega) h1024 HT.out
   have HBE:=Lib.hid hbe
   have HM:=Lib.hid hM
   have HFR:=Lib.hid hFr
   have hml:=hM.lt
   clear hM hbe hFr
   go_wp2_with fail
   refine hch.mono ?_
   rintro e w4 ⟨c,G,rfl,hC4,hb4,hG4⟩
   obtain ⟨m4,mm,L,clk,k1,k2,k3,k4,k5,k6,k7,k8⟩:=hC4.ex
   have q0:=cell_of (o:=1) k1 rfl
   have hfz:w4.frozen? ⟨c,1,none⟩=false:=free_of k1
   have hcw:=hG4 c hC4.gc
   have hmw:=hG4 mm k3.fm
   have hcl4:=hC4.lt c hC4.gc
   have hmod:=(Mod.refl (fun x=>x=c) w4).setCell ⟨c,1,none⟩ (.pointer (some ⟨mz,0,none⟩)) (fun _=>rfl)
   have hC5:ChAt (w4.setCell ⟨c,1,none⟩ (.pointer (some ⟨mz,0,none⟩))) (fun x=>G x∨x=mz) c s (l.homes d) T42 (fun _=>none) 0:=by
    refine ⟨⟨mz,mm,L,clk,?_,((HM.out.below hb4 hml).mod hmod (by omega):Al.MapAt _ mz (l.homes d) T42),?_,by omega,k5,by omega, .inr rfl,fun e he=> ?_⟩, .inl hC4.gc,fun b hb=> ?_⟩
    ·rw [heap_setCell_at k1]
     rfl
    ·refine ⟨hmod.heap k3.blk (fun e=>k5 e),k3.wf,fun e he=> ?_,fun k hk=>absurd rfl hk, .inl k3.fm⟩
     obtain ⟨k, -,b,hb, -⟩:=k3.key e he
     cases hb
    ·obtain ⟨k, -,b,hb, -⟩:=k3.key e he
     cases hb
    ·have h1:=hmod.size
     have h2:=hb4.size
     rcases hb with hb|hb
     ·exact Nat.lt_of_lt_of_le (hC4.lt b hb) h1
     ·omega
   have hb45:Below w.heap.size w (w4.setCell ⟨c,1,none⟩ (.pointer (some ⟨mz,0,none⟩))):=HBE.out.trans ((hb4.mono HBE.out.size).trans (hmod.below (Nat.le_trans HBE.out.size hb4.size) fun x hx e=>by have:=HBE.out.size;omega))
   have hG5: ∀b,G b∨b=mz→w.heap.size≤b:=fun b hb=>by
    rcases hb with hb|hb
    ·exact Nat.le_trans HBE.out.size (hG4 b hb)
    ·omega
   generalize hw5:w4.setCell ⟨c,1,none⟩ (.pointer (some ⟨mz,0,none⟩))=w5 at*
   have hse:=fsetinode_any hC5 1 (by decide) Ino.root Ino.root_fits rfl
   rw [show ((1:Nat):Int)=1 from rfl] at hse
   have HB45:=Lib.hid hb45
   have HG5:=Lib.hid hG5
   clear hch hC4 hb4 hG4 k1 k2 k3 k4 k5 k6 k7 k8 hC5 hb45 hG5 HM HFR hmod hmw hcl4 hcw
   have hbr:=built_root
   go_upto_region 11 with fail
   clear hw5
   go_wp2_with (first
    | ((with_reducible refine wpList_exec rfl (exec_buildA (vals:= [(0, .int .i64 1),(1, .int .i64 1)]) ?_ hbr) ?_);rfl;go_frame)
    | fail)
   refine hse.mono ?_
   rintro e w6 ⟨rfl,G6,hC6,hm6,hG6⟩
   have hb06:Below w.heap.size w w6:=HB45.out.trans (hm6.below HB45.out.size fun x hx e=>absurd (HG5.out x e) (Nat.not_le.2 hx))
   have hG6': ∀b,G6 b→w.heap.size≤b:=fun b hb=>by
    rcases hG6 b hb with h|h
    ·exact HG5.out b h
    ·exact Nat.le_trans HB45.out.size h
   have hF6:=HF.out.below hb06
   have hFlt: ∀b,F b∨FD b→b<w.heap.size:=fun b hb=>by
    rcases hb with h|h
    ·exact HF.out.log.lt b h
    ·exact HF.out.disk.lt b h
   have hkeys:=fmt_keys (l:=l) (d:=d) hn
   have hcm:=fcommit_any hF6 hC6 (fun b hb hg=>absurd (hG6' b hg) (Nat.not_le.2 (hFlt b hb))) (fun hg=>absurd (hG6' s hg) (Nat.not_le.2 (lt_of_block HF.out.blk))) HOK.out (fmt_okH HOK.out hn) hQ (by rw [hkeys];exact HOK2.out)
   rw [hkeys] at hcm
   have HB6:=Lib.hid hb06
   have HG6:=Lib.hid hG6'
   clear hse hC6 hm6 hG6 hb06 hG6' hF6 hFlt hkeys hbr
   go_wp2_with fail
   refine hcm.mono ?_
   rintro e w7 ⟨rfl,F7,FD7,hF7,hm7,h17,h27⟩
   have HP:Hid (FPost w F FD s g p (stPut l d fmtPs) (.returned (.int .i64 ((stPut l d fmtPs).2.2:Nat))) w7):=Lib.hid ⟨rfl,F7,FD7,hF7,((Mod.of_below HB6.out).mono (T:=fun b=>F b∨FD b) fun x hx hS=>absurd hx (Nat.not_lt.2 hS)).trans hm7 (fun x h=>h) (fun x hx h=>h.elim id fun h=>absurd (HG6.out x h) (Nat.not_le.2 hx)),fun b hb=>(h17 b hb).imp id fun h=>Nat.le_trans HB6.out.size h,fun b hb=>(h27 b hb).imp id fun h=>Nat.le_trans HB6.out.size h⟩
   clear hcm hF7 hm7 h17 h27
   go_wp2
   go_ret
   exact HP.out
end
def soundB (l:Lg) (d:Dsk):Prop:=takenB (l.home d 1) (l.homes d)∧ ∀i,i<40→inoOf (l.home d (2+i))≠none
section
variable {w w':World} {F FD:Nat→Prop} {s g p:Nat} {l:Lg} {d:Dsk}
theorem decI_some {B:List Nat} (h:inoOf B≠none): ∃x,decI (inoOf B)= .tuple #[.agg (inoC x), .int .i64 0]∧x.bl.length=8:=by
 cases hq:inoOf B with
 | none=>exact absurd hq h
 | some x=>
  refine ⟨x,rfl,?_⟩
  unfold inoOf at hq
  split at hq
  ·cases hq
   exact (inoAt_fits B).len
  ·cases hq
set_option maxRecDepth 20000 in
set_option maxHeartbeats 4000000 in
theorem fsound_any (hF:Fs w F FD s g p l d) (hok:l.ok d) (hn:46≤l.homes d) (h1024:l.homes d≤1024) (hs:soundB l d):Calls Tryz.prog 51 #[.pointer (some ⟨s,0,none⟩)] w fun e w'=>e= .returned (.int .i64 0)∧Below w.heap.size w w':=by
 have htk:=ftaken_any hF hok (by omega) h1024
 have HF:=Lib.hid hF
 have HOK:=Lib.hid hok
 have HS:=Lib.hid hs
 clear hF hok hs
 go_enter Tryz.func51,Tryz.ntmps51
 go_wp2_with fail
 refine htk.mono ?_
 rintro e w2 ⟨hy, -,hb2⟩
 obtain ⟨m,rfl, -, -⟩:=hy HS.out.1
 have HB2:=Lib.hid hb2
 clear htk hy hb2
 go_wp2_with fail
 go_loopw [16] (fun iv wi=> ∃i:Nat,i≤40∧iv= .int .i64 i∧Below w.heap.size w wi) (fun iv _=>40-(intOf iv).toNat)
 case atStart=>exact ⟨0,by omega,rfl,HB2.out⟩
 case round=>
  obtain ⟨i,hi,rfl,hbe⟩:=hrel
  by_cases hi40:i<40
  ·have hi':(i:Int)<40:=by omega
   have hin:=finode_any (HF.out.below hbe) HOK.out (1+i) (by omega)
   obtain ⟨x,hx,hx8⟩:=decI_some (HS.out.2 i hi40)
   rw [show 1+(1+i)=2+i by omega,hx,show ((1+i:Nat):Int)=1+(i:Int) from Int.natCast_add 1 i] at hin
   have hag:=aggI hx8
   have hone:=inoC_one x
   have hsz11:=inoC_size hx8
   have HBE:=Lib.hid hbe
   clear hbe hx
   go_wp2_with fail
   refine hin.mono ?_
   rintro e w3 ⟨rfl,hb3⟩
   have HB3:Hid (Below w.heap.size w (w3.alloc (.cells (inoC x) 52))):=Lib.hid ((HBE.out.trans (hb3.mono HBE.out.size)).alloc (Nat.le_trans HBE.out.size hb3.size) _)
   clear hin hb3
   go_wp2_with (first
    | ((with_reducible refine wpList_storeA_new hag ?_ hone ?_ ?_ ?_);(rw [hsz11];rfl);rfl;rfl;go_frame)
    | fail)
   go_roundw
   case rel=>exact ⟨i+1,by omega,by go_num,HB3.out⟩
   case measure=>simp [intOf];omega
  ·obtain rfl:i=40:=by omega
   have HBE:=Lib.hid hbe
   clear hbe
   go_wp2
   go_ret
   exact ⟨rfl,HBE.out⟩
end
def FOpen (w:World) (FD:Nat→Prop) (p:Nat) (l:Lg) (d:Dsk) (e:Ending) (w':World):Prop:= ∃s g F FD',e= .returned (.tuple #[.pointer (some ⟨s,0,none⟩), .int .i64 0])∧Fs w' F FD' s g p l d∧Mod FD w w'∧(∀b,F b→w.heap.size≤b)∧(∀b,FD' b→FD b∨w.heap.size≤b)∧w.heap.size≤s
section
variable {w w':World} {FD:Nat→Prop} {p:Nat} {l:Lg} {d:Dsk}
set_option maxRecDepth 20000 in
set_option maxHeartbeats 4000000 in
theorem fopen_any (hd:DAt w FD p d) (n:Nat) (h20:20≤n) (h46:n+48≤d.L.length) (h1024:d.L.length≤n+1026) (hn4:n≤4096) (hf:newestB d (2+n)<16777215) (hl:openB d n=some l) (hok:l.ok d) (hrn:l.n=n) (hQ:d.Q.length≤999900000) (x:Ino) (hx:inoOf (l.home d 2)=some x) (l':Lg) (d':Dsk)
  (hr:(x.kind≠0∧l'=l∧d'=d)∨(x.kind=0∧takenB (l.home d 1) (l.homes d)∧(l.write d fmtPs).2.2≠8∧stPut l d fmtPs=(l',d',0)∧l'.ok d'∧l'.homes d'=l.homes d)) (hs:soundB l' d'):
  Calls Tryz.prog 12 #[.pointer (some ⟨p,0,none⟩), .int .i64 n] w fun e w'=>FOpen w FD p l' d' e w':=by
 have hop:=open_main hd n (by omega) (by omega) hn4 hf l hl
 have hsz:=fun w' (h:DAt w' FD p d)=>size_any h
 have hho:l.homes d=d.L.length-2-n:=by unfold Lg.homes;rw [hrn]
 have hx8:x.bl.length=8:=by
  unfold inoOf at hx
  split at hx
  ·cases hx
   exact (inoAt_fits _).len
  ·cases hx
 have z0:((d.L.length:Int)==0)=false:=beq_eq_false_iff_ne.2 (by omega)
 have z1:(n:Int)≤4096:=by omega
 have z2:(20:Int)≤(n:Int):=by omega
 have z3:(n:Int)+48≤(d.L.length:Int):=by omega
 have z4:(d.L.length:Int)≤(n:Int)+1026:=by omega
 have HD:=Lib.hid hd
 have HOK:=Lib.hid hok
 have HX:=Lib.hid hx
 have HR:=Lib.hid hr
 have HS:=Lib.hid hs
 have HSZ:=Lib.hid hsz
 have HHO:=Lib.hid hho
 clear hd hf hl hok hx hr hs hsz hho h20 h46 h1024 hn4
 go_enter Tryz.func12,Tryz.ntmps12
 go_wp2_with fail
 refine hop.mono ?_
 rintro e w2 ⟨g,F,rfl,hL2,hb2,hG2⟩
 have hD2:=HD.out.below hb2
 have hs2:=HSZ.out _ hD2
 have hap: ∀b,F b→¬ FD b:=fun b h1 h2=>absurd (HD.out.lt b h2) (Nat.not_lt.2 (hG2 b h1))
 have HL2:=Lib.hid hL2
 have HD2:=Lib.hid hD2
 have HAP:=Lib.hid hap
 have HB2:=Lib.hid hb2
 have HG2:=Lib.hid hG2
 clear hop hL2 hD2 hap hb2 hG2
 go_wp2_with (first
  | (go_at_call 48;refine hs2.mono ?_;rintro e wt ⟨rfl,hw⟩;obtain rfl:=hw.symm;clear hw)
  | fail)
 have hb3:Below w2.heap.size w2 (w2.alloc (.cells #[.pointer (some ⟨g,0,none⟩)] 84)):=(Below.refl _ _).alloc (Nat.le_refl _) _
 have hF3:Fs (w2.alloc (.cells #[.pointer (some ⟨g,0,none⟩)] 84)) F FD w2.heap.size g p l d:=
  ⟨heap_alloc_at,HL2.out.below hb3,HD2.out.below hb3,HAP.out,fun h=>absurd (HL2.out.lt _ h) (Nat.lt_irrefl _),fun h=>absurd (HD2.out.lt _ h) (Nat.lt_irrefl _)⟩
 have hin:=finode_any hF3 HOK.out 1 (by have:=HHO.out;omega)
 rw [show 1+1=2 from rfl,HX.out,show ((1:Nat):Int)=1 from rfl] at hin
 have HB3:Hid (Below w.heap.size w (w2.alloc (.cells #[.pointer (some ⟨g,0,none⟩)] 84))):=Lib.hid (HB2.out.trans (hb3.mono HB2.out.size))
 have hsw:w.heap.size≤w2.heap.size:=HB2.out.size
 generalize hw3:w2.alloc (.cells #[.pointer (some ⟨g,0,none⟩)] 84)=w3 at*
 generalize hss:w2.heap.size=s at*
 have HF3:=Lib.hid hF3
 clear hF3 hb3 HL2 HD2 hs2 hw3
 have hag:=aggI hx8
 have hone:=inoC_one x
 have hsz11:=inoC_size hx8
 have hdx:decI (some x)= .tuple #[.agg (inoC x), .int .i64 0]:=rfl
 rw [hdx] at hin
 go_wp2_with fail
 refine hin.mono ?_
 rintro e w4 ⟨rfl,hb4⟩
 have hb5:Below w3.heap.size w3 (w4.alloc (.cells (inoC x) 52)):=hb4.alloc hb4.size _
 have hF5:=HF3.out.below hb5
 have q0:(w4.alloc (.cells (inoC x) 52)).cell? ⟨w4.heap.size,0,none⟩=some (.int .i64 (x.kind:Nat)):=cell_of heap_alloc_at (inoC_0 x)
 have HB5:Hid (Below w.heap.size w (w4.alloc (.cells (inoC x) 52))):=Lib.hid (HB3.out.trans (hb5.mono HB3.out.size))
 clear hin hb4 hb5 hdx
 go_upto_region 12 with (first
  | ((with_reducible refine wpList_storeA_new hag ?_ hone ?_ ?_ ?_);(rw [hsz11];rfl);rfl;rfl;go_frame)
  | fail)
 generalize w4.alloc (.cells (inoC x) 52)=w5 at*
 have HFl:Hid (∀b,F b→w.heap.size≤b):=HG2
 rcases HR.out with ⟨hk,rfl,rfl⟩|⟨hk,ht,hw8,hst,hok',hho'⟩
 ·have hkne:((x.kind:Int)==0)=false:=beq_eq_false_iff_ne.2 (by omega)
  have hso:=fsound_any hF5 HOK.out (by have:=HHO.out;omega) (by have:=HHO.out;omega) HS.out
  have HF5:=Lib.hid hF5
  clear hF5
  go_wp2_with fail
  refine hso.mono ?_
  rintro e w6 ⟨rfl,hb6⟩
  have HF6:=Lib.hid (HF5.out.below hb6)
  have HB6:=Lib.hid (HB5.out.trans (hb6.mono HB5.out.size))
  clear hso hb6
  go_wp2
  go_ret2
  exact ⟨s,g,F,FD,rfl,HF6.out,(Mod.of_below HB6.out).mono fun x hx hS=>absurd hx (Nat.not_lt.2 hS),HFl.out,fun b h=> .inl h,hsw⟩
 ·have hkeq:((x.kind:Int)==0)=true:=by rw [hk];rfl
  have hfm:=fformat_any hF5 HOK.out (by have:=HHO.out;omega) (by have:=HHO.out;omega) ht hQ (fun h8=>absurd h8 hw8)
  rw [hst] at hfm
  have HT:=Lib.hid hho'
  have HO':=Lib.hid hok'
  clear hF5 ht hw8 hst hok' hho' hk
  go_wp2_with fail
  refine hfm.mono ?_
  rintro e w6 ⟨rfl,F6,FD6,hF6,hm6,h16,h26⟩
  have hso:=fsound_any hF6 HO'.out (by rw [HT.out];have:=HHO.out;omega) (by rw [HT.out];have:=HHO.out;omega) HS.out
  have HF6:=Lib.hid hF6
  have HM6:=Lib.hid hm6
  have H16:=Lib.hid h16
  have H26:=Lib.hid h26
  clear hfm hF6 hm6 h16 h26
  go_wp2_with fail
  refine hso.mono ?_
  rintro e w7 ⟨rfl,hb7⟩
  have HF7:=Lib.hid (HF6.out.below hb7)
  have HB7:=Lib.hid hb7
  clear hso hb7
  go_wp2
  go_ret2
  have hm:=(((Mod.of_below HB5.out).mono (T:=FD) fun x hx hS=>absurd hx (Nat.not_lt.2 hS)).trans HM6.out (fun x h=>h) (fun x hx h=>h.elim (fun h=>absurd (HFl.out x h) (Nat.not_le.2 hx)) id)).trans (Mod.of_below HB7.out) (T:=FD) (fun x h=>h) (fun x hx h=>absurd (Nat.lt_of_lt_of_le hx (Nat.le_trans HB5.out.size HM6.out.size)) (Nat.not_lt.2 h))
  exact ⟨s,g,F6,FD6,rfl,HF7.out,hm,fun b h=>(H16.out b h).elim (HFl.out b) (fun h=>Nat.le_trans HB5.out.size h),fun b h=>(H26.out b h).imp id fun h=>Nat.le_trans HB5.out.size h,hsw⟩
end
end Go.Proofs.YtjdbbnhnbdocbaaGreat
namespace Go.Proofs.YtjdbbnhnbdocbaaGreat
open Go.RowKit Go.Tn Go.Tn.Bt Go.Tn.Lp Go.Tn.Dk
theorem kput {n i:Nat} {l:Lg} {d:Dsk} (h:KLive n i l d [homesB l d]) (hi:i≤900) {ps:List Pt} (ht:transB ps (l.homes d)=true) (hb: ∀p∈ps, ∀x∈p.2,x<256) (hN:cutN (recB ps)≤n) (hQ:d.Q.length≤900000000):
  (((stPut l d ps).2.2=0∧KLive n (i+2) (stPut l d ps).1 (stPut l d ps).2.1 [overB (homesB l d) ps]∧homesB (stPut l d ps).1 (stPut l d ps).2.1=overB (homesB l d) ps)∨
  ((stPut l d ps).2.2=7∧ ∃S,KDead n (i+2) (stPut l d ps).1 (stPut l d ps).2.1 S∧ ∀x∈S,x=homesB l d∨x=overB (homesB l d) ps))∧
  ((l.write d ps).2.2=8→(l.check d).2.2=0→(l.check d).1.ok (l.check d).2.1):=by
 obtain ⟨hfit,hdok⟩:=h.fitd
 have hep:=h.ep
 have hnx:=h.nx
 have fin: ∀(j:Nat) (l1:Lg) (d1:Dsk) (hs:List (List Nat)),j≤i+2→KLive n j l1 d1 [homesB l d,hs]→homesB l1 d1=hs→hs=overB (homesB l d) ps→
   (((stSync l1 d1).2.2=0∧KLive n (i+2) (stSync l1 d1).1 (stSync l1 d1).2.1 [overB (homesB l d) ps]∧homesB (stSync l1 d1).1 (stSync l1 d1).2.1=overB (homesB l d) ps)∨
   ((stSync l1 d1).2.2=7∧ ∃S,KDead n (i+2) (stSync l1 d1).1 (stSync l1 d1).2.1 S∧ ∀x∈S,x=homesB l d∨x=overB (homesB l d) ps)):=fun j l1 d1 hs hj h1 e1 e2=>by
  have hsy:=klive_sync h1 (sync_dok h1.fitd.2)
  rw [e1,e2] at hsy
  rcases hsy with ⟨s1,s2,s3⟩|⟨s1,s2⟩
  ·exact .inl ⟨s1,s2.mono hj,s3⟩
  ·refine .inr ⟨s1,_,s2.mono hj,fun x hx=> ?_⟩
   simp only [List.mem_cons,List.not_mem_nil,or_false] at hx
   exact hx
 have hc: ∀lx:Lg,lx.epoch≤256*(i+1)+1→lx.next≤100*(i+1)→cutB lx.epoch lx.next (recB ps)= .ok (cutL lx.epoch lx.next (recB ps)):=fun lx h1 h2=>cut_ok ht (by omega) (by omega)
 have hwd:=write_dok (ps:=ps) hfit hdok (by omega)
 rcases klive_write h (by omega) hb hwd with ⟨w0,w1⟩|⟨w0,w1⟩|⟨w0,w7,w2,w3⟩
 ·have e1:=write_homes h.on h.err hfit.n2 ht (hc l (by omega) (by omega)) w0
  rw [stPut_0 w0]
  exact ⟨fin (i+1) _ _ _ (by omega) w1 rfl e1,fun h8=>by rw [w0] at h8;cases h8⟩
 ·rw [stPut_no (by rw [w0];decide) (by rw [w0];decide)]
  refine ⟨.inr ⟨w0,_,w1.mono (by omega),fun x hx=> ?_⟩,fun h8=>by rw [w0] at h8;cases h8⟩
  simp only [List.cons_append,List.nil_append,List.mem_cons,List.not_mem_nil,or_false] at hx
  exact hx
 ·obtain ⟨w8, -⟩:=write_codes h.err ht (hc l (by omega) (by omega)) w0 w7
  have hcd:=check_dok hfit hdok (by omega)
  rw [stPut_8 w8]
  rcases klive_check h (by omega) hcd with ⟨c0,c1,c2⟩|⟨c0,c1⟩
  ·have hcf:=check_free c0
   have hcn:(l.check d).1.n=n:=c1.rn
   have hcfit:=c1.fitd
   have hch:(l.check d).1.homes (l.check d).2.1=l.homes d:=by
    have:=congrArg List.length c2
    rwa [homesB_len,homesB_len] at this
   refine ⟨?_,fun _ _=>KInv.ok (.inl c1) (by omega)⟩
   rw [if_neg (by rw [c0];decide)]
   have ht2:transB ps ((l.check d).1.homes (l.check d).2.1)=true:=by rw [hch];exact ht
   have hQ2:=(lcheck_Q (l:=l) (d:=d) hdok.hi).1
   have hwd2:=write_dok (ps:=ps) hcfit.1 hcfit.2 (by omega)
   have hep2:=c1.ep
   have hnx2:=c1.nx
   have hc2:=hc (l.check d).1 hep2 hnx2
   rw [←c2] at c1
   rcases klive_write c1 (by omega) hb hwd2 with ⟨x0,x1⟩|⟨x0,x1⟩|⟨x0,x7, -⟩
   ·rw [if_pos x0]
    have e1:=write_homes c1.on c1.err hcfit.1.n2 ht2 hc2 x0
    rw [c2] at x1 e1
    exact fin (i+1+1) _ _ _ (by omega) x1 rfl e1
   ·rw [if_neg (by rw [x0];decide)]
    refine .inr ⟨x0,_,x1,fun x hx=> ?_⟩
    rw [c2] at hx
    simp only [List.cons_append,List.nil_append,List.mem_cons,List.not_mem_nil,or_false] at hx
    exact hx
   ·obtain ⟨-,hfr⟩:=write_codes c1.err ht2 hc2 x0 x7
    omega
  ·rw [if_pos (by rw [c0];decide)]
   refine ⟨.inr ⟨c0,_,c1.mono (by omega),fun x hx=> .inl (List.mem_singleton.1 hx)⟩,fun _ h0=>by rw [c0] at h0;cases h0⟩
theorem stSync_quiet {l:Lg} {d:Dsk} (h:Quiet d) (h0:(stSync l d).2.2=0):Quiet (stSync l d).2.1∧(stSync l d).2.1.Q= []:=by
 unfold stSync at h0 ⊢
 simp only at h0 ⊢
 unfold Lg.sync at h0 ⊢
 split
 ·rename_i he
  rw [if_pos he] at h0
  exact absurd h0 he
 ·exact h.flush
theorem put_quiet {l:Lg} {d:Dsk} {ps:List Pt} (h:Quiet d):Quiet (stPut l d ps).2.1∧((stPut l d ps).2.2=0→(stPut l d ps).2.1.Q= []):=by
 have hsy: ∀(l1:Lg) (d1:Dsk),Quiet d1→Quiet (stSync l1 d1).2.1:=fun l1 d1 h1=>h1.sync
 by_cases h0:(l.write d ps).2.2=0
 ·rw [stPut_0 h0]
  exact ⟨hsy _ _ h.write,fun e=>(stSync_quiet h.write e).2⟩
 ·by_cases h8:(l.write d ps).2.2=8
  ·rw [stPut_8 h8]
   split
   ·rename_i hc
    exact ⟨h.check,fun e=>absurd e hc⟩
   ·split
    ·exact ⟨hsy _ _ h.check.write,fun e=>(stSync_quiet h.check.write e).2⟩
    ·rename_i hc
     exact ⟨h.check.write,fun e=>absurd e hc⟩
  ·rw [stPut_no h0 h8]
   exact ⟨h.write,fun e=>absurd e h0⟩
theorem kput_quiet {n i:Nat} {l:Lg} {d:Dsk} (h:KLive n i l d [homesB l d]) (hi:i≤900) (hq:Quiet d) {ps:List Pt} (ht:transB ps (l.homes d)=true) (hb: ∀p∈ps, ∀x∈p.2,x<256) (hN:cutN (recB ps)≤n) (hQ:d.Q.length≤900000000):
  ∃l' d',stPut l d ps=(l',d',0)∧KLive n (i+2) l' d' [homesB l' d']∧homesB l' d'=overB (homesB l d) ps∧Quiet d'∧d'.Q= []∧((l.write d ps).2.2=8→(l.check d).2.2=0→(l.check d).1.ok (l.check d).2.1):=by
 obtain ⟨h1,h2⟩:=kput h hi ht hb hN hQ
 obtain ⟨q1,q2⟩:=put_quiet (l:=l) (ps:=ps) hq
 rcases h1 with ⟨a1,a2,a3⟩|⟨a1,S,a2, -⟩
 ·refine ⟨_,_,?_,?_,a3,q1,q2 a1,h2⟩
  ·rw [←a1]
  ·rw [a3]
   exact a2
 ·have:=a2.off
  rw [q1.calm.on] at this
  cases this
end Go.Proofs.YtjdbbnhnbdocbaaGreat
