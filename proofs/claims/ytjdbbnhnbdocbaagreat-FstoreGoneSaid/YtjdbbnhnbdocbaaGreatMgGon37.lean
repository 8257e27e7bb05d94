import Derived.Test.YtjdbbnhnbdocbaaGreatMgGon36
import Derived.Test.YtjdbbnhnbdocbaaGreatMgGon4
namespace Go.Proofs.YtjdbbnhnbdocbaaGreat
open Go.RowKit Go.Tn Go.Tn.Bt Go.Tn.Lp Go.Tn.Dk Go.Tn.Ino Go.Tn.Dr Go.Tn.Fm Go.Tn.Names
section
variable {w w':World} {G:Nat→Prop} {c s n:Nat} {T:Nat→Bool} {H:Nat→Option (List Nat)} {err:Nat}
theorem ino_place {xb:Nat} {x:Ino} {k q:Nat} (h:w.heap[xb]?=some (.cells (inoC x) 52 (0,0))) (hq:x.bl[k]?=some q):w.cell? ⟨xb,3+k,none⟩=some (.int .i64 (q:Nat)):=by
 refine cell_of h ?_
 unfold inoC inoL
 rw [List.getElem?_toArray,show 3+k=k+3 by omega]
 show (x.bl.map fun p=>Value.int .i64 (p:Nat))[k]?=_
 rw [List.getElem?_map,hq]
 rfl
inductive BlockR (n:Nat) (T:Nat→Bool) (H:Nat→Option (List Nat)) (err:Nat) (bl:List Nat) (i q:Nat) (b:List Nat):(Nat→Bool)→(Nat→Option (List Nat))→Nat→List Nat→Prop
 | old:q≠0→BlockR n T H err bl i q b T (putH H q b) err bl
 | new:q=0→Al.least n T<n→BlockR n T H err bl i q b (Bits.setB T (Al.least n T) true) (putH H (Al.least n T) b) err (bl.set i (Al.least n T))
 | no:q=0→¬ Al.least n T<n→BlockR n T H err bl i q b T H (failE err 8) bl
set_option maxRecDepth 20000 in
set_option maxHeartbeats 8000000 in
theorem fblock_any {m mm clk:Nat} {L:Ents Int} (hc:ChIn w G c s n T H err m mm clk L) {xb:Nat} {x:Ino} (hX:w.heap[xb]?=some (.cells (inoC x) 52 (0,0))) (hxG:¬ G xb) {i q:Nat} (hi:i<8) (hq:x.bl[i]?=some q) (hq2:q<4096) {v:Value} {b:List Nat} (hv:LRd en8 1 0 w v b) (hvG: ∀r,v.ownBlock=some r→(r≠c∧r≠m∧r≠mm)∧r≠xb):
  Calls Tryz.prog 82 #[.pointer (some ⟨c,0,none⟩), .pointer (some ⟨xb,0,none⟩), .int .i64 (i:Nat),v] w
  fun e w'=>e= .returned (.tuple #[])∧ ∃T' H' err' bl' clk' L',BlockR n T H err x.bl i q b T' H' err' bl'∧ChIn w' (fun y=>G y∨v.ownBlock=some y) c s n T' H' err' m mm clk' L'∧w'.heap[xb]?=some (.cells (inoC {x with bl:=bl'}) 52 (0,0))∧Mod (fun y=>(y=c∨y=m∨y=mm)∨y=xb) w w':=by
 have hxc:xb≠c:=fun e=>hxG (e ▸ hc.gc)
 have hxm:xb≠m:=fun e=>hxG (e ▸ hc.gm)
 have hxmm:xb≠mm:=fun e=>hxG (e ▸ hc.hom.fm)
 have q0:=ino_place hX hq
 have fx:w.frozen? ⟨xb,3+i,none⟩=false:=free_of hX
 have p1:=cell_of (o:=1) hc.blk rfl
 have p2:=cell_of (o:=2) hc.blk rfl
 have hi':(i:Int)<8:=by omega
 obtain ⟨av,nv,cv,hvv⟩: ∃a n c,v= .slice a n c:=by
  obtain ⟨ao,cap,rfl, -⟩:=hv.sl
  exact ⟨_,_,_,rfl⟩
 subst hvv
 have HC:=Lib.hid hc
 have HX:=Lib.hid hX
 have HV:=Lib.hid hv
 have HVG:=Lib.hid hvG
 have HXN:=Lib.hid (And.intro hxc (And.intro hxm hxmm))
 have HXG:=Lib.hid hxG
 clear hc hX hv hvG hxc hxm hxmm hxG
 by_cases hq0:q=0
 ·have hqe:((q:Int)==0)=true:=by rw [hq0];rfl
  have htk:=Al.take_any w m n T HC.out.map
  unfold Al.takeV Al.takeT at htk
  have HQ:=Lib.hid hq0
  clear hq0
  by_cases hl:Al.least n T<n
  ·rw [if_pos hl,if_pos hl] at htk
   obtain ⟨pn,hpn⟩: ∃pn,Al.least n T=pn:=⟨_,rfl⟩
   rw [hpn] at htk
   have HPN:=Lib.hid hpn
   have HL:=Lib.hid hl
   clear hpn hl
   go_enter Tryz.func82,Tryz.ntmps82
   go_wp2_with fail
   refine htk.mono ?_
   rintro e w2 ⟨rfl,hM2,hm2⟩
   have hc2:=HC.out.turn hM2 hm2
   have hX2:=hm2.heap HX.out HXN.out.2.1
   have fx2:w2.frozen? ⟨xb,3+i,none⟩=false:=free_of hX2
   have q02:=ino_place hX2 hq
   have HV2:=Lib.hid (HV.out.kept hm2.size fun r hr=>hm2.block r (HV.out.lt r hr) fun e=>(HVG.out r hr).1.2.1 e)
   have HC2:=Lib.hid hc2
   have HX2:=Lib.hid hX2
   have HM2:=Lib.hid hm2
   have p22:=cell_of (o:=2) hc2.blk rfl
   clear htk hM2 hm2 hc2 hX2 q0 fx p1 p2
   go_upto_region 5 with fail
   have hX3:(w2.setCell ⟨xb,3+i,none⟩ (.int .i64 (pn:Nat))).heap[xb]?=some (.cells (inoC {x with bl:=x.bl.set i pn}) 52 (0,0)):=by
    rw [heap_setCell_at HX2.out]
    show some (Obj.cells ((inoC x).setIfInBounds (3+i) (.int .i64 (pn:Nat))) 52 (0,0))=_
    rw [inoC_set]
   have hm3:=(Mod.refl (fun y=>y=xb) w2).setCell ⟨xb,3+i,none⟩ (.int .i64 (pn:Nat)) (fun _=>rfl)
   generalize w2.setCell ⟨xb,3+i,none⟩ (.int .i64 (pn:Nat))=w3 at*
   have hc3:=HC2.out.mod hm3 (fun b hb (e:b=xb)=>HXG.out (e ▸ hb))
   have hv3:=HV2.out.kept hm3.size fun r hr=>hm3.block r (HV2.out.lt r hr) (HVG.out r hr).2
   have q03:=ino_place (k:=i) (q:=pn) hX3 (by rw [List.getElem?_set,if_pos rfl,if_pos (List.getElem?_eq_some_iff.1 hq).1])
   have p23:=cell_of (o:=2) hc3.blk rfl
   have hmm:w3.drew.heap[mm]?=some (.map (ents encI L) clk):=hc3.hom.blk
   obtain ⟨w9,hup,hh9,hwf9,hm9⟩:=exec_mapUpd (w:=w3.drew) keyI Tryz.underlying118 hmm hc3.hom.wf (pn:Int) (.slice av nv cv)
   have hm39:=(Mod.refl (fun x=>x=mm) w3).drew.trans hm9 (fun _ h=>h) fun _ _ h=>h
   have hfin:=hc3.putI hv3 (fun r hr=>(HVG.out r hr).1) hh9 hwf9 hm39
   have HFIN:=Lib.hid hfin
   have HX9:=Lib.hid (hm39.heap hX3 (fun e=>HXN.out.2.2 e))
   have HM:=Lib.hid ((HM2.out.mono (T:=fun y=>(y=c∨y=m∨y=mm)∨y=xb) fun y _ (e:y=m)=> .inl (.inr (.inl e))).trans (hm3.trans hm39 (T:=fun y=>y=xb∨y=mm) (fun _ h=> .inl h) fun _ _ h=> .inr h) (fun _ h=>h) fun y _ h=>h.elim (fun e=> .inr e) fun e=> .inl (.inr (.inr e)))
   clear hh9 hwf9 hm9 hm39 hfin hc3 hv3 hX3 hm3
   have hS:w3.drew.cell? ⟨c,2,none⟩=some (.map (some mm))∧w3.drew.cell? ⟨xb,3+i,none⟩=some (.int .i64 (pn:Nat)):=⟨p23,q03⟩
   refine wp_region_x (fun w'=>w'.cell? ⟨c,2,none⟩=some (.map (some mm))∧w'.cell? ⟨xb,3+i,none⟩=some (.int .i64 (pn:Nat))) [(0,1),(1,1),(2,1),(3,0),(4,1),(5,1),(6,1),(7,1),(8,1),(9,0),(10,1),(11,3)] (by kernel_rfl) (by kernel_rfl) (by intro d v c a w h;cases d<;>exact h) ?_
   iterate 3 (refine x_take rfl (fun K hK=> ?_);go_simp;refine hK _ ?_;clear hK K)
   refine x_read rfl hS (fun w' h=>exec_load1 ⟨⟨_,Tryz.underlying118,rfl⟩⟩ rfl h.1) ?_
   iterate 5 (refine x_take rfl (fun K hK=> ?_);go_simp;refine hK _ ?_;clear hK K)
   refine x_read rfl hS (fun w' h=>exec_load1 ⟨⟨_,Tryz.underlying3,rfl⟩⟩ rfl h.2) ?_
   iterate 1 (refine x_take rfl (fun K hK=> ?_);go_simp;refine hK _ ?_;clear hK K)
   refine x_skip rfl (hup _ _ _ _ _ _ _ _ _ rfl rfl rfl) ?_
   refine x_nil ?_
   clear hS hup hmm
   go_end0
   exact ⟨rfl,_,_,err,_,_,_, .new HQ.out HL.out,by rw [HPN.out];exact HFIN.out,by rw [HPN.out];exact HX9.out,HM.out⟩
  ·rw [if_neg hl,if_neg hl] at htk
   have HL:=Lib.hid hl
   clear hl
   go_enter Tryz.func82,Tryz.ntmps82
   go_wp2_with fail
   refine htk.mono ?_
   rintro e w2 ⟨rfl,hM2,hm2⟩
   have hc2:=HC.out.turn hM2 hm2
   have hfl:=ffailI_any hc2 8
   have HX2:=Lib.hid (hm2.heap HX.out HXN.out.2.1)
   have HM2:=Lib.hid hm2
   have HVL:=Lib.hid (fun r hr=>Nat.lt_of_lt_of_le (HV.out.lt r hr) hm2.size)
   rw [show ((8:Nat):Int)=8 from rfl] at hfl
   clear htk hM2 hm2 hc2 q0 fx p1 p2
   go_wp2_with fail
   refine hfl.mono ?_
   rintro e w3 ⟨rfl,hC3,hm3⟩
   have HC3:=Lib.hid hC3
   have HM3:=Lib.hid hm3
   clear hfl hC3 hm3
   go_wp2
   refine bodyPost_ret (results_none rfl _ _ _) rfl ?_
   refine ⟨rfl,T,H,_,x.bl,clk,L, .no HQ.out HL.out,?_,HM3.out.heap HX2.out (fun e=>HXN.out.1 e),(HM2.out.mono (T:=fun y=>(y=c∨y=m∨y=mm)∨y=xb) fun y _ (e:y=m)=> .inl (.inr (.inl e))).trans HM3.out (fun _ h=>h) fun y _ (e:y=c)=> .inl (.inl e)⟩
   exact HC3.out.wide fun y hy=>Nat.lt_of_lt_of_le (HVL.out y hy) HM3.out.size
 ·have hqe:((q:Int)==0)=false:=by simp;omega
  have HQ:=Lib.hid hq0
  clear hq0
  go_enter Tryz.func82,Tryz.ntmps82
  go_upto_region 5 with fail
  have hmm:w.drew.heap[mm]?=some (.map (ents encI L) clk):=HC.out.hom.blk
  obtain ⟨w9,hup,hh9,hwf9,hm9⟩:=exec_mapUpd (w:=w.drew) keyI Tryz.underlying118 hmm HC.out.hom.wf (q:Int) (.slice av nv cv)
  have hS:w.drew.cell? ⟨c,2,none⟩=some (.map (some mm))∧w.drew.cell? ⟨xb,3+i,none⟩=some (.int .i64 (q:Nat)):=⟨p2,q0⟩
  refine wp_region_x (fun w'=>w'.cell? ⟨c,2,none⟩=some (.map (some mm))∧w'.cell? ⟨xb,3+i,none⟩=some (.int .i64 (q:Nat))) [(0,1),(1,1),(2,1),(3,0),(4,1),(5,1),(6,1),(7,1),(8,1),(9,0),(10,1),(11,3)] (by kernel_rfl) (by kernel_rfl) (by intro d v c a w h;cases d<;>exact h) ?_
  iterate 3 (refine x_take rfl (fun K hK=> ?_);go_simp;refine hK _ ?_;clear hK K)
  refine x_read rfl hS (fun w' h=>exec_load1 ⟨⟨_,Tryz.underlying118,rfl⟩⟩ rfl h.1) ?_
  iterate 5 (refine x_take rfl (fun K hK=> ?_);go_simp;refine hK _ ?_;clear hK K)
  refine x_read rfl hS (fun w' h=>exec_load1 ⟨⟨_,Tryz.underlying3,rfl⟩⟩ rfl h.2) ?_
  iterate 1 (refine x_take rfl (fun K hK=> ?_);go_simp;refine hK _ ?_;clear hK K)
  refine x_skip rfl (hup _ _ _ _ _ _ _ _ _ rfl rfl rfl) ?_
  refine x_nil ?_
  have hfin:=HC.out.putI HV.out (fun r hr=>(HVG.out r hr).1) hh9 hwf9 ((Mod.refl _ w).drew.trans hm9 (fun _ h=>h) fun _ _ h=>h)
  have HFIN:=Lib.hid hfin
  have HM:=Lib.hid ((Mod.refl (fun x=>x=mm) w).drew.trans hm9 (fun _ h=>h) fun _ _ h=>h)
  clear hS hup hh9 hwf9 hm9 hfin hmm
  go_end0
  exact ⟨rfl,T,_,err,x.bl,_,_, .old HQ.out,HFIN.out,HM.out.heap HX.out (fun e=>HXN.out.2.2 e),HM.out.mono fun y _ (e:y=mm)=> .inl (.inr (.inr e))⟩
end
section
variable {w w':World} {G:Nat→Prop} {c s n:Nat} {T:Nat→Bool} {H:Nat→Option (List Nat)} {err:Nat}
inductive EmptyR (n:Nat) (T:Nat→Bool) (H:Nat→Option (List Nat)) (bl:List Nat) (i q:Nat):(Nat→Bool)→(Nat→Option (List Nat))→List Nat→Prop
 | no:q=0→EmptyR n T H bl i q T H bl
 | yes:q≠0→EmptyR n T H bl i q (Al.giveT n T (q:Int)) (delH H q) (bl.set i 0)
set_option maxRecDepth 20000 in
set_option maxHeartbeats 8000000 in
theorem femptyI_any {m mm clk:Nat} {L:Ents Int} (hc:ChIn w G c s n T H err m mm clk L) {xb:Nat} {x:Ino} (hX:w.heap[xb]?=some (.cells (inoC x) 52 (0,0))) (hxG:¬ G xb) {i q:Nat} (hi:i<8) (hq:x.bl[i]?=some q):
  Calls Tryz.prog 81 #[.pointer (some ⟨c,0,none⟩), .pointer (some ⟨xb,0,none⟩), .int .i64 (i:Nat)] w
  fun e w'=>e= .returned (.tuple #[])∧ ∃T' H' bl' L',EmptyR n T H x.bl i q T' H' bl'∧ChIn w' G c s n T' H' err m mm clk L'∧w'.heap[xb]?=some (.cells (inoC {x with bl:=bl'}) 52 (0,0))∧Mod (fun y=>(y=c∨y=m∨y=mm)∨y=xb) w w':=by
 have hxc:xb≠c:=fun e=>hxG (e ▸ hc.gc)
 have hxm:xb≠m:=fun e=>hxG (e ▸ hc.gm)
 have hxmm:xb≠mm:=fun e=>hxG (e ▸ hc.hom.fm)
 have q0:=ino_place hX hq
 have p1:=cell_of (o:=1) hc.blk rfl
 have hi':(i:Int)<8:=by omega
 have HC:=Lib.hid hc
 have HX:=Lib.hid hX
 have HXN:=Lib.hid (And.intro hxc (And.intro hxm hxmm))
 have HXG:=Lib.hid hxG
 clear hc hX hxc hxm hxmm hxG
 by_cases hq0:q=0
 ·have hqe:((q:Int) !=0)=false:=by rw [hq0];rfl
  have HQ:=Lib.hid hq0
  clear hq0
  go_enter Tryz.func81,Tryz.ntmps81
  go_wp2
  go_end0
  exact ⟨rfl,T,H,x.bl,L, .no HQ.out,HC.out,HX.out,Mod.refl _ _⟩
 ·have hqe:((q:Int) !=0)=true:=by simp;omega
  have HQ:=Lib.hid hq0
  have hgv:=Al.give_any w.drew m n T HC.out.map.drew (q:Int)
  clear hq0
  go_enter Tryz.func81,Tryz.ntmps81
  go_upto_region 1 with fail
  have hS:w.drew.cell? ⟨c,1,none⟩=some (.pointer (some ⟨m,0,none⟩))∧w.drew.cell? ⟨xb,3+i,none⟩=some (.int .i64 (q:Nat)):=⟨p1,q0⟩
  refine wp_region_x (fun w'=>w'.cell? ⟨c,1,none⟩=some (.pointer (some ⟨m,0,none⟩))∧w'.cell? ⟨xb,3+i,none⟩=some (.int .i64 (q:Nat))) [(0,1),(1,1),(2,1),(3,0),(4,1),(5,1),(6,1),(7,1),(8,1),(9,0),(10,2)] (by kernel_rfl) (by kernel_rfl) (by intro d v c a w h;cases d<;>exact h) ?_
  iterate 3 (refine x_take rfl (fun K hK=> ?_);go_simp;refine hK _ ?_;clear hK K)
  refine x_read rfl hS (fun w' h=>exec_load1 ⟨⟨_,Tryz.underlying47,rfl⟩⟩ rfl h.1) ?_
  iterate 5 (refine x_take rfl (fun K hK=> ?_);go_simp;refine hK _ ?_;clear hK K)
  refine x_read rfl hS (fun w' h=>exec_load1 ⟨⟨_,Tryz.underlying3,rfl⟩⟩ rfl h.2) ?_
  refine x_show' rfl (fun K hK=> ?_)
  go_simp
  refine hgv.mono ?_
  rintro e w2 ⟨rfl,hM2,hm2⟩
  have hm02:=(Mod.refl (fun x=>x=m) w).drew.trans hm2 (fun _ h=>h) fun _ _ h=>h
  have hc2:=HC.out.turn hM2 hm02
  have hX2:=hm02.heap HX.out HXN.out.2.1
  have q02:=ino_place hX2 hq
  have p12:=cell_of (o:=1) hc2.blk rfl
  have p22:=cell_of (o:=2) hc2.blk rfl
  refine hK _ _ ⟨p12,q02⟩ ?_
  clear hK K
  refine x_nil ?_
  have HC2:=Lib.hid hc2
  have HX2:=Lib.hid hX2
  have HM2:=Lib.hid hm02
  clear hS hgv hM2 hm2 hm02 hc2 hX2 p12 q0 p1
  go_upto_region 2 with fail
  have hmm:w2.drew.heap[mm]?=some (.map (ents encI L) clk):=HC2.out.hom.blk
  have hS:w2.drew.cell? ⟨c,2,none⟩=some (.map (some mm))∧w2.drew.cell? ⟨xb,3+i,none⟩=some (.int .i64 (q:Nat)):=⟨p22,q02⟩
  refine wp_region_x (fun w'=>w'.cell? ⟨c,2,none⟩=some (.map (some mm))∧w'.cell? ⟨xb,3+i,none⟩=some (.int .i64 (q:Nat))) [(0,1),(1,1),(2,1),(3,0),(4,1),(5,1),(6,1),(7,1),(8,1),(9,0),(10,3)] (by kernel_rfl) (by kernel_rfl) (by intro d v c a w h;cases d<;>exact h) ?_
  iterate 3 (refine x_take rfl (fun K hK=> ?_);go_simp;refine hK _ ?_;clear hK K)
  refine x_read rfl hS (fun w' h=>exec_load1 ⟨⟨_,Tryz.underlying118,rfl⟩⟩ rfl h.1) ?_
  iterate 5 (refine x_take rfl (fun K hK=> ?_);go_simp;refine hK _ ?_;clear hK K)
  refine x_read rfl hS (fun w' h=>exec_load1 ⟨⟨_,Tryz.underlying3,rfl⟩⟩ rfl h.2) ?_
  refine x_exec rfl (exec_delete (w:=w2.drew) keyI Tryz.underlying118 hmm rfl (q:Int) rfl) ?_
  refine x_nil ?_
  have hm3:Mod (fun b=>b=mm) w2 (setObjW w2.drew mm (.map (ents encI (Go.Tn.del (q:Int) L)) clk)):=(Mod.refl _ w2).drew.trans (setObjW_mod _ _) (fun x h=>h) (fun x _ h=>h)
  have hat:(setObjW w2.drew mm (.map (ents encI (Go.Tn.del (q:Int) L)) clk)).heap[mm]?=some (.map (ents encI (Go.Tn.del (q:Int) L)) clk):=setObjW_at (lt_of_block hmm)
  generalize setObjW w2.drew mm (.map (ents encI (Go.Tn.del (q:Int) L)) clk)=w3 at*
  have hX3:=hm3.heap HX2.out (fun e=>HXN.out.2.2 e)
  have q03:=ino_place hX3 hq
  have fx3:w3.frozen? ⟨xb,3+i,none⟩=false:=free_of hX3
  have hC3:=HC2.out.less q hat hm3
  have HC3:=Lib.hid hC3
  have HX3:=Lib.hid hX3
  have HM3:=Lib.hid hm3
  clear hS hmm hm3 hat hX3 hC3 q02 p22
  go_wp2
  have hX4:(w3.setCell ⟨xb,3+i,none⟩ (.int .i64 0)).heap[xb]?=some (.cells (inoC {x with bl:=x.bl.set i 0}) 52 (0,0)):=by
   rw [heap_setCell_at HX3.out]
   show some (Obj.cells ((inoC x).setIfInBounds (3+i) (.int .i64 ((0:Nat):Int))) 52 (0,0))=_
   rw [inoC_set]
  have hm4:=(Mod.refl (fun y=>y=xb) w3).setCell ⟨xb,3+i,none⟩ (.int .i64 0) (fun _=>rfl)
  generalize w3.setCell ⟨xb,3+i,none⟩ (.int .i64 0)=w4 at*
  go_end0
  refine ⟨rfl,_,_,_,_, .yes HQ.out,HC3.out.mod hm4 (fun b hb (e:b=xb)=>HXG.out (e ▸ hb)),hX4,?_⟩
  exact (HM2.out.mono (T:=fun y=>(y=c∨y=m∨y=mm)∨y=xb) fun y _ (e:y=m)=> .inl (.inr (.inl e))).trans (HM3.out.trans hm4 (T:=fun y=>y=mm∨y=xb) (fun _ h=> .inl h) fun _ _ h=> .inr h) (fun _ h=>h) fun y _ h=>h.elim (fun e=> .inl (.inr (.inr e))) fun e=> .inr e
theorem fempty_any (h:ChAt w G c s n T H err) {xb:Nat} {x:Ino} (hX:w.heap[xb]?=some (.cells (inoC x) 52 (0,0))) (hxG:¬ G xb) {i q:Nat} (hi:i<8) (hq:x.bl[i]?=some q):
  Calls Tryz.prog 81 #[.pointer (some ⟨c,0,none⟩), .pointer (some ⟨xb,0,none⟩), .int .i64 (i:Nat)] w
  fun e w'=>e= .returned (.tuple #[])∧ ∃T' H' bl',EmptyR n T H x.bl i q T' H' bl'∧ChAt w' G c s n T' H' err∧w'.heap[xb]?=some (.cells (inoC {x with bl:=bl'}) 52 (0,0))∧Mod (fun y=>G y∨y=xb) w w':=by
 obtain ⟨m,mm,clk,L,hc⟩:=h.inn
 exact (femptyI_any hc hX hxG hi hq).mono fun e w' ⟨h1,T',H',bl',L',h2,h3,h4,h5⟩=>⟨h1,T',H',bl',h2,h3.at_,h4,h5.mono fun y _ hy=>hy.imp (fun hy=>by
  rcases hy with e|e|e
  ·exact e ▸ hc.gc
  ·exact e ▸ hc.gm
  ·exact e ▸ hc.hom.fm) id⟩
end
section
variable {n:Nat} {T T':Nat→Bool} {H H':Nat→Option (List Nat)} {V:Nat→List Nat} {P:Nat→List Nat} {W:Nat→Nat→Option (List Nat)} {j i q err err':Nat} {b bl':List Nat}
theorem least_free (h:Al.least n T<n):T (Al.least n T)=false:=by
 have:=Bits.fst_some (f:=fun i=> !T i) (m:=n) h
 show T (Bits.fst (fun i=> !T i) n)=false
 simpa using this
theorem least_full (h:¬ Al.least n T<n) {p:Nat} (hp:p<n):T p=true:=by
 have hle:Al.least n T≤n:=Bits.fst_le _ _
 have:=Bits.fst_none (f:=fun i=> !T i) (m:=n) (j:=p) (by show p<Al.least n T;omega)
 simpa using this
def ov (H:Nat→Option (List Nat)) (V:Nat→List Nat):Nat→List Nat:=fun p=>(H p).getD (V p)
theorem ov_put (k:Nat) (b:List Nat):ov (putH H k b) V=Fm.upd (ov H V) k b:=by
 funext p
 unfold ov putH Fm.upd
 split
 ·rfl
 ·rfl
theorem ov_del (k:Nat):ov (delH H k) V=Fm.upd (ov H V) k (V k):=by
 funext p
 unfold ov delH Fm.upd
 split
 ·rename_i h
  rw [h]
  rfl
 ·rfl
theorem setB_upd (k:Nat) (x:Bool):Bits.setB T k x=Fm.upd T k x:=by
 funext p
 unfold Bits.setB Fm.upd
 rfl
theorem upd2_same (h:W j i=none):Fm.upd W j (Fm.upd (W j) i none)=W:=by
 have:Fm.upd (W j) i none=W j:=by
  rw [←h]
  exact Fm.upd_same _ _
 rw [this]
 exact Fm.upd_same _ _
theorem EmptyR.mid (h:Mid n T (ov H V) P W) (hq:(P j)[i]?=some q) (hr:EmptyR n T H (P j) i q T' H' bl'):Mid n T' (ov H' V) (Fm.upd P j bl') (Fm.upd W j (Fm.upd (W j) i none)):=by
 cases hr with
 | no h0=>
  have hn:W j i=none:=by
   apply Classical.byContradiction
   intro hc
   exact (h.has j i q hq).2 hc h0
  rw [upd2_same hn,Fm.upd_same]
  exact h
 | yes h0=>
  have hlo:=h.lo j q (List.mem_of_getElem? hq) h0
  have hT:Al.giveT n T (q:Int)=Fm.upd T q false:=by
   unfold Al.giveT
   rw [if_pos (by omega),Int.toNat_natCast,setB_upd]
  rw [hT,ov_del]
  exact h.give hq h0 (V q)
theorem BlockR.mid (h:Mid n T (ov H V) P W) (hj:1≤j∧j<41) (hq:(P j)[i]?=some q) (hr:BlockR n T H err (P j) i q b T' H' err' bl'):
  (err'=err∧Mid n T' (ov H' V) (Fm.upd P j bl') (Fm.upd W j (Fm.upd (W j) i (some b))))∨(err'=failE err 8∧T'=T∧H'=H∧bl'=P j∧q=0∧ ∀p,p<n→T p=true):=by
 cases hr with
 | old h0=>
  refine .inl ⟨rfl,?_⟩
  rw [ov_put,Fm.upd_same]
  exact h.over hq h0 b
 | new h0 hl=>
  refine .inl ⟨rfl,?_⟩
  rw [ov_put,setB_upd]
  subst h0
  exact h.take hj hq (least_free hl) hl b
 | no h0 hl=>exact .inr ⟨rfl,rfl,rfl,rfl,h0,fun _ hp=>least_full hl hp⟩
end
section
variable {w w':World} {F FD G:Nat→Prop} {s g p:Nat} {l:Lg} {d:Dsk} {M:Sm} {c n:Nat} {T:Nat→Bool} {H:Nat→Option (List Nat)} {err:Nat}
inductive EmptyTo (n:Nat) (T:Nat→Bool) (H:Nat→Option (List Nat)) (bl:List Nat):Nat→(Nat→Bool)→(Nat→Option (List Nat))→List Nat→Prop
 | z:EmptyTo n T H bl 0 T H bl
 | s {i q:Nat} {T1 T2:Nat→Bool} {H1 H2:Nat→Option (List Nat)} {b1 b2:List Nat}:EmptyTo n T H bl i T1 H1 b1→b1[i]?=some q→EmptyR n T1 H1 b1 i q T2 H2 b2→EmptyTo n T H bl (i+1) T2 H2 b2
theorem EmptyR.len {i q:Nat} {T1 T2:Nat→Bool} {H1 H2:Nat→Option (List Nat)} {b1 b2:List Nat} (h:EmptyR n T1 H1 b1 i q T2 H2 b2):b2.length=b1.length:=by
 cases h with
 | no=>rfl
 | yes=>exact List.length_set
set_option maxRecDepth 20000 in
set_option maxHeartbeats 8000000 in
theorem ffree_any (h:SAt w F FD s g p l d M) (hC:ChAt w G c s n T H 0) (hdF: ∀b,F b→¬ G b) (hdD: ∀b,FD b→¬ G b) (hs:¬ G s) {f:Int×Int} {j:Nat} (hj:M.there f=some j):
  Calls Tryz.prog 76 #[.pointer (some ⟨c,0,none⟩), .agg #[.int .i64 f.1, .int .i64 f.2]] w
  fun e w'=>e= .returned (.tuple #[])∧ ∃G' T' H' bl',EmptyTo n T H (M.P j) 8 T' H' bl'∧ChAt w' G' c s n T' (putH H' (1+j) (Ino.free (M.N j).gen).sec) 0∧Mod G w w'∧ ∀b,G' b→G b∨w.heap.size≤b:=by
 obtain ⟨w1,hw1⟩: ∃w1,w.alloc (.cells #[.int .i64 f.1, .int .i64 f.2] 33)=w1:=⟨_,rfl⟩
 have hb1:Below w.heap.size w w1:=by rw [←hw1];exact (Below.refl _ _).alloc (Nat.le_refl _) _
 have hX1:w1.heap[w.heap.size]?=some (.cells #[.int .i64 f.1, .int .i64 f.2] 33 (0,0)):=by rw [←hw1];exact heap_alloc_at
 have hz1:w1.heap.size=w.heap.size+1:=by rw [←hw1];simp
 have h1:=h.below hb1
 have hC1:=hC.below hb1
 have hLF:Lies w1 w.heap.size 0 #[.int .i64 f.1, .int .i64 f.2]:=lies_of hX1
 have hagf:=aggFl f.1 f.2
 obtain ⟨m,mm,clk,L,hc1⟩:=hC1.inn
 have p0:w1.drew.cell? ⟨c,0,none⟩=some (.pointer (some ⟨s,0,none⟩)):=cell_of (w:=w1) (o:=0) hc1.blk rfl
 have hx8:(M.ino j).bl.length=8:=h.rep.mid.len j
 have hth:=fun (w':World) (hb:Below w1.heap.size w1 w')=>fthere_any (h1.below hb) f
 simp only [ThereR,hj] at hth
 have hag:=aggI hx8
 have hone:=inoC_one (M.ino j)
 have hsz11:(inoC (M.ino j)).size=11:=inoC_size hx8
 have HB1:=Lib.hid hb1
 have HX1:=Lib.hid hX1
 have HZ1:=Lib.hid hz1
 have HH:=Lib.hid h
 have HC:=Lib.hid hC
 have HC1:=Lib.hid hC1
 clear h hC hb1 hX1 hz1 h1 hC1 hc1
 go_enter Tryz.func76,Tryz.ntmps76
 go_upto_region 1 with fail
 simp only [hw1] at*
 clear hw1
 go_cut [4,5] (fun v u wx=> ∃xb,v= .pointer (some ⟨xb,0,none⟩)∧u= .int .i64 0∧wx.heap[xb]?=some (.cells (inoC (M.ino j)) 52 (0,0))∧w1.heap.size≤xb∧Below w1.heap.size w1 wx)
 case first=>
  have hfr: ∀w':World,Below w1.heap.size w1 w'→w'.cell? ⟨c,0,none⟩=some (.pointer (some ⟨s,0,none⟩))∧Lies w' w.heap.size 0 #[.int .i64 f.1, .int .i64 f.2]:=fun w' hb=>by
   obtain ⟨m,mm,clk,L,hc⟩:=(HC1.out.below hb).inn
   exact ⟨cell_of (o:=0) hc.blk rfl,lies_of ((hb.block _ (lt_of_block HX1.out)).trans HX1.out)⟩
  have hS:w1.drew.cell? ⟨c,0,none⟩=some (.pointer (some ⟨s,0,none⟩))∧Lies w1.drew w.heap.size 0 #[.int .i64 f.1, .int .i64 f.2]:=⟨p0,hLF⟩
  refine wp_region_t (fun w'=>w'.cell? ⟨c,0,none⟩=some (.pointer (some ⟨s,0,none⟩))∧Lies w' w.heap.size 0 #[.int .i64 f.1, .int .i64 f.2]) [(0,1),(1,1),(2,1),(3,0),(4,0),(5,2),(6,1),(7,1),(8,1),(9,2),(10,3),(11,1)]
   (.one 0 1 (.one 1 1 (.one 2 1 (.one 3 0 (.one 4 0 (.two 5 9 (.one 6 1 (.one 7 1 (.one 8 1 (.one 9 2 (.one 10 3 (.one 11 1 .nil)))))) (.one 5 2 (.one 6 1 (.one 7 1 (.one 8 1 (.one 10 3 (.one 11 1 .nil)))))))))))) (by kernel_rfl) (by kernel_rfl) (by intro d v c a w h;cases d<;>exact h) ?_
  iterate 3 (refine t_take rfl (fun K hK=> ?_);go_simp;refine hK _ ?_;clear hK K)
  refine t_read rfl hS (fun w' h=>exec_load1 ⟨⟨_,Tryz.underlying29,rfl⟩⟩ rfl h.1) ?_
  refine t_read rfl hS (fun w' h=>exec_loadA hagf rfl h.2) ?_
  refine t_two rfl rfl (fun K hK=> ?_) (fun K hK=> ?_)
  ·go_simp
   refine (hth w1.drew (Below.refl w1.heap.size w1).drew).mono ?_
   rintro e w2 ⟨rfl,hb2⟩
   have hb12:Below w1.heap.size w1 w2:=(Below.refl w1.heap.size w1).drew.trans hb2
   have hS2:=hfr w2 hb12
   refine hK _ _ hS2 ?_
   clear hK K
   iterate 3 (refine t_take rfl (fun K hK=> ?_);go_simp;refine hK _ ?_;clear hK K)
   refine t_show' rfl (fun K hK=> ?_)
   go_simp
   have hb3:Below w1.heap.size w1 (w2.alloc (.cells (inoC (Ino.free 0)) 52)):=hb12.alloc hb12.size _
   have hX3:(w2.alloc (.cells (inoC (Ino.free 0)) 52)).heap[w2.heap.size]?=some (.cells (inoC (Ino.free 0)) 52 (0,0)):=heap_alloc_at
   rw [inoC_free] at hb3 hX3
   simp only [Int.natCast_zero] at hb3 hX3
   obtain ⟨xb,hxb⟩: ∃xb,w2.heap.size=xb:=⟨_,rfl⟩
   have hxl:w1.heap.size≤xb:=by rw [←hxb];exact hb12.size
   rw [hxb] at hX3 ⊢
   generalize w2.alloc _=w3 at*
   refine hK _ _ (hfr w3 hb3) ?_
   clear hK K
   obtain ⟨w9,hst,hh9,hm9⟩:=exec_storeB (ρ:=fun _=>undef) (ty:=0) (pos:= "") (after:= #[]) (x:= .tmp 0) (y:= .tmp 0) hag hX3 (by rw [hsz11];rfl) hone
   refine t_skip rfl (hst _ _ _ _ _ _ _ _ rfl rfl) ?_
   iterate 1 (refine t_take rfl (fun K hK=> ?_);go_simp;refine hK _ ?_;clear hK K)
   refine t_nil ?_
   have hb9:=hb3.trans (hm9.below hb3.size fun x hx e=>by omega)
   go_wp2
   go_meet
   case rel=>exact ⟨xb,rfl,rfl,hh9,hxl,hb9⟩
  ·go_simp
   have hb3:Below w1.heap.size w1 (w1.alloc (.cells (inoC (Ino.free 0)) 52)).drew:=((Below.refl w1.heap.size w1).alloc (Nat.le_refl _) _).drew
   have hX3:(w1.alloc (.cells (inoC (Ino.free 0)) 52)).drew.heap[w1.heap.size]?=some (.cells (inoC (Ino.free 0)) 52 (0,0)):=heap_alloc_at (w:=w1)
   rw [inoC_free] at hb3 hX3
   simp only [Int.natCast_zero] at hb3 hX3
   obtain ⟨xb,hxb⟩: ∃xb,w1.heap.size=xb:=⟨_,rfl⟩
   have hxl:w1.heap.size≤xb:=by rw [←hxb];exact Nat.le_refl _
   rw [hxb] at hX3 ⊢
   generalize (w1.alloc _).drew=w3 at*
   refine hK _ _ (hfr w3 hb3) ?_
   clear hK K
   refine t_show' rfl (fun K hK=> ?_)
   go_simp
   refine (hth w3 hb3).mono ?_
   rintro e w4 ⟨rfl,hb4⟩
   have hb34:=hb3.trans (hb4.mono hb3.size)
   refine hK _ _ (hfr w4 hb34) ?_
   clear hK K
   iterate 3 (refine t_take rfl (fun K hK=> ?_);go_simp;refine hK _ ?_;clear hK K)
   have hX4:=(hb4.block _ (lt_of_block hX3)).trans hX3
   obtain ⟨w9,hst,hh9,hm9⟩:=exec_storeB (ρ:=fun _=>undef) (ty:=0) (pos:= "") (after:= #[]) (x:= .tmp 0) (y:= .tmp 0) hag hX4 (by rw [hsz11];rfl) hone
   refine t_skip rfl (hst _ _ _ _ _ _ _ _ rfl rfl) ?_
   iterate 1 (refine t_take rfl (fun K hK=> ?_);go_simp;refine hK _ ?_;clear hK K)
   refine t_nil ?_
   have hb9:=hb34.trans (hm9.below hb34.size fun x hx e=>by omega)
   go_wp2
   go_meet
   case rel=>exact ⟨xb,rfl,rfl,hh9,hxl,hb9⟩
 case rest=>
  obtain ⟨xb,rfl,rfl,hX2,hxl,hb2⟩:=hcut
  have hCc:=HC1.out.below hb2
  have hfl:=ffail_any hCc 0
  rw [show failE 0 0=0 from rfl] at hfl
  simp only [Int.natCast_zero] at hfl
  have HX2:=Lib.hid hX2
  have HB2:=Lib.hid hb2
  have HXL:=Lib.hid hxl
  have HXG:Hid (¬ G xb):=Lib.hid fun e=>by have h1:=HC1.out.lt xb e;omega
  clear hth hLF p0 hb2 hX2 hCc hxl
  go_wp2_with fail
  refine hfl.mono ?_
  rintro e w3 ⟨rfl,hC3,hm3⟩
  have HC3:=Lib.hid hC3
  have HM3:=Lib.hid hm3
  have HX3:=Lib.hid (hm3.heap HX2.out (fun e=>HXG.out (e ▸ HC1.out.gc)))
  clear hfl hC3 hm3
  go_wp2
  go_loopw [19] (fun iv wi=> ∃(i:Nat) (T1:Nat→Bool) (H1:Nat→Option (List Nat)) (b1:List Nat),i≤8∧iv= .int .i64 i∧EmptyTo n T H (M.P j) i T1 H1 b1∧b1.length=8∧ChAt wi G c s n T1 H1 0∧wi.heap[xb]?=some (.cells (inoC {M.ino j with bl:=b1}) 52 (0,0))∧Mod (fun y=>G y∨y=xb) w3 wi) (fun iv _=>8-(intOf iv).toNat)
  case atStart=>exact ⟨0,T,H,M.P j,by omega,rfl, .z,hx8,HC3.out,HX3.out,Mod.refl _ _⟩
  case round=>
   obtain ⟨i,T1,H1,b1,hi8,rfl,hE,hl,hCi,hXi,hmi⟩:=hrel
   have HE:=Lib.hid hE
   have HL:=Lib.hid hl
   have HCI:=Lib.hid hCi
   have HXI:=Lib.hid hXi
   have HMI:=Lib.hid hmi
   clear hE hl hCi hXi hmi
   by_cases hlt:i<8
   ·have hlt':(i:Int)<8:=by omega
    obtain ⟨q,hq⟩: ∃q,b1[i]?=some q:=⟨_,List.getElem?_eq_getElem (by rw [HL.out];exact hlt)⟩
    have hem:=fempty_any HCI.out HXI.out HXG.out hlt hq
    have HQ:=Lib.hid hq
    clear hq
    go_wp2_with fail
    refine hem.mono ?_
    rintro e w4 ⟨rfl,T2,H2,b2,hE2,hC4,hX4,hm4⟩
    have HE2:=Lib.hid hE2
    have HC4:=Lib.hid hC4
    have HX4:=Lib.hid hX4
    have HM4:=Lib.hid hm4
    clear hem hE2 hC4 hX4 hm4
    go_wp2
    go_roundw
    case rel=>exact ⟨i+1,T2,H2,b2,by omega,by go_num, .s HE.out HQ.out HE2.out,HE2.out.len.trans HL.out,HC4.out,HX4.out,HMI.out.trans HM4.out (fun _ h=>h) fun _ _ h=>h⟩
    case measure=>simp [intOf];omega
   ·obtain rfl:i=8:=by omega
    obtain ⟨hj1,hj41,hfe, -⟩:=there_some hj
    have hfits:(Ino.free (M.N j).gen).fits:=⟨by show 0<4;decide,by have:=(HH.out.rep.nd j).gen;show (M.N j).gen<2147483648;omega,by show 0<1099511627776;decide,rfl,by intro p hp;rw [List.eq_of_mem_replicate (a:=0) (n:=8) hp];decide⟩
    have hright:(Ino.free (M.N j).gen).right=true:=rfl
    have hsi:=fsetinode_any HCI.out j (by omega) (Ino.free (M.N j).gen) hfits hright
    have hGb:¬ G w.heap.size:=fun e=>absurd (HC.out.lt _ e) (Nat.lt_irrefl _)
    have hxf:=HMI.out.heap (HM3.out.heap ((HB2.out.block _ (lt_of_block HX1.out)).trans HX1.out) (fun e=>hGb (e ▸ HC1.out.gc))) (fun e=>e.elim hGb fun e=>by have h1:=HXL.out;have h2:=HZ1.out;omega)
    rw [hfe] at hxf
    have qf:wr.cell? ⟨w.heap.size,0,none⟩=some (.int .i64 (j:Nat)):=cell_of hxf rfl
    have qg:wr.cell? ⟨xb,1,none⟩=some (.int .i64 ((M.N j).gen:Nat)):=cell_of HXI.out rfl
    have hbf:=built_free ((M.N j).gen:Int)
    rw [inoC_free] at hsi
    clear hxf hfits hright hGb hfe
    go_wp2_with (first
     | ((with_reducible refine wpList_exec rfl (exec_buildA (vals:= [(1, .int .i64 ((M.N j).gen:Nat))]) ?_ hbf) ?_);rfl;go_frame)
     | fail)
    refine hsi.mono ?_
    rintro e w5 ⟨rfl,G5,hC5,hm5,hG5⟩
    have HC5:=Lib.hid hC5
    have HM5:=Lib.hid hm5
    have HG5:=Lib.hid hG5
    clear hsi hC5 hm5 hG5
    go_wp2
    go_end0
    have hbw:=HB1.out.trans (HB2.out.mono HB1.out.size)
    have hmw:=(((Mod.of_below hbw).mono (T:=G) fun x hx hS=>absurd hx (Nat.not_lt.2 hS)).trans HM3.out (T:=G) (fun _ h=>h) fun x _ (e:x=c)=>e ▸ HC.out.gc).trans HMI.out (T:=G) (fun _ h=>h) fun x hx h=>h.elim id fun e=>by have h1:=HXL.out;have h2:=HZ1.out;have h3:=HB1.out.size;omega
    refine ⟨rfl,G5,T1,H1,b1,HE.out,HC5.out,hmw.trans HM5.out (fun _ h=>h) fun _ _ h=>h,fun b hb=> ?_⟩
    rcases HG5.out b hb with h|h
    ·exact .inl h
    ·exact .inr (Nat.le_trans hmw.size h)
end
section
variable {w w':World} {F FD G:Nat→Prop} {s g p:Nat} {l:Lg} {d:Dsk} {M:Sm}
def Sm.may (M:Sm) (j:Nat):Prop:=(M.N j).kind=0∧(M.N j).gen<2147483647
def FreshC (M:Sm) (i g c:Nat):Prop:=(∃j,1≤j∧j<41∧M.may j∧(∀k,1≤k→k<j→¬ M.may k)∧i=j∧g=(M.N j).gen+1∧c=0)∨((∀k,1≤k→k<41→¬ M.may k)∧i=0∧g=0∧c=8)
def flC (i g:Nat):Array Value:= #[.int .i64 (i:Nat), .int .i64 (g:Nat)]
theorem oneF2 (i g:Nat):(flC i g).all (·.oneCell')=true:=by simp [flC,Value.oneCell']
set_option maxRecDepth 20000 in
set_option maxHeartbeats 8000000 in
theorem ffresh_any (h:SAt w F FD s g p l d M):Calls Tryz.prog 94 #[.pointer (some ⟨s,0,none⟩)] w
  fun e w'=>(∃i g c,e= .returned (.tuple #[.agg (flC i g), .int .i64 (c:Nat)])∧FreshC M i g c)∧Below w.heap.size w w':=by
 obtain ⟨w1,hw1⟩: ∃w1,w.alloc (.cells (flC 0 0) 33)=w1:=⟨_,rfl⟩
 have hb1:Below w.heap.size w w1:=by rw [←hw1];exact (Below.refl _ _).alloc (Nat.le_refl _) _
 have hX1:w1.heap[w.heap.size]?=some (.cells (flC 0 0) 33 (0,0)):=by rw [←hw1];exact heap_alloc_at
 have h1:=h.below hb1
 have hE0:flC 0 0= #[.int .i64 0, .int .i64 0]:=rfl
 have HB1:=Lib.hid hb1
 have HX1:=Lib.hid hX1
 have H1:=Lib.hid h1
 rw [hE0] at hw1
 clear h hb1 hX1 h1
 go_enter Tryz.func94,Tryz.ntmps94
 go_upto_region 1 with fail
 simp only [hw1] at*
 clear hw1
 go_wp2
 go_loopw [7] (fun iv wi=> ∃i:Nat,i≤40∧iv= .int .i64 i∧(∀k,1≤k→k<i+1→¬ M.may k)∧Below w1.heap.size w1 wi) (fun iv _=>40-(intOf iv).toNat)
 case atStart=>exact ⟨0,by omega,rfl,fun k h1 h2=>by omega,Below.refl _ _⟩
 case round=>
  obtain ⟨i,hi,rfl,hno,hb⟩:=hrel
  have HNO:=Lib.hid hno
  have HB:=Lib.hid hb
  clear hno hb
  by_cases hlt:i<40
  ·have hlt':(i:Int)<40:=by omega
   have hr:=H1.out.below HB.out
   have hin:=finode_any hr.fs hr.ok (1+i) (by have:=hr.rep.n1;omega)
   rw [hr.rep.dec (j:=1+i) (by omega) (by omega)] at hin
   obtain ⟨x,hx⟩: ∃x,M.ino (1+i)=x:=⟨_,rfl⟩
   have hx8:x.bl.length=8:=by rw [←hx];exact hr.rep.mid.len _
   have hxk:x.kind=(M.N (1+i)).kind:=by rw [←hx];rfl
   have hxg:x.gen=(M.N (1+i)).gen:=by rw [←hx];rfl
   rw [hx,show ((1+i:Nat):Int)=1+(i:Int) by omega] at hin
   have hag:=aggI hx8
   have hone:=inoC_one x
   have hsz11:(inoC x).size=11:=inoC_size hx8
   have HK:=Lib.hid (And.intro hxk hxg)
   clear hr hx hxk hxg
   go_wp2_with fail
   refine hin.mono ?_
   rintro e w3 ⟨he,hb3⟩
   have he:e= .returned (.tuple #[.agg (inoC x), .int .i64 0]):=he
   subst he
   have hb13:=HB.out.trans (hb3.mono HB.out.size)
   obtain ⟨w4,hw4⟩: ∃w4,w3.alloc (.cells (inoC x) 52)=w4:=⟨_,rfl⟩
   have hb4:Below w3.heap.size w3 w4:=by rw [←hw4];exact (Below.refl _ _).alloc (Nat.le_refl _) _
   have hX4:w4.heap[w3.heap.size]?=some (.cells (inoC x) 52 (0,0)):=by rw [←hw4];exact heap_alloc_at
   have q0:w4.cell? ⟨w3.heap.size,0,none⟩=some (.int .i64 (x.kind:Nat)):=cell_of hX4 rfl
   have q1:w4.cell? ⟨w3.heap.size,1,none⟩=some (.int .i64 (x.gen:Nat)):=cell_of hX4 rfl
   have hb14:=hb13.trans (hb4.mono hb13.size)
   have hres:=(hb14.block _ (lt_of_block HX1.out)).trans HX1.out
   have HB14:=Lib.hid hb14
   clear hin hb3 hb13 hb4 hX4 hb14
   go_upto_region 5 with (first
    | ((with_reducible refine wpList_storeA_new hag ?_ hone ?_ ?_ ?_);(rw [hsz11];rfl);rfl;rfl;go_frame)
    | fail)
   simp only [hw4] at*
   clear hw4
   by_cases hm:M.may (1+i)
   ·have hk0:((x.kind:Int)==0)=true:=by rw [HK.out.1,hm.1];rfl
    have hg0:(x.gen:Int)<2147483647:=by have:=hm.2;rw [←HK.out.2] at this;omega
    have hi0:(i:Int)<40:=by omega
    have HM:=Lib.hid hm
    have hagA:AggT Tryz.prog 33 (#[.int .i64 (1+(i:Int)), .int .i64 ((x.gen:Int)+1)]:Array Value).size:=aggFl _ _
    have honeA:(#[.int .i64 (1+(i:Int)), .int .i64 ((x.gen:Int)+1)]:Array Value).all (·.oneCell')=true:=by simp [Value.oneCell']
    have hszA:(flC 0 0).size=(#[.int .i64 (1+(i:Int)), .int .i64 ((x.gen:Int)+1)]:Array Value).size:=rfl
    clear hm
    go_wp2_with (first
     | ((with_reducible refine wpList_storeB hagA ?_ ?_ hres hszA honeA ?_);rfl;rfl;(intro w9 hh9 hm9;have HH9:=Lib.hid hh9;have HM9:=Lib.hid hm9;clear hh9 hm9);go_frame)
     | fail)
    refine bodyPost_ret (results_cellT rfl _ rfl hagA (lies_of HH9.out)) rfl ?_
    have hb:=HB1.out.trans (HB14.out.mono HB1.out.size)
    refine ⟨⟨1+i,x.gen+1,0,?_, .inl ⟨1+i,by omega,by omega,HM.out,fun k h1 h2=>HNO.out k h1 (by omega),rfl,by rw [HK.out.2],rfl⟩⟩,hb.trans (HM9.out.below hb.size fun y hy e=>by omega)⟩
    show Ending.returned (.tuple #[.agg #[.int .i64 (1+(i:Int)), .int .i64 ((x.gen:Int)+1)], .int .i64 0])=_
    simp [flC]
   ·have hnew: ∀k,1≤k→k<i+1+1→¬ M.may k:=fun k h1 h2=>by
     by_cases hk:k=1+i
     ·rw [hk]
      exact hm
     ·exact HNO.out k h1 (by omega)
    have HNEW:=Lib.hid hnew
    have hi0:(i:Int)<40:=by omega
    by_cases hkk:x.kind=0
    ·have hk0:((x.kind:Int)==0)=true:=by rw [hkk];rfl
     have hg0:¬ (x.gen:Int)<2147483647:=fun e=>hm ⟨by rw [←HK.out.1];exact hkk,by rw [←HK.out.2];omega⟩
     have HKK:=Lib.hid hkk
     clear hm hnew hres hkk
     go_wp2
     go_roundw
     case rel=>exact ⟨i+1,by omega,by go_num,HNEW.out,HB14.out⟩
     case measure=>simp [intOf];omega
    ·have hk0:((x.kind:Int)==0)=false:=by simp;omega
     have HKK:=Lib.hid hkk
     clear hm hnew hres hkk
     go_wp2
     go_roundw
     case rel=>exact ⟨i+1,by omega,by go_num,HNEW.out,HB14.out⟩
     case measure=>simp [intOf];omega
  ·obtain rfl:i=40:=by omega
   have hag0:AggT Tryz.prog 33 (#[.int .i64 0, .int .i64 0]:Array Value).size:=aggFl 0 0
   have hone0:(#[.int .i64 0, .int .i64 0]:Array Value).all (·.oneCell')=true:=oneF2 0 0
   have hsz0:(flC 0 0).size=(#[.int .i64 0, .int .i64 0]:Array Value).size:=rfl
   have hres:=(HB.out.block _ (lt_of_block HX1.out)).trans HX1.out
   go_wp2_with (first
    | ((with_reducible refine wpList_storeB hag0 ?_ ?_ hres hsz0 hone0 ?_);rfl;rfl;(intro w9 hh9 hm9;have HH9:=Lib.hid hh9;have HM9:=Lib.hid hm9;clear hh9 hm9);go_frame)
    | fail)
   refine bodyPost_ret (results_cellT rfl _ rfl hag0 (lies_of HH9.out)) rfl ?_
   have hb:=HB1.out.trans (HB.out.mono HB1.out.size)
   exact ⟨⟨0,0,8,rfl, .inr ⟨fun k h1 h2=>HNO.out k h1 h2,rfl,rfl,rfl⟩⟩,hb.trans (HM9.out.below hb.size fun y hy e=>by omega)⟩
end
end Go.Proofs.YtjdbbnhnbdocbaaGreat
