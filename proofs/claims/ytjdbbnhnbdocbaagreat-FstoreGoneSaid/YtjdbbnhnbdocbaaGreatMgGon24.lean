import Derived.Test.YtjdbbnhnbdocbaaGreatMgGon23
import Derived.Test.YtjdbbnhnbdocbaaGreatMgGon7
import Derived.Test.YtjdbbnhnbdocbaaGreatMgGon8
import Derived.Test.YtjdbbnhnbdocbaaGreatMgGon9
import Derived.Test.YtjdbbnhnbdocbaaGreatMgGon22
import Derived.Laws.BytesArg
import Derived.Lib.Bytealg
import Derived.Shelf.Small.Strs
namespace Go.Proofs.YtjdbbnhnbdocbaaGreat
open Go.RowKit Go.Tn Go.Tn.Bt Go.Tn.Ino
def decI:Option Ino→Value
 | some x=> .tuple #[.agg (inoC x), .int .i64 0]
 | none=> .tuple #[.agg (inoC (Ino.free 0)), .int .i64 4]
theorem built_zero:Tryz.prog.built 52 []=some (inoC (Ino.free 0)):=by kernel_rfl
theorem built_3 (k g v:Int):Tryz.prog.built 52 [(0, .int .i64 k),(1, .int .i64 g),(2, .int .u64 v)]=some #[.int .i64 k, .int .i64 g, .int .u64 v, .int .i64 0, .int .i64 0, .int .i64 0, .int .i64 0, .int .i64 0, .int .i64 0, .int .i64 0, .int .i64 0]:=by kernel_rfl
def ino0 (k g v:Nat):Ino:=⟨k,g,v, [0,0,0,0,0,0,0,0]⟩
theorem inoC_0z (k g v:Nat):inoC (ino0 k g v)= #[.int .i64 k, .int .i64 g, .int .u64 v, .int .i64 0, .int .i64 0, .int .i64 0, .int .i64 0, .int .i64 0, .int .i64 0, .int .i64 0, .int .i64 0]:=rfl
theorem inoC_set (x:Ino) (i p:Nat):(inoC x).setIfInBounds (3+i) (.int .i64 p)=inoC {x with bl:=x.bl.set i p}:=by
 apply Array.ext'
 simp [inoC,inoL,Nat.add_comm 3 i,List.map_set]
def partBl (L:List Nat) (i:Nat):List Nat:=L.take i++List.replicate (8-i) 0
theorem partBl_set {L:List Nat} (h:L.length=8) {i p:Nat} (hp:L[i]?=some p):(partBl L i).set i p=partBl L (i+1):=by
 have hi:i<8:=by have:=(List.getElem?_eq_some_iff.1 hp).1;omega
 unfold partBl
 rw [List.set_append_right _ _ (by rw [List.length_take];omega),List.length_take,h,Nat.min_eq_left (by omega),Nat.sub_self,show 8-i=(8-(i+1))+1 by omega,List.replicate_succ,List.set_cons_zero,List.take_add_one,hp]
 simp
theorem partBl_all {L:List Nat} (h:L.length=8):partBl L 8=L:=by
 unfold partBl
 rw [List.take_of_length_le (by omega)]
 simp
set_option maxRecDepth 20000 in
set_option maxHeartbeats 4000000 in
theorem idec_any (w:World) (v:Value) (B:List Nat) (hv:LSl en8 1 w v B) (hl:B.length=128) (hB: ∀x∈B,x<256):Calls Tryz.prog 17 #[v] w
  fun e w'=>e= .returned (decI (inoOf B))∧Below w.heap.size w w':=by
 have hbz:(w.alloc (.cells (inoC (Ino.free 0)) 52)).heap[w.heap.size]?=some (.cells (inoC (Ino.free 0)) 52 (0,0)):=heap_alloc_at
 have hb1:Below w.heap.size w (w.alloc (.cells (inoC (Ino.free 0)) 52)):=(Below.refl _ _).alloc (Nat.le_refl _) _
 have hz1:(w.alloc (.cells (inoC (Ino.free 0)) 52)).heap.size=w.heap.size+1:=by simp
 have hv1:=hv.below hb1
 have hop:=ropen_any (w.alloc (.cells (inoC (Ino.free 0)) 52)) v B hv1 hB (by omega)
 obtain ⟨ao,ca,rfl, -⟩:=hv
 generalize hw1:w.alloc (.cells (inoC (Ino.free 0)) 52)=w1 at hbz hb1 hz1 hv1 hop
 have HV1:=Lib.hid hv1
 have HB1:=Lib.hid hb1
 have HBZ:=Lib.hid hbz
 have HZ1:=Lib.hid hz1
 have HB8:=Lib.hid hB
 have HL:=Lib.hid hl
 clear hb1 hbz hz1 hv1 hB hl
 rw [inoC_free] at hw1
 go_enter Tryz.func17,Tryz.ntmps17
 go_upto_region 1 with fail
 simp only [hw1,Int.natCast_zero] at*
 clear hw1
 obtain ⟨k,hk⟩: ∃k,natOf (((unpack B).drop 0).take 2)=k:=⟨_,rfl⟩
 obtain ⟨g,hg⟩: ∃g,natOf (((unpack B).drop 2).take 31)=g:=⟨_,rfl⟩
 obtain ⟨vr,hvr⟩: ∃g,natOf (((unpack B).drop 33).take 40)=g:=⟨_,rfl⟩
 obtain ⟨L,hL⟩: ∃L,((List.range 8).map fun j=>natOf (((unpack B).drop (73+12*j)).take 12))=L:=⟨_,rfl⟩
 have hx:inoAt B=⟨k,g,vr,L⟩:=by rw [←hk, ←hg, ←hvr, ←hL];rfl
 have hfit:=inoAt_fits B
 rw [hx] at hfit
 have hLj: ∀j,j<8→L[j]?=some (natOf (((unpack B).drop (73+12*j)).take 12)):=fun j hj=>by rw [←hL];simp [hj]
 have hk4:k<4:=hfit.kind
 have hg31:g<2147483648:=hfit.gen
 have hv40:vr<1099511627776:=hfit.ver
 have HX:=Lib.hid hx
 have HF:=Lib.hid hfit
 have HLJ:=Lib.hid hLj
 have HK:=Lib.hid hk
 have HG:=Lib.hid hg
 have HVR:=Lib.hid hvr
 clear hL hx hfit hLj hk hg hvr
 go_wp2_with fail
 refine hop.mono ?_
 rintro e w2 ⟨a,v2,rfl,hR2,ha2,hv2,hb2⟩
 have hg2:=get_ok hR2 2 (by decide) (by rw [HL.out];decide)
 rw [HK.out] at hg2
 have HA:=Lib.hid ha2
 have HV2:=Lib.hid hv2
 have HB2:=Lib.hid hb2
 clear hop hR2 ha2 hv2 hb2
 go_wp2_with fail
 refine hg2.mono ?_
 rintro e w3 ⟨rfl,hR3,hm3⟩
 have hg3:=get_ok hR3 31 (by decide) (by rw [HL.out];decide)
 rw [show 0+2=2 from rfl,HG.out] at hg3
 have HM3:=Lib.hid hm3
 clear hg2 hR3 hm3
 go_wp2_with fail
 refine hg3.mono ?_
 rintro e w4 ⟨rfl,hR4,hm4⟩
 have hg4:=get_ok hR4 40 (by decide) (by rw [HL.out];decide)
 rw [show 2+31=33 from rfl,HVR.out] at hg4
 have HM4:=Lib.hid hm4
 clear hg3 hR4 hm4
 go_wp2_with fail
 refine hg4.mono ?_
 rintro e w5 ⟨rfl,hR5,hm5⟩
 have hw5:Below w1.heap.size w1 w5:=HB2.out.trans (((HM3.out.trans HM4.out (fun x h=>h) (fun x _ h=>h)).trans hm5 (fun x h=>h) (fun x _ h=>h)).below HB2.out.size fun x hx e=>by have:=HA.out;omega)
 have hsz5:=hw5.size
 have HR5:=Lib.hid hR5
 have HW5:=Lib.hid hw5
 clear hg4 hR5 hm5 hw5
 have hb3:=built_3 k g vr
 rw [←inoC_0z] at hb3
 have hone:=inoC_one (ino0 k g vr)
 have hag: ∀x:Ino,x.bl.length=8→AggT Tryz.prog 52 (inoC x).size:=fun x h=>aggI h
 have hsz11:(inoC (ino0 k g vr)).size=11:=inoC_size rfl
 have hag0:=hag (ino0 k g vr) rfl
 go_wp2_with (first
  | ((with_reducible refine wpList_exec rfl (exec_buildA (vals:= [(0, .int .i64 (k:Nat)),(1, .int .i64 (g:Nat)),(2, .int .u64 (vr:Nat))]) ?_ hb3) ?_);rfl;go_frame)
  | ((with_reducible refine wpList_storeA_new hag0 ?_ hone ?_ ?_ ?_);(rw [hsz11];rfl);rfl;rfl;go_frame)
  | fail)
 have hbk:(w5.alloc (.cells (inoC (ino0 k g vr)) 52)).heap[w5.heap.size]?=some (.cells (inoC (ino0 k g vr)) 52 (0,0)):=heap_alloc_at
 have hba:Below w5.heap.size w5 (w5.alloc (.cells (inoC (ino0 k g vr)) 52)):=(Below.refl _ _).alloc (Nat.le_refl _) _
 have hR0:=HR5.out.below hba
 have haw:a<w5.heap.size:=lt_of_block HR5.out.blk
 have hvw: ∀r,v2.ownBlock=some r→r<w5.heap.size:=fun r hr=>HR5.out.bs.lt hr
 have hb0:=HW5.out.trans (hba.mono hsz5)
 have HBK:=Lib.hid hbk
 have HR0:=Lib.hid hR0
 have HB0:=Lib.hid hb0
 have HVW:=Lib.hid hvw
 clear hbk hba hR0 hb0 hvw HM3 HM4 HK HG HVR hb3 hag0 hone hsz11
 go_loopw [20] (fun iv wi=> ∃i:Nat,i≤8∧iv= .int .i64 i∧wi.heap[w5.heap.size]?=some (.cells (inoC ⟨k,g,vr,partBl L i⟩) 52 (0,0))∧RdAt wi a v2 B (73+12*i) 0∧Below w1.heap.size w1 wi) (fun iv _=>8-(intOf iv).toNat)
 case atStart=>exact ⟨0,by omega,rfl,HBK.out,HR0.out,HB0.out⟩
 case round=>
  obtain ⟨i,hi,rfl,hbi,hRi,hBi⟩:=hrel
  by_cases hi8:i<8
  ·have hi8':(i:Int)<8:=by omega
   obtain ⟨p,hp⟩: ∃p,natOf (((unpack B).drop (73+12*i)).take 12)=p:=⟨_,rfl⟩
   have hLp:=HLJ.out i hi8
   rw [hp] at hLp
   have hp12:p<4096:=HF.out.bl p (List.mem_of_getElem? hLp)
   have hget:=get_ok hRi 12 (by decide) (by rw [HL.out];omega)
   rw [hp] at hget
   have HLP:=Lib.hid hLp
   have HBI:=Lib.hid hbi
   have HBB:=Lib.hid hBi
   clear hp hLp hRi hbi hBi
   go_wp2_with fail
   refine hget.mono ?_
   rintro e w7 ⟨rfl,hR7,hm7⟩
   have hbk7:=hm7.heap HBI.out (fun e=>by omega)
   have hc7:w7.cell? ⟨w5.heap.size,3+i,none⟩=some (.int .i64 0):=by
    refine cell_of hbk7 (inoC_b _ (p:=0) ?_)
    show (partBl L i)[i]?=some 0
    unfold partBl
    rw [List.getElem?_append_right (by rw [List.length_take];omega),List.length_take,HF.out.len,Nat.min_eq_left (by omega),Nat.sub_self,show 8-i=(7-i)+1 by omega]
    rfl
   have hf7:w7.frozen? ⟨w5.heap.size,3+i,none⟩=false:=free_of hbk7
   have HBK7:=Lib.hid hbk7
   have HR7:=Lib.hid hR7
   have HM7:=Lib.hid hm7
   clear hget hbk7 hR7 hm7
   go_wp2_with fail
   go_roundw
   case rel=>
    have hmS:=(Mod.refl (fun x=>x=w5.heap.size) w7).setCell ⟨w5.heap.size,3+i,none⟩ (.int .i64 (p:Nat)) (fun _=>rfl)
    refine ⟨i+1,by omega,by go_num,?_,?_,?_⟩
    ·rw [heap_setCell_at HBK7.out,inoC_set]
     simp only
     rw [partBl_set HF.out.len HLP.out]
    ·rw [show 73+12*(i+1)=73+12*i+12 by omega]
     exact HR7.out.mod hmS (by omega) (fun r hr e=>by have:=HVW.out r hr;omega)
    ·exact HBB.out.trans ((HM7.out.below HBB.out.size fun x hx e=>by have:=HA.out;omega).trans (hmS.below (Nat.le_trans HBB.out.size HM7.out.size) fun x hx e=>by omega))
   case measure=>simp [intOf];omega
  ·obtain rfl:i=8:=by omega
   rw [partBl_all HF.out.len] at hbi
   have hLI:=lies_of hbi
   have hagx:=hag ⟨k,g,vr,L⟩ HF.out.len
   have hlv:=(HV1.out.below hBi)
   have HRi:=Lib.hid hRi
   have HBi:=Lib.hid hBi
   have HLV:=Lib.hid hlv
   clear hRi hBi hlv
   by_cases hr:(Ino.mk k g vr L).right=true
   ·have henc:=ienc_ok wr ⟨k,g,vr,L⟩ HF.out hr
    have HRT:=Lib.hid hr
    clear hr
    go_wp2_with (first
     | ((with_reducible refine wpList_loadA hagx hLI ?_ ?_);rfl;go_frame)
     | fail)
    refine henc.mono ?_
    rintro e w8 ⟨v8,rfl,hO8,hb8⟩
    obtain ⟨a8,n8,c8,rfl⟩:=hO8.shape
    have herr:=rerr_any (HRi.out.below hb8)
    have heq:=equal_any w8 _ _ B (Ino.mk k g vr L).sec (HLV.out.below hb8) (hO8.sl el8.len) HB8.out (sector_lt _)
    have hB8x:=HBi.out.trans (hb8.mono HBi.out.size)
    have hLI8:Lies w8 w5.heap.size 0 (inoC ⟨k,g,vr,L⟩):=lies_of ((hb8.block w5.heap.size (lt_of_block hbi)).trans hbi)
    clear henc hO8 hb8 hLI hbi
    by_cases he:B=(Ino.mk k g vr L).sec
    ·rw [decide_eq_true he] at heq
     have HYES:Hid (inoOf B=some ⟨k,g,vr,L⟩):=Lib.hid (by
      unfold inoOf
      rw [HX.out,if_pos ⟨HRT.out,he.symm⟩])
     clear he
     have hbz8:=(hB8x.block w.heap.size (by rw [HZ1.out];exact Nat.lt_succ_self _)).trans HBZ.out
     have honex:=inoC_one ⟨k,g,vr,L⟩
     have hszx:(inoC (Ino.free 0)).size=(inoC ⟨k,g,vr,L⟩).size:=by rw [inoC_size rfl,inoC_size HF.out.len]
     have HB8X:=Lib.hid hB8x
     clear hB8x
     go_wp2_with (first
      | (go_at_call 65;refine herr.mono ?_;rintro e wt ⟨rfl,hw⟩;obtain rfl:=hw.symm;clear hw)
      | (go_at_call 66;refine heq.mono ?_;rintro e wt ⟨rfl,hw⟩;obtain rfl:=hw.symm;clear hw)
      | ((with_reducible refine wpList_loadA hagx hLI8 ?_ ?_);rfl;go_frame)
      | ((with_reducible refine wpList_storeB hagx ?_ ?_ hbz8 hszx honex ?_);rfl;rfl;(intro w9 hh9 hm9;have HH9:=Lib.hid hh9;have HM9:=Lib.hid hm9;clear hh9 hm9);go_frame)
      | fail)
     refine bodyPost_ret (results_cellT rfl _ rfl hagx (lies_of HH9.out)) rfl ?_
     rw [HYES.out]
     exact ⟨rfl,HB1.out.trans ((HB8X.out.mono HB1.out.size).trans (HM9.out.below (Nat.le_trans HB1.out.size HB8X.out.size) fun x hx e=>by omega))⟩
    ·rw [decide_eq_false he] at heq
     have HNO:Hid (inoOf B=none):=Lib.hid (by
      unfold inoOf
      rw [HX.out,if_neg (fun h=>he h.2.symm)])
     clear he
     go_upto_region 10 with (first
      | (go_at_call 65;refine herr.mono ?_;rintro e wt ⟨rfl,hw⟩;obtain rfl:=hw.symm;clear hw)
      | (go_at_call 66;refine heq.mono ?_;rintro e wt ⟨rfl,hw⟩;obtain rfl:=hw.symm;clear hw)
      | fail)
     have hbz8:=(hB8x.block w.heap.size (by rw [HZ1.out];exact Nat.lt_succ_self _)).trans HBZ.out
     have hone0:=inoC_one (Ino.free 0)
     have hag1:=hag (Ino.free 0) rfl
     have HB8X:=Lib.hid hB8x
     clear hB8x
     go_wp2_with (first
      | ((with_reducible refine wpList_exec rfl (exec_buildA (vals:= []) ?_ built_zero) ?_);rfl;go_frame)
      | ((with_reducible refine wpList_storeB hag1 ?_ ?_ hbz8 rfl hone0 ?_);rfl;rfl;(intro w9 hh9 hm9;have HH9:=Lib.hid hh9;have HM9:=Lib.hid hm9;clear hh9 hm9);go_frame)
      | fail)
     refine bodyPost_ret (results_cellT rfl _ rfl hag1 (lies_of HH9.out)) rfl ?_
     rw [HNO.out]
     exact ⟨rfl,HB1.out.trans ((HB8X.out.mono HB1.out.size).trans (HM9.out.below (Nat.le_trans HB1.out.size HB8X.out.size) fun x hx e=>by omega))⟩
   ·have hr':(Ino.mk k g vr L).right=false:=by simpa using hr
    have henc:=ienc_no wr ⟨k,g,vr,L⟩ HF.out.len hr'
    have HNO:Hid (inoOf B=none):=Lib.hid (by
     unfold inoOf
     rw [HX.out,if_neg (fun h=>hr h.1)])
    clear hr hr'
    go_wp2_with (first
     | ((with_reducible refine wpList_loadA hagx hLI ?_ ?_);rfl;go_frame)
     | fail)
    refine henc.mono ?_
    rintro e w8 ⟨rfl,hb8⟩
    have herr:=rerr_any (HRi.out.below hb8)
    have hB8x:=HBi.out.trans (hb8.mono HBi.out.size)
    clear henc hb8 hLI hbi
    go_upto_region 10 with (first
     | (go_at_call 65;refine herr.mono ?_;rintro e wt ⟨rfl,hw⟩;obtain rfl:=hw.symm;clear hw)
     | fail)
    have hbz8:=(hB8x.block w.heap.size (by rw [HZ1.out];exact Nat.lt_succ_self _)).trans HBZ.out
    have hone0:=inoC_one (Ino.free 0)
    have hag1:=hag (Ino.free 0) rfl
    have HB8X:=Lib.hid hB8x
    clear hB8x
    go_wp2_with (first
     | ((with_reducible refine wpList_exec rfl (exec_buildA (vals:= []) ?_ built_zero) ?_);rfl;go_frame)
     | ((with_reducible refine wpList_storeB hag1 ?_ ?_ hbz8 rfl hone0 ?_);rfl;rfl;(intro w9 hh9 hm9;have HH9:=Lib.hid hh9;have HM9:=Lib.hid hm9;clear hh9 hm9);go_frame)
     | fail)
    refine bodyPost_ret (results_cellT rfl _ rfl hag1 (lies_of HH9.out)) rfl ?_
    rw [HNO.out]
    exact ⟨rfl,HB1.out.trans ((HB8X.out.mono HB1.out.size).trans (HM9.out.below (Nat.le_trans HB1.out.size HB8X.out.size) fun x hx e=>by omega))⟩
end Go.Proofs.YtjdbbnhnbdocbaaGreat
namespace Go.Proofs.YtjdbbnhnbdocbaaGreat
open Go.RowKit Go.Tn Go.Tn.Bt Go.Tn.Ino Go.Tn.Dr Go.Tn.Names
theorem built_file (i g:Int):Tryz.prog.built 33 [(0, .int .i64 i),(1, .int .i64 g)]=some #[.int .i64 i, .int .i64 g]:=by kernel_rfl
theorem built_ent (i g k:Int):Tryz.prog.built 64 [(1, .agg #[.int .i64 i, .int .i64 g]),(2, .int .i64 k)]=some #[.string {data:= #[]}, .int .i64 i, .int .i64 g, .int .i64 k]:=by kernel_rfl
theorem sizeU8:(Tryz.prog.info? 5).map (·.size)=some 1:=by kernel_rfl
def arrC (l:List Nat):Array Value:=(l.map fun x=>Value.int .u8 (x:Nat)).toArray
def partN (l:List Nat) (i:Nat):List Nat:=l.take i++List.replicate (16-i) 0
theorem partN_set {l:List Nat} (h:l.length=16) {i p:Nat} (hp:l[i]?=some p):(partN l i).set i p=partN l (i+1):=by
 have hi:i<16:=by have:=(List.getElem?_eq_some_iff.1 hp).1;omega
 unfold partN
 rw [List.set_append_right _ _ (by rw [List.length_take];omega),List.length_take,show i-min i l.length=0 by omega,show 16-i=(16-(i+1))+1 by omega,List.replicate_succ,List.set_cons_zero,List.take_add_one,hp]
 simp
theorem partN_get {l:List Nat} (h:l.length=16) {i:Nat} (hi:i<16):(partN l i)[i]?=some 0:=by
 unfold partN
 rw [List.getElem?_append_right (by rw [List.length_take];omega),List.length_take,h,Nat.min_eq_left (by omega),Nat.sub_self,show 16-i=(15-i)+1 by omega]
 rfl
theorem partN_all {l:List Nat} (h:l.length=16):partN l 16=l:=by
 unfold partN
 rw [List.take_of_length_le (by omega)]
 simp
theorem cut_str (l:List Nat) (n m:Nat) (hm:min n 16=m):strOfNums ((l.take m).map fun (x:Nat)=>(x:Int))=cutName l n:=by
 unfold strOfNums cutName
 rw [hm,List.map_map]
 rfl
theorem rdName_len (U:List Bool) (a:Nat):(rdName U a).length=16:=by simp [rdName]
theorem rdName_get (U:List Bool) (a:Nat) {i:Nat} (h:i<16):(rdName U a)[i]?=some (rdN U (a+44+8*i) 8):=by
 unfold rdName
 rw [List.getElem?_map,List.getElem?_range h]
 rfl
section
variable {w:World} {a:Nat} {v:Value} {B:List Nat} {at_:Nat}
set_option maxRecDepth 20000 in
set_option maxHeartbeats 8000000 in
theorem eget_any (h:RdAt w a v B at_ 0) (hat:at_+172≤8*B.length):Calls Tryz.prog 174 #[.pointer (some ⟨a,0,none⟩)] w
  fun e w'=>e= .returned (.agg (entC (entAt (unpack B) at_)))∧RdAt w' a v B (at_+172) 0∧Mod (fun x=>x=a) w w':=by
 obtain ⟨w1,hw1⟩: ∃w1,w.alloc (.cells #[.string {data:= #[]}, .int .i64 0, .int .i64 0, .int .i64 0] 64)=w1:=⟨_,rfl⟩
 have hX1:w1.heap[w.heap.size]?=some (.cells #[.string {data:= #[]}, .int .i64 0, .int .i64 0, .int .i64 0] 64 (0,0)):=by rw [←hw1];exact heap_alloc_at
 have hb1:Below w.heap.size w w1:=by rw [←hw1];exact (Below.refl _ _).alloc (Nat.le_refl _) _
 have hm1:Mod (fun x=>x=a) w w1:=by rw [←hw1];exact (Mod.refl _ w).alloc _
 have hz1:w1.heap.size=w.heap.size+1:=by rw [←hw1];simp
 have ha:=lt_of_block h.blk
 have hR1:=h.below hb1
 obtain ⟨n,hn⟩: ∃n,rdN (unpack B) at_ 5=n:=⟨_,rfl⟩
 obtain ⟨ii,hi⟩: ∃n,rdN (unpack B) (at_+5) 6=n:=⟨_,rfl⟩
 obtain ⟨gg,hg⟩: ∃n,rdN (unpack B) (at_+11) 31=n:=⟨_,rfl⟩
 obtain ⟨kk,hk⟩: ∃n,rdN (unpack B) (at_+42) 2=n:=⟨_,rfl⟩
 have hn5:n<32:=by rw [←hn];exact rdN_lt _ _ 5
 have hi6:ii<64:=by rw [←hi];exact rdN_lt _ _ 6
 have hg31:gg<2147483648:=by rw [←hg];exact rdN_lt _ _ 31
 have hk2:kk<4:=by rw [←hk];exact rdN_lt _ _ 2
 have hvlt: ∀r,v.ownBlock=some r→r<w.heap.size:=fun r hr=>h.bs.lt hr
 have hent:entAt (unpack B) at_=⟨cutName (rdName (unpack B) at_) n,ii,gg,kk⟩:=by unfold entAt;rw [hn,hi,hg,hk]
 have hg1:=get_ok hR1 5 (by decide) (by omega)
 rw [show natOf (((unpack B).drop at_).take 5)=n from hn] at hg1
 have HENT:=Lib.hid hent
 have HI:=Lib.hid hi
 have HG:=Lib.hid hg
 have HK:=Lib.hid hk
 have HAT:=Lib.hid hat
 have HX1:=Lib.hid hX1
 have HM1:=Lib.hid hm1
 have HZ1:=Lib.hid hz1
 have HA:=Lib.hid ha
 have HVL:=Lib.hid hvlt
 clear h hX1 hb1 hm1 hz1 ha hR1 hn hi hg hk hent hat hvlt
 go_enter Tryz.func174,Tryz.ntmps174
 go_upto_region 1 with fail
 simp only [hw1] at*
 clear hw1
 go_wp2_with fail
 refine hg1.mono ?_
 rintro e w2 ⟨rfl,hR2,hm2⟩
 have hg2:=get_ok hR2 6 (by decide) (by have:=HAT.out;omega)
 rw [show natOf (((unpack B).drop (at_+5)).take 6)=ii from HI.out] at hg2
 have HM2:=Lib.hid hm2
 clear hg1 hR2 hm2
 go_wp2_with fail
 refine hg2.mono ?_
 rintro e w3 ⟨rfl,hR3,hm3⟩
 have hg3:=get_ok hR3 31 (by decide) (by have:=HAT.out;omega)
 rw [show at_+5+6=at_+11 from rfl,show natOf (((unpack B).drop (at_+11)).take 31)=gg from HG.out] at hg3
 have HM3:=Lib.hid (HM2.out.trans hm3 (fun x h=>h) fun x _ h=>h)
 clear hg2 hR3 hm3
 go_wp2_with fail
 refine hg3.mono ?_
 rintro e w4 ⟨rfl,hR4,hm4⟩
 have hg4:=get_ok hR4 2 (by decide) (by have:=HAT.out;omega)
 rw [show at_+11+31=at_+42 from rfl,show natOf (((unpack B).drop (at_+42)).take 2)=kk from HK.out] at hg4
 have HM4:=Lib.hid (HM3.out.trans hm4 (fun x h=>h) fun x _ h=>h)
 clear hg3 hR4 hm4
 have hbf:=built_file ii gg
 have hbe:=built_ent ii gg kk
 have hone:(#[.string {data:= #[]}, .int .i64 (ii:Nat), .int .i64 (gg:Nat), .int .i64 (kk:Nat)]:Array Value).all (·.oneCell')=true:=by simp [Value.oneCell']
 have hag:AggT Tryz.prog 64 (#[.string {data:= #[]}, .int .i64 (ii:Nat), .int .i64 (gg:Nat), .int .i64 (kk:Nat)]:Array Value).size:=aggEn ⟨ByteArray.empty,ii,gg,kk⟩
 go_wp2_with (first
  | ((with_reducible refine wpList_exec rfl (exec_buildA (vals:= [(0, .int .i64 (ii:Nat)),(1, .int .i64 (gg:Nat))]) ?_ hbf) ?_);rfl;go_frame)
  | fail)
 refine hg4.mono ?_
 rintro e w5 ⟨rfl,hR5,hm5⟩
 have HM5:=Lib.hid (HM4.out.trans hm5 (fun x h=>h) fun x _ h=>h)
 have HR5:=Lib.hid hR5
 clear hg4 hR5 hm5
 go_upto_region 3 with (first
  | ((with_reducible refine wpList_exec rfl (exec_buildA (vals:= [(1, .agg #[.int .i64 (ii:Nat), .int .i64 (gg:Nat)]),(2, .int .i64 (kk:Nat))]) ?_ hbe) ?_);rfl;go_frame)
  | ((with_reducible refine wpList_storeA_new hag ?_ hone ?_ ?_ ?_);rfl;rfl;rfl;go_frame)
  | fail)
 obtain ⟨w6,hw6⟩: ∃w6,w5.alloc (.cells #[.string {data:= #[]}, .int .i64 (ii:Nat), .int .i64 (gg:Nat), .int .i64 (kk:Nat)] 64)=w6:=⟨_,rfl⟩
 have hX6:w6.heap[w5.heap.size]?=some (.cells #[.string {data:= #[]}, .int .i64 (ii:Nat), .int .i64 (gg:Nat), .int .i64 (kk:Nat)] 64 (0,0)):=by rw [←hw6];exact heap_alloc_at
 have hm6:Mod (fun x=>x=a) w5 w6:=by rw [←hw6];exact (Mod.refl _ w5).alloc _
 have hz6:w6.heap.size=w5.heap.size+1:=by rw [←hw6];simp
 have hR6:=HR5.out.below (show Below w5.heap.size w5 w6 by rw [←hw6];exact (Below.refl _ _).alloc (Nat.le_refl _) _)
 have HX6:=Lib.hid hX6
 have HM6:=Lib.hid (HM5.out.trans hm6 (fun x h=>h) fun x _ h=>h)
 have HZ6:=Lib.hid hz6
 have HR6:=Lib.hid hR6
 rw [hw6]
 clear hw6 hX6 hm6 hz6 hR6 hone hag hbe hbf
 go_upto_region 4 with fail
 obtain ⟨w7,hw7⟩: ∃w7,w6.alloc (.cells (arrC (partN (rdName (unpack B) at_) 0)) 299)=w7:=⟨_,rfl⟩
 have hX7:w7.heap[w6.heap.size]?=some (.cells (arrC (partN (rdName (unpack B) at_) 0)) 299 (0,0)):=by rw [←hw7];exact heap_alloc_at
 have hb7:Below w6.heap.size w6 w7:=by rw [←hw7];exact (Below.refl _ _).alloc (Nat.le_refl _) _
 have hm7:Mod (fun x=>x=a) w6 w7:=by rw [←hw7];exact (Mod.refl _ w6).alloc _
 have hR7:=HR6.out.below hb7
 have HX7:=Lib.hid hX7
 have HE7:=Lib.hid ((hb7.block w5.heap.size (by rw [HZ6.out];exact Nat.lt_succ_self _)).trans HX6.out)
 have HM7:=Lib.hid (HM6.out.trans hm7 (fun x h=>h) fun x _ h=>h)
 have HR7:=Lib.hid hR7
 have h0:(arrC (partN (rdName (unpack B) at_) 0))= #[.int .u8 0, .int .u8 0, .int .u8 0, .int .u8 0, .int .u8 0, .int .u8 0, .int .u8 0, .int .u8 0, .int .u8 0, .int .u8 0, .int .u8 0, .int .u8 0, .int .u8 0, .int .u8 0, .int .u8 0, .int .u8 0]:=rfl
 rw [h0] at hw7
 simp only [hw7] at*
 clear hw7 hX7 hb7 hm7 hR7 h0
 go_wp2
 have hord:a<w5.heap.size∧w5.heap.size<w6.heap.size∧w.heap.size<w5.heap.size:=by
  have h1:=HA.out
  have h2:=HZ6.out
  have h3:=HZ1.out
  have h4:=HM5.out.size
  omega
 have hvx: ∀r,v.ownBlock=some r→r<w5.heap.size:=fun r hr=>by have h1:=HVL.out r hr;omega
 obtain ⟨x2,hx2⟩: ∃x,w5.heap.size=x:=⟨_,rfl⟩
 obtain ⟨x3,hx3⟩: ∃x,w6.heap.size=x:=⟨_,rfl⟩
 simp only [hx2,hx3] at*
 clear hx2 hx3
 have hn31:(n:Int)<32:=by omega
 have HORD:Hid (a<x2∧x2<x3∧w.heap.size<x2):=Lib.hid hord
 have HVX:Hid (∀r,v.ownBlock=some r→r<x2):=Lib.hid hvx
 clear hord hvx
 go_loopw [21] (fun iv wi=> ∃i:Nat,i≤16∧iv= .int .i64 i∧RdAt wi a v B (at_+44+8*i) 0∧wi.heap[x3]?=some (.cells (arrC (partN (rdName (unpack B) at_) i)) 299 (0,0))∧Mod (fun x=>x=a∨x=x3) w7 wi) (fun iv _=>16-(intOf iv).toNat)
 case atStart=>exact ⟨0,Nat.zero_le _,rfl,HR7.out,HX7.out,Mod.refl _ _⟩
 case round=>
  obtain ⟨i,hi,rfl,hR,hX,hm⟩:=hrel
  have HM:=Lib.hid hm
  have HX:=Lib.hid hX
  by_cases hi16:i<16
  ·have hi16':(i:Int)<16:=by omega
   obtain ⟨c,hc⟩: ∃c,rdN (unpack B) (at_+44+8*i) 8=c:=⟨_,rfl⟩
   have hc8:c<256:=by rw [←hc];exact rdN_lt _ _ 8
   have hg:=get_ok hR 8 (by decide) (by have:=HAT.out;omega)
   rw [show natOf (((unpack B).drop (at_+44+8*i)).take 8)=c from hc] at hg
   have hgt:(rdName (unpack B) at_)[i]?=some c:=by rw [rdName_get _ _ hi16,hc]
   have hw8:IntKind.u8.wrap ((c:Nat):Int)=((c:Nat):Int):=by rw [wrap8,Nat.mod_eq_of_lt hc8]
   have HGT:=Lib.hid hgt
   clear hR hX hm hc hgt
   go_wp2_with fail
   refine hg.mono ?_
   rintro e w8 ⟨rfl,hR8,hm8⟩
   have hX8:=hm8.heap HX.out (fun e=>by have h1:=HORD.out;omega)
   have hold:w8.cell? ⟨x3,i,none⟩=some (.int .u8 0):=cell_of hX8 (by unfold arrC;rw [List.getElem?_toArray,List.getElem?_map,partN_get (rdName_len _ _) hi16];rfl)
   have hfr:w8.frozen? ⟨x3,i,none⟩=false:=free_of hX8
   have hmS:=(Mod.refl (fun x=>x=x3) w8).setCell ⟨x3,i,none⟩ (.int .u8 (c:Nat)) (fun _=>rfl)
   have hR9:=hR8.mod hmS (fun e=>by have h1:=HORD.out;omega) (fun r hr e=>by have h1:=HVX.out r hr;have h2:=HORD.out;omega)
   have hX9:(w8.setCell ⟨x3,i,none⟩ (.int .u8 (c:Nat))).heap[x3]?=some (.cells (arrC (partN (rdName (unpack B) at_) (i+1))) 299 (0,0)):=by
    rw [heap_setCell_at hX8, ←partN_set (rdName_len _ _) HGT.out]
    unfold arrC
    simp [List.map_set]
   have HR9:=Lib.hid hR9
   have HX9:=Lib.hid hX9
   have HM9:=Lib.hid ((HM.out.trans (hm8.mono fun x _ h=> .inl h) (fun x h=>h) fun x _ h=>h).trans (hmS.mono fun x _ h=> .inr h) (fun x h=>h) fun x _ h=>h)
   clear hg hR8 hm8 hX8 hmS hR9 hX9
   go_wp2
   go_roundw
   case rel=>exact ⟨i+1,by omega,by go_num,HR9.out,HX9.out,HM9.out⟩
   case measure=>simp [intOf];omega
  ·obtain rfl:i=16:=by omega
   rw [partN_all (rdName_len _ _)] at hX
   rw [show at_+44+8*16=at_+172 by omega] at hR
   obtain ⟨N,hN⟩: ∃N,rdName (unpack B) at_=N:=⟨_,rfl⟩
   have hNl:N.length=16:=by rw [←hN];exact rdName_len _ _
   have hNb: ∀x∈N,x<256:=fun x hx=>by
    rw [←hN] at hx
    obtain ⟨j, -,rfl⟩:=List.mem_map.1 hx
    exact rdN_lt _ _ 8
   rw [hN] at hX
   obtain ⟨m,hmn⟩: ∃m,min n 16=m:=⟨_,rfl⟩
   have hm16:m≤16:=by omega
   have hmin:min (n:Int) 16=(m:Int):=by omega
   have hsl:LSl en8 1 wr (.slice (some ⟨x3,0,none⟩) m 16) (N.take m):=by
    refine ⟨some ⟨x3,0,none⟩,16,by rw [List.length_take];congr 1;omega,by rw [List.length_take];omega,by unfold maxLen;decide,fun _=>⟨x3,0,rfl,lt_of_block hX,fun j x hj=> ?_⟩⟩
    have hjl:=(List.getElem?_eq_some_iff.1 hj).1
    rw [List.getElem?_take_of_lt (by rw [List.length_take] at hjl;omega)] at hj
    intro q hq
    have hq0:q=0:=by simpa [en8] using hq
    subst hq0
    rw [Nat.zero_add,Nat.mul_one,Nat.add_zero]
    refine cell_of hX ?_
    unfold arrC
    rw [List.getElem?_toArray,List.getElem?_map,hj]
    rfl
   have hcv:=fun (ρ:Operand→Value) (dst:Option Tmp) (ty:TypeId) (pos:String) (after:Array Edge) (g':Option (Nat×Bool)) (x:Operand) (hx:ρ x= .slice (some ⟨x3,0,none⟩) m 16)=>exec_convS hsl (ρ:=ρ) (dst:=dst) (ty:=ty) (pos:=pos) (after:=after) (g:=g') hx
   rw [cut_str N n m hmn] at hcv
   have hE:=hm.heap HE7.out (fun e=>by have h1:=HORD.out;omega)
   have hold:wr.cell? ⟨x2,0,none⟩=some (.string {data:= #[]}):=cell_of hE rfl
   have hfr:wr.frozen? ⟨x2,0,none⟩=false:=free_of hE
   have hres:=hm.heap (HM7.out.heap HX1.out (fun e=>by have h1:=HA.out;omega)) (fun e=>by have h1:=HA.out;have h2:=HORD.out;omega)
   have hm9:=(Mod.refl (fun x=>x=x2) wr).setCell ⟨x2,0,none⟩ (.string (cutName N n)) (fun _=>rfl)
   have hE9:(wr.setCell ⟨x2,0,none⟩ (.string (cutName N n))).heap[x2]?=some (.cells (entC ⟨cutName N n,ii,gg,kk⟩) 64 (0,0)):=by
    rw [heap_setCell_at hE]
    rfl
   have hr9:=hm9.heap hres (fun e=>by have h2:=HORD.out;omega)
   have hR9:=hR.mod hm9 (fun e=>by have h1:=HORD.out;omega) (fun r hr e=>by have h1:=HVX.out r hr;omega)
   have HEN:Hid (entAt (unpack B) at_=⟨cutName N n,ii,gg,kk⟩):=Lib.hid (by rw [HENT.out,hN])
   have HE9:=Lib.hid hE9
   have HR9:=Lib.hid hR9
   have HRES:=Lib.hid hr9
   have HMM:=Lib.hid (hm.trans hm9 (T:=fun x=>(x=a∨x=x3)∨x=x2) (fun x h=> .inl h) fun x _ h=> .inr h)
   clear hm hE hR hX hsl hres hm9 hE9 hr9 hR9
   have HSA:=fun (ρ:Operand→Value) (dst:Option Tmp) (ty:TypeId) (pos:String) (after:Array Edge) (g':Option (Nat×Bool)) (x y:Operand) (hx:ρ x= .pointer (some ⟨x3,0,none⟩)) (hy:ρ y= .int .i64 m)=>exec_sliceArr (w:=wr) (ρ:=ρ) (dst:=dst) (ty:=ty) (pos:=pos) (after:=after) (g:=g') Tryz.underlying299 sizeU8 hm16 hx hy
   go_upto_region 10 with (first
    | ((with_reducible refine wpList_exec rfl (HSA _ _ _ _ _ _ _ _ ?_ ?_) ?_);rfl;rfl;go_frame)
    | ((with_reducible refine wpList_exec rfl (hcv _ _ _ _ _ _ _ ?_) ?_);rfl;go_frame)
    | fail)
   generalize wr.setCell ⟨x2,0,none⟩ (.string (cutName N n))=w9 at*
   have hag:=aggEn ⟨cutName N n,ii,gg,kk⟩
   have hone:=oneEn ⟨cutName N n,ii,gg,kk⟩
   have hL9:=lies_of HE9.out
   have hb9:=HRES.out
   go_wp2_with (first
    | ((with_reducible refine wpList_loadA hag hL9 ?_ ?_);rfl;go_frame)
    | ((with_reducible refine wpList_storeB hag ?_ ?_ hb9 rfl hone ?_);rfl;rfl;(intro w10 hh10 hm10;have HH10:=Lib.hid hh10;have HM10:=Lib.hid hm10;clear hh10 hm10);go_frame)
    | fail)
   refine bodyPost_ret (results_cellA rfl _ rfl hag (lies_of HH10.out)) rfl ?_
   rw [HEN.out]
   refine ⟨rfl,HR9.out.mod HM10.out (fun e=>by have h1:=HA.out;omega) (fun r hr e=>by have h1:=HVL.out r hr;omega),?_⟩
   have m1:=HM1.out.trans HM7.out (fun x h=>h) fun x _ h=>h
   have m2:=HMM.out.trans HM10.out (T:=fun x=>((x=a∨x=x3)∨x=x2)∨x=w.heap.size) (fun x h=> .inl h) fun x _ h=> .inr h
   exact m1.trans m2 (fun x h=>h) fun x hx h=>by
    have h1:=HORD.out
    rcases h with ((h|h)|h)|h
    ·exact h
    ·omega
    ·omega
    ·omega
end
end Go.Proofs.YtjdbbnhnbdocbaaGreat
namespace Go.Tn.Dr
open Go.RowKit
def ltL (a b:List UInt8):Bool:=Op.bytesLess a b
def ltN (a b:ByteArray):Bool:=ltL (bsz a) (bsz b)
theorem ltL_irrefl: ∀a:List UInt8,ltL a a=false
 | []=>rfl
 | x::a=>by
  show (decide (x<x)||(x==x&&ltL a a))=false
  rw [ltL_irrefl a]
  simp
theorem ltL_trans: ∀a b c:List UInt8,ltL a b=true→ltL b c=true→ltL a c=true
 | [], [],_,h,_=>by cases h
 | [],_::_, [],_,h=>by cases h
 | [],_::_,_::_,_,_=>rfl
 | _::_, [],_,h,_=>by cases h
 | _::_,_::_, [],_,h=>by cases h
 | x::a,y::b,z::c,h,k=>by
  have h:(decide (x<y)||(x==y&&ltL a b))=true:=h
  have k:(decide (y<z)||(y==z&&ltL b c))=true:=k
  show (decide (x<z)||(x==z&&ltL a c))=true
  simp only [Bool.or_eq_true,decide_eq_true_eq,Bool.and_eq_true,beq_iff_eq] at h k ⊢
  rcases h with h1|⟨e1,h1⟩
  ·rcases k with k1|⟨e2,k1⟩
   ·exact .inl (UInt8.lt_trans h1 k1)
   ·exact .inl (e2 ▸ h1)
  ·rcases k with k1|⟨e2,k1⟩
   ·exact .inl (e1 ▸ k1)
   ·exact .inr ⟨e1.trans e2,ltL_trans a b c h1 k1⟩
theorem ltL_total: ∀a b:List UInt8,ltL a b=false→ltL b a=false→a=b
 | [], [],_,_=>rfl
 | [],_::_,h,_=>by cases h
 | _::_, [],_,h=>by cases h
 | x::a,y::b,h,k=>by
  have h:(decide (x<y)||(x==y&&ltL a b))=false:=h
  have k:(decide (y<x)||(y==x&&ltL b a))=false:=k
  simp only [Bool.or_eq_false_iff,decide_eq_false_iff_not,Bool.and_eq_false_iff,beq_eq_false_iff_ne] at h k
  have hxy:x=y:=UInt8.le_antisymm (UInt8.not_lt.1 k.1) (UInt8.not_lt.1 h.1)
  subst hxy
  rw [ltL_total a b (h.2.resolve_left fun e=>e rfl) (k.2.resolve_left fun e=>e rfl)]
theorem cmp_ltL: ∀a b:List UInt8,(Lib.compareBytes a b<0↔ltL a b=true)∧(Lib.compareBytes a b=0↔a=b)
 | [], []=>by simp [Lib.compareBytes,ltL,Op.bytesLess]
 | [],_::_=>by simp [Lib.compareBytes,ltL,Op.bytesLess]
 | _::_, []=>by simp [Lib.compareBytes,ltL,Op.bytesLess]
 | x::a,y::b=>by
  have ih:=cmp_ltL a b
  have e:ltL (x::a) (y::b)=(decide (x<y)||(x==y&&ltL a b)):=rfl
  rw [e]
  unfold Lib.compareBytes
  by_cases h1:x<y
  ·have hne:x≠y:=fun e=>by subst e;exact absurd h1 (UInt8.lt_irrefl x)
   simp [h1,hne]
  ·by_cases h2:y<x
   ·have hne:x≠y:=fun e=>by subst e;exact absurd h2 (UInt8.lt_irrefl x)
    simp [h1,h2,hne]
   ·have hxy:x=y:=UInt8.le_antisymm (UInt8.not_lt.1 h2) (UInt8.not_lt.1 h1)
    subst hxy
    simp [h1,ih.1,ih.2]
def Rise (l:List Ent):Prop:=l.Pairwise fun a b=>ltN a.name b.name=true
theorem Rise.get {l:List Ent} (h:Rise l) {i j:Nat} {x y:Ent} (hi:l[i]?=some x) (hj:l[j]?=some y) (hij:i<j):ltN x.name y.name=true:=by
 obtain ⟨h1,rfl⟩:=List.getElem?_eq_some_iff.1 hi
 obtain ⟨h2,rfl⟩:=List.getElem?_eq_some_iff.1 hj
 exact (List.pairwise_iff_getElem.1 h) i j h1 h2 hij
end Go.Tn.Dr
namespace Go.Proofs.YtjdbbnhnbdocbaaGreat
open Go.RowKit Go.Tn Go.Tn.Bt Go.Tn.Ino Go.Tn.Dr Go.Tn.Names
set_option maxHeartbeats 1000000 in
set_option maxRecDepth 100000 in
theorem cmpS_any (w:World) (a b:ByteArray):Calls Tryz.prog 206 #[.string a, .string b] w fun e w'=>e= .returned (.int .i64 (Lib.compareBytes (bsz a) (bsz b)))∧w'=w:=by
 go_enter Tryz.func206,Tryz.ntmps206
 go_wp2
 rw [run_callFunc_extern Tryz.func221 (by kernel_rfl) (by kernel_rfl) (by kernel_rfl) (e:=Extern.BytealgCompare.compare) (by kernel_rfl),Lib.run_compareString]
 simp only [Result.andThen]
 rw [Oper.upon_value]
 go_wp2
 go_ret
 exact ⟨rfl,rfl⟩
set_option maxHeartbeats 1000000 in
set_option maxRecDepth 100000 in
theorem compare_any (w:World) (a b:ByteArray):Calls Tryz.prog 178 #[.string a, .string b] w fun e w'=>e= .returned (.int .i64 (Lib.compareBytes (bsz a) (bsz b)))∧w'=w:=by
 go_enter Tryz.func178,Tryz.ntmps178
 go_wp2_with (first
  | (go_at_call 206;refine (cmpS_any _ _ _).mono ?_;rintro e wt ⟨rfl,hw⟩;obtain rfl:=hw.symm;clear hw)
  | fail)
 go_ret
 exact ⟨rfl,rfl⟩
theorem sl_ent {w:World} {v:Value} {l:List Ent} (h:LSl enEn 4 w v l) {i:Nat} {x:Ent} (hx:l[i]?=some x): ∃b o cap,v= .slice (some ⟨b,o,none⟩) l.length cap∧b<w.heap.size∧Lies w b (o+i*4) (entC x):=h.at_ hx
set_option maxRecDepth 20000 in
set_option maxHeartbeats 2000000 in
theorem erising_any (w:World) (v:Value) (l:List Ent) (h:LSl enEn 4 w v l) (hr:Dr.Rise l):Calls Tryz.prog 179 #[v] w fun e w'=>e= .returned (.bool true)∧Below w.heap.size w w':=by
 have H:=Lib.hid h
 have HR:=Lib.hid hr
 obtain ⟨ao,cap,rfl,h1,h2,h3⟩:=h
 unfold maxLen at h2
 have hlen:(l.length:Int)≤9223372036854775807:=by omega
 clear h3 hr
 go_enter Tryz.func179,Tryz.ntmps179
 go_wp2
 go_loopw [3] (fun iv wi=> ∃i:Nat,1≤i∧(i≤l.length∨i=1)∧iv= .int .i64 i∧Below w.heap.size w wi) (fun iv _=>l.length-(intOf iv).toNat)
 case atStart=>exact ⟨1,Nat.le_refl _, .inr rfl,rfl,Below.refl _ _⟩
 case round=>
  obtain ⟨i,hi1,hi2,rfl,hb⟩:=hrel
  have HB:=Lib.hid hb
  clear hb
  by_cases hil:i<l.length
  ·have hil':(i:Int)<(l.length:Int):=by omega
   obtain ⟨k,hk⟩: ∃k,i=k+1:=⟨i-1,by omega⟩
   obtain ⟨x,hx⟩: ∃x,l[k]?=some x:=⟨_,List.getElem?_eq_getElem (by omega)⟩
   obtain ⟨y,hy⟩: ∃y,l[i]?=some y:=⟨_,List.getElem?_eq_getElem hil⟩
   obtain ⟨b,o,cp,hv,hbl,hLx⟩:=sl_ent H.out hx
   obtain ⟨b',o',cp',hv', -,hLy⟩:=sl_ent H.out hy
   cases hv
   cases hv'
   have hlt:Op.bytesLess x.name.toList y.name.toList=true:=by
    rw [bs_eq,bs_eq]
    exact HR.out.get hx hy (by omega)
   have q0:wr.drew.cell? ⟨b,o+k*4,none⟩=some (.string x.name):=(hLx.below' HB.out hbl) 0 (by show 0<4;decide)
   have q1:wr.drew.cell? ⟨b,o+i*4,none⟩=some (.string y.name):=(hLy.below' HB.out hbl) 0 (by show 0<4;decide)
   have hS:=And.intro q0 q1
   have em:(i:Int)-1=(k:Int):=by omega
   have HB2:=Lib.hid HB.out.drew
   clear hk
   have hkl:(k:Int)<(l.length:Int):=by omega
   have hi0:(0:Int)≤(i:Int):=by omega
   have hwm:IntKind.i64.wrap (k:Int)=(k:Int):=IntWalk.i64_in _ (by omega)
   clear hLx hLy q0 q1 hx hy
   go_upto_region 4 with fail
   refine wp_region_x (fun w'=>w'.cell? ⟨b,o+k*4,none⟩=some (.string x.name)∧w'.cell? ⟨b,o+i*4,none⟩=some (.string y.name)) [(0,1),(1,1),(2,1),(3,1),(4,1),(5,0),(6,1),(7,1),(8,1),(9,1),(10,0),(11,1)] (by kernel_rfl) (by kernel_rfl) (by intro d v c a w h;cases d<;>exact h) ?_
   iterate 5 (refine x_take rfl (fun K hK=> ?_);go_simp;refine hK _ ?_;clear hK K)
   refine x_read rfl hS (fun w' h=>exec_load1 ⟨⟨_,Tryz.underlying9,rfl⟩⟩ rfl h.1) ?_
   iterate 4 (refine x_take rfl (fun K hK=> ?_);go_simp;refine hK _ ?_;clear hK K)
   refine x_read rfl hS (fun w' h=>exec_load1 ⟨⟨_,Tryz.underlying9,rfl⟩⟩ rfl h.2) ?_
   iterate 1 (refine x_take rfl (fun K hK=> ?_);go_simp;refine hK _ ?_;clear hK K)
   refine x_nil ?_
   clear hS hwm
   go_wp2
   go_roundw
   case rel=>exact ⟨i+1,by omega, .inl (by omega),by go_num,HB2.out⟩
   case measure=>simp [intOf];omega
  ·have hil':¬ (i:Int)<(l.length:Int):=by omega
   go_wp2
   go_ret
   exact ⟨rfl,HB.out⟩
theorem eblocksF_any (w:World) (e:Ent) (h:Ent.ok e):Calls Tryz.prog 180 #[.agg (entC e)] w fun e' w'=>e'= .returned (.bool false)∧Below w.heap.size w w':=by
 obtain ⟨w1,hw1⟩: ∃w1,w.alloc (.cells (entC e) 64)=w1:=⟨_,rfl⟩
 have hb1:Below w.heap.size w w1:=by rw [←hw1];exact (Below.refl _ _).alloc (Nat.le_refl _) _
 have hL:Lies w1 w.heap.size 0 (entC e):=lies_of (by rw [←hw1];exact heap_alloc_at)
 have hag:=aggEn e
 have hri:=eright_yes w1 e h
 have HB1:=Lib.hid hb1
 clear hb1 h
 go_enter Tryz.func180,Tryz.ntmps180
 go_upto_region 1 with fail
 simp only [hw1] at*
 clear hw1
 go_wp2_with (first
  | ((with_reducible refine wpList_loadA hag hL ?_ ?_);rfl;go_frame)
  | (go_at_call 181;refine hri.mono ?_;rintro e2 w2 ⟨rfl,hb2⟩;have HB2:=Lib.hid (HB1.out.trans (hb2.mono HB1.out.size));clear hb2)
  | fail)
 go_ret
 exact ⟨rfl,HB2.out⟩
set_option maxHeartbeats 1000000 in
theorem eindexR_any (w:World) (v:Value) (l:List Ent) (h:LSl enEn 4 w v l) (hok: ∀e∈l,Ent.ok e):Calls Tryz.prog 183 #[v, .func (.func 180) #[] #[]] w
  fun e w'=>e= .returned (.int .i64 (-1))∧Below w.heap.size w w':=by
 have H:=Lib.hid h
 have HOK:=Lib.hid hok
 obtain ⟨ao,cap,rfl,h1,h2,h3⟩:=h
 unfold maxLen at h2
 clear h3 hok
 go_enter Tryz.func183,Tryz.ntmps183
 go_wp2
 go_loopw [8] (fun kv wr=> ∃k:Nat,k≤l.length∧kv= .int .i64 k∧Below w.heap.size w wr) (fun kv _=>l.length-(intOf kv).toNat)
 case atStart=>exact ⟨0,Nat.zero_le _,rfl,Below.refl _ _⟩
 case round=>
  obtain ⟨k,hk,rfl,hb⟩:=hrel
  have HB:=Lib.hid hb
  clear hb
  by_cases hlt:k<l.length
  ·have hlt':(k:Int)<(l.length:Int):=by omega
   obtain ⟨x,hx⟩: ∃x,l[k]?=some x:=⟨_,List.getElem?_eq_getElem hlt⟩
   obtain ⟨b,o,cp,hv,hbl,hLx⟩:=sl_ent H.out hx
   cases hv
   have hL:=hLx.below' HB.out hbl
   have hag:=aggEn x
   have hcl:=eblocksF_any wr x (HOK.out x (List.mem_of_getElem? hx))
   clear hLx hx
   go_wp2_with (first
    | ((with_reducible refine wpList_loadA hag hL ?_ ?_);rfl;go_frame)
    | fail)
   refine hcl.mono ?_
   rintro e w2 ⟨rfl,hb2⟩
   have HB2:=Lib.hid (HB.out.trans (hb2.mono HB.out.size))
   clear hcl hb2 hL
   go_wp2
   go_roundw
   case rel=>exact ⟨k+1,by omega,by go_num,HB2.out⟩
   case measure=>simp [intOf];omega
  ·obtain rfl:k=l.length:=by omega
   go_wp2
   go_ret
   exact ⟨rfl,HB.out⟩
theorem econtainsR_any (w:World) (v:Value) (l:List Ent) (h:LSl enEn 4 w v l) (hok: ∀e∈l,Ent.ok e):Calls Tryz.prog 150 #[v, .func (.func 180) #[] #[]] w
  fun e w'=>e= .returned (.bool false)∧Below w.heap.size w w':=by
 have hi:=eindexR_any w v l h hok
 obtain ⟨ao,cap,rfl, -⟩:=h
 go_enter Tryz.func150,Tryz.ntmps150
 go_wp2_with fail
 refine hi.mono ?_
 rintro e w2 ⟨rfl,hb2⟩
 have HB:=Lib.hid hb2
 clear hi hb2
 go_wp2
 go_ret
 exact ⟨rfl,HB.out⟩
end Go.Proofs.YtjdbbnhnbdocbaaGreat
