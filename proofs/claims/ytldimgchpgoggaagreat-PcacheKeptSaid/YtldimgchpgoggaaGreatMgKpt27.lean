import Derived.Test.YtldimgchpgoggaaGreatMgKpt26
import Derived.Test.YtldimgchpgoggaaGreatMgKpt8
import Derived.Test.YtldimgchpgoggaaGreatMgKpt11
import Derived.LoopN
import Derived.Test.YtldimgchpgoggaaGreatMgKpt24
import Derived.Test.YtldimgchpgoggaaGreatMgKpt23
namespace Go.Tn.Slo
open Go.RowKit Go.Tn.Bt Go.Tn.Ino
theorem unpack_sec {L:List Bool} (h:L.length≤1024): ∃Z,unpack (sector L)=L++Z:=by
 unfold sector
 rw [unpack_append,unpack_pack]
 exact ⟨_,by rw [List.append_assoc]⟩
theorem slice_of {A Z:List Bool} {x k n:Nat} (hn:n=A.length) (hx:x<2 ^ k):natOf (((A++(bitsN x k++Z)).drop n).take k)=x:=by
 subst hn
 rw [List.drop_append,List.drop_of_length_le (Nat.le_refl _),List.nil_append,Nat.sub_self,List.drop_zero,List.take_append_of_le_length (by rw [bitsN_len];exact Nat.le_refl _),List.take_of_length_le (by rw [bitsN_len];exact Nat.le_refl _),natOf_bitsN,Nat.mod_eq_of_lt hx]
structure Rds (B:List Nat) (x:Slt):Prop where
 used:natOf (((unpack B).drop 0).take 1)=x.used.toNat
 dirty:natOf (((unpack B).drop 1).take 1)=x.dirty.toNat
 ino:natOf (((unpack B).drop 2).take 6)=x.blk.1.toNat
 gen:natOf (((unpack B).drop 8).take 31)=x.blk.2.1.toNat
 at_:natOf (((unpack B).drop 39).take 3)=x.blk.2.2.toNat
 ver:natOf (((unpack B).drop 42).take 40)=x.ver
 text:((unpack B).drop 82).take (16+8*x.data.size)=txBits x.data
theorem rds_no:Rds Slt.no.sec Slt.no:=by
 have h:unpack Slt.no.sec=List.replicate 1024 false:=by rw [no_sec];decide+kernel
 refine ⟨?_,?_,?_,?_,?_,?_,?_⟩
 all_goals
   rw [h]
   decide+kernel
theorem rds_fits {x:Slt} (h:x.fits):Rds x.sec x:=by
 obtain ⟨Z,hZ⟩:=unpack_sec (Slt.bits_len (.inr h))
 have hu:unpack x.sec=bitsN 1 1++(bitsN x.dirty.toNat 1++(bitsN x.blk.1.toNat 6++(bitsN x.blk.2.1.toNat 31++(bitsN x.blk.2.2.toNat 3++(bitsN x.ver 40++(txBits x.data++Z)))))):=by
   unfold Slt.sec
   rw [hZ]
   unfold Slt.bits
   rw [if_pos h.used]
   simp only [List.append_assoc]
 have h1:=h.ino
 have h2:=h.gen
 have h3:=h.at_
 have h4:=h.ver
 refine ⟨?_,?_,?_,?_,?_,?_,?_⟩
 · rw [hu,h.used]
   exact slice_of (A:= []) rfl (by decide)
 · rw [hu]
   exact slice_of (by rw [bitsN_len]) (by cases x.dirty<;>decide)
 · rw [hu, ←List.append_assoc]
   exact slice_of (by simp [bitsN_len]) (by omega)
 · rw [hu, ←List.append_assoc, ←List.append_assoc]
   exact slice_of (by simp [bitsN_len]) (by omega)
 · rw [hu, ←List.append_assoc, ←List.append_assoc, ←List.append_assoc]
   exact slice_of (by simp [bitsN_len]) (by omega)
 · rw [hu, ←List.append_assoc, ←List.append_assoc, ←List.append_assoc, ←List.append_assoc]
   exact slice_of (by simp [bitsN_len]) (by omega)
 · rw [hu, ←List.append_assoc, ←List.append_assoc, ←List.append_assoc, ←List.append_assoc, ←List.append_assoc,List.drop_append,List.drop_of_length_le (by simp [bitsN_len])]
   rw [List.nil_append,show 82-(bitsN 1 1++bitsN x.dirty.toNat 1++bitsN x.blk.1.toNat 6++bitsN x.blk.2.1.toNat 31++bitsN x.blk.2.2.toNat 3++bitsN x.ver 40).length=0 by simp [bitsN_len],List.drop_zero,List.take_append_of_le_length (by rw [tx_len];exact Nat.le_refl _),List.take_of_length_le (by rw [tx_len];exact Nat.le_refl _)]
theorem rds_of {x:Slt} (h:x.is):Rds x.sec x:=by
 rcases h with rfl|h
 · exact rds_no
 · exact rds_fits h
theorem is_num {x:Slt} (h:x.is):(0≤x.blk.1∧x.blk.1≤40)∧(0≤x.blk.2.1∧x.blk.2.1≤2147483647)∧(0≤x.blk.2.2∧x.blk.2.2<8)∧x.ver≤1099511627775∧x.data.size≤64:=by
 rcases h with rfl|h
 · decide
 · exact ⟨⟨by have:=h.ino;omega,h.ino.2⟩,h.gen,h.at_,h.ver,h.size⟩
end Go.Tn.Slo
namespace Go.Proofs.YtldimgchpgoggaaGreat
open Go.RowKit Go.Tn Go.Tn.Bt Go.Tn.Ino Go.Tn.Slo
theorem built_ud (u d:Bool):Tryz.prog.built 42 [(0, .bool u),(3, .bool d)]=some (slC ⟨u,(0,0,0),0,d,ByteArray.empty⟩):=by kernel_rfl
theorem nat_bool (u:Bool):((((u.toNat:Nat):Int))==1)=u:=by cases u<;>rfl
set_option maxRecDepth 20000 in
set_option maxHeartbeats 8000000 in
theorem sdec_any (w:World) (v:Value) (x:Slt) (hx:x.is) (h:LSl en8 1 w v x.sec):Calls Tryz.prog 84 #[v] w fun e w'=>e= .returned (.tuple #[.agg (slC x), .int .i64 0])∧Below w.heap.size w w':=by
 have hrd:=rds_of hx
 obtain ⟨hin,hgn,han,hvn,hsn⟩:=is_num hx
 obtain ⟨⟨u,⟨i,g,a⟩,vn,d,tx⟩,hxe⟩: ∃y,x=y:=⟨_,rfl⟩
 subst hxe
 simp only at hin hgn han hvn hsn
 obtain ⟨i,rfl⟩:=Int.eq_ofNat_of_zero_le hin.1
 obtain ⟨g,rfl⟩:=Int.eq_ofNat_of_zero_le hgn.1
 obtain ⟨a,rfl⟩:=Int.eq_ofNat_of_zero_le han.1
 have hlen:=Slt.sec_len hx
 have hlt:=Slt.sec_lt (⟨u,((i:Int),(g:Int),(a:Int)),vn,d,tx⟩:Slt)
 generalize hB:(⟨u,((i:Int),(g:Int),(a:Int)),vn,d,tx⟩:Slt).sec=B at*
 have hsh: ∃ao n cap,v= .slice ao n cap:=by
   obtain ⟨ao,cap,rfl, -⟩:=h
   exact ⟨_,_,_,rfl⟩
 obtain ⟨va,vl,vc,rfl⟩:=hsh
 obtain ⟨r1,r2,r3,r4,r5,r6,r7⟩:=hrd
 simp only [Int.toNat_natCast] at r1 r2 r3 r4 r5 r6 r7
 have hz1:(w.alloc (.cells (slC Slt.no) 42)).heap[w.heap.size]?=some (.cells (slC Slt.no) 42 (0,0)):=heap_alloc_at
 have hb1:Below w.heap.size w (w.alloc (.cells (slC Slt.no) 42)):=(Below.refl _ _).alloc (Nat.le_refl _) _
 have hs1:(w.alloc (.cells (slC Slt.no) 42)).heap.size=w.heap.size+1:=by simp
 have hzc:slC Slt.no= #[.bool false, .int .i64 0, .int .i64 0, .int .i64 0, .int .u64 0, .bool false, .string {data:= #[]}]:=rfl
 generalize hw1:w.alloc (.cells (slC Slt.no) 42)=w1 at hz1 hb1 hs1
 rw [hzc] at hw1
 clear hzc
 have hop:=ropen_any w1 _ B (h.below hb1) hlt (by omega)
 have HL:=Lib.hid h
 have HBE:=Lib.hid hB
 have HX:=Lib.hid hx
 have HLEN:=Lib.hid hlen
 have HLT:=Lib.hid hlt
 have R1:=Lib.hid r1
 have R2:=Lib.hid r2
 have R3:=Lib.hid r3
 have R4:=Lib.hid r4
 have R5:=Lib.hid r5
 have R6:=Lib.hid r6
 have R7:=Lib.hid r7
 have HZ1:=Lib.hid hz1
 have HB1:=Lib.hid hb1
 have HS1:=Lib.hid hs1
 clear h hB hx hlen hlt r1 r2 r3 r4 r5 r6 r7 hz1 hb1 hs1 hin hgn han
 have hi6:(i:Int)<64:=by have:=(is_num HX.out).1.2;simp only at this;omega
 have hg31:(g:Int)<2147483648:=by have:=(is_num HX.out).2.1.2;simp only at this;omega
 have ha3:(a:Int)<8:=(is_num HX.out).2.2.1.2
 go_enter Tryz.func84,Tryz.ntmps84
 go_upto_region 1 with fail
 clear hw1
 go_wp2_with fail
 refine hop.mono ?_
 rintro e w2 ⟨ra,rv,rfl,hR2,hra,hrv,hb2⟩
 have hw12:w.heap.size<w2.heap.size:=by have:=HS1.out;have:=hb2.size;omega
 have hra0:w.heap.size<ra:=by have:=HS1.out;omega
 have hz2:=(hb2.block w.heap.size (lt_of_block HZ1.out)).trans HZ1.out
 have hb02:=HB1.out.trans (hb2.mono (by have:=HS1.out;omega))
 have hg1:=get_ok hR2 1 (by decide) (by rw [HLEN.out];decide)
 rw [R1.out,show ((1:Nat):Int)=1 from rfl] at hg1
 have hnu:=nat_bool u
 have hnd:=nat_bool d
 have HZ2:=Lib.hid hz2
 have HB02:=Lib.hid hb02
 have HRV:=Lib.hid hrv
 clear hop hR2 hra hb2 hz2 hb02 hw12 hrv
 go_wp2_with fail
 refine hg1.mono ?_
 rintro e w3 ⟨rfl,hR3,hm3⟩
 rw [Nat.zero_add] at hR3
 have hg2:=get_ok hR3 1 (by decide) (by rw [HLEN.out];decide)
 rw [R2.out,show ((1:Nat):Int)=1 from rfl] at hg2
 have HM3:=Lib.hid hm3
 clear hg1 hR3 hm3
 go_wp2_with fail
 refine hg2.mono ?_
 rintro e w4 ⟨rfl,hR4,hm4⟩
 rw [show 1+1=2 from rfl] at hR4
 have hm24:=HM3.out.trans hm4 (T:=fun x=>x=ra) (fun x h=>h) (fun x _ h=>h)
 have hb04:=HB02.out.trans (hm24.below HB02.out.size fun x hx e=>by omega)
 have hz4:=hm24.heap HZ2.out (fun e=>by omega)
 have hbd:=built_ud u d
 have hag5:=aggSl ⟨u,(0,0,0),0,d,ByteArray.empty⟩
 have hon5:=oneSl ⟨u,(0,0,0),0,d,ByteArray.empty⟩
 have hb5:Below w4.heap.size w4 (w4.alloc (.cells (slC ⟨u,(0,0,0),0,d,ByteArray.empty⟩) 42)):=(Below.refl _ _).alloc (Nat.le_refl _) _
 have hx5:(w4.alloc (.cells (slC ⟨u,(0,0,0),0,d,ByteArray.empty⟩) 42)).heap[w4.heap.size]?=some (.cells (slC ⟨u,(0,0,0),0,d,ByteArray.empty⟩) 42 (0,0)):=heap_alloc_at
 have hz5:=(hb5.block w.heap.size (lt_of_block hz4)).trans hz4
 have hR5:=hR4.below hb5
 have hb05:=hb04.trans (hb5.mono hb04.size)
 have hxb:ra<w4.heap.size∧w.heap.size<w4.heap.size∧ ∀r,rv.ownBlock=some r→r<w4.heap.size:=⟨lt_of_block hR4.blk,lt_of_block hz4,fun r hr=>hR4.bs.lt hr⟩
 have HX5:=Lib.hid hx5
 have HZ5:=Lib.hid hz5
 have HR5:=Lib.hid hR5
 have HB05:=Lib.hid hb05
 have HXB:=Lib.hid hxb
 clear hg2 hR4 hm4 hm24 hb04 hz4 hb5 hx5 hz5 hR5 hb05 HZ2 HB02 HM3 hxb
 go_upto_region 3 with (first
   |((with_reducible refine wpList_exec rfl (exec_buildA (vals:= [(0, .bool u),(3, .bool d)]) ?_ hbd) ?_);rfl;go_frame)
   |((with_reducible refine wpList_storeA_new hag5 ?_ hon5 ?_ ?_ ?_);rfl;rfl;rfl;go_frame)
   |fail)
 generalize w4.heap.size=xb at*
 generalize w4.alloc (.cells (slC ⟨u,(0,0,0),0,d,ByteArray.empty⟩) 42)=w5 at*
 clear hag5 hon5 hbd hnu hnd
 have hg:=get_ok HR5.out 6 (by decide) (by rw [HLEN.out];decide)
 rw [R3.out,show ((6:Nat):Int)=6 from rfl] at hg
 go_wp2_with fail
 refine hg.mono ?_
 rintro e w6 ⟨rfl,hR6,hm6⟩
 rw [show 2+6=8 from rfl] at hR6
 have hx6:=hm6.heap HX5.out (fun e=>by have:=HXB.out.1;omega)
 have hz6:=hm6.heap HZ5.out (fun e=>by omega)
 have hb06:=HB05.out.trans (hm6.below HB05.out.size fun x hx e=>by omega)
 have hc:w6.cell? ⟨xb,1,none⟩=some (.int .i64 0):=cell_of hx6 rfl
 have hf:w6.frozen? ⟨xb,1,none⟩=false:=free_of hx6
 have hmk:=(Mod.refl (fun x=>x=xb) w6).setCell ⟨xb,1,none⟩ (.int .i64 (i:Nat)) (fun _=>rfl)
 have hx7:(w6.setCell ⟨xb,1,none⟩ (.int .i64 (i:Nat))).heap[xb]?=some (.cells (slC ⟨u,((i:Int),0,0),0,d,ByteArray.empty⟩) 42 (0,0)):=by
   rw [heap_setCell_at hx6]
   rfl
 have hz7:=hmk.heap hz6 (fun e=>by have:=HXB.out.2.1;omega)
 have hR7:=hR6.mod hmk (fun e=>by have:=HXB.out.1;omega) (fun r hr e=>by have:=HXB.out.2.2 r hr;omega)
 have hb07:=hb06.trans (hmk.below hb06.size fun x hx e=>by have:=HXB.out.2.1;omega)
 have HX7:=Lib.hid hx7
 have HZ7:=Lib.hid hz7
 have HR7:=Lib.hid hR7
 have HB07:=Lib.hid hb07
 clear hg hR6 hm6 hx6 hz6 hb06 hmk hx7 hz7 hR7 hb07 HX5 HZ5 HR5 HB05
 go_upto_region 4 with fail
 clear hc hf
 generalize w6.setCell ⟨xb,1,none⟩ (.int .i64 (i:Nat))=w7 at*
 have hg:=get_ok HR7.out 31 (by decide) (by rw [HLEN.out];decide)
 rw [R4.out,show ((31:Nat):Int)=31 from rfl] at hg
 go_wp2_with fail
 refine hg.mono ?_
 rintro e w8 ⟨rfl,hR8,hm8⟩
 rw [show 8+31=39 from rfl] at hR8
 have hx8:=hm8.heap HX7.out (fun e=>by have:=HXB.out.1;omega)
 have hz8:=hm8.heap HZ7.out (fun e=>by omega)
 have hb08:=HB07.out.trans (hm8.below HB07.out.size fun x hx e=>by omega)
 have hc:w8.cell? ⟨xb,2,none⟩=some (.int .i64 0):=cell_of hx8 rfl
 have hf:w8.frozen? ⟨xb,2,none⟩=false:=free_of hx8
 have hmk:=(Mod.refl (fun x=>x=xb) w8).setCell ⟨xb,2,none⟩ (.int .i64 (g:Nat)) (fun _=>rfl)
 have hx9:(w8.setCell ⟨xb,2,none⟩ (.int .i64 (g:Nat))).heap[xb]?=some (.cells (slC ⟨u,((i:Int),(g:Int),0),0,d,ByteArray.empty⟩) 42 (0,0)):=by
   rw [heap_setCell_at hx8]
   rfl
 have hz9:=hmk.heap hz8 (fun e=>by have:=HXB.out.2.1;omega)
 have hR9:=hR8.mod hmk (fun e=>by have:=HXB.out.1;omega) (fun r hr e=>by have:=HXB.out.2.2 r hr;omega)
 have hb09:=hb08.trans (hmk.below hb08.size fun x hx e=>by have:=HXB.out.2.1;omega)
 have HX9:=Lib.hid hx9
 have HZ9:=Lib.hid hz9
 have HR9:=Lib.hid hR9
 have HB09:=Lib.hid hb09
 clear hg hR8 hm8 hx8 hz8 hb08 hmk hx9 hz9 hR9 hb09 HX7 HZ7 HR7 HB07
 go_upto_region 5 with fail
 clear hc hf
 generalize w8.setCell ⟨xb,2,none⟩ (.int .i64 (g:Nat))=w9 at*
 have hg:=get_ok HR9.out 3 (by decide) (by rw [HLEN.out];decide)
 rw [R5.out,show ((3:Nat):Int)=3 from rfl] at hg
 go_wp2_with fail
 refine hg.mono ?_
 rintro e w10 ⟨rfl,hR10,hm10⟩
 rw [show 39+3=42 from rfl] at hR10
 have hx10:=hm10.heap HX9.out (fun e=>by have:=HXB.out.1;omega)
 have hz10:=hm10.heap HZ9.out (fun e=>by omega)
 have hb010:=HB09.out.trans (hm10.below HB09.out.size fun x hx e=>by omega)
 have hc:w10.cell? ⟨xb,3,none⟩=some (.int .i64 0):=cell_of hx10 rfl
 have hf:w10.frozen? ⟨xb,3,none⟩=false:=free_of hx10
 have hmk:=(Mod.refl (fun x=>x=xb) w10).setCell ⟨xb,3,none⟩ (.int .i64 (a:Nat)) (fun _=>rfl)
 have hx11:(w10.setCell ⟨xb,3,none⟩ (.int .i64 (a:Nat))).heap[xb]?=some (.cells (slC ⟨u,((i:Int),(g:Int),(a:Int)),0,d,ByteArray.empty⟩) 42 (0,0)):=by
   rw [heap_setCell_at hx10]
   rfl
 have hz11:=hmk.heap hz10 (fun e=>by have:=HXB.out.2.1;omega)
 have hR11:=hR10.mod hmk (fun e=>by have:=HXB.out.1;omega) (fun r hr e=>by have:=HXB.out.2.2 r hr;omega)
 have hb011:=hb010.trans (hmk.below hb010.size fun x hx e=>by have:=HXB.out.2.1;omega)
 have HX11:=Lib.hid hx11
 have HZ11:=Lib.hid hz11
 have HR11:=Lib.hid hR11
 have HB011:=Lib.hid hb011
 clear hg hR10 hm10 hx10 hz10 hb010 hmk hx11 hz11 hR11 hb011 HX9 HZ9 HR9 HB09
 go_upto_region 6 with fail
 clear hc hf
 generalize w10.setCell ⟨xb,3,none⟩ (.int .i64 (a:Nat))=w11 at*
 have hg:=get_ok HR11.out 40 (by decide) (by rw [HLEN.out];decide)
 rw [R6.out,show ((40:Nat):Int)=40 from rfl] at hg
 go_wp2_with fail
 refine hg.mono ?_
 rintro e w12 ⟨rfl,hR12,hm12⟩
 rw [show 42+40=82 from rfl] at hR12
 have hx12:=hm12.heap HX11.out (fun e=>by have:=HXB.out.1;omega)
 have hz12:=hm12.heap HZ11.out (fun e=>by omega)
 have hb012:=HB011.out.trans (hm12.below HB011.out.size fun x hx e=>by omega)
 have hc:w12.cell? ⟨xb,4,none⟩=some (.int .u64 0):=cell_of hx12 rfl
 have hf:w12.frozen? ⟨xb,4,none⟩=false:=free_of hx12
 have hmk:=(Mod.refl (fun x=>x=xb) w12).setCell ⟨xb,4,none⟩ (.int .u64 (vn:Nat)) (fun _=>rfl)
 have hx13:(w12.setCell ⟨xb,4,none⟩ (.int .u64 (vn:Nat))).heap[xb]?=some (.cells (slC ⟨u,((i:Int),(g:Int),(a:Int)),vn,d,ByteArray.empty⟩) 42 (0,0)):=by
   rw [heap_setCell_at hx12]
   rfl
 have hz13:=hmk.heap hz12 (fun e=>by have:=HXB.out.2.1;omega)
 have hR13:=hR12.mod hmk (fun e=>by have:=HXB.out.1;omega) (fun r hr e=>by have:=HXB.out.2.2 r hr;omega)
 have hb013:=hb012.trans (hmk.below hb012.size fun x hx e=>by have:=HXB.out.2.1;omega)
 have HX13:=Lib.hid hx13
 have HZ13:=Lib.hid hz13
 have HR13:=Lib.hid hR13
 have HB013:=Lib.hid hb013
 clear hg hR12 hm12 hx12 hz12 hb012 hmk hx13 hz13 hR13 hb013 HX11 HZ11 HR11 HB011
 go_upto_region 7 with fail
 clear hc hf
 generalize w12.setCell ⟨xb,4,none⟩ (.int .u64 (vn:Nat))=w13 at*
 have hg:=rtext_any HR13.out tx (by omega) (by rw [HLEN.out];omega) R7.out
 go_wp2_with fail
 refine hg.mono ?_
 rintro e w14 ⟨rfl,hR14,hm14⟩
 have hx14:=hm14.heap HX13.out (fun e=>by have:=HXB.out.1;omega)
 have hz14:=hm14.heap HZ13.out (fun e=>by omega)
 have hb014:=HB013.out.trans (hm14.below HB013.out.size fun x hx e=>by omega)
 have hc:w14.cell? ⟨xb,6,none⟩=some (.string ByteArray.empty):=cell_of hx14 rfl
 have hf:w14.frozen? ⟨xb,6,none⟩=false:=free_of hx14
 have hmk:=(Mod.refl (fun x=>x=xb) w14).setCell ⟨xb,6,none⟩ (.string tx) (fun _=>rfl)
 have hx15:(w14.setCell ⟨xb,6,none⟩ (.string tx)).heap[xb]?=some (.cells (slC ⟨u,((i:Int),(g:Int),(a:Int)),vn,d,tx⟩) 42 (0,0)):=by
   rw [heap_setCell_at hx14]
   rfl
 have hz15:=hmk.heap hz14 (fun e=>by have:=HXB.out.2.1;omega)
 have hR15:=hR14.mod hmk (fun e=>by have:=HXB.out.1;omega) (fun r hr e=>by have:=HXB.out.2.2 r hr;omega)
 have hb015:=hb014.trans (hmk.below hb014.size fun x hx e=>by have:=HXB.out.2.1;omega)
 have HX15:=Lib.hid hx15
 have HZ15:=Lib.hid hz15
 have HR15:=Lib.hid hR15
 have HB015:=Lib.hid hb015
 clear hg hR14 hm14 hx14 hz14 hb014 hmk hx15 hz15 hR15 hb015 HX13 HZ13 HR13 HB013
 go_upto_region 8 with fail
 clear hc hf
 generalize w14.setCell ⟨xb,6,none⟩ (.string tx)=w15 at*
 have hag:=aggSl ⟨u,((i:Int),(g:Int),(a:Int)),vn,d,tx⟩
 have hon:=oneSl ⟨u,((i:Int),(g:Int),(a:Int)),vn,d,tx⟩
 have hLX:=lies_of HX15.out
 have hen:=senc_any w15 ⟨u,((i:Int),(g:Int),(a:Int)),vn,d,tx⟩ ⟨by simp only;omega,by simp only;omega,by simp only;omega,by simp only;omega⟩ (by simp only;unfold maxLen;omega)
 go_wp2_with (first
   |((with_reducible refine wpList_loadA hag hLX ?_ ?_);rfl;go_frame)
   |fail)
 refine hen.mono ?_
 rintro e w16 ⟨hif,hb16⟩
 rw [if_pos HX.out,HBE.out] at hif
 obtain ⟨v6,rfl,hO⟩:=hif
 obtain ⟨a6,n6,c6,rfl⟩:=hO.shape
 have hR16:=HR15.out.below hb16
 have her:=rerr_any hR16
 have hsl:=hO.sl el8.len
 have hb016:=HB015.out.trans (hb16.mono HB015.out.size)
 have heq:=equal_any w16 _ _ B B (HL.out.below hb016) hsl HLT.out HLT.out
 have hx16:=(hb16.block xb (lt_of_block HX15.out)).trans HX15.out
 have hz16:=(hb16.block w.heap.size (lt_of_block HZ15.out)).trans HZ15.out
 have HX16:=Lib.hid hx16
 have HZ16:=Lib.hid hz16
 have HB016:=Lib.hid hb016
 clear hen hO hR16 hsl hb016 hx16 hz16 hb16 HX15 HZ15 HB015 HR15 hLX
 rw [decide_eq_true (rfl:B=B)] at heq
 have hLX:=lies_of HX16.out
 have hzb:=HZ16.out
 have hsz:(slC Slt.no).size=(slC ⟨u,((i:Int),(g:Int),(a:Int)),vn,d,tx⟩).size:=rfl
 go_wp2_with (first
   |(go_at_call 123;refine her.mono ?_;rintro e wt ⟨rfl,hw⟩;obtain rfl:=hw.symm;clear hw)
   |(go_at_call 124;refine heq.mono ?_;rintro e wt ⟨rfl,hw⟩;obtain rfl:=hw.symm;clear hw)
   |((with_reducible refine wpList_loadA hag hLX ?_ ?_);rfl;go_frame)
   |((with_reducible refine wpList_storeB hag ?_ ?_ hzb hsz hon ?_);rfl;rfl;(intro w9 hh9 hm9;have HH9:=Lib.hid hh9;have HM9:=Lib.hid hm9;clear hh9 hm9);go_frame)
   |fail)
 refine bodyPost_ret (results_cellT rfl _ rfl hag (lies_of HH9.out)) rfl ?_
 exact ⟨rfl,HB016.out.trans (HM9.out.below HB016.out.size fun x hx e=>by omega)⟩
end Go.Proofs.YtldimgchpgoggaaGreat
namespace Go.Tn.Slo
def cmpI (x y:Int):Int:=if x<y then-1 else if y<x then 1 else 0
def cmpB (a b:Blk):Int:=if cmpI a.1 b.1≠0 then cmpI a.1 b.1 else if cmpI a.2.1 b.2.1≠0 then cmpI a.2.1 b.2.1 else cmpI a.2.2 b.2.2
theorem cmpB_lt (a b:Blk):cmpB a b<0↔bLess a b:=by
 unfold cmpB cmpI bLess
 repeat' split
 all_goals omega
end Go.Tn.Slo
namespace Go.Proofs.YtldimgchpgoggaaGreat
open Go.RowKit Go.Tn Go.Maps Go.Sort Go.Shelf Go.Tn.Slo
theorem isNaN_any (w:World) (x:Int):Calls Tryz.prog 88 #[.int .i64 x] w fun e w'=>e= .returned (.bool false)∧w'=w:=by
 go_enter Tryz.func88,Tryz.ntmps88
 go_wp2
 go_ret
 exact ⟨by simp,rfl⟩
theorem compare_any (w:World) (x y:Int):Calls Tryz.prog 51 #[.int .i64 x, .int .i64 y] w fun e w'=>e= .returned (.int .i64 (cmpI x y))∧w'=w:=by
 have h3:(x<y∧cmpI x y= -1)∨(¬ x<y∧y<x∧cmpI x y=1)∨(¬ x<y∧¬ y<x∧cmpI x y=0):=by
   unfold cmpI
   by_cases h1:x<y
   · exact .inl ⟨h1,by rw [if_pos h1]⟩
   · by_cases h2:y<x
     · exact .inr (.inl ⟨h1,h2,by rw [if_neg h1,if_pos h2]⟩)
     · exact .inr (.inr ⟨h1,h2,by rw [if_neg h1,if_neg h2]⟩)
 have hn:=isNaN_any
 rcases h3 with ⟨h1,hc⟩|⟨h1,h2,hc⟩|⟨h1,h2,hc⟩
 all_goals
   rw [hc]
   clear hc
   go_enter Tryz.func51,Tryz.ntmps51
   go_wp2_with fail
   refine (hn _ x).mono ?_
   rintro e w' ⟨rfl,hw⟩
   obtain rfl:=hw.symm
   go_wp2_with fail
   refine (hn _ y).mono ?_
   rintro e w' ⟨rfl,hw⟩
   obtain rfl:=hw.symm
   go_wp2
   go_ret
   exact ⟨rfl,rfl⟩
theorem or_any (w:World) (b:Nat) (x y z:Int) (h0:w.cell? ⟨b,0,none⟩=some (.int .i64 x)) (h1:w.cell? ⟨b,1,none⟩=some (.int .i64 y)) (h2:w.cell? ⟨b,2,none⟩=some (.int .i64 z)):Calls Tryz.prog 50 #[.slice (some ⟨b,0,none⟩) 3 3] w fun e w'=>e= .returned (.int .i64 (if x≠0 then x else if y≠0 then y else z))∧w'=w:=by
 by_cases hx:x=0
 · subst hx
   rw [if_neg (by decide)]
   by_cases hy:y=0
   · subst hy
     rw [if_neg (by decide)]
     by_cases hz:z=0
     · subst hz
       go_enter Tryz.func50,Tryz.ntmps50
       go_wp2
       refine wp_loop_rounds 4 ?_
       rw [rounds_succ]
       go_wp2
       rw [rounds_succ]
       go_wp2
       rw [rounds_succ]
       go_wp2
       rw [rounds_succ]
       go_wp2
       go_ret
       exact ⟨rfl,rfl⟩
     · have t:(z==0)=false:=by simpa using hz
       have t':(z !=0)=true:=by simpa using hz
       go_enter Tryz.func50,Tryz.ntmps50
       go_wp2
       refine wp_loop_rounds 4 ?_
       rw [rounds_succ]
       go_wp2
       rw [rounds_succ]
       go_wp2
       rw [rounds_succ]
       go_wp2
       go_ret
       exact ⟨rfl,rfl⟩
   · have t:(y==0)=false:=by simpa using hy
     have t':(y !=0)=true:=by simpa using hy
     rw [if_pos hy]
     go_enter Tryz.func50,Tryz.ntmps50
     go_wp2
     refine wp_loop_rounds 4 ?_
     rw [rounds_succ]
     go_wp2
     rw [rounds_succ]
     go_wp2
     go_ret
     exact ⟨rfl,rfl⟩
 · have t:(x==0)=false:=by simpa using hx
   have t':(x !=0)=true:=by simpa using hx
   rw [if_pos hx]
   go_enter Tryz.func50,Tryz.ntmps50
   go_wp2
   refine wp_loop_rounds 4 ?_
   rw [rounds_succ]
   go_wp2
   go_ret
   exact ⟨rfl,rfl⟩
abbrev blC (a:Blk):Array Value:= #[.int .i64 a.1, .int .i64 a.2.1, .int .i64 a.2.2]
set_option maxHeartbeats 2000000 in
theorem order_any (W:World) (x y:Blk):Calls Tryz.prog 15 #[.agg (blC x), .agg (blC y)] W fun e w'=>e= .returned (.int .i64 (cmpB x y))∧ ∃q os',w'=grow (W.drewN q) os':=by
 obtain ⟨i,g,a⟩:=x
 obtain ⟨i',g',a'⟩:=y
 obtain ⟨w1,hw1⟩: ∃w1,(W.alloc (.cells #[.int .i64 i, .int .i64 g, .int .i64 a] 35)).alloc (.cells #[.int .i64 i', .int .i64 g', .int .i64 a'] 35)=w1:=⟨_,rfl⟩
 have hsz:w1.heap.size=W.heap.size+2:=by rw [←hw1];simp
 have e1:(W.alloc (.cells #[.int .i64 i, .int .i64 g, .int .i64 a] 35)).heap.size=W.heap.size+1:=by simp
 have ha:w1.heap[W.heap.size]?=some (.cells #[.int .i64 i, .int .i64 g, .int .i64 a] 35 (0,0)):=by rw [←hw1];exact heap_alloc_of heap_alloc_at
 have hb:w1.heap[W.heap.size+1]?=some (.cells #[.int .i64 i', .int .i64 g', .int .i64 a'] 35 (0,0)):=by rw [←hw1, ←e1];exact heap_alloc_at
 have hfin: ∀o, ∃q os',(w1.alloc o).drew=grow (W.drewN q) os':=fun o=>⟨1, #[.cells #[.int .i64 i, .int .i64 g, .int .i64 a] 35, .cells #[.int .i64 i', .int .i64 g', .int .i64 a'] 35,o],by
   rw [←hw1,alloc_eq_grow,alloc_eq_grow,alloc_eq_grow,grow_grow,grow_grow]
   rfl⟩
 have hS:w1.drew.cell? ⟨W.heap.size,0,none⟩=some (.int .i64 i)∧w1.drew.cell? ⟨W.heap.size,1,none⟩=some (.int .i64 g)∧w1.drew.cell? ⟨W.heap.size,2,none⟩=some (.int .i64 a)∧w1.drew.cell? ⟨W.heap.size+1,0,none⟩=some (.int .i64 i')∧w1.drew.cell? ⟨W.heap.size+1,1,none⟩=some (.int .i64 g')∧w1.drew.cell? ⟨W.heap.size+1,2,none⟩=some (.int .i64 a'):=⟨cell_of (w:=w1.drew) ha rfl,cell_of (w:=w1.drew) ha rfl,cell_of (w:=w1.drew) ha rfl,cell_of (w:=w1.drew) hb rfl,cell_of (w:=w1.drew) hb rfl,cell_of (w:=w1.drew) hb rfl⟩
 have H1:=Lib.hid hw1
 have HF:=Lib.hid hfin
 have HSZ:=Lib.hid hsz
 clear hw1 hfin ha hb hsz e1
 show Calls Tryz.prog 15 #[.agg #[.int .i64 i, .int .i64 g, .int .i64 a], .agg #[.int .i64 i', .int .i64 g', .int .i64 a']] W _
 go_enter Tryz.func15,Tryz.ntmps15
 go_upto_region 1 with (fail)
 rw [H1.out]
 refine wp_region_x (fun w'=>w'.cell? ⟨W.heap.size,0,none⟩=some (.int .i64 i)∧w'.cell? ⟨W.heap.size,1,none⟩=some (.int .i64 g)∧w'.cell? ⟨W.heap.size,2,none⟩=some (.int .i64 a)∧w'.cell? ⟨W.heap.size+1,0,none⟩=some (.int .i64 i')∧w'.cell? ⟨W.heap.size+1,1,none⟩=some (.int .i64 g')∧w'.cell? ⟨W.heap.size+1,2,none⟩=some (.int .i64 a')) [(0,1),(1,1),(2,0),(3,1),(4,1),(5,0),(7,1),(8,1),(9,0),(10,1),(11,1),(12,0),(14,1),(15,0),(16,1),(17,0),(6,2),(13,2),(18,2),(19,2),(20,2),(21,1)] (by kernel_rfl) (by kernel_rfl) (by intro d v c a w h;cases d<;>exact h) ?_
 iterate 2 (refine x_take rfl (fun K hK=> ?_);go_simp;refine hK _ ?_;clear hK K)
 refine x_read rfl hS (fun w' h=>exec_load1 ⟨⟨_,Tryz.underlying3,rfl⟩⟩ rfl h.1) ?_
 iterate 2 (refine x_take rfl (fun K hK=> ?_);go_simp;refine hK _ ?_;clear hK K)
 refine x_read rfl hS (fun w' h=>exec_load1 ⟨⟨_,Tryz.underlying3,rfl⟩⟩ rfl h.2.2.2.1) ?_
 iterate 2 (refine x_take rfl (fun K hK=> ?_);go_simp;refine hK _ ?_;clear hK K)
 refine x_read rfl hS (fun w' h=>exec_load1 ⟨⟨_,Tryz.underlying3,rfl⟩⟩ rfl h.2.1) ?_
 iterate 2 (refine x_take rfl (fun K hK=> ?_);go_simp;refine hK _ ?_;clear hK K)
 refine x_read rfl hS (fun w' h=>exec_load1 ⟨⟨_,Tryz.underlying3,rfl⟩⟩ rfl h.2.2.2.2.1) ?_
 iterate 1 (refine x_take rfl (fun K hK=> ?_);go_simp;refine hK _ ?_;clear hK K)
 refine x_read rfl hS (fun w' h=>exec_load1 ⟨⟨_,Tryz.underlying3,rfl⟩⟩ rfl h.2.2.1) ?_
 iterate 1 (refine x_take rfl (fun K hK=> ?_);go_simp;refine hK _ ?_;clear hK K)
 refine x_read rfl hS (fun w' h=>exec_load1 ⟨⟨_,Tryz.underlying3,rfl⟩⟩ rfl h.2.2.2.2.2) ?_
 refine x_show' rfl (fun K hK=> ?_)
 go_simp
 refine (compare_any _ i i').mono ?_
 rintro e w' ⟨rfl,hw⟩
 obtain rfl:=hw.symm
 refine hK _ _ hS ?_
 clear hK K hw
 refine x_show' rfl (fun K hK=> ?_)
 go_simp
 refine (compare_any _ g g').mono ?_
 rintro e w' ⟨rfl,hw⟩
 obtain rfl:=hw.symm
 refine hK _ _ hS ?_
 clear hK K hw
 refine x_show' rfl (fun K hK=> ?_)
 go_simp
 refine (compare_any _ a a').mono ?_
 rintro e w' ⟨rfl,hw⟩
 obtain rfl:=hw.symm
 refine hK _ _ hS ?_
 clear hK K hw
 refine x_show' rfl (fun K hK=> ?_)
 go_simp
 have hal: ∀p v,w1.drew.cell? p=some v→((w1.alloc (.cells #[.int .i64 (cmpI i i'), .int .i64 (cmpI g g'), .int .i64 (cmpI a a')] 3)).drew).cell? p=some v:=fun p v h=>by
   have:w1.cell? p=some v:=h
   have hlt:p.block<w1.heap.size:=by
     unfold World.cell? at this
     cases hq:w1.heap[p.block]? with
     |none=>simp [hq] at this
     |some o=>exact lt_of_block hq
   exact (World.cell?_alloc_lt _ _ _ hlt).trans this
 have hS2:((w1.alloc (.cells #[.int .i64 (cmpI i i'), .int .i64 (cmpI g g'), .int .i64 (cmpI a a')] 3)).drew).cell? ⟨W.heap.size,0,none⟩=some (.int .i64 i)∧((w1.alloc (.cells #[.int .i64 (cmpI i i'), .int .i64 (cmpI g g'), .int .i64 (cmpI a a')] 3)).drew).cell? ⟨W.heap.size,1,none⟩=some (.int .i64 g)∧((w1.alloc (.cells #[.int .i64 (cmpI i i'), .int .i64 (cmpI g g'), .int .i64 (cmpI a a')] 3)).drew).cell? ⟨W.heap.size,2,none⟩=some (.int .i64 a)∧((w1.alloc (.cells #[.int .i64 (cmpI i i'), .int .i64 (cmpI g g'), .int .i64 (cmpI a a')] 3)).drew).cell? ⟨W.heap.size+1,0,none⟩=some (.int .i64 i')∧((w1.alloc (.cells #[.int .i64 (cmpI i i'), .int .i64 (cmpI g g'), .int .i64 (cmpI a a')] 3)).drew).cell? ⟨W.heap.size+1,1,none⟩=some (.int .i64 g')∧((w1.alloc (.cells #[.int .i64 (cmpI i i'), .int .i64 (cmpI g g'), .int .i64 (cmpI a a')] 3)).drew).cell? ⟨W.heap.size+1,2,none⟩=some (.int .i64 a'):=⟨hal _ _ hS.1,hal _ _ hS.2.1,hal _ _ hS.2.2.1,hal _ _ hS.2.2.2.1,hal _ _ hS.2.2.2.2.1,hal _ _ hS.2.2.2.2.2⟩
 have s0:((w1.alloc (.cells #[.int .i64 (cmpI i i'), .int .i64 (cmpI g g'), .int .i64 (cmpI a a')] 3)).drew).cell? ⟨W.heap.size+2,0,none⟩=some (.int .i64 (cmpI i i')):=by rw [←HSZ.out];exact cell_of heap_alloc_at rfl
 have s1:((w1.alloc (.cells #[.int .i64 (cmpI i i'), .int .i64 (cmpI g g'), .int .i64 (cmpI a a')] 3)).drew).cell? ⟨W.heap.size+2,1,none⟩=some (.int .i64 (cmpI g g')):=by rw [←HSZ.out];exact cell_of heap_alloc_at rfl
 have s2:((w1.alloc (.cells #[.int .i64 (cmpI i i'), .int .i64 (cmpI g g'), .int .i64 (cmpI a a')] 3)).drew).cell? ⟨W.heap.size+2,2,none⟩=some (.int .i64 (cmpI a a')):=by rw [←HSZ.out];exact cell_of heap_alloc_at rfl
 have hF:=HF.out (.cells #[.int .i64 (cmpI i i'), .int .i64 (cmpI g g'), .int .i64 (cmpI a a')] 3)
 have hor:=or_any _ (W.heap.size+2) (cmpI i i') (cmpI g g') (cmpI a a') s0 s1 s2
 have hcf:cmpB (i,g,a) (i',g',a')=if cmpI i i'≠0 then cmpI i i' else if cmpI g g'≠0 then cmpI g g' else cmpI a a':=rfl
 rw [←hcf] at hor
 obtain ⟨r,hr⟩: ∃r,cmpB (i,g,a) (i',g',a')=r:=⟨_,rfl⟩
 rw [hr] at hor
 have HC:=Lib.hid hr
 clear hcf hr s0 s1 s2
 have hsz:=HSZ.out
 try rw [hsz]
 clear hsz
 generalize (w1.alloc (.cells #[.int .i64 (cmpI i i'), .int .i64 (cmpI g g'), .int .i64 (cmpI a a')] 3)).drew=w2 at*
 refine hK _ _ hS2 ?_
 clear hK K
 refine x_show' rfl (fun K hK=> ?_)
 go_simp
 refine hor.mono ?_
 rintro e w' ⟨rfl,hw⟩
 obtain rfl:=hw.symm
 refine hK _ _ hS2 ?_
 clear hK K hw
 iterate 1 (refine x_take rfl (fun K hK=> ?_);go_simp;refine hK _ ?_;clear hK K)
 refine x_nil ?_
 go_wp2
 go_ret
 exact ⟨by rw [HC.out];rfl,hF⟩
end Go.Proofs.YtldimgchpgoggaaGreat
namespace Go.Proofs.YtldimgchpgoggaaGreat
open Go.RowKit Go.Tn Go.Tn.Bt Go.Tn.Lp Go.Tn.Dk
theorem live_write {d:Dsk} (i:Nat) (b:List Nat):
   (d.dead=7∧(d.write i b).off=true∧(d.write i b).L=d.L∧(d.write i b).Q=d.Q)∨(d.dead=0∧(d.write i b).off=false∧(d.write i b).L=d.L∧(d.write i b).Q=d.Q++ [(i,b)]):=by
 unfold Dsk.write Dsk.dead
 by_cases hs:d.step.off=true
 · rw [if_pos hs,if_pos hs]
   exact .inl ⟨rfl,hs,step_L d,step_Q d⟩
 · rw [if_neg hs,if_neg hs]
   exact .inr ⟨rfl,by simpa using hs,step_L d,rfl⟩
theorem live_flush {d:Dsk}:
   (d.dead=7∧d.flush.off=true∧d.flush.L=d.L∧d.flush.Q=d.Q)∨(d.dead=0∧d.flush.off=false∧d.flush.L=laid d.Q d.L∧d.flush.Q= []):=by
 unfold Dsk.flush Dsk.dead
 by_cases hs:d.step.off=true
 · rw [if_pos hs,if_pos hs]
   exact .inl ⟨rfl,hs,step_L d,step_Q d⟩
 · rw [if_neg hs,if_neg hs]
   exact .inr ⟨rfl,by simpa using hs,rfl,rfl⟩
theorem putPcs_live (n:Nat): ∀(ps:List Pc) (d:Dsk),d.off=false→
   ((putPcs n ps d).2=0∧(putPcs n ps d).1.off=false∧(putPcs n ps d).1.L=d.L∧(putPcs n ps d).1.Q=d.Q++ringQ n ps)∨
   ((putPcs n ps d).2=7∧(putPcs n ps d).1.off=true∧(putPcs n ps d).1.L=d.L∧ ∃m,(putPcs n ps d).1.Q=d.Q++ringQ n (ps.take m))
 | [],d,h=> .inl ⟨rfl,h,rfl,by simp [putPcs,ringQ]⟩
 |q::r,d,_=>by
   simp only [putPcs]
   rcases live_write (d:=d) (2+q.ct %n) (sealB q) with ⟨h1,h2,h3,h4⟩|⟨h1,h2,h3,h4⟩
   · rw [if_pos (by rw [h1];decide)]
     exact .inr ⟨h1,h2,h3,0,by rw [h4];simp [ringQ]⟩
   · rw [if_neg (by rw [h1];decide)]
     rcases putPcs_live n r (d.write (2+q.ct %n) (sealB q)) h2 with ⟨e1,e2,e3,e4⟩|⟨e1,e2,e3,m,e4⟩
     · exact .inl ⟨e1,e2,e3.trans h3,by rw [e4,h4];simp [ringQ]⟩
     · exact .inr ⟨e1,e2,e3.trans h3,m+1,by rw [e4,h4];simp [ringQ]⟩
theorem bringGo_live (l:Lg): ∀(ks:List Nat) (d:Dsk),d.off=false→
   ((bringGo l ks d).2=0∧(bringGo l ks d).1.off=false∧(bringGo l ks d).1.L=laid (d.Q++homeQ l ks) d.L∧(bringGo l ks d).1.Q= [])∨
   ((bringGo l ks d).2=7∧(bringGo l ks d).1.off=true∧(bringGo l ks d).1.L=d.L∧ ∃m,(bringGo l ks d).1.Q=d.Q++homeQ l (ks.take m))
 | [],d,_=>by
   simp only [bringGo]
   rcases live_flush (d:=d) with ⟨h1,h2,h3,h4⟩|⟨h1,h2,h3,h4⟩
   · exact .inr ⟨h1,h2,h3,0,by rw [h4];simp [homeQ]⟩
   · exact .inl ⟨h1,h2,by rw [h3];simp [homeQ],h4⟩
 |k::ks,d,_=>by
   simp only [bringGo]
   rcases live_write (d:=d) (2+l.n+k) ((l.H k).getD []) with ⟨h1,h2,h3,h4⟩|⟨h1,h2,h3,h4⟩
   · rw [if_pos (by rw [h1];decide)]
     exact .inr ⟨h1,h2,h3,0,by rw [h4];simp [homeQ]⟩
   · rw [if_neg (by rw [h1];decide)]
     rcases bringGo_live l ks (d.write (2+l.n+k) ((l.H k).getD [])) h2 with ⟨e1,e2,e3,e4⟩|⟨e1,e2,e3,m,e4⟩
     · exact .inl ⟨e1,e2,by rw [e3,h3,h4];simp [homeQ],e4⟩
     · exact .inr ⟨e1,e2,e3.trans h3,m+1,by rw [e4,h4];simp [homeQ]⟩
theorem save_live (d:Dsk) (a ep:Nat) (x:Hd):
   ((d.save a ep x).2=0∧(d.save a ep x).1.off=false∧(d.save a ep x).1.L=laid (d.Q++ [(a+x.gen %2,sealB (headPc ep x))]) d.L∧(d.save a ep x).1.Q= [])∨
   ((d.save a ep x).2=7∧(d.save a ep x).1.off=true∧(d.save a ep x).1.L=d.L∧((d.save a ep x).1.Q=d.Q∨(d.save a ep x).1.Q=d.Q++ [(a+x.gen %2,sealB (headPc ep x))])):=by
 unfold Dsk.save
 by_cases hs:d.step.off=true
 · rw [if_pos hs]
   exact .inr ⟨rfl,hs,step_L d, .inl (step_Q d)⟩
 · rw [if_neg hs]
   rcases live_write (d:=d) (a+x.gen %2) (sealB (headPc ep x)) with ⟨h1,h2,h3,h4⟩|⟨h1,h2,h3,h4⟩
   · exfalso
     unfold Dsk.dead at h1
     rw [if_neg hs] at h1
     cases h1
   · rcases live_flush (d:=d.write (a+x.gen %2) (sealB (headPc ep x))) with ⟨e1,e2,e3,e4⟩|⟨e1,e2,e3,e4⟩
     · exact .inr ⟨e1,e2,e3.trans h3, .inr (by rw [e4,h4])⟩
     · exact .inl ⟨e1,e2,by rw [e3,h3,h4],e4⟩
def homesOf (n:Nat) (d:Dsk) (H:Nat→Option (List Nat)):List (List Nat):=(List.range (d.L.length-2-n)).map fun k=>(H k).getD (d.get (2+n+k))
theorem homesOf_same {n:Nat} {d d':Dsk} {H:Nat→Option (List Nat)} (hL:d'.L.length=d.L.length) (h: ∀k,k<d.L.length-2-n→H k=none→d'.get (2+n+k)=d.get (2+n+k)):homesOf n d' H=homesOf n d H:=by
 unfold homesOf
 rw [hL]
 refine List.map_congr_left fun k hk=> ?_
 cases hH:H k with
 |some b=>rfl
 |none=>exact h k (List.mem_range.1 hk) hH
def Outs (n i:Nat) (d:Dsk) (S:List (List (List Nat))):Prop:= ∀keep torn, ∃gen tail F D,Says (d.crash keep torn) n gen tail F D∧gen≤i∧endCt tail D≤100*i∧F≤16777215∧
 (∀j,j<2+n→SectA (256*i+255) ((d.crash keep torn).get j))∧homesOf n (d.crash keep torn) (applyH (fun _=>none) D)∈S
def steps (n:Nat) (d:Dsk) (D P:List Rc):List (List (List Nat)):=(List.range (P.length+1)).map fun j=>homesOf n d (applyH (fun _=>none) (D++P.take j))
theorem steps_mem {n:Nat} {d:Dsk} {D P:List Rc} {j:Nat} (hj:j≤P.length):homesOf n d (applyH (fun _=>none) (D++P.take j))∈steps n d D P:=List.mem_map.2 ⟨j,List.mem_range.2 (by omega),rfl⟩
theorem steps_snoc {n:Nat} {d:Dsk} {D P:List Rc} (r:Rc):steps n d D (P++ [r])=steps n d D P++ [homesOf n d (applyH (fun _=>none) (D++(P++ [r])))]:=by
 unfold steps
 rw [List.length_append,List.length_singleton,List.range_succ,List.map_append]
 congr 1
 · refine List.map_congr_left fun j hj=> ?_
   have:=List.mem_range.1 hj
   rw [List.take_append_of_le_length (by omega)]
 · rw [List.map_singleton,List.take_of_length_le (by simp)]
structure KLive (n i:Nat) (l:Lg) (d:Dsk) (S:List (List (List Nat))):Prop where
 ex: ∃F D P,Rg d l F D P∧F≤16777215∧S=steps n d.last D P
 kp:Keep d.last l
 on:d.off=false
 err:l.err=0
 rn:l.n=n
 ep:l.epoch≤256*i+1
 nx:l.next≤100*i
 gen:l.gen≤i
structure KDead (n i:Nat) (l:Lg) (d:Dsk) (S:List (List (List Nat))):Prop where
 outs:Outs n i d S
 off:d.off=true
 err:l.err=7
 rn:l.n=n
 fit:l.fit d
 nx:l.next≤100*i
 dok:d.ok
theorem live_outs {n i:Nat} {d:Dsk} {l:Lg} {F:Nat} {D P:List Rc} {m:Nat} (hb:Base d.last l F D) (hk:Keep d.last l) (hfit:l.fit d) (hd:d.ok) (hg:Goods (l.homes d) l.epoch (endCt l.tail D) P) (hroom:endCt (endCt l.tail D) P≤l.tail+l.n)
   (hQ:d.Q=ringQ l.n ((allPcs (endCt l.tail D) P).take m)) (hn:l.n=n) (hF:F≤16777215) (hgen:l.gen≤i) (hnx:endCt (endCt l.tail D) P≤100*i) (hep:l.epoch≤256*i+1):Outs n i d (steps n d.last D P):=by
 intro keep torn
 subst hn
 obtain ⟨⟨j,hj,hs⟩,hse,hho⟩:=crash_ring (keep:=keep) (torn:=torn) hb hk hfit hd hg hroom hQ
 refine ⟨l.gen,l.tail,F,_,hs,hgen,?_,hF,fun k hk=>(hse k hk).mono (by omega),?_⟩
 · rw [endCt_append]
   have h1:endCt (endCt l.tail D) (P.take j)≤endCt (endCt l.tail D) P:=by
     conv=>rhs;rw [←List.take_append_drop j P]
     rw [endCt_append]
     have:=endCt_le (P.drop j) (endCt (endCt l.tail D) (P.take j))
     omega
   omega
 · rw [homesOf_same (d:=d.last) (crash_L d keep torn) fun k _ _=>hho k]
   exact steps_mem hj
end Go.Proofs.YtldimgchpgoggaaGreat
