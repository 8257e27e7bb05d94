import Derived.Test.YtldimgchpgoggaaGreatMgKpt32
import Derived.Test.YtldimgchpgoggaaGreatMgKpt8
namespace Go.Tn.Pc
open Go.Tn Go.Tn.Slo Go.Tn.Ck Go.Tn.Dk
def PC.dropD (c:PC) (l:Lg) (d:Dsk) (b:Blk):PC×(Lg×Dsk×Nat):=match c.find b with
 |none=>(c,(l,d,11))
 |some i=>c.turnD l d [i] tNo
end Go.Tn.Pc
namespace Go.Proofs.YtldimgchpgoggaaGreat
open Go.RowKit Go.Tn Go.Tn.Bt Go.Tn.Lp Go.Tn.Dk Go.Tn.Ino Go.Tn.Slo Go.Tn.Ck Go.Tn.Pc
section
variable {w w':World} {F FD F' FD':Nat→Prop} {A:CA} {l l':Lg} {d d':Dsk} {P P':PC}
def SomeR (w:World) (P:PC) (q:Slt→Bool) (e:Ending) (w':World):Prop:= ∃v is,e= .returned v∧ByBlk P q is∧is.length≤64∧LOut enSl 7 42 w.heap.size w' v (is.map P.at_)∧Below w.heap.size w w'
set_option maxRecDepth 20000 in
set_option maxHeartbeats 8000000 in
theorem psome_any (h:CAt w F FD A l d P) (g:Nat) (eg: ∀args w,(callFunc g args).run Tryz.prog w= .ok (.enter g args) w) (cb:Array Value) (q:Slt→Bool) (hq:FnQ w g cb q):
   Calls Tryz.prog 47 #[.pointer (some ⟨A.c,0,none⟩), .func (.func g) #[] cb] w fun e w'=>SomeR w P q e w':=by
 have hpl:=pplaces_any h g eg cb q hq
 obtain ⟨N,hN⟩: ∃N,P.L.length=N:=⟨_,rfl⟩
 have hN64:N≤64:=by
   have h2:=h.ring.hi
   have h3:=h.ok.len
   omega
 have HC:=Lib.hid h
 have HN:=Lib.hid hN
 clear h hq hN
 go_enter Tryz.func47,Tryz.ntmps47
 go_wp2_with fail
 refine hpl.mono ?_
 rintro e w1 ⟨v,is,rfl,hby,hR,hb1⟩
 have hil:is.length≤64:=by
   have h1:is.length≤(List.range P.L.length).length:=nodup_len hby.nodup List.nodup_range fun i hi=>List.mem_range.2 ((hby.mem i).1 hi).1
   rw [List.length_range,HN.out] at h1
   omega
 obtain ⟨ao,cap,hve,hl1,hl2,hvc⟩:=hR.sl
 rw [List.length_map] at hve hl1 hvc
 subst hve
 have hlt: ∀r,(Value.slice ao is.length cap).ownBlock=some r→r<w1.heap.size:=hR.lt
 have HVC:=Lib.hid hvc
 have HBY:=Lib.hid hby
 have HC1:=Lib.hid (HC.out.below hb1)
 have HB1:=Lib.hid hb1
 clear hpl hby hR hb1 hl1 hl2 hvc hlt
 go_wp2
 go_loopw [5,12] (fun ov iv wi=> ∃k:Nat,k≤is.length∧iv= .int .i64 k∧Below w1.heap.size w1 wi∧LOut enSl 7 42 w1.heap.size wi ov ((is.take k).map P.at_)) (fun _ iv _=>is.length-(intOf iv).toNat)
 case atStart=>exact ⟨0,Nat.zero_le _,rfl,Below.refl _ _,LOut.nil (Nat.le_refl _)⟩
 case round=>
   obtain ⟨k,hk,rfl,hb,hO⟩:=hrel
   have HB:=Lib.hid hb
   have HO:=Lib.hid hO
   clear hb hO
   by_cases hkl:k<is.length
   · have hkl':(k:Int)<(is.length:Int):=by omega
     obtain ⟨i,hi⟩: ∃i,is[k]?=some i:=⟨_,List.getElem?_eq_getElem hkl⟩
     obtain ⟨hiN, -, -⟩:=(HBY.out.mem i).1 (List.mem_of_getElem? hi)
     obtain ⟨b4,o4,rfl,hb4,hco⟩:=HVC.out (by omega)
     have q0:wr.cell? ⟨b4,o4+k,none⟩=some (.int .i64 (i:Nat)):=by
       have h1:=hco k (i:Int) (by rw [List.getElem?_map,hi];rfl) 0 (by simp [enI])
       have h1:w1.cell? ⟨b4,o4+k,none⟩=some (.int .i64 (i:Nat)):=by simpa [enI] using h1
       exact (HB.out.cell (p:=⟨b4,o4+k,none⟩) hb4).trans h1
     have htk:(is.take (k+1)).map P.at_=(is.take k).map P.at_++ [P.at_ i]:=by
       rw [List.take_add_one,hi]
       simp
     have hCr:=HC1.out.below HB.out
     have c1:wr.cell? ⟨A.c,1,none⟩=some (.slice (some ⟨A.sb,0,none⟩) N N):=by rw [←HN.out];exact hCr.c1
     obtain ⟨y,hy⟩: ∃y,P.at_ i=y:=⟨_,rfl⟩
     have hLy:Lies wr A.sb (i*7) (slC y):=slots_lies hCr.slots (by rw [←hy];exact at_get hiN)
     have hiN':(i:Int)<(N:Int):=by rw [←HN.out];omega
     have hagy:=aggSl y
     rw [hy] at htk
     have HTK:=Lib.hid htk
     obtain ⟨a5,n5,c5,rfl⟩:=HO.out.shape
     have hol:((is.take k).map P.at_).length≤1000000000:=by
       rw [List.length_map,List.length_take]
       omega
     clear htk hi hco hCr hy hiN
     go_wp2_with (first
       |((with_reducible refine wpList_loadA hagy hLy ?_ ?_);rfl;go_frame)
       |((with_reducible refine wpList_exec rfl (exec_buildSliceA (k:=7) (cells:=slC y) Tryz.underlying45 (by kernel_rfl) (by omega) (by omega) rfl ?_) ?_);rfl;go_frame)
       |((with_reducible refine wpList_append1Y elSl HO.out y hol ?_ ?_ ?_ ?_);rfl;rfl;rfl;(intro v9 w9 hO9 hm9 hv9;have HO9:=Lib.hid hO9;have HM9:=Lib.hid hm9;clear hO9 hm9 hv9);go_frame)
       |fail)
     have hO9:=HO9.out
     rw [←HTK.out] at hO9
     have hb9:Below w1.heap.size w1 w9:=HB.out.trans (HM9.out.below HB.out.size fun x hx e=>by have:=HO.out.lo x e;omega)
     have HOF:=Lib.hid hO9
     have HBF:=Lib.hid hb9
     clear hO9 hb9
     go_roundw
     case rel=>exact ⟨k+1,by omega,by go_num,HBF.out,HOF.out⟩
     case measure=>simp [intOf];omega
   · obtain rfl:k=is.length:=by omega
     have hO:=HO.out
     rw [List.take_length] at hO
     have HOF:=Lib.hid (hO.mono (B':=w.heap.size) HB1.out.size)
     have HBF:=Lib.hid (HB1.out.trans (HB.out.mono HB1.out.size))
     clear hO hk hkl
     go_wp2
     go_ret
     exact ⟨_,is,rfl,HBY.out,hil,HOF.out,HBF.out⟩
theorem pdirty_any (h:CAt w F FD A l d P):Calls Tryz.prog 12 #[.pointer (some ⟨A.c,0,none⟩)] w fun e w'=>SomeR w P qDirty e w':=by
 have hs:=psome_any h 48 (enters_of Tryz.func48 (by kernel_rfl) rfl) #[] qDirty (dirty_q w)
 clear h
 go_enter Tryz.func12,Tryz.ntmps12
 go_wp2_with fail
 refine hs.mono ?_
 rintro e w2 ⟨v,is,rfl,hr⟩
 have HR:=Lib.hid hr
 clear hs hr
 go_wp2
 go_ret
 exact ⟨v,is,rfl,HR.out⟩
theorem pall_any (h:CAt w F FD A l d P):Calls Tryz.prog 14 #[.pointer (some ⟨A.c,0,none⟩)] w fun e w'=>SomeR w P qAll e w':=by
 have hs:=psome_any h 49 (enters_of Tryz.func49 (by kernel_rfl) rfl) #[] qAll (all_q w)
 clear h
 go_enter Tryz.func14,Tryz.ntmps14
 go_wp2_with fail
 refine hs.mono ?_
 rintro e w2 ⟨v,is,rfl,hr⟩
 have HR:=Lib.hid hr
 clear hs hr
 go_wp2
 go_ret
 exact ⟨v,is,rfl,HR.out⟩
set_option maxRecDepth 20000 in
theorem pof_any (h:CAt w F FD A l d P) (f:Int×Int):Calls Tryz.prog 25 #[.pointer (some ⟨A.c,0,none⟩), .agg #[.int .i64 f.1, .int .i64 f.2]] w fun e w'=>SomeR w P (qFile f) e w':=by
 obtain ⟨w1,hw1⟩: ∃w1,w.alloc (.cells #[.int .i64 f.1, .int .i64 f.2] 33)=w1:=⟨_,rfl⟩
 have hb1:Below w.heap.size w w1:=by rw [←hw1];exact (Below.refl _ _).alloc (Nat.le_refl _) _
 have hX:w1.heap[w.heap.size]?=some (.cells #[.int .i64 f.1, .int .i64 f.2] 33 (0,0)):=by rw [←hw1];exact heap_alloc_at
 have hs:=psome_any (h.below hb1) 60 (enters_of Tryz.func60 (by kernel_rfl) rfl) #[.pointer (some ⟨w.heap.size,0,none⟩)] (qFile f) (of_q hX)
 have HB1:=Lib.hid hb1
 clear h hb1 hX
 go_enter Tryz.func25,Tryz.ntmps25
 go_upto_region 1 with fail
 simp only [hw1] at*
 clear hw1
 go_wp2_with fail
 refine hs.mono ?_
 rintro e w2 ⟨v,is,rfl,h1,h2,h3,h4⟩
 have H1:=Lib.hid h1
 have H3:=Lib.hid (h3.mono HB1.out.size)
 have H4:=Lib.hid (HB1.out.trans (h4.mono HB1.out.size))
 clear hs h1 h3 h4
 go_wp2
 go_ret
 exact ⟨v,is,rfl,H1.out,h2,H3.out,H4.out⟩
set_option maxRecDepth 20000 in
set_option maxHeartbeats 4000000 in
theorem pdrop_any (h:CAt w F FD A l d P) (hf:Fit l d) (b:Blk):Calls Tryz.prog 30 #[.pointer (some ⟨A.c,0,none⟩), .agg (blC b)] w fun e w'=>CW w F FD A (P.dropD l d b) e w':=by
 obtain ⟨w1,hw1⟩: ∃w1,w.alloc (.cells (blC b) 35)=w1:=⟨_,rfl⟩
 have hb1:Below w.heap.size w w1:=by rw [←hw1];exact (Below.refl _ _).alloc (Nat.le_refl _) _
 have hB:Lies w1 w.heap.size 0 (blC b):=by rw [←hw1];exact lies_of heap_alloc_at
 have hC1:=h.below hb1
 have hok:=pok_any hC1
 have hltw:=h.lt
 have c2:=hC1.c2
 obtain ⟨L,clk,hmap,hwf,hget⟩:=hC1.wh.ex
 have hgb:=hget b
 have HB1:=Lib.hid hb1
 have HC1:=Lib.hid hC1
 have HLT:=Lib.hid hltw
 have HF:=Lib.hid hf
 clear h hb1 hC1 hget hltw hf
 go_enter Tryz.func30,Tryz.ntmps30
 go_upto_region 1 with fail
 simp only [hw1] at*
 clear hw1
 go_upto_region 3 with (first
   |(go_at_call 45;refine hok.mono ?_;rintro e wt ⟨rfl,hw⟩;obtain rfl:=hw.symm;clear hw)
   |fail)
 have hS:w1.drew.cell? ⟨A.c,2,none⟩=some (.map (some A.wb))∧Lies w1.drew w.heap.size 0 (blC b)∧w1.drew.heap[A.wb]?=some (.map (ents encB L) clk):=⟨c2,hB,hmap⟩
 refine wp_region_x (fun w'=>w'.cell? ⟨A.c,2,none⟩=some (.map (some A.wb))∧Lies w' w.heap.size 0 (blC b)∧w'.heap[A.wb]?=some (.map (ents encB L) clk)) [(0,1),(1,1),(2,1),(3,0),(4,0),(5,0),(6,1),(7,1),(8,1),(9,1),(10,1)] (by kernel_rfl) (by kernel_rfl) (by intro d v c a w h;cases d<;>exact h) ?_
 iterate 3 (refine x_take rfl (fun K hK=> ?_);go_simp;refine hK _ ?_;clear hK K)
 refine x_read rfl hS (fun w' h=>exec_load1 ⟨⟨_,Tryz.underlying66,rfl⟩⟩ rfl h.1) ?_
 refine x_read rfl hS (fun w' h=>exec_loadA (aggBl b) rfl h.2.1) ?_
 refine x_read rfl hS (fun w' h=>exec_lookup_ok keyB Tryz.underlying66 zeroI h.2.2 rfl b rfl) ?_
 iterate 5 (refine x_take rfl (fun K hK=> ?_);go_simp;refine hK _ ?_;clear hK K)
 refine x_nil ?_
 simp only [getD,hgb]
 have hC2:CAt w1.drew F FD A l d P:=HC1.out.below (Below.refl w1.heap.size w1).drew
 have hb2:Below w.heap.size w w1.drew:=HB1.out.drew
 have HC2:=Lib.hid hC2
 have HB2:=Lib.hid hb2
 have hs2:w.heap.size≤w1.drew.heap.size:=hb2.size
 clear hS c2 hB hmap hok hwf hgb hC2 hb2 HC1
 generalize w1.drew=w2 at*
 cases hf:P.find b with
 |none=>
   have hpg:P.dropD l d b=(P,(l,d,11)):=by unfold PC.dropD;rw [hf]
   simp only [Option.map,Option.getD,Option.isSome]
   clear hf
   go_wp2
   go_ret
   rw [hpg]
   exact ⟨rfl,CSt.ahead HB2.out (CSt.same HC2.out (Mod.refl _ _))⟩
 |some i=>
   have hpg:P.dropD l d b=P.turnD l d [i] tNo:=by unfold PC.dropD;rw [hf]
   obtain ⟨hi,hu, -⟩:=(find_some HC2.out.ok).1 hf
   simp only [Option.map,Option.getD,Option.isSome]
   obtain ⟨w3,hw3⟩: ∃w3,w2.alloc (.cells #[.int .i64 (i:Nat)] 3)=w3:=⟨_,rfl⟩
   have hb3:Below w2.heap.size w2 w3:=by rw [←hw3];exact (Below.refl _ _).alloc (Nat.le_refl _) _
   have hsl:LSl enI 1 w3 (.slice (some ⟨w2.heap.size,0,none⟩) 1 1) ([i].map fun (i:Nat)=>(i:Int)):=by
     rw [←hw3]
     exact LSl.lit (w:=w2) (x:=((i:Nat):Int)) elI.len 3
   have hb03:=HB2.out.trans (hb3.mono HB2.out.size)
   have htn:=pturn_any (HC2.out.below hb3) HF.out (.slice (some ⟨w2.heap.size,0,none⟩) 1 1) [i] hsl (fun r hr e=>by
     have h0:w2.heap.size=r:=by cases hr;rfl
     have:=HLT.out _ e
     omega) 68 (enters_of Tryz.func68 (by kernel_rfl) rfl) #[] tNo (drop_t _ _) (fun j hj=>by
     rw [List.mem_singleton.1 hj]
     exact ⟨hi,good_no _⟩) (by simp)
   have HB03:=Lib.hid hb03
   have HPG:=Lib.hid hpg
   clear hf hi hu hb3 hsl hb03 hpg
   subst hw3
   go_wp2_with fail
   refine htn.mono ?_
   rintro e w4 ⟨rfl,hst⟩
   have HST:=Lib.hid (CSt.ahead HB03.out hst)
   clear htn hst
   go_wp2
   go_ret
   rw [HPG.out]
   exact ⟨rfl,HST.out⟩
set_option maxRecDepth 20000 in
set_option maxHeartbeats 4000000 in
theorem pdropFile_any (h:CAt w F FD A l d P) (hf:Fit l d) (f:Int×Int):Calls Tryz.prog 31 #[.pointer (some ⟨A.c,0,none⟩), .agg #[.int .i64 f.1, .int .i64 f.2]] w
   fun e w'=> ∃is,ByBlk P (qFile f) is∧CW w F FD A (P.turnD l d is tNo) e w':=by
 obtain ⟨w1,hw1⟩: ∃w1,w.alloc (.cells #[.int .i64 f.1, .int .i64 f.2] 33)=w1:=⟨_,rfl⟩
 have hb1:Below w.heap.size w w1:=by rw [←hw1];exact (Below.refl _ _).alloc (Nat.le_refl _) _
 have hX:w1.heap[w.heap.size]?=some (.cells #[.int .i64 f.1, .int .i64 f.2] 33 (0,0)):=by rw [←hw1];exact heap_alloc_at
 have hC1:=h.below hb1
 have hok:=pok_any hC1
 have hltw:=h.lt
 have hpl:=pplaces_any hC1 70 (enters_of Tryz.func70 (by kernel_rfl) rfl) #[.pointer (some ⟨w.heap.size,0,none⟩)] (qFile f) (dropFile_q hX)
 have HB1:=Lib.hid hb1
 have HC1:=Lib.hid hC1
 have HLT:=Lib.hid hltw
 have HF:=Lib.hid hf
 clear h hb1 hX hC1 hltw hf
 go_enter Tryz.func31,Tryz.ntmps31
 go_upto_region 1 with fail
 simp only [hw1] at*
 clear hw1
 go_wp2_with (first
   |(go_at_call 45;refine hok.mono ?_;rintro e wt ⟨rfl,hw⟩;obtain rfl:=hw.symm;clear hw)
   |fail)
 refine hpl.mono ?_
 rintro e w2 ⟨v,is,rfl,hby,hR,hb2⟩
 have hb02:=HB1.out.trans (hb2.mono HB1.out.size)
 have htn:=pturn_any (HC1.out.below hb2) HF.out v is hR.sl (fun r hr e=>by
   have h1:=hR.lo r hr
   have h2:=HLT.out _ e
   have h3:=HB1.out.size
   omega) 71 (enters_of Tryz.func71 (by kernel_rfl) rfl) #[] tNo (dropFile_t _ _) (fun j hj=>⟨((hby.mem j).1 hj).1,good_no _⟩) hby.nodup
 have HB02:=Lib.hid hb02
 have HBY:=Lib.hid hby
 clear hpl hR hb2 hby hb02 hok
 go_wp2_with fail
 refine htn.mono ?_
 rintro e w4 ⟨rfl,hst⟩
 have HST:=Lib.hid (CSt.ahead HB02.out hst)
 clear htn hst
 go_wp2
 go_ret
 exact ⟨is,HBY.out,rfl,HST.out⟩
set_option maxRecDepth 20000 in
set_option maxHeartbeats 4000000 in
theorem pretag_any (h:CAt w F FD A l d P) (hf:Fit l d) (f:Int×Int) (v:Nat) (hv:v≤1099511627775):Calls Tryz.prog 32 #[.pointer (some ⟨A.c,0,none⟩), .agg #[.int .i64 f.1, .int .i64 f.2], .int .u64 (v:Nat)] w
   fun e w'=> ∃is,ByBlk P (qClean f) is∧CW w F FD A (P.turnD l d is (tVer v)) e w':=by
 obtain ⟨w1,hw1⟩: ∃w1,(w.alloc (.cells #[.int .i64 f.1, .int .i64 f.2] 33)).alloc (.cells #[.int .u64 (v:Nat)] 36)=w1:=⟨_,rfl⟩
 have hb0:Below w.heap.size w (w.alloc (.cells #[.int .i64 f.1, .int .i64 f.2] 33)):=(Below.refl _ _).alloc (Nat.le_refl _) _
 have hb1:Below w.heap.size w w1:=by rw [←hw1];exact hb0.alloc (by simp) _
 have hX:w1.heap[w.heap.size]?=some (.cells #[.int .i64 f.1, .int .i64 f.2] 33 (0,0)):=by rw [←hw1];exact heap_alloc_of heap_alloc_at
 have cv:w1.cell? ⟨w.heap.size+1,0,none⟩=some (.int .u64 (v:Nat)):=by
   rw [←hw1]
   have:=heap_alloc_at (w:=w.alloc (.cells #[.int .i64 f.1, .int .i64 f.2] 33)) (o:= .cells #[.int .u64 (v:Nat)] 36)
   rw [World.size_alloc] at this
   exact cell_of this rfl
 have hC1:=h.below hb1
 have hok:=pok_any hC1
 have hltw:=h.lt
 have hv':(v:Int)≤1099511627775:=by omega
 have hpl:=pplaces_any hC1 72 (enters_of Tryz.func72 (by kernel_rfl) rfl) #[.pointer (some ⟨w.heap.size,0,none⟩)] (qClean f) (retag_q hX)
 have HB1:=Lib.hid hb1
 have HC1:=Lib.hid hC1
 have HLT:=Lib.hid hltw
 have HF:=Lib.hid hf
 have HV:=Lib.hid hv
 clear h hb0 hb1 hX hC1 hltw hf hv
 go_enter Tryz.func32,Tryz.ntmps32
 go_upto_region 1 with fail
 simp only [hw1] at*
 clear hw1
 go_wp2_with (first
   |(go_at_call 45;refine hok.mono ?_;rintro e wt ⟨rfl,hw⟩;obtain rfl:=hw.symm;clear hw)
   |fail)
 refine hpl.mono ?_
 rintro e w2 ⟨vv,is,rfl,hby,hR,hb2⟩
 have hb02:=HB1.out.trans (hb2.mono HB1.out.size)
 have cv2:=(hb2.cell (p:=⟨w.heap.size+1,0,none⟩) (World.block_lt_of_cell? w1 _ cv)).trans cv
 have htn:=pturn_any (HC1.out.below hb2) HF.out vv is hR.sl (fun r hr e=>by
   have h1:=hR.lo r hr
   have h2:=HLT.out _ e
   have h3:=HB1.out.size
   omega) 73 (enters_of Tryz.func73 (by kernel_rfl) rfl) #[.pointer (some ⟨w.heap.size+1,0,none⟩)] (tVer v) (retag_t cv2 (fun e=>by have:=HLT.out _ e;omega)) (fun j hj=>by
     obtain ⟨h1,h2,h3⟩:=(hby.mem j).1 hj
     exact ⟨h1,good_ver (HC1.out.ok.is _ (List.mem_of_getElem? (at_get h1))) h2 HV.out⟩) hby.nodup
 have HB02:=Lib.hid hb02
 have HBY:=Lib.hid hby
 clear hpl hR hb2 hby hb02 hok cv cv2
 go_wp2_with fail
 refine htn.mono ?_
 rintro e w4 ⟨rfl,hst⟩
 have HST:=Lib.hid (CSt.ahead HB02.out hst)
 clear htn hst
 go_wp2
 go_ret
 exact ⟨is,HBY.out,rfl,HST.out⟩
set_option maxRecDepth 20000 in
theorem pretag_arg (h:CAt w F FD A l d P) (f:Int×Int) (v:Nat) (hv:¬ v≤1099511627775) (h64:v<18446744073709551616):Calls Tryz.prog 32 #[.pointer (some ⟨A.c,0,none⟩), .agg #[.int .i64 f.1, .int .i64 f.2], .int .u64 (v:Nat)] w
   fun e w'=>e= .returned (.int .i64 2)∧Below w.heap.size w w':=by
 obtain ⟨w1,hw1⟩: ∃w1,(w.alloc (.cells #[.int .i64 f.1, .int .i64 f.2] 33)).alloc (.cells #[.int .u64 (v:Nat)] 36)=w1:=⟨_,rfl⟩
 have hb0:Below w.heap.size w (w.alloc (.cells #[.int .i64 f.1, .int .i64 f.2] 33)):=(Below.refl _ _).alloc (Nat.le_refl _) _
 have hb1:Below w.heap.size w w1:=by rw [←hw1];exact hb0.alloc (by simp) _
 have cv:w1.cell? ⟨w.heap.size+1,0,none⟩=some (.int .u64 (v:Nat)):=by
   rw [←hw1]
   have:=heap_alloc_at (w:=w.alloc (.cells #[.int .i64 f.1, .int .i64 f.2] 33)) (o:= .cells #[.int .u64 (v:Nat)] 36)
   rw [World.size_alloc] at this
   exact cell_of this rfl
 have hok:=pok_any (h.below hb1)
 have hv':(1099511627775:Int)<(v:Int):=by omega
 have HB1:=Lib.hid hb1
 clear h hb0 hb1 hv
 go_enter Tryz.func32,Tryz.ntmps32
 go_upto_region 1 with fail
 simp only [hw1] at*
 clear hw1
 go_wp2_with (first
   |(go_at_call 45;refine hok.mono ?_;rintro e wt ⟨rfl,hw⟩;obtain rfl:=hw.symm;clear hw)
   |fail)
 go_ret
 exact ⟨rfl,HB1.out⟩
end
end Go.Proofs.YtldimgchpgoggaaGreat
namespace Go.Tn.Pc
open Go.Tn Go.Tn.Slo Go.Tn.Ck Go.Tn.Dk Go.Tn.Lp
def numL (x:Nat):Nat→List Nat
 |0=>List.replicate 128 0
 |k+1=>(numL x k).set (127-k) (x/256 ^ k %256)
def numSec (x:Nat):List Nat:=numL x 8
theorem numL_len (x:Nat): ∀k,(numL x k).length=128
 |0=>by simp [numL]
 |k+1=>by simp [numL,numL_len x k]
theorem numL_lt (x:Nat): ∀k, ∀c∈numL x k,c<256
 |0,c,h=>by rw [List.eq_of_mem_replicate h];decide
 |k+1,c,h=>by
   rcases List.mem_or_eq_of_mem_set h with h|h
   · exact numL_lt x k c h
   · rw [h];exact Nat.mod_lt _ (by decide)
set_option maxRecDepth 20000 in
theorem numSec_eq (x:Nat):numSec x=List.replicate 120 0++bytesN x 8:=rfl
theorem numSec_len (x:Nat):(numSec x).length=128:=numL_len x 8
theorem numSec_lt (x:Nat): ∀c∈numSec x,c<256:=numL_lt x 8
theorem numSec_take (x:Nat):(numSec x).take 120=List.replicate 120 0:=by
 rw [numSec_eq,List.take_append_of_le_length (by simp),List.take_of_length_le (by simp)]
theorem numSec_drop (x:Nat):(numSec x).drop 120=bytesN x 8:=by
 rw [numSec_eq,List.drop_append_of_le_length (by simp),List.drop_of_length_le (by simp),List.nil_append]
theorem numOf_bytesN (x:Nat): ∀n (y:Nat),(bytesN x n).foldl (fun a c=>a*256+c) y=y*256 ^ n+x %256 ^ n
 |0,y=>by simp [bytesN,Nat.mod_one]
 |n+1,y=>by
   rw [bytesN,List.foldl_cons,numOf_bytesN x n]
   have h1:x %256 ^ (n+1)=x %256 ^ n+256 ^ n*(x/256 ^ n %256):=by rw [Nat.pow_succ];exact Nat.mod_mul
   rw [h1,Nat.pow_succ,Nat.add_mul,Nat.mul_assoc,Nat.mul_comm 256 (256 ^ n),Nat.mul_comm (x/256 ^ n %256)]
   omega
theorem numSec_num {x:Nat} (h:x<18446744073709551616):numOf ((numSec x).drop 120)=x:=by
 rw [numSec_drop]
 unfold numOf
 rw [numOf_bytesN]
 omega
def PC.setNumD (c:PC) (l:Lg) (d:Dsk) (x:Nat):PC×(Lg×Dsk×Nat):=
 if (stWr l d [(0,numSec x)]).2.2≠0 then (c,stWr l d [(0,numSec x)])
 else (if (Go.Proofs.YtldimgchpgoggaaGreat.cSync (stWr l d [(0,numSec x)]).1 (stWr l d [(0,numSec x)]).2.1).2.2=0 then {c with num:=x} else c,Go.Proofs.YtldimgchpgoggaaGreat.cSync (stWr l d [(0,numSec x)]).1 (stWr l d [(0,numSec x)]).2.1)
end Go.Tn.Pc
namespace Go.Proofs.YtldimgchpgoggaaGreat
open Go.RowKit Go.Tn Go.Tn.Bt Go.Tn.Lp Go.Tn.Dk Go.Tn.Ino Go.Tn.Slo Go.Tn.Ck Go.Tn.Pc
set_option maxRecDepth 20000 in
theorem psector_any (w:World) (x:Nat) (hx:x<2 ^ 64):Calls Tryz.prog 74 #[.int .u64 (x:Nat)] w fun e w'=> ∃r,e= .returned (.slice (some ⟨r,0,none⟩) 128 128)∧Bk w' r (numSec x)∧w.heap.size≤r∧Below w.heap.size w w':=by
 obtain ⟨w1,hmk,hB1,hb1⟩:=make8 w 128 (by decide)
 have hr:w.heap.size<w1.heap.size:=hB1.lt
 go_enter Tryz.func74,Tryz.ntmps74
 go_wp2_with (first
   |((with_reducible refine wpList_exec rfl (hmk _ _ _ _ _ _ _ _ ?_ ?_) ?_);rfl;rfl;go_frame)
   |fail)
 clear hmk
 generalize hrr:w.heap.size=r at*
 go_loopw [0,4] (fun xv iv wi=> ∃k:Nat,k≤8∧iv= .int .i64 (127-(k:Int))∧xv= .int .u64 (x/256 ^ k:Nat)∧Bk wi r (numL x k)∧Mod (fun b=>b=r) w1 wi) (fun _ iv _=>(intOf iv).toNat)
 case atStart=>exact ⟨0,Nat.zero_le _,rfl,by rw [Nat.pow_zero,Nat.div_one],hB1,Mod.refl _ _⟩
 case round=>
   obtain ⟨k,hk,rfl,rfl,hb,hm⟩:=hrel
   by_cases hk8:k<8
   · have hk':(k:Int)<8:=by omega
     have hk0:(0:Int)≤k:=by omega
     have hge:(120:Int)≤127-(k:Int):=by omega
     have hix:(127-(k:Int)).toNat=127-k:=by omega
     have hlt:127-(k:Int)<128:=by omega
     obtain ⟨old,hold⟩: ∃old,(numL x k)[127-k]?=some old:=⟨_,List.getElem?_eq_getElem (by rw [numL_len];omega)⟩
     have hcell:=hb.cell hold
     have hfr:=hb.free (127-k)
     have hset:=hb.set (127-k) (x/256 ^ k %256)
     have hby:IntKind.u8.wrap (((x/256 ^ k:Nat):Int))=((x/256 ^ k %256:Nat):Int):=wrap8 _
     have hdv:((x/256 ^ k:Nat):Int)/256=((x/256 ^ (k+1):Nat):Int):=by
       rw [Nat.pow_succ, ←Nat.div_div_eq_div_mul]
       rfl
     have hmm:=hm.setCell ⟨r,127-k,none⟩ (.int .u8 ((x/256 ^ k %256:Nat):Int)) (fun _=>rfl)
     have HM:=Lib.hid hmm
     have HS:=Lib.hid hset
     obtain ⟨y,hy⟩: ∃y,x/256 ^ k=y:=⟨_,rfl⟩
     obtain ⟨z,hz⟩: ∃z,x/256 ^ (k+1)=z:=⟨_,rfl⟩
     have hy64:y<18446744073709551616:=by
       rw [←hy]
       exact Nat.lt_of_le_of_lt (Nat.div_le_self _ _) hx
     have hy64':(y:Int)<18446744073709551616:=by omega
     rw [hy] at hby hdv HM HS ⊢
     rw [hz] at hdv
     have HZ:=Lib.hid hz
     have HY:=Lib.hid hy
     clear hb hm hset hold hz hy hmm
     go_wp2
     refine ⟨⟨k+1,by omega,by go_num,by rw [HZ.out],?_,HM.out⟩,by simp [intOf];omega⟩
     show Bk _ r ((numL x k).set (127-k) (x/256 ^ k %256))
     rw [HY.out]
     exact HS.out
   · obtain rfl:k=8:=by omega
     have hbf:Below r w wr:=hb1.trans (hm.below (by have:=hb1.size;omega) fun y hy e=>by omega)
     have HB:=Lib.hid hb
     have HBF:=Lib.hid hbf
     clear hb hm hbf
     go_wp2
     go_ret
     exact ⟨r,rfl,HB.out,Nat.le_of_eq hrr,by rw [hrr];exact HBF.out⟩
theorem pvalue_any (w:World) (v:Value) (bs:List Nat) (h:LSl en8 1 w v bs) (hlt: ∀x∈bs,x<256) (hl:bs.length≤8):Calls Tryz.prog 81 #[v] w
   fun e w'=>e= .returned (.int .u64 (numOf bs:Nat))∧w'=w:=by
 obtain ⟨ao,cap,rfl,h1,h2,h3⟩:=h
 unfold maxLen at h2
 go_enter Tryz.func81,Tryz.ntmps81
 go_wp2
 go_loopw [3,8] (fun xv jv wi=> ∃k:Nat,k≤bs.length∧jv= .int .i64 k∧xv= .int .u64 (numOf (bs.take k):Nat)∧wi=w) (fun _ jv _=>bs.length-(intOf jv).toNat)
 case atStart=>exact ⟨0,Nat.zero_le _,rfl,rfl,rfl⟩
 case round=>
   obtain ⟨k,hk,rfl,rfl,rfl⟩:=hrel
   by_cases hkl:k<bs.length
   · have hkl':(k:Int)<(bs.length:Int):=by omega
     obtain ⟨c,hc⟩: ∃c,bs[k]?=some c:=⟨bs[k],List.getElem?_eq_getElem hkl⟩
     have hc8:=hlt c (List.mem_of_getElem? hc)
     have hc8':(c:Int)<256:=by omega
     obtain ⟨b,off,rfl,hbl,hcells⟩:=h3 (by omega)
     have hcell:=hcells k c hc 0 (by simp)
     simp only [Nat.mul_one,Nat.add_zero] at hcell
     have HC:wr.cell? ⟨b,off+k,none⟩=some (.int .u8 (c:Nat)):=hcell
     have hlen:(bs.take k).length=k:=by rw [List.length_take];omega
     have hX:=numOf_lt k (bs.take k) hlen fun x hx=>hlt x (List.mem_of_mem_take hx)
     have hnx:numOf (bs.take (k+1))=numOf (bs.take k)*256+c:=by
       rw [List.take_add_one,hc]
       exact numOf_snoc _ _
     have h56:256 ^ k≤256 ^ 7:=Nat.pow_le_pow_right (by decide) (by omega)
     obtain ⟨X,hXX⟩: ∃X,numOf (bs.take k)=X:=⟨_,rfl⟩
     rw [hXX] at hX hnx ⊢
     have hXlt:X<72057594037927936:=Nat.lt_of_lt_of_le hX h56
     have hor:bits .or .u64 ((X:Int)*256) (c:Int)=((X*256+c:Nat):Int):=by
       have h:=or64 (X*256) c (by omega) (by omega)
       rw [show X*256 ||| c=X*256+c from or_add X c 8 (by omega)] at h
       rw [←h]
       rfl
     have hXi:(X:Int)<72057594037927936:=by omega
     have HN:=Lib.hid hnx
     clear hcell hcells hc hnx hXX hX h56 hlen
     go_wp2
     exact ⟨⟨k+1,by omega,by go_num,by rw [HN.out];rfl,trivial⟩,by simp [intOf];omega⟩
   · obtain rfl:k=bs.length:=by omega
     rw [List.take_length]
     go_wp2
     go_ret
     exact ⟨rfl,rfl⟩
section
variable {w w':World} {F FD F' FD':Nat→Prop} {A:CA} {l l':Lg} {d d':Dsk} {P P':PC}
theorem CSt.cache {r:PC×(Lg×Dsk×Nat)} {w2:World} (h:CPost w F FD A r.2 P (.returned (.int .i64 (r.2.2.2:Nat))) w2) (e:r.1=P):CSt w F FD A r w2:=by
 have:=h.st
 obtain ⟨P',r⟩:=r
 simp only at e
 subst e
 exact this
theorem CAt.numbered (h:CAt w F FD A l d P) (x:Nat) (hx:x≤1099511627775):CAt (w.setCell ⟨A.c,4,none⟩ (.int .u64 (x:Nat))) F FD A l d {P with num:=x}∧Mod A.own w (w.setCell ⟨A.c,4,none⟩ (.int .u64 (x:Nat))):=by
 have hm:=(Mod.refl (fun b=>b=A.c) w).setCell ⟨A.c,4,none⟩ (.int .u64 ((x:Nat):Int)) (fun _=>rfl)
 have hk:(w.setCell ⟨A.c,4,none⟩ (.int .u64 (x:Nat))).heap[A.c]?=some (.cells (cacheC A {P with num:=x}) 69 (0,0)):=by
   rw [heap_setCell_at h.blk]
   rfl
 have hlog:LAt _ F A.g A.p l:=h.log.mod hm (fun b hb (e:b=A.c)=>(h.own b (.inl e)).1 hb)
 have hdsk:DAt _ FD A.p d:=h.disk.mod hm (fun b hb (e:b=A.c)=>(h.own b (.inl e)).2 hb)
 have hwh:=h.wh.kept (hm.block _ h.wh.lt (fun e=>h.ne.2.1 e.symm))
 refine ⟨⟨hk,hm.heap h.slots (fun e=>h.ne.1 e.symm),⟨hwh.ex⟩,h.ring.mod hm (fun e=>h.ne.2.2.1 e.symm),hlog,hdsk,h.ap,h.own,h.ne,⟨h.ok.len,h.ok.is,h.ok.uniq,h.ok.used⟩,hx⟩,hm.mono fun b _ e=> .inl e⟩
set_option maxRecDepth 20000 in
set_option maxHeartbeats 4000000 in
theorem psetNumber_any (h:CAt w F FD A l d P) (hf:Fit l d) (x:Nat) (hx:x≤1099511627775):Calls Tryz.prog 33 #[.pointer (some ⟨A.c,0,none⟩), .int .u64 (x:Nat)] w fun e w'=>CW w F FD A (P.setNumD l d x) e w':=by
 have hok:=pok_any h
 have hltw:=h.lt
 have hx':(x:Int)≤1099511627775:=by omega
 have hse:=psector_any w x (by omega)
 have HC:=Lib.hid h
 have HF:=Lib.hid hf
 have HX:=Lib.hid hx
 have HLT:=Lib.hid hltw
 clear h hf hltw hx
 go_enter Tryz.func33,Tryz.ntmps33
 go_wp2_with (first
   |(go_at_call 45;refine hok.mono ?_;rintro e wt ⟨rfl,hw⟩;obtain rfl:=hw.symm;clear hw)
   |fail)
 refine hse.mono ?_
 rintro e w2 ⟨r,rfl,hB2,hr2,hb2⟩
 obtain ⟨w3,hw3⟩: ∃w3,w2.alloc (.cells #[.int .i64 0, .slice (some ⟨r,0,none⟩) 128 128] 113)=w3:=⟨_,rfl⟩
 have hb23:Below w2.heap.size w2 w3:=by rw [←hw3];exact (Below.refl _ _).alloc (Nat.le_refl _) _
 have hls:LSl enPt 2 w3 (.slice (some ⟨w2.heap.size,0,none⟩) 1 1) [(((0:Int),numSec x),(some ⟨r,0,none⟩,128,128))]:=by
   rw [←hw3]
   exact LSl.lit (w:=w2) (x:=((((0:Int),numSec x),(some ⟨r,0,none⟩,128,128)):Pt×Sv)) elPt.len 113
 have hbt:Tryz.prog.built 113 [(0, .int .i64 0),(1, .slice (some ⟨r,0,none⟩) 128 128)]=some #[.int .i64 0, .slice (some ⟨r,0,none⟩) 128 128]:=by kernel_rfl
 have hB3:=hB2.below hb23
 have hb03:=hb2.trans (hb23.mono hb2.size)
 have hC3:=HC.out.below hb03
 have hpb:PtB w3 (fun b=>F b∨FD b) (.slice (some ⟨w2.heap.size,0,none⟩) 1 1) [(0,numSec x)]:=by
   refine ⟨[(((0:Int),numSec x),(some ⟨r,0,none⟩,128,128))],rfl,hls,fun q hq=> ?_,fun y hy=> ?_⟩
   · have e:w2.heap.size=q:=by cases hq;rfl
     refine ⟨fun h=> ?_,?_⟩
     · have:=HLT.out q (h.elim (fun h=> .inr (.inl h)) (fun h=> .inr (.inr h)))
       have:=hb2.size
       omega
     · have:w3.heap.size=w2.heap.size+1:=by rw [←hw3];simp
       omega
   · rw [List.mem_singleton.1 hy]
     refine ⟨?_,fun q hq=> ?_⟩
     · have:=hB3.sl (o:=0) (n:=128) (cap:=128) (by rw [numSec_len];omega) (Nat.le_refl _) (by omega)
       rw [List.drop_zero,List.take_of_length_le (by rw [numSec_len];omega)] at this
       exact this
     · have e:r=q:=by cases hq;rfl
       refine ⟨fun h=> ?_,?_⟩
       · have:=HLT.out q (h.elim (fun h=> .inr (.inl h)) (fun h=> .inr (.inr h)))
         omega
       · rw [←e];exact hB3.lt
 obtain ⟨⟨l8,d8,cd⟩,hr8⟩: ∃r,stWr l d [(0,numSec x)]=r:=⟨_,rfl⟩
 have hwr:Calls Tryz.prog 65 #[.pointer (some ⟨A.c,0,none⟩), .slice (some ⟨w2.heap.size,0,none⟩) 1 1] w3 fun e w'=>CPost w3 F FD A (l8,d8,cd) P e w':=by
   rw [←hr8]
   exact pwrite_any hC3 HF.out.ok _ [(0,numSec x)] hpb (fun q hq y hy=>by rw [List.mem_singleton.1 hq] at hy;exact numSec_lt x y hy) (by simp) HF.out.Q (HF.out.ok2 _)
 have HR8:=Lib.hid hr8
 have HB03:=Lib.hid hb03
 clear hse hB2 hr2 hb2 hb23 hls hB3 hb03 hC3 hpb hr8 hok
 go_wp2_with (first
   |((with_reducible refine wpList_exec rfl (exec_buildA (vals:= [(0, .int .i64 0),(1, .slice (some ⟨r,0,none⟩) 128 128)]) ?_ hbt) ?_);rfl;go_frame)
   |((with_reducible refine wpList_exec rfl (exec_buildSliceA (k:=2) (cells:= #[.int .i64 0, .slice (some ⟨r,0,none⟩) 128 128]) Tryz.underlying117 (by kernel_rfl) (by omega) (by omega) rfl ?_) ?_);rfl;go_frame)
   |fail)
 simp only [hw3] at*
 clear hw3
 refine hwr.mono ?_
 rintro e w4 hp4
 have hst:=CSt.ahead HB03.out hp4.st
 obtain ⟨he4,F4,FD4,hC4,hm4,h14,h24⟩:=hp4
 have he4:e= .returned (.int .i64 (cd:Nat)):=he4
 subst he4
 by_cases h0:cd=0
 · subst h0
   have hsy:=c_sync hC4
   have c0:=hC4.c0
   have f4:w4.frozen? ⟨A.c,4,none⟩=false:=free_of hC4.blk
   obtain ⟨⟨l9,d9,cd9⟩,hr9⟩: ∃r,cSync l8 d8=r:=⟨_,rfl⟩
   have hsy:Calls Tryz.prog 75 #[.pointer (some ⟨A.g,0,none⟩)] w4 fun e w'=>CPost w4 F4 FD4 A (l9,d9,cd9) P e w':=by
     rw [←hr9]
     exact hsy
   have hsd:P.setNumD l d x=(if cd9=0 then {P with num:=x} else P,(l9,d9,cd9)):=by
     unfold PC.setNumD
     rw [HR8.out]
     simp only
     rw [hr9]
     simp
   have HSD:=Lib.hid hsd
   have HM4:=Lib.hid hm4
   have H14:=Lib.hid h14
   have H24:=Lib.hid h24
   clear hwr hst hC4 hm4 h14 h24 hr9 hsd f4
   go_wp2_with fail
   refine hsy.mono ?_
   rintro e w5 hp5
   have he5:e= .returned (.int .i64 (cd9:Nat)):=hp5.1
   have hst5:CSt w F FD A (P,(l9,d9,cd9)) w5:=CSt.ahead HB03.out (CSt.trans (HM4.out.mono (T:=A.all F FD) fun b _ hb=> .inr hb) H14.out H24.out hp5.st)
   subst he5
   clear hp5
   by_cases h9:cd9=0
   · subst h9
     obtain ⟨F5,FD5,hC5,hm5,h15,h25⟩:=hst5
     have hC5:CAt w5 F5 FD5 A l9 d9 P:=hC5
     have c4:=hC5.c4
     have f4:w5.frozen? ⟨A.c,4,none⟩=false:=free_of hC5.blk
     obtain ⟨hC6,hm6⟩:=hC5.numbered x HX.out
     have HC6:=Lib.hid hC6
     have HM6:=Lib.hid (hm5.trans hm6 (T:=A.all F FD) (fun _ h=>h) fun b _ h=> .inl h)
     have hsd0:P.setNumD l d x=({P with num:=x},(l9,d9,0)):=by rw [HSD.out,if_pos rfl]
     have HSD0:=Lib.hid hsd0
     have H15:=Lib.hid h15
     have H25:=Lib.hid h25
     clear hsy hC5 hm5 h15 h25 hC6 hm6 hsd0 HSD
     go_wp2
     go_ret
     rw [HSD0.out]
     exact ⟨rfl,F5,FD5,HC6.out,HM6.out,H15.out,H25.out⟩
   · have hne:((cd9:Int) !=0)=true:=by rw [bne_iff_ne];omega
     have HST:=Lib.hid hst5
     clear hsy hst5
     go_wp2
     go_ret
     rw [HSD.out,if_neg h9]
     exact ⟨rfl,HST.out⟩
 · have hne:((cd:Int) !=0)=true:=by rw [bne_iff_ne];omega
   have hsd:P.setNumD l d x=(P,(l8,d8,cd)):=by
     unfold PC.setNumD
     rw [HR8.out]
     simp only
     rw [if_pos h0]
   have HSD:=Lib.hid hsd
   have HST:=Lib.hid hst
   clear hwr hst hC4 hm4 h14 h24 hsd
   go_wp2
   go_ret
   rw [HSD.out]
   exact ⟨rfl,HST.out⟩
set_option maxRecDepth 20000 in
theorem psetNumber_arg (h:CAt w F FD A l d P) (x:Nat) (hx:¬ x≤1099511627775) (h64:x<18446744073709551616):Calls Tryz.prog 33 #[.pointer (some ⟨A.c,0,none⟩), .int .u64 (x:Nat)] w fun e w'=>e= .returned (.int .i64 2)∧w'=w:=by
 have hok:=pok_any h
 have hx':(1099511627775:Int)<(x:Int):=by omega
 clear h hx
 go_enter Tryz.func33,Tryz.ntmps33
 go_wp2_with (first
   |(go_at_call 45;refine hok.mono ?_;rintro e wt ⟨rfl,hw⟩;obtain rfl:=hw.symm;clear hw)
   |fail)
 go_ret
 exact ⟨rfl,rfl⟩
end
end Go.Proofs.YtldimgchpgoggaaGreat
namespace Go.Tn.Pc
open Go.Tn Go.Tn.Slo Go.Tn.Ck Go.Tn.Dk Go.Tn.Lp
def PC.new (n num:Nat):PC:=⟨List.replicate n Slt.no,⟨List.replicate n Pl.no,0⟩,num⟩
def PC.opened (L:List Slt) (num:Nat) (k:Nat):PC:=(List.range k).foldl (fun c i=>c.set i ((L[i]?).getD Slt.no)) (PC.new L.length num)
structure Lays (L:List Slt):Prop where
 is: ∀x∈L,x.is
 uniq: ∀(i j:Nat) (x y:Slt),L[i]?=some x→L[j]?=some y→x.used=true→y.used=true→x.blk=y.blk→i=j
theorem opened_succ (L:List Slt) (num k:Nat):PC.opened L num (k+1)=(PC.opened L num k).set k ((L[k]?).getD Slt.no):=by
 unfold PC.opened
 rw [List.range_succ,List.foldl_append]
 rfl
theorem opened_len (L:List Slt) (num:Nat): ∀k,(PC.opened L num k).L.length=L.length
 |0=>by simp [PC.opened,PC.new]
 |k+1=>by rw [opened_succ,set_len,opened_len L num k]
theorem opened_num (L:List Slt) (num:Nat): ∀k,(PC.opened L num k).num=num
 |0=>rfl
 |k+1=>by rw [opened_succ];exact opened_num L num k
theorem new_at (n num i:Nat):(PC.new n num).at_ i=Slt.no:=by
 unfold PC.at_ PC.new
 simp only
 rw [List.getElem?_replicate]
 split<;>rfl
theorem opened_at (L:List Slt) (num:Nat): ∀k,k≤L.length→ ∀i,(PC.opened L num k).at_ i=if i<k then (L[i]?).getD Slt.no else Slt.no
 |0,_,i=>by rw [if_neg (by omega)];exact new_at _ _ i
 |k+1,hk,i=>by
   rw [opened_succ,set_at (by rw [opened_len];omega),opened_at L num k (by omega)]
   by_cases h:i=k
   · rw [if_pos h,h,if_pos (by omega)]
   · rw [if_neg h]
     by_cases h2:i<k
     · rw [if_pos h2,if_pos (by omega)]
     · rw [if_neg h2,if_neg (by omega)]
theorem new_ok (n num:Nat):(PC.new n num).Ok:=by
 refine ⟨by simp [PC.new],fun x hx=> ?_,fun i j _ _ h1=> ?_,fun i hi=> ?_⟩
 · rw [List.eq_of_mem_replicate hx]
   exact .inl rfl
 · rw [new_at] at h1
   cases h1
 · rw [new_at]
   unfold PC.new Rn.at_
   simp only
   rw [List.getElem?_replicate]
   split<;>rfl
theorem opened_free {L:List Slt} (h:Lays L) {num k:Nat} (hk:k<L.length): ∀j,j<(PC.opened L num k).L.length→j≠k→((PC.opened L num k).at_ j).used=true→((PC.opened L num k).at_ j).blk≠((L[k]?).getD Slt.no).blk∨(L[k]?).getD Slt.no=Slt.no:=by
 intro j hj hjk hu
 rw [opened_at L num k (by omega)] at hu ⊢
 by_cases h1:j<k
 · rw [if_pos h1] at hu ⊢
   have e1:L[j]?=some L[j]:=List.getElem?_eq_getElem (by omega)
   have e2:L[k]?=some L[k]:=List.getElem?_eq_getElem hk
   rw [e1] at hu ⊢
   rw [e2]
   by_cases hn:L[k]=Slt.no
   · exact .inr hn
   · refine .inl fun e=>hjk (h.uniq j k _ _ e1 e2 hu ((is_used (h.is _ (List.getElem_mem _))).2 hn) e)
 · rw [if_neg h1] at hu
   cases hu
theorem opened_L (L:List Slt) (num:Nat):(PC.opened L num L.length).L=L:=by
 apply List.ext_getElem?
 intro i
 have hl:=opened_len L num L.length
 by_cases hi:i<L.length
 · have:=opened_at L num L.length (Nat.le_refl _) i
   rw [if_pos hi] at this
   rw [at_get (by rw [hl];exact hi),this,List.getElem?_eq_getElem hi]
   rfl
 · rw [List.getElem?_eq_none (by rw [hl];omega),List.getElem?_eq_none (by omega)]
theorem Lays.of {c:PC} (h:c.Ok):Lays c.L:=⟨h.is,fun i j x y hi hj hx hy e=>h.uniq i j (List.getElem?_eq_some_iff.1 hi).1 (List.getElem?_eq_some_iff.1 hj).1 (by rw [at_of hi];exact hx) (by rw [at_of hj];exact hy) (by rw [at_of hi,at_of hj];exact e)⟩
theorem opened_find {L:List Slt} (h:Lays L) {num k:Nat} (hk:k<L.length):(PC.opened L num k).find ((L[k]?).getD Slt.no).blk=none:=by
 rw [find_none]
 intro j hj hu e
 have e2:L[k]?=some L[k]:=List.getElem?_eq_getElem hk
 rw [opened_len] at hj
 rw [opened_at L num k (by omega)] at hu e
 by_cases h1:j<k
 · rw [if_pos h1] at hu e
   have e1:L[j]?=some L[j]:=List.getElem?_eq_getElem (by omega)
   rw [e1] at hu e
   rw [e2] at e
   by_cases hn:L[k].used=true
   · have:=h.uniq j k _ _ e1 e2 hu hn e
     omega
   · have hf:(L[j]).fits:=by
       rcases h.is _ (List.getElem_mem (l:=L) (n:=j) (by omega)) with e|h
       · have hu:(L[j]).used=true:=hu
         rw [e] at hu
         cases hu
       · exact h
     have hk0:L[k]=Slt.no:=Classical.byContradiction fun e=>hn ((is_used (h.is _ (List.getElem_mem _))).2 e)
     have h1:=hf.ino
     have e:(L[j]).blk=(L[k]).blk:=e
     rw [e,hk0] at h1
     exact absurd h1.1 (by decide)
 · rw [if_neg h1] at hu
   cases hu
end Go.Tn.Pc
namespace Go.Proofs.YtldimgchpgoggaaGreat
open Go.RowKit Go.Tn Go.Tn.Bt Go.Tn.Lp Go.Tn.Dk Go.Tn.Ino Go.Tn.Slo Go.Tn.Ck Go.Tn.Pc
theorem loadF_any (w:World) (c:Nat):Calls Tryz.prog 83 #[.int .u8 (c:Nat)] w fun e w'=>e= .returned (.bool (decide (c≠0)))∧w'=w:=by
 by_cases h:c=0
 · subst h
   go_enter Tryz.func83,Tryz.ntmps83
   go_wp2
   go_ret
   exact ⟨rfl,rfl⟩
 · have hne:((c:Int) !=0)=true:=by rw [bne_iff_ne];omega
   have hd:decide (c≠0)=true:=decide_eq_true h
   go_enter Tryz.func83,Tryz.ntmps83
   go_wp2
   go_ret
   rw [hd]
   exact ⟨rfl,rfl⟩
theorem indexF_zero (w:World) (v:Value) (bs:List Nat) (h:LSl en8 1 w v bs) (hz: ∀x∈bs,x=0) (hl:bs.length≤1000):Calls Tryz.prog 119 #[v, .func (.func 83) #[] #[]] w fun e w'=>e= .returned (.int .i64 (-1))∧w'=w:=by
 obtain ⟨ao,cap,rfl,h1,h2,h3⟩:=h
 unfold maxLen at h2
 have eg: ∀args w,(callFunc 83 args).run Tryz.prog w= .ok (.enter 83 args) w:=enters_of Tryz.func83 (by kernel_rfl) rfl
 go_enter Tryz.func119,Tryz.ntmps119
 go_wp2
 go_loopw [8] (fun jv wi=> ∃k:Nat,k≤bs.length∧jv= .int .i64 k∧wi=w) (fun jv _=>bs.length-(intOf jv).toNat)
 case atStart=>exact ⟨0,Nat.zero_le _,rfl,rfl⟩
 case round=>
   obtain ⟨k,hk,rfl,rfl⟩:=hrel
   by_cases hkl:k<bs.length
   · have hkl':(k:Int)<(bs.length:Int):=by omega
     obtain ⟨c,hc⟩: ∃c,bs[k]?=some c:=⟨bs[k],List.getElem?_eq_getElem hkl⟩
     have hc0:=hz c (List.mem_of_getElem? hc)
     subst hc0
     obtain ⟨b,off,rfl,hbl,hcells⟩:=h3 (by omega)
     have hcell:=hcells k 0 hc 0 (by simp)
     simp only [Nat.mul_one,Nat.add_zero] at hcell
     have HC:wr.cell? ⟨b,off+k,none⟩=some (.int .u8 ((0:Nat):Int)):=hcell
     have hcl:=loadF_any wr 0
     rw [decide_eq_false (fun h=>h rfl)] at hcl
     clear hcell hcells hc
     go_wp2_with fail
     refine hcl.mono ?_
     rintro e w2 ⟨rfl,hw⟩
     obtain rfl:=hw.symm
     clear hcl hw
     go_wp2
     go_roundw
     case rel=>exact ⟨k+1,by omega,by go_num,trivial⟩
     case measure=>simp [intOf];omega
   · obtain rfl:k=bs.length:=by omega
     go_wp2
     go_ret
     exact ⟨rfl,rfl⟩
theorem containsF_zero (w:World) (v:Value) (bs:List Nat) (h:LSl en8 1 w v bs) (hz: ∀x∈bs,x=0) (hl:bs.length≤1000):Calls Tryz.prog 82 #[v, .func (.func 83) #[] #[]] w fun e w'=>e= .returned (.bool false)∧w'=w:=by
 have hi:=indexF_zero w v bs h hz hl
 obtain ⟨ao,cap,rfl, -⟩:=h
 go_enter Tryz.func82,Tryz.ntmps82
 go_wp2_with fail
 refine hi.mono ?_
 rintro e w2 ⟨rfl,hw⟩
 obtain rfl:=hw.symm
 clear hi hw
 go_wp2
 go_ret
 exact ⟨rfl,rfl⟩
end Go.Proofs.YtldimgchpgoggaaGreat
