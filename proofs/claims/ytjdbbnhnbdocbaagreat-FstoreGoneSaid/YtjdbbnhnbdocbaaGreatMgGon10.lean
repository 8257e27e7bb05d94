import Derived.Test.YtjdbbnhnbdocbaaGreatMgGon9
import Derived.Test.YtjdbbnhnbdocbaaGreatMgGon4
import Derived.Test.YtjdbbnhnbdocbaaGreatMgGon5
namespace Go.Tn.Lp
def pieceOf (b:List Nat):Pc:=⟨numOf (b.take 8)/1099511627776,numOf (b.take 8) %1099511627776,decide (b.getD 8 0 %2=1),decide (b.getD 8 0/2 %2=1),(b.drop 10).take (b.getD 9 0)⟩
def unsealB (b:List Nat):Option Pc:=if b.length=128∧b.getD 9 0≤106∧sealB (pieceOf b)=b then some (pieceOf b) else none
end Go.Tn.Lp
namespace Go.Proofs.YtjdbbnhnbdocbaaGreat
open Go.RowKit Go.Tn Go.Tn.Bt Go.Tn.Lp
theorem and_two (c:Nat):c &&& 2=c/2 %2*2:=by
 apply Nat.eq_of_testBit_eq
 intro i
 rw [Nat.testBit_and,show c/2 %2*2=(c/2 ^ 1 %2 ^ 1) <<< 1 from by rw [Nat.shiftLeft_eq],Nat.testBit_shiftLeft,Nat.testBit_mod_two_pow,Nat.testBit_div_two_pow]
 rw [show (2:Nat)=2 ^ 1 from rfl,Nat.testBit_two_pow]
 rcases i with _|_|i
 ·simp
 ·simp
 ·simp
def pcCs (p:Pc) (v:Value):Array Value:= #[.int .u64 (p.ep:Nat), .int .u64 (p.ct:Nat), .bool p.fi, .bool p.la,v]
set_option maxRecDepth 20000 in
theorem unseal_len (w:World) (v:Value) (bs:List Nat) (h:LSl en8 1 w v bs) (hl:bs.length≠128):Calls Tryz.prog 166 #[v] w
  fun e w'=>e= .returned (.tuple #[.agg #[.int .u64 0, .int .u64 0, .bool false, .bool false, .slice none 0 0], .int .i64 4])∧Below w.heap.size w w':=by
 obtain ⟨ao,cap,rfl,_⟩:=h
 have hne:((bs.length:Int) !=128)=true:=by simp;omega
 go_enter Tryz.func166,Tryz.ntmps166
 go_wp2_with fail
 (try simp only [Exit.inBlock,Exit.then])
 refine bodyPost_ret (results_cellT rfl _ rfl (aggPc _ _ _ _ _) (lies_of heap_alloc_at)) rfl ?_
 exact ⟨rfl,(Below.refl _ _).alloc (Nat.le_refl _) _⟩
set_option maxRecDepth 20000 in
theorem unseal_long (w:World) (v:Value) (bs:List Nat) (h:LSl en8 1 w v bs) (hl:bs.length=128) (c9:Nat) (h9:bs[9]?=some c9) (hlt:c9<256) (hc:106<c9):Calls Tryz.prog 166 #[v] w
  fun e w'=>e= .returned (.tuple #[.agg #[.int .u64 0, .int .u64 0, .bool false, .bool false, .slice none 0 0], .int .i64 4])∧Below w.heap.size w w':=by
 obtain ⟨ao,cap,rfl,h1,h2,h3⟩:=h
 obtain ⟨b,off,rfl,hb,hcell⟩:=h3 (by omega)
 have hbA:Below w.heap.size w (w.alloc (.cells #[.int .u64 0, .int .u64 0, .bool false, .bool false, .slice none 0 0] 222)):=(Below.refl _ _).alloc (Nat.le_refl _) _
 have hx:=((hcell 9 c9 h9).below' hbA hb) 0 (by simp)
 simp only [Nat.mul_one,Nat.add_zero] at hx
 have HX:(w.alloc (.cells #[.int .u64 0, .int .u64 0, .bool false, .bool false, .slice none 0 0] 222)).cell? ⟨b,off+9,none⟩=some (.int .u8 (c9:Nat)):=hx
 have hc':(106:Int)<c9:=by omega
 rw [hl]
 clear hcell h3 hx
 go_enter Tryz.func166,Tryz.ntmps166
 go_wp2_with fail
 (try simp only [Exit.inBlock,Exit.then])
 refine bodyPost_ret (results_cellT rfl _ rfl (aggPc _ _ _ _ _) (lies_of heap_alloc_at)) rfl ?_
 exact ⟨rfl,hbA⟩
def UnRes (bs:List Nat) (w:World) (e:Ending) (w':World):Prop:=
 Below w.heap.size w w'∧if sealB (pieceOf bs)=bs then ∃v',e= .returned (.tuple #[.agg (pcCs (pieceOf bs) v'), .int .i64 0])∧LOut en8 1 5 w.heap.size w' v' (pieceOf bs).da
  else e= .returned (.tuple #[.agg #[.int .u64 0, .int .u64 0, .bool false, .bool false, .slice none 0 0], .int .i64 4])
set_option maxRecDepth 20000 in
set_option maxHeartbeats 4000000 in
theorem unseal_main (w:World) (v:Value) (bs:List Nat) (h:LSl en8 1 w v bs) (hbl: ∀x∈bs,x<256) (hl:bs.length=128) (c8 c9:Nat) (h8:bs[8]?=some c8) (h9:bs[9]?=some c9) (hc:c9≤106):Calls Tryz.prog 166 #[v] w
  (UnRes bs w):=by
 have hsl:=h
 obtain ⟨ao,cap,rfl,h1,h2,h3⟩:=h
 obtain ⟨b,off,rfl,hb,hcell⟩:=h3 (by omega)
 rw [hl] at hsl h1 ⊢
 unfold maxLen at h2
 have hbA:Below w.heap.size w (w.alloc (.cells #[.int .u64 0, .int .u64 0, .bool false, .bool false, .slice none 0 0] 222)):=(Below.refl _ _).alloc (Nat.le_refl _) _
 obtain ⟨w1,hw1⟩: ∃w1,w.alloc (.cells #[.int .u64 0, .int .u64 0, .bool false, .bool false, .slice none 0 0] 222)=w1:=⟨_,rfl⟩
 have hP0:w1.heap[w.heap.size]?=some (.cells #[.int .u64 0, .int .u64 0, .bool false, .bool false, .slice none 0 0] 222 (0,0)):=by rw [←hw1];exact heap_alloc_at
 rw [hw1] at hbA
 have hx9:=((hcell 9 c9 h9).below' hbA hb) 0 (by simp)
 have hx8:=((hcell 8 c8 h8).below' hbA hb) 0 (by simp)
 simp only [Nat.mul_one,Nat.add_zero] at hx9 hx8
 have HX9:w1.cell? ⟨b,off+9,none⟩=some (.int .u8 (c9:Nat)):=hx9
 have HX8:w1.cell? ⟨b,off+8,none⟩=some (.int .u8 (c8:Nat)):=hx8
 have hs1:=hsl.below hbA
 have hcap:(128:Int)≤cap:=by omega
 have hc':(c9:Int)≤106:=by omega
 have hrd:=read_any w1 (.slice (some ⟨b,off,none⟩) 8 cap) (bs.take 8) (hs1.take (by omega)) (fun x hx=>hbl x (List.mem_of_mem_take hx)) (by rw [List.length_take];omega)
 have hN:=numOf_lt 8 (bs.take 8) (by rw [List.length_take];omega) fun x hx=>hbl x (List.mem_of_mem_take hx)
 obtain ⟨N,hNe⟩: ∃N,numOf (bs.take 8)=N:=⟨_,rfl⟩
 rw [hNe] at hrd hN
 clear hcell h3 hx8 hx9
 go_enter Tryz.func166,Tryz.ntmps166
 go_wp2_with fail
 refine hrd.mono ?_
 rintro e w2 ⟨rfl,hw⟩
 obtain rfl:=hw.symm
 clear hw hrd hw1
 have hc8:=hbl c8 (List.mem_of_getElem? h8)
 have hA1:bits .and .u8 (c8:Int) 1=((c8 %2:Nat):Int):=by
  have h:=and8 c8 1 hc8 (by decide)
  rw [show c8 &&& 1=c8 %2 from Nat.and_two_pow_sub_one_eq_mod c8 1] at h
  exact h
 have hA2:bits .and .u8 (c8:Int) 2=((c8/2 %2*2:Nat):Int):=by
  have h:=and8 c8 2 hc8 (by decide)
  rw [show c8 &&& 2=c8/2 %2*2 from and_two c8] at h
  exact h
 have hF1:(((c8 %2:Nat):Int) !=0)=decide (c8 %2=1):=by
  by_cases h:c8 %2=1
  ·rw [h];rfl
  ·have:c8 %2=0:=by omega
   rw [this];rfl
 have hF2:(((c8/2 %2*2:Nat):Int) !=0)=decide (c8/2 %2=1):=by
  by_cases h:c8/2 %2=1
  ·rw [h];rfl
  ·have:c8/2 %2=0:=by omega
   rw [this];rfl
 have hsub:LSl en8 1 w1 (.slice (some ⟨b,off+10,none⟩) c9 (cap-10)) ((bs.drop 10).take c9):=by
  have h1:=hs1.take (i:=10+c9) (by omega)
  have h2:=h1.drop2 (i:=10) (ad:=some ⟨b,off+10,none⟩) (ln:=c9) (cn:=cap-10) (by rw [List.length_take];omega) (by rw [if_neg (by omega)];simp [addr_add]) (by omega) rfl
  rw [List.drop_take,Nat.add_sub_cancel_left] at h2
  exact h2
 have hq1:(0:Int)≤10+c9:=by omega
 have hq2:(10:Int)+c9≤cap:=by omega
 have hq3:(10:Int)≤max (10+(c9:Int)) 0:=by omega
 have hq4:(10+(c9:Int)).toNat-10=c9:=by omega
 have hq5:¬ cap=10:=by omega
 obtain ⟨fi,hfi⟩: ∃fi,decide (c8 %2=1)=fi:=⟨_,rfl⟩
 obtain ⟨la,hla⟩: ∃la,decide (c8/2 %2=1)=la:=⟨_,rfl⟩
 rw [hfi] at hF1
 rw [hla] at hF2
 have hpiece:pieceOf bs=⟨N/1099511627776,N %1099511627776,fi,la,(bs.drop 10).take c9⟩:=by
  unfold pieceOf
  rw [hNe,List.getD_eq_getElem?_getD,h8,List.getD_eq_getElem?_getD,h9]
  simp only [Option.getD_some,hfi,hla]
 have hPlt:w.heap.size<w1.heap.size:=lt_of_block hP0
 generalize c8 %2=a1 at*
 generalize c8/2 %2*2=a2 at*
 have hN64:N<2 ^ 64:=hN
 have hepo:=fun w=>epoch_any w N hN64
 have hcnt:=fun w=>count_any w N hN64
 have hEle:N/1099511627776≤16777215:=by omega
 have hCle:N %1099511627776≤1099511627775:=by omega
 obtain ⟨E,hE⟩: ∃E,N/1099511627776=E:=⟨_,rfl⟩
 obtain ⟨C,hC⟩: ∃C,N %1099511627776=C:=⟨_,rfl⟩
 simp only [hE] at hepo hEle
 simp only [hC] at hcnt hCle
 rw [hE,hC] at hpiece
 clear hE hC
 have hone: ∀(x1 x2:Int) (x3 x4:Bool) (vo:Option Addr) (vn vc:Nat), ∀u∈(#[.int .u64 x1, .int .u64 x2, .bool x3, .bool x4, .slice vo vn vc]:Array Value).toList,u.oneCell'=true:=fun x1 x2 x3 x4 vo vn vc u hu=>by
  simp at hu
  rcases hu with rfl|rfl|rfl|rfl|rfl<;>rfl
 have HPC:=Lib.hid hpiece
 have HONE:=Lib.hid hone
 clear hpiece hone
 go_upto_region 5 with fail
 rename_i K0 hK0
 have cont: ∀(x:Nat) (vo:Option Addr) (vn vc:Nat) (w6:World),w6.heap[x]?=some (.cells #[.int .u64 (E:Nat), .int .u64 (C:Nat), .bool fi, .bool la, .slice vo vn vc] 222 (0,0))→LOut en8 1 5 w1.heap.size w6 (.slice vo vn vc) ((bs.drop 10).take c9)→Below w1.heap.size w1 w6→K0 ⟨#[.slice (some ⟨b,off,none⟩) 128 cap,undef, .pointer (some ⟨w.heap.size,0,none⟩), .int .i64 0, .int .u64 (N:Nat), .int .i64 (10+(c9:Int)), .pointer (some ⟨x,0,none⟩),undef,undef, .slice (some ⟨b,off,none⟩) 128 cap, .int .i64 128, .bool false, .bool false, .slice (some ⟨b,off,none⟩) 128 cap, .pointer (some ⟨b,off+9,none⟩), .int .u8 (c9:Nat), .bool (decide ((106:Int)<c9)), .bool (decide ((106:Int)<c9)),undef, .slice (some ⟨b,off,none⟩) 128 cap, .slice (some ⟨b,off,none⟩) 8 cap, .int .u64 (N:Nat), .slice (some ⟨b,off,none⟩) 128 cap, .pointer (some ⟨b,off+9,none⟩), .int .u8 (c9:Nat), .int .i64 (c9:Nat), .int .i64 (10+(c9:Int)), .int .u64 (N:Nat), .int .u64 (E:Nat), .int .u64 (N:Nat), .int .u64 (C:Nat), .slice (some ⟨b,off,none⟩) 128 cap, .pointer (some ⟨b,off+8,none⟩), .int .u8 (c8:Nat), .int .u8 (a1:Nat), .bool fi, .slice (some ⟨b,off,none⟩) 128 cap, .pointer (some ⟨b,off+8,none⟩), .int .u8 (c8:Nat), .int .u8 (a2:Nat), .bool la, .slice (some ⟨b,off,none⟩) 128 cap, .int .i64 (10+(c9:Int)), .slice (some ⟨b,off+10,none⟩) c9 (cap-10), .slice vo vn vc, .agg #[.int .u64 (E:Nat), .int .u64 (C:Nat), .bool fi, .bool la, .slice vo vn vc],undef,undef,undef,undef,undef,undef,undef,undef,undef,undef,undef,undef,undef,undef,undef], []⟩ w6:=by
  intro x vo vn vc w6 hX6 hO6 hb6
  refine hK0 _ _ ?_
  clear hK0
  have hLX:=lies_of hX6
  have hsl6:=hO6.sl el8.len
  have hdl: ∀y∈(bs.drop 10).take c9,y<256:=fun y hy=>hbl y (List.mem_of_mem_drop (List.mem_of_mem_take hy))
  have hdn:((bs.drop 10).take c9).length≤106:=by rw [List.length_take];omega
  have hseal:=seal_ok w6 E C fi la ((bs.drop 10).take c9) (.slice vo vn vc) hsl6 hdl hEle hCle hdn
  have HLX:=Lib.hid hLX
  have HX6:=Lib.hid hX6
  have HO6:=Lib.hid hO6
  have HS1:=Lib.hid hs1
  have HBL:=Lib.hid hbl
  clear hLX hsl6 hX6 hO6 hs1 hbl hepo hcnt hsub HX8 HX9
  go_wp2_with (first
   | ((with_reducible refine wpList_loadA (aggPc _ _ _ _ _) HLX.out ?_ ?_);rfl;go_frame)
   | fail)
  refine hseal.mono ?_
  rintro e w7 ⟨r,rfl,hB7,hr7,hb7⟩
  have hLX7:=HLX.out.below' hb7 (lt_of_block HX6.out)
  have hO7:=HO6.out.below hb7
  have hb07:=hb6.trans (hb7.mono hb6.size)
  have hP7:=(hb07.block _ hPlt).trans hP0
  have hsl7:=HS1.out.below hb07
  have hBs:=Bk.sl hB7 (o:=0) (n:=128) (cap:=128) (by rw [sealB_len];decide) (by decide) (by decide)
  rw [List.drop_zero,List.take_of_length_le (by rw [sealB_len];decide)] at hBs
  have heq:=equal_any w7 _ _ bs _ hsl7 hBs HBL.out (sealB_lt _ hdl hdn)
  have hbW:=hbA.trans (hb07.mono hbA.size)
  have HLX7:=Lib.hid hLX7
  have HO7:=Lib.hid hO7
  have HBW:=Lib.hid hbW
  have HP7:=Lib.hid hP7
  have HPL:=Lib.hid hPlt
  have c0:w7.cell? ⟨w.heap.size,0,none⟩=some (.int .u64 0):=cell_of hP7 rfl
  have c1:w7.cell? ⟨w.heap.size,1,none⟩=some (.int .u64 0):=cell_of hP7 rfl
  have c2:w7.cell? ⟨w.heap.size,2,none⟩=some (.bool false):=cell_of hP7 rfl
  have c3:w7.cell? ⟨w.heap.size,3,none⟩=some (.bool false):=cell_of hP7 rfl
  have c4:w7.cell? ⟨w.heap.size,4,none⟩=some (.slice none 0 0):=cell_of hP7 rfl
  have hfz: ∀o,w7.frozen? ⟨w.heap.size,o,none⟩=false:=fun o=>free_of hP7
  obtain ⟨d,hd⟩: ∃d,decide (bs=sealB ⟨E,C,fi,la,(bs.drop 10).take c9⟩)=d:=⟨_,rfl⟩
  rw [hd] at heq
  have HD:Hid (decide (sealB (pieceOf bs)=bs)=d):=Lib.hid (by rw [HPC.out, ←hd];exact decide_eq_decide.2 eq_comm)
  clear hd hP7 hbW hO7 hLX7 hBs hsl7 hb07 hB7 hr7 hb7 hseal hb6 HLX hdl hdn hP0 hbA hPlt
  have m: ∀(w9:World) (o:Nat) (u:Value),Below w.heap.size w w9→Below w.heap.size w (w9.setCell ⟨w.heap.size,o,none⟩ u):=fun w9 o u h=>h.setCell (p:=⟨w.heap.size,o,none⟩) (Nat.le_refl _) u
  have HM:=Lib.hid m
  clear m
  cases d
  ·go_wp2_with fail
   refine heq.mono ?_
   rintro e w8 ⟨rfl,hw⟩
   obtain rfl:=hw.symm
   clear hw heq
   go_wp2_with fail
   (try simp only [Exit.inBlock,Exit.then])
   have hfin:=heap_setCell_at (o:=4) (v:= .slice none 0 0) (heap_setCell_at (o:=3) (v:= .bool false) (heap_setCell_at (o:=2) (v:= .bool false) (heap_setCell_at (o:=1) (v:= .int .u64 0) (heap_setCell_at (o:=0) (v:= .int .u64 0) HP7.out))))
   refine bodyPost_ret (results_cellT rfl _ rfl (aggPc 0 0 false false (.slice none 0 0)) (lies_of hfin)) rfl ?_
   refine ⟨HM.out _ _ _ (HM.out _ _ _ (HM.out _ _ _ (HM.out _ _ _ (HM.out _ _ _ HBW.out)))),?_⟩
   rw [if_neg (of_decide_eq_false HD.out)]
   rfl
  ·go_wp2_with fail
   refine heq.mono ?_
   rintro e w8 ⟨rfl,hw⟩
   obtain rfl:=hw.symm
   clear hw heq
   go_wp2_with (first
    | ((with_reducible refine wpList_loadA (aggPc _ _ _ _ _) HLX7.out ?_ ?_);rfl;go_frame)
    | fail)
   (try simp only [Exit.inBlock,Exit.then])
   have hfin:=heap_setCell_at (o:=4) (v:= .slice vo vn vc) (heap_setCell_at (o:=3) (v:= .bool la) (heap_setCell_at (o:=2) (v:= .bool fi) (heap_setCell_at (o:=1) (v:= .int .u64 ((C:Nat):Int)) (heap_setCell_at (o:=0) (v:= .int .u64 ((E:Nat):Int)) HP7.out))))
   refine bodyPost_ret (results_cellT rfl _ rfl (aggPc (E:Nat) (C:Nat) fi la (.slice vo vn vc)) (lies_of hfin)) rfl ?_
   refine ⟨HM.out _ _ _ (HM.out _ _ _ (HM.out _ _ _ (HM.out _ _ _ (HM.out _ _ _ HBW.out)))),?_⟩
   rw [if_pos (of_decide_eq_true HD.out),HPC.out]
   refine ⟨.slice vo vn vc,rfl,?_⟩
   have hlow:=HPL.out
   refine (HO7.out.mono (B':=w.heap.size) (by omega)).kept (by simp [World.setCell]) fun r hr=> ?_
   have hrx:=HO7.out.lo r hr
   have hne:r≠w.heap.size:=by omega
   iterate 5 rw [heap_setCell_ne hne]
 refine wp_region_t (fun w'=>w'.cell? ⟨b,off+8,none⟩=some (.int .u8 (c8:Nat))) [(0,1),(2,1),(4,1),(5,1),(6,0),(7,1),(8,1),(9,1),(10,1),(11,0),(12,1),(13,1),(14,1),(15,1),(16,1),(1,2),(3,2),(17,2),(18,1),(19,2),(20,3)]
  (.one 0 1 (.one 2 1 (.one 4 1 (.one 5 1 (.one 6 0 (.one 7 1 (.one 8 1 (.one 9 1 (.one 10 1 (.one 11 0 (.one 12 1 (.one 13 1 (.one 14 1 (.one 15 1 (.one 16 1
   (.two 1 19 (.two 3 19 (.two 17 19 (.one 18 1 (.one 19 2 (.one 20 3 .nil))) (.one 17 2 (.one 18 1 (.one 20 3 .nil)))) (.one 3 2 (.one 17 2 (.one 18 1 (.one 20 3 .nil))))) (.one 1 2 (.one 3 2 (.one 17 2 (.one 18 1 (.one 20 3 .nil))))))))))))))))))))) (by kernel_rfl) (by kernel_rfl) (by intro d v c a w h;cases d<;>exact h) ?_
 have hS1:w1.drew.cell? ⟨b,off+8,none⟩=some (.int .u8 (c8:Nat)):=HX8
 iterate 4 (refine t_take rfl (fun K hK=> ?_);go_simp;refine hK _ ?_;clear hK K)
 refine t_read rfl hS1 (fun w' h=>exec_load1 ⟨⟨_,Tryz.underlying5,rfl⟩⟩ rfl h) ?_
 iterate 4 (refine t_take rfl (fun K hK=> ?_);go_simp;refine hK _ ?_;clear hK K)
 refine t_read rfl hS1 (fun w' h=>exec_load1 ⟨⟨_,Tryz.underlying5,rfl⟩⟩ rfl h) ?_
 iterate 5 (refine t_take rfl (fun K hK=> ?_);go_simp;refine hK _ ?_;clear hK K)
 refine t_two rfl rfl (fun K hK=> ?_) (fun K hK=> ?_)
 ·go_simp
  refine (hepo _).mono ?_
  rintro e w9 ⟨rfl,hw⟩
  obtain rfl:=hw.symm
  clear hw
  refine hK _ _ hS1 ?_
  clear hK K
  refine t_two rfl rfl (fun K hK=> ?_) (fun K hK=> ?_)
  ·go_simp
   refine (hcnt _).mono ?_
   rintro e w9 ⟨rfl,hw⟩
   obtain rfl:=hw.symm
   clear hw
   refine hK _ _ hS1 ?_
   clear hK K
   refine t_two rfl rfl (fun K hK=> ?_) (fun K hK=> ?_)
   ·go_simp
    refine (clone_any _ _ _ (hsub.below (Below.refl _ w1).drew) (by rw [List.length_take];omega)).mono ?_
    rintro e w5 ⟨v',rfl,hO5,hb5⟩
    obtain ⟨vo,vn,vc,rfl⟩:=hO5.shape
    have hS5:=(hb5.cell (p:=⟨b,off+8,none⟩) (World.block_lt_of_cell? w1 _ HX8)).trans HX8
    refine hK _ _ hS5 ?_
    clear hK K
    iterate 1 (refine t_take rfl (fun K hK=> ?_);go_simp;refine hK _ ?_;clear hK K)
    refine t_show' rfl (fun K hK=> ?_)
    go_simp
    have hal:Below w5.heap.size w5 (w5.alloc (.cells #[.int .u64 0, .int .u64 0, .bool false, .bool false, .slice none 0 0] 222)):=(Below.refl _ _).alloc (Nat.le_refl _) _
    refine hK _ _ ((hal.cell (p:=⟨b,off+8,none⟩) (World.block_lt_of_cell? w5 _ hS5)).trans hS5) ?_
    clear hK K
    have hZ5:(w5.alloc (.cells #[.int .u64 0, .int .u64 0, .bool false, .bool false, .slice none 0 0] 222)).heap[w5.heap.size]?=some (.cells #[.int .u64 0, .int .u64 0, .bool false, .bool false, .slice none 0 0] 222 (0,0)):=heap_alloc_at
    have hO5':=hO5.below hal
    have hne5: ∀r,(Value.slice vo vn vc).ownBlock=some r→r≠w5.heap.size:=fun r hr e=>by have:=hO5.lt hr;omega
    have hge5:w1.heap.size≤w1.drew.heap.size:=Nat.le_refl _
    have hz5:w1.heap.size≤w5.heap.size:=hb5.size
    have hbL:Below w1.heap.size w1 (w5.alloc (.cells #[.int .u64 0, .int .u64 0, .bool false, .bool false, .slice none 0 0] 222)):=Below.alloc ((Below.refl w1.heap.size w1).drew.trans hb5) hz5 _
    have hM6:Mod (fun y=>y=w5.heap.size) (w5.alloc (.cells #[.int .u64 0, .int .u64 0, .bool false, .bool false, .slice none 0 0] 222)) (World.setCells (w5.alloc (.cells #[.int .u64 0, .int .u64 0, .bool false, .bool false, .slice none 0 0] 222)) w5.heap.size 0 (#[.int .u64 (E:Nat), .int .u64 (C:Nat), .bool fi, .bool la, .slice vo vn vc]:Array Value).toList):=Mod.setCells (S:=fun y=>y=w5.heap.size) (fun _=>rfl) _ _ _ (Mod.refl _ _)
    have hX6:(World.setCells (w5.alloc (.cells #[.int .u64 0, .int .u64 0, .bool false, .bool false, .slice none 0 0] 222)) w5.heap.size 0 (#[.int .u64 (E:Nat), .int .u64 (C:Nat), .bool fi, .bool la, .slice vo vn vc]:Array Value).toList).heap[w5.heap.size]?=some (.cells #[.int .u64 (E:Nat), .int .u64 (C:Nat), .bool fi, .bool la, .slice vo vn vc] 222 (0,0)):=heap_setCells_at _ 0 (w5.alloc (.cells #[.int .u64 0, .int .u64 0, .bool false, .bool false, .slice none 0 0] 222)) _ hZ5
    have hO6:=hO5'.kept hM6.size fun r hr=>hM6.block r (hO5'.lt hr) (hne5 r hr)
    have hb6:=hbL.trans (hM6.below hbL.size fun y hy e=>by
     have e':y=w5.heap.size:=e
     omega)
    refine t_skip rfl (exec_storeA (aggPc _ _ _ _ _) rfl rfl hZ5 (by simp) (HONE.out _ _ _ _ _ _ _)) ?_
    exact t_nil (cont _ _ _ _ _ hX6 (hO6.mono hge5) hb6)
   ·go_simp
    have hbx:Below w1.heap.size w1 (w1.drew.alloc (.cells #[.int .u64 0, .int .u64 0, .bool false, .bool false, .slice none 0 0] 222)):=(Below.refl _ w1).drew.alloc (Nat.le_refl _) _
    have hZx:(w1.drew.alloc (.cells #[.int .u64 0, .int .u64 0, .bool false, .bool false, .slice none 0 0] 222)).heap[w1.heap.size]?=some (.cells #[.int .u64 0, .int .u64 0, .bool false, .bool false, .slice none 0 0] 222 (0,0)):=heap_alloc_at (w:=w1.drew)
    have hSx:=(hbx.cell (p:=⟨b,off+8,none⟩) (World.block_lt_of_cell? w1 _ HX8)).trans HX8
    refine hK _ _ hSx ?_
    clear hK K
    refine t_show' rfl (fun K hK=> ?_)
    go_simp
    refine (clone_any _ _ _ (hsub.below hbx) (by rw [List.length_take];omega)).mono ?_
    rintro e w5 ⟨v',rfl,hO5,hb5⟩
    obtain ⟨vo,vn,vc,rfl⟩:=hO5.shape
    have hS5:=(hb5.cell (p:=⟨b,off+8,none⟩) (World.block_lt_of_cell? _ _ hSx)).trans hSx
    refine hK _ _ hS5 ?_
    clear hK K
    have hZ5:=(hb5.block _ (lt_of_block hZx)).trans hZx
    have hne5: ∀r,(Value.slice vo vn vc).ownBlock=some r→r≠w1.heap.size:=fun r hr e=>by have:=hO5.lo r hr;have:=lt_of_block hZx;omega
    have hbL:=hbx.trans (hb5.mono hbx.size)
    have hO5':=hO5
    have hge5:=hbx.size
    iterate 1 (refine t_take rfl (fun K hK=> ?_);go_simp;refine hK _ ?_;clear hK K)
    have hM6:Mod (fun y=>y=w1.heap.size) w5 (World.setCells w5 w1.heap.size 0 (#[.int .u64 (E:Nat), .int .u64 (C:Nat), .bool fi, .bool la, .slice vo vn vc]:Array Value).toList):=Mod.setCells (S:=fun y=>y=w1.heap.size) (fun _=>rfl) _ _ _ (Mod.refl _ _)
    have hX6:(World.setCells w5 w1.heap.size 0 (#[.int .u64 (E:Nat), .int .u64 (C:Nat), .bool fi, .bool la, .slice vo vn vc]:Array Value).toList).heap[w1.heap.size]?=some (.cells #[.int .u64 (E:Nat), .int .u64 (C:Nat), .bool fi, .bool la, .slice vo vn vc] 222 (0,0)):=heap_setCells_at _ 0 w5 _ hZ5
    have hO6:=hO5'.kept hM6.size fun r hr=>hM6.block r (hO5'.lt hr) (hne5 r hr)
    have hb6:=hbL.trans (hM6.below hbL.size fun y hy e=>by
     have e':y=w1.heap.size:=e
     omega)
    refine t_skip rfl (exec_storeA (aggPc _ _ _ _ _) rfl rfl hZ5 (by simp) (HONE.out _ _ _ _ _ _ _)) ?_
    exact t_nil (cont _ _ _ _ _ hX6 (hO6.mono hge5) hb6)
  ·go_simp
   have hbx:Below w1.heap.size w1 (w1.drew.alloc (.cells #[.int .u64 0, .int .u64 0, .bool false, .bool false, .slice none 0 0] 222)):=(Below.refl _ w1).drew.alloc (Nat.le_refl _) _
   have hZx:(w1.drew.alloc (.cells #[.int .u64 0, .int .u64 0, .bool false, .bool false, .slice none 0 0] 222)).heap[w1.heap.size]?=some (.cells #[.int .u64 0, .int .u64 0, .bool false, .bool false, .slice none 0 0] 222 (0,0)):=heap_alloc_at (w:=w1.drew)
   have hSx:=(hbx.cell (p:=⟨b,off+8,none⟩) (World.block_lt_of_cell? w1 _ HX8)).trans HX8
   refine hK _ _ hSx ?_
   clear hK K
   refine t_show' rfl (fun K hK=> ?_)
   go_simp
   refine (hcnt _).mono ?_
   rintro e w9 ⟨rfl,hw⟩
   obtain rfl:=hw.symm
   clear hw
   refine hK _ _ hSx ?_
   clear hK K
   refine t_show' rfl (fun K hK=> ?_)
   go_simp
   refine (clone_any _ _ _ (hsub.below hbx) (by rw [List.length_take];omega)).mono ?_
   rintro e w5 ⟨v',rfl,hO5,hb5⟩
   obtain ⟨vo,vn,vc,rfl⟩:=hO5.shape
   have hS5:=(hb5.cell (p:=⟨b,off+8,none⟩) (World.block_lt_of_cell? _ _ hSx)).trans hSx
   refine hK _ _ hS5 ?_
   clear hK K
   have hZ5:=(hb5.block _ (lt_of_block hZx)).trans hZx
   have hne5: ∀r,(Value.slice vo vn vc).ownBlock=some r→r≠w1.heap.size:=fun r hr e=>by have:=hO5.lo r hr;have:=lt_of_block hZx;omega
   have hbL:=hbx.trans (hb5.mono hbx.size)
   have hO5':=hO5
   have hge5:=hbx.size
   iterate 1 (refine t_take rfl (fun K hK=> ?_);go_simp;refine hK _ ?_;clear hK K)
   have hM6:Mod (fun y=>y=w1.heap.size) w5 (World.setCells w5 w1.heap.size 0 (#[.int .u64 (E:Nat), .int .u64 (C:Nat), .bool fi, .bool la, .slice vo vn vc]:Array Value).toList):=Mod.setCells (S:=fun y=>y=w1.heap.size) (fun _=>rfl) _ _ _ (Mod.refl _ _)
   have hX6:(World.setCells w5 w1.heap.size 0 (#[.int .u64 (E:Nat), .int .u64 (C:Nat), .bool fi, .bool la, .slice vo vn vc]:Array Value).toList).heap[w1.heap.size]?=some (.cells #[.int .u64 (E:Nat), .int .u64 (C:Nat), .bool fi, .bool la, .slice vo vn vc] 222 (0,0)):=heap_setCells_at _ 0 w5 _ hZ5
   have hO6:=hO5'.kept hM6.size fun r hr=>hM6.block r (hO5'.lt hr) (hne5 r hr)
   have hb6:=hbL.trans (hM6.below hbL.size fun y hy e=>by
    have e':y=w1.heap.size:=e
    omega)
   refine t_skip rfl (exec_storeA (aggPc _ _ _ _ _) rfl rfl hZ5 (by simp) (HONE.out _ _ _ _ _ _ _)) ?_
   exact t_nil (cont _ _ _ _ _ hX6 (hO6.mono hge5) hb6)
 ·go_simp
  have hbx:Below w1.heap.size w1 (w1.drew.alloc (.cells #[.int .u64 0, .int .u64 0, .bool false, .bool false, .slice none 0 0] 222)):=(Below.refl _ w1).drew.alloc (Nat.le_refl _) _
  have hZx:(w1.drew.alloc (.cells #[.int .u64 0, .int .u64 0, .bool false, .bool false, .slice none 0 0] 222)).heap[w1.heap.size]?=some (.cells #[.int .u64 0, .int .u64 0, .bool false, .bool false, .slice none 0 0] 222 (0,0)):=heap_alloc_at (w:=w1.drew)
  have hSx:=(hbx.cell (p:=⟨b,off+8,none⟩) (World.block_lt_of_cell? w1 _ HX8)).trans HX8
  refine hK _ _ hSx ?_
  clear hK K
  refine t_show' rfl (fun K hK=> ?_)
  go_simp
  refine (hepo _).mono ?_
  rintro e w9 ⟨rfl,hw⟩
  obtain rfl:=hw.symm
  clear hw
  refine hK _ _ hSx ?_
  clear hK K
  refine t_show' rfl (fun K hK=> ?_)
  go_simp
  refine (hcnt _).mono ?_
  rintro e w9 ⟨rfl,hw⟩
  obtain rfl:=hw.symm
  clear hw
  refine hK _ _ hSx ?_
  clear hK K
  refine t_show' rfl (fun K hK=> ?_)
  go_simp
  refine (clone_any _ _ _ (hsub.below hbx) (by rw [List.length_take];omega)).mono ?_
  rintro e w5 ⟨v',rfl,hO5,hb5⟩
  obtain ⟨vo,vn,vc,rfl⟩:=hO5.shape
  have hS5:=(hb5.cell (p:=⟨b,off+8,none⟩) (World.block_lt_of_cell? _ _ hSx)).trans hSx
  refine hK _ _ hS5 ?_
  clear hK K
  have hZ5:=(hb5.block _ (lt_of_block hZx)).trans hZx
  have hne5: ∀r,(Value.slice vo vn vc).ownBlock=some r→r≠w1.heap.size:=fun r hr e=>by have:=hO5.lo r hr;have:=lt_of_block hZx;omega
  have hbL:=hbx.trans (hb5.mono hbx.size)
  have hO5':=hO5
  have hge5:=hbx.size
  iterate 1 (refine t_take rfl (fun K hK=> ?_);go_simp;refine hK _ ?_;clear hK K)
  have hM6:Mod (fun y=>y=w1.heap.size) w5 (World.setCells w5 w1.heap.size 0 (#[.int .u64 (E:Nat), .int .u64 (C:Nat), .bool fi, .bool la, .slice vo vn vc]:Array Value).toList):=Mod.setCells (S:=fun y=>y=w1.heap.size) (fun _=>rfl) _ _ _ (Mod.refl _ _)
  have hX6:(World.setCells w5 w1.heap.size 0 (#[.int .u64 (E:Nat), .int .u64 (C:Nat), .bool fi, .bool la, .slice vo vn vc]:Array Value).toList).heap[w1.heap.size]?=some (.cells #[.int .u64 (E:Nat), .int .u64 (C:Nat), .bool fi, .bool la, .slice vo vn vc] 222 (0,0)):=heap_setCells_at _ 0 w5 _ hZ5
  have hO6:=hO5'.kept hM6.size fun r hr=>hM6.block r (hO5'.lt hr) (hne5 r hr)
  have hb6:=hbL.trans (hM6.below hbL.size fun y hy e=>by
   have e':y=w1.heap.size:=e
   omega)
  refine t_skip rfl (exec_storeA (aggPc _ _ _ _ _) rfl rfl hZ5 (by simp) (HONE.out _ _ _ _ _ _ _)) ?_
  exact t_nil (cont _ _ _ _ _ hX6 (hO6.mono hge5) hb6)
theorem unseal_any (w:World) (v:Value) (bs:List Nat) (h:LSl en8 1 w v bs) (hbl: ∀x∈bs,x<256):Calls Tryz.prog 166 #[v] w
  fun e w'=>Below w.heap.size w w'∧match unsealB bs with
   | some p=> ∃v',e= .returned (.tuple #[.agg (pcCs p v'), .int .i64 0])∧LOut en8 1 5 w.heap.size w' v' p.da
   | none=>e= .returned (.tuple #[.agg #[.int .u64 0, .int .u64 0, .bool false, .bool false, .slice none 0 0], .int .i64 4]):=by
 by_cases hl:bs.length=128
 ·obtain ⟨c8,h8⟩: ∃c,bs[8]?=some c:=⟨bs[8]'(by omega),List.getElem?_eq_getElem _⟩
  obtain ⟨c9,h9⟩: ∃c,bs[9]?=some c:=⟨bs[9]'(by omega),List.getElem?_eq_getElem _⟩
  have hd9:bs.getD 9 0=c9:=by rw [List.getD_eq_getElem?_getD,h9];rfl
  by_cases hc:c9≤106
  ·refine (unseal_main w v bs h hbl hl c8 c9 h8 h9 hc).mono ?_
   rintro e w' ⟨hb,hr⟩
   refine ⟨hb,?_⟩
   unfold unsealB
   rw [hd9]
   by_cases hs:sealB (pieceOf bs)=bs
   ·rw [if_pos hs] at hr
    rw [if_pos ⟨hl,hc,hs⟩]
    exact hr
   ·rw [if_neg hs] at hr
    rw [if_neg (fun e=>hs e.2.2)]
    exact hr
  ·refine (unseal_long w v bs h hl c9 h9 (hbl c9 (List.mem_of_getElem? h9)) (by omega)).mono ?_
   rintro e w' ⟨he,hb⟩
   refine ⟨hb,?_⟩
   unfold unsealB
   rw [hd9,if_neg (fun e=>hc e.2.1)]
   exact he
 ·refine (unseal_len w v bs h hl).mono ?_
  rintro e w' ⟨he,hb⟩
  refine ⟨hb,?_⟩
  unfold unsealB
  rw [if_neg (fun e=>hl e.1)]
  exact he
def endsB (b:List Nat):Nat×Nat:=(numOf (b.take 8)/1099511627776,numOf (b.drop 120)/1099511627776)
theorem ends_any (w:World) (v:Value) (bs:List Nat) (h:LSl en8 1 w v bs) (hbl: ∀x∈bs,x<256) (hl:bs.length=128):Calls Tryz.prog 114 #[v] w
  fun e w'=>e= .returned (.tuple #[.int .u64 ((endsB bs).1:Nat), .int .u64 ((endsB bs).2:Nat)])∧Below w.heap.size w w':=by
 have hsl:=h
 obtain ⟨ao,cap,rfl,h1,h2,h3⟩:=h
 obtain ⟨b,off,rfl,hb,hcell⟩:=h3 (by omega)
 rw [hl] at hsl h1 ⊢
 unfold maxLen at h2
 have hcap:(128:Int)≤cap:=by omega
 have hlo:LSl en8 1 w (.slice (some ⟨b,off,none⟩) 8 cap) (bs.take 8):=hsl.take (by omega)
 have hhi:LSl en8 1 w (.slice (some ⟨b,off+120,none⟩) 8 (cap-120)) (bs.drop 120):=hsl.drop2 (i:=120) (by omega) (by rw [if_neg (by omega)];simp [addr_add]) (by omega) rfl
 have hN:=numOf_lt 8 (bs.take 8) (by rw [List.length_take];omega) fun x hx=>hbl x (List.mem_of_mem_take hx)
 have hM:=numOf_lt 8 (bs.drop 120) (by rw [List.length_drop];omega) fun x hx=>hbl x (List.mem_of_mem_drop hx)
 have hr1:=read_any w.drew _ (bs.take 8) hlo (fun x hx=>hbl x (List.mem_of_mem_take hx)) (by rw [List.length_take];omega)
 have hr2:=read_any w.drew _ (bs.drop 120) hhi (fun x hx=>hbl x (List.mem_of_mem_drop hx)) (by rw [List.length_drop];omega)
 unfold endsB
 simp only
 obtain ⟨N,hNe⟩: ∃N,numOf (bs.take 8)=N:=⟨_,rfl⟩
 obtain ⟨M,hMe⟩: ∃M,numOf (bs.drop 120)=M:=⟨_,rfl⟩
 rw [hNe] at hr1 hN
 rw [hMe] at hr2 hM
 rw [hNe,hMe]
 have he1:=fun w=>epoch_any w N hN
 have he2:=fun w=>epoch_any w M hM
 generalize N/1099511627776=E1 at*
 generalize M/1099511627776=E2 at*
 have hq5:¬ cap=120:=by omega
 have hq6:(8:Int)≤cap:=by omega
 have hq7:8≤cap:=by omega
 have hq8:¬ cap=0:=by omega
 clear hsl hlo hhi hcell h3 hN hM hNe hMe hbl
 go_enter Tryz.func114,Tryz.ntmps114
 go_upto_region 3 with fail
 refine wp_region_x (fun _=>True) [(0,1),(1,1),(4,1),(5,1),(2,2),(3,2),(6,2),(7,2),(8,1),(9,1)] (by kernel_rfl) (by kernel_rfl) (by intro d v c a w h;cases d<;>exact h) ?_
 iterate 4 (refine x_take rfl (fun K hK=> ?_);go_simp;refine hK _ ?_;clear hK K)
 refine x_show' rfl (fun K hK=> ?_)
 go_simp
 refine hr1.mono ?_
 rintro e w2 ⟨rfl,hw⟩
 obtain rfl:=hw.symm
 refine hK _ _ trivial ?_
 clear hw hK K
 refine x_show' rfl (fun K hK=> ?_)
 go_simp
 refine (he1 _).mono ?_
 rintro e w2 ⟨rfl,hw⟩
 obtain rfl:=hw.symm
 refine hK _ _ trivial ?_
 clear hw hK K
 refine x_show' rfl (fun K hK=> ?_)
 go_simp
 refine hr2.mono ?_
 rintro e w2 ⟨rfl,hw⟩
 obtain rfl:=hw.symm
 refine hK _ _ trivial ?_
 clear hw hK K
 refine x_show' rfl (fun K hK=> ?_)
 go_simp
 refine (he2 _).mono ?_
 rintro e w2 ⟨rfl,hw⟩
 obtain rfl:=hw.symm
 refine hK _ _ trivial ?_
 clear hw hK K
 iterate 2 (refine x_take rfl (fun K hK=> ?_);go_simp;refine hK _ ?_;clear hK K)
 refine x_nil ?_
 go_wp2
 go_ret2
 exact ⟨rfl,(Below.refl _ _).drew⟩
end Go.Proofs.YtjdbbnhnbdocbaaGreat
namespace Go.Tn
open Go.RowKit
variable {α:Type} {en:α→List Value} {k:Nat}
theorem LSl.kept {w w':World} {v:Value} {xs:List α} (h:LSl en k w v xs) (hs:w.heap.size≤w'.heap.size) (hb: ∀r,v.ownBlock=some r→w'.heap[r]?=w.heap[r]?):LSl en k w' v xs:=by
 obtain ⟨ao,cap,rfl,h1,h2,h3⟩:=h
 refine ⟨ao,cap,rfl,h1,h2,fun h0=> ?_⟩
 obtain ⟨b,off,rfl,hlt,hc⟩:=h3 h0
 exact ⟨b,off,rfl,Nat.lt_of_lt_of_le hlt hs,fun i x hi j hj=>(World.cell?_of_block (hb b rfl)).trans (hc i x hi j hj)⟩
theorem LSl.lt {w:World} {v:Value} {xs:List α} (h:LSl en k w v xs) (h0:0<xs.length) {r:Nat} (hr:v.ownBlock=some r):r<w.heap.size:=by
 obtain ⟨ao,cap,rfl,h1,h2,h3⟩:=h
 obtain ⟨b,off,rfl,hlt,hc⟩:=h3 h0
 cases hr
 exact hlt
theorem LSl.mod {w w':World} {v:Value} {xs:List α} {S:Nat→Prop} (h:LSl en k w v xs) (hm:Mod S w w') (hr: ∀r,v.ownBlock=some r→¬ S r):LSl en k w' v xs:=by
 by_cases h0:0<xs.length
 ·exact h.kept hm.size fun r hv=>hm.block r (h.lt h0 hv) (hr r hv)
 ·obtain ⟨ao,cap,rfl,h1,h2,h3⟩:=h
  exact ⟨ao,cap,rfl,h1,h2,fun h=>absurd h h0⟩
end Go.Tn
namespace Go.Tn.Lp
open Go.Tn Go.Tn.Bt
def cutN (bs:List Nat):Nat:=max ((bs.length+105)/106) 1
def pieceAt (ep ct:Nat) (bs:List Nat) (i:Nat):Pc:=⟨ep,ct+i,decide (i=0),decide (i+1=cutN bs),(bs.drop (106*i)).take 106⟩
def cutL (ep ct:Nat) (bs:List Nat):List Pc:=(List.range (cutN bs)).map (pieceAt ep ct bs)
def cutB (ep ct:Nat) (bs:List Nat):Except Int (List Pc):=
 if 16777215<ep∨1099511627775<ct∨1099511627775-ct<cutN bs-1 then .error 2 else if 8192<bs.length then .error 5 else .ok (cutL ep ct bs)
theorem cutN_pos (bs:List Nat):1≤cutN bs:=Nat.le_max_right _ _
theorem cutL_len (ep ct:Nat) (bs:List Nat):(cutL ep ct bs).length=cutN bs:=by simp [cutL]
theorem pieceAt_len (ep ct:Nat) (bs:List Nat) (i:Nat):(pieceAt ep ct bs i).da.length≤106:=by
 simp only [pieceAt,List.length_take]
 omega
theorem pieceAt_lt {bs:List Nat} (h: ∀x∈bs,x<256) (ep ct i:Nat): ∀x∈(pieceAt ep ct bs i).da,x<256:=fun _ hx=>h _ (List.mem_of_mem_drop (List.mem_of_mem_take hx))
theorem cutL_ok {ep ct:Nat} {bs:List Nat} (he:ep≤16777215) (hc:ct≤1099511627775) (hn:cutN bs-1≤1099511627775-ct): ∀p∈cutL ep ct bs,p.ok:=by
 intro p hp
 obtain ⟨i,hi,rfl⟩:=List.mem_map.1 hp
 have:=List.mem_range.1 hi
 refine ⟨he,?_,pieceAt_len _ _ _ _⟩
 simp only [pieceAt]
 omega
theorem cutL_lt {bs:List Nat} (h: ∀x∈bs,x<256) (ep ct:Nat): ∀p∈cutL ep ct bs, ∀x∈p.da,x<256:=by
 intro p hp
 obtain ⟨i,hi,rfl⟩:=List.mem_map.1 hp
 exact pieceAt_lt h _ _ _
abbrev Sv:=Option Addr×Nat×Nat
def sv (s:Sv):Value:= .slice s.1 s.2.1 s.2.2
def enPc (x:Pc×Sv):List Value:= [.int .u64 x.1.ep, .int .u64 x.1.ct, .bool x.1.fi, .bool x.1.la,sv x.2]
end Go.Tn.Lp
namespace Go.Proofs.YtjdbbnhnbdocbaaGreat
open Go.RowKit Go.Tn Go.Tn.Bt Go.Tn.Lp
def Datas (w:World) (xs:List (Pc×Sv)):Prop:= ∀x∈xs,LSl en8 1 w (sv x.2) x.1.da
theorem elPc:ElT Tryz.prog 215 222 5 enPc:=⟨Tryz.underlying215,by kernel_rfl,by omega,fun _=>rfl,fun x u hu=>by
 simp only [enPc,List.mem_cons,List.not_mem_nil,or_false] at hu
 rcases hu with rfl|rfl|rfl|rfl|rfl<;>rfl⟩
end Go.Proofs.YtjdbbnhnbdocbaaGreat
