import Derived.Test.YtjdbbnhnbdocbaaGreatMgGon8
import Derived.OwnWalk
import Derived.Laws.CopyRow
import Derived.Laws.IdiomCopy
import Derived.Laws.BytesArg
namespace Go.Tn.Lp
structure Pc where
 ep:Nat
 ct:Nat
 fi:Bool
 la:Bool
 da:List Nat
def Pc.ok (p:Pc):Prop:=p.ep≤16777215∧p.ct≤1099511627775∧p.da.length≤106
instance (p:Pc):Decidable p.ok:=by unfold Pc.ok;infer_instance
def flagsN (fi la:Bool):Nat:=fi.toNat+2*la.toNat
def seal3 (p:Pc):List Nat:=writeAt (((writeAt (List.replicate 128 0) 0 (bytesN (p.ep*1099511627776+p.ct) 8)).set 8 (flagsN p.fi p.la)).set 9 p.da.length) 10 p.da
def sealB (p:Pc):List Nat:=writeAt (writeAt (seal3 p) 116 (bytesN (fsum ((seal3 p).take 116)) 4)) 120 (bytesN (p.ep*1099511627776+p.ct) 8)
theorem flagsN_lt (fi la:Bool):flagsN fi la<4:=by cases fi<;>cases la<;>decide
theorem set_lt {L:List Nat} {i b:Nat} (h: ∀x∈L,x<256) (hb:b<256): ∀x∈L.set i b,x<256:=fun x hx=>by
 rcases List.mem_or_eq_of_mem_set hx with h1|h1
 ·exact h x h1
 ·omega
theorem rep_lt (n:Nat): ∀x∈List.replicate n 0,x<256:=fun x hx=>by
 have:=List.eq_of_mem_replicate hx
 omega
theorem seal3_len (p:Pc):(seal3 p).length=128:=by simp [seal3,writeAt_len]
theorem seal3_lt (p:Pc) (hd: ∀x∈p.da,x<256) (h3:p.da.length≤106): ∀x∈seal3 p,x<256:=by
 unfold seal3
 refine writeAt_lt (set_lt (set_lt (writeAt_lt (rep_lt 128) (bytesN_lt _ _) ?_) ?_) (by omega)) hd ?_
 ·simp [bytesN_len]
 ·have:=flagsN_lt p.fi p.la
  omega
 ·simp [writeAt_len]
  omega
theorem sealB_len (p:Pc):(sealB p).length=128:=by simp [sealB,writeAt_len,seal3_len]
theorem sealB_lt (p:Pc) (hd: ∀x∈p.da,x<256) (h3:p.da.length≤106): ∀x∈sealB p,x<256:=by
 unfold sealB
 refine writeAt_lt (writeAt_lt (seal3_lt p hd h3) (bytesN_lt _ _) ?_) (bytesN_lt _ _) ?_
 ·simp [bytesN_len,seal3_len]
 ·simp [bytesN_len,writeAt_len,seal3_len]
end Go.Tn.Lp
namespace Go.Proofs.YtjdbbnhnbdocbaaGreat
open Go.RowKit Go.Tn Go.Tn.Bt Go.Tn.Lp
theorem info8:(Tryz.prog.info? 5).map (fun i=>(i.zero,i.size,i.bytes))=some (some (.int .u8 0),1,1):=by kernel_rfl
theorem size8:(Tryz.prog.info? 5).map (·.size)=some 1:=by kernel_rfl
theorem setRow_mod (r:Nat) (cs:Array Value) (w:World):Mod (fun x=>x=r) w (w.setRow r cs):=by
 refine ⟨rfl,rfl,rfl,by simp [World.setRow],fun b hb hS=> ?_⟩
 unfold World.setRow
 simp only
 rw [Array.getElem?_modify,if_neg (fun e=>hS e.symm)]
theorem run_copy8 (w:World) (r:Nat) (L:List Nat) (h:Bk w r L) (v:Value) (bs:List Nat) (hv:LSl en8 1 w v bs) (o dLen dCap:Nat) (ho:o+bs.length≤L.length) (hd:bs.length≤dLen):
  ∃w',(∀ty,(Builtin.copy_ #[44,44] ty #[.slice (some ⟨r,o,none⟩) dLen dCap,v]).run Tryz.prog w= .ok (goInt bs.length) w')∧Bk w' r (writeAt L o bs)∧Mod (fun x=>x=r) w w':=by
 obtain ⟨ao,cap,rfl,h1,h2,h3⟩:=hv
 by_cases h0:bs= []
 ·subst h0
  exact ⟨w,fun ty=>run_copy_none w 44 44 ty 5 _ _ _ _ _ _ Tryz.underlying44 size8 (by simp),h,Mod.refl _ _⟩
 ·have hpos:0<bs.length:=List.length_pos_iff.2 h0
  obtain ⟨b,off,rfl,hlt,hc⟩:=h3 hpos
  have hsrc: ∀(j:Nat) (u:Value),(bs.map fun b=>Value.int .u8 ((b:Nat):Int))[j]?=some u→w.cell? ((⟨b,off,none⟩:Addr).add j)=some u:=fun j u hj=>by
   rw [List.getElem?_map] at hj
   obtain ⟨x,hx,rfl⟩:=Option.map_eq_some_iff.1 hj
   have:=hc j x hx 0 (by simp)
   rw [addr_add]
   simpa using this
  have hr:=fun ty=>run_copy_row (P:=Tryz.prog) w 44 44 ty 5 r o dLen dCap ⟨b,off,none⟩ bs.length cap (cells8 L) 5 (bs.map fun b=>Value.int .u8 ((b:Nat):Int)) Tryz.underlying44 size8 h (by simp [Nat.min_eq_left hd]) hsrc (by simp [cells8];omega) (fun u hu=>by
   obtain ⟨x,_,rfl⟩:=List.mem_map.1 hu
   rfl)
  simp only [List.length_map] at hr
  refine ⟨_,hr,?_,?_⟩
  ·unfold Bk
   rw [writeAt_eq bs L o ho]
   have e:(cells8 (L.take o++bs++L.drop (o+bs.length)))=((cells8 L).toList.take o++(bs.map fun b=>Value.int .u8 ((b:Nat):Int))++(cells8 L).toList.drop (o+bs.length)).toArray:=by
    simp [cells8,List.map_take,List.map_drop]
   rw [e]
   exact setRow_heap w r _ _ _ _ h
  ·exact setRow_mod r _ w
theorem aggPc (ep ct:Int) (fi la:Bool) (v:Value):AggT Tryz.prog 222 (#[.int .u64 ep, .int .u64 ct, .bool fi, .bool la,v]:Array Value).size:=⟨⟨_,Tryz.underlying222,rfl⟩,by kernel_rfl⟩
theorem flags_any (w:World) (ep ct:Int) (fi la:Bool) (ao:Option Addr) (n cap:Nat):Calls Tryz.prog 213 #[.agg #[.int .u64 ep, .int .u64 ct, .bool fi, .bool la, .slice ao n cap]] w
  fun e w'=>e= .returned (.int .u8 (flagsN fi la:Nat))∧Below w.heap.size w w':=by
 cases fi<;>cases la
 all_goals
  go_enter Tryz.func213,Tryz.ntmps213
  go_wp2
  go_ret
  exact ⟨rfl,(Below.refl _ _).alloc (Nat.le_refl _) _⟩
theorem exec_copy8 (w:World) (r:Nat) (L:List Nat) (h:Bk w r L) (v:Value) (bs:List Nat) (hv:LSl en8 1 w v bs) (o dLen dCap:Nat) (ho:o+bs.length≤L.length) (hd:bs.length≤dLen):
  ∃w',(∀(ρ:Operand→Value) (dst:Option Tmp) (ty:TypeId) (pos:String) (after:Array Edge) (g:Option (Nat×Bool)) (x y:Operand),ρ x= .slice (some ⟨r,o,none⟩) dLen dCap→ρ y=v→
   (execOp ρ ⟨dst, .call {callee:= .builtin .copy,args:= #[x,y],argTypes:= #[44,44]},ty,pos,after,g⟩).run Tryz.prog w= .ok (.value (.int .i64 bs.length)) w')∧Bk w' r (writeAt L o bs)∧Mod (fun x=>x=r) w w':=by
 obtain ⟨w',hr,hB,hm⟩:=run_copy8 w r L h v bs hv o dLen dCap ho hd
 refine ⟨w',fun ρ dst ty pos after g x y hx hy=> ?_,hB,hm⟩
 simp only [execOp,resolve,invoke,builtin,Sem.run_bind,Sem.run_pure,Result.andThen_ok,List.map_toArray,List.map_cons,List.map_nil,hx,hy,hr,goInt]
theorem make8 (w:World) (n:Nat) (hn:n≤1000): ∃w',(∀(ρ:Operand→Value) (dst:Option Tmp) (ty:TypeId) (pos:String) (after:Array Edge) (g:Option (Nat×Bool)) (x y:Operand),ρ x= .int .i64 n→ρ y= .int .i64 n→
  (execOp ρ ⟨dst, .makeSlice 44 x y,ty,pos,after,g⟩).run Tryz.prog w= .ok (.value (.slice (some ⟨w.heap.size,0,none⟩) n n)) w')∧Bk w' w.heap.size (List.replicate n 0)∧Below w.heap.size w w':=by
 obtain ⟨i0,hi,hz0,hz1,hz2⟩:=info_parts info8
 refine ⟨w.alloc (.cells (List.replicate n (Value.int .u8 0)).toArray 5),fun ρ dst ty pos after g x y hx hy=>exec_make1 (n:=n) Tryz.underlying44 hi hz0 hz1 rfl (by rw [hz2];omega) (by unfold maxLen;omega) hx hy,?_,(Below.refl _ _).alloc (Nat.le_refl _) _⟩
 unfold Bk
 rw [heap_alloc_at]
 simp [cells8]
set_option maxRecDepth 20000 in
set_option maxHeartbeats 4000000 in
theorem seal_ok (w:World) (ep ct:Nat) (fi la:Bool) (da:List Nat) (v:Value) (hv:LSl en8 1 w v da) (hlt: ∀x∈da,x<256) (h1:ep≤16777215) (h2:ct≤1099511627775) (h3:da.length≤106):
  Calls Tryz.prog 191 #[.agg #[.int .u64 ep, .int .u64 ct, .bool fi, .bool la,v]] w
  fun e w'=> ∃r,e= .returned (.tuple #[.slice (some ⟨r,0,none⟩) 128 128, .int .i64 0])∧Bk w' r (sealB ⟨ep,ct,fi,la,da⟩)∧w.heap.size≤r∧Below w.heap.size w w':=by
 have hs64:ep*1099511627776+ct<2 ^ 64:=by omega
 have hv0:=hv
 obtain ⟨ao,cap,rfl,hc1,hc2,hc3⟩:=hv
 have h3':(da.length:Int)≤106:=by omega
 have hst:=fun w=>stamp_ok w ep ct h1 h2
 have hb1:Below w.heap.size w (w.alloc (.cells #[.int .u64 ep, .int .u64 ct, .bool fi, .bool la, .slice ao da.length cap] 222)):=(Below.refl _ _).alloc (Nat.le_refl _) _
 have hz1:(w.alloc (.cells #[.int .u64 ep, .int .u64 ct, .bool fi, .bool la, .slice ao da.length cap] 222)).heap.size=w.heap.size+1:=by simp
 have hl1:Lies (w.alloc (.cells #[.int .u64 ep, .int .u64 ct, .bool fi, .bool la, .slice ao da.length cap] 222)) w.heap.size 0 #[.int .u64 ep, .int .u64 ct, .bool fi, .bool la, .slice ao da.length cap]:=lies_of heap_alloc_at
 obtain ⟨w2,hmk,hB2,hb2⟩:=make8 (w.alloc (.cells #[.int .u64 ep, .int .u64 ct, .bool fi, .bool la, .slice ao da.length cap] 222)) 128 (by decide)
 rw [hz1] at hmk hB2
 have HMK:=Lib.hid hmk
 have hv2:=(hv0.below hb1).below hb2
 have hl2:=hl1.below' hb2 (by omega)
 have hb02:=hb1.trans (hb2.mono hb1.size)
 have hz2:=hb2.size
 rw [hz1] at hz2
 obtain ⟨s,hs⟩: ∃s,ep*1099511627776+ct=s:=⟨_,rfl⟩
 rw [hs] at hs64
 simp only [hs] at hst
 clear hc3 hmk hb1 hb2 hl1 hz1
 go_enter Tryz.func191,Tryz.ntmps191
 go_wp2_with (first
  | (go_at_call 211;refine (hst _).mono ?_;rintro e w2 ⟨rfl,hw⟩;obtain rfl:=hw.symm;clear hw)
  | ((with_reducible refine wpList_exec rfl (HMK.out _ _ _ _ _ _ _ _ ?_ ?_) ?_);rfl;rfl;go_frame)
  | fail)
 obtain ⟨r,hr⟩: ∃r,w.heap.size+1=r:=⟨_,rfl⟩
 rw [hr] at hB2 ⊢
 refine (number_any w2 r _ hB2 s 8 0 128 hs64 (by decide) (by decide) (by decide) (by simp) (by simp)).mono ?_
 rintro e w3 ⟨rfl,hB3,hm3⟩
 have hb03:Below w.heap.size w w3:=hb02.trans (hm3.below (by omega) fun x hx e=>by omega)
 have hl3:=lies_mod hl2 hm3 (by omega)
 clear hB2 hb02 hl2 hm3 hv2 hz2
 have hlen1:(writeAt (List.replicate 128 0) 0 (bytesN s 8)).length=128:=by simp [writeAt_len]
 have hS3: ∀x∈ [w3.drew],Lies x w.heap.size 0 #[.int .u64 ep, .int .u64 ct, .bool fi, .bool la, .slice ao da.length cap]:=fun x hx=>by
  rw [List.mem_singleton.1 hx]
  exact hl3
 have hS3:=hS3 _ (List.mem_singleton.2 rfl)
 have hwd:IntKind.u8.wrap ((da.length:Nat):Int)=((da.length:Nat):Int):=by rw [wrap8,Nat.mod_eq_of_lt (by omega)]
 have hfl:=flags_any w3.drew ep ct fi la ao da.length cap
 obtain ⟨fl,hfle⟩: ∃fl,flagsN fi la=fl:=⟨_,rfl⟩
 rw [hfle] at hfl
 go_upto_region 6 with fail
 refine wp_region_x (fun w'=>Lies w' w.heap.size 0 #[.int .u64 ep, .int .u64 ct, .bool fi, .bool la, .slice ao da.length cap]) [(0,1),(1,1),(2,0),(4,1),(5,0),(6,1),(7,1),(3,2),(8,1),(9,2),(10,1),(11,3)] (by kernel_rfl) (by kernel_rfl) (by intro d v c a w h;cases d<;>exact h) ?_
 iterate 2 (refine x_take rfl (fun K hK=> ?_);go_simp;refine hK _ ?_;clear hK K)
 refine x_read rfl hS3 (fun w' h=>exec_loadA (aggPc _ _ _ _ _) rfl h) ?_
 iterate 1 (refine x_take rfl (fun K hK=> ?_);go_simp;refine hK _ ?_;clear hK K)
 refine x_read rfl hS3 (fun w' h=>exec_load1 ⟨⟨_,Tryz.underlying44,rfl⟩⟩ rfl (h 4 (by simp))) ?_
 iterate 2 (refine x_take rfl (fun K hK=> ?_);go_simp;refine hK _ ?_;clear hK K)
 refine x_show' rfl (fun K hK=> ?_)
 go_simp
 refine hfl.mono ?_
 rintro e w4 ⟨rfl,hb4⟩
 have hB4:Bk w4 r (writeAt (List.replicate 128 0) 0 (bytesN s 8)):=Bk.below (w:=w3.drew) hB3 hb4
 have hl4:=hS3.below' hb4 (World.block_lt_of_cell? _ _ (hS3 0 (by simp)))
 have hb04:Below w.heap.size w w4:=hb03.drew.trans (hb4.mono hb03.size)
 refine hK _ _ hl4 ?_
 clear hK K hS3 hb4 hb03 hB3 hfl hl3
 obtain ⟨L1,hL1⟩: ∃L1,writeAt (List.replicate 128 0) 0 (bytesN s 8)=L1:=⟨_,rfl⟩
 rw [hL1] at hlen1 hB4
 have hg8:L1[8]?=some L1[8]:=List.getElem?_eq_getElem (by omega)
 have h9:9<(L1.set 8 fl).length:=by simp;omega
 have hg9:(L1.set 8 fl)[9]?=some ((L1.set 8 fl)[9]'h9):=List.getElem?_eq_getElem h9
 have hc8:=hB4.cell hg8
 have hf8:=hB4.free 8
 have hB5:=hB4.set 8 fl
 have hc9:=hB5.cell hg9
 have hf9:=hB5.free 9
 have hB6:=hB5.set 9 da.length
 have hl5:=lies_mod hl4 ((Mod.refl (fun x=>x=r) w4).setCell ⟨r,8,none⟩ (.int .u8 (fl:Nat)) fun _=>rfl) (by omega)
 iterate 1 (refine x_take rfl (fun K hK=> ?_);go_simp;refine hK _ ?_;clear hK K)
 refine x_show' rfl (fun K hK=> ?_)
 go_simp
 refine hK _ _ hl5 ?_
 clear hK K
 iterate 1 (refine x_take rfl (fun K hK=> ?_);go_simp;refine hK _ ?_;clear hK K)
 refine x_exec' rfl (fun K hK=> ?_)
 go_simp
 refine hK _ _ ?_
 clear hK K
 refine x_nil ?_
 have hl6:=lies_mod hl5 ((Mod.refl (fun x=>x=r) _).setCell ⟨r,9,none⟩ (.int .u8 ((da.length:Nat):Int)) fun _=>rfl) (by omega)
 have hb06:Below w.heap.size w ((w4.setCell ⟨r,8,none⟩ (.int .u8 (fl:Nat))).setCell ⟨r,9,none⟩ (.int .u8 ((da.length:Nat):Int))):=(hb04.setCell (p:=⟨r,8,none⟩) (show w.heap.size≤r by omega) _).setCell (p:=⟨r,9,none⟩) (show w.heap.size≤r by omega) _
 have hlen6:((L1.set 8 fl).set 9 da.length).length=128:=by simp;omega
 obtain ⟨L2,hL2⟩: ∃L2,(L1.set 8 fl).set 9 da.length=L2:=⟨_,rfl⟩
 rw [hL2] at hB6 hlen6
 clear hl5 hl4 hB4 hB5 hb04 hc8 hf8 hc9 hf9 hg8 hg9 h9
 generalize (w4.setCell ⟨r,8,none⟩ (.int .u8 (fl:Nat))).setCell ⟨r,9,none⟩ (.int .u8 ((da.length:Nat):Int))=w6 at*
 have hS6:Lies w6.drew w.heap.size 0 #[.int .u64 ep, .int .u64 ct, .bool fi, .bool la, .slice ao da.length cap]:=hl6
 obtain ⟨w7,hcp,hB7,hm7⟩:=exec_copy8 w6.drew r L2 hB6 (.slice ao da.length cap) da (hv0.below hb06.drew) 10 118 118 (by omega) (by omega)
 have hb07:Below w.heap.size w w7:=hb06.drew.trans (hm7.below hb06.size fun x hx e=>by omega)
 go_upto_region 7 with fail
 refine wp_region_x (fun w'=>Lies w' w.heap.size 0 #[.int .u64 ep, .int .u64 ct, .bool fi, .bool la, .slice ao da.length cap]) [(0,1),(1,1),(2,1),(3,0),(4,3)] (by kernel_rfl) (by kernel_rfl) (by intro d v c a w h;cases d<;>exact h) ?_
 iterate 3 (refine x_take rfl (fun K hK=> ?_);go_simp;refine hK _ ?_;clear hK K)
 refine x_read rfl hS6 (fun w' h=>exec_load1 ⟨⟨_,Tryz.underlying44,rfl⟩⟩ rfl (h 4 (by simp))) ?_
 refine x_exec rfl (hcp _ _ _ _ _ _ _ _ rfl rfl) ?_
 refine x_nil ?_
 have hlen7:(writeAt L2 10 da).length=128:=by rw [writeAt_len];exact hlen6
 obtain ⟨L3,hL3⟩: ∃L3,writeAt L2 10 da=L3:=⟨_,rfl⟩
 rw [hL3] at hB7 hlen7
 have hL3':L3=seal3 ⟨ep,ct,fi,la,da⟩:=by
  unfold seal3
  simp only
  rw [hs,hL1,hfle,hL2,hL3]
 have hlt3: ∀x∈L3,x<256:=by
  rw [hL3']
  exact seal3_lt _ hlt h3
 clear hS6 hl6 hB6 hb06 hm7 hcp
 have hsum:=fsum_any w7.drew (.slice (some ⟨r,0,none⟩) 116 128) (L3.take 116) (Bk.sl (w:=w7.drew) hB7 (o:=0) (n:=116) (by omega) (by decide) (by decide)) (fun x hx=>hlt3 x (List.mem_of_mem_take hx)) (by rw [List.length_take];omega)
 have hfsl:=fsum_lt (L3.take 116)
 obtain ⟨fs,hfs⟩: ∃fs,fsum (L3.take 116)=fs:=⟨_,rfl⟩
 rw [hfs] at hsum hfsl
 have hfsl':(fs:Int)<4294967296:=by omega
 have hwf:IntKind.u64.wrap (fs:Int)=(fs:Int):=by rw [Bt.wrap64,Nat.mod_eq_of_lt (by omega)]
 go_upto_region 8 with fail
 refine wp_region_x (fun _=>True) [(0,1),(1,1),(2,1),(3,1),(4,2),(5,1),(6,3)] (by kernel_rfl) (by kernel_rfl) (by intro d v c a w h;cases d<;>exact h) ?_
 iterate 4 (refine x_take rfl (fun K hK=> ?_);go_simp;refine hK _ ?_;clear hK K)
 refine x_show' rfl (fun K hK=> ?_)
 go_simp
 refine hsum.mono ?_
 rintro e w8 ⟨rfl,hb8⟩
 have hB8:Bk w8 r L3:=Bk.below (w:=w7.drew) hB7 hb8
 have hb08:Below w.heap.size w w8:=hb07.drew.trans (hb8.mono hb07.size)
 refine hK _ _ trivial ?_
 clear hK K hB7 hb07 hb8 hsum
 iterate 1 (refine x_take rfl (fun K hK=> ?_);go_simp;refine hK _ ?_;clear hK K)
 refine x_exec' rfl (fun K hK=> ?_)
 go_simp
 refine (number_any w8 r L3 hB8 fs 4 116 12 (by omega) (by decide) (by decide) (by decide) (by omega) (by omega)).mono ?_
 rintro e w9 ⟨rfl,hB9,hm9⟩
 refine hK _ _ ?_
 clear hK K
 refine x_nil ?_
 have hb09:Below w.heap.size w w9:=hb08.trans (hm9.below hb08.size fun x hx e=>by omega)
 clear hB8 hb08 hm9
 go_wp2_with fail
 refine (number_any w9 r _ hB9 s 8 120 8 hs64 (by decide) (by decide) (by decide) (by rw [writeAt_len];omega) (by rw [writeAt_len];omega)).mono ?_
 rintro e w10 ⟨rfl,hB10,hm10⟩
 have hb10:Below w.heap.size w w10:=hb09.trans (hm10.below hb09.size fun x hx e=>by omega)
 have hfin:sealB ⟨ep,ct,fi,la,da⟩=writeAt (writeAt L3 116 (bytesN fs 4)) 120 (bytesN s 8):=by
  unfold sealB
  simp only
  rw [←hL3',hfs,hs]
 have HF:=Lib.hid hfin
 have HB:=Lib.hid hB10
 have HBE:=Lib.hid hb10
 have hwr:w.heap.size≤r:=by omega
 clear hfin hB10 hb10 hB9 hb09 hm10 hL3' hL3 hlt3
 go_wp2
 go_ret2
 exact ⟨r,rfl,by rw [HF.out];exact HB.out,hwr,HBE.out⟩
theorem conv8 (w:World) (v:Value) (bs:List Nat) (h:LSl en8 1 w v bs):(convert 44 9 v).run Tryz.prog w= .ok (.string (strOfNums (bs.map fun b=>((b:Nat):Int)))) w:=by
 obtain ⟨ao,cap,rfl,h1,h2,h3⟩:=h
 by_cases h0:0<bs.length
 ·obtain ⟨b,off,rfl,hlt,hc⟩:=h3 h0
  refine run_convert_bytes_arg w 44 5 Tryz.underlying44 Tryz.underlying5 b off bs.length cap (bs.map fun b=>((b:Nat):Int)) (by simp) (fun i hi=> ?_) 9 Tryz.underlying9
  have:=hc i bs[i] (List.getElem?_eq_getElem hi) 0 (by simp)
  simpa [List.getD,List.getElem?_eq_getElem hi] using this
 ·have:bs= []:=List.eq_nil_of_length_eq_zero (by omega)
  subst this
  cases ao with
  | none=>
   rw [run_convert_bytes_nil w 44 5 Tryz.underlying44 Tryz.underlying5 _ _ 9 Tryz.underlying9]
   rfl
  | some p=>
   rw [run_convert_bytes_string w 44 9 5 _ _ cap Tryz.underlying44 Tryz.underlying5 Tryz.underlying9]
   have hl:=run_loadCells_list (P:=Tryz.prog) w p [] (by simp)
   exact (run_bytesToString w p 0 cap [] (by simpa using hl)).trans rfl
theorem strOf_inj {bs cs:List Nat} (hb: ∀x∈bs,x<256) (hc: ∀x∈cs,x<256):(strOfNums (bs.map fun b=>((b:Nat):Int))).toList=(strOfNums (cs.map fun b=>((b:Nat):Int))).toList↔bs=cs:=by
 rw [ByteArray.toList_eq,ByteArray.toList_eq,strOfNums_data,strOfNums_data,List.map_map,List.map_map]
 constructor
 ·intro h
  have e: ∀l:List Nat,(∀x∈l,x<256)→(l.map ((fun n:Int=>UInt8.ofNat n.toNat) ∘ fun b=>((b:Nat):Int))).map UInt8.toNat=l:=fun l hl=>by
   rw [List.map_map]
   have: ∀x∈l,(UInt8.toNat ∘ ((fun n:Int=>UInt8.ofNat n.toNat) ∘ fun b=>((b:Nat):Int))) x=x:=fun x hx=>by
    have:=hl x hx
    simp [Function.comp]
    omega
   rw [List.map_congr_left this,List.map_id']
  rw [←e bs hb,h,e cs hc]
 ·rintro rfl
  rfl
theorem equal_any (w:World) (v u:Value) (bs cs:List Nat) (h1:LSl en8 1 w v bs) (h2:LSl en8 1 w u cs) (hb: ∀x∈bs,x<256) (hc: ∀x∈cs,x<256):Calls Tryz.prog 66 #[v,u] w
  fun e w'=>e= .returned (.bool (decide (bs=cs)))∧w'=w:=by
 have k1:=conv8 w v bs h1
 have k2:=conv8 w u cs h2
 have hq:((strOfNums (bs.map fun b=>((b:Nat):Int))).toList==(strOfNums (cs.map fun b=>((b:Nat):Int))).toList)=decide (bs=cs):=by
  rw [Bool.eq_iff_iff,beq_iff_eq,strOf_inj hb hc,decide_eq_true_eq]
 obtain ⟨d,hd⟩: ∃d,decide (bs=cs)=d:=⟨_,rfl⟩
 rw [hd] at hq ⊢
 obtain ⟨ao,n,c,rfl⟩: ∃a n c,v= .slice a n c:=by obtain ⟨a,c,h,_⟩:=h1;exact ⟨_,_,_,h⟩
 obtain ⟨ao',n',c',rfl⟩: ∃a n c,u= .slice a n c:=by obtain ⟨a,c,h,_⟩:=h2;exact ⟨_,_,_,h⟩
 generalize strOfNums (bs.map fun b=>((b:Nat):Int))=s1 at*
 generalize strOfNums (cs.map fun b=>((b:Nat):Int))=s2 at*
 clear h1 h2 hd
 go_enter Tryz.func66,Tryz.ntmps66
 go_wp2
 go_ret
 exact ⟨rfl,rfl⟩
end Go.Proofs.YtjdbbnhnbdocbaaGreat
