import Derived.Test.YtldimgchpgoggaaGreatMgKpt31
import Derived.Test.YtldimgchpgoggaaGreatMgKpt22
import Derived.Test.YtldimgchpgoggaaGreatMgKpt5
namespace Go.Proofs.YtldimgchpgoggaaGreat
open Go.RowKit Go.Tn Go.Maps Go.Sort Go.Shelf Go.Tn.Bt Go.Tn.Lp Go.Tn.Dk Go.Tn.Ino Go.Tn.Slo Go.Tn.Ck Go.Tn.Pc
theorem below_grow (w:World) (os:Array Obj):Below w.heap.size w (grow w os):=⟨rfl,rfl,rfl,by simp [grow],fun j hj=>heap_grow_old _ _ hj⟩
abbrev PIx (P:PC):={i:Nat // i<P.L.length∧(P.at_ i).used=true}
def ixV {P:PC} (x:PIx P):Value:= .int .i64 (x.1:Nat)
def cmpP (P:PC) (x y:PIx P):Int:=cmpB (P.at_ x.1).blk (P.at_ y.1).blk
theorem ltP_iff (P:PC) (x y:PIx P):ltOf (cmpP P) x y=true↔bLess (P.at_ x.1).blk (P.at_ y.1).blk:=by
 unfold ltOf cmpP
 rw [decide_eq_true_iff]
 exact cmpB_lt _ _
theorem ltP_no (P:PC) (x y:PIx P):ltOf (cmpP P) x y=false↔¬ bLess (P.at_ x.1).blk (P.at_ y.1).blk:=by
 rw [←ltP_iff]
 simp
theorem swoP (P:PC):SWO (ltOf (cmpP P)) where
 irrefl x:=by rw [ltP_no];exact bLess_irrefl _
 trans x y z h1 h2:=by rw [ltP_iff] at*;exact bLess_trans h1 h2
 ntrans x y z h1 h2:=by
   rw [ltP_no] at*
   unfold bLess at*
   omega
theorem totP {P:PC} (h:P.Ok) (x y:PIx P) (h1:ltOf (cmpP P) x y=false) (h2:ltOf (cmpP P) y x=false):x=y:=by
 rw [ltP_no] at h1 h2
 by_cases hn:x.1=y.1
 · exact Subtype.ext hn
 · exact (blk_total h x.2.1 y.2.1 x.2.2 y.2.2 hn).elim (fun e=>absurd e h1) (fun e=>absurd e h2)
section
variable {w w':World} {F FD F' FD':Nat→Prop} {A:CA} {l l':Lg} {d d':Dsk} {P P':PC}
set_option maxHeartbeats 2000000 in
theorem pcmp_any {W:World} (bx n i j:Nat) (x y:Slt) (hcap:W.cell? ⟨bx,0,none⟩=some (.pointer (some ⟨A.c,0,none⟩))) (c1:W.cell? ⟨A.c,1,none⟩=some (.slice (some ⟨A.sb,0,none⟩) n n)) (hi:i<n) (hj:j<n)
   (hLx:Lies W A.sb (i*7+1) (blC x.blk)) (hLy:Lies W A.sb (j*7+1) (blC y.blk)):
   Calls Tryz.prog 105 #[.int .i64 i, .int .i64 j, .pointer (some ⟨bx,0,none⟩)] W fun e w'=>e= .returned (.int .i64 (cmpB x.blk y.blk))∧ ∃q os',w'=grow (W.drewN q) os':=by
 have hi':(i:Int)<(n:Int):=by omega
 have hj':(j:Int)<(n:Int):=by omega
 have hS:W.drew.cell? ⟨bx,0,none⟩=some (.pointer (some ⟨A.c,0,none⟩))∧W.drew.cell? ⟨A.c,1,none⟩=some (.slice (some ⟨A.sb,0,none⟩) n n)∧Lies W.drew A.sb (i*7+1) (blC x.blk)∧Lies W.drew A.sb (j*7+1) (blC y.blk):=⟨hcap,c1,hLx,hLy⟩
 have hlt:bx<W.heap.size∧A.c<W.heap.size∧A.sb<W.heap.size:=⟨World.block_lt_of_cell? W _ hcap,World.block_lt_of_cell? W _ c1,World.block_lt_of_cell? W _ (hLx 0 (by simp))⟩
 have HLT:=Lib.hid hlt
 have hor:=order_any W.drew x.blk y.blk
 clear hcap c1 hLx hLy hlt hi hj
 go_enter Tryz.func105,Tryz.ntmps105
 go_upto_region 1 with fail
 refine wp_region_x (fun w'=>w'.cell? ⟨bx,0,none⟩=some (.pointer (some ⟨A.c,0,none⟩))∧w'.cell? ⟨A.c,1,none⟩=some (.slice (some ⟨A.sb,0,none⟩) n n)∧Lies w' A.sb (i*7+1) (blC x.blk)∧Lies w' A.sb (j*7+1) (blC y.blk))
   [(0,0),(1,1),(2,1),(3,0),(4,1),(5,1),(6,1),(7,0),(8,0),(9,1),(10,1),(11,0),(12,1),(13,1),(14,1),(15,0),(16,2),(17,1)] (by kernel_rfl) (by kernel_rfl) (by intro d v c a w h;cases d<;>exact h) ?_
 refine x_read rfl hS (fun w' h=>exec_load1 ⟨⟨_,Tryz.underlying29,rfl⟩⟩ rfl h.1) ?_
 iterate 2 (refine x_take rfl (fun K hK=> ?_);go_simp;refine hK _ ?_;clear hK K)
 refine x_read rfl hS (fun w' h=>exec_load1 ⟨⟨_,Tryz.underlying45,rfl⟩⟩ rfl h.2.1) ?_
 iterate 3 (refine x_take rfl (fun K hK=> ?_);go_simp;refine hK _ ?_;clear hK K)
 refine x_read rfl hS (fun w' h=>exec_loadA (aggBl x.blk) rfl h.2.2.1) ?_
 refine x_read rfl hS (fun w' h=>exec_load1 ⟨⟨_,Tryz.underlying29,rfl⟩⟩ rfl h.1) ?_
 iterate 2 (refine x_take rfl (fun K hK=> ?_);go_simp;refine hK _ ?_;clear hK K)
 refine x_read rfl hS (fun w' h=>exec_load1 ⟨⟨_,Tryz.underlying45,rfl⟩⟩ rfl h.2.1) ?_
 iterate 3 (refine x_take rfl (fun K hK=> ?_);go_simp;refine hK _ ?_;clear hK K)
 refine x_read rfl hS (fun w' h=>exec_loadA (aggBl y.blk) rfl h.2.2.2) ?_
 refine x_show' rfl (fun K hK=> ?_)
 go_simp
 refine hor.mono ?_
 rintro e w2 ⟨rfl,q,os',hw⟩
 have hb2:Below W.heap.size W.drew w2:=by
   rw [hw]
   have h1:=below_grow (W.drew.drewN q) os'
   exact (below_drewN (Below.refl W.heap.size W.drew) q).trans h1
 have hS2:w2.cell? ⟨bx,0,none⟩=some (.pointer (some ⟨A.c,0,none⟩))∧w2.cell? ⟨A.c,1,none⟩=some (.slice (some ⟨A.sb,0,none⟩) n n)∧Lies w2 A.sb (i*7+1) (blC x.blk)∧Lies w2 A.sb (j*7+1) (blC y.blk):=
   ⟨(hb2.cell (p:=⟨bx,0,none⟩) HLT.out.1).trans hS.1,(hb2.cell (p:=⟨A.c,1,none⟩) HLT.out.2.1).trans hS.2.1,hS.2.2.1.below' hb2 HLT.out.2.2,hS.2.2.2.below' hb2 HLT.out.2.2⟩
 refine hK _ _ hS2 ?_
 clear hK K hb2 hS hS2
 iterate 1 (refine x_take rfl (fun K hK=> ?_);go_simp;refine hK _ ?_;clear hK K)
 refine x_nil ?_
 have HW:=Lib.hid hw
 clear hw
 go_wp2
 go_ret
 refine ⟨rfl,1+q,os',?_⟩
 rw [HW.out]
 congr 1
 exact World.drewN_drewN W 1 q
theorem map_pmap {P:PC}: ∀(is:List Nat) (h: ∀i∈is,i<P.L.length∧(P.at_ i).used=true),(is.pmap (fun i hi=>(⟨i,hi⟩:PIx P)) h).map (·.1)=is
 | [],_=>rfl
 |i::is,h=>by
   rw [List.pmap_cons,List.map_cons,map_pmap is fun j hj=>h j (List.mem_cons_of_mem _ hj)]
theorem flat_enI: ∀xs:List Nat,(xs.map fun (i:Nat)=>(i:Int)).flatMap enI=xs.map fun (i:Nat)=>Value.int .i64 (i:Nat)
 | []=>rfl
 |x::xs=>by
   rw [List.map_cons,List.flatMap_cons,flat_enI xs]
   rfl
theorem psort_any (h:CAt w F FD A l d P) (B bx:Nat) (hbx:w.cell? ⟨bx,0,none⟩=some (.pointer (some ⟨A.c,0,none⟩))) (hbB:bx<B) (hAB: ∀b,A.own b→b<B) (v:Value) (is:List Nat) (hv:LOut enI 1 3 B w v (is.map fun (i:Nat)=>(i:Int)))
   (his: ∀i∈is,i<P.L.length∧(P.at_ i).used=true) (hnd:is.Nodup) (hl:is.length≤100000):
   Calls Tryz.prog 104 #[v, .func (.func 105) #[] #[.pointer (some ⟨bx,0,none⟩)]] w
     fun e w'=>e= .returned (.tuple #[])∧ ∃js:List Nat,js.Perm is∧(js.Pairwise fun i j=>bLess (P.at_ i).blk (P.at_ j).blk)∧LRd enI 1 B w' v (js.map fun (i:Nat)=>(i:Int))∧Below B w w':=by
 by_cases h0:is= []
 · subst h0
   have hrd:=hv.rd elI.len
   obtain ⟨ao,cap,rfl, -⟩:=hv.sl elI.len
   have hc:Calls Tryz.prog 104 #[.slice ao 0 cap, .func (.func 105) #[] #[.pointer (some ⟨bx,0,none⟩)]] w _:=AnyF.slices_SortFunc_none (ρ:=Tryz.sortF_ren) {Tryz.sortF with} ao cap _ w
   refine hc.mono ?_
   rintro e w' ⟨rfl,rfl⟩
   exact ⟨rfl, [],List.Perm.refl _, .nil,hrd,Below.refl _ _⟩
 rcases hv.own.2 with ⟨hvn,h1⟩|⟨g,cap,cur,hvs,_,hg,hn,hm,hs,ht⟩
 · exact absurd (List.eq_nil_of_length_eq_zero (by simpa using h1)) h0
 · subst hvs
   rw [List.length_map] at*
   obtain ⟨i0,hi0⟩: ∃i,i∈is:=List.exists_mem_of_ne_nil _ h0
   haveI:Inhabited (PIx P):=⟨⟨i0,his i0 hi0⟩⟩
   obtain ⟨xs,hxs⟩: ∃xs:List (PIx P),is.pmap (fun i hi=>(⟨i,hi⟩:PIx P)) his=xs:=⟨_,rfl⟩
   have hxm:xs.map (·.1)=is:=by rw [←hxs];exact map_pmap is his
   have hlen:xs.length=is.length:=by rw [←hxm,List.length_map]
   have hgl:=lt_of_block hg
   have hgB:B≤g:=hv.lo g rfl
   have hH:Holds ixV w g 0 xs.toArray:=by
     intro t htl
     have htl':t<xs.length:=by simpa using htl
     refine ⟨?_,by simp [World.frozen?,hg]⟩
     rw [Nat.zero_add]
     refine cell_of hg ?_
     have hti:t<is.length:=by rw [←hlen];exact htl'
     have e1:(cur.toList.take is.length)[t]?=some (ixV xs[t]):=by
       have ht':cur.toList.take is.length=is.map fun (i:Nat)=>Value.int .i64 (i:Nat):=by
         rw [←flat_enI]
         simpa using ht
       rw [ht',List.getElem?_map, ←hxm,List.getElem?_map,List.getElem?_eq_getElem htl']
       rfl
     rw [List.getElem?_take_of_lt hti,Array.getElem?_toList] at e1
     rw [e1]
     simp [htl']
   have hsz:xs.toArray.size=is.length:=by simpa using hlen
   have hbxl:bx<w.heap.size:=Nat.lt_of_lt_of_le hbB hv.le
   have hcmp:CmpLays1 Tryz.prog 105 #[.pointer (some ⟨bx,0,none⟩)] ixV (cmpP P) g 0 xs.toArray.size w:=by
     intro m os dk hs x y
     have hblk: ∀b,b<B→(sortWorld ixV w g 0 m dk os).heap[b]?=w.heap[b]?:=fun b hb=>by
       have hbg:g≠b:=fun e=>by omega
       unfold sortWorld
       rw [heap_grow_old _ _ (by simp [putRow,mapBlock,Sort.ahead];exact Nat.lt_of_lt_of_le hb hv.le)]
       simp [putRow,mapBlock,Sort.ahead,Array.getElem?_modify,hbg]
     have hcl: ∀b o,b<B→(sortWorld ixV w g 0 m dk os).cell? ⟨b,o,none⟩=w.cell? ⟨b,o,none⟩:=fun b o hb=>by
       simp only [World.cell?]
       rw [hblk b hb]
     have hli: ∀z:PIx P,Lies (sortWorld ixV w g 0 m dk os) A.sb (z.1*7+1) (blC (P.at_ z.1).blk):=fun z j hj=>by
       rw [hcl _ _ (hAB _ (.inr (.inl rfl)))]
       have hL:=slots_lies h.slots (at_get z.2.1)
       match j,hj with
       |0,_=>exact hL 1 (by simp)
       |1,_=>exact hL 2 (by simp)
       |2,_=>exact hL 3 (by simp)
     exact pcmp_any (A:=A) bx P.L.length x.1 y.1 (P.at_ x.1) (P.at_ y.1) ((hcl _ _ hbB).trans hbx) ((hcl _ _ (hAB _ (.inl rfl))).trans h.c1) x.2.1 y.2.1 (hli x) (hli y)
   have hcon:=Any.slices_SortFunc_total Tryz.sortF ixV (fun x=>by simp [ixV,Value.oneCell']) (cmpP P) (swoP P) 105 #[.pointer (some ⟨bx,0,none⟩)] g 0 cap xs.toArray w (enters_of Tryz.func105 (by kernel_rfl) rfl) hcmp hH hgl (by rw [hsz];omega) (totP h.ok)
   rw [hsz] at hcon
   change Calls Tryz.prog 104 _ _ _ at hcon
   refine hcon.mono ?_
   rintro e w' ⟨rfl,n,os,rfl⟩
   have hso:(xs.toArray.toList.mergeSort fun x y=> !(ltOf (cmpP P)) y x)=xs.mergeSort fun x y=> !(ltOf (cmpP P)) y x:=rfl
   rw [hso]
   obtain ⟨ys,hys⟩: ∃ys,(xs.mergeSort fun x y=> !(ltOf (cmpP P)) y x)=ys:=⟨_,rfl⟩
   have hperm:ys.Perm xs:=by rw [←hys];exact List.mergeSort_perm _ _
   have hpw:ys.Pairwise fun x y=>(!(ltOf (cmpP P)) y x)=true:=by
     rw [←hys]
     refine List.pairwise_mergeSort (fun a b c h1 h2=> ?_) (fun a b=> ?_) _
     · simp only [Bool.not_eq_true',ltP_no] at*
       unfold bLess at*
       omega
     · simp only [Bool.or_eq_true,Bool.not_eq_true',ltP_no]
       unfold bLess
       omega
   rw [hys]
   have hyl:ys.length=is.length:=by rw [hperm.length_eq,hlen]
   have hblk: ∀b,b≠g→b<w.heap.size→(sortWorld ixV w g 0 n ys.toArray os).heap[b]?=w.heap[b]?:=fun b hb hlt=>by
     have hbg:g≠b:=fun e=>hb e.symm
     unfold sortWorld
     rw [heap_grow_old _ _ (by simp [putRow,mapBlock,Sort.ahead];exact hlt)]
     simp [putRow,mapBlock,Sort.ahead,Array.getElem?_modify,hbg]
   have hsize:w.heap.size≤(sortWorld ixV w g 0 n ys.toArray os).heap.size:=by simp [sortWorld,grow,putRow,mapBlock,Sort.ahead]
   have hH2:Holds ixV (sortWorld ixV w g 0 n ys.toArray os) g 0 ys.toArray:=by
     unfold sortWorld
     exact holds_grow _ _ _ _ _ _ (by simp [putRow,mapBlock,Sort.ahead];exact hgl) (holds_putRow _ _ _ _ xs.toArray _ (holds_ahead _ _ _ _ _ _ hH) (by simp [hyl,hlen]))
   refine ⟨rfl,ys.map (·.1),?_,?_,⟨⟨_,cap,?_,?_,hm,fun _=>⟨g,0,rfl,Nat.lt_of_lt_of_le hgl hsize,fun k x hk=> ?_⟩⟩,hv.lo,fun r hr=>by cases hr;exact Nat.lt_of_lt_of_le hgl hsize⟩,⟨rfl,rfl,rfl,hsize,fun b hb=>hblk b (by omega) (Nat.lt_of_lt_of_le hb hv.le)⟩⟩
   · rw [←hxm]
     exact hperm.map _
   · refine List.pairwise_map.2 ?_
     have hnx:ys.Nodup:=by
       have h1:(xs.map (·.1)).Nodup:=by rw [hxm];exact hnd
       have h2:xs.Nodup:=(List.pairwise_map.1 h1).imp fun {a b} hab e=>hab (by rw [e])
       exact hperm.nodup_iff.2 h2
     refine (hpw.and hnx).imp fun {a b} hab=> ?_
     have h1:=hab.1
     rw [Bool.not_eq_true',ltP_no] at h1
     exact (blk_total h.ok a.2.1 b.2.1 a.2.2 b.2.2 fun e=>hab.2 (Subtype.ext e)).elim id fun e=>absurd e h1
   · rw [List.length_map,List.length_map,hyl]
   · rw [List.length_map,List.length_map,hyl]
     simpa using hn
   · rw [List.getElem?_map,List.getElem?_map] at hk
     have hkl:k<ys.length:=by
       cases hq:ys[k]? with
       |none=>rw [hq] at hk;cases hk
       |some _=>exact (List.getElem?_eq_some_iff.1 hq).1
     rw [List.getElem?_eq_getElem hkl] at hk
     have hx:((ys[k].1:Nat):Int)=x:=by simpa using hk
     intro j hj
     have hj1:j<1:=hj
     obtain rfl:j=0:=by omega
     have:=(hH2 k (by simpa using hkl)).1
     rw [show 0+k*1+0=0+k by omega,this]
     simp [hkl,ixV, ←hx]
end
end Go.Proofs.YtldimgchpgoggaaGreat
namespace Go.Proofs.YtldimgchpgoggaaGreat
open Go.RowKit Go.Tn Go.Tn.Bt Go.Tn.Lp Go.Tn.Dk Go.Tn.Ino Go.Tn.Slo Go.Tn.Ck Go.Tn.Pc
theorem eqFile (w:World) (i g i' g':Int):(Op.equalIn 10000 33 (.agg #[.int .i64 i, .int .i64 g]) (.agg #[.int .i64 i', .int .i64 g'])).run Tryz.prog w= .ok (decide ((i,g)=(i',g'))) w:=by
 have:decide ((i,g)=(i',g'))=(i==i'&&g==g'):=by
   rw [Bool.eq_iff_iff];simp
 rw [this]
 rw [run_equalIn_agg w 9999 33 _ _ (by simp [Program.fieldsOf,Tryz.underlying33]) (by kernel_rfl)]
 simp [go_sem,Program.fieldsOf,Tryz.underlying33,Op.eqFields,part,isAgg]
 by_cases h1:i=i'
 · by_cases h2:g=g'
   · simp [h1,h2]
   · simp [h1,h2]
 · simp [h1]
def FnQ (w:World) (g:Nat) (cb:Array Value) (q:Slt→Bool):Prop:= ∀w',Below w.heap.size w w'→ ∀x:Slt,x.is→Calls Tryz.prog g (#[.agg (slC x)]++cb) w' fun e w2=>e= .returned (.bool (q x))∧Below w'.heap.size w' w2
theorem FnQ.below {w w':World} {g:Nat} {cb:Array Value} {q:Slt→Bool} (h:FnQ w g cb q) (hb:Below w.heap.size w w'):FnQ w' g cb q:=fun w2 h2=>h w2 (hb.trans (h2.mono hb.size))
theorem slC_file {w:World} {b:Nat} {x:Slt} (h:w.heap[b]?=some (.cells (slC x) 42 (0,0))):Lies w b 1 #[.int .i64 x.blk.1, .int .i64 x.blk.2.1]:=fun j hj=>by
 match j,hj with
 |0,_=>exact cell_of h rfl
 |1,_=>exact cell_of h rfl
set_option maxRecDepth 20000 in
set_option maxHeartbeats 1000000 in
theorem dropFile_q {w:World} {bx:Nat} {f:Int×Int} (hbx:w.heap[bx]?=some (.cells #[.int .i64 f.1, .int .i64 f.2] 33 (0,0))):FnQ w 70 #[.pointer (some ⟨bx,0,none⟩)] (qFile f):=by
 intro w' hb x hx
 have hF:=(hb.block bx (lt_of_block hbx)).trans hbx
 obtain ⟨w1,hw1⟩: ∃w1,w'.alloc (.cells (slC x) 42)=w1:=⟨_,rfl⟩
 have hb1:Below w'.heap.size w' w1:=by rw [←hw1];exact (Below.refl _ _).alloc (Nat.le_refl _) _
 have hX:w1.heap[w'.heap.size]?=some (.cells (slC x) 42 (0,0)):=by rw [←hw1];exact heap_alloc_at
 have hL:=slC_file hX
 have hLf:Lies w1 bx 0 #[.int .i64 f.1, .int .i64 f.2]:=lies_of ((hb1.block bx (lt_of_block hF)).trans hF)
 have hag:=aggFi x.blk.1 x.blk.2.1
 have hagf:=aggFi f.1 f.2
 have hgt:Tryz.prog.eqGuardType Tryz.prog.depth 33=false:=by kernel_rfl
 have heq:=fun w=>eqFile w x.blk.1 x.blk.2.1 f.1 f.2
 have hq:qFile f x=decide ((x.blk.1,x.blk.2.1)=(f.1,f.2)):=rfl
 rw [←hq] at heq
 generalize qFile f x=q at*
 clear hq hb hbx hF hX
 show Calls Tryz.prog 70 #[.agg (slC x), .pointer (some ⟨bx,0,none⟩)] w' _
 go_enter Tryz.func70,Tryz.ntmps70
 go_upto_region 1 with fail
 simp only [hw1] at*
 clear hw1
 go_wp2_with (first
   |((with_reducible refine wpList_loadA hag hL ?_ ?_);rfl;go_frame)
   |((with_reducible refine wpList_loadA hagf hLf ?_ ?_);rfl;go_frame)
   |((with_reducible refine wpList_exec rfl (exec_eqlS hgt heq ?_ ?_ _) ?_);rfl;rfl;go_frame)
   |fail)
 go_ret
 exact ⟨rfl,hb1⟩
set_option maxRecDepth 20000 in
set_option maxHeartbeats 1000000 in
theorem of_q {w:World} {bx:Nat} {f:Int×Int} (hbx:w.heap[bx]?=some (.cells #[.int .i64 f.1, .int .i64 f.2] 33 (0,0))):FnQ w 60 #[.pointer (some ⟨bx,0,none⟩)] (qFile f):=by
 intro w' hb x hx
 have hF:=(hb.block bx (lt_of_block hbx)).trans hbx
 obtain ⟨w1,hw1⟩: ∃w1,w'.alloc (.cells (slC x) 42)=w1:=⟨_,rfl⟩
 have hb1:Below w'.heap.size w' w1:=by rw [←hw1];exact (Below.refl _ _).alloc (Nat.le_refl _) _
 have hX:w1.heap[w'.heap.size]?=some (.cells (slC x) 42 (0,0)):=by rw [←hw1];exact heap_alloc_at
 have hL:=slC_file hX
 have hLf:Lies w1 bx 0 #[.int .i64 f.1, .int .i64 f.2]:=lies_of ((hb1.block bx (lt_of_block hF)).trans hF)
 have hag:=aggFi x.blk.1 x.blk.2.1
 have hagf:=aggFi f.1 f.2
 have hgt:Tryz.prog.eqGuardType Tryz.prog.depth 33=false:=by kernel_rfl
 have heq:=fun w=>eqFile w x.blk.1 x.blk.2.1 f.1 f.2
 have hq:qFile f x=decide ((x.blk.1,x.blk.2.1)=(f.1,f.2)):=rfl
 rw [←hq] at heq
 generalize qFile f x=q at*
 clear hq hb hbx hF hX
 show Calls Tryz.prog 60 #[.agg (slC x), .pointer (some ⟨bx,0,none⟩)] w' _
 go_enter Tryz.func60,Tryz.ntmps60
 go_upto_region 1 with fail
 simp only [hw1] at*
 clear hw1
 go_wp2_with (first
   |((with_reducible refine wpList_loadA hag hL ?_ ?_);rfl;go_frame)
   |((with_reducible refine wpList_loadA hagf hLf ?_ ?_);rfl;go_frame)
   |((with_reducible refine wpList_exec rfl (exec_eqlS hgt heq ?_ ?_ _) ?_);rfl;rfl;go_frame)
   |fail)
 go_ret
 exact ⟨rfl,hb1⟩
set_option maxRecDepth 20000 in
set_option maxHeartbeats 1000000 in
theorem retag_q {w:World} {bx:Nat} {f:Int×Int} (hbx:w.heap[bx]?=some (.cells #[.int .i64 f.1, .int .i64 f.2] 33 (0,0))):FnQ w 72 #[.pointer (some ⟨bx,0,none⟩)] (qClean f):=by
 intro w' hb x hx
 have hF:=(hb.block bx (lt_of_block hbx)).trans hbx
 obtain ⟨w1,hw1⟩: ∃w1,w'.alloc (.cells (slC x) 42)=w1:=⟨_,rfl⟩
 have hb1:Below w'.heap.size w' w1:=by rw [←hw1];exact (Below.refl _ _).alloc (Nat.le_refl _) _
 have hX:w1.heap[w'.heap.size]?=some (.cells (slC x) 42 (0,0)):=by rw [←hw1];exact heap_alloc_at
 have hL:=slC_file hX
 have c5:w1.cell? ⟨w'.heap.size,5,none⟩=some (.bool x.dirty):=cell_of hX rfl
 have hLf:Lies w1 bx 0 #[.int .i64 f.1, .int .i64 f.2]:=lies_of ((hb1.block bx (lt_of_block hF)).trans hF)
 have hag:=aggFi x.blk.1 x.blk.2.1
 have hagf:=aggFi f.1 f.2
 have hgt:Tryz.prog.eqGuardType Tryz.prog.depth 33=false:=by kernel_rfl
 have heq:=fun w=>eqFile w x.blk.1 x.blk.2.1 f.1 f.2
 have hq:qFile f x=decide ((x.blk.1,x.blk.2.1)=(f.1,f.2)):=rfl
 rw [←hq] at heq
 have hqc:qClean f x=(qFile f x&& !x.dirty):=rfl
 rw [hqc]
 generalize qFile f x=q at*
 generalize x.dirty=dy at*
 clear hq hb hbx hF hX hqc
 show Calls Tryz.prog 72 #[.agg (slC x), .pointer (some ⟨bx,0,none⟩)] w' _
 cases q
 all_goals
   go_enter Tryz.func72,Tryz.ntmps72
   go_upto_region 1 with fail
   simp only [hw1] at*
   go_wp2_with (first
     |((with_reducible refine wpList_loadA hag hL ?_ ?_);rfl;go_frame)
     |((with_reducible refine wpList_loadA hagf hLf ?_ ?_);rfl;go_frame)
     |((with_reducible refine wpList_exec rfl (exec_eqlS hgt heq ?_ ?_ _) ?_);rfl;rfl;go_frame)
     |fail)
   go_ret
   exact ⟨by simp,hb1⟩
set_option maxRecDepth 20000 in
set_option maxHeartbeats 1000000 in
theorem dirty_q (w:World):FnQ w 48 #[] qDirty:=by
 intro w' hb x hx
 obtain ⟨w1,hw1⟩: ∃w1,w'.alloc (.cells (slC x) 42)=w1:=⟨_,rfl⟩
 have hb1:Below w'.heap.size w' w1:=by rw [←hw1];exact (Below.refl _ _).alloc (Nat.le_refl _) _
 have hX:w1.heap[w'.heap.size]?=some (.cells (slC x) 42 (0,0)):=by rw [←hw1];exact heap_alloc_at
 have c5:w1.cell? ⟨w'.heap.size,5,none⟩=some (.bool x.dirty):=cell_of hX rfl
 clear hb hX
 show Calls Tryz.prog 48 #[.agg (slC x)] w' _
 go_enter Tryz.func48,Tryz.ntmps48
 go_upto_region 1 with fail
 simp only [hw1] at*
 clear hw1
 go_wp2
 go_ret
 exact ⟨rfl,hb1⟩
set_option maxRecDepth 20000 in
set_option maxHeartbeats 1000000 in
theorem all_q (w:World):FnQ w 49 #[] qAll:=by
 intro w' hb x hx
 obtain ⟨w1,hw1⟩: ∃w1,w'.alloc (.cells (slC x) 42)=w1:=⟨_,rfl⟩
 have hb1:Below w'.heap.size w' w1:=by rw [←hw1];exact (Below.refl _ _).alloc (Nat.le_refl _) _
 clear hb
 show Calls Tryz.prog 49 #[.agg (slC x)] w' _
 go_enter Tryz.func49,Tryz.ntmps49
 go_upto_region 1 with fail
 simp only [hw1] at*
 clear hw1
 go_wp2
 go_ret
 exact ⟨rfl,hb1⟩
set_option maxRecDepth 20000 in
set_option maxHeartbeats 1000000 in
theorem drop_t (w:World) (S:Nat→Prop):FnT w S 68 #[] tNo:=by
 intro w' hm x hx
 obtain ⟨w1,hw1⟩: ∃w1,(w'.alloc (.cells (slC x) 42)).alloc (.cells #[.bool false, .int .i64 0, .int .i64 0, .int .i64 0, .int .u64 0, .bool false, .string {data:= #[]}] 42)=w1:=⟨_,rfl⟩
 have hb0:Below w'.heap.size w' (w'.alloc (.cells (slC x) 42)):=(Below.refl _ _).alloc (Nat.le_refl _) _
 have hb1:Below w'.heap.size w' w1:=by rw [←hw1];exact hb0.alloc (by simp) _
 have hZ:w1.heap[w'.heap.size+1]?=some (.cells (slC Slt.no) 42 (0,0)):=by
   rw [←hw1]
   have:=heap_alloc_at (w:=w'.alloc (.cells (slC x) 42)) (o:= .cells #[.bool false, .int .i64 0, .int .i64 0, .int .i64 0, .int .u64 0, .bool false, .string {data:= #[]}] 42)
   rw [World.size_alloc] at this
   exact this
 have hagn:=aggSl Slt.no
 have honn:=oneSl Slt.no
 have hbn:=built_no
 have HB1:=Lib.hid hb1
 clear hb0 hb1
 show Calls Tryz.prog 68 #[.agg (slC x)] w' _
 go_enter Tryz.func68,Tryz.ntmps68
 go_upto_region 1 with fail
 simp only [hw1] at*
 clear hw1
 go_wp2_with (first
   |((with_reducible refine wpList_exec rfl (exec_buildA (vals:= []) ?_ hbn) ?_);rfl;go_frame)
   |((with_reducible refine wpList_storeB hagn ?_ ?_ hZ rfl honn ?_);rfl;rfl;(intro w9 hh9 hm9;have HH9:=Lib.hid hh9;have HM9:=Lib.hid hm9;clear hh9 hm9);go_frame)
   |fail)
 refine bodyPost_ret (results_cellA rfl _ rfl hagn (lies_of HH9.out)) rfl ?_
 exact ⟨rfl,HB1.out.trans (HM9.out.below HB1.out.size fun y hy e=>by have e:y=w'.heap.size+1:=e;omega)⟩
set_option maxRecDepth 20000 in
set_option maxHeartbeats 1000000 in
theorem dropFile_t (w:World) (S:Nat→Prop):FnT w S 71 #[] tNo:=by
 intro w' hm x hx
 obtain ⟨w1,hw1⟩: ∃w1,(w'.alloc (.cells (slC x) 42)).alloc (.cells #[.bool false, .int .i64 0, .int .i64 0, .int .i64 0, .int .u64 0, .bool false, .string {data:= #[]}] 42)=w1:=⟨_,rfl⟩
 have hb0:Below w'.heap.size w' (w'.alloc (.cells (slC x) 42)):=(Below.refl _ _).alloc (Nat.le_refl _) _
 have hb1:Below w'.heap.size w' w1:=by rw [←hw1];exact hb0.alloc (by simp) _
 have hZ:w1.heap[w'.heap.size+1]?=some (.cells (slC Slt.no) 42 (0,0)):=by
   rw [←hw1]
   have:=heap_alloc_at (w:=w'.alloc (.cells (slC x) 42)) (o:= .cells #[.bool false, .int .i64 0, .int .i64 0, .int .i64 0, .int .u64 0, .bool false, .string {data:= #[]}] 42)
   rw [World.size_alloc] at this
   exact this
 have hagn:=aggSl Slt.no
 have honn:=oneSl Slt.no
 have hbn:=built_no
 have HB1:=Lib.hid hb1
 clear hb0 hb1
 show Calls Tryz.prog 71 #[.agg (slC x)] w' _
 go_enter Tryz.func71,Tryz.ntmps71
 go_upto_region 1 with fail
 simp only [hw1] at*
 clear hw1
 go_wp2_with (first
   |((with_reducible refine wpList_exec rfl (exec_buildA (vals:= []) ?_ hbn) ?_);rfl;go_frame)
   |((with_reducible refine wpList_storeB hagn ?_ ?_ hZ rfl honn ?_);rfl;rfl;(intro w9 hh9 hm9;have HH9:=Lib.hid hh9;have HM9:=Lib.hid hm9;clear hh9 hm9);go_frame)
   |fail)
 refine bodyPost_ret (results_cellA rfl _ rfl hagn (lies_of HH9.out)) rfl ?_
 exact ⟨rfl,HB1.out.trans (HM9.out.below HB1.out.size fun y hy e=>by have e:y=w'.heap.size+1:=e;omega)⟩
theorem slC_ver (x:Slt) (v:Nat):(slC x).setIfInBounds 4 (.int .u64 (v:Nat))=slC (tVer v x):=rfl
set_option maxRecDepth 20000 in
set_option maxHeartbeats 1000000 in
theorem retag_t {w:World} {S:Nat→Prop} {bx v:Nat} (hbx:w.cell? ⟨bx,0,none⟩=some (.int .u64 (v:Nat))) (hS:¬ S bx):FnT w S 73 #[.pointer (some ⟨bx,0,none⟩)] (tVer v):=by
 intro w' hm x hx
 have hv:=cell_mod hbx hm hS
 obtain ⟨w1,hw1⟩: ∃w1,(w'.alloc (.cells (slC x) 42)).alloc (.cells #[.bool false, .int .i64 0, .int .i64 0, .int .i64 0, .int .u64 0, .bool false, .string {data:= #[]}] 42)=w1:=⟨_,rfl⟩
 have hb0:Below w'.heap.size w' (w'.alloc (.cells (slC x) 42)):=(Below.refl _ _).alloc (Nat.le_refl _) _
 have hb1:Below w'.heap.size w' w1:=by rw [←hw1];exact hb0.alloc (by simp) _
 have hX:w1.heap[w'.heap.size]?=some (.cells (slC x) 42 (0,0)):=by rw [←hw1];exact heap_alloc_of heap_alloc_at
 have hZ:w1.heap[w'.heap.size+1]?=some (.cells (slC Slt.no) 42 (0,0)):=by
   rw [←hw1]
   have:=heap_alloc_at (w:=w'.alloc (.cells (slC x) 42)) (o:= .cells #[.bool false, .int .i64 0, .int .i64 0, .int .i64 0, .int .u64 0, .bool false, .string {data:= #[]}] 42)
   rw [World.size_alloc] at this
   exact this
 have c0:w1.cell? ⟨bx,0,none⟩=some (.int .u64 (v:Nat)):=(hb1.cell (p:=⟨bx,0,none⟩) (World.block_lt_of_cell? w' _ hv)).trans hv
 have c4:w1.cell? ⟨w'.heap.size,4,none⟩=some (.int .u64 (x.ver:Nat)):=cell_of hX rfl
 have f4:w1.frozen? ⟨w'.heap.size,4,none⟩=false:=free_of hX
 have HB1:=Lib.hid hb1
 have HX:=Lib.hid hX
 have HZ:=Lib.hid hZ
 clear hb0 hb1 hm hv hbx hX hZ
 show Calls Tryz.prog 73 #[.agg (slC x), .pointer (some ⟨bx,0,none⟩)] w' _
 go_enter Tryz.func73,Tryz.ntmps73
 go_upto_region 1 with fail
 simp only [hw1] at*
 clear hw1
 go_upto_region 2 with fail
 have hm7:=(Mod.refl (fun y=>y=w'.heap.size) w1).setCell ⟨w'.heap.size,4,none⟩ (.int .u64 (v:Nat)) (fun _=>rfl)
 have hk7:(w1.setCell ⟨w'.heap.size,4,none⟩ (.int .u64 (v:Nat))).heap[w'.heap.size]?=some (.cells (slC (tVer v x)) 42 (0,0)):=by
   rw [heap_setCell_at HX.out,slC_ver]
 have hz7:=hm7.heap HZ.out (fun e=>by omega)
 have HM7:=Lib.hid hm7
 clear hm7 c0 c4 f4
 generalize w1.setCell ⟨w'.heap.size,4,none⟩ (.int .u64 (v:Nat))=w7 at*
 have hL7:=lies_of hk7
 have hagn:=aggSl (tVer v x)
 have honn:=oneSl (tVer v x)
 go_wp2_with (first
   |((with_reducible refine wpList_loadA hagn hL7 ?_ ?_);rfl;go_frame)
   |((with_reducible refine wpList_storeB hagn ?_ ?_ hz7 rfl honn ?_);rfl;rfl;(intro w9 hh9 hm9;have HH9:=Lib.hid hh9;have HM9:=Lib.hid hm9;clear hh9 hm9);go_frame)
   |fail)
 refine bodyPost_ret (results_cellA rfl _ rfl hagn (lies_of HH9.out)) rfl ?_
 exact ⟨rfl,HB1.out.trans ((HM7.out.below HB1.out.size fun y hy e=>by have e:y=w'.heap.size:=e;omega).trans (HM9.out.below (Nat.le_trans HB1.out.size HM7.out.size) fun y hy e=>by have e:y=w'.heap.size+1:=e;omega))⟩
section
variable {w w':World} {F FD F' FD':Nat→Prop} {A:CA} {l l':Lg} {d d':Dsk} {P P':PC}
theorem sel_snoc (P:PC) (q:Slt→Bool) (k:Nat):(List.range (k+1)).filter (P.isQ q)=(List.range k).filter (P.isQ q)++if P.isQ q k=true then [k] else []:=by
 rw [List.range_succ,List.filter_append]
 congr 1
 cases h:P.isQ q k<;>simp [List.filter,h]
set_option maxRecDepth 20000 in
set_option maxHeartbeats 8000000 in
theorem pplaces_any (h:CAt w F FD A l d P) (g:Nat) (eg: ∀args w,(callFunc g args).run Tryz.prog w= .ok (.enter g args) w) (cb:Array Value) (q:Slt→Bool) (hq:FnQ w g cb q):
   Calls Tryz.prog 69 #[.pointer (some ⟨A.c,0,none⟩), .func (.func g) #[] cb] w fun e w'=> ∃v is,e= .returned v∧ByBlk P q is∧LRd enI 1 w.heap.size w' v (is.map fun (i:Nat)=>(i:Int))∧Below w.heap.size w w':=by
 obtain ⟨w1,hw1⟩: ∃w1,w.alloc (.cells #[.pointer (some ⟨A.c,0,none⟩)] 29)=w1:=⟨_,rfl⟩
 have hb1:Below w.heap.size w w1:=by rw [←hw1];exact (Below.refl _ _).alloc (Nat.le_refl _) _
 have hX:w1.heap[w.heap.size]?=some (.cells #[.pointer (some ⟨A.c,0,none⟩)] 29 (0,0)):=by rw [←hw1];exact heap_alloc_at
 have cx:w1.cell? ⟨w.heap.size,0,none⟩=some (.pointer (some ⟨A.c,0,none⟩)):=cell_of hX rfl
 have hs1:w1.heap.size=w.heap.size+1:=by rw [←hw1];simp
 have hC1:=h.below hb1
 have hok:=pok_any hC1
 have hltw:=h.lt
 obtain ⟨N,hN⟩: ∃N,P.L.length=N:=⟨_,rfl⟩
 have hN64:N≤64:=by
   have h2:=h.ring.hi
   have h3:=h.ok.len
   omega
 have c1:w1.cell? ⟨A.c,1,none⟩=some (.slice (some ⟨A.sb,0,none⟩) N N):=by rw [←hN];exact hC1.c1
 have HQ:=Lib.hid (hq.below hb1)
 have HB1:=Lib.hid hb1
 have HC1:=Lib.hid hC1
 have HLT:=Lib.hid hltw
 have HN:=Lib.hid hN
 have HS1:=Lib.hid hs1
 have HX:=Lib.hid hX
 clear h hq hb1 hX hs1 hC1 hltw hN
 go_enter Tryz.func69,Tryz.ntmps69
 go_upto_region 1 with fail
 simp only [hw1] at*
 clear hw1
 go_wp2_with (first
   |(go_at_call 45;refine hok.mono ?_;rintro e wt ⟨rfl,hw⟩;obtain rfl:=hw.symm;clear hw)
   |fail)
 go_loopw [5,16] (fun ov iv wi=> ∃k:Nat,k≤N∧iv= .int .i64 k∧Below w1.heap.size w1 wi∧LOut enI 1 3 w1.heap.size wi ov (((List.range k).filter (P.isQ q)).map fun (i:Nat)=>(i:Int))) (fun _ iv _=>N-(intOf iv).toNat)
 case atStart=>exact ⟨0,Nat.zero_le _,rfl,Below.refl _ _,LOut.nil (Nat.le_refl _)⟩
 case round=>
   obtain ⟨k,hk,rfl,hb,hO⟩:=hrel
   have HB:=Lib.hid hb
   have HO:=Lib.hid hO
   clear hb hO
   by_cases hkl:k<N
   · have hkl':(k:Int)<(N:Int):=by omega
     have hCr:=HC1.out.below HB.out
     obtain ⟨y,hy⟩: ∃y,P.at_ k=y:=⟨_,rfl⟩
     have hLy:Lies wr A.sb (k*7) (slC y):=slots_lies hCr.slots (by rw [←hy];exact at_get (by rw [HN.out];exact hkl))
     have hyi:y.is:=by rw [←hy];exact hCr.ok.is _ (List.mem_of_getElem? (at_get (by rw [HN.out];exact hkl)))
     have hagy:=aggSl y
     have hony:=oneSl y
     obtain ⟨w2,hw2⟩: ∃w2,wr.alloc (.cells (slC y) 42)=w2:=⟨_,rfl⟩
     have hb2:Below wr.heap.size wr w2:=by rw [←hw2];exact (Below.refl _ _).alloc (Nat.le_refl _) _
     have hL2:Lies w2 wr.heap.size 0 (slC y):=by rw [←hw2];exact lies_of heap_alloc_at
     have hlt2:wr.heap.size<w2.heap.size:=by rw [←hw2];simp
     have hfr:=sfree_any w2 y
     have hsn:=sel_snoc P q k
     have hisq:P.isQ q k=(y.used&&q y):=by unfold PC.isQ;rw [hy]
     have HB2:=Lib.hid hb2
     have HYI:=Lib.hid hyi
     clear hCr hy hb2 hyi
     go_upto_region 7 with (first
       |((with_reducible refine wpList_loadA hagy hLy ?_ ?_);rfl;go_frame)
       |((with_reducible refine wpList_storeA_new hagy ?_ hony ?_ ?_ ?_);rfl;rfl;rfl;go_frame)
       |fail)
     simp only [hw2] at*
     clear hw2 hLy
     by_cases hno:y=Slt.no
     · rw [decide_eq_true hno] at hfr
       have hu:P.isQ q k=false:=by rw [hisq,hno];rfl
       rw [hu,if_neg (by decide),List.append_nil] at hsn
       have HSN:=Lib.hid hsn
       clear hsn hisq hu hno
       go_wp2_with (first
         |((with_reducible refine wpList_loadA hagy hL2 ?_ ?_);rfl;go_frame)
         |(go_at_call 28;refine hfr.mono ?_;rintro e w3 ⟨rfl,hb3⟩;have HB3:=Lib.hid hb3;clear hb3)
         |fail)
       have hbr3:=HB2.out.trans (HB3.out.mono HB2.out.size)
       have hO3:=HO.out.below hbr3
       rw [←HSN.out] at hO3
       have HO3:=Lib.hid hO3
       have HBR:=Lib.hid (HB.out.trans (hbr3.mono HB.out.size))
       clear hO3 hbr3 hfr hL2 HSN
       go_roundw
       case rel=>exact ⟨k+1,by omega,by go_num,HBR.out,HO3.out⟩
       case measure=>simp [intOf];omega
     · rw [decide_eq_false hno] at hfr
       have hu:y.used=true:=(is_used HYI.out).2 hno
       rw [hu,Bool.true_and] at hisq
       rw [hisq] at hsn
       have HSN:=Lib.hid hsn
       clear hsn hisq hu hno
       go_wp2_with (first
         |((with_reducible refine wpList_loadA hagy hL2 ?_ ?_);rfl;go_frame)
         |fail)
       refine hfr.mono ?_
       rintro e w3 ⟨rfl,hb3⟩
       have hL3:=hL2.below' hb3 hlt2
       have hbr3:=HB2.out.trans (hb3.mono HB2.out.size)
       have hcl:=HQ.out w3 (HB.out.trans (hbr3.mono HB.out.size)) y HYI.out
       have HB3:=Lib.hid hbr3
       clear hfr hL2 hb3 hbr3
       go_wp2_with (first
         |((with_reducible refine wpList_execW (exec_loadA hagy ?_ hL3) ?_ ?_);rfl;(first|rfl|(go_simp;done));go_frame)
         |fail)
       refine hcl.mono ?_
       rintro e w4 ⟨rfl,hb4⟩
       have hbr4:=HB3.out.trans (hb4.mono HB3.out.size)
       have hO4:=HO.out.below hbr4
       have hlk:(((List.range k).filter (P.isQ q)).map fun (i:Nat)=>(i:Int)).length≤1000:=by
         rw [List.length_map]
         have:=List.length_filter_le (P.isQ q) (List.range k)
         rw [List.length_range] at this
         omega
       have HBR:=Lib.hid (HB.out.trans (hbr4.mono HB.out.size))
       clear hcl hL3 hb4 hbr4
       cases hqy:q y with
       |true=>
         obtain ⟨a5,n5,c5,rfl⟩:=hO4.shape
         have hsn:=HSN.out
         rw [if_pos hqy] at hsn
         have HSN2:=Lib.hid hsn
         clear hsn
         go_wp2_with (first
           |((with_reducible refine wpList_append1 elI hO4 (k:Int) hlk ?_ ?_ ?_ ?_);rfl;rfl;rfl;(intro v2 w5 hO5 hb5;have HO5:=Lib.hid hO5;have HB5:=Lib.hid hb5;clear hO5 hb5);go_frame)
           |fail)
         have hO6:=HO5.out
         rw [show (((List.range k).filter (P.isQ q)).map fun (i:Nat)=>(i:Int))++ [(k:Int)]=(((List.range (k+1)).filter (P.isQ q)).map fun (i:Nat)=>(i:Int)) by rw [HSN2.out,List.map_append];rfl] at hO6
         have HO6:=Lib.hid hO6
         have HBF:=Lib.hid (HBR.out.trans HB5.out)
         clear hO6 hO4
         go_roundw
         case rel=>exact ⟨k+1,by omega,by go_num,HBF.out,HO6.out⟩
         case measure=>simp [intOf];omega
       |false=>
         have hsn:=HSN.out
         rw [if_neg (by rw [hqy];decide),List.append_nil] at hsn
         rw [←hsn] at hO4
         have HO4:=Lib.hid hO4
         clear hsn hO4
         go_wp2
         go_roundw
         case rel=>exact ⟨k+1,by omega,by go_num,HBR.out,HO4.out⟩
         case measure=>simp [intOf];omega
   · obtain rfl:k=N:=by omega
     have hO:=HO.out
     have hsel:(List.range k).filter (P.isQ q)=P.sel q:=by unfold PC.sel;rw [HN.out]
     rw [hsel] at hO
     have hCr:=HC1.out.below HB.out
     have hxr:=(HB.out.block _ (lt_of_block HX.out)).trans HX.out
     have hso:=psort_any hCr w1.heap.size w.heap.size (cell_of hxr rfl) (by have:=HS1.out;omega) (fun b hb=>by have:=HLT.out b (.inl hb);have:=HS1.out;omega) _ (P.sel q) hO (fun i hi=>⟨(mem_sel.1 hi).1,(mem_sel.1 hi).2.1⟩) (sel_nodup _ _) (by
       unfold PC.sel
       have:=List.length_filter_le (P.isQ q) (List.range P.L.length)
       rw [List.length_range] at this
       rw [HN.out] at this ⊢
       omega)
     clear hO hCr hxr hk hkl
     go_wp2_with fail
     refine hso.mono ?_
     rintro e w5 ⟨rfl,js,hp,hpw,hR,hb5⟩
     have hby:ByBlk P q js:=⟨fun i=>by rw [hp.mem_iff];exact mem_sel,hpw⟩
     have hbf:Below w.heap.size w w5:=HB1.out.trans ((HB.out.mono HB1.out.size).trans (hb5.mono HB1.out.size))
     have HBY:=Lib.hid hby
     have HR:=Lib.hid (hR.mono (B':=w.heap.size) (by have:=HS1.out;omega))
     have HBF:=Lib.hid hbf
     clear hso hp hpw hR hb5 hby hbf
     go_wp2
     go_ret
     exact ⟨_,js,rfl,HBY.out,HR.out,HBF.out⟩
end
end Go.Proofs.YtldimgchpgoggaaGreat
