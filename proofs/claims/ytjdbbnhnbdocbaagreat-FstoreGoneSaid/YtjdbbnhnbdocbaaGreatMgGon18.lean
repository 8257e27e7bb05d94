import Derived.Test.YtjdbbnhnbdocbaaGreatMgGon17
import Derived.Test.YtjdbbnhnbdocbaaGreatMgGon4
import Derived.Test.YtjdbbnhnbdocbaaGreatMgGon13
namespace Go.Tn.Dk
open Go.Tn.Bt Go.Tn.Lp
theorem write_L (d:Dsk) (i:Nat) (b:List Nat):(d.write i b).L=d.L:=by
 unfold Dsk.write
 split
 ·exact step_L d
 ·exact step_L d
theorem write_Q (d:Dsk) (i:Nat) (b:List Nat):(d.write i b).Q.length≤d.Q.length+1:=by
 unfold Dsk.write
 split
 ·rw [step_Q];omega
 ·simp
theorem putPcs_L (n:Nat): ∀(r:List Pc) (d:Dsk),(putPcs n r d).1.L=d.L
 | [],d=>rfl
 | q::r,d=>by
  unfold putPcs
  split
  ·exact write_L _ _ _
  ·rw [putPcs_L n r,write_L]
theorem putPcs_Q (n:Nat): ∀(r:List Pc) (d:Dsk),(putPcs n r d).1.Q.length≤d.Q.length+r.length
 | [],d=>Nat.le_refl _
 | q::r,d=>by
  have h:=write_Q d (2+q.ct %n) (sealB q)
  unfold putPcs
  split
  ·simp only [List.length_cons];omega
  ·have:=putPcs_Q n r (d.write (2+q.ct %n) (sealB q))
   simp only [List.length_cons];omega
theorem putPcs_snoc (n:Nat) (q:Pc): ∀(r:List Pc) (d:Dsk),(putPcs n r d).2=0→putPcs n (r++ [q]) d=((putPcs n r d).1.write (2+q.ct %n) (sealB q),(putPcs n r d).1.dead)
 | [],d,_=>by
  simp only [List.nil_append,putPcs]
  split
  ·rfl
  ·rename_i h
   simp only [ne_eq,Decidable.not_not] at h
   rw [h]
 | x::r,d,h=>by
  unfold putPcs at h
  split at h
  ·rename_i h0
   exact absurd h h0
  ·rename_i h0
   have ih:=putPcs_snoc n q r _ h
   have e1:putPcs n (x::r++ [q]) d=putPcs n (r++ [q]) (d.write (2+x.ct %n) (sealB x)):=by
    rw [List.cons_append,putPcs,if_neg h0]
   have e2:putPcs n (x::r) d=putPcs n r (d.write (2+x.ct %n) (sealB x)):=by
    rw [putPcs,if_neg h0]
   rw [e1,ih,e2]
theorem putPcs_stop (n:Nat) (t:List Pc): ∀(r:List Pc) (d:Dsk),(putPcs n r d).2≠0→putPcs n (r++t) d=putPcs n r d
 | [],d,h=>absurd rfl h
 | x::r,d,h=>by
  by_cases h0:d.dead≠0
  ·rw [List.cons_append,putPcs,if_pos h0,putPcs,if_pos h0]
  ·have e2:putPcs n (x::r) d=putPcs n r (d.write (2+x.ct %n) (sealB x)):=by
    rw [putPcs,if_neg h0]
   rw [List.cons_append,putPcs,if_neg h0,e2]
   rw [e2] at h
   exact putPcs_stop n t r _ h
end Go.Tn.Dk
namespace Go.Proofs.YtjdbbnhnbdocbaaGreat
open Go.RowKit Go.Tn Go.Tn.Bt Go.Tn.Lp Go.Tn.Dk
theorem LAt.setNext {w:World} {F:Nat→Prop} {g p:Nat} {l:Lg} (h:LAt w F g p l) (nx:Nat):LAt (w.setCell ⟨g,5,none⟩ (.int .u64 (nx:Nat))) F g p {l with next:=nx}:=by
 obtain ⟨m,L,clk,h1,h2,h3,h4⟩:=h.ex
 have hh:=heap_setCell_at (o:=5) (v:= .int .u64 (nx:Nat)) h1
 have hm:Mod (fun b=>b=g) w (w.setCell ⟨g,5,none⟩ (.int .u64 (nx:Nat))):=(Mod.refl _ _).setCell _ _ fun _=>rfl
 refine ⟨⟨m,L,clk,hh,?_,h3,h4⟩,h.fg,fun b hb=>Nat.lt_of_lt_of_le (h.lt b hb) hm.size⟩
 refine ⟨hm.heap h2.blk h3,h2.wf,fun e he=> ?_,h2.all,h2.fm⟩
 obtain ⟨k,hk1,b,hk2,hk3,hk4⟩:=h2.key e he
 exact ⟨k,hk1,b,hk2,hk3.kept hm.size fun r hr=>hm.block r (h.lt r (hk4 r hr).1) fun e'=>h4 e he (by rw [hr];exact congrArg some e'),hk4⟩
section
variable {w:World} {F FD:Nat→Prop} {g p:Nat} {l:Lg} {d:Dsk}
set_option maxRecDepth 20000 in
set_option maxHeartbeats 8000000 in
theorem gwrite_main (h:LAt w F g p l) (hd:DAt w FD p d) (hF: ∀b,F b→¬ FD b) (hok':l.ok d) (he:l.err=0) (v:Value) (ps:List Pt) (hpa:PtsA w (fun b=>F b∨FD b) v ps) (hby: ∀q∈ps, ∀x∈q.2,x<256) (ht:transB ps (l.homes d)=true)
  (pcs:List Pc) (hce:cutB l.epoch l.next (recB ps)= .ok pcs) (hroom:pcs.length≤l.free) (hQ:d.Q.length≤999990000):
  Calls Tryz.prog 152 #[.pointer (some ⟨g,0,none⟩),v] w fun e w'=>e= .returned (.int .i64 ((l.write d ps).2.2:Nat))∧ ∃F' FD',LAt w' F' g p (l.write d ps).1∧DAt w' FD' p (l.write d ps).2.1∧Mod (fun b=>F b∨FD b) w w'∧
   (∀b,F' b→F b∨w.heap.size≤b)∧(∀b,FD' b→FD b∨w.heap.size≤b)∧ ∀b,F' b→¬ FD' b:=by
 have hp:=hpa.rd
 have hwr:l.write d ps=if (putPcs l.n pcs d).2≠0 then ({l with err:=(putPcs l.n pcs d).2},(putPcs l.n pcs d).1,(putPcs l.n pcs d).2) else ({l with next:=l.next+pcs.length,H:=takeH l.H ps},(putPcs l.n pcs d).1,0):=by
  unfold Lg.write
  rw [if_neg (by omega),if_neg (by rw [ht];decide),hce]
  simp only
  rw [if_neg (by omega)]
 have hpo:(∀q∈pcs,q.ok)∧ ∀q∈pcs, ∀x∈q.da,x<256:=by
  unfold cutB at hce
  split at hce
  ·cases hce
  ·split at hce
   ·cases hce
   ·cases hce
    exact ⟨cutL_ok (by omega) (by omega) (by omega),cutL_lt (recB_lt ps) _ _⟩
 have HWR:=Lib.hid hwr
 have HPO:=Lib.hid hpo
 have HPA:=Lib.hid hpa
 have HFF:=Lib.hid hF
 have HT:=Lib.hid ht
 clear hwr hpo hpa hF
 have hok:=ok_any h
 have hho:=homes_any h hd hok'.nd
 have hhi:=hd.ok.hi
 have hh:l.homes d=d.L.length-2-l.n:=rfl
 have hn24:=((transB_iff ps _).1 ht).2.1
 have htr:=fun w2 (hb:Below w.heap.size w w2)=>trans_any w2 v ps (hp.below hb) (l.homes d) (by omega) (by omega)
 have hfit:=fit_of_trans ht (by omega) hby
 have henc:=fun w2 (hb:Below w.heap.size w w2)=>encode_any w2 v ps (hp.below hb) hfit hn24
 have hrl:=recB_le ht
 rw [ht] at htr
 have hgl:=h.lt g h.fg
 have HL:=Lib.hid h
 have HD:=Lib.hid hd
 have HOK:=Lib.hid hok'
 obtain ⟨m,L,clk,hb, -⟩:=h.ex
 have c7:=cell_of (o:=7) hb rfl
 have c2:=cell_of (o:=2) hb rfl
 have c5:=cell_of (o:=5) hb rfl
 have HC2:=Lib.hid c2
 have HC5:=Lib.hid c5
 have hne:(((l.err:Nat):Int) !=0)=false:=by rw [bne_eq_false_iff_eq];omega
 obtain ⟨a0,n0,c0,rfl⟩: ∃a n c,v= .slice a n c:=by
  obtain ⟨xs, -,⟨ao,cap,rfl, -⟩, -⟩:=hp
  exact ⟨_,_,_,rfl⟩
 have hep:l.epoch<2 ^ 64:=Nat.lt_of_le_of_lt hok'.epoch (by decide)
 have hnx:l.next<2 ^ 64:=Nat.lt_trans hok'.small (by decide)
 have HTR:=Lib.hid htr
 have HENC:=Lib.hid henc
 have HPI:=Lib.hid hp
 clear h hd hb he hp ht hok' hh htr c2 c5 henc hfit
 go_enter Tryz.func152,Tryz.ntmps152
 go_upto_region 7 with (first
  | (go_at_call 56;refine hok.mono ?_;rintro e w2 ⟨rfl,hw⟩;obtain rfl:=hw.symm;clear hw)
  | (go_at_call 57;refine hho.mono ?_;rintro e w2 ⟨rfl,hb2⟩;have HB2:=Lib.hid hb2;clear hb2)
  | (go_at_call 171;refine (HTR.out _ HB2.out).mono ?_;rintro e w3 ⟨rfl,hb3⟩;have HB3:=Lib.hid (HB2.out.trans (hb3.mono HB2.out.size));clear hb3)
  | fail)
 have hS:w3.drew.cell? ⟨g,2,none⟩=some (.int .u64 (l.epoch:Nat))∧w3.drew.cell? ⟨g,5,none⟩=some (.int .u64 (l.next:Nat)):=⟨(HB3.out.cell (p:=⟨g,2,none⟩) hgl).trans HC2.out,(HB3.out.cell (p:=⟨g,5,none⟩) hgl).trans HC5.out⟩
 refine wp_region_x (fun w'=>w'.cell? ⟨g,2,none⟩=some (.int .u64 (l.epoch:Nat))∧w'.cell? ⟨g,5,none⟩=some (.int .u64 (l.next:Nat))) [(0,1),(1,1),(2,1),(3,0),(4,1),(5,1),(6,1),(7,0),(8,1),(9,2),(10,2),(11,1),(12,1),(13,1),(14,1),(15,1)] (by kernel_rfl) (by kernel_rfl) (by intro d v c a w h;cases d<;>exact h) ?_
 iterate 3 (refine x_take rfl (fun K hK=> ?_);go_simp;refine hK _ ?_;clear hK K)
 refine x_read rfl hS (fun w' h=>exec_load1 ⟨⟨_,Tryz.underlying37,rfl⟩⟩ rfl h.1) ?_
 iterate 3 (refine x_take rfl (fun K hK=> ?_);go_simp;refine hK _ ?_;clear hK K)
 refine x_read rfl hS (fun w' h=>exec_load1 ⟨⟨_,Tryz.underlying37,rfl⟩⟩ rfl h.2) ?_
 iterate 1 (refine x_take rfl (fun K hK=> ?_);go_simp;refine hK _ ?_;clear hK K)
 refine x_show' rfl (fun K hK=> ?_)
 go_simp
 refine (HENC.out _ HB3.out.drew).mono ?_
 rintro e w4 ⟨v4,rfl,hO4,hb4⟩
 have hgl3:g<w3.drew.heap.size:=Nat.lt_of_lt_of_le hgl HB3.out.size
 have hS4:w4.cell? ⟨g,2,none⟩=some (.int .u64 (l.epoch:Nat))∧w4.cell? ⟨g,5,none⟩=some (.int .u64 (l.next:Nat)):=⟨(hb4.cell (p:=⟨g,2,none⟩) hgl3).trans hS.1,(hb4.cell (p:=⟨g,5,none⟩) hgl3).trans hS.2⟩
 have HB4:Hid (Below w.heap.size w w4):=Lib.hid (HB3.out.drew.trans (hb4.mono HB3.out.size))
 refine hK _ _ hS4 ?_
 clear hK K hb4 hS hgl3
 refine x_show' rfl (fun K hK=> ?_)
 go_simp
 refine (cut_any w4 l.epoch l.next v4 (recB ps) (hO4.sl el8.len) hep hnx (by omega)).mono ?_
 rintro e w5 ⟨hb5,hR⟩
 have hgl4:g<w4.heap.size:=Nat.lt_of_lt_of_le hgl HB4.out.size
 have hS5:w5.cell? ⟨g,2,none⟩=some (.int .u64 (l.epoch:Nat))∧w5.cell? ⟨g,5,none⟩=some (.int .u64 (l.next:Nat)):=⟨(hb5.cell (p:=⟨g,2,none⟩) hgl4).trans hS4.1,(hb5.cell (p:=⟨g,5,none⟩) hgl4).trans hS4.2⟩
 have HB5:Hid (Below w.heap.size w w5):=Lib.hid (HB4.out.trans (hb5.mono HB4.out.size))
 have hw4:w.heap.size≤w4.heap.size:=HB4.out.size
 clear hb5 hS4 hO4 hgl4
 unfold CutR at hR
 rw [hce] at hR
 simp only at hR
 obtain ⟨v5,rfl,xs5,hxs5,hO5,hD5⟩:=hR
 have hxl:xs5.length=pcs.length:=by rw [←hxs5];simp
 obtain ⟨a5,c5,rfl,hn5,hc5,hcells5⟩:=hO5.sl elPc.len
 rw [hxl] at hn5 hcells5 ⊢
 unfold maxLen at hc5
 have hfr:=free_any (HL.out.below HB5.out) HOK.out.tail HOK.out.next HOK.out.small (by have:=HOK.out.nd;omega)
 have hd8:decide (l.free<pcs.length)=false:=by simp;omega
 have hfn:l.free≤l.n:=by unfold Lg.free;omega
 have hnd:=HOK.out.nd
 have hpl:(pcs.length:Int)≤4096:=by omega
 have HX5:=Lib.hid hxs5
 have HO5:=Lib.hid hO5
 have HD5:=Lib.hid hD5
 have HXL:=Lib.hid hxl
 have HCE5:=Lib.hid hcells5
 refine hK _ _ hS5 ?_
 clear hK K hS5 hce hxs5 hO5 hD5 hxl hcells5
 iterate 5 (refine x_take rfl (fun K hK=> ?_);go_simp;refine hK _ ?_;clear hK K)
 refine x_nil ?_
 go_wp2_with (first
  | (go_at_call 190;refine hfr.mono ?_;rintro e w6 ⟨rfl,hb6⟩;have HB6:=Lib.hid hb6;clear hb6)
  | fail)
 have HB06:Hid (Below w.heap.size w w6):=Lib.hid (HB5.out.trans (HB6.out.mono HB5.out.size))
 have hw56:w5.heap.size≤w6.heap.size:=HB6.out.size
 have hw06:w.heap.size≤w6.heap.size:=HB06.out.size
 clear hd8 hfr
 go_loopw [57] (fun iv wi=> ∃k:Nat,k≤pcs.length∧iv= .int .i64 k∧(putPcs l.n (pcs.take k) d).2=0∧Mod FD w6 wi∧ ∃FDi,DAt wi FDi p (putPcs l.n (pcs.take k) d).1∧ ∀b,FDi b→FD b∨w6.heap.size≤b) (fun iv _=>pcs.length-(intOf iv).toNat)
 case atStart=>exact ⟨0,Nat.zero_le _,rfl,rfl,Mod.refl _ _,FD,HD.out.below HB06.out,fun b hb=> .inl hb⟩
 case round=>
  obtain ⟨k,hk,rfl,h0,hm,FDi,hDi,hFi⟩:=hrel
  have hLi:LAt wr F g p l:=(HL.out.below HB06.out).mod hm HFF.out
  by_cases hkl:k<pcs.length
  ·have hkl':(k:Int)<(pcs.length:Int):=by omega
   obtain ⟨x,hx⟩: ∃x,xs5[k]?=some x:=⟨_,List.getElem?_eq_getElem (by rw [HXL.out];exact hkl)⟩
   have hpk:pcs[k]?=some x.1:=by rw [←HX5.out,List.getElem?_map,hx];rfl
   have hqo:=HPO.out.1 x.1 (List.mem_of_getElem? hpk)
   have hqb:=HPO.out.2 x.1 (List.mem_of_getElem? hpk)
   obtain ⟨b5,o5,rfl,hbl5,hcl5⟩:=HCE5.out (by omega)
   have hb5lo:=HO5.out.lo b5 rfl
   have hFDlt:=HD.out.lt
   have hlies:=lies_mod ((hcl5 k x hx).below' HB6.out hbl5) hm (fun e=>by have:=hFDlt b5 e;omega)
   have hdx:=HD5.out x (List.mem_of_getElem? hx)
   have hds:=(hdx.1.below HB6.out).mod hm (fun r hr e=>by have:=hFDlt r e;have:=(hdx.2 r hr).1;omega)
   have hsn:=putPcs_snoc l.n x.1 (pcs.take k) d h0
   rw [←take_snoc hpk] at hsn
   have hLL:=putPcs_L l.n (pcs.take k) d
   have hQQ:=putPcs_Q l.n (pcs.take k) d
   have hkt:(pcs.take k).length≤4096:=by rw [List.length_take];omega
   obtain ⟨⟨ep,ct,fi,la,da⟩,⟨a1,n1,c1⟩⟩:=x
   obtain ⟨hq1,hq2,hq3⟩:=hqo
   simp only at hq1 hq2 hq3 hqb hds hsn
   have HLS:Hid (Lies wr b5 (o5+k*5) #[.int .u64 (ep:Nat), .int .u64 (ct:Nat), .bool fi, .bool la, .slice a1 n1 c1]):=Lib.hid hlies
   have hb1:Below wr.heap.size wr (wr.alloc (.cells #[.int .u64 (ep:Nat), .int .u64 (ct:Nat), .bool fi, .bool la, .slice a1 n1 c1] 222)):=(Below.refl _ _).alloc (Nat.le_refl _) _
   have hbx:(wr.alloc (.cells #[.int .u64 (ep:Nat), .int .u64 (ct:Nat), .bool fi, .bool la, .slice a1 n1 c1] 222)).heap[wr.heap.size]?=some (.cells #[.int .u64 (ep:Nat), .int .u64 (ct:Nat), .bool fi, .bool la, .slice a1 n1 c1] 222 (0,0)):=heap_alloc_at
   have HBX:=Lib.hid (lies_of hbx)
   have hseal:=seal_ok (wr.alloc (.cells #[.int .u64 (ep:Nat), .int .u64 (ct:Nat), .bool fi, .bool la, .slice a1 n1 c1] 222)) ep ct fi la da (.slice a1 n1 c1) (LSl.below hds hb1) hqb hq1 hq2 hq3
   obtain ⟨dk,hdk⟩: ∃dk,(putPcs l.n (pcs.take k) d).1=dk:=⟨_,rfl⟩
   rw [hdk] at hDi hsn hLL hQQ
   have HSN:=Lib.hid hsn
   have HLI:=Lib.hid hLi
   have HDI:=Lib.hid hDi
   have HFI:=Lib.hid hFi
   have HMM:=Lib.hid hm
   have HB1:=Lib.hid hb1
   have HBXH:=Lib.hid hbx
   have HQB:=Lib.hid hqb
   have HPK:=Lib.hid hpk
   have hlm:2+ct %l.n<dk.L.length:=by rw [hLL];have:=Nat.mod_lt ct (show 0<l.n by have:=HOK.out.n2;omega);omega
   have HLM:=Lib.hid hlm
   have HQQ:Hid (dk.Q.length<1000000000):=Lib.hid (by omega)
   have hgw:g<wr.heap.size:=hLi.lt g hLi.fg
   clear hx hpk hlies hdx hds hsn hLL hQQ hkt hb1 hbx hdk hLi hDi hFi hm h0 hcl5 hqb hFDlt hlm
   go_upto_region 16 with (first
    | ((with_reducible refine wpList_loadA (aggPc _ _ _ _ _) HLS.out ?_ ?_);rfl;go_frame)
    | ((with_reducible refine wpList_loadA (aggPc _ _ _ _ _) HBX.out ?_ ?_);rfl;go_frame)
    | (go_at_call 191;refine hseal.mono ?_;rintro e w7 ⟨r7,rfl,hB7,hr7,hb7⟩;have HB7:=Lib.hid hB7;have HBL7:=Lib.hid hb7;have HR7:=Lib.hid hr7;clear hB7 hb7 hr7)
    | fail)
   have hL7:=((HLI.out.below HB1.out).below HBL7.out).below ((Below.refl _ _).drew)
   have hD7:=((HDI.out.below HB1.out).below HBL7.out).below ((Below.refl _ _).drew)
   have hz1:(wr.alloc (.cells #[.int .u64 (ep:Nat), .int .u64 (ct:Nat), .bool fi, .bool la, .slice a1 n1 c1] 222)).heap.size=wr.heap.size+1:=by simp
   have hr7:wr.heap.size+1≤r7:=by have:=HR7.out;rw [hz1] at this;exact this
   have hw7:wr.heap.size+1≤w7.heap.size:=by have:=HBL7.out.size;rw [hz1] at this;exact this
   have hFi7: ∀b,FDi b→b<wr.heap.size:=HDI.out.lt
   have hg7:¬ FDi g:=fun e=>by
    rcases HFI.out g e with h|h
    ·exact HFF.out g HLI.out.fg h
    ·have:=HL.out.lt g HL.out.fg
     omega
   have hbox7:w7.drew.heap[wr.heap.size]?=some (.cells #[.int .u64 (ep:Nat), .int .u64 (ct:Nat), .bool fi, .bool la, .slice a1 n1 c1] 222 (0,0)):=(HBL7.out.block wr.heap.size (by rw [hz1];exact Nat.lt_succ_self _)).trans HBXH.out
   obtain ⟨m7,L7,clk7,hb7, -⟩:=hL7.ex
   have hS:w7.drew.cell? ⟨g,0,none⟩=some (.pointer (some ⟨p,0,none⟩))∧w7.drew.cell? ⟨wr.heap.size,1,none⟩=some (.int .u64 (ct:Nat)):=⟨cell_of (o:=0) hb7 rfl,cell_of (o:=1) hbox7 rfl⟩
   have hpl7:=gplace_any hL7 HOK.out.n2 (by omega) ct (by omega)
   have hsec:secB (sealB ⟨ep,ct,fi,la,da⟩):=⟨sealB_len _,sealB_lt _ HQB.out hq3⟩
   have hsl7:=Bk.sl (w:=w7.drew) HB7.out (o:=0) (n:=128) (cap:=128) (by rw [sealB_len];decide) (by decide) (by decide)
   rw [List.drop_zero,List.take_of_length_le (by rw [sealB_len];decide)] at hsl7
   have hdw:=dwrite_any hD7 (2+ct %l.n) HLM.out _ _ hsl7 hsec (fun r hr e=>by have hr':r7=r:=Option.some.inj hr;have h1:=hFi7 r e;omega) HQQ.out
   have HL7:=Lib.hid hL7
   clear hL7 hD7 hz1 hbox7 hb7 hsec hsl7 hseal
   generalize sealB ⟨ep,ct,fi,la,da⟩=sb at*
   refine wp_region_x (fun w'=>w'.cell? ⟨g,0,none⟩=some (.pointer (some ⟨p,0,none⟩))∧w'.cell? ⟨wr.heap.size,1,none⟩=some (.int .u64 (ct:Nat))) [(0,1),(1,1),(2,1),(3,0),(4,1),(5,1),(6,0),(8,1),(7,2),(9,2),(10,1)] (by kernel_rfl) (by kernel_rfl) (by intro d v c a w h;cases d<;>exact h) ?_
   iterate 3 (refine x_take rfl (fun K hK=> ?_);go_simp;refine hK _ ?_;clear hK K)
   refine x_read rfl hS (fun w' h=>exec_load1 ⟨⟨_,Tryz.underlying25,rfl⟩⟩ rfl h.1) ?_
   iterate 2 (refine x_take rfl (fun K hK=> ?_);go_simp;refine hK _ ?_;clear hK K)
   refine x_read rfl hS (fun w' h=>exec_load1 ⟨⟨_,Tryz.underlying37,rfl⟩⟩ rfl h.2) ?_
   iterate 1 (refine x_take rfl (fun K hK=> ?_);go_simp;refine hK _ ?_;clear hK K)
   refine x_show' rfl (fun K hK=> ?_)
   go_simp
   refine hpl7.mono ?_
   rintro e w8 ⟨rfl,hw8⟩
   obtain rfl:=hw8.symm
   refine hK _ _ hS ?_
   clear hK K hw8 hpl7
   refine x_show' rfl (fun K hK=> ?_)
   go_simp
   refine hdw.mono ?_
   rintro e w8 ⟨rfl,FD8,hD8,hm8,hF8⟩
   have hS8:w8.cell? ⟨g,0,none⟩=some (.pointer (some ⟨p,0,none⟩))∧w8.cell? ⟨wr.heap.size,1,none⟩=some (.int .u64 (ct:Nat)):=⟨cell_mod hS.1 hm8 hg7,cell_mod hS.2 hm8 fun e=>by have:=hFi7 _ e;omega⟩
   have hL8:LAt w8 F g p l:=HL7.out.mod hm8 fun b hb e=>by
    rcases HFI.out b e with h|h
    ·exact HFF.out b hb h
    ·have:=HL.out.lt b hb
     omega
   have hm68:Mod FD w6 w8:=HMM.out.trans (T:=FD) ((Mod.of_below (HB1.out.trans (HBL7.out.mono (by simp)))).drew.trans (T:=fun b=>wr.heap.size≤b∨FDi b) hm8 (fun x h=> .inl h) fun x _ h=> .inr h) (fun _ h=>h) fun x hx h=>by
    rcases h with h|h
    ·have:=HMM.out.size
     omega
    ·exact (HFI.out x h).resolve_right (by omega)
   have hF68: ∀b,FD8 b→FD b∨w6.heap.size≤b:=fun b hb=>by
    rcases hF8 b hb with h|h
    ·exact HFI.out b h
    ·have:=HMM.out.size
     have h:w7.heap.size≤b:=h
     exact .inr (by omega)
   refine hK _ _ hS8 ?_
   clear hK K hS hS8 hdw
   iterate 1 (refine x_take rfl (fun K hK=> ?_);go_simp;refine hK _ ?_;clear hK K)
   refine x_nil ?_
   have HD8:=Lib.hid hD8
   have HL8:=Lib.hid hL8
   have HM68:=Lib.hid hm68
   have HF68:=Lib.hid hF68
   clear hD8 hL8 hm68 hF68 hm8 hF8 hFi7
   obtain ⟨dd,hdd⟩: ∃dd,dk.dead=dd:=⟨_,rfl⟩
   rw [hdd] at HSN ⊢
   clear hdd
   by_cases hd0:dd=0
   ·subst hd0
    simp only [Int.ofNat_zero] at*
    go_wp2
    go_roundw
    case rel=>exact ⟨k+1,by omega,by go_num,by rw [HSN.out],HM68.out,FD8,by rw [HSN.out];exact HD8.out,HF68.out⟩
    case measure=>simp [intOf];omega
   ·have hne2:((dd:Int) !=0)=true:=by rw [bne_iff_ne];omega
    have hst:=stays_any HL8.out dd
    have hall:putPcs l.n pcs d=(dk.write (2+ct %l.n) sb,dd):=by
     have h1:=putPcs_stop l.n (pcs.drop (k+1)) (pcs.take (k+1)) d (by rw [HSN.out];exact hd0)
     rw [List.take_append_drop] at h1
     rw [h1,HSN.out]
    have HW2:Hid (l.write d ps=({l with err:=dd},dk.write (2+ct %l.n) sb,dd)):=Lib.hid (by rw [HWR.out,hall];simp only;rw [if_pos hd0])
    clear hall hd0
    go_wp2_with fail
    refine hst.mono ?_
    rintro e w9 ⟨rfl,hL9,hm9⟩
    have HL9:=Lib.hid hL9
    have HM9:=Lib.hid hm9
    clear hL9 hm9 hst
    go_wp2
    go_ret
    rw [HW2.out]
    refine ⟨rfl,F,FD8,HL9.out,HD8.out.mod HM9.out fun b hb e=> ?_,?_,fun b hb=> .inl hb,fun b hb=>(HF68.out b hb).imp id fun h=>Nat.le_trans hw06 h,fun b hb e=> ?_⟩
    ·have e:b=g:=e
     rw [e] at hb
     rcases HF68.out g hb with h|h
     ·exact HFF.out g HL.out.fg h
     ·have:=HL.out.lt g HL.out.fg
      omega
    ·exact ((Mod.of_below HB06.out).mono (T:=fun b=>F b∨FD b) fun x hx h=>absurd hx (Nat.not_lt.2 h)).trans (T:=fun b=>F b∨FD b) (HM68.out.trans (T:=fun b=>F b∨FD b) HM9.out (fun x h=> .inr h) fun x _ h=> .inl (by have h:x=g:=h;rw [h];exact HL.out.fg)) (fun _ h=>h) fun _ _ h=>h
    ·rcases HF68.out b e with h|h
     ·exact HFF.out b hb h
     ·have:=HL.out.lt b hb
      omega
  ·obtain rfl:k=pcs.length:=by omega
   rw [List.take_length] at h0 hDi
   have HW2:Hid (l.write d ps=({l with next:=l.next+pcs.length,H:=takeH l.H ps},(putPcs l.n pcs d).1,0)):=Lib.hid (by rw [HWR.out,if_neg (by rw [h0];decide)])
   obtain ⟨m9,L9,clk9,hb9, -⟩:=hLi.ex
   have q5:=cell_of (o:=5) hb9 rfl
   have f5:=free_of (o:=5) hb9
   have hN:=LAt.setNext hLi (l.next+pcs.length)
   have hmN:Mod (fun b=>b=g) wr (wr.setCell ⟨g,5,none⟩ (.int .u64 ((l.next+pcs.length:Nat):Int))):=(Mod.refl _ _).setCell _ _ fun _=>rfl
   have hpa:PtsA (wr.setCell ⟨g,5,none⟩ (.int .u64 ((l.next+pcs.length:Nat):Int))) (fun b=>F b∨FD b) (.slice a0 n0 c0) ps:=((HPA.out.below HB06.out).mod hm fun b hb=> .inr hb).mod hmN fun b hb=> .inl (by have hb:b=g:=hb;rw [hb];exact HL.out.fg)
   have htr:=(transB_iff ps _).1 HT.out
   have htk:=take_any hN (.slice a0 n0 c0) ps (hpa.mono fun b hb=> .inl hb) (fun q hq=>(htr.2.2.1 q hq).1) (fun q hq=>by rw [(htr.2.2.1 q hq).2.2];decide) (by omega)
   have hDN:DAt (wr.setCell ⟨g,5,none⟩ (.int .u64 ((l.next+pcs.length:Nat):Int))) FDi p (putPcs l.n pcs d).1:=hDi.mod hmN fun b hb e=>by
    have e:b=g:=e
    rw [e] at hb
    rcases hFi g hb with h|h
    ·exact HFF.out g HL.out.fg h
    ·have:=HL.out.lt g HL.out.fg
     omega
   have hmF:Mod (fun b=>F b∨FD b) w (wr.setCell ⟨g,5,none⟩ (.int .u64 ((l.next+pcs.length:Nat):Int))):=((Mod.of_below HB06.out).mono (T:=fun b=>F b∨FD b) fun x hx h=>absurd hx (Nat.not_lt.2 h)).trans (T:=fun b=>F b∨FD b) (hm.trans (T:=fun b=>F b∨FD b) hmN (fun x h=> .inr h) fun x _ h=> .inl (by have h:x=g:=h;rw [h];exact HL.out.fg)) (fun _ h=>h) fun _ _ h=>h
   have hwN:w.heap.size≤(wr.setCell ⟨g,5,none⟩ (.int .u64 ((l.next+pcs.length:Nat):Int))).heap.size:=hmF.size
   rw [Int.natCast_add] at htk hDN hmF hwN
   have hDlt:=hDN.lt
   have HDN:=Lib.hid hDN
   have HMF:=Lib.hid hmF
   have HFI:=Lib.hid hFi
   have HTK:=Lib.hid htk
   have HDL:=Lib.hid hDlt
   have HWN:=Lib.hid hwN
   have hnx63:((l.next:Nat):Int)<1099511627776:=by have:=HOK.out.small;omega
   clear hLi hDi hFi hm h0 hb9 hN hmN hpa htr htk hDN hmF hwN hDlt
   go_wp2_with (first
    | (go_at_call 120;refine HTK.out.mono ?_;rintro e w9 ⟨rfl,F9,hL9,hm9,hF9⟩;have HL9:=Lib.hid hL9;have HM9:=Lib.hid hm9;have HF9:=Lib.hid hF9;clear hL9 hm9 hF9)
    | fail)
   go_ret
   rw [HW2.out]
   have hFD9: ∀b,F b→¬ FDi b:=fun b hb e=>by
    rcases HFI.out b e with h|h
    ·exact HFF.out b hb h
    ·have:=HL.out.lt b hb
     omega
   refine ⟨rfl,F9,FDi,HL9.out,HDN.out.mod HM9.out fun b hb e=>hFD9 b e hb,HMF.out.trans (T:=fun b=>F b∨FD b) HM9.out (fun _ h=>h) fun x _ h=> .inl h,fun b hb=>(HF9.out b hb).imp id fun h=>Nat.le_trans HWN.out h,fun b hb=>(HFI.out b hb).imp id fun h=>Nat.le_trans hw06 h,fun b hb e=> ?_⟩
   rcases HF9.out b hb with h|h
   ·exact hFD9 b h e
   ·exact absurd (HDL.out b e) (Nat.not_lt.2 h)
end
def GPost (w:World) (F FD:Nat→Prop) (g p:Nat) (r:Lg×Dsk×Nat) (e:Ending) (w':World):Prop:=e= .returned (.int .i64 (r.2.2:Nat))∧ ∃F' FD',LAt w' F' g p r.1∧DAt w' FD' p r.2.1∧Mod (fun b=>F b∨FD b) w w'∧
   (∀b,F' b→F b∨w.heap.size≤b)∧(∀b,FD' b→FD b∨w.heap.size≤b)∧ ∀b,F' b→¬ FD' b
theorem GPost.still {w w':World} {F FD:Nat→Prop} {g p:Nat} {l:Lg} {d:Dsk} (h:LAt w F g p l) (hd:DAt w FD p d) (hF: ∀b,F b→¬ FD b) {k:Nat} {e:Ending} (he:e= .returned (.int .i64 (k:Nat))) (hb:Below w.heap.size w w'):GPost w F FD g p (l,d,k) e w':=
 ⟨he,F,FD,h.below hb,hd.below hb,(Mod.of_below hb).mono fun x hx h=>absurd hx (Nat.not_lt.2 h),fun b h=> .inl h,fun b h=> .inl h,hF⟩
theorem gwrite_any {w:World} {F FD:Nat→Prop} {g p:Nat} {l:Lg} {d:Dsk} (h:LAt w F g p l) (hd:DAt w FD p d) (hF: ∀b,F b→¬ FD b) (hok':l.ok d) (v:Value) (ps:List Pt) (hpa:PtsA w (fun b=>F b∨FD b) v ps) (hby: ∀q∈ps, ∀x∈q.2,x<256) (hn:ps.length≤100000) (hQ:d.Q.length≤999990000):
  Calls Tryz.prog 152 #[.pointer (some ⟨g,0,none⟩),v] w fun e w'=>GPost w F FD g p (l.write d ps) e w':=by
 by_cases he:l.err≠0
 ·refine (gwrite_err h he v).mono ?_
  rintro e w' ⟨h1,rfl⟩
  unfold Lg.write
  rw [if_pos he]
  exact GPost.still h hd hF h1 (Below.refl _ _)
 ·have he0:l.err=0:=by omega
  cases ht:transB ps (l.homes d) with
  | false=>
   refine (gwrite_arg h hd hok' he0 v ps hpa.rd hn ht).mono ?_
   rintro e w' ⟨h1,h2⟩
   unfold Lg.write
   rw [if_neg he,if_pos ht]
   exact GPost.still h hd hF h1 h2
  | true=>
   cases hce:cutB l.epoch l.next (recB ps) with
   | error k=>
    have hk:k≠0:=by
     unfold cutB at hce
     split at hce
     ·cases hce;decide
     ·split at hce
      ·cases hce;decide
      ·cases hce
    refine (gwrite_full h hd hok' he0 v ps hpa.rd hby ht k (.inl ⟨hce,hk⟩)).mono ?_
    rintro e w' ⟨h1,h2⟩
    unfold Lg.write
    rw [if_neg he,if_neg (by rw [ht];decide),hce]
    exact GPost.still h hd hF h1 h2
   | ok pcs=>
    by_cases hroom:pcs.length≤l.free
    ·exact gwrite_main h hd hF hok' he0 v ps hpa hby ht pcs hce hroom hQ
    ·refine (gwrite_full h hd hok' he0 v ps hpa.rd hby ht 8 (.inr ⟨pcs,hce,by omega,rfl⟩)).mono ?_
     rintro e w' ⟨h1,h2⟩
     unfold Lg.write
     rw [if_neg he,if_neg (by rw [ht];decide),hce]
     simp only
     rw [if_pos (by omega)]
     exact GPost.still h hd hF h1 h2
end Go.Proofs.YtjdbbnhnbdocbaaGreat
namespace Go.Tn
open Go.RowKit
theorem wp_of_run {P:Program} {o:Oper} {a:Act} {w w':World} {v:Value} {K:Act→World→Prop} {Q:Exit→Act→World→Prop} (hr:(execOp a.eval o).run P w= .ok (.value v) w') (h:K (a.put o.dst v) w'):o.wp P a w K Q:=by
 simp only [Oper.wp,hr,Oper.upon]
 exact h
end Go.Tn
namespace Go.Tn.Dk
open Go.Tn.Bt Go.Tn.Lp
def get8s (B:List Nat) (at_ err:Nat):Nat→List Nat×Nat×Nat
 | 0=>([],at_,err)
 | k+1=>((get8s B at_ err k).1++ [(getA B (get8s B at_ err k).2.1 (get8s B at_ err k).2.2 8).1],(getA B (get8s B at_ err k).2.1 (get8s B at_ err k).2.2 8).2)
def getPut (B:List Nat) (at_ err:Nat):Pt×Nat×Nat:=
 ((((getA B at_ err 12).1:Nat),(get8s B (getA B at_ err 12).2.1 (getA B at_ err 12).2.2 128).1),(get8s B (getA B at_ err 12).2.1 (getA B at_ err 12).2.2 128).2)
def decGo (B:List Nat) (at_ err:Nat):Nat→Option (List Pt×Nat×Nat)
 | 0=>some ([],at_,err)
 | k+1=>match decGo B at_ err k with
  | none=>none
  | some (l,a,e)=>if (getPut B a e).2.2≠0 then none else some (l++ [(getPut B a e).1],(getPut B a e).2)
theorem get8s_len (B:List Nat) (at_ err:Nat): ∀k,(get8s B at_ err k).1.length=k
 | 0=>rfl
 | k+1=>by simp only [get8s,List.length_append,get8s_len B at_ err k,List.length_singleton]
theorem get8s_le (B:List Nat) {at_:Nat} (err:Nat) (h:at_≤8*B.length): ∀k,(get8s B at_ err k).2.1≤8*B.length
 | 0=>h
 | k+1=>getA_le _ _ _ (get8s_le B err h k)
theorem getA_lt (B:List Nat) (at_ err n:Nat):(getA B at_ err n).1<2 ^ n:=by
 unfold getA
 split
 ·exact Nat.pow_pos (by decide)
 ·split
  ·exact natOf_take_lt _ _
  ·exact Nat.pow_pos (by decide)
theorem get8s_lt (B:List Nat) (at_ err:Nat): ∀k, ∀x∈(get8s B at_ err k).1,x<256
 | 0,x,h=>by cases h
 | k+1,x,h=>by
  rcases List.mem_append.1 h with h|h
  ·exact get8s_lt B at_ err k x h
  ·rw [List.mem_singleton.1 h]
   exact Nat.lt_of_lt_of_le (getA_lt B _ _ 8) (by decide)
theorem decGo_le (B:List Nat) {at_:Nat} (err:Nat) (h:at_≤8*B.length): ∀k l a e,decGo B at_ err k=some (l,a,e)→a≤8*B.length∧l.length=k∧ ∀q∈l,0≤q.1∧q.1<4096∧q.2.length=128∧ ∀x∈q.2,x<256
 | 0,l,a,e,hd=>by
  simp only [decGo,Option.some.injEq,Prod.mk.injEq] at hd
  obtain ⟨rfl,rfl,rfl⟩:=hd
  exact ⟨h,rfl,fun q hq=>by cases hq⟩
 | k+1,l,a,e,hd=>by
  simp only [decGo] at hd
  cases hk:decGo B at_ err k with
  | none=>rw [hk] at hd;cases hd
  | some r=>
   obtain ⟨l',a',e'⟩:=r
   rw [hk] at hd
   simp only at hd
   split at hd
   ·cases hd
   ·obtain ⟨ih1,ih2,ih3⟩:=decGo_le B err h k l' a' e' hk
    simp only [Option.some.injEq,Prod.mk.injEq] at hd
    obtain ⟨rfl,hd⟩:=hd
    have h1:=getA_le B e' 12 ih1
    have h2:=get8s_le B (getA B a' e' 12).2.2 h1 128
    have h3:(getPut B a' e').2.1≤8*B.length:=by simp only [getPut];exact h2
    rw [hd] at h3
    refine ⟨h3,by simp [ih2],fun q hq=> ?_⟩
    rcases List.mem_append.1 hq with hq|hq
    ·exact ih3 q hq
    ·rw [List.mem_singleton.1 hq]
     simp only [getPut]
     refine ⟨Int.natCast_nonneg _,?_,get8s_len _ _ _ _,get8s_lt _ _ _ _⟩
     have h12:(getA B a' e' 12).1<4096:=Nat.lt_of_lt_of_le (getA_lt B a' e' 12) (by decide)
     show (((getA B a' e' 12).1:Nat):Int)<4096
     omega
end Go.Tn.Dk
namespace Go.Proofs.YtjdbbnhnbdocbaaGreat
open Go.RowKit Go.Tn Go.Tn.Bt Go.Tn.Lp Go.Tn.Dk
def decB (B:List Nat) (homes:Nat):Option (List Pt):=match decGo B (getA B 0 0 8).2.1 (getA B 0 0 8).2.2 (getA B 0 0 8).1 with
 | none=>none
 | some (l,a,e)=>if endR B a e=0∧transB l homes=true then some l else none
def DatG (B:Nat) (w:World) (v:Value) (xs:List (Pt×Sv)):Prop:= ∀x∈xs,LSl en8 1 w (sv x.2) x.1.2∧ ∀r,(sv x.2).ownBlock=some r→B≤r∧r<w.heap.size∧v.ownBlock≠some r
def PtsO (B:Nat) (w:World) (v:Value) (ps:List Pt):Prop:= ∃xs:List (Pt×Sv),xs.map (·.1)=ps∧LOut enPt 2 187 B w v xs∧DatG B w v xs
theorem DatG.below {B:Nat} {w w':World} {v:Value} {xs:List (Pt×Sv)} (h:DatG B w v xs) (hb:Below w.heap.size w w'):DatG B w' v xs:=fun x hx=>
 ⟨(h x hx).1.below hb,fun r hr=>⟨((h x hx).2 r hr).1,Nat.lt_of_lt_of_le ((h x hx).2 r hr).2.1 hb.size,((h x hx).2 r hr).2.2⟩⟩
theorem DatG.mod {B:Nat} {S:Nat→Prop} {w w':World} {v:Value} {xs:List (Pt×Sv)} (h:DatG B w v xs) (hm:Mod S w w') (hS: ∀b,B≤b→b<w.heap.size→¬ S b):DatG B w' v xs:=fun x hx=>
 ⟨(h x hx).1.mod hm fun r hr=>hS r ((h x hx).2 r hr).1 ((h x hx).2 r hr).2.1,fun r hr=>⟨((h x hx).2 r hr).1,Nat.lt_of_lt_of_le ((h x hx).2 r hr).2.1 hm.size,((h x hx).2 r hr).2.2⟩⟩
theorem DatG.push {B:Nat} {W w4:World} {v v4:Value} {xs:List (Pt×Sv)} {x:Pt×Sv} (hD:DatG B W v xs) (hO:LOut enPt 2 187 B W v xs) (hx:LSl en8 1 W (sv x.2) x.1.2) (hxl: ∀r,(sv x.2).ownBlock=some r→B≤r∧r<W.heap.size∧v.ownBlock≠some r)
  (hm:Mod (fun b=>v.ownBlock=some b) W w4) (hv:v4.ownBlock=v.ownBlock∨ ∃r,v4.ownBlock=some r∧W.heap.size≤r):DatG B w4 v4 (xs++ [x]):=by
 intro y hy
 have key:LSl en8 1 W (sv y.2) y.1.2∧ ∀r,(sv y.2).ownBlock=some r→B≤r∧r<W.heap.size∧v.ownBlock≠some r:=by
  rcases List.mem_append.1 hy with hy|hy
  ·exact hD y hy
  ·rw [List.mem_singleton.1 hy]
   exact ⟨hx,hxl⟩
 refine ⟨key.1.mod hm fun r hr=>(key.2 r hr).2.2,fun r hr=>⟨(key.2 r hr).1,Nat.lt_of_lt_of_le (key.2 r hr).2.1 hm.size,?_⟩⟩
 rcases hv with hv|⟨r',hv,hr'⟩
 ·rw [hv];exact (key.2 r hr).2.2
 ·rw [hv]
  intro e
  cases e
  have:=(key.2 _ hr).2.1
  omega
end Go.Proofs.YtjdbbnhnbdocbaaGreat
