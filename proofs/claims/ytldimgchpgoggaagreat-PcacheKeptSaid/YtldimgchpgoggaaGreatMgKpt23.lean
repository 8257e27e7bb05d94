import Derived.Test.YtldimgchpgoggaaGreatMgKpt22
import Derived.Test.YtldimgchpgoggaaGreatMgKpt20
namespace Go.Tn.Dk
open Go.Tn
def Lg.check (l:Lg) (d:Dsk):Lg×Dsk×Nat:=
 if (l.sync d).1.err≠0 then ((l.sync d).1,(l.sync d).2,(l.sync d).1.err) else
 if 1099511627775≤l.gen then ({(l.sync d).1 with err:=8},(l.sync d).2,8) else
 if (l.bring (l.sync d).2).2≠0 then ({(l.sync d).1 with err:=(l.bring (l.sync d).2).2},(l.bring (l.sync d).2).1,(l.bring (l.sync d).2).2) else
 if ((l.bring (l.sync d).2).1.save 0 l.epoch ⟨l.gen+1,l.next,l.epoch⟩).2≠0 then
   ({(l.sync d).1 with err:=((l.bring (l.sync d).2).1.save 0 l.epoch ⟨l.gen+1,l.next,l.epoch⟩).2},((l.bring (l.sync d).2).1.save 0 l.epoch ⟨l.gen+1,l.next,l.epoch⟩).1,((l.bring (l.sync d).2).1.save 0 l.epoch ⟨l.gen+1,l.next,l.epoch⟩).2)
 else ({(l.sync d).1 with gen:=l.gen+1,tail:=l.next,H:=fun _=>none},((l.bring (l.sync d).2).1.save 0 l.epoch ⟨l.gen+1,l.next,l.epoch⟩).1,0)
end Go.Tn.Dk
namespace Go.Proofs.YtldimgchpgoggaaGreat
open Go.RowKit Go.Tn Go.Tn.Bt Go.Tn.Lp Go.Tn.Dk
theorem sync_same (l:Lg) (d:Dsk):(l.sync d).1.gen=l.gen∧(l.sync d).1.next=l.next∧(l.sync d).1.epoch=l.epoch∧(l.sync d).1.n=l.n∧(l.sync d).1.H=l.H∧(l.sync d).1.tail=l.tail:=by
 unfold Lg.sync
 split
 · exact ⟨rfl,rfl,rfl,rfl,rfl,rfl⟩
 · exact ⟨rfl,rfl,rfl,rfl,rfl,rfl⟩
theorem bring_same {l l':Lg} (d:Dsk) (hn:l'.n=l.n) (hH:l'.H=l.H):l'.bring d=l.bring d:=by
 have hk:l'.keys d=l.keys d:=by unfold Lg.keys Lg.homes;rw [hn,hH]
 have key: ∀(ks:List Nat) (d:Dsk),bringGo l' ks d=bringGo l ks d:=fun ks=>by
   induction ks with
   |nil=>intro d;rfl
   |cons k ks ih=>
     intro d
     simp only [bringGo,hn,hH,ih]
 unfold Lg.bring
 rw [hk,key]
theorem save_two (d:Dsk) (a ep:Nat) (h:Hd):(d.save a ep h).2=0∨(d.save a ep h).2=7:=by
 unfold Dsk.save Dsk.dead
 split
 · exact .inr rfl
 · simp only
   split
   · exact .inr rfl
   · exact .inl rfl
theorem bringGo_two (l:Lg): ∀(ks:List Nat) (d:Dsk),(bringGo l ks d).2=0∨(bringGo l ks d).2=7
 | [],d=>by
   simp only [bringGo,Dsk.dead]
   split
   · exact .inr rfl
   · exact .inl rfl
 |k::ks,d=>by
   simp only [bringGo]
   split
   · simp only [Dsk.dead]
     split
     · exact .inr rfl
     · exact .inl rfl
   · exact bringGo_two l ks _
theorem bringGo_L (l:Lg): ∀(ks:List Nat) (d:Dsk),(bringGo l ks d).1.L.length=d.L.length
 | [],d=>flush_L d
 |k::ks,d=>by
   simp only [bringGo]
   split
   · rw [write_L]
   · rw [bringGo_L l ks,write_L]
theorem bringGo_Q (l:Lg): ∀(ks:List Nat) (d:Dsk),(bringGo l ks d).1.Q.length≤d.Q.length+ks.length
 | [],d=>by
   simp only [bringGo]
   unfold Dsk.flush
   split
   · rw [step_Q];simp
   · simp
 |k::ks,d=>by
   have h1:=write_Q d (2+l.n+k) ((l.H k).getD [])
   simp only [bringGo]
   split
   · simp only [List.length_cons];omega
   · have:=bringGo_Q l ks (d.write (2+l.n+k) ((l.H k).getD []))
     simp only [List.length_cons]
     omega
set_option maxRecDepth 20000 in
set_option maxHeartbeats 4000000 in
theorem check_any {w:World} {F FD:Nat→Prop} {g p:Nat} {l:Lg} {d:Dsk} (h:LAt w F g p l) (hd:DAt w FD p d) (hF: ∀b,F b→¬ FD b) (hok':l.ok d) (hQ:d.Q.length≤999980000):
   Calls Tryz.prog 100 #[.pointer (some ⟨g,0,none⟩)] w fun e w'=>GPost w F FD g p (l.check d) e w':=by
 have hsy:=sync_any h hd hF
 have hsok:=sync_fit hok'.fit
 obtain ⟨sg,sn,se,snn,sH,st⟩:=sync_same l d
 have hLs:(l.sync d).2.L.length=d.L.length:=by
   unfold Lg.sync
   split
   · rfl
   · exact flush_L d
 have hQs:(l.sync d).2.Q.length≤d.Q.length:=by
   unfold Lg.sync
   split
   · exact Nat.le_refl _
   · unfold Dsk.flush
     split
     · rw [step_Q];exact Nat.le_refl _
     · simp
 obtain ⟨R,hR⟩: ∃R,l.check d=R:=⟨_,rfl⟩
 have hR0:=hR
 unfold Lg.check at hR0
 rw [hR]
 have hsok2:(l.sync d).1.ok (l.sync d).2:=hsok.ok (by rw [sn];exact hok'.small)
 have hbs:=bring_same (l:=l) (l':=(l.sync d).1) (l.sync d).2 snn sH
 rw [←hbs] at hR0
 rw [←sg, ←sn, ←se] at hR0
 generalize l.sync d=S at*
 obtain ⟨l1,d1⟩:=S
 simp only at*
 have HR:=Lib.hid hR0
 have HF:=Lib.hid hF
 have HLT:=Lib.hid h.lt
 have HDLT:=Lib.hid hd.lt
 have HOK:=Lib.hid hsok2
 have HFG:=Lib.hid h.fg
 have hgl:=h.lt g h.fg
 have hQ1:d1.Q.length≤999980000:=by omega
 clear h hd hR hR0 hok' hsok hsok2 sg sn se snn sH st hLs hQs hbs hF hQ
 go_enter Tryz.func100,Tryz.ntmps100
 go_wp2_with fail
 refine hsy.mono ?_
 rintro e w1 ⟨rfl,hL1,hD1,hm1⟩
 clear hsy
 by_cases he:l1.err≠0
 · have hne:((l1.err:Int) !=0)=true:=by rw [bne_iff_ne];omega
   have HR2:Hid ((l1,d1,l1.err)=R):=Lib.hid (by have:=HR.out;rwa [if_pos he] at this)
   have HL1:=Lib.hid hL1
   have HD1:=Lib.hid hD1
   have HM1:=Lib.hid hm1
   clear HR he hL1 hD1 hm1
   go_wp2
   go_ret
   rw [←HR2.out]
   exact ⟨rfl,F,FD,HL1.out,HD1.out,HM1.out,fun b h=> .inl h,fun b h=> .inl h,HF.out⟩
 have hne:((l1.err:Int) !=0)=false:=by rw [bne_eq_false_iff_eq];omega
 have HR1:Hid _:=Lib.hid (by have:=HR.out;rwa [if_neg he] at this)
 clear HR
 obtain ⟨m,L,clk,hb,hH,hmg,hLg⟩:=hL1.ex
 have c3:=cell_of (o:=3) hb rfl
 have hgen:=HOK.out.gen
 have hg63:(l1.gen:Int)≤1099511627775:=by omega
 by_cases hgn:1099511627775≤l1.gen
 · have hge:decide ((1099511627775:Int)≤(l1.gen:Int))=true:=by simp;omega
   have HR2:Hid (({l1 with err:=8},d1,8)=R):=Lib.hid (by have:=HR1.out;rwa [if_pos hgn] at this)
   have hst:=stays_any hL1 8
   have HD1:=Lib.hid hD1
   have HM1:=Lib.hid hm1
   clear HR1 hgn hL1 hD1 hm1 hb hH hmg hLg
   rw [show ((8:Nat):Int)=8 from rfl] at hst
   go_wp2_with fail
   refine hst.mono ?_
   rintro e w2 ⟨rfl,hL2,hm2⟩
   have HL2:=Lib.hid hL2
   have HM2:=Lib.hid hm2
   clear hst hL2 hm2 c3
   go_wp2
   go_ret
   rw [←HR2.out]
   refine ⟨rfl,F,FD,HL2.out,HD1.out.mod HM2.out fun b hb e=>HF.out g HFG.out (by rw [←e];exact hb),HM1.out.trans (T:=fun b=>F b∨FD b) HM2.out (fun _ h=>h) fun x _ h=> .inl (by rw [h];exact HFG.out),fun b h=> .inl h,fun b h=> .inl h,HF.out⟩
 have hge:decide ((1099511627775:Int)≤(l1.gen:Int))=false:=by simp;omega
 have HR2:Hid _:=Lib.hid (by have:=HR1.out;rwa [if_neg hgn] at this)
 clear HR1
 have hbr:=bring_any hL1 hD1 HF.out HOK.out (by omega)
 have hb2:=bringGo_two l1 (l1.keys d1) d1
 have hbL:=bringGo_L l1 (l1.keys d1) d1
 have hbQ:=bringGo_Q l1 (l1.keys d1) d1
 have hkl:(l1.keys d1).length≤4096:=by
   have:=hD1.ok.hi
   have hho:l1.homes d1=d1.L.length-2-l1.n:=rfl
   unfold Lg.keys
   exact Nat.le_trans (List.length_filter_le _ _) (by rw [List.length_range];omega)
 have hd1hi:=hD1.ok.hi
 have hnd:=HOK.out.nd
 have hbrd:l1.bring d1=bringGo l1 (l1.keys d1) d1:=rfl
 rw [←hbrd] at hb2 hbL hbQ
 obtain ⟨B,hB⟩: ∃B,l1.bring d1=B:=⟨_,rfl⟩
 rw [hB] at hbr HR2 hb2 hbL hbQ
 obtain ⟨d2,e2⟩:=B
 simp only at hbr HR2 hb2 hbL hbQ
 have hml:m<w1.heap.size:=lt_of_block hH.blk
 have hfm:=hH.fm
 have hgm:¬ m=g:=hmg
 have HLG:=Lib.hid hLg
 have HM1:=Lib.hid hm1
 have HW1:=Lib.hid hm1.size
 have HBK:=Lib.hid hb
 have HHH:=Lib.hid hH
 have hgen2:l1.gen<1099511627775:=by omega
 clear hgn hL1 hD1 hb hH hmg hLg hB hm1
 go_wp2_with fail
 refine hbr.mono ?_
 rintro e w2 ⟨rfl,FD2,hL2,hD2,hm2,hF2⟩
 clear hbr
 have hm2s:=hm2.size
 have hF2n: ∀x,F x→¬ FD2 x:=fun x hx hx'=>by
   rcases hF2 x hx' with h|h
   · exact HF.out x hx h
   · have:=HLT.out x hx;have:=HW1.out;omega
 have hM12:Mod (fun b=>F b∨FD b) w w2:=HM1.out.trans (T:=fun b=>F b∨FD b) hm2 (fun _ h=>h) fun x _ h=> .inr h
 have hF2': ∀b,FD2 b→FD b∨w.heap.size≤b:=fun b hb=>(hF2 b hb).imp id fun h=>Nat.le_trans HW1.out h
 by_cases he2:e2≠0
 · have hne2:((e2:Int) !=0)=true:=by rw [bne_iff_ne];omega
   have HR3:Hid (({l1 with err:=e2},d2,e2)=R):=Lib.hid (by have:=HR2.out;rwa [if_pos he2] at this)
   have hst:=stays_any hL2 e2
   have HD2:=Lib.hid hD2
   have HM2:=Lib.hid hM12
   have HF2:=Lib.hid hF2'
   have HFN:=Lib.hid hF2n
   clear HR2 he2 hL2 hD2 hm2 hF2 hM12 hF2' hF2n
   go_wp2_with fail
   refine hst.mono ?_
   rintro e w3 ⟨rfl,hL3,hm3⟩
   have HL3:=Lib.hid hL3
   have HM3:=Lib.hid hm3
   clear hst hL3 hm3 c3
   go_wp2
   go_ret
   rw [←HR3.out]
   refine ⟨rfl,F,FD2,HL3.out,HD2.out.mod HM3.out fun b hb e=>HFN.out g HFG.out (by rw [←e];exact hb),HM2.out.trans (T:=fun b=>F b∨FD b) HM3.out (fun _ h=>h) fun x _ h=> .inl (by rw [h];exact HFG.out),fun b h=> .inl h,HF2.out,HFN.out⟩
 have he0:e2=0:=by omega
 subst he0
 have HR3:Hid _:=Lib.hid (by have:=HR2.out;rwa [if_neg (by decide)] at this)
 clear HR2 he2 hb2
 have hgl1:g<w1.heap.size:=Nat.lt_of_lt_of_le hgl HW1.out
 obtain ⟨m2,L2,clk2,hbk2,hH2,hmg2,hLg2⟩:=hL2.ex
 have hg3:=cell_of (o:=3) hbk2 rfl
 have hg5:=cell_of (o:=5) hbk2 rfl
 have hg2:=cell_of (o:=2) hbk2 rfl
 have hS:w2.drew.cell? ⟨g,3,none⟩=some (.int .u64 (l1.gen:Nat))∧w2.drew.cell? ⟨g,5,none⟩=some (.int .u64 (l1.next:Nat))∧w2.drew.cell? ⟨g,2,none⟩=some (.int .u64 (l1.epoch:Nat)):=⟨hg3,hg5,hg2⟩
 have hglw:g<w2.drew.heap.size:=hL2.lt g HFG.out
 have hsmall:=HOK.out.small
 have hep:=HOK.out.epoch
 have HUN:Hid (IntKind.u64.wrap ((l1.gen:Nat)+1:Int)=((l1.gen+1:Nat):Int)):=Lib.hid (by rw [IntWalk.u64_in _ (by omega)];omega)
 go_upto_region 9 with fail
 refine wp_region_x (fun w'=>w'.cell? ⟨g,3,none⟩=some (.int .u64 (l1.gen:Nat))∧w'.cell? ⟨g,5,none⟩=some (.int .u64 (l1.next:Nat))∧w'.cell? ⟨g,2,none⟩=some (.int .u64 (l1.epoch:Nat))) [(0,1),(1,1),(2,1),(3,0),(4,1),(5,1),(6,1),(7,1),(8,0),(9,1),(10,1),(11,1),(12,0),(13,1),(14,2),(15,3)] (by kernel_rfl) (by kernel_rfl) (by intro d v c a w h;cases d<;>exact h) ?_
 iterate 3 (refine x_take rfl (fun K hK=> ?_);go_simp;refine hK _ ?_;clear hK K)
 refine x_read rfl hS (fun w' h=>exec_load1 ⟨⟨_,Tryz.underlying36,rfl⟩⟩ rfl h.1) ?_
 iterate 4 (refine x_take rfl (fun K hK=> ?_);go_simp;refine hK _ ?_;clear hK K)
 refine x_read rfl hS (fun w' h=>exec_load1 ⟨⟨_,Tryz.underlying36,rfl⟩⟩ rfl h.2.1) ?_
 iterate 3 (refine x_take rfl (fun K hK=> ?_);go_simp;refine hK _ ?_;clear hK K)
 refine x_read rfl hS (fun w' h=>exec_load1 ⟨⟨_,Tryz.underlying36,rfl⟩⟩ rfl h.2.2) ?_
 iterate 1 (refine x_take rfl (fun K hK=> ?_);go_simp;refine hK _ ?_;clear hK K)
 rw [HUN.out]
 refine x_show' rfl (fun K hK=> ?_)
 go_simp
 have hA: ∀z:Array Value,((w2.alloc (.cells z 139)).drew.cell? ⟨g,3,none⟩=some (.int .u64 (l1.gen:Nat))∧(w2.alloc (.cells z 139)).drew.cell? ⟨g,5,none⟩=some (.int .u64 (l1.next:Nat))∧(w2.alloc (.cells z 139)).drew.cell? ⟨g,2,none⟩=some (.int .u64 (l1.epoch:Nat))):=fun z=>
   ⟨(((Below.refl _ w2).alloc (Nat.le_refl _) _).cell (p:=⟨g,3,none⟩) hglw).trans hS.1,(((Below.refl _ w2).alloc (Nat.le_refl _) _).cell (p:=⟨g,5,none⟩) hglw).trans hS.2.1,(((Below.refl _ w2).alloc (Nat.le_refl _) _).cell (p:=⟨g,2,none⟩) hglw).trans hS.2.2⟩
 refine hK _ _ (hA _) ?_
 clear hK K hS hA
 have hzb:(w2.alloc (.cells #[.int .u64 0, .int .u64 0, .int .u64 0] 139)).drew.heap[w2.heap.size]?=some (.cells #[.int .u64 0, .int .u64 0, .int .u64 0] 139 (0,0)):=heap_alloc_at
 have hzz:(w2.alloc (.cells #[.int .u64 0, .int .u64 0, .int .u64 0] 139)).drew.heap.size=w2.heap.size+1:=by show (w2.alloc _).heap.size=_;simp
 have hzbe:Below w2.heap.size w2 (w2.alloc (.cells #[.int .u64 0, .int .u64 0, .int .u64 0] 139)).drew:=((Below.refl _ _).alloc (Nat.le_refl _) _).drew
 obtain ⟨w3,hr3,hbx,hm3⟩:=exec_storeB (ρ:=fun _=>undef) (ty:=0) (pos:= "") (after:= #[]) (x:= .tmp 0) (y:= .tmp 0) (aggHd ((l1.gen+1:Nat):Int) (l1.next:Nat) (l1.epoch:Nat)) hzb rfl (oneHd _ _ _)
 refine x_skip rfl (hr3 _ _ _ _ _ _ _ _ rfl rfl) ?_
 refine x_nil ?_
 have hb3:Below w2.heap.size w2 w3:=hzbe.trans (hm3.below (by omega) fun x hx e=>by omega)
 have hz3:w2.heap.size+1≤w3.heap.size:=by have:=hm3.size;omega
 clear hr3 hm3 hzb hzz hzbe
 have hL3:=hL2.below hb3
 have hD3:=(hD2.below hb3).drew
 have hlt2:=hL2.lt
 have hDlt2:=hD2.lt
 have hgl2:=hlt2 g HFG.out
 have hg3:w3.heap[g]?=_:=(hb3.block g hgl2).trans hbk2
 have hS:w3.drew.cell? ⟨g,0,none⟩=some (.pointer (some ⟨p,0,none⟩))∧w3.drew.cell? ⟨g,2,none⟩=some (.int .u64 (l1.epoch:Nat))∧Lies w3.drew w2.heap.size 0 #[.int .u64 ((l1.gen+1:Nat):Int), .int .u64 (l1.next:Nat), .int .u64 (l1.epoch:Nat)]:=⟨cell_of (w:=w3.drew) (o:=0) hg3 rfl,cell_of (w:=w3.drew) (o:=2) hg3 rfl,lies_of (w:=w3.drew) hbx⟩
 have hsv:=hsave_any hD3 0 l1.epoch ⟨l1.gen+1,l1.next,l1.epoch⟩ (by omega) hep (by simp only;omega) (Nat.lt_of_lt_of_le hsmall (by decide)) (Nat.lt_of_le_of_lt hep (by decide)) (by omega)
 rw [show ((0:Nat):Int)=0 from rfl] at hsv
 have hs2:=save_two d2 0 l1.epoch ⟨l1.gen+1,l1.next,l1.epoch⟩
 obtain ⟨V,hV⟩: ∃V,d2.save 0 l1.epoch ⟨l1.gen+1,l1.next,l1.epoch⟩=V:=⟨_,rfl⟩
 rw [hV] at hsv HR3 hs2
 obtain ⟨d3,e3⟩:=V
 simp only at hsv HR3 hs2
 have HBX:=Lib.hid hbx
 have HB3:=Lib.hid hb3
 have HZ3:=Lib.hid hz3
 have HL3:=Lib.hid hL3
 have HM12:=Lib.hid hM12
 have HF2:=Lib.hid hF2'
 have HF2n:=Lib.hid hF2n
 have HD2L:=Lib.hid hDlt2
 have HL2L:=Lib.hid hlt2
 clear hV hbx hb3 hL3 hD3 hL2 hD2 hbk2 hH2 hmg2 hLg2 hM12 hF2' hF2n hm2 hF2 hg5 hg2 hg3 c3 hDlt2 hlt2
 go_upto_region 10 with fail
 refine wp_region_x (fun w'=>w'.cell? ⟨g,0,none⟩=some (.pointer (some ⟨p,0,none⟩))∧w'.cell? ⟨g,2,none⟩=some (.int .u64 (l1.epoch:Nat))∧Lies w' w2.heap.size 0 #[.int .u64 ((l1.gen+1:Nat):Int), .int .u64 (l1.next:Nat), .int .u64 (l1.epoch:Nat)]) [(0,1),(1,1),(2,1),(3,0),(4,1),(5,1),(6,1),(7,0),(8,0),(9,2),(10,1)] (by kernel_rfl) (by kernel_rfl) (by intro d v c a w h;cases d<;>exact h) ?_
 iterate 3 (refine x_take rfl (fun K hK=> ?_);go_simp;refine hK _ ?_;clear hK K)
 refine x_read rfl hS (fun w' h=>exec_load1 ⟨⟨_,Tryz.underlying25,rfl⟩⟩ rfl h.1) ?_
 iterate 3 (refine x_take rfl (fun K hK=> ?_);go_simp;refine hK _ ?_;clear hK K)
 refine x_read rfl hS (fun w' h=>exec_load1 ⟨⟨_,Tryz.underlying36,rfl⟩⟩ rfl h.2.1) ?_
 refine x_read rfl hS (fun w' h=>exec_loadA (aggHd _ _ _) rfl h.2.2) ?_
 refine x_show' rfl (fun K hK=> ?_)
 go_simp
 refine hsv.mono ?_
 rintro e w4 ⟨rfl,FD4,hD4,hm4,hF4⟩
 have hz34:w3.heap.size≤w4.heap.size:=hm4.size
 have hL4:LAt w4 F g p l1:=(HL3.out.below (Below.refl _ _).drew).mod hm4 HF2n.out
 have hbn:¬ FD2 w2.heap.size:=fun h=>by have:=HD2L.out _ h;omega
 have hbx4:w4.heap[w2.heap.size]?=_:=(hm4.block w2.heap.size (by show w2.heap.size<w3.heap.size;have:=HZ3.out;omega) hbn).trans HBX.out
 have hg4:=hm4.block g (by show g<w3.heap.size;have:=HZ3.out;omega) (HF2n.out g HFG.out)
 refine hK _ _ ⟨(World.cell?_of_block (a:=⟨g,0,none⟩) hg4).trans hS.1,(World.cell?_of_block (a:=⟨g,2,none⟩) hg4).trans hS.2.1,lies_of hbx4⟩ ?_
 clear hK K hS hsv hg4
 iterate 1 (refine x_take rfl (fun K hK=> ?_);go_simp;refine hK _ ?_;clear hK K)
 refine x_nil ?_
 have hw12:w1.heap.size≤w2.heap.size:=hm2s
 have hM14:Mod (fun b=>F b∨FD b) w w4:=(HM12.out.trans (T:=fun b=>F b∨FD b) (Mod.of_below HB3.out) (fun _ h=>h) fun x hx h=>absurd hx (Nat.not_lt.2 (Nat.le_trans (Nat.le_trans HW1.out hw12) h))).drew.trans (T:=fun b=>F b∨FD b) hm4 (fun _ h=>h) fun x hx h=>by
   rcases HF2.out x h with h|h
   · exact .inr h
   · exact absurd hx (Nat.not_lt.2 h)
 have hF4': ∀b,FD4 b→FD b∨w.heap.size≤b:=fun b hb=>by
   rcases hF4 b hb with h|h
   · exact HF2.out b h
   · right
     have h:w3.heap.size≤b:=h
     have:=HW1.out
     have:=HZ3.out
     omega
 have hF4n: ∀x,F x→¬ FD4 x:=fun x hx hx'=>by
   rcases hF4 x hx' with h|h
   · exact HF2n.out x hx h
   · have h:w3.heap.size≤x:=h
     have:=HL2L.out x hx
     have:=HZ3.out
     omega
 have HM14:=Lib.hid hM14
 have HF4:=Lib.hid hF4'
 have HF4n:=Lib.hid hF4n
 have HD4:=Lib.hid hD4
 clear hM14 hF4' hF4n hD4 hm4 hF4
 by_cases he3:e3≠0
 · have hne3:((e3:Int) !=0)=true:=by rw [bne_iff_ne];omega
   have HR4:Hid (({l1 with err:=e3},d3,e3)=R):=Lib.hid (by have:=HR3.out;rwa [if_pos he3] at this)
   have hst:=stays_any hL4 e3
   clear HR3 he3 hL4 hbx4
   go_wp2_with fail
   refine hst.mono ?_
   rintro e w5 ⟨rfl,hL5,hm5⟩
   have HL5:=Lib.hid hL5
   have HM5:=Lib.hid hm5
   clear hst hL5 hm5
   go_wp2
   go_ret
   rw [←HR4.out]
   refine ⟨rfl,F,FD4,HL5.out,HD4.out.mod HM5.out fun b hb e=>HF4n.out g HFG.out (by rw [←e];exact hb),HM14.out.trans (T:=fun b=>F b∨FD b) HM5.out (fun _ h=>h) fun x _ h=> .inl (by rw [h];exact HFG.out),fun b h=> .inl h,HF4.out,HF4n.out⟩
 have he30:e3=0:=by omega
 subst he30
 have HR4:Hid (({l1 with gen:=l1.gen+1,tail:=l1.next,H:=fun _=>none},d3,0)=R):=Lib.hid (by have:=HR3.out;rwa [if_neg (by decide)] at this)
 clear HR3 he3 hs2
 obtain ⟨m4,L4,clk4,hbk4,hH4,hmg4,hLg4⟩:=hL4.ex
 have hlt4:=hL4.lt
 have hbg:w2.heap.size≠g:=by omega
 have hS:w4.drew.cell? ⟨w2.heap.size,0,none⟩=some (.int .u64 ((l1.gen+1:Nat):Int))∧w4.drew.cell? ⟨w2.heap.size,1,none⟩=some (.int .u64 (l1.next:Nat)):=⟨cell_of (w:=w4.drew) (o:=0) hbx4 rfl,cell_of (w:=w4.drew) (o:=1) hbx4 rfl⟩
 have k0:w4.drew.heap[g]?=_:=hbk4
 have g3:=cell_of (o:=3) k0 rfl
 have f3:=free_of (o:=3) k0
 go_upto_region 13 with fail
 refine wp_region_x (fun w'=>w'.cell? ⟨w2.heap.size,0,none⟩=some (.int .u64 ((l1.gen+1:Nat):Int))∧w'.cell? ⟨w2.heap.size,1,none⟩=some (.int .u64 (l1.next:Nat))) [(0,1),(1,1),(2,1),(3,0),(4,1),(5,0),(6,1),(7,1),(8,2),(9,1),(10,1),(11,3)] (by kernel_rfl) (by kernel_rfl) (by intro d v c a w h;cases d<;>exact h) ?_
 iterate 3 (refine x_take rfl (fun K hK=> ?_);go_simp;refine hK _ ?_;clear hK K)
 refine x_read rfl hS (fun w' h=>exec_load1 ⟨⟨_,Tryz.underlying36,rfl⟩⟩ rfl h.1) ?_
 iterate 1 (refine x_take rfl (fun K hK=> ?_);go_simp;refine hK _ ?_;clear hK K)
 refine x_read rfl hS (fun w' h=>exec_load1 ⟨⟨_,Tryz.underlying36,rfl⟩⟩ rfl h.2) ?_
 iterate 2 (refine x_take rfl (fun K hK=> ?_);go_simp;refine hK _ ?_;clear hK K)
 have k1:=heap_setCell_at (w:=w4.drew) (o:=3) (v:= .int .u64 ((l1.gen+1:Nat):Int)) k0
 have m1:Mod (fun b=>b=g) w4.drew (w4.drew.setCell ⟨g,3,none⟩ (.int .u64 ((l1.gen+1:Nat):Int))):=(Mod.refl _ _).setCell _ _ fun _=>rfl
 have s1:=And.intro (cell_mod hS.1 m1 hbg) (cell_mod hS.2 m1 hbg)
 refine x_skipS rfl (exec_store1 (v:= .int .u64 ((l1.gen+1:Nat):Int)) ⟨⟨_,Tryz.underlying36,rfl⟩⟩ (by kernel_rfl) rfl rfl rfl g3 f3) s1 ?_
 generalize w4.drew.setCell ⟨g,3,none⟩ (.int .u64 ((l1.gen+1:Nat):Int))=W1 at*
 iterate 2 (refine x_take rfl (fun K hK=> ?_);go_simp;refine hK _ ?_;clear hK K)
 have k2:=heap_setCell_at (o:=4) (v:= .int .u64 (l1.next:Nat)) k1
 have m2':Mod (fun b=>b=g) W1 (W1.setCell ⟨g,4,none⟩ (.int .u64 (l1.next:Nat))):=(Mod.refl _ _).setCell _ _ fun _=>rfl
 refine x_skip rfl (exec_store1 (v:= .int .u64 (l1.next:Nat)) ⟨⟨_,Tryz.underlying36,rfl⟩⟩ (by kernel_rfl) rfl rfl rfl (cell_of (o:=4) k1 rfl) (free_of k1)) ?_
 generalize W1.setCell ⟨g,4,none⟩ (.int .u64 (l1.next:Nat))=W2 at*
 refine x_nil ?_
 have hmm:Mod (fun b=>b=g) w4 W2:=(Mod.refl _ w4).drew.trans (T:=fun b=>b=g) (m1.trans m2' (fun _ h=>h) fun _ _ h=>h) (fun _ h=>h) fun _ _ h=>h
 have hmap:W2.heap[m4]?=some (.map (ents encI L4) clk4):=hmm.heap hH4.blk hmg4
 have c6:=cell_of (o:=6) k2 rfl
 have hm5:=setObjW_mod (w:=W2) m4 (.map (ents encI ([]:Ents Int)) clk4)
 have hml4:m4<W2.heap.size:=lt_of_block hmap
 have hat:=setObjW_at (w:=W2) (o:= .map (ents encI ([]:Ents Int)) clk4) hml4
 obtain ⟨W3,hW3⟩: ∃W3,setObjW W2 m4 (.map (ents encI ([]:Ents Int)) clk4)=W3:=⟨_,rfl⟩
 have hfin:LAt W3 F g p {l1 with gen:=l1.gen+1,tail:=l1.next,H:=fun _=>none}:=by
   rw [←hW3]
   exact ⟨⟨m4, [],clk4,hm5.heap k2 (fun e=>hmg4 e.symm),⟨hat,WF.nil clk4,(fun e he=>by cases he),(fun k hk=>absurd rfl hk),hH4.fm⟩,hmg4,fun e he=>by cases he⟩,HFG.out,fun b hb=>Nat.lt_of_lt_of_le (hlt4 b hb) (Nat.le_trans hmm.size hm5.size)⟩
 have hM5:Mod (fun b=>F b∨FD b) w W3:=by
   rw [←hW3]
   exact (HM14.out.trans (T:=fun b=>F b∨FD b) hmm (fun _ h=>h) fun x _ h=> .inl (by rw [h];exact HFG.out)).trans (T:=fun b=>F b∨FD b) hm5 (fun _ h=>h) fun x _ h=> .inl (by rw [h];exact hH4.fm)
 have hD5:DAt W3 FD4 p d3:=by
   rw [←hW3]
   exact (HD4.out.mod hmm fun b hb e=>HF4n.out g HFG.out (by rw [←e];exact hb)).mod hm5 fun b hb e=>HF4n.out m4 hH4.fm (by rw [←e];exact hb)
 have HFIN:=Lib.hid hfin
 have HM5:=Lib.hid hM5
 have HD5:=Lib.hid hD5
 have HMAP:=Lib.hid hmap
 have HW3:=Lib.hid hW3
 clear hS k0 k1 k2 m1 m2' s1 g3 f3 hmm hmap hm5 hat hfin hM5 hD5 hbk4 hH4 hLg4 hL4 hbx4 hW3 hlt4
 go_wp2_with (first
   |((with_reducible refine wpList_exec rfl (exec_clearMap Tryz.underlying133 HMAP.out ?_) ?_);rfl;go_frame)
   |fail)
 go_ret
 rw [←HR4.out,HW3.out]
 exact ⟨rfl,F,FD4,HFIN.out,HD5.out,HM5.out,fun b h=> .inl h,HF4.out,HF4n.out⟩
structure _root_.Go.Tn.Dk.Dsk.calm (d:Dsk):Prop where
 fuse:d.fused=false
 on:d.off=false
theorem _root_.Go.Tn.Dk.Dsk.calm.step {d:Dsk} (h:Dsk.calm d):d.step=d:=by
 unfold Dsk.step
 rw [if_pos (.inr h.fuse)]
theorem _root_.Go.Tn.Dk.Dsk.calm.dead {d:Dsk} (h:Dsk.calm d):d.dead=0:=by
 unfold Dsk.dead
 rw [h.step,if_neg (by rw [h.on];decide)]
theorem _root_.Go.Tn.Dk.Dsk.calm.write {d:Dsk} (h:Dsk.calm d) (i:Nat) (b:List Nat):d.write i b={d with Q:=d.Q++ [(i,b)]}:=by
 unfold Dsk.write
 rw [h.step,if_neg (by rw [h.on];decide)]
theorem _root_.Go.Tn.Dk.Dsk.calm.flush {d:Dsk} (h:Dsk.calm d):d.flush={d with L:=laid d.Q d.L,Q:= []}:=by
 unfold Dsk.flush
 rw [h.step,if_neg (by rw [h.on];decide)]
def homeQ (l:Lg) (ks:List Nat):List (Nat×List Nat):=ks.map fun k=>(2+l.n+k,(l.H k).getD [])
theorem bringGo_calm (l:Lg): ∀(ks:List Nat) (d:Dsk),Dsk.calm d→bringGo l ks d=({d with L:=laid (d.Q++homeQ l ks) d.L,Q:= []},0)
 | [],d,h=>by
   simp only [bringGo,homeQ,List.map_nil,List.append_nil]
   rw [h.flush,h.dead]
 |k::ks,d,h=>by
   have hc:Dsk.calm {d with Q:=d.Q++ [(2+l.n+k,(l.H k).getD [])]}:=⟨h.fuse,h.on⟩
   simp only [bringGo]
   rw [if_neg (by rw [h.dead];decide),h.write,bringGo_calm l ks _ hc]
   simp [homeQ]
theorem save_calm {d:Dsk} (h:Dsk.calm d) (a ep:Nat) (x:Hd):d.save a ep x=({d with L:=laid (d.Q++ [(a+x.gen %2,sealB (headPc ep x))]) d.L,Q:= []},0):=by
 have hc:Dsk.calm {d with Q:=d.Q++ [(a+x.gen %2,sealB (headPc ep x))]}:=⟨h.fuse,h.on⟩
 unfold Dsk.save
 rw [h.step,if_neg (by rw [h.on];decide),h.write,hc.flush,hc.dead]
theorem sync_calm {l:Lg} {d:Dsk} (h:Dsk.calm d) (he:l.err=0):l.sync d=(l,d.flush):=by
 unfold Lg.sync
 rw [if_neg (by omega),h.dead]
 obtain ⟨a,b,c,e,f,g,i⟩:=l
 simp only at he
 subst he
 rfl
theorem unpack_headD (t f:Nat):unpack (headD t f)=bitsN t 40++bitsN f 24:=by
 have hl:(bitsN t 40++bitsN f 24).length=64:=by rw [List.length_append,bitsN_len,bitsN_len]
 have hu:=unpack_pack (bitsN t 40++bitsN f 24)
 rw [hl] at hu
 exact hu.trans (List.append_nil _)
theorem headD_nums (t f:Nat):natOf ((unpack (headD t f)).take 40)=t %2 ^ 40∧natOf (((unpack (headD t f)).drop 40).take 24)=f %2 ^ 24:=by
 rw [unpack_headD]
 generalize ha:bitsN t 40=a
 generalize hb:bitsN f 24=b
 have la:a.length=40:=by rw [←ha,bitsN_len]
 have lb:b.length=24:=by rw [←hb,bitsN_len]
 have e1:(a++b).take 40=a:=by rw [←la,List.take_left]
 have e2:((a++b).drop 40).take 24=b:=by rw [←la,List.drop_left, ←lb,List.take_length]
 rw [e1,e2, ←ha, ←hb,natOf_bitsN,natOf_bitsN]
 exact ⟨rfl,rfl⟩
theorem headP_headPc {ep:Nat} {h:Hd} {i:Nat} (hi:h.gen %2=i):headP (headPc ep h) i=some ⟨h.gen,natOf ((unpack (headD h.tail h.floor)).take 40),natOf (((unpack (headD h.tail h.floor)).drop 40).take 24)⟩:=by
 have hc:(headPc ep h).fi=true∧(headPc ep h).la=true∧(headPc ep h).ct %2=i∧(headPc ep h).da.length=8:=⟨rfl,rfl,hi,headD_len _ _⟩
 unfold headP
 rw [if_pos hc]
 rfl
theorem hdB_of {bs:List Nat} {p:Pc} (h:unsealB bs=some p) (i:Nat):hdB bs i=headP p i:=by
 unfold hdB
 rw [h]
theorem headP_some {ep:Nat} {g t f:Nat} (ht:t<2 ^ 40) (hf:f<2 ^ 24) {i:Nat} (hi:g %2=i):headP (headPc ep ⟨g,t,f⟩) i=some ⟨g,t,f⟩:=by
 obtain ⟨h1,h2⟩:=headD_nums t f
 rw [Nat.mod_eq_of_lt ht] at h1
 rw [Nat.mod_eq_of_lt hf] at h2
 have hp:=headP_headPc (ep:=ep) (h:=⟨g,t,f⟩) hi
 simp only at hp
 rw [h1,h2] at hp
 exact hp
theorem hd_seal {ep:Nat} {g t f:Nat} (he:ep≤16777215) (hg:g≤1099511627775) (ht:t<2 ^ 40) (hf:f<2 ^ 24) {i:Nat} (hi:g %2=i):hdB (sealB (headPc ep ⟨g,t,f⟩)) i=some ⟨g,t,f⟩:=
 (hdB_of (unseal_seal (headPc_ok he hg)) i).trans (headP_some ht hf hi)
theorem newer_le {a b:Option Hd} {z:Hd} (h:newer a b=some z):(∀x,a=some x→x.gen≤z.gen)∧ ∀y,b=some y→y.gen≤z.gen:=by
 unfold newer at h
 cases b with
 |none=>
   simp only at h
   subst h
   exact ⟨fun x hx=>(by cases hx;exact Nat.le_refl _),fun y hy=>(by cases hy)⟩
 |some y=>
   simp only at h
   cases a with
   |none=>
     simp only at h
     cases h
     exact ⟨fun x hx=>(by cases hx),fun y hy=>(by cases hy;exact Nat.le_refl _)⟩
   |some x=>
     simp only at h
     split at h
     · cases h
       exact ⟨fun x hx=>(by cases hx;omega),fun y hy=>(by cases hy;exact Nat.le_refl _)⟩
     · cases h
       exact ⟨fun x hx=>(by cases hx;exact Nat.le_refl _),fun y hy=>(by cases hy;omega)⟩
theorem newer_none {a b:Option Hd} (h:newer a b=none):a=none∧b=none:=by
 unfold newer at h
 cases b with
 |none=>exact ⟨h,rfl⟩
 |some y=>
   cases a with
   |none=>cases h
   |some x=>
     simp only at h
     split at h<;>cases h
theorem HeadIs.le {d:Dsk} {gen tail F:Nat} (h:HeadIs d gen tail F): ∀i,i<2→ ∀x,hdB (d.get i) i=some x→x.gen≤gen:=by
 have key:(∀x,hdB (d.get 0) 0=some x→x.gen≤gen)∧ ∀x,hdB (d.get 1) 1=some x→x.gen≤gen:=by
   rcases h with ⟨h, -⟩|⟨h, -⟩
   · exact newer_le (z:=⟨gen,tail,F⟩) h
   · obtain ⟨h1,h2⟩:=newer_none (a:=hdB (d.get 0) 0) (b:=hdB (d.get (0+1)) 1) h
     exact ⟨fun x hx=>(by rw [h1] at hx;cases hx),fun x hx=>(by rw [show d.get 1=d.get (0+1) from rfl,h2] at hx;cases hx)⟩
 intro i hi
 match i,hi with
 |0,_=>exact key.1
 |1,_=>exact key.2
theorem HeadIs.save {d d':Dsk} {gen tail F ep nt:Nat} (h:HeadIs d gen tail F) (he:ep≤16777215) (hg:gen+1≤1099511627775) (ht:nt<2 ^ 40)
   (h1:d'.get ((gen+1) %2)=sealB (headPc ep ⟨gen+1,nt,ep⟩)) (h2: ∀i,i<2→i≠(gen+1) %2→d'.get i=d.get i):HeadIs d' (gen+1) nt ep:=by
 have hs:=hd_seal (ep:=ep) (g:=gen+1) (t:=nt) (f:=ep) he hg ht (Nat.lt_of_le_of_lt he (by decide)) (i:=(gen+1) %2) rfl
 have hlt:=Nat.mod_lt (gen+1) (show 0<2 by decide)
 refine .inl ⟨?_,h1⟩
 have hl:=h.le
 show newer (hdB (d'.get 0) 0) (hdB (d'.get 1) 1)=_
 by_cases hp:(gen+1) %2=0
 · rw [hp] at h1 hs h2
   rw [h1,hs,h2 1 (by decide) (by decide)]
   cases hb:hdB (d.get 1) 1 with
   |none=>rfl
   |some y=>
     have:=hl 1 (by decide) y hb
     unfold newer
     simp only
     rw [if_neg (by omega)]
 · have hp1:(gen+1) %2=1:=by omega
   rw [hp1] at h1 hs h2
   rw [h1,hs,h2 0 (by decide) (by decide)]
   cases hb:hdB (d.get 0) 0 with
   |none=>rfl
   |some y=>
     have:=hl 0 (by decide) y hb
     unfold newer
     simp only
     rw [if_pos (by omega)]
theorem keys_seen {l:Lg} (ks:List Nat) (hks: ∀k∈ks, ∃b,l.H k=some b) (k:Nat) (s:List Nat):seenQ (homeQ l ks) (2+l.n+k) s=if k∈ks then (l.H k).getD [] else s:=by
 by_cases hk:k∈ks
 · rw [if_pos hk]
   obtain ⟨x,hx,h1,h2⟩:=seen_some (homeQ l ks) (2+l.n+k) s ⟨_,List.mem_map.2 ⟨k,hk,rfl⟩,rfl⟩
   obtain ⟨j,hj,rfl⟩:=List.mem_map.1 hx
   rw [h2]
   simp only at h1
   rw [show j=k by omega]
 · rw [if_neg hk]
   refine seen_no _ _ _ fun x hx=> ?_
   obtain ⟨j,hj,rfl⟩:=List.mem_map.1 hx
   simp only
   intro e
   exact hk (by rw [show k=j by omega];exact hj)
theorem homeQ_low {l:Lg} (ks:List Nat) {i:Nat} (hi:i<2+l.n) (s:List Nat):seenQ (homeQ l ks) i s=s:=by
 refine seen_no _ _ _ fun x hx=> ?_
 obtain ⟨j,hj,rfl⟩:=List.mem_map.1 hx
 simp only
 omega
theorem Base.freed {d d':Dsk} {l:Lg} {F:Nat} {D:List Rc} (h:Base d l F D) (hok:l.fit d) (hd:d.ok) (hnx:l.next=endCt l.tail D) (hsm:l.next<1099511627776) (hg:l.gen+1≤1099511627775) (hL:d'.L.length=d.L.length)
   (h1:d'.get ((l.gen+1) %2)=sealB (headPc l.epoch ⟨l.gen+1,l.next,l.epoch⟩)) (h2: ∀i,i<2+l.n→i≠(l.gen+1) %2→d'.get i=d.get i) (H':Nat→Option (List Nat)) (e:Nat):
   Base d' {l with gen:=l.gen+1,tail:=l.next,H:=H',err:=e} l.epoch []:=by
 have hlt:=Nat.mod_lt (l.gen+1) (show 0<2 by decide)
 have hn2:=hok.n2
 refine ⟨h.hd.save hok.epoch hg hsm h1 (fun i hi hne=>h2 i (by omega) hne),trivial,(fun q hq=>by cases hq),Nat.le_add_right _ _,Nat.le_refl _, .inl rfl,fun c q c1 c2 hq=> ?_⟩
 have c1:l.next≤c:=c1
 have c2:c<l.next+l.n:=c2
 have hq:pieceB d' l.n c=some q:=hq
 show q.ep<l.epoch
 have hge:d'.get (2+c %l.n)=d.get (2+c %l.n):=h2 _ (by have:=Nat.mod_lt c (show 0<l.n by omega);omega) (by omega)
 rw [pieceB_same hge] at hq
 by_cases hc:c<l.tail+l.n
 · exact h.old c q (by omega) hc hq
 · exfalso
   have h3:=hok.tail
   have h4:=hok.next
   obtain ⟨q',hq',hct⟩:=allPcs_all D l.tail (c-l.n) (by omega) (by omega)
   have hs:=h.slots q' hq'
   have hsl:(c-l.n) %l.n=c %l.n:=by
     conv=>rhs;rw [show c=c-l.n+l.n by omega]
     rw [Nat.add_mod_right]
   rw [hct,hsl] at hs
   have hok':=rise_ok D _ _ h.rise q' hq'
   obtain ⟨hg2,hct2⟩:=pieceB_get hq
   have:some q'=some q:=by
     have hu:=unseal_seal hok'
     have hu2:=congrArg unsealB hg2
     rw [hs,hu] at hu2
     have hqok:=(pieceB_ok (n:=l.n) hd (by omega) (by have:=hok.nd;omega) hq).1
     rw [unseal_seal hqok] at hu2
     exact hu2
   cases this
   omega
theorem putPcs_calm (n:Nat): ∀(ps:List Pc) (d:Dsk),Dsk.calm d→putPcs n ps d=({d with Q:=d.Q++ringQ n ps},0)
 | [],d,_=>by simp [putPcs,ringQ]
 |q::r,d,h=>by
   have hc:Dsk.calm {d with Q:=d.Q++ [(2+q.ct %n,sealB q)]}:=⟨h.fuse,h.on⟩
   simp only [putPcs]
   rw [if_neg (by rw [h.dead];decide),h.write,putPcs_calm n r _ hc]
   simp [ringQ]
theorem write_calm {l:Lg} {d:Dsk} {ps:List Pt} (h:Dsk.calm d) (he:l.err=0) (ht:transB ps (l.homes d)=true) {pcs:List Pc} (hc:cutB l.epoch l.next (recB ps)= .ok pcs) (hf:pcs.length≤l.free):
   l.write d ps=({l with next:=l.next+pcs.length,H:=takeH l.H ps},{d with Q:=d.Q++ringQ l.n pcs},0):=by
 unfold Lg.write
 rw [if_neg (by omega),if_neg (by rw [ht];decide),hc]
 simp only
 rw [if_neg (by omega),putPcs_calm _ _ _ h]
 simp
theorem write_full {l:Lg} {d:Dsk} {ps:List Pt} (he:l.err=0) (ht:transB ps (l.homes d)=true) {pcs:List Pc} (hc:cutB l.epoch l.next (recB ps)= .ok pcs) (hf:l.free<pcs.length):l.write d ps=(l,d,8):=by
 unfold Lg.write
 rw [if_neg (by omega),if_neg (by rw [ht];decide),hc]
 simp only
 rw [if_pos hf]
theorem write_arg {l:Lg} {d:Dsk} {ps:List Pt} (he:l.err=0) (ht:transB ps (l.homes d)=false):l.write d ps=(l,d,2):=by
 unfold Lg.write
 rw [if_neg (by omega),if_pos ht]
theorem cut_ok {ps:List Pt} {homes ep ct:Nat} (ht:transB ps homes=true) (he:ep≤16777215) (hc:ct+1000≤1099511627775):cutB ep ct (recB ps)= .ok (cutL ep ct (recB ps)):=by
 have hl:=recB_le ht
 unfold cutB
 rw [if_neg (by unfold cutN;omega),if_neg (by omega)]
theorem recN {ps:List Pt} {homes:Nat} (ht:transB ps homes=true):cutN (recB ps)=((recB ps).length+105)/106∧1≤((recB ps).length+105)/106∧(recB ps).length≤4000:=by
 have h1:=(transB_iff ps homes).1 ht
 have h2:=recB_len fun p hp=>(h1.2.2.1 p hp).2.2
 have h3:=recB_le ht
 unfold cutN
 omega
theorem mem_keys' {l:Lg} {d:Dsk} {k:Nat} (hk:k<l.homes d):k∈l.keys d↔ ∃b,l.H k=some b:=by
 unfold Lg.keys
 rw [List.mem_filter,List.mem_range]
 exact ⟨fun h=>Option.isSome_iff_exists.1 h.2,fun h=>⟨hk,Option.isSome_iff_exists.2 h⟩⟩
theorem check_calm {d:Dsk} {l:Lg} {F:Nat} {D P:List Rc} (h:Rg d l F D P) (hc:Dsk.calm d) (he:l.err=0) (hg:l.gen+1≤1099511627775) (hs:l.next<1099511627776):
   ∃d',l.check d=({l with gen:=l.gen+1,tail:=l.next,H:=fun _=>none},d',0)∧Dsk.calm d'∧d'.L.length=d.L.length∧d'.Q= []∧(d'.ok→Rg d' {l with gen:=l.gen+1,tail:=l.next,H:=fun _=>none} l.epoch [] [])∧(∀k,k<l.homes d→d'.get (2+l.n+k)=l.home d k)∧ ∀i,i<2+l.n→d'.get i=sealB (headPc l.epoch ⟨l.gen+1,l.next,l.epoch⟩)∨d'.get i=d.get i:=by
 have hn2:=h.fit.n2
 have hnd:=h.fit.nd
 have h1:Rg d.flush l F (D++P) []:=by
   rw [hc.flush]
   refine h.flush rfl rfl ?_
   have:=h.dok.flush
   rwa [hc.flush] at this
 have hLf:d.flush.L.length=d.L.length:=flush_L d
 have hcf:Dsk.calm d.flush:=by rw [hc.flush];exact ⟨hc.fuse,hc.on⟩
 have hQf:d.flush.Q= []:=by rw [hc.flush]
 have hgf: ∀i,i<d.L.length→d.flush.get i=d.get i:=fun i hi=>by
   rw [hc.flush]
   exact flush_get rfl rfl hi
 generalize hd1:d.flush=d1 at*
 have hbr:l.bring d1=({d1 with L:=laid (homeQ l (l.keys d1)) d1.L,Q:= []},0):=by
   unfold Lg.bring
   rw [bringGo_calm l _ d1 hcf,hQf,List.nil_append]
 obtain ⟨d2,hd2⟩: ∃d2:Dsk,{d1 with L:=laid (homeQ l (l.keys d1)) d1.L,Q:= []}=d2:=⟨_,rfl⟩
 rw [hd2] at hbr
 have hc2:Dsk.calm d2:=by rw [←hd2];exact ⟨hcf.fuse,hcf.on⟩
 have hL2:d2.L=laid (homeQ l (l.keys d1)) d1.L:=by rw [←hd2]
 have hQ2:d2.Q= []:=by rw [←hd2]
 have hsv:=save_calm hc2 0 l.epoch ⟨l.gen+1,l.next,l.epoch⟩
 rw [hQ2,List.nil_append,Nat.zero_add] at hsv
 obtain ⟨d3,hd3⟩: ∃d3:Dsk,{d2 with L:=laid [((l.gen+1) %2,sealB (headPc l.epoch ⟨l.gen+1,l.next,l.epoch⟩))] d2.L,Q:= []}=d3:=⟨_,rfl⟩
 have hsv':d2.save 0 l.epoch ⟨l.gen+1,l.next,l.epoch⟩=(d3,0):=by rw [hsv, ←hd3]
 have hL3:d3.L=laid [((l.gen+1) %2,sealB (headPc l.epoch ⟨l.gen+1,l.next,l.epoch⟩))] d2.L:=by rw [←hd3]
 have hQ3:d3.Q= []:=by rw [←hd3]
 have hc3:Dsk.calm d3:=by rw [←hd3];exact ⟨hc2.fuse,hc2.on⟩
 have hl2:d2.L.length=d1.L.length:=by rw [hL2,laid_len]
 have hl3:d3.L.length=d1.L.length:=by rw [hL3,laid_len,hl2]
 have hchk:l.check d=({l with gen:=l.gen+1,tail:=l.next,H:=fun _=>none},d3,0):=by
   have hsy:=sync_calm hc he
   rw [hd1] at hsy
   unfold Lg.check
   rw [hsy]
   simp only
   rw [if_neg (by omega),if_neg (by omega),hbr]
   simp only
   rw [if_neg (by decide),hsv']
   simp
 have hg3: ∀i,i<d1.L.length→d3.get i=if (l.gen+1) %2=i then sealB (headPc l.epoch ⟨l.gen+1,l.next,l.epoch⟩) else seenQ (homeQ l (l.keys d1)) i (d1.get i):=fun i hi=>by
   have e1:d3.get i=d3.L.getD i []:=by unfold Dsk.get;rw [hQ3];rfl
   have e2:d1.get i=d1.L.getD i []:=by unfold Dsk.get;rw [hQf];rfl
   rw [e1,hL3,laid_get _ _ _ (by omega),hL2,laid_get _ _ _ hi, ←e2]
   rfl
 have hgl:=Nat.mod_lt (l.gen+1) (show 0<2 by decide)
 have hb1:=h1.base
 rw [last_of_none hQf] at hb1
 have hnx1:l.next=endCt l.tail (D++P):=h.nx
 refine ⟨d3,hchk,hc3,by rw [hl3,hLf],hQ3,fun hok3=> ?_,fun k hk=> ?_,fun i hi=> ?_⟩
 · have hbf:Base d3 {l with gen:=l.gen+1,tail:=l.next,H:=fun _=>none,err:=l.err} l.epoch []:=by
     refine hb1.freed h1.fit h1.dok hnx1 hs hg hl3 ?_ ?_ _ _
     · rw [hg3 _ (by omega),if_pos rfl]
     · intro i hi hne
       rw [hg3 i (by omega),if_neg (fun e=>hne e.symm),homeQ_low _ hi]
   have hf1:=h1.fit.disk (d':=d3) hl3
   refine ⟨⟨hf1.n2,hf1.nd,hf1.epoch,hg,Nat.le_refl _,Nat.le_add_right _ _,hf1.err,fun k b hk=>by cases hk⟩,hok3,?_,hQ3,trivial,rfl,rfl⟩
   rw [last_of_none hQ3]
   exact hbf
 · have hkl:2+l.n+k<d.L.length:=by unfold Lg.homes at hk;omega
   have hks: ∀k∈l.keys d1, ∃b,l.H k=some b:=fun k hk=>(mem_keys hk).2
   rw [hg3 _ (by omega),if_neg (by omega),keys_seen _ hks,hgf _ hkl]
   have hk1:k<l.homes d1:=by unfold Lg.homes at hk ⊢;omega
   unfold Lg.home
   by_cases hm:k∈l.keys d1
   · rw [if_pos hm]
     obtain ⟨b,hb⟩:=(mem_keys' hk1).1 hm
     rw [hb]
     rfl
   · rw [if_neg hm]
     cases hH:l.H k with
     |none=>rfl
     |some b=>exact absurd ((mem_keys' hk1).2 ⟨b,hH⟩) hm
 · rw [hg3 i (by omega)]
   by_cases he:(l.gen+1) %2=i
   · rw [if_pos he]
     exact .inl rfl
   · rw [if_neg he,homeQ_low _ hi,hgf i (by omega)]
     exact .inr rfl
theorem homes_write {l l':Lg} {d d':Dsk} {ps:List Pt} {pcs:List Pc} (hn2:2≤l.n) (hn:l'.n=l.n) (hH:l'.H=takeH l.H ps) (hL:d'.L=d.L) (hQ:d'.Q=d.Q++ringQ l.n pcs) (k:Nat):
   l'.home d' k=(takeH l.H ps k).getD (d.get (2+l.n+k)):=by
 have hg:d'.get (2+l.n+k)=d.get (2+l.n+k):=by
   unfold Dsk.get
   rw [hL,hQ,seen_append]
   refine seen_no _ _ _ fun x hx=> ?_
   obtain ⟨q,_,rfl⟩:=List.mem_map.1 hx
   have:=Nat.mod_lt q.ct (show 0<l.n by omega)
   simp only
   omega
 unfold Lg.home
 rw [hn,hH,hg]
 cases takeH l.H ps k<;>rfl
end Go.Proofs.YtldimgchpgoggaaGreat
