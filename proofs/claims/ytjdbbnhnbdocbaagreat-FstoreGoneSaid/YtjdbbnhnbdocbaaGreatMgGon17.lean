import Derived.Test.YtjdbbnhnbdocbaaGreatMgGon15
import Derived.Test.YtjdbbnhnbdocbaaGreatMgGon11
namespace Go.Proofs.YtjdbbnhnbdocbaaGreat
open Go.RowKit Go.Tn Go.Tn.Bt Go.Tn.Lp Go.Tn.Dk
def PtsA (w:World) (F:Nat→Prop) (v:Value) (ps:List Pt):Prop:= ∃xs:List (Pt×Sv),xs.map (·.1)=ps∧LSl enPt 2 w v xs∧(∀r,v.ownBlock=some r→¬ F r)∧ ∀x∈xs,LSl en8 1 w (sv x.2) x.1.2∧ ∀r,(sv x.2).ownBlock=some r→¬ F r
theorem PtsA.rd {w:World} {F:Nat→Prop} {v:Value} {ps:List Pt} (h:PtsA w F v ps):PtsI w v ps:=by
 obtain ⟨xs,h1,h2,_,h3⟩:=h
 exact ⟨xs,h1,h2,fun x hx=>(h3 x hx).1⟩
theorem PtsA.mono {w:World} {F G:Nat→Prop} {v:Value} {ps:List Pt} (h:PtsA w F v ps) (hFG: ∀b,G b→F b):PtsA w G v ps:=by
 obtain ⟨xs,h1,h2,h4,h3⟩:=h
 exact ⟨xs,h1,h2,fun r hr e=>h4 r hr (hFG r e),fun x hx=>⟨(h3 x hx).1,fun r hr e=>(h3 x hx).2 r hr (hFG r e)⟩⟩
theorem PtsA.below {w w':World} {F:Nat→Prop} {v:Value} {ps:List Pt} (h:PtsA w F v ps) (hb:Below w.heap.size w w'):PtsA w' F v ps:=by
 obtain ⟨xs,h1,h2,h4,h3⟩:=h
 exact ⟨xs,h1,h2.below hb,h4,fun x hx=>⟨(h3 x hx).1.below hb,(h3 x hx).2⟩⟩
theorem PtsA.mod {w w':World} {F G:Nat→Prop} {v:Value} {ps:List Pt} (h:PtsA w F v ps) (hm:Mod G w w') (hG: ∀b,G b→F b):PtsA w' F v ps:=by
 obtain ⟨xs,h1,h2,h4,h3⟩:=h
 exact ⟨xs,h1,h2.mod hm (fun r hr e=>h4 r hr (hG r e)),h4,fun x hx=>⟨(h3 x hx).1.mod hm fun r hr e=>(h3 x hx).2 r hr (hG r e),(h3 x hx).2⟩⟩
theorem takeH_snoc (H:Nat→Option (List Nat)) (ps:List Pt) (p:Pt):takeH H (ps++ [p])=fun k:Nat=>if (k:Int)=p.1 then some p.2 else takeH H ps k:=by
 unfold takeH
 rw [List.foldl_append]
 rfl
theorem zeroB: ∀w,(zeroValue 44).run Tryz.prog w= .ok (.slice none 0 0) w:=fun w=>by simp [go_sem]
set_option maxRecDepth 20000 in
set_option maxHeartbeats 4000000 in
theorem take_any {w:World} {F:Nat→Prop} {g p:Nat} {l:Lg} (h:LAt w F g p l) (v:Value) (ps:List Pt) (hp:PtsA w F v ps) (h0: ∀q∈ps,0≤q.1) (hl: ∀q∈ps,q.2.length≤50000) (hn:ps.length≤100000):
  Calls Tryz.prog 120 #[.pointer (some ⟨g,0,none⟩),v] w fun e w'=>e= .returned (.tuple #[])∧ ∃F',LAt w' F' g p {l with H:=takeH l.H ps}∧Mod F w w'∧ ∀b,F' b→F b∨w.heap.size≤b:=by
 obtain ⟨xs,hxs,hL,hvF,hD⟩:=hp
 have hxl:xs.length=ps.length:=by rw [←hxs];simp
 obtain ⟨ao,cap,rfl,h1,h2,h3⟩:=hL
 rw [hxl] at h1 h3 ⊢
 unfold maxLen at h2
 have HXS:=Lib.hid hxs
 have HD:=Lib.hid hD
 have HVF:=Lib.hid hvF
 have HXL:=Lib.hid hxl
 have HL:=Lib.hid h
 have HP0:=Lib.hid h0
 have HPL:=Lib.hid hl
 clear hxs hD hxl hvF h h0 hl
 have h63:(ps.length:Int)≤100000:=by omega
 go_enter Tryz.func120,Tryz.ntmps120
 go_wp2_with fail
 go_loopw [8] (fun iv wi=> ∃k:Nat,k≤ps.length∧iv= .int .i64 k∧Mod F w wi∧ ∃Fi,LAt wi Fi g p {l with H:=takeH l.H (ps.take k)}∧ ∀b,Fi b→F b∨w.heap.size≤b) (fun iv _=>ps.length-(intOf iv).toNat)
 case atStart=>exact ⟨0,Nat.zero_le _,rfl,Mod.refl _ _,F,HL.out,fun b hb=> .inl hb⟩
 case round=>
  obtain ⟨k,hk,rfl,hm,Fi,hLi,hFi⟩:=hrel
  by_cases hkl:k<ps.length
  ·have hkl':(k:Int)<(ps.length:Int):=by omega
   obtain ⟨x,hx⟩: ∃x,xs[k]?=some x:=⟨_,List.getElem?_eq_getElem (by rw [HXL.out];exact hkl)⟩
   obtain ⟨b,off,rfl,hbl,hcells⟩:=h3 (by omega)
   have hlies:=lies_mod (hcells k x hx) hm (HVF.out b rfl)
   have hpx:ps[k]?=some x.1:=by rw [←HXS.out,List.getElem?_map,hx];rfl
   have hdx:=HD.out x (List.mem_of_getElem? hx)
   have hat0:=HP0.out x.1 (List.mem_of_getElem? hpx)
   have hdl:=HPL.out x.1 (List.mem_of_getElem? hpx)
   have hsn:takeH l.H (ps.take (k+1))=fun j:Nat=>if (j:Int)=x.1.1 then some x.1.2 else takeH l.H (ps.take k) j:=by rw [take_snoc hpx,takeH_snoc]
   have hds:=hdx.1.mod hm hdx.2
   obtain ⟨⟨at_,dat⟩,⟨a1,n1,c1⟩⟩:=x
   simp only at hat0 hdl hsn hds
   obtain ⟨at_,rfl⟩:=Int.eq_ofNat_of_zero_le hat0
   have HLS:Hid (Lies wr b (off+k*2) #[.int .i64 (at_:Nat), .slice a1 n1 c1]):=Lib.hid hlies
   have hb1:Below wr.heap.size wr (wr.alloc (.cells #[.int .i64 (at_:Nat), .slice a1 n1 c1] 187)):=(Below.refl _ _).alloc (Nat.le_refl _) _
   have hL1:=(hLi.below hb1).below ((Below.refl _ _).drew)
   have hcl:=clone_any (wr.alloc (.cells #[.int .i64 (at_:Nat), .slice a1 n1 c1] 187)).drew (.slice a1 n1 c1) dat ((LSl.below hds hb1).below (Below.refl _ _).drew) hdl
   obtain ⟨m,L,clk,hlb,hH,hmg,hLg⟩:=hL1.ex
   have hS:(wr.alloc (.cells #[.int .i64 (at_:Nat), .slice a1 n1 c1] 187)).drew.cell? ⟨g,6,none⟩=some (.map (some m))∧Lies (wr.alloc (.cells #[.int .i64 (at_:Nat), .slice a1 n1 c1] 187)).drew wr.heap.size 0 #[.int .i64 (at_:Nat), .slice a1 n1 c1]:=⟨cell_of (o:=6) hlb rfl,lies_of heap_alloc_at⟩
   have hm1:Mod F w (wr.alloc (.cells #[.int .i64 (at_:Nat), .slice a1 n1 c1] 187)).drew:=(hm.alloc _).drew
   have hFlt:=hLi.lt
   have hwle:w.heap.size≤wr.heap.size:=hm.size
   have HSN:=Lib.hid hsn
   have HM1:=Lib.hid hm1
   have HL1:=Lib.hid hL1
   have HFI:=Lib.hid hFi
   have HFLT:=Lib.hid hFlt
   clear hx hcells hlies hpx hdx hds hsn hb1 hm hLi hFi hm1 hat0 hL1 hFlt
   go_upto_region 3 with (first
    | ((with_reducible refine wpList_loadA (aggPt _ _) HLS.out ?_ ?_);rfl;go_frame)
    | fail)
   refine wp_region_x (fun w'=>w'.cell? ⟨g,6,none⟩=some (.map (some m))∧Lies w' wr.heap.size 0 #[.int .i64 (at_:Nat), .slice a1 n1 c1]) [(0,1),(1,1),(2,1),(3,0),(4,1),(5,0),(6,1),(7,0),(8,2),(9,3)] (by kernel_rfl) (by kernel_rfl) (by intro d v c a w h;cases d<;>exact h) ?_
   have hw1z:wr.heap.size<(wr.alloc (.cells #[.int .i64 (at_:Nat), .slice a1 n1 c1] 187)).drew.heap.size:=by show wr.heap.size<(wr.alloc _).heap.size;simp
   generalize (wr.alloc (.cells #[.int .i64 (at_:Nat), .slice a1 n1 c1] 187)).drew=w1 at*
   iterate 3 (refine x_take rfl (fun K hK=> ?_);go_simp;refine hK _ ?_;clear hK K)
   refine x_read rfl hS (fun w' h=>exec_load1 ⟨⟨_,Tryz.underlying118,rfl⟩⟩ rfl h.1) ?_
   iterate 1 (refine x_take rfl (fun K hK=> ?_);go_simp;refine hK _ ?_;clear hK K)
   refine x_read rfl hS (fun w' h=>exec_load1 ⟨⟨_,Tryz.underlying3,rfl⟩⟩ rfl (h.2 0 (by simp))) ?_
   iterate 1 (refine x_take rfl (fun K hK=> ?_);go_simp;refine hK _ ?_;clear hK K)
   refine x_read rfl hS (fun w' h=>exec_load1 ⟨⟨_,Tryz.underlying44,rfl⟩⟩ rfl (h.2 1 (by simp))) ?_
   refine x_show' rfl (fun K hK=> ?_)
   go_simp
   refine hcl.mono ?_
   rintro e w2 ⟨v2,rfl,hO2,hb2⟩
   obtain ⟨a2,n2,c2,rfl⟩:=hO2.shape
   have hgl:g<w1.heap.size:=lt_of_block hlb
   have hS2:w2.cell? ⟨g,6,none⟩=some (.map (some m))∧Lies w2 wr.heap.size 0 #[.int .i64 (at_:Nat), .slice a1 n1 c1]:=⟨(hb2.cell (p:=⟨g,6,none⟩) hgl).trans hS.1,hS.2.below' hb2 hw1z⟩
   refine hK _ _ hS2 ?_
   clear hK K hcl hS
   have hml:m<w1.heap.size:=lt_of_block hH.blk
   obtain ⟨w3,hr3,hh3,hwf3,hm3⟩:=exec_mapUpd (P:=Tryz.prog) keyI Tryz.underlying118 ((hb2.block m hml).trans hH.blk) hH.wf ((at_:Nat):Int) (.slice a2 n2 c2)
   refine x_skip rfl (hr3 _ _ _ _ _ _ _ _ _ rfl rfl rfl) ?_
   refine x_nil ?_
   have hown: ∀r,(Value.slice a2 n2 c2).ownBlock=some r→w1.heap.size≤r:=hO2.lo
   have hfin:LAt w3 (fun b=>Fi b∨(wr.heap.size≤b∧b<w3.heap.size)) g p {l with H:=takeH l.H (ps.take (k+1))}:=by
    refine ⟨⟨m,_,_,hm3.heap ((hb2.block g hgl).trans hlb) (fun e=>hmg e.symm),⟨hh3,hwf3,fun e he=> ?_,fun j hj=> ?_, .inl hH.fm⟩,hmg,fun e he=> ?_⟩, .inl HL1.out.fg,?_⟩
    ·rcases mem_upd hH.wf he with ⟨he1,hne⟩|⟨he1,he2, -⟩
     ·obtain ⟨j,hj1,b',hj2,hj3,hj4⟩:=hH.key e he1
      refine ⟨j,hj1,b',?_,?_,fun r hr=>⟨.inl (hj4 r hr).1,(hj4 r hr).2⟩⟩
      ·simp only
       rw [HSN.out]
       simp only
       rw [if_neg (fun e'=>hne (hj1.trans e'))]
       exact hj2
      ·exact (hj3.below hb2).kept hm3.size fun r hr=>hm3.block r (Nat.lt_of_lt_of_le (hj3.lt r hr) hb2.size) (hj4 r hr).2
     ·refine ⟨at_,he1,dat,?_,?_,fun r hr=> ?_⟩
      ·simp only
       rw [HSN.out]
       simp
      ·rw [he2]
       exact ((hO2.rd el8.len).mono (Nat.zero_le _)).kept hm3.size fun r hr=>hm3.block r (hO2.lt hr) (fun e=>by have:=hown r hr;have e:r=m:=e;omega)
      ·rw [he2] at hr
       have h1:=hown r hr
       have h2:=hO2.lt hr
       have h3:=hm3.size
       exact ⟨.inr ⟨by omega,by omega⟩,by omega⟩
    ·have hg:=get_upd (j:=(j:Int)) (k:=((at_:Nat):Int)) (v:= .slice a2 n2 c2) hH.wf
     have hne:get (j:Int) (upd ((at_:Nat):Int) (.slice a2 n2 c2) L clk)≠none:=by
      rw [hg]
      by_cases hja:(j:Int)=(at_:Nat)
      ·rw [if_pos hja]
       exact fun e=>by cases e
      ·rw [if_neg hja]
       simp only [HSN.out,hja,if_false] at hj
       obtain ⟨e,he,hej⟩:=hH.all j hj
       exact fun hn=>get_none.1 hn e he hej
     cases hgo:get (j:Int) (upd ((at_:Nat):Int) (.slice a2 n2 c2) L clk) with
     | none=>exact absurd hgo hne
     | some u=>
      obtain ⟨b',hb'⟩:=get_some hgo
      exact ⟨_,hb',rfl⟩
    ·rcases mem_upd hH.wf he with ⟨he1,hne⟩|⟨he1,he2, -⟩
     ·exact hLg e he1
     ·rw [he2]
      intro e
      have:=hown g e
      omega
    ·rintro b (hb|hb)
     ·have:=HFLT.out b hb
      have:=hb2.size
      have:=hm3.size
      omega
     ·exact hb.2
   have hmf:Mod F w w3:=HM1.out.trans (T:=F) ((Mod.of_below hb2).trans (T:=fun b=>w1.heap.size≤b∨b=m) hm3 (fun x h=> .inl h) fun x _ h=> .inr h) (fun _ h=>h) fun x hx hS=>by
    rcases hS with hS|hS
    ·exact absurd hx (Nat.not_lt.2 (Nat.le_trans HM1.out.size hS))
    ·rw [hS] at hx ⊢
     exact (HFI.out m hH.fm).resolve_right (Nat.not_le.2 hx)
   have HFIN:=Lib.hid hfin
   have HMF:=Lib.hid hmf
   have HW:=HM1.out.size
   have hwz:w.heap.size≤wr.heap.size+1:=by omega
   clear hfin hmf hh3 hwf3 hm3 hr3 hO2 hb2 hH hlb hS2 hLg hown HW
   go_wp2
   go_roundw
   case rel=>exact ⟨k+1,by omega,by go_num,HMF.out,_,HFIN.out,fun b hb=>by
    rcases hb with hb|hb
    ·exact HFI.out b hb
    ·exact .inr (Nat.le_trans hwle hb.1)⟩
   case measure=>simp [intOf];omega
  ·obtain rfl:k=ps.length:=by omega
   rw [List.take_length] at hLi
   have HM:=Lib.hid hm
   have HLi:=Lib.hid hLi
   have HFi:=Lib.hid hFi
   clear hm hLi hFi
   go_wp2
   go_end0
   exact ⟨rfl,Fi,HLi.out,HM.out,HFi.out⟩
end Go.Proofs.YtjdbbnhnbdocbaaGreat
namespace Go.Tn.Dk
def Lg.sync (l:Lg) (d:Dsk):Lg×Dsk:=if l.err≠0 then (l,d) else ({l with err:=d.dead},d.flush)
def Lg.home (l:Lg) (d:Dsk) (i:Nat):List Nat:=match l.H i with
 | some b=>b
 | none=>d.get (2+l.n+i)
end Go.Tn.Dk
namespace Go.Proofs.YtjdbbnhnbdocbaaGreat
open Go.RowKit Go.Tn Go.Tn.Bt Go.Tn.Lp Go.Tn.Dk
theorem sync_any {w:World} {F FD:Nat→Prop} {g p:Nat} {l:Lg} {d:Dsk} (h:LAt w F g p l) (hd:DAt w FD p d) (hF: ∀b,F b→¬ FD b):
  Calls Tryz.prog 154 #[.pointer (some ⟨g,0,none⟩)] w fun e w'=>e= .returned (.int .i64 ((l.sync d).1.err:Nat))∧LAt w' F g p (l.sync d).1∧DAt w' FD p (l.sync d).2∧Mod (fun b=>F b∨FD b) w w':=by
 have hok:=ok_any h
 have HL:=Lib.hid h
 have HD:=Lib.hid hd
 have HFF:=Lib.hid hF
 obtain ⟨m,L,clk,hb, -⟩:=h.ex
 have c7:=cell_of (o:=7) hb rfl
 have c0:=cell_of (o:=0) hb rfl
 unfold Lg.sync
 by_cases he:l.err≠0
 ·have hne:(((l.err:Nat):Int) !=0)=true:=by rw [bne_iff_ne];omega
  rw [if_pos he]
  clear h hd hF hb he
  go_enter Tryz.func154,Tryz.ntmps154
  go_wp2_with (first
   | (go_at_call 56;refine hok.mono ?_;rintro e w2 ⟨rfl,hw⟩;obtain rfl:=hw.symm;clear hw)
   | fail)
  go_ret
  exact ⟨rfl,HL.out,HD.out,Mod.refl _ _⟩
 ·have hne:(((l.err:Nat):Int) !=0)=false:=by rw [bne_eq_false_iff_eq];omega
  rw [if_neg he]
  have hfl:=dflush_any hd
  have HFL:=Lib.hid h.fg
  clear h hd hF hb he
  go_enter Tryz.func154,Tryz.ntmps154
  go_wp2_with (first
   | (go_at_call 56;refine hok.mono ?_;rintro e w2 ⟨rfl,hw⟩;obtain rfl:=hw.symm;clear hw)
   | fail)
  refine hfl.mono ?_
  rintro e w2 ⟨rfl,hD2,hm2⟩
  have hst:=stays_any (HL.out.mod hm2 HFF.out) d.dead
  have HD2:=Lib.hid hD2
  have HM2:=Lib.hid hm2
  clear hD2 hm2 hfl hok
  go_wp2_with fail
  refine hst.mono ?_
  rintro e w3 ⟨rfl,hL3,hm3⟩
  have HL3:=Lib.hid hL3
  have HM3:=Lib.hid hm3
  clear hL3 hm3 hst
  go_wp2
  go_ret
  refine ⟨rfl,HL3.out,HD2.out.mod HM3.out fun b hb e=> ?_,HM2.out.trans (T:=fun b=>F b∨FD b) HM3.out (fun _ h=> .inr h) fun x _ h=> .inl (by rw [h];exact HFL.out)⟩
  exact HFF.out g HFL.out (by rw [←e];exact hb)
set_option maxRecDepth 20000 in
theorem gread_any {w:World} {F FD:Nat→Prop} {g p:Nat} {l:Lg} {d:Dsk} (h:LAt w F g p l) (hd:DAt w FD p d) (hok':l.ok d) (i:Nat) (hi:i<l.homes d):
  Calls Tryz.prog 15 #[.pointer (some ⟨g,0,none⟩), .int .i64 i] w fun e w'=> ∃v,e= .returned (.tuple #[v, .int .i64 0])∧LRd en8 1 w.heap.size w' v (l.home d i)∧Below w.heap.size w w':=by
 have hok:=ok_any h
 have hho:=homes_any h hd hok'.nd
 have hhi:=hd.ok.hi
 have hnd:=hok'.nd
 have hh:l.homes d=d.L.length-2-l.n:=rfl
 have hi63:(i:Int)≤4096:=by omega
 have hd1:decide ((i:Int)<0)=false:=by simp
 have hd2:decide (l.homes d≤i)=false:=by simp;omega
 have HL:=Lib.hid h
 have HD:=Lib.hid hd
 have HH:=Lib.hid hh
 have HOK:=Lib.hid hok'
 have hR0:l.home d i=match l.H i with|some b=>b|none=>d.get (2+l.n+i):=rfl
 obtain ⟨R,hR⟩: ∃R,l.home d i=R:=⟨_,rfl⟩
 rw [hR] at hR0 ⊢
 have HR0:=Lib.hid hR0
 clear h hd hok' hh hR hR0
 go_enter Tryz.func15,Tryz.ntmps15
 go_upto_region 5 with (first
  | (go_at_call 56;refine hok.mono ?_;rintro e w2 ⟨rfl,hw⟩;obtain rfl:=hw.symm;clear hw)
  | (go_at_call 57;refine hho.mono ?_;rintro e w2 ⟨rfl,hb2⟩;have HB2:=Lib.hid hb2;clear hb2)
  | fail)
 have hL2:=HL.out.below HB2.out
 obtain ⟨m,L,clk,hb,hH,hmg,hLg⟩:=hL2.ex
 have c6:=cell_of (o:=6) hb rfl
 have hmap:=hH.blk
 cases hHi:l.H i with
 | some b=>
  have HR:Hid (R=b):=Lib.hid (by rw [HR0.out,hHi])
  obtain ⟨e0,he0,he1⟩:=hH.all i (by rw [hHi];simp)
  obtain ⟨k,hk1,b',hk2,hk3,hk4⟩:=hH.key e0 he0
  have hki:k=i:=by omega
  rw [hki,hHi] at hk2
  rw [←Option.some.inj hk2] at hk3
  clear hk1 hk2 hk4 hki
  have hget:=get_of_mem hH.wf he0
  rw [he1] at hget
  obtain ⟨ao,cap,hav,hrest⟩:=hk3.sl
  have hsl:=hk3.sl
  rw [hav] at hget hsl
  have hgd:getD ((i:Nat):Int) L (.slice none 0 0)= .slice ao b.length cap:=by unfold getD;rw [hget];rfl
  have hsome:(get ((i:Nat):Int) L).isSome=true:=by rw [hget];rfl
  have hbl:b.length=128:=by exact (HOK.out.H i b hHi).2.1
  have hcl:=clone_any w2 (.slice ao b.length cap) b hsl (by omega)
  have HMAP:=Lib.hid hmap
  clear hbl hrest hsl hav hk3 hH hLg hb hmap hget hHi
  go_wp2_with (first
   | ((with_reducible refine wpList_exec rfl (exec_lookup_ok keyI Tryz.underlying118 zeroB HMAP.out ?_ ((i:Nat):Int) ?_) ?_);rfl;rfl;go_frame)
   | (go_at_call 58;refine hcl.mono ?_;rintro e w3 ⟨v3,rfl,hO3,hb3⟩;obtain ⟨a3,n3,c3,rfl⟩:=hO3.shape;have HO3:=Lib.hid hO3;have HB3:=Lib.hid hb3;clear hO3 hb3)
   | fail)
  go_ret2
  rw [HR.out]
  exact ⟨.slice a3 n3 c3,rfl,(HO3.out.rd el8.len).mono HB2.out.size,HB2.out.trans (HB3.out.mono HB2.out.size)⟩
 | none=>
  have HR:Hid (R=d.get (2+l.n+i)):=Lib.hid (by rw [HR0.out,hHi])
  have hget:get ((i:Nat):Int) L=none:=get_none.2 fun e he e1=>by
   obtain ⟨k,hk1,b',hk2, -⟩:=hH.key e he
   have hki:k=i:=by omega
   rw [hki,hHi] at hk2
   cases hk2
  have hgd:getD ((i:Nat):Int) L (.slice none 0 0)= .slice none 0 0:=by unfold getD;rw [hget];rfl
  have hsome:(get ((i:Nat):Int) L).isSome=false:=by rw [hget];rfl
  have hrd:=dread_any ((HD.out.below HB2.out).drew) (2+l.n+i) (by have:=HH.out;omega)
  have hS:w2.drew.cell? ⟨g,0,none⟩=some (.pointer (some ⟨p,0,none⟩))∧w2.drew.cell? ⟨g,1,none⟩=some (.int .i64 (l.n:Nat)):=⟨cell_of (o:=0) hb rfl,cell_of (o:=1) hb rfl⟩
  have hu1:IntKind.i64.wrap (2+((l.n:Nat):Int))=2+((l.n:Nat):Int):=IntWalk.i64_in _ (by omega)
  have hu2:IntKind.i64.wrap (2+((l.n:Nat):Int)+(i:Nat))=((2+l.n+i:Nat):Int):=by rw [IntWalk.i64_in _ (by omega)];omega
  have HMAP:=Lib.hid hmap
  clear hH hLg hmap hget hb
  go_upto_region 8 with (first
   | ((with_reducible refine wpList_exec rfl (exec_lookup_ok keyI Tryz.underlying118 zeroB HMAP.out ?_ ((i:Nat):Int) ?_) ?_);rfl;rfl;go_frame)
   | fail)
  refine wp_region_x (fun w'=>w'.cell? ⟨g,0,none⟩=some (.pointer (some ⟨p,0,none⟩))∧w'.cell? ⟨g,1,none⟩=some (.int .i64 (l.n:Nat))) [(0,1),(1,1),(2,1),(3,0),(4,1),(5,1),(6,1),(7,0),(8,1),(9,1),(10,1),(11,2),(12,1),(13,1),(14,1),(15,1)] (by kernel_rfl) (by kernel_rfl) (by intro d v c a w h;cases d<;>exact h) ?_
  iterate 3 (refine x_take rfl (fun K hK=> ?_);go_simp;refine hK _ ?_;clear hK K)
  refine x_read rfl hS (fun w' h=>exec_load1 ⟨⟨_,Tryz.underlying25,rfl⟩⟩ rfl h.1) ?_
  iterate 3 (refine x_take rfl (fun K hK=> ?_);go_simp;refine hK _ ?_;clear hK K)
  refine x_read rfl hS (fun w' h=>exec_load1 ⟨⟨_,Tryz.underlying3,rfl⟩⟩ rfl h.2) ?_
  iterate 3 (refine x_take rfl (fun K hK=> ?_);go_simp;refine hK _ ?_;clear hK K)
  refine x_show' rfl (fun K hK=> ?_)
  go_simp
  refine hrd.mono ?_
  rintro e w3 ⟨v3,rfl,hv3,hb3⟩
  obtain ⟨a3,c3,rfl, -⟩:=hv3.sl
  have hgl:g<w2.drew.heap.size:=World.block_lt_of_cell? _ _ hS.1
  refine hK _ _ ⟨(hb3.cell (p:=⟨g,0,none⟩) hgl).trans hS.1,(hb3.cell (p:=⟨g,1,none⟩) hgl).trans hS.2⟩ ?_
  clear hK K hu1 hu2 hS hrd
  iterate 4 (refine x_take rfl (fun K hK=> ?_);go_simp;refine hK _ ?_;clear hK K)
  refine x_nil ?_
  have HV3:=Lib.hid hv3
  have HB3:=Lib.hid hb3
  clear hv3 hb3
  go_wp2
  go_ret2
  rw [HR.out]
  exact ⟨.slice a3 (d.get (2+l.n+i)).length c3,rfl,HV3.out.mono HB2.out.size,HB2.out.trans ((Below.refl _ _).drew.trans (HB3.out.mono HB2.out.size))⟩
end Go.Proofs.YtjdbbnhnbdocbaaGreat
namespace Go.Tn.Dk
open Go.Tn.Bt Go.Tn.Lp
def putPcs (n:Nat):List Pc→Dsk→Dsk×Nat
 | [],d=>(d,0)
 | q::r,d=>if d.dead≠0 then (d.write (2+q.ct %n) (sealB q),d.dead) else putPcs n r (d.write (2+q.ct %n) (sealB q))
def Lg.write (l:Lg) (d:Dsk) (ps:List Pt):Lg×Dsk×Nat:=
 if l.err≠0 then (l,d,l.err) else if transB ps (l.homes d)=false then (l,d,2) else
 match cutB l.epoch l.next (recB ps) with
 | .error _=>(l,d,8)
 | .ok pcs=>if l.free<pcs.length then (l,d,8) else
  if (putPcs l.n pcs d).2≠0 then ({l with err:=(putPcs l.n pcs d).2},(putPcs l.n pcs d).1,(putPcs l.n pcs d).2)
  else ({l with next:=l.next+pcs.length,H:=takeH l.H ps},(putPcs l.n pcs d).1,0)
end Go.Tn.Dk
namespace Go.Proofs.YtjdbbnhnbdocbaaGreat
open Go.RowKit Go.Tn Go.Tn.Bt Go.Tn.Lp Go.Tn.Dk
section
variable {w:World} {F FD:Nat→Prop} {g p:Nat} {l:Lg} {d:Dsk}
theorem gwrite_err (h:LAt w F g p l) (he:l.err≠0) (v:Value):Calls Tryz.prog 152 #[.pointer (some ⟨g,0,none⟩),v] w fun e w'=>e= .returned (.int .i64 (l.err:Nat))∧w'=w:=by
 have hok:=ok_any h
 obtain ⟨m,L,clk,hb, -⟩:=h.ex
 have c7:=cell_of (o:=7) hb rfl
 have hne:(((l.err:Nat):Int) !=0)=true:=by rw [bne_iff_ne];omega
 clear h hb he
 go_enter Tryz.func152,Tryz.ntmps152
 go_wp2_with (first
  | (go_at_call 56;refine hok.mono ?_;rintro e w2 ⟨rfl,hw⟩;obtain rfl:=hw.symm;clear hw)
  | fail)
 go_ret
 exact ⟨rfl,rfl⟩
theorem gwrite_arg (h:LAt w F g p l) (hd:DAt w FD p d) (hok':l.ok d) (he:l.err=0) (v:Value) (ps:List Pt) (hp:PtsI w v ps) (hn:ps.length≤100000) (ht:transB ps (l.homes d)=false):
  Calls Tryz.prog 152 #[.pointer (some ⟨g,0,none⟩),v] w fun e w'=>e= .returned (.int .i64 2)∧Below w.heap.size w w':=by
 have hok:=ok_any h
 have hho:=homes_any h hd hok'.nd
 have hhi:=hd.ok.hi
 have hh:l.homes d=d.L.length-2-l.n:=rfl
 have htr:=fun w2 (hb:Below w.heap.size w w2)=>trans_any w2 v ps (hp.below hb) (l.homes d) (by omega) hn
 rw [ht] at htr
 obtain ⟨m,L,clk,hb, -⟩:=h.ex
 have c7:=cell_of (o:=7) hb rfl
 have hne:(((l.err:Nat):Int) !=0)=false:=by rw [bne_eq_false_iff_eq];omega
 obtain ⟨a0,n0,c0,rfl⟩: ∃a n c,v= .slice a n c:=by
  obtain ⟨xs, -,⟨ao,cap,rfl, -⟩, -⟩:=hp
  exact ⟨_,_,_,rfl⟩
 have HTR:=Lib.hid htr
 clear h hd hb he hp ht hok' hh htr
 go_enter Tryz.func152,Tryz.ntmps152
 go_wp2_with (first
  | (go_at_call 56;refine hok.mono ?_;rintro e w2 ⟨rfl,hw⟩;obtain rfl:=hw.symm;clear hw)
  | (go_at_call 57;refine hho.mono ?_;rintro e w2 ⟨rfl,hb2⟩;have HB2:=Lib.hid hb2;clear hb2)
  | (go_at_call 171;refine (HTR.out _ HB2.out).mono ?_;rintro e w3 ⟨rfl,hb3⟩;have HB3:=Lib.hid hb3;clear hb3)
  | fail)
 go_ret
 exact ⟨rfl,HB2.out.trans (HB3.out.mono HB2.out.size)⟩
end
theorem recB_lt (ps:List Pt): ∀x∈recB ps,x<256:=pack_lt _
theorem recB_le {ps:List Pt} {homes:Nat} (h:transB ps homes=true):(recB ps).length≤4000:=by
 have h1:=(transB_iff ps homes).1 h
 rw [recB_len fun p hp=>(h1.2.2.1 p hp).2.2]
 omega
section
variable {w:World} {F FD:Nat→Prop} {g p:Nat} {l:Lg} {d:Dsk}
set_option maxRecDepth 20000 in
set_option maxHeartbeats 4000000 in
theorem gwrite_full (h:LAt w F g p l) (hd:DAt w FD p d) (hok':l.ok d) (he:l.err=0) (v:Value) (ps:List Pt) (hp:PtsI w v ps) (hby: ∀q∈ps, ∀x∈q.2,x<256) (ht:transB ps (l.homes d)=true) (k:Int)
  (hc:(cutB l.epoch l.next (recB ps)= .error k∧k≠0)∨ ∃pcs,cutB l.epoch l.next (recB ps)= .ok pcs∧l.free<pcs.length∧k=8):
  Calls Tryz.prog 152 #[.pointer (some ⟨g,0,none⟩),v] w fun e w'=>e= .returned (.int .i64 8)∧Below w.heap.size w w':=by
 have hok:=ok_any h
 have hho:=homes_any h hd hok'.nd
 have hhi:=hd.ok.hi
 have hh:l.homes d=d.L.length-2-l.n:=rfl
 have hn24:=((transB_iff ps _).1 ht).2.1
 have htr:=fun w2 (hb:Below w.heap.size w w2)=>trans_any w2 v ps (hp.below hb) (l.homes d) (by omega) (by omega)
 have hfit:=fit_of_trans ht (by omega) hby
 have henc:=fun w2 (hb:Below w.heap.size w w2)=>encode_any w2 v ps (hp.below hb) hfit hn24
 have hrl:=recB_le ht
 rw [ht] at htr
 have hgl:=h.lt g h.fg
 have HL:=Lib.hid h
 have HD:=Lib.hid hd
 have HOK:=Lib.hid hok'
 obtain ⟨m,L,clk,hb, -⟩:=h.ex
 have c7:=cell_of (o:=7) hb rfl
 have c2:=cell_of (o:=2) hb rfl
 have c5:=cell_of (o:=5) hb rfl
 have HC2:=Lib.hid c2
 have HC5:=Lib.hid c5
 have hne:(((l.err:Nat):Int) !=0)=false:=by rw [bne_eq_false_iff_eq];omega
 obtain ⟨a0,n0,c0,rfl⟩: ∃a n c,v= .slice a n c:=by
  obtain ⟨xs, -,⟨ao,cap,rfl, -⟩, -⟩:=hp
  exact ⟨_,_,_,rfl⟩
 have hep:l.epoch<2 ^ 64:=Nat.lt_of_le_of_lt hok'.epoch (by decide)
 have hnx:l.next<2 ^ 64:=Nat.lt_trans hok'.small (by decide)
 have HTR:=Lib.hid htr
 have HENC:=Lib.hid henc
 have HPI:=Lib.hid hp
 clear h hd hb he hp ht hok' hh htr c2 c5 henc hfit
 go_enter Tryz.func152,Tryz.ntmps152
 go_upto_region 7 with (first
  | (go_at_call 56;refine hok.mono ?_;rintro e w2 ⟨rfl,hw⟩;obtain rfl:=hw.symm;clear hw)
  | (go_at_call 57;refine hho.mono ?_;rintro e w2 ⟨rfl,hb2⟩;have HB2:=Lib.hid hb2;clear hb2)
  | (go_at_call 171;refine (HTR.out _ HB2.out).mono ?_;rintro e w3 ⟨rfl,hb3⟩;have HB3:=Lib.hid (HB2.out.trans (hb3.mono HB2.out.size));clear hb3)
  | fail)
 have hS:w3.drew.cell? ⟨g,2,none⟩=some (.int .u64 (l.epoch:Nat))∧w3.drew.cell? ⟨g,5,none⟩=some (.int .u64 (l.next:Nat)):=⟨(HB3.out.cell (p:=⟨g,2,none⟩) hgl).trans HC2.out,(HB3.out.cell (p:=⟨g,5,none⟩) hgl).trans HC5.out⟩
 refine wp_region_x (fun w'=>w'.cell? ⟨g,2,none⟩=some (.int .u64 (l.epoch:Nat))∧w'.cell? ⟨g,5,none⟩=some (.int .u64 (l.next:Nat))) [(0,1),(1,1),(2,1),(3,0),(4,1),(5,1),(6,1),(7,0),(8,1),(9,2),(10,2),(11,1),(12,1),(13,1),(14,1),(15,1)] (by kernel_rfl) (by kernel_rfl) (by intro d v c a w h;cases d<;>exact h) ?_
 iterate 3 (refine x_take rfl (fun K hK=> ?_);go_simp;refine hK _ ?_;clear hK K)
 refine x_read rfl hS (fun w' h=>exec_load1 ⟨⟨_,Tryz.underlying37,rfl⟩⟩ rfl h.1) ?_
 iterate 3 (refine x_take rfl (fun K hK=> ?_);go_simp;refine hK _ ?_;clear hK K)
 refine x_read rfl hS (fun w' h=>exec_load1 ⟨⟨_,Tryz.underlying37,rfl⟩⟩ rfl h.2) ?_
 iterate 1 (refine x_take rfl (fun K hK=> ?_);go_simp;refine hK _ ?_;clear hK K)
 refine x_show' rfl (fun K hK=> ?_)
 go_simp
 refine (HENC.out _ HB3.out.drew).mono ?_
 rintro e w4 ⟨v4,rfl,hO4,hb4⟩
 have hgl3:g<w3.drew.heap.size:=Nat.lt_of_lt_of_le hgl HB3.out.size
 have hS4:w4.cell? ⟨g,2,none⟩=some (.int .u64 (l.epoch:Nat))∧w4.cell? ⟨g,5,none⟩=some (.int .u64 (l.next:Nat)):=⟨(hb4.cell (p:=⟨g,2,none⟩) hgl3).trans hS.1,(hb4.cell (p:=⟨g,5,none⟩) hgl3).trans hS.2⟩
 have HB4:Hid (Below w.heap.size w w4):=Lib.hid (HB3.out.drew.trans (hb4.mono HB3.out.size))
 refine hK _ _ hS4 ?_
 clear hK K hb4 hS hgl3
 refine x_show' rfl (fun K hK=> ?_)
 go_simp
 refine (cut_any w4 l.epoch l.next v4 (recB ps) (hO4.sl el8.len) hep hnx (by omega)).mono ?_
 rintro e w5 ⟨hb5,hR⟩
 have hgl4:g<w4.heap.size:=Nat.lt_of_lt_of_le hgl HB4.out.size
 have hS5:w5.cell? ⟨g,2,none⟩=some (.int .u64 (l.epoch:Nat))∧w5.cell? ⟨g,5,none⟩=some (.int .u64 (l.next:Nat)):=⟨(hb5.cell (p:=⟨g,2,none⟩) hgl4).trans hS4.1,(hb5.cell (p:=⟨g,5,none⟩) hgl4).trans hS4.2⟩
 have HB5:Hid (Below w.heap.size w w5):=Lib.hid (HB4.out.trans (hb5.mono HB4.out.size))
 have hw4:w.heap.size≤w4.heap.size:=HB4.out.size
 clear hb5 hS4 hO4 hgl4
 unfold CutR at hR
 rcases hc with ⟨hce,hk⟩|⟨pcs,hce,hlt,rfl⟩
 ·rw [hce] at hR
  simp only at hR
  subst hR
  refine hK _ _ hS5 ?_
  clear hK K hS5 hce
  iterate 5 (refine x_take rfl (fun K hK=> ?_);go_simp;refine hK _ ?_;clear hK K)
  refine x_nil ?_
  have hne2:(k !=0)=true:=by rw [bne_iff_ne];exact hk
  go_wp2
  go_ret
  exact ⟨rfl,HB5.out⟩
 ·rw [hce] at hR
  simp only at hR
  obtain ⟨v5,rfl,xs5,hxs5,hO5,hD5⟩:=hR
  obtain ⟨a5,c5,rfl,hn5,hc5, -⟩:=hO5.sl elPc.len
  have hxl:xs5.length=pcs.length:=by rw [←hxs5];simp
  rw [hxl] at hn5 ⊢
  unfold maxLen at hc5
  have hfr:=free_any (HL.out.below HB5.out) HOK.out.tail HOK.out.next HOK.out.small (by have:=HOK.out.nd;omega)
  have hd:decide (l.free<pcs.length)=true:=by simp [hlt]
  have hpl:(pcs.length:Int)≤9223372036854775807:=by omega
  refine hK _ _ hS5 ?_
  clear hK K hS5 hce hxs5 hO5 hD5 hxl hlt
  iterate 5 (refine x_take rfl (fun K hK=> ?_);go_simp;refine hK _ ?_;clear hK K)
  refine x_nil ?_
  go_wp2_with (first
   | (go_at_call 190;refine hfr.mono ?_;rintro e w6 ⟨rfl,hb6⟩;have HB6:=Lib.hid hb6;clear hb6)
   | fail)
  go_ret
  exact ⟨rfl,HB5.out.trans (HB6.out.mono HB5.out.size)⟩
end
end Go.Proofs.YtjdbbnhnbdocbaaGreat
