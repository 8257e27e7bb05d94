import Derived.Test.YtjdbbnhnbdocbaaGreatMgGon28
namespace Go.Tn.Dk
open Go.Tn
def bringGo (l:Lg):List Nat→Dsk→Dsk×Nat
 | [],d=>(d.flush,d.dead)
 | i::r,d=>if d.dead≠0 then (d.write (2+l.n+i) ((l.H i).getD []),d.dead) else bringGo l r (d.write (2+l.n+i) ((l.H i).getD []))
def Lg.bring (l:Lg) (d:Dsk):Dsk×Nat:=bringGo l (l.keys d) d
theorem mem_keys {l:Lg} {d:Dsk} {k:Nat} (h:k∈l.keys d):k<l.homes d∧ ∃b,l.H k=some b:=by
 unfold Lg.keys at h
 rw [List.mem_filter,List.mem_range] at h
 exact ⟨h.1,Option.isSome_iff_exists.1 h.2⟩
end Go.Tn.Dk
namespace Go.Proofs.YtjdbbnhnbdocbaaGreat
open Go.RowKit Go.Tn Go.Tn.Bt Go.Tn.Lp Go.Tn.Dk
theorem elI:ElT Tryz.prog 34 3 1 enI:=⟨Tryz.underlying34,by kernel_rfl,by decide,fun _=>rfl,fun x u hu=>by rw [List.mem_singleton.1 hu];rfl⟩
theorem write_Q (d:Dsk) (i:Nat) (b:List Nat):(d.write i b).Q.length≤d.Q.length+1:=by
 unfold Dsk.write
 split
 ·rw [step_Q];omega
 ·simp
set_option maxRecDepth 20000 in
set_option maxHeartbeats 4000000 in
theorem bring_any {w:World} {F FD:Nat→Prop} {g p:Nat} {l:Lg} {d:Dsk} (h:LAt w F g p l) (hd:DAt w FD p d) (hF: ∀b,F b→¬ FD b) (hok':l.ok d) (hQ:d.Q.length≤999990000):
  Calls Tryz.prog 195 #[.pointer (some ⟨g,0,none⟩)] w fun e w'=>e= .returned (.int .i64 ((l.bring d).2:Nat))∧ ∃FD',LAt w' F g p l∧DAt w' FD' p (l.bring d).1∧Mod FD w w'∧ ∀b,FD' b→FD b∨w.heap.size≤b:=by
 have hhi:=hd.ok.hi
 have hnd:=hok'.nd
 have hho:l.homes d=d.L.length-2-l.n:=rfl
 have HL:=Lib.hid h
 have HD:=Lib.hid hd
 have HFF:=Lib.hid hF
 have HOK:=Lib.hid hok'
 obtain ⟨m,L,clk,hb,hH,hmg, -⟩:=h.ex
 have c6:=cell_of (o:=6) hb rfl
 have hkc:=keys_call w m
 have hsc:=hkeys_any hok' hd.ok hH
 have hkl:(l.keys d).length≤4096:=by
  unfold Lg.keys
  exact Nat.le_trans (List.length_filter_le _ _) (by rw [List.length_range];omega)
 obtain ⟨R,hR⟩: ∃R,l.bring d=R:=⟨_,rfl⟩
 have HR:Hid (bringGo l (l.keys d) d=R):=Lib.hid hR
 rw [hR]
 have HH:=Lib.hid hH
 have HBK:=Lib.hid hb
 have HMG:=Lib.hid hmg
 have HKL:=Lib.hid hkl
 have HHO:=Lib.hid hho
 obtain ⟨ks,hks⟩: ∃ks,l.keys d=ks:=⟨_,rfl⟩
 have HKS:=Lib.hid hks
 rw [hks] at hsc HR HKL
 clear h hd hF hok' hb hH hmg hR hkl hks hho
 go_enter Tryz.func195,Tryz.ntmps195
 go_wp2_with (first
  | (go_at_call 186;refine hkc.mono ?_;rintro e w2 ⟨rfl,hw⟩;subst hw)
  | fail)
 refine hsc.mono ?_
 rintro e w2 ⟨v2,rfl,hO2,hb2⟩
 obtain ⟨a2,n2,c2,rfl⟩:=hO2.shape
 obtain ⟨_,_,hv2,_⟩:=hO2.sl elI.len
 obtain ⟨-,rfl, -⟩:a2=_∧n2=(ks.map fun (k:Nat)=>(k:Int)).length∧c2=_:=by simpa using hv2
 rw [List.length_map]
 rw [List.length_map] at hO2
 have HO2:=Lib.hid hO2
 have HB2:=Lib.hid hb2
 clear hsc hkc hO2 hb2 hv2 c6
 have hkl63:(ks.length:Int)≤4096:=by have:=HKL.out;omega
 go_wp2_with fail
 go_loopw [13] (fun iv wi=> ∃k:Nat,k≤ks.length∧iv= .int .i64 k∧Mod FD w2 wi∧ ∃(FDi:Nat→Prop) (di:Dsk),DAt wi FDi p di∧(∀b,FDi b→FD b∨w2.heap.size≤b)∧bringGo l (ks.drop k) di=R∧di.L.length=d.L.length∧di.Q.length≤d.Q.length+k) (fun iv _=>ks.length-(intOf iv).toNat)
 case atStart=>exact ⟨0,Nat.zero_le _,rfl,Mod.refl _ _,FD,d,HD.out.below HB2.out,fun b hb=> .inl hb,HR.out,rfl,Nat.le_refl _⟩
 case round=>
  obtain ⟨k,hk,rfl,hm,FDi,di,hDi,hFDi,hgo,hLi,hQi⟩:=hrel
  have hL2:=HL.out.below HB2.out
  have hwz:w.heap.size≤w2.heap.size:=HB2.out.size
  have hFlt:=HL.out.lt
  have hFDlt:=HD.out.lt
  have hLr:LAt wr F g p l:=hL2.mod hm HFF.out
  by_cases hkl:k<ks.length
  ·have hkl':(k:Int)<(ks.length:Int):=by omega
   obtain ⟨i,hi⟩: ∃i,ks[k]?=some i:=⟨_,List.getElem?_eq_getElem hkl⟩
   have hmem:=List.mem_of_getElem? hi
   rw [←HKS.out] at hmem
   obtain ⟨hih,b,hib⟩:=mem_keys hmem
   have hdrop:ks.drop k=i::ks.drop (k+1):=by
    rw [List.drop_eq_getElem_cons hkl]
    rw [List.getElem?_eq_getElem hkl] at hi
    rw [Option.some.inj hi]
   rw [hdrop] at hgo
   have hHr:=HH.out.kept (w':=wr) (Nat.le_trans hwz hm.size) fun x hx=>(hm.block x (Nat.lt_of_lt_of_le (hFlt x hx) hwz) (HFF.out x hx)).trans (HB2.out.block x (hFlt x hx))
   obtain ⟨e0,he0,he1⟩:=hHr.all i (by rw [hib];simp)
   obtain ⟨i',hi1,b',hb',hrd,hown⟩:=hHr.key e0 he0
   obtain rfl:i'=i:=by omega
   rw [hib] at hb'
   obtain rfl:=Option.some.inj hb'
   have hget:=get_of_mem hHr.wf he0
   rw [he1] at hget
   obtain ⟨ao,cap,hav, -⟩:=hrd.sl
   have hsl:=hrd.sl
   rw [hav] at hget hsl hown
   have hgd:getD ((i':Nat):Int) L (.slice none 0 0)= .slice ao b.length cap:=by unfold getD;rw [hget];rfl
   have hsec:=(HOK.out.H i' b hib).2
   have hOi:=HO2.out
   have hxi:(ks.map fun (k:Nat)=>(k:Int))[k]?=some (i':Int):=by rw [List.getElem?_map,hi];rfl
   obtain ⟨b3,o3,cap3,hv3,hb3,hl3⟩:=(hOi.sl elI.len).at_ hxi
   obtain ⟨rfl,rfl⟩:a2=some ⟨b3,o3,none⟩∧c2=cap3:=by simpa using hv3
   have hb3w:w.heap.size≤b3:=hOi.lo b3 rfl
   have hl4:=lies_mod hl3 hm fun hx=>by have:=hFDlt b3 hx;omega
   have q0:wr.cell? ⟨b3,o3+k,none⟩=some (.int .i64 (i':Nat)):=by
    have:=hl4 0 (by simp)
    simpa using this
   have hfg:=HL.out.fg
   have hgw:=hFlt g hfg
   have hgb:=((hm.block g (Nat.lt_of_lt_of_le hgw hwz) (HFF.out g hfg)).trans (HB2.out.block g hgw)).trans HBK.out
   have hS:wr.drew.cell? ⟨g,0,none⟩=some (.pointer (some ⟨p,0,none⟩))∧wr.drew.cell? ⟨g,1,none⟩=some (.int .i64 (l.n:Nat))∧wr.drew.cell? ⟨g,6,none⟩=some (.map (some m))∧wr.drew.heap[m]?=some (.map (ents encI L) clk):=
    ⟨cell_of (w:=wr.drew) (o:=0) hgb rfl,cell_of (w:=wr.drew) (o:=1) hgb rfl,cell_of (w:=wr.drew) (o:=6) hgb rfl,hHr.blk⟩
   have hn4:l.n≤4096:=by have:=HOK.out.nd;omega
   have hio:=HHO.out
   have hi63:(i':Int)≤4096:=by omega
   have hu1:IntKind.i64.wrap (2+((l.n:Nat):Int))=2+((l.n:Nat):Int):=IntWalk.i64_in _ (by omega)
   have hu2:IntKind.i64.wrap (2+((l.n:Nat):Int)+(i':Nat))=((2+l.n+i':Nat):Int):=by rw [IntWalk.i64_in _ (by omega)];omega
   have hvF: ∀r,(Value.slice ao b.length cap).ownBlock=some r→¬ FDi r:=fun r hr hx=>by
    have h1:=(hown r hr).1
    rcases hFDi r hx with h|h
    ·exact HFF.out r h1 h
    ·have:=hFlt r h1;omega
   have hwd:=dwrite_any hDi.drew (2+l.n+i') (by omega) _ b (LSl.below hsl (Below.refl _ _).drew) hsec hvF (by have:=HKL.out;omega)
   have hL1:=write_L di (2+l.n+i') b
   have hQ1:=write_Q di (2+l.n+i') b
   have hgo':bringGo l (i'::ks.drop (k+1)) di=if di.dead≠0 then (di.write (2+l.n+i') b,di.dead) else bringGo l (ks.drop (k+1)) (di.write (2+l.n+i') b):=by
    simp only [bringGo,hib,Option.getD_some]
   rw [hgo'] at hgo
   have HGO:=Lib.hid hgo
   have HGD:=Lib.hid hgd
   have HM:=Lib.hid hm
   have HFDI:=Lib.hid hFDi
   have HLI:Hid ((di.write (2+l.n+i') b).L.length=d.L.length):=Lib.hid (by rw [hL1];exact hLi)
   have HQI:Hid ((di.write (2+l.n+i') b).Q.length≤d.Q.length+(k+1)):=Lib.hid (by omega)
   have HDI:=Lib.hid hDi
   clear hgo hgo' hgd hget hav hsl hrd hown he0 he1 hb' hib hih hmem hi hdrop hHr hLr hL2 hm hDi hFDi hLi hQi hsec hOi hxi hv3 hl3 hl4 hvF hio hL1 hQ1 hgb
   generalize hdw:di.write (2+l.n+i') b=dw at*
   have HDW:=Lib.hid hdw
   clear hdw
   go_upto_region 4 with fail
   refine wp_region_x (fun w'=>w'.cell? ⟨g,0,none⟩=some (.pointer (some ⟨p,0,none⟩))∧w'.cell? ⟨g,1,none⟩=some (.int .i64 (l.n:Nat))∧w'.cell? ⟨g,6,none⟩=some (.map (some m))∧w'.heap[m]?=some (.map (ents encI L) clk)) [(0,1),(1,1),(2,1),(3,0),(4,1),(5,1),(6,1),(7,0),(8,1),(9,1),(10,1),(11,1),(12,1),(13,1),(14,0),(15,1),(16,0),(17,2),(18,1)] (by kernel_rfl) (by kernel_rfl) (by intro d v c a w h;cases d<;>exact h) ?_
   iterate 3 (refine x_take rfl (fun K hK=> ?_);go_simp;refine hK _ ?_;clear hK K)
   refine x_read rfl hS (fun w' h=>exec_load1 ⟨⟨_,Tryz.underlying25,rfl⟩⟩ rfl h.1) ?_
   iterate 3 (refine x_take rfl (fun K hK=> ?_);go_simp;refine hK _ ?_;clear hK K)
   refine x_read rfl hS (fun w' h=>exec_load1 ⟨⟨_,Tryz.underlying3,rfl⟩⟩ rfl h.2.1) ?_
   iterate 6 (refine x_take rfl (fun K hK=> ?_);go_simp;refine hK _ ?_;clear hK K)
   refine x_read rfl hS (fun w' h=>exec_load1 ⟨⟨_,Tryz.underlying118,rfl⟩⟩ rfl h.2.2.1) ?_
   iterate 1 (refine x_take rfl (fun K hK=> ?_);go_simp;refine hK _ ?_;clear hK K)
   refine x_read rfl hS (fun w' h=>exec_lookup keyI Tryz.underlying118 zeroB h.2.2.2 rfl ((i':Nat):Int) rfl) ?_
   rw [HGD.out]
   refine x_show' rfl (fun K hK=> ?_)
   go_simp
   refine hwd.mono ?_
   rintro e w5 ⟨rfl,F5,hD5,hm5,hF5⟩
   have hFn: ∀x,F x→¬ FDi x:=fun x hx hx'=>by
    rcases HFDI.out x hx' with h|h
    ·exact HFF.out x hx h
    ·have:=hFlt x hx;omega
   have hwr:w2.heap.size≤wr.heap.size:=HM.out.size
   have hg5:=hm5.block g (by show g<wr.heap.size;omega) (hFn g hfg)
   have hfm:=HH.out.fm
   have hm6:=hm5.block m (by show m<wr.heap.size;have:=hFlt m hfm;omega) (hFn m hfm)
   have hS5:w5.cell? ⟨g,0,none⟩=some (.pointer (some ⟨p,0,none⟩))∧w5.cell? ⟨g,1,none⟩=some (.int .i64 (l.n:Nat))∧w5.cell? ⟨g,6,none⟩=some (.map (some m))∧w5.heap[m]?=some (.map (ents encI L) clk):=
    ⟨(World.cell?_of_block (a:=⟨g,0,none⟩) hg5).trans hS.1,(World.cell?_of_block (a:=⟨g,1,none⟩) hg5).trans hS.2.1,(World.cell?_of_block (a:=⟨g,6,none⟩) hg5).trans hS.2.2.1,hm6.trans hS.2.2.2⟩
   refine hK _ _ hS5 ?_
   clear hK K hS hS5 hg5 hm6 hwd hu1 hu2
   iterate 1 (refine x_take rfl (fun K hK=> ?_);go_simp;refine hK _ ?_;clear hK K)
   refine x_nil ?_
   have hm25:Mod FD w2 w5:=HM.out.trans (T:=FD) ((Mod.refl FDi wr).drew.trans (T:=FDi) hm5 (fun _ h=>h) fun _ _ h=>h) (fun _ h=>h) fun x hx h=>(HFDI.out x h).resolve_right (by omega)
   have hF5': ∀b,F5 b→FD b∨w2.heap.size≤b:=fun b hb=>by
    rcases hF5 b hb with h|h
    ·exact HFDI.out b h
    ·right
     have h:wr.heap.size≤b:=h
     omega
   have HD5:=Lib.hid hD5
   have HM25:=Lib.hid hm25
   have HF5:=Lib.hid hF5'
   clear hD5 hm25 hF5' hm5 hF5 hFn
   by_cases hdd:di.dead=0
   ·have hne:((di.dead:Int) !=0)=false:=by rw [bne_eq_false_iff_eq];omega
    have HG2:Hid (bringGo l (ks.drop (k+1)) dw=R):=Lib.hid (by have:=HGO.out;rwa [if_neg (by omega)] at this)
    clear HGO hdd
    go_wp2
    go_roundw
    case rel=>exact ⟨k+1,by omega,by go_num,HM25.out,F5,dw,HD5.out,HF5.out,HG2.out,HLI.out,HQI.out⟩
    case measure=>simp [intOf];omega
   ·have hne:((di.dead:Int) !=0)=true:=by rw [bne_iff_ne];omega
    have HG2:Hid ((dw,di.dead)=R):=Lib.hid (by have:=HGO.out;rwa [if_pos hdd] at this)
    clear HGO hdd
    go_wp2
    go_ret
    rw [←HG2.out]
    refine ⟨rfl,F5,(HL.out.below HB2.out).mod HM25.out HFF.out,HD5.out,?_,fun b hb=>(HF5.out b hb).imp id fun h=>by omega⟩
    exact (Mod.of_below HB2.out |>.mono (T:=FD) fun x hx h=>absurd hx (Nat.not_lt.2 h)).trans (T:=FD) HM25.out (fun _ h=>h) fun _ _ h=>h
  ·obtain rfl:k=ks.length:=by omega
   rw [List.drop_length] at hgo
   have HG2:Hid ((di.flush,di.dead)=R):=Lib.hid hgo
   have hfg:=HL.out.fg
   have hgw:=hFlt g hfg
   have hgb:=((hm.block g (Nat.lt_of_lt_of_le hgw hwz) (HFF.out g hfg)).trans (HB2.out.block g hgw)).trans HBK.out
   have c0:=cell_of (o:=0) hgb rfl
   have hfl:=dflush_any hDi
   have HM:=Lib.hid hm
   have HFDI:=Lib.hid hFDi
   clear hgo hDi hm hFDi hLr hL2 hgb hLi hQi
   go_wp2_with fail
   refine hfl.mono ?_
   rintro e w5 ⟨rfl,hD5,hm5⟩
   have hm25:Mod FD w2 w5:=HM.out.trans (T:=FD) hm5 (fun _ h=>h) fun x hx h=>(HFDI.out x h).resolve_right (by omega)
   have HD5:=Lib.hid hD5
   have HM25:=Lib.hid hm25
   clear hD5 hm25 hm5 hfl c0
   go_wp2
   go_ret
   rw [←HG2.out]
   refine ⟨rfl,FDi,(HL.out.below HB2.out).mod HM25.out HFF.out,HD5.out,?_,fun b hb=>(HFDI.out b hb).imp id fun h=>by omega⟩
   exact (Mod.of_below HB2.out |>.mono (T:=FD) fun x hx h=>absurd hx (Nat.not_lt.2 h)).trans (T:=FD) HM25.out (fun _ h=>h) fun _ _ h=>h
end Go.Proofs.YtjdbbnhnbdocbaaGreat
namespace Go.Tn.Dk
open Go.Tn
def Lg.check (l:Lg) (d:Dsk):Lg×Dsk×Nat:=
 if (l.sync d).1.err≠0 then ((l.sync d).1,(l.sync d).2,(l.sync d).1.err) else
 if 1099511627775≤l.gen then ({(l.sync d).1 with err:=8},(l.sync d).2,8) else
 if (l.bring (l.sync d).2).2≠0 then ({(l.sync d).1 with err:=(l.bring (l.sync d).2).2},(l.bring (l.sync d).2).1,(l.bring (l.sync d).2).2) else
 if ((l.bring (l.sync d).2).1.save 0 l.epoch ⟨l.gen+1,l.next,l.epoch⟩).2≠0 then
  ({(l.sync d).1 with err:=((l.bring (l.sync d).2).1.save 0 l.epoch ⟨l.gen+1,l.next,l.epoch⟩).2},((l.bring (l.sync d).2).1.save 0 l.epoch ⟨l.gen+1,l.next,l.epoch⟩).1,((l.bring (l.sync d).2).1.save 0 l.epoch ⟨l.gen+1,l.next,l.epoch⟩).2)
 else ({(l.sync d).1 with gen:=l.gen+1,tail:=l.next,H:=fun _=>none},((l.bring (l.sync d).2).1.save 0 l.epoch ⟨l.gen+1,l.next,l.epoch⟩).1,0)
end Go.Tn.Dk
namespace Go.Proofs.YtjdbbnhnbdocbaaGreat
open Go.RowKit Go.Tn Go.Tn.Bt Go.Tn.Lp Go.Tn.Dk
theorem sync_same (l:Lg) (d:Dsk):(l.sync d).1.gen=l.gen∧(l.sync d).1.next=l.next∧(l.sync d).1.epoch=l.epoch∧(l.sync d).1.n=l.n∧(l.sync d).1.H=l.H∧(l.sync d).1.tail=l.tail:=by
 unfold Lg.sync
 split
 ·exact ⟨rfl,rfl,rfl,rfl,rfl,rfl⟩
 ·exact ⟨rfl,rfl,rfl,rfl,rfl,rfl⟩
theorem bring_same {l l':Lg} (d:Dsk) (hn:l'.n=l.n) (hH:l'.H=l.H):l'.bring d=l.bring d:=by
 have hk:l'.keys d=l.keys d:=by unfold Lg.keys Lg.homes;rw [hn,hH]
 have key: ∀(ks:List Nat) (d:Dsk),bringGo l' ks d=bringGo l ks d:=fun ks=>by
  induction ks with
  | nil=>intro d;rfl
  | cons k ks ih=>
   intro d
   simp only [bringGo,hn,hH,ih]
 unfold Lg.bring
 rw [hk,key]
theorem save_two (d:Dsk) (a ep:Nat) (h:Hd):(d.save a ep h).2=0∨(d.save a ep h).2=7:=by
 unfold Dsk.save Dsk.dead
 split
 ·exact .inr rfl
 ·simp only
  split
  ·exact .inr rfl
  ·exact .inl rfl
theorem bringGo_two (l:Lg): ∀(ks:List Nat) (d:Dsk),(bringGo l ks d).2=0∨(bringGo l ks d).2=7
 | [],d=>by
  simp only [bringGo,Dsk.dead]
  split
  ·exact .inr rfl
  ·exact .inl rfl
 | k::ks,d=>by
  simp only [bringGo]
  split
  ·simp only [Dsk.dead]
   split
   ·exact .inr rfl
   ·exact .inl rfl
  ·exact bringGo_two l ks _
theorem bringGo_L (l:Lg): ∀(ks:List Nat) (d:Dsk),(bringGo l ks d).1.L.length=d.L.length
 | [],d=>flush_L d
 | k::ks,d=>by
  simp only [bringGo]
  split
  ·rw [write_L]
  ·rw [bringGo_L l ks,write_L]
theorem bringGo_Q (l:Lg): ∀(ks:List Nat) (d:Dsk),(bringGo l ks d).1.Q.length≤d.Q.length+ks.length
 | [],d=>by
  simp only [bringGo]
  unfold Dsk.flush
  split
  ·rw [step_Q];simp
  ·simp
 | k::ks,d=>by
  have h1:=write_Q d (2+l.n+k) ((l.H k).getD [])
  simp only [bringGo]
  split
  ·simp only [List.length_cons];omega
  ·have:=bringGo_Q l ks (d.write (2+l.n+k) ((l.H k).getD []))
   simp only [List.length_cons]
   omega
set_option maxRecDepth 20000 in
set_option maxHeartbeats 4000000 in
theorem check_any {w:World} {F FD:Nat→Prop} {g p:Nat} {l:Lg} {d:Dsk} (h:LAt w F g p l) (hd:DAt w FD p d) (hF: ∀b,F b→¬ FD b) (hok':l.ok d) (hQ:d.Q.length≤999980000):
  Calls Tryz.prog 153 #[.pointer (some ⟨g,0,none⟩)] w fun e w'=>GPost w F FD g p (l.check d) e w':=by
 have hsy:=sync_any h hd hF
 have hsok:=sync_fit hok'.fit
 obtain ⟨sg,sn,se,snn,sH,st⟩:=sync_same l d
 have hLs:(l.sync d).2.L.length=d.L.length:=by
  unfold Lg.sync
  split
  ·rfl
  ·exact flush_L d
 have hQs:(l.sync d).2.Q.length≤d.Q.length:=by
  unfold Lg.sync
  split
  ·exact Nat.le_refl _
  ·unfold Dsk.flush
   split
   ·rw [step_Q];exact Nat.le_refl _
   ·simp
 obtain ⟨R,hR⟩: ∃R,l.check d=R:=⟨_,rfl⟩
 have hR0:=hR
 unfold Lg.check at hR0
 rw [hR]
 have hsok2:(l.sync d).1.ok (l.sync d).2:=hsok.ok (by rw [sn];exact hok'.small)
 have hbs:=bring_same (l:=l) (l':=(l.sync d).1) (l.sync d).2 snn sH
 rw [←hbs] at hR0
 rw [←sg, ←sn, ←se] at hR0
 generalize l.sync d=S at*
 obtain ⟨l1,d1⟩:=S
 simp only at*
 have HR:=Lib.hid hR0
 have HF:=Lib.hid hF
 have HLT:=Lib.hid h.lt
 have HDLT:=Lib.hid hd.lt
 have HOK:=Lib.hid hsok2
 have HFG:=Lib.hid h.fg
 have hgl:=h.lt g h.fg
 have hQ1:d1.Q.length≤999980000:=by omega
 clear h hd hR hR0 hok' hsok hsok2 sg sn se snn sH st hLs hQs hbs hF hQ
 go_enter Tryz.func153,Tryz.ntmps153
 go_wp2_with fail
 refine hsy.mono ?_
 rintro e w1 ⟨rfl,hL1,hD1,hm1⟩
 clear hsy
 by_cases he:l1.err≠0
 ·have hne:((l1.err:Int) !=0)=true:=by rw [bne_iff_ne];omega
  have HR2:Hid ((l1,d1,l1.err)=R):=Lib.hid (by have:=HR.out;rwa [if_pos he] at this)
  have HL1:=Lib.hid hL1
  have HD1:=Lib.hid hD1
  have HM1:=Lib.hid hm1
  clear HR he hL1 hD1 hm1
  go_wp2
  go_ret
  rw [←HR2.out]
  exact ⟨rfl,F,FD,HL1.out,HD1.out,HM1.out,fun b h=> .inl h,fun b h=> .inl h,HF.out⟩
 have hne:((l1.err:Int) !=0)=false:=by rw [bne_eq_false_iff_eq];omega
 have HR1:Hid _:=Lib.hid (by have:=HR.out;rwa [if_neg he] at this)
 clear HR
 obtain ⟨m,L,clk,hb,hH,hmg,hLg⟩:=hL1.ex
 have c3:=cell_of (o:=3) hb rfl
 have hgen:=HOK.out.gen
 have hg63:(l1.gen:Int)≤1099511627775:=by omega
 by_cases hgn:1099511627775≤l1.gen
 ·have hge:decide ((1099511627775:Int)≤(l1.gen:Int))=true:=by simp;omega
  have HR2:Hid (({l1 with err:=8},d1,8)=R):=Lib.hid (by have:=HR1.out;rwa [if_pos hgn] at this)
  have hst:=stays_any hL1 8
  have HD1:=Lib.hid hD1
  have HM1:=Lib.hid hm1
  clear HR1 hgn hL1 hD1 hm1 hb hH hmg hLg
  rw [show ((8:Nat):Int)=8 from rfl] at hst
  go_wp2_with fail
  refine hst.mono ?_
  rintro e w2 ⟨rfl,hL2,hm2⟩
  have HL2:=Lib.hid hL2
  have HM2:=Lib.hid hm2
  clear hst hL2 hm2 c3
  go_wp2
  go_ret
  rw [←HR2.out]
  refine ⟨rfl,F,FD,HL2.out,HD1.out.mod HM2.out fun b hb e=>HF.out g HFG.out (by rw [←e];exact hb),HM1.out.trans (T:=fun b=>F b∨FD b) HM2.out (fun _ h=>h) fun x _ h=> .inl (by rw [h];exact HFG.out),fun b h=> .inl h,fun b h=> .inl h,HF.out⟩
 have hge:decide ((1099511627775:Int)≤(l1.gen:Int))=false:=by simp;omega
 have HR2:Hid _:=Lib.hid (by have:=HR1.out;rwa [if_neg hgn] at this)
 clear HR1
 have hbr:=bring_any hL1 hD1 HF.out HOK.out (by omega)
 have hb2:=bringGo_two l1 (l1.keys d1) d1
 have hbL:=bringGo_L l1 (l1.keys d1) d1
 have hbQ:=bringGo_Q l1 (l1.keys d1) d1
 have hkl:(l1.keys d1).length≤4096:=by
  have:=hD1.ok.hi
  have hho:l1.homes d1=d1.L.length-2-l1.n:=rfl
  unfold Lg.keys
  exact Nat.le_trans (List.length_filter_le _ _) (by rw [List.length_range];omega)
 have hd1hi:=hD1.ok.hi
 have hnd:=HOK.out.nd
 have hbrd:l1.bring d1=bringGo l1 (l1.keys d1) d1:=rfl
 rw [←hbrd] at hb2 hbL hbQ
 obtain ⟨B,hB⟩: ∃B,l1.bring d1=B:=⟨_,rfl⟩
 rw [hB] at hbr HR2 hb2 hbL hbQ
 obtain ⟨d2,e2⟩:=B
 simp only at hbr HR2 hb2 hbL hbQ
 have hml:m<w1.heap.size:=lt_of_block hH.blk
 have hfm:=hH.fm
 have hgm:¬ m=g:=hmg
 have HLG:=Lib.hid hLg
 have HM1:=Lib.hid hm1
 have HW1:=Lib.hid hm1.size
 have HBK:=Lib.hid hb
 have HHH:=Lib.hid hH
 have hgen2:l1.gen<1099511627775:=by omega
 clear hgn hL1 hD1 hb hH hmg hLg hB hm1
 go_wp2_with fail
 refine hbr.mono ?_
 rintro e w2 ⟨rfl,FD2,hL2,hD2,hm2,hF2⟩
 clear hbr
 have hm2s:=hm2.size
 have hF2n: ∀x,F x→¬ FD2 x:=fun x hx hx'=>by
  rcases hF2 x hx' with h|h
  ·exact HF.out x hx h
  ·have:=HLT.out x hx;have:=HW1.out;omega
 have hM12:Mod (fun b=>F b∨FD b) w w2:=HM1.out.trans (T:=fun b=>F b∨FD b) hm2 (fun _ h=>h) fun x _ h=> .inr h
 have hF2': ∀b,FD2 b→FD b∨w.heap.size≤b:=fun b hb=>(hF2 b hb).imp id fun h=>Nat.le_trans HW1.out h
 by_cases he2:e2≠0
 ·have hne2:((e2:Int) !=0)=true:=by rw [bne_iff_ne];omega
  have HR3:Hid (({l1 with err:=e2},d2,e2)=R):=Lib.hid (by have:=HR2.out;rwa [if_pos he2] at this)
  have hst:=stays_any hL2 e2
  have HD2:=Lib.hid hD2
  have HM2:=Lib.hid hM12
  have HF2:=Lib.hid hF2'
  have HFN:=Lib.hid hF2n
  clear HR2 he2 hL2 hD2 hm2 hF2 hM12 hF2' hF2n
  go_wp2_with fail
  refine hst.mono ?_
  rintro e w3 ⟨rfl,hL3,hm3⟩
  have HL3:=Lib.hid hL3
  have HM3:=Lib.hid hm3
  clear hst hL3 hm3 c3
  go_wp2
  go_ret
  rw [←HR3.out]
  refine ⟨rfl,F,FD2,HL3.out,HD2.out.mod HM3.out fun b hb e=>HFN.out g HFG.out (by rw [←e];exact hb),HM2.out.trans (T:=fun b=>F b∨FD b) HM3.out (fun _ h=>h) fun x _ h=> .inl (by rw [h];exact HFG.out),fun b h=> .inl h,HF2.out,HFN.out⟩
 have he0:e2=0:=by omega
 subst he0
 have HR3:Hid _:=Lib.hid (by have:=HR2.out;rwa [if_neg (by decide)] at this)
 clear HR2 he2 hb2
 have hgl1:g<w1.heap.size:=Nat.lt_of_lt_of_le hgl HW1.out
 obtain ⟨m2,L2,clk2,hbk2,hH2,hmg2,hLg2⟩:=hL2.ex
 have hg3:=cell_of (o:=3) hbk2 rfl
 have hg5:=cell_of (o:=5) hbk2 rfl
 have hg2:=cell_of (o:=2) hbk2 rfl
 have hS:w2.drew.cell? ⟨g,3,none⟩=some (.int .u64 (l1.gen:Nat))∧w2.drew.cell? ⟨g,5,none⟩=some (.int .u64 (l1.next:Nat))∧w2.drew.cell? ⟨g,2,none⟩=some (.int .u64 (l1.epoch:Nat)):=⟨hg3,hg5,hg2⟩
 have hglw:g<w2.drew.heap.size:=hL2.lt g HFG.out
 have hsmall:=HOK.out.small
 have hep:=HOK.out.epoch
 have HUN:Hid (IntKind.u64.wrap ((l1.gen:Nat)+1:Int)=((l1.gen+1:Nat):Int)):=Lib.hid (by rw [IntWalk.u64_in _ (by omega)];omega)
 go_upto_region 9 with fail
 refine wp_region_x (fun w'=>w'.cell? ⟨g,3,none⟩=some (.int .u64 (l1.gen:Nat))∧w'.cell? ⟨g,5,none⟩=some (.int .u64 (l1.next:Nat))∧w'.cell? ⟨g,2,none⟩=some (.int .u64 (l1.epoch:Nat))) [(0,1),(1,1),(2,1),(3,0),(4,1),(5,1),(6,1),(7,1),(8,0),(9,1),(10,1),(11,1),(12,0),(13,1),(14,2),(15,3)] (by kernel_rfl) (by kernel_rfl) (by intro d v c a w h;cases d<;>exact h) ?_
 iterate 3 (refine x_take rfl (fun K hK=> ?_);go_simp;refine hK _ ?_;clear hK K)
 refine x_read rfl hS (fun w' h=>exec_load1 ⟨⟨_,Tryz.underlying37,rfl⟩⟩ rfl h.1) ?_
 iterate 4 (refine x_take rfl (fun K hK=> ?_);go_simp;refine hK _ ?_;clear hK K)
 refine x_read rfl hS (fun w' h=>exec_load1 ⟨⟨_,Tryz.underlying37,rfl⟩⟩ rfl h.2.1) ?_
 iterate 3 (refine x_take rfl (fun K hK=> ?_);go_simp;refine hK _ ?_;clear hK K)
 refine x_read rfl hS (fun w' h=>exec_load1 ⟨⟨_,Tryz.underlying37,rfl⟩⟩ rfl h.2.2) ?_
 iterate 1 (refine x_take rfl (fun K hK=> ?_);go_simp;refine hK _ ?_;clear hK K)
 rw [HUN.out]
 refine x_show' rfl (fun K hK=> ?_)
 go_simp
 have hA: ∀z:Array Value,((w2.alloc (.cells z 123)).drew.cell? ⟨g,3,none⟩=some (.int .u64 (l1.gen:Nat))∧(w2.alloc (.cells z 123)).drew.cell? ⟨g,5,none⟩=some (.int .u64 (l1.next:Nat))∧(w2.alloc (.cells z 123)).drew.cell? ⟨g,2,none⟩=some (.int .u64 (l1.epoch:Nat))):=fun z=>
  ⟨(((Below.refl _ w2).alloc (Nat.le_refl _) _).cell (p:=⟨g,3,none⟩) hglw).trans hS.1,(((Below.refl _ w2).alloc (Nat.le_refl _) _).cell (p:=⟨g,5,none⟩) hglw).trans hS.2.1,(((Below.refl _ w2).alloc (Nat.le_refl _) _).cell (p:=⟨g,2,none⟩) hglw).trans hS.2.2⟩
 refine hK _ _ (hA _) ?_
 clear hK K hS hA
 have hzb:(w2.alloc (.cells #[.int .u64 0, .int .u64 0, .int .u64 0] 123)).drew.heap[w2.heap.size]?=some (.cells #[.int .u64 0, .int .u64 0, .int .u64 0] 123 (0,0)):=heap_alloc_at
 have hzz:(w2.alloc (.cells #[.int .u64 0, .int .u64 0, .int .u64 0] 123)).drew.heap.size=w2.heap.size+1:=by show (w2.alloc _).heap.size=_;simp
 have hzbe:Below w2.heap.size w2 (w2.alloc (.cells #[.int .u64 0, .int .u64 0, .int .u64 0] 123)).drew:=((Below.refl _ _).alloc (Nat.le_refl _) _).drew
 obtain ⟨w3,hr3,hbx,hm3⟩:=exec_storeB (ρ:=fun _=>undef) (ty:=0) (pos:= "") (after:= #[]) (x:= .tmp 0) (y:= .tmp 0) (aggHd ((l1.gen+1:Nat):Int) (l1.next:Nat) (l1.epoch:Nat)) hzb rfl (oneHd _ _ _)
 refine x_skip rfl (hr3 _ _ _ _ _ _ _ _ rfl rfl) ?_
 refine x_nil ?_
 have hb3:Below w2.heap.size w2 w3:=hzbe.trans (hm3.below (by omega) fun x hx e=>by omega)
 have hz3:w2.heap.size+1≤w3.heap.size:=by have:=hm3.size;omega
 clear hr3 hm3 hzb hzz hzbe
 have hL3:=hL2.below hb3
 have hD3:=(hD2.below hb3).drew
 have hlt2:=hL2.lt
 have hDlt2:=hD2.lt
 have hgl2:=hlt2 g HFG.out
 have hg3:w3.heap[g]?=_:=(hb3.block g hgl2).trans hbk2
 have hS:w3.drew.cell? ⟨g,0,none⟩=some (.pointer (some ⟨p,0,none⟩))∧w3.drew.cell? ⟨g,2,none⟩=some (.int .u64 (l1.epoch:Nat))∧Lies w3.drew w2.heap.size 0 #[.int .u64 ((l1.gen+1:Nat):Int), .int .u64 (l1.next:Nat), .int .u64 (l1.epoch:Nat)]:=⟨cell_of (w:=w3.drew) (o:=0) hg3 rfl,cell_of (w:=w3.drew) (o:=2) hg3 rfl,lies_of (w:=w3.drew) hbx⟩
 have hsv:=hsave_any hD3 0 l1.epoch ⟨l1.gen+1,l1.next,l1.epoch⟩ (by omega) hep (by simp only;omega) (Nat.lt_of_lt_of_le hsmall (by decide)) (Nat.lt_of_le_of_lt hep (by decide)) (by omega)
 rw [show ((0:Nat):Int)=0 from rfl] at hsv
 have hs2:=save_two d2 0 l1.epoch ⟨l1.gen+1,l1.next,l1.epoch⟩
 obtain ⟨V,hV⟩: ∃V,d2.save 0 l1.epoch ⟨l1.gen+1,l1.next,l1.epoch⟩=V:=⟨_,rfl⟩
 rw [hV] at hsv HR3 hs2
 obtain ⟨d3,e3⟩:=V
 simp only at hsv HR3 hs2
 have HBX:=Lib.hid hbx
 have HB3:=Lib.hid hb3
 have HZ3:=Lib.hid hz3
 have HL3:=Lib.hid hL3
 have HM12:=Lib.hid hM12
 have HF2:=Lib.hid hF2'
 have HF2n:=Lib.hid hF2n
 have HD2L:=Lib.hid hDlt2
 have HL2L:=Lib.hid hlt2
 clear hV hbx hb3 hL3 hD3 hL2 hD2 hbk2 hH2 hmg2 hLg2 hM12 hF2' hF2n hm2 hF2 hg5 hg2 hg3 c3 hDlt2 hlt2
 go_upto_region 10 with fail
 refine wp_region_x (fun w'=>w'.cell? ⟨g,0,none⟩=some (.pointer (some ⟨p,0,none⟩))∧w'.cell? ⟨g,2,none⟩=some (.int .u64 (l1.epoch:Nat))∧Lies w' w2.heap.size 0 #[.int .u64 ((l1.gen+1:Nat):Int), .int .u64 (l1.next:Nat), .int .u64 (l1.epoch:Nat)]) [(0,1),(1,1),(2,1),(3,0),(4,1),(5,1),(6,1),(7,0),(8,0),(9,2),(10,1)] (by kernel_rfl) (by kernel_rfl) (by intro d v c a w h;cases d<;>exact h) ?_
 iterate 3 (refine x_take rfl (fun K hK=> ?_);go_simp;refine hK _ ?_;clear hK K)
 refine x_read rfl hS (fun w' h=>exec_load1 ⟨⟨_,Tryz.underlying25,rfl⟩⟩ rfl h.1) ?_
 iterate 3 (refine x_take rfl (fun K hK=> ?_);go_simp;refine hK _ ?_;clear hK K)
 refine x_read rfl hS (fun w' h=>exec_load1 ⟨⟨_,Tryz.underlying37,rfl⟩⟩ rfl h.2.1) ?_
 refine x_read rfl hS (fun w' h=>exec_loadA (aggHd _ _ _) rfl h.2.2) ?_
 refine x_show' rfl (fun K hK=> ?_)
 go_simp
 refine hsv.mono ?_
 rintro e w4 ⟨rfl,FD4,hD4,hm4,hF4⟩
 have hz34:w3.heap.size≤w4.heap.size:=hm4.size
 have hL4:LAt w4 F g p l1:=(HL3.out.below (Below.refl _ _).drew).mod hm4 HF2n.out
 have hbn:¬ FD2 w2.heap.size:=fun h=>by have:=HD2L.out _ h;omega
 have hbx4:w4.heap[w2.heap.size]?=_:=(hm4.block w2.heap.size (by show w2.heap.size<w3.heap.size;have:=HZ3.out;omega) hbn).trans HBX.out
 have hg4:=hm4.block g (by show g<w3.heap.size;have:=HZ3.out;omega) (HF2n.out g HFG.out)
 refine hK _ _ ⟨(World.cell?_of_block (a:=⟨g,0,none⟩) hg4).trans hS.1,(World.cell?_of_block (a:=⟨g,2,none⟩) hg4).trans hS.2.1,lies_of hbx4⟩ ?_
 clear hK K hS hsv hg4
 iterate 1 (refine x_take rfl (fun K hK=> ?_);go_simp;refine hK _ ?_;clear hK K)
 refine x_nil ?_
 have hw12:w1.heap.size≤w2.heap.size:=hm2s
 have hM14:Mod (fun b=>F b∨FD b) w w4:=(HM12.out.trans (T:=fun b=>F b∨FD b) (Mod.of_below HB3.out) (fun _ h=>h) fun x hx h=>absurd hx (Nat.not_lt.2 (Nat.le_trans (Nat.le_trans HW1.out hw12) h))).drew.trans (T:=fun b=>F b∨FD b) hm4 (fun _ h=>h) fun x hx h=>by
  rcases HF2.out x h with h|h
  ·exact .inr h
  ·exact absurd hx (Nat.not_lt.2 h)
 have hF4': ∀b,FD4 b→FD b∨w.heap.size≤b:=fun b hb=>by
  rcases hF4 b hb with h|h
  ·exact HF2.out b h
  ·right
   have h:w3.heap.size≤b:=h
   have:=HW1.out
   have:=HZ3.out
   omega
 have hF4n: ∀x,F x→¬ FD4 x:=fun x hx hx'=>by
  rcases hF4 x hx' with h|h
  ·exact HF2n.out x hx h
  ·have h:w3.heap.size≤x:=h
   have:=HL2L.out x hx
   have:=HZ3.out
   omega
 have HM14:=Lib.hid hM14
 have HF4:=Lib.hid hF4'
 have HF4n:=Lib.hid hF4n
 have HD4:=Lib.hid hD4
 clear hM14 hF4' hF4n hD4 hm4 hF4
 by_cases he3:e3≠0
 ·have hne3:((e3:Int) !=0)=true:=by rw [bne_iff_ne];omega
  have HR4:Hid (({l1 with err:=e3},d3,e3)=R):=Lib.hid (by have:=HR3.out;rwa [if_pos he3] at this)
  have hst:=stays_any hL4 e3
  clear HR3 he3 hL4 hbx4
  go_wp2_with fail
  refine hst.mono ?_
  rintro e w5 ⟨rfl,hL5,hm5⟩
  have HL5:=Lib.hid hL5
  have HM5:=Lib.hid hm5
  clear hst hL5 hm5
  go_wp2
  go_ret
  rw [←HR4.out]
  refine ⟨rfl,F,FD4,HL5.out,HD4.out.mod HM5.out fun b hb e=>HF4n.out g HFG.out (by rw [←e];exact hb),HM14.out.trans (T:=fun b=>F b∨FD b) HM5.out (fun _ h=>h) fun x _ h=> .inl (by rw [h];exact HFG.out),fun b h=> .inl h,HF4.out,HF4n.out⟩
 have he30:e3=0:=by omega
 subst he30
 have HR4:Hid (({l1 with gen:=l1.gen+1,tail:=l1.next,H:=fun _=>none},d3,0)=R):=Lib.hid (by have:=HR3.out;rwa [if_neg (by decide)] at this)
 clear HR3 he3 hs2
 obtain ⟨m4,L4,clk4,hbk4,hH4,hmg4,hLg4⟩:=hL4.ex
 have hlt4:=hL4.lt
 have hbg:w2.heap.size≠g:=by omega
 have hS:w4.drew.cell? ⟨w2.heap.size,0,none⟩=some (.int .u64 ((l1.gen+1:Nat):Int))∧w4.drew.cell? ⟨w2.heap.size,1,none⟩=some (.int .u64 (l1.next:Nat)):=⟨cell_of (w:=w4.drew) (o:=0) hbx4 rfl,cell_of (w:=w4.drew) (o:=1) hbx4 rfl⟩
 have k0:w4.drew.heap[g]?=_:=hbk4
 have g3:=cell_of (o:=3) k0 rfl
 have f3:=free_of (o:=3) k0
 go_upto_region 13 with fail
 refine wp_region_x (fun w'=>w'.cell? ⟨w2.heap.size,0,none⟩=some (.int .u64 ((l1.gen+1:Nat):Int))∧w'.cell? ⟨w2.heap.size,1,none⟩=some (.int .u64 (l1.next:Nat))) [(0,1),(1,1),(2,1),(3,0),(4,1),(5,0),(6,1),(7,1),(8,2),(9,1),(10,1),(11,3)] (by kernel_rfl) (by kernel_rfl) (by intro d v c a w h;cases d<;>exact h) ?_
 iterate 3 (refine x_take rfl (fun K hK=> ?_);go_simp;refine hK _ ?_;clear hK K)
 refine x_read rfl hS (fun w' h=>exec_load1 ⟨⟨_,Tryz.underlying37,rfl⟩⟩ rfl h.1) ?_
 iterate 1 (refine x_take rfl (fun K hK=> ?_);go_simp;refine hK _ ?_;clear hK K)
 refine x_read rfl hS (fun w' h=>exec_load1 ⟨⟨_,Tryz.underlying37,rfl⟩⟩ rfl h.2) ?_
 iterate 2 (refine x_take rfl (fun K hK=> ?_);go_simp;refine hK _ ?_;clear hK K)
 have k1:=heap_setCell_at (w:=w4.drew) (o:=3) (v:= .int .u64 ((l1.gen+1:Nat):Int)) k0
 have m1:Mod (fun b=>b=g) w4.drew (w4.drew.setCell ⟨g,3,none⟩ (.int .u64 ((l1.gen+1:Nat):Int))):=(Mod.refl _ _).setCell _ _ fun _=>rfl
 have s1:=And.intro (cell_mod hS.1 m1 hbg) (cell_mod hS.2 m1 hbg)
 refine x_skipS rfl (exec_store1 (v:= .int .u64 ((l1.gen+1:Nat):Int)) ⟨⟨_,Tryz.underlying37,rfl⟩⟩ (by kernel_rfl) rfl rfl rfl g3 f3) s1 ?_
 generalize w4.drew.setCell ⟨g,3,none⟩ (.int .u64 ((l1.gen+1:Nat):Int))=W1 at*
 iterate 2 (refine x_take rfl (fun K hK=> ?_);go_simp;refine hK _ ?_;clear hK K)
 have k2:=heap_setCell_at (o:=4) (v:= .int .u64 (l1.next:Nat)) k1
 have m2':Mod (fun b=>b=g) W1 (W1.setCell ⟨g,4,none⟩ (.int .u64 (l1.next:Nat))):=(Mod.refl _ _).setCell _ _ fun _=>rfl
 refine x_skip rfl (exec_store1 (v:= .int .u64 (l1.next:Nat)) ⟨⟨_,Tryz.underlying37,rfl⟩⟩ (by kernel_rfl) rfl rfl rfl (cell_of (o:=4) k1 rfl) (free_of k1)) ?_
 generalize W1.setCell ⟨g,4,none⟩ (.int .u64 (l1.next:Nat))=W2 at*
 refine x_nil ?_
 have hmm:Mod (fun b=>b=g) w4 W2:=(Mod.refl _ w4).drew.trans (T:=fun b=>b=g) (m1.trans m2' (fun _ h=>h) fun _ _ h=>h) (fun _ h=>h) fun _ _ h=>h
 have hmap:W2.heap[m4]?=some (.map (ents encI L4) clk4):=hmm.heap hH4.blk hmg4
 have c6:=cell_of (o:=6) k2 rfl
 have hm5:=setObjW_mod (w:=W2) m4 (.map (ents encI ([]:Ents Int)) clk4)
 have hml4:m4<W2.heap.size:=lt_of_block hmap
 have hat:=setObjW_at (w:=W2) (o:= .map (ents encI ([]:Ents Int)) clk4) hml4
 obtain ⟨W3,hW3⟩: ∃W3,setObjW W2 m4 (.map (ents encI ([]:Ents Int)) clk4)=W3:=⟨_,rfl⟩
 have hfin:LAt W3 F g p {l1 with gen:=l1.gen+1,tail:=l1.next,H:=fun _=>none}:=by
  rw [←hW3]
  exact ⟨⟨m4, [],clk4,hm5.heap k2 (fun e=>hmg4 e.symm),⟨hat,WF.nil clk4,(fun e he=>by cases he),(fun k hk=>absurd rfl hk),hH4.fm⟩,hmg4,fun e he=>by cases he⟩,HFG.out,fun b hb=>Nat.lt_of_lt_of_le (hlt4 b hb) (Nat.le_trans hmm.size hm5.size)⟩
 have hM5:Mod (fun b=>F b∨FD b) w W3:=by
  rw [←hW3]
  exact (HM14.out.trans (T:=fun b=>F b∨FD b) hmm (fun _ h=>h) fun x _ h=> .inl (by rw [h];exact HFG.out)).trans (T:=fun b=>F b∨FD b) hm5 (fun _ h=>h) fun x _ h=> .inl (by rw [h];exact hH4.fm)
 have hD5:DAt W3 FD4 p d3:=by
  rw [←hW3]
  exact (HD4.out.mod hmm fun b hb e=>HF4n.out g HFG.out (by rw [←e];exact hb)).mod hm5 fun b hb e=>HF4n.out m4 hH4.fm (by rw [←e];exact hb)
 have HFIN:=Lib.hid hfin
 have HM5:=Lib.hid hM5
 have HD5:=Lib.hid hD5
 have HMAP:=Lib.hid hmap
 have HW3:=Lib.hid hW3
 clear hS k0 k1 k2 m1 m2' s1 g3 f3 hmm hmap hm5 hat hfin hM5 hD5 hbk4 hH4 hLg4 hL4 hbx4 hW3 hlt4
 go_wp2_with (first
  | ((with_reducible refine wpList_exec rfl (exec_clearMap Tryz.underlying118 HMAP.out ?_) ?_);rfl;go_frame)
  | fail)
 go_ret
 rw [←HR4.out,HW3.out]
 exact ⟨rfl,F,FD4,HFIN.out,HD5.out,HM5.out,fun b h=> .inl h,HF4.out,HF4n.out⟩
end Go.Proofs.YtjdbbnhnbdocbaaGreat
