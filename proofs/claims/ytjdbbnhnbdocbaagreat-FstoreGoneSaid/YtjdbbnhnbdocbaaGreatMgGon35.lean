import Derived.Test.YtjdbbnhnbdocbaaGreatMgGon34
import Derived.Test.YtjdbbnhnbdocbaaGreatMgGon15
import Derived.Test.YtjdbbnhnbdocbaaGreatMgGon6
namespace Go.Tn
theorem results_tct {fn:Func} {t u v:Tmp} {T:TypeId} (h:fn.results= #[.tmp u, .cell t T, .tmp v]) (tmps:Array Value) {P:Program} {w:World} {b o:Nat} {cs:Array Value} (ht:tmps.getD t undef= .pointer (some ⟨b,o,none⟩)) (hT:AggT P T cs.size) (hL:Lies w b o cs):
  (results fn tmps).run P w= .ok (.tuple #[tmps.getD u undef, .agg cs,tmps.getD v undef]) w:=by
 have hl:=run_loadA hT hL
 simp only [Instr.loadAt,Instr.sureAddr,Sem.run_bind,Sem.run_pure,Result.andThen_ok] at hl
 have ht':tmps[t]?.getD undef= .pointer (some ⟨b,o,none⟩):=by rw [←ht];simp
 simp [results,h,ht',asAddr,hl]
end Go.Tn
namespace Go.Proofs.YtjdbbnhnbdocbaaGreat
open Go.RowKit Go.Tn Go.Tn.Bt Go.Tn.Lp Go.Tn.Dk Go.Tn.Ino Go.Tn.Dr Go.Tn.Fm Go.Tn.Names
theorem placesI_of {bl:List Nat} {D:Nat} (h: ∀k q,bl[k]?=some q→(q≠0↔k<D)):placesI bl=(bl.take D).map fun (x:Nat)=>(x:Int):=by
 unfold placesI
 congr 1
 conv=>lhs;rw [←List.take_append_drop D bl]
 rw [List.filter_append]
 have h1:(bl.take D).filter (· ≠0)=bl.take D:=by
  rw [List.filter_eq_self]
  intro q hq
  obtain ⟨k,hk⟩:=List.mem_iff_getElem?.1 hq
  have hkD:k<D:=by have:=(List.getElem?_eq_some_iff.1 hk).1;rw [List.length_take] at this;omega
  rw [List.getElem?_take_of_lt hkD] at hk
  simpa using (h k q hk).2 hkD
 have h2:(bl.drop D).filter (· ≠0)= []:=by
  rw [List.filter_eq_nil_iff]
  intro q hq
  obtain ⟨k,hk⟩:=List.mem_iff_getElem?.1 hq
  rw [List.getElem?_drop] at hk
  have:¬ q≠0:=fun e=>by have:=(h _ q hk).1 e;omega
  simpa using this
 rw [h1,h2,List.append_nil]
section
variable {w w':World} {F FD:Nat→Prop} {s g p:Nat} {l:Lg} {d:Dsk} {M:Sm} {n j:Nat} {V:Nat→List Nat}
theorem Rep.dirs (h:Rep n V M) (hk:(M.N j).kind=1):(M.N j).L.length≤24∧placesI (M.P j)=((M.P j).take (dirB (M.N j).L).length).map (fun (x:Nat)=>(x:Int))∧(dirB (M.N j).L).length≤5∧
  ∀k,k<(dirB (M.N j).L).length→ ∃q,(M.P j)[k]?=some q∧42≤q∧q<n∧(dirB (M.N j).L)[k]?=some (V q):=by
 have h24:(M.N j).L.length≤24:=by
  rcases (h.nd j).knd with ⟨h1, -⟩|⟨-, -, -,h1, -⟩|⟨h1, -⟩
  ·omega
  ·exact h1
  ·omega
 have hD:(dirB (M.N j).L).length≤5:=by rw [dirB_len];omega
 have hblk: ∀k,(M.W j k)=(dirB (M.N j).L)[k]?:=fun k=>by
  show (M.N j).blk k=_
  unfold Nd.blk
  rw [if_pos hk]
 have hhas: ∀k q,(M.P j)[k]?=some q→(q≠0↔k<(dirB (M.N j).L).length):=fun k q hq=>by
  rw [h.mid.has j k q hq,hblk]
  constructor
  ·intro hn
   apply Classical.byContradiction
   intro hge
   exact hn (List.getElem?_eq_none (by omega))
  ·intro hlt hn
   have:=List.getElem?_eq_none_iff.1 hn
   omega
 refine ⟨h24,placesI_of hhas,hD,fun k hk'=> ?_⟩
 obtain ⟨q,hq⟩: ∃q,(M.P j)[k]?=some q:=⟨_,List.getElem?_eq_getElem (by rw [h.mid.len j];omega)⟩
 have h0:=(hhas k q hq).2 hk'
 have hlo:=h.mid.lo j q (List.mem_of_getElem? hq) h0
 refine ⟨q,hq,hlo.1,hlo.2,?_⟩
 have hb:(dirB (M.N j).L)[k]?=some ((dirB (M.N j).L)[k]):=List.getElem?_eq_getElem hk'
 rw [hb,h.mid.at_ j k q _ hq h0 (by rw [hblk,hb])]
def EntR (M:Sm) (B:Nat) (f:Int×Int) (e:Ending) (w':World):Prop:=
 ((M.of f 1).2=0∧ ∃v,e= .returned (.tuple #[v, .agg (inoC (M.ino (M.of f 1).1)), .int .i64 0])∧LOut enEn 4 64 B w' v (M.N (M.of f 1).1).L)∨
 ((M.of f 1).2≠0∧ ∃x:Ino,x.bl.length=8∧e= .returned (.tuple #[.slice none 0 0, .agg (inoC x), .int .i64 ((M.of f 1).2:Nat)]))
set_option maxRecDepth 20000 in
set_option maxHeartbeats 8000000 in
theorem fentries_any (h:SAt w F FD s g p l d M) (f:Int×Int):Calls Tryz.prog 67 #[.pointer (some ⟨s,0,none⟩), .agg #[.int .i64 f.1, .int .i64 f.2]] w
  fun e w'=>EntR M w.heap.size f e w'∧Below w.heap.size w w':=by
 obtain ⟨w1,hw1⟩: ∃w1,w.alloc (.cells #[.int .i64 f.1, .int .i64 f.2] 33)=w1:=⟨_,rfl⟩
 have hb1:Below w.heap.size w w1:=by rw [←hw1];exact (Below.refl _ _).alloc (Nat.le_refl _) _
 have hX1:w1.heap[w.heap.size]?=some (.cells #[.int .i64 f.1, .int .i64 f.2] 33 (0,0)):=by rw [←hw1];exact heap_alloc_at
 have hz1:w1.heap.size=w.heap.size+1:=by rw [←hw1];simp
 obtain ⟨w2,hw2⟩: ∃w2,w1.alloc (.cells (inoC (Ino.free 0)) 52)=w2:=⟨_,rfl⟩
 have hb2:Below w1.heap.size w1 w2:=by rw [←hw2];exact (Below.refl _ _).alloc (Nat.le_refl _) _
 have hX2:w2.heap[w1.heap.size]?=some (.cells (inoC (Ino.free 0)) 52 (0,0)):=by rw [←hw2];exact heap_alloc_at
 have hs2:w2.heap.size=w.heap.size+2:=by rw [←hw2];simp [hz1]
 have hb12:=hb1.trans (hb2.mono hb1.size)
 have hF2:w2.heap[w.heap.size]?=some (.cells #[.int .i64 f.1, .int .i64 f.2] 33 (0,0)):=(hb2.block _ (lt_of_block hX1)).trans hX1
 have h2:=h.below hb12
 have hLF:Lies w2 w.heap.size 0 #[.int .i64 f.1, .int .i64 f.2]:=lies_of hF2
 have hagf:=aggFl f.1 f.2
 have hkd:=fkind_any h2 f 1 (by decide)
 have HB:=Lib.hid hb12
 have HX2:=Lib.hid hX2
 have HZ1:=Lib.hid hz1
 have HZ:=Lib.hid hs2
 have H2:=Lib.hid h2
 rw [inoC_free] at hw2
 rw [show ((1:Nat):Int)=1 from rfl] at hkd
 clear h hb1 hX1 hb2 hX2 hb12 hF2 h2 hz1 hs2
 go_enter Tryz.func67,Tryz.ntmps67
 go_upto_region 1 with fail
 simp only [hw1,hw2,Int.natCast_zero] at*
 clear hw1 hw2
 go_wp2_with (first
  | ((with_reducible refine wpList_loadA hagf hLF ?_ ?_);rfl;go_frame)
  | fail)
 refine hkd.mono ?_
 rintro e w3 ⟨⟨x,hx8,hxj,rfl⟩,hb3⟩
 have hag:=aggI hx8
 have hone:=inoC_one x
 have hszx:(inoC (Ino.free 0)).size=(inoC x).size:=by rw [inoC_size rfl,inoC_size hx8]
 have hsz11:(inoC x).size=11:=inoC_size hx8
 have hb3':=HB.out.trans (hb3.mono HB.out.size)
 have hres:=(hb3.block _ (lt_of_block HX2.out)).trans HX2.out
 obtain ⟨w4,hw4⟩: ∃w4,w3.alloc (.cells (inoC x) 52)=w4:=⟨_,rfl⟩
 have hb4:Below w3.heap.size w3 w4:=by rw [←hw4];exact (Below.refl _ _).alloc (Nat.le_refl _) _
 have hX4:w4.heap[w3.heap.size]?=some (.cells (inoC x) 52 (0,0)):=by rw [←hw4];exact heap_alloc_at
 have hres4:=(hb4.block _ (lt_of_block hres)).trans hres
 have hL4:Lies w4 w3.heap.size 0 (inoC x):=lies_of hX4
 have H4:=Lib.hid ((H2.out.below hb3).below hb4)
 have HB4:=Lib.hid (hb3'.trans (hb4.mono hb3'.size))
 have HX4:=Lib.hid hX4
 have HRES4:=Lib.hid hres4
 have HX8:=Lib.hid hx8
 have HXJ:=Lib.hid hxj
 have HS3:=Lib.hid (show w.heap.size+2≤w3.heap.size by have h1:=hb3.size;have h2:=HZ.out;omega)
 obtain ⟨c,hc⟩: ∃c,(M.of f 1).2=c:=⟨_,rfl⟩
 rw [hc]
 have HC:=Lib.hid hc
 clear hkd hb3 hb3' hres hb4 hX4 hres4 hx8 hxj hLF hc
 go_upto_region 2 with (first
  | ((with_reducible refine wpList_storeA_new hag ?_ hone ?_ ?_ ?_);(rw [hsz11];rfl);rfl;rfl;go_frame)
  | fail)
 simp only [hw4] at*
 clear hw4
 by_cases hc0:c=0
 ·subst hc0
  obtain ⟨hth,hkind⟩:=of_0 HC.out
  have hxj:=HXJ.out HC.out
  obtain ⟨j,hj⟩: ∃j,(M.of f 1).1=j:=⟨_,rfl⟩
  rw [hj] at hth hkind hxj
  have hnd:=H4.out.rep.nd j
  obtain ⟨hok,hrise⟩:(∀e∈(M.N j).L,Ent.ok e)∧Dr.Rise (M.N j).L:=by
   rcases hnd.knd with ⟨h1, -⟩|⟨-,h1,h2, -⟩|⟨h1, -⟩
   ·omega
   ·exact ⟨h1,h2⟩
   ·omega
  obtain ⟨h24,hpl,hD5,hget⟩:=H4.out.rep.dirs hkind
  obtain ⟨L,hL⟩: ∃L,(M.N j).L=L:=⟨_,rfl⟩
  rw [hL] at h24 hpl hD5 hget hok hrise
  have hbl:x.bl=M.P j:=by rw [hxj];rfl
  have hpc:=iplaces_any w4 x HX8.out
  rw [hbl,hpl] at hpc
  obtain ⟨D,hD⟩: ∃D,(dirB L).length=D:=⟨_,rfl⟩
  rw [hD] at hpc hD5 hget
  have HJ:=Lib.hid hj
  have HL:=Lib.hid hL
  have HXX:=Lib.hid hxj
  have HOK:=Lib.hid hok
  have HRI:=Lib.hid hrise
  have H24:=Lib.hid h24
  have HGET:=Lib.hid hget
  have HD:=Lib.hid hD
  have hP8:=H4.out.rep.mid.len j
  have hlenT:(((M.P j).take D).map fun (y:Nat)=>(y:Int)).length=D:=by rw [List.length_map,List.length_take];omega
  have HLT:=Lib.hid hlenT
  have hD5':(D:Int)≤5:=by omega
  clear hth hkind hxj hj hnd hok hrise h24 hpl hget hL hbl hD hlenT
  go_wp2_with (first
   | ((with_reducible refine wpList_loadA hag hL4 ?_ ?_);rfl;go_frame)
   | fail)
  refine hpc.mono ?_
  rintro e w5 ⟨v5,rfl,hO5,hb5⟩
  have hsl5:=hO5.sl elI.len
  obtain ⟨ao5,cap5,hv5, -, -,hc5⟩:=hsl5
  rw [HLT.out] at hv5 hc5
  subst hv5
  have H5:=Lib.hid (H4.out.below hb5)
  have HB5:=Lib.hid hb5
  have HC5:=Lib.hid hc5
  clear hpc hO5 hb5 hc5
  go_wp2
  go_loopw [9,28] (fun ov iv wi=> ∃i:Nat,i≤D∧iv= .int .i64 i∧BkO w5.heap.size wi ov ((dirB L).take i)∧Below w5.heap.size w5 wi) (fun _ iv _=>D-(intOf iv).toNat)
  case atStart=>exact ⟨0,Nat.zero_le _,rfl,BkO.nil (Nat.le_refl _),Below.refl _ _⟩
  case round=>
   obtain ⟨i,hi,rfl,hO,hb⟩:=hrel
   have HB:=Lib.hid hb
   have HO:=Lib.hid hO
   obtain ⟨oa,oc,hov⟩:=hO.shape
   generalize ((dirB L).take i).length=on at hov
   subst hov
   by_cases hil:i<D
   ·have hil':(i:Int)<(D:Int):=by omega
    obtain ⟨q,hq,hq42,hqn,hqv⟩:=HGET.out i hil
    obtain ⟨b5,o5,rfl,hlt5,hcell⟩:=HC5.out (by omega)
    have hcq:=hcell i (q:Int) (by rw [List.getElem?_map,List.getElem?_take_of_lt hil,hq];rfl)
    have q0:wr.cell? ⟨b5,o5+i,none⟩=some (.int .i64 (q:Nat)):=by
     have:Lies w5 b5 (o5+i*1) (enI (q:Int)).toArray:=hcq
     have h2:=(this.below' hb hlt5) 0 (by show 0<1;decide)
     rwa [Nat.mul_one,Nat.add_zero] at h2
    have hr:=H5.out.below hb
    have c0:=hr.fs.c
    have hrd:=gread_any hr.fs.log hr.fs.disk hr.ok q hqn
    have HQV:=Lib.hid hqv
    clear hcell hcq hr hq hqv hO hb
    go_wp2_with fail
    refine hrd.mono ?_
    rintro e w6 ⟨v6,rfl,hR6,hb6⟩
    obtain ⟨a6,n6,c6,rfl⟩: ∃a n c,v6= .slice a n c:=by
     obtain ⟨ao,cap,rfl, -⟩:=hR6.sl
     exact ⟨_,_,_,rfl⟩
    have hO6:=HO.out.below hb6
    have hsl6:=hR6.sl
    have hbo: ∀r,(Value.slice a6 n6 c6).ownBlock=some r→w5.heap.size≤r∧r<w6.heap.size∧(Value.slice oa on oc).ownBlock≠some r:=fun r hr=>⟨Nat.le_trans HB.out.size (hR6.lo r hr),hR6.lt r hr,fun e=>absurd (HO.out.own r e).2 (Nat.not_lt.2 (hR6.lo r hr))⟩
    have hsz:((dirB L).take i).length≤1000:=by rw [List.length_take];omega
    have HB6:=Lib.hid (HB.out.trans (hb6.mono HB.out.size))
    have htk:(dirB L).take (i+1)=(dirB L).take i++ [l.home d q]:=by rw [List.take_add_one,HQV.out];rfl
    have HTK:=Lib.hid htk
    clear hrd hR6 hb6 htk q0 c0
    go_wp2_with (first
     | ((with_reducible refine wpList_appendBk hO6 hsl6 hbo hsz ?_ ?_ ?_ ?_);rfl;rfl;rfl;(intro v10 w10 hO10 hb10;have HO10:=Lib.hid hO10;have HB10:=Lib.hid (HB6.out.trans hb10);clear hO10 hb10);go_frame)
     | fail)
    go_roundw
    case rel=>exact ⟨i+1,by omega,by go_num,by rw [HTK.out];exact HO10.out,HB10.out⟩
    case measure=>simp [intOf];omega
   ·obtain rfl:i=D:=by omega
    rw [List.take_of_length_le (by rw [HD.out];exact Nat.le_refl _)] at hO
    have hen:=eentries_any wr _ L hO.r HOK.out HRI.out H24.out
    have hb4r:Below w4.heap.size w4 wr:=HB5.out.trans (hb.mono HB5.out.size)
    have HB4R:=Lib.hid hb4r
    clear hO hb hb4r
    go_wp2_with fail
    refine hen.mono ?_
    rintro e w7 ⟨v7,rfl,hO7,hb7⟩
    obtain ⟨a7,n7,c7,hv7⟩:=hO7.shape
    subst hv7
    have hb47:=HB4R.out.trans (hb7.mono HB4R.out.size)
    have hL7:Lies w7 w3.heap.size 0 (inoC x):=lies_of ((hb47.block _ (lt_of_block HX4.out)).trans HX4.out)
    have hres7:=(hb47.block _ (lt_of_block HRES4.out)).trans HRES4.out
    have HB7:=Lib.hid (HB4.out.trans (hb47.mono HB4.out.size))
    have HO7:=Lib.hid (hO7.mono (show w.heap.size≤wr.heap.size from Nat.le_trans HB4.out.size HB4R.out.size))
    have HRG:=Lib.hid (show w.heap.size+2≤wr.heap.size by have h1:=HS3.out;have h2:=HB4R.out.size;have h3:=lt_of_block HX4.out;omega)
    have HO7':=Lib.hid hO7
    clear hen hO7 hb7 hb47
    go_upto_region 14 with fail
    obtain ⟨w9,hst,hh9,hm9⟩:=exec_storeB (w:=w7.drew) (ty:=0) (pos:= "") (after:= #[]) (x:= .tmp 0) (y:= .tmp 0) (ρ:=fun _=>undef) hag hres7 hszx hone
    have hS:Lies w7.drew w3.heap.size 0 (inoC x):=hL7
    refine wp_region_x (fun w'=>Lies w' w3.heap.size 0 (inoC x)) [(0,1),(1,0),(2,1),(3,1),(4,3),(5,1)] (by kernel_rfl) (by kernel_rfl) (by intro d v c a w h;cases d<;>exact h) ?_
    iterate 1 (refine x_take rfl (fun K hK=> ?_);go_simp;refine hK _ ?_;clear hK K)
    refine x_read rfl hS (fun w' h=>exec_loadA hag rfl h) ?_
    iterate 2 (refine x_take rfl (fun K hK=> ?_);go_simp;refine hK _ ?_;clear hK K)
    refine x_skip rfl (hst _ _ _ _ _ _ _ _ rfl rfl) ?_
    iterate 1 (refine x_take rfl (fun K hK=> ?_);go_simp;refine hK _ ?_;clear hK K)
    refine x_nil ?_
    have HH9:=Lib.hid hh9
    have HM9:=Lib.hid hm9
    clear hS hst hh9 hm9
    go_wp2
    refine bodyPost_ret (results_tct rfl _ rfl hag (lies_of HH9.out)) rfl ?_
    refine ⟨.inl ⟨HC.out, .slice a7 n7 c7,?_,?_⟩,HB7.out.drew.trans (HM9.out.below HB7.out.size fun y hy e=>by have h1:=HZ1.out;omega)⟩
    ·rw [HJ.out, ←HXX.out]
     rfl
    ·rw [HJ.out,HL.out]
     exact (HO7.out.below (Below.refl w7.heap.size w7).drew).kept HM9.out.size fun r hr=>HM9.out.block r (HO7.out.lt hr) fun e=>by have h1:=HO7'.out.lo r hr;have h2:=HRG.out;have h3:=HZ1.out;omega
 ·have hcc:((c:Int) !=0)=true:=bne_iff_ne.2 (by omega)
  go_upto_region 3 with fail
  obtain ⟨w9,hst,hh9,hm9⟩:=exec_storeB (w:=w4.drew) (ty:=0) (pos:= "") (after:= #[]) (x:= .tmp 0) (y:= .tmp 0) (ρ:=fun _=>undef) hag HRES4.out hszx hone
  have hS:Lies w4.drew w3.heap.size 0 (inoC x):=hL4
  refine wp_region_x (fun w'=>Lies w' w3.heap.size 0 (inoC x)) [(0,0),(1,1),(2,1),(3,3),(4,1)] (by kernel_rfl) (by kernel_rfl) (by intro d v c a w h;cases d<;>exact h) ?_
  refine x_read rfl hS (fun w' h=>exec_loadA hag rfl h) ?_
  iterate 2 (refine x_take rfl (fun K hK=> ?_);go_simp;refine hK _ ?_;clear hK K)
  refine x_skip rfl (hst _ _ _ _ _ _ _ _ rfl rfl) ?_
  iterate 1 (refine x_take rfl (fun K hK=> ?_);go_simp;refine hK _ ?_;clear hK K)
  refine x_nil ?_
  have HH9:=Lib.hid hh9
  have HM9:=Lib.hid hm9
  clear hS hst hh9 hm9
  go_wp2
  refine bodyPost_ret (results_tct rfl _ rfl hag (lies_of HH9.out)) rfl ?_
  refine ⟨.inr ⟨by rw [HC.out];exact hc0,x,HX8.out,by rw [HC.out];rfl⟩,HB4.out.drew.trans (HM9.out.below HB4.out.size fun y hy e=>by have h1:=HZ1.out;omega)⟩
end
section
variable {w w':World} {F FD:Nat→Prop} {s g p:Nat} {l:Lg} {d:Dsk} {M:Sm} {n j:Nat} {V:Nat→List Nat}
def ListR (M:Sm) (B:Nat) (f:Int×Int) (e:Ending) (w':World):Prop:=
 ∃v,e= .returned (.tuple #[v, .int .i64 ((M.of f 1).2:Nat)])∧LOut enEn 4 64 B w' v (if (M.of f 1).2=0 then (M.N (M.of f 1).1).L else [])
theorem EntR.parts {B:Nat} {f:Int×Int} {e:Ending} {w':World} (hm: ∀j,(M.P j).length=8) (hB:B≤w'.heap.size) (h:EntR M B f e w'): ∃v x,x.bl.length=8∧e= .returned (.tuple #[v, .agg (inoC x), .int .i64 ((M.of f 1).2:Nat)])∧LOut enEn 4 64 B w' v (if (M.of f 1).2=0 then (M.N (M.of f 1).1).L else [])∧((M.of f 1).2=0→x=M.ino (M.of f 1).1):=by
 rcases h with ⟨h0,v,he,hO⟩|⟨h0,x,hx,he⟩
 ·exact ⟨v,_,hm _,by rw [he,h0];rfl,by rw [if_pos h0];exact hO,fun _=>rfl⟩
 ·exact ⟨_,x,hx,he,by rw [if_neg h0];exact LOut.nil hB,fun e=>absurd e h0⟩
set_option maxRecDepth 20000 in
set_option maxHeartbeats 4000000 in
theorem flistE_any (h:SAt w F FD s g p l d M) (f:Int×Int):Calls Tryz.prog 19 #[.pointer (some ⟨s,0,none⟩), .agg #[.int .i64 f.1, .int .i64 f.2]] w
  fun e w'=>ListR M w.heap.size f e w'∧Below w.heap.size w w':=by
 obtain ⟨w1,hw1⟩: ∃w1,w.alloc (.cells #[.int .i64 f.1, .int .i64 f.2] 33)=w1:=⟨_,rfl⟩
 have hb1:Below w.heap.size w w1:=by rw [←hw1];exact (Below.refl _ _).alloc (Nat.le_refl _) _
 have hX1:w1.heap[w.heap.size]?=some (.cells #[.int .i64 f.1, .int .i64 f.2] 33 (0,0)):=by rw [←hw1];exact heap_alloc_at
 have h1:=h.below hb1
 have hLF:Lies w1 w.heap.size 0 #[.int .i64 f.1, .int .i64 f.2]:=lies_of hX1
 have hagf:=aggFl f.1 f.2
 have hen:=fentries_any h1 f
 have HB:=Lib.hid hb1
 have HP:=Lib.hid h.rep.mid.len
 clear h hb1 hX1 h1
 go_enter Tryz.func19,Tryz.ntmps19
 go_upto_region 1 with fail
 simp only [hw1] at*
 clear hw1
 go_wp2_with (first
  | ((with_reducible refine wpList_loadA hagf hLF ?_ ?_);rfl;go_frame)
  | fail)
 refine hen.mono ?_
 rintro e w3 ⟨hE,hb3⟩
 obtain ⟨v,x,hx8,rfl,hO, -⟩:=hE.parts HP.out hb3.size
 have hag:=aggI hx8
 have hone:=inoC_one x
 have hsz11:(inoC x).size=11:=inoC_size hx8
 obtain ⟨av,nv,cv,hv⟩:=hO.shape
 subst hv
 have HB3:=Lib.hid (HB.out.trans (hb3.mono HB.out.size))
 have HO:=Lib.hid (hO.mono HB.out.size)
 have hb4:Below w3.heap.size w3 (w3.alloc (.cells (inoC x) 52)):=(Below.refl _ _).alloc (Nat.le_refl _) _
 have HB4:=Lib.hid hb4
 clear hen hE hb3 hO hb4 hLF
 go_wp2_with (first
  | ((with_reducible refine wpList_storeA_new hag ?_ hone ?_ ?_ ?_);(rw [hsz11];rfl);rfl;rfl;go_frame)
  | fail)
 go_ret2
 exact ⟨⟨_,rfl,HO.out.below HB4.out⟩,HB3.out.trans (HB4.out.mono HB3.out.size)⟩
def Ent.zero:Ent:=⟨ByteArray.empty,0,0,0⟩
def FindC (M:Sm) (f:Int×Int) (s:ByteArray) (x:Ent) (c:Nat):Prop:=
 (M.of f 1).2≠0∧c=(M.of f 1).2∧x=Ent.zero∨(M.of f 1).2=0∧(c=0∧x∈(M.N (M.of f 1).1).L∧x.name=s∨c=11∧x=Ent.zero∧ ∀y∈(M.N (M.of f 1).1).L,y.name≠s)
def FindR (M:Sm) (B:Nat) (f:Int×Int) (s:ByteArray) (e:Ending) (w':World):Prop:=
 ∃v x c,e= .returned (.tuple #[v, .agg (entC x), .int .i64 (c:Nat)])∧LOut enEn 4 64 B w' v (if (M.of f 1).2=0 then (M.N (M.of f 1).1).L else [])∧FindC M f s x c
theorem At.none {L:List Ent} {s:ByteArray} {r:Nat} (h:At L s r false) (hr:Dr.Rise L): ∀y∈L,y.name≠s:=fun y hy e=>by
 obtain ⟨k,hk⟩:=List.mem_iff_getElem?.1 hy
 have h1:=h.lt k y hk
 have hirr:ltN y.name s=false:=by
  cases hq:ltN y.name s with
  | false=>rfl
  | true=>
   rw [e,show ltN s s=false from ltL_irrefl _] at hq
   cases hq
 have hkr:¬ k<r:=fun hl=>by
  rw [h1.1 hl] at hirr
  cases hirr
 by_cases hke:k=r
 ·have:=h.is.2 ⟨y,by rw [←hke];exact hk,e⟩
  cases this
 ·obtain ⟨z,hz⟩: ∃z,L[r]?=some z:=⟨_,List.getElem?_eq_getElem (by have:=(List.getElem?_eq_some_iff.1 hk).1;omega)⟩
  have h2:=hr.get hz hk (by omega)
  have h3:=h.lt r z hz
  rw [←e] at h3
  exact absurd (h3.2 h2) (Nat.lt_irrefl _)
set_option maxRecDepth 20000 in
set_option maxHeartbeats 4000000 in
theorem ffind_any (h:SAt w F FD s g p l d M) (f:Int×Int) (t:ByteArray):Calls Tryz.prog 73 #[.pointer (some ⟨s,0,none⟩), .agg #[.int .i64 f.1, .int .i64 f.2], .string t] w
  fun e w'=>FindR M w.heap.size f t e w'∧Below w.heap.size w w':=by
 obtain ⟨w1,hw1⟩: ∃w1,w.alloc (.cells #[.int .i64 f.1, .int .i64 f.2] 33)=w1:=⟨_,rfl⟩
 have hb1:Below w.heap.size w w1:=by rw [←hw1];exact (Below.refl _ _).alloc (Nat.le_refl _) _
 have hX1:w1.heap[w.heap.size]?=some (.cells #[.int .i64 f.1, .int .i64 f.2] 33 (0,0)):=by rw [←hw1];exact heap_alloc_at
 have hz1:w1.heap.size=w.heap.size+1:=by rw [←hw1];simp
 obtain ⟨w2,hw2⟩: ∃w2,w1.alloc (.cells (entC ⟨ByteArray.empty,0,0,0⟩) 64)=w2:=⟨_,rfl⟩
 have hb2:Below w1.heap.size w1 w2:=by rw [←hw2];exact (Below.refl _ _).alloc (Nat.le_refl _) _
 have hX2:w2.heap[w1.heap.size]?=some (.cells (entC ⟨ByteArray.empty,0,0,0⟩) 64 (0,0)):=by rw [←hw2];exact heap_alloc_at
 have hs2:w2.heap.size=w.heap.size+2:=by rw [←hw2];simp [hz1]
 have hb12:=hb1.trans (hb2.mono hb1.size)
 have hF2:w2.heap[w.heap.size]?=some (.cells #[.int .i64 f.1, .int .i64 f.2] 33 (0,0)):=(hb2.block _ (lt_of_block hX1)).trans hX1
 have h2:=h.below hb12
 have hLF:Lies w2 w.heap.size 0 #[.int .i64 f.1, .int .i64 f.2]:=lies_of hF2
 have hagf:=aggFl f.1 f.2
 have hen:=fentries_any h2 f
 have hE0:entC ⟨ByteArray.empty,0,0,0⟩= #[.string {data:= #[]}, .int .i64 0, .int .i64 0, .int .i64 0]:=rfl
 have hag0:AggT Tryz.prog 64 (#[.string {data:= #[]}, .int .i64 0, .int .i64 0, .int .i64 0]:Array Value).size:=aggEn ⟨ByteArray.empty,0,0,0⟩
 have hone0:(#[.string {data:= #[]}, .int .i64 0, .int .i64 0, .int .i64 0]:Array Value).all (·.oneCell')=true:=oneEn ⟨ByteArray.empty,0,0,0⟩
 have HB:=Lib.hid hb12
 have HX2:=Lib.hid hX2
 have HZ1:=Lib.hid hz1
 have HZ:=Lib.hid hs2
 have HP:=Lib.hid h.rep
 rw [hE0] at hw2
 clear h hb1 hX1 hb2 hX2 hb12 hF2 h2 hz1 hs2
 go_enter Tryz.func73,Tryz.ntmps73
 go_upto_region 1 with fail
 simp only [hw1,hw2] at*
 clear hw1 hw2
 go_wp2_with (first
  | ((with_reducible refine wpList_loadA hagf hLF ?_ ?_);rfl;go_frame)
  | fail)
 refine hen.mono ?_
 rintro e w3 ⟨hE,hb3⟩
 obtain ⟨v,x,hx8,rfl,hO, -⟩:=hE.parts HP.out.mid.len hb3.size
 have hag:=aggI hx8
 have hone:=inoC_one x
 have hsz11:(inoC x).size=11:=inoC_size hx8
 have hb3':=HB.out.trans (hb3.mono HB.out.size)
 obtain ⟨w4,hw4⟩: ∃w4,w3.alloc (.cells (inoC x) 52)=w4:=⟨_,rfl⟩
 have hb4:Below w3.heap.size w3 w4:=by rw [←hw4];exact (Below.refl _ _).alloc (Nat.le_refl _) _
 have hres:=(hb3.block _ (lt_of_block HX2.out)).trans HX2.out
 have hres4:=(hb4.block _ (lt_of_block hres)).trans hres
 have hB4:=hb3'.trans (hb4.mono hb3'.size)
 have hO4:LOut enEn 4 64 w2.heap.size w4 v _:=hO.below hb4
 obtain ⟨av,nv,cv,hv⟩:=hO.shape
 subst hv
 have HRES4:=Lib.hid hres4
 have HB4:=Lib.hid hB4
 have HO:=Lib.hid hO4
 clear hen hE hb3 hO hO4 hb3' hb4 hLF hres hres4 hB4 hx8
 go_upto_region 2 with (first
  | ((with_reducible refine wpList_storeA_new hag ?_ hone ?_ ?_ ?_);(rw [hsz11];rfl);rfl;rfl;go_frame)
  | fail)
 simp only [hw4] at*
 clear hw4
 obtain ⟨c,hc⟩: ∃c,(M.of f 1).2=c:=⟨_,rfl⟩
 have hres4:=HRES4.out
 have hsz0:(entC ⟨ByteArray.empty,0,0,0⟩).size=(#[.string {data:= #[]}, .int .i64 0, .int .i64 0, .int .i64 0]:Array Value).size:=rfl
 rw [hc]
 have HC:=Lib.hid hc
 clear hc
 by_cases hc0:c=0
 ·subst hc0
  have ho:=HO.out
  rw [if_pos HC.out] at ho
  have hk:=(of_0 HC.out).2
  obtain ⟨L,hL⟩: ∃L,(M.N (M.of f 1).1).L=L:=⟨_,rfl⟩
  obtain ⟨hok,hrise,h24⟩:(∀e∈L,Ent.ok e)∧Dr.Rise L∧L.length≤24:=by
   rw [←hL]
   rcases (HP.out.nd (M.of f 1).1).knd with ⟨h1, -⟩|⟨-,h1,h2,h3, -⟩|⟨h1, -⟩
   ·omega
   ·exact ⟨h1,h2,h3⟩
   ·omega
  rw [hL] at ho
  have hfi:=efind_any w4 _ L (ho.sl elEn.len) hrise (by omega) t
  have HL:=Lib.hid hL
  have HR:=Lib.hid hrise
  have HOL:=Lib.hid ho
  clear hk hL hok hrise ho
  go_wp2_with fail
  refine hfi.mono ?_
  rintro e w5 ⟨r,b,rfl,hA,hb5⟩
  have HA:=Lib.hid hA
  have HB5:=Lib.hid hb5
  have hres5:=(hb5.block _ (lt_of_block hres4)).trans hres4
  have HRES5:=Lib.hid hres5
  have hO5:=HOL.out.below hb5
  have HO5:=Lib.hid hO5
  clear hfi hA hb5 hO5
  cases b with
  | false=>
   go_wp2_with (first
    | ((with_reducible refine wpList_storeB hag0 ?_ ?_ hres5 hsz0 hone0 ?_);rfl;rfl;(intro w9 hh9 hm9;have HH9:=Lib.hid hh9;have HM9:=Lib.hid hm9;clear hh9 hm9);go_frame)
    | fail)
   refine bodyPost_ret (results_tct rfl _ rfl hag0 (lies_of HH9.out)) rfl ?_
   have hb45:=HB4.out.trans (HB5.out.mono HB4.out.size)
   refine ⟨⟨_,⟨ByteArray.empty,0,0,0⟩,11,rfl,?_, .inr ⟨HC.out, .inr ⟨rfl,rfl,by rw [HL.out];exact HA.out.none HR.out⟩⟩⟩,hb45.trans (HM9.out.below hb45.size fun y hy e=>by have h1:=HZ1.out;omega)⟩
   rw [if_pos HC.out,HL.out]
   exact (HO5.out.mono HB.out.size).kept HM9.out.size fun r hr=>HM9.out.block r (HO5.out.lt hr) fun e=>by have h1:=HO5.out.lo r hr;have h2:=HZ.out;have h3:=HZ1.out;omega
  | true=>
   obtain ⟨y,hy,hyn⟩:=HA.out.is.1 rfl
   obtain ⟨b6,o6,cp6,hv6,hlt6,hL6⟩:=(HO5.out.sl elEn.len).at_ hy
   have hrl:r<L.length:=(List.getElem?_eq_some_iff.1 hy).1
   obtain ⟨rfl,rfl,rfl⟩:av=some ⟨b6,o6,none⟩∧nv=L.length∧cv=cp6:=by
    injection hv6 with h1 h2 h3
    exact ⟨h1,h2,h3⟩
   have hrl':(r:Int)<(L.length:Int):=by omega
   have hagy:=aggEn y
   have honey:=oneEn y
   have hszy:(entC ⟨ByteArray.empty,0,0,0⟩).size=(entC y).size:=rfl
   go_upto_region 7 with fail
   obtain ⟨w9,hst,hh9,hm9⟩:=exec_storeB (w:=w5.drew) (ty:=0) (pos:= "") (after:= #[]) (x:= .tmp 0) (y:= .tmp 0) (ρ:=fun _=>undef) hagy HRES5.out hszy honey
   have hS:Lies w5.drew b6 (o6+r*4) (entC y):=hL6
   refine wp_region_x (fun w'=>Lies w' b6 (o6+r*4) (entC y)) [(0,1),(1,1),(2,1),(3,1),(4,0),(5,1),(6,3),(7,1)] (by kernel_rfl) (by kernel_rfl) (by intro d v c a w h;cases d<;>exact h) ?_
   iterate 4 (refine x_take rfl (fun K hK=> ?_);go_simp;refine hK _ ?_;clear hK K)
   refine x_read rfl hS (fun w' h=>exec_loadA hagy rfl h) ?_
   iterate 1 (refine x_take rfl (fun K hK=> ?_);go_simp;refine hK _ ?_;clear hK K)
   refine x_skip rfl (hst _ _ _ _ _ _ _ _ rfl rfl) ?_
   iterate 1 (refine x_take rfl (fun K hK=> ?_);go_simp;refine hK _ ?_;clear hK K)
   refine x_nil ?_
   have HH9:=Lib.hid hh9
   have HM9:=Lib.hid hm9
   clear hS hst hh9 hm9
   go_wp2
   refine bodyPost_ret (results_tct rfl _ rfl hagy (lies_of HH9.out)) rfl ?_
   have hb45:=HB4.out.trans (HB5.out.mono HB4.out.size)
   refine ⟨⟨_,y,0,rfl,?_, .inr ⟨HC.out, .inl ⟨rfl,by rw [HL.out];exact List.mem_of_getElem? hy,hyn⟩⟩⟩,hb45.drew.trans (HM9.out.below hb45.size fun y hy e=>by have h1:=HZ1.out;omega)⟩
   rw [if_pos HC.out,HL.out]
   exact ((HO5.out.below (Below.refl w5.heap.size w5).drew).mono HB.out.size).kept HM9.out.size fun r hr=>HM9.out.block r (HO5.out.lt hr) fun e=>by have h1:=HO5.out.lo r hr;have h2:=HZ.out;have h3:=HZ1.out;omega
 ·have hcc:((c:Int) !=0)=true:=bne_iff_ne.2 (by omega)
  have HC0:=Lib.hid hc0
  clear hc0
  go_wp2_with (first
   | ((with_reducible refine wpList_storeB hag0 ?_ ?_ hres4 hsz0 hone0 ?_);rfl;rfl;(intro w9 hh9 hm9;have HH9:=Lib.hid hh9;have HM9:=Lib.hid hm9;clear hh9 hm9);go_frame)
   | fail)
  refine bodyPost_ret (results_tct rfl _ rfl hag0 (lies_of HH9.out)) rfl ?_
  refine ⟨⟨_,⟨ByteArray.empty,0,0,0⟩,c,rfl,?_, .inl ⟨by rw [HC.out];exact HC0.out,HC.out.symm,rfl⟩⟩,HB4.out.trans (HM9.out.below HB4.out.size fun y hy e=>by have h1:=HZ1.out;omega)⟩
  rw [if_neg (by rw [HC.out];exact HC0.out)]
  exact LOut.nil (Nat.le_trans HB4.out.size HM9.out.size)
end
section
variable {w w':World} {F FD:Nat→Prop} {s g p:Nat} {l:Lg} {d:Dsk} {M:Sm} {n j:Nat} {V:Nat→List Nat}
def LookC (M:Sm) (f:Int×Int) (t:ByteArray) (x:Ent) (c:Nat):Prop:=isName (bs t)=false∧c=9∧x=Ent.zero∨isName (bs t)=true∧FindC M f t x c
set_option maxRecDepth 20000 in
set_option maxHeartbeats 4000000 in
theorem flookup_any (h:SAt w F FD s g p l d M) (f:Int×Int) (t:ByteArray):Calls Tryz.prog 24 #[.pointer (some ⟨s,0,none⟩), .agg #[.int .i64 f.1, .int .i64 f.2], .string t] w
  fun e w'=>(∃x c,e= .returned (.tuple #[.agg (entC x), .int .i64 (c:Nat)])∧LookC M f t x c)∧Below w.heap.size w w':=by
 obtain ⟨w1,hw1⟩: ∃w1,w.alloc (.cells #[.int .i64 f.1, .int .i64 f.2] 33)=w1:=⟨_,rfl⟩
 have hb1:Below w.heap.size w w1:=by rw [←hw1];exact (Below.refl _ _).alloc (Nat.le_refl _) _
 have hX1:w1.heap[w.heap.size]?=some (.cells #[.int .i64 f.1, .int .i64 f.2] 33 (0,0)):=by rw [←hw1];exact heap_alloc_at
 have hz1:w1.heap.size=w.heap.size+1:=by rw [←hw1];simp
 obtain ⟨w2,hw2⟩: ∃w2,w1.alloc (.cells (entC ⟨ByteArray.empty,0,0,0⟩) 64)=w2:=⟨_,rfl⟩
 have hb2:Below w1.heap.size w1 w2:=by rw [←hw2];exact (Below.refl _ _).alloc (Nat.le_refl _) _
 have hX2:w2.heap[w1.heap.size]?=some (.cells (entC ⟨ByteArray.empty,0,0,0⟩) 64 (0,0)):=by rw [←hw2];exact heap_alloc_at
 have hs2:w2.heap.size=w.heap.size+2:=by rw [←hw2];simp [hz1]
 have hb12:=hb1.trans (hb2.mono hb1.size)
 have hF2:w2.heap[w.heap.size]?=some (.cells #[.int .i64 f.1, .int .i64 f.2] 33 (0,0)):=(hb2.block _ (lt_of_block hX1)).trans hX1
 have h2:=h.below hb12
 have hLF:Lies w2 w.heap.size 0 #[.int .i64 f.1, .int .i64 f.2]:=lies_of hF2
 have hagf:=aggFl f.1 f.2
 have hokc:=fsok_any h2.fs
 have hE0:entC ⟨ByteArray.empty,0,0,0⟩= #[.string {data:= #[]}, .int .i64 0, .int .i64 0, .int .i64 0]:=rfl
 have hag0:AggT Tryz.prog 64 (#[.string {data:= #[]}, .int .i64 0, .int .i64 0, .int .i64 0]:Array Value).size:=aggEn ⟨ByteArray.empty,0,0,0⟩
 have hone0:(#[.string {data:= #[]}, .int .i64 0, .int .i64 0, .int .i64 0]:Array Value).all (·.oneCell')=true:=oneEn ⟨ByteArray.empty,0,0,0⟩
 have hsz0:(entC ⟨ByteArray.empty,0,0,0⟩).size=(#[.string {data:= #[]}, .int .i64 0, .int .i64 0, .int .i64 0]:Array Value).size:=rfl
 have hck:=ncheck_any w2 t
 have HB:=Lib.hid hb12
 have HX2:=Lib.hid hX2
 have HZ1:=Lib.hid hz1
 have HZ:=Lib.hid hs2
 have HP:=Lib.hid h.rep
 have H2:=Lib.hid h2
 have HF2:=Lib.hid hF2
 rw [hE0] at hw2
 clear h hb1 hX1 hb2 hX2 hb12 hF2 h2 hz1 hs2
 go_enter Tryz.func24,Tryz.ntmps24
 go_upto_region 1 with fail
 simp only [hw1,hw2] at*
 clear hw1 hw2
 go_upto_region 4 with (first
  | (go_at_call 71;refine hokc.mono ?_;rintro e wt ⟨rfl,hw⟩;obtain rfl:=hw.symm;clear hw)
  | (go_at_call 72;refine hck.mono ?_;rintro e w3 ⟨rfl,hb3⟩;have HB3a:=Lib.hid hb3;clear hb3 hck)
  | fail)
 have hb3:=HB3a.out
 clear hokc
 have hres3:=(hb3.block _ (lt_of_block HX2.out)).trans HX2.out
 have HRES3:=Lib.hid hres3
 have hLF3:Lies w3 w.heap.size 0 #[.int .i64 f.1, .int .i64 f.2]:=lies_of ((hb3.block _ (lt_of_block HF2.out)).trans HF2.out)
 have hfi:=ffind_any (H2.out.below hb3) f t
 have HB3:=Lib.hid (HB.out.trans (hb3.mono HB.out.size))
 have HS3:=Lib.hid hb3.size
 clear hb3 hLF
 cases hn:isName (bs t) with
 | false=>
  rw [errOf_no hn]
  clear hfi
  go_wp2_with (first
   | ((with_reducible refine wpList_storeB hag0 ?_ ?_ hres3 hsz0 hone0 ?_);rfl;rfl;(intro w9 hh9 hm9;have HH9:=Lib.hid hh9;have HM9:=Lib.hid hm9;clear hh9 hm9);go_frame)
   | fail)
  refine bodyPost_ret (results_cellT rfl _ rfl hag0 (lies_of HH9.out)) rfl ?_
  exact ⟨⟨Ent.zero,9,rfl, .inl ⟨hn,rfl,rfl⟩⟩,HB3.out.trans (HM9.out.below HB3.out.size fun y hy e=>by have h1:=HZ1.out;omega)⟩
 | true=>
  rw [errOf_yes hn]
  have HN:=Lib.hid hn
  clear hn hres3
  go_wp2_with (first
   | ((with_reducible refine wpList_loadA hagf hLF3 ?_ ?_);rfl;go_frame)
   | fail)
  refine hfi.mono ?_
  rintro e w4 ⟨⟨v,x,c,rfl,hO,hC⟩,hb4⟩
  have HC:=Lib.hid hC
  have hagx:=aggEn x
  have honex:=oneEn x
  have hszx:(entC ⟨ByteArray.empty,0,0,0⟩).size=(entC x).size:=rfl
  have hb4':=HB3.out.trans (hb4.mono HB3.out.size)
  obtain ⟨w5,hw5⟩: ∃w5,w4.alloc (.cells (entC x) 64)=w5:=⟨_,rfl⟩
  have hb5:Below w4.heap.size w4 w5:=by rw [←hw5];exact (Below.refl _ _).alloc (Nat.le_refl _) _
  have hX5:w5.heap[w4.heap.size]?=some (.cells (entC x) 64 (0,0)):=by rw [←hw5];exact heap_alloc_at
  have hL5:Lies w5 w4.heap.size 0 (entC x):=lies_of hX5
  have hres4:=(hb4.block _ (lt_of_block HRES3.out)).trans HRES3.out
  have hres5:=(hb5.block _ (lt_of_block hres4)).trans hres4
  have HB5:=Lib.hid (hb4'.trans (hb5.mono hb4'.size))
  obtain ⟨av,nv,cv,hv⟩:=hO.shape
  subst hv
  clear hfi hO hC hb4 hb4' hb5 hX5 hres4 hLF3
  go_upto_region 7 with (first
   | ((with_reducible refine wpList_storeA_new hagx ?_ honex ?_ ?_ ?_);rfl;rfl;rfl;go_frame)
   | fail)
  simp only [hw5] at*
  clear hw5
  go_wp2_with (first
   | ((with_reducible refine wpList_loadA hagx hL5 ?_ ?_);rfl;go_frame)
   | ((with_reducible refine wpList_storeB hagx ?_ ?_ hres5 hszx honex ?_);rfl;rfl;(intro w9 hh9 hm9;have HH9:=Lib.hid hh9;have HM9:=Lib.hid hm9;clear hh9 hm9);go_frame)
   | fail)
  refine bodyPost_ret (results_cellT rfl _ rfl hagx (lies_of HH9.out)) rfl ?_
  exact ⟨⟨x,c,rfl, .inr ⟨HN.out,HC.out⟩⟩,HB5.out.trans (HM9.out.below HB5.out.size fun y hy e=>by have h1:=HZ1.out;omega)⟩
end
end Go.Proofs.YtjdbbnhnbdocbaaGreat
