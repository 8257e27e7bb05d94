import Derived.Test.YtldimgchpgoggaaGreatMgKpt24
import Derived.Test.YtldimgchpgoggaaGreatMgKpt23
import Derived.Test.YtldimgchpgoggaaGreatMgKpt7
import Derived.Test.YtldimgchpgoggaaGreatMgKpt20
import Derived.Test.YtldimgchpgoggaaGreatMgKpt6
namespace Go.Proofs.YtldimgchpgoggaaGreat
open Go.RowKit Go.Tn Go.Tn.Bt Go.Tn.Lp Go.Tn.Dk
theorem LSl.modE {α:Type} {en:α→List Value} {k:Nat} {w w':World} {v:Value} {xs:List α} {S:Nat→Prop} (h:LSl en k w v xs) (hm:Mod S w w') (hr:0<xs.length→ ∀r,v.ownBlock=some r→¬ S r):LSl en k w' v xs:=by
 by_cases h0:0<xs.length
 · exact h.mod hm (hr h0)
 · obtain ⟨ao,cap,rfl,h1,h2, -⟩:=h
   exact ⟨ao,cap,rfl,h1,h2,fun h=>absurd h h0⟩
set_option maxRecDepth 20000 in
set_option maxHeartbeats 4000000 in
theorem dcrash_any {w:World} {F:Nat→Prop} {p:Nat} {d:Dsk} (h:DAt w F p d) (v:Value) (ks:List Int) (hv:LSl enI 1 w v ks) (hvF:0<ks.length→ ∀r,v.ownBlock=some r→¬ F r) (torn:Int):
   Calls Tryz.prog 39 #[.pointer (some ⟨p,0,none⟩),v, .int .i64 torn] w fun e w'=>e= .returned (.tuple #[])∧DAt w' F p (d.crash ks torn)∧Mod F w w':=by
 have hsz:=size_any h
 have hlo:=h.ok.lo
 have hhi:=h.ok.hi
 have hsm:=h.ok.small
 have HOK:=Lib.hid (h.ok.crash ks torn)
 have HSEC:=Lib.hid h.ok.sec
 have HQQ:=Lib.hid h.ok.que
 have HLF:=Lib.hid h.lt
 have hne:((d.L.length:Int)==0)=false:=beq_eq_false_iff_ne.2 (by omega)
 obtain ⟨r,qv,h1,h2,h3,h4,h5,h6,h7⟩:=h.ex
 have HFP:=Lib.hid h6
 have HFR:=Lib.hid h7
 obtain ⟨qa,qc,rfl,hq1,hq2,hq3⟩:=h3.sl elQ.len
 unfold maxLen at hq2
 have c1:=cell_of (o:=1) h1 rfl
 have hqr:¬ (Value.slice qa d.Q.length qc).ownBlock=some r:=fun e=>(h5 r e).2.1 rfl
 have hpl:=h.lt p h6
 have hvr:0<ks.length→ ∀k,v.ownBlock=some k→¬ k=r:=fun h0 k hk e=>hvF h0 k hk (e ▸ h7)
 have H1:=Lib.hid h1
 have H2:=Lib.hid h2
 have H5:=Lib.hid h5
 have HV:=Lib.hid hv
 have HVR:=Lib.hid hvr
 have HQ3:=Lib.hid hq3
 have hQ63:(d.Q.length:Int)≤1000000000:=by omega
 have hL63:(d.L.length:Int)≤4096:=by omega
 clear h1 h2 h3 h5 hq3 h hv hvF hvr h6 h7
 go_enter Tryz.func39,Tryz.ntmps39
 go_wp2_with (first
   |(go_at_call 42;refine hsz.mono ?_;rintro e w2 ⟨rfl,hw2⟩;obtain rfl:=hw2.symm;clear hw2)
   |fail)
 go_loopw [16] (fun iv wi=> ∃k:Nat,k≤d.Q.length∧iv= .int .i64 k∧LOut enS 128 129 0 wi (.slice (some ⟨r,0,none⟩) d.L.length d.L.length) (crashL d.Q.length ks torn 0 (d.Q.take k) d.L)∧Mod (fun b=>b=r) w wi) (fun iv _=>d.Q.length-(intOf iv).toNat)
 case atStart=>exact ⟨0,Nat.zero_le _,rfl,H2.out,Mod.refl _ _⟩
 case round=>
   obtain ⟨k,hk,rfl,hO,hm⟩:=hrel
   by_cases hkl:k<d.Q.length
   · have hkl':(k:Int)<(d.Q.length:Int):=by omega
     obtain ⟨⟨qi,qs⟩,hq⟩: ∃q,d.Q[k]?=some q:=⟨_,List.getElem?_eq_getElem hkl⟩
     have hqi:qi<d.L.length:=(HQQ.out _ (List.mem_of_getElem? hq)).1
     have hqs:secB qs:=(HQQ.out _ (List.mem_of_getElem? hq)).2
     obtain ⟨gq,go,rfl,hgl,hcq⟩:=HQ3.out (by omega)
     have hgr:¬ gq=r:=fun e=>hqr (by rw [e];rfl)
     have hlq:=lies_mod (S:=fun b=>b=r) (hcq k _ hq) hm hgr
     have hlt2:=crashL_take d.Q.length ks torn d.Q d.L k _ hq
     have hb2:Below wr.heap.size wr (wr.alloc (.cells (enQ (qi,qs)).toArray 131)):=(Below.refl _ _).alloc (Nat.le_refl _) _
     have hY:(wr.alloc (.cells (enQ (qi,qs)).toArray 131)).heap[wr.heap.size]?=some (.cells (enQ (qi,qs)).toArray 131 (0,0)):=heap_alloc_at
     have hq0:=cell_of (o:=0) (v:= .int .i64 qi) hY rfl
     have hql:Lies (wr.alloc (.cells (enQ (qi,qs)).toArray 131)) wr.heap.size 1 (enS qs).toArray:=fun j hj=>by
       refine cell_of hY ?_
       rw [List.getElem?_toArray,Nat.add_comm,enQ,List.getElem?_cons_succ]
       simp at hj ⊢
     have hp:(wr.alloc (.cells (enQ (qi,qs)).toArray 131)).heap[p]?=_:=(heap_alloc_lt (Nat.lt_of_lt_of_le hpl hm.size)).trans ((hm.block p hpl (fun e=>h4 e.symm)).trans H1.out)
     have c0:=cell_of (o:=0) hp rfl
     have hO2:=hO.below hb2
     have hm2:Mod (fun b=>b=r) w (wr.alloc (.cells (enQ (qi,qs)).toArray 131)):=hm.alloc _
     have HLQ:=Lib.hid hlq
     have HLT:=Lib.hid hlt2
     have HO2:=Lib.hid hO2
     have HM2:=Lib.hid hm2
     have HP:=Lib.hid hp
     have HWS:Hid (r<wr.heap.size):=Lib.hid (by have:=hO.lt (r:=r) rfl;exact this)
     clear hq hcq hlq hlt2 hY hp hO hm hO2 hm2 hb2
     go_upto_region 4 with (first
       |((with_reducible refine wpList_loadA (aggQ (qi,qs)).toAggT HLQ.out ?_ ?_);rfl;go_frame)
       |((with_reducible refine wpList_storeA_new (aggQ (qi,qs)).toAggT (zcQ (qi,qs)) (all_one (enQ_one (qi,qs))) ?_ ?_ ?_);rfl;rfl;go_frame)
       |fail)
     generalize wr.alloc (.cells (enQ (qi,qs)).toArray 131)=w3 at*
     have hS:w3.drew.cell? ⟨p,0,none⟩=some (.slice (some ⟨r,0,none⟩) d.L.length d.L.length)∧w3.drew.cell? ⟨wr.heap.size,0,none⟩=some (.int .i64 qi):=⟨c0,hq0⟩
     refine wp_region_x (fun w'=>w'.cell? ⟨p,0,none⟩=some (.slice (some ⟨r,0,none⟩) d.L.length d.L.length)∧w'.cell? ⟨wr.heap.size,0,none⟩=some (.int .i64 qi)) [(0,1),(1,1),(2,1),(3,0),(4,1),(5,0),(6,1),(7,1),(8,1),(9,1),(10,1),(13,1),(14,1),(11,2),(12,1),(15,2)] (by kernel_rfl) (by kernel_rfl) (by intro d v c a w h;cases d<;>exact h) ?_
     have hqi0:(0:Int)≤(qi:Int):=by omega
     have hqi':(qi:Int)<(d.L.length:Int):=by omega
     iterate 3 (refine x_take rfl (fun K hK=> ?_);go_simp;refine hK _ ?_;clear hK K)
     refine x_read rfl hS (fun w' h=>exec_load1 ⟨⟨_,Tryz.underlying86,rfl⟩⟩ rfl h.1) ?_
     iterate 1 (refine x_take rfl (fun K hK=> ?_);go_simp;refine hK _ ?_;clear hK K)
     refine x_read rfl hS (fun w' h=>exec_load1 ⟨⟨_,Tryz.underlying3,rfl⟩⟩ rfl h.2) ?_
     iterate 7 (refine x_take rfl (fun K hK=> ?_);go_simp;refine hK _ ?_;clear hK K)
     refine x_show' rfl (fun K hK=> ?_)
     go_simp
     refine (kept_any (w:=w3.drew) HP.out hsm k hkl v ks (LSl.modE HV.out HM2.out.drew HVR.out) torn).mono ?_
     rintro e w4 ⟨rfl,hw4⟩
     obtain rfl:=hw4.symm
     refine hK _ _ hS ?_
     clear hK K hw4
     have hkn:=keptN_le d.Q.length k ks torn
     have hkn':((keptN d.Q.length k ks torn:Nat):Int)≤128:=by omega
     obtain ⟨w5,hcp,hO5,hm5⟩:=copy_torn (m:=keptN d.Q.length k ks torn) (c:=128) (HO2.out.below (Below.refl _ _).drew) (i:=qi) (by rw [crashL_len];exact hqi) (crashL_sec _ _ _ (fun q hq=>HQQ.out q (List.mem_of_mem_take hq)) rfl HSEC.out) hkn hqs hql (by have:=HWS.out;omega)
     have HS5:=Lib.hid (And.intro (cell_mod (S:=fun b=>b=r) hS.1 hm5 (fun e=>h4 e.symm)) (cell_mod (S:=fun b=>b=r) hS.2 hm5 (fun e=>by have:=HWS.out;omega)))
     rw [←HLT.out] at hO5
     have HO5:=Lib.hid hO5
     have HM5:Hid (Mod (fun b=>b=r) w w5):=Lib.hid (HM2.out.drew.trans hm5 (fun _ h=>h) (fun _ _ h=>h))
     iterate 1 (refine x_take rfl (fun K hK=> ?_);go_simp;refine hK _ ?_;clear hK K)
     refine x_show rfl (hcp _ _ _ _ _ _ _ _ rfl rfl) HS5.out ?_
     refine x_nil ?_
     clear hcp hO5 hm5 hS c0 hq0 hql
     go_wp2
     go_roundw
     case rel=>exact ⟨k+1,by omega,by go_num,HO5.out,HM5.out⟩
     case measure=>simp [intOf];omega
   · obtain rfl:k=d.Q.length:=by omega
     rw [List.take_length] at hO
     have hp:wr.heap[p]?=_:=(hm.block p hpl (fun e=>h4 e.symm)).trans H1.out
     have hc1:=cell_of (o:=1) hp rfl
     have hc3:=cell_of (o:=3) hp rfl
     have hc4:=cell_of (o:=4) hp rfl
     have hf1:=free_of (o:=1) hp
     have hf3:=free_of (o:=3) hp
     have hf4:=free_of (o:=4) hp
     have hfin:DAt (((wr.setCell ⟨p,1,none⟩ (.slice none 0 0)).setCell ⟨p,3,none⟩ (.bool false)).setCell ⟨p,4,none⟩ (.bool false)) F p (d.crash ks torn)∧Mod F w (((wr.setCell ⟨p,1,none⟩ (.slice none 0 0)).setCell ⟨p,3,none⟩ (.bool false)).setCell ⟨p,4,none⟩ (.bool false)):=by
       have hm4:Mod (fun b=>b=p) wr (((wr.setCell ⟨p,1,none⟩ (.slice none 0 0)).setCell ⟨p,3,none⟩ (.bool false)).setCell ⟨p,4,none⟩ (.bool false)):=Mod.setCell (S:=fun b=>b=p) (Mod.setCell (S:=fun b=>b=p) (Mod.setCell (S:=fun b=>b=p) (Mod.refl _ _) _ _ fun _=>rfl) _ _ fun _=>rfl) _ _ fun _=>rfl
       have hh:=heap_setCell_at (o:=4) (v:= .bool false) (heap_setCell_at (o:=3) (v:= .bool false) (heap_setCell_at (o:=1) (v:= .slice none 0 0) hp))
       refine ⟨⟨HOK.out,⟨r, .slice none 0 0,?_,?_,LOut.nil (Nat.zero_le _),h4,(fun k hk=>by cases hk),HFP.out,HFR.out⟩,?_⟩,hm.trans (T:=F) hm4 (fun x hx=>by rw [hx];exact HFR.out) (fun x _ hx=>by rw [hx];exact HFP.out)⟩
       · rw [crash_L]
         exact hh
       · rw [crash_L]
         exact hO.kept hm4.size fun k hk=>by cases hk;exact hm4.block r (hO.lt rfl) h4
       · intro b hb
         exact Nat.lt_of_lt_of_le (Nat.lt_of_lt_of_le (HLF.out b hb) hm.size) hm4.size
     have HFIN:=Lib.hid hfin
     clear hO hm hp hfin
     go_wp2
     (try simp only [Exit.inBlock,Exit.then]);refine bodyPost_end (results_none rfl _ _ _) rfl ?_
     exact ⟨rfl,HFIN.out.1,HFIN.out.2⟩
def homesB (l:Lg) (d:Dsk):List (List Nat):=(List.range (l.homes d)).map (l.home d)
theorem homesB_len (l:Lg) (d:Dsk):(homesB l d).length=l.homes d:=by unfold homesB;rw [List.length_map,List.length_range]
def overB (hs:List (List Nat)) (ps:List Pt):List (List Nat):=ps.foldl (fun hs p=>if 0≤p.1∧p.1<(hs.length:Int) then hs.set p.1.toNat p.2 else hs) hs
theorem home_getD (l:Lg) (d:Dsk) (k:Nat):l.home d k=(l.H k).getD (d.get (2+l.n+k)):=by
 unfold Lg.home
 cases l.H k<;>rfl
theorem set_range (N:Nat) (f:Nat→List Nat) (i:Nat) (b:List Nat):((List.range N).map f).set i b=(List.range N).map fun k=>if k=i then b else f k:=by
 apply List.ext_getElem?
 intro j
 rw [List.getElem?_set,List.length_map,List.length_range,List.getElem?_map,List.getElem?_map]
 by_cases hj:j<N
 · rw [List.getElem?_range hj]
   by_cases h:i=j
   · subst h
     simp [hj]
   · rw [if_neg h]
     simp [show ¬ j=i from fun e=>h e.symm]
 · rw [List.getElem?_eq_none (l:=List.range N) (by rw [List.length_range];omega)]
   by_cases h:i=j
   · subst h
     simp [hj]
   · rw [if_neg h]
     rfl
theorem over_take (N:Nat) (g:Nat→List Nat): ∀(ps:List Pt) (H:Nat→Option (List Nat)),(∀p∈ps,0≤p.1∧p.1<N)→overB ((List.range N).map fun k=>(H k).getD (g k)) ps=(List.range N).map fun k=>(takeH H ps k).getD (g k)
 | [],H,_=>rfl
 |p::ps,H,h=>by
   have hp:=h p List.mem_cons_self
   have ih:=over_take N g ps (fun k=>if (k:Int)=p.1 then some p.2 else H k) fun q hq=>h q (List.mem_cons_of_mem _ hq)
   show overB (if 0≤p.1∧p.1<((((List.range N).map fun k=>(H k).getD (g k)).length:Nat):Int) then ((List.range N).map fun k=>(H k).getD (g k)).set p.1.toNat p.2 else (List.range N).map fun k=>(H k).getD (g k)) ps=(List.range N).map fun k=>(takeH (fun k:Nat=>if (k:Int)=p.1 then some p.2 else H k) ps k).getD (g k)
   rw [if_pos (by simp;omega),set_range, ←ih]
   congr 1
   refine List.map_congr_left fun k _=> ?_
   by_cases hk:(k:Int)=p.1
   · rw [if_pos (by omega),if_pos hk]
     rfl
   · rw [if_neg (by omega),if_neg hk]
theorem homesB_write {l l':Lg} {d d':Dsk} {ps:List Pt} {pcs:List Pc} (hn2:2≤l.n) (hn:l'.n=l.n) (hH:l'.H=takeH l.H ps) (hL:d'.L=d.L) (hQ:d'.Q=d.Q++ringQ l.n pcs) (ht:transB ps (l.homes d)=true):homesB l' d'=overB (homesB l d) ps:=by
 have hh:l'.homes d'=l.homes d:=by unfold Lg.homes;rw [hn,hL]
 unfold homesB
 rw [hh]
 have e1:l.home d=fun k=>(l.H k).getD (d.get (2+l.n+k)):=funext (home_getD l d)
 have e2:l'.home d'=fun k=>(takeH l.H ps k).getD (d.get (2+l.n+k)):=funext fun k=>homes_write hn2 hn hH hL hQ k
 rw [e1,e2,over_take]
 intro p hp
 have:=((transB_iff ps _).1 ht).2.2.1 p hp
 exact ⟨this.1,this.2.1⟩
def Ends (d:Dsk) (k E:Nat):Prop:= ∀i,i<k→(endsB (d.get i)).1≤E∧(endsB (d.get i)).2≤E
def PtB (w:World) (S:Nat→Prop) (v:Value) (ps:List Pt):Prop:= ∃xs:List (Pt×Sv),xs.map (·.1)=ps∧LSl enPt 2 w v xs∧(∀r,v.ownBlock=some r→¬ S r∧r<w.heap.size)∧ ∀x∈xs,LSl en8 1 w (sv x.2) x.1.2∧ ∀r,(sv x.2).ownBlock=some r→¬ S r∧r<w.heap.size
theorem PtsO.b {B:Nat} {w:World} {S:Nat→Prop} {v:Value} {ps:List Pt} (h:PtsO B w v ps) (hS: ∀b,S b→b<B∨w.heap.size≤b):PtB w S v ps:=by
 obtain ⟨xs,h1,h2,h3⟩:=h
 refine ⟨xs,h1,h2.sl elPt.len,fun r hr=>⟨fun e=> ?_,h2.lt hr⟩,fun x hx=>⟨(h3 x hx).1,fun r hr=>⟨fun e=> ?_,((h3 x hx).2 r hr).2.1⟩⟩⟩
 · have:=h2.lt hr
   have:=h2.lo r hr
   rcases hS r e with h|h<;>omega
 · have:=((h3 x hx).2 r hr)
   rcases hS r e with h|h<;>omega
theorem PtB.a {w:World} {S:Nat→Prop} {v:Value} {ps:List Pt} (h:PtB w S v ps):PtsA w S v ps:=by
 obtain ⟨xs,h1,h2,h3,h4⟩:=h
 exact ⟨xs,h1,h2,fun r hr=>(h3 r hr).1,fun x hx=>⟨(h4 x hx).1,fun r hr=>((h4 x hx).2 r hr).1⟩⟩
theorem PtB.mod {w w':World} {S S':Nat→Prop} {v:Value} {ps:List Pt} (h:PtB w S v ps) (hm:Mod S w w') (hS: ∀b,S' b→S b∨w.heap.size≤b):PtB w' S' v ps:=by
 obtain ⟨xs,h1,h2,h3,h4⟩:=h
 have key: ∀r,¬ S r∧r<w.heap.size→¬ S' r∧r<w'.heap.size:=fun r hr=>⟨fun e=>by
   rcases hS r e with h|h
   · exact hr.1 h
   · omega,Nat.lt_of_lt_of_le hr.2 hm.size⟩
 exact ⟨xs,h1,h2.mod hm fun r hr=>(h3 r hr).1,fun r hr=>key r (h3 r hr),fun x hx=>⟨(h4 x hx).1.mod hm fun r hr=>((h4 x hx).2 r hr).1,fun r hr=>key r ((h4 x hx).2 r hr)⟩⟩
theorem PtB.below {w w':World} {S:Nat→Prop} {v:Value} {ps:List Pt} (h:PtB w S v ps) (hb:Below w.heap.size w w'):PtB w' S v ps:=by
 obtain ⟨xs,h1,h2,h3,h4⟩:=h
 exact ⟨xs,h1,h2.below hb,fun r hr=>⟨(h3 r hr).1,Nat.lt_of_lt_of_le (h3 r hr).2 hb.size⟩,fun x hx=>⟨(h4 x hx).1.below hb,fun r hr=>⟨((h4 x hx).2 r hr).1,Nat.lt_of_lt_of_le ((h4 x hx).2 r hr).2 hb.size⟩⟩⟩
theorem PtB.sub {w:World} {S S':Nat→Prop} {v:Value} {ps:List Pt} (h:PtB w S v ps) (hS: ∀b,S' b→S b):PtB w S' v ps:=by
 obtain ⟨xs,e1,e2,e3,e4⟩:=h
 exact ⟨xs,e1,e2,fun r hr=>⟨fun e=>(e3 r hr).1 (hS _ e),(e3 r hr).2⟩,fun x hx=>⟨(e4 x hx).1,fun r hr=>⟨fun e=>((e4 x hx).2 r hr).1 (hS _ e),((e4 x hx).2 r hr).2⟩⟩⟩
end Go.Proofs.YtldimgchpgoggaaGreat
namespace Go.Tn.Slo
open Go.RowKit Go.Tn.Bt Go.Tn.Ino
abbrev Blk:=Int×Int×Int
structure Slt where
 used:Bool
 blk:Blk
 ver:Nat
 dirty:Bool
 data:ByteArray
 deriving DecidableEq
def Slt.no:Slt:=⟨false,(0,0,0),0,false,ByteArray.empty⟩
structure Slt.fits (x:Slt):Prop where
 used:x.used=true
 ino:1≤x.blk.1∧x.blk.1≤40
 gen:0≤x.blk.2.1∧x.blk.2.1≤2147483647
 at_:0≤x.blk.2.2∧x.blk.2.2<8
 ver:x.ver≤1099511627775
 size:x.data.size≤64
instance (x:Slt):Decidable x.fits:=
 decidable_of_iff (x.used=true∧(1≤x.blk.1∧x.blk.1≤40)∧(0≤x.blk.2.1∧x.blk.2.1≤2147483647)∧(0≤x.blk.2.2∧x.blk.2.2<8)∧x.ver≤1099511627775∧x.data.size≤64)
   ⟨fun ⟨a,b,c,d,e,f⟩=>⟨a,b,c,d,e,f⟩,fun ⟨a,b,c,d,e,f⟩=>⟨a,b,c,d,e,f⟩⟩
def Slt.is (x:Slt):Prop:=x=Slt.no∨x.fits
instance (x:Slt):Decidable x.is:=by unfold Slt.is;infer_instance
def txBits (s:ByteArray):List Bool:=bitsN s.size 16++s.data.toList.flatMap fun c=>bitsN c.toNat 8
def Slt.bits (x:Slt):List Bool:=if x.used then bitsN 1 1++bitsN x.dirty.toNat 1++bitsN x.blk.1.toNat 6++bitsN x.blk.2.1.toNat 31++bitsN x.blk.2.2.toNat 3++bitsN x.ver 40++txBits x.data else []
def Slt.sec (x:Slt):List Nat:=sector x.bits
theorem c8_len: ∀l:List UInt8,(l.flatMap fun c=>bitsN c.toNat 8).length=8*l.length
 | []=>rfl
 |c::l=>by rw [List.flatMap_cons,List.length_append,bitsN_len,c8_len l,List.length_cons];omega
theorem tx_len (s:ByteArray):(txBits s).length=16+8*s.size:=by
 unfold txBits
 rw [List.length_append,bitsN_len,c8_len]
 rfl
theorem Slt.bits_len {x:Slt} (h:x.is):x.bits.length≤1024:=by
 unfold Slt.bits
 rcases h with rfl|h
 · decide
 · rw [if_pos h.used]
   simp only [List.length_append,bitsN_len,tx_len]
   have:=h.size
   omega
theorem Slt.sec_len {x:Slt} (h:x.is):x.sec.length=128:=sector_len (Slt.bits_len h)
theorem Slt.sec_lt (x:Slt): ∀c∈x.sec,c<256:=sector_lt _
theorem no_sec:Slt.no.sec=List.replicate 128 0:=by decide+kernel
def bLess (a b:Blk):Prop:=a.1<b.1∨a.1=b.1∧(a.2.1<b.2.1∨a.2.1=b.2.1∧a.2.2<b.2.2)
instance (a b:Blk):Decidable (bLess a b):=by unfold bLess;infer_instance
theorem bLess_irrefl (a:Blk):¬ bLess a a:=by unfold bLess;omega
theorem bLess_trans {a b c:Blk} (h:bLess a b) (k:bLess b c):bLess a c:=by unfold bLess at*;omega
theorem bLess_total {a b:Blk} (h:a≠b):bLess a b∨bLess b a:=by
 unfold bLess
 by_cases h1:a.1=b.1
 · by_cases h2:a.2.1=b.2.1
   · by_cases h3:a.2.2=b.2.2
     · exact absurd (Prod.ext h1 (Prod.ext h2 h3)) h
     · omega
   · omega
 · omega
end Go.Tn.Slo
namespace Go.Tn.Pc
open Go.Tn.Slo Go.Tn.Ck
structure PC where
 L:List Slt
 R:Rn
 num:Nat
def PC.at_ (c:PC) (i:Nat):Slt:=(c.L[i]?).getD Slt.no
def PC.find (c:PC) (b:Blk):Option Nat:=(List.range c.L.length).find? fun i=>(c.at_ i).used&&decide ((c.at_ i).blk=b)
def ringSet (r:Rn) (i:Nat) (x:Slt):Rn:=if x=Slt.no then r.drop i else if x.dirty then (r.use i).pin i else r.use i
def PC.set (c:PC) (i:Nat) (x:Slt):PC:={c with L:=c.L.set i x,R:=ringSet c.R i x}
structure PC.Ok (c:PC):Prop where
 len:c.R.L.length=c.L.length
 is: ∀x∈c.L,x.is
 uniq: ∀i j,i<c.L.length→j<c.L.length→(c.at_ i).used=true→(c.at_ j).used=true→(c.at_ i).blk=(c.at_ j).blk→i=j
 used: ∀i,i<c.L.length→(c.R.at_ i).used=(c.at_ i).used
theorem is_used {x:Slt} (h:x.is):x.used=true↔x≠Slt.no:=by
 rcases h with rfl|h
 · exact ⟨(fun h=>by cases h),fun h=>absurd rfl h⟩
 · refine ⟨fun _ e=> ?_,fun _=>h.used⟩
   have:=h.used
   rw [e] at this
   cases this
theorem at_of {c:PC} {i:Nat} {x:Slt} (h:c.L[i]?=some x):c.at_ i=x:=by
 unfold PC.at_
 rw [h]
 rfl
theorem at_get {c:PC} {i:Nat} (h:i<c.L.length):c.L[i]?=some (c.at_ i):=by
 unfold PC.at_
 rw [List.getElem?_eq_getElem h]
 rfl
theorem set_at {c:PC} {i:Nat} (hi:i<c.L.length) (x:Slt) (j:Nat):(c.set i x).at_ j=if j=i then x else c.at_ j:=by
 unfold PC.set PC.at_
 simp only
 rw [List.getElem?_set]
 by_cases h:j=i
 · subst h
   rw [if_pos rfl,if_pos rfl,if_pos hi]
   rfl
 · rw [if_neg h,if_neg (fun e=>h e.symm)]
theorem find_some {c:PC} (h:c.Ok) {b:Blk} {i:Nat}:c.find b=some i↔i<c.L.length∧(c.at_ i).used=true∧(c.at_ i).blk=b:=by
 unfold PC.find
 constructor
 · intro hf
   have h1:=List.find?_some hf
   have h2:=List.mem_range.1 (List.mem_of_find?_eq_some hf)
   simp only [Bool.and_eq_true,decide_eq_true_eq] at h1
   exact ⟨h2,h1⟩
 · rintro ⟨h1,h2,h3⟩
   refine find_range h1 (by simp [h2,h3]) fun j hj=> ?_
   cases hq:((c.at_ j).used&&decide ((c.at_ j).blk=b)) with
   |false=>rfl
   |true=>
     simp only [Bool.and_eq_true,decide_eq_true_eq] at hq
     have:=h.uniq j i (by omega) h1 hq.1 h2 (hq.2.trans h3.symm)
     omega
theorem find_none {c:PC} {b:Blk}:c.find b=none↔ ∀i,i<c.L.length→(c.at_ i).used=true→(c.at_ i).blk≠b:=by
 unfold PC.find
 rw [List.find?_eq_none]
 constructor
 · intro h i hi hu e
   have:=h i (List.mem_range.2 hi)
   rw [hu,decide_eq_true e] at this
   exact this rfl
 · intro h i hi hq
   simp only [Bool.and_eq_true,decide_eq_true_eq] at hq
   exact h i (List.mem_range.1 hi) hq.1 hq.2
theorem ringSet_len (r:Rn) (i:Nat) (x:Slt):(ringSet r i x).L.length=r.L.length:=by
 have hp: ∀(r:Rn) (p:Pl),(r.put i p).L.length=r.L.length:=fun r p=>by unfold Rn.put;simp
 unfold ringSet
 split
 · exact hp _ _
 · split
   · unfold Rn.pin
     split
     · rw [hp];exact hp _ _
     · exact hp _ _
   · exact hp _ _
theorem ringSet_hand (r:Rn) (i:Nat) (x:Slt):(ringSet r i x).hand=r.hand:=by
 unfold ringSet Rn.pin
 split
 · rfl
 · split
   · split<;>rfl
   · rfl
theorem rn_at_put {r:Rn} {i:Nat} (hi:i<r.L.length) (p:Pl) (j:Nat):(r.put i p).at_ j=if j=i then p else r.at_ j:=by
 unfold Rn.at_ Rn.put
 simp only
 rw [List.getElem?_set]
 by_cases h:j=i
 · subst h
   rw [if_pos rfl,if_pos rfl,if_pos hi]
   rfl
 · rw [if_neg h,if_neg (fun e=>h e.symm)]
theorem ringSet_at {r:Rn} {i:Nat} (hi:i<r.L.length) (x:Slt) (j:Nat):(ringSet r i x).at_ j=if j=i then (if x=Slt.no then Pl.no else ⟨true,x.dirty,true⟩) else r.at_ j:=by
 unfold ringSet
 by_cases hx:x=Slt.no
 · rw [if_pos hx,if_pos hx]
   exact rn_at_put hi _ _
 · rw [if_neg hx,if_neg hx]
   cases hd:x.dirty with
   |false=>
     rw [if_neg (by decide)]
     exact rn_at_put hi _ _
   |true=>
     rw [if_pos rfl]
     have h1:(r.use i).at_ i=⟨true,false,true⟩:=by
       unfold Rn.use
       rw [rn_at_put hi,if_pos rfl]
     unfold Rn.pin
     rw [h1,if_pos rfl,rn_at_put (by unfold Rn.use Rn.put;simpa using hi)]
     split
     · rfl
     · unfold Rn.use
       rw [rn_at_put hi,if_neg (by assumption)]
theorem PC.Ok.set {c:PC} (h:c.Ok) {i:Nat} (hi:i<c.L.length) {x:Slt} (hx:x.is) (hu: ∀j,j<c.L.length→j≠i→(c.at_ j).used=true→(c.at_ j).blk≠x.blk∨x=Slt.no):(c.set i x).Ok:=by
 have hl:(c.set i x).L.length=c.L.length:=by unfold PC.set;simp
 refine ⟨?_,fun y hy=> ?_,fun j k hj hk h1 h2 h3=> ?_,fun j hj=> ?_⟩
 · rw [hl]
   exact (ringSet_len _ _ _).trans h.len
 · rcases List.mem_or_eq_of_mem_set hy with hy|hy
   · exact h.is y hy
   · rw [hy];exact hx
 · rw [hl] at hj hk
   rw [set_at hi] at h1 h3
   rw [set_at hi] at h2 h3
   by_cases hji:j=i
   · rw [if_pos hji] at h1 h3
     by_cases hki:k=i
     · omega
     · rw [if_neg hki] at h2 h3
       rcases hu k hk hki h2 with e|e
       · exact absurd h3.symm e
       · rw [e] at h1
         cases h1
   · rw [if_neg hji] at h1 h3
     by_cases hki:k=i
     · rw [if_pos hki] at h2 h3
       rcases hu j hj hji h1 with e|e
       · exact absurd h3 e
       · rw [e] at h2
         cases h2
     · rw [if_neg hki] at h2 h3
       exact h.uniq j k hj hk h1 h2 h3
 · rw [hl] at hj
   have hR:(c.set i x).R.at_ j=(ringSet c.R i x).at_ j:=rfl
   rw [hR,ringSet_at (by rw [h.len];exact hi),set_at hi]
   by_cases hji:j=i
   · rw [if_pos hji,if_pos hji]
     by_cases hn:x=Slt.no
     · rw [if_pos hn,hn]
       rfl
     · rw [if_neg hn]
       exact ((is_used hx).2 hn).symm
   · rw [if_neg hji,if_neg hji]
     exact h.used j hj
end Go.Tn.Pc
namespace Go.Tn.Slo
open Go.RowKit Go.Tn.Bt
def putX (st:Option (List Bool)) (x n:Nat):Option (List Bool):=st.bind fun L=>if x<2 ^ n then some (L++bitsN x n) else none
end Go.Tn.Slo
namespace Go.Proofs.YtldimgchpgoggaaGreat
open Go.RowKit Go.Tn Go.Tn.Bt Go.Tn.Slo
def WrX (w:World) (a:Nat):Option (List Bool)→Prop
 |some L=> ∃v,WrAt w a v L
 |none=> ∃v u,w.heap[a]?=some (.cells #[.bool true,v, .int .i64 u, .int .i64 2] 189 (0,0))
theorem put_bad {w:World} {a:Nat} {v:Value} {u:Int} (h:w.heap[a]?=some (.cells #[.bool true,v, .int .i64 u, .int .i64 2] 189 (0,0))) (x n:Int):Calls Tryz.prog 92 #[.pointer (some ⟨a,0,none⟩), .int .u64 x, .int .i64 n] w fun e w'=>e= .returned (.pointer (some ⟨a,0,none⟩))∧w'=w:=by
 have hc0:w.cell? ⟨a,0,none⟩=some (.bool true):=cell_of h rfl
 have hc3:w.cell? ⟨a,3,none⟩=some (.int .i64 2):=cell_of h rfl
 clear h
 go_enter Tryz.func92,Tryz.ntmps92
 go_wp2
 go_ret
 exact ⟨rfl,rfl⟩
theorem fail_any {w:World} {a:Nat} {v:Value} {u:Int} (h:w.heap[a]?=some (.cells #[.bool true,v, .int .i64 u, .int .i64 0] 189 (0,0))):Calls Tryz.prog 126 #[.pointer (some ⟨a,0,none⟩), .int .i64 2] w
   fun e w'=>e= .returned (.pointer (some ⟨a,0,none⟩))∧w'.heap[a]?=some (.cells #[.bool true,v, .int .i64 u, .int .i64 2] 189 (0,0))∧Mod (fun b=>b=a) w w':=by
 have hc3:w.cell? ⟨a,3,none⟩=some (.int .i64 0):=cell_of h rfl
 have hf3:w.frozen? ⟨a,3,none⟩=false:=free_of h
 have hend:(w.setCell ⟨a,3,none⟩ (.int .i64 2)).heap[a]?=some (.cells #[.bool true,v, .int .i64 u, .int .i64 2] 189 (0,0)):=by
   rw [heap_setCell_at h]
   rfl
 have HE:=Lib.hid hend
 have HM:=Lib.hid ((Mod.refl (fun b=>b=a) w).setCell ⟨a,3,none⟩ (.int .i64 2) (fun _=>rfl))
 clear h hend
 go_enter Tryz.func126,Tryz.ntmps126
 go_wp2
 go_ret
 exact ⟨rfl,HE.out,HM.out⟩
theorem put_wide {w:World} {a:Nat} {v:Value} {L:List Bool} (h:WrAt w a v L) (x n:Nat) (hn:n<64) (hx:2 ^ n≤x) (hx64:x<2 ^ 64):Calls Tryz.prog 92 #[.pointer (some ⟨a,0,none⟩), .int .u64 x, .int .i64 n] w
   fun e w'=>e= .returned (.pointer (some ⟨a,0,none⟩))∧WrX w' a none∧Below a w w':=by
 have hc0:w.cell? ⟨a,0,none⟩=some (.bool true):=cell_of h.blk rfl
 have hc3:w.cell? ⟨a,3,none⟩=some (.int .i64 0):=cell_of h.blk rfl
 have hfl:=fail_any h.blk
 have hal:=lt_of_block h.blk
 have hn':(n:Int)<64:=by omega
 have hn0:(0:Int)≤n:=by omega
 have hdn:decide ((n:Int)<0)=false:=by simp
 have hdm:decide (64<(n:Int))=false:=by simp;omega
 have hq: ∃q:Nat,(x:Int)/2 ^ n=(q:Int)∧1≤q:=by
   refine ⟨x/2 ^ n,by norm_cast,?_⟩
   exact (Nat.le_div_iff_mul_le (Nat.two_pow_pos n)).2 (by omega)
 obtain ⟨q,hq1,hq2⟩:=hq
 have hqn:(((q:Nat):Int)==0)=false:=beq_eq_false_iff_ne.2 (by omega)
 clear h hx hx64 hq2
 go_enter Tryz.func92,Tryz.ntmps92
 go_wp2_with fail
 refine hfl.mono ?_
 rintro e w2 ⟨rfl,h2,hm⟩
 have H2:=Lib.hid h2
 have HM:=Lib.hid hm
 clear hfl h2 hm
 go_wp2
 go_ret
 exact ⟨rfl,⟨_,_,H2.out⟩,HM.out.below (Nat.le_of_lt hal) fun x hx e=>by omega⟩
theorem put_x {w:World} {a:Nat} {st:Option (List Bool)} (h:WrX w a st) (x n:Nat) (hL: ∀L,st=some L→L.length+n≤400000) (hn:n<64) (hx:x<2 ^ 64):Calls Tryz.prog 92 #[.pointer (some ⟨a,0,none⟩), .int .u64 x, .int .i64 n] w
   fun e w'=>e= .returned (.pointer (some ⟨a,0,none⟩))∧WrX w' a (putX st x n)∧Below a w w':=by
 cases st with
 |none=>
   obtain ⟨v,u,h⟩:=h
   refine (put_bad h x n).mono ?_
   rintro e w' ⟨rfl,rfl⟩
   exact ⟨rfl,⟨v,u,h⟩,Below.refl _ _⟩
 |some L=>
   obtain ⟨v,h⟩:=h
   by_cases hxn:x<2 ^ n
   · refine (put_bits w a v L h x n (hL L rfl) (by omega) hxn).mono ?_
     rintro e w' ⟨rfl,v',h',hb, -⟩
     have e1:putX (some L) x n=some (L++bitsN x n):=by
       show (if x<2 ^ n then _ else _)=_
       rw [if_pos hxn]
     rw [e1]
     exact ⟨rfl,⟨v',h'⟩,hb⟩
   · refine (put_wide h x n hn (by omega) hx).mono ?_
     rintro e w' ⟨rfl,h',hb⟩
     have e1:putX (some L) x n=none:=by
       show (if x<2 ^ n then _ else _)=_
       rw [if_neg hxn]
     rw [e1]
     exact ⟨rfl,h',hb⟩
def textX (st:Option (List Bool)) (s:ByteArray):Option (List Bool):=st.map (· ++txBits s)
def txPart (s:ByteArray) (k:Nat):List Bool:=bitsN s.size 16++(s.data.toList.take k).flatMap fun c=>bitsN c.toNat 8
theorem txPart_all (s:ByteArray):txPart s s.size=txBits s:=by
 unfold txPart txBits
 have:s.data.toList.length=s.size:=rfl
 rw [List.take_of_length_le (by omega)]
theorem txPart_snoc (s:ByteArray) {k:Nat} (h:k<s.size):txPart s (k+1)=txPart s k++bitsN s[k].toNat 8:=by
 unfold txPart
 rw [List.take_succ_eq_append_getElem (by simpa using h),List.flatMap_append,List.append_assoc]
 simp
 rfl
theorem txPart_len (s:ByteArray) (k:Nat):(txPart s k).length≤16+8*k:=by
 unfold txPart
 rw [List.length_append,bitsN_len,c8_len,List.length_take]
 omega
theorem WrX.c0 {w:World} {a:Nat} {st:Option (List Bool)} (h:WrX w a st):w.cell? ⟨a,0,none⟩=some (.bool true):=by
 cases st with
 |none=>
   obtain ⟨v,u,h⟩:=h
   exact cell_of h rfl
 |some L=>
   obtain ⟨v,h⟩:=h
   exact cell_of h.blk rfl
set_option maxRecDepth 20000 in
set_option maxHeartbeats 2000000 in
theorem text_x {w:World} {a:Nat} {st:Option (List Bool)} (h:WrX w a st) (s:ByteArray) (hs:s.size<65536) (hL: ∀L,st=some L→L.length+16+8*s.size≤400000):Calls Tryz.prog 95 #[.pointer (some ⟨a,0,none⟩), .string s] w
   fun e w'=>e= .returned (.pointer (some ⟨a,0,none⟩))∧WrX w' a (textX st s)∧Below a w w':=by
 have hc0:=h.c0
 have hsz:decide ((65536:Int)≤((s.size:Nat):Int))=false:=decide_eq_false (by omega)
 have hp:=put_x h s.size 16 (fun L e=>by have:=hL L e;omega) (by decide) (by omega)
 have e1:putX st s.size 16=st.map (· ++txPart s 0):=by
   cases st with
   |none=>rfl
   |some L=>
     show (if s.size<2 ^ 16 then _ else _)=some (L++txPart s 0)
     rw [if_pos (by omega)]
     simp [txPart]
 rw [e1] at hp
 have HL:=Lib.hid hL
 have hwr:IntKind.u64.wrap ((s.size:Nat):Int)=((s.size:Nat):Int):=by rw [Bt.wrap64,Nat.mod_eq_of_lt (by omega)]
 have HWR:=Lib.hid hwr
 have HS:=Lib.hid hs
 clear h hL e1 hs hwr
 go_enter Tryz.func95,Tryz.ntmps95
 go_upto_region 5 with fail
 clear hsz
 have hwr:=HWR.out
 go_wp2_with fail
 refine hp.mono ?_
 rintro e w2 ⟨rfl,hW2,hb2⟩
 have HW2:=Lib.hid hW2
 have HB2:=Lib.hid hb2
 clear hp hW2 hb2 hc0 hwr
 go_wp2_with fail
 go_loopw [28] (fun iv wi=> ∃k:Nat,k≤s.size∧iv= .int .i64 k∧WrX wi a (st.map (· ++txPart s k))∧Below a w wi) (fun iv _=>s.size-(intOf iv).toNat)
 case atStart=>exact ⟨0,Nat.zero_le _,rfl,HW2.out,HB2.out⟩
 case round=>
   obtain ⟨k,hk,rfl,hW,hb⟩:=hrel
   by_cases hks:k<s.size
   · have hp:=put_x hW s[k].toNat 8 (fun L e=>by
       cases st with
       |none=>cases e
       |some L0=>
         cases e
         have:=HL.out L0 rfl
         have:=txPart_len s k
         rw [List.length_append]
         omega) (by decide) (by have:=s[k].toNat_lt;omega)
     have e1:putX (st.map (· ++txPart s k)) s[k].toNat 8=st.map (· ++txPart s (k+1)):=by
       cases st with
       |none=>rfl
       |some L=>
         show (if s[k].toNat<2 ^ 8 then _ else _)=some (L++txPart s (k+1))
         rw [if_pos (by have:=s[k].toNat_lt;omega),txPart_snoc s hks,List.append_assoc]
     rw [e1] at hp
     have HB:=Lib.hid hb
     have hlt:s[k].toNat<256:=s[k].toNat_lt
     have hbw:IntKind.u64.wrap ((s[k].toNat:Nat):Int)=((s[k].toNat:Nat):Int):=by rw [Bt.wrap64,Nat.mod_eq_of_lt (by omega)]
     have hkb:(k:Int)<100000:=by have:=HS.out;omega
     clear hW hb e1 hlt
     go_wp2_with fail
     refine hp.mono ?_
     rintro e w3 ⟨rfl,hW3,hb3⟩
     have HW3:=Lib.hid hW3
     have HB3:=Lib.hid (HB.out.trans hb3)
     clear hp hW3 hb3
     go_wp2
     go_roundw
     case rel=>exact ⟨k+1,by omega,by go_num,HW3.out,HB3.out⟩
     case measure=>simp [intOf];omega
   · obtain rfl:k=s.size:=by omega
     rw [txPart_all] at hW
     have HW:=Lib.hid hW
     have HB:=Lib.hid hb
     clear hW hb
     go_wp2
     go_ret
     exact ⟨rfl,HW.out,HB.out⟩
theorem done_x {w:World} {a:Nat} {st:Option (List Bool)} (h:WrX w a st) (hl: ∀L,st=some L→L.length≤400000):Calls Tryz.prog 96 #[.pointer (some ⟨a,0,none⟩)] w
   fun e w'=>(∃L v',st=some L∧e= .returned (.tuple #[v', .int .i64 0])∧LOut en8 1 5 w.heap.size w' v' (pack L)∧Below w.heap.size w w')∨(st=none∧e= .returned (.tuple #[.slice none 0 0, .int .i64 2])∧Below w.heap.size w w'):=by
 cases st with
 |some L=>
   obtain ⟨v,h⟩:=h
   refine (done_any w a v L h (hl L rfl)).mono ?_
   rintro e w' ⟨v',rfl,hO,hb⟩
   exact .inl ⟨L,v',rfl,rfl,hO,hb⟩
 |none=>
   obtain ⟨v,u,h⟩:=h
   have hc0:w.cell? ⟨a,0,none⟩=some (.bool true):=cell_of h rfl
   have hc3:w.cell? ⟨a,3,none⟩=some (.int .i64 2):=cell_of h rfl
   clear h hl
   have hd:Calls Tryz.prog 96 #[.pointer (some ⟨a,0,none⟩)] w fun e w'=>e= .returned (.tuple #[.slice none 0 0, .int .i64 2])∧Below w.heap.size w w':=by
     go_enter Tryz.func96,Tryz.ntmps96
     go_upto_region 4 with fail
     have hS:w.drew.cell? ⟨a,3,none⟩=some (.int .i64 2):=hc3
     refine wp_region_x (fun w'=>w'.cell? ⟨a,3,none⟩=some (.int .i64 2)) [(0,1),(1,1),(2,1),(3,0),(4,1),(5,1)] (by kernel_rfl) (by kernel_rfl) (by intro d v c a w h;cases d<;>exact h) ?_
     iterate 3 (refine x_take rfl (fun K hK=> ?_);go_simp;refine hK _ ?_;clear hK K)
     refine x_read rfl hS (fun w' h=>exec_load1 ⟨⟨_,Tryz.underlying26,rfl⟩⟩ rfl h) ?_
     iterate 2 (refine x_take rfl (fun K hK=> ?_);go_simp;refine hK _ ?_;clear hK K)
     refine x_nil ?_
     go_wp2
     go_ret2
     exact ⟨rfl,Below.refl _ _ |>.drew⟩
   exact hd.mono fun e w' he=> .inr ⟨rfl,he⟩
end Go.Proofs.YtldimgchpgoggaaGreat
