import Derived.Test.YtjdbbnhnbdocbaaGreatMgGon25
import Derived.Test.YtjdbbnhnbdocbaaGreatMgGon22
import Derived.Test.YtjdbbnhnbdocbaaGreatMgGon5
import Derived.Test.YtjdbbnhnbdocbaaGreatMgGon14
namespace Go.Tn.Dr
structure PutsE (l:List Ent) (e:Ent) (R:List Ent):Prop where
 rise:Rise R
 mem: ∀x,x∈R↔x=e∨x∈l∧x.name≠e.name
 len:R.length≤l.length+1
theorem Rise.inj {l:List Ent} (h:Rise l) {x y:Ent} (hx:x∈l) (hy:y∈l) (hn:x.name=y.name):x=y:=by
 obtain ⟨i,hi⟩:=List.mem_iff_getElem?.1 hx
 obtain ⟨j,hj⟩:=List.mem_iff_getElem?.1 hy
 rcases Nat.lt_trichotomy i j with hij|hij|hij
 ·have:=h.get hi hj hij
  rw [hn] at this
  rw [show ltN y.name y.name=false from ltL_irrefl _] at this
  cases this
 ·subst hij
  rw [hi] at hj
  exact Option.some.inj hj
 ·have:=h.get hj hi hij
  rw [hn] at this
  rw [show ltN y.name y.name=false from ltL_irrefl _] at this
  cases this
end Go.Tn.Dr
namespace Go.Proofs.YtjdbbnhnbdocbaaGreat
open Go.RowKit Go.Tn Go.Tn.Bt Go.Tn.Lp Go.Tn.Ino Go.Tn.Dr Go.Tn.Names
theorem At.puts {l:List Ent} {e:Ent} {r q:Nat} {f:Bool} (h:At l e.name r f) (hr:Dr.Rise l) (hq:(if f=true then r+1 else r)=q):PutsE l e (l.take r++ [e]++l.drop q):=by
 have hlo: ∀x∈l.take r,ltN x.name e.name=true∧x∈l:=fun x hx=>by
  obtain ⟨k,hk⟩:=List.mem_iff_getElem?.1 hx
  have hkr:k<r:=by have:=(List.getElem?_eq_some_iff.1 hk).1;rw [List.length_take] at this;omega
  rw [List.getElem?_take_of_lt hkr] at hk
  exact ⟨(h.lt k x hk).1 hkr,List.mem_of_getElem? hk⟩
 have hge: ∀(k:Nat) (x:Ent),l[k]?=some x→q≤k→ltN e.name x.name=true:=fun k x hk hqk=>by
  have hrk:¬ k<r:=by split at hq<;>omega
  cases hc:ltN e.name x.name with
  | true=>rfl
  | false=>
   exfalso
   have h1:ltN x.name e.name=false:=by
    cases hd:ltN x.name e.name with
    | false=>rfl
    | true=>exact absurd ((h.lt k x hk).2 hd) hrk
   have hn:x.name=e.name:=bsz_ext (ltL_total _ _ h1 hc)
   -- then it stands at r
   have hr1:l[r]?=some x:=by
    obtain ⟨y,hy⟩: ∃y,l[r]?=some y:=⟨_,List.getElem?_eq_getElem (by have:=(List.getElem?_eq_some_iff.1 hk).1;omega)⟩
    by_cases hkr:k=r
    ·rw [←hkr]
     exact hk
    ·have:=hr.get hy hk (by omega)
     rw [hn] at this
     exact absurd ((h.lt r y hy).2 this) (Nat.lt_irrefl _)
   have hf:f=true:=h.is.2 ⟨x,hr1,hn⟩
   rw [if_pos hf] at hq
   have hkr:k≠r:=by omega
   have:=hr.get hr1 hk (by omega)
   rw [show ltN x.name x.name=false from ltL_irrefl _] at this
   cases this
 have hhi: ∀x∈l.drop q,ltN e.name x.name=true∧x∈l:=fun x hx=>by
  obtain ⟨k,hk⟩:=List.mem_iff_getElem?.1 hx
  rw [List.getElem?_drop] at hk
  exact ⟨hge _ x hk (Nat.le_add_right _ _),List.mem_of_getElem? hk⟩
 refine ⟨?_,fun x=> ?_,?_⟩
 ·unfold Dr.Rise
  rw [List.append_assoc,List.pairwise_append]
  refine ⟨hr.sublist (List.take_sublist _ _),?_,fun a ha b hb=> ?_⟩
  ·rw [List.singleton_append,List.pairwise_cons]
   exact ⟨fun b hb=>(hhi b hb).1,hr.sublist (List.drop_sublist _ _)⟩
  ·rcases List.mem_append.1 hb with hb|hb
   ·rw [List.mem_singleton.1 hb]
    exact (hlo a ha).1
   ·exact ltL_trans _ _ _ (hlo a ha).1 (hhi b hb).1
 ·simp only [List.mem_append,List.mem_singleton]
  constructor
  ·rintro ((hx|hx)|hx)
   ·exact .inr ⟨(hlo x hx).2,fun e1=>by
     have:=(hlo x hx).1
     rw [e1,show ltN e.name e.name=false from ltL_irrefl _] at this
     cases this⟩
   ·exact .inl hx
   ·exact .inr ⟨(hhi x hx).2,fun e1=>by
     have:=(hhi x hx).1
     rw [e1,show ltN e.name e.name=false from ltL_irrefl _] at this
     cases this⟩
  ·rintro (hx|⟨hx,hn⟩)
   ·exact .inl (.inr hx)
   ·obtain ⟨k,hk⟩:=List.mem_iff_getElem?.1 hx
    by_cases hkr:k<r
    ·exact .inl (.inl (List.mem_of_getElem? (by rw [List.getElem?_take_of_lt hkr];exact hk)))
    ·refine .inr (List.mem_of_getElem? (i:=k-q) ?_)
     have hqk:q≤k:=by
      split at hq
      ·rename_i hf
       obtain ⟨y,hy,hyn⟩:=h.is.1 hf
       by_cases hke:k=r
       ·exfalso
        rw [hke,hy] at hk
        cases hk
        exact hn hyn
       ·omega
      ·omega
     rw [List.getElem?_drop,show q+(k-q)=k by omega]
     exact hk
 ·simp only [List.length_append,List.length_take,List.length_drop,List.length_singleton]
  split at hq<;>omega
set_option maxRecDepth 20000 in
set_option maxHeartbeats 4000000 in
theorem eputE_any (w:World) (v:Value) (l:List Ent) (h:LSl enEn 4 w v l) (hr:Dr.Rise l) (h24:l.length≤1000) (e:Ent):Calls Tryz.prog 95 #[v, .agg (entC e)] w
  fun e' w'=> ∃v' R,e'= .returned v'∧LOut enEn 4 64 w.heap.size w' v' R∧PutsE l e R∧Below w.heap.size w w':=by
 obtain ⟨w1,hw1⟩: ∃w1,w.alloc (.cells (entC e) 64)=w1:=⟨_,rfl⟩
 have hb1:Below w.heap.size w w1:=by rw [←hw1];exact (Below.refl _ _).alloc (Nat.le_refl _) _
 have hX:w1.heap[w.heap.size]?=some (.cells (entC e) 64 (0,0)):=by rw [←hw1];exact heap_alloc_at
 have q0:w1.cell? ⟨w.heap.size,0,none⟩=some (.string e.name):=cell_of hX rfl
 have hfi:=efind_any w1 v l (h.below hb1) hr h24 e.name
 have hltx:w.heap.size<w1.heap.size:=lt_of_block hX
 have H:=Lib.hid h
 have HR:=Lib.hid hr
 have H24:=Lib.hid h24
 obtain ⟨ao,cap,rfl,h1,h2, -⟩:=h
 unfold maxLen at h2
 have HB1:=Lib.hid hb1
 have HX:=Lib.hid hX
 clear hb1 hX hr h24
 go_enter Tryz.func95,Tryz.ntmps95
 go_upto_region 1 with fail
 simp only [hw1] at*
 clear hw1
 go_wp2_with fail
 refine hfi.mono ?_
 rintro e2 w2 ⟨r,f,rfl,hA,hb2⟩
 have hrl:=hA.le
 have hrc:r≤cap:=by omega
 have hrl':(r:Int)≤(l.length:Int):=by omega
 have hr0:(0:Int)≤(r:Int):=by omega
 have hL2:Lies w2 w.heap.size 0 (entC e):=(lies_of HX.out).below' hb2 hltx
 have HA:=Lib.hid hA
 have HB2:=Lib.hid hb2
 have HL2:=Lib.hid hL2
 obtain ⟨ad,had⟩: ∃ad,(if cap=r then ao else ao.map (·.add (r*4)))=ad:=⟨_,rfl⟩
 obtain ⟨ln,hln⟩: ∃ln,l.length-r=ln:=⟨_,rfl⟩
 obtain ⟨cn,hcn⟩: ∃cn,cap-r=cn:=⟨_,rfl⟩
 have HAD:=Lib.hid had
 have HLN:=Lib.hid hln
 have HCN:=Lib.hid hcn
 have hd1:=(H.out.drop2 hrl had hln hcn)
 have HD1:=Lib.hid hd1
 have hfull:LSl enEn 4 w (.slice ao (l.take r).length (l.take r).length) (l.take r):=by
  obtain ⟨a1,c1,e1,k1,k2,k3⟩:=H.out.take (i:=r) hrl
  injection e1 with e1
  subst e1
  have hlr:(l.take r).length=r:=by rw [List.length_take];omega
  exact ⟨_,_,rfl,Nat.le_refl _,by unfold maxLen;rw [hlr];omega,k3⟩
 have hlr:(l.take r).length=r:=by rw [List.length_take];omega
 rw [hlr] at hfull
 have HFULL:=Lib.hid hfull
 have HLR:=Lib.hid hlr
 clear hfi hA hb2 hL2 had hln hcn hd1 hfull hlr
 cases f with
 | false=>
  go_upto_region 5 with (first
   | ((with_reducible refine wpList_exec rfl (exec_sliceLo2 Tryz.underlying56 sizeEn hrl HAD.out HLN.out HCN.out ?_ ?_) ?_);rfl;rfl;go_frame)
   | fail)
  have HQ:Hid (LSl enEn 4 w (.slice ad ln cn) (l.drop r)):=Lib.hid HD1.out
  have hS:Lies w2.drew w.heap.size 0 (entC e):=HL2.out
  have hbd:Below w.heap.size w w2:=HB1.out.trans (HB2.out.mono (Nat.le_of_lt hltx))
  have hbd2:Below w.heap.size w w2.drew:=hbd.drew
  have hxw:w.heap.size≤w2.drew.heap.size:=hbd2.size
  have hxlt:w.heap.size<w2.drew.heap.size:=Nat.lt_of_lt_of_le hltx HB2.out.size
  refine wp_region_x (fun w'=>Lies w' w.heap.size 0 (entC e)) [(0,1),(1,1),(2,1),(3,1),(4,0),(7,1),(5,2),(6,2),(8,2),(9,1)] (by kernel_rfl) (by kernel_rfl) (by intro d v c a w h;cases d<;>exact h) ?_
  iterate 3 (refine x_take rfl (fun K hK=> ?_);go_simp;refine hK _ ?_;clear hK K)
  refine x_take rfl (fun K hK=>⟨_,fun w=>exec_sliceFull Tryz.underlying56 sizeEn hrc rfl rfl rfl,?_⟩)
  refine hK _ ?_
  clear hK K
  refine x_read rfl hS (fun w' h=>exec_loadA (aggEn e) rfl h) ?_
  iterate 1 (refine x_take rfl (fun K hK=> ?_);go_simp;refine hK _ ?_;clear hK K)
  have hf2:=HFULL.out.below hbd2
  have hlr:=HLR.out
  obtain ⟨v6,w6,hr6,hO6,hb6⟩:=exec_append1F elEn (ty:=56) (w:=w2.drew) (xs:=l.take r) (by rw [hlr];exact hf2) e (by rw [hlr];have:=H24.out;omega)
  rw [hlr] at hr6
  have hR6:=(HQ.out.below hbd2).below hb6
  obtain ⟨v8,w8,hr8,hO8,hb8⟩:=exec_appendL elEn (ty:=56) hO6 hR6 (by simp only [List.length_append,List.length_take,List.length_drop,List.length_singleton];have:=H24.out;omega)
  have hS5:Lies (w2.drew.alloc (.cells (entC e) 64)) w.heap.size 0 (entC e):=hS.below' ((Below.refl _ _).alloc (Nat.le_refl _) _) hxlt
  have hS6:Lies w6 w.heap.size 0 (entC e):=hS.below' hb6 hxlt
  refine x_show rfl (exec_buildSliceA (k:=4) (cells:=entC e) Tryz.underlying56 (by kernel_rfl) (by omega) (by omega) rfl rfl) hS5 ?_
  refine x_show rfl (hr6 _ _ _ _ _ _ _ rfl rfl) hS6 ?_
  refine x_show rfl (hr8 _ _ _ _ _ _ _ rfl rfl) (hS6.below' hb8 hxlt) ?_
  iterate 1 (refine x_take rfl (fun K hK=> ?_);go_simp;refine hK _ ?_;clear hK K)
  refine x_nil ?_
  have HO8:=Lib.hid (hO8.mono hxw)
  have HB8:=Lib.hid ((hbd2.trans (hb6.mono hxw)).trans (hb8.mono hxw))
  have HP:=Lib.hid (HA.out.puts (q:=r) HR.out rfl)
  clear hS hbd hbd2 hxw hxlt hf2 hlr hr6 hO6 hb6 hR6 hr8 hO8 hb8 hS5 hS6
  go_wp2
  go_ret
  first
   | exact ⟨_,_,rfl,HO8.out,HP.out,HB8.out⟩
   | exact ⟨_,HO8.out,HP.out,HB8.out⟩
 | true=>
  have hr1:r+1≤l.length:=by
   obtain ⟨y,hy, -⟩:=HA.out.is.1 rfl
   exact (List.getElem?_eq_some_iff.1 hy).1
  obtain ⟨ae,hae⟩: ∃ad,(if cap=r+1 then ao else ao.map (·.add ((r+1)*4)))=ad:=⟨_,rfl⟩
  obtain ⟨ln1,hln1⟩: ∃ln,l.length-(r+1)=ln:=⟨_,rfl⟩
  obtain ⟨cn1,hcn1⟩: ∃cn,cap-(r+1)=cn:=⟨_,rfl⟩
  have HAE:=Lib.hid hae
  have HLN1:=Lib.hid hln1
  have HCN1:=Lib.hid hcn1
  have hd2:=(H.out.drop2 hr1 hae hln1 hcn1)
  have HD2:=Lib.hid hd2
  have hr1':(r:Int)+1≤(l.length:Int):=by omega
  have hr1000:(r:Int)+1≤1001:=by have:=H24.out;omega
  clear hae hln1 hcn1 hd2
  go_upto_region 5 with (first
   | ((with_reducible refine wpList_exec rfl (exec_sliceLo2 Tryz.underlying56 sizeEn hrl HAD.out HLN.out HCN.out ?_ ?_) ?_);rfl;rfl;go_frame)
   | ((with_reducible refine wpList_exec rfl (exec_sliceLo2 Tryz.underlying56 sizeEn hr1 HAE.out HLN1.out HCN1.out ?_ ?_) ?_);rfl;rfl;go_frame)
   | fail)
  have HQ:Hid (LSl enEn 4 w (.slice ae ln1 cn1) (l.drop (r+1))):=Lib.hid HD2.out
  have hS:Lies w2.drew w.heap.size 0 (entC e):=HL2.out
  have hbd:Below w.heap.size w w2:=HB1.out.trans (HB2.out.mono (Nat.le_of_lt hltx))
  have hbd2:Below w.heap.size w w2.drew:=hbd.drew
  have hxw:w.heap.size≤w2.drew.heap.size:=hbd2.size
  have hxlt:w.heap.size<w2.drew.heap.size:=Nat.lt_of_lt_of_le hltx HB2.out.size
  refine wp_region_x (fun w'=>Lies w' w.heap.size 0 (entC e)) [(0,1),(1,1),(2,1),(3,1),(4,0),(7,1),(5,2),(6,2),(8,2),(9,1)] (by kernel_rfl) (by kernel_rfl) (by intro d v c a w h;cases d<;>exact h) ?_
  iterate 3 (refine x_take rfl (fun K hK=> ?_);go_simp;refine hK _ ?_;clear hK K)
  refine x_take rfl (fun K hK=>⟨_,fun w=>exec_sliceFull Tryz.underlying56 sizeEn hrc rfl rfl rfl,?_⟩)
  refine hK _ ?_
  clear hK K
  refine x_read rfl hS (fun w' h=>exec_loadA (aggEn e) rfl h) ?_
  iterate 1 (refine x_take rfl (fun K hK=> ?_);go_simp;refine hK _ ?_;clear hK K)
  have hf2:=HFULL.out.below hbd2
  have hlr:=HLR.out
  obtain ⟨v6,w6,hr6,hO6,hb6⟩:=exec_append1F elEn (ty:=56) (w:=w2.drew) (xs:=l.take r) (by rw [hlr];exact hf2) e (by rw [hlr];have:=H24.out;omega)
  rw [hlr] at hr6
  have hR6:=(HQ.out.below hbd2).below hb6
  obtain ⟨v8,w8,hr8,hO8,hb8⟩:=exec_appendL elEn (ty:=56) hO6 hR6 (by simp only [List.length_append,List.length_take,List.length_drop,List.length_singleton];have:=H24.out;omega)
  have hS5:Lies (w2.drew.alloc (.cells (entC e) 64)) w.heap.size 0 (entC e):=hS.below' ((Below.refl _ _).alloc (Nat.le_refl _) _) hxlt
  have hS6:Lies w6 w.heap.size 0 (entC e):=hS.below' hb6 hxlt
  refine x_show rfl (exec_buildSliceA (k:=4) (cells:=entC e) Tryz.underlying56 (by kernel_rfl) (by omega) (by omega) rfl rfl) hS5 ?_
  refine x_show rfl (hr6 _ _ _ _ _ _ _ rfl rfl) hS6 ?_
  refine x_show rfl (hr8 _ _ _ _ _ _ _ rfl rfl) (hS6.below' hb8 hxlt) ?_
  iterate 1 (refine x_take rfl (fun K hK=> ?_);go_simp;refine hK _ ?_;clear hK K)
  refine x_nil ?_
  have HO8:=Lib.hid (hO8.mono hxw)
  have HB8:=Lib.hid ((hbd2.trans (hb6.mono hxw)).trans (hb8.mono hxw))
  have HP:=Lib.hid (HA.out.puts (q:=r+1) HR.out rfl)
  clear hS hbd hbd2 hxw hxlt hf2 hlr hr6 hO6 hb6 hR6 hr8 hO8 hb8 hS5 hS6
  go_wp2
  go_ret
  first
   | exact ⟨_,_,rfl,HO8.out,HP.out,HB8.out⟩
   | exact ⟨_,HO8.out,HP.out,HB8.out⟩
def nEq (a:Ent) (s:ByteArray):Bool:=a.name.toList==s.toList
theorem nEq_iff {a:Ent} {s:ByteArray}:nEq a s=true↔a.name=s:=by
 unfold nEq
 rw [beq_iff_eq,bs_eq,bs_eq]
 exact ⟨bsz_ext,fun e=>by rw [e]⟩
abbrev dropFn (fx:Nat):Value:= .func (.func 137) #[] #[.pointer (some ⟨fx,0,none⟩)]
theorem edropF_any (w:World) (fx:Nat) (s:ByteArray) (a:Ent) (h:w.cell? ⟨fx,0,none⟩=some (.string s)):Calls Tryz.prog 137 #[.agg (entC a), .pointer (some ⟨fx,0,none⟩)] w fun e w'=>e= .returned (.bool (nEq a s))∧Below w.heap.size w w':=by
 obtain ⟨w1,hw1⟩: ∃w1,w.alloc (.cells (entC a) 64)=w1:=⟨_,rfl⟩
 have hb1:Below w.heap.size w w1:=by rw [←hw1];exact (Below.refl _ _).alloc (Nat.le_refl _) _
 have hX:w1.heap[w.heap.size]?=some (.cells (entC a) 64 (0,0)):=by rw [←hw1];exact heap_alloc_at
 have q0:w1.cell? ⟨w.heap.size,0,none⟩=some (.string a.name):=cell_of hX rfl
 have q1:w1.cell? ⟨fx,0,none⟩=some (.string s):=(hb1.cell (p:=⟨fx,0,none⟩) (World.block_lt_of_cell? w _ h)).trans h
 obtain ⟨r,hr⟩: ∃r,nEq a s=r:=⟨_,rfl⟩
 have hr':(a.name.toList==s.toList)=r:=hr
 rw [hr]
 have HB1:=Lib.hid hb1
 clear hb1 hX h hr
 go_enter Tryz.func137,Tryz.ntmps137
 go_upto_region 1 with fail
 simp only [hw1] at*
 clear hw1
 go_wp2
 go_ret
 exact ⟨rfl,HB1.out⟩
set_option maxHeartbeats 1000000 in
theorem eindexD_any (w:World) (v:Value) (W:List Ent) (h:LSl enEn 4 w v W) (fx:Nat) (s:ByteArray) (hf:w.cell? ⟨fx,0,none⟩=some (.string s)):Calls Tryz.prog 183 #[v,dropFn fx] w
  fun e w'=>(∃r:Int,e= .returned (.int .i64 r)∧((r= -1∧ ∀x∈W,nEq x s=false)∨ ∃k:Nat,r=k∧(∃x,W[k]?=some x∧nEq x s=true)∧ ∀x∈W.take k,nEq x s=false))∧Below w.heap.size w w':=by
 have hx:fx<w.heap.size:=World.block_lt_of_cell? w _ hf
 have H0:=Lib.hid h
 obtain ⟨ao,cap,rfl,hcl,hcm,_⟩:=h
 unfold maxLen at hcm
 have HF:=Lib.hid hf
 clear hf
 go_enter Tryz.func183,Tryz.ntmps183
 go_wp2
 go_loopw [8] (fun kv wr=> ∃k:Nat,k≤W.length∧kv= .int .i64 k∧(∀x∈W.take k,nEq x s=false)∧Below w.heap.size w wr) (fun kv _=>W.length-(intOf kv).toNat)
 case atStart=>exact ⟨0,Nat.zero_le _,rfl,by simp,Below.refl _ _⟩
 case round=>
  obtain ⟨k,hk,rfl,hn,hbr⟩:=hrel
  have HN:=Lib.hid hn
  clear hn
  by_cases hlt:k<W.length
  ·have hlt':(k:Int)<(W.length:Int):=by omega
   obtain ⟨a,ha⟩: ∃x,W[k]?=some x:=⟨_,List.getElem?_eq_getElem hlt⟩
   obtain ⟨b4,o4,cp,hv,hb4,hLx⟩:=sl_ent H0.out ha
   obtain rfl:ao=some ⟨b4,o4,none⟩:=by injection hv
   have hl:=hLx.below' hbr hb4
   have hag:=aggEn a
   have hcall:=edropF_any wr fx s a ((hbr.cell (p:=⟨fx,0,none⟩) hx).trans HF.out)
   have HA:=Lib.hid ha
   have HBR:=Lib.hid hbr
   clear hLx hv ha hbr
   go_wp2_with (first
    | ((with_reducible refine wpList_loadA hag hl ?_ ?_);rfl;go_frame)
    | fail)
   refine hcall.mono ?_
   rintro e w2 ⟨rfl,hb2⟩
   have HB2:=Lib.hid (HBR.out.trans (hb2.mono HBR.out.size))
   obtain ⟨r,hr⟩: ∃r,nEq a s=r:=⟨_,rfl⟩
   rw [hr]
   have HRR:=Lib.hid hr
   clear hcall hb2 hl hr
   cases r
   ·have hnew: ∀x∈W.take (k+1),nEq x s=false:=fun x hx=>by
     rw [List.take_add_one,HA.out] at hx
     rcases List.mem_append.1 hx with hx|hx
     ·exact HN.out x hx
     ·have h1:x=a:=by simpa using hx
      rw [h1]
      exact HRR.out
    have HZ:=Lib.hid hnew
    clear hnew
    go_wp2
    go_roundw
    case rel=>exact ⟨k+1,by omega,by go_num,HZ.out,HB2.out⟩
    case measure=>simp [intOf];omega
   ·go_wp2
    go_ret
    exact ⟨⟨_,rfl, .inr ⟨k,rfl,⟨a,HA.out,HRR.out⟩,HN.out⟩⟩,HB2.out⟩
  ·obtain rfl:k=W.length:=by omega
   go_wp2
   go_ret
   exact ⟨⟨_,rfl, .inl ⟨rfl,fun x hx=>HN.out x (by rw [List.take_of_length_le (Nat.le_refl _)];exact hx)⟩⟩,hbr⟩
def ne_ (s:ByteArray) (a:Ent):Bool:= !nEq a s
theorem filter_take_yes {W:List Ent} {s:ByteArray} {q:Nat} (hq:q<W.length) (h:nEq W[q] s=true):(W.take (q+1)).filter (ne_ s)=(W.take q).filter (ne_ s):=by
 rw [List.take_succ_eq_append_getElem hq,List.filter_append]
 have:([W[q]].filter (ne_ s))= []:=by simp [ne_,h]
 rw [this,List.append_nil]
theorem filter_take_no {W:List Ent} {s:ByteArray} {q:Nat} (hq:q<W.length) (h:nEq W[q] s=false):(W.take (q+1)).filter (ne_ s)=(W.take q).filter (ne_ s)++ [W[q]]:=by
 rw [List.take_succ_eq_append_getElem hq,List.filter_append]
 have:([W[q]].filter (ne_ s))= [W[q]]:=by simp [ne_,h]
 rw [this]
theorem filter_same {W:List Ent} {s:ByteArray} (h: ∀x∈W,nEq x s=false):W.filter (ne_ s)=W:=by
 rw [List.filter_eq_self]
 intro a ha
 unfold ne_
 rw [h a ha]
 rfl
theorem zeroEn: ∀w,(zeroValue 64).run Tryz.prog w= .ok (.agg #[.string {data:= #[]}, .int .i64 0, .int .i64 0, .int .i64 0]) w:=fun w=>by kernel_rfl
theorem zeroEn_size:(Value.agg #[.string {data:= #[]}, .int .i64 0, .int .i64 0, .int .i64 0]).cells.size=4:=rfl
theorem zeroEn_one (n:Nat): ∀v∈(Builtin.zeroCells (Value.agg #[.string {data:= #[]}, .int .i64 0, .int .i64 0, .int .i64 0]).cells n).toList,v.oneCell'=true:=fun v hv=>by
 unfold Builtin.zeroCells at hv
 simp only [Array.toList_map,List.mem_map,Value.cells] at hv
 obtain ⟨i,_,rfl⟩:=hv
 have h2:i %4=0∨i %4=1∨i %4=2∨i %4=3:=by omega
 rcases h2 with h2|h2|h2|h2<;>simp [h2,Value.oneCell']
structure Del (w:World) (v:Value) (W:List Ent) (s:ByteArray) (g:Nat) (p q:Nat) (X:List Ent) (wr:World):Prop where
 lt:p<q
 le:q≤W.length
 len:X.length=W.length
 own:LOut enEn 4 64 0 wr v X
 pre:X.take p=(W.take q).filter (ne_ s)
 suf:X.drop q=W.drop q
 mod:Mod (fun x=>x=g) w wr
theorem Del.below {w wr w':World} {v:Value} {W:List Ent} {s:ByteArray} {g p q:Nat} {X:List Ent} (h:Del w v W s g p q X wr) (hb:Below wr.heap.size wr w'):Del w v W s g p q X w':=
 ⟨h.lt,h.le,h.len,h.own.below hb,h.pre,h.suf,h.mod.trans (Mod.of_below hb) (fun _ h=>h) fun x hx hh=>absurd (Nat.lt_of_lt_of_le hx h.mod.size) (Nat.not_lt.2 hh)⟩
theorem Del.get {w wr:World} {v:Value} {W:List Ent} {s:ByteArray} {g p q:Nat} {X:List Ent} (h:Del w v W s g p q X wr) (hq:q<W.length):X[q]?=some W[q]:=by
 have h1:(X.drop q)[0]?=(W.drop q)[0]?:=by rw [h.suf]
 rw [List.getElem?_drop,List.getElem?_drop,Nat.add_zero,List.getElem?_eq_getElem hq] at h1
 exact h1
theorem Del.skip {w wr:World} {v:Value} {W:List Ent} {s:ByteArray} {g p q:Nat} {X:List Ent} (h:Del w v W s g p q X wr) (hq:q<W.length) (he:nEq W[q] s=true):Del w v W s g p (q+1) X wr:=
 ⟨by have:=h.lt;omega,hq,h.len,h.own,by rw [h.pre,filter_take_yes hq he],by
  rw [←List.drop_drop, ←List.drop_drop,h.suf],h.mod⟩
theorem Del.put {w wr:World} {W:List Ent} {s:ByteArray} {g n cap p q:Nat} {X:List Ent} (h:Del w (.slice (some ⟨g,0,none⟩) n cap) W s g p q X wr) (hq:q<W.length) (he:nEq W[q] s=false):Del w (.slice (some ⟨g,0,none⟩) n cap) W s g (p+1) (q+1) (X.set p W[q]) (wr.setCells g (p*4) (enEn W[q])):=by
 have hpq:=h.lt
 have hpX:p<X.length:=by have:=h.len;omega
 refine ⟨by omega,hq,by rw [List.length_set,h.len],h.own.setA elEn.len hpX W[q],?_,?_,Mod.setCells (S:=fun x=>x=g) (fun _=>rfl) _ _ _ h.mod⟩
 ·rw [filter_take_no hq he, ←h.pre]
  have hps:p<(X.set p W[q]).length:=by rw [List.length_set];exact hpX
  rw [List.take_succ_eq_append_getElem hps,List.take_set_of_le (Nat.le_refl _)]
  simp
 ·rw [List.drop_set_of_lt (by omega), ←List.drop_drop, ←List.drop_drop,h.suf]
set_option maxRecDepth 20000 in
set_option maxHeartbeats 400000 in
theorem edelete_any (w:World) (v:Value) (W:List Ent) (h:LOut enEn 4 64 0 w v W) (fx:Nat) (s:ByteArray) (hf:w.cell? ⟨fx,0,none⟩=some (.string s)) (hfx: ∀r,v.ownBlock=some r→r≠fx):Calls Tryz.prog 135 #[v,dropFn fx] w
  fun e w'=>(∃v',e= .returned v'∧LOut enEn 4 64 0 w' v' (W.filter (ne_ s))∧(∀r,v'.ownBlock=some r→v.ownBlock=some r))∧Mod (fun x=>v.ownBlock=some x) w w':=by
 have hi:=eindexD_any w v W (h.sl elEn.len) fx s hf
 have HF:=Lib.hid hf
 have HH:=Lib.hid h
 obtain ⟨a0,n0,c0,rfl⟩:=LOut.shape h
 obtain ⟨F,hF⟩: ∃F,W.filter (ne_ s)=F:=⟨_,rfl⟩
 rw [hF]
 have HFF:=Lib.hid hF
 have HFX:=Lib.hid hfx
 clear hf h hF hfx
 go_enter Tryz.func135,Tryz.ntmps135
 go_wp2_with fail
 refine hi.mono ?_
 rintro e w2 ⟨⟨r,rfl,hr⟩,hb2⟩
 have h2:=HH.out.below hb2
 have hM2:Mod (fun x=>(Value.slice a0 n0 c0).ownBlock=some x) w w2:=(Mod.of_below hb2).mono fun x hx hh=>absurd hx (Nat.not_lt.2 hh)
 rcases hr with ⟨rfl,hno⟩|⟨k,rfl,hk,hno⟩
 ·have hres:LOut enEn 4 64 0 w2 (.slice a0 n0 c0) F:=by rw [←HFF.out,filter_same hno];exact h2
  have HR:=Lib.hid hres
  have HM:=Lib.hid hM2
  clear hres hno h2 hM2 hi
  go_wp2
  go_ret
  exact ⟨⟨_,rfl,HR.out,fun r hr=>hr⟩,HM.out⟩
 ·obtain ⟨xk,hk,hxk⟩:=hk
  have hklt:=(List.getElem?_eq_some_iff.1 hk).1
  obtain ⟨⟨g,o0,s0⟩,ha⟩: ∃a,a0=some a:=by
   cases a0 with
   | some a=>exact ⟨a,rfl⟩
   | none=>
    exfalso
    rcases h2.own with ⟨_,⟨_,hn⟩|⟨g,c,cur,hv,_⟩⟩
    ·omega
    ·cases hv
  subst ha
  obtain ⟨rfl,rfl⟩:o0=0∧s0=none:=by
   rcases h2.own with ⟨_,⟨hv,_⟩|⟨g,c,cur,hv,_⟩⟩
   ·cases hv
   ·simp at hv;exact ⟨hv.1.2.1,hv.1.2.2⟩
  obtain ⟨-,rfl,hnc,hcm, -⟩:=h2.whole
  unfold maxLen at hcm
  have hD:Del w2 (.slice (some ⟨g,0,none⟩) W.length c0) W s g k (k+1) W w2:=by
   refine ⟨Nat.lt_succ_self _,hklt,rfl,h2,?_,rfl,Mod.refl _ _⟩
   have he:nEq W[k] s=true:=by
    rw [List.getElem?_eq_getElem hklt] at hk
    have:=Option.some.inj hk
    rw [this]
    exact hxk
   rw [filter_take_yes hklt he,filter_same hno]
  have HD:=Lib.hid hD
  have HM2:=Lib.hid hM2
  have hk0:(0:Int)≤(k:Int):=by omega
  have hk1:((k:Int)== -1)=false:=by
   have h1:(k:Int)≠ -1:=by omega
   exact beq_eq_false_iff_ne.2 h1
  have hfg:fx≠g:=fun e=>HFX.out g rfl e.symm
  have hF2:w2.cell? ⟨fx,0,none⟩=some (.string s):=(hb2.cell (p:=⟨fx,0,none⟩) (World.block_lt_of_cell? w _ HF.out)).trans HF.out
  have HF2:=Lib.hid hF2
  clear hD hM2 hk hno hi h2 hF2
  go_wp2
  go_loopw [5,6] (fun iv jv wr=> ∃(p q:Nat) (X:List Ent),iv= .int .i64 p∧jv= .int .i64 q∧Del w2 (.slice (some ⟨g,0,none⟩) W.length c0) W s g p q X wr) (fun _ jv _=>W.length-(intOf jv).toNat)
  case atStart=>exact ⟨k,k+1,W,rfl,by go_num,HD.out⟩
  case round=>
   obtain ⟨p,q,X,rfl,rfl,hD⟩:=hrel
   have hpq:=hD.lt
   have hqn:=hD.le
   have HDr:=Lib.hid hD
   clear HD
   by_cases hlt:q<W.length
   ·have hlt':(q:Int)<(W.length:Int):=by omega
    have hget:=hD.get hlt
    obtain ⟨b4,o4,cap4,hveq,hb4,hl⟩:=(hD.own.sl elEn.len).at_ hget
    obtain ⟨⟨rfl,rfl⟩, -,rfl⟩:(g=b4∧0=o4)∧W.length=X.length∧c0=cap4:=by simpa using hveq
    have hskip:nEq W[q] s=true→ ∀w',Below wr.heap.size wr w'→Del w2 (.slice (some ⟨g,0,none⟩) W.length c0) W s g p (q+1) X w':=fun he w' hb=>(HDr.out.below hb).skip hlt he
    have hput:nEq W[q] s=false→ ∀w',Below wr.heap.size wr w'→Del w2 (.slice (some ⟨g,0,none⟩) W.length c0) W s g (p+1) (q+1) (X.set p W[q]) (w'.setCells g (p*4) (enEn W[q])):=fun he w' hb=>(HDr.out.below hb).put hlt he
    obtain ⟨a,haW⟩: ∃a,W[q]=a:=⟨_,rfl⟩
    rw [Nat.zero_add] at hl
    rw [haW] at hl hskip hput
    have HS:=Lib.hid hskip
    have HP:=Lib.hid hput
    have hFr:wr.cell? ⟨fx,0,none⟩=some (.string s):=(World.cell?_of_block (a:=⟨fx,0,none⟩) (HDr.out.mod.block fx (World.block_lt_of_cell? w2 _ HF2.out) hfg)).trans HF2.out
    have hag:=aggEn a
    have hone:=oneEn a
    have hsz4:(entC a).size=4:=rfl
    obtain ⟨wa,hwa⟩: ∃wa,wr.alloc (.cells (entC a) 64)=wa:=⟨_,rfl⟩
    have hal:Below wr.heap.size wr wa:=by rw [←hwa];exact (Below.refl _ _).alloc (Nat.le_refl _) _
    have hXa:wa.heap[wr.heap.size]?=some (.cells (entC a) 64 (0,0)):=by rw [←hwa];exact heap_alloc_at
    have hLa:Lies wa wr.heap.size 0 (entC a):=lies_of hXa
    have hcall:=edropF_any wa fx s a ((hal.cell (p:=⟨fx,0,none⟩) (World.block_lt_of_cell? wr _ hFr)).trans hFr)
    have HL:=Lib.hid hl
    have HAL:=Lib.hid hal
    have HXA:=Lib.hid hXa
    clear hD hget hveq haW hskip hput hFr hl hal hXa
    have hl:=HL.out
    go_upto_region 8 with (first
     | ((with_reducible refine wpList_loadA hag hl ?_ ?_);rfl;go_frame)
     | ((with_reducible refine wpList_storeA_new hag ?_ hone ?_ ?_ ?_);(rw [hsz4];rfl);rfl;rfl;go_frame)
     | fail)
    simp only [hwa] at*
    clear hwa
    go_wp2_with (first
     | ((with_reducible refine wpList_loadA hag hLa ?_ ?_);rfl;go_frame)
     | fail)
    refine hcall.mono ?_
    rintro e w3 ⟨rfl,hb3⟩
    have HB3:=Lib.hid (HAL.out.trans (hb3.mono HAL.out.size))
    have hX3:=(hb3.block _ (lt_of_block HXA.out)).trans HXA.out
    have hL3:=lies_of hX3
    obtain ⟨r,hr⟩: ∃r,nEq a s=r:=⟨_,rfl⟩
    rw [hr]
    cases r
    ·have hD3:=HP.out hr w3 HB3.out
     have HD3:=Lib.hid hD3
     obtain ⟨-, -, -, -,cur,hcur,hcs, -⟩:=(HDr.out.below HB3.out).own.whole
     have hcs2:p*4+(entC a).size≤cur.size:=by rw [hsz4];omega
     have hv1: ∀v∈(entC a).toList,v.oneCell'=true:=fun v hv=>by rw [Array.all_eq_true'] at hone;exact hone v (by simpa using hv)
     have HCUR:=Lib.hid hcur
     have hp':(p:Int)<(W.length:Int):=by omega
     clear hr hb3 hD3 hcur hcs hX3
     go_wp2_with (first
      | ((with_reducible refine wpList_loadA hag hL3 ?_ ?_);rfl;go_frame)
      | ((with_reducible refine wpList_execSkip rfl (exec_storeA hag ?_ ?_ HCUR.out hcs2 hv1) ?_);go_simp;rfl;go_frame)
      | fail)
     go_roundw
     case rel=>exact ⟨p+1,q+1,_,by go_num,by go_num,HD3.out⟩
     case measure=>simp [intOf];omega
    ·have hD3:=HS.out hr w3 HB3.out
     have HD3:=Lib.hid hD3
     clear hr hb3 hD3 hX3 hL3
     go_wp2
     go_roundw
     case rel=>exact ⟨p,q+1,X,rfl,by go_num,HD3.out⟩
     case measure=>simp [intOf];omega
   ·obtain rfl:q=W.length:=by omega
    have hpn:p≤W.length:=by omega
    have hpc:p≤c0:=by omega
    have hcp:¬ c0=p:=by omega
    obtain ⟨-, -, -, -,cur,hcur,hcs, -⟩:=hD.own.whole
    have had:(if c0=p then some (⟨g,0,none⟩:Addr) else (some (⟨g,0,none⟩:Addr)).map (·.add (p*4)))=some ⟨g,p*4,none⟩:=by
     rw [if_neg hcp]
     simp [addr_add]
    obtain ⟨n1,hn1⟩: ∃n1,W.length-p=n1:=⟨_,rfl⟩
    obtain ⟨c1,hc1⟩: ∃c1,c0-p=c1:=⟨_,rfl⟩
    have hpc':(p:Int)≤(c0:Int):=by omega
    have hp0:(0:Int)≤(p:Int):=by omega
    have hn0:0<n1:=by omega
    have hroom:p*4+n1*4≤cur.size:=by omega
    have hcut:=hD.own.cut elEn.len (i:=p) (by have:=hD.len;omega) (Builtin.zeroCells (Value.agg #[.string {data:= #[]}, .int .i64 0, .int .i64 0, .int .i64 0]).cells n1).toList
    rw [hD.pre,List.take_of_length_le (Nat.le_refl _),HFF.out] at hcut
    have hmF:Mod (fun x=>x=g) w2 (wr.setCells g (p*4) (Builtin.zeroCells (Value.agg #[.string {data:= #[]}, .int .i64 0, .int .i64 0, .int .i64 0]).cells n1).toList):=Mod.setCells (S:=fun x=>x=g) (fun _=>rfl) _ _ _ hD.mod
    have hclr:=run_clearSl (P:=Tryz.prog) (k:=4) (ty:=0) (c:=c1) Tryz.underlying56 zeroEn zeroEn_size zeroEn_one hcur hroom hn0
    obtain ⟨wX,hwX⟩: ∃wX,wr.setCells g (p*4) (Builtin.zeroCells (Value.agg #[.string {data:= #[]}, .int .i64 0, .int .i64 0, .int .i64 0]).cells n1).toList=wX:=⟨_,rfl⟩
    rw [hwX] at hcut hmF hclr
    have HCU:=Lib.hid hcut
    have HMF:=Lib.hid hmF
    have HAD:=Lib.hid had
    have HN1:=Lib.hid hn1
    have HC1:=Lib.hid hc1
    have HCUR:=Lib.hid hcur
    clear hD had hn1 hc1 hcur hcs hcut hmF hwX
    go_upto_region 12 with (first
     | ((with_reducible refine wpList_exec rfl (exec_sliceLo2 Tryz.underlying56 sizeEn hpn HAD.out HN1.out HC1.out ?_ ?_) ?_);rfl;rfl;go_frame)
     | fail)
    go_wp2
    go_ret
    refine ⟨⟨_,rfl,HCU.out,fun r hr=>by cases hr;rfl⟩,HM2.out.trans HMF.out (fun _ h=>h) fun x _ e=>by subst e;rfl⟩
theorem LOut.empty {α:Type} {en:α→List Value} {k:Nat} {e:TypeId} {B:Nat} {w:World} (hB:B≤w.heap.size):LOut en k e B (w.alloc (.cells #[] e)) (.slice (some ⟨w.heap.size,0,none⟩) 0 0) ([]:List α):=
 ⟨⟨by simp, .inr ⟨w.heap.size,0, #[],rfl,Nat.zero_le _,heap_alloc_at,Nat.le_refl _,by unfold maxLen;decide,by simp,by simp⟩⟩,fun r hr=>by cases hr;exact hB,Nat.le_trans hB (by simp)⟩
set_option maxRecDepth 20000 in
set_option maxHeartbeats 1000000 in
theorem eclone_any (w:World) (v:Value) (l:List Ent) (h:LSl enEn 4 w v l) (h24:l.length≤1000):Calls Tryz.prog 136 #[v] w
  fun e w'=> ∃v',e= .returned v'∧LOut enEn 4 64 w.heap.size w' v' l∧Below w.heap.size w w':=by
 have H:=Lib.hid h
 obtain ⟨ao,cap,rfl,h1,h2,h3⟩:=h
 cases ao with
 | none=>
  have h0:l= []:=by
   apply Classical.byContradiction
   intro hn
   obtain ⟨b,o,e, -⟩:=h3 (List.length_pos_iff.2 hn)
   cases e
  subst h0
  have hq:(binOp .eql 56 (.slice none 0 cap) (.slice none 0 0)).run Tryz.prog w= .ok (.bool true) w:=by kernel_rfl
  go_enter Tryz.func136,Tryz.ntmps136
  go_wp2
  go_ret
  exact ⟨_,rfl,LOut.nil (Nat.le_refl _),Below.refl _ _⟩
 | some a=>
  have hb1:Below w.heap.size w (w.alloc (.cells #[] 64)):=(Below.refl _ _).alloc (Nat.le_refl _) _
  have hE:LOut enEn 4 64 w.heap.size (w.alloc (.cells #[] 64)) (.slice (some ⟨w.heap.size,0,none⟩) 0 0) ([]:List Ent):=LOut.empty (Nat.le_refl _)
  have hl:=H.out.below hb1
  have hsz:([]:List Ent).length+l.length≤100000:=by simp;omega
  have HB1:=Lib.hid hb1
  have hq:(binOp .eql 56 (.slice (some a) l.length cap) (.slice none 0 0)).run Tryz.prog w= .ok (.bool false) w:=by kernel_rfl
  clear h3 hb1
  go_enter Tryz.func136,Tryz.ntmps136
  go_wp2_with (first
   | ((with_reducible refine wpList_appendM elEn hE hl hsz ?_ ?_ ?_);rfl;rfl;(intro v9 w9 hO9 hb9 hg9;have HO9:=Lib.hid hO9;have HB9:=Lib.hid (HB1.out.trans hb9);clear hO9 hb9 hg9);go_frame)
   | fail)
  go_ret
  exact ⟨_,rfl,HO9.out,HB9.out⟩
set_option maxRecDepth 20000 in
set_option maxHeartbeats 1000000 in
theorem edrop_any (w:World) (v:Value) (l:List Ent) (h:LSl enEn 4 w v l) (h24:l.length≤1000) (s:ByteArray):Calls Tryz.prog 78 #[v, .string s] w
  fun e w'=> ∃v',e= .returned v'∧LOut enEn 4 64 w.heap.size w' v' (l.filter (ne_ s))∧Below w.heap.size w w':=by
 obtain ⟨w1,hw1⟩: ∃w1,w.alloc (.cells #[.string s] 9)=w1:=⟨_,rfl⟩
 have hb1:Below w.heap.size w w1:=by rw [←hw1];exact (Below.refl _ _).alloc (Nat.le_refl _) _
 have hX:w1.heap[w.heap.size]?=some (.cells #[.string s] 9 (0,0)):=by rw [←hw1];exact heap_alloc_at
 have q0:w1.cell? ⟨w.heap.size,0,none⟩=some (.string s):=cell_of hX rfl
 have hlt:=lt_of_block hX
 have hcl:=eclone_any w1 v l (h.below hb1) h24
 obtain ⟨ao,cap,rfl, -⟩:=h
 have HB1:=Lib.hid hb1
 have HQ:=Lib.hid q0
 clear hb1 hX q0
 go_enter Tryz.func78,Tryz.ntmps78
 go_upto_region 1 with fail
 simp only [hw1] at*
 clear hw1
 go_wp2_with fail
 refine hcl.mono ?_
 rintro e w2 ⟨v2,rfl,hO2,hb2⟩
 have hde:=edelete_any w2 v2 l (hO2.mono (Nat.zero_le _)) w.heap.size s ((hb2.cell (p:=⟨w.heap.size,0,none⟩) hlt).trans HQ.out) (fun r hr e=>by have:=hO2.lo r hr;omega)
 have HO2:=Lib.hid hO2
 have HB2:=Lib.hid (HB1.out.trans (hb2.mono (Nat.le_of_lt hlt)))
 obtain ⟨a2,n2,c2,rfl⟩:=hO2.shape
 clear hcl hO2 hb2
 go_wp2_with fail
 refine hde.mono ?_
 rintro e w3 ⟨⟨v3,rfl,hO3,hown⟩,hm3⟩
 have hfin:LOut enEn 4 64 w.heap.size w3 v3 (l.filter (ne_ s)):=⟨hO3.own,fun r hr=>Nat.le_trans (Nat.le_of_lt hlt) (HO2.out.lo r (hown r hr)),Nat.le_trans HB2.out.size hm3.size⟩
 have HF:=Lib.hid hfin
 have HB3:=Lib.hid (HB2.out.trans (hm3.below HB2.out.size fun y hy e=>by have:=HO2.out.lo y e;omega))
 clear hde hO3 hown hm3 hfin
 go_wp2
 go_ret
 exact ⟨_,rfl,HF.out,HB3.out⟩
end Go.Proofs.YtjdbbnhnbdocbaaGreat
