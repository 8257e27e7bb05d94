import Derived.Test.YtldimgchpgoggaaGreatMgKpt35
import Derived.WalkKit
import Derived.ProofKit
import Derived.OpenShut
import Derived.ShutString
import Derived.ChangeOld
import Derived.Below
import Derived.Lib.SmallJoins
import Derived.Deep.Cut
namespace Go.Proofs.YtldimgchpgoggaaGreat
open Go.ChangeShapes Go.WideShapes Go.ChangeAt Go.RowKit Go.Tn Go.Joins Go.Tn.Bt Go.Tn.Lp Go.Tn.Dk Go.Tn.Ino Go.Tn.Slo Go.Tn.Ck Go.Tn.Pc
structure DoX where
 kind:Int
 num:Int
 x:Slt
 v:Nat
 keep:List Int
def enDoX (y:DoX×Sv):List Value:= [.int .i64 y.1.kind, .int .i64 y.1.num, .bool y.1.x.used, .int .i64 y.1.x.blk.1, .int .i64 y.1.x.blk.2.1, .int .i64 y.1.x.blk.2.2, .int .u64 (y.1.x.ver:Nat), .bool y.1.x.dirty, .string y.1.x.data, .int .u64 (y.1.v:Nat),sv y.2]
def doC (y:DoX×Sv):Array Value:=(enDoX y).toArray
structure DoX.fine (w:World) (y:DoX×Sv):Prop where
 keep:LSl enI 1 w (sv y.2) y.1.keep
 kind: -9223372036854775808≤y.1.kind∧y.1.kind<9223372036854775808
 num: -9223372036854775808≤y.1.num∧y.1.num<9223372036854775808
 x:Slt.w64 y.1.x
 data:y.1.x.data.size≤maxLen
 v:y.1.v<18446744073709551616
theorem DoX.fine.below {w w':World} {y:DoX×Sv} (h:DoX.fine w y) (hb:Below w.heap.size w w'):DoX.fine w' y:=⟨h.keep.below hb,h.kind,h.num,h.x,h.data,h.v⟩
theorem elDo:ElT Tryz.prog 22 41 11 enDoX:=⟨Tryz.underlying22,by kernel_rfl,by decide,fun _=>rfl,fun x u hu=>by
 unfold enDoX sv at hu
 simp only [List.mem_cons,List.not_mem_nil,or_false] at hu
 rcases hu with rfl|rfl|rfl|rfl|rfl|rfl|rfl|rfl|rfl|rfl|rfl<;>rfl⟩
theorem aggDo (y:DoX×Sv):AggT Tryz.prog 41 (doC y).size:=⟨⟨_,Tryz.underlying41,rfl⟩,by kernel_rfl⟩
theorem oneDo (y:DoX×Sv):(doC y).all (·.oneCell')=true:=by
 unfold doC enDoX sv
 simp [Value.oneCell']
def DosX (w:World) (v:Value) (ds:List DoX):Prop:= ∃xs:List (DoX×Sv),xs.map (·.1)=ds∧LSl enDoX 11 w v xs∧ ∀x∈xs,DoX.fine w x
theorem DosX.below {w w':World} {v:Value} {ds:List DoX} (h:DosX w v ds) (hb:Below w.heap.size w w'):DosX w' v ds:=by
 obtain ⟨xs,h1,h2,h3⟩:=h
 exact ⟨xs,h1,h2.below hb,fun x hx=>(h3 x hx).below hb⟩
theorem flatDo:flat Tryz.prog 6 41=some [3,3,4,3,3,3,36,4,9,36,39]:=by kernel_rfl
theorem cellsDo:Tryz.prog.cellsOf 41= [3,3,4,3,3,3,36,4,9,36,39].length:=by kernel_rfl
theorem flatI:flat Tryz.prog 1 3=some [3]:=by kernel_rfl
theorem cellsI:Tryz.prog.cellsOf 3= [3].length:=by kernel_rfl
section
variable {H:Type} {enc:TypeId×Value→H} {w:World} {base:Nat} {spare:Nat→Bool} {held:Bool}
theorem ints_of {ao:Option Addr} {n cap:Nat} {x:DataW H} {ps:List MemPlace} (h:DataW.Trod enc Tryz.prog w base spare held 39 (.slice ao n cap) x ps): ∃bs:List Int,LSl enI 1 w (.slice ao n cap) bs:=by
 rcases open_flat Tryz.underlying39 flatI cellsI (by decide) h ⟨_,_,_,rfl⟩ with hv|⟨b,off,spot,len,cap',hv,hl,hm,hin,hc⟩
 · cases hv
   exact ⟨[],LSl.nil w⟩
 · cases hv
   have hex: ∀i:Nat, ∃z:Int,i<n→w.cell? ⟨b,off+i,none⟩=some (.int .i64 z):=fun i=>by
     by_cases hi:i<n
     · obtain ⟨c,h1,h2⟩:=hc i hi 0 3 rfl
       obtain ⟨z,rfl,_⟩:=h2.int Tryz.underlying3
       exact ⟨z,fun _=>by simpa using h1⟩
     · exact ⟨0,fun h=>absurd h hi⟩
   have hlen:((List.range n).map fun i=>Classical.choose (hex i)).length=n:=by simp
   refine ⟨(List.range n).map fun i=>Classical.choose (hex i),_,cap,by rw [hlen],by rw [hlen];exact hl,hm,fun h0=> ?_⟩
   rw [hlen] at h0
   refine ⟨b,off,by rw [(hin h0).1],(hin h0).2,fun i y hi=> ?_⟩
   have hlt:i<n:=by
     have:=(List.getElem?_eq_some_iff.1 hi).1
     rwa [hlen] at this
   have hy:Classical.choose (hex i)=y:=by simpa [hlt] using hi
   rw [←hy]
   intro j hj
   have hj0:j=0:=by simpa using hj
   subst hj0
   have:=Classical.choose_spec (hex i) hlt
   simpa using this
theorem CellOk.slice {t e:TypeId} (ht:Tryz.prog.underlying t=some (.slice e)) {c:Value} (h:CellOk enc Tryz.prog w base spare held t c): ∃a n cap,c= .slice a n cap∧ ∃x ps,DataW.Trod enc Tryz.prog w base spare held t (.slice a n cap) x ps:=by
 obtain ⟨m,⟨x,ps⟩,h⟩:=h
 have hsh: ∃a n cap,c= .slice a n cap:=by
   rcases Go.Deep.open_slice ht h with ⟨hcs,_⟩|⟨⟨b,off,spot⟩,len,cap,m,n,D,Pl,hcs,_⟩
   · exact ⟨_,_,_,by simpa using hcs⟩
   · exact ⟨_,_,_,by simpa using hcs⟩
 obtain ⟨a,n,cap,rfl⟩:=hsh
 exact ⟨a,n,cap,rfl,x,ps,m,h⟩
theorem w64_of {u:Bool} {i g a:Int} {v:Int} {dy:Bool} {s:ByteArray} (hi:(Lit.int .i64 i).wf=true) (hg:(Lit.int .i64 g).wf=true) (ha:(Lit.int .i64 a).wf=true) (hv:(Lit.int .u64 v).wf=true):
   Slt.w64 ⟨u,(i,g,a),v.toNat,dy,s⟩:=by
 have b1:=wf_i64_bounds hi
 have b2:=wf_i64_bounds hg
 have b3:=wf_i64_bounds ha
 have b4:=wf_u64_bounds hv
 unfold Slt.w64
 simp only
 omega
theorem dos_of {ao:Option Addr} {n cap:Nat} {x:DataW H} {ps:List MemPlace} (h:DataW.Trod enc Tryz.prog w base spare held 22 (.slice ao n cap) x ps): ∃ds:List DoX,DosX w (.slice ao n cap) ds:=by
 rcases open_flat Tryz.underlying22 flatDo cellsDo (by decide) h ⟨_,_,_,rfl⟩ with hv|⟨b,off,spot,len,cap',hv,hl,hm,hin,hc⟩
 · cases hv
   exact ⟨[], [],rfl,LSl.nil w,fun x hx=>by cases hx⟩
 · cases hv
   have hex: ∀i:Nat, ∃y:DoX×Sv,i<n→Lies w b (off+i*11) (enDoX y).toArray∧DoX.fine w y:=fun i=>by
     by_cases hi:i<n
     · obtain ⟨c0,h0,k0⟩:=hc i hi 0 3 rfl
       obtain ⟨z0,rfl,hz0⟩:=k0.int Tryz.underlying3
       obtain ⟨c1,h1,k1⟩:=hc i hi 1 3 rfl
       obtain ⟨z1,rfl,hz1⟩:=k1.int Tryz.underlying3
       obtain ⟨c2,h2,k2⟩:=hc i hi 2 4 rfl
       obtain ⟨z2,rfl⟩:=k2.bool Tryz.underlying4
       obtain ⟨c3,h3,k3⟩:=hc i hi 3 3 rfl
       obtain ⟨z3,rfl,hz3⟩:=k3.int Tryz.underlying3
       obtain ⟨c4,h4,k4⟩:=hc i hi 4 3 rfl
       obtain ⟨z4,rfl,hz4⟩:=k4.int Tryz.underlying3
       obtain ⟨c5,h5,k5⟩:=hc i hi 5 3 rfl
       obtain ⟨z5,rfl,hz5⟩:=k5.int Tryz.underlying3
       obtain ⟨c6,h6,k6⟩:=hc i hi 6 36 rfl
       obtain ⟨z6,rfl,hz6⟩:=k6.int Tryz.underlying36
       obtain ⟨c7,h7,k7⟩:=hc i hi 7 4 rfl
       obtain ⟨z7,rfl⟩:=k7.bool Tryz.underlying4
       obtain ⟨c8,h8,k8⟩:=hc i hi 8 9 rfl
       obtain ⟨z8,rfl,hz8⟩:=k8.string Tryz.underlying9
       obtain ⟨c9,h9,k9⟩:=hc i hi 9 36 rfl
       obtain ⟨z9,rfl,hz9⟩:=k9.int Tryz.underlying36
       obtain ⟨ca,ha,ka⟩:=hc i hi 10 39 rfl
       obtain ⟨a5,n5,cp5,rfl,x5,p5,t5⟩:=CellOk.slice Tryz.underlying39 ka
       obtain ⟨zs,hz⟩:=ints_of t5
       have b0:=wf_i64_bounds hz0
       have b1:=wf_i64_bounds hz1
       have b6:=wf_u64_bounds hz6
       have b9:=wf_u64_bounds hz9
       have hw:=w64_of (u:=z2) (dy:=z7) (s:=z8) hz3 hz4 hz5 hz6
       obtain ⟨m6,rfl⟩:=Int.eq_ofNat_of_zero_le b6.1
       obtain ⟨m9,rfl⟩:=Int.eq_ofNat_of_zero_le b9.1
       refine ⟨(⟨z0,z1,⟨z2,(z3,z4,z5),m6,z7,z8⟩,m9,zs⟩,(a5,n5,cp5)),fun _=>⟨fun j hj=> ?_,⟨hz,⟨b0.1,by simp only;omega⟩,⟨b1.1,by simp only;omega⟩,hw,hz8,by simp only;omega⟩⟩⟩
       have hj5:j<11:=by simpa [enDoX] using hj
       match j,hj5 with
       |0,_=>exact h0
       |1,_=>exact h1
       |2,_=>exact h2
       |3,_=>exact h3
       |4,_=>exact h4
       |5,_=>exact h5
       |6,_=>exact h6
       |7,_=>exact h7
       |8,_=>exact h8
       |9,_=>exact h9
       |10,_=>exact ha
     · exact ⟨(⟨0,0,Slt.no,0, []⟩,(none,0,0)),fun h=>absurd h hi⟩
   have hlen:((List.range n).map fun i=>Classical.choose (hex i)).length=n:=by simp
   have hget: ∀i y,((List.range n).map fun i=>Classical.choose (hex i))[i]?=some y→i<n∧Classical.choose (hex i)=y:=fun i y hi=>by
     have hlt:i<n:=by
       have:=(List.getElem?_eq_some_iff.1 hi).1
       rwa [hlen] at this
     exact ⟨hlt,by simpa [hlt] using hi⟩
   refine ⟨((List.range n).map fun i=>Classical.choose (hex i)).map (·.1),(List.range n).map fun i=>Classical.choose (hex i),rfl,⟨_,cap,by rw [hlen],by rw [hlen];exact hl,hm,fun h0=> ?_⟩,fun y hy=> ?_⟩
   · rw [hlen] at h0
     refine ⟨b,off,by rw [(hin h0).1],(hin h0).2,fun i y hi=> ?_⟩
     obtain ⟨hlt,hy⟩:=hget i y hi
     rw [←hy]
     exact (Classical.choose_spec (hex i) hlt).1
   · obtain ⟨i,hi⟩:=List.mem_iff_getElem?.1 hy
     obtain ⟨hlt,hy⟩:=hget i y hi
     rw [←hy]
     exact (Classical.choose_spec (hex i) hlt).2
end
theorem doC_data (y:DoX×Sv) (t:ByteArray):(doC y).setIfInBounds 8 (.string t)=doC ({y.1 with x:={y.1.x with data:=t}},y.2):=rfl
set_option maxRecDepth 20000 in
set_option maxHeartbeats 4000000 in
theorem few_any (w:World) (v:Value) (ds:List DoX) (h:DosX w v ds) (n:Nat) (hn:n≤100):Calls Tryz.prog 8 #[v, .int .i64 n] w
   fun e w'=> ∃v' es,e= .returned v'∧DosX w' v' es∧es.length≤n∧(∀y∈es,y.x.data.size≤70)∧Below w.heap.size w w':=by
 obtain ⟨xs, -,hxL,hxD⟩:=h
 obtain ⟨ao,ca,rfl,x1,x2,x3⟩:=hxL
 unfold maxLen at x2
 have hb63:(xs.length:Int)≤9223372036854775807:=by omega
 have hn100:(n:Int)≤100:=by omega
 have HXD:=Lib.hid hxD
 have HX3:=Lib.hid x3
 clear hxD x3
 go_enter Tryz.func8,Tryz.ntmps8
 go_wp2
 go_loopw [5,6] (fun ov iv wi=> ∃(k:Nat) (ys:List (DoX×Sv)),k≤xs.length∧k≤n∧iv= .int .i64 k∧Below w.heap.size w wi∧LOut enDoX 11 41 w.heap.size wi ov ys∧ys.length=k∧ ∀y∈ys,DoX.fine w y∧y.1.x.data.size≤70) (fun _ iv _=>xs.length-(intOf iv).toNat)
 case atStart=>exact ⟨0, [],Nat.zero_le _,Nat.zero_le _,rfl,Below.refl _ _,LOut.nil (Nat.le_refl _),rfl,fun y hy=>by cases hy⟩
 case round=>
   obtain ⟨k,ys,hk,hkn,rfl,hb,hO,hyl,hyf⟩:=hrel
   have HB:=Lib.hid hb
   have HO:=Lib.hid hO
   have HYL:=Lib.hid hyl
   have HYF:=Lib.hid hyf
   clear hb hO hyl hyf
   by_cases hin:k<xs.length∧k<n
   · obtain ⟨hkl,hkm⟩:=hin
     have hd1:decide ((k:Int)<(xs.length:Int))=true:=decide_eq_true (by omega)
     have hkl':(k:Int)<(xs.length:Int):=by omega
     have hkm':(k:Int)<(n:Int):=by omega
     obtain ⟨x,hx⟩: ∃x,xs[k]?=some x:=⟨_,List.getElem?_eq_getElem hkl⟩
     obtain ⟨b4,o4,rfl,hb4,hc4⟩:=HX3.out (by omega)
     have hlx:Lies wr b4 (o4+k*11) (doC x):=(hc4 k x hx).below' HB.out hb4
     have hfx:=HXD.out x (List.mem_of_getElem? hx)
     have hag:=aggDo x
     have hon:=oneDo x
     have hsz11:(doC x).size=11:=rfl
     obtain ⟨w2,hw2⟩: ∃w2,wr.alloc (.cells (doC x) 41)=w2:=⟨_,rfl⟩
     have hb2:Below wr.heap.size wr w2:=by rw [←hw2];exact (Below.refl _ _).alloc (Nat.le_refl _) _
     have hX2:w2.heap[wr.heap.size]?=some (.cells (doC x) 41 (0,0)):=by rw [←hw2];exact heap_alloc_at
     have q8:w2.cell? ⟨wr.heap.size,8,none⟩=some (.string x.1.x.data):=cell_of hX2 rfl
     have f8:w2.frozen? ⟨wr.heap.size,8,none⟩=false:=free_of hX2
     have hsh:=short_any w2 x.1.x.data 70 hfx.data (by decide)
     rw [show ((70:Nat):Int)=70 from rfl] at hsh
     have HFX:=Lib.hid hfx
     have HB2:=Lib.hid hb2
     have HX2:=Lib.hid hX2
     clear hx hc4 hfx hb2 hX2
     go_upto_region 6 with (first
       |((with_reducible refine wpList_loadA hag hlx ?_ ?_);rfl;go_frame)
       |((with_reducible refine wpList_storeA_new hag ?_ hon ?_ ?_ ?_);(rw [hsz11];rfl);rfl;rfl;go_frame)
       |fail)
     simp only [hw2] at*
     clear hw2 hlx
     go_wp2_with fail
     refine hsh.mono ?_
     rintro e wt ⟨t,rfl,ht,hw⟩
     obtain rfl:=hw.symm
     clear hw hsh
     go_upto_region 7 with fail
     have hm3:=(Mod.refl (fun b=>b=wr.heap.size) w2).setCell ⟨wr.heap.size,8,none⟩ (.string t) (fun _=>rfl)
     have hX3:(w2.setCell ⟨wr.heap.size,8,none⟩ (.string t)).heap[wr.heap.size]?=some (.cells (doC ({x.1 with x:={x.1.x with data:=t}},x.2)) 41 (0,0)):=by
       rw [heap_setCell_at HX2.out,doC_data]
     have hb3:Below wr.heap.size wr (w2.setCell ⟨wr.heap.size,8,none⟩ (.string t)):=HB2.out.trans (hm3.below HB2.out.size fun y hy e=>by have e:y=wr.heap.size:=e;omega)
     have hfy:DoX.fine w ({x.1 with x:={x.1.x with data:=t}},x.2):=⟨HFX.out.keep,HFX.out.kind,HFX.out.num,HFX.out.x,by show t.size≤maxLen;unfold maxLen;omega,HFX.out.v⟩
     obtain ⟨y,hy⟩: ∃y:DoX×Sv,({x.1 with x:={x.1.x with data:=t}},x.2)=y:=⟨_,rfl⟩
     have hyd:y.1.x.data.size≤70:=by rw [←hy];exact ht
     rw [hy] at hX3 hfy
     have HFY:=Lib.hid hfy
     have HB3:=Lib.hid hb3
     have HYD:=Lib.hid hyd
     have hL3:=lies_of hX3
     clear hm3 hX3 hb3 hfy hyd hy q8 f8 ht HB2 HX2 HFX
     generalize w2.setCell ⟨wr.heap.size,8,none⟩ (.string t)=w3 at*
     have hag2:=aggDo y
     obtain ⟨a5,n5,c5,rfl⟩:=HO.out.shape
     have hO3:=HO.out.below HB3.out
     have hol:ys.length≤1000000000:=by rw [HYL.out];omega
     have hsz2:(doC y).size=11:=rfl
     go_wp2_with (first
       |((with_reducible refine wpList_loadA hag2 hL3 ?_ ?_);rfl;go_frame)
       |((with_reducible refine wpList_exec rfl (exec_buildSliceA (k:=11) (cells:=doC y) Tryz.underlying22 (by kernel_rfl) (by omega) (by omega) rfl ?_) ?_);rfl;go_frame)
       |((with_reducible refine wpList_append1Y elDo hO3 y hol ?_ ?_ ?_ ?_);rfl;rfl;rfl;(intro v9 w9 hO9 hm9 hv9;have HO9:=Lib.hid hO9;have HM9:=Lib.hid hm9;clear hO9 hm9 hv9);go_frame)
       |fail)
     have hb9:Below w.heap.size w w9:=(HB.out.trans (HB3.out.mono HB.out.size)).trans (HM9.out.below (Nat.le_trans HB.out.size HB3.out.size) fun z hz e=>by have:=HO.out.lo z e;omega)
     have HB9:=Lib.hid hb9
     have hyf: ∀z∈ys++ [y],DoX.fine w z∧z.1.x.data.size≤70:=fun z hz=>by
       rcases List.mem_append.1 hz with hz|hz
       · exact HYF.out z hz
       · rw [List.mem_singleton.1 hz]
         exact ⟨HFY.out,HYD.out⟩
     have HYF2:=Lib.hid hyf
     clear hb9 hyf hO3
     go_roundw
     case rel=>exact ⟨k+1,ys++ [y],by omega,by omega,by go_num,HB9.out,HO9.out,by rw [List.length_append,HYL.out];rfl,HYF2.out⟩
     case measure=>simp [intOf];omega
   · have hfin: ∃v' es,u5=v'∧DosX wr v' es∧es.length≤n∧(∀y∈es,y.x.data.size≤70):=by
       refine ⟨_,ys.map (·.1),rfl,⟨ys,rfl,HO.out.sl elDo.len,fun y hy=>(HYF.out y hy).1.below HB.out⟩,by rw [List.length_map,HYL.out];exact hkn,fun z hz=> ?_⟩
       obtain ⟨y,hy,rfl⟩:=List.mem_map.1 hz
       exact (HYF.out y hy).2
     have HFIN:=Lib.hid hfin
     clear hfin
     by_cases h1:k<xs.length
     · have hd1:decide ((k:Int)<(xs.length:Int))=true:=decide_eq_true (by omega)
       have hkm':¬ (k:Int)<(n:Int):=by omega
       have hkl':(k:Int)<(xs.length:Int):=by omega
       go_wp2
       go_ret
       obtain ⟨v',es,rfl,f1,f2,f3⟩:=HFIN.out
       exact ⟨_,rfl,es,f1,f2,f3,HB.out⟩
     · have hkl':¬ (k:Int)<(xs.length:Int):=by omega
       go_wp2
       go_ret
       obtain ⟨v',es,rfl,f1,f2,f3⟩:=HFIN.out
       exact ⟨_,rfl,es,f1,f2,f3,HB.out⟩
end Go.Proofs.YtldimgchpgoggaaGreat
namespace Go.Tn.Pc
open Go.Tn Go.Tn.Slo Go.Tn.Ck Go.Tn.Dk
def PC.Pin (c:PC):Prop:= ∀i,i<c.L.length→(c.R.at_ i).pinned=(c.at_ i).dirty
theorem PC.Pin.set {c:PC} (h:c.Pin) (hok:c.Ok) {i:Nat} (hi:i<c.L.length) (x:Slt):(c.set i x).Pin:=fun j hj=>by
 rw [set_len] at hj
 have hR:(c.set i x).R.at_ j=(ringSet c.R i x).at_ j:=rfl
 rw [hR,ringSet_at (by rw [hok.len];exact hi),set_at hi]
 by_cases hji:j=i
 · rw [if_pos hji,if_pos hji]
   by_cases hn:x=Slt.no
   · rw [if_pos hn,hn]
     rfl
   · rw [if_neg hn]
 · rw [if_neg hji,if_neg hji]
   exact h j hj
theorem touch_pinned (r:Rn) (i j:Nat):((r.touch i).at_ j).pinned=(r.at_ j).pinned:=by
 unfold Rn.touch
 split
 · by_cases hi:i<r.L.length
   · rw [rn_at_put hi]
     by_cases hj:j=i
     · rw [if_pos hj,hj]
     · rw [if_neg hj]
   · unfold Rn.put Rn.at_
     simp only
     rw [List.set_eq_of_length_le (by omega)]
 · rfl
theorem PC.Pin.get {c:PC} (h:c.Pin) (b:Blk):(c.get b).1.Pin:=by
 unfold PC.get
 split
 · intro j hj
   rw [touch_pinned]
   exact h j hj
 · exact h
theorem get_L (c:PC) (b:Blk):(c.get b).1.L=c.L:=by
 unfold PC.get
 split<;>rfl
theorem PC.Pin.put {c:PC} (h:c.Pin) (hok:c.Ok) (hh:c.R.hand<c.R.L.length) (x:Slt):(c.put x).1.Pin:=by
 obtain ⟨k1,k2,k3,k4,k5,k6⟩:=place_ok hok hh x.blk
 have hp:(c.place x.blk).1.Pin:=fun i hi=>by
   rw [k5,at_of_L k2]
   rw [k2] at hi
   exact h i hi
 unfold PC.put
 split
 · exact h
 · rename_i hx
   have hx:=Classical.not_not.1 hx
   split
   · exact hp
   · rename_i h0
     have h0:=Classical.not_not.1 h0
     exact hp.set k1 (place_set hok hh hx.1 h0).1 x
open Classical in
noncomputable def PC.does (c:PC) (y:Go.Proofs.YtldimgchpgoggaaGreat.DoX):PC×Nat:=
 if y.kind=0 then c.put y.x
 else if y.kind=2 then Go.Proofs.YtldimgchpgoggaaGreat.PC.drop c y.x.blk
 else if y.kind=3 then (c.map (qFile (y.x.blk.1,y.x.blk.2.1)) tNo,0)
 else if y.kind=4 then (if y.v≤1099511627775 then (c.map (qClean (y.x.blk.1,y.x.blk.2.1)) (tVer y.v),0) else (c,2))
 else if y.kind=5 then (if y.v≤1099511627775 then ({c with num:=y.v},0) else (c,2))
 else (c,0)
end Go.Tn.Pc
namespace Go.Proofs.YtldimgchpgoggaaGreat
open Go.RowKit Go.Tn Go.Tn.Bt Go.Tn.Lp Go.Tn.Dk Go.Tn.Ino Go.Tn.Slo Go.Tn.Ck Go.Tn.Pc
section
variable {w0 w w1 w':World} {G:Nat→Prop} {P P':PC} {I I':Lg→Dsk→Prop} {c p i:Nat}
theorem PTo.ahead (hb:Below w.heap.size w w1) (hG: ∀b,G b→b<w.heap.size) (h:PTo w0 I c p P G w1 w'):PTo w0 I c p P G w w':=by
 obtain ⟨G',h1,h2,h3⟩:=h
 refine ⟨G',h1,((Mod.of_below hb).mono (T:=G) fun b hb hs=>absurd hb (Nat.not_lt.2 hs)).trans h2 (fun _ h=>h) fun _ _ h=>h,fun b hb'=>(h3 b hb').imp id fun h=>Nat.le_trans hb.size h⟩
theorem PTo.behind (h:PTo w0 I c p P G w w1) (hb:Below w1.heap.size w1 w'):PTo w0 I c p P G w w':=by
 obtain ⟨G',h1,h2,h3⟩:=h
 exact ⟨G',h1.below hb,h2.trans (Mod.of_below hb) (T:=G) (fun _ h=>h) fun b hb' hs=>absurd (Nat.lt_of_lt_of_le hb' h2.size) (Nat.not_lt.2 hs),h3⟩
theorem doC_x {b:Nat} {y:DoX×Sv} (h:w.heap[b]?=some (.cells (doC y) 41 (0,0))):Lies w b 2 (slC y.1.x):=fun j hj=>by
 have hj7:j<7:=hj
 match j,hj7 with
 |0,_=>exact cell_of h rfl
 |1,_=>exact cell_of h rfl
 |2,_=>exact cell_of h rfl
 |3,_=>exact cell_of h rfl
 |4,_=>exact cell_of h rfl
 |5,_=>exact cell_of h rfl
 |6,_=>exact cell_of h rfl
theorem doC_blk {b:Nat} {y:DoX×Sv} (h:w.heap[b]?=some (.cells (doC y) 41 (0,0))):Lies w b 3 (blC y.1.x.blk):=fun j hj=>by
 match j,hj with
 |0,_=>exact cell_of h rfl
 |1,_=>exact cell_of h rfl
 |2,_=>exact cell_of h rfl
theorem doC_file {b:Nat} {y:DoX×Sv} (h:w.heap[b]?=some (.cells (doC y) 41 (0,0))):Lies w b 3 #[.int .i64 y.1.x.blk.1, .int .i64 y.1.x.blk.2.1]:=fun j hj=>by
 match j,hj with
 |0,_=>exact cell_of h rfl
 |1,_=>exact cell_of h rfl
end
theorem eqBlk (w:World) (a b:Blk):(Op.equalIn 10000 35 (.agg (blC a)) (.agg (blC b))).run Tryz.prog w= .ok (decide (a=b)) w:=by
 obtain ⟨i,g,x⟩:=a
 obtain ⟨i',g',x'⟩:=b
 have:decide (((i,g,x):Blk)=(i',g',x'))=(i==i'&&g==g'&&x==x'):=by
   rw [Bool.eq_iff_iff];simp [and_assoc]
 rw [this]
 rw [run_equalIn_agg w 9999 35 _ _ (by simp [Program.fieldsOf,Tryz.underlying35]) (by kernel_rfl)]
 simp [go_sem,Program.fieldsOf,Tryz.underlying35,Tryz.underlying33,Op.eqFields,part,isAgg]
 by_cases h1:i=i'
 · by_cases h2:g=g'
   · by_cases h3:x=x'
     · simp [h1,h2,h3]
     · simp [h1,h2,h3]
   · simp [h1,h2]
 · simp [h1]
section
variable {w0 w w1 w':World} {G:Nat→Prop} {P P':PC} {I I':Lg→Dsk→Prop} {c p i:Nat}
end
end Go.Proofs.YtldimgchpgoggaaGreat
