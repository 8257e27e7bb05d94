import Derived.Test.YtldimgchpgoggaaGreatMgKpt39
namespace Go.Proofs.YtldimgchpgoggaaGreat
open Go.RowKit Go.Tn Go.Tn.Bt Go.Tn.Lp Go.Tn.Dk Go.Tn.Ino Go.Tn.Slo Go.Tn.Ck Go.Tn.Pc
theorem elPl:ElT Tryz.prog 123 127 3 enPl:=⟨Tryz.underlying123,by kernel_rfl,by decide,fun _=>rfl,fun x u hu=>by
 simp only [enPl,List.mem_cons,List.not_mem_nil,or_false] at hu
 rcases hu with rfl|rfl|rfl<;>rfl⟩
theorem elXs:ElT Tryz.prog 60 38 7 enSl:=⟨Tryz.underlying60,by kernel_rfl,by decide,fun _=>rfl,fun x u hu=>by
 simp only [enSl,List.mem_cons,List.not_mem_nil,or_false] at hu
 rcases hu with rfl|rfl|rfl|rfl|rfl|rfl|rfl<;>rfl⟩
theorem zero_pl:(Tryz.prog.info? 127).map (fun i=>i.zero.map (·.cells))=some (some (enPl Pl.no).toArray):=by kernel_rfl
theorem zero_xs:(Tryz.prog.info? 38).map (fun i=>i.zero.map (·.cells))=some (some (enSl Slt.no).toArray):=by kernel_rfl
theorem built_xr (pb n:Nat):Tryz.prog.built 125 [(0, .slice (some ⟨pb,0,none⟩) n n)]=some #[.slice (some ⟨pb,0,none⟩) n n, .int .i64 0]:=by kernel_rfl
theorem built_xc (sb n rb:Nat):Tryz.prog.built 85 [(0, .slice (some ⟨sb,0,none⟩) n n),(1, .pointer (some ⟨rb,0,none⟩))]=some #[.slice (some ⟨sb,0,none⟩) n n, .pointer (some ⟨rb,0,none⟩), .int .u64 0]:=by kernel_rfl
set_option maxRecDepth 20000 in
set_option maxHeartbeats 4000000 in
theorem xrnew_any (w:World) (n:Nat) (h1:1≤n) (h64:n≤64):Calls Tryz.prog 52 #[.int .i64 n] w fun e w'=> ∃rb pb,e= .returned (.tuple #[.pointer (some ⟨rb,0,none⟩), .int .i64 0])∧XRAt w' rb pb ⟨List.replicate n Pl.no,0⟩∧Below w.heap.size w w'∧w.heap.size≤rb∧w.heap.size≤pb:=by
 have hn2':¬ ((n:Int)<1):=by omega
 have hn3':¬ ((64:Int)<(n:Int)):=by omega
 obtain ⟨w3,hmk,hO3,hb3,hz3⟩:=exec_makeA elPl Pl.no zero_pl n (by omega) w
 have hbt:=built_xr w.heap.size n
 obtain ⟨w4,hw4⟩: ∃w4,w3.alloc (.cells #[.slice (some ⟨w.heap.size,0,none⟩) n n, .int .i64 0] 125)=w4:=⟨_,rfl⟩
 have hb4:Below w3.heap.size w3 w4:=by rw [←hw4];exact (Below.refl _ _).alloc (Nat.le_refl _) _
 have hr4:w4.heap[w3.heap.size]?=some (.cells #[.slice (some ⟨w.heap.size,0,none⟩) n n, .int .i64 0] 125 (0,0)):=by rw [←hw4];exact heap_alloc_at
 have hp4:=(hb4.block w.heap.size (by omega)).trans (lout_full elPl.len hO3 h1 (by rw [List.length_replicate]))
 have hfin:XRAt w4 w3.heap.size w.heap.size ⟨List.replicate n Pl.no,0⟩:=by
   refine ⟨?_,hp4,by omega,?_,?_,?_⟩
   · rw [hr4]
     unfold xringC
     simp
   · show 1≤(List.replicate n Pl.no).length
     rw [List.length_replicate];exact h1
   · show (List.replicate n Pl.no).length≤64
     rw [List.length_replicate];exact h64
   · show 0<(List.replicate n Pl.no).length
     rw [List.length_replicate];omega
 have hbf:Below w.heap.size w w4:=hb3.trans (hb4.mono (by omega))
 have HF:=Lib.hid hfin
 have HBF:=Lib.hid hbf
 have HZ:=Lib.hid hz3
 clear hO3 hb3 hb4 hr4 hp4 hfin hbf hz3
 go_enter Tryz.func52,Tryz.ntmps52
 go_wp2_with (first
   | ((with_reducible refine wpList_exec rfl (hmk _ _ _ _ _ _ _ _ ?_ ?_) ?_);rfl;rfl;go_frame)
   | ((with_reducible refine wpList_exec rfl (exec_buildA (vals:= [(0, .slice (some ⟨w.heap.size,0,none⟩) n n)]) ?_ hbt) ?_);rfl;go_frame)
   | fail)
 simp only [hw4] at*
 go_ret2
 exact ⟨w3.heap.size,rfl,w.heap.size,HF.out,HBF.out,by rw [HZ.out];omega,Nat.le_refl _⟩
set_option maxRecDepth 20000 in
set_option maxHeartbeats 4000000 in
theorem xnew_any (w:World) (n:Nat) (h1:1≤n) (h64:n≤64):Calls Tryz.prog 17 #[.int .i64 n] w fun e w'=> ∃X:XA,e= .returned (.pointer (some ⟨X.c,0,none⟩))∧XAt w' X (PC.new n 0)∧Below w.heap.size w w'∧ ∀b,X.own b→w.heap.size≤b:=by
 have hrn:=xrnew_any w n h1 h64
 have H1:=Lib.hid h1
 have H64:=Lib.hid h64
 go_enter Tryz.func17,Tryz.ntmps17
 go_wp2_with fail
 refine hrn.mono ?_
 rintro e w2 ⟨rb,pb,rfl,hr2,hb2,l1,l2⟩
 obtain ⟨w3,hmk,hO3,hb3,hz3⟩:=exec_makeA elXs Slt.no zero_xs n (by omega) w2
 have hbt:=built_xc w2.heap.size n rb
 obtain ⟨w4,hw4⟩: ∃w4,w3.alloc (.cells #[.slice (some ⟨w2.heap.size,0,none⟩) n n, .pointer (some ⟨rb,0,none⟩), .int .u64 0] 85)=w4:=⟨_,rfl⟩
 have hb4:Below w3.heap.size w3 w4:=by rw [←hw4];exact (Below.refl _ _).alloc (Nat.le_refl _) _
 have hc4:w4.heap[w3.heap.size]?=some (.cells #[.slice (some ⟨w2.heap.size,0,none⟩) n n, .pointer (some ⟨rb,0,none⟩), .int .u64 0] 85 (0,0)):=by rw [←hw4];exact heap_alloc_at
 have hp4:=(hb4.block w2.heap.size (by omega)).trans (lout_full elXs.len hO3 H1.out (by rw [List.length_replicate]))
 have hr4:=(hr2.below hb3).below (hb4)
 have hrl:=lt_of_block hr2.blk
 have hpl:=lt_of_block hr2.pl
 have hs2:=hb2.size
 have hfin:XAt w4 ⟨w3.heap.size,w2.heap.size,rb,pb⟩ (PC.new n 0):=by
   refine ⟨?_,hp4,hr4,⟨?_,?_,?_,?_,?_⟩,new_ok _ _⟩
   · show w4.heap[w3.heap.size]?=_
     rw [hc4]
     unfold xcacheC PC.new
     simp
   · show w3.heap.size≠w2.heap.size
     omega
   · show w3.heap.size≠rb
     omega
   · show w3.heap.size≠pb
     omega
   · show w2.heap.size≠rb
     omega
   · show w2.heap.size≠pb
     omega
 have hbf:Below w.heap.size w w4:=(hb2.trans (hb3.mono hs2)).trans (hb4.mono (by omega))
 have HF:=Lib.hid hfin
 have HBF:=Lib.hid hbf
 have hown: ∀b,XA.own ⟨w3.heap.size,w2.heap.size,rb,pb⟩ b→w.heap.size≤b:=by
   rintro b (e|e|e|e)
   · have e:b=w3.heap.size:=e
     omega
   · have e:b=w2.heap.size:=e
     omega
   · have e:b=rb:=e
     omega
   · have e:b=pb:=e
     omega
 have HOWN:=Lib.hid hown
 clear hrn hr2 hb2 l1 l2 hO3 hb3 hz3 hb4 hc4 hp4 hr4 hrl hpl hs2 hfin hbf hown
 go_wp2_with (first
   | ((with_reducible refine wpList_exec rfl (hmk _ _ _ _ _ _ _ _ ?_ ?_) ?_);rfl;rfl;go_frame)
   | ((with_reducible refine wpList_exec rfl (exec_buildA (vals:= [(0, .slice (some ⟨w2.heap.size,0,none⟩) n n),(1, .pointer (some ⟨rb,0,none⟩))]) ?_ hbt) ?_);rfl;go_frame)
   | fail)
 simp only [hw4] at*
 go_ret
 exact ⟨⟨w3.heap.size,w2.heap.size,rb,pb⟩,rfl,HF.out,HBF.out,HOWN.out⟩
set_option maxRecDepth 20000 in
set_option maxHeartbeats 4000000 in
theorem xless_any (w:World) (x y:Blk):Calls Tryz.prog 61 #[.agg (blC x), .agg (blC y)] w fun e w'=>e= .returned (.bool (decide (bLess x y)))∧Below w.heap.size w w':=by
 obtain ⟨i,g,a⟩:=x
 obtain ⟨i',g',a'⟩:=y
 obtain ⟨w1,hw1⟩: ∃w1,(w.alloc (.cells #[.int .i64 i, .int .i64 g, .int .i64 a] 35)).alloc (.cells #[.int .i64 i', .int .i64 g', .int .i64 a'] 35)=w1:=⟨_,rfl⟩
 have hb1:Below w.heap.size w w1:=by rw [←hw1];exact ((Below.refl _ _).alloc (Nat.le_refl _) _).alloc (by simp) _
 have hX:w1.heap[w.heap.size]?=some (.cells #[.int .i64 i, .int .i64 g, .int .i64 a] 35 (0,0)):=by
   rw [←hw1]
   exact heap_alloc_of heap_alloc_at
 have hY:w1.heap[w.heap.size+1]?=some (.cells #[.int .i64 i', .int .i64 g', .int .i64 a'] 35 (0,0)):=by
   rw [←hw1]
   have:=heap_alloc_at (w:=w.alloc (.cells #[.int .i64 i, .int .i64 g, .int .i64 a] 35)) (o:= .cells #[.int .i64 i', .int .i64 g', .int .i64 a'] 35)
   rw [World.size_alloc] at this
   exact this
 have x0:w1.cell? ⟨w.heap.size,0,none⟩=some (.int .i64 i):=cell_of hX rfl
 have x1:w1.cell? ⟨w.heap.size,1,none⟩=some (.int .i64 g):=cell_of hX rfl
 have x2:w1.cell? ⟨w.heap.size,2,none⟩=some (.int .i64 a):=cell_of hX rfl
 have y0:w1.cell? ⟨w.heap.size+1,0,none⟩=some (.int .i64 i'):=cell_of hY rfl
 have y1:w1.cell? ⟨w.heap.size+1,1,none⟩=some (.int .i64 g'):=cell_of hY rfl
 have y2:w1.cell? ⟨w.heap.size+1,2,none⟩=some (.int .i64 a'):=cell_of hY rfl
 have hl:bLess (i,g,a) (i',g',a')↔i<i'∨i=i'∧(g<g'∨g=g'∧a<a'):=Iff.rfl
 have HL:=Lib.hid hl
 have HB1:=Lib.hid hb1
 clear hX hY hb1 hl
 go_enter Tryz.func61,Tryz.ntmps61
 go_upto_region 1 with fail
 simp only [hw1] at*
 clear hw1
 by_cases h1:i=i'
 · subst h1
   by_cases h2:g=g'
   · subst h2
     have hd:decide (bLess (i,g,a) (i,g,a'))=decide (a<a'):=by
       rw [decide_eq_decide,HL.out]
       omega
     have HD:=Lib.hid hd
     clear hd
     go_wp2
     go_ret
     rw [HD.out]
     exact ⟨rfl,HB1.out⟩
   · have hd:decide (bLess (i,g,a) (i,g',a'))=decide (g<g'):=by
       rw [decide_eq_decide,HL.out]
       omega
     have HD:=Lib.hid hd
     have hne:(g !=g')=true:=by simpa using h2
     clear hd h2
     go_wp2
     go_ret
     rw [HD.out]
     exact ⟨rfl,HB1.out⟩
 · have hd:decide (bLess (i,g,a) (i',g',a'))=decide (i<i'):=by
     rw [decide_eq_decide,HL.out]
     omega
   have HD:=Lib.hid hd
   have hne:(i !=i')=true:=by simpa using h1
   clear hd h1
   go_wp2
   go_ret
   rw [HD.out]
   exact ⟨rfl,HB1.out⟩
end Go.Proofs.YtldimgchpgoggaaGreat
namespace Go.Tn.Pc
open Go.Tn Go.Tn.Slo Go.Tn.Ck Go.Tn.Dk
def qX (d o:Bool) (f:Int×Int) (x:Slt):Bool:=(!d||x.dirty)&&(!o||qFile f x)
structure UpTo (c:PC) (q:Slt→Bool) (k:Nat) (ys:List Slt):Prop where
 mem: ∀z,z∈ys↔ ∃j,j<k∧c.isQ q j=true∧c.at_ j=z
 ord:ys.Pairwise fun x y=>bLess x.blk y.blk
 len:ys.length≤k
section
variable {c:PC} {q:Slt→Bool} {k:Nat} {ys:List Slt}
theorem UpTo.nil:UpTo c q 0 []:=by
 refine ⟨fun z=>⟨fun h=> ?_,fun h=> ?_⟩,List.Pairwise.nil,Nat.le_refl _⟩
 · cases h
 · obtain ⟨j,h1,h2⟩:=h
   exact absurd h1 (Nat.not_lt_zero j)
theorem UpTo.skip (h:UpTo c q k ys) (hq:c.isQ q k=false):UpTo c q (k+1) ys:=by
 refine ⟨fun z=>(h.mem z).trans ⟨fun ⟨j,h1,h2,h3⟩=>⟨j,by omega,h2,h3⟩,fun ⟨j,h1,h2,h3⟩=>⟨j,?_,h2,h3⟩⟩,h.ord,Nat.le_succ_of_le h.len⟩
 by_cases e:j=k
 · subst e
   rw [hq] at h2
   cases h2
 · omega
theorem UpTo.all (h:UpTo c q c.L.length ys):SBy (c.has q) ys:=by
 refine ⟨fun z=>(h.mem z).trans ⟨?_,?_⟩,h.ord⟩
 · rintro ⟨j,h1,h2,rfl⟩
   unfold PC.isQ at h2
   rw [Bool.and_eq_true] at h2
   exact ⟨List.mem_of_getElem? (at_get h1),h2.1,h2.2⟩
 · rintro ⟨h1,h2,h3⟩
   obtain ⟨i,hi⟩:=List.getElem?_of_mem h1
   have e:=at_of hi
   refine ⟨i,(List.getElem?_eq_some_iff.1 hi).1,?_,e⟩
   unfold PC.isQ
   rw [e,h2,h3]
   rfl
theorem UpTo.ins (h:UpTo c q k ys) (hok:c.Ok) (hk:k<c.L.length) (hq:c.isQ q k=true) {p:Nat} (hlo: ∀j a,j<p→ys[j]?=some a→bLess a.blk (c.at_ k).blk)
   (hhi: ∀a,ys[p]?=some a→¬ bLess a.blk (c.at_ k).blk):UpTo c q (k+1) (ys.take p++ [c.at_ k]++ys.drop p):=by
 have hu:(c.at_ k).used=true:=by
   unfold PC.isQ at hq
   rw [Bool.and_eq_true] at hq
   exact hq.1
 have hne: ∀a∈ys,a.blk≠(c.at_ k).blk:=fun a ha e=>by
   obtain ⟨j,h1,h2,rfl⟩:=(h.mem a).1 ha
   unfold PC.isQ at h2
   rw [Bool.and_eq_true] at h2
   have:=hok.uniq j k (by omega) hk h2.1 hu e
   omega
 have hup: ∀a∈ys.drop p,bLess (c.at_ k).blk a.blk:=fun a ha=>by
   obtain ⟨j,hj⟩:=List.getElem?_of_mem ha
   rw [List.getElem?_drop] at hj
   have hl:=(List.getElem?_eq_some_iff.1 hj).1
   have hp:p<ys.length:=by omega
   have h3:bLess (c.at_ k).blk ys[p].blk:=(bLess_total (fun e=>hne ys[p] (List.getElem_mem hp) e.symm)).resolve_right (hhi ys[p] (List.getElem?_eq_getElem hp))
   by_cases h0:j=0
   · subst h0
     rw [Nat.add_zero,List.getElem?_eq_getElem hp] at hj
     cases hj
     exact h3
   · obtain ⟨h5,e5⟩:=List.getElem?_eq_some_iff.1 hj
     have:=List.pairwise_iff_getElem.1 h.ord p (p+j) hp h5 (by omega)
     rw [e5] at this
     exact bLess_trans h3 this
 have hdn: ∀a∈ys.take p,bLess a.blk (c.at_ k).blk:=fun a ha=>by
   obtain ⟨j,hj⟩:=List.getElem?_of_mem ha
   rw [List.getElem?_take] at hj
   split at hj
   · exact hlo j a (by assumption) hj
   · cases hj
 refine ⟨fun z=> ?_,?_,?_⟩
 · have e1:z∈ys.take p++ [c.at_ k]++ys.drop p↔z∈ys∨c.at_ k=z:=by
     rw [List.mem_append,List.mem_append,List.mem_singleton]
     have e:z∈ys↔z∈ys.take p∨z∈ys.drop p:=by rw [←List.mem_append,List.take_append_drop]
     rw [e]
     constructor
     · rintro ((h|h)|h)
       · exact .inl (.inl h)
       · exact .inr h.symm
       · exact .inl (.inr h)
     · rintro ((h|h)|h)
       · exact .inl (.inl h)
       · exact .inr h
       · exact .inl (.inr h.symm)
   rw [e1,h.mem]
   constructor
   · rintro (⟨j,h1,h2,h3⟩|e)
     · exact ⟨j,by omega,h2,h3⟩
     · exact ⟨k,by omega,hq,e⟩
   · rintro ⟨j,h1,h2,h3⟩
     by_cases e:j=k
     · subst e
       exact .inr h3
     · exact .inl ⟨j,by omega,h2,h3⟩
 · refine List.pairwise_append.2 ⟨List.pairwise_append.2 ⟨h.ord.sublist (List.take_sublist _ _),by simp,fun a ha b hb=> ?_⟩,h.ord.sublist (List.drop_sublist _ _),fun a ha b hb=> ?_⟩
   · have:b=c.at_ k:=by simpa using hb
     subst this
     exact hdn a ha
   · rcases List.mem_append.1 ha with ha|ha
     · exact bLess_trans (hdn a ha) (hup b hb)
     · have:a=c.at_ k:=by simpa using ha
       subst this
       exact hup b hb
 · have:=h.len
   simp only [List.length_append,List.length_take,List.length_drop,List.length_singleton]
   omega
end
end Go.Tn.Pc
namespace Go.Proofs.YtldimgchpgoggaaGreat
open Go.RowKit Go.Tn Go.Tn.Bt Go.Tn.Lp Go.Tn.Dk Go.Tn.Ino Go.Tn.Slo Go.Tn.Ck Go.Tn.Pc
theorem sizeXs:(Tryz.prog.info? 38).map (·.size)=some 7:=by kernel_rfl
theorem aggZXs (x:Slt):AggZ Tryz.prog 38 (slC x).size:=by
 refine ⟨aggXs x,?_⟩
 have h:=elXs.info
 have e:(slC x).size=7:=rfl
 rw [e]
 cases hq:Tryz.prog.info? 38 with
 | none=>simp [hq] at h
 | some i=>
   cases hz:i.zero with
   | none=>simp [hq,hz] at h
   | some z=>simp [hq,hz] at h;exact ⟨i,z,rfl,hz,h.1⟩
section
variable {w w':World} {X:XA} {P:PC}
theorem lout_below {α:Type} {en:α→List Value} {k:Nat} {e:TypeId} {B:Nat} {v:Value} {xs:List α} (h:LOut en k e B w v xs) (hb:Below w.heap.size w w'):LOut en k e B w' v xs:=h.kept hb.size fun r hr=>hb.block r (h.lt hr)
set_option maxRecDepth 20000 in
set_option maxHeartbeats 8000000 in
theorem xall_any (h:XAt w X P) (d o:Bool) (f:Int×Int):Calls Tryz.prog 26 #[.pointer (some ⟨X.c,0,none⟩), .bool d, .bool o, .agg #[.int .i64 f.1, .int .i64 f.2]] w
   fun e w'=> ∃v ys,e= .returned v∧SBy (P.has (qX d o f)) ys∧ys.length≤64∧LOut enSl 7 38 w.heap.size w' v ys∧Below w.heap.size w w':=by
 obtain ⟨w1,hw1⟩: ∃w1,w.alloc (.cells #[.int .i64 f.1, .int .i64 f.2] 33)=w1:=⟨_,rfl⟩
 have hb1:Below w.heap.size w w1:=by rw [←hw1];exact (Below.refl _ _).alloc (Nat.le_refl _) _
 have hX:w1.heap[w.heap.size]?=some (.cells #[.int .i64 f.1, .int .i64 f.2] 33 (0,0)):=by rw [←hw1];exact heap_alloc_at
 obtain ⟨n,hn⟩: ∃n,P.L.length=n:=⟨_,rfl⟩
 have hn64:n≤64:=by have:=h.n64;omega
 have hagf:=aggFi f.1 f.2
 have HF:=Lib.hid hX
 have H1:=Lib.hid (h.below hb1)
 have HB1:=Lib.hid hb1
 have HN:=Lib.hid hn
 have HPO:=Lib.hid h.ok
 clear h hb1 hX hn
 go_enter Tryz.func26,Tryz.ntmps26
 go_upto_region 1 with fail
 simp only [hw1] at*
 clear hw1
 go_wp2
 go_loopw [9,10] (fun ov iv wi=> ∃(k:Nat) (ys:List Slt),k≤n∧iv= .int .i64 k∧UpTo P (qX d o f) k ys∧Below w1.heap.size w1 wi∧LOut enSl 7 38 w1.heap.size wi ov ys) (fun _ iv _=>n-(intOf iv).toNat)
 case atStart=>exact ⟨0, [],Nat.zero_le _,rfl,UpTo.nil,Below.refl _ _,LOut.nil (Nat.le_refl _)⟩
 case round=>
   obtain ⟨k,ys,hk,rfl,hup,hb,hO⟩:=hrel
   obtain ⟨wo,hwo⟩: ∃wo,wo=wr:=⟨_,rfl⟩
   subst hwo
   have HB:=Lib.hid hb
   have HO:=Lib.hid hO
   have HUP:=Lib.hid hup
   have hCr:=H1.out.below hb
   have c0:wo.cell? ⟨X.c,0,none⟩=some (.slice (some ⟨X.sb,0,none⟩) n n):=by rw [←HN.out];exact hCr.c0
   clear hb hO hup
   by_cases hkn:k<n
   · have hkn':(k:Int)<(n:Int):=by omega
     obtain ⟨y,hy⟩: ∃y,P.at_ k=y:=⟨_,rfl⟩
     have hLy:=hCr.slot (i:=k) (by rw [HN.out];exact hkn)
     rw [hy] at hLy
     have hagy:=aggXs y
     have hazy:=aggZXs y
     have hony:=oneXs y
     have HY:=Lib.hid hy
     obtain ⟨av,an,ac,rfl⟩:=HO.out.shape
     clear hCr hy
     go_upto_region 6 with (first
       | ((with_reducible refine wpList_loadA hagy hLy ?_ ?_);rfl;go_frame)
       | ((refine wpList_allocStore hazy hony ?_ ?_ ?_ ?_);go_simp;decide;go_simp;go_frame)
       | fail)
     obtain ⟨w5,hw5⟩: ∃w5,wo.alloc (.cells (slC y) 38)=w5:=⟨_,rfl⟩
     have hb5:Below wo.heap.size wo w5:=by rw [←hw5];exact (Below.refl _ _).alloc (Nat.le_refl _) _
     have hx5:w5.heap[wo.heap.size]?=some (.cells (slC y) 38 (0,0)):=by rw [←hw5];exact heap_alloc_at
     simp only [hw5] at*
     clear hw5
     have hf5:=((HB.out.trans (hb5.mono HB.out.size)).block _ (lt_of_block HF.out)).trans HF.out
     have d0:w5.cell? ⟨wo.heap.size,0,none⟩=some (.bool y.used):=cell_of hx5 rfl
     have d5:w5.cell? ⟨wo.heap.size,5,none⟩=some (.bool y.dirty):=cell_of hx5 rfl
     have d1:w5.cell? ⟨wo.heap.size,1,none⟩=some (.int .i64 y.blk.1):=cell_of hx5 rfl
     have d2:w5.cell? ⟨wo.heap.size,2,none⟩=some (.int .i64 y.blk.2.1):=cell_of hx5 rfl
     have f0:w5.cell? ⟨w.heap.size,0,none⟩=some (.int .i64 f.1):=cell_of hf5 rfl
     have f1:w5.cell? ⟨w.heap.size,1,none⟩=some (.int .i64 f.2):=cell_of hf5 rfl
     have HB5:=Lib.hid hb5
     have HX5:=Lib.hid hx5
     have hO5:=lout_below HO.out hb5
     have HO5:=Lib.hid hO5
     have hq:P.isQ (qX d o f) k=(y.used&&((!d||y.dirty)&&(!o||decide ((y.blk.1,y.blk.2.1)=(f.1,f.2))))):=by
       unfold PC.isQ qX qFile
       rw [HY.out]
     have HQ:=Lib.hid hq
     clear hb5 hx5 hf5 hO5 hq hLy hagy hazy hony c0
     go_cut [50] (fun s wx=>s= .bool (!P.isQ (qX d o f) k)∧wx=w5)
     case first=>
       have hgt:Tryz.prog.eqGuardType Tryz.prog.depth 33=false:=by kernel_rfl
       have heq:=fun w=>eqFile w y.blk.1 y.blk.2.1 f.1 f.2
       obtain ⟨de,hde⟩: ∃de,decide ((y.blk.1,y.blk.2.1)=(f.1,f.2))=de:=⟨_,rfl⟩
       obtain ⟨u,hu⟩: ∃u,y.used=u:=⟨_,rfl⟩
       obtain ⟨dy,hdy⟩: ∃u,y.dirty=u:=⟨_,rfl⟩
       rw [hu] at d0
       rw [hdy] at d5
       rw [hde] at heq
       have HU:=Lib.hid hu
       have HDY:=Lib.hid hdy
       have HDE:=Lib.hid hde
       clear hu hdy hde
       cases u<;>cases d<;>cases dy<;>cases o<;>cases de
       all_goals
         go_wp2_with (first
           | ((with_reducible refine wpList_exec rfl (exec_neqS hgt heq ?_ ?_ _) ?_);rfl;rfl;go_frame)
           | fail)
         go_meet
         case rel=>exact ⟨by rw [HQ.out,HU.out,HDY.out,HDE.out];rfl,rfl⟩
     case rest=>
       obtain ⟨rfl,hwc⟩:=hcut
       obtain rfl:=hwc.symm
       obtain ⟨qk,hqk⟩: ∃qk,P.isQ (qX d o f) k=qk:=⟨_,rfl⟩
       rw [hqk]
       have hnil:LOut enSl 7 38 w5.heap.size w5 (.slice none 0 0) ([]:List Slt):=LOut.nil (Nat.le_refl _)
       have hb15:Below w1.heap.size w1 w5:=HB.out.trans (HB5.out.mono HB.out.size)
       have HB15:=Lib.hid hb15
       clear hwc hnil hb15 d0 d1 d2 d5 f0 f1
       cases qk with
       | false=>
         have hup:=HUP.out.skip hqk
         have HUS:=Lib.hid hup
         clear hup hqk
         go_wp2
         go_roundw
         case rel=>exact ⟨k+1,ys,by omega,by go_num,HUS.out,HB15.out,HO5.out⟩
         case measure=>simp [intOf];omega
       | true=>
         have HQK:=Lib.hid hqk
         obtain ⟨ao,cap,hve,hl1,hl2,hvc⟩:=HO5.out.sl elXs.len
         cases hve
         have hsl:=HO5.out.sl elXs.len
         have hyl:=HUP.out.len
         have HSL:=Lib.hid hsl
         clear hqk hvc hsl
         go_wp2
         go_loopw [13] (fun jv wz=> ∃p:Nat,p≤ys.length∧jv= .int .i64 p∧(∀j a,j<p→ys[j]?=some a→bLess a.blk y.blk)∧Below w5.heap.size w5 wz) (fun jv _=>ys.length-(intOf jv).toNat)
         case atStart=>exact ⟨0,Nat.zero_le _,rfl,fun j a hj=>absurd hj (Nat.not_lt_zero j),Below.refl _ _⟩
         case round=>
           obtain ⟨p,hp,rfl,hlo,hbz⟩:=hrel
           have HLO:=Lib.hid hlo
           have HBZ:=Lib.hid hbz
           have hxr:=(hbz.block _ (lt_of_block HX5.out)).trans HX5.out
           have hLx:Lies wr.drew wo.heap.size 1 (blC y.blk):=slC_blk (w:=wr.drew) hxr
           have hxlt:wo.heap.size<wr.drew.heap.size:=lt_of_block hxr
           clear hlo hbz hxr
           go_upto_region 9 with fail
           go_cut [64] (fun s wx=>Below w5.heap.size w5 wx∧ ∃t:Bool,s= .bool t∧(t=true→p<ys.length∧ ∀a,ys[p]?=some a→bLess a.blk y.blk)∧(t=false→ ∀a,ys[p]?=some a→¬ bLess a.blk y.blk))
           case first=>
             by_cases hpl:p<ys.length
             · have hpl':(p:Int)<(ys.length:Int):=by omega
               have hgp:ys[p]?=some ys[p]:=List.getElem?_eq_getElem hpl
               obtain ⟨b5,o5,cap6,hveq,hb5,hco⟩:=HSL.out.at_ hgp
               obtain ⟨rfl,rfl⟩:av=some ⟨b5,o5,none⟩∧ac=cap6:=by simpa using hveq
               have HG:=Lib.hid hgp
               clear hveq hgp
               generalize ys[p]=a at*
               have hco2:Lies w5 b5 (o5+p*7) (slC a):=hco
               have hA:Lies wr.drew b5 (o5+p*7+1) (blC a.blk):=lies_blk (hco2.below' HBZ.out.drew hb5)
               have hb5w:b5<wr.drew.heap.size:=by have:=HBZ.out.size;show b5<wr.heap.size;omega
               have hS:Lies wr.drew b5 (o5+p*7+1) (blC a.blk)∧Lies wr.drew wo.heap.size 1 (blC y.blk):=⟨hA,hLx⟩
               have hle:=xless_any wr.drew a.blk y.blk
               have HLE:=Lib.hid hle
               clear hco hco2 hA hLx hle
               refine wp_region_g (fun w'=>Lies w' b5 (o5+p*7+1) (blC a.blk)∧Lies w' wo.heap.size 1 (blC y.blk)) [(0,1),(1,1),(2,1),(3,1),(4,1),(5,1),(6,1),(7,1),(8,1),(9,0),(10,1),(11,0),(12,2),(13,1)] (by kernel_rfl) (by kernel_rfl) (by intro d v c a w h;cases d<;>exact h) ?_
               iterate 9 (refine g_take rfl rfl (fun K hK=> ?_);go_simp;refine hK _ ?_;clear hK K)
               refine g_read rfl rfl hS (fun w' h=>exec_loadA (aggBl a.blk) rfl h.1) ?_
               iterate 1 (refine g_take rfl rfl (fun K hK=> ?_);go_simp;refine hK _ ?_;clear hK K)
               refine g_read rfl rfl hS (fun w' h=>exec_loadA (aggBl y.blk) rfl h.2) ?_
               refine g_show' rfl rfl (fun K hK=> ?_)
               go_simp
               refine HLE.out.mono ?_
               rintro e w6 ⟨rfl,hb6⟩
               refine hK _ _ ⟨hS.1.below' hb6 hb5w,hS.2.below' hb6 hxlt⟩ ?_
               clear hK K
               have hbf:Below w5.heap.size w5 w6:=HBZ.out.trans (((Below.refl wr.heap.size wr).drew.trans hb6).mono HBZ.out.size)
               have HBF:=Lib.hid hbf
               clear hS hb6 hbf
               iterate 1 (refine g_take rfl rfl (fun K hK=> ?_);go_simp;refine hK _ ?_;clear hK K)
               refine g_nil ?_
               go_wp2
               go_meet
               case rel=>exact ⟨HBF.out,_,rfl,fun e=>⟨hpl,fun z hz=>by
                 rw [HG.out] at hz
                 cases hz
                 exact of_decide_eq_true e⟩,fun e z hz=>by
                 rw [HG.out] at hz
                 cases hz
                 exact of_decide_eq_false e⟩
             · obtain rfl:p=ys.length:=by omega
               have hS:=hLx
               clear hLx
               refine wp_region_g (fun w'=>Lies w' wo.heap.size 1 (blC y.blk)) [(0,1),(1,1),(2,1),(3,1),(4,1),(5,1),(6,1),(7,1),(8,1),(9,0),(10,1),(11,0),(12,2),(13,1)] (by kernel_rfl) (by kernel_rfl) (by intro d v c a w h;cases d<;>exact h) ?_
               iterate 5 (refine g_take rfl rfl (fun K hK=> ?_);go_simp;refine hK _ ?_;clear hK K)
               iterate 8 (refine g_offK rfl rfl (fun _=>hS) (fun K hK=> ?_);go_simp;refine hK _ ?_;clear hK K)
               iterate 1 (refine g_take rfl rfl (fun K hK=> ?_);go_simp;refine hK _ ?_;clear hK K)
               refine g_nil ?_
               go_wp2
               go_meet
               case rel=>exact ⟨HBZ.out.trans ((Below.refl wr.heap.size wr).drew.mono HBZ.out.size),false,rfl,fun e=>by (cases e),fun _ z hz=>by simp at hz⟩
           case rest=>
             obtain ⟨hbc,t,rfl,ht1,ht2⟩:=hcut
             clear hLx hxlt
             cases t with
             | true=>
               obtain ⟨hpl,hls⟩:=ht1 rfl
               have HLS:=Lib.hid hls
               have HBC:=Lib.hid hbc
               clear ht1 ht2 hls hbc
               go_wp2
               go_roundw
               case rel=>exact ⟨p+1,by omega,by go_num,fun j a hj ha=>by
                 by_cases hjp:j=p
                 · subst hjp
                   exact HLS.out a ha
                 · exact HLO.out j a (by omega) ha,HBC.out⟩
               case measure=>simp [intOf];omega
             | false=>
               have hins:=HUP.out.ins HPO.out (by rw [HN.out];exact hkn) HQK.out (p:=p) (by rw [HY.out];exact HLO.out) (by rw [HY.out];exact ht2 rfl)
               rw [HY.out] at hins
               have HINS:=Lib.hid hins
               have hpc:p≤ac:=by omega
               have hslz:=HSL.out.below hbc
               have hu1:=hslz.take hp
               have hnil:LOut enSl 7 38 wc.heap.size wc (.slice none 0 0) ([]:List Slt):=LOut.nil (Nat.le_refl _)
               have hxc:=(hbc.block _ (lt_of_block HX5.out)).trans HX5.out
               have hlq:(ys.take p).length≤1000000000:=by rw [List.length_take];omega
               obtain ⟨ad,had⟩: ∃ad,(if ac=p then av else av.map (·.add (p*7)))=ad:=⟨_,rfl⟩
               obtain ⟨ln,hln⟩: ∃ln,ys.length-p=ln:=⟨_,rfl⟩
               obtain ⟨cn,hcn⟩: ∃cn,ac-p=cn:=⟨_,rfl⟩
               have HAD:=Lib.hid had
               have HLN:=Lib.hid hln
               have HCN:=Lib.hid hcn
               have HBC:=Lib.hid hbc
               have HXC:=Lib.hid hxc
               clear ht1 ht2 hins hslz had hln hcn hbc hxc
               go_upto_region 12 with (first
                 | ((with_reducible refine wpList_exec rfl (exec_sliceHi Tryz.underlying60 sizeXs hpc ?_ ?_) ?_);rfl;rfl;go_frame)
                 | ((with_reducible refine wpList_appendM elXs hnil hu1 (by simp;omega) ?_ ?_ ?_);rfl;rfl;(intro v6 w6 hO6 hb6 _;rw [List.nil_append] at hO6;obtain ⟨a6,n6,c6,rfl⟩:=LOut.shape hO6);go_frame)
                 | fail)
               have hx6:=(hb6.block _ (lt_of_block HXC.out)).trans HXC.out
               have hL6:Lies w6 wo.heap.size 0 (slC y):=lies_of hx6
               have hagy:=aggXs y
               clear hu1 hnil hx6
               go_upto_region 13 with (first
                 | ((with_reducible refine wpList_loadA hagy hL6 ?_ ?_);rfl;go_frame)
                 | ((with_reducible refine wpList_exec rfl (exec_buildSliceA (k:=7) (cells:=slC y) Tryz.underlying60 (by kernel_rfl) (by omega) (by omega) rfl ?_) ?_);rfl;go_frame)
                 | ((with_reducible refine wpList_append1Y elXs hO6 y hlq ?_ ?_ ?_ ?_);rfl;rfl;rfl;(intro v7 w7 hO7 hm7 _;obtain ⟨a7,n7,c7,rfl⟩:=LOut.shape hO7);go_frame)
                 | fail)
               have hb7:Below wc.heap.size w6 w7:=hm7.below hb6.size fun x hx e=>by have:=hO6.lo x e;omega
               have hu3:=(HSL.out.below (HBC.out.trans ((hb6.trans hb7).mono HBC.out.size))).drop2 hp HAD.out HLN.out HCN.out
               have hlq2:(ys.take p++ [y]).length+(ys.drop p).length≤100000:=by simp;omega
               have hbf:Below w1.heap.size w1 w7:=HB15.out.trans ((HBC.out.trans ((hb6.trans hb7).mono HBC.out.size)).mono HB15.out.size)
               have HBF:=Lib.hid hbf
               clear hO6 hb6 hm7 hb7 hL6 hagy hbf
               go_wp2_with (first
                 | ((with_reducible refine wpList_exec rfl (exec_sliceLo2 Tryz.underlying60 sizeXs hp HAD.out HLN.out HCN.out ?_ ?_) ?_);rfl;rfl;go_frame)
                 | ((with_reducible refine wpList_appendM elXs hO7 hu3 hlq2 ?_ ?_ ?_);rfl;rfl;(intro v8 w8 hO8 hb8 _;obtain ⟨a8,n8,c8,rfl⟩:=LOut.shape hO8);go_frame)
                 | fail)
               have hw1c:w1.heap.size≤wc.heap.size:=by have:=HB15.out.size;have:=HBC.out.size;omega
               have HO8:=Lib.hid (hO8.mono (B':=w1.heap.size) hw1c)
               have HB8:=Lib.hid (HBF.out.trans (hb8.mono hw1c))
               clear hO7 hu3 hO8 hb8
               go_roundw
               case rel=>exact ⟨k+1,ys.take p++ [y]++ys.drop p,by omega,by go_num,HINS.out,HB8.out,HO8.out⟩
               case measure=>simp [intOf];omega
   · obtain rfl:k=n:=by omega
     have hall:SBy (P.has (qX d o f)) ys:=by
       have:=HUP.out
       rw [←HN.out] at this
       exact this.all
     have hl:=HUP.out.len
     have HALL:=Lib.hid hall
     have HBZ:=Lib.hid (HB1.out.trans (HB.out.mono HB1.out.size))
     have HOZ:=Lib.hid (HO.out.mono (B':=w.heap.size) HB1.out.size)
     clear hall hCr
     go_wp2
     go_ret
     exact ⟨_,ys,rfl,HALL.out,by omega,HOZ.out,HBZ.out⟩
end
section
variable {w w':World} {X:XA} {P:PC}
theorem XAt.numbered (h:XAt w X P) (v:Nat):XAt (w.setCell ⟨X.c,2,none⟩ (.int .u64 (v:Nat))) X {P with num:=v}∧Mod X.own w (w.setCell ⟨X.c,2,none⟩ (.int .u64 (v:Nat))):=by
 have hm:=(Mod.refl (fun b=>b=X.c) w).setCell ⟨X.c,2,none⟩ (.int .u64 (v:Nat)) (fun _=>rfl)
 refine ⟨⟨?_,hm.heap h.slots (fun e=>h.ne.1 e.symm),h.ring.mod hm (fun e=>h.ne.2.1 e.symm) (fun e=>h.ne.2.2.1 e.symm),h.ne,⟨h.ok.len,h.ok.is,h.ok.uniq,h.ok.used⟩⟩,hm.mono fun _ _ h=> .inl h⟩
 rw [heap_setCell_at h.blk]
 unfold xcacheC
 rfl
set_option maxRecDepth 20000 in
set_option maxHeartbeats 8000000 in
theorem xmust_any (h:XAt w X P) (y:DoX×Sv):Calls Tryz.prog 20 #[.pointer (some ⟨X.c,0,none⟩), .agg (doC y)] w fun e w'=>e= .returned (.int .i64 ((P.does y.1).2:Nat))∧XAt w' X (P.does y.1).1∧Mod X.own w w':=by
 obtain ⟨w1,hw1⟩: ∃w1,w.alloc (.cells (doC y) 41)=w1:=⟨_,rfl⟩
 have hb1:Below w.heap.size w w1:=by rw [←hw1];exact (Below.refl _ _).alloc (Nat.le_refl _) _
 have hX:w1.heap[w.heap.size]?=some (.cells (doC y) 41 (0,0)):=by rw [←hw1];exact heap_alloc_at
 have h1:=h.below hb1
 have q0:w1.cell? ⟨w.heap.size,0,none⟩=some (.int .i64 y.1.kind):=cell_of hX rfl
 have q9:w1.cell? ⟨w.heap.size,9,none⟩=some (.int .u64 (y.1.v:Nat)):=cell_of hX rfl
 have hLx:=doC_x hX
 have hLb:=doC_blk hX
 have hLf:=doC_file hX
 have hagx:=aggXs y.1.x
 have hagb:=aggBl y.1.x.blk
 have hagf:=aggFi y.1.x.blk.1 y.1.x.blk.2.1
 have hof:Mod X.own w w1:=(Mod.of_below hb1).mono (T:=X.own) fun b hb hS=>absurd hb (Nat.not_lt.2 hS)
 have HA:Hid (∀w',Mod X.own w1 w'→Mod X.own w w'):=Lib.hid fun w' h'=>hof.trans h' (fun _ h=>h) fun _ _ h=>h
 have H1:=Lib.hid h1
 have HOF:=Lib.hid hof
 obtain ⟨k,hk⟩: ∃k,y.1.kind=k:=⟨_,rfl⟩
 rw [hk] at q0
 have HK:=Lib.hid hk
 clear hb1 h h1 hX hk hof
 by_cases k0:k=0
 · subst k0
   have hd:P.does y.1=P.put y.1.x:=by unfold PC.does;rw [if_pos HK.out]
   have HD:=Lib.hid hd
   have hpu:=xput_any H1.out y.1.x
   clear hd q9
   go_enter Tryz.func20,Tryz.ntmps20
   go_upto_region 1 with fail
   simp only [hw1] at*
   clear hw1
   go_wp2_with (first
     | ((with_reducible refine wpList_loadA hagx hLx ?_ ?_);rfl;go_frame)
     | fail)
   refine hpu.mono ?_
   rintro e w3 ⟨rfl,hT,hm⟩
   have HT:=Lib.hid hT
   have HM:=Lib.hid (HA.out _ hm)
   clear hpu hT hm
   go_wp2
   go_ret
   rw [HD.out]
   exact ⟨rfl,HT.out,HM.out⟩
 · by_cases k2:k=2
   · subst k2
     have hd:P.does y.1=PC.drop P y.1.x.blk:=by unfold PC.does;rw [HK.out];rfl
     have HD:=Lib.hid hd
     have hpu:=xdrop_any H1.out y.1.x.blk
     clear hd q9 k0
     go_enter Tryz.func20,Tryz.ntmps20
     go_upto_region 1 with fail
     simp only [hw1] at*
     clear hw1
     go_wp2_with (first
       | ((with_reducible refine wpList_loadA hagb hLb ?_ ?_);rfl;go_frame)
       | fail)
     refine hpu.mono ?_
     rintro e w3 ⟨rfl,hT,hm⟩
     have HT:=Lib.hid hT
     have HM:=Lib.hid (HA.out _ hm)
     clear hpu hT hm
     go_wp2
     go_ret
     rw [HD.out]
     exact ⟨rfl,HT.out,HM.out⟩
   · by_cases k3:k=3
     · subst k3
       have hd:P.does y.1=(P.map (qFile (y.1.x.blk.1,y.1.x.blk.2.1)) tNo,0):=by unfold PC.does;rw [HK.out];rfl
       have HD:=Lib.hid hd
       have hpu:=xdropFile_any H1.out (y.1.x.blk.1,y.1.x.blk.2.1)
       clear hd q9 k0 k2
       go_enter Tryz.func20,Tryz.ntmps20
       go_upto_region 1 with fail
       simp only [hw1] at*
       clear hw1
       go_wp2_with (first
         | ((with_reducible refine wpList_loadA hagf hLf ?_ ?_);rfl;go_frame)
         | fail)
       refine hpu.mono ?_
       rintro e w3 ⟨rfl,hT,hm⟩
       have HT:=Lib.hid hT
       have HM:=Lib.hid (HA.out _ hm)
       clear hpu hT hm
       go_wp2
       go_ret
       rw [HD.out]
       exact ⟨rfl,HT.out,HM.out⟩
     · by_cases k4:k=4
       · subst k4
         have hd:P.does y.1=P.retag (y.1.x.blk.1,y.1.x.blk.2.1) y.1.v:=by unfold PC.does;rw [HK.out];rfl
         have HD:=Lib.hid hd
         have hpu:=xretag_any H1.out (y.1.x.blk.1,y.1.x.blk.2.1) y.1.v
         clear hd k0 k2 k3
         go_enter Tryz.func20,Tryz.ntmps20
         go_upto_region 1 with fail
         simp only [hw1] at*
         clear hw1
         go_wp2_with (first
           | ((with_reducible refine wpList_loadA hagf hLf ?_ ?_);rfl;go_frame)
           | fail)
         refine hpu.mono ?_
         rintro e w3 ⟨rfl,hT,hm⟩
         have HT:=Lib.hid hT
         have HM:=Lib.hid (HA.out _ hm)
         clear hpu hT hm
         go_wp2
         go_ret
         rw [HD.out]
         exact ⟨rfl,HT.out,HM.out⟩
       · by_cases k5:k=5
         · subst k5
           by_cases hv:(y.1.v:Int)>1099511627775
           · have hd:P.does y.1=(P,2):=by unfold PC.does;rw [HK.out,if_neg (by decide),if_neg (by decide),if_neg (by decide),if_neg (by decide),if_pos rfl,if_neg (by omega)]
             have HD:=Lib.hid hd
             clear hd k0 k2 k3 k4
             go_enter Tryz.func20,Tryz.ntmps20
             go_upto_region 1 with fail
             simp only [hw1] at*
             clear hw1
             go_wp2
             go_ret
             rw [HD.out]
             exact ⟨rfl,H1.out,HOF.out⟩
           · have hd:P.does y.1=({P with num:=y.1.v},0):=by unfold PC.does;rw [HK.out,if_neg (by decide),if_neg (by decide),if_neg (by decide),if_neg (by decide),if_pos rfl,if_pos (by omega)]
             have HD:=Lib.hid hd
             have hn:=H1.out.numbered y.1.v
             have HT:=Lib.hid hn.1
             have HM:=Lib.hid (HA.out _ hn.2)
             have c2:=H1.out.c2
             have g2:w1.frozen? ⟨X.c,2,none⟩=false:=free_of H1.out.blk
             clear hd k0 k2 k3 k4 hn
             go_enter Tryz.func20,Tryz.ntmps20
             go_upto_region 1 with fail
             simp only [hw1] at*
             clear hw1
             go_wp2
             go_ret
             rw [HD.out]
             exact ⟨rfl,HT.out,HM.out⟩
         · have hd:P.does y.1=(P,0):=by unfold PC.does;rw [HK.out,if_neg k0,if_neg k2,if_neg k3,if_neg k4,if_neg k5]
           have HD:=Lib.hid hd
           clear hd q9
           go_enter Tryz.func20,Tryz.ntmps20
           go_upto_region 1 with fail
           simp only [hw1] at*
           clear hw1
           go_wp2
           go_ret
           rw [HD.out]
           exact ⟨rfl,H1.out,HOF.out⟩
end
theorem aggZSl (x:Slt):AggZ Tryz.prog 42 (slC x).size:=by
 refine ⟨aggSl x,?_⟩
 have h:=elSl.info
 have e:(slC x).size=7:=rfl
 rw [e]
 cases hq:Tryz.prog.info? 42 with
 | none=>simp [hq] at h
 | some i=>
   cases hz:i.zero with
   | none=>simp [hq,hz] at h
   | some z=>simp [hq,hz] at h;exact ⟨i,z,rfl,hz,h.1⟩
section
variable {w w':World}
set_option maxRecDepth 20000 in
set_option maxHeartbeats 8000000 in
theorem xplain_any {v:Value} {xs:List Slt} (h:LSl enSl 7 w v xs) (hl:xs.length≤64):Calls Tryz.prog 24 #[v] w fun e w'=> ∃v',e= .returned v'∧LOut enSl 7 38 w.heap.size w' v' xs∧Below w.heap.size w w':=by
 have hsl:=h
 obtain ⟨ao,cap,rfl,hl1,hl2,hvc⟩:=h
 have HSL:=Lib.hid hsl
 clear hsl hvc
 go_enter Tryz.func24,Tryz.ntmps24
 go_wp2
 go_loopw [3,4] (fun ov iv wi=> ∃k:Nat,k≤xs.length∧iv= .int .i64 k∧Below w.heap.size w wi∧LOut enSl 7 38 w.heap.size wi ov (xs.take k)) (fun _ iv _=>xs.length-(intOf iv).toNat)
 case atStart=>exact ⟨0,Nat.zero_le _,rfl,Below.refl _ _,LOut.nil (Nat.le_refl _)⟩
 case round=>
   obtain ⟨k,hk,rfl,hb,hO⟩:=hrel
   have HB:=Lib.hid hb
   have HO:=Lib.hid hO
   clear hb hO
   by_cases hkl:k<xs.length
   · have hkl':(k:Int)<(xs.length:Int):=by omega
     have hgp:xs[k]?=some xs[k]:=List.getElem?_eq_getElem hkl
     obtain ⟨b5,o5,cap6,hveq,hb5,hco⟩:=HSL.out.at_ hgp
     obtain ⟨rfl,rfl⟩:ao=some ⟨b5,o5,none⟩∧cap=cap6:=by simpa using hveq
     have htk:xs.take (k+1)=xs.take k++ [xs[k]]:=by
       rw [List.take_add_one,hgp]
       rfl
     generalize xs[k]=y at*
     have hco2:Lies w b5 (o5+k*7) (slC y):=hco
     have hLy:Lies wr b5 (o5+k*7) (slC y):=hco2.below' HB.out hb5
     have hagy:=aggSl y
     have hazy:=aggZSl y
     have hony:=oneSl y
     have HTK:=Lib.hid htk
     obtain ⟨a3,n3,c3,rfl⟩:=HO.out.shape
     have hol:(xs.take k).length≤1000000000:=by rw [List.length_take];omega
     clear hveq hgp hco hco2 htk
     go_upto_region 6 with (first
       | ((with_reducible refine wpList_loadA hagy hLy ?_ ?_);rfl;go_frame)
       | ((refine wpList_allocStore hazy hony ?_ ?_ ?_ ?_);go_simp;decide;go_simp;go_frame)
       | fail)
     obtain ⟨w5,hw5⟩: ∃w5,wr.alloc (.cells (slC y) 42)=w5:=⟨_,rfl⟩
     have hb5':Below wr.heap.size wr w5:=by rw [←hw5];exact (Below.refl _ _).alloc (Nat.le_refl _) _
     have hx5:w5.heap[wr.heap.size]?=some (.cells (slC y) 42 (0,0)):=by rw [←hw5];exact heap_alloc_at
     simp only [hw5] at*
     clear hw5
     have d0:w5.cell? ⟨wr.heap.size,0,none⟩=some (.bool y.used):=cell_of hx5 rfl
     have d1:w5.cell? ⟨wr.heap.size,1,none⟩=some (.int .i64 y.blk.1):=cell_of hx5 rfl
     have d2:w5.cell? ⟨wr.heap.size,2,none⟩=some (.int .i64 y.blk.2.1):=cell_of hx5 rfl
     have d3:w5.cell? ⟨wr.heap.size,3,none⟩=some (.int .i64 y.blk.2.2):=cell_of hx5 rfl
     have d4:w5.cell? ⟨wr.heap.size,4,none⟩=some (.int .u64 (y.ver:Nat)):=cell_of hx5 rfl
     have d5:w5.cell? ⟨wr.heap.size,5,none⟩=some (.bool y.dirty):=cell_of hx5 rfl
     have d6:w5.cell? ⟨wr.heap.size,6,none⟩=some (.string y.data):=cell_of hx5 rfl
     have hO5:=lout_below HO.out hb5'
     have hbt:Tryz.prog.built 38 [(0, .bool y.used),(1, .agg #[.int .i64 y.blk.1, .int .i64 y.blk.2.1, .int .i64 y.blk.2.2]),(2, .int .u64 (y.ver:Nat)),(3, .bool y.dirty),(4, .string y.data)]=some (slC y):=built_xlt y.used y.blk.1 y.blk.2.1 y.blk.2.2 y.ver y.dirty y.data
     have HB5:=Lib.hid hb5'
     clear hb5' hx5 hLy hagy hazy
     go_wp2_with (first
       | ((with_reducible refine wpList_exec rfl (exec_buildA (vals:= [(0, .bool y.used),(1, .agg #[.int .i64 y.blk.1, .int .i64 y.blk.2.1, .int .i64 y.blk.2.2]),(2, .int .u64 (y.ver:Nat)),(3, .bool y.dirty),(4, .string y.data)]) ?_ hbt) ?_);rfl;go_frame)
       | ((with_reducible refine wpList_exec rfl (exec_buildSliceA (k:=7) (cells:=slC y) Tryz.underlying60 (by kernel_rfl) (by omega) (by omega) rfl ?_) ?_);rfl;go_frame)
       | ((with_reducible refine wpList_append1Y elXs hO5 y hol ?_ ?_ ?_ ?_);rfl;rfl;rfl;(intro v9 w9 hO9 hm9 hv9;have HO9:=Lib.hid hO9;have HM9:=Lib.hid hm9;clear hO9 hm9 hv9);go_frame)
       | fail)
     have hO9:=HO9.out
     rw [←HTK.out] at hO9
     have hb9:Below w.heap.size w w9:=(HB.out.trans (HB5.out.mono HB.out.size)).trans (HM9.out.below (Nat.le_trans HB.out.size HB5.out.size) fun x hx e=>by have:=HO.out.lo x e;omega)
     have HOF:=Lib.hid hO9
     have HBF:=Lib.hid hb9
     clear hO9 hb9 hO5 hbt
     go_roundw
     case rel=>exact ⟨k+1,by omega,by go_num,HBF.out,HOF.out⟩
     case measure=>simp [intOf];omega
   · obtain rfl:k=xs.length:=by omega
     have hO:=HO.out
     rw [List.take_length] at hO
     have HOF:=Lib.hid hO
     clear hO hk hkl
     go_wp2
     go_ret
     exact ⟨_,rfl,HOF.out,HB.out⟩
end
end Go.Proofs.YtldimgchpgoggaaGreat
