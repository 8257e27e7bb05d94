import Derived.Test.YtldimgchpgoggaaGreatMgKpt36
namespace Go.Proofs.YtldimgchpgoggaaGreat
open Go.RowKit Go.Tn Go.Tn.Bt Go.Tn.Lp Go.Tn.Dk Go.Tn.Ino Go.Tn.Slo Go.Tn.Ck Go.Tn.Pc
def enPl (p:Pl):List Value:= [.bool p.used, .bool p.pinned, .bool p.marked]
def plC (p:Pl):Array Value:= #[.bool p.used, .bool p.pinned, .bool p.marked]
def placesC (L:List Pl):Array Value:=(L.flatMap enPl).toArray
def xringC (pb:Nat) (R:Rn):Array Value:= #[.slice (some ⟨pb,0,none⟩) R.L.length R.L.length, .int .i64 (R.hand:Nat)]
theorem aggPl (p:Pl):AggT Tryz.prog 127 (plC p).size:=⟨⟨_,Tryz.underlying127,rfl⟩,by kernel_rfl⟩
theorem onePl (p:Pl):(plC p).all (·.oneCell')=true:=by unfold plC;simp [Value.oneCell']
structure XRAt (w:World) (rb pb:Nat) (R:Rn):Prop where
 blk:w.heap[rb]?=some (.cells (xringC pb R) 125 (0,0))
 pl:w.heap[pb]?=some (.cells (placesC R.L) 127 (0,0))
 ne:rb≠pb
 lo:1≤R.L.length
 hi:R.L.length≤64
 hand:R.hand<R.L.length
section
variable {w w':World} {rb pb:Nat} {R:Rn}
theorem XRAt.below (h:XRAt w rb pb R) (hb:Below w.heap.size w w'):XRAt w' rb pb R:=⟨(hb.block rb (lt_of_block h.blk)).trans h.blk,(hb.block pb (lt_of_block h.pl)).trans h.pl,h.ne,h.lo,h.hi,h.hand⟩
theorem XRAt.mod {S:Nat→Prop} (h:XRAt w rb pb R) (hm:Mod S w w') (h1:¬ S rb) (h2:¬ S pb):XRAt w' rb pb R:=⟨hm.heap h.blk h1,hm.heap h.pl h2,h.ne,h.lo,h.hi,h.hand⟩
theorem XRAt.c0 (h:XRAt w rb pb R):w.cell? ⟨rb,0,none⟩=some (.slice (some ⟨pb,0,none⟩) R.L.length R.L.length):=cell_of h.blk rfl
theorem XRAt.c1 (h:XRAt w rb pb R):w.cell? ⟨rb,1,none⟩=some (.int .i64 (R.hand:Nat)):=cell_of h.blk rfl
theorem rn_get {i:Nat} (h:i<R.L.length):R.L[i]?=some (R.at_ i):=by
 unfold Rn.at_
 rw [List.getElem?_eq_getElem h]
 rfl
theorem places_size (L:List Pl):(placesC L).size=L.length*3:=by simp [placesC,len_flatMap (en:=enPl) (k:=3) (fun _=>rfl)]
theorem places_get {L:List Pl} {i:Nat} {x:Pl} (h:L[i]?=some x) {j:Nat} (hj:j<3):(placesC L)[i*3+j]?=(enPl x)[j]?:=by
 unfold placesC
 rw [List.getElem?_toArray,get_flatMap (en:=enPl) (k:=3) (fun _=>rfl) _ _ _ _ h hj]
theorem XRAt.lies (h:XRAt w rb pb R) {i:Nat} (hi:i<R.L.length):Lies w pb (i*3) (plC (R.at_ i)):=fun j hj=>by
 have hj3:j<3:=hj
 refine cell_of h.pl ?_
 rw [places_get (rn_get hi) hj3]
 match j,hj3 with
 |0,_=>rfl
 |1,_=>rfl
 |2,_=>rfl
theorem places_set {L:List Pl} {i:Nat} (hi:i<L.length) (x:Pl):setMany (placesC L) (i*3) (plC x).toList=placesC (L.set i x):=by
 apply Array.ext_getElem?
 intro j
 by_cases hj:j<(placesC L).size
 · rw [setMany_get _ _ _ _ hj]
   have hz:=places_size L
   have hq:j/3<L.length:=by omega
   have hlx:(plC x).toList.length=3:=rfl
   by_cases h1:i*3≤j∧j<i*3+(plC x).toList.length
   · rw [if_pos h1]
     rw [hlx] at h1
     obtain ⟨k,rfl⟩: ∃k,j=i*3+k:=⟨j-i*3,by omega⟩
     rw [places_get (L:=L.set i x) (i:=i) (x:=x) (by rw [List.getElem?_set,if_pos rfl,if_pos hi]) (by omega),Nat.add_sub_cancel_left]
     rfl
   · rw [if_neg h1]
     rw [hlx] at h1
     have hji:i≠j/3:=by omega
     have e:j=(j/3)*3+j %3:=by omega
     rw [e,places_get (L:=L) (i:=j/3) (x:=L[j/3]) (List.getElem?_eq_getElem hq) (Nat.mod_lt _ (by decide)),
       places_get (L:=L.set i x) (i:=j/3) (x:=L[j/3]) (by rw [List.getElem?_set,if_neg hji];exact List.getElem?_eq_getElem hq) (Nat.mod_lt _ (by decide))]
 · rw [Array.getElem?_eq_none (by rw [setMany_size];omega),Array.getElem?_eq_none (by rw [places_size,List.length_set, ←places_size L];omega)]
theorem XRAt.put (h:XRAt w rb pb R) {i:Nat} (p:Pl) {w9:World} (hp:w9.heap[pb]?=some (.cells (placesC (R.L.set i p)) 127 (0,0))) (hm:Mod (fun b=>b=pb) w w9):XRAt w9 rb pb (R.put i p):=by
 have hl:(R.put i p).L.length=R.L.length:=by unfold Rn.put;simp
 refine ⟨?_,hp,h.ne,by rw [hl];exact h.lo,by rw [hl];exact h.hi,by rw [hl];exact h.hand⟩
 rw [hm.heap h.blk h.ne]
 unfold xringC
 rw [hl]
 rfl
set_option maxRecDepth 20000 in
set_option maxHeartbeats 4000000 in
theorem xdo_0 (h:XRAt w rb pb R) (i:Nat) (hi:i<R.L.length):Calls Tryz.prog 54 #[.pointer (some ⟨rb,0,none⟩), .int .i64 0, .int .i64 i] w fun e w'=>e= .returned (.int .i64 0)∧XRAt w' rb pb (R.use i)∧Mod (fun b=>b=pb) w w':=by
 obtain ⟨w1,hw1⟩: ∃w1,w.alloc (.cells (plC (R.at_ i)) 127)=w1:=⟨_,rfl⟩
 have hb1:Below w.heap.size w w1:=by rw [←hw1];exact (Below.refl _ _).alloc (Nat.le_refl _) _
 have hX:w1.heap[w.heap.size]?=some (.cells (plC (R.at_ i)) 127 (0,0)):=by rw [←hw1];exact heap_alloc_at
 have hLi:=h.lies hi
 have hres:R.use i=R.put i ⟨true,false,true⟩:=by rfl
 have h1:=h.below hb1
 obtain ⟨p,hp⟩: ∃p,R.at_ i=p:=⟨_,rfl⟩
 obtain ⟨n,hn⟩: ∃n,R.L.length=n:=⟨_,rfl⟩
 have c0:=h.c0
 have hag:=aggPl p
 have hon:=onePl p
 have hi':i<n:=by omega
 have hi63:(i:Int)<(n:Int):=by omega
 have hi0:¬ (i:Int)<0:=by omega
 have hi1:¬ (n:Int)≤(i:Int):=by omega
 have hn64:n≤64:=by have:=h.hi;omega
 have hpl:=lt_of_block h.pl
 rw [hp] at hX hLi hw1
 rw [hn] at c0
 have HH:=Lib.hid h
 have H1:=Lib.hid h1
 have HX:=Lib.hid hX
 have HB1:=Lib.hid hb1
 have HN:=Lib.hid hn
 have HP:=Lib.hid hp
 have HPL:=Lib.hid hpl
 have HRES:=Lib.hid hres
 have hbn:Tryz.prog.built 127 [(0, .bool true),(1, .bool false),(2, .bool true)]=some (plC ⟨true,false,true⟩):=by kernel_rfl
 have hbz:Tryz.prog.built 127 []=some (plC Pl.no):=by kernel_rfl
 clear h hb1 hX h1 hn hp hpl hres hi
 go_enter Tryz.func54,Tryz.ntmps54
 go_upto_region 4 with (first
   |((with_reducible refine wpList_loadA hag hLi ?_ ?_);rfl;go_frame)
   |((with_reducible refine wpList_storeA_new hag ?_ hon ?_ ?_ ?_);rfl;rfl;rfl;go_frame)
   |fail)
 simp only [hw1] at*
 clear hw1 hLi c0
 have hagq:=aggPl ⟨true,false,true⟩
 have honq:=onePl ⟨true,false,true⟩
 have hX1:=HX.out
 go_upto_region 16 with (first
   |((with_reducible refine wpList_exec rfl (exec_buildA (vals:= [(0, .bool true),(1, .bool false),(2, .bool true)]) ?_ hbn) ?_);rfl;go_frame)
   |((with_reducible refine wpList_storeB (cs:=plC ⟨true,false,true⟩) hagq ?_ ?_ hX1 rfl honq ?_);rfl;rfl;(intro w9 hh9 hm9;have HH9:=Lib.hid hh9;have HM9:=Lib.hid hm9;clear hh9 hm9);go_frame)
   |fail)
 clear hX1 hbn hbz
 have hb9:Below w.heap.size w w9:=HB1.out.trans (HM9.out.below HB1.out.size fun y hy e=>by have e:y=w.heap.size:=e;omega)
 have h9:=HH.out.below hb9
 have hLq:=lies_of HH9.out
 have hagq:=aggPl ⟨true,false,true⟩
 have honq:=onePl ⟨true,false,true⟩
 have c9:w9.drew.cell? ⟨rb,0,none⟩=some (.slice (some ⟨pb,0,none⟩) n n):=by rw [←HN.out];exact h9.c0
 have hS:w9.drew.cell? ⟨rb,0,none⟩=some (.slice (some ⟨pb,0,none⟩) n n)∧Lies w9.drew w.heap.size 0 (plC ⟨true,false,true⟩):=⟨c9,hLq⟩
 have hst:=fun (ρ:Operand→Value) (ty:TypeId) (pos:String) (after:Array Edge) (x' y':Operand) (hx':ρ x'= .pointer (some ⟨pb,i*3,none⟩)) (hy':ρ y'= .agg (plC ⟨true,false,true⟩))=>
   exec_storeA (P:=Tryz.prog) (dst:=none) (g:=none) (ty:=ty) (pos:=pos) (after:=after) (w:=w9.drew) hagq hx' hy' h9.pl (by rw [places_size,HN.out];show i*3+3≤n*3;omega) (fun v hv=>by rw [Array.all_eq_true'] at honq;exact honq v (by simpa using hv))
 have hs5:=heap_setCells_at (plC ⟨true,false,true⟩).toList (i*3) w9.drew (placesC R.L) h9.pl
 rw [places_set (by rw [HN.out];exact hi')] at hs5
 have hm5:Mod (fun b=>b=pb) w9 _:=Mod.setCells (S:=fun b=>b=pb) (fun _=>rfl) (plC ⟨true,false,true⟩).toList (i*3) w9.drew ((Mod.refl _ w9).drew)
 refine wp_region_x (fun w'=>w'.cell? ⟨rb,0,none⟩=some (.slice (some ⟨pb,0,none⟩) n n)∧Lies w' w.heap.size 0 (plC ⟨true,false,true⟩)) [(0,1),(1,1),(2,1),(3,0),(4,1),(5,0),(6,1),(7,3)] (by kernel_rfl) (by kernel_rfl) (by intro d v c a w h;cases d<;>exact h) ?_
 iterate 3 (refine x_take rfl (fun K hK=> ?_);go_simp;refine hK _ ?_;clear hK K)
 refine x_read rfl hS (fun w' h=>exec_load1 ⟨⟨_,Tryz.underlying123,rfl⟩⟩ rfl h.1) ?_
 iterate 1 (refine x_take rfl (fun K hK=> ?_);go_simp;refine hK _ ?_;clear hK K)
 refine x_read rfl hS (fun w' h=>exec_loadA hagq rfl h.2) ?_
 iterate 1 (refine x_take rfl (fun K hK=> ?_);go_simp;refine hK _ ?_;clear hK K)
 refine x_skip rfl (hst _ _ _ _ _ _ rfl rfl) ?_
 refine x_nil ?_
 have h10:=h9.put (i:=i) ⟨true,false,true⟩ hs5 hm5
 have hm10:Mod (fun b=>b=pb) w _:=((Mod.of_below hb9).mono (T:=fun b=>b=pb) fun b hb hs=>absurd hb (Nat.not_lt.2 hs)).trans hm5 (fun _ h=>h) (fun _ _ h=>h)
 have HR:=Lib.hid h10
 have HM:=Lib.hid hm10
 clear hS hst hs5 hm5 h9 hLq c9 h10 hm10 hb9 honq hagq
 generalize w9.drew.setCells pb (i*3) (plC ⟨true,false,true⟩).toList=w10 at*
 go_wp2
 go_ret
 rw [HRES.out]
 exact ⟨rfl,HR.out,HM.out⟩
set_option maxRecDepth 20000 in
set_option maxHeartbeats 4000000 in
theorem xdo_1 (h:XRAt w rb pb R) (i:Nat) (hi:i<R.L.length):Calls Tryz.prog 54 #[.pointer (some ⟨rb,0,none⟩), .int .i64 1, .int .i64 i] w fun e w'=>e= .returned (.int .i64 0)∧XRAt w' rb pb (R.drop i)∧Mod (fun b=>b=pb) w w':=by
 obtain ⟨w1,hw1⟩: ∃w1,w.alloc (.cells (plC (R.at_ i)) 127)=w1:=⟨_,rfl⟩
 have hb1:Below w.heap.size w w1:=by rw [←hw1];exact (Below.refl _ _).alloc (Nat.le_refl _) _
 have hX:w1.heap[w.heap.size]?=some (.cells (plC (R.at_ i)) 127 (0,0)):=by rw [←hw1];exact heap_alloc_at
 have hLi:=h.lies hi
 have hres:R.drop i=R.put i Pl.no:=by rfl
 have h1:=h.below hb1
 obtain ⟨p,hp⟩: ∃p,R.at_ i=p:=⟨_,rfl⟩
 obtain ⟨n,hn⟩: ∃n,R.L.length=n:=⟨_,rfl⟩
 have c0:=h.c0
 have hag:=aggPl p
 have hon:=onePl p
 have hi':i<n:=by omega
 have hi63:(i:Int)<(n:Int):=by omega
 have hi0:¬ (i:Int)<0:=by omega
 have hi1:¬ (n:Int)≤(i:Int):=by omega
 have hn64:n≤64:=by have:=h.hi;omega
 have hpl:=lt_of_block h.pl
 rw [hp] at hX hLi hw1
 rw [hn] at c0
 have HH:=Lib.hid h
 have H1:=Lib.hid h1
 have HX:=Lib.hid hX
 have HB1:=Lib.hid hb1
 have HN:=Lib.hid hn
 have HP:=Lib.hid hp
 have HPL:=Lib.hid hpl
 have HRES:=Lib.hid hres
 have hbn:Tryz.prog.built 127 [(0, .bool true),(1, .bool false),(2, .bool true)]=some (plC ⟨true,false,true⟩):=by kernel_rfl
 have hbz:Tryz.prog.built 127 []=some (plC Pl.no):=by kernel_rfl
 clear h hb1 hX h1 hn hp hpl hres hi
 go_enter Tryz.func54,Tryz.ntmps54
 go_upto_region 4 with (first
   |((with_reducible refine wpList_loadA hag hLi ?_ ?_);rfl;go_frame)
   |((with_reducible refine wpList_storeA_new hag ?_ hon ?_ ?_ ?_);rfl;rfl;rfl;go_frame)
   |fail)
 simp only [hw1] at*
 clear hw1 hLi c0
 have hagq:=aggPl Pl.no
 have honq:=onePl Pl.no
 have hX1:=HX.out
 go_upto_region 16 with (first
   |((with_reducible refine wpList_exec rfl (exec_buildA (vals:= []) ?_ hbz) ?_);rfl;go_frame)
   |((with_reducible refine wpList_storeB (cs:=plC Pl.no) hagq ?_ ?_ hX1 rfl honq ?_);rfl;rfl;(intro w9 hh9 hm9;have HH9:=Lib.hid hh9;have HM9:=Lib.hid hm9;clear hh9 hm9);go_frame)
   |fail)
 clear hX1 hbn hbz
 have hb9:Below w.heap.size w w9:=HB1.out.trans (HM9.out.below HB1.out.size fun y hy e=>by have e:y=w.heap.size:=e;omega)
 have h9:=HH.out.below hb9
 have hLq:=lies_of HH9.out
 have hagq:=aggPl Pl.no
 have honq:=onePl Pl.no
 have c9:w9.drew.cell? ⟨rb,0,none⟩=some (.slice (some ⟨pb,0,none⟩) n n):=by rw [←HN.out];exact h9.c0
 have hS:w9.drew.cell? ⟨rb,0,none⟩=some (.slice (some ⟨pb,0,none⟩) n n)∧Lies w9.drew w.heap.size 0 (plC Pl.no):=⟨c9,hLq⟩
 have hst:=fun (ρ:Operand→Value) (ty:TypeId) (pos:String) (after:Array Edge) (x' y':Operand) (hx':ρ x'= .pointer (some ⟨pb,i*3,none⟩)) (hy':ρ y'= .agg (plC Pl.no))=>
   exec_storeA (P:=Tryz.prog) (dst:=none) (g:=none) (ty:=ty) (pos:=pos) (after:=after) (w:=w9.drew) hagq hx' hy' h9.pl (by rw [places_size,HN.out];show i*3+3≤n*3;omega) (fun v hv=>by rw [Array.all_eq_true'] at honq;exact honq v (by simpa using hv))
 have hs5:=heap_setCells_at (plC Pl.no).toList (i*3) w9.drew (placesC R.L) h9.pl
 rw [places_set (by rw [HN.out];exact hi')] at hs5
 have hm5:Mod (fun b=>b=pb) w9 _:=Mod.setCells (S:=fun b=>b=pb) (fun _=>rfl) (plC Pl.no).toList (i*3) w9.drew ((Mod.refl _ w9).drew)
 refine wp_region_x (fun w'=>w'.cell? ⟨rb,0,none⟩=some (.slice (some ⟨pb,0,none⟩) n n)∧Lies w' w.heap.size 0 (plC Pl.no)) [(0,1),(1,1),(2,1),(3,0),(4,1),(5,0),(6,1),(7,3)] (by kernel_rfl) (by kernel_rfl) (by intro d v c a w h;cases d<;>exact h) ?_
 iterate 3 (refine x_take rfl (fun K hK=> ?_);go_simp;refine hK _ ?_;clear hK K)
 refine x_read rfl hS (fun w' h=>exec_load1 ⟨⟨_,Tryz.underlying123,rfl⟩⟩ rfl h.1) ?_
 iterate 1 (refine x_take rfl (fun K hK=> ?_);go_simp;refine hK _ ?_;clear hK K)
 refine x_read rfl hS (fun w' h=>exec_loadA hagq rfl h.2) ?_
 iterate 1 (refine x_take rfl (fun K hK=> ?_);go_simp;refine hK _ ?_;clear hK K)
 refine x_skip rfl (hst _ _ _ _ _ _ rfl rfl) ?_
 refine x_nil ?_
 have h10:=h9.put (i:=i) Pl.no hs5 hm5
 have hm10:Mod (fun b=>b=pb) w _:=((Mod.of_below hb9).mono (T:=fun b=>b=pb) fun b hb hs=>absurd hb (Nat.not_lt.2 hs)).trans hm5 (fun _ h=>h) (fun _ _ h=>h)
 have HR:=Lib.hid h10
 have HM:=Lib.hid hm10
 clear hS hst hs5 hm5 h9 hLq c9 h10 hm10 hb9 honq hagq
 generalize w9.drew.setCells pb (i*3) (plC Pl.no).toList=w10 at*
 go_wp2
 go_ret
 rw [HRES.out]
 exact ⟨rfl,HR.out,HM.out⟩
set_option maxRecDepth 20000 in
set_option maxHeartbeats 4000000 in
theorem xdo_2 (h:XRAt w rb pb R) (i:Nat) (hi:i<R.L.length) (hu:(R.at_ i).used=true):Calls Tryz.prog 54 #[.pointer (some ⟨rb,0,none⟩), .int .i64 2, .int .i64 i] w fun e w'=>e= .returned (.int .i64 0)∧XRAt w' rb pb (R.touch i)∧Mod (fun b=>b=pb) w w':=by
 obtain ⟨w1,hw1⟩: ∃w1,w.alloc (.cells (plC (R.at_ i)) 127)=w1:=⟨_,rfl⟩
 have hb1:Below w.heap.size w w1:=by rw [←hw1];exact (Below.refl _ _).alloc (Nat.le_refl _) _
 have hX:w1.heap[w.heap.size]?=some (.cells (plC (R.at_ i)) 127 (0,0)):=by rw [←hw1];exact heap_alloc_at
 have hLi:=h.lies hi
 have hres:R.touch i=R.put i {R.at_ i with marked:=true}:=by unfold Rn.touch;rw [if_pos hu]
 have h1:=h.below hb1
 obtain ⟨p,hp⟩: ∃p,R.at_ i=p:=⟨_,rfl⟩
 obtain ⟨n,hn⟩: ∃n,R.L.length=n:=⟨_,rfl⟩
 have c0:=h.c0
 have hag:=aggPl p
 have hon:=onePl p
 have hi':i<n:=by omega
 have hi63:(i:Int)<(n:Int):=by omega
 have hi0:¬ (i:Int)<0:=by omega
 have hi1:¬ (n:Int)≤(i:Int):=by omega
 have hn64:n≤64:=by have:=h.hi;omega
 have hpl:=lt_of_block h.pl
 rw [hp] at hX hLi hw1 hu hres
 rw [hn] at c0
 have HH:=Lib.hid h
 have H1:=Lib.hid h1
 have HX:=Lib.hid hX
 have HB1:=Lib.hid hb1
 have HN:=Lib.hid hn
 have HP:=Lib.hid hp
 have HPL:=Lib.hid hpl
 have HRES:=Lib.hid hres
 have hbn:Tryz.prog.built 127 [(0, .bool true),(1, .bool false),(2, .bool true)]=some (plC ⟨true,false,true⟩):=by kernel_rfl
 have hbz:Tryz.prog.built 127 []=some (plC Pl.no):=by kernel_rfl
 clear h hb1 hX h1 hn hp hpl hres hi
 go_enter Tryz.func54,Tryz.ntmps54
 go_upto_region 4 with (first
   |((with_reducible refine wpList_loadA hag hLi ?_ ?_);rfl;go_frame)
   |((with_reducible refine wpList_storeA_new hag ?_ hon ?_ ?_ ?_);rfl;rfl;rfl;go_frame)
   |fail)
 simp only [hw1] at*
 clear hw1 hLi c0
 have u0:w1.cell? ⟨w.heap.size,0,none⟩=some (.bool true):=by rw [←hu];exact cell_of HX.out rfl
 have u1:w1.cell? ⟨w.heap.size,1,none⟩=some (.bool p.pinned):=cell_of HX.out rfl
 have u2:w1.cell? ⟨w.heap.size,2,none⟩=some (.bool p.marked):=cell_of HX.out rfl
 have f2:w1.frozen? ⟨w.heap.size,2,none⟩=false:=free_of HX.out
 obtain ⟨pm,hpm⟩: ∃b,p.marked=b:=⟨_,rfl⟩
 obtain ⟨pp,hpp⟩: ∃b,p.pinned=b:=⟨_,rfl⟩
 rw [hpm] at u2
 rw [hpp] at u1
 have HPM:=Lib.hid hpm
 have HPP:=Lib.hid hpp
 clear hpm hpp hbn hbz hu
 cases pm
 · cases pp
   · go_upto_region 15 with fail
     have hm2:=(Mod.refl (fun b=>b=w.heap.size) w1).setCell ⟨w.heap.size,2,none⟩ (.bool true) (fun _=>rfl)
     have hX2:(w1.setCell ⟨w.heap.size,2,none⟩ (.bool true)).heap[w.heap.size]?=some (.cells (plC {p with marked:=true}) 127 (0,0)):=by
       rw [heap_setCell_at HX.out]
       rfl
     have u1':(w1.setCell ⟨w.heap.size,2,none⟩ (.bool true)).cell? ⟨w.heap.size,1,none⟩=some (.bool false):=by
       have:=cell_of (o:=1) (v:= .bool p.pinned) hX2 rfl
       rw [HPP.out] at this
       exact this
     have f1':(w1.setCell ⟨w.heap.size,2,none⟩ (.bool true)).frozen? ⟨w.heap.size,1,none⟩=false:=free_of hX2
     have HM2:=Lib.hid hm2
     have HX2:=Lib.hid hX2
     clear u0 u1 u2 f2 hm2 hX2
     generalize w1.setCell ⟨w.heap.size,2,none⟩ (.bool true)=w2 at*
     go_upto_region 16 with fail
     have hm3:=HM2.out.setCell ⟨w.heap.size,1,none⟩ (.bool false) (fun _=>rfl)
     have hX3:(w2.setCell ⟨w.heap.size,1,none⟩ (.bool false)).heap[w.heap.size]?=some (.cells (plC {p with marked:=true}) 127 (0,0)):=by
       rw [heap_setCell_at HX2.out]
       simp only [plC,HPP.out];rfl
     have HM9:=Lib.hid hm3
     have HH9:=Lib.hid hX3
     clear u1' f1' hm3 hX3
     generalize w2.setCell ⟨w.heap.size,1,none⟩ (.bool false)=w9 at*
     have hb9:Below w.heap.size w w9:=HB1.out.trans (HM9.out.below HB1.out.size fun y hy e=>by have e:y=w.heap.size:=e;omega)
     have h9:=HH.out.below hb9
     have hLq:=lies_of HH9.out
     have hagq:=aggPl {p with marked:=true}
     have honq:=onePl {p with marked:=true}
     have c9:w9.drew.cell? ⟨rb,0,none⟩=some (.slice (some ⟨pb,0,none⟩) n n):=by rw [←HN.out];exact h9.c0
     have hS:w9.drew.cell? ⟨rb,0,none⟩=some (.slice (some ⟨pb,0,none⟩) n n)∧Lies w9.drew w.heap.size 0 (plC {p with marked:=true}):=⟨c9,hLq⟩
     have hst:=fun (ρ:Operand→Value) (ty:TypeId) (pos:String) (after:Array Edge) (x' y':Operand) (hx':ρ x'= .pointer (some ⟨pb,i*3,none⟩)) (hy':ρ y'= .agg (plC {p with marked:=true}))=>
       exec_storeA (P:=Tryz.prog) (dst:=none) (g:=none) (ty:=ty) (pos:=pos) (after:=after) (w:=w9.drew) hagq hx' hy' h9.pl (by rw [places_size,HN.out];show i*3+3≤n*3;omega) (fun v hv=>by rw [Array.all_eq_true'] at honq;exact honq v (by simpa using hv))
     have hs5:=heap_setCells_at (plC {p with marked:=true}).toList (i*3) w9.drew (placesC R.L) h9.pl
     rw [places_set (by rw [HN.out];exact hi')] at hs5
     have hm5:Mod (fun b=>b=pb) w9 _:=Mod.setCells (S:=fun b=>b=pb) (fun _=>rfl) (plC {p with marked:=true}).toList (i*3) w9.drew ((Mod.refl _ w9).drew)
     refine wp_region_x (fun w'=>w'.cell? ⟨rb,0,none⟩=some (.slice (some ⟨pb,0,none⟩) n n)∧Lies w' w.heap.size 0 (plC {p with marked:=true})) [(0,1),(1,1),(2,1),(3,0),(4,1),(5,0),(6,1),(7,3)] (by kernel_rfl) (by kernel_rfl) (by intro d v c a w h;cases d<;>exact h) ?_
     iterate 3 (refine x_take rfl (fun K hK=> ?_);go_simp;refine hK _ ?_;clear hK K)
     refine x_read rfl hS (fun w' h=>exec_load1 ⟨⟨_,Tryz.underlying123,rfl⟩⟩ rfl h.1) ?_
     iterate 1 (refine x_take rfl (fun K hK=> ?_);go_simp;refine hK _ ?_;clear hK K)
     refine x_read rfl hS (fun w' h=>exec_loadA hagq rfl h.2) ?_
     iterate 1 (refine x_take rfl (fun K hK=> ?_);go_simp;refine hK _ ?_;clear hK K)
     refine x_skip rfl (hst _ _ _ _ _ _ rfl rfl) ?_
     refine x_nil ?_
     have h10:=h9.put (i:=i) {p with marked:=true} hs5 hm5
     have hm10:Mod (fun b=>b=pb) w _:=((Mod.of_below hb9).mono (T:=fun b=>b=pb) fun b hb hs=>absurd hb (Nat.not_lt.2 hs)).trans hm5 (fun _ h=>h) (fun _ _ h=>h)
     have HR:=Lib.hid h10
     have HM:=Lib.hid hm10
     clear hS hst hs5 hm5 h9 hLq c9 h10 hm10 hb9 honq hagq
     generalize w9.drew.setCells pb (i*3) (plC {p with marked:=true}).toList=w10 at*
     go_wp2
     go_ret
     rw [HRES.out]
     exact ⟨rfl,HR.out,HM.out⟩
   · go_upto_region 15 with fail
     have hm2:=(Mod.refl (fun b=>b=w.heap.size) w1).setCell ⟨w.heap.size,2,none⟩ (.bool true) (fun _=>rfl)
     have hX2:(w1.setCell ⟨w.heap.size,2,none⟩ (.bool true)).heap[w.heap.size]?=some (.cells (plC {p with marked:=true}) 127 (0,0)):=by
       rw [heap_setCell_at HX.out]
       rfl
     have u1':(w1.setCell ⟨w.heap.size,2,none⟩ (.bool true)).cell? ⟨w.heap.size,1,none⟩=some (.bool true):=by
       have:=cell_of (o:=1) (v:= .bool p.pinned) hX2 rfl
       rw [HPP.out] at this
       exact this
     have f1':(w1.setCell ⟨w.heap.size,2,none⟩ (.bool true)).frozen? ⟨w.heap.size,1,none⟩=false:=free_of hX2
     have HM2:=Lib.hid hm2
     have HX2:=Lib.hid hX2
     clear u0 u1 u2 f2 hm2 hX2
     generalize w1.setCell ⟨w.heap.size,2,none⟩ (.bool true)=w2 at*
     go_upto_region 16 with fail
     have hm3:=HM2.out.setCell ⟨w.heap.size,1,none⟩ (.bool true) (fun _=>rfl)
     have hX3:(w2.setCell ⟨w.heap.size,1,none⟩ (.bool true)).heap[w.heap.size]?=some (.cells (plC {p with marked:=true}) 127 (0,0)):=by
       rw [heap_setCell_at HX2.out]
       simp only [plC,HPP.out];rfl
     have HM9:=Lib.hid hm3
     have HH9:=Lib.hid hX3
     clear u1' f1' hm3 hX3
     generalize w2.setCell ⟨w.heap.size,1,none⟩ (.bool true)=w9 at*
     have hb9:Below w.heap.size w w9:=HB1.out.trans (HM9.out.below HB1.out.size fun y hy e=>by have e:y=w.heap.size:=e;omega)
     have h9:=HH.out.below hb9
     have hLq:=lies_of HH9.out
     have hagq:=aggPl {p with marked:=true}
     have honq:=onePl {p with marked:=true}
     have c9:w9.drew.cell? ⟨rb,0,none⟩=some (.slice (some ⟨pb,0,none⟩) n n):=by rw [←HN.out];exact h9.c0
     have hS:w9.drew.cell? ⟨rb,0,none⟩=some (.slice (some ⟨pb,0,none⟩) n n)∧Lies w9.drew w.heap.size 0 (plC {p with marked:=true}):=⟨c9,hLq⟩
     have hst:=fun (ρ:Operand→Value) (ty:TypeId) (pos:String) (after:Array Edge) (x' y':Operand) (hx':ρ x'= .pointer (some ⟨pb,i*3,none⟩)) (hy':ρ y'= .agg (plC {p with marked:=true}))=>
       exec_storeA (P:=Tryz.prog) (dst:=none) (g:=none) (ty:=ty) (pos:=pos) (after:=after) (w:=w9.drew) hagq hx' hy' h9.pl (by rw [places_size,HN.out];show i*3+3≤n*3;omega) (fun v hv=>by rw [Array.all_eq_true'] at honq;exact honq v (by simpa using hv))
     have hs5:=heap_setCells_at (plC {p with marked:=true}).toList (i*3) w9.drew (placesC R.L) h9.pl
     rw [places_set (by rw [HN.out];exact hi')] at hs5
     have hm5:Mod (fun b=>b=pb) w9 _:=Mod.setCells (S:=fun b=>b=pb) (fun _=>rfl) (plC {p with marked:=true}).toList (i*3) w9.drew ((Mod.refl _ w9).drew)
     refine wp_region_x (fun w'=>w'.cell? ⟨rb,0,none⟩=some (.slice (some ⟨pb,0,none⟩) n n)∧Lies w' w.heap.size 0 (plC {p with marked:=true})) [(0,1),(1,1),(2,1),(3,0),(4,1),(5,0),(6,1),(7,3)] (by kernel_rfl) (by kernel_rfl) (by intro d v c a w h;cases d<;>exact h) ?_
     iterate 3 (refine x_take rfl (fun K hK=> ?_);go_simp;refine hK _ ?_;clear hK K)
     refine x_read rfl hS (fun w' h=>exec_load1 ⟨⟨_,Tryz.underlying123,rfl⟩⟩ rfl h.1) ?_
     iterate 1 (refine x_take rfl (fun K hK=> ?_);go_simp;refine hK _ ?_;clear hK K)
     refine x_read rfl hS (fun w' h=>exec_loadA hagq rfl h.2) ?_
     iterate 1 (refine x_take rfl (fun K hK=> ?_);go_simp;refine hK _ ?_;clear hK K)
     refine x_skip rfl (hst _ _ _ _ _ _ rfl rfl) ?_
     refine x_nil ?_
     have h10:=h9.put (i:=i) {p with marked:=true} hs5 hm5
     have hm10:Mod (fun b=>b=pb) w _:=((Mod.of_below hb9).mono (T:=fun b=>b=pb) fun b hb hs=>absurd hb (Nat.not_lt.2 hs)).trans hm5 (fun _ h=>h) (fun _ _ h=>h)
     have HR:=Lib.hid h10
     have HM:=Lib.hid hm10
     clear hS hst hs5 hm5 h9 hLq c9 h10 hm10 hb9 honq hagq
     generalize w9.drew.setCells pb (i*3) (plC {p with marked:=true}).toList=w10 at*
     go_wp2
     go_ret
     rw [HRES.out]
     exact ⟨rfl,HR.out,HM.out⟩
 · cases pp
   · go_upto_region 15 with fail
     have hm2:=(Mod.refl (fun b=>b=w.heap.size) w1).setCell ⟨w.heap.size,2,none⟩ (.bool true) (fun _=>rfl)
     have hX2:(w1.setCell ⟨w.heap.size,2,none⟩ (.bool true)).heap[w.heap.size]?=some (.cells (plC {p with marked:=true}) 127 (0,0)):=by
       rw [heap_setCell_at HX.out]
       rfl
     have u1':(w1.setCell ⟨w.heap.size,2,none⟩ (.bool true)).cell? ⟨w.heap.size,1,none⟩=some (.bool false):=by
       have:=cell_of (o:=1) (v:= .bool p.pinned) hX2 rfl
       rw [HPP.out] at this
       exact this
     have f1':(w1.setCell ⟨w.heap.size,2,none⟩ (.bool true)).frozen? ⟨w.heap.size,1,none⟩=false:=free_of hX2
     have HM2:=Lib.hid hm2
     have HX2:=Lib.hid hX2
     clear u0 u1 u2 f2 hm2 hX2
     generalize w1.setCell ⟨w.heap.size,2,none⟩ (.bool true)=w2 at*
     go_upto_region 16 with fail
     have hm3:=HM2.out.setCell ⟨w.heap.size,1,none⟩ (.bool false) (fun _=>rfl)
     have hX3:(w2.setCell ⟨w.heap.size,1,none⟩ (.bool false)).heap[w.heap.size]?=some (.cells (plC {p with marked:=true}) 127 (0,0)):=by
       rw [heap_setCell_at HX2.out]
       simp only [plC,HPP.out];rfl
     have HM9:=Lib.hid hm3
     have HH9:=Lib.hid hX3
     clear u1' f1' hm3 hX3
     generalize w2.setCell ⟨w.heap.size,1,none⟩ (.bool false)=w9 at*
     have hb9:Below w.heap.size w w9:=HB1.out.trans (HM9.out.below HB1.out.size fun y hy e=>by have e:y=w.heap.size:=e;omega)
     have h9:=HH.out.below hb9
     have hLq:=lies_of HH9.out
     have hagq:=aggPl {p with marked:=true}
     have honq:=onePl {p with marked:=true}
     have c9:w9.drew.cell? ⟨rb,0,none⟩=some (.slice (some ⟨pb,0,none⟩) n n):=by rw [←HN.out];exact h9.c0
     have hS:w9.drew.cell? ⟨rb,0,none⟩=some (.slice (some ⟨pb,0,none⟩) n n)∧Lies w9.drew w.heap.size 0 (plC {p with marked:=true}):=⟨c9,hLq⟩
     have hst:=fun (ρ:Operand→Value) (ty:TypeId) (pos:String) (after:Array Edge) (x' y':Operand) (hx':ρ x'= .pointer (some ⟨pb,i*3,none⟩)) (hy':ρ y'= .agg (plC {p with marked:=true}))=>
       exec_storeA (P:=Tryz.prog) (dst:=none) (g:=none) (ty:=ty) (pos:=pos) (after:=after) (w:=w9.drew) hagq hx' hy' h9.pl (by rw [places_size,HN.out];show i*3+3≤n*3;omega) (fun v hv=>by rw [Array.all_eq_true'] at honq;exact honq v (by simpa using hv))
     have hs5:=heap_setCells_at (plC {p with marked:=true}).toList (i*3) w9.drew (placesC R.L) h9.pl
     rw [places_set (by rw [HN.out];exact hi')] at hs5
     have hm5:Mod (fun b=>b=pb) w9 _:=Mod.setCells (S:=fun b=>b=pb) (fun _=>rfl) (plC {p with marked:=true}).toList (i*3) w9.drew ((Mod.refl _ w9).drew)
     refine wp_region_x (fun w'=>w'.cell? ⟨rb,0,none⟩=some (.slice (some ⟨pb,0,none⟩) n n)∧Lies w' w.heap.size 0 (plC {p with marked:=true})) [(0,1),(1,1),(2,1),(3,0),(4,1),(5,0),(6,1),(7,3)] (by kernel_rfl) (by kernel_rfl) (by intro d v c a w h;cases d<;>exact h) ?_
     iterate 3 (refine x_take rfl (fun K hK=> ?_);go_simp;refine hK _ ?_;clear hK K)
     refine x_read rfl hS (fun w' h=>exec_load1 ⟨⟨_,Tryz.underlying123,rfl⟩⟩ rfl h.1) ?_
     iterate 1 (refine x_take rfl (fun K hK=> ?_);go_simp;refine hK _ ?_;clear hK K)
     refine x_read rfl hS (fun w' h=>exec_loadA hagq rfl h.2) ?_
     iterate 1 (refine x_take rfl (fun K hK=> ?_);go_simp;refine hK _ ?_;clear hK K)
     refine x_skip rfl (hst _ _ _ _ _ _ rfl rfl) ?_
     refine x_nil ?_
     have h10:=h9.put (i:=i) {p with marked:=true} hs5 hm5
     have hm10:Mod (fun b=>b=pb) w _:=((Mod.of_below hb9).mono (T:=fun b=>b=pb) fun b hb hs=>absurd hb (Nat.not_lt.2 hs)).trans hm5 (fun _ h=>h) (fun _ _ h=>h)
     have HR:=Lib.hid h10
     have HM:=Lib.hid hm10
     clear hS hst hs5 hm5 h9 hLq c9 h10 hm10 hb9 honq hagq
     generalize w9.drew.setCells pb (i*3) (plC {p with marked:=true}).toList=w10 at*
     go_wp2
     go_ret
     rw [HRES.out]
     exact ⟨rfl,HR.out,HM.out⟩
   · go_upto_region 15 with fail
     have hm2:=(Mod.refl (fun b=>b=w.heap.size) w1).setCell ⟨w.heap.size,2,none⟩ (.bool true) (fun _=>rfl)
     have hX2:(w1.setCell ⟨w.heap.size,2,none⟩ (.bool true)).heap[w.heap.size]?=some (.cells (plC {p with marked:=true}) 127 (0,0)):=by
       rw [heap_setCell_at HX.out]
       rfl
     have u1':(w1.setCell ⟨w.heap.size,2,none⟩ (.bool true)).cell? ⟨w.heap.size,1,none⟩=some (.bool true):=by
       have:=cell_of (o:=1) (v:= .bool p.pinned) hX2 rfl
       rw [HPP.out] at this
       exact this
     have f1':(w1.setCell ⟨w.heap.size,2,none⟩ (.bool true)).frozen? ⟨w.heap.size,1,none⟩=false:=free_of hX2
     have HM2:=Lib.hid hm2
     have HX2:=Lib.hid hX2
     clear u0 u1 u2 f2 hm2 hX2
     generalize w1.setCell ⟨w.heap.size,2,none⟩ (.bool true)=w2 at*
     go_upto_region 16 with fail
     have hm3:=HM2.out.setCell ⟨w.heap.size,1,none⟩ (.bool true) (fun _=>rfl)
     have hX3:(w2.setCell ⟨w.heap.size,1,none⟩ (.bool true)).heap[w.heap.size]?=some (.cells (plC {p with marked:=true}) 127 (0,0)):=by
       rw [heap_setCell_at HX2.out]
       simp only [plC,HPP.out];rfl
     have HM9:=Lib.hid hm3
     have HH9:=Lib.hid hX3
     clear u1' f1' hm3 hX3
     generalize w2.setCell ⟨w.heap.size,1,none⟩ (.bool true)=w9 at*
     have hb9:Below w.heap.size w w9:=HB1.out.trans (HM9.out.below HB1.out.size fun y hy e=>by have e:y=w.heap.size:=e;omega)
     have h9:=HH.out.below hb9
     have hLq:=lies_of HH9.out
     have hagq:=aggPl {p with marked:=true}
     have honq:=onePl {p with marked:=true}
     have c9:w9.drew.cell? ⟨rb,0,none⟩=some (.slice (some ⟨pb,0,none⟩) n n):=by rw [←HN.out];exact h9.c0
     have hS:w9.drew.cell? ⟨rb,0,none⟩=some (.slice (some ⟨pb,0,none⟩) n n)∧Lies w9.drew w.heap.size 0 (plC {p with marked:=true}):=⟨c9,hLq⟩
     have hst:=fun (ρ:Operand→Value) (ty:TypeId) (pos:String) (after:Array Edge) (x' y':Operand) (hx':ρ x'= .pointer (some ⟨pb,i*3,none⟩)) (hy':ρ y'= .agg (plC {p with marked:=true}))=>
       exec_storeA (P:=Tryz.prog) (dst:=none) (g:=none) (ty:=ty) (pos:=pos) (after:=after) (w:=w9.drew) hagq hx' hy' h9.pl (by rw [places_size,HN.out];show i*3+3≤n*3;omega) (fun v hv=>by rw [Array.all_eq_true'] at honq;exact honq v (by simpa using hv))
     have hs5:=heap_setCells_at (plC {p with marked:=true}).toList (i*3) w9.drew (placesC R.L) h9.pl
     rw [places_set (by rw [HN.out];exact hi')] at hs5
     have hm5:Mod (fun b=>b=pb) w9 _:=Mod.setCells (S:=fun b=>b=pb) (fun _=>rfl) (plC {p with marked:=true}).toList (i*3) w9.drew ((Mod.refl _ w9).drew)
     refine wp_region_x (fun w'=>w'.cell? ⟨rb,0,none⟩=some (.slice (some ⟨pb,0,none⟩) n n)∧Lies w' w.heap.size 0 (plC {p with marked:=true})) [(0,1),(1,1),(2,1),(3,0),(4,1),(5,0),(6,1),(7,3)] (by kernel_rfl) (by kernel_rfl) (by intro d v c a w h;cases d<;>exact h) ?_
     iterate 3 (refine x_take rfl (fun K hK=> ?_);go_simp;refine hK _ ?_;clear hK K)
     refine x_read rfl hS (fun w' h=>exec_load1 ⟨⟨_,Tryz.underlying123,rfl⟩⟩ rfl h.1) ?_
     iterate 1 (refine x_take rfl (fun K hK=> ?_);go_simp;refine hK _ ?_;clear hK K)
     refine x_read rfl hS (fun w' h=>exec_loadA hagq rfl h.2) ?_
     iterate 1 (refine x_take rfl (fun K hK=> ?_);go_simp;refine hK _ ?_;clear hK K)
     refine x_skip rfl (hst _ _ _ _ _ _ rfl rfl) ?_
     refine x_nil ?_
     have h10:=h9.put (i:=i) {p with marked:=true} hs5 hm5
     have hm10:Mod (fun b=>b=pb) w _:=((Mod.of_below hb9).mono (T:=fun b=>b=pb) fun b hb hs=>absurd hb (Nat.not_lt.2 hs)).trans hm5 (fun _ h=>h) (fun _ _ h=>h)
     have HR:=Lib.hid h10
     have HM:=Lib.hid hm10
     clear hS hst hs5 hm5 h9 hLq c9 h10 hm10 hb9 honq hagq
     generalize w9.drew.setCells pb (i*3) (plC {p with marked:=true}).toList=w10 at*
     go_wp2
     go_ret
     rw [HRES.out]
     exact ⟨rfl,HR.out,HM.out⟩
set_option maxRecDepth 20000 in
set_option maxHeartbeats 4000000 in
theorem xdo_3 (h:XRAt w rb pb R) (i:Nat) (hi:i<R.L.length) (hu:(R.at_ i).used=true):Calls Tryz.prog 54 #[.pointer (some ⟨rb,0,none⟩), .int .i64 3, .int .i64 i] w fun e w'=>e= .returned (.int .i64 0)∧XRAt w' rb pb (R.pin i)∧Mod (fun b=>b=pb) w w':=by
 obtain ⟨w1,hw1⟩: ∃w1,w.alloc (.cells (plC (R.at_ i)) 127)=w1:=⟨_,rfl⟩
 have hb1:Below w.heap.size w w1:=by rw [←hw1];exact (Below.refl _ _).alloc (Nat.le_refl _) _
 have hX:w1.heap[w.heap.size]?=some (.cells (plC (R.at_ i)) 127 (0,0)):=by rw [←hw1];exact heap_alloc_at
 have hLi:=h.lies hi
 have hres:R.pin i=R.put i {R.at_ i with pinned:=true}:=by unfold Rn.pin;rw [if_pos hu]
 have h1:=h.below hb1
 obtain ⟨p,hp⟩: ∃p,R.at_ i=p:=⟨_,rfl⟩
 obtain ⟨n,hn⟩: ∃n,R.L.length=n:=⟨_,rfl⟩
 have c0:=h.c0
 have hag:=aggPl p
 have hon:=onePl p
 have hi':i<n:=by omega
 have hi63:(i:Int)<(n:Int):=by omega
 have hi0:¬ (i:Int)<0:=by omega
 have hi1:¬ (n:Int)≤(i:Int):=by omega
 have hn64:n≤64:=by have:=h.hi;omega
 have hpl:=lt_of_block h.pl
 rw [hp] at hX hLi hw1 hu hres
 rw [hn] at c0
 have HH:=Lib.hid h
 have H1:=Lib.hid h1
 have HX:=Lib.hid hX
 have HB1:=Lib.hid hb1
 have HN:=Lib.hid hn
 have HP:=Lib.hid hp
 have HPL:=Lib.hid hpl
 have HRES:=Lib.hid hres
 have hbn:Tryz.prog.built 127 [(0, .bool true),(1, .bool false),(2, .bool true)]=some (plC ⟨true,false,true⟩):=by kernel_rfl
 have hbz:Tryz.prog.built 127 []=some (plC Pl.no):=by kernel_rfl
 clear h hb1 hX h1 hn hp hpl hres hi
 go_enter Tryz.func54,Tryz.ntmps54
 go_upto_region 4 with (first
   |((with_reducible refine wpList_loadA hag hLi ?_ ?_);rfl;go_frame)
   |((with_reducible refine wpList_storeA_new hag ?_ hon ?_ ?_ ?_);rfl;rfl;rfl;go_frame)
   |fail)
 simp only [hw1] at*
 clear hw1 hLi c0
 have u0:w1.cell? ⟨w.heap.size,0,none⟩=some (.bool true):=by rw [←hu];exact cell_of HX.out rfl
 have u1:w1.cell? ⟨w.heap.size,1,none⟩=some (.bool p.pinned):=cell_of HX.out rfl
 have u2:w1.cell? ⟨w.heap.size,2,none⟩=some (.bool p.marked):=cell_of HX.out rfl
 have f2:w1.frozen? ⟨w.heap.size,2,none⟩=false:=free_of HX.out
 obtain ⟨pm,hpm⟩: ∃b,p.marked=b:=⟨_,rfl⟩
 obtain ⟨pp,hpp⟩: ∃b,p.pinned=b:=⟨_,rfl⟩
 rw [hpm] at u2
 rw [hpp] at u1
 have HPM:=Lib.hid hpm
 have HPP:=Lib.hid hpp
 clear hpm hpp hbn hbz hu
 cases pm
 · cases pp
   · go_upto_region 15 with fail
     have hm2:=(Mod.refl (fun b=>b=w.heap.size) w1).setCell ⟨w.heap.size,2,none⟩ (.bool false) (fun _=>rfl)
     have hX2:(w1.setCell ⟨w.heap.size,2,none⟩ (.bool false)).heap[w.heap.size]?=some (.cells (plC p) 127 (0,0)):=by
       rw [heap_setCell_at HX.out]
       simp only [plC,HPM.out];rfl
     have u1':(w1.setCell ⟨w.heap.size,2,none⟩ (.bool false)).cell? ⟨w.heap.size,1,none⟩=some (.bool false):=by
       have:=cell_of (o:=1) (v:= .bool p.pinned) hX2 rfl
       rw [HPP.out] at this
       exact this
     have f1':(w1.setCell ⟨w.heap.size,2,none⟩ (.bool false)).frozen? ⟨w.heap.size,1,none⟩=false:=free_of hX2
     have HM2:=Lib.hid hm2
     have HX2:=Lib.hid hX2
     clear u0 u1 u2 f2 hm2 hX2
     generalize w1.setCell ⟨w.heap.size,2,none⟩ (.bool false)=w2 at*
     go_upto_region 16 with fail
     have hm3:=HM2.out.setCell ⟨w.heap.size,1,none⟩ (.bool true) (fun _=>rfl)
     have hX3:(w2.setCell ⟨w.heap.size,1,none⟩ (.bool true)).heap[w.heap.size]?=some (.cells (plC {p with pinned:=true}) 127 (0,0)):=by
       rw [heap_setCell_at HX2.out]
       rfl
     have HM9:=Lib.hid hm3
     have HH9:=Lib.hid hX3
     clear u1' f1' hm3 hX3
     generalize w2.setCell ⟨w.heap.size,1,none⟩ (.bool true)=w9 at*
     have hb9:Below w.heap.size w w9:=HB1.out.trans (HM9.out.below HB1.out.size fun y hy e=>by have e:y=w.heap.size:=e;omega)
     have h9:=HH.out.below hb9
     have hLq:=lies_of HH9.out
     have hagq:=aggPl {p with pinned:=true}
     have honq:=onePl {p with pinned:=true}
     have c9:w9.drew.cell? ⟨rb,0,none⟩=some (.slice (some ⟨pb,0,none⟩) n n):=by rw [←HN.out];exact h9.c0
     have hS:w9.drew.cell? ⟨rb,0,none⟩=some (.slice (some ⟨pb,0,none⟩) n n)∧Lies w9.drew w.heap.size 0 (plC {p with pinned:=true}):=⟨c9,hLq⟩
     have hst:=fun (ρ:Operand→Value) (ty:TypeId) (pos:String) (after:Array Edge) (x' y':Operand) (hx':ρ x'= .pointer (some ⟨pb,i*3,none⟩)) (hy':ρ y'= .agg (plC {p with pinned:=true}))=>
       exec_storeA (P:=Tryz.prog) (dst:=none) (g:=none) (ty:=ty) (pos:=pos) (after:=after) (w:=w9.drew) hagq hx' hy' h9.pl (by rw [places_size,HN.out];show i*3+3≤n*3;omega) (fun v hv=>by rw [Array.all_eq_true'] at honq;exact honq v (by simpa using hv))
     have hs5:=heap_setCells_at (plC {p with pinned:=true}).toList (i*3) w9.drew (placesC R.L) h9.pl
     rw [places_set (by rw [HN.out];exact hi')] at hs5
     have hm5:Mod (fun b=>b=pb) w9 _:=Mod.setCells (S:=fun b=>b=pb) (fun _=>rfl) (plC {p with pinned:=true}).toList (i*3) w9.drew ((Mod.refl _ w9).drew)
     refine wp_region_x (fun w'=>w'.cell? ⟨rb,0,none⟩=some (.slice (some ⟨pb,0,none⟩) n n)∧Lies w' w.heap.size 0 (plC {p with pinned:=true})) [(0,1),(1,1),(2,1),(3,0),(4,1),(5,0),(6,1),(7,3)] (by kernel_rfl) (by kernel_rfl) (by intro d v c a w h;cases d<;>exact h) ?_
     iterate 3 (refine x_take rfl (fun K hK=> ?_);go_simp;refine hK _ ?_;clear hK K)
     refine x_read rfl hS (fun w' h=>exec_load1 ⟨⟨_,Tryz.underlying123,rfl⟩⟩ rfl h.1) ?_
     iterate 1 (refine x_take rfl (fun K hK=> ?_);go_simp;refine hK _ ?_;clear hK K)
     refine x_read rfl hS (fun w' h=>exec_loadA hagq rfl h.2) ?_
     iterate 1 (refine x_take rfl (fun K hK=> ?_);go_simp;refine hK _ ?_;clear hK K)
     refine x_skip rfl (hst _ _ _ _ _ _ rfl rfl) ?_
     refine x_nil ?_
     have h10:=h9.put (i:=i) {p with pinned:=true} hs5 hm5
     have hm10:Mod (fun b=>b=pb) w _:=((Mod.of_below hb9).mono (T:=fun b=>b=pb) fun b hb hs=>absurd hb (Nat.not_lt.2 hs)).trans hm5 (fun _ h=>h) (fun _ _ h=>h)
     have HR:=Lib.hid h10
     have HM:=Lib.hid hm10
     clear hS hst hs5 hm5 h9 hLq c9 h10 hm10 hb9 honq hagq
     generalize w9.drew.setCells pb (i*3) (plC {p with pinned:=true}).toList=w10 at*
     go_wp2
     go_ret
     rw [HRES.out]
     exact ⟨rfl,HR.out,HM.out⟩
   · go_upto_region 15 with fail
     have hm2:=(Mod.refl (fun b=>b=w.heap.size) w1).setCell ⟨w.heap.size,2,none⟩ (.bool false) (fun _=>rfl)
     have hX2:(w1.setCell ⟨w.heap.size,2,none⟩ (.bool false)).heap[w.heap.size]?=some (.cells (plC p) 127 (0,0)):=by
       rw [heap_setCell_at HX.out]
       simp only [plC,HPM.out];rfl
     have u1':(w1.setCell ⟨w.heap.size,2,none⟩ (.bool false)).cell? ⟨w.heap.size,1,none⟩=some (.bool true):=by
       have:=cell_of (o:=1) (v:= .bool p.pinned) hX2 rfl
       rw [HPP.out] at this
       exact this
     have f1':(w1.setCell ⟨w.heap.size,2,none⟩ (.bool false)).frozen? ⟨w.heap.size,1,none⟩=false:=free_of hX2
     have HM2:=Lib.hid hm2
     have HX2:=Lib.hid hX2
     clear u0 u1 u2 f2 hm2 hX2
     generalize w1.setCell ⟨w.heap.size,2,none⟩ (.bool false)=w2 at*
     go_upto_region 16 with fail
     have hm3:=HM2.out.setCell ⟨w.heap.size,1,none⟩ (.bool true) (fun _=>rfl)
     have hX3:(w2.setCell ⟨w.heap.size,1,none⟩ (.bool true)).heap[w.heap.size]?=some (.cells (plC {p with pinned:=true}) 127 (0,0)):=by
       rw [heap_setCell_at HX2.out]
       rfl
     have HM9:=Lib.hid hm3
     have HH9:=Lib.hid hX3
     clear u1' f1' hm3 hX3
     generalize w2.setCell ⟨w.heap.size,1,none⟩ (.bool true)=w9 at*
     have hb9:Below w.heap.size w w9:=HB1.out.trans (HM9.out.below HB1.out.size fun y hy e=>by have e:y=w.heap.size:=e;omega)
     have h9:=HH.out.below hb9
     have hLq:=lies_of HH9.out
     have hagq:=aggPl {p with pinned:=true}
     have honq:=onePl {p with pinned:=true}
     have c9:w9.drew.cell? ⟨rb,0,none⟩=some (.slice (some ⟨pb,0,none⟩) n n):=by rw [←HN.out];exact h9.c0
     have hS:w9.drew.cell? ⟨rb,0,none⟩=some (.slice (some ⟨pb,0,none⟩) n n)∧Lies w9.drew w.heap.size 0 (plC {p with pinned:=true}):=⟨c9,hLq⟩
     have hst:=fun (ρ:Operand→Value) (ty:TypeId) (pos:String) (after:Array Edge) (x' y':Operand) (hx':ρ x'= .pointer (some ⟨pb,i*3,none⟩)) (hy':ρ y'= .agg (plC {p with pinned:=true}))=>
       exec_storeA (P:=Tryz.prog) (dst:=none) (g:=none) (ty:=ty) (pos:=pos) (after:=after) (w:=w9.drew) hagq hx' hy' h9.pl (by rw [places_size,HN.out];show i*3+3≤n*3;omega) (fun v hv=>by rw [Array.all_eq_true'] at honq;exact honq v (by simpa using hv))
     have hs5:=heap_setCells_at (plC {p with pinned:=true}).toList (i*3) w9.drew (placesC R.L) h9.pl
     rw [places_set (by rw [HN.out];exact hi')] at hs5
     have hm5:Mod (fun b=>b=pb) w9 _:=Mod.setCells (S:=fun b=>b=pb) (fun _=>rfl) (plC {p with pinned:=true}).toList (i*3) w9.drew ((Mod.refl _ w9).drew)
     refine wp_region_x (fun w'=>w'.cell? ⟨rb,0,none⟩=some (.slice (some ⟨pb,0,none⟩) n n)∧Lies w' w.heap.size 0 (plC {p with pinned:=true})) [(0,1),(1,1),(2,1),(3,0),(4,1),(5,0),(6,1),(7,3)] (by kernel_rfl) (by kernel_rfl) (by intro d v c a w h;cases d<;>exact h) ?_
     iterate 3 (refine x_take rfl (fun K hK=> ?_);go_simp;refine hK _ ?_;clear hK K)
     refine x_read rfl hS (fun w' h=>exec_load1 ⟨⟨_,Tryz.underlying123,rfl⟩⟩ rfl h.1) ?_
     iterate 1 (refine x_take rfl (fun K hK=> ?_);go_simp;refine hK _ ?_;clear hK K)
     refine x_read rfl hS (fun w' h=>exec_loadA hagq rfl h.2) ?_
     iterate 1 (refine x_take rfl (fun K hK=> ?_);go_simp;refine hK _ ?_;clear hK K)
     refine x_skip rfl (hst _ _ _ _ _ _ rfl rfl) ?_
     refine x_nil ?_
     have h10:=h9.put (i:=i) {p with pinned:=true} hs5 hm5
     have hm10:Mod (fun b=>b=pb) w _:=((Mod.of_below hb9).mono (T:=fun b=>b=pb) fun b hb hs=>absurd hb (Nat.not_lt.2 hs)).trans hm5 (fun _ h=>h) (fun _ _ h=>h)
     have HR:=Lib.hid h10
     have HM:=Lib.hid hm10
     clear hS hst hs5 hm5 h9 hLq c9 h10 hm10 hb9 honq hagq
     generalize w9.drew.setCells pb (i*3) (plC {p with pinned:=true}).toList=w10 at*
     go_wp2
     go_ret
     rw [HRES.out]
     exact ⟨rfl,HR.out,HM.out⟩
 · cases pp
   · go_upto_region 15 with fail
     have hm2:=(Mod.refl (fun b=>b=w.heap.size) w1).setCell ⟨w.heap.size,2,none⟩ (.bool true) (fun _=>rfl)
     have hX2:(w1.setCell ⟨w.heap.size,2,none⟩ (.bool true)).heap[w.heap.size]?=some (.cells (plC p) 127 (0,0)):=by
       rw [heap_setCell_at HX.out]
       simp only [plC,HPM.out];rfl
     have u1':(w1.setCell ⟨w.heap.size,2,none⟩ (.bool true)).cell? ⟨w.heap.size,1,none⟩=some (.bool false):=by
       have:=cell_of (o:=1) (v:= .bool p.pinned) hX2 rfl
       rw [HPP.out] at this
       exact this
     have f1':(w1.setCell ⟨w.heap.size,2,none⟩ (.bool true)).frozen? ⟨w.heap.size,1,none⟩=false:=free_of hX2
     have HM2:=Lib.hid hm2
     have HX2:=Lib.hid hX2
     clear u0 u1 u2 f2 hm2 hX2
     generalize w1.setCell ⟨w.heap.size,2,none⟩ (.bool true)=w2 at*
     go_upto_region 16 with fail
     have hm3:=HM2.out.setCell ⟨w.heap.size,1,none⟩ (.bool true) (fun _=>rfl)
     have hX3:(w2.setCell ⟨w.heap.size,1,none⟩ (.bool true)).heap[w.heap.size]?=some (.cells (plC {p with pinned:=true}) 127 (0,0)):=by
       rw [heap_setCell_at HX2.out]
       rfl
     have HM9:=Lib.hid hm3
     have HH9:=Lib.hid hX3
     clear u1' f1' hm3 hX3
     generalize w2.setCell ⟨w.heap.size,1,none⟩ (.bool true)=w9 at*
     have hb9:Below w.heap.size w w9:=HB1.out.trans (HM9.out.below HB1.out.size fun y hy e=>by have e:y=w.heap.size:=e;omega)
     have h9:=HH.out.below hb9
     have hLq:=lies_of HH9.out
     have hagq:=aggPl {p with pinned:=true}
     have honq:=onePl {p with pinned:=true}
     have c9:w9.drew.cell? ⟨rb,0,none⟩=some (.slice (some ⟨pb,0,none⟩) n n):=by rw [←HN.out];exact h9.c0
     have hS:w9.drew.cell? ⟨rb,0,none⟩=some (.slice (some ⟨pb,0,none⟩) n n)∧Lies w9.drew w.heap.size 0 (plC {p with pinned:=true}):=⟨c9,hLq⟩
     have hst:=fun (ρ:Operand→Value) (ty:TypeId) (pos:String) (after:Array Edge) (x' y':Operand) (hx':ρ x'= .pointer (some ⟨pb,i*3,none⟩)) (hy':ρ y'= .agg (plC {p with pinned:=true}))=>
       exec_storeA (P:=Tryz.prog) (dst:=none) (g:=none) (ty:=ty) (pos:=pos) (after:=after) (w:=w9.drew) hagq hx' hy' h9.pl (by rw [places_size,HN.out];show i*3+3≤n*3;omega) (fun v hv=>by rw [Array.all_eq_true'] at honq;exact honq v (by simpa using hv))
     have hs5:=heap_setCells_at (plC {p with pinned:=true}).toList (i*3) w9.drew (placesC R.L) h9.pl
     rw [places_set (by rw [HN.out];exact hi')] at hs5
     have hm5:Mod (fun b=>b=pb) w9 _:=Mod.setCells (S:=fun b=>b=pb) (fun _=>rfl) (plC {p with pinned:=true}).toList (i*3) w9.drew ((Mod.refl _ w9).drew)
     refine wp_region_x (fun w'=>w'.cell? ⟨rb,0,none⟩=some (.slice (some ⟨pb,0,none⟩) n n)∧Lies w' w.heap.size 0 (plC {p with pinned:=true})) [(0,1),(1,1),(2,1),(3,0),(4,1),(5,0),(6,1),(7,3)] (by kernel_rfl) (by kernel_rfl) (by intro d v c a w h;cases d<;>exact h) ?_
     iterate 3 (refine x_take rfl (fun K hK=> ?_);go_simp;refine hK _ ?_;clear hK K)
     refine x_read rfl hS (fun w' h=>exec_load1 ⟨⟨_,Tryz.underlying123,rfl⟩⟩ rfl h.1) ?_
     iterate 1 (refine x_take rfl (fun K hK=> ?_);go_simp;refine hK _ ?_;clear hK K)
     refine x_read rfl hS (fun w' h=>exec_loadA hagq rfl h.2) ?_
     iterate 1 (refine x_take rfl (fun K hK=> ?_);go_simp;refine hK _ ?_;clear hK K)
     refine x_skip rfl (hst _ _ _ _ _ _ rfl rfl) ?_
     refine x_nil ?_
     have h10:=h9.put (i:=i) {p with pinned:=true} hs5 hm5
     have hm10:Mod (fun b=>b=pb) w _:=((Mod.of_below hb9).mono (T:=fun b=>b=pb) fun b hb hs=>absurd hb (Nat.not_lt.2 hs)).trans hm5 (fun _ h=>h) (fun _ _ h=>h)
     have HR:=Lib.hid h10
     have HM:=Lib.hid hm10
     clear hS hst hs5 hm5 h9 hLq c9 h10 hm10 hb9 honq hagq
     generalize w9.drew.setCells pb (i*3) (plC {p with pinned:=true}).toList=w10 at*
     go_wp2
     go_ret
     rw [HRES.out]
     exact ⟨rfl,HR.out,HM.out⟩
   · go_upto_region 15 with fail
     have hm2:=(Mod.refl (fun b=>b=w.heap.size) w1).setCell ⟨w.heap.size,2,none⟩ (.bool true) (fun _=>rfl)
     have hX2:(w1.setCell ⟨w.heap.size,2,none⟩ (.bool true)).heap[w.heap.size]?=some (.cells (plC p) 127 (0,0)):=by
       rw [heap_setCell_at HX.out]
       simp only [plC,HPM.out];rfl
     have u1':(w1.setCell ⟨w.heap.size,2,none⟩ (.bool true)).cell? ⟨w.heap.size,1,none⟩=some (.bool true):=by
       have:=cell_of (o:=1) (v:= .bool p.pinned) hX2 rfl
       rw [HPP.out] at this
       exact this
     have f1':(w1.setCell ⟨w.heap.size,2,none⟩ (.bool true)).frozen? ⟨w.heap.size,1,none⟩=false:=free_of hX2
     have HM2:=Lib.hid hm2
     have HX2:=Lib.hid hX2
     clear u0 u1 u2 f2 hm2 hX2
     generalize w1.setCell ⟨w.heap.size,2,none⟩ (.bool true)=w2 at*
     go_upto_region 16 with fail
     have hm3:=HM2.out.setCell ⟨w.heap.size,1,none⟩ (.bool true) (fun _=>rfl)
     have hX3:(w2.setCell ⟨w.heap.size,1,none⟩ (.bool true)).heap[w.heap.size]?=some (.cells (plC {p with pinned:=true}) 127 (0,0)):=by
       rw [heap_setCell_at HX2.out]
       rfl
     have HM9:=Lib.hid hm3
     have HH9:=Lib.hid hX3
     clear u1' f1' hm3 hX3
     generalize w2.setCell ⟨w.heap.size,1,none⟩ (.bool true)=w9 at*
     have hb9:Below w.heap.size w w9:=HB1.out.trans (HM9.out.below HB1.out.size fun y hy e=>by have e:y=w.heap.size:=e;omega)
     have h9:=HH.out.below hb9
     have hLq:=lies_of HH9.out
     have hagq:=aggPl {p with pinned:=true}
     have honq:=onePl {p with pinned:=true}
     have c9:w9.drew.cell? ⟨rb,0,none⟩=some (.slice (some ⟨pb,0,none⟩) n n):=by rw [←HN.out];exact h9.c0
     have hS:w9.drew.cell? ⟨rb,0,none⟩=some (.slice (some ⟨pb,0,none⟩) n n)∧Lies w9.drew w.heap.size 0 (plC {p with pinned:=true}):=⟨c9,hLq⟩
     have hst:=fun (ρ:Operand→Value) (ty:TypeId) (pos:String) (after:Array Edge) (x' y':Operand) (hx':ρ x'= .pointer (some ⟨pb,i*3,none⟩)) (hy':ρ y'= .agg (plC {p with pinned:=true}))=>
       exec_storeA (P:=Tryz.prog) (dst:=none) (g:=none) (ty:=ty) (pos:=pos) (after:=after) (w:=w9.drew) hagq hx' hy' h9.pl (by rw [places_size,HN.out];show i*3+3≤n*3;omega) (fun v hv=>by rw [Array.all_eq_true'] at honq;exact honq v (by simpa using hv))
     have hs5:=heap_setCells_at (plC {p with pinned:=true}).toList (i*3) w9.drew (placesC R.L) h9.pl
     rw [places_set (by rw [HN.out];exact hi')] at hs5
     have hm5:Mod (fun b=>b=pb) w9 _:=Mod.setCells (S:=fun b=>b=pb) (fun _=>rfl) (plC {p with pinned:=true}).toList (i*3) w9.drew ((Mod.refl _ w9).drew)
     refine wp_region_x (fun w'=>w'.cell? ⟨rb,0,none⟩=some (.slice (some ⟨pb,0,none⟩) n n)∧Lies w' w.heap.size 0 (plC {p with pinned:=true})) [(0,1),(1,1),(2,1),(3,0),(4,1),(5,0),(6,1),(7,3)] (by kernel_rfl) (by kernel_rfl) (by intro d v c a w h;cases d<;>exact h) ?_
     iterate 3 (refine x_take rfl (fun K hK=> ?_);go_simp;refine hK _ ?_;clear hK K)
     refine x_read rfl hS (fun w' h=>exec_load1 ⟨⟨_,Tryz.underlying123,rfl⟩⟩ rfl h.1) ?_
     iterate 1 (refine x_take rfl (fun K hK=> ?_);go_simp;refine hK _ ?_;clear hK K)
     refine x_read rfl hS (fun w' h=>exec_loadA hagq rfl h.2) ?_
     iterate 1 (refine x_take rfl (fun K hK=> ?_);go_simp;refine hK _ ?_;clear hK K)
     refine x_skip rfl (hst _ _ _ _ _ _ rfl rfl) ?_
     refine x_nil ?_
     have h10:=h9.put (i:=i) {p with pinned:=true} hs5 hm5
     have hm10:Mod (fun b=>b=pb) w _:=((Mod.of_below hb9).mono (T:=fun b=>b=pb) fun b hb hs=>absurd hb (Nat.not_lt.2 hs)).trans hm5 (fun _ h=>h) (fun _ _ h=>h)
     have HR:=Lib.hid h10
     have HM:=Lib.hid hm10
     clear hS hst hs5 hm5 h9 hLq c9 h10 hm10 hb9 honq hagq
     generalize w9.drew.setCells pb (i*3) (plC {p with pinned:=true}).toList=w10 at*
     go_wp2
     go_ret
     rw [HRES.out]
     exact ⟨rfl,HR.out,HM.out⟩
end
end Go.Proofs.YtldimgchpgoggaaGreat
