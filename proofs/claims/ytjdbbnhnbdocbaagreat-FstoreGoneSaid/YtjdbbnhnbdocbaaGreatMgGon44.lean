import Derived.Test.YtjdbbnhnbdocbaaGreatMgGon43
namespace Go.Proofs.YtjdbbnhnbdocbaaGreat
open Go.RowKit Go.Tn Go.Tn.Bt Go.Tn.Lp Go.Tn.Dk Go.Tn.Ino Go.Tn.Dr Go.Tn.Fm Go.Tn.Names
def flZ (f:Int×Int):Array Value:= #[.int .i64 f.1, .int .i64 f.2]
theorem eqFl (w:World) (a b:Int×Int):(Op.equalIn 10000 33 (.agg (flZ a)) (.agg (flZ b))).run Tryz.prog w= .ok (decide (a=b)) w:=by
 obtain ⟨i,g⟩:=a
 obtain ⟨i',g'⟩:=b
 have:decide (((i,g):Int×Int)=(i',g'))=(i==i'&&g==g'):=by
  rw [Bool.eq_iff_iff];simp
 rw [this]
 unfold flZ
 rw [run_equalIn_agg w 9999 33 _ _ (by simp [Program.fieldsOf,Tryz.underlying33]) (by kernel_rfl)]
 simp [go_sem,Program.fieldsOf,Tryz.underlying33,Op.eqFields,part,isAgg]
 by_cases h1:i=i'
 ·by_cases h2:g=g'
  ·simp [h1,h2]
  ·simp [h1,h2]
 ·simp [h1]
theorem eqGFl:Tryz.prog.eqGuardType Tryz.prog.depth 33=false:=by kernel_rfl
abbrev undFn (bs bf:Nat):Value:= .func (.func 151) #[] #[.pointer (some ⟨bs,0,none⟩), .pointer (some ⟨bf,0,none⟩)]
def UndC (w:World) (bs bf:Nat) (W:List Ent) (Q:Ent→Prop):Prop:= ∀w2,Below w.heap.size w w2→ ∀y∈W,Calls Tryz.prog 151 #[.agg (entC y), .pointer (some ⟨bs,0,none⟩), .pointer (some ⟨bf,0,none⟩)] w2 fun e w'=>(∃r,e= .returned (.bool r)∧(r=true↔Q y))∧Below w2.heap.size w2 w'
set_option maxHeartbeats 1000000 in
theorem eindexU_any (w:World) (v:Value) (W:List Ent) (h:LSl enEn 4 w v W) (bs bf:Nat) (Q:Ent→Prop) (hc:UndC w bs bf W Q):Calls Tryz.prog 183 #[v,undFn bs bf] w
  fun e w'=>(∃r:Int,e= .returned (.int .i64 r)∧(0≤r↔ ∃x∈W,Q x))∧Below w.heap.size w w':=by
 have H0:=Lib.hid h
 have HC:=Lib.hid hc
 obtain ⟨ao,cap,rfl,hcl,hcm,_⟩:=h
 unfold maxLen at hcm
 clear hc
 go_enter Tryz.func183,Tryz.ntmps183
 go_wp2
 go_loopw [8] (fun kv wr=> ∃k:Nat,k≤W.length∧kv= .int .i64 k∧(∀x∈W.take k,¬ Q x)∧Below w.heap.size w wr) (fun kv _=>W.length-(intOf kv).toNat)
 case atStart=>exact ⟨0,Nat.zero_le _,rfl,by simp,Below.refl _ _⟩
 case round=>
  obtain ⟨k,hk,rfl,hn,hbr⟩:=hrel
  have HN:=Lib.hid hn
  clear hn
  by_cases hlt:k<W.length
  ·have hlt':(k:Int)<(W.length:Int):=by omega
   obtain ⟨a,ha⟩: ∃x,W[k]?=some x:=⟨_,List.getElem?_eq_getElem hlt⟩
   obtain ⟨b4,o4,cp,hv,hb4,hLx⟩:=sl_ent H0.out ha
   obtain rfl:ao=some ⟨b4,o4,none⟩:=by injection hv
   have hl:=hLx.below' hbr hb4
   have hag:=aggEn a
   have hcall:=HC.out wr hbr a (List.mem_of_getElem? ha)
   have HA:=Lib.hid ha
   have HBR:=Lib.hid hbr
   clear hLx hv ha hbr
   go_wp2_with (first
    | ((with_reducible refine wpList_loadA hag hl ?_ ?_);rfl;go_frame)
    | fail)
   refine hcall.mono ?_
   rintro e w2 ⟨⟨r,rfl,hr⟩,hb2⟩
   have HB2:=Lib.hid (HBR.out.trans (hb2.mono HBR.out.size))
   have HRR:=Lib.hid hr
   clear hcall hb2 hl hr
   cases r
   ·have hnew: ∀x∈W.take (k+1),¬ Q x:=fun x hx=>by
     rw [List.take_add_one,HA.out] at hx
     rcases List.mem_append.1 hx with hx|hx
     ·exact HN.out x hx
     ·have h1:x=a:=by simpa using hx
      rw [h1]
      exact fun hq=>absurd (HRR.out.2 hq) (by decide)
    have HZ:=Lib.hid hnew
    clear hnew
    go_wp2
    go_roundw
    case rel=>exact ⟨k+1,by omega,by go_num,HZ.out,HB2.out⟩
    case measure=>simp [intOf];omega
   ·go_wp2
    go_ret
    exact ⟨⟨_,rfl,⟨fun _=>⟨a,List.mem_of_getElem? HA.out,HRR.out.1 (by trivial)⟩,fun _=>by omega⟩⟩,HB2.out⟩
  ·obtain rfl:k=W.length:=by omega
   go_wp2
   go_ret
   exact ⟨⟨_,rfl,⟨fun h=>absurd h (by decide),fun ⟨x,hx,hq⟩=>absurd hq (HN.out x (by rw [List.take_of_length_le (Nat.le_refl _)];exact hx))⟩⟩,hbr⟩
theorem econtainsU_any (w:World) (v:Value) (W:List Ent) (h:LSl enEn 4 w v W) (bs bf:Nat) (Q:Ent→Prop) (hc:UndC w bs bf W Q):Calls Tryz.prog 150 #[v,undFn bs bf] w
  fun e w'=>(∃r,e= .returned (.bool r)∧(r=true↔ ∃x∈W,Q x))∧Below w.heap.size w w':=by
 have hi:=eindexU_any w v W h bs bf Q hc
 obtain ⟨ao,cap,rfl, -⟩:=h
 clear hc
 go_enter Tryz.func150,Tryz.ntmps150
 go_wp2_with fail
 refine hi.mono ?_
 rintro e w2 ⟨⟨r,rfl,hr⟩,hb2⟩
 have HB:=Lib.hid hb2
 obtain ⟨q,hq⟩: ∃q,decide ((0:Int)≤r)=q:=⟨_,rfl⟩
 have HR:Hid (q=true↔ ∃x∈W,Q x):=Lib.hid (by rw [←hq,decide_eq_true_iff];exact hr)
 clear hi hb2 hr
 go_wp2
 go_ret
 exact ⟨⟨_,rfl,HR.out⟩,HB.out⟩
section
variable {w w':World} {F FD:Nat→Prop} {s g p:Nat} {l:Lg} {d:Dsk} {M:Sm}
def UnderC (w:World) (s:Nat) (M:Sm) (k x:Nat):Prop:=Calls Tryz.prog 97 #[.pointer (some ⟨s,0,none⟩), .agg #[.int .i64 (k:Nat), .int .i64 ((M.N k).gen:Nat)], .agg #[.int .i64 (x:Nat), .int .i64 ((M.N x).gen:Nat)]] w
  fun e w'=>(∃r,e= .returned (.bool r)∧(r=true↔Reach M.N x k))∧Below w.heap.size w w'
set_option maxRecDepth 20000 in
set_option maxHeartbeats 4000000 in
theorem funderF_any (hT:Tree M.N) {j k:Nat} {y:Ent} (hy:y∈(M.N j).L) (hk:(M.N k).kind=1) {bs bf:Nat} (hs:w.cell? ⟨bs,0,none⟩=some (.pointer (some ⟨s,0,none⟩))) (hf:Lies w bf 0 #[.int .i64 (k:Nat), .int .i64 ((M.N k).gen:Nat)]) (hu: ∀w2,Below w.heap.size w w2→y.kind=1→UnderC w2 s M k y.ino):
  Calls Tryz.prog 151 #[.agg (entC y), .pointer (some ⟨bs,0,none⟩), .pointer (some ⟨bf,0,none⟩)] w fun e w'=>(∃r,e= .returned (.bool r)∧(r=true↔y.kind=1∧Reach M.N y.ino k))∧Below w.heap.size w w':=by
 obtain ⟨w1,hw1⟩: ∃w1,w.alloc (.cells (entC y) 64)=w1:=⟨_,rfl⟩
 have hb1:Below w.heap.size w w1:=by rw [←hw1];exact (Below.refl _ _).alloc (Nat.le_refl _) _
 have hX1:w1.heap[w.heap.size]?=some (.cells (entC y) 64 (0,0)):=by rw [←hw1];exact heap_alloc_at
 have q3:w1.cell? ⟨w.heap.size,3,none⟩=some (.int .i64 (y.kind:Nat)):=cell_of hX1 rfl
 have hLY:=lies_file (lies_of hX1)
 have hbl:bf<w.heap.size:=World.block_lt_of_cell? w _ (hf 0 (by show 0<2;decide))
 have hLF:Lies w1 bf 0 #[.int .i64 (k:Nat), .int .i64 ((M.N k).gen:Nat)]:=hf.below' hb1 hbl
 have qs:w1.cell? ⟨bs,0,none⟩=some (.pointer (some ⟨s,0,none⟩)):=(hb1.cell (p:=⟨bs,0,none⟩) (World.block_lt_of_cell? w _ hs)).trans hs
 have hagy:=aggFl (y.ino:Int) (y.gen:Int)
 have hagf:=aggFl (k:Int) ((M.N k).gen:Int)
 have hye:=hT.ent j y hy
 have HB:=Lib.hid hb1
 have hu1:=hu w1 hb1
 clear hf hs hX1 hu hb1
 by_cases hk1:y.kind=1
 ·have hkk:((y.kind:Int)==1)=true:=by rw [hk1];rfl
  have hun:=hu1 hk1
  unfold UnderC at hun
  rw [hye.2.2.2.2] at hun
  have HK1:=Lib.hid hk1
  clear hu1 hye hk1
  go_enter Tryz.func151,Tryz.ntmps151
  go_upto_region 1 with fail
  simp only [hw1] at*
  clear hw1
  go_wp2_with (first
   | ((with_reducible refine wpList_loadA hagf hLF ?_ ?_);rfl;go_frame)
   | ((with_reducible refine wpList_loadA hagy hLY ?_ ?_);rfl;go_frame)
   | (go_big_want;(first|((with_reducible refine oper_execG (exec_loadA hagf ?_ hLF) ?_);rfl)|((with_reducible refine oper_execG (exec_loadA hagy ?_ hLY) ?_);rfl));go_frame)
   | fail)
  refine hun.mono ?_
  rintro e w2 ⟨⟨r,rfl,hr⟩,hb2⟩
  have HR:=Lib.hid hr
  have HB2:=Lib.hid (HB.out.trans (hb2.mono HB.out.size))
  clear hun hr hb2 hLF hLY
  go_wp2
  go_ret
  exact ⟨⟨r,rfl,HR.out.trans ⟨fun h=>⟨HK1.out,h⟩,fun h=>h.2⟩⟩,HB2.out⟩
 ·have hkk:((y.kind:Int)==1)=false:=beq_eq_false_iff_ne.2 (by omega)
  have HK1:=Lib.hid hk1
  clear hu1 hye hk1 hLF hLY
  go_enter Tryz.func151,Tryz.ntmps151
  go_upto_region 1 with fail
  simp only [hw1] at*
  clear hw1
  go_wp2
  go_ret
  exact ⟨⟨false,rfl,⟨fun h=>(by cases h),fun h=>absurd h.1 HK1.out⟩⟩,HB.out⟩
theorem reach_iff (hT:Tree M.N) {x k:Nat} (hk:(M.N k).kind=1) (hxk:x≠k):Reach M.N x k↔ ∃y∈(M.N x).L,y.kind=1∧Reach M.N y.ino k:=by
 constructor
 ·intro h
  cases h with
  | z=>exact absurd rfl hxk
  | @s _ _ y hy hr=>
   refine ⟨y,hy,?_,hr⟩
   have he:=hT.ent x y hy
   rcases he.2.2.1 with h1|h1
   ·exact h1
   ·exfalso
    cases hr with
    | z=>rw [he.2.2.2.1] at hk;omega
    | s hz _=>
     have:=hT.dir _ _ hz
     rw [he.2.2.2.1] at this
     omega
 ·rintro ⟨y,hy, -,hr⟩
  exact .s hy hr
set_option maxRecDepth 20000 in
set_option maxHeartbeats 4000000 in
theorem funder_step (h:SAt w F FD s g p l d M) (hT:Tree M.N) {x k:Nat} (hx:1≤x∧x<41) (hxk:(M.N x).kind=1) (hk1:1≤k∧k<41) (hk:(M.N k).kind=1) (ih: ∀y∈(M.N x).L,y.kind=1→ ∀w2,Below w.heap.size w w2→UnderC w2 s M k y.ino):UnderC w s M k x:=by
 unfold UnderC
 obtain ⟨w1,hw1⟩: ∃w1,w.alloc (.cells #[.pointer (some ⟨s,0,none⟩)] 29)=w1:=⟨_,rfl⟩
 have hb1:Below w.heap.size w w1:=by rw [←hw1];exact (Below.refl _ _).alloc (Nat.le_refl _) _
 have hX1:w1.heap[w.heap.size]?=some (.cells #[.pointer (some ⟨s,0,none⟩)] 29 (0,0)):=by rw [←hw1];exact heap_alloc_at
 obtain ⟨w2,hw2⟩: ∃w2,w1.alloc (.cells #[.int .i64 (k:Nat), .int .i64 ((M.N k).gen:Nat)] 33)=w2:=⟨_,rfl⟩
 have hb2:Below w1.heap.size w1 w2:=by rw [←hw2];exact (Below.refl _ _).alloc (Nat.le_refl _) _
 have hX2:w2.heap[w1.heap.size]?=some (.cells #[.int .i64 (k:Nat), .int .i64 ((M.N k).gen:Nat)] 33 (0,0)):=by rw [←hw2];exact heap_alloc_at
 obtain ⟨w3,hw3⟩: ∃w3,w2.alloc (.cells #[.int .i64 (x:Nat), .int .i64 ((M.N x).gen:Nat)] 33)=w3:=⟨_,rfl⟩
 have hb3:Below w2.heap.size w2 w3:=by rw [←hw3];exact (Below.refl _ _).alloc (Nat.le_refl _) _
 have hX3:w3.heap[w2.heap.size]?=some (.cells #[.int .i64 (x:Nat), .int .i64 ((M.N x).gen:Nat)] 33 (0,0)):=by rw [←hw3];exact heap_alloc_at
 have hb12:=hb1.trans (hb2.mono hb1.size)
 have hb13:=hb12.trans (hb3.mono hb12.size)
 have hb23:Below w1.heap.size w1 w3:=hb2.trans (hb3.mono hb2.size)
 have p1:w3.heap[w.heap.size]?=some (.cells #[.pointer (some ⟨s,0,none⟩)] 29 (0,0)):=(hb23.block _ (lt_of_block hX1)).trans hX1
 have p2:w3.heap[w1.heap.size]?=some (.cells #[.int .i64 (k:Nat), .int .i64 ((M.N k).gen:Nat)] 33 (0,0)):=(hb3.block _ (lt_of_block hX2)).trans hX2
 have q1:w3.cell? ⟨w.heap.size,0,none⟩=some (.pointer (some ⟨s,0,none⟩)):=cell_of p1 rfl
 have hLk:Lies w3 w1.heap.size 0 #[.int .i64 (k:Nat), .int .i64 ((M.N k).gen:Nat)]:=lies_of p2
 have hLx:Lies w3 w2.heap.size 0 #[.int .i64 (x:Nat), .int .i64 ((M.N x).gen:Nat)]:=lies_of hX3
 have hagk:=aggFl (k:Int) ((M.N k).gen:Int)
 have hagx:=aggFl (x:Int) ((M.N x).gen:Int)
 have hli:=flistE_any (h.below hb13) ((x:Int),((M.N x).gen:Int))
 have hof:M.of ((x:Int),((M.N x).gen:Int)) 1=(x,0):=of_at hx.1 (by omega) rfl hxk (by decide)
 simp only [ListR,hof] at hli
 have hli:Calls Tryz.prog 19 #[.pointer (some ⟨s,0,none⟩), .agg #[.int .i64 (x:Int), .int .i64 ((M.N x).gen:Int)]] w3 fun e w'=>(∃v,e= .returned (.tuple #[v, .int .i64 0])∧LOut enEn 4 64 w3.heap.size w' v (M.N x).L)∧Below w3.heap.size w3 w':=hli
 have heq:=fun w=>eqFl w ((k:Int),((M.N k).gen:Int)) ((x:Int),((M.N x).gen:Int))
 unfold flZ at heq
 have HB:=Lib.hid hb13
 have HIH:=Lib.hid ih
 have HP1:=Lib.hid p1
 have HP2:=Lib.hid p2
 have HT:=Lib.hid hT
 have HK:=Lib.hid hk
 clear h hb1 hX1 hb2 hX2 hb3 hX3 hb12 hb13 hb23 p1 p2 ih hof hT hk hx hxk hk1
 go_enter Tryz.func97,Tryz.ntmps97
 go_upto_region 1 with fail
 simp only [hw1,hw2,hw3] at*
 clear hw1 hw2 hw3
 by_cases hxk:x=k
 ·subst hxk
  rw [show decide (((x:Int),((M.N x).gen:Int))=((x:Int),((M.N x).gen:Int)))=true from decide_eq_true rfl] at heq
  go_wp2_with (first
   | ((with_reducible refine wpList_loadA hagx hLx ?_ ?_);rfl;go_frame)
   | ((with_reducible refine wpList_loadA hagk hLk ?_ ?_);rfl;go_frame)
   | ((with_reducible refine wpList_exec rfl (exec_eqlS eqGFl heq ?_ ?_ _) ?_);rfl;rfl;go_frame)
   | fail)
  go_ret
  exact ⟨⟨true,rfl,⟨fun _=> .z _,fun _=>rfl⟩⟩,HB.out⟩
 ·have hne:decide (((k:Int),((M.N k).gen:Int))=((x:Int),((M.N x).gen:Int)))=false:=decide_eq_false (fun e=>hxk (by have:=(Prod.mk.inj e).1;omega))
  rw [hne] at heq
  have HXK:=Lib.hid hxk
  clear hne hxk
  go_wp2_with (first
   | ((with_reducible refine wpList_loadA hagx hLx ?_ ?_);rfl;go_frame)
   | ((with_reducible refine wpList_loadA hagk hLk ?_ ?_);rfl;go_frame)
   | ((with_reducible refine wpList_exec rfl (exec_eqlS eqGFl heq ?_ ?_ _) ?_);rfl;rfl;go_frame)
   | fail)
  refine hli.mono ?_
  rintro e w4 ⟨⟨v,rfl,hO⟩,hb4⟩
  have hsl:=hO.sl elEn.len
  have HB4:=Lib.hid (HB.out.trans (hb4.mono HB.out.size))
  have hP1:=(hb4.block _ (lt_of_block HP1.out)).trans HP1.out
  have hP2:=(hb4.block _ (lt_of_block HP2.out)).trans HP2.out
  have hco:=econtainsU_any w4 v (M.N x).L hsl w.heap.size w1.heap.size (fun y=>y.kind=1∧Reach M.N y.ino k) (fun w5 hb5 y hy=>funderF_any HT.out hy HK.out (cell_of ((hb5.block _ (lt_of_block hP1)).trans hP1) rfl) (lies_of ((hb5.block _ (lt_of_block hP2)).trans hP2)) fun w6 hb6 hy1=>HIH.out y hy hy1 w6 ((HB4.out.trans (hb5.mono HB4.out.size)).trans (hb6.mono (Nat.le_trans HB4.out.size hb5.size))))
  obtain ⟨av,nv,cv,rfl⟩:=hO.shape
  clear hli hO hb4 hsl hP1 hP2 hLk hLx heq q1
  go_wp2_with fail
  refine hco.mono ?_
  rintro e w5 ⟨⟨r,rfl,hr⟩,hb5⟩
  have HR:=Lib.hid hr
  have HB5:=Lib.hid (HB4.out.trans (hb5.mono HB4.out.size))
  clear hco hr hb5
  go_wp2
  go_ret
  exact ⟨⟨r,rfl,HR.out.trans (reach_iff HT.out HK.out HXK.out).symm⟩,HB5.out⟩
theorem funder_any (h:SAt w F FD s g p l d M) (hT:Tree M.N) {x k:Nat} (hx:1≤x∧x<41) (hxk:(M.N x).kind=1) (hk1:1≤k∧k<41) (hk:(M.N k).kind=1):UnderC w s M k x:=by
 obtain ⟨t,ht⟩:=hT.top
 have key: ∀m x,t x<m→1≤x∧x<41→(M.N x).kind=1→ ∀w,SAt w F FD s g p l d M→UnderC w s M k x:=by
  intro m
  induction m with
  | zero=>intro x hx;omega
  | succ m ih=>
   intro x hxm hx hxk w h
   refine funder_step h hT hx hxk hk1 hk fun y hy hy1 w2 hb2=> ?_
   have he:=hT.ent x y hy
   exact ih y.ino (by have:=ht x y hy;omega) ⟨by omega,he.2.1⟩ (he.2.2.2.1.trans hy1) w2 (h.below hb2)
 exact key _ x (Nat.lt_succ_self _) hx hxk w h
set_option maxRecDepth 20000 in
theorem freplaced_any (h:SAt w F FD s g p l d M) (hT:Tree M.N) {k:Nat} {y x:Ent} (hy:y∈(M.N k).L):Calls Tryz.prog 98 #[.pointer (some ⟨s,0,none⟩), .agg (entC y), .agg (entC x)] w
  fun e w'=>(∃c:Nat,e= .returned (.int .i64 (c:Nat))∧(y.kind≠x.kind∧c=12∨y.kind=x.kind∧(M.N y.ino).L≠ []∧c=13∨y.kind=x.kind∧(M.N y.ino).L= []∧c=0))∧Below w.heap.size w w':=by
 obtain ⟨w1,hw1⟩: ∃w1,w.alloc (.cells (entC y) 64)=w1:=⟨_,rfl⟩
 have hb1:Below w.heap.size w w1:=by rw [←hw1];exact (Below.refl _ _).alloc (Nat.le_refl _) _
 have hX1:w1.heap[w.heap.size]?=some (.cells (entC y) 64 (0,0)):=by rw [←hw1];exact heap_alloc_at
 obtain ⟨w2,hw2⟩: ∃w2,w1.alloc (.cells (entC x) 64)=w2:=⟨_,rfl⟩
 have hb2:Below w1.heap.size w1 w2:=by rw [←hw2];exact (Below.refl _ _).alloc (Nat.le_refl _) _
 have hX2:w2.heap[w1.heap.size]?=some (.cells (entC x) 64 (0,0)):=by rw [←hw2];exact heap_alloc_at
 have hb12:=hb1.trans (hb2.mono hb1.size)
 have p1:w2.heap[w.heap.size]?=some (.cells (entC y) 64 (0,0)):=(hb2.block _ (lt_of_block hX1)).trans hX1
 have qy:w2.cell? ⟨w.heap.size,3,none⟩=some (.int .i64 (y.kind:Nat)):=cell_of p1 rfl
 have qx:w2.cell? ⟨w1.heap.size,3,none⟩=some (.int .i64 (x.kind:Nat)):=cell_of hX2 rfl
 have hLy:=lies_of p1
 have hagy:=aggEn y
 have hfu:=ffull_any (h.below hb12) hT hy
 have HB:=Lib.hid hb12
 clear h hb1 hX1 hb2 hX2 hb12 p1
 go_enter Tryz.func98,Tryz.ntmps98
 go_upto_region 1 with fail
 simp only [hw1,hw2] at*
 clear hw1 hw2
 by_cases hk:y.kind=x.kind
 ·have hkk:((y.kind:Int) !=(x.kind:Int))=false:=by rw [hk];simp
  have HK:=Lib.hid hk
  clear hk
  go_wp2_with (first
   | ((with_reducible refine wpList_loadA hagy hLy ?_ ?_);rfl;go_frame)
   | fail)
  refine hfu.mono ?_
  rintro e w3 ⟨rfl,hb3⟩
  have HB3:=Lib.hid (HB.out.trans (hb3.mono HB.out.size))
  clear hfu hb3 hLy qx qy
  by_cases hL:(M.N y.ino).L= []
  ·have hd:decide ((M.N y.ino).L≠ [])=false:=by rw [hL];rfl
   rw [hd]
   have HL:=Lib.hid hL
   clear hd hL
   go_wp2
   go_ret
   exact ⟨⟨0,rfl, .inr (.inr ⟨HK.out,HL.out,rfl⟩)⟩,HB3.out⟩
  ·have hd:decide ((M.N y.ino).L≠ [])=true:=decide_eq_true hL
   rw [hd]
   have HL:=Lib.hid hL
   clear hd hL
   go_wp2
   go_ret
   exact ⟨⟨13,rfl, .inr (.inl ⟨HK.out,HL.out,rfl⟩)⟩,HB3.out⟩
 ·have hkk:((y.kind:Int) !=(x.kind:Int))=true:=bne_iff_ne.2 (by omega)
  have HK:=Lib.hid hk
  clear hk
  go_wp2
  go_ret
  exact ⟨⟨12,rfl, .inl ⟨HK.out,rfl⟩⟩,HB.out⟩
end
theorem eqEn_b (x y:Ent):decide (x=y)=(x.name.toList==y.name.toList&&(((x.ino:Int)==(y.ino:Int)&&(x.gen:Int)==(y.gen:Int))&&(x.kind:Int)==(y.kind:Int))):=by
 rw [Bool.eq_iff_iff]
 obtain ⟨s,i,g,k⟩:=x
 obtain ⟨s',i',g',k'⟩:=y
 simp only [decide_eq_true_eq,Ent.mk.injEq,Bool.and_eq_true,beq_iff_eq]
 have hs:s=s'↔s.toList=s'.toList:=by
  refine ⟨fun h=>by rw [h],fun h=> ?_⟩
  rw [ByteArray.toList_eq,ByteArray.toList_eq] at h
  obtain ⟨⟨l⟩⟩:=s
  obtain ⟨⟨l'⟩⟩:=s'
  simp at h
  rw [h]
 rw [hs]
 constructor
 ·rintro ⟨h1,h2,h3,h4⟩
  exact ⟨h1,⟨by omega,by omega⟩,by omega⟩
 ·rintro ⟨h1,⟨h2,h3⟩,h4⟩
  exact ⟨h1,by omega,by omega,by omega⟩
set_option maxRecDepth 20000 in
theorem eqEn (w:World) (x y:Ent):(Op.equalIn 10000 64 (.agg (entC x)) (.agg (entC y))).run Tryz.prog w= .ok (decide (x=y)) w:=by
 rw [run_equalIn_agg w 9999 64 _ _ (by simp [Program.fieldsOf,Tryz.underlying64]) (by kernel_rfl)]
 rw [eqEn_b]
 obtain ⟨s,i,g,k⟩:=x
 obtain ⟨s',i',g',k'⟩:=y
 simp only [entC,enEn]
 simp [go_sem,Program.fieldsOf,Tryz.underlying64,Tryz.underlying33,Op.eqFields,part,isAgg]
 by_cases h1:s.toList=s'.toList
 ·by_cases h2:(i:Int)=(i':Int)
  ·by_cases h3:(g:Int)=(g':Int)
   ·by_cases h4:(k:Int)=(k':Int)
    ·simp [h1,h2,h3,h4]
    ·simp [h1,h2,h3,h4]
   ·simp [h1,h2,h3]
  ·simp [h1,h2]
 ·simp [h1]
theorem eqGEn:Tryz.prog.eqGuardType Tryz.prog.depth 64=false:=by kernel_rfl
theorem built_z:Tryz.prog.built 64 []=some (entC Ent.zero):=by kernel_rfl
theorem entC_name (x:Ent) (u:ByteArray):(entC x).setIfInBounds 0 (.string u)=entC ⟨u,x.ino,x.gen,x.kind⟩:=rfl
section
variable {w w':World} {F FD:Nat→Prop} {s g p:Nat} {l:Lg} {d:Dsk} {M:Sm}
theorem lout_mod {α:Type} {en:α→List Value} {k:Nat} {e:TypeId} {B:Nat} {v:Value} {xs:List α} {S:Nat→Prop} (h:LOut en k e B w v xs) (hm:Mod S w w') (hS: ∀r,v.ownBlock=some r→¬ S r):LOut en k e B w' v xs:=
 h.kept hm.size fun r hr=>hm.block r (h.lt hr) (hS r hr)
theorem Chs.less {n m0 i e1:Nat} {V:Nat→List Nat} {N0:Nat→Nd} {P0:Nat→List Nat} {T0 T1:Nat→Bool} {H0 H1:Nat→Option (List Nat)} {b1:List Nat} {t:ByteArray} (h:Rep n V M) (hc:Chs n V M N0 P0 T0 H0 m0) (hi:1≤i∧i<41) (hk:(M.N i).kind=1) (eN:N0 i=M.N i) (eP:P0 i=M.P i) (hv:(M.N i).ver<1099511627775) (hs:SetTo n T0 H0 0 (M.P i) (dirB ((M.N i).L.filter (ne_ t))) 8 T1 H1 e1 b1):
  e1=0∧Chs n V M (Fm.upd N0 i {M.N i with L:=(M.N i).L.filter (ne_ t),ver:=(M.N i).ver+1}) (Fm.upd P0 i b1) T1 (putH H1 (1+i) (Ino.sec ⟨1,(M.N i).gen,(M.N i).ver+1,b1⟩)) (m0+6):=by
 have hok:(∀e∈(M.N i).L,Ent.ok e)∧(M.N i).L.length≤24:=by
  rcases (h.nd i).knd with k|k|k
  ·omega
  ·exact ⟨k.2.1,k.2.2.2.1⟩
  ·omega
 have c2:=hc.dir (L:=(M.N i).L.filter (ne_ t)) h.n1 hi (by rw [eN];exact hk) (fun e he=>hok.1 e (ne_mem.1 he).1) ((rise_of (h.nd i)).filter _) (Nat.le_trans (ne_len _ _) hok.2) (by rw [eN];exact hv) (by rw [eP];exact hs)
 rw [eN] at c2
 rcases c2 with ⟨he,c2⟩|⟨-,hst⟩
 ·exact ⟨he,c2⟩
 ·exact absurd hst (not_stuck (by rw [eN];exact hk) (by rw [eN];exact ne_len _ _))
structure Mv0 (w6:World) (s c:Nat) (n:Nat) (V:Nat→List Nat) (M:Sm) (b:Int×Int) (u:ByteArray) (x:Ent) (i k:Nat) (N0:Nat→Nd) (P0:Nat→List Nat) (T0:Nat→Bool) (H0:Nat→Option (List Nat)) (m0:Nat) (G:Nat→Prop) (wx:World):Prop where
 ch:ChAt wx G c s n T0 H0 0
 chs:Chs n V M N0 P0 T0 H0 m0
 bel:Below w6.heap.size w6 wx
 lo: ∀b,G b→w6.heap.size≤b
 was:RenWas M b u x N0
 few:m0≤1
 ei:N0 i=M.N i∧P0 i=M.P i
 ek:N0 k=M.N k∧P0 k=M.P k
structure Mv1 (w6:World) (s c:Nat) (n:Nat) (V:Nat→List Nat) (M:Sm) (a:Int×Int) (t:ByteArray) (b:Int×Int) (u:ByteArray) (x:Ent) (k:Nat) (N0:Nat→Nd) (P1:Nat→List Nat) (T1:Nat→Bool) (H1:Nat→Option (List Nat)) (G:Nat→Prop) (wx:World):Prop where
 ch:ChAt wx G c s n T1 H1 0
 chs:Chs n V M (renN1 M a t b N0) P1 T1 H1 7
 bel:Below w6.heap.size w6 wx
 lo: ∀b,G b→w6.heap.size≤b
 was:RenWas M b u x N0
 ek:renN1 M a t b N0 k=M.N k∧P1 k=M.P k
theorem Chs.mono {n m m':Nat} {V:Nat→List Nat} {N:Nat→Nd} {P:Nat→List Nat} {T:Nat→Bool} {H:Nat→Option (List Nat)} (h:Chs n V M N P T H m) (hm:m≤m'):Chs n V M N P T H m':=⟨h.mid,h.ck.mono hm,h.zero,h.in_,h.nd⟩
theorem list_ok (h: ∀j,NdOk (M.N j)) (j:Nat):(∀e∈(M.N j).L,Ent.ok e)∧(M.N j).L.length≤24:=by
 rcases (h j).knd with k|k|k
 ·rw [k.2.2.1];exact ⟨fun e he=>(by cases he),Nat.zero_le _⟩
 ·exact ⟨k.2.1,k.2.2.2.1⟩
 ·rw [k.2.1];exact ⟨fun e he=>(by cases he),Nat.zero_le _⟩
end
end Go.Proofs.YtjdbbnhnbdocbaaGreat
