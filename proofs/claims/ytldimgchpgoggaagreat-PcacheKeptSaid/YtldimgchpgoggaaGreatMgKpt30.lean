import Derived.Test.YtldimgchpgoggaaGreatMgKpt29
namespace Go.Tn.Pc
open Go.Tn.Slo Go.Tn.Ck
def PC.get (c:PC) (b:Blk):PC×Slt×Bool:=match c.find b with
 |some i=>({c with R:=c.R.touch i},c.at_ i,true)
 |none=>(c,Slt.no,false)
theorem touch_len (r:Rn) (i:Nat):(r.touch i).L.length=r.L.length:=by
 unfold Rn.touch
 split
 · unfold Rn.put;simp
 · rfl
theorem touch_used (r:Rn) (i j:Nat):((r.touch i).at_ j).used=(r.at_ j).used:=by
 unfold Rn.touch
 split
 · rename_i h
   by_cases hi:i<r.L.length
   · rw [rn_at_put hi]
     by_cases hj:j=i
     · rw [if_pos hj,hj]
     · rw [if_neg hj]
   · unfold Rn.put Rn.at_
     simp only
     rw [List.set_eq_of_length_le (by omega)]
 · rfl
theorem PC.Ok.ring {c:PC} (h:c.Ok) {r:Rn} (h1:r.L.length=c.R.L.length) (h2: ∀i,i<c.L.length→(r.at_ i).used=(c.R.at_ i).used):({c with R:=r}:PC).Ok:=
 ⟨h1.trans h.len,h.is,h.uniq,fun i hi=>(h2 i hi).trans (h.used i hi)⟩
theorem PC.Ok.get {c:PC} (h:c.Ok) (b:Blk):(c.get b).1.Ok:=by
 unfold PC.get
 split
 · exact h.ring (touch_len _ _) fun i _=>touch_used _ _ _
 · exact h
end Go.Tn.Pc
namespace Go.Proofs.YtldimgchpgoggaaGreat
open Go.RowKit Go.Tn Go.Tn.Bt Go.Tn.Lp Go.Tn.Dk Go.Tn.Ino Go.Tn.Slo Go.Tn.Ck Go.Tn.Pc
section
variable {w w':World} {F FD F' FD':Nat→Prop} {A:CA} {l l':Lg} {d d':Dsk} {P P':PC}
theorem is_w64 {x:Slt} (h:x.is):Slt.w64 x∧x.data.size≤maxLen:=by
 have h2:=is_num h
 refine ⟨?_,by unfold maxLen;omega⟩
 unfold Slt.w64
 omega
set_option maxRecDepth 20000 in
set_option maxHeartbeats 2000000 in
theorem pput1_any (w:World) (i:Nat) (hi:i<64) (x:Slt) (hx:x.is):Calls Tryz.prog 64 #[.int .i64 i, .agg (slC x)] w
   fun e w'=> ∃a n c,e= .returned (.tuple #[.agg #[.int .i64 (1+(i:Int)), .slice a n c], .int .i64 0])∧LOut en8 1 5 w.heap.size w' (.slice a n c) x.sec∧Below w.heap.size w w':=by
 have hag:=aggSl x
 obtain ⟨w1,hw1⟩: ∃w1,(w.alloc (.cells (slC x) 42)).alloc (.cells #[.int .i64 0, .slice none 0 0] 113)=w1:=⟨_,rfl⟩
 have hb0:Below w.heap.size w (w.alloc (.cells (slC x) 42)):=(Below.refl _ _).alloc (Nat.le_refl _) _
 have hb1:Below w.heap.size w w1:=by rw [←hw1];exact hb0.alloc (by simp) _
 have hL:Lies w1 w.heap.size 0 (slC x):=by
   rw [←hw1]
   exact (lies_of heap_alloc_at).below' ((Below.refl _ _).alloc (Nat.le_refl _) _) (by simp)
 have hP:w1.heap[w.heap.size+1]?=some (.cells #[.int .i64 0, .slice none 0 0] 113 (0,0)):=by
   rw [←hw1]
   have:=heap_alloc_at (w:=w.alloc (.cells (slC x) 42)) (o:= .cells #[.int .i64 0, .slice none 0 0] 113)
   simpa using this
 have hs1:w1.heap.size=w.heap.size+2:=by rw [←hw1];simp
 have hen:=senc_any w1 x (is_w64 hx).1 (is_w64 hx).2
 simp only [SEnc,if_pos hx] at hen
 have hi63:(i:Int)<64:=by omega
 have HB1:=Lib.hid hb1
 have HP:=Lib.hid hP
 have HS:=Lib.hid hs1
 clear hb0 hb1 hP hs1
 go_enter Tryz.func64,Tryz.ntmps64
 go_upto_region 1 with fail
 simp only [hw1] at*
 clear hw1
 go_wp2_with (first
   |((with_reducible refine wpList_loadA hag hL ?_ ?_);rfl;go_frame)
   |fail)
 refine hen.mono ?_
 rintro e w2 ⟨⟨v,rfl,hO⟩,hb2⟩
 obtain ⟨a,n,c,rfl⟩:=hO.shape
 have hp2:=(hb2.block (w.heap.size+1) (by rw [HS.out];omega)).trans HP.out
 have hagp:=aggPt (1+(i:Int)) (.slice a n c)
 have hone:(#[.int .i64 (1+(i:Int)), .slice a n c]:Array Value).all (·.oneCell')=true:=by simp [Value.oneCell']
 have HO:=Lib.hid hO
 have HB2:=Lib.hid hb2
 clear hen hL hO hb2
 go_wp2_with (first
   |((with_reducible refine wpList_storeB hagp ?_ ?_ hp2 rfl hone ?_);rfl;rfl;(intro w9 hh9 hm9;have HH9:=Lib.hid hh9;have HM9:=Lib.hid hm9;clear hh9 hm9);go_frame)
   |fail)
 refine bodyPost_ret (results_cellT rfl _ rfl hagp (lies_of HH9.out)) rfl ?_
 refine ⟨a,n,c,rfl,?_,?_⟩
 · have h1:=HO.out.kept HM9.out.size fun r hr=>HM9.out.block r (HO.out.lt hr) fun e=>by
     have h1:=HO.out.lo r hr
     have h2:=HS.out
     have e:r=w.heap.size+1:=e
     omega
   exact h1.mono HB1.out.size
 · exact HB1.out.trans ((HB2.out.mono HB1.out.size).trans (HM9.out.below (Nat.le_trans HB1.out.size HB2.out.size) fun x hx e=>by have e:x=w.heap.size+1:=e;omega))
theorem WhAt.ring {b:Nat} (h:WhAt w b P) (r:Rn):WhAt w b {P with R:=r}:=⟨h.ex⟩
theorem CAt.rung (h:CAt w F FD A l d P) {r:Rn} (hr:RgAt w' A.rb r) (hm:Mod (fun b=>b=A.rb) w w') (hok:({P with R:=r}:PC).Ok):CAt w' F FD A l d {P with R:=r}:=by
 have hlog:LAt w' F A.g A.p l:=h.log.mod hm (fun b hb (e:b=A.rb)=>(h.own b (.inr (.inr (.inr e)))).1 hb)
 have hdsk:DAt w' FD A.p d:=h.disk.mod hm (fun b hb (e:b=A.rb)=>(h.own b (.inr (.inr (.inr e)))).2 hb)
 exact ⟨hm.heap h.blk h.ne.2.2.1,hm.heap h.slots h.ne.2.2.2.2.1,(h.wh.kept (hm.block _ h.wh.lt h.ne.2.2.2.2.2)).ring r,hr,hlog,hdsk,h.ap,h.own,h.ne,hok,h.num⟩
def GPst (w:World) (F FD:Nat→Prop) (A:CA) (l:Lg) (d:Dsk) (P:PC) (b:Blk) (e:Ending) (w':World):Prop:=e= .returned (.tuple #[.agg (slC (P.get b).2.1), .bool (P.get b).2.2])∧CAt w' F FD A l d (P.get b).1∧Mod A.own w w'
set_option maxRecDepth 20000 in
set_option maxHeartbeats 4000000 in
theorem pget_any (h:CAt w F FD A l d P) (b:Blk):Calls Tryz.prog 11 #[.pointer (some ⟨A.c,0,none⟩), .agg (blC b)] w fun e w'=>GPst w F FD A l d P b e w':=by
 obtain ⟨w1,hw1⟩: ∃w1,(w.alloc (.cells (blC b) 35)).alloc (.cells #[.bool false, .int .i64 0, .int .i64 0, .int .i64 0, .int .u64 0, .bool false, .string {data:= #[]}] 42)=w1:=⟨_,rfl⟩
 have hb0:Below w.heap.size w (w.alloc (.cells (blC b) 35)):=(Below.refl _ _).alloc (Nat.le_refl _) _
 have hb1:Below w.heap.size w w1:=by rw [←hw1];exact hb0.alloc (by simp) _
 have hB:Lies w1 w.heap.size 0 (blC b):=by
   rw [←hw1]
   exact (lies_of heap_alloc_at).below' ((Below.refl _ _).alloc (Nat.le_refl _) _) (by simp)
 have hZ:w1.heap[w.heap.size+1]?=some (.cells (slC Slt.no) 42 (0,0)):=by
   rw [←hw1]
   have:=heap_alloc_at (w:=w.alloc (.cells (blC b) 35)) (o:= .cells #[.bool false, .int .i64 0, .int .i64 0, .int .i64 0, .int .u64 0, .bool false, .string {data:= #[]}] 42)
   rw [World.size_alloc] at this
   exact this
 have hs1:w1.heap.size=w.heap.size+2:=by rw [←hw1];simp
 have hC1:=h.below hb1
 have hok:=pok_any hC1
 have hltw:=h.lt
 have c2:=hC1.c2
 obtain ⟨L,clk,hmap,hwf,hget⟩:=hC1.wh.ex
 have hgb:=hget b
 have HB1:=Lib.hid hb1
 have HC1:=Lib.hid hC1
 have HZ:=Lib.hid hZ
 have HS:=Lib.hid hs1
 have HLT:=Lib.hid hltw
 have hagn:=aggSl Slt.no
 have honn:=oneSl Slt.no
 have hbn:=built_no
 clear h hb0 hb1 hC1 hZ hs1 hget hltw
 go_enter Tryz.func11,Tryz.ntmps11
 go_upto_region 1 with fail
 simp only [hw1] at*
 clear hw1
 go_upto_region 3 with (first
   |(go_at_call 45;refine hok.mono ?_;rintro e wt ⟨rfl,hw⟩;obtain rfl:=hw.symm;clear hw)
   |fail)
 have hS:w1.drew.cell? ⟨A.c,2,none⟩=some (.map (some A.wb))∧Lies w1.drew w.heap.size 0 (blC b)∧w1.drew.heap[A.wb]?=some (.map (ents encB L) clk):=⟨c2,hB,hmap⟩
 refine wp_region_x (fun w'=>w'.cell? ⟨A.c,2,none⟩=some (.map (some A.wb))∧Lies w' w.heap.size 0 (blC b)∧w'.heap[A.wb]?=some (.map (ents encB L) clk)) [(0,1),(1,1),(2,1),(3,0),(4,0),(5,0),(6,1),(7,1),(8,1),(9,1),(10,1)] (by kernel_rfl) (by kernel_rfl) (by intro d v c a w h;cases d<;>exact h) ?_
 iterate 3 (refine x_take rfl (fun K hK=> ?_);go_simp;refine hK _ ?_;clear hK K)
 refine x_read rfl hS (fun w' h=>exec_load1 ⟨⟨_,Tryz.underlying66,rfl⟩⟩ rfl h.1) ?_
 refine x_read rfl hS (fun w' h=>exec_loadA (aggBl b) rfl h.2.1) ?_
 refine x_read rfl hS (fun w' h=>exec_lookup_ok keyB Tryz.underlying66 zeroI h.2.2 rfl b rfl) ?_
 iterate 5 (refine x_take rfl (fun K hK=> ?_);go_simp;refine hK _ ?_;clear hK K)
 refine x_nil ?_
 simp only [getD,hgb]
 cases hf:P.find b with
 |none=>
   have hpg:P.get b=(P,Slt.no,false):=by unfold PC.get;rw [hf]
   simp only [Option.map,Option.getD,Option.isSome]
   have hZ:=HZ.out
   have hz2:w1.drew.heap[w.heap.size+1]?=some (.cells (slC Slt.no) 42 (0,0)):=hZ
   clear hS c2 hB hmap hok hwf hgb hf
   go_wp2_with (first
     |((with_reducible refine wpList_exec rfl (exec_buildA (vals:= []) ?_ hbn) ?_);rfl;go_frame)
     |((with_reducible refine wpList_storeB hagn ?_ ?_ hz2 rfl honn ?_);rfl;rfl;(intro w9 hh9 hm9;have HH9:=Lib.hid hh9;have HM9:=Lib.hid hm9;clear hh9 hm9);go_frame)
     |fail)
   refine bodyPost_ret (results_cellT rfl _ rfl hagn (lies_of HH9.out)) rfl ?_
   refine ⟨by rw [hpg];rfl,?_,?_⟩
   · rw [hpg]
     have hC2:CAt w1.drew F FD A l d P:=HC1.out.below (Below.refl w1.heap.size w1).drew
     exact hC2.mod HM9.out fun x hx e=>by
       have:=HLT.out x hx
       have e:x=w.heap.size+1:=e
       omega
   · exact ((Mod.of_below HB1.out).mono (T:=A.own) fun x hx hS=>absurd hx (Nat.not_lt.2 hS)).trans ((Mod.refl (fun _=>False) w1).drew.trans HM9.out (T:=fun x=>x=w.heap.size+1) (fun x hx=>hx.elim) (fun x _ h=>h)) (fun x h=>h) (fun x hx e=>by
       have e:x=w.heap.size+1:=e
       omega)
 |some i=>
   have hpg:P.get b=({P with R:=P.R.touch i},P.at_ i,true):=by unfold PC.get;rw [hf]
   obtain ⟨hi,hu, -⟩:=(find_some HC1.out.ok).1 hf
   simp only [Option.map,Option.getD,Option.isSome]
   have hC2:CAt w1.drew F FD A l d P:=HC1.out.below (Below.refl w1.heap.size w1).drew
   have hiR:i<P.R.L.length:=by rw [hC2.ok.len];exact hi
   have hto:=ktouch_any hC2.ring i hiR (by rw [hC2.ok.used i hi];exact hu)
   have hok2:({P with R:=P.R.touch i}:PC).Ok:=by
     have:=hC2.ok.get b
     rw [hpg] at this
     exact this
   have c3:=hC2.c3
   have HC2:=Lib.hid hC2
   have HPG:=Lib.hid hpg
   have HOK2:=Lib.hid hok2
   clear hS c2 hB hmap hok hwf hgb hf hC2 hu hiR hpg hok2
   go_wp2_with fail
   refine hto.mono ?_
   rintro e w3 ⟨rfl,hr3,hm3⟩
   have hC3:=HC2.out.rung hr3 hm3 HOK2.out
   have hz3:w3.heap[w.heap.size+1]?=some (.cells (slC Slt.no) 42 (0,0)):=hm3.heap HZ.out fun e=>by
     have e:w.heap.size+1=A.rb:=e
     have:=HLT.out A.rb (.inl (.inr (.inr (.inr rfl))))
     omega
   obtain ⟨y,hy⟩: ∃y,P.at_ i=y:=⟨_,rfl⟩
   have hLy:Lies w3 A.sb (i*7) (slC y):=slots_lies hC3.slots (by rw [←hy];exact at_get hi)
   obtain ⟨n,hn⟩: ∃n,P.L.length=n:=⟨_,rfl⟩
   have c1:w3.cell? ⟨A.c,1,none⟩=some (.slice (some ⟨A.sb,0,none⟩) n n):=by rw [←hn];exact hC3.c1
   have hi63:(i:Int)<(n:Int):=by omega
   have hi':i<n:=by omega
   have hn64:n≤64:=by have:=hC3.ring.hi;have:=hC3.ok.len;simp only at*;omega
   have hagy:=aggSl y
   have hony:=oneSl y
   have HPG2:Hid (P.get b=({P with R:=P.R.touch i},y,true)):=Lib.hid (by rw [HPG.out,hy])
   have hmm:Mod A.own w w3:=((Mod.of_below HB1.out).mono (T:=A.own) fun x hx hS=>absurd hx (Nat.not_lt.2 hS)).trans (((Mod.refl (fun _=>False) w1).drew).trans hm3 (T:=fun x=>x=A.rb) (fun x hx=>hx.elim) (fun x _ h=>h)) (fun x h=>h) (fun x _ h=> .inr (.inr (.inr h)))
   have HC3:=Lib.hid hC3
   have HMM:=Lib.hid hmm
   have HS3:Hid (w.heap.size+2≤w3.heap.size):=Lib.hid (by have:=hm3.size;have h2:=HS.out;have e:w1.drew.heap.size=w1.heap.size:=rfl;omega)
   clear hto hr3 hm3 hC3 hy hn hi hmm
   go_wp2_with (first
     |((with_reducible refine wpList_loadA hagy hLy ?_ ?_);rfl;go_frame)
     |((with_reducible refine wpList_storeB hagy ?_ ?_ hz3 rfl hony ?_);rfl;rfl;(intro w9 hh9 hm9;have HH9:=Lib.hid hh9;have HM9:=Lib.hid hm9;clear hh9 hm9);go_frame)
     |fail)
   refine bodyPost_ret (results_cellT rfl _ rfl hagy (lies_of HH9.out)) rfl ?_
   refine ⟨by rw [HPG2.out];rfl,?_,?_⟩
   · rw [HPG2.out]
     exact HC3.out.mod HM9.out fun x hx e=>by
       have:=HLT.out x hx
       have e:x=w.heap.size+1:=e
       omega
   · exact HMM.out.trans HM9.out (fun x h=>h) (fun x hx e=>by
       have e:x=w.heap.size+1:=e
       omega)
end
end Go.Proofs.YtldimgchpgoggaaGreat
namespace Go.Tn.Ck
theorem step_used (r:Rn) (h:r.hand<r.L.length) (i:Nat):(r.step.1.at_ i).used=(r.at_ i).used∧ ∀k,r.step.2=some k→k=r.hand∧(r.at_ k).pinned=false:=by
 unfold Rn.step
 by_cases hp:(r.at_ r.hand).pinned
 · rw [if_pos hp]
   exact ⟨rfl,fun k e=>by cases e⟩
 · rw [if_neg hp]
   by_cases hm:(r.at_ r.hand).marked
   · rw [if_pos hm]
     refine ⟨?_,fun k e=>by cases e⟩
     have:=at_put (r:=r) h {r.at_ r.hand with marked:=false} i
     have e:({L:=r.L.set r.hand {r.at_ r.hand with marked:=false},hand:=(r.hand+1) %r.L.length}:Rn).at_ i=(r.put r.hand {r.at_ r.hand with marked:=false}).at_ i:=rfl
     rw [e,this]
     by_cases hi:i=r.hand
     · rw [if_pos hi,hi]
     · rw [if_neg hi]
   · rw [if_neg hm]
     exact ⟨rfl,fun k e=>by cases e;exact ⟨rfl,Bool.eq_false_iff.2 hp⟩⟩
theorem scan_keeps: ∀(m:Nat) (r:Rn),r.hand<r.L.length→(∀i,((r.scan m).1.at_ i).used=(r.at_ i).used∧((r.scan m).1.at_ i).pinned=(r.at_ i).pinned)∧ ∀k,(r.scan m).2=some k→k<r.L.length∧(r.at_ k).pinned=false
 |0,r,_=>⟨fun _=>⟨rfl,rfl⟩,fun k e=>by cases e⟩
 |m+1,r,h=>by
   have hu:=fun i=>step_used r h i
   have hp:=fun i=>(at_step h i).1
   have hh:r.step.1.hand<r.step.1.L.length:=by
     rw [step_hand,step_len]
     exact Nat.mod_lt _ (by omega)
   have hlen:=step_len r
   rw [Rn.scan]
   rcases hs:r.step with ⟨r',_|q⟩
   · rw [hs] at hu hp hh hlen
     obtain ⟨k1,k2⟩:=scan_keeps m r' hh
     refine ⟨fun i=>⟨(k1 i).1.trans (hu i).1,(k1 i).2.trans (hp i)⟩,fun k hk=> ?_⟩
     obtain ⟨e1,e2⟩:=k2 k hk
     exact ⟨by rw [←hlen];exact e1,by rw [←hp k];exact e2⟩
   · rw [hs] at hu hp
     refine ⟨fun i=>⟨(hu i).1,hp i⟩,fun k hk=> ?_⟩
     have hk:some q=some k:=hk
     cases hk
     obtain ⟨e1,e2⟩:=(hu 0).2 q rfl
     exact ⟨e1 ▸ h,e2⟩
theorem next_keeps (r:Rn) (h:r.hand<r.L.length):r.next.1.L.length=r.L.length∧r.next.1.hand<r.L.length∧(∀i,(r.next.1.at_ i).used=(r.at_ i).used∧(r.next.1.at_ i).pinned=(r.at_ i).pinned)∧
   ((r.next.2.2=8∧r.next.1=r∧r.allPinned=true∧ ∀i,i<r.L.length→(r.at_ i).used=true)∨ ∃k,r.next.2.2=0∧r.next.2.1=(k:Nat)∧k<r.L.length∧((r.at_ k).used=false∨(r.at_ k).pinned=false)):=by
 cases hf:r.free with
 |some i=>
   have e:r.next=(r,(i:Int),0):=by unfold Rn.next;rw [hf]
   rw [e]
   refine ⟨rfl,h,fun _=>⟨rfl,rfl⟩, .inr ⟨i,rfl,rfl,?_, .inl ?_⟩⟩
   · exact List.mem_range.1 (List.mem_of_find?_eq_some hf)
   · have:=List.find?_some hf
     simpa using this
 |none=>
   have hall: ∀i,i<r.L.length→(r.at_ i).used=true:=fun i hi=>by
     have:=List.find?_eq_none.1 hf i (List.mem_range.2 hi)
     simpa using this
   cases hp:r.allPinned with
   |true=>
     have e:r.next=(r, -1,8):=by unfold Rn.next;rw [hf];simp only;rw [if_pos hp]
     rw [e]
     exact ⟨rfl,h,fun _=>⟨rfl,rfl⟩, .inl ⟨rfl,rfl,rfl,hall⟩⟩
   |false=>
     obtain ⟨i,hi⟩:=scan_some h hp
     obtain ⟨k1,k2⟩:=scan_keeps (2*r.L.length) r h
     have hl:=scan_len (2*r.L.length) r
     have hh:=scan_hand (2*r.L.length) r h
     rcases hs:r.scan (2*r.L.length) with ⟨r',o⟩
     rw [hs] at hi k1 k2 hl hh
     simp only at hi k1 k2 hl hh
     subst hi
     have e:r.next=(r',(i:Int),0):=by unfold Rn.next;rw [hf];simp only;rw [if_neg (by rw [hp];decide),hs]
     rw [e]
     obtain ⟨e1,e2⟩:=k2 i rfl
     exact ⟨hl,hh,k1, .inr ⟨i,rfl,rfl,e1, .inr e2⟩⟩
end Go.Tn.Ck
namespace Go.Tn.Pc
open Go.Tn Go.Tn.Slo Go.Tn.Ck Go.Tn.Dk
def PC.place (c:PC) (b:Blk):PC×Nat×Nat:=match c.find b with
 |some i=>(c,i,0)
 |none=>({c with R:=c.R.next.1},c.R.next.2.1.toNat,c.R.next.2.2)
open Classical in
noncomputable def PC.put (c:PC) (x:Slt):PC×Nat:=
 if ¬(x.is∧x≠Slt.no) then (c,2) else
 if (c.place x.blk).2.2≠0 then ((c.place x.blk).1,(c.place x.blk).2.2) else ((c.place x.blk).1.set (c.place x.blk).2.1 x,0)
def slotPut (i:Nat) (x:Slt):Pt:=(1+(i:Int),x.sec)
def putAt (c:PC) (l:Lg) (d:Dsk) (i:Nat) (x:Slt):PC×(Lg×Dsk×Nat):=(if (stWr l d [slotPut i x]).2.2=0 then c.set i x else c,stWr l d [slotPut i x])
open Classical in
noncomputable def PC.putD (c:PC) (l:Lg) (d:Dsk) (x:Slt):PC×(Lg×Dsk×Nat):=
 if ¬(x.is∧x≠Slt.no) then (c,(l,d,2)) else
 if (c.place x.blk).2.2≠0 then ((c.place x.blk).1,(l,d,(c.place x.blk).2.2)) else putAt (c.place x.blk).1 l d (c.place x.blk).2.1 x
theorem place_ok {c:PC} (h:c.Ok) (hh:c.R.hand<c.R.L.length) (b:Blk):(c.place b).1.Ok∧(c.place b).1.L=c.L∧(c.place b).1.num=c.num∧(c.place b).1.R.hand<c.R.L.length∧(∀i,((c.place b).1.R.at_ i).pinned=(c.R.at_ i).pinned)∧
   ((c.place b).2.2=8∧(c.place b).1=c∧c.R.allPinned=true∧(∀i,i<c.L.length→(c.at_ i).used=true)∧c.find b=none∨(c.place b).2.2=0∧(c.place b).2.1<c.L.length∧
     (∀j,j<c.L.length→j≠(c.place b).2.1→(c.at_ j).used=true→(c.at_ j).blk≠b)∧(c.find b=none→(c.at_ (c.place b).2.1).used=false∨(c.R.at_ (c.place b).2.1).pinned=false)):=by
 unfold PC.place
 cases hf:c.find b with
 |some i=>
   obtain ⟨h1,h2,h3⟩:=(find_some h).1 hf
   exact ⟨h,rfl,rfl,hh,fun _=>rfl, .inr ⟨rfl,h1,fun j hj hji hu e=>hji (h.uniq j i hj h1 hu h2 (e.trans h3.symm)),fun e=>by cases e⟩⟩
 |none=>
   obtain ⟨k1,k2,k3,k4⟩:=next_keeps c.R hh
   refine ⟨h.ring k1 fun i _=>(k3 i).1,rfl,rfl,k2,fun i=>(k3 i).2,?_⟩
   rcases k4 with ⟨e1,e2,e3,e4⟩|⟨k,e1,e2,e3,e4⟩
   · refine .inl ⟨e1,?_,e3,fun i hi=> ?_,rfl⟩
     · show ({c with R:=c.R.next.1}:PC)=c
       rw [e2]
     · rw [←h.used i hi]
       exact e4 i (by rw [h.len];exact hi)
   · have e5:c.R.next.2.1.toNat=k:=by rw [e2];rfl
     refine .inr ⟨e1,?_,?_,?_⟩
     · show c.R.next.2.1.toNat<_
       rw [e5, ←h.len];exact e3
     · intro j hj _ hu
       exact find_none.1 hf j hj hu
     · intro _
       show (c.at_ c.R.next.2.1.toNat).used=false∨_
       rw [e5]
       refine e4.imp (fun e=> ?_) id
       rw [←h.used k (by rw [←h.len];exact e3)]
       exact e
theorem at_of_L {c c':PC} (h:c'.L=c.L) (i:Nat):c'.at_ i=c.at_ i:=by
 unfold PC.at_
 rw [h]
theorem place_set {c:PC} (h:c.Ok) (hh:c.R.hand<c.R.L.length) {x:Slt} (hx:x.is) (h0:(c.place x.blk).2.2=0):
   (c.place x.blk).2.1<(c.place x.blk).1.L.length∧ ∀j,j<(c.place x.blk).1.L.length→j≠(c.place x.blk).2.1→((c.place x.blk).1.at_ j).used=true→((c.place x.blk).1.at_ j).blk≠x.blk∨x=Slt.no:=by
 obtain ⟨k1,k2,k3,k4,k5,k6⟩:=place_ok h hh x.blk
 rcases k6 with ⟨e, -⟩|⟨-,e1,e2, -⟩
 · rw [h0] at e
   cases e
 · rw [k2]
   refine ⟨e1,fun j hj hji hu=> .inl ?_⟩
   rw [at_of_L k2] at hu ⊢
   exact e2 j hj hji hu
theorem set_hand (c:PC) (i:Nat) (x:Slt):(c.set i x).R.hand=c.R.hand:=ringSet_hand _ _ _
theorem put_ok {c:PC} (h:c.Ok) (hh:c.R.hand<c.R.L.length) (x:Slt):(c.put x).1.Ok∧(c.put x).1.L.length=c.L.length∧(c.put x).1.num=c.num∧(c.put x).1.R.hand<c.R.L.length:=by
 obtain ⟨k1,k2,k3,k4,k5,k6⟩:=place_ok h hh x.blk
 unfold PC.put
 split
 · exact ⟨h,rfl,rfl,hh⟩
 · rename_i hx
   have hx:=Classical.not_not.1 hx
   split
   · exact ⟨k1,by rw [k2],k3,k4⟩
   · rename_i h0
     have h0:=Classical.not_not.1 h0
     obtain ⟨e1,e2⟩:=place_set h hh hx.1 h0
     refine ⟨k1.set e1 hx.1 e2,?_,k3,?_⟩
     · rw [set_len,k2]
     · rw [set_hand]
       exact k4
end Go.Tn.Pc
namespace Go.Proofs.YtldimgchpgoggaaGreat
open Go.RowKit Go.Tn Go.Tn.Bt Go.Tn.Lp Go.Tn.Dk Go.Tn.Ino Go.Tn.Slo Go.Tn.Ck Go.Tn.Pc
section
variable {w w':World} {F FD F' FD':Nat→Prop} {A:CA} {l l':Lg} {d d':Dsk} {P P':PC}
def CSt (w:World) (F FD:Nat→Prop) (A:CA) (r:PC×(Lg×Dsk×Nat)) (w':World):Prop:= ∃F' FD',CAt w' F' FD' A r.2.1 r.2.2.1 r.1∧Mod (A.all F FD) w w'∧(∀b,F' b→F b∨w.heap.size≤b)∧ ∀b,FD' b→FD b∨w.heap.size≤b
def CW (w:World) (F FD:Nat→Prop) (A:CA) (r:PC×(Lg×Dsk×Nat)) (e:Ending) (w':World):Prop:=e= .returned (.int .i64 (r.2.2.2:Nat))∧CSt w F FD A r w'
theorem CSt.trans {r2:PC×(Lg×Dsk×Nat)} {w1 w2:World} (hm:Mod (A.all F FD) w w1) (h1: ∀b,F' b→F b∨w.heap.size≤b) (h2: ∀b,FD' b→FD b∨w.heap.size≤b) (h:CSt w1 F' FD' A r2 w2):CSt w F FD A r2 w2:=by
 obtain ⟨F2,FD2,k2,k3,k4,k5⟩:=h
 refine ⟨F2,FD2,k2,hm.trans k3 (fun x hx=>hx) (fun x hx hs=> ?_),fun b hb=> ?_,fun b hb=> ?_⟩
 · rcases hs with hs|hs|hs
   · exact .inl hs
   · rcases h1 x hs with h|h
     · exact .inr (.inl h)
     · omega
   · rcases h2 x hs with h|h
     · exact .inr (.inr h)
     · omega
 · rcases k4 b hb with h|h
   · exact h1 b h
   · exact .inr (Nat.le_trans hm.size h)
 · rcases k5 b hb with h|h
   · exact h2 b h
   · exact .inr (Nat.le_trans hm.size h)
theorem CSt.ahead {r2:PC×(Lg×Dsk×Nat)} {w1 w2:World} (hb:Below w.heap.size w w1) (h:CSt w1 F FD A r2 w2):CSt w F FD A r2 w2:=
 CSt.trans ((Mod.of_below hb).mono (T:=A.all F FD) fun _ hx hS=>absurd hx (Nat.not_lt.2 hS)) (fun _ h=> .inl h) (fun _ h=> .inl h) h
theorem CSt.same {e:Nat} (h:CAt w' F FD A l d P) (hm:Mod (A.all F FD) w w'):CSt w F FD A (P,(l,d,e)) w':=⟨F,FD,h,hm,fun _ h=> .inl h,fun _ h=> .inl h⟩
theorem CSt.behind {r2:PC×(Lg×Dsk×Nat)} {w1 w2:World} (h:CSt w F FD A r2 w1) (hb:Below w1.heap.size w1 w2):CSt w F FD A r2 w2:=by
 obtain ⟨F2,FD2,k2,k3,k4,k5⟩:=h
 exact ⟨F2,FD2,k2.below hb,k3.trans (Mod.of_below hb) (T:=A.all F FD) (fun _ h=>h) (fun x hx h=>absurd (Nat.lt_of_lt_of_le hx k3.size) (Nat.not_lt.2 h)),k4,k5⟩
structure Fit (l:Lg) (d:Dsk):Prop where
 ok:l.ok d
 ok2: ∀ps,(l.write d ps).2.2=8→(l.check d).2.2=0→(l.check d).1.ok (l.check d).2.1
 Q:d.Q.length≤999900000
theorem CPost.st {r:Lg×Dsk×Nat} {e:Ending} (h:CPost w F FD A r P e w'):CSt w F FD A (P,r) w':=by
 obtain ⟨-,F2,FD2,h1,h2,h3,h4⟩:=h
 exact ⟨F2,FD2,h1,h2.mono fun b _ hb=>hb.elim (fun h=> .inr (.inl h)) (fun h=> .inr (.inr h)),h3,h4⟩
set_option maxRecDepth 20000 in
set_option maxHeartbeats 8000000 in
theorem pput_any (h:CAt w F FD A l d P) (hf:Fit l d) (x:Slt) (h64:Slt.w64 x) (hmx:x.data.size≤maxLen):Calls Tryz.prog 29 #[.pointer (some ⟨A.c,0,none⟩), .agg (slC x)] w fun e w'=>CW w F FD A (P.putD l d x) e w':=by
 obtain ⟨w1,hw1⟩: ∃w1,w.alloc (.cells (slC x) 42)=w1:=⟨_,rfl⟩
 have hb1:Below w.heap.size w w1:=by rw [←hw1];exact (Below.refl _ _).alloc (Nat.le_refl _) _
 have hX:w1.heap[w.heap.size]?=some (.cells (slC x) 42 (0,0)):=by rw [←hw1];exact heap_alloc_at
 have hC1:=h.below hb1
 have hltw:=h.lt
 have hhd:P.R.hand<P.R.L.length:=h.ring.hand
 have hpl:=place_ok h.ok hhd x.blk
 have hok:=pok_any hC1
 have hag:=aggSl x
 have hL:=lies_of hX
 have hen:=senc_any w1 x h64 hmx
 have HF:=Lib.hid hf
 have HB1:=Lib.hid hb1
 have HX:=Lib.hid hX
 have HC1:=Lib.hid hC1
 have HLT:=Lib.hid hltw
 have HPL:=Lib.hid hpl
 have HHD:=Lib.hid hhd
 have hst:CSt w F FD A (P,(l,d,2)) w1:=CSt.same hC1 ((Mod.of_below hb1).mono fun _ hx hS=>absurd hx (Nat.not_lt.2 hS))
 clear h hf hb1 hX hC1 hltw hpl hhd
 go_enter Tryz.func29,Tryz.ntmps29
 go_upto_region 1 with fail
 simp only [hw1] at*
 by_cases hxx:x.is∧x≠Slt.no
 · have hxi:=hxx.1
   simp only [SEnc,if_pos hxi] at hen
   have hfr:=fun w=>sfree_any w x
   have hpd:P.putD l d x=if (P.place x.blk).2.2≠0 then ((P.place x.blk).1,(l,d,(P.place x.blk).2.2)) else putAt (P.place x.blk).1 l d (P.place x.blk).2.1 x:=by
     unfold PC.putD
     rw [if_neg (fun e=>e hxx)]
   rw [decide_eq_false hxx.2] at hfr
   have HPD:=Lib.hid hpd
   have HXI:=Lib.hid hxi
   have HXX:=Lib.hid hxx
   clear hst hpd hw1 hxx hxi
   go_upto_region 3 with (first
     |(go_at_call 45;refine hok.mono ?_;rintro e wt ⟨rfl,hw⟩;obtain rfl:=hw.symm;clear hw)
     |fail)
   go_wp2_with (first
     |((with_reducible refine wpList_loadA hag hL ?_ ?_);rfl;go_frame)
     |fail)
   refine hen.mono ?_
   rintro e w2 ⟨⟨v,rfl,hO⟩,hb2⟩
   obtain ⟨a2,n2,k2,rfl⟩:=hO.shape
   have hx2:=(hb2.block _ (lt_of_block HX.out)).trans HX.out
   have hL2:=lies_of hx2
   have hfr2:=hfr w2
   have HB2:=Lib.hid hb2
   have HX2:=Lib.hid hx2
   clear hen hL hok hfr hO hb2 hx2
   go_wp2_with (first
     |((with_reducible refine wpList_execW (exec_loadA hag ?_ hL2) ?_ ?_);rfl;(first|rfl|(go_simp;done));go_frame)
     |fail)
   refine hfr2.mono ?_
   rintro e w3 ⟨rfl,hb3⟩
   have hb13:=HB2.out.trans (hb3.mono HB2.out.size)
   have hx3:=(hb3.block _ (lt_of_block HX2.out)).trans HX2.out
   have hC3:=HC1.out.below hb13
   have hL3:=lies_of hx3
   have HX3:=Lib.hid hx3
   have HC3:=Lib.hid hC3
   have HB13:=Lib.hid (HB1.out.trans (hb13.mono HB1.out.size))
   have c2:=hC3.c2
   obtain ⟨L,clk,hmap,hwf,hget⟩:=hC3.wh.ex
   have hgb:=hget x.blk
   clear hfr2 hL2 hb3 hb13 hx3 hC3 hwf hget HB1 HX HC1 HB2 HX2
   go_upto_region 6 with fail
   have hS:w3.drew.cell? ⟨A.c,2,none⟩=some (.map (some A.wb))∧Lies w3.drew w.heap.size 1 (blC x.blk)∧w3.drew.heap[A.wb]?=some (.map (ents encB L) clk):=⟨c2,fun j hj=>by
       match j,hj with
       |0,_=>exact cell_of (w:=w3.drew) HX3.out rfl
       |1,_=>exact cell_of (w:=w3.drew) HX3.out rfl
       |2,_=>exact cell_of (w:=w3.drew) HX3.out rfl,hmap⟩
   refine wp_region_x (fun w'=>w'.cell? ⟨A.c,2,none⟩=some (.map (some A.wb))∧Lies w' w.heap.size 1 (blC x.blk)∧w'.heap[A.wb]?=some (.map (ents encB L) clk)) [(0,1),(1,1),(2,1),(3,0),(4,1),(5,0),(6,0),(7,1),(8,1),(9,1),(10,1),(11,1)] (by kernel_rfl) (by kernel_rfl) (by intro d v c a w h;cases d<;>exact h) ?_
   iterate 3 (refine x_take rfl (fun K hK=> ?_);go_simp;refine hK _ ?_;clear hK K)
   refine x_read rfl hS (fun w' h=>exec_load1 ⟨⟨_,Tryz.underlying66,rfl⟩⟩ rfl h.1) ?_
   iterate 1 (refine x_take rfl (fun K hK=> ?_);go_simp;refine hK _ ?_;clear hK K)
   refine x_read rfl hS (fun w' h=>exec_loadA (aggBl x.blk) rfl h.2.1) ?_
   refine x_read rfl hS (fun w' h=>exec_lookup_ok keyB Tryz.underlying66 zeroI h.2.2 rfl x.blk rfl) ?_
   iterate 5 (refine x_take rfl (fun K hK=> ?_);go_simp;refine hK _ ?_;clear hK K)
   refine x_nil ?_
   simp only [getD,hgb]
   clear hS c2 hmap hgb
   -- where the block is to lie
   have hC4:CAt w3.drew F FD A l d P:=HC3.out.below (Below.refl w3.heap.size w3).drew
   have HC4:=Lib.hid hC4
   have HX4:Hid (w3.drew.heap[w.heap.size]?=some (.cells (slC x) 42 (0,0))):=Lib.hid HX3.out
   have HS34:Hid (w.heap.size+1≤w3.drew.heap.size):=Lib.hid (lt_of_block HX3.out)
   have HM4:Hid (Mod A.own w w3.drew):=Lib.hid ((Mod.of_below HB13.out).mono (T:=A.own) fun _ hx hS=>absurd hx (Nat.not_lt.2 hS)).drew
   clear hC4 HC3 HX3 HB13
   generalize w3.drew=w4 at*
   obtain ⟨fo,hfo⟩: ∃fo,P.find x.blk=fo:=⟨_,rfl⟩
   rw [hfo]
   have HFO:=Lib.hid hfo
   clear hfo
   obtain ⟨th,hth⟩: ∃th,fo.isSome=th:=⟨_,rfl⟩
   obtain ⟨iv0,hiv0⟩: ∃iv0,(Option.map (fun (i:Nat)=>Value.int .i64 (i:Nat)) fo).getD (.int .i64 0)=iv0:=⟨_,rfl⟩
   rw [hth,hiv0]
   have HTH:=Lib.hid hth
   have HIV:=Lib.hid hiv0
   clear hth hiv0
   go_upto_if 37 with fail
   go_cut [7] (fun s wx=>s= .int .i64 ((P.place x.blk).2.1:Nat)∧(P.place x.blk).2.2=0∧CAt wx F FD A l d (P.place x.blk).1∧wx.heap[w.heap.size]?=some (.cells (slC x) 42 (0,0))∧Mod A.own w wx)
   case first=>
     cases fo with
     |some i=>
       have e:P.place x.blk=(P,i,0):=by unfold PC.place;rw [HFO.out]
       have HE:=Lib.hid e
       obtain rfl:th=true:=HTH.out.symm
       obtain rfl:iv0= .int .i64 (i:Nat):=HIV.out.symm
       clear HFO HTH HIV e
       go_wp2
       go_meet
       case rel=>
         rw [HE.out]
         exact ⟨rfl,rfl,HC4.out,HX4.out,HM4.out⟩
     |none=>
       have e:P.place x.blk=({P with R:=P.R.next.1},P.R.next.2.1.toNat,P.R.next.2.2):=by unfold PC.place;rw [HFO.out]
       have HE:=Lib.hid e
       obtain rfl:th=false:=HTH.out.symm
       obtain rfl:iv0= .int .i64 0:=HIV.out.symm
       have hnx:=knext_any HC4.out.ring
       have c3:=HC4.out.c3
       have hnk:=next_keeps P.R HHD.out
       have HNK:=Lib.hid hnk
       clear HFO HTH HIV e hnk
       go_wp2_with fail
       refine hnx.mono ?_
       rintro e w5 ⟨rfl,hr5,hm5⟩
       have hok5:=HPL.out.1
       rw [HE.out] at hok5
       have hC5:=HC4.out.rung hr5 hm5 hok5
       have hx5:w5.heap[w.heap.size]?=some (.cells (slC x) 42 (0,0)):=hm5.heap HX4.out fun e=>by
         have e:w.heap.size=A.rb:=e
         have:=HLT.out A.rb (.inl (.inr (.inr (.inr rfl))))
         omega
       have HM5:Hid (Mod A.own w w5):=Lib.hid (HM4.out.trans hm5 (fun _ h=>h) fun _ _ h=> .inr (.inr (.inr h)))
       have HC5:=Lib.hid hC5
       have HX5:=Lib.hid hx5
       clear hnx hr5 hm5 hok5 hC5 hx5 c3
       rcases HNK.out.2.2.2 with ⟨e8, -⟩|⟨k,e0,ek, -⟩
       · rw [e8]
         rw [e8] at HE
         clear e8
         go_wp2
         go_ret
         rw [HPD.out,HE.out]
         exact ⟨rfl,_,_,HC5.out,HM5.out.mono fun _ _ h=> .inl h,fun _ h=> .inl h,fun _ h=> .inl h⟩
       · rw [e0,ek]
         rw [e0,ek] at HE
         clear e0 ek
         go_wp2
         go_meet
         case rel=>
           rw [HE.out]
           exact ⟨rfl,rfl,HC5.out,HX5.out,HM5.out⟩
   case rest=>
     obtain ⟨hiv,h0,hCc,hxc,hmc⟩:=hcut
     have hpl0:=HPL.out
     have hset:=place_set HC4.out.ok HHD.out HXI.out h0
     have hpd:=HPD.out
     rw [if_neg (fun e=>e h0)] at hpd
     clear HPD HPL HC4 HX4 HM4 HS34 HFO HTH HIV
     obtain ⟨P1,hP1⟩: ∃P1,(P.place x.blk).1=P1:=⟨_,rfl⟩
     obtain ⟨i,hi⟩: ∃i,(P.place x.blk).2.1=i:=⟨_,rfl⟩
     rw [hP1] at hCc hpl0 hset hpd
     rw [hi] at hset hpd hiv
     clear hP1 hi hpl0
     have hi64:i<64:=by
       have h1:=hCc.ring.hi
       have h2:=hCc.ok.len
       omega
     have hpp:=pput1_any wc i hi64 x HXI.out
     have hLc:=lies_of hxc
     have HCc:=Lib.hid hCc
     have HXc:=Lib.hid hxc
     have HMc:=Lib.hid hmc
     have HSET:=Lib.hid hset
     have HPD:=Lib.hid hpd
     clear h0 hCc hxc hmc hset hpd
     subst hiv
     go_wp2_with (first
       |((with_reducible refine wpList_loadA hag hLc ?_ ?_);rfl;go_frame)
       |fail)
     refine hpp.mono ?_
     rintro e w5 ⟨a,n,c,rfl,hO5,hb5⟩
     have hagp:=aggPt (1+(i:Int)) (.slice a n c)
     have honp:(#[.int .i64 (1+(i:Int)), .slice a n c]:Array Value).all (·.oneCell')=true:=by simp [Value.oneCell']
     obtain ⟨w6,hw6⟩: ∃w6,w5.alloc (.cells #[.int .i64 (1+(i:Int)), .slice a n c] 113)=w6:=⟨_,rfl⟩
     have hLp:Lies w6 w5.heap.size 0 #[.int .i64 (1+(i:Int)), .slice a n c]:=by rw [←hw6];exact lies_of heap_alloc_at
     have hb56:Below w5.heap.size w5 w6:=by rw [←hw6];exact (Below.refl _ _).alloc (Nat.le_refl _) _
     have hs6:w6.heap.size=w5.heap.size+1:=by rw [←hw6];simp
     have HO5:=Lib.hid hO5
     have HB5:=Lib.hid hb5
     have HB56:=Lib.hid hb56
     have HS6:=Lib.hid hs6
     clear hpp hLc hO5 hb5 hb56 hs6
     go_upto_region 13 with (first
       |((with_reducible refine wpList_storeA_new hagp ?_ honp ?_ ?_ ?_);rfl;rfl;rfl;go_frame)
       |fail)
     simp only [hw6] at*
     clear hw6
     obtain ⟨w7,hw7⟩: ∃w7,w6.alloc (.cells #[.int .i64 (1+(i:Int)), .slice a n c] 113)=w7:=⟨_,rfl⟩
     have hb67:Below w6.heap.size w6 w7:=by rw [←hw7];exact (Below.refl _ _).alloc (Nat.le_refl _) _
     have hbc7:Below wc.heap.size wc w7:=(HB5.out.trans (HB56.out.mono HB5.out.size)).trans (hb67.mono (Nat.le_trans HB5.out.size HB56.out.size))
     have hC7:=HCc.out.below hbc7
     have hx7:=(hbc7.block _ (lt_of_block HXc.out)).trans HXc.out
     have hFlt:=HCc.out.lt
     have hO7:=HO5.out.below (HB56.out.trans (hb67.mono HB56.out.size))
     have hls7:LSl enPt 2 w7 (.slice (some ⟨w6.heap.size,0,none⟩) 1 1) [(slotPut i x,(a,n,c))]:=by
       rw [←hw7]
       exact LSl.lit (w:=w6) (x:=((slotPut i x,(a,n,c)):Pt×Sv)) elPt.len 113
     have hpb:PtB w7 (fun b=>F b∨FD b) (.slice (some ⟨w6.heap.size,0,none⟩) 1 1) [slotPut i x]:=by
       refine ⟨[(slotPut i x,(a,n,c))],rfl,hls7,fun r hr=> ?_,fun y hy=> ?_⟩
       · have e:w6.heap.size=r:=by cases hr;rfl
         refine ⟨fun h=> ?_,?_⟩
         · have:=hFlt r (h.elim (fun h=> .inr (.inl h)) (fun h=> .inr (.inr h)))
           have:=HB5.out.size
           have:=HB56.out.size
           omega
         · have:w7.heap.size=w6.heap.size+1:=by rw [←hw7];simp
           omega
       · rw [List.mem_singleton.1 hy]
         refine ⟨hO7.sl el8.len,fun r hr=>⟨fun h=> ?_,hO7.lt hr⟩⟩
         have:=hFlt r (h.elim (fun h=> .inr (.inl h)) (fun h=> .inr (.inr h)))
         have:=hO7.lo r hr
         omega
     have hwr:=pwrite_any hC7 HF.out.ok _ [slotPut i x] hpb (fun q hq y hy=>by rw [List.mem_singleton.1 hq] at hy;exact Slt.sec_lt x y hy) (by simp) HF.out.Q (HF.out.ok2 _)
     have HX7:=Lib.hid hx7
     have HM7:Hid (Mod (A.all F FD) w w7):=Lib.hid ((HMc.out.mono (T:=A.all F FD) fun _ _ h=> .inl h).trans (Mod.of_below hbc7) (T:=A.all F FD) (fun _ h=>h) (fun b hb h=>absurd (Nat.lt_of_lt_of_le hb HMc.out.size) (Nat.not_lt.2 h)))
     have HFlt:Hid (∀b,F b∨FD b→b<w.heap.size):=Lib.hid fun b hb=>HLT.out b (hb.elim (fun h=> .inr (.inl h)) (fun h=> .inr (.inr h)))
     clear hb67 hbc7 hC7 hx7 hFlt hO7 hls7 hpb HXc HMc HCc HO5 HB5 HB56 HS6
     go_wp2_with (first
       |((with_reducible refine wpList_loadA hagp hLp ?_ ?_);rfl;go_frame)
       |((with_reducible refine wpList_exec rfl (exec_buildSliceA (k:=2) (cells:= #[.int .i64 (1+(i:Int)), .slice a n c]) Tryz.underlying117 (by kernel_rfl) (by omega) (by omega) rfl ?_) ?_);rfl;go_frame)
       |fail)
     refine hwr.mono ?_
     rintro e w8 hp
     have hst:=hp.st
     obtain ⟨rfl,F8,FD8,hC8,hm8,h18,h28⟩:=hp
     have hx8:w8.heap[w.heap.size]?=some (.cells (slC x) 42 (0,0)):=hm8.heap HX7.out fun e=>Nat.lt_irrefl _ (HFlt.out _ e)
     have hL8:=lies_of hx8
     obtain ⟨cd,hcd⟩: ∃cd,(stWr l d [slotPut i x]).2.2=cd:=⟨_,rfl⟩
     rw [hcd]
     have hw78:=HM7.out.size
     have HT:Hid (∀r w9,CSt w7 F FD A r w9→CSt w F FD A r w9):=Lib.hid fun r w9 h=>CSt.trans HM7.out (fun _ h=> .inl h) (fun _ h=> .inl h) h
     have HST:=Lib.hid (HT.out _ _ hst)
     have HM8:=Lib.hid hm8
     have H18:=Lib.hid h18
     have H28:=Lib.hid h28
     clear hwr hLp hw7 hst hm8 h18 h28 hx8 hw78
     by_cases h0:cd=0
     · subst h0
       have he:putAt P1 l d i x=(P1.set i x,stWr l d [slotPut i x]):=by unfold putAt;rw [if_pos hcd]
       have hse:=pset_any hC8 i HSET.out.1 x HXI.out HSET.out.2
       have HE:=Lib.hid he
       have HCD:=Lib.hid hcd
       clear hC8 he hcd
       go_wp2_with (first
         |((with_reducible refine wpList_loadA hag hL8 ?_ ?_);rfl;go_frame)
         |fail)
       refine hse.mono ?_
       rintro e w9 ⟨rfl,hC9,hm9⟩
       have hfin:CSt w F FD A (P1.set i x,stWr l d [slotPut i x]) w9:=HT.out _ _ ⟨F8,FD8,hC9,(HM8.out.mono (T:=A.all F FD) fun b _ hb=>hb.elim (fun h=> .inr (.inl h)) (fun h=> .inr (.inr h))).trans hm9 (T:=A.all F FD) (fun _ h=>h) (fun _ _ h=> .inl h),H18.out,H28.out⟩
       have HFIN:=Lib.hid hfin
       clear hse hL8 hC9 hm9 hfin
       go_wp2
       go_ret
       rw [HPD.out,HE.out]
       exact ⟨by rw [HCD.out];rfl,HFIN.out⟩
     · have he:putAt P1 l d i x=(P1,stWr l d [slotPut i x]):=by unfold putAt;rw [if_neg (by rw [hcd];exact h0)]
       have heq:((cd:Int)==0)=false:=beq_eq_false_iff_ne.2 (by omega)
       have HE:=Lib.hid he
       have HCD:=Lib.hid hcd
       clear hC8 he hcd hL8 h0
       go_wp2
       go_ret
       rw [HPD.out,HE.out]
       exact ⟨by rw [HCD.out];rfl,HST.out⟩
 · have hpd:P.putD l d x=(P,(l,d,2)):=by
     unfold PC.putD
     rw [if_pos hxx]
   have HST:=Lib.hid hst
   have HPD:=Lib.hid hpd
   have HXX:=Lib.hid hxx
   clear hst hpd hw1 hxx
   by_cases hxi:x.is
   · simp only [SEnc,if_pos hxi] at hen
     have hn:x=Slt.no:=Classical.byContradiction fun e=>HXX.out ⟨hxi,e⟩
     have hfr:=fun w=>sfree_any w x
     rw [decide_eq_true hn] at hfr
     clear hxi hn
     go_upto_region 3 with (first
       |(go_at_call 45;refine hok.mono ?_;rintro e wt ⟨rfl,hw⟩;obtain rfl:=hw.symm;clear hw)
       |fail)
     go_wp2_with (first
       |((with_reducible refine wpList_loadA hag hL ?_ ?_);rfl;go_frame)
       |fail)
     refine hen.mono ?_
     rintro e w2 ⟨⟨v,rfl,hO⟩,hb2⟩
     obtain ⟨a2,n2,k2,rfl⟩:=hO.shape
     have hx2:=(hb2.block _ (lt_of_block HX.out)).trans HX.out
     have hL2:=lies_of hx2
     have hfr2:=hfr w2
     have HB2:=Lib.hid hb2
     clear hen hL hok hfr hO hb2
     go_wp2_with (first
       |((with_reducible refine wpList_execW (exec_loadA hag ?_ hL2) ?_ ?_);rfl;(first|rfl|(go_simp;done));go_frame)
       |fail)
     refine hfr2.mono ?_
     rintro e w3 ⟨rfl,hb3⟩
     have HB3:=Lib.hid hb3
     clear hfr2 hL2 hb3
     go_wp2
     go_ret
     rw [HPD.out]
     exact ⟨rfl,(HST.out.behind HB2.out).behind HB3.out⟩
   · simp only [SEnc,if_neg hxi] at hen
     clear hxi
     go_upto_region 3 with (first
       |(go_at_call 45;refine hok.mono ?_;rintro e wt ⟨rfl,hw⟩;obtain rfl:=hw.symm;clear hw)
       |fail)
     go_wp2_with (first
       |((with_reducible refine wpList_loadA hag hL ?_ ?_);rfl;go_frame)
       |fail)
     refine hen.mono ?_
     rintro e w2 ⟨rfl,hb2⟩
     have HB2:=Lib.hid hb2
     clear hen hL hok hb2
     go_wp2
     go_ret
     rw [HPD.out]
     exact ⟨rfl,HST.out.behind HB2.out⟩
end
end Go.Proofs.YtldimgchpgoggaaGreat
