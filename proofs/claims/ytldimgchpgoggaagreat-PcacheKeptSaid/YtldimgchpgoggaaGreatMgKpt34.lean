import Derived.Test.YtldimgchpgoggaaGreatMgKpt33
import Derived.Test.YtldimgchpgoggaaGreatMgKpt4
import Derived.Test.YtldimgchpgoggaaGreatMgKpt28
namespace Go.Proofs.YtldimgchpgoggaaGreat
open Go.RowKit Go.Tn Go.Tn.Bt Go.Tn.Lp Go.Tn.Dk Go.Tn.Ino Go.Tn.Slo Go.Tn.Ck Go.Tn.Pc
section
variable {w w':World} {F FD F' FD':Nat→Prop} {A:CA} {l l':Lg} {d d':Dsk} {P P':PC}
set_option maxRecDepth 20000 in
set_option maxHeartbeats 8000000 in
theorem pload_any (L:List Slt) (num:Nat) (h:CAt w F FD A l d (PC.new L.length 0)) (hok:l.ok d) (hL:Lays L) (hnum:num≤1099511627775) (hh:L.length+1≤l.homes d) (h0:l.home d 0=numSec num) (hi: ∀i,i<L.length→l.home d (1+i)=((L[i]?).getD Slt.no).sec):
   Calls Tryz.prog 44 #[.pointer (some ⟨A.c,0,none⟩)] w fun e w'=>e= .returned (.int .i64 0)∧CAt w' F FD A l d (PC.opened L num L.length)∧Mod A.own w w':=by
 obtain ⟨N,hN⟩: ∃N,L.length=N:=⟨_,rfl⟩
 have hN64:N≤64:=by
   have h2:=h.ring.hi
   have h3:(PC.new L.length 0).R.L.length=L.length:=by simp [PC.new]
   omega
 have hrd:=gread_any h.log h.disk hok 0 (by omega)
 rw [h0,show ((0:Nat):Int)=0 from rfl] at hrd
 have c0:=h.c0
 have HC:=Lib.hid h
 have HOK:=Lib.hid hok
 have HL:=Lib.hid hL
 have HNUM:=Lib.hid hnum
 have HH:=Lib.hid hh
 have HI:=Lib.hid hi
 have HN:=Lib.hid hN
 clear h hok hL hnum hh h0 hi hN
 go_enter Tryz.func44,Tryz.ntmps44
 go_wp2_with fail
 refine hrd.mono ?_
 rintro e w2 ⟨v0,rfl,hR0,hb2⟩
 have hsl0:=hR0.sl
 obtain ⟨ao,cap0,hv0,hl1,hl2,hl3⟩:=hR0.sl
 rw [numSec_len] at hv0 hl1 hl3
 obtain ⟨b0,o0,rfl,hb0, -⟩:=hl3 (by decide)
 subst hv0
 have hlo0:w.heap.size≤b0:=hR0.lo b0 rfl
 have hcl0:A.c<w.heap.size:=lt_of_block HC.out.blk
 have hC2:=HC.out.below hb2
 have hdr:=hsl0.drop2 (i:=120) (by rw [numSec_len];decide) (show (if cap0=120 then some (⟨b0,o0,none⟩:Addr) else (some (⟨b0,o0,none⟩:Addr)).map (·.add (120*1)))=some ⟨b0,o0+120,none⟩ by rw [if_neg (by omega)];simp [addr_add]) (show 128-120=8 by rfl) (rfl:cap0-120=cap0-120)
 have hva:=pvalue_any w2 _ _ hdr (fun x hx=>numSec_lt _ x (List.mem_of_mem_drop hx)) (by rw [List.length_drop,numSec_len];decide)
 rw [numSec_num (by have:=HNUM.out;omega)] at hva
 have hb120:(120:Nat)≤128:=by decide
 have had:(if cap0=120 then some (⟨b0,o0,none⟩:Addr) else (some (⟨b0,o0,none⟩:Addr)).map (·.add (120*1)))=some ⟨b0,o0+120,none⟩:=by rw [if_neg (by omega)];simp [addr_add]
 have HAD:=Lib.hid had
 have c4:=hC2.c4
 have f4:w2.frozen? ⟨A.c,4,none⟩=false:=free_of hC2.blk
 have HC2:=Lib.hid hC2
 have HB2:=Lib.hid hb2
 have HSL0:=Lib.hid hsl0
 have hcap:128≤cap0:=hl1
 clear hrd hR0 hsl0 hl2 hl3 hC2 hdr had c0 hb2 hl1
 go_upto_region 5 with (first
   |((with_reducible refine wpList_exec rfl (exec_sliceLo2 Tryz.underlying107 size8 hb120 HAD.out (rfl:128-120=8) (rfl:cap0-120=cap0-120) ?_ ?_) ?_);rfl;rfl;go_frame)
   |(go_at_call 81;refine hva.mono ?_;rintro e wt ⟨rfl,hw⟩;obtain rfl:=hw.symm;clear hw)
   |fail)
 obtain ⟨hC3,hm3⟩:=HC2.out.numbered num HNUM.out
 have hsl3:LSl en8 1 (w2.setCell ⟨A.c,4,none⟩ (.int .u64 (num:Nat))) (.slice (some ⟨b0,o0,none⟩) 120 cap0) (List.replicate 120 0):=by
   have h1:=HSL0.out.take (i:=120) (by rw [numSec_len];decide)
   rw [numSec_take] at h1
   obtain ⟨ao,cap,e1,e2,e3,e4⟩:=h1
   refine ⟨ao,cap,e1,e2,e3,fun h=> ?_⟩
   obtain ⟨b,off,e5,e6,e7⟩:=e4 h
   cases e1
   cases e5
   refine ⟨b0,o0,rfl,by simpa [World.setCell] using e6,fun i x hi j hj=> ?_⟩
   have hbc:A.c≠b0:=fun e=>by omega
   exact cell_mod (e7 i x hi j hj) ((Mod.refl (fun b=>b=A.c) w2).setCell ⟨A.c,4,none⟩ (.int .u64 ((num:Nat):Int)) (fun _=>rfl)) (fun e=>hbc e.symm)
 have c4':(w2.setCell ⟨A.c,4,none⟩ (.int .u64 (num:Nat))).cell? ⟨A.c,4,none⟩=some (.int .u64 (num:Nat)):=hC3.c4
 have hnum':(num:Int)≤1099511627775:=by have:=HNUM.out;omega
 have hcf:=containsF_zero _ _ _ hsl3 (fun x hx=>List.eq_of_mem_replicate hx) (by simp)
 have hC3:CAt (w2.setCell ⟨A.c,4,none⟩ (.int .u64 (num:Nat))) F FD A l d (PC.opened L num 0):=hC3
 have hm03:Mod A.own w (w2.setCell ⟨A.c,4,none⟩ (.int .u64 (num:Nat))):=((Mod.of_below HB2.out).mono (T:=A.own) fun _ hx hS=>absurd hx (Nat.not_lt.2 hS)).trans hm3 (fun _ h=>h) (fun _ _ h=>h)
 have HC3:=Lib.hid hC3
 have HM3:=Lib.hid hm03
 have hb120':(120:Nat)≤cap0:=by omega
 clear hva c4 f4 hC3 hm3 hm03 hsl3 hlo0 hcl0
 generalize w2.setCell ⟨A.c,4,none⟩ (.int .u64 (num:Nat))=w3 at*
 go_wp2_with (first
   |((with_reducible refine wpList_execW (exec_sliceHi (i:=120) Tryz.underlying107 size8 hb120' ?_ ?_) ?_ ?_);rfl;rfl;(first|rfl|(go_simp;done));go_frame)
   |fail)
 refine hcf.mono ?_
 rintro e wt ⟨rfl,hw⟩
 obtain rfl:=hw.symm
 have c1:w3.cell? ⟨A.c,1,none⟩=some (.slice (some ⟨A.sb,0,none⟩) N N):=by
   have:=HC3.out.c1
   rw [opened_len,HN.out] at this
   exact this
 clear hcf hw c4'
 go_wp2
 go_loopw [43] (fun iv wi=> ∃k:Nat,k≤N∧iv= .int .i64 k∧CAt wi F FD A l d (PC.opened L num k)∧Mod A.own w wi) (fun iv _=>N-(intOf iv).toNat)
 case atStart=>exact ⟨0,Nat.zero_le _,rfl,HC3.out,HM3.out⟩
 case round=>
   obtain ⟨k,hk,rfl,hCi,hmi⟩:=hrel
   have HCI:=Lib.hid hCi
   have HMI:=Lib.hid hmi
   clear hCi hmi
   by_cases hkl:k<N
   · have hkl':(k:Int)<(N:Int):=by omega
     have hkL:k<L.length:=by rw [HN.out];exact hkl
     obtain ⟨x,hx⟩: ∃x,(L[k]?).getD Slt.no=x:=⟨_,rfl⟩
     have hxi:x.is:=by
       rw [←hx,List.getElem?_eq_getElem hkL]
       exact HL.out.is _ (List.getElem_mem _)
     have hrd:=gread_any HCI.out.log HCI.out.disk HOK.out (1+k) (by have:=HH.out;omega)
     rw [HI.out k hkL,hx,show ((1+k:Nat):Int)=1+(k:Int) by omega] at hrd
     have q0:=HCI.out.c0
     have HX:=Lib.hid hx
     have HXI:=Lib.hid hxi
     have HKL:=Lib.hid hkL
     clear hx hxi hkL c1
     go_wp2_with fail
     refine hrd.mono ?_
     rintro e w4 ⟨v4,rfl,hR4,hb4⟩
     have hde:=sdec_any w4 v4 x HXI.out hR4.sl
     obtain ⟨a4,n4,k4,rfl⟩: ∃a n c,v4= .slice a n c:=by
       obtain ⟨ao,cap,rfl, -⟩:=hR4.sl
       exact ⟨_,_,_,rfl⟩
     have HB4:=Lib.hid hb4
     clear hrd hR4 hb4 q0
     go_wp2_with fail
     refine hde.mono ?_
     rintro e w5 ⟨rfl,hb5⟩
     have hagx:=aggSl x
     have honx:=oneSl x
     obtain ⟨w6,hw6⟩: ∃w6,w5.alloc (.cells (slC x) 42)=w6:=⟨_,rfl⟩
     have hx6:w6.heap[w5.heap.size]?=some (.cells (slC x) 42 (0,0)):=by rw [←hw6];exact heap_alloc_at
     have hb56:Below w5.heap.size w5 w6:=by rw [←hw6];exact (Below.refl _ _).alloc (Nat.le_refl _) _
     have hbr5:=HB4.out.trans (hb5.mono HB4.out.size)
     have hbr6:=hbr5.trans (hb56.mono hbr5.size)
     have hC6:=HCI.out.below hbr6
     have c2:=hC6.c2
     obtain ⟨Le,clk,hmap,hwf,hget⟩:=hC6.wh.ex
     have hgb:=hget x.blk
     have hfn:=opened_find HL.out (num:=num) HKL.out
     rw [HX.out] at hfn
     rw [hfn] at hgb
     have HX6:=Lib.hid hx6
     have HC6:=Lib.hid hC6
     have HBR6:=Lib.hid hbr6
     clear hde hb5 hx6 hb56 hbr5 hbr6 hC6 hwf hget hfn
     go_upto_region 16 with (first
       |((with_reducible refine wpList_storeA_new hagx ?_ honx ?_ ?_ ?_);rfl;rfl;rfl;go_frame)
       |fail)
     simp only [hw6] at*
     clear hw6
     have hS:w6.drew.cell? ⟨A.c,2,none⟩=some (.map (some A.wb))∧Lies w6.drew w5.heap.size 1 (blC x.blk)∧w6.drew.heap[A.wb]?=some (.map (ents encB Le) clk):=⟨c2,fun j hj=>by
       match j,hj with
       |0,_=>exact cell_of (w:=w6.drew) HX6.out rfl
       |1,_=>exact cell_of (w:=w6.drew) HX6.out rfl
       |2,_=>exact cell_of (w:=w6.drew) HX6.out rfl,hmap⟩
     refine wp_region_x (fun w'=>w'.cell? ⟨A.c,2,none⟩=some (.map (some A.wb))∧Lies w' w5.heap.size 1 (blC x.blk)∧w'.heap[A.wb]?=some (.map (ents encB Le) clk)) [(0,1),(1,1),(2,1),(3,0),(4,1),(5,0),(6,0),(7,1),(8,1),(9,1),(10,1),(11,1)] (by kernel_rfl) (by kernel_rfl) (by intro d v c a w h;cases d<;>exact h) ?_
     iterate 3 (refine x_take rfl (fun K hK=> ?_);go_simp;refine hK _ ?_;clear hK K)
     refine x_read rfl hS (fun w' h=>exec_load1 ⟨⟨_,Tryz.underlying66,rfl⟩⟩ rfl h.1) ?_
     iterate 1 (refine x_take rfl (fun K hK=> ?_);go_simp;refine hK _ ?_;clear hK K)
     refine x_read rfl hS (fun w' h=>exec_loadA (aggBl x.blk) rfl h.2.1) ?_
     refine x_read rfl hS (fun w' h=>exec_lookup_ok keyB Tryz.underlying66 zeroI h.2.2 rfl x.blk rfl) ?_
     iterate 5 (refine x_take rfl (fun K hK=> ?_);go_simp;refine hK _ ?_;clear hK K)
     refine x_nil ?_
     simp only [getD,hgb]
     have hC7:CAt w6.drew F FD A l d (PC.opened L num k):=HC6.out.below (Below.refl w6.heap.size w6).drew
     have hx7:w6.drew.heap[w5.heap.size]?=some (.cells (slC x) 42 (0,0)):=HX6.out
     have hm7:Mod A.own w w6.drew:=(HMI.out.trans (Mod.of_below HBR6.out) (T:=A.own) (fun _ h=>h) (fun b hb h=>absurd (Nat.lt_of_lt_of_le hb HMI.out.size) (Nat.not_lt.2 h))).drew
     have HC7:=Lib.hid hC7
     have HM7:=Lib.hid hm7
     clear hS c2 hmap hgb hC7 hm7
     generalize w6.drew=w7 at*
     have hL7:=lies_of hx7
     have hof:=opened_free HL.out (num:=num) HKL.out
     rw [HX.out] at hof
     have hset:=pset_any HC7.out k (by rw [opened_len];exact HKL.out) x HXI.out hof
     have hsu:=opened_succ L num k
     rw [HX.out] at hsu
     rw [←hsu] at hset
     clear hx7 hof hsu
     simp only [Option.map,Option.getD,Option.isSome]
     go_wp2_with (first
       |((with_reducible refine wpList_loadA hagx hL7 ?_ ?_);rfl;go_frame)
       |fail)
     refine hset.mono ?_
     rintro e w9 ⟨rfl,hC9,hm9⟩
     have HC9:=Lib.hid hC9
     have HM9:=Lib.hid (HM7.out.trans hm9 (fun _ h=>h) (fun _ _ h=>h))
     clear hset hL7 hC9 hm9
     go_wp2
     go_roundw
     case rel=>exact ⟨k+1,by omega,by go_num,HC9.out,HM9.out⟩
     case measure=>simp [intOf];omega
   · obtain rfl:k=N:=by omega
     have hC9:=HCI.out
     rw [←HN.out] at hC9
     have HC9:=Lib.hid hC9
     clear hC9
     go_wp2
     go_ret
     exact ⟨rfl,HC9.out,HMI.out⟩
end
theorem lout_full {α:Type} {en:α→List Value} {k:Nat} {e:TypeId} (hen: ∀x,(en x).length=k) {B:Nat} {w:World} {g n:Nat} {xs:List α} (h:LOut en k e B w (.slice (some ⟨g,0,none⟩) n n) xs) (hk:0<n) (hx:xs.length=n):w.heap[g]?=some (.cells (xs.flatMap en).toArray e (0,0)):=by
 rcases h.own.2 with ⟨hv,_⟩|⟨g',cap',cur,hv,h0,hg,hn,hm,hs,ht⟩
 · cases hv
 · cases hv
   rw [hg]
   congr 2
   rw [←ht,List.take_of_length_le]
   rw [hx]
   simp [hs]
theorem built_pc (g sb n wb:Nat):Tryz.prog.built 69 [(0, .pointer (some ⟨g,0,none⟩)),(1, .slice (some ⟨sb,0,none⟩) n n),(2, .map (some wb))]=some #[.pointer (some ⟨g,0,none⟩), .slice (some ⟨sb,0,none⟩) n n, .map (some wb), .pointer none, .int .u64 0]:=by kernel_rfl
theorem zero_slot:(Tryz.prog.info? 42).map (fun i=>i.zero.map (·.cells))=some (some (enSl Slt.no).toArray):=by kernel_rfl
def POpen (w:World) (FD:Nat→Prop) (p:Nat) (l:Lg) (d:Dsk) (P:PC) (e:Ending) (w':World):Prop:= ∃A F,e= .returned (.tuple #[.pointer (some ⟨A.c,0,none⟩), .int .i64 0])∧CAt w' F FD A l d P∧A.p=p∧Below w.heap.size w w'∧(∀b,F b→w.heap.size≤b)∧ ∀b,A.own b→w.heap.size≤b
section
variable {w w':World} {FD:Nat→Prop} {p:Nat} {l l':Lg} {d d':Dsk}
set_option maxRecDepth 20000 in
set_option maxHeartbeats 8000000 in
theorem popen_any (hd:DAt w FD p d) (n:Nat) (L:List Slt) (num:Nat) (h20:20≤n) (hn4:n≤400) (h1:1≤L.length) (h64:L.length≤64) (hnd:n+L.length+3≤d.L.length) (hf:newestB d (2+n)<16777215) (hl:openB d n=some l) (hok:l.ok d) (hrn:l.n=n)
   (hL:Lays L) (hnum:num≤1099511627775) (h0:l.home d 0=numSec num) (hi: ∀i,i<L.length→l.home d (1+i)=((L[i]?).getD Slt.no).sec):
   Calls Tryz.prog 10 #[.pointer (some ⟨p,0,none⟩), .int .i64 n, .int .i64 L.length] w fun e w'=>POpen w FD p l d (PC.opened L num L.length) e w':=by
 have hop:=open_main hd n (by omega) (by omega) hn4 hf l hl
 have hsz:=fun w' (h:DAt w' FD p d)=>size_any h
 have hhi:=hd.ok.hi
 have hh:L.length+1≤l.homes d:=by unfold Lg.homes;omega
 have hlod:=fun (w:World) (A:CA) (F:Nat→Prop) (h:CAt w F FD A l d (PC.new L.length 0))=>pload_any L num h hok hL hnum hh h0 hi
 have HD:=Lib.hid hd
 have HSZ:=Lib.hid hsz
 have HLOD:=Lib.hid hlod
 have hdl:((d.L.length:Int)==0)=false:=beq_eq_false_iff_ne.2 (by omega)
 have hn1:decide ((n:Int)<20)=false:=decide_eq_false (by omega)
 have hn1':¬ ((n:Int)<20):=by omega
 clear hd hf hl hok hrn hL hnum h0 hi hh hsz hlod
 obtain ⟨N,hN⟩: ∃N,L.length=N:=⟨_,rfl⟩
 rw [hN] at h1 h64 hnd ⊢
 have HN:=Lib.hid hN
 clear hN
 generalize hDL:d.L.length=D at*
 have HDL:=Lib.hid hDL
 clear hDL
 have hn2:decide ((N:Int)<1)=false:=decide_eq_false (by omega)
 have hn2':¬ ((N:Int)<1):=by omega
 have hn3':¬ ((64:Int)<(N:Int)):=by omega
 have hn3:decide ((64:Int)<(N:Int))=false:=decide_eq_false hn3'
 have hn5':¬ ((D:Int)-(N:Int)-3<(n:Int)):=by omega
 have hn5:decide ((D:Int)-(N:Int)-3<(n:Int))=false:=decide_eq_false hn5'
 have hb4:(D:Int)≤4096:=by omega
 have hb5:(N:Int)≤64:=by omega
 have hb6:(1:Int)≤(N:Int):=by omega
 have hmm:= @run_makeMap Tryz.prog
 go_enter Tryz.func10,Tryz.ntmps10
 go_wp2_with fail
 refine hop.mono ?_
 rintro e w2 ⟨g,F,rfl,hL2,hb2,hF2⟩
 have hs2:=HSZ.out _ (HD.out.below hb2)
 have HL2:=Lib.hid hL2
 have HB2:=Lib.hid hb2
 have HF2:=Lib.hid hF2
 obtain ⟨w3,hmk,hO3,hb3,hz3⟩:=exec_makeA elSl Slt.no zero_slot N (by omega) w2
 have hbt:=built_pc g w2.heap.size N w3.heap.size
 have HO3:=Lib.hid hO3
 have HB3:=Lib.hid hb3
 have HZ3:=Lib.hid hz3
 obtain ⟨w4,hw4⟩: ∃w4,(w3.alloc (.map #[] 0)).alloc (.cells #[.pointer (some ⟨g,0,none⟩), .slice (some ⟨w2.heap.size,0,none⟩) N N, .map (some w3.heap.size), .pointer none, .int .u64 0] 69)=w4:=⟨_,rfl⟩
 have hz31:(w3.alloc (.map #[] 0)).heap.size=w3.heap.size+1:=by simp
 have hmp4:w4.heap[w3.heap.size]?=some (.map (ents encB []) 0):=by rw [←hw4];exact heap_alloc_of (show (w3.alloc (.map #[] 0)).heap[w3.heap.size]?=some (.map (ents encB []) 0) from heap_alloc_at)
 have hc4:w4.heap[w3.heap.size+1]?=some (.cells #[.pointer (some ⟨g,0,none⟩), .slice (some ⟨w2.heap.size,0,none⟩) N N, .map (some w3.heap.size), .pointer none, .int .u64 0] 69 (0,0)):=by rw [←hw4, ←hz31];exact heap_alloc_at
 have hb34:Below w3.heap.size w3 w4:=by rw [←hw4];exact ((Below.refl _ _).alloc (Nat.le_refl _) _).alloc (by rw [hz31];omega) _
 have hz4:w4.heap.size=w3.heap.size+2:=by rw [←hw4];simp
 have HMP4:=Lib.hid hmp4
 have HC4:=Lib.hid hc4
 have HB34:=Lib.hid hb34
 have HZ4:=Lib.hid hz4
 have HN1:=Lib.hid h1
 have HN64:=Lib.hid h64
 clear hop hL2 hb2 hF2 hO3 hb3 hz3 hmp4 hc4 hb34 hz4
 go_upto_region 9 with (first
   |(go_at_call 42;refine hs2.mono ?_;rintro e wt ⟨rfl,hw⟩;obtain rfl:=hw.symm;clear hw)
   |((with_reducible refine wpList_exec rfl (hmk _ _ _ _ _ _ _ _ ?_ ?_) ?_);rfl;rfl;go_frame)
   |((with_reducible refine wpList_exec rfl (exec_buildA (vals:= [(0, .pointer (some ⟨g,0,none⟩)),(1, .slice (some ⟨w2.heap.size,0,none⟩) N N),(2, .map (some w3.heap.size))]) ?_ hbt) ?_);rfl;go_frame)
   |fail)
 simp only [hz31,hw4] at*
 clear hw4 hz31 hmk hs2 hbt hmm
 have hkn:=knew_any w4 N HN1.out HN64.out
 have c3:w4.cell? ⟨w3.heap.size+1,3,none⟩=some (.pointer none):=cell_of HC4.out rfl
 go_upto_region 10 with (first
   |(go_at_call 43;refine hkn.mono ?_;rintro e w5 ⟨rb,rfl,hR5,hb5,hrb⟩;have hk5:=(hb5.block (w3.heap.size+1) (by have:=HZ4.out;omega)).trans HC4.out;have c35:w5.cell? ⟨w3.heap.size+1,3,none⟩=some (.pointer none):=cell_of hk5 rfl;have f35:w5.frozen? ⟨w3.heap.size+1,3,none⟩=false:=free_of hk5;have HR5:=Lib.hid hR5;have HB5:=Lib.hid hb5;have HRB:=Lib.hid hrb;have HK5:=Lib.hid hk5;clear hR5 hb5 hrb hk5)
   |fail)
 have hm6:=(Mod.refl (fun b=>b=w3.heap.size+1) w5).setCell ⟨w3.heap.size+1,3,none⟩ (.pointer (some ⟨rb,0,none⟩)) (fun _=>rfl)
 have hk6:(w5.setCell ⟨w3.heap.size+1,3,none⟩ (.pointer (some ⟨rb,0,none⟩))).heap[w3.heap.size+1]?=some (.cells (cacheC ⟨w3.heap.size+1,w2.heap.size,w3.heap.size,rb,g,p⟩ (PC.new N 0)) 69 (0,0)):=by
   rw [heap_setCell_at HK5.out]
   unfold cacheC PC.new
   simp only [List.length_replicate]
   rfl
 have HM6:=Lib.hid hm6
 have HK6:=Lib.hid hk6
 clear hm6 hk6 c35 f35 hkn c3
 generalize w5.setCell ⟨w3.heap.size+1,3,none⟩ (.pointer (some ⟨rb,0,none⟩))=w6 at*
 have z3:=HZ3.out
 have z4:=HZ4.out
 have s2:=HB2.out.size
 have hrb:=HRB.out
 have s5:=HB5.out.size
 have b25:Below w2.heap.size w2 w5:=(HB3.out.trans (HB34.out.mono (by omega))).trans (HB5.out.mono (by omega))
 have b26:Below w2.heap.size w2 w6:=b25.trans (HM6.out.below b25.size fun x hx e=>by have e:x=w3.heap.size+1:=e;omega)
 have hF:=HL2.out.lt
 have hFD:=HD.out.lt
 have hdk:=(HD.out.below HB2.out).below b26
 have hne:w3.heap.size+1≠w2.heap.size∧w3.heap.size+1≠w3.heap.size∧w3.heap.size+1≠rb∧w2.heap.size≠w3.heap.size∧w2.heap.size≠rb∧w3.heap.size≠rb:=by omega
 have hC6:CAt w6 F FD ⟨w3.heap.size+1,w2.heap.size,w3.heap.size,rb,g,p⟩ l d (PC.new N 0):=by
   refine ⟨HK6.out,?_,⟨[],0,?_,WF.nil 0,fun k=> ?_⟩,?_,HL2.out.below b26,hdk,fun b hb h=> ?_,fun b hb=> ?_,hne,new_ok _ _,Nat.zero_le _⟩
   · have h1:=lout_full elSl.len HO3.out (by have:=HN1.out;omega) (by rw [List.length_replicate])
     have h2:=(HB34.out.block w2.heap.size (by omega)).trans h1
     have h3:=(HB5.out.block w2.heap.size (by omega)).trans h2
     exact HM6.out.heap h3 (fun e=>hne.1 e.symm)
   · exact HM6.out.heap ((HB5.out.block w3.heap.size (by omega)).trans HMP4.out) (fun e=>hne.2.1 e.symm)
   · have hn:(PC.new N 0).find k=none:=find_none.2 fun i _ hu=>by
       rw [new_at] at hu
       cases hu
     rw [hn]
     rfl
   · exact HR5.out.mod HM6.out (fun e=>by have e:rb=w3.heap.size+1:=e;omega)
   · have:=HF2.out b hb
     have:=hFD b h
     omega
   · have hbl:w2.heap.size≤b:=by
       rcases hb with e|e|e|e
       · have e:b=w3.heap.size+1:=e
         omega
       · have e:b=w2.heap.size:=e
         omega
       · have e:b=w3.heap.size:=e
         omega
       · have e:b=rb:=e
         omega
     exact ⟨fun h=>by have:=hF b h;omega,fun h=>by have:=hFD b h;omega⟩
 have hC6':=hC6
 rw [←HN.out] at hC6'
 have hlo:=HLOD.out w6 _ F hC6'
 have HB26:=Lib.hid b26
 have HO:Hid (w2.heap.size≤w3.heap.size∧w2.heap.size≤rb):=Lib.hid ⟨by omega,by omega⟩
 clear hC6 hC6' b25 b26 hF hFD hdk z3 z4 hrb s5
 go_wp2_with fail
 refine hlo.mono ?_
 rintro e w7 ⟨rfl,hC7,hm7⟩
 have hb7:Below w.heap.size w w7:=HB2.out.trans ((HB26.out.mono s2).trans (hm7.below (Nat.le_trans s2 HB26.out.size) fun x hx hS=>by
   have ho:=HO.out
   rcases hS with e|e|e|e
   · have e:x=w3.heap.size+1:=e
     omega
   · have e:x=w2.heap.size:=e
     omega
   · have e:x=w3.heap.size:=e
     omega
   · have e:x=rb:=e
     omega))
 have HC7:=Lib.hid hC7
 have HB7:=Lib.hid hb7
 have hown: ∀b,(⟨w3.heap.size+1,w2.heap.size,w3.heap.size,rb,g,p⟩:CA).own b→w.heap.size≤b:=fun b hb=>by
   have ho:=HO.out
   rcases hb with e|e|e|e
   · have e:b=w3.heap.size+1:=e
     omega
   · have e:b=w2.heap.size:=e
     omega
   · have e:b=w3.heap.size:=e
     omega
   · have e:b=rb:=e
     omega
 have HOW:=Lib.hid hown
 clear hlo hC7 hm7 hb7 hown
 go_wp2
 go_ret2
 rw [←HN.out]
 exact ⟨_,F,rfl,HC7.out,rfl,HB7.out,HF2.out,HOW.out⟩
end
end Go.Proofs.YtldimgchpgoggaaGreat
namespace Go.Proofs.YtldimgchpgoggaaGreat
open Go.RowKit Go.Tn Go.Tn.Bt Go.Tn.Lp Go.Tn.Dk
theorem dead_or (d:Dsk):d.dead=0∨d.dead=7:=by
 unfold Dsk.dead
 split
 · exact .inr rfl
 · exact .inl rfl
theorem putPcs_code (n:Nat): ∀(ps:List Pc) (d:Dsk),(putPcs n ps d).2=0∨(putPcs n ps d).2=7
 | [],d=> .inl rfl
 |q::r,d=>by
   rw [putPcs]
   split
   · exact dead_or d
   · exact putPcs_code n r _
theorem write_homes {l:Lg} {d:Dsk} {ps:List Pt} (hon:d.off=false) (herr:l.err=0) (hn2:2≤l.n) (ht:transB ps (l.homes d)=true) (hc:cutB l.epoch l.next (recB ps)= .ok (cutL l.epoch l.next (recB ps))) (h0:(l.write d ps).2.2=0):homesB (l.write d ps).1 (l.write d ps).2.1=overB (homesB l d) ps:=by
 by_cases hf:l.free<(cutL l.epoch l.next (recB ps)).length
 · rw [write_full herr ht hc hf] at h0
   cases h0
 · have hpl:=putPcs_live l.n (cutL l.epoch l.next (recB ps)) d hon
   have hw:l.write d ps=if (putPcs l.n (cutL l.epoch l.next (recB ps)) d).2≠0 then ({l with err:=(putPcs l.n (cutL l.epoch l.next (recB ps)) d).2},(putPcs l.n (cutL l.epoch l.next (recB ps)) d).1,(putPcs l.n (cutL l.epoch l.next (recB ps)) d).2)
       else ({l with next:=l.next+(cutL l.epoch l.next (recB ps)).length,H:=takeH l.H ps},(putPcs l.n (cutL l.epoch l.next (recB ps)) d).1,0):=by
     unfold Lg.write
     rw [if_neg (by omega),if_neg (by rw [ht];decide),hc]
     simp only
     rw [if_neg hf]
   rw [hw] at h0 ⊢
   generalize putPcs l.n (cutL l.epoch l.next (recB ps)) d=r at*
   obtain ⟨d',c⟩:=r
   simp only at hpl
   rcases hpl with ⟨rfl,p2,p3,p4⟩|⟨rfl,p2,p3,m,p4⟩
   · rw [if_neg (by simp)]
     exact homesB_write hn2 rfl rfl p3 p4 ht
   · rw [if_pos (by simp)] at h0
     cases h0
theorem write_codes {l:Lg} {d:Dsk} {ps:List Pt} (herr:l.err=0) (ht:transB ps (l.homes d)=true) (hc:cutB l.epoch l.next (recB ps)= .ok (cutL l.epoch l.next (recB ps))) (h0:(l.write d ps).2.2≠0) (h7:(l.write d ps).2.2≠7):(l.write d ps).2.2=8∧l.free<cutN (recB ps):=by
 by_cases hf:l.free<(cutL l.epoch l.next (recB ps)).length
 · rw [write_full herr ht hc hf]
   rw [cutL_len] at hf
   exact ⟨rfl,hf⟩
 · exfalso
   have hw:(l.write d ps).2.2=(putPcs l.n (cutL l.epoch l.next (recB ps)) d).2:=by
     unfold Lg.write
     rw [if_neg (by omega),if_neg (by rw [ht];decide),hc]
     simp only
     rw [if_neg hf]
     split
     · rfl
     · rename_i h
       simp only [ne_eq,Decidable.not_not] at h
       exact h.symm
   rcases putPcs_code l.n (cutL l.epoch l.next (recB ps)) d with e|e
   · exact h0 (hw.trans e)
   · exact h7 (hw.trans e)
theorem KLive.fitd {n i:Nat} {l:Lg} {d:Dsk} {S:List (List (List Nat))} (h:KLive n i l d S):l.fit d∧d.ok:=by
 obtain ⟨F,D,P,hr, -, -⟩:=h.ex
 exact ⟨hr.fit,hr.dok⟩
theorem check_free {l:Lg} {d:Dsk} (h:(l.check d).2.2=0):(l.check d).1.free=(l.check d).1.n∧(l.check d).1.n=(l.sync d).1.n:=by
 revert h
 unfold Lg.check
 split
 · intro h
   rename_i h1
   exact absurd h h1
 · split
   · intro h
     cases h
   · split
     · intro h
       rename_i h1
       exact absurd h h1
     · split
       · intro h
         rename_i h1
         exact absurd h h1
       · intro _
         refine ⟨?_,?_⟩
         · have hn:(l.sync d).1.next=l.next:=by
             unfold Lg.sync
             split<;>rfl
           unfold Lg.free
           simp [hn]
         · rfl
structure Quiet (d:Dsk):Prop where
 calm:Dsk.calm d
 fuse:True
theorem Quiet.write {l:Lg} {d:Dsk} {ps:List Pt} (h:Quiet d):Quiet (l.write d ps).2.1:=by
 unfold Lg.write
 split
 · exact h
 · split
   · exact h
   · split
     · exact h
     · split
       · exact h
       · rename_i pcs _ _
         have hp:=putPcs_calm l.n pcs d h.calm
         rw [hp]
         exact ⟨⟨h.calm.fuse,h.calm.on⟩,h.fuse⟩
theorem Quiet.flush {d:Dsk} (h:Quiet d):Quiet d.flush∧d.flush.Q= []:=by
 rw [h.calm.flush]
 exact ⟨⟨⟨h.calm.fuse,h.calm.on⟩,h.fuse⟩,rfl⟩
theorem Quiet.sync {l:Lg} {d:Dsk} (h:Quiet d):Quiet (l.sync d).2:=by
 unfold Lg.sync
 split
 · exact h
 · exact h.flush.1
theorem Quiet.check {l:Lg} {d:Dsk} (h:Quiet d):Quiet (l.check d).2.1:=by
 have hs:=h.sync (l:=l)
 unfold Lg.check
 generalize (l.sync d).2=d1 at*
 have hb:Quiet (l.bring d1).1:=by
   unfold Lg.bring
   rw [bringGo_calm _ _ _ hs.calm]
   exact ⟨⟨hs.calm.fuse,hs.calm.on⟩,hs.fuse⟩
 split
 · exact hs
 · split
   · exact hs
   · split
     · exact hb
     · have hv:Quiet ((l.bring d1).1.save 0 l.epoch ⟨l.gen+1,l.next,l.epoch⟩).1:=by
         rw [save_calm hb.calm]
         exact ⟨⟨hb.calm.fuse,hb.calm.on⟩,hb.fuse⟩
       split
       · exact hv
       · exact hv
theorem flush_gets {d:Dsk} (hc:Dsk.calm d) (hd:d.ok) (i:Nat):d.flush.get i=d.get i:=by
 by_cases hi:i<d.L.length
 · rw [hc.flush]
   exact flush_get rfl rfl hi
 · have hL:d.flush.L.length=d.L.length:=flush_L d
   have e1:d.flush.get i= []:=by
     rw [hc.flush]
     show seenQ [] i ((laid d.Q d.L).getD i [])= []
     show (laid d.Q d.L).getD i []= []
     rw [List.getD_eq_getElem?_getD,List.getElem?_eq_none (by rw [laid_len];omega)]
     rfl
   rw [e1]
   unfold Dsk.get
   rw [seen_no _ _ _ fun x hx=>by have:=(hd.que x hx).1;omega,List.getD_eq_getElem?_getD,List.getElem?_eq_none (by omega)]
   rfl
structure CLive (n i:Nat) (l:Lg) (d:Dsk):Prop where
 rg: ∃F D,Rg d.flush l F D []
 calm:Dsk.calm d
 dok:d.ok
 rn:l.n=n
 err:l.err=0
 ep:l.epoch≤i+1
 ends:Ends d (2+n) (i+1)
 next:l.next≤100*i
 gen:l.gen≤i
 q:d.Q.length≤1000*i
section
variable {n i j:Nat} {l:Lg} {d:Dsk}
theorem CLive.mono (h:CLive n i l d) (hij:i≤j):CLive n j l d:=
 ⟨h.rg,h.calm,h.dok,h.rn,h.err,by have:=h.ep;omega,fun k hk=>by have:=h.ends k hk;omega,by have:=h.next;omega,by have:=h.gen;omega,by have:=h.q;omega⟩
theorem CLive.fit (h:CLive n i l d):l.fit d:=by
 obtain ⟨F,D,hr⟩:=h.rg
 exact hr.fit.disk (d':=d) (flush_L d).symm
theorem CLive.ok (h:CLive n i l d) (hi:i≤1000):l.ok d:=h.fit.ok (by have:=h.next;omega)
theorem CLive.homes (h:CLive n i l d):homesB l d.flush=homesB l d:=by
 unfold homesB
 have hh:l.homes d.flush=l.homes d:=by unfold Lg.homes;rw [flush_L]
 rw [hh]
 refine List.map_congr_left fun k _=> ?_
 unfold Lg.home
 rw [flush_gets h.calm h.dok]
theorem clive_write (h:CLive n i l d) (hi:i≤1000) {ps:List Pt} (hb: ∀p∈ps, ∀x∈p.2,x<256) (ht:transB ps (l.homes d)=true) (hf:cutN (recB ps)≤l.free):
   (l.write d ps).2.2=0∧CLive n (i+1) (l.write d ps).1 (l.write d ps).2.1∧homesB (l.write d ps).1 (l.write d ps).2.1=overB (homesB l d) ps:=by
 obtain ⟨F,D,hr⟩:=h.rg
 have hep:=h.ep
 have hnx:=h.next
 have hc:=cut_ok (ep:=l.epoch) (ct:=l.next) ht (by omega) (by omega)
 have hfl:(cutL l.epoch l.next (recB ps)).length≤l.free:=by rw [cutL_len];exact hf
 have hw:=write_calm h.calm h.err ht hc hfl
 have hok:=write_dok (ps:=ps) h.fit h.dok (by have:=h.q;omega)
 have hpl:(cutL l.epoch l.next (recB ps)).length≤100:=by
   have:=recN ht
   rw [cutL_len]
   omega
 have hpe: ∀q∈cutL l.epoch l.next (recB ps),q.ok∧q.ep=l.epoch:=fun q hq=>by
   have hg:(⟨l.epoch,ps⟩:Rc).good (l.homes d) l.next:=⟨ht,hb,hc⟩
   have hpc:cutL l.epoch l.next (recB ps)=(⟨l.epoch,ps⟩:Rc).pcs l.next:=rfl
   rw [hpc] at hq
   obtain ⟨j,hj,rfl⟩:=mem_pcs hq
   exact ⟨hg.ok _ hq,rfl⟩
 have hho:=write_homes h.calm.on h.err h.fit.n2 ht hc (by rw [hw])
 rw [hw] at hok hho ⊢
 simp only at hok hho ⊢
 have hLf:=flush_L d
 have hcalm:Dsk.calm ({d with Q:=d.Q++ringQ l.n (cutL l.epoch l.next (recB ps))}:Dsk):=⟨h.calm.fuse,h.calm.on⟩
 have hflok:(({d with Q:=d.Q++ringQ l.n (cutL l.epoch l.next (recB ps))}:Dsk).flush).ok:=hok.flush
 refine ⟨trivial,⟨⟨F,D++ [⟨l.epoch,ps⟩],?_⟩,hcalm,hok,h.rn,h.err,by simp only;omega,fun j hj=> ?_,by simp only;omega,by have:=h.gen;simp only;omega,?_⟩,hho⟩
 · have hfl2:=hcalm.flush
   simp only at hfl2
   have hd1ok:({d with L:=laid d.Q d.L,Q:=ringQ l.n (cutL l.epoch l.next (recB ps))}:Dsk).ok:=by
     have h1:=hr.dok
     rw [h.calm.flush] at h1
     refine ⟨h1.lo,h1.hi,h1.sec,fun x hx=> ?_,?_,h1.fuse⟩
     · have:=hok.que x (List.mem_append.2 (.inr hx))
       simp only [laid_len] at this ⊢
       exact this
     · have:=hok.small
       simp only [List.length_append] at this ⊢
       omega
   have hr1:Rg ({d with L:=laid d.Q d.L,Q:=ringQ l.n (cutL l.epoch l.next (recB ps))}:Dsk) _ F D ([]++ [⟨l.epoch,ps⟩]):=
     hr.write (by unfold Lg.homes at ht ⊢;rw [hLf];exact ht) hb hc hfl (by rw [h.calm.flush]) (by rw [h.calm.flush];rfl) hd1ok
   rw [List.nil_append] at hr1
   refine hr1.flush ?_ ?_ hflok
   · rw [hfl2]
     show laid (d.Q++_) d.L=laid _ (laid d.Q d.L)
     unfold laid
     rw [List.foldl_append]
   · rw [hfl2]
 · have hg:({d with Q:=d.Q++ringQ l.n (cutL l.epoch l.next (recB ps))}:Dsk).get j=seenQ (ringQ l.n (cutL l.epoch l.next (recB ps))) j (d.get j):=by
     unfold Dsk.get
     exact seen_append _ _ _ _
   rw [hg]
   rcases seen_or (ringQ l.n (cutL l.epoch l.next (recB ps))) j (d.get j) with e|⟨x,hx,_,e⟩
   · rw [e]
     have:=h.ends j hj
     omega
   · rw [e]
     obtain ⟨q,hq,rfl⟩:=List.mem_map.1 hx
     have:=hpe q hq
     simp only
     rw [ends_seal this.1,this.2]
     omega
 · simp only [List.length_append,ringQ,List.length_map]
   have:=h.q
   omega
theorem clive_check (h:CLive n i l d) (hi:i≤1000):(l.check d).2.2=0∧CLive n (i+1) (l.check d).1 (l.check d).2.1∧homesB (l.check d).1 (l.check d).2.1=homesB l d∧(l.check d).1.free=n:=by
 obtain ⟨F,D,hr⟩:=h.rg
 have hcf:Dsk.calm d.flush:=by rw [h.calm.flush];exact ⟨h.calm.fuse,h.calm.on⟩
 have hff:d.flush.flush=d.flush:=by
   have h1:=hcf.flush
   rw [h1]
   rw [h.calm.flush]
   rfl
 have hsame:l.check d=l.check d.flush:=by
   have e1:=sync_calm h.calm h.err
   have e2:=sync_calm hcf h.err
   rw [hff] at e2
   unfold Lg.check
   rw [e1,e2]
 have hok:=check_dok (l:=l) h.fit h.dok (by have:=h.q;omega)
 obtain ⟨d',hc,hcalm,hL,hQ,hrg,hho,hlow⟩:=check_calm hr hcf h.err (by have:=h.gen;omega) (by have:=h.next;omega)
 rw [hsame,hc] at hok
 rw [hsame,hc]
 simp only at hok ⊢
 have hrg':=hrg hok
 have hLf:=flush_L d
 have hn:=h.rn
 have hfl':d'.flush=d':=by
   rw [hcalm.flush,hQ]
   obtain ⟨L',Q',a,b,c⟩:=d'
   simp only at hQ
   subst hQ
   rfl
 refine ⟨trivial,⟨⟨_,_,by rw [hfl'];exact hrg'⟩,hcalm,hok,h.rn,h.err,by have:=h.ep;simp only;omega,fun j hj=> ?_,by have:=h.next;simp only;omega,by have:=h.gen;simp only;omega,by rw [hQ];exact Nat.zero_le _⟩,?_,?_⟩
 · have hj:j<2+l.n:=by omega
   rcases hlow j hj with e|e
   · rw [e,ends_seal (headPc_ok hr.fit.epoch (by have:=h.gen;simp only;omega))]
     have:=h.ep
     simp only [headPc]
     omega
   · rw [e,flush_gets h.calm h.dok]
     have:=h.ends j (by omega)
     omega
 · rw [←h.homes]
   unfold homesB
   have hh:({l with gen:=l.gen+1,tail:=l.next,H:=fun _=>none}:Lg).homes d'=l.homes d.flush:=by unfold Lg.homes;rw [hL]
   rw [hh]
   refine List.map_congr_left fun k hk=> ?_
   have:=hho k (List.mem_range.1 hk)
   rw [←this]
   rfl
 · show l.n-(l.next-l.next)=n
   rw [hn]
   omega
theorem clive_sync (h:CLive n i l d):l.sync d=(l,d.flush)∧CLive n i l d.flush∧homesB l d.flush=homesB l d:=by
 have hcf:Dsk.calm d.flush:=by rw [h.calm.flush];exact ⟨h.calm.fuse,h.calm.on⟩
 have hff:d.flush.flush=d.flush:=by
   have h1:=hcf.flush
   rw [h1]
   rw [h.calm.flush]
   rfl
 refine ⟨sync_calm h.calm h.err,⟨by rw [hff];exact h.rg,hcf,h.dok.flush,h.rn,h.err,h.ep,fun j hj=> ?_,h.next,h.gen,?_⟩,h.homes⟩
 · rw [flush_gets h.calm h.dok]
   exact h.ends j hj
 · rw [h.calm.flush]
   exact Nat.zero_le _
end
theorem calm_newD (n:Nat):Dsk.calm (newD n):=⟨rfl,rfl⟩
theorem clive_init {n size:Nat} (h1:2≤n) (h2:n+4≤size) (h3:size≤4096):CLive n 0 (log0 n 1 0 0) (newD size):=by
 have hok:=newD_ok (n:=size) (by omega) (by omega)
 have hL:(newD size).L.length=size:=by simp [newD]
 have hfl:(newD size).flush=newD size:=by
   rw [(calm_newD _).flush]
   rfl
 refine ⟨⟨1, [],?_⟩,calm_newD _,hok,rfl,rfl,Nat.le_refl _,?_,Nat.zero_le _,Nat.zero_le _,Nat.zero_le _⟩
 · rw [hfl]
   refine ⟨(log0_fit (by omega) (by omega) (by decide) (by decide)),hok,⟨.inr ⟨head_zero (by omega),rfl,rfl,rfl⟩,trivial,(fun q hq=>by cases hq),Nat.le_add_right _ _,Nat.le_refl _, .inl rfl,fun c q c1 c2 hq=> ?_⟩,rfl,trivial,rfl,rfl⟩
   have c2:c<0+n:=c2
   have hq:pieceB (newD size) n c=some q:=hq
   show q.ep<1
   have hm:=Nat.mod_lt c (show 0<n by omega)
   unfold pieceB at hq
   rw [newd_get (by omega),unseal_zero] at hq
   simp only at hq
   split at hq
   · cases hq
     decide
   · cases hq
 · intro i hi
   rw [newd_get (by omega),ends_zero]
   exact ⟨Nat.zero_le _,Nat.zero_le _⟩
end Go.Proofs.YtldimgchpgoggaaGreat
