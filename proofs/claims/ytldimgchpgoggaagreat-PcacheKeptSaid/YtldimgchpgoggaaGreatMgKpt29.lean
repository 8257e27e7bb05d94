import Derived.Test.YtldimgchpgoggaaGreatMgKpt25
import Derived.Test.YtldimgchpgoggaaGreatMgKpt27
import Derived.Test.YtldimgchpgoggaaGreatMgKpt21
import Derived.Test.YtldimgchpgoggaaGreatMgKpt23
import Derived.Test.YtldimgchpgoggaaGreatMgKpt28
namespace Go.Proofs.YtldimgchpgoggaaGreat
open Go.RowKit Go.Tn Go.Tn.Bt Go.Tn.Lp Go.Tn.Dk Go.Tn.Ino Go.Tn.Slo Go.Tn.Ck Go.Tn.Pc
def encB (a:Blk):Value:= .agg (blC a)
theorem keyB:KeyOK Tryz.prog 35 encB where
 now:=⟨_,Tryz.underlying35,fun a b=> .inl rfl⟩
 eq:=fun w a b=>by
   obtain ⟨i,g,x⟩:=a
   obtain ⟨i',g',x'⟩:=b
   have:decide (((i,g,x):Blk)=(i',g',x'))=(i==i'&&g==g'&&x==x'):=by
     rw [Bool.eq_iff_iff];simp [and_assoc]
   rw [this]
   simp [encB,Op.equal,Op.maxDepth,go_sem,Program.fieldsOf,Tryz.underlying35,Tryz.underlying33,Op.eqFields,part,isAgg]
   repeat' split
   all_goals simp_all
 chk:=fun e w a=>by
   have h: ∀n,(Instr.checkKey e (n+6) 35 (encB a)).run Tryz.prog w= .ok () w:=fun n=>by
     simp [encB,Instr.checkKey,underlying,part,go_sem]
   exact h 9994
 bits:=fun a=>by simp [encB,Instr.sameBits]
theorem aggBl (a:Blk):AggT Tryz.prog 35 (blC a).size:=⟨⟨_,Tryz.underlying35,rfl⟩,by kernel_rfl⟩
theorem elSl:ElT Tryz.prog 45 42 7 enSl:=⟨Tryz.underlying45,by kernel_rfl,by decide,fun _=>rfl,fun x u hu=>by
 simp only [enSl,List.mem_cons,List.not_mem_nil,or_false] at hu
 rcases hu with rfl|rfl|rfl|rfl|rfl|rfl|rfl<;>rfl⟩
structure CA where
 c:Nat
 sb:Nat
 wb:Nat
 rb:Nat
 g:Nat
 p:Nat
def CA.own (A:CA) (b:Nat):Prop:=b=A.c∨b=A.sb∨b=A.wb∨b=A.rb
def CA.all (A:CA) (F FD:Nat→Prop) (b:Nat):Prop:=A.own b∨F b∨FD b
def slotsC (L:List Slt):Array Value:=(L.flatMap enSl).toArray
def cacheC (A:CA) (P:PC):Array Value:= #[.pointer (some ⟨A.g,0,none⟩), .slice (some ⟨A.sb,0,none⟩) P.L.length P.L.length, .map (some A.wb), .pointer (some ⟨A.rb,0,none⟩), .int .u64 (P.num:Nat)]
structure WhAt (w:World) (b:Nat) (P:PC):Prop where
 ex: ∃(L:Ents Blk) (clk:Nat),w.heap[b]?=some (.map (ents encB L) clk)∧WF L clk∧ ∀k,get k L=(P.find k).map fun (i:Nat)=> .int .i64 (i:Nat)
structure CAt (w:World) (F FD:Nat→Prop) (A:CA) (l:Lg) (d:Dsk) (P:PC):Prop where
 blk:w.heap[A.c]?=some (.cells (cacheC A P) 69 (0,0))
 slots:w.heap[A.sb]?=some (.cells (slotsC P.L) 42 (0,0))
 wh:WhAt w A.wb P
 ring:RgAt w A.rb P.R
 log:LAt w F A.g A.p l
 disk:DAt w FD A.p d
 ap: ∀b,F b→¬ FD b
 own: ∀b,A.own b→¬ F b∧¬ FD b
 ne:A.c≠A.sb∧A.c≠A.wb∧A.c≠A.rb∧A.sb≠A.wb∧A.sb≠A.rb∧A.wb≠A.rb
 ok:P.Ok
 num:P.num≤1099511627775
section
variable {w w':World} {F FD:Nat→Prop} {A:CA} {l:Lg} {d:Dsk} {P:PC}
theorem WhAt.lt {b:Nat} (h:WhAt w b P):b<w.heap.size:=by
 obtain ⟨L,clk,h, -⟩:=h.ex
 exact lt_of_block h
theorem WhAt.kept {b:Nat} (h:WhAt w b P) (hb:w'.heap[b]?=w.heap[b]?):WhAt w' b P:=by
 obtain ⟨L,clk,h1,h2⟩:=h.ex
 exact ⟨L,clk,hb.trans h1,h2⟩
theorem CAt.lt (h:CAt w F FD A l d P): ∀b,A.all F FD b→b<w.heap.size:=fun b hb=>by
 rcases hb with (rfl|rfl|rfl|rfl)|hb|hb
 · exact lt_of_block h.blk
 · exact lt_of_block h.slots
 · exact h.wh.lt
 · exact lt_of_block h.ring.blk
 · exact h.log.lt b hb
 · exact h.disk.lt b hb
theorem CAt.below (h:CAt w F FD A l d P) (hb:Below w.heap.size w w'):CAt w' F FD A l d P:=
 ⟨(hb.block _ (lt_of_block h.blk)).trans h.blk,(hb.block _ (lt_of_block h.slots)).trans h.slots,h.wh.kept (hb.block _ h.wh.lt),h.ring.below hb,h.log.below hb,h.disk.below hb,h.ap,h.own,h.ne,h.ok,h.num⟩
theorem CAt.mod {S:Nat→Prop} (h:CAt w F FD A l d P) (hm:Mod S w w') (hS: ∀b,A.all F FD b→¬ S b):CAt w' F FD A l d P:=
 ⟨hm.heap h.blk (hS _ (.inl (.inl rfl))),hm.heap h.slots (hS _ (.inl (.inr (.inl rfl)))),h.wh.kept (hm.block _ h.wh.lt (hS _ (.inl (.inr (.inr (.inl rfl)))))),h.ring.mod hm (hS _ (.inl (.inr (.inr (.inr rfl))))),
   h.log.mod hm (fun b hb=>hS b (.inr (.inl hb))),h.disk.mod hm (fun b hb=>hS b (.inr (.inr hb))),h.ap,h.own,h.ne,h.ok,h.num⟩
theorem CAt.c0 (h:CAt w F FD A l d P):w.cell? ⟨A.c,0,none⟩=some (.pointer (some ⟨A.g,0,none⟩)):=cell_of h.blk rfl
theorem CAt.c1 (h:CAt w F FD A l d P):w.cell? ⟨A.c,1,none⟩=some (.slice (some ⟨A.sb,0,none⟩) P.L.length P.L.length):=cell_of h.blk rfl
theorem CAt.c2 (h:CAt w F FD A l d P):w.cell? ⟨A.c,2,none⟩=some (.map (some A.wb)):=cell_of h.blk rfl
theorem CAt.c3 (h:CAt w F FD A l d P):w.cell? ⟨A.c,3,none⟩=some (.pointer (some ⟨A.rb,0,none⟩)):=cell_of h.blk rfl
theorem CAt.c4 (h:CAt w F FD A l d P):w.cell? ⟨A.c,4,none⟩=some (.int .u64 (P.num:Nat)):=cell_of h.blk rfl
theorem slots_get {L:List Slt} {i:Nat} {x:Slt} (h:L[i]?=some x) {j:Nat} (hj:j<7):(slotsC L)[i*7+j]?=(enSl x)[j]?:=by
 unfold slotsC
 rw [List.getElem?_toArray,get_flatMap (en:=enSl) (k:=7) (fun _=>rfl) _ _ _ _ h hj]
theorem slots_lies {b:Nat} {L:List Slt} (h:w.heap[b]?=some (.cells (slotsC L) 42 (0,0))) {i:Nat} {x:Slt} (hx:L[i]?=some x):Lies w b (i*7) (slC x):=fun j hj=>by
 have hj7:j<7:=hj
 refine cell_of h ?_
 rw [slots_get hx hj7]
 match j,hj7 with
 |0,_=>rfl
 |1,_=>rfl
 |2,_=>rfl
 |3,_=>rfl
 |4,_=>rfl
 |5,_=>rfl
 |6,_=>rfl
theorem slots_size (L:List Slt):(slotsC L).size=L.length*7:=by simp [slotsC,len_flatMap (en:=enSl) (k:=7) (fun _=>rfl)]
theorem slots_set {L:List Slt} {i:Nat} (hi:i<L.length) (x:Slt):setMany (slotsC L) (i*7) (slC x).toList=slotsC (L.set i x):=by
 apply Array.ext_getElem?
 intro j
 by_cases hj:j<(slotsC L).size
 · rw [setMany_get _ _ _ _ hj]
   have hz:=slots_size L
   have hq:j/7<L.length:=by omega
   have hlx:(slC x).toList.length=7:=rfl
   by_cases h1:i*7≤j∧j<i*7+(slC x).toList.length
   · rw [if_pos h1]
     rw [hlx] at h1
     obtain ⟨k,rfl⟩: ∃k,j=i*7+k:=⟨j-i*7,by omega⟩
     rw [slots_get (L:=L.set i x) (i:=i) (x:=x) (by rw [List.getElem?_set,if_pos rfl,if_pos hi]) (by omega),Nat.add_sub_cancel_left]
   · rw [if_neg h1]
     rw [hlx] at h1
     have hji:i≠j/7:=by omega
     have e:j=(j/7)*7+j %7:=by omega
     rw [e,slots_get (L:=L) (i:=j/7) (x:=L[j/7]) (List.getElem?_eq_getElem hq) (Nat.mod_lt _ (by decide)),
       slots_get (L:=L.set i x) (i:=j/7) (x:=L[j/7]) (by rw [List.getElem?_set,if_neg hji];exact List.getElem?_eq_getElem hq) (Nat.mod_lt _ (by decide))]
 · rw [Array.getElem?_eq_none (by rw [setMany_size];omega),Array.getElem?_eq_none (by rw [slots_size,List.length_set, ←slots_size L];omega)]
theorem pok_any (h:CAt w F FD A l d P):Calls Tryz.prog 45 #[.pointer (some ⟨A.c,0,none⟩)] w fun e w'=>e= .returned (.bool true)∧w'=w:=by
 have c:=h.c0
 clear h
 go_enter Tryz.func45,Tryz.ntmps45
 go_wp2
 go_ret
 exact ⟨rfl,rfl⟩
theorem pnumber_any (h:CAt w F FD A l d P):Calls Tryz.prog 35 #[.pointer (some ⟨A.c,0,none⟩)] w fun e w'=>e= .returned (.int .u64 (P.num:Nat))∧w'=w:=by
 have c:=h.c4
 have hok:=pok_any h
 clear h
 go_enter Tryz.func35,Tryz.ntmps35
 go_wp2_with (first
   |(go_at_call 45;refine hok.mono ?_;rintro e wt ⟨rfl,hw⟩;obtain rfl:=hw.symm;clear hw)
   |fail)
 go_ret
 exact ⟨rfl,rfl⟩
end
end Go.Proofs.YtldimgchpgoggaaGreat
namespace Go.Tn.Pc
open Go.Tn.Slo Go.Tn.Ck
theorem set_len (c:PC) (i:Nat) (x:Slt):(c.set i x).L.length=c.L.length:=by unfold PC.set;simp
theorem find_set {c:PC} (h:c.Ok) {i:Nat} (hi:i<c.L.length) {x:Slt} (hx:x.is) (h':(c.set i x).Ok) (k:Blk):
   (c.set i x).find k=if x≠Slt.no∧k=x.blk then some i else if (c.at_ i).used=true∧k=(c.at_ i).blk then none else c.find k:=by
 have hat:=fun j=>set_at hi x j
 by_cases h1:x≠Slt.no∧k=x.blk
 · rw [if_pos h1,find_some h',set_len,hat,if_pos rfl]
   exact ⟨hi,(is_used hx).2 h1.1,h1.2.symm⟩
 · rw [if_neg h1]
   by_cases h2:(c.at_ i).used=true∧k=(c.at_ i).blk
   · rw [if_pos h2,find_none]
     intro j hj hu hb
     rw [set_len] at hj
     rw [hat] at hu hb
     by_cases hji:j=i
     · rw [if_pos hji] at hu hb
       exact h1 ⟨(is_used hx).1 hu,hb.symm⟩
     · rw [if_neg hji] at hu hb
       exact hji (h.uniq j i hj hi hu h2.1 (hb.trans h2.2))
   · rw [if_neg h2]
     cases hf:c.find k with
     |some j=>
       obtain ⟨e1,e2,e3⟩:=(find_some h).1 hf
       have hji:j≠i:=fun e=>h2 ⟨e ▸ e2,by rw [←e];exact e3.symm⟩
       rw [find_some h',set_len,hat,if_neg hji]
       exact ⟨e1,e2,e3⟩
     |none=>
       rw [find_none] at hf ⊢
       intro j hj hu hb
       rw [set_len] at hj
       rw [hat] at hu hb
       by_cases hji:j=i
       · rw [if_pos hji] at hu hb
         exact h1 ⟨(is_used hx).1 hu,hb.symm⟩
       · rw [if_neg hji] at hu hb
         exact hf j hj hu hb
end Go.Tn.Pc
namespace Go.Proofs.YtldimgchpgoggaaGreat
open Go.RowKit Go.Tn Go.Tn.Bt Go.Tn.Lp Go.Tn.Dk Go.Tn.Ino Go.Tn.Slo Go.Tn.Ck Go.Tn.Pc
section
variable {w w':World} {F FD:Nat→Prop} {A:CA} {l:Lg} {d:Dsk} {P:PC}
def PSet (w:World) (F FD:Nat→Prop) (A:CA) (l:Lg) (d:Dsk) (P:PC) (e:Ending) (w':World):Prop:=e= .returned (.tuple #[])∧CAt w' F FD A l d P∧Mod A.own w w'
set_option maxRecDepth 20000 in
set_option maxHeartbeats 8000000 in
theorem pset_any (h:CAt w F FD A l d P) (i:Nat) (hi:i<P.L.length) (x:Slt) (hx:x.is) (hu: ∀j,j<P.L.length→j≠i→(P.at_ j).used=true→(P.at_ j).blk≠x.blk∨x=Slt.no):
   Calls Tryz.prog 66 #[.pointer (some ⟨A.c,0,none⟩), .int .i64 i, .agg (slC x)] w fun e w'=>PSet w F FD A l d (P.set i x) e w':=by
 have hok':=h.ok.set hi hx hu
 have hfs:=find_set h.ok hi hx hok'
 obtain ⟨y,hy⟩: ∃y,P.at_ i=y:=⟨_,rfl⟩
 have hyL:P.L[i]?=some y:=by rw [←hy];exact at_get hi
 have hyi:y.is:=h.ok.is y (List.mem_of_getElem? hyL)
 rw [hy] at hfs
 have hb1:Below w.heap.size w (w.alloc (.cells (slC x) 42)):=(Below.refl _ _).alloc (Nat.le_refl _) _
 have hk1:(w.alloc (.cells (slC x) 42)).heap[w.heap.size]?=some (.cells (slC x) 42 (0,0)):=heap_alloc_at
 have hC1:=h.below hb1
 have hlt:=h.lt
 have hLOG: ∀w9,Mod A.own w w9→LAt w9 F A.g A.p l:=fun w9 hm=>h.log.mod hm (fun b hb ho=>(h.own b ho).1 hb)
 have hDSK: ∀w9,Mod A.own w w9→DAt w9 FD A.p d:=fun w9 hm=>h.disk.mod hm (fun b hb ho=>(h.own b ho).2 hb)
 generalize hw1:w.alloc (.cells (slC x) 42)=w1 at hb1 hk1 hC1
 have hb2:Below w1.heap.size w1 (w1.alloc (.cells (slC y) 42)):=(Below.refl _ _).alloc (Nat.le_refl _) _
 have hk2:(w1.alloc (.cells (slC y) 42)).heap[w1.heap.size]?=some (.cells (slC y) 42 (0,0)):=heap_alloc_at
 have hLy:Lies w1 A.sb (i*7) (slC y):=slots_lies hC1.slots hyL
 have hagy:=aggSl y
 have hony:=oneSl y
 have hagx:=aggSl x
 have honx:=oneSl x
 have c1:=hC1.c1
 have hi63:(i:Int)<(P.L.length:Int):=by omega
 obtain ⟨n,hn⟩: ∃n,P.L.length=n:=⟨_,rfl⟩
 have hn64:n≤64:=by have:=h.ring.hi;have:=h.ok.len;omega
 rw [hn] at c1 hi63
 have hi':i<n:=by omega
 have HN:=Lib.hid hn
 have HC1:=Lib.hid hC1
 have HB1:=Lib.hid hb1
 have HK1:=Lib.hid hk1
 have HB2:=Lib.hid hb2
 have HK2:=Lib.hid hk2
 have HOK:=Lib.hid hok'
 have HFS:=Lib.hid hfs
 have HLT:=Lib.hid hlt
 have HYI:=Lib.hid hyi
 have HX:=Lib.hid hx
 clear h hn hC1 hb1 hk1 hb2 hk2 hok' hfs hlt hyi hx hy hyL hu hi
 go_enter Tryz.func66,Tryz.ntmps66
 go_upto_region 1 with fail
 clear hw1
 go_upto_region 2 with (first
   |((with_reducible refine wpList_loadA hagy hLy ?_ ?_);rfl;go_frame)
   |((with_reducible refine wpList_storeA_new hagy ?_ hony ?_ ?_ ?_);rfl;rfl;rfl;go_frame)
   |fail)
 have hC2:=HC1.out.below HB2.out
 have hx2:=(HB2.out.block w.heap.size (lt_of_block HK1.out)).trans HK1.out
 have hlo:w.heap.size<w1.heap.size:=lt_of_block HK1.out
 generalize hyb:w1.heap.size=yb at*
 generalize w1.alloc (.cells (slC y) 42)=w2 at*
 have hL2:=lies_of HK2.out
 have hfr:=sfree_any w2 y
 have HC2:=Lib.hid hC2
 have HX2:=Lib.hid hx2
 have HYB:=Lib.hid hyb
 clear hLy c1 hC2 hx2 hyb
 have hgb: ∃u:Bool,(decide (y=Slt.no))= !u∧(u=true↔y.used=true):=by
   refine ⟨y.used,?_,Iff.rfl⟩
   cases hq:y.used with
   |true=>exact decide_eq_false ((is_used HYI.out).1 hq)
   |false=>
     refine decide_eq_true ?_
     by_cases hn:y=Slt.no
     · exact hn
     · rw [(is_used HYI.out).2 hn] at hq
       cases hq
 obtain ⟨u,hu1,hu2⟩:=hgb
 rw [hu1] at hfr
 have HU:=Lib.hid hu2
 have hsz2:=lt_of_block HK2.out
 clear hu1 hu2
 go_upto_if 16 with (first
   |((with_reducible refine wpList_loadA hagy hL2 ?_ ?_);rfl;go_frame)
   |(go_at_call 28;refine hfr.mono ?_;rintro e w3 ⟨rfl,hb3⟩;have HB3:=Lib.hid hb3;clear hb3)
   |fail)
 clear hfr hL2
 have hC3:=HC2.out.below HB3.out
 have hx3:=(HB3.out.block w.heap.size (lt_of_block HX2.out)).trans HX2.out
 have hy3:=(HB3.out.block yb hsz2).trans HK2.out
 have HC3:=Lib.hid hC3
 have HX3:=Lib.hid hx3
 have HY3:=Lib.hid hy3
 have HS23:=Lib.hid HB3.out.size
 clear hC3 hx3 hy3 HC2 HX2 HK2
 go_cut [] (fun wx=> ∃L clk,wx.heap[A.wb]?=some (.map (ents encB L) clk)∧WF L clk∧(∀k,get k L=if y.used=true∧k=y.blk then none else (P.find k).map fun (j:Nat)=> .int .i64 (j:Nat))∧Mod (fun b=>b=A.wb) w3 wx)
 case first=>
   obtain ⟨L,clk,hm,hwf,hget⟩:=HC3.out.wh.ex
   cases u with
   |false=>
     have huf:¬ y.used=true:=fun e=>by have:=HU.out.2 e;cases this
     have HG:=Lib.hid hget
     clear hget
     go_wp2
     go_meet
     case rel=>exact ⟨L,clk,hm,hwf,fun k=>by rw [if_neg (fun e=>huf e.1)];exact HG.out k,Mod.refl _ _⟩
   |true=>
     have huf:y.used=true:=HU.out.1 rfl
     have HG:=Lib.hid hget
     have hS:w3.drew.cell? ⟨A.c,2,none⟩=some (.map (some A.wb))∧Lies w3.drew yb 1 (blC y.blk):=⟨HC3.out.c2,fun j hj=>by
       match j,hj with
       |0,_=>exact cell_of (w:=w3.drew) HY3.out rfl
       |1,_=>exact cell_of (w:=w3.drew) HY3.out rfl
       |2,_=>exact cell_of (w:=w3.drew) HY3.out rfl⟩
     have hwh:=HC3.out.wh.lt
     have hm3:w3.drew.heap[A.wb]?=some (.map (ents encB L) clk):=hm
     have hne:=HC3.out.ne
     clear hget
     go_upto_region 3 with fail
     refine wp_region_x (fun w'=>w'.cell? ⟨A.c,2,none⟩=some (.map (some A.wb))∧Lies w' yb 1 (blC y.blk)) [(0,1),(1,1),(2,1),(3,0),(4,1),(5,0),(6,3)] (by kernel_rfl) (by kernel_rfl) (by intro d v c a w h;cases d<;>exact h) ?_
     iterate 3 (refine x_take rfl (fun K hK=> ?_);go_simp;refine hK _ ?_;clear hK K)
     refine x_read rfl hS (fun w' h=>exec_load1 ⟨⟨_,Tryz.underlying66,rfl⟩⟩ rfl h.1) ?_
     iterate 1 (refine x_take rfl (fun K hK=> ?_);go_simp;refine hK _ ?_;clear hK K)
     refine x_read rfl hS (fun w' h=>exec_loadA (aggBl y.blk) rfl h.2) ?_
     refine x_exec rfl (exec_delete (w:=w3.drew) keyB Tryz.underlying66 hm3 rfl y.blk rfl) ?_
     refine x_nil ?_
     have hmm:Mod (fun b=>b=A.wb) w3 (setObjW w3.drew A.wb (.map (ents encB (del y.blk L)) clk)):=(Mod.refl _ w3).drew.trans (setObjW_mod _ _) (fun x h=>h) (fun x _ h=>h)
     have hat:(setObjW w3.drew A.wb (.map (ents encB (del y.blk L)) clk)).heap[A.wb]?=some (.map (ents encB (del y.blk L)) clk):=setObjW_at hwh
     have HMM:=Lib.hid hmm
     have HAT:=Lib.hid hat
     have HWF:=Lib.hid hwf
     clear hS hm3 hmm hat hwf hm
     go_wp2
     go_meet
     case rel=>exact ⟨del y.blk L,clk,HAT.out,HWF.out.del,fun k=>by
       rw [get_del HWF.out]
       by_cases hk:k=y.blk
       · rw [if_pos hk,if_pos ⟨huf,hk⟩]
       · rw [if_neg hk,if_neg (fun e=>hk e.2)]
         exact HG.out k,HMM.out⟩
 case rest=>
   obtain ⟨L,clk,hm,hwf,hget,hmd⟩:=hcut
   have hne:=HC3.out.ne
   have hwb: ∀b,A.own b→b≠A.wb→wc.heap[b]?=w3.heap[b]?:=fun b hb hn=>hmd.block b (HC3.out.lt b (.inl hb)) hn
   have hcc:wc.heap[A.c]?=some (.cells (cacheC A P) 69 (0,0)):=(hwb _ (.inl rfl) hne.2.1).trans HC3.out.blk
   have hss:wc.heap[A.sb]?=some (.cells (slotsC P.L) 42 (0,0)):=(hwb _ (.inr (.inl rfl)) hne.2.2.2.1).trans HC3.out.slots
   have hrr:RgAt wc A.rb P.R:=HC3.out.ring.mod hmd (fun e=>hne.2.2.2.2.2 e.symm)
   have hxx:wc.heap[w.heap.size]?=some (.cells (slC x) 42 (0,0)):=(hmd.block _ (lt_of_block HX3.out) (fun e=>by
     have:=HLT.out A.wb (.inl (.inr (.inr (.inl rfl))))
     omega)).trans HX3.out
   have hS:wc.drew.cell? ⟨A.c,1,none⟩=some (.slice (some ⟨A.sb,0,none⟩) n n)∧Lies wc.drew w.heap.size 0 (slC x):=⟨by
     have:=cell_of (w:=wc.drew) (o:=1) (v:= .slice (some ⟨A.sb,0,none⟩) P.L.length P.L.length) hcc rfl
     rw [HN.out] at this
     exact this,lies_of (w:=wc.drew) hxx⟩
   have hst:=fun (ρ:Operand→Value) (ty:TypeId) (pos:String) (after:Array Edge) (x' y':Operand) (hx':ρ x'= .pointer (some ⟨A.sb,i*7,none⟩)) (hy':ρ y'= .agg (slC x))=>
     exec_storeA (P:=Tryz.prog) (dst:=none) (g:=none) (ty:=ty) (pos:=pos) (after:=after) (w:=wc.drew) hagx hx' hy' hss (by rw [slots_size,HN.out];show i*7+7≤n*7;omega) (fun v hv=>by rw [Array.all_eq_true'] at honx;exact honx v (by simpa using hv))
   have hs5:=heap_setCells_at (slC x).toList (i*7) wc.drew (slotsC P.L) hss
   rw [slots_set (by rw [HN.out];exact hi')] at hs5
   have hm5:Mod (fun b=>b=A.sb) wc _:=Mod.setCells (S:=fun b=>b=A.sb) (fun _=>rfl) (slC x).toList (i*7) wc.drew ((Mod.refl _ wc).drew)
   go_upto_region 4 with fail
   refine wp_region_x (fun w'=>w'.cell? ⟨A.c,1,none⟩=some (.slice (some ⟨A.sb,0,none⟩) n n)∧Lies w' w.heap.size 0 (slC x)) [(0,1),(1,1),(2,1),(3,0),(4,1),(5,0),(6,1),(7,3)] (by kernel_rfl) (by kernel_rfl) (by intro d v c a w h;cases d<;>exact h) ?_
   iterate 3 (refine x_take rfl (fun K hK=> ?_);go_simp;refine hK _ ?_;clear hK K)
   refine x_read rfl hS (fun w' h=>exec_load1 ⟨⟨_,Tryz.underlying45,rfl⟩⟩ rfl h.1) ?_
   iterate 1 (refine x_take rfl (fun K hK=> ?_);go_simp;refine hK _ ?_;clear hK K)
   refine x_read rfl hS (fun w' h=>exec_loadA hagx rfl h.2) ?_
   iterate 1 (refine x_take rfl (fun K hK=> ?_);go_simp;refine hK _ ?_;clear hK K)
   refine x_skip rfl (hst _ _ _ _ _ _ rfl rfl) ?_
   refine x_nil ?_
   have hsbx:w.heap.size≠A.sb:=fun e=>by have:=HLT.out A.sb (.inl (.inr (.inl rfl)));omega
   have hwbx:w.heap.size≠A.wb:=fun e=>by have:=HLT.out A.wb (.inl (.inr (.inr (.inl rfl))));omega
   have hrbx:w.heap.size≠A.rb:=fun e=>by have:=HLT.out A.rb (.inl (.inr (.inr (.inr rfl))));omega
   have hx5:=hm5.heap hxx hsbx
   have hc5:=hm5.heap hcc hne.1
   have hw5:=hm5.heap hm (fun e=>hne.2.2.2.1 e.symm)
   have hr5:=hrr.mod hm5 (fun e=>hne.2.2.2.2.1 e.symm)
   -- all that was changed till here
   have hb03:Below w.heap.size w w3:=HB1.out.trans ((HB2.out.mono (by rw [←HYB.out];exact HB1.out.size)).trans (HB3.out.mono (Nat.le_trans HB1.out.size HB2.out.size)))
   have hm05:=(((Mod.of_below hb03).mono (T:=A.own) fun b hb hS=>absurd hb (Nat.not_lt.2 hS)).trans hmd (T:=A.own) (fun b h=>h) (fun b _ h=> .inr (.inr (.inl h)))).trans hm5 (T:=A.own) (fun b h=>h) (fun b _ h=> .inr (.inl h))
   generalize wc.drew.setCells A.sb (i*7) (slC x).toList=w5 at*
   have hw35:w.heap.size<w5.heap.size:=lt_of_block hx5
   have hiR:i<P.R.L.length:=by rw [HC3.out.ok.len,HN.out];exact hi'
   have hfr:=sfree_any w5 x
   have hLx:=lies_of hx5
   have HC5:=Lib.hid hc5
   have HS5:=Lib.hid hs5
   have HW5:=Lib.hid hw5
   have HR5:=Lib.hid hr5
   have HX5:=Lib.hid hx5
   have HM05:=Lib.hid hm05
   have HWF:=Lib.hid hwf
   have HGET:=Lib.hid hget
   -- what the map must say
   have hfin: ∀w9,w9.heap[A.c]?=some (.cells (cacheC A P) 69 (0,0))→w9.heap[A.sb]?=some (.cells (slotsC (P.L.set i x)) 42 (0,0))→WhAt w9 A.wb (P.set i x)→RgAt w9 A.rb (ringSet P.R i x)→Mod A.own w w9→CAt w9 F FD A l d (P.set i x)∧Mod A.own w w9:=fun w9 k1 k2 k3 k4 k5=>by
     have hC:=HC1.out
     refine ⟨⟨?_,k2,k3,k4,?_,?_,hC.ap,hC.own,hC.ne,HOK.out,hC.num⟩,k5⟩
     · rw [k1]
       unfold cacheC
       rw [set_len]
       rfl
     · exact hLOG w9 k5
     · exact hDSK w9 k5
   have HFIN:=Lib.hid hfin
   have HIR:=Lib.hid hiR
   have HNE:=Lib.hid hne
   have HBX:=Lib.hid (⟨hsbx,hwbx,hrbx⟩:w.heap.size≠A.sb∧w.heap.size≠A.wb∧w.heap.size≠A.rb)
   clear hsbx hwbx hrbx
   have HLO:=Lib.hid (show w.heap.size≤w5.heap.size from Nat.le_of_lt hw35)
   clear hfin hiR hx5 hc5 hs5 hw5 hr5 hm05 hwf hget hxx hcc hss hrr hS hst hm5 hmd hm hb03 hwb hw35 HC1 HC3 HX3 HY3 hLOG hDSK hne
   by_cases hno:x=Slt.no
   · rw [decide_eq_true hno] at hfr
     have HNO:=Lib.hid hno
     clear hno
     go_upto_region 6 with (first
       |((with_reducible refine wpList_loadA hagx hLx ?_ ?_);rfl;go_frame)
       |(go_at_call 28;refine hfr.mono ?_;rintro e w6 ⟨rfl,hb6⟩;have HB6:=Lib.hid hb6;clear hb6)
       |fail)
     have q3:w6.cell? ⟨A.c,3,none⟩=some (.pointer (some ⟨A.rb,0,none⟩)):=cell_of ((HB6.out.block _ (lt_of_block HC5.out)).trans HC5.out) rfl
     have hdr:=kdrop_any (HR5.out.below HB6.out) i HIR.out
     clear hfr hLx
     go_wp2_with fail
     refine hdr.mono ?_
     rintro e w7 ⟨rfl,hR7,hm7⟩
     have hk: ∀b o,w5.heap[b]?=some o→b≠A.rb→w7.heap[b]?=some o:=fun b o hb hn=>hm7.heap ((HB6.out.block b (lt_of_block hb)).trans hb) hn
     have hp:=HFIN.out w7 (hk _ _ HC5.out HNE.out.2.2.1) (hk _ _ HS5.out HNE.out.2.2.2.2.1) ⟨L,clk,hk _ _ HW5.out HNE.out.2.2.2.2.2,HWF.out,fun k=>by
       have e2:=HFS.out k
       rw [if_neg (fun e=>e.1 HNO.out)] at e2
       rw [HGET.out k,e2]
       split<;>rfl⟩ (by unfold ringSet;rw [if_pos HNO.out];exact hR7)
       ((HM05.out.trans (Mod.of_below HB6.out) (T:=A.own) (fun b h=>h) (fun b hb h=>absurd (Nat.lt_of_lt_of_le hb HLO.out) (Nat.not_lt.2 h))).trans hm7 (T:=A.own) (fun b h=>h) (fun b _ h=> .inr (.inr (.inr h))))
     clear hk
     have HP:=Lib.hid hp
     clear hdr hR7 hm7 hp q3
     go_wp2
     (try simp only [Exit.inBlock,Exit.then]);refine bodyPost_end (results_none rfl _ _ _) rfl ?_
     exact ⟨rfl,HP.out.1,HP.out.2⟩
   · rw [decide_eq_false hno] at hfr
     have HNO:=Lib.hid hno
     clear hno
     go_upto_region 7 with (first
       |((with_reducible refine wpList_loadA hagx hLx ?_ ?_);rfl;go_frame)
       |(go_at_call 28;refine hfr.mono ?_;rintro e w6 ⟨rfl,hb6⟩;have HB6:=Lib.hid hb6;clear hb6)
       |fail)
     have hk6: ∀b o,w5.heap[b]?=some o→w6.drew.heap[b]?=some o:=fun b o hb=>(HB6.out.block b (lt_of_block hb)).trans hb
     have hx6:=hk6 _ _ HX5.out
     have hS:w6.drew.cell? ⟨A.c,2,none⟩=some (.map (some A.wb))∧Lies w6.drew w.heap.size 1 (blC x.blk):=⟨cell_of (hk6 _ _ HC5.out) rfl,fun j hj=>by
       match j,hj with
       |0,_=>exact cell_of hx6 rfl
       |1,_=>exact cell_of hx6 rfl
       |2,_=>exact cell_of hx6 rfl⟩
     obtain ⟨w7,hr7,hh7,hwf7,hm7⟩:=exec_mapUpd keyB Tryz.underlying66 (hk6 _ _ HW5.out) HWF.out x.blk (.int .i64 (i:Nat))
     refine wp_region_x (fun w'=>w'.cell? ⟨A.c,2,none⟩=some (.map (some A.wb))∧Lies w' w.heap.size 1 (blC x.blk)) [(0,1),(1,1),(2,1),(3,0),(4,1),(5,0),(6,1),(7,3)] (by kernel_rfl) (by kernel_rfl) (by intro d v c a w h;cases d<;>exact h) ?_
     iterate 3 (refine x_take rfl (fun K hK=> ?_);go_simp;refine hK _ ?_;clear hK K)
     refine x_read rfl hS (fun w' h=>exec_load1 ⟨⟨_,Tryz.underlying66,rfl⟩⟩ rfl h.1) ?_
     iterate 1 (refine x_take rfl (fun K hK=> ?_);go_simp;refine hK _ ?_;clear hK K)
     refine x_read rfl hS (fun w' h=>exec_loadA (aggBl x.blk) rfl h.2) ?_
     iterate 1 (refine x_take rfl (fun K hK=> ?_);go_simp;refine hK _ ?_;clear hK K)
     refine x_skip rfl (hr7 _ _ _ _ _ _ _ _ _ rfl rfl rfl) ?_
     refine x_nil ?_
     have hk7: ∀b o,w5.heap[b]?=some o→b≠A.wb→w7.heap[b]?=some o:=fun b o hb hn=>hm7.heap (hk6 b o hb) hn
     have hc7:=hk7 _ _ HC5.out HNE.out.2.1
     have hs7:=hk7 _ _ HS5.out HNE.out.2.2.2.1
     have hx7:=hk7 _ _ HX5.out HBX.out.2.1
     have hr7':=(HR5.out.below (show Below w5.heap.size w5 w6.drew from HB6.out.drew)).mod hm7 (fun e=>HNE.out.2.2.2.2.2 e.symm)
     have hm07:=(HM05.out.trans (Mod.of_below HB6.out.drew) (T:=A.own) (fun b h=>h) (fun b hb h=>absurd (Nat.lt_of_lt_of_le hb HLO.out) (Nat.not_lt.2 h))).trans hm7 (T:=A.own) (fun b h=>h) (fun b _ h=> .inr (.inr (.inl h)))
     have hwh7:WhAt w7 A.wb (P.set i x):=⟨_,_,hh7,hwf7,fun k=>by
       rw [get_upd HWF.out,HFS.out k]
       by_cases hk:k=x.blk
       · rw [if_pos hk,if_pos ⟨HNO.out,hk⟩]
         rfl
       · rw [if_neg hk,if_neg (fun e=>hk e.2),HGET.out k]
         split<;>rfl⟩
     have q3:w7.cell? ⟨A.c,3,none⟩=some (.pointer (some ⟨A.rb,0,none⟩)):=cell_of hc7 rfl
     have hus:=kuse_any hr7' i HIR.out
     have HC7:=Lib.hid hc7
     have HS7:=Lib.hid hs7
     have HX7:=Lib.hid hx7
     have HM07:=Lib.hid hm07
     have HWH7:=Lib.hid hwh7
     clear hS hr7 hh7 hwf7 hm7 hk6 hk7 hx6 hc7 hs7 hx7 hr7' hm07 hwh7 hfr hLx HC5 HS5 HX5 HM05 HR5 HW5
     go_wp2_with fail
     refine hus.mono ?_
     rintro e w8 ⟨rfl,hR8,hm8⟩
     have hk8: ∀b o,w7.heap[b]?=some o→b≠A.rb→w8.heap[b]?=some o:=fun b o hb hn=>hm8.heap hb hn
     have hc8:=hk8 _ _ HC7.out HNE.out.2.2.1
     have hs8:=hk8 _ _ HS7.out HNE.out.2.2.2.2.1
     have hx8:=hk8 _ _ HX7.out HBX.out.2.2
     have hwh8:=HWH7.out.kept (hm8.block _ HWH7.out.lt HNE.out.2.2.2.2.2)
     have hm08:=HM07.out.trans hm8 (T:=A.own) (fun b h=>h) (fun b _ h=> .inr (.inr (.inr h)))
     have q5:w8.cell? ⟨w.heap.size,5,none⟩=some (.bool x.dirty):=cell_of hx8 rfl
     have q3:w8.cell? ⟨A.c,3,none⟩=some (.pointer (some ⟨A.rb,0,none⟩)):=cell_of hc8 rfl
     have hua:((P.R.use i).at_ i).used=true:=by
       unfold Rn.use
       rw [rn_at_put HIR.out,if_pos rfl]
     have hul:i<(P.R.use i).L.length:=by unfold Rn.use;rw [put_len];exact HIR.out
     have HC8:=Lib.hid hc8
     have HS8:=Lib.hid hs8
     have HR8:=Lib.hid hR8
     have HWH8:=Lib.hid hwh8
     have HM08:=Lib.hid hm08
     have hpi:=kpin_any hR8 i hul hua
     obtain ⟨dd,hdd⟩: ∃dd,x.dirty=dd:=⟨_,rfl⟩
     rw [hdd] at q5
     have HDD:=Lib.hid hdd
     clear hus hR8 hm8 hk8 hc8 hs8 hx8 hwh8 hm08 hua hul hdd HC7 HS7 HX7 HM07 HWH7
     cases dd with
     |false=>
       have hp:=HFIN.out w8 HC8.out HS8.out HWH8.out (by unfold ringSet;rw [if_neg HNO.out,HDD.out,if_neg (by decide)];exact HR8.out) HM08.out
       have HP:=Lib.hid hp
       clear hp hpi
       go_wp2
       (try simp only [Exit.inBlock,Exit.then]);refine bodyPost_end (results_none rfl _ _ _) rfl ?_
       exact ⟨rfl,HP.out.1,HP.out.2⟩
     |true=>
       go_wp2_with fail
       refine hpi.mono ?_
       rintro e w9 ⟨rfl,hR9,hm9⟩
       have hk9: ∀b o,w8.heap[b]?=some o→b≠A.rb→w9.heap[b]?=some o:=fun b o hb hn=>hm9.heap hb hn
       have hp:=HFIN.out w9 (hk9 _ _ HC8.out HNE.out.2.2.1) (hk9 _ _ HS8.out HNE.out.2.2.2.2.1) (HWH8.out.kept (hm9.block _ HWH8.out.lt HNE.out.2.2.2.2.2)) (by unfold ringSet;rw [if_neg HNO.out,HDD.out,if_pos rfl];exact hR9)
         (HM08.out.trans hm9 (T:=A.own) (fun b h=>h) (fun b _ h=> .inr (.inr (.inr h))))
       have HP:=Lib.hid hp
       clear hp hpi hk9 hR9 hm9
       go_wp2
       (try simp only [Exit.inBlock,Exit.then]);refine bodyPost_end (results_none rfl _ _ _) rfl ?_
       exact ⟨rfl,HP.out.1,HP.out.2⟩
end
end Go.Proofs.YtldimgchpgoggaaGreat
namespace Go.Tn.Dk
open Go.RowKit Go.Tn Go.Tn.Bt Go.Tn.Lp
def stWr (l:Lg) (d:Dsk) (ps:List Pt):Lg×Dsk×Nat:=
 if (l.write d ps).2.2≠8 then l.write d ps else
 if (l.check d).2.2≠0 then l.check d else (l.check d).1.write (l.check d).2.1 ps
theorem pwrite_8 {l:Lg} {d:Dsk} {ps:List Pt} (h:(l.write d ps).2.2=8):l.write d ps=(l,d,8):=by
 revert h
 unfold Lg.write
 split
 · intro h
   have h:l.err=8:=h
   rw [h]
 · split
   · intro h
     cases h
   · split
     · intro _;rfl
     · split
       · intro _;rfl
       · split
         · rename_i pcs _ _ h7
           intro h
           exfalso
           have hc: ∀(n:Nat) (ps:List Pc) (d:Dsk),(putPcs n ps d).2=0∨(putPcs n ps d).2=7:=fun n ps=>by
             induction ps with
             |nil=>exact fun d=> .inl rfl
             |cons q ps ih=>
               intro d
               unfold putPcs
               split
               · rename_i hq
                 have:d.dead=0∨d.dead=7:=by unfold Dsk.dead;split<;>simp
                 rcases this with e|e
                 · exact absurd e hq
                 · exact .inr e
               · exact ih _
           rcases hc l.n pcs d with e|e
           · exact h7 e
           · have h:(putPcs l.n pcs d).2=8:=h
             rw [e] at h
             cases h
         · intro h
           cases h
end Go.Tn.Dk
namespace Go.Proofs.YtldimgchpgoggaaGreat
open Go.RowKit Go.Tn Go.Tn.Bt Go.Tn.Lp Go.Tn.Dk Go.Tn.Ino Go.Tn.Slo Go.Tn.Ck Go.Tn.Pc
section
variable {w w':World} {F FD F' FD':Nat→Prop} {A:CA} {l l':Lg} {d d':Dsk} {P:PC}
theorem CAt.turn (h:CAt w F FD A l d P) (hL:LAt w' F' A.g A.p l') (hD:DAt w' FD' A.p d') (hm:Mod (fun b=>F b∨FD b) w w') (h1: ∀b,F' b→F b∨w.heap.size≤b) (h2: ∀b,FD' b→FD b∨w.heap.size≤b) (h3: ∀b,F' b→¬ FD' b):CAt w' F' FD' A l' d' P:=by
 have hn: ∀b,A.own b→¬(F b∨FD b):=fun b hb=>fun e=>e.elim (h.own b hb).1 (h.own b hb).2
 have hlt:=fun b (hb:A.own b)=>h.lt b (.inl hb)
 refine ⟨hm.heap h.blk (hn _ (.inl rfl)),hm.heap h.slots (hn _ (.inr (.inl rfl))),h.wh.kept (hm.block _ h.wh.lt (hn _ (.inr (.inr (.inl rfl))))),h.ring.mod hm (hn _ (.inr (.inr (.inr rfl)))),hL,hD,h3,fun b hb=>⟨fun e=> ?_,fun e=> ?_⟩,h.ne,h.ok,h.num⟩
 · rcases h1 b e with e|e
   · exact (h.own b hb).1 e
   · exact absurd (hlt b hb) (Nat.not_lt.2 e)
 · rcases h2 b e with e|e
   · exact (h.own b hb).2 e
   · exact absurd (hlt b hb) (Nat.not_lt.2 e)
def CPost (w:World) (F FD:Nat→Prop) (A:CA) (r:Lg×Dsk×Nat) (P:PC) (e:Ending) (w':World):Prop:=e= .returned (.int .i64 (r.2.2:Nat))∧ ∃F' FD',CAt w' F' FD' A r.1 r.2.1 P∧Mod (fun b=>F b∨FD b) w w'∧(∀b,F' b→F b∨w.heap.size≤b)∧ ∀b,FD' b→FD b∨w.heap.size≤b
theorem CPost.trans {r2:Lg×Dsk×Nat} {e2:Ending} {w1 w2:World} {F' FD':Nat→Prop} (hm:Mod (fun b=>F b∨FD b) w w1) (h1: ∀b,F' b→F b∨w.heap.size≤b) (h2: ∀b,FD' b→FD b∨w.heap.size≤b) (h:CPost w1 F' FD' A r2 P e2 w2):CPost w F FD A r2 P e2 w2:=by
 obtain ⟨k1,F2,FD2,k2,k3,k4,k5⟩:=h
 refine ⟨k1,F2,FD2,k2,hm.trans k3 (fun x hx=>hx) (fun x hx hs=> ?_),fun b hb=> ?_,fun b hb=> ?_⟩
 · rcases hs with hs|hs
   · rcases h1 x hs with h|h
     · exact .inl h
     · omega
   · rcases h2 x hs with h|h
     · exact .inr h
     · omega
 · rcases k4 b hb with h|h
   · exact h1 b h
   · exact .inr (Nat.le_trans hm.size h)
 · rcases k5 b hb with h|h
   · exact h2 b h
   · exact .inr (Nat.le_trans hm.size h)
theorem c_write (h:CAt w F FD A l d P) (hok:l.ok d) (v:Value) (ps:List Pt) (hpa:PtsA w (fun b=>F b∨FD b) v ps) (hby: ∀q∈ps, ∀x∈q.2,x<256) (hn:ps.length≤100000) (hQ:d.Q.length≤999990000):
   Calls Tryz.prog 99 #[.pointer (some ⟨A.g,0,none⟩),v] w fun e w'=>CPost w F FD A (l.write d ps) P e w':=
 (gwrite_any h.log h.disk h.ap hok v ps hpa hby hn hQ).mono fun e w' ⟨h1,F',FD',h2,h3,h4,h5,h6,h7⟩=>⟨h1,F',FD',h.turn h2 h3 h4 h5 h6 h7,h4,h5,h6⟩
theorem c_check (h:CAt w F FD A l d P) (hok:l.ok d) (hQ:d.Q.length≤999980000):
   Calls Tryz.prog 100 #[.pointer (some ⟨A.g,0,none⟩)] w fun e w'=>CPost w F FD A (l.check d) P e w':=
 (check_any h.log h.disk h.ap hok hQ).mono fun e w' ⟨h1,F',FD',h2,h3,h4,h5,h6,h7⟩=>⟨h1,F',FD',h.turn h2 h3 h4 h5 h6 h7,h4,h5,h6⟩
def cSync (l:Lg) (d:Dsk):Lg×Dsk×Nat:=((l.sync d).1,(l.sync d).2,(l.sync d).1.err)
theorem c_sync (h:CAt w F FD A l d P):Calls Tryz.prog 75 #[.pointer (some ⟨A.g,0,none⟩)] w fun e w'=>CPost w F FD A (cSync l d) P e w':=
 (sync_any h.log h.disk h.ap).mono fun e w' ⟨h1,h2,h3,h4⟩=>⟨h1,F,FD,h.turn h2 h3 h4 (fun b h=> .inl h) (fun b h=> .inl h) h.ap,h4,fun b h=> .inl h,fun b h=> .inl h⟩
theorem PtB.cache {v:Value} {ps:List Pt} (h:PtB w (fun b=>F b∨FD b) v ps) (hm:Mod (fun b=>F b∨FD b) w w') (h1: ∀b,F' b→F b∨w.heap.size≤b) (h2: ∀b,FD' b→FD b∨w.heap.size≤b):PtB w' (fun b=>F' b∨FD' b) v ps:=
 h.mod hm fun b hb=>by
   rcases hb with hb|hb
   · exact (h1 b hb).imp .inl id
   · exact (h2 b hb).imp .inr id
set_option maxRecDepth 20000 in
set_option maxHeartbeats 4000000 in
theorem pwrite_any (h:CAt w F FD A l d P) (hok:l.ok d) (v:Value) (ps:List Pt) (hpb:PtB w (fun b=>F b∨FD b) v ps) (hby: ∀q∈ps, ∀x∈q.2,x<256) (hn:ps.length≤100000) (hQ:d.Q.length≤999900000)
   (hok2:(l.write d ps).2.2=8→(l.check d).2.2=0→(l.check d).1.ok (l.check d).2.1):Calls Tryz.prog 65 #[.pointer (some ⟨A.c,0,none⟩),v] w fun e w'=>CPost w F FD A (stWr l d ps) P e w':=by
 have hwr:=c_write h hok v ps hpb.a hby hn (by omega)
 have c:=h.c0
 have hck: ∀(w2:World) (F2 FD2:Nat→Prop),CAt w2 F2 FD2 A l d P→Calls Tryz.prog 100 #[.pointer (some ⟨A.g,0,none⟩)] w2 fun e w'=>CPost w2 F2 FD2 A (l.check d) P e w':=fun _ _ _ h2=>c_check h2 hok (by omega)
 have hq2:=(lcheck_Q (l:=l) (d:=d) h.disk.ok.hi).1
 obtain ⟨a,n,cap,rfl⟩: ∃a n c,v= .slice a n c:=by
   obtain ⟨xs, -,⟨ao,cap,rfl, -⟩, -⟩:=hpb
   exact ⟨_,_,_,rfl⟩
 have HPB:=Lib.hid hpb
 have HBY:=Lib.hid hby
 have HOK2:=Lib.hid hok2
 have HQ2:=Lib.hid hq2
 have HCK:=Lib.hid hck
 clear h hok hpb hby hok2 hq2 hck
 go_enter Tryz.func65,Tryz.ntmps65
 go_wp2_with fail
 refine hwr.mono ?_
 rintro e w2 ⟨rfl,F2,FD2,h2,hm2,h12,h22⟩
 have c2:=h2.c0
 have hpb2:=PtB.cache HPB.out hm2 h12 h22
 obtain ⟨cd,hcd⟩: ∃cd,(l.write d ps).2.2=cd:=⟨_,rfl⟩
 rw [hcd]
 by_cases h8:cd=8
 · subst h8
   have e8:=pwrite_8 hcd
   rw [e8] at h2
   have hst:stWr l d ps=if (l.check d).2.2≠0 then l.check d else (l.check d).1.write (l.check d).2.1 ps:=by
     unfold stWr
     rw [if_neg (by rw [hcd];decide)]
   have hok8:=HOK2.out hcd
   have hck2:=HCK.out _ _ _ h2
   have HM2:=Lib.hid hm2
   have H12:=Lib.hid h12
   have H22:=Lib.hid h22
   have HST:=Lib.hid hst
   have HOK8:=Lib.hid hok8
   have HPB2:=Lib.hid hpb2
   clear hwr hcd h2 hm2 h12 h22 hpb2 e8 hst hok8
   go_wp2_with fail
   refine hck2.mono ?_
   rintro e w3 ⟨rfl,F3,FD3,h3,hm3,h13,h23⟩
   have c3:=h3.c0
   have HPB3:=Lib.hid (PtB.cache HPB2.out hm3 h13 h23)
   have H3:=Lib.hid h3
   have ht: ∀(r2:Lg×Dsk×Nat) (e2:Ending) (w4:World),CPost w3 F3 FD3 A r2 P e2 w4→CPost w F FD A r2 P e2 w4:=fun r2 _ _ hp=>CPost.trans HM2.out H12.out H22.out (CPost.trans hm3 h13 h23 hp)
   have hstay:CPost w F FD A (l.check d) P (.returned (.int .i64 ((l.check d).2.2:Nat))) w3:=CPost.trans HM2.out H12.out H22.out ⟨rfl,F3,FD3,h3,hm3,h13,h23⟩
   have HT:=Lib.hid ht
   have HSY:=Lib.hid hstay
   clear hck2 h3 hm3 h13 h23 ht hstay
   generalize hr3:l.check d=r3 at*
   obtain ⟨l3,d3,cd3⟩:=r3
   simp only at*
   by_cases hc3:cd3=0
   · subst hc3
     have hw3:=c_write H3.out (HOK8.out rfl) _ ps HPB3.out.a HBY.out hn (by have:=HQ2.out;omega)
     have HST3:=Lib.hid HST.out
     clear HST
     rw [if_neg (by decide)] at HST3
     go_wp2_with fail
     refine hw3.mono ?_
     rintro e w4 hp4
     have hp5:=HT.out _ _ _ hp4
     rw [←HST3.out] at hp5
     obtain ⟨he4,hp6⟩:=hp5
     subst he4
     have HP:=Lib.hid hp6
     clear hw3 hp4 hp6
     go_wp2
     go_ret
     exact ⟨rfl,HP.out⟩
   · have hne:((cd3:Int) !=0)=true:=by rw [bne_iff_ne];omega
     have heq:((cd3:Int)==0)=false:=beq_eq_false_iff_ne.2 (by omega)
     have HST3:=Lib.hid HST.out
     clear HST
     rw [if_pos hc3] at HST3
     go_wp2
     go_ret
     rw [HST3.out]
     exact HSY.out
 · have heq:((cd:Int)==8)=false:=beq_eq_false_iff_ne.2 (by omega)
   have hst:stWr l d ps=l.write d ps:=by
     unfold stWr
     rw [if_pos (by rw [hcd];exact h8)]
   have HP:Hid (CPost w F FD A (l.write d ps) P (.returned (.int .i64 (cd:Nat))) w2):=Lib.hid ⟨by rw [hcd],F2,FD2,h2,hm2,h12,h22⟩
   have HST:=Lib.hid hst
   clear hwr hcd h2 hm2 h12 h22 hpb2 hst
   go_wp2
   go_ret
   rw [HST.out]
   exact HP.out
theorem psync_any (h:CAt w F FD A l d P):Calls Tryz.prog 34 #[.pointer (some ⟨A.c,0,none⟩)] w fun e w'=>CPost w F FD A (cSync l d) P e w':=by
 have c:=h.c0
 have hok:=pok_any h
 have hsy:=c_sync h
 clear h
 go_enter Tryz.func34,Tryz.ntmps34
 go_wp2_with (first
   |(go_at_call 45;refine hok.mono ?_;rintro e wt ⟨rfl,hw⟩;obtain rfl:=hw.symm;clear hw)
   |fail)
 refine hsy.mono ?_
 rintro e w2 ⟨rfl,hp⟩
 have HP:=Lib.hid hp
 clear hsy hp
 go_wp2
 go_ret
 exact ⟨rfl,HP.out⟩
end
end Go.Proofs.YtldimgchpgoggaaGreat
