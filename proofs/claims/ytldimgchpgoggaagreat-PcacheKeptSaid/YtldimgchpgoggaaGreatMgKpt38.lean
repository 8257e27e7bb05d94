import Derived.Test.YtldimgchpgoggaaGreatMgKpt37
import Derived.Test.YtldimgchpgoggaaGreatMgKpt36
import Derived.Test.YtldimgchpgoggaaGreatMgKpt4
namespace Go.Proofs.YtldimgchpgoggaaGreat
open Go.RowKit Go.Tn Go.Tn.Bt Go.Tn.Lp Go.Tn.Dk Go.Tn.Ino Go.Tn.Slo Go.Tn.Ck Go.Tn.Pc
structure XA where
 c:Nat
 sb:Nat
 rb:Nat
 pb:Nat
def XA.own (X:XA) (b:Nat):Prop:=b=X.c∨b=X.sb∨b=X.rb∨b=X.pb
def xcacheC (X:XA) (P:PC):Array Value:= #[.slice (some ⟨X.sb,0,none⟩) P.L.length P.L.length, .pointer (some ⟨X.rb,0,none⟩), .int .u64 (P.num:Nat)]
structure XAt (w:World) (X:XA) (P:PC):Prop where
 blk:w.heap[X.c]?=some (.cells (xcacheC X P) 85 (0,0))
 slots:w.heap[X.sb]?=some (.cells (slotsC P.L) 38 (0,0))
 ring:XRAt w X.rb X.pb P.R
 ne:X.c≠X.sb∧X.c≠X.rb∧X.c≠X.pb∧X.sb≠X.rb∧X.sb≠X.pb
 ok:P.Ok
section
variable {w w':World} {X:XA} {P:PC}
theorem XAt.lt (h:XAt w X P): ∀b,X.own b→b<w.heap.size:=fun b hb=>by
 rcases hb with rfl|rfl|rfl|rfl
 · exact lt_of_block h.blk
 · exact lt_of_block h.slots
 · exact lt_of_block h.ring.blk
 · exact lt_of_block h.ring.pl
theorem XAt.below (h:XAt w X P) (hb:Below w.heap.size w w'):XAt w' X P:=⟨(hb.block _ (lt_of_block h.blk)).trans h.blk,(hb.block _ (lt_of_block h.slots)).trans h.slots,h.ring.below hb,h.ne,h.ok⟩
theorem XAt.mod {S:Nat→Prop} (h:XAt w X P) (hm:Mod S w w') (hS: ∀b,X.own b→¬ S b):XAt w' X P:=⟨hm.heap h.blk (hS _ (.inl rfl)),hm.heap h.slots (hS _ (.inr (.inl rfl))),h.ring.mod hm (hS _ (.inr (.inr (.inl rfl)))) (hS _ (.inr (.inr (.inr rfl)))),h.ne,h.ok⟩
theorem XAt.c0 (h:XAt w X P):w.cell? ⟨X.c,0,none⟩=some (.slice (some ⟨X.sb,0,none⟩) P.L.length P.L.length):=cell_of h.blk rfl
theorem XAt.c1 (h:XAt w X P):w.cell? ⟨X.c,1,none⟩=some (.pointer (some ⟨X.rb,0,none⟩)):=cell_of h.blk rfl
theorem XAt.c2 (h:XAt w X P):w.cell? ⟨X.c,2,none⟩=some (.int .u64 (P.num:Nat)):=cell_of h.blk rfl
theorem XAt.n64 (h:XAt w X P):P.L.length≤64:=by
 have h1:=h.ring.hi
 have h2:=h.ok.len
 omega
theorem xslots_lies {b:Nat} {L:List Slt} (h:w.heap[b]?=some (.cells (slotsC L) 38 (0,0))) {i:Nat} {x:Slt} (hx:L[i]?=some x):Lies w b (i*7) (slC x):=fun j hj=>by
 have hj7:j<7:=hj
 refine cell_of h ?_
 rw [slots_get hx hj7]
 match j,hj7 with
 | 0,_=>rfl
 | 1,_=>rfl
 | 2,_=>rfl
 | 3,_=>rfl
 | 4,_=>rfl
 | 5,_=>rfl
 | 6,_=>rfl
theorem XAt.slot (h:XAt w X P) {i:Nat} (hi:i<P.L.length):Lies w X.sb (i*7) (slC (P.at_ i)):=xslots_lies h.slots (at_get hi)
theorem lies_blk {b o:Nat} {x:Slt} (h:Lies w b o (slC x)):Lies w b (o+1) (blC x.blk):=fun j hj=>by
 have hj3:j<3:=hj
 match j,hj3 with
 | 0,_=>exact h 1 (by simp)
 | 1,_=>exact h 2 (by simp)
 | 2,_=>exact h 3 (by simp)
theorem lies_file {b o:Nat} {x:Slt} (h:Lies w b o (slC x)):Lies w b (o+1) #[.int .i64 x.blk.1, .int .i64 x.blk.2.1]:=fun j hj=>by
 have hj3:j<2:=hj
 match j,hj3 with
 | 0,_=>exact h 1 (by simp)
 | 1,_=>exact h 2 (by simp)
theorem lies_used {b o:Nat} {x:Slt} (h:Lies w b o (slC x)):w.cell? ⟨b,o,none⟩=some (.bool x.used):=h 0 (by simp)
theorem lies_dirty {b o:Nat} {x:Slt} (h:Lies w b o (slC x)):w.cell? ⟨b,o+5,none⟩=some (.bool x.dirty):=h 5 (by simp)
theorem oneXs (x:Slt):(slC x).all (·.oneCell')=true:=oneSl x
set_option maxRecDepth 20000 in
set_option maxHeartbeats 8000000 in
theorem xset_any (h:XAt w X P) (i:Nat) (hi:i<P.L.length) (x:Slt) (hx:x.is) (hu: ∀j,j<P.L.length→j≠i→(P.at_ j).used=true→(P.at_ j).blk≠x.blk∨x=Slt.no):
   Calls Tryz.prog 59 #[.pointer (some ⟨X.c,0,none⟩), .int .i64 i, .agg (slC x)] w fun e w'=>e= .returned (.tuple #[])∧XAt w' X (P.set i x)∧Mod X.own w w':=by
 have hok':=h.ok.set hi hx hu
 obtain ⟨w1,hw1⟩: ∃w1,w.alloc (.cells (slC x) 38)=w1:=⟨_,rfl⟩
 have hb1:Below w.heap.size w w1:=by rw [←hw1];exact (Below.refl _ _).alloc (Nat.le_refl _) _
 have hX:w1.heap[w.heap.size]?=some (.cells (slC x) 38 (0,0)):=by rw [←hw1];exact heap_alloc_at
 have h1:=h.below hb1
 have hltw:=h.lt
 obtain ⟨n,hn⟩: ∃n,P.L.length=n:=⟨_,rfl⟩
 have hi':i<n:=by omega
 have hi63:(i:Int)<(n:Int):=by omega
 have hn64:n≤64:=by have:=h.n64;omega
 have hiR:i<P.R.L.length:=by rw [h.ok.len];exact hi
 have hagx:=aggXs x
 have honx:=oneXs x
 have c0:w1.drew.cell? ⟨X.c,0,none⟩=some (.slice (some ⟨X.sb,0,none⟩) n n):=by rw [←hn];exact h1.c0
 have hS:w1.drew.cell? ⟨X.c,0,none⟩=some (.slice (some ⟨X.sb,0,none⟩) n n)∧Lies w1.drew w.heap.size 0 (slC x):=⟨c0,lies_of (w:=w1.drew) hX⟩
 have hst:=fun (ρ:Operand→Value) (ty:TypeId) (pos:String) (after:Array Edge) (x' y':Operand) (hx':ρ x'= .pointer (some ⟨X.sb,i*7,none⟩)) (hy':ρ y'= .agg (slC x))=>
   exec_storeA (P:=Tryz.prog) (dst:=none) (g:=none) (ty:=ty) (pos:=pos) (after:=after) (w:=w1.drew) hagx hx' hy' h1.slots (by rw [slots_size,hn];show i*7+7≤n*7;omega) (fun v hv=>by rw [Array.all_eq_true'] at honx;exact honx v (by simpa using hv))
 have hs5:=heap_setCells_at (slC x).toList (i*7) w1.drew (slotsC P.L) h1.slots
 rw [slots_set (by rw [hn];exact hi')] at hs5
 have hm5:Mod (fun b=>b=X.sb) w1 _:=Mod.setCells (S:=fun b=>b=X.sb) (fun _=>rfl) (slC x).toList (i*7) w1.drew ((Mod.refl _ w1).drew)
 have HH:=Lib.hid h
 have H1:=Lib.hid h1
 have HX:=Lib.hid hX
 have HB1:=Lib.hid hb1
 have HLT:=Lib.hid hltw
 have HN:=Lib.hid hn
 have HIR:=Lib.hid hiR
 have HOK:=Lib.hid hok'
 have HXI:=Lib.hid hx
 clear h h1 hX hb1 hltw hn hiR hok' hx hu hi c0
 go_enter Tryz.func59,Tryz.ntmps59
 go_upto_region 1 with fail
 simp only [hw1] at*
 clear hw1
 refine wp_region_x (fun w'=>w'.cell? ⟨X.c,0,none⟩=some (.slice (some ⟨X.sb,0,none⟩) n n)∧Lies w' w.heap.size 0 (slC x)) [(0,1),(1,1),(2,1),(3,0),(4,1),(5,0),(6,1),(7,3)] (by kernel_rfl) (by kernel_rfl) (by intro d v c a w h;cases d<;>exact h) ?_
 iterate 3 (refine x_take rfl (fun K hK=> ?_);go_simp;refine hK _ ?_;clear hK K)
 refine x_read rfl hS (fun w' h=>exec_load1 ⟨⟨_,Tryz.underlying60,rfl⟩⟩ rfl h.1) ?_
 iterate 1 (refine x_take rfl (fun K hK=> ?_);go_simp;refine hK _ ?_;clear hK K)
 refine x_read rfl hS (fun w' h=>exec_loadA hagx rfl h.2) ?_
 iterate 1 (refine x_take rfl (fun K hK=> ?_);go_simp;refine hK _ ?_;clear hK K)
 refine x_skip rfl (hst _ _ _ _ _ _ rfl rfl) ?_
 refine x_nil ?_
 have hsbx:w.heap.size≠X.sb:=fun e=>by have:=HLT.out X.sb (.inr (.inl rfl));omega
 have hx5:=hm5.heap HX.out hsbx
 have hc5:=hm5.heap H1.out.blk H1.out.ne.1
 have hr5:=H1.out.ring.mod hm5 (fun e=>H1.out.ne.2.2.2.1 e.symm) (fun e=>H1.out.ne.2.2.2.2 e.symm)
 have hm05:Mod X.own w _:=((Mod.of_below HB1.out).mono (T:=X.own) fun b hb hS=>absurd hb (Nat.not_lt.2 hS)).trans hm5 (T:=X.own) (fun b h=>h) (fun b _ h=> .inr (.inl h))
 have hlo:w.heap.size≤w1.heap.size:=HB1.out.size
 generalize w1.drew.setCells X.sb (i*7) (slC x).toList=w5 at*
 have HC5:=Lib.hid hc5
 have HS5:=Lib.hid hs5
 have HR5:=Lib.hid hr5
 have HX5:=Lib.hid hx5
 have HM05:=Lib.hid hm05
 have hfin: ∀w9,Mod (fun b=>b=X.pb) w5 w9→XRAt w9 X.rb X.pb (ringSet P.R i x)→XAt w9 X (P.set i x)∧Mod X.own w w9:=fun w9 hm9 hr9=>by
   refine ⟨⟨?_,hm9.heap HS5.out (fun e=>H1.out.ne.2.2.2.2 e),hr9,H1.out.ne,HOK.out⟩,HM05.out.trans hm9 (fun _ h=>h) fun b _ h=> .inr (.inr (.inr h))⟩
   rw [hm9.heap HC5.out H1.out.ne.2.2.1]
   unfold xcacheC
   rw [set_len]
   rfl
 have HFIN:=Lib.hid hfin
 have u0:w5.cell? ⟨w.heap.size,0,none⟩=some (.bool x.used):=cell_of HX5.out rfl
 have c1:w5.cell? ⟨X.c,1,none⟩=some (.pointer (some ⟨X.rb,0,none⟩)):=cell_of HC5.out rfl
 obtain ⟨u,hux⟩: ∃u,x.used=u:=⟨_,rfl⟩
 rw [hux] at u0
 clear hS hst hs5 hm5 hx5 hc5 hr5 hm05 hfin hsbx
 cases u with
 | false=>
   have hno:x=Slt.no:=Classical.byContradiction fun e=>by
     have:=(is_used HXI.out).2 e
     rw [hux] at this
     cases this
   have hdr:=xdo_1 HR5.out i HIR.out
   have HNO:=Lib.hid hno
   clear hno hux
   go_wp2_with fail
   refine hdr.mono ?_
   rintro e w6 ⟨rfl,hr6,hm6⟩
   have hp:=HFIN.out w6 hm6 (by unfold ringSet;rw [if_pos HNO.out];exact hr6)
   have HP:=Lib.hid hp
   clear hdr hr6 hm6 hp
   go_wp2
   refine bodyPost_ret (results_none rfl _ _ _) rfl ?_
   exact ⟨rfl,HP.out.1,HP.out.2⟩
 | true=>
   have hno:x≠Slt.no:=(is_used HXI.out).1 hux
   have hus:=xdo_0 HR5.out i HIR.out
   have HNO:=Lib.hid hno
   clear hno hux
   go_wp2_with fail
   refine hus.mono ?_
   rintro e w6 ⟨rfl,hr6,hm6⟩
   have hx6:=hm6.heap HX5.out (fun e=>by
     have:=HLT.out X.pb (.inr (.inr (.inr rfl)))
     have e:w.heap.size=X.pb:=e
     omega)
   have d6:w6.cell? ⟨w.heap.size,5,none⟩=some (.bool x.dirty):=cell_of hx6 rfl
   have c16:w6.cell? ⟨X.c,1,none⟩=some (.pointer (some ⟨X.rb,0,none⟩)):=cell_of (hm6.heap HC5.out H1.out.ne.2.2.1) rfl
   obtain ⟨dy,hdy⟩: ∃dy,x.dirty=dy:=⟨_,rfl⟩
   rw [hdy] at d6
   have HDY:=Lib.hid hdy
   have HR6:=Lib.hid hr6
   have HM6:=Lib.hid hm6
   clear hus hx6 hdy hr6 hm6 u0 c1
   cases dy with
   | false=>
     have hp:=HFIN.out w6 HM6.out (by unfold ringSet;rw [if_neg HNO.out,if_neg (by rw [HDY.out];decide)];exact HR6.out)
     have HP:=Lib.hid hp
     clear hp
     go_wp2
     go_end0
     exact ⟨rfl,HP.out.1,HP.out.2⟩
   | true=>
     have hat:((P.R.use i).at_ i).used=true:=by
       unfold Rn.use
       rw [rn_at_put HIR.out,if_pos rfl]
     have hpi:=xdo_3 HR6.out i (by unfold Rn.use Rn.put;simpa using HIR.out) hat
     clear hat
     go_wp2_with fail
     refine hpi.mono ?_
     rintro e w7 ⟨rfl,hr7,hm7⟩
     have hp:=HFIN.out w7 (HM6.out.trans hm7 (fun _ h=>h) fun _ _ h=>h) (by unfold ringSet;rw [if_neg HNO.out,if_pos HDY.out];exact hr7)
     have HP:=Lib.hid hp
     clear hpi hr7 hm7 hp
     go_wp2
     go_end0
     exact ⟨rfl,HP.out.1,HP.out.2⟩
def fIx (o:Option Nat):Int:=match o with
 | some i=>i
 | none=> -1
set_option maxRecDepth 20000 in
set_option maxHeartbeats 8000000 in
theorem xat_any (h:XAt w X P) (b:Blk):Calls Tryz.prog 53 #[.pointer (some ⟨X.c,0,none⟩), .agg (blC b)] w fun e w'=>e= .returned (.int .i64 (fIx (P.find b)))∧Below w.heap.size w w':=by
 obtain ⟨w1,hw1⟩: ∃w1,w.alloc (.cells (blC b) 35)=w1:=⟨_,rfl⟩
 have hb1:Below w.heap.size w w1:=by rw [←hw1];exact (Below.refl _ _).alloc (Nat.le_refl _) _
 have hX:w1.heap[w.heap.size]?=some (.cells (blC b) 35 (0,0)):=by rw [←hw1];exact heap_alloc_at
 obtain ⟨n,hn⟩: ∃n,P.L.length=n:=⟨_,rfl⟩
 have hn64:n≤64:=by have:=h.n64;omega
 have hagb:=aggBl b
 have H1:=Lib.hid (h.below hb1)
 have HX:=Lib.hid hX
 have HB1:=Lib.hid hb1
 have HN:=Lib.hid hn
 clear h hb1 hX hn
 go_enter Tryz.func53,Tryz.ntmps53
 go_upto_region 1 with fail
 simp only [hw1] at*
 clear hw1
 go_wp2
 go_loopw [5] (fun iv wi=> ∃k:Nat,k≤n∧iv= .int .i64 k∧(∀j,j<k→(P.at_ j).used=true→(P.at_ j).blk≠b)∧Below w1.heap.size w1 wi) (fun iv _=>n-(intOf iv).toNat)
 case atStart=>exact ⟨0,Nat.zero_le _,rfl,fun j hj=>absurd hj (Nat.not_lt_zero j),Below.refl _ _⟩
 case round=>
   obtain ⟨k,hk,rfl,hno,hb⟩:=hrel
   have HB:=Lib.hid hb
   have HNO:=Lib.hid hno
   clear hb hno
   have hCr:=H1.out.below HB.out
   have c0:wr.cell? ⟨X.c,0,none⟩=some (.slice (some ⟨X.sb,0,none⟩) n n):=by rw [←HN.out];exact hCr.c0
   by_cases hkn:k<n
   · have hkn':(k:Int)<(n:Int):=by omega
     obtain ⟨y,hy⟩: ∃y,P.at_ k=y:=⟨_,rfl⟩
     have hL:=hCr.slot (i:=k) (by rw [HN.out];exact hkn)
     rw [hy] at hL
     have hxr:=(HB.out.block _ (lt_of_block HX.out)).trans HX.out
     have hagy:=aggBl y.blk
     obtain ⟨u,hu⟩: ∃u,y.used=u:=⟨_,rfl⟩
     have hS:wr.drew.cell? ⟨X.c,0,none⟩=some (.slice (some ⟨X.sb,0,none⟩) n n)∧wr.drew.cell? ⟨X.sb,k*7,none⟩=some (.bool u)∧Lies wr.drew X.sb (k*7+1) (blC y.blk)∧Lies wr.drew w.heap.size 0 (blC b):=⟨c0,by rw [←hu];exact lies_used hL,lies_blk hL,lies_of (w:=wr.drew) hxr⟩
     have hgt:Tryz.prog.eqGuardType Tryz.prog.depth 35=false:=by kernel_rfl
     have heq:=fun w=>eqBlk w y.blk b
     have HY:=Lib.hid hy
     have HU:=Lib.hid hu
     clear hCr hy hL hxr hu
     go_upto_region 4 with fail
     clear c0
     refine wp_region_g (fun w'=>w'.cell? ⟨X.c,0,none⟩=some (.slice (some ⟨X.sb,0,none⟩) n n)∧w'.cell? ⟨X.sb,k*7,none⟩=some (.bool u)∧Lies w' X.sb (k*7+1) (blC y.blk)∧Lies w' w.heap.size 0 (blC b)) [(0,1),(1,1),(2,1),(3,0),(4,1),(5,1),(6,1),(7,0),(8,1),(9,1),(10,1),(11,1),(12,0),(13,1),(14,1),(15,1),(16,0),(17,0),(18,1),(19,1)] (by kernel_rfl) (by kernel_rfl) (by intro d v c a w h;cases d<;>exact h) ?_
     iterate 3 (refine g_take rfl rfl (fun K hK=> ?_);go_simp;refine hK _ ?_;clear hK K)
     refine g_read rfl rfl hS (fun w' h=>exec_load1 ⟨⟨_,Tryz.underlying60,rfl⟩⟩ rfl h.1) ?_
     iterate 3 (refine g_take rfl rfl (fun K hK=> ?_);go_simp;refine hK _ ?_;clear hK K)
     refine g_read rfl rfl hS (fun w' h=>exec_load1 ⟨⟨_,Tryz.underlying4,rfl⟩⟩ rfl h.2.1) ?_
     iterate 1 (refine g_take rfl rfl (fun K hK=> ?_);go_simp;refine hK _ ?_;clear hK K)
     have HBF:=Lib.hid (HB.out.trans ((Below.refl wr.heap.size wr).drew.mono HB.out.size))
     cases u with
     | false=>
       iterate 10 (refine g_offK rfl rfl (fun _=>hS) (fun K hK=> ?_);go_simp;refine hK _ ?_;clear hK K)
       iterate 1 (refine g_take rfl rfl (fun K hK=> ?_);go_simp;refine hK _ ?_;clear hK K)
       refine g_nil ?_
       clear hS heq
       go_wp2
       go_roundw
       case rel=>exact ⟨k+1,by omega,by go_num,fun j hj hju=>by
         by_cases hjk:j=k
         · rw [hjk,HY.out,HU.out] at hju
           cases hju
         · exact HNO.out j (by omega) hju,HBF.out⟩
       case measure=>simp [intOf];omega
     | true=>
       iterate 3 (refine g_take rfl rfl (fun K hK=> ?_);go_simp;refine hK _ ?_;clear hK K)
       refine g_read rfl rfl hS (fun w' h=>exec_load1 ⟨⟨_,Tryz.underlying60,rfl⟩⟩ rfl h.1) ?_
       iterate 3 (refine g_take rfl rfl (fun K hK=> ?_);go_simp;refine hK _ ?_;clear hK K)
       refine g_read rfl rfl hS (fun w' h=>exec_loadA hagy rfl h.2.2.1) ?_
       refine g_read rfl rfl hS (fun w' h=>exec_loadA hagb rfl h.2.2.2) ?_
       refine g_take rfl rfl (fun K hK=>⟨_,fun w=>exec_eqlS hgt heq rfl rfl w,?_⟩)
       refine hK _ ?_
       clear hK K hS heq
       by_cases hbe:y.blk=b
       · rw [show decide (y.blk=b)=true from decide_eq_true hbe]
         have hf:P.find b=some k:=(find_some H1.out.ok).2 ⟨by rw [HN.out];exact hkn,by rw [HY.out];exact HU.out,by rw [HY.out];exact hbe⟩
         have HF:=Lib.hid hf
         have HBZ:=Lib.hid (HB1.out.trans (HBF.out.mono HB1.out.size))
         clear hbe hf
         iterate 1 (refine g_take rfl rfl (fun K hK=> ?_);go_simp;refine hK _ ?_;clear hK K)
         refine g_nil ?_
         go_wp2
         go_ret
         rw [HF.out]
         exact ⟨rfl,HBZ.out⟩
       · rw [show decide (y.blk=b)=false from decide_eq_false hbe]
         have HBE:=Lib.hid hbe
         clear hbe
         iterate 1 (refine g_take rfl rfl (fun K hK=> ?_);go_simp;refine hK _ ?_;clear hK K)
         refine g_nil ?_
         go_wp2
         go_roundw
         case rel=>exact ⟨k+1,by omega,by go_num,fun j hj hju=>by
           by_cases hjk:j=k
           · rw [hjk,HY.out]
             exact HBE.out
           · exact HNO.out j (by omega) hju,HBF.out⟩
         case measure=>simp [intOf];omega
   · obtain rfl:k=n:=by omega
     have hf:P.find b=none:=find_none.2 fun i hi=>HNO.out i (by rw [←HN.out];exact hi)
     have HF:=Lib.hid hf
     have HBZ:=Lib.hid (HB1.out.trans (HB.out.mono HB1.out.size))
     clear hCr hf
     go_wp2
     go_ret
     rw [HF.out]
     exact ⟨rfl,HBZ.out⟩
end
theorem places_setCell {L:List Pl} {i:Nat} {p:Pl} (h:L[i]?=some p):(placesC L).setIfInBounds (i*3+2) (.bool false)=placesC (L.set i {p with marked:=false}):=by
 unfold placesC
 rw [flatMap_set (k:=3) (fun _=>rfl) L i 2 p {p with marked:=false} (.bool false) h (by decide) rfl]
 simp
section
variable {w w':World} {rb pb:Nat} {R:Rn}
theorem XRAt.handed (h:XRAt w rb pb R) (k:Nat) (hk:k<R.L.length):XRAt (w.setCell ⟨rb,1,none⟩ (.int .i64 (k:Nat))) rb pb {R with hand:=k}:=by
 have hm:=(Mod.refl (fun b=>b=rb) w).setCell ⟨rb,1,none⟩ (.int .i64 ((k:Nat):Int)) (fun _=>rfl)
 refine ⟨?_,hm.heap h.pl (fun e=>h.ne e.symm),h.ne,h.lo,h.hi,hk⟩
 rw [heap_setCell_at h.blk]
 rfl
theorem XRAt.unmarked (h:XRAt w rb pb R) {i:Nat} (hi:i<R.L.length):XRAt (w.setCell ⟨pb,i*3+2,none⟩ (.bool false)) rb pb {R with L:=R.L.set i {R.at_ i with marked:=false}}:=by
 have hm:=(Mod.refl (fun b=>b=pb) w).setCell ⟨pb,i*3+2,none⟩ (.bool false) (fun _=>rfl)
 refine ⟨?_,?_,h.ne,by simpa using h.lo,by simpa using h.hi,by simpa using h.hand⟩
 · rw [hm.heap h.blk h.ne]
   unfold xringC
   simp
 · rw [heap_setCell_at h.pl,places_setCell (rn_get hi)]
theorem take_all {L:List Pl} {k:Nat} {p:Pl} (h:L[k]?=some p):((L.take (k+1)).all (·.pinned))=((L.take k).all (·.pinned)&&p.pinned):=by
 rw [List.take_add_one,h,List.all_append]
 simp
set_option maxRecDepth 20000 in
set_option maxHeartbeats 8000000 in
theorem xnext_any (h:XRAt w rb pb R):Calls Tryz.prog 90 #[.pointer (some ⟨rb,0,none⟩)] w fun e w'=>e= .returned (.tuple #[.int .i64 R.next.2.1, .int .i64 (R.next.2.2:Nat)])∧XRAt w' rb pb R.next.1∧Mod (fun b=>b=rb∨b=pb) w w':=by
 obtain ⟨n,hn⟩: ∃n,R.L.length=n:=⟨_,rfl⟩
 have hn64:n≤64:=by have:=h.hi;omega
 have hn1:1≤n:=by have:=h.lo;omega
 have c0:w.cell? ⟨rb,0,none⟩=some (.slice (some ⟨pb,0,none⟩) n n):=by rw [←hn];exact h.c0
 have HH:=Lib.hid h
 have HN:=Lib.hid hn
 have HN1:=Lib.hid hn1
 clear h hn hn1
 go_enter Tryz.func90,Tryz.ntmps90
 go_wp2
 go_loopw [4,5] (fun av iv wi=> ∃k:Nat,k≤n∧iv= .int .i64 k∧av= .bool ((R.L.take k).all (·.pinned))∧(∀j,j<k→(R.at_ j).used=true)∧wi=w) (fun _ iv _=>n-(intOf iv).toNat)
 case atStart=>exact ⟨0,Nat.zero_le _,rfl,rfl,fun j hj=>absurd hj (Nat.not_lt_zero j),rfl⟩
 case round=>
   obtain ⟨k,hk,rfl,rfl,hus,rfl⟩:=hrel
   have HUS:=Lib.hid hus
   clear hus
   by_cases hkn:k<n
   · have hkn':(k:Int)<(n:Int):=by omega
     have hkR:k<R.L.length:=by rw [HN.out];exact hkn
     have hL:=HH.out.lies hkR
     have hta:=take_all (rn_get hkR)
     obtain ⟨p,hp⟩: ∃p,R.at_ k=p:=⟨_,rfl⟩
     rw [hp] at hL hta
     obtain ⟨u,hu⟩: ∃u,p.used=u:=⟨_,rfl⟩
     obtain ⟨pp,hpp⟩: ∃u,p.pinned=u:=⟨_,rfl⟩
     have q0:wr.cell? ⟨pb,k*3,none⟩=some (.bool u):=by rw [←hu];exact hL 0 (by show 0<3;decide)
     have q1:wr.cell? ⟨pb,k*3+1,none⟩=some (.bool pp):=by rw [←hpp];exact hL 1 (by show 1<3;decide)
     rw [hpp] at hta
     obtain ⟨al,hal⟩: ∃al,(R.L.take k).all (·.pinned)=al:=⟨_,rfl⟩
     rw [hal] at hta ⊢
     have HP:=Lib.hid hp
     have HU:=Lib.hid hu
     have HTA:=Lib.hid hta
     have HKR:=Lib.hid hkR
     clear hL hta hp hu hpp hal hkR
     cases u with
     | false=>
       have hf:R.free=some k:=free_some HKR.out (by rw [HP.out];exact HU.out) HUS.out
       have he:R.next=(R,(k:Int),0):=by unfold Rn.next;rw [hf]
       have HE:=Lib.hid he
       clear hf he
       go_wp2
       go_ret2
       rw [HE.out]
       exact ⟨rfl,HH.out,Mod.refl _ _⟩
     | true=>
       cases al
       all_goals
         cases pp
         all_goals
           go_wp2
           go_roundw
           case rel=>exact ⟨k+1,by omega,by go_num,by rw [HTA.out];rfl,fun j hj=>by
             by_cases hjk:j=k
             · rw [hjk,HP.out]
               exact HU.out
             · exact HUS.out j (by omega),trivial⟩
           case measure=>simp [intOf];omega
   · obtain rfl:k=n:=by omega
     have hta:R.L.take k=R.L:=List.take_of_length_le (by rw [HN.out];omega)
     rw [hta]
     have hf:R.free=none:=free_none fun j hj=>HUS.out j (by rw [←HN.out];exact hj)
     have hap:R.allPinned=R.L.all (·.pinned):=rfl
     rw [←hap]
     obtain ⟨al,hal⟩: ∃al,R.allPinned=al:=⟨_,rfl⟩
     rw [hal]
     have HF:=Lib.hid hf
     have HAL:=Lib.hid hal
     clear hta hf hap hal
     cases al with
     | true=>
       have he:R.next=(R, -1,8):=by unfold Rn.next;rw [HF.out];simp only;rw [if_pos HAL.out]
       have HE:=Lib.hid he
       clear he
       go_wp2
       go_ret2
       rw [HE.out]
       exact ⟨rfl,HH.out,Mod.refl _ _⟩
     | false=>
       have hse: ∀q,(R.scan (2*k)).2=some q→R.next=((R.scan (2*k)).1,(q:Int),0):=fun q hq=>by
         unfold Rn.next
         rw [HF.out]
         simp only
         rw [if_neg (by rw [HAL.out];decide),HN.out]
         rcases hs:R.scan (2*k) with ⟨r',o⟩
         rw [hs] at hq
         simp only at hq
         subst hq
         rfl
       have hso: ∃q,(R.scan (2*k)).2=some q:=by
         have:=scan_some HH.out.hand HAL.out
         rwa [HN.out] at this
       have HSE:=Lib.hid hse
       have HSO:=Lib.hid hso
       clear hse hso
       obtain ⟨wq,hwq⟩: ∃wq,wq=wr:=⟨_,rfl⟩
       subst hwq
       go_wp2
       go_loopw [6] (fun iv wi=> ∃m:Nat,m≤2*k∧iv= .int .i64 m∧(R.scan m).2=none∧XRAt wi rb pb (R.scan m).1∧Mod (fun b=>b=rb∨b=pb) wq wi) (fun iv _=>2*k-(intOf iv).toNat)
       case atStart=>exact ⟨0,Nat.zero_le _,rfl,rfl,HH.out,Mod.refl _ _⟩
       case round=>
         obtain ⟨m,hm,rfl,hnone,hRm,hmm⟩:=hrel
         have hsn:=scan_snoc m R hnone
         have hsl:=scan_len m R
         obtain ⟨S,hS⟩: ∃S,(R.scan m).1=S:=⟨_,rfl⟩
         rw [hS] at hsn hsl hRm
         rw [HN.out] at hsl
         have HNONE:=Lib.hid hnone
         have HRM:=Lib.hid hRm
         have HMM:=Lib.hid hmm
         have HSN:=Lib.hid hsn
         have HSL:=Lib.hid hsl
         clear hnone hRm hmm hsn hsl hS
         have d0:wr.cell? ⟨rb,0,none⟩=some (.slice (some ⟨pb,0,none⟩) k k):=by rw [←HSL.out];exact HRM.out.c0
         by_cases hm2:m<2*k
         · have hm2':(m:Int)<2*(k:Int):=by omega
           obtain ⟨hd,hhd⟩: ∃hd,S.hand=hd:=⟨_,rfl⟩
           have hdk:hd<k:=by rw [←hhd, ←HSL.out];exact HRM.out.hand
           have hdk':(hd:Int)<(k:Int):=by omega
           have d1:wr.cell? ⟨rb,1,none⟩=some (.int .i64 (hd:Nat)):=by rw [←hhd];exact HRM.out.c1
           have f1:wr.frozen? ⟨rb,1,none⟩=false:=free_of HRM.out.blk
           have HHD:=Lib.hid hhd
           have hk64:(k:Int)≤64:=by omega
           clear hhd
           obtain ⟨h2,hh2⟩: ∃h2,(hd+1) %k=h2:=⟨_,rfl⟩
           have hh2k:h2<k:=by rw [←hh2];exact Nat.mod_lt _ (by omega)
           have HH2:=Lib.hid hh2
           have HH2K:=Lib.hid hh2k
           clear hh2 hh2k
           go_upto_region 15 with fail
           have hm1:=(Mod.refl (fun b=>b=rb) wr).setCell ⟨rb,1,none⟩ (.int .i64 ((hd:Int)+1)) (fun _=>rfl)
           have hb1:(wr.setCell ⟨rb,1,none⟩ (.int .i64 ((hd:Int)+1))).heap[rb]?=some (.cells #[.slice (some ⟨pb,0,none⟩) k k, .int .i64 ((hd:Int)+1)] 125 (0,0)):=by
             rw [heap_setCell_at HRM.out.blk]
             unfold xringC
             rw [HSL.out]
             rfl
           have hpl1:=hm1.heap HRM.out.pl (fun e=>HRM.out.ne e.symm)
           have HM1:=Lib.hid hm1
           have HB1:=Lib.hid hb1
           have HPL1:=Lib.hid hpl1
           clear d1 f1 hm1 hpl1 hb1
           generalize wr.setCell ⟨rb,1,none⟩ (.int .i64 ((hd:Int)+1))=w1 at*
           have hSS:w1.drew.cell? ⟨rb,1,none⟩=some (.int .i64 ((hd:Int)+1))∧w1.drew.cell? ⟨rb,0,none⟩=some (.slice (some ⟨pb,0,none⟩) k k):=⟨cell_of (w:=w1.drew) HB1.out rfl,cell_of (w:=w1.drew) HB1.out rfl⟩
           refine wp_region_x (fun w'=>w'.cell? ⟨rb,1,none⟩=some (.int .i64 ((hd:Int)+1))∧w'.cell? ⟨rb,0,none⟩=some (.slice (some ⟨pb,0,none⟩) k k)) [(0,1),(1,1),(2,1),(3,0),(4,1),(5,1),(6,1),(7,0),(8,1),(9,1)] (by kernel_rfl) (by kernel_rfl) (by intro d v c a w h;cases d<;>exact h) ?_
           iterate 3 (refine x_take rfl (fun K hK=> ?_);go_simp;refine hK _ ?_;clear hK K)
           refine x_read rfl hSS (fun w' h=>exec_load1 ⟨⟨_,Tryz.underlying3,rfl⟩⟩ rfl h.1) ?_
           iterate 3 (refine x_take rfl (fun K hK=> ?_);go_simp;refine hK _ ?_;clear hK K)
           refine x_read rfl hSS (fun w' h=>exec_load1 ⟨⟨_,Tryz.underlying123,rfl⟩⟩ rfl h.2) ?_
           iterate 2 (refine x_take rfl (fun K hK=> ?_);go_simp;refine hK _ ?_;clear hK K)
           refine x_nil ?_
           obtain ⟨q,hq⟩: ∃q,(((hd:Int)+1)==(k:Int))=q:=⟨_,rfl⟩
           have HB1S:=Lib.hid hSS.1
           clear hSS
           have g1:w1.drew.cell? ⟨rb,1,none⟩=some (.int .i64 ((hd:Int)+1)):=HB1S.out
           have g2:w1.drew.frozen? ⟨rb,1,none⟩=false:=free_of (w:=w1.drew) HB1.out
           cases q
           all_goals
             first
             | have hqk:hd+1=k:=by have:=beq_iff_eq.1 hq;omega
               have h20:h2=0:=by rw [←HH2.out,hqk,Nat.mod_self]
               clear hqk
               go_upto_region 17 with fail
               have hm2:=(((Mod.refl (fun b=>b=rb) w1)).setCell ⟨rb,1,none⟩ (.int .i64 0) (fun _=>rfl)).drew
               have hb2:((w1.setCell ⟨rb,1,none⟩ (.int .i64 0)).drew).heap[rb]?=some (.cells (xringC pb {S with hand:=h2}) 125 (0,0)):=by
                 rw [show (w1.setCell ⟨rb,1,none⟩ (.int .i64 0)).drew.heap[rb]?=_ from heap_setCell_at (w:=w1) HB1.out,h20]
                 unfold xringC
                 rw [HSL.out]
                 rfl
               have hr2:XRAt ((w1.setCell ⟨rb,1,none⟩ (.int .i64 0)).drew) rb pb {S with hand:=h2}:=⟨hb2,hm2.heap HPL1.out (fun e=>HRM.out.ne e.symm),HRM.out.ne,HRM.out.lo,HRM.out.hi,by rw [h20];have:=HRM.out.lo;exact this⟩
               have hmz:Mod (fun b=>b=rb∨b=pb) wr ((w1.setCell ⟨rb,1,none⟩ (.int .i64 0)).drew):=(HM1.out.mono (T:=fun b=>b=rb∨b=pb) fun _ _ h=> .inl h).trans hm2 (fun _ h=>h) fun _ _ h=> .inl h
               clear g1 g2 hm2 hb2 hq
               show Code.wp Tryz.prog _ _ _ ((w1.setCell ⟨rb,1,none⟩ (.int .i64 0)).drew)
               generalize (w1.setCell ⟨rb,1,none⟩ (.int .i64 0)).drew=wc at*
             | have hqk:¬ hd+1=k:=fun e=>by have:=beq_eq_false_iff_ne.1 hq;omega
               have h20:h2=hd+1:=by rw [←HH2.out,Nat.mod_eq_of_lt (by omega)]
               clear hqk
               go_upto_region 17 with fail
               have hb2:w1.drew.heap[rb]?=some (.cells (xringC pb {S with hand:=h2}) 125 (0,0)):=by
                 have e:=HB1.out
                 have e2:xringC pb {S with hand:=h2}= #[.slice (some ⟨pb,0,none⟩) k k, .int .i64 ((hd:Int)+1)]:=by
                   unfold xringC
                   rw [h20,HSL.out]
                   rfl
                 rw [e2]
                 exact e
               have hr2:XRAt w1.drew rb pb {S with hand:=h2}:=⟨hb2,HPL1.out,HRM.out.ne,HRM.out.lo,HRM.out.hi,by show h2<S.L.length;rw [HSL.out];exact HH2K.out⟩
               have hmz:Mod (fun b=>b=rb∨b=pb) wr w1.drew:=(HM1.out.mono (T:=fun b=>b=rb∨b=pb) fun _ _ h=> .inl h).drew
               clear g1 g2 hb2 hq
               have HB1S':=HB1S
               clear HB1S HB1S'
               show Code.wp Tryz.prog _ _ _ w1.drew
               generalize w1.drew=wc at*
             have hL:=hr2.lies (i:=hd) (by show hd<S.L.length;rw [HSL.out];exact hdk)
             have hat:({S with hand:=h2}:Rn).at_ hd=S.at_ hd:=rfl
             rw [hat] at hL
             have e0:wc.cell? ⟨rb,0,none⟩=some (.slice (some ⟨pb,0,none⟩) k k):=by
               have:=hr2.c0
               rw [←HSL.out]
               exact this
             obtain ⟨p,hp⟩: ∃p,S.at_ hd=p:=⟨_,rfl⟩
             rw [hp] at hL
             obtain ⟨pp,hpp⟩: ∃u,p.pinned=u:=⟨_,rfl⟩
             obtain ⟨pm,hpm⟩: ∃u,p.marked=u:=⟨_,rfl⟩
             have q1:wc.cell? ⟨pb,hd*3+1,none⟩=some (.bool pp):=by rw [←hpp];exact hL 1 (by show 1<3;decide)
             have q2:wc.cell? ⟨pb,hd*3+2,none⟩=some (.bool pm):=by rw [←hpm];exact hL 2 (by show 2<3;decide)
             have f2:wc.frozen? ⟨pb,hd*3+2,none⟩=false:=free_of hr2.pl
             have hun:=hr2.unmarked (i:=hd) (by show hd<S.L.length;rw [HSL.out];exact hdk)
             have hmu:=(Mod.refl (fun b=>b=pb) wc).setCell ⟨pb,hd*3+2,none⟩ (.bool false) (fun _=>rfl)
             have hstep:S.step=if pp=true then ({S with hand:=h2},none) else if pm=true then ({L:=S.L.set hd {S.at_ hd with marked:=false},hand:=h2},none) else ({S with hand:=h2},some hd):=by
               unfold Rn.step
               rw [HHD.out,HSL.out,HH2.out,hp,hpp,hpm]
             have HP:=Lib.hid hp
             have HSTEP:=Lib.hid hstep
             have HR2:=Lib.hid hr2
             have HUN:=Lib.hid hun
             have HMU:=Lib.hid hmu
             have HMZ:=Lib.hid (HMM.out.trans hmz (fun _ h=>h) fun _ _ h=>h)
             clear hr2 hmz hL hp hpp hpm hstep d0 hun hmu hat
             cases pp with
             | true=>
               have hs1:R.scan (m+1)=({S with hand:=h2},none):=by rw [HSN.out,HSTEP.out,if_pos rfl]
               have HS1:=Lib.hid hs1
               clear hs1 f2
               go_wp2
               go_roundw
               case rel=>exact ⟨m+1,by omega,by go_num,by rw [HS1.out],by rw [HS1.out];exact HR2.out,HMZ.out⟩
               case measure=>simp [intOf];omega
             | false=>
               cases pm with
               | true=>
                 have hs1:R.scan (m+1)=({L:=S.L.set hd {S.at_ hd with marked:=false},hand:=h2},none):=by rw [HSN.out,HSTEP.out,if_neg (by decide),if_pos rfl]
                 have HS1:=Lib.hid hs1
                 have hmw:Mod (fun b=>b=rb∨b=pb) wq (wc.setCell ⟨pb,hd*3+2,none⟩ (.bool false)):=HMZ.out.trans HMU.out (fun _ h=>h) fun _ _ h=> .inr h
                 have HMW:=Lib.hid hmw
                 clear hs1 hmw
                 go_wp2
                 go_roundw
                 case rel=>exact ⟨m+1,by omega,by go_num,by rw [HS1.out],by rw [HS1.out];exact HUN.out,HMW.out⟩
                 case measure=>simp [intOf];omega
               | false=>
                 have hs1:R.scan (m+1)=({S with hand:=h2},some hd):=by rw [HSN.out,HSTEP.out,if_neg (by decide),if_neg (by decide)]
                 have hs2:R.scan (2*k)=({S with hand:=h2},some hd):=by rw [←hs1];exact scan_stop (by omega) (by rw [hs1])
                 have hne:=HSE.out hd (by rw [hs2])
                 rw [hs2] at hne
                 have HNE:=Lib.hid hne
                 clear hs1 hs2 hne f2
                 go_wp2
                 go_ret2
                 rw [HNE.out]
                 exact ⟨rfl,HR2.out,HMZ.out⟩
         · obtain rfl:m=2*k:=by omega
           exfalso
           obtain ⟨q,hq⟩:=HSO.out
           rw [HNONE.out] at hq
           cases hq
end
theorem eqXs (w:World) (x y:Slt):(Op.equalIn 10000 38 (.agg (slC x)) (.agg (slC y))).run Tryz.prog w= .ok (decide (x=y)) w:=by
 rw [run_equalIn_agg w 9999 38 _ _ (by simp [Program.fieldsOf,Tryz.underlying38]) (by kernel_rfl)]
 rw [eqSlt_b]
 obtain ⟨u,⟨i,g,a⟩,v,d,s⟩:=x
 obtain ⟨u',⟨i',g',a'⟩,v',d',s'⟩:=y
 simp only
 simp [go_sem,Program.fieldsOf,Tryz.underlying38,Tryz.underlying35,Tryz.underlying33,Op.eqFields,part,isAgg]
 have hv:((v:Int)=(v':Int))↔v=v':=by omega
 simp only [hv]
 by_cases h1:u=u'
 · by_cases h2:i=i'
   · by_cases h3:g=g'
     · by_cases h4:a=a'
       · by_cases h5:v=v'
         · by_cases h6:d=d'
           · by_cases h7:s.toList=s'.toList
             · simp [h1,h2,h3,h4,h5,h6,h7]
             · simp [h1,h2,h3,h4,h5,h6,h7]
           · simp [h1,h2,h3,h4,h5,h6]
         · simp [h1,h2,h3,h4,h5]
       · simp [h1,h2,h3,h4]
     · simp [h1,h2,h3]
   · simp [h1,h2]
 · simp [h1]
theorem noXs:(slC Slt.no)= #[.bool false, .int .i64 0, .int .i64 0, .int .i64 0, .int .u64 0, .bool false, .string {data:= #[]}]:=rfl
section
variable {w w':World}
set_option maxRecDepth 20000 in
set_option maxHeartbeats 8000000 in
theorem xis_any (w:World) (x:Slt):Calls Tryz.prog 89 #[.agg (slC x)] w fun e w'=>e= .returned (.bool (decide x.is))∧Below w.heap.size w w':=by
 obtain ⟨w1,hw1⟩: ∃w1,w.alloc (.cells (slC x) 38)=w1:=⟨_,rfl⟩
 have hb1:Below w.heap.size w w1:=by rw [←hw1];exact (Below.refl _ _).alloc (Nat.le_refl _) _
 have hX:w1.heap[w.heap.size]?=some (.cells (slC x) 38 (0,0)):=by rw [←hw1];exact heap_alloc_at
 have hagx:AggT Tryz.prog 38 7:=aggXs x
 have c1:w1.cell? ⟨w.heap.size,1,none⟩=some (.int .i64 x.blk.1):=cell_of hX rfl
 have c2:w1.cell? ⟨w.heap.size,2,none⟩=some (.int .i64 x.blk.2.1):=cell_of hX rfl
 have HX:=Lib.hid hX
 have HB1:=Lib.hid hb1
 clear hb1 hX
 go_enter Tryz.func89,Tryz.ntmps89
 go_upto_region 1 with fail
 simp only [hw1] at*
 clear hw1
 go_upto_region 2 with fail
 obtain ⟨w2,hw2⟩: ∃w2,w1.alloc (.cells #[.int .i64 x.blk.1, .int .i64 x.blk.2.1] 33)=w2:=⟨_,rfl⟩
 have hb2:Below w.heap.size w w2:=by rw [←hw2];exact HB1.out.alloc HB1.out.size _
 have hbb:Below w1.heap.size w1 w2:=by rw [←hw2];exact (Below.refl _ _).alloc (Nat.le_refl _) _
 have hX2:=(hbb.block _ (lt_of_block HX.out)).trans HX.out
 have hF2:w2.heap[w1.heap.size]?=some (.cells #[.int .i64 x.blk.1, .int .i64 x.blk.2.1] 33 (0,0)):=by rw [←hw2];exact heap_alloc_at
 simp only [hw2] at*
 clear hw2
 have hL:Lies w2 w.heap.size 0 (slC x):=lies_of hX2
 have d0:w2.cell? ⟨w.heap.size,0,none⟩=some (.bool x.used):=cell_of hX2 rfl
 have d1:w2.cell? ⟨w.heap.size,1,none⟩=some (.int .i64 x.blk.1):=cell_of hX2 rfl
 have d2:w2.cell? ⟨w.heap.size,2,none⟩=some (.int .i64 x.blk.2.1):=cell_of hX2 rfl
 have d5:w2.cell? ⟨w.heap.size,5,none⟩=some (.bool x.dirty):=cell_of hX2 rfl
 have d3:w2.cell? ⟨w.heap.size,3,none⟩=some (.int .i64 x.blk.2.2):=cell_of hX2 rfl
 have d4:w2.cell? ⟨w.heap.size,4,none⟩=some (.int .u64 (x.ver:Nat)):=cell_of hX2 rfl
 have d6:w2.cell? ⟨w.heap.size,6,none⟩=some (.string x.data):=cell_of hX2 rfl
 have f0:w2.cell? ⟨w1.heap.size,0,none⟩=some (.int .i64 x.blk.1):=cell_of hF2 rfl
 have f1:w2.cell? ⟨w1.heap.size,1,none⟩=some (.int .i64 x.blk.2.1):=cell_of hF2 rfl
 have HB2:=Lib.hid hb2
 clear c1 c2 hb2 hbb hX2 hF2
 have heq:=fun w=>eqXs w x Slt.no
 rw [noXs] at heq
 unfold slC at heq
 by_cases hno:x=Slt.no
 · rw [decide_eq_true hno] at heq
   have hr:decide x.is=true:=decide_eq_true (.inl hno)
   clear hno
   go_wp2
   go_ret
   exact ⟨by rw [hr];rfl,HB2.out⟩
 · rw [decide_eq_false hno] at heq
   obtain ⟨u,hu⟩: ∃u,x.used=u:=⟨_,rfl⟩
   rw [hu] at d0 heq
   have HU:=Lib.hid hu
   have hfx:¬ x.fits→decide x.is=false:=fun hf=>decide_eq_false (by rintro (h|h)<;>contradiction)
   have hff:x.fits→decide x.is=true:=fun hf=>decide_eq_true (.inr hf)
   have HFX:=Lib.hid hfx
   have HFF:=Lib.hid hff
   clear hu hno hfx hff
   cases u with
   | false=>
     have hr:=HFX.out fun h=>by have:=h.used;rw [HU.out] at this;cases this
     have HR:=Lib.hid hr
     clear hr
     go_wp2
     go_ret
     exact ⟨by rw [HR.out];rfl,HB2.out⟩
   | true=>
     by_cases h1:0<x.blk.1
     case neg=>
       have hr:=HFX.out fun h=>h1 h.ino.1
       have HR:=Lib.hid hr
       clear hr
       go_wp2
       go_ret
       exact ⟨by rw [HR.out];rfl,HB2.out⟩
     by_cases h2:x.blk.1<41
     case neg=>
       have hr:=HFX.out fun h=>h2 (by have:=h.ino.2;omega)
       have HR:=Lib.hid hr
       clear hr
       go_wp2
       go_ret
       exact ⟨by rw [HR.out];rfl,HB2.out⟩
     by_cases h3:0≤x.blk.2.1
     case neg=>
       have hr:=HFX.out fun h=>h3 h.gen.1
       have HR:=Lib.hid hr
       clear hr
       go_wp2
       go_ret
       exact ⟨by rw [HR.out];rfl,HB2.out⟩
     by_cases h4:x.blk.2.1≤2147483647
     case neg=>
       have hr:=HFX.out fun h=>h4 h.gen.2
       have HR:=Lib.hid hr
       clear hr
       go_wp2
       go_ret
       exact ⟨by rw [HR.out];rfl,HB2.out⟩
     by_cases h5:0≤x.blk.2.2
     case neg=>
       have hr:=HFX.out fun h=>h5 h.at_.1
       have HR:=Lib.hid hr
       clear hr
       go_wp2
       go_ret
       exact ⟨by rw [HR.out];rfl,HB2.out⟩
     by_cases h6:x.blk.2.2<8
     case neg=>
       have hr:=HFX.out fun h=>h6 h.at_.2
       have HR:=Lib.hid hr
       clear hr
       go_wp2
       go_ret
       exact ⟨by rw [HR.out];rfl,HB2.out⟩
     by_cases h7:(x.ver:Int)≤1099511627775
     case neg=>
       have hr:=HFX.out fun h=>h7 (by have:=h.ver;omega)
       have HR:=Lib.hid hr
       clear hr
       go_wp2
       go_ret
       exact ⟨by rw [HR.out];rfl,HB2.out⟩
     by_cases h8:(x.data.size:Int)≤64
     case neg=>
       have hr:=HFX.out fun h=>h8 (by have:=h.size;omega)
       have HR:=Lib.hid hr
       clear hr
       go_wp2
       go_ret
       exact ⟨by rw [HR.out];rfl,HB2.out⟩
     have hr:=HFF.out ⟨HU.out,⟨by omega,by omega⟩,⟨h3,h4⟩,⟨h5,h6⟩,by omega,by omega⟩
     have HR:=Lib.hid hr
     clear hr
     go_wp2
     go_ret
     exact ⟨by rw [HR.out];rfl,HB2.out⟩
end
end Go.Proofs.YtldimgchpgoggaaGreat
