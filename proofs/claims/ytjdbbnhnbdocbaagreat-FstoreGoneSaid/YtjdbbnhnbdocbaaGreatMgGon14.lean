import Derived.Test.YtjdbbnhnbdocbaaGreatMgGon13
import Derived.Test.YtjdbbnhnbdocbaaGreatMgGon2
import Derived.Test.YtjdbbnhnbdocbaaGreatMgGon3
import Derived.Shelf.SlIterI.Collect
namespace Go.Tn.Dk
open Go.Tn.Bt Go.Tn.Lp
def Dsk.save (d:Dsk) (a ep:Nat) (h:Hd):Dsk×Nat:=
 if d.step.off=true then (d.step,7) else ((d.write (a+h.gen %2) (sealB (headPc ep h))).flush,(d.write (a+h.gen %2) (sealB (headPc ep h))).dead)
end Go.Tn.Dk
namespace Go.Proofs.YtjdbbnhnbdocbaaGreat
open Go.RowKit Go.Tn Go.Tn.Bt Go.Tn.Lp Go.Tn.Dk
theorem headD_len (t f:Nat):(headD t f).length=8:=by simp [headD,pack_len,bitsN_len]
theorem headPc_sec (ep:Nat) (h:Hd):secB (sealB (headPc ep h)):=⟨sealB_len _,sealB_lt _ (pack_lt _) (by simp [headPc,headD_len])⟩
set_option maxRecDepth 20000 in
set_option maxHeartbeats 4000000 in
theorem hsave_any {w:World} {F:Nat→Prop} {p:Nat} {d:Dsk} (h:DAt w F p d) (a ep:Nat) (hd:Hd) (ha:a+1<d.L.length) (he:ep≤16777215) (hg:hd.gen≤1099511627775) (ht:hd.tail<2 ^ 40) (hf:hd.floor<2 ^ 24) (hq:d.Q.length<1000000000):
  Calls Tryz.prog 196 #[.pointer (some ⟨p,0,none⟩), .int .i64 a, .int .u64 ep, .agg (hdCs hd)] w
  fun e w'=>e= .returned (.int .i64 ((d.save a ep hd).2:Nat))∧ ∃F',DAt w' F' p (d.save a ep hd).1∧Mod F w w'∧ ∀b,F' b→F b∨w.heap.size≤b:=by
 obtain ⟨g,t,f⟩:=hd
 simp only at hg ht hf
 have hsec:=headPc_sec ep ⟨g,t,f⟩
 have hsv:d.save a ep ⟨g,t,f⟩=if d.step.off=true then (d.step,7) else ((d.write (a+g %2) (sealB (headPc ep ⟨g,t,f⟩))).flush,(d.write (a+g %2) (sealB (headPc ep ⟨g,t,f⟩))).dead):=rfl
 have hpc:headPc ep ⟨g,t,f⟩=⟨ep,g,true,true,headD t f⟩:=rfl
 have hhi:=h.ok.hi
 rw [hpc] at hsec hsv
 have HSV:=Lib.hid hsv
 have HSEC:=Lib.hid hsec
 have hb0:Below w.heap.size w (w.alloc (.cells (hdCs ⟨g,t,f⟩) 123)):=(Below.refl _ _).alloc (Nat.le_refl _) _
 have hh0:(w.alloc (.cells (hdCs ⟨g,t,f⟩) 123)).heap[w.heap.size]?=some (.cells (hdCs ⟨g,t,f⟩) 123 (0,0)):=heap_alloc_at
 have hz0:(w.alloc (.cells (hdCs ⟨g,t,f⟩) 123)).heap.size=w.heap.size+1:=by simp
 have hwr:=hwrong_ok (h.below hb0) a ha
 have HD:=Lib.hid (h.below hb0)
 have HFL:=Lib.hid h.lt
 have HB0:=Lib.hid hb0
 have HH0:=Lib.hid hh0
 have HZ0:=Lib.hid hz0
 clear hsv hsec hpc h hb0 hh0 hz0
 simp only [hdCs_lit] at*
 go_enter Tryz.func196,Tryz.ntmps196
 go_upto_region 4 with (first
  | (go_at_call 115;refine hwr.mono ?_;rintro e w2 ⟨rfl,hw2⟩;obtain rfl:=hw2.symm;clear hw2)
  | fail)
 generalize w.alloc (.cells #[.int .u64 (g:Nat), .int .u64 (t:Nat), .int .u64 (f:Nat)] 123)=w0 at*
 clear hwr
 have hS:w0.drew.cell? ⟨w.heap.size,1,none⟩=some (.int .u64 (t:Nat))∧w0.drew.cell? ⟨w.heap.size,2,none⟩=some (.int .u64 (f:Nat)):=⟨cell_of (o:=1) HH0.out rfl,cell_of (o:=2) HH0.out rfl⟩
 refine wp_region_x (fun w'=>w'.cell? ⟨w.heap.size,1,none⟩=some (.int .u64 (t:Nat))∧w'.cell? ⟨w.heap.size,2,none⟩=some (.int .u64 (f:Nat))) [(1,1),(2,0),(4,1),(5,0),(0,2),(3,2),(6,2),(7,2),(8,1),(9,1),(10,1),(11,1),(12,1)] (by kernel_rfl) (by kernel_rfl) (by intro d v c a w h;cases d<;>exact h) ?_
 iterate 1 (refine x_take rfl (fun K hK=> ?_);go_simp;refine hK _ ?_;clear hK K)
 refine x_read rfl hS (fun w' h=>exec_load1 ⟨⟨_,Tryz.underlying37,rfl⟩⟩ rfl h.1) ?_
 iterate 1 (refine x_take rfl (fun K hK=> ?_);go_simp;refine hK _ ?_;clear hK K)
 refine x_read rfl hS (fun w' h=>exec_load1 ⟨⟨_,Tryz.underlying37,rfl⟩⟩ rfl h.2) ?_
 have hcs: ∀w':World,Below w0.heap.size w0 w'→w'.cell? ⟨w.heap.size,1,none⟩=some (.int .u64 (t:Nat))∧w'.cell? ⟨w.heap.size,2,none⟩=some (.int .u64 (f:Nat)):=fun w' hb=>
  ⟨(hb.cell (p:=⟨w.heap.size,1,none⟩) (by rw [HZ0.out];exact Nat.lt_succ_self _)).trans hS.1,(hb.cell (p:=⟨w.heap.size,2,none⟩) (by rw [HZ0.out];exact Nat.lt_succ_self _)).trans hS.2⟩
 refine x_show' rfl (fun K hK=> ?_)
 go_simp
 refine (bNew_any w0.drew).mono ?_
 rintro e w2 ⟨rfl,hW2,hb2⟩
 have hz2:w0.drew.heap.size=w0.heap.size:=rfl
 rw [hz2] at hW2 hb2 ⊢
 obtain ⟨bw,hbw⟩: ∃bw,w0.heap.size=bw:=⟨_,rfl⟩
 have HB2:Hid (Below bw w0 w2):=Lib.hid (by rw [←hbw];exact (Below.refl _ _).drew.trans hb2)
 rw [hbw] at hW2 hcs ⊢
 refine hK _ _ (hcs _ HB2.out) ?_
 clear hK K hb2 hS
 refine x_show' rfl (fun K hK=> ?_)
 go_simp
 refine (put_bits w2 bw _ _ hW2 t 40 (by simp) (by decide) ht).mono ?_
 rintro e w3 ⟨rfl,v3,hW3,hb3, -⟩
 have HB3:=Lib.hid (HB2.out.trans hb3)
 refine hK _ _ (hcs _ HB3.out) ?_
 clear hK K hb3 hW2
 refine x_show' rfl (fun K hK=> ?_)
 go_simp
 refine (put_bits w3 bw _ _ hW3 f 24 (by simp [bitsN_len]) (by decide) hf).mono ?_
 rintro e w4 ⟨rfl,v4,hW4,hb4, -⟩
 have HB4:=Lib.hid (HB3.out.trans hb4)
 refine hK _ _ (hcs _ HB4.out) ?_
 clear hK K hb4 hW3
 refine x_show' rfl (fun K hK=> ?_)
 go_simp
 refine (done_any w4 bw _ _ hW4 (by simp [bitsN_len])).mono ?_
 rintro e w5 ⟨v5,rfl,hO5,hb5⟩
 have hbw4:bw≤w4.heap.size:=by have:=HB4.out.size;omega
 have HB5:=Lib.hid (HB4.out.trans (hb5.mono hbw4))
 refine hK _ _ (hcs _ HB5.out) ?_
 clear hK K hb5
 iterate 5 (refine x_take rfl (fun K hK=> ?_);go_simp;refine hK _ ?_;clear hK K)
 refine x_nil ?_
 have hO5':LOut en8 1 5 w4.heap.size w5 v5 (headD t f):=hO5
 obtain ⟨a5,n5,c5,rfl⟩:=hO5.shape
 have c0:w5.cell? ⟨w.heap.size,0,none⟩=some (.int .u64 (g:Nat)):=(HB5.out.cell (p:=⟨w.heap.size,0,none⟩) (by rw [←hbw,HZ0.out];exact Nat.lt_succ_self _)).trans (cell_of (o:=0) HH0.out rfl)
 have hseal:=seal_ok w5 ep g true true (headD t f) (.slice a5 n5 c5) (hO5'.sl el8.len) (pack_lt _) he hg (by rw [headD_len];decide)
 clear hO5 hO5' hW4 hcs
 go_wp2_with fail
 refine hseal.mono ?_
 rintro e w6 ⟨r,rfl,hB6,hr6,hb6⟩
 have hbw5:bw≤w5.heap.size:=by have:=HB5.out.size;omega
 have hb06:Below bw w0 w6:=HB5.out.trans (hb6.mono hbw5)
 have c06:w6.cell? ⟨w.heap.size,0,none⟩=some (.int .u64 (g:Nat)):=(hb06.cell (p:=⟨w.heap.size,0,none⟩) (by rw [←hbw,HZ0.out];exact Nat.lt_succ_self _)).trans (cell_of (o:=0) HH0.out rfl)
 have hlw:w.heap.size+1=bw:=by rw [←hbw,HZ0.out]
 have hD6:DAt w6 F p d:=HD.out.below (by rw [hbw];exact hb06)
 have hsl6:=Bk.sl hB6 (o:=0) (n:=128) (cap:=128) (by rw [sealB_len];decide) (by decide) (by decide)
 rw [List.drop_zero,List.take_of_length_le (by rw [sealB_len];decide)] at hsl6
 have hrF: ∀k,(Value.slice (some ⟨r,0,none⟩) 128 128).ownBlock=some k→¬ F k:=fun k hk hF=>by
  cases hk
  have:=HFL.out r hF
  omega
 have hg2:g %2≤1:=by omega
 have hpl:=hplace_any w6 a g (by omega) (by omega)
 have hwr:=dwrite_any hD6 (a+g %2) (by omega) _ _ hsl6 HSEC.out hrF hq
 have hokw:=hD6.ok.write (i:=a+g %2) (b:=sealB ⟨ep,g,true,true,headD t f⟩) (by omega) HSEC.out hq
 have HB06:=Lib.hid (HB0.out.trans (hb06.mono (by omega)))
 have HSEC:=Lib.hid hD6.ok
 clear hB6 hb6 hb06 hD6 hsl6 hrF c0 hseal hlw hokw
 generalize sealB ⟨ep,g,true,true,headD t f⟩=sb at*
 generalize a+g %2=ix at*
 have hdead:d.dead=if d.step.off=true then 7 else 0:=rfl
 by_cases hoff:d.step.off=true
 ·have hw7:d.write ix sb=d.step:=by unfold Dsk.write;rw [if_pos hoff]
  have h7:d.dead=7:=by rw [hdead,if_pos hoff]
  rw [if_pos hoff] at HSV
  rw [h7,hw7] at hwr
  clear hdead h7 hw7 hoff
  go_wp2_with (first
   | (go_at_call 167;refine hpl.mono ?_;rintro e w7 ⟨rfl,hw7⟩;obtain rfl:=hw7.symm;clear hw7)
   | (go_at_call 193;refine hwr.mono ?_;rintro e w7 ⟨rfl,F7,hD7,hm7,hF7⟩;have HD7:=Lib.hid hD7;have HM7:=Lib.hid hm7;have HF7:=Lib.hid hF7;clear hD7 hm7 hF7)
   | fail)
  go_ret
  rw [HSV.out]
  refine ⟨rfl,F7,HD7.out,?_,fun b hb=>(HF7.out b hb).imp id fun h=>Nat.le_trans HB06.out.size h⟩
  exact (Mod.of_below HB06.out |>.mono (T:=F) fun x hx h=>absurd hx (Nat.not_lt.2 h)).trans HM7.out (fun _ h=>h) fun _ _ h=>h
 ·have h0:d.dead=0:=by rw [hdead,if_neg hoff]
  rw [if_neg hoff] at HSV
  rw [h0] at hwr
  clear hdead h0 hoff
  go_upto_region 13 with (first
   | (go_at_call 167;refine hpl.mono ?_;rintro e w7 ⟨rfl,hw7⟩;obtain rfl:=hw7.symm;clear hw7)
   | (go_at_call 193;refine hwr.mono ?_;rintro e w7 ⟨rfl,F7,hD7,hm7,hF7⟩;have HD7:=Lib.hid hD7;have HM7:=Lib.hid hm7;have HF7:=Lib.hid hF7;clear hD7 hm7 hF7)
   | fail)
  have hfl:=dflush_any HD7.out
  go_wp2_with (first
   | (go_at_call 197;refine hfl.mono ?_;rintro e w8 ⟨rfl,hD8,hm8⟩;have HD8:=Lib.hid hD8;have HM8:=Lib.hid hm8;clear hD8 hm8)
   | fail)
  go_ret
  rw [HSV.out]
  refine ⟨rfl,F7,HD8.out,?_,fun b hb=>(HF7.out b hb).imp id fun h=>Nat.le_trans HB06.out.size h⟩
  refine (Mod.of_below HB06.out |>.mono (T:=F) fun x hx h=>absurd hx (Nat.not_lt.2 h)).trans (T:=F) (HM7.out.trans (T:=F) HM8.out (fun _ h=>h) fun x hx h=> ?_) (fun _ h=>h) fun _ _ h=>h
  exact (HF7.out x h).resolve_right (by omega)
end Go.Proofs.YtjdbbnhnbdocbaaGreat
namespace Go.Tn
open Go.RowKit
variable {κ:Type} {enc:κ→Value}
theorem nodup_len [DecidableEq κ] {xs ys:List κ} (hx:xs.Nodup) (hy:ys.Nodup) (h: ∀x∈xs,x∈ys):xs.length≤ys.length:=by
 have hp:xs.Perm (ys.filter fun y=>decide (y∈xs)):=(List.perm_ext_iff_of_nodup hx (hy.filter _)).2 fun a=>by
  rw [List.mem_filter,decide_eq_true_iff]
  exact ⟨fun ha=>⟨h a ha,ha⟩,fun ha=>ha.2⟩
 rw [hp.length_eq]
 exact List.length_filter_le _ _
structure KeysSeen (L:Ents κ) (seen:Array Nat) (ss:List κ):Prop where
 nd:ss.Nodup
 mem: ∀x,x∈ss↔ ∃e∈L,e.1=x∧e.2.2∈seen
theorem keys_nodup {L:Ents κ} {clk:Nat} (hw:WF L clk):(L.map (·.1)).Nodup:=List.pairwise_map.2 (hw.keys.imp fun h=>h)
theorem KeysSeen.len [DecidableEq κ] {L:Ents κ} {seen:Array Nat} {ss:List κ} {clk:Nat} (h:KeysSeen L seen ss) (hw:WF L clk):ss.length≤L.length:=by
 have:=nodup_len h.nd (keys_nodup hw) fun x hx=>by
  obtain ⟨e,h1,h2,_⟩:=(h.mem x).1 hx
  exact List.mem_map.2 ⟨e,h1,h2⟩
 simpa using this
variable {κ:Type} {enc:κ→Value}
variable [DecidableEq κ]
end Go.Tn
