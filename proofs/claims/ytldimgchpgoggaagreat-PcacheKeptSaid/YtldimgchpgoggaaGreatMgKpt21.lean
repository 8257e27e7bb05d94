import Derived.Test.YtldimgchpgoggaaGreatRows
import Derived.Test.YtldimgchpgoggaaGreatMgKpt4
import Derived.Test.YtldimgchpgoggaaGreatMgKpt3
import Derived.Test.YtldimgchpgoggaaGreatMgKpt5
import Derived.Test.YtldimgchpgoggaaGreatMgKpt20
import Derived.ChangeKeysEq
import Derived.BigQuiet
import Derived.WalkKit
import Derived.WalkSpells
import Derived.Deep.Cut
import Derived.Deep.LoopGhost
import Derived.Below
import Derived.ProofKit
import Derived.ChangeOld
import Derived.Test.YtldimgchpgoggaaGreatMgKpt18
namespace Go.Tn.Ck
open Go.Tn.Bits
def sN (f:Nat→Bool):Nat:=num (fun j=>f (63-j)) 64
theorem sN_lt (f:Nat→Bool):sN f<18446744073709551616:=num_lt _ 64
theorem sN_bit (f:Nat→Bool) {i:Nat} (h:i<64):(sN f).testBit i=f i:=by
 unfold sN
 rw [testBit_num,decide_eq_true h,Bool.true_and]
 congr 1
 omega
theorem sN_congr {f g:Nat→Bool} (h: ∀i,i<64→f i=g i):sN f=sN g:=num_congr fun j hj=>h _ (by omega)
theorem sN_inj {f g:Nat→Bool} (h:sN f=sN g) {i:Nat} (hi:i<64):f i=g i:=by rw [←sN_bit f hi, ←sN_bit g hi,h]
theorem sN_or (f:Nat→Bool) {i:Nat} (h:i<64):sN f ||| 2 ^ i=sN (setB f i true):=by
 have e:=num_or (fun j=>f (63-j)) (m:=64) (i:=63-i) (by omega)
 rw [show 64-1-(63-i)=i by omega] at e
 unfold sN
 rw [e]
 refine num_congr fun j hj=> ?_
 unfold setB
 by_cases hc:j=63-i
 · rw [if_pos hc,if_pos (by omega)]
 · rw [if_neg hc,if_neg (by omega)]
theorem sN_not (f:Nat→Bool) {i:Nat} (h:i<64):sN f &&& (2 ^ 64-(2 ^ i+1))=sN (setB f i false):=by
 have e:=num_andNot (fun j=>f (63-j)) (i:=63-i) (by omega)
 rw [show 63-(63-i)=i by omega] at e
 unfold sN
 rw [e]
 refine num_congr fun j hj=> ?_
 unfold setB
 by_cases hc:j=63-i
 · rw [if_pos hc,if_pos (by omega)]
 · rw [if_neg hc,if_neg (by omega)]
def Rn.uF (r:Rn):Nat→Bool:=fun i=>(r.at_ i).used
def Rn.pF (r:Rn):Nat→Bool:=fun i=>(r.at_ i).pinned
def Rn.mF (r:Rn):Nat→Bool:=fun i=>(r.at_ i).marked
theorem at_put {r:Rn} {i:Nat} (hi:i<r.L.length) (p:Pl) (j:Nat):(r.put i p).at_ j=if j=i then p else r.at_ j:=by
 unfold Rn.at_ Rn.put
 simp only
 rw [List.getElem?_set]
 by_cases h:j=i
 · subst h
   rw [if_pos rfl,if_pos rfl,if_pos hi]
   rfl
 · rw [if_neg h,if_neg (fun e=>h e.symm)]
theorem put_uF {r:Rn} {i:Nat} (hi:i<r.L.length) (p:Pl):(r.put i p).uF=setB r.uF i p.used:=by
 funext j
 unfold Rn.uF setB
 rw [at_put hi]
 split<;>rfl
theorem put_pF {r:Rn} {i:Nat} (hi:i<r.L.length) (p:Pl):(r.put i p).pF=setB r.pF i p.pinned:=by
 funext j
 unfold Rn.pF setB
 rw [at_put hi]
 split<;>rfl
theorem put_mF {r:Rn} {i:Nat} (hi:i<r.L.length) (p:Pl):(r.put i p).mF=setB r.mF i p.marked:=by
 funext j
 unfold Rn.mF setB
 rw [at_put hi]
 split<;>rfl
theorem bit_mod (f:Nat→Bool) {i:Nat} (h:i<64):sN f/2 ^ i %2=(f i).toNat:=by
 have:=sN_bit f h
 rw [Nat.testBit_eq_decide_div_mod_eq] at this
 rw [←this]
 have h2:sN f/2 ^ i %2=0∨sN f/2 ^ i %2=1:=by omega
 rcases h2 with h2|h2<;>rw [h2]<;>rfl
end Go.Tn.Ck
namespace Go.Proofs.YtldimgchpgoggaaGreat
open Go.RowKit Go.Tn Go.Tn.Bits Go.Tn.Ck
def rgC (r:Rn):Array Value:= #[.int .i64 (r.L.length:Nat), .int .u64 (sN r.uF:Nat), .int .u64 (sN r.pF:Nat), .int .u64 (sN r.mF:Nat), .int .i64 (r.hand:Nat)]
structure RgAt (w:World) (b:Nat) (r:Rn):Prop where
 blk:w.heap[b]?=some (.cells (rgC r) 145 (0,0))
 lo:1≤r.L.length
 hi:r.L.length≤64
 hand:r.hand<r.L.length
section
variable {w w':World} {b:Nat} {r:Rn}
theorem RgAt.below (h:RgAt w b r) (hb:Below w.heap.size w w'):RgAt w' b r:=⟨(hb.block b (lt_of_block h.blk)).trans h.blk,h.lo,h.hi,h.hand⟩
theorem RgAt.mod {S:Nat→Prop} (h:RgAt w b r) (hm:Mod S w w') (hS:¬ S b):RgAt w' b r:=⟨hm.heap h.blk hS,h.lo,h.hi,h.hand⟩
theorem RgAt.c0 (h:RgAt w b r):w.cell? ⟨b,0,none⟩=some (.int .i64 (r.L.length:Nat)):=cell_of h.blk rfl
theorem RgAt.c1 (h:RgAt w b r):w.cell? ⟨b,1,none⟩=some (.int .u64 (sN r.uF:Nat)):=cell_of h.blk rfl
theorem RgAt.c2 (h:RgAt w b r):w.cell? ⟨b,2,none⟩=some (.int .u64 (sN r.pF:Nat)):=cell_of h.blk rfl
theorem RgAt.c3 (h:RgAt w b r):w.cell? ⟨b,3,none⟩=some (.int .u64 (sN r.mF:Nat)):=cell_of h.blk rfl
theorem RgAt.c4 (h:RgAt w b r):w.cell? ⟨b,4,none⟩=some (.int .i64 (r.hand:Nat)):=cell_of h.blk rfl
theorem khas_any (w:World) (f:Nat→Bool) (i:Nat) (hi:i<64):Calls Tryz.prog 87 #[.int .u64 (sN f:Nat), .int .i64 i] w fun e w'=>e= .returned (.bool (f i))∧w'=w:=by
 have hb:bits .and .u64 (((sN f:Nat):Int)/2 ^ i) 1=(((f i).toNat:Nat):Int):=by
   have h1:sN f/2 ^ i<18446744073709551616:=Nat.lt_of_le_of_lt (Nat.div_le_self _ _) (sN_lt f)
   have h2:((sN f:Nat):Int)/2 ^ i=((sN f/2 ^ i:Nat):Int):=by rw [Int.natCast_ediv,Int.natCast_pow];rfl
   rw [h2,show (1:Int)=((1:Nat):Int) from rfl,bits_and _ _ h1 (by decide),Nat.and_one_is_mod,bit_mod f hi]
 generalize sN f=s at*
 go_enter Tryz.func87,Tryz.ntmps87
 go_wp2
 go_ret
 exact ⟨by cases f i<;>rfl,rfl⟩
theorem kwith_any (w:World) (f:Nat→Bool) (i:Nat) (hi:i<64) (q:Bool):Calls Tryz.prog 98 #[.int .u64 (sN f:Nat), .int .i64 i, .bool q] w fun e w'=>e= .returned (.int .u64 (sN (setB f i q):Nat))∧w'=w:=by
 have hp:IntKind.u64.wrap ((2:Int) ^ i)=((2 ^ i:Nat):Int):=by
   have h2:(2:Int) ^ i=((2 ^ i:Nat):Int):=by rw [Int.natCast_pow];rfl
   rw [h2,Bt.wrap64,Nat.mod_eq_of_lt]
   exact Nat.pow_lt_pow_right (by decide) hi
 have hp64:2 ^ i<2 ^ 64:=Nat.pow_lt_pow_right (by decide) hi
 have ho:bits .or .u64 (sN f:Nat) ((2 ^ i:Nat):Int)=((sN (setB f i true):Nat):Int):=by rw [bits_or _ _ (sN_lt f) hp64,sN_or f hi]
 have hn:bits .andNot .u64 (sN f:Nat) ((2 ^ i:Nat):Int)=((sN (setB f i false):Nat):Int):=by rw [bits_andNot _ _ (sN_lt f) hp64,sN_not f hi]
 clear hp64
 obtain ⟨p,hpe⟩: ∃p:Nat,2 ^ i=p:=⟨_,rfl⟩
 rw [hpe] at hp ho hn
 clear hpe
 generalize sN f=s at*
 cases q
 · generalize sN (setB f i false)=t at*
   go_enter Tryz.func98,Tryz.ntmps98
   go_wp2
   go_ret
   exact ⟨rfl,rfl⟩
 · generalize sN (setB f i true)=t at*
   go_enter Tryz.func98,Tryz.ntmps98
   go_wp2
   go_ret
   exact ⟨rfl,rfl⟩
theorem kok_any (h:RgAt w b r):Calls Tryz.prog 97 #[.pointer (some ⟨b,0,none⟩)] w fun e w'=>e= .returned (.bool true)∧w'=w:=by
 have c0:=h.c0
 have h0:decide ((0:Int)<((r.L.length:Nat):Int))=true:=decide_eq_true (by have:=h.lo;omega)
 have h0':0<r.L.length:=h.lo
 clear h
 generalize r.L.length=n at*
 go_enter Tryz.func97,Tryz.ntmps97
 go_wp2
 go_ret
 exact ⟨rfl,rfl⟩
theorem kwrong_any (h:RgAt w b r) (i:Nat) (hi:i<r.L.length):Calls Tryz.prog 125 #[.pointer (some ⟨b,0,none⟩), .int .i64 i] w fun e w'=>e= .returned (.int .i64 0)∧w'=w:=by
 have c0:=h.c0
 have hok:=kok_any h
 clear h
 generalize r.L.length=n at*
 go_enter Tryz.func125,Tryz.ntmps125
 go_wp2_with (first
   |(go_at_call 97;refine hok.mono ?_;rintro e wt ⟨rfl,hw⟩;obtain rfl:=hw.symm;clear hw)
   |fail)
 go_ret
 exact ⟨rfl,rfl⟩
theorem knew_any (w:World) (n:Nat) (h1:1≤n) (h2:n≤64):Calls Tryz.prog 43 #[.int .i64 n] w fun e w'=> ∃b,e= .returned (.tuple #[.pointer (some ⟨b,0,none⟩), .int .i64 0])∧RgAt w' b ⟨List.replicate n Pl.no,0⟩∧Below w.heap.size w w'∧w.heap.size≤b:=by
 have h2':(n:Int)≤64:=by omega
 have hz:rgC ⟨List.replicate n Pl.no,0⟩= #[.int .i64 n, .int .u64 0, .int .u64 0, .int .u64 0, .int .i64 0]:=by
   have hp: ∀i,(⟨List.replicate n Pl.no,0⟩:Rn).at_ i=Pl.no:=fun i=>by
     unfold Rn.at_
     simp only
     rw [List.getElem?_replicate]
     split<;>rfl
   have hs: ∀f:Nat→Bool,(∀i,f i=false)→sN f=0:=fun f hf=>num_le_one _ (fun j=>hf _) 64
   unfold rgC
   rw [hs _ (fun i=>by unfold Rn.uF;rw [hp];rfl),hs _ (fun i=>by unfold Rn.pF;rw [hp];rfl),hs _ (fun i=>by unfold Rn.mF;rw [hp];rfl)]
   simp
 have HZ:=Lib.hid hz
 clear hz
 go_enter Tryz.func43,Tryz.ntmps43
 go_wp2
 go_ret2
 refine ⟨w.heap.size,rfl,⟨?_,by simpa using h1,by simpa using h2,by simp;omega⟩,(Below.refl _ _).alloc (Nat.le_refl _) _,Nat.le_refl _⟩
 rw [HZ.out]
 exact heap_alloc_at
end
section
variable {w w':World} {b:Nat} {r:Rn}
theorem put_len (r:Rn) (i:Nat) (p:Pl):(r.put i p).L.length=r.L.length:=by
 unfold Rn.put
 simp
def KPost (w:World) (b:Nat) (r':Rn) (e:Ending) (w':World):Prop:=e= .returned (.int .i64 0)∧RgAt w' b r'∧Mod (fun x=>x=b) w w'
set_option maxRecDepth 20000 in
set_option maxHeartbeats 2000000 in
theorem kturn_any (h:RgAt w b r) (i:Nat) (hi:i<r.L.length) (p:Pl):Calls Tryz.prog 86 #[.pointer (some ⟨b,0,none⟩), .int .i64 i, .bool p.used, .bool p.pinned, .bool p.marked] w fun e w'=>KPost w b (r.put i p) e w':=by
 have hwr:=kwrong_any h i hi
 have hi64:i<64:=by have:=h.hi;omega
 have w1:=fun w=>kwith_any w r.uF i hi64 p.used
 have w2:=fun w=>kwith_any w r.pF i hi64 p.pinned
 have w3:=fun w=>kwith_any w r.mF i hi64 p.marked
 have hbk:w.drew.heap[b]?=some (.cells (rgC r) 145 (0,0)):=h.blk
 have hend:(((w.drew.setCell ⟨b,1,none⟩ (.int .u64 (sN (setB r.uF i p.used):Nat))).setCell ⟨b,2,none⟩ (.int .u64 (sN (setB r.pF i p.pinned):Nat))).setCell ⟨b,3,none⟩ (.int .u64 (sN (setB r.mF i p.marked):Nat))).heap[b]?=some (.cells (rgC (r.put i p)) 145 (0,0)):=by
   rw [heap_setCell_at (heap_setCell_at (heap_setCell_at hbk))]
   unfold rgC
   rw [put_uF hi,put_pF hi,put_mF hi,put_len]
   rfl
 have hm:=((((Mod.refl (fun x=>x=b) w).drew).setCell ⟨b,1,none⟩ (.int .u64 (sN (setB r.uF i p.used):Nat)) (fun _=>rfl)).setCell ⟨b,2,none⟩ (.int .u64 (sN (setB r.pF i p.pinned):Nat)) (fun _=>rfl)).setCell ⟨b,3,none⟩ (.int .u64 (sN (setB r.mF i p.marked):Nat)) (fun _=>rfl)
 have HP:Hid (RgAt _ b (r.put i p)):=Lib.hid ⟨hend,by rw [put_len];exact h.lo,by rw [put_len];exact h.hi,by rw [put_len];exact h.hand⟩
 have HM:=Lib.hid hm
 have k1:w.drew.cell? ⟨b,1,none⟩=some (.int .u64 (sN r.uF:Nat)):=cell_of hbk rfl
 have k2:w.drew.cell? ⟨b,2,none⟩=some (.int .u64 (sN r.pF:Nat)):=cell_of hbk rfl
 have k3:w.drew.cell? ⟨b,3,none⟩=some (.int .u64 (sN r.mF:Nat)):=cell_of hbk rfl
 have f1:w.drew.frozen? ⟨b,1,none⟩=false:=free_of hbk
 have hb2:=heap_setCell_at (o:=1) (v:= .int .u64 (sN (setB r.uF i p.used):Nat)) hbk
 have f2:(w.drew.setCell ⟨b,1,none⟩ (.int .u64 (sN (setB r.uF i p.used):Nat))).frozen? ⟨b,2,none⟩=false:=free_of hb2
 have c2:(w.drew.setCell ⟨b,1,none⟩ (.int .u64 (sN (setB r.uF i p.used):Nat))).cell? ⟨b,2,none⟩=some (.int .u64 (sN r.pF:Nat)):=cell_of hb2 rfl
 have hb3:=heap_setCell_at (o:=2) (v:= .int .u64 (sN (setB r.pF i p.pinned):Nat)) hb2
 have f3:((w.drew.setCell ⟨b,1,none⟩ (.int .u64 (sN (setB r.uF i p.used):Nat))).setCell ⟨b,2,none⟩ (.int .u64 (sN (setB r.pF i p.pinned):Nat))).frozen? ⟨b,3,none⟩=false:=free_of hb3
 have c3:((w.drew.setCell ⟨b,1,none⟩ (.int .u64 (sN (setB r.uF i p.used):Nat))).setCell ⟨b,2,none⟩ (.int .u64 (sN (setB r.pF i p.pinned):Nat))).cell? ⟨b,3,none⟩=some (.int .u64 (sN r.mF:Nat)):=cell_of hb3 rfl
 have hS:=And.intro k1 (And.intro k2 k3)
 clear h hbk hend hm hb2 hb3 k1 k2 k3
 generalize sN (setB r.uF i p.used)=s1 at*
 generalize sN (setB r.pF i p.pinned)=s2 at*
 generalize sN (setB r.mF i p.marked)=s3 at*
 generalize sN r.uF=t1 at*
 generalize sN r.pF=t2 at*
 generalize sN r.mF=t3 at*
 obtain ⟨pu,pp,pm⟩:=p
 simp only at*
 go_enter Tryz.func86,Tryz.ntmps86
 go_upto_region 4 with (first
   |(go_at_call 125;refine hwr.mono ?_;rintro e wt ⟨rfl,hw⟩;obtain rfl:=hw.symm;clear hw)
   |fail)
 refine wp_region_x (fun w'=>w'.cell? ⟨b,1,none⟩=some (.int .u64 (t1:Nat))∧w'.cell? ⟨b,2,none⟩=some (.int .u64 (t2:Nat))∧w'.cell? ⟨b,3,none⟩=some (.int .u64 (t3:Nat))) [(0,1),(1,1),(2,1),(3,1),(4,1),(5,1),(6,0),(7,1),(8,1),(10,1),(11,1),(12,1),(13,0),(14,1),(15,1),(17,1),(18,1),(19,1),(20,0),(21,1),(22,1),(9,2),(16,2),(23,2),(24,1),(25,1),(26,3),(27,1),(28,1),(29,3),(30,1),(31,1),(32,3)] (by kernel_rfl) (by kernel_rfl) (by intro d v c a w h;cases d<;>exact h) ?_
 iterate 6 (refine x_take rfl (fun K hK=> ?_);go_simp;refine hK _ ?_;clear hK K)
 refine x_read rfl hS (fun w' h=>exec_load1 ⟨⟨_,Tryz.underlying143,rfl⟩⟩ rfl h.1) ?_
 iterate 5 (refine x_take rfl (fun K hK=> ?_);go_simp;refine hK _ ?_;clear hK K)
 refine x_read rfl hS (fun w' h=>exec_load1 ⟨⟨_,Tryz.underlying143,rfl⟩⟩ rfl h.2.1) ?_
 iterate 5 (refine x_take rfl (fun K hK=> ?_);go_simp;refine hK _ ?_;clear hK K)
 refine x_read rfl hS (fun w' h=>exec_load1 ⟨⟨_,Tryz.underlying143,rfl⟩⟩ rfl h.2.2) ?_
 iterate 2 (refine x_take rfl (fun K hK=> ?_);go_simp;refine hK _ ?_;clear hK K)
 refine x_show' rfl (fun K hK=> ?_)
 go_simp
 refine (w1 _).mono ?_
 rintro e wt ⟨rfl,hw⟩
 obtain rfl:=hw.symm
 clear hw
 refine hK _ _ hS ?_
 clear hK K
 refine x_show' rfl (fun K hK=> ?_)
 go_simp
 refine (w2 _).mono ?_
 rintro e wt ⟨rfl,hw⟩
 obtain rfl:=hw.symm
 clear hw
 refine hK _ _ hS ?_
 clear hK K
 refine x_show' rfl (fun K hK=> ?_)
 go_simp
 refine (w3 _).mono ?_
 rintro e wt ⟨rfl,hw⟩
 obtain rfl:=hw.symm
 clear hw
 refine hK _ _ hS ?_
 clear hK K
 iterate 2 (refine x_take rfl (fun K hK=> ?_);go_simp;refine hK _ ?_;clear hK K)
 refine x_skip rfl (exec_store1 (v:= .int .u64 (s1:Nat)) ⟨⟨_,Tryz.underlying143,rfl⟩⟩ (by kernel_rfl) rfl rfl rfl hS.1 f1) ?_
 iterate 2 (refine x_take rfl (fun K hK=> ?_);go_simp;refine hK _ ?_;clear hK K)
 refine x_skip rfl (exec_store1 (v:= .int .u64 (s2:Nat)) ⟨⟨_,Tryz.underlying143,rfl⟩⟩ (by kernel_rfl) rfl rfl rfl c2 f2) ?_
 iterate 2 (refine x_take rfl (fun K hK=> ?_);go_simp;refine hK _ ?_;clear hK K)
 refine x_skip rfl (exec_store1 (v:= .int .u64 (s3:Nat)) ⟨⟨_,Tryz.underlying143,rfl⟩⟩ (by kernel_rfl) rfl rfl rfl c3 f3) ?_
 refine x_nil ?_
 clear hS w1 w2 w3 f1 f2 f3 c2 c3 hwr
 go_wp2
 go_ret
 exact ⟨rfl,HP.out,HM.out⟩
theorem kuse_any (h:RgAt w b r) (i:Nat) (hi:i<r.L.length):Calls Tryz.prog 102 #[.pointer (some ⟨b,0,none⟩), .int .i64 i] w fun e w'=>KPost w b (r.use i) e w':=by
 have ht:=kturn_any h i hi ⟨true,false,true⟩
 clear h
 go_enter Tryz.func102,Tryz.ntmps102
 go_wp2_with fail
 refine ht.mono ?_
 rintro e w2 ⟨rfl,h1,h2⟩
 have H1:=Lib.hid h1
 have H2:=Lib.hid h2
 clear ht h1 h2
 go_wp2
 go_ret
 exact ⟨rfl,H1.out,H2.out⟩
theorem kdrop_any (h:RgAt w b r) (i:Nat) (hi:i<r.L.length):Calls Tryz.prog 101 #[.pointer (some ⟨b,0,none⟩), .int .i64 i] w fun e w'=>KPost w b (r.drop i) e w':=by
 have ht:=kturn_any h i hi Pl.no
 clear h
 go_enter Tryz.func101,Tryz.ntmps101
 go_wp2_with fail
 refine ht.mono ?_
 rintro e w2 ⟨rfl,h1,h2⟩
 have H1:=Lib.hid h1
 have H2:=Lib.hid h2
 clear ht h1 h2
 go_wp2
 go_ret
 exact ⟨rfl,H1.out,H2.out⟩
theorem klives_any (h:RgAt w b r) (i:Nat) (hi:i<r.L.length):Calls Tryz.prog 85 #[.pointer (some ⟨b,0,none⟩), .int .i64 i] w fun e w'=>e= .returned (.int .i64 (if (r.at_ i).used then 0 else 11))∧w'=w:=by
 have hwr:=kwrong_any h i hi
 have hh:=fun w=>khas_any w r.uF i (by have:=h.hi;omega)
 have c1:=h.c1
 clear h
 have hu:r.uF i=(r.at_ i).used:=rfl
 rw [hu] at hh
 generalize sN r.uF=t at*
 clear hu
 generalize (r.at_ i).used=u at*
 cases u
 · go_enter Tryz.func85,Tryz.ntmps85
   go_wp2_with (first
     |(go_at_call 125;refine hwr.mono ?_;rintro e wt ⟨rfl,hw⟩;obtain rfl:=hw.symm;clear hw)
     |(go_at_call 87;refine (hh _).mono ?_;rintro e wt ⟨rfl,hw⟩;obtain rfl:=hw.symm;clear hw)
     |fail)
   go_ret
   exact ⟨rfl,rfl⟩
 · go_enter Tryz.func85,Tryz.ntmps85
   go_wp2_with (first
     |(go_at_call 125;refine hwr.mono ?_;rintro e wt ⟨rfl,hw⟩;obtain rfl:=hw.symm;clear hw)
     |(go_at_call 87;refine (hh _).mono ?_;rintro e wt ⟨rfl,hw⟩;obtain rfl:=hw.symm;clear hw)
     |fail)
   go_ret
   exact ⟨rfl,rfl⟩
theorem ktouch_any (h:RgAt w b r) (i:Nat) (hi:i<r.L.length) (hu:(r.at_ i).used=true):Calls Tryz.prog 46 #[.pointer (some ⟨b,0,none⟩), .int .i64 i] w fun e w'=>KPost w b (r.touch i) e w':=by
 have ht:=kturn_any h i hi {r.at_ i with marked:=true}
 have hl:=klives_any h i hi
 have hh:=fun w=>khas_any w r.pF i (by have:=h.hi;omega)
 have c2:=h.c2
 rw [hu,if_pos rfl] at hl
 unfold Rn.touch
 rw [if_pos hu]
 have hp:r.pF i=(r.at_ i).pinned:=rfl
 rw [hp] at hh
 simp only [hu] at ht ⊢
 generalize sN r.pF=t at*
 generalize (r.at_ i).pinned=q at*
 clear h hp
 go_enter Tryz.func46,Tryz.ntmps46
 go_wp2_with (first
   |(go_at_call 85;refine hl.mono ?_;rintro e wt ⟨rfl,hw⟩;obtain rfl:=hw.symm;clear hw)
   |(go_at_call 87;refine (hh _).mono ?_;rintro e wt ⟨rfl,hw⟩;obtain rfl:=hw.symm;clear hw)
   |fail)
 refine ht.mono ?_
 rintro e w2 ⟨rfl,h1,h2⟩
 have H1:=Lib.hid h1
 have H2:=Lib.hid h2
 clear ht h1 h2
 go_wp2
 go_ret
 exact ⟨rfl,H1.out,H2.out⟩
theorem kpin_any (h:RgAt w b r) (i:Nat) (hi:i<r.L.length) (hu:(r.at_ i).used=true):Calls Tryz.prog 103 #[.pointer (some ⟨b,0,none⟩), .int .i64 i] w fun e w'=>KPost w b (r.pin i) e w':=by
 have ht:=kturn_any h i hi {r.at_ i with pinned:=true}
 have hl:=klives_any h i hi
 have hh:=fun w=>khas_any w r.mF i (by have:=h.hi;omega)
 have c3:=h.c3
 rw [hu,if_pos rfl] at hl
 unfold Rn.pin
 rw [if_pos hu]
 have hp:r.mF i=(r.at_ i).marked:=rfl
 rw [hp] at hh
 simp only [hu] at ht ⊢
 generalize sN r.mF=t at*
 generalize (r.at_ i).marked=q at*
 clear h hp
 go_enter Tryz.func103,Tryz.ntmps103
 go_wp2_with (first
   |(go_at_call 85;refine hl.mono ?_;rintro e wt ⟨rfl,hw⟩;obtain rfl:=hw.symm;clear hw)
   |(go_at_call 87;refine (hh _).mono ?_;rintro e wt ⟨rfl,hw⟩;obtain rfl:=hw.symm;clear hw)
   |fail)
 refine ht.mono ?_
 rintro e w2 ⟨rfl,h1,h2⟩
 have H1:=Lib.hid h1
 have H2:=Lib.hid h2
 clear ht h1 h2
 go_wp2
 go_ret
 exact ⟨rfl,H1.out,H2.out⟩
end
theorem uF_off {r:Rn} {i:Nat} (h:r.L.length≤i):r.at_ i=Pl.no:=by
 unfold Rn.at_
 rw [List.getElem?_eq_none h]
 rfl
theorem all_pinned {r:Rn} (h64:r.L.length≤64) (hu: ∀j,j<r.L.length→(r.at_ j).used=true):(((sN r.pF:Nat):Int)==((sN r.uF:Nat):Int))=r.allPinned:=by
 rw [Bool.eq_iff_iff]
 have hget: ∀j,(hj:j<r.L.length)→r.at_ j=r.L[j]:=fun j hj=>by
   unfold Rn.at_
   rw [List.getElem?_eq_getElem hj]
   rfl
 constructor
 · intro h
   have h:sN r.pF=sN r.uF:=by have:=eq_of_beq h;omega
   unfold Rn.allPinned
   rw [List.all_eq_true]
   intro p hp
   obtain ⟨j,hj⟩:=List.getElem?_of_mem hp
   have hlt:=(List.getElem?_eq_some_iff.1 hj).1
   have e:=sN_inj h (i:=j) (by omega)
   unfold Rn.pF Rn.uF at e
   rw [hu j hlt] at e
   have:r.at_ j=p:=by
     unfold Rn.at_
     rw [hj]
     rfl
   rw [←this]
   exact e
 · intro h
   have:sN r.pF=sN r.uF:=sN_congr fun i _=>by
     unfold Rn.pF Rn.uF
     by_cases hi:i<r.L.length
     · rw [hu i hi,hget i hi]
       unfold Rn.allPinned at h
       exact List.all_eq_true.1 h _ (List.getElem_mem hi)
     · rw [uF_off (by omega)]
       rfl
   rw [this]
   simp
theorem unmark_cells (r:Rn) {i:Nat} (hi:i<r.L.length):rgC (r.put i {r.at_ i with marked:=false})=(rgC r).setIfInBounds 3 (.int .u64 (sN (setB r.mF i false):Nat)):=by
 have e1:setB r.uF i (r.at_ i).used=r.uF:=setB_self r.uF i
 have e2:setB r.pF i (r.at_ i).pinned=r.pF:=setB_self r.pF i
 unfold rgC
 rw [put_uF hi,put_pF hi,put_mF hi,put_len]
 simp only
 rw [e1,e2]
 rfl
def NPost (w:World) (b:Nat) (x:Rn×Int×Nat) (e:Ending) (w':World):Prop:=e= .returned (.tuple #[.int .i64 x.2.1, .int .i64 (x.2.2:Nat)])∧RgAt w' b x.1∧Mod (fun x=>x=b) w w'
set_option maxRecDepth 20000 in
set_option maxHeartbeats 4000000 in
theorem knext_any {w:World} {b:Nat} {r:Rn} (h:RgAt w b r):Calls Tryz.prog 63 #[.pointer (some ⟨b,0,none⟩)] w fun e w'=>NPost w b r.next e w':=by
 have hok:=kok_any h
 have h64:=h.hi
 have hn1:=h.lo
 have c0:=h.c0
 have c1:=h.c1
 have hh:=fun w i (hi:i<64)=>khas_any w r.uF i hi
 have H:=Lib.hid h
 have HH:=Lib.hid hh
 have H64:=Lib.hid h64
 clear h hh
 obtain ⟨n,hn⟩: ∃n,r.L.length=n:=⟨_,rfl⟩
 rw [hn] at c0 h64 hn1
 have HN:=Lib.hid hn
 clear hn
 go_enter Tryz.func63,Tryz.ntmps63
 go_wp2_with (first
   |(go_at_call 97;refine hok.mono ?_;rintro e wt ⟨rfl,hw⟩;obtain rfl:=hw.symm;clear hw)
   |fail)
 go_loop [13] (fun t=> ∃k:Nat,k≤n∧t= .int .i64 k∧ ∀j,j<k→(r.at_ j).used=true) (fun t=>n-(intOf t).toNat)
 case atStart=>exact ⟨0,Nat.zero_le _,rfl,fun j hj=>absurd hj (Nat.not_lt_zero j)⟩
 case round=>
   obtain ⟨k,hk,rfl,hu⟩:=hrel
   have HU:=Lib.hid hu
   clear hu
   by_cases hkn:k<n
   · have hks:=HH.out w k (by omega)
     obtain ⟨u,hue⟩: ∃u,r.uF k=u:=⟨_,rfl⟩
     rw [hue] at hks
     have HUE:=Lib.hid hue
     clear hue
     cases u with
     |false=>
       go_wp2_with (first
         |(go_at_call 87;refine hks.mono ?_;rintro e wt ⟨rfl,hw⟩;obtain rfl:=hw.symm;clear hw)
         |fail)
       go_ret2
       have hf:r.next=(r,(k:Int),0):=by
         unfold Rn.next
         rw [free_some (by rw [HN.out];exact hkn) HUE.out HU.out]
       rw [hf]
       exact ⟨rfl,H.out,Mod.refl _ _⟩
     |true=>
       go_wp2_with (first
         |(go_at_call 87;refine hks.mono ?_;rintro e wt ⟨rfl,hw⟩;obtain rfl:=hw.symm;clear hw)
         |fail)
       go_round
       case rel=>exact ⟨k+1,by omega,by go_num,fun j hj=>by
         by_cases hjk:j<k
         · exact HU.out j hjk
         · obtain rfl:j=k:=by omega
           exact HUE.out⟩
       case measure=>simp [intOf];omega
   · obtain rfl:k=n:=by omega
     have hall:=all_pinned H64.out (fun j hj=>HU.out j (by rw [HN.out] at hj;exact hj))
     have hfn:=free_none (r:=r) (fun j hj=>HU.out j (by rw [HN.out] at hj;exact hj))
     have HFN:=Lib.hid hfn
     have hS:w.drew.cell? ⟨b,2,none⟩=some (.int .u64 (sN r.pF:Nat))∧w.drew.cell? ⟨b,1,none⟩=some (.int .u64 (sN r.uF:Nat)):=⟨H.out.c2,H.out.c1⟩
     clear hfn hkn hk
     obtain ⟨q,hq⟩: ∃q,r.allPinned=q:=⟨_,rfl⟩
     rw [hq] at hall
     have HQ:=Lib.hid hq
     clear hq
     generalize sN r.pF=sp at*
     generalize sN r.uF=su at*
     go_upto_region 9 with fail
     refine wp_region_x (fun w'=>w'.cell? ⟨b,2,none⟩=some (.int .u64 (sp:Nat))∧w'.cell? ⟨b,1,none⟩=some (.int .u64 (su:Nat))) [(0,1),(1,1),(2,1),(3,0),(4,1),(5,1),(6,1),(7,0),(8,1)] (by kernel_rfl) (by kernel_rfl) (by intro d v c a w h;cases d<;>exact h) ?_
     iterate 3 (refine x_take rfl (fun K hK=> ?_);go_simp;refine hK _ ?_;clear hK K)
     refine x_read rfl hS (fun w' h=>exec_load1 ⟨⟨_,Tryz.underlying143,rfl⟩⟩ rfl h.1) ?_
     iterate 3 (refine x_take rfl (fun K hK=> ?_);go_simp;refine hK _ ?_;clear hK K)
     refine x_read rfl hS (fun w' h=>exec_load1 ⟨⟨_,Tryz.underlying143,rfl⟩⟩ rfl h.2) ?_
     iterate 1 (refine x_take rfl (fun K hK=> ?_);go_simp;refine hK _ ?_;clear hK K)
     refine x_nil ?_
     clear hS c0 c1
     have HD:=Lib.hid (H.out.below (Below.refl _ w).drew)
     cases q with
     |true=>
       go_wp2
       go_ret2
       have hf:r.next=(r, -1,8):=by
         unfold Rn.next
         rw [HFN.out]
         simp only
         rw [HQ.out,if_pos rfl]
       rw [hf]
       exact ⟨rfl,HD.out,(Mod.refl _ w).drew⟩
     |false=>
       obtain ⟨i9,hi9⟩:=scan_some (by rw [HN.out];exact (HN.out ▸ H.out.hand)) HQ.out
       have HI9:=Lib.hid hi9
       clear hi9 hall
       go_wp2_with fail
       go_loopg [] (2*k) (fun gk wi=> ∃j:Nat,j+gk=2*k∧(r.scan j).2=none∧RgAt wi b (r.scan j).1∧Mod (fun x=>x=b) w wi)
       case atStart=>exact ⟨0,by omega,rfl,HD.out,(Mod.refl _ w).drew⟩
       case round=>
         obtain ⟨j,hj,hjn,hR,hm⟩:=hrel
         have hsn:=scan_snoc j r hjn
         have hlen:(r.scan j).1.L.length=k:=by rw [scan_len,HN.out]
         have hjlt:j<2*k:=by
           by_cases hc:j<2*k
           · exact hc
           · exfalso
             have hjk:j=2*r.L.length:=by rw [HN.out];omega
             rw [hjk,HI9.out] at hjn
             cases hjn
         obtain ⟨rk,hrk⟩: ∃rk,(r.scan j).1=rk:=⟨_,rfl⟩
         rw [hrk] at hR hsn hlen
         have hstop: ∀i,rk.step.2=some i→r.next=(rk.step.1,(i:Int),0):=fun i hi=>by
           have e:=scan_stop (j:=j+1) (m:=2*r.L.length) (r:=r) (i:=i) (by rw [HN.out];omega) (by rw [hsn];exact hi)
           unfold Rn.next
           rw [HFN.out]
           simp only
           rw [HQ.out,if_neg (by decide),e,hsn]
           rcases hst:rk.step with ⟨r',_|q⟩
           · rw [hst] at hi
             cases hi
           · rw [hst] at hi
             cases hi
             rfl
         have hgo:rk.step.2=none→(r.scan (j+1)).2=none∧(r.scan (j+1)).1=rk.step.1:=fun hi=>by
           rw [hsn]
           exact ⟨hi,rfl⟩
         have hand:=hR.hand
         have cc4:=hR.c4
         have cc0:=hR.c0
         have f4:wr.frozen? ⟨b,4,none⟩=false:=free_of hR.blk
         have hmod:((rk.hand:Int)+1) %(k:Int)=(((rk.hand+1) %k:Nat):Int):=by rw [Int.natCast_emod];rfl
         have hlt2:(rk.hand+1) %k<k:=Nat.mod_lt _ (by omega)
         have hb1:(wr.setCell ⟨b,4,none⟩ (.int .i64 (((rk.hand+1) %k:Nat):Int))).heap[b]?=some (.cells (rgC ⟨rk.L,(rk.hand+1) %k⟩) 145 (0,0)):=by
           rw [heap_setCell_at hR.blk]
           rfl
         have hm1:=hm.setCell ⟨b,4,none⟩ (.int .i64 (((rk.hand+1) %k:Nat):Int)) (fun _=>rfl)
         have hR1:RgAt (wr.setCell ⟨b,4,none⟩ (.int .i64 (((rk.hand+1) %k:Nat):Int))) b ⟨rk.L,(rk.hand+1) %k⟩:=⟨hb1,hR.lo,hR.hi,by show (rk.hand+1) %k<rk.L.length;rw [hlen];exact hlt2⟩
         rw [hlen] at cc0 hand
         have hi64:rk.hand<64:=by have:=hR.hi;omega
         have hp:=fun w=>khas_any w (⟨rk.L,(rk.hand+1) %k⟩:Rn).pF rk.hand hi64
         have hq:=fun w=>khas_any w (⟨rk.L,(rk.hand+1) %k⟩:Rn).mF rk.hand hi64
         have hw:=fun w=>kwith_any w (⟨rk.L,(rk.hand+1) %k⟩:Rn).mF rk.hand hi64 false
         have hpe:(⟨rk.L,(rk.hand+1) %k⟩:Rn).pF rk.hand=(rk.at_ rk.hand).pinned:=rfl
         have hme:(⟨rk.L,(rk.hand+1) %k⟩:Rn).mF rk.hand=(rk.at_ rk.hand).marked:=rfl
         rw [hpe] at hp
         rw [hme] at hq
         have e2:=hR1.c2
         have e3:=hR1.c3
         have HR1:=Lib.hid hR1
         have HM1:=Lib.hid hm1
         have HGO:=Lib.hid hgo
         have HST:=Lib.hid hstop
         have HBB:=Lib.hid hb1
         have HLEN:=Lib.hid hlen
         clear hR hm hsn hrk hjn hR1 hm1 hgo hstop hb1 hlen hpe hme
         have f3:(wr.setCell ⟨b,4,none⟩ (.int .i64 (((rk.hand+1) %k:Nat):Int))).frozen? ⟨b,3,none⟩=false:=free_of HBB.out
         have hun:=unmark_cells ⟨rk.L,(rk.hand+1) %k⟩ (i:=rk.hand) (by show _<rk.L.length;rw [HLEN.out];exact hand)
         have hstp:((rk.at_ rk.hand).pinned=true→rk.step=(⟨rk.L,(rk.hand+1) %k⟩,none))∧((rk.at_ rk.hand).pinned=false→(rk.at_ rk.hand).marked=true→rk.step=((⟨rk.L,(rk.hand+1) %k⟩:Rn).put rk.hand {rk.at_ rk.hand with marked:=false},none))∧
             ((rk.at_ rk.hand).pinned=false→(rk.at_ rk.hand).marked=false→rk.step=(⟨rk.L,(rk.hand+1) %k⟩,some rk.hand)):=by
           unfold Rn.step
           rw [HLEN.out]
           refine ⟨fun h=>by rw [if_pos h],fun h h2=>by rw [if_neg (by rw [h];decide),if_pos h2];rfl,fun h h2=>by rw [if_neg (by rw [h];decide),if_neg (by rw [h2];decide)]⟩
         have HSTP:=Lib.hid hstp
         have HUN:=Lib.hid hun
         clear hstp hun
         have hae:(⟨rk.L,(rk.hand+1) %k⟩:Rn).at_ rk.hand=rk.at_ rk.hand:=rfl
         rw [hae] at HUN
         clear hae
         generalize (rk.hand+1) %k=i2 at*
         obtain ⟨pp,hpp⟩: ∃pp,(rk.at_ rk.hand).pinned=pp:=⟨_,rfl⟩
         obtain ⟨mm,hmm⟩: ∃mm,(rk.at_ rk.hand).marked=mm:=⟨_,rfl⟩
         rw [hpp] at hp
         rw [hmm] at hq
         have HPP:=Lib.hid hpp
         have HMM:=Lib.hid hmm
         clear hpp hmm
         generalize hgp:sN (⟨rk.L,i2⟩:Rn).pF=sp2 at*
         generalize hgm:sN (⟨rk.L,i2⟩:Rn).mF=sm2 at*
         generalize hgw:sN (setB (⟨rk.L,i2⟩:Rn).mF rk.hand false)=sw2 at*
         generalize hgh:rk.hand=hd at*
         clear hgp hgm hgw hgh
         cases pp with
         |true=>
           have hst:=HSTP.out.1 HPP.out
           have hg:=HGO.out (by rw [hst])
           rw [hst] at hg
           have HG:=Lib.hid hg
           clear hst hg
           go_wp2_with (first
             |(go_at_call 87;refine (hp _).mono ?_;rintro e wt ⟨rfl,hw⟩;obtain rfl:=hw.symm;clear hw)
             |fail)
           go_roundg (gk-1)
           case rel=>exact ⟨j+1,by omega,HG.out.1,by rw [HG.out.2];exact HR1.out,HM1.out⟩
           case measure=>omega
         |false=>cases mm with
           |true=>
             have hst:=HSTP.out.2.1 HPP.out HMM.out
             have hg:=HGO.out (by rw [hst])
             rw [hst] at hg
             have HG:=Lib.hid hg
             clear hst hg
             go_wp2_with (first
               |(go_at_call 87;refine (hp _).mono ?_;rintro e wt ⟨rfl,hw⟩;obtain rfl:=hw.symm;clear hw)
               |(go_at_call 87;refine (hq _).mono ?_;rintro e wt ⟨rfl,hw⟩;obtain rfl:=hw.symm;clear hw)
               |(go_at_call 98;refine (hw _).mono ?_;rintro e wt ⟨rfl,hw'⟩;obtain rfl:=hw'.symm;clear hw')
               |fail)
             go_roundg (gk-1)
             case rel=>exact ⟨j+1,by omega,HG.out.1,by
               rw [HG.out.2]
               refine ⟨?_,by rw [put_len];exact HR1.out.lo,by rw [put_len];exact HR1.out.hi,by rw [put_len];exact HR1.out.hand⟩
               rw [HUN.out]
               exact heap_setCell_at HBB.out,HM1.out.setCell _ _ (fun _=>rfl)⟩
             case measure=>omega
           |false=>
             have hst:=HSTP.out.2.2 HPP.out HMM.out
             have hg:=HST.out hd (by rw [hst])
             rw [hst] at hg
             have HG:=Lib.hid hg
             clear hst hg
             go_wp2_with (first
               |(go_at_call 87;refine (hp _).mono ?_;rintro e wt ⟨rfl,hw⟩;obtain rfl:=hw.symm;clear hw)
               |(go_at_call 87;refine (hq _).mono ?_;rintro e wt ⟨rfl,hw⟩;obtain rfl:=hw.symm;clear hw)
               |fail)
             go_ret2
             rw [HG.out]
             exact ⟨rfl,HR1.out,HM1.out⟩
end Go.Proofs.YtldimgchpgoggaaGreat
namespace Go.Proofs.YtldimgchpgoggaaGreat
open Go.RowKit
theorem Tryz.own:ownKnob Tryz.prog.godebug=none:=by kernel_rfl
theorem Tryz.laidOut:laidOutB Tryz.prog=true:=by kernel_rfl
end Go.Proofs.YtldimgchpgoggaaGreat
namespace Go.Proofs.YtldimgchpgoggaaGreat
open Go.RowKit Go.Tn Go.Tn.Bt Go.Tn.Lp Go.Tn.Dk
theorem newd_get {k i:Nat} (hi:i<k):(newD k).get i=zeroS:=by
 unfold Dsk.get newD seenQ
 simp [hi]
set_option maxRecDepth 100000 in
theorem ends_zero:endsB zeroS=(0,0):=by decide+kernel
set_option maxRecDepth 100000 in
theorem unseal_zero0:(unsealB zeroS).map (fun p=>(p.ep,p.ct,p.fi,p.la,p.da))=some (0,0,false,false, []):=by decide+kernel
theorem unseal_zero:unsealB zeroS=some ⟨0,0,false,false, []⟩:=by
 have h:=unseal_zero0
 cases hu:unsealB zeroS with
 |none=>rw [hu] at h;cases h
 |some p=>
   rw [hu] at h
   obtain ⟨a,b,c,d,e⟩:=p
   simp at h
   obtain ⟨rfl,rfl,rfl,rfl,rfl⟩:=h
   rfl
theorem newest_zero (k:Nat): ∀j,j≤k→newestB (newD k) j=0
 |0,_=>rfl
 |j+1,h=>by
   unfold newestB
   rw [newest_zero k j (by omega),newd_get (by omega),ends_zero]
   rfl
theorem hd_zero (i:Nat):hdB zeroS i=none:=by
 unfold hdB
 rw [unseal_zero]
 simp [headP]
theorem head_zero {k a:Nat} (h:a+1<k):(newD k).head a=none:=by
 unfold Dsk.head
 rw [newd_get (by omega),newd_get h,hd_zero,hd_zero]
 rfl
theorem rec_zero {k n ep g f:Nat} (hn:2≤n) (hk:n+3≤k):(log0 n ep g 0).recordB (newD k) f= []:=by
 have hp:pieceB (newD k) n 0=some ⟨0,0,false,false, []⟩:=by
   unfold pieceB
   rw [Nat.zero_mod,newd_get (by omega),unseal_zero]
   rfl
 unfold Lg.recordB
 have hfr:(log0 n ep g 0).free=(n-1)+1:=by
   show n-(0-0)=_
   omega
 rw [hfr]
 show recGo (newD k) n 0 f (n-1+1) []= []
 unfold recGo
 rw [show 0+([]:List Pc).length=0 from rfl,hp]
 simp
theorem open_new {k n:Nat} (hn:2≤n) (hk:n+3≤k):openB (newD k) n=some (log0 n 1 0 0):=by
 unfold openB
 rw [newest_zero k (2+n) (by omega),if_neg (by omega),head_zero (by omega)]
 simp only [Option.getD_none,Option.isSome_none]
 unfold replayL
 have hh:hd0.gen=0∧hd0.tail=0:=⟨rfl,rfl⟩
 rw [hh.1,hh.2,if_neg (by decide)]
 unfold replayGo
 rw [rec_zero hn hk]
 rfl
end Go.Proofs.YtldimgchpgoggaaGreat
