import Derived.Test.YtjdbbnhnbdocbaaGreatMgGon22
import Derived.Test.YtjdbbnhnbdocbaaGreatMgGon6
import Derived.Test.YtjdbbnhnbdocbaaGreatMgGon7
import Derived.Test.YtjdbbnhnbdocbaaGreatMgGon5
import Derived.Test.YtjdbbnhnbdocbaaGreatMgGon15
import Derived.Test.YtjdbbnhnbdocbaaGreatRows
import Derived.Test.YtjdbbnhnbdocbaaGreatMgGon8
import Derived.Test.YtjdbbnhnbdocbaaGreatMgGon4
import Derived.ChangeKeysEq
namespace Go.Proofs.YtjdbbnhnbdocbaaGreat
open Go.RowKit Go.Tn Go.Tn.Bt Go.Tn.Ino Go.Tn.Dr Go.Tn.Names
def enEn (e:Ent):List Value:= [.string e.name, .int .i64 (e.ino:Nat), .int .i64 (e.gen:Nat), .int .i64 (e.kind:Nat)]
def entC (e:Ent):Array Value:=(enEn e).toArray
theorem aggEn (e:Ent):AggT Tryz.prog 64 (entC e).size:=⟨⟨_,Tryz.underlying64,rfl⟩,by kernel_rfl⟩
theorem oneEn (e:Ent):(entC e).all (·.oneCell')=true:=by simp [entC,enEn,Value.oneCell']
theorem elEn:ElT Tryz.prog 56 64 4 enEn:=⟨Tryz.underlying56,by kernel_rfl,by decide,fun _=>rfl,fun x u hu=>by
 unfold enEn at hu
 simp only [List.mem_cons,List.not_mem_nil,or_false] at hu
 rcases hu with rfl|rfl|rfl|rfl<;>rfl⟩
structure Ent.ok (e:Ent):Prop where
 name:isName (bs e.name)=true
 i1:1≤e.ino
 i40:e.ino≤40
 gen:e.gen≤2147483647
 kind:e.kind=1∨e.kind=2
theorem isName_len {l:List UInt8} (h:isName l=true):0<l.length∧l.length<17:=by
 unfold isName at h
 simp only [Bool.and_eq_true,decide_eq_true_eq] at h
 exact ⟨h.1.1.1.2,h.1.1.2⟩
theorem Ent.ok.fits {e:Ent} (h:Ent.ok e):e.fits:=by
 have:=isName_len h.name
 rw [bs_len] at this
 exact ⟨by omega,by have:=h.i40;omega,by have:=h.gen;omega,by rcases h.kind with h|h<;>omega⟩
set_option maxRecDepth 20000 in
theorem eright_yes (w:World) (e:Ent) (h:Ent.ok e):Calls Tryz.prog 181 #[.agg (entC e)] w fun e' w'=>e'= .returned (.bool true)∧Below w.heap.size w w':=by
 obtain ⟨w1,hw1⟩: ∃w1,w.alloc (.cells (entC e) 64)=w1:=⟨_,rfl⟩
 have hb1:Below w.heap.size w w1:=by rw [←hw1];exact (Below.refl _ _).alloc (Nat.le_refl _) _
 have hX:w1.heap[w.heap.size]?=some (.cells (entC e) 64 (0,0)):=by rw [←hw1];exact heap_alloc_at
 obtain ⟨s,n,g,k⟩:=e
 have hnm:errOf (bs s)=0:=errOf_yes h.name
 have hck:=ncheck_any w1 s
 rw [hnm] at hck
 have hn1:(1:Int)≤(n:Int):=by have:=h.i1;simp only at this;omega
 have hn2:(n:Int)≤40:=by have:=h.i40;simp only at this;omega
 have hg0:(0:Int)≤(g:Int):=by omega
 have hg1:(g:Int)≤2147483647:=by have:=h.gen;simp only at this;omega
 have q0:w1.cell? ⟨w.heap.size,0,none⟩=some (.string s):=cell_of hX rfl
 have hlt:=lt_of_block hX
 have HX:=Lib.hid hX
 have HB1:=Lib.hid hb1
 have HLT:=Lib.hid hlt
 have hk:=h.kind
 simp only at hk
 clear hX hb1 hlt h hnm
 have hkk:(((k:Int)==1)=true)∨(((k:Int)==1)=false∧((k:Int)==2)=true):=by
  rcases hk with rfl|rfl
  ·exact .inl rfl
  ·exact .inr ⟨rfl,rfl⟩
 clear hk
 rcases hkk with hk1|⟨hk1,hk2⟩
 all_goals
  go_enter Tryz.func181,Tryz.ntmps181
  go_upto_region 1 with fail
  simp only [hw1] at*
  clear hw1
  go_wp2_with (first
   | (go_at_call 72;refine hck.mono ?_;rintro e2 w2 ⟨rfl,hb2⟩;have hX2:=(hb2.block _ HLT.out).trans HX.out;have p1:w2.cell? ⟨w.heap.size,1,none⟩=some (.int .i64 (n:Nat)):=cell_of hX2 rfl;have p2:w2.cell? ⟨w.heap.size,2,none⟩=some (.int .i64 (g:Nat)):=cell_of hX2 rfl;have p3:w2.cell? ⟨w.heap.size,3,none⟩=some (.int .i64 (k:Nat)):=cell_of hX2 rfl;have HB2:=Lib.hid (HB1.out.trans (hb2.mono HB1.out.size));clear hb2 hX2)
   | fail)
  go_ret
  exact ⟨rfl,HB2.out⟩
section
variable {w:World} {a:Nat} {v:Value} {L:List Bool}
theorem WrAt.own_lt' (h:WrAt w a v L): ∀r,r=a∨v.ownBlock=some r→r<w.heap.size:=fun r hr=>hr.elim (fun e=>e ▸ lt_of_block h.blk) fun e=>h.bs.lt e
theorem nameB_get (s:ByteArray) {i:Nat} (h:i<16):(nameB s)[i]?=some (((bsz s)[i]?).getD 0).toNat:=by
 unfold nameB
 rw [List.getElem?_map,List.getElem?_range h]
 rfl
set_option maxRecDepth 20000 in
set_option maxHeartbeats 8000000 in
theorem eput_any (h:WrAt w a v L) (e:Ent) (he:e.fits) (hL:L.length≤300000):Calls Tryz.prog 182 #[.pointer (some ⟨a,0,none⟩), .agg (entC e)] w
  fun e' w'=>e'= .returned (.tuple #[])∧ ∃v',WrAt w' a v' (L++e.bits)∧Below a w w'∧WMod a v w v' w':=by
 obtain ⟨w1,hw1⟩: ∃w1,w.alloc (.cells (entC e) 64)=w1:=⟨_,rfl⟩
 have hb1:Below w.heap.size w w1:=by rw [←hw1];exact (Below.refl _ _).alloc (Nat.le_refl _) _
 have hX:w1.heap[w.heap.size]?=some (.cells (entC e) 64 (0,0)):=by rw [←hw1];exact heap_alloc_at
 have hm1:Mod (fun b=>b=a∨v.ownBlock=some b) w w1:=by rw [←hw1];exact (Mod.refl _ w).alloc _
 obtain ⟨s,n,g,k⟩:=e
 have hsz:s.size≤16:=he.len
 have hW1:=h.below hb1
 have hown: ∀r,r=a∨v.ownBlock=some r→r<w.heap.size:=h.own_lt'
 obtain ⟨x0,hx0⟩: ∃x0,w.heap.size=x0:=⟨_,rfl⟩
 have q0:w1.cell? ⟨x0,0,none⟩=some (.string s):=by rw [←hx0];exact cell_of hX rfl
 have q1:w1.cell? ⟨x0,1,none⟩=some (.int .i64 (n:Nat)):=by rw [←hx0];exact cell_of hX rfl
 have q2:w1.cell? ⟨x0,2,none⟩=some (.int .i64 (g:Nat)):=by rw [←hx0];exact cell_of hX rfl
 have q3:w1.cell? ⟨x0,3,none⟩=some (.int .i64 (k:Nat)):=by rw [←hx0];exact cell_of hX rfl
 have hS:=And.intro q0 (And.intro q1 (And.intro q2 q3))
 have c1:IntKind.u64.wrap ((s.size:Nat):Int)=((s.size:Nat):Int):=by rw [Bt.wrap64,Nat.mod_eq_of_lt (by omega)]
 have c2:IntKind.u64.wrap (n:Int)=(n:Int):=by rw [Bt.wrap64,Nat.mod_eq_of_lt (by have:=he.ino;simp only at this;omega)]
 have c3:IntKind.u64.wrap (g:Int)=(g:Int):=by rw [Bt.wrap64,Nat.mod_eq_of_lt (by have:=he.gen;simp only at this;omega)]
 have c4:IntKind.u64.wrap (k:Int)=(k:Int):=by rw [Bt.wrap64,Nat.mod_eq_of_lt (by have:=he.kind;simp only at this;omega)]
 rw [hx0] at hown
 have HE:=Lib.hid he
 have HM1:=Lib.hid hm1
 have HOWN:=Lib.hid hown
 have HW1:=Lib.hid hW1
 have HX0:=Lib.hid hx0
 have HSZ:=Lib.hid hsz
 have HB1:=Lib.hid hb1
 clear h hb1 hX hm1 hW1 hown he q0 q1 q2 q3 hsz
 go_enter Tryz.func182,Tryz.ntmps182
 go_upto_region 1 with fail
 simp only [hw1,hx0] at*
 clear hw1
 have hne:¬ (x0=a∨v.ownBlock=some x0):=fun e=>absurd (HOWN.out x0 e) (Nat.lt_irrefl _)
 have cel: ∀{wb:World} {vb:Value},WMod a v w1.drew vb wb→wb.cell? ⟨x0,0,none⟩=some (.string s)∧wb.cell? ⟨x0,1,none⟩=some (.int .i64 (n:Nat))∧wb.cell? ⟨x0,2,none⟩=some (.int .i64 (g:Nat))∧wb.cell? ⟨x0,3,none⟩=some (.int .i64 (k:Nat)):=fun hm=>⟨cell_mod (w:=w1.drew) hS.1 hm.mod hne,cell_mod (w:=w1.drew) hS.2.1 hm.mod hne,cell_mod (w:=w1.drew) hS.2.2.1 hm.mod hne,cell_mod (w:=w1.drew) hS.2.2.2 hm.mod hne⟩
 have CEL:Hid (∀{wb:World} {vb:Value},WMod a v w1.drew vb wb→wb.cell? ⟨x0,0,none⟩=some (.string s)∧wb.cell? ⟨x0,1,none⟩=some (.int .i64 (n:Nat))∧wb.cell? ⟨x0,2,none⟩=some (.int .i64 (g:Nat))∧wb.cell? ⟨x0,3,none⟩=some (.int .i64 (k:Nat))):=Lib.hid cel
 have hS:w1.drew.cell? ⟨x0,0,none⟩=some (.string s)∧w1.drew.cell? ⟨x0,1,none⟩=some (.int .i64 (n:Nat))∧w1.drew.cell? ⟨x0,2,none⟩=some (.int .i64 (g:Nat))∧w1.drew.cell? ⟨x0,3,none⟩=some (.int .i64 (k:Nat)):=hS
 have HC:=Lib.hid (And.intro c1 (And.intro c2 (And.intro c3 c4)))
 clear hne cel
 refine wp_region_x (fun w'=>w'.cell? ⟨x0,0,none⟩=some (.string s)∧w'.cell? ⟨x0,1,none⟩=some (.int .i64 (n:Nat))∧w'.cell? ⟨x0,2,none⟩=some (.int .i64 (g:Nat))∧w'.cell? ⟨x0,3,none⟩=some (.int .i64 (k:Nat))) [(0,1),(1,1),(2,0),(3,1),(4,1),(6,1),(7,1),(8,0),(9,1),(11,1),(12,1),(13,0),(14,1),(16,1),(17,0),(18,1),(5,2),(10,2),(15,2),(19,2)] (by kernel_rfl) (by kernel_rfl) (by intro d v c a w h;cases d<;>exact h) ?_
 iterate 2 (refine x_take rfl (fun K hK=> ?_);go_simp;refine hK _ ?_;clear hK K)
 refine x_read rfl hS (fun w' h=>exec_load1 ⟨⟨_,Tryz.underlying9,rfl⟩⟩ rfl h.1) ?_
 iterate 4 (refine x_take rfl (fun K hK=> ?_);go_simp;refine hK _ ?_;clear hK K)
 refine x_read rfl hS (fun w' h=>exec_load1 ⟨⟨_,Tryz.underlying3,rfl⟩⟩ rfl h.2.1) ?_
 iterate 3 (refine x_take rfl (fun K hK=> ?_);go_simp;refine hK _ ?_;clear hK K)
 refine x_read rfl hS (fun w' h=>exec_load1 ⟨⟨_,Tryz.underlying3,rfl⟩⟩ rfl h.2.2.1) ?_
 iterate 2 (refine x_take rfl (fun K hK=> ?_);go_simp;refine hK _ ?_;clear hK K)
 refine x_read rfl hS (fun w' h=>exec_load1 ⟨⟨_,Tryz.underlying3,rfl⟩⟩ rfl h.2.2.2) ?_
 iterate 1 (refine x_take rfl (fun K hK=> ?_);go_simp;refine hK _ ?_;clear hK K)
 refine x_show' rfl (fun K hK=> ?_)
 go_simp
 refine (put_bits _ a v L (HW1.out.below (Below.refl _ _).drew) s.size 5 (by omega) (by decide) (by have:=HSZ.out;omega)).mono ?_
 rintro e w2 ⟨rfl,v2,hW2,hb2,hm2⟩
 refine hK _ _ (CEL.out hm2) ?_
 clear hK K
 refine x_show' rfl (fun K hK=> ?_)
 go_simp
 refine (put_bits w2 a v2 _ hW2 n 6 (by simp only [List.length_append,bitsN_len];omega) (by decide) HE.out.ino).mono ?_
 rintro e w3 ⟨rfl,v3,hW3,hb3,hm3⟩
 have hm3:=hm2.trans hm3
 refine hK _ _ (CEL.out hm3) ?_
 clear hK K
 refine x_show' rfl (fun K hK=> ?_)
 go_simp
 refine (put_bits w3 a v3 _ hW3 g 31 (by simp only [List.length_append,bitsN_len];omega) (by decide) HE.out.gen).mono ?_
 rintro e w4 ⟨rfl,v4,hW4,hb4,hm4⟩
 have hm4:=hm3.trans hm4
 refine hK _ _ (CEL.out hm4) ?_
 clear hK K
 refine x_show' rfl (fun K hK=> ?_)
 go_simp
 refine (put_bits w4 a v4 _ hW4 k 2 (by simp only [List.length_append,bitsN_len];omega) (by decide) HE.out.kind).mono ?_
 rintro e w5 ⟨rfl,v5,hW5,hb5,hm5⟩
 have hm5:=hm4.trans hm5
 refine hK _ _ (CEL.out hm5) ?_
 clear hK K
 refine x_nil ?_
 have hla:a<w1.heap.size:=lt_of_block HW1.out.blk
 have HW5:Hid (∃u,WrAt w5 a u (L++(bitsN s.size 5++bitsN n 6++bitsN g 31++bitsN k 2++((nameB s).take 0).flatMap (bitsN · 8)))∧Below a w1 w5∧WMod a v w1.drew u w5):=Lib.hid ⟨v5,by simpa using hW5,((Below.refl a w1).drew).trans (hb2.trans (hb3.trans (hb4.trans hb5))),hm5⟩
 clear hW2 hW3 hW4 hW5 hb2 hb3 hb4 hb5 hm2 hm3 hm4 hm5 hS c1 c2 c3 c4
 have hsz16:(s.size:Int)≤16:=by have:=HSZ.out;omega
 go_wp2
 go_loopw [26] (fun iv wi=> ∃i:Nat,i≤16∧iv= .int .i64 i∧ ∃u,WrAt wi a u (L++(bitsN s.size 5++bitsN n 6++bitsN g 31++bitsN k 2++((nameB s).take i).flatMap (bitsN · 8)))∧Below a w1 wi∧WMod a v w1.drew u wi) (fun iv _=>16-(intOf iv).toNat)
 case atStart=>exact ⟨0,Nat.zero_le _,rfl,HW5.out⟩
 case round=>
  obtain ⟨i,hi,rfl,u,hW,hb,hm⟩:=hrel
  have HB:=Lib.hid hb
  have HM:=Lib.hid hm
  by_cases hi16:i<16
  ·have hi16':(i:Int)<16:=by omega
   have q0:=(CEL.out hm).1
   obtain ⟨c,hc⟩: ∃c:Nat,(((bsz s)[i]?).getD 0).toNat=c:=⟨_,rfl⟩
   have hc8:c<256:=by rw [←hc];exact UInt8.toNat_lt _
   have htk:(nameB s).take (i+1)=(nameB s).take i++ [c]:=by
    rw [List.take_add_one,nameB_get s hi16,hc]
    rfl
   have hp:=put_bits wr a u _ hW c 8 (by simp only [List.length_append,bitsN_len,bflat_len,List.length_take,nameB_len];omega) (by decide) hc8
   have hnx:L++(bitsN s.size 5++bitsN n 6++bitsN g 31++bitsN k 2++((nameB s).take i).flatMap (bitsN · 8))++bitsN c 8=L++(bitsN s.size 5++bitsN n 6++bitsN g 31++bitsN k 2++((nameB s).take (i+1)).flatMap (bitsN · 8)):=by
    rw [htk]
    simp
   rw [hnx] at hp
   by_cases hs:i<s.size
   ·have hs':(i:Int)<(s.size:Int):=by omega
    have hcs:c=s[i].toNat:=by
     rw [←hc,show (bsz s)[i]?=some s[i] from bs_get s hs]
     rfl
    have hcw:IntKind.u64.wrap ((s[i].toNat:Nat):Int)=((s[i].toNat:Nat):Int):=by rw [Bt.wrap64,Nat.mod_eq_of_lt (by omega)]
    rw [hcs] at hp
    clear hW hb hm hc hc8 htk hnx hcs
    go_wp2_with fail
    refine hp.mono ?_
    rintro e w6 ⟨rfl,u6,hW6,hb6,hm6⟩
    have HX:Hid (WrAt w6 a u6 (L++(bitsN s.size 5++bitsN n 6++bitsN g 31++bitsN k 2++((nameB s).take (i+1)).flatMap (bitsN · 8)))∧Below a w1 w6∧WMod a v w1.drew u6 w6):=Lib.hid ⟨hW6,HB.out.trans hb6,HM.out.trans hm6⟩
    clear hp hW6 hb6 hm6 q0
    go_wp2
    go_roundw
    case rel=>exact ⟨i+1,by omega,by go_num,u6,HX.out⟩
    case measure=>simp [intOf];omega
   ·have hs':¬ (i:Int)<(s.size:Int):=by omega
    have hcs:c=0:=by
     rw [←hc,List.getElem?_eq_none (by rw [bsz_len];omega)]
     rfl
    rw [hcs,show ((0:Nat):Int)=0 from rfl] at hp
    clear hW hb hm hc hc8 htk hnx hcs
    go_wp2_with fail
    refine hp.mono ?_
    rintro e w6 ⟨rfl,u6,hW6,hb6,hm6⟩
    have HX:Hid (WrAt w6 a u6 (L++(bitsN s.size 5++bitsN n 6++bitsN g 31++bitsN k 2++((nameB s).take (i+1)).flatMap (bitsN · 8)))∧Below a w1 w6∧WMod a v w1.drew u6 w6):=Lib.hid ⟨hW6,HB.out.trans hb6,HM.out.trans hm6⟩
    clear hp hW6 hb6 hm6 q0
    go_wp2
    go_roundw
    case rel=>exact ⟨i+1,by omega,by go_num,u6,HX.out⟩
    case measure=>simp [intOf];omega
  ·obtain rfl:i=16:=by omega
   rw [List.take_of_length_le (by rw [nameB_len];exact Nat.le_refl _)] at hW
   have hb0:Below a w w1:=HB1.out.mono (by have:=HOWN.out a (.inl rfl);have:=HX0.out;omega)
   have HFIN:Hid (∃v',WrAt wr a v' (L++(Ent.mk s n g k).bits)∧Below a w wr∧WMod a v w v' wr):=Lib.hid ⟨u,hW,hb0.trans hb,⟨HM1.out.trans ((Mod.refl _ w1).drew.trans hm.mod (fun _ h=>h) fun _ _ h=>h) (fun _ h=>h) fun _ _ h=>h,by
    rcases hm.own with e|⟨r,e,hr⟩
    ·exact .inl e
    ·exact .inr ⟨r,e,Nat.le_trans HB1.out.size hr⟩⟩⟩
   clear hW hb hm
   go_wp2
   exact bodyPost_end (results_none rfl _ _ _) rfl ⟨rfl,HFIN.out⟩
end
end Go.Proofs.YtjdbbnhnbdocbaaGreat
namespace Go.Tn.Ino
open Go.RowKit Go.Tn.Bt
structure Ino where
 kind:Nat
 gen:Nat
 ver:Nat
 bl:List Nat
structure Ino.fits (x:Ino):Prop where
 kind:x.kind<4
 gen:x.gen<2147483648
 ver:x.ver<1099511627776
 len:x.bl.length=8
 bl: ∀p∈x.bl,p<4096
def Ino.free (g:Nat):Ino:=⟨0,g,0, [0,0,0,0,0,0,0,0]⟩
def Ino.right (x:Ino):Bool:=if x.kind=1∨x.kind=2 then true else if x.kind=0 then decide (x.ver=0)&&x.bl.all (· ==0) else false
def Ino.bits (x:Ino):List Bool:=bitsN x.kind 2++bitsN x.gen 31++bitsN x.ver 40++x.bl.flatMap (bitsN · 12)
def Ino.sec (x:Ino):List Nat:=sector x.bits
theorem bflat_len (k:Nat): ∀l:List Nat,(l.flatMap (bitsN · k)).length=k*l.length
 | []=>rfl
 | x::l=>by rw [List.flatMap_cons,List.length_append,bitsN_len,bflat_len k l,List.length_cons,Nat.mul_succ,Nat.add_comm]
theorem Ino.bits_len {x:Ino} (h:x.bl.length=8):x.bits.length=169:=by
 unfold Ino.bits
 rw [List.length_append,List.length_append,List.length_append,bitsN_len,bitsN_len,bitsN_len,bflat_len,h]
def inoAt (b:List Nat):Ino:=⟨natOf (((unpack b).drop 0).take 2),natOf (((unpack b).drop 2).take 31),natOf (((unpack b).drop 33).take 40),(List.range 8).map fun j=>natOf (((unpack b).drop (73+12*j)).take 12)⟩
def inoOf (b:List Nat):Option Ino:=if (inoAt b).right=true∧(inoAt b).sec=b then some (inoAt b) else none
theorem inoAt_fits (b:List Nat):(inoAt b).fits:=by
 have h: ∀(L:List Bool) (k:Nat),natOf (L.take k)<2 ^ k:=fun L k=>Nat.lt_of_lt_of_le (natOf_lt _) (Nat.pow_le_pow_right (by decide) (by rw [List.length_take];exact Nat.min_le_left _ _))
 refine ⟨h _ 2,h _ 31,h _ 40,by simp [inoAt],fun p hp=> ?_⟩
 unfold inoAt at hp
 obtain ⟨j, -,rfl⟩:=List.mem_map.1 hp
 exact h _ 12
end Go.Tn.Ino
namespace Go.Proofs.YtjdbbnhnbdocbaaGreat
open Go.RowKit Go.Tn Go.Tn.Bt Go.Tn.Ino
def inoL (x:Ino):List Value:= .int .i64 x.kind:: .int .i64 x.gen:: .int .u64 x.ver::x.bl.map fun p=> .int .i64 (p:Nat)
def inoC (x:Ino):Array Value:=(inoL x).toArray
def plC (bl:List Nat):Array Value:=(bl.map fun p=>Value.int .i64 (p:Nat)).toArray
theorem inoC_size {x:Ino} (h:x.bl.length=8):(inoC x).size=11:=by simp [inoC,inoL,h]
theorem inoC_0 (x:Ino):(inoC x)[0]?=some (.int .i64 x.kind):=rfl
theorem inoC_1 (x:Ino):(inoC x)[1]?=some (.int .i64 x.gen):=rfl
theorem inoC_b (x:Ino) {j p:Nat} (h:x.bl[j]?=some p):(inoC x)[3+j]?=some (.int .i64 p):=by
 simp [inoC,inoL,Nat.add_comm 3 j,h]
theorem plC_get {bl:List Nat} {j p:Nat} (h:bl[j]?=some p):(plC bl)[j]?=some (.int .i64 p):=by simp [plC,h]
theorem inoC_one (x:Ino):(inoC x).all (·.oneCell')=true:=by
 rw [Array.all_eq_true']
 intro u hu
 simp [inoC,inoL] at hu
 rcases hu with rfl|rfl|rfl|⟨p, -,rfl⟩<;>rfl
theorem aggI {x:Ino} (h:x.bl.length=8):AggT Tryz.prog 52 (inoC x).size:=⟨⟨_,Tryz.underlying52,rfl⟩,by rw [inoC_size h];kernel_rfl⟩
theorem aggPl {bl:List Nat} (h:bl.length=8):AggT Tryz.prog 50 (plC bl).size:=⟨⟨_,Tryz.underlying50,rfl⟩,by rw [show (plC bl).size=8 by simp [plC,h]];kernel_rfl⟩
theorem sizeInt:(Tryz.prog.info? 3).map (·.size)=some 1:=by kernel_rfl
theorem scalarInt:ScalarT Tryz.prog 3:=⟨⟨_,Tryz.underlying3,rfl⟩⟩
theorem built_free (g:Int):Tryz.prog.built 52 [(1, .int .i64 g)]=some #[.int .i64 0, .int .i64 g, .int .u64 0, .int .i64 0, .int .i64 0, .int .i64 0, .int .i64 0, .int .i64 0, .int .i64 0, .int .i64 0, .int .i64 0]:=by kernel_rfl
theorem inoC_free (g:Nat):inoC (Ino.free g)= #[.int .i64 0, .int .i64 g, .int .u64 0, .int .i64 0, .int .i64 0, .int .i64 0, .int .i64 0, .int .i64 0, .int .i64 0, .int .i64 0, .int .i64 0]:=rfl
theorem int_beq0 (b:Nat):(((b:Nat):Int)==0)=(b==0):=by rw [Bool.eq_iff_iff];simp
set_option maxHeartbeats 1000000 in
set_option maxRecDepth 20000 in
theorem eq_free (x:Ino) (h:x.bl.length=8) (w:World):(Op.equalIn 10000 52 (.agg (inoC x)) (.agg (inoC (Ino.free x.gen)))).run Tryz.prog w= .ok (decide (x.kind=0)&&decide (x.ver=0)&&x.bl.all (· ==0)) w:=by
 obtain ⟨k,g,v,bl⟩:=x
 obtain ⟨b0,b1,b2,b3,b4,b5,b6,b7,rfl⟩: ∃b0 b1 b2 b3 b4 b5 b6 b7,bl= [b0,b1,b2,b3,b4,b5,b6,b7]:=by
  match bl,h with
  | [b0,b1,b2,b3,b4,b5,b6,b7],_=>exact ⟨_,_,_,_,_,_,_,_,rfl⟩
 rw [inoC_free]
 have ha:inoC ⟨k,g,v, [b0,b1,b2,b3,b4,b5,b6,b7]⟩= #[.int .i64 k, .int .i64 g, .int .u64 v, .int .i64 b0, .int .i64 b1, .int .i64 b2, .int .i64 b3, .int .i64 b4, .int .i64 b5, .int .i64 b6, .int .i64 b7]:=rfl
 rw [ha,run_equalIn_agg w 9999 52 _ _ (by simp [Program.fieldsOf,Tryz.underlying52]) (by kernel_rfl)]
 obtain ⟨i0,hi0⟩:=info_of_underlying (P:=Tryz.prog) Tryz.underlying3
 have hc:Tryz.prog.cellsOf 3=1:=by kernel_rfl
 have hpl:Tryz.prog.cellsOf 50=8:=by kernel_rfl
 obtain ⟨i1,hi1⟩:=info_of_underlying (P:=Tryz.prog) Tryz.underlying50
 have hsz:=fun w=>run_sizeOf (P:=Tryz.prog) w hi1
 simp [Program.fieldsOf,Tryz.underlying52,Op.eqFields,part,isAgg,run_underlying Tryz.underlying3,run_underlying Tryz.underlying37,run_underlying Tryz.underlying50,run_equalIn_int w 9998 _ _ _ _ _ Tryz.underlying3,run_equalIn_int w 9998 _ _ _ _ _ Tryz.underlying37,hsz,hpl,run_equalIn_array w 9998 _ _ Tryz.underlying50 hi0,hc]
 by_cases hk:k=0
 ·by_cases hv:v=0
  ·rw [if_pos hk,if_pos hv,eqItems_all (r:=fun i=> [b0,b1,b2,b3,b4,b5,b6,b7].getD i 0==0) _ fun i hi=> ?_,show List.range 8= [0,1,2,3,4,5,6,7] from rfl]
   ·simp [hk,hv]
    cases (b0==0&&(b1==0&&(b2==0&&(b3==0&&(b4==0&&(b5==0&&(b6==0&&b7==0)))))))<;>rfl
   ·have hi8:i<8:=List.mem_range.1 hi
    match i,hi8 with
    | 0,_=>exact ⟨.int .i64 b0, .int .i64 0,part_int Tryz.underlying3 rfl,part_int Tryz.underlying3 rfl,(run_equalIn_int w 9997 _ _ _ _ _ Tryz.underlying3).trans (by simp [int_beq0])⟩
    | 1,_=>exact ⟨.int .i64 b1, .int .i64 0,part_int Tryz.underlying3 rfl,part_int Tryz.underlying3 rfl,(run_equalIn_int w 9997 _ _ _ _ _ Tryz.underlying3).trans (by simp [int_beq0])⟩
    | 2,_=>exact ⟨.int .i64 b2, .int .i64 0,part_int Tryz.underlying3 rfl,part_int Tryz.underlying3 rfl,(run_equalIn_int w 9997 _ _ _ _ _ Tryz.underlying3).trans (by simp [int_beq0])⟩
    | 3,_=>exact ⟨.int .i64 b3, .int .i64 0,part_int Tryz.underlying3 rfl,part_int Tryz.underlying3 rfl,(run_equalIn_int w 9997 _ _ _ _ _ Tryz.underlying3).trans (by simp [int_beq0])⟩
    | 4,_=>exact ⟨.int .i64 b4, .int .i64 0,part_int Tryz.underlying3 rfl,part_int Tryz.underlying3 rfl,(run_equalIn_int w 9997 _ _ _ _ _ Tryz.underlying3).trans (by simp [int_beq0])⟩
    | 5,_=>exact ⟨.int .i64 b5, .int .i64 0,part_int Tryz.underlying3 rfl,part_int Tryz.underlying3 rfl,(run_equalIn_int w 9997 _ _ _ _ _ Tryz.underlying3).trans (by simp [int_beq0])⟩
    | 6,_=>exact ⟨.int .i64 b6, .int .i64 0,part_int Tryz.underlying3 rfl,part_int Tryz.underlying3 rfl,(run_equalIn_int w 9997 _ _ _ _ _ Tryz.underlying3).trans (by simp [int_beq0])⟩
    | 7,_=>exact ⟨.int .i64 b7, .int .i64 0,part_int Tryz.underlying3 rfl,part_int Tryz.underlying3 rfl,(run_equalIn_int w 9997 _ _ _ _ _ Tryz.underlying3).trans (by simp [int_beq0])⟩
  ·simp [hk,hv]
 ·simp [hk]
theorem uns_any (w:World) (n:Nat) (h:n<9223372036854775808):Calls Tryz.prog 126 #[.int .i64 n] w fun e w'=>e= .returned (.int .u64 (n:Nat))∧w'=w:=by
 go_enter Tryz.func126,Tryz.ntmps126
 go_wp2
 go_ret
 exact ⟨rfl,rfl⟩
set_option maxRecDepth 20000 in
theorem right_any (w:World) (x:Ino) (h:x.bl.length=8):Calls Tryz.prog 123 #[.agg (inoC x)] w fun e w'=>e= .returned (.bool x.right)∧Below w.heap.size w w':=by
 have hL:Lies (w.alloc (.cells (inoC x) 52)) w.heap.size 0 (inoC x):=lies_of heap_alloc_at
 have q0:(w.alloc (.cells (inoC x) 52)).cell? ⟨w.heap.size,0,none⟩=some (.int .i64 x.kind):=cell_of heap_alloc_at (inoC_0 x)
 have q1:(w.alloc (.cells (inoC x) 52)).cell? ⟨w.heap.size,1,none⟩=some (.int .i64 x.gen):=cell_of heap_alloc_at (inoC_1 x)
 have hb:Below w.heap.size w (w.alloc (.cells (inoC x) 52)):=(Below.refl _ _).alloc (Nat.le_refl _) _
 have hag:=aggI h
 have heq:=eq_free x h
 have hbf:=built_free x.gen
 rw [←inoC_free] at hbf
 have hgt:Tryz.prog.eqGuardType Tryz.prog.depth 52=false:=by kernel_rfl
 have HR:Hid (x.right=if x.kind=1∨x.kind=2 then true else if x.kind=0 then decide (x.ver=0)&&x.bl.all (· ==0) else false):=Lib.hid rfl
 obtain ⟨R,hR⟩: ∃R,x.right=R:=⟨_,rfl⟩
 rw [hR] at HR ⊢
 clear hR
 obtain ⟨k,g,v,bl⟩:=x
 simp only at*
 by_cases h1:k=1
 ·have HR2:R=true:=by rw [HR.out,if_pos (.inl h1)]
  subst HR2
  subst h1
  go_enter Tryz.func123,Tryz.ntmps123
  go_wp2
  go_ret
  exact ⟨rfl,hb⟩
 by_cases h2:k=2
 ·have HR2:R=true:=by rw [HR.out,if_pos (.inr h2)]
  subst HR2
  subst h2
  go_enter Tryz.func123,Tryz.ntmps123
  go_wp2
  go_ret
  exact ⟨rfl,hb⟩
 have d1:((k:Int)==1)=false:=beq_eq_false_iff_ne.2 (by omega)
 have d2:((k:Int)==2)=false:=beq_eq_false_iff_ne.2 (by omega)
 by_cases h0:k=0
 ·have HR2:R=(decide (v=0)&&bl.all (· ==0)):=by rw [HR.out,if_neg (by omega),if_pos h0]
  subst h0
  rw [decide_eq_true (rfl:(0:Nat)=0),Bool.true_and, ←HR2] at heq
  clear HR2
  go_enter Tryz.func123,Tryz.ntmps123
  go_wp2_with (first
   | ((with_reducible refine wpList_loadA hag hL ?_ ?_);rfl;go_frame)
   | ((with_reducible refine wpList_exec rfl (exec_buildA (vals:= [(1, .int .i64 (g:Nat))]) ?_ hbf) ?_);rfl;go_frame)
   | ((with_reducible refine wpList_exec rfl (exec_eqlS hgt heq ?_ ?_ _) ?_);rfl;rfl;go_frame)
   | fail)
  go_ret
  exact ⟨rfl,hb⟩
 ·have HR2:R=false:=by rw [HR.out,if_neg (by omega),if_neg h0]
  subst HR2
  have d0:((k:Int)==0)=false:=beq_eq_false_iff_ne.2 (by omega)
  go_enter Tryz.func123,Tryz.ntmps123
  go_wp2
  go_ret
  exact ⟨rfl,hb⟩
theorem zero8:(Tryz.prog.info? 5).map (fun i=>i.zero.map (·.cells))=some (some #[.int .u8 0]):=by kernel_rfl
theorem en8_0:en8 0= [.int .u8 0]:=rfl
theorem Lies.places {w:World} {b:Nat} {x:Ino} (h:Lies w b 0 (inoC x)):Lies w b 3 (plC x.bl):=fun j hj=>by
 have hj':j<x.bl.length:=by simpa [plC] using hj
 have h2:=h (3+j) (by simp [inoC,inoL];omega)
 rw [Nat.zero_add] at h2
 rw [h2]
 have e1:=inoC_b x (List.getElem?_eq_getElem hj')
 have e2:=plC_get (List.getElem?_eq_getElem hj')
 rw [Array.getElem?_eq_getElem (by simp [inoC,inoL];omega)] at e1
 rw [Array.getElem?_eq_getElem hj] at e2
 rw [Option.some.inj e1,Option.some.inj e2]
set_option maxRecDepth 20000 in
theorem ienc_no (w:World) (x:Ino) (h:x.bl.length=8) (hr:x.right=false):Calls Tryz.prog 64 #[.agg (inoC x)] w fun e w'=>e= .returned (.tuple #[.slice none 0 0, .int .i64 2])∧Below w.heap.size w w':=by
 have hL:Lies (w.alloc (.cells (inoC x) 52)) w.heap.size 0 (inoC x):=lies_of heap_alloc_at
 have hb:Below w.heap.size w (w.alloc (.cells (inoC x) 52)):=(Below.refl _ _).alloc (Nat.le_refl _) _
 have hag:=aggI h
 have hri:=right_any (w.alloc (.cells (inoC x) 52)) x h
 rw [hr] at hri
 go_enter Tryz.func64,Tryz.ntmps64
 go_wp2_with (first
  | ((with_reducible refine wpList_loadA hag hL ?_ ?_);rfl;go_frame)
  | (go_at_call 123;refine hri.mono ?_;rintro e w2 ⟨rfl,hb2⟩;have HB:=Lib.hid (hb.trans (hb2.mono hb.size));clear hb2)
  | fail)
 go_ret2
 exact ⟨rfl,HB.out⟩
set_option maxRecDepth 20000 in
set_option maxHeartbeats 4000000 in
theorem ienc_ok (w:World) (x:Ino) (hf:x.fits) (hr:x.right=true):Calls Tryz.prog 64 #[.agg (inoC x)] w fun e w'=> ∃v,e= .returned (.tuple #[v, .int .i64 0])∧LOut en8 1 5 w.heap.size w' v x.sec∧Below w.heap.size w w':=by
 have h:=hf.len
 have hL:Lies (w.alloc (.cells (inoC x) 52)) w.heap.size 0 (inoC x):=lies_of heap_alloc_at
 have hb:Below w.heap.size w (w.alloc (.cells (inoC x) 52)):=(Below.refl _ _).alloc (Nat.le_refl _) _
 have hag:=aggI h
 have hap:=aggPl h
 have hri:=right_any (w.alloc (.cells (inoC x) 52)) x h
 rw [hr] at hri
 have hz1:(w.alloc (.cells (inoC x) 52)).heap.size=w.heap.size+1:=by simp
 have HL:=Lib.hid hL
 have HB:=Lib.hid hb
 have HF:=Lib.hid hf
 have HZ:=Lib.hid hz1
 have hL0:=hL
 clear hb hf hz1
 go_enter Tryz.func64,Tryz.ntmps64
 go_wp2_with (first
  | ((with_reducible refine wpList_loadA hag hL0 ?_ ?_);rfl;go_frame)
  | (go_at_call 123;refine hri.mono ?_;rintro e w2 ⟨rfl,hb2⟩;have HB2:=Lib.hid hb2;clear hb2)
  | fail)
 have hL2:=HL.out.below' HB2.out (by rw [HZ.out];exact Nat.lt_succ_self _)
 have hs2:w.heap.size<w2.heap.size:=by have:=HB2.out.size;have:=HZ.out;omega
 have hb2:=HB.out.trans (HB2.out.mono HB.out.size)
 have q0:w2.cell? ⟨w.heap.size,0,none⟩=some (.int .i64 (x.kind:Nat)):=hL2 0 (by simp [inoC,inoL])
 have q1:w2.cell? ⟨w.heap.size,1,none⟩=some (.int .i64 (x.gen:Nat)):=hL2 1 (by simp [inoC,inoL])
 have q2:w2.cell? ⟨w.heap.size,2,none⟩=some (.int .u64 (x.ver:Nat)):=hL2 2 (by simp [inoC,inoL])
 have hS:=And.intro q0 (And.intro q1 q2)
 have HL2:=Lib.hid hL2
 have HB2':=Lib.hid hb2
 clear q0 q1 q2 hL hL0 hri hL2 hb2 HB HB2
 go_upto_region 3 with fail
 refine wp_region_x (fun w'=>w'.cell? ⟨w.heap.size,0,none⟩=some (.int .i64 (x.kind:Nat))∧w'.cell? ⟨w.heap.size,1,none⟩=some (.int .i64 (x.gen:Nat))∧w'.cell? ⟨w.heap.size,2,none⟩=some (.int .u64 (x.ver:Nat))) [(1,1),(2,0),(5,1),(6,0),(9,1),(10,0),(0,2),(3,2),(4,2),(7,2),(8,2),(11,2),(12,1)] (by kernel_rfl) (by kernel_rfl) (by intro d v c a w h;cases d<;>exact h) ?_
 iterate 1 (refine x_take rfl (fun K hK=> ?_);go_simp;refine hK _ ?_;clear hK K)
 refine x_read rfl hS (fun w' h=>exec_load1 ⟨⟨_,Tryz.underlying3,rfl⟩⟩ rfl h.1) ?_
 iterate 1 (refine x_take rfl (fun K hK=> ?_);go_simp;refine hK _ ?_;clear hK K)
 refine x_read rfl hS (fun w' h=>exec_load1 ⟨⟨_,Tryz.underlying3,rfl⟩⟩ rfl h.2.1) ?_
 iterate 1 (refine x_take rfl (fun K hK=> ?_);go_simp;refine hK _ ?_;clear hK K)
 refine x_read rfl hS (fun w' h=>exec_load1 ⟨⟨_,Tryz.underlying37,rfl⟩⟩ rfl h.2.2) ?_
 refine x_show' rfl (fun K hK=> ?_)
 go_simp
 refine (bNew_any _).mono ?_
 rintro e w3 ⟨rfl,hW3,hb3⟩
 generalize ha:w2.drew.heap.size=a at*
 have ha2:w2.heap.size=a:=ha
 have hlt:w.heap.size<a:=by omega
 have cel: ∀{wa wb:World} {o:Nat} {v:Value},Below a wa wb→wa.cell? ⟨w.heap.size,o,none⟩=some v→wb.cell? ⟨w.heap.size,o,none⟩=some v:=fun hb hc=>(hb.cell (p:=⟨w.heap.size,_,none⟩) hlt).trans hc
 have hS3:=And.intro (cel hb3 hS.1) (And.intro (cel hb3 hS.2.1) (cel hb3 hS.2.2))
 refine hK _ _ hS3 ?_
 clear hK K hS
 refine x_show' rfl (fun K hK=> ?_)
 go_simp
 refine (uns_any _ x.kind (by have:=HF.out.kind;omega)).mono ?_
 rintro e wt ⟨rfl,hw⟩
 obtain rfl:=hw.symm
 refine hK _ _ hS3 ?_
 clear hK K hw
 refine x_show' rfl (fun K hK=> ?_)
 go_simp
 refine (put_bits w3 a (.slice none 0 0) _ hW3 x.kind 2 (by simp [bitsN_len]) (by decide) HF.out.kind).mono ?_
 rintro e w4 ⟨rfl,v4,hW4,hb4, -⟩
 have hS4:=And.intro (cel hb4 hS3.1) (And.intro (cel hb4 hS3.2.1) (cel hb4 hS3.2.2))
 refine hK _ _ hS4 ?_
 clear hK K
 refine x_show' rfl (fun K hK=> ?_)
 go_simp
 refine (uns_any _ x.gen (by have:=HF.out.gen;omega)).mono ?_
 rintro e wt ⟨rfl,hw⟩
 obtain rfl:=hw.symm
 refine hK _ _ hS4 ?_
 clear hK K hw
 refine x_show' rfl (fun K hK=> ?_)
 go_simp
 refine (put_bits w4 a v4 _ hW4 x.gen 31 (by simp [bitsN_len]) (by decide) HF.out.gen).mono ?_
 rintro e w5 ⟨rfl,v5,hW5,hb5, -⟩
 have hS5:=And.intro (cel hb5 hS4.1) (And.intro (cel hb5 hS4.2.1) (cel hb5 hS4.2.2))
 refine hK _ _ hS5 ?_
 clear hK K
 refine x_show' rfl (fun K hK=> ?_)
 go_simp
 refine (put_bits w5 a v5 _ hW5 x.ver 40 (by simp [bitsN_len]) (by decide) HF.out.ver).mono ?_
 rintro e w6 ⟨rfl,v6,hW6,hb6, -⟩
 have hS6:=And.intro (cel hb6 hS5.1) (And.intro (cel hb6 hS5.2.1) (cel hb6 hS5.2.2))
 refine hK _ _ hS6 ?_
 clear hK K
 iterate 1 (refine x_take rfl (fun K hK=> ?_);go_simp;refine hK _ ?_;clear hK K)
 refine x_nil ?_
 have hb6':Below w2.heap.size w2 w6:=(((Below.refl _ _).drew).trans (hb3.mono (Nat.le_of_eq ha2))).trans ((hb4.mono (Nat.le_of_eq ha2)).trans ((hb5.mono (Nat.le_of_eq ha2)).trans (hb6.mono (Nat.le_of_eq ha2))))
 have hLP:=Lies.places (HL2.out.below' hb6' hs2)
 have HW6:=Lib.hid hW6
 have HB6:=Lib.hid (HB2'.out.trans (hb6'.mono (Nat.le_of_lt hs2)))
 clear hS3 hS4 hS5 hS6 hW3 hW4 hW5 hW6 hb3 hb4 hb5 hb6 hb6' HB2' HL2
 go_wp2_with (first
  | ((with_reducible refine wpList_loadA hap hLP ?_ ?_);rfl;go_frame)
  | fail)
 have HA:=Lib.hid (show w.heap.size≤a by omega)
 go_loopw [26] (fun iv wi=> ∃k:Nat,k≤8∧iv= .int .i64 k∧Below w.heap.size w wi∧ ∃u,WrAt wi a u ([]++bitsN x.kind 2++bitsN x.gen 31++bitsN x.ver 40++(x.bl.take k).flatMap (bitsN · 12))) (fun iv _=>8-(intOf iv).toNat)
 case atStart=>exact ⟨0,by omega,rfl,HB6.out,v6,by simpa using HW6.out⟩
 case round=>
  obtain ⟨k,hk,rfl,hbi,u,hW⟩:=hrel
  by_cases hk8:k<8
  ·have hk8':(k:Int)<8:=by omega
   obtain ⟨p,hp⟩: ∃p,x.bl[k]?=some p:=⟨_,List.getElem?_eq_getElem (by rw [h];exact hk8)⟩
   have hpg:=plC_get hp
   have hp12:=HF.out.bl p (List.mem_of_getElem? hp)
   have hp63:(p:Int)<4096:=by omega
   have hun:=uns_any wr p (by omega)
   have hput:=put_bits wr a u _ hW p 12 (by simp only [List.length_append,bitsN_len,bflat_len,List.length_nil,List.length_take];omega) (by decide) hp12
   have hnx: []++bitsN x.kind 2++bitsN x.gen 31++bitsN x.ver 40++(x.bl.take (k+1)).flatMap (bitsN · 12)= []++bitsN x.kind 2++bitsN x.gen 31++bitsN x.ver 40++(x.bl.take k).flatMap (bitsN · 12)++bitsN p 12:=by
    rw [List.take_add_one,hp];simp
   rw [←hnx] at hput
   have HBI:=Lib.hid hbi
   clear hbi hnx hW hp
   go_wp2_with (first
    | ((with_reducible refine wpList_exec rfl (exec_index1 Tryz.underlying50 scalarInt sizeInt (k:= .i64) (i:=k) ?_ ?_ hk8 hpg) ?_);rfl;rfl;go_frame)
    | (go_at_call 126;refine hun.mono ?_;rintro e wt ⟨rfl,hw⟩;obtain rfl:=hw.symm;clear hw)
    | (go_at_call 125;refine hput.mono ?_;rintro e w7 ⟨rfl,v7,hW7,hb7, -⟩;have HW7:=Lib.hid hW7;have HB7:=Lib.hid (HBI.out.trans (hb7.mono HA.out));clear hW7 hb7)
    | fail)
   go_roundw
   case rel=>exact ⟨k+1,by omega,by go_num,HB7.out,v7,HW7.out⟩
   case measure=>simp [intOf];omega
  ·obtain rfl:k=8:=by omega
   have hall: []++bitsN x.kind 2++bitsN x.gen 31++bitsN x.ver 40++(x.bl.take 8).flatMap (bitsN · 12)=x.bits:=by
    rw [List.take_of_length_le (by omega)]
    rfl
   rw [hall] at hW
   have hbl:=Ino.bits_len h
   have hdn:=done_any wr a u x.bits hW (by omega)
   have HBI:=Lib.hid hbi
   have hal:w.heap.size≤wr.heap.size:=hbi.size
   clear hbi hW hall
   go_wp2_with fail
   refine hdn.mono ?_
   rintro e w8 ⟨v8,rfl,hO8,hb8⟩
   obtain ⟨a8,n8,c8,rfl⟩:=hO8.shape
   have hpl:(pack x.bits).length=22:=by rw [pack_len,hbl]
   obtain ⟨_,_,hv8,_⟩:=hO8.sl el8.len
   have hn8:n8=22:=by
    simp at hv8
    omega
   subst hn8
   have hO8':=hO8.mono hal
   have hpl1:(pack x.bits).length+106≤100000:=by rw [hpl];decide
   have HB8:=Lib.hid (HBI.out.trans (hb8.mono HBI.out.size))
   clear hO8 hv8 hb8 hdn
   go_wp2_with (first
    | ((with_reducible refine wpList_appendZ el8 Tryz.underlying3 0 en8_0 zero8 hO8' 106 hpl1 ?_ ?_ ?_);rfl;rfl;(intro v9 w9 hO9 hb9;have HO9:=Lib.hid hO9;have HB9:=Lib.hid (HB8.out.trans hb9);clear hO9 hb9);go_frame)
    | fail)
   go_ret2
   refine ⟨_,rfl,?_,HB9.out⟩
   have:=HO9.out
   unfold Ino.sec sector
   rw [hpl]
   exact this
end Go.Proofs.YtjdbbnhnbdocbaaGreat
